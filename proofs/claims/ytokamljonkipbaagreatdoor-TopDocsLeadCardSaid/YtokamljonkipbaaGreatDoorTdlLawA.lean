/-
  TopDocsLead: a diagram comes back from its text, from its things, from what makes them, and from a session, for every diagram, every diagram before it and all rules.
-/
import Derived.Test.YtokamljonkipbaaGreatDoorTdlWa2
import Derived.Test.YtokamljonkipbaaGreatDoorLawDoor
import Derived.Test.YtokamljonkipbaaGreatDoorTdlG2
import Derived.Test.YtokamljonkipbaaGreatDoorCards
import Derived.Test.YtokamljonkipbaaGreatDoorTie
namespace Go.Proofs.YtokamljonkipbaaGreatDoor
open Go Go.DB Go.RowKit Go.ChangeShapes Go.WideShapes Go.ChangeAt
set_option maxRecDepth 100000
set_option linter.unusedSimpArgs false
set_option linter.unusedVariables false
theorem Tryz.own : ownKnob Tryz.prog.godebug = none := by kernel_rfl
theorem Tryz.laidOut : laidOutB Tryz.prog = true := by kernel_rfl
theorem zvH {P : Program} {W : World} {name : String} {k : IntKind} {zs : List Int} {g : Nat} {t e : TypeId} {n : Nat} (hg : P.globalNamed name = some g) (hty : (P.globals[g]?).map (·.type) = some t) (ht : P.underlying t = some (.array n e)) (he : P.underlying e = some (.int k))
  (hce : P.cellsOf e = 1) (hct : P.cellsOf t = n) (h : Go.Lib.VarReads P W name (Go.Lib.tabData k zs)) : Go.Lib.TabIs P W name k zs := by
 obtain ⟨g', t', cs, fuel, p, hg', ht', hvar, hd⟩ := h
 obtain rfl := Option.some.inj (hg.symm.trans hg')
 obtain rfl := Option.some.inj (hty.symm.trans ht')
 unfold Go.Lib.TabIs
 rw [hvar, ← Go.Lib.cells_of_tab ht he hce hct hd]
theorem zkz {P : Program} {W : World} {n nm : String} {d : DataW Unit} {g : Nat} {ti : TypeId} {ms : Array (String × TypeId)} (h : Go.Lib.VarReads P W n (.iface nm d)) (hg : P.globalNamed n = some g) (hty : (P.globals[g]?).map (·.type) = some ti) (hi : P.underlying ti = some (.interface ms)) :
  ∃ tp pe, W.cell? ⟨g, 0, none⟩ = some (.iface tp pe) := by
 obtain ⟨g', t', cs, fuel, p, hg', ht', hvar, hd⟩ := h
 obtain rfl := Option.some.inj (hg.symm.trans hg')
 obtain rfl := Option.some.inj (hty.symm.trans ht')
 have hc := World.var?_cell hg hvar 0
 obtain ⟨l⟩ := cs
 rw [hc]
 cases fuel with
 | zero => cases hd
 | succ m =>
  rw [DataW.trod_step] at hd
  unfold DataW.trodStep at hd
  rw [hi] at hd
  simp only at hd
  split at hd <;> simp_all
theorem rd9 : ql Tryz.prog 9 Str := ztt Tryz.underlying9
theorem ar9 : qW Tryz.prog 9 Str := zoF Tryz.underlying9
theorem rd3 : ql Tryz.prog 3 Int := zts Tryz.underlying3
theorem ar3 : qW Tryz.prog 3 Int := zoE Tryz.underlying3
theorem zl5 : ql Tryz.prog 45 Box := J0 Tryz.underlying45 (.cons rfl (by kernel_rfl) rd3 (.cons rfl (by kernel_rfl) rd3 (.cons rfl (by kernel_rfl) rd3 (.one rfl (by kernel_rfl) rd3)))) (by kernel_rfl) (fun b => ⟨⟨b.1, b.2.1, b.2.2.1, b.2.2.2⟩, rfl⟩)
theorem zwr : qW Tryz.prog 45 Box := Js Tryz.underlying45 zl5 rfl
theorem rd4 : ql Tryz.prog 4 Bool := ztr Tryz.underlying4
theorem ar4 : qW Tryz.prog 4 Bool := zoD Tryz.underlying4
theorem zl6 : ql Tryz.prog 47 zl := J0 Tryz.underlying47 (.cons rfl (by kernel_rfl) rd9 (.cons rfl (by kernel_rfl) rd3 (.cons rfl (by kernel_rfl) zl5 (.cons rfl (by kernel_rfl) rd9 (.cons rfl (by kernel_rfl) rd9 (.cons rfl (by kernel_rfl) rd9 (.one rfl (by kernel_rfl) rd4))))))) (by kernel_rfl) (fun b => ⟨⟨b.1, b.2.1, b.2.2.1, b.2.2.2.1, b.2.2.2.2.1, b.2.2.2.2.2.1, b.2.2.2.2.2.2⟩, rfl⟩)
theorem zws : qW Tryz.prog 47 zl := Js Tryz.underlying47 zl6 rfl
theorem zl2 : ql Tryz.prog 22 (List zl) := zeO Tryz.underlying22 zl6 (by kernel_rfl)
theorem zwo : qW Tryz.prog 22 (List zl) := zde Tryz.underlying22 zl2
theorem zg6 : ql Tryz.prog 70 yg := J0 Tryz.underlying70 (.cons rfl (by kernel_rfl) rd9 (.cons rfl (by kernel_rfl) rd3 (.one rfl (by kernel_rfl) rd3))) (by kernel_rfl) (fun b => ⟨⟨b.1, b.2.1, b.2.2⟩, rfl⟩)
theorem zwt : qW Tryz.prog 70 yg := Js Tryz.underlying70 zg6 rfl
theorem zl1 : ql Tryz.prog 166 zJ := J0 Tryz.underlying166 (.cons rfl (by kernel_rfl) rd3 (.one rfl (by kernel_rfl) rd3)) (by kernel_rfl) (fun b => ⟨⟨b.1, b.2⟩, rfl⟩)
theorem zwn : qW Tryz.prog 166 zJ := Js Tryz.underlying166 zl1 rfl
theorem zl7 : ql Tryz.prog 71 (List zJ) := zeO Tryz.underlying71 zl1 (by kernel_rfl)
theorem zwu : qW Tryz.prog 71 (List zJ) := zde Tryz.underlying71 zl7
theorem zl8 : ql Tryz.prog 73 zA := J0 Tryz.underlying73 (.cons rfl (by kernel_rfl) rd9 (.cons rfl (by kernel_rfl) zg6 (.cons rfl (by kernel_rfl) zg6 (.cons rfl (by kernel_rfl) zl7 (.cons rfl (by kernel_rfl) rd9 (.one rfl (by kernel_rfl) rd9)))))) (by kernel_rfl) (fun b => ⟨⟨b.1, b.2.1, b.2.2.1, b.2.2.2.1, b.2.2.2.2.1, b.2.2.2.2.2⟩, rfl⟩)
theorem zwv : qW Tryz.prog 73 zA := Js Tryz.underlying73 zl8 rfl
theorem zl3 : ql Tryz.prog 23 (List zA) := zeO Tryz.underlying23 zl8 (by kernel_rfl)
theorem zwp : qW Tryz.prog 23 (List zA) := zde Tryz.underlying23 zl3
theorem ztp : ql Tryz.prog 25 Doc := J0 Tryz.underlying25 (.cons rfl (by kernel_rfl) zl2 (.one rfl (by kernel_rfl) zl3)) (by kernel_rfl) (fun b => ⟨⟨b.1, b.2⟩, rfl⟩)
theorem ziB : qW Tryz.prog 25 Doc := Js Tryz.underlying25 ztp rfl
theorem zl4 : ql Tryz.prog 37 zz := J0 Tryz.underlying37 (.cons rfl (by kernel_rfl) rd9 (.cons rfl (by kernel_rfl) rd9 (.one rfl (by kernel_rfl) rd9))) (by kernel_rfl) (fun b => ⟨⟨b.1, b.2.1, b.2.2⟩, rfl⟩)
theorem zwq : qW Tryz.prog 37 zz := Js Tryz.underlying37 zl4 rfl
theorem ztq : ql Tryz.prog 26 (List zz) := zeO Tryz.underlying26 zl4 (by kernel_rfl)
theorem zoC : qW Tryz.prog 26 (List zz) := zde Tryz.underlying26 ztq
theorem zor (H : Type) (enc : TypeId × Value → H) (W : World) (base : Nat) (args : Array Value) (ds : List (DataW H)) (ps : List MemPlace) (hlow : Low NoM W)
  (hval : ∀ (j : Nat) t v, Tryz.f3.params[j]? = some t → args[j]? = some v → Value.okWide Tryz.prog W .any base t v)
  (hA : DataW.TrodAll enc Tryz.prog W 0 (fun _ => true) true Tryz.f3.params.toList args.toList ds ps) : Jn Tryz.prog 3 args.toList NoM W (rep true) := by
 rw [Tryz.params3] at hA hval
 obtain ⟨v0, vs0, d0, ds0, p0, q0, ha0, rfl, rfl, h0, r0⟩ := trodAll_cons hA
 obtain ⟨v1, vs1, d1, ds1, p1, q1, rfl, rfl, rfl, h1, r1⟩ := trodAll_cons r0
 obtain ⟨v2, vs2, d2, ds2, p2, q2, rfl, rfl, rfl, h2, r2⟩ := trodAll_cons r1
 obtain ⟨rfl, rfl, rfl⟩ := trodAll_nil r2
 obtain ⟨x0, k0⟩ := ziB H enc W base v0 d0 p0 (hval 0 25 v0 rfl (by rw [← Array.getElem?_toList, ha0]; rfl)) h0
 obtain ⟨x1, k1⟩ := ziB H enc W base v1 d1 p1 (hval 1 25 v1 rfl (by rw [← Array.getElem?_toList, ha0]; rfl)) h1
 obtain ⟨x2, k2⟩ := zoC H enc W base v2 d2 p2 (hval 2 26 v2 rfl (by rw [← Array.getElem?_toList, ha0]; rfl)) h2
 rw [ha0]
 exact (zvR (zot x0 x1 x2 (zmk k0) (zmk k1))).calls NoM W _ hlow ⟨k0, k1, k2, trivial⟩
theorem zos (os : Os) (started : os.Started) (H : Type) (enc : TypeId × Value → H) :
  ReturnsInHanded {} Tryz.checked os 3 .any (fun w args => (Rows.topDocsLeadSpec.pre enc Tryz.prog Tryz.f3 Rows.topDocsLeadRow.domain false w args ∧ laidMetH Tryz.prog Rows.topDocsLeadRow.laid w) ∧ sizedMet enc Tryz.prog Tryz.f3 (OpenSpec.ofChange Rows.topDocsLeadSpec) false w args) (Rows.topDocsLeadSpec.post enc Tryz.prog Tryz.f3 false true false false) := by
 refine ztB (C := Tryz.checked) (X := fun w _ => laidMetH Tryz.prog Rows.topDocsLeadRow.laid w) (fun _ _ _ hh h => h.of_heap hh) Tryz.own started (by kernel_rfl) Tryz.func3
  (ChangeSpec.witness_shaped (enc := enc) (C := Tryz.checked) (os := os) (X := fun w _ => laidMetH Tryz.prog Rows.topDocsLeadRow.laid w) false (World.laidAll Tryz.prog os Rows.topDocsLeadRow.laid) #[.agg #[.slice none 0 0, .slice none 0 0], .agg #[.slice none 0 0, .slice none 0 0], .slice none 0 0] 8 (World.laidAll_os _ _ _)
   (World.shaped_of_ZipB (by kernel_rfl) (by kernel_rfl)) (by kernel_rfl) (by kernel_rfl) (by kernel_rfl)
   (by rw [MakeChecks.laidMetH_plain _ _ _ (by kernel_rfl)]; exact laidMet_laidAll _ (by kernel_rfl) (by kernel_rfl))) ?_
 intro W base args ds gs before hval hW hL hsh
 have hl : laidMet Tryz.prog Rows.topDocsLeadRow.laid W := zr6 hL (by kernel_rfl)
 have e1 : (Rows.laid_unicode_utf8_first : DataW Unit) = Go.Lib.firstData := by kernel_rfl
 have e2 : (Rows.laid_unicode_utf8_acceptRanges : DataW Unit) = Go.Lib.acceptData := by kernel_rfl
 have ht : Go.Lib.Utf8Tabs zaG JH W := Proofs.utf8Tabs_of_readsT (Proofs.U8Types.of196 znB) ⟨by kernel_rfl, by kernel_rfl, by kernel_rfl, by kernel_rfl, by kernel_rfl, by kernel_rfl, by kernel_rfl⟩ (e1 ▸ Go.Lib.laidMet.reads hl (.tail _ (.tail _ (.tail _ (.tail _ (.tail _ (.tail _ (.head _)))))))) (e2 ▸ Go.Lib.laidMet.reads hl (.tail _ (.tail _ (.tail _ (.head _)))))
 have hx : ∃ m, W.cell? ⟨JI, 0, none⟩ = some (.int .i64 m) := Proofs.cell_of_shapedOpen_int (t := 3) (zero := #[.int .i64 0]) hsh (of_decide_eq_true (by kernel_rfl)) (by kernel_rfl) rfl (by kernel_rfl) (by kernel_rfl) Tryz.underlying3
 have e5 : (Rows.laid_internal_strconv_uint64pow10 : DataW Unit) = Go.Lib.tabData .u64 Go.Lib.pow10Tab := by kernel_rfl
 have hpw : ∃ P, P.globalNamed "internal/strconv.uint64pow10" = some vi ∧ Go.Lib.TabIs P W "internal/strconv.uint64pow10" .u64 Go.Lib.pow10Tab := ⟨Tryz.prog, by kernel_rfl, zvH (g := vi) (by kernel_rfl) (by kernel_rfl) Tryz.underlying356 Tryz.underlying234 (by kernel_rfl) (by kernel_rfl) (e5 ▸ Go.Lib.laidMet.reads hl (.tail _ (.tail _ (.head _))))⟩
 have her : (∃ tp pe, W.cell? ⟨zaI, 0, none⟩ = some (.iface tp pe)) ∧ ∃ tp pe, W.cell? ⟨zaH, 0, none⟩ = some (.iface tp pe) := ⟨zkz (Go.Lib.laidMet.reads hl (.tail _ (.tail _ (.tail _ (.tail _ (.tail _ (.head _))))))) (by kernel_rfl) (by kernel_rfl) Tryz.underlying64, zkz (Go.Lib.laidMet.reads hl (.tail _ (.tail _ (.tail _ (.tail _ (.head _)))))) (by kernel_rfl) (by kernel_rfl) Tryz.underlying64⟩
 have hr : Tryz.f3.params.toList.all (fun t => Tryz.prog.readableRec t && decide (t < Tryz.prog.types.size)) = true := by kernel_rfl
 refine zr7 (P := Tryz.prog) (B := 4) (s := Rows.topDocsLeadSpec) rfl (by kernel_rfl) Tryz.underlying4 Tryz.laidOut (fun t ht => by have := List.all_eq_true.1 hr t ht; simpa using this) ?_ zor H enc W base args ds gs before (Low.start (fun k h => h) ht hx hpw her) hval hW
 intro H ds hd
 rw [Tryz.params3] at hd
 match ds, hd with
 | [e0, e1, e2], _ => rfl
end Go.Proofs.YtokamljonkipbaaGreatDoor
