/-
  DocsAreThings: what the program makes of a diagram as things, and of things as a diagram, is what the document says, for every diagram and all things.
-/
import Derived.Test.YtenpeohfmbilaaaGreatDoorDatWa3
import Derived.Test.YtenpeohfmbilaaaGreatDoorLawDoor
import Derived.Test.YtenpeohfmbilaaaGreatDoorDatG2
import Derived.Test.YtenpeohfmbilaaaGreatDoorCards
import Derived.Test.YtenpeohfmbilaaaGreatDoorTie
import Derived.Lib.LaidU8
namespace Go.Proofs.YtenpeohfmbilaaaGreatDoor
open Go Go.DB Go.RowKit Go.ChangeShapes Go.WideShapes Go.ChangeAt
set_option maxRecDepth 100000
set_option linter.unusedSimpArgs false
set_option linter.unusedVariables false
theorem Tryz.own : ownKnob Tryz.prog.godebug = none := by kernel_rfl
theorem Tryz.laidOut : laidOutB Tryz.prog = true := by kernel_rfl
theorem zm3 {P : Program} {W : World} {name : String} {k : IntKind} {zs : List Int} {g : Nat} {t e : TypeId} {n : Nat} (hg : P.globalNamed name = some g) (hty : (P.globals[g]?).map (·.type) = some t) (ht : P.underlying t = some (.array n e)) (he : P.underlying e = some (.int k))
  (hce : P.cellsOf e = 1) (hct : P.cellsOf t = n) (h : Go.Lib.VarReads P W name (Go.Lib.tabData k zs)) : Go.Lib.TabIs P W name k zs := by
 obtain ⟨g', t', cs, fuel, p, hg', ht', hvar, hd⟩ := h
 obtain rfl := Option.some.inj (hg.symm.trans hg')
 obtain rfl := Option.some.inj (hty.symm.trans ht')
 unfold Go.Lib.TabIs
 rw [hvar, ← Go.Lib.cells_of_tab ht he hce hct hd]
theorem zkl {P : Program} {W : World} {n nm : String} {d : DataW Unit} {g : Nat} {ti : TypeId} {ms : Array (String × TypeId)} (h : Go.Lib.VarReads P W n (.iface nm d)) (hg : P.globalNamed n = some g) (hty : (P.globals[g]?).map (·.type) = some ti) (hi : P.underlying ti = some (.interface ms)) :
  ∃ tp pe, W.cell? ⟨g, 0, none⟩ = some (.iface tp pe) := by
 obtain ⟨g', t', cs, fuel, p, hg', ht', hvar, hd⟩ := h
 obtain rfl := Option.some.inj (hg.symm.trans hg')
 obtain rfl := Option.some.inj (hty.symm.trans ht')
 have hc := World.var?_cell hg hvar 0
 obtain ⟨l⟩ := cs
 rw [hc]
 cases fuel with
 | zero => cases hd
 | succ m =>
  rw [DataW.trod_step] at hd
  unfold DataW.trodStep at hd
  rw [hi] at hd
  simp only at hd
  split at hd <;> simp_all
theorem rd9 : qB Tryz.prog 9 Str := zsp Tryz.underlying9
theorem ar9 : jb Tryz.prog 9 Str := zoi Tryz.underlying9
theorem rd3 : qB Tryz.prog 3 Int := zso Tryz.underlying3
theorem ar3 : jb Tryz.prog 3 Int := zoh Tryz.underlying3
theorem zlH : qB Tryz.prog 43 Box := Y8 Tryz.underlying43 (.cons rfl (by kernel_rfl) rd3 (.cons rfl (by kernel_rfl) rd3 (.cons rfl (by kernel_rfl) rd3 (.one rfl (by kernel_rfl) rd3)))) (by kernel_rfl) (fun b => ⟨⟨b.1, b.2.1, b.2.2.1, b.2.2.2⟩, rfl⟩)
theorem zu2 : jb Tryz.prog 43 Box := YG Tryz.underlying43 zlH rfl
theorem rd4 : qB Tryz.prog 4 Bool := zsn Tryz.underlying4
theorem ar4 : jb Tryz.prog 4 Bool := zog Tryz.underlying4
theorem zlI : qB Tryz.prog 45 zh := Y8 Tryz.underlying45 (.cons rfl (by kernel_rfl) rd9 (.cons rfl (by kernel_rfl) rd3 (.cons rfl (by kernel_rfl) zlH (.cons rfl (by kernel_rfl) rd9 (.cons rfl (by kernel_rfl) rd9 (.cons rfl (by kernel_rfl) rd9 (.one rfl (by kernel_rfl) rd4))))))) (by kernel_rfl) (fun b => ⟨⟨b.1, b.2.1, b.2.2.1, b.2.2.2.1, b.2.2.2.2.1, b.2.2.2.2.2.1, b.2.2.2.2.2.2⟩, rfl⟩)
theorem zu3 : jb Tryz.prog 45 zh := YG Tryz.underlying45 zlI rfl
theorem zlF : qB Tryz.prog 22 (List zh) := zcJ Tryz.underlying22 zlI (by kernel_rfl)
theorem zu0 : jb Tryz.prog 22 (List zh) := zbJ Tryz.underlying22 zlF
theorem zht : qB Tryz.prog 56 zO := Y8 Tryz.underlying56 (.cons rfl (by kernel_rfl) rd9 (.cons rfl (by kernel_rfl) rd3 (.one rfl (by kernel_rfl) rd3))) (by kernel_rfl) (fun b => ⟨⟨b.1, b.2.1, b.2.2⟩, rfl⟩)
theorem zu4 : jb Tryz.prog 56 zO := YG Tryz.underlying56 zht rfl
theorem zlL : qB Tryz.prog 72 zz := Y8 Tryz.underlying72 (.cons rfl (by kernel_rfl) rd3 (.one rfl (by kernel_rfl) rd3)) (by kernel_rfl) (fun b => ⟨⟨b.1, b.2⟩, rfl⟩)
theorem zu7 : jb Tryz.prog 72 zz := YG Tryz.underlying72 zlL rfl
theorem zlJ : qB Tryz.prog 57 (List zz) := zcJ Tryz.underlying57 zlL (by kernel_rfl)
theorem zu5 : jb Tryz.prog 57 (List zz) := zbJ Tryz.underlying57 zlJ
theorem zlK : qB Tryz.prog 59 zu := Y8 Tryz.underlying59 (.cons rfl (by kernel_rfl) rd9 (.cons rfl (by kernel_rfl) zht (.cons rfl (by kernel_rfl) zht (.cons rfl (by kernel_rfl) zlJ (.cons rfl (by kernel_rfl) rd9 (.one rfl (by kernel_rfl) rd9)))))) (by kernel_rfl) (fun b => ⟨⟨b.1, b.2.1, b.2.2.1, b.2.2.2.1, b.2.2.2.2.1, b.2.2.2.2.2⟩, rfl⟩)
theorem zu6 : jb Tryz.prog 59 zu := YG Tryz.underlying59 zlK rfl
theorem zlG : qB Tryz.prog 23 (List zu) := zcJ Tryz.underlying23 zlK (by kernel_rfl)
theorem zu1 : jb Tryz.prog 23 (List zu) := zbJ Tryz.underlying23 zlG
theorem zsh : qB Tryz.prog 25 Doc := Y8 Tryz.underlying25 (.cons rfl (by kernel_rfl) zlF (.one rfl (by kernel_rfl) zlG)) (by kernel_rfl) (fun b => ⟨⟨b.1, b.2⟩, rfl⟩)
theorem zoe : jb Tryz.prog 25 Doc := YG Tryz.underlying25 zsh rfl
theorem zlO : qB Tryz.prog 96 zU := Y8 Tryz.underlying96 (.cons rfl (by kernel_rfl) rd9 (.one rfl (by kernel_rfl) rd9)) (by kernel_rfl) (fun b => ⟨⟨b.1, b.2⟩, rfl⟩)
theorem zva : jb Tryz.prog 96 zU := YG Tryz.underlying96 zlO rfl
theorem zlM : qB Tryz.prog 76 (List zU) := zcJ Tryz.underlying76 zlO (by kernel_rfl)
theorem zu8 : jb Tryz.prog 76 (List zU) := zbJ Tryz.underlying76 zlM
theorem zlN : qB Tryz.prog 78 zv := Y8 Tryz.underlying78 (.cons rfl (by kernel_rfl) rd9 (.one rfl (by kernel_rfl) zlM)) (by kernel_rfl) (fun b => ⟨⟨b.1, b.2⟩, rfl⟩)
theorem zu9 : jb Tryz.prog 78 zv := YG Tryz.underlying78 zlN rfl
theorem zsi : qB Tryz.prog 26 (List zv) := zcJ Tryz.underlying26 zlN (by kernel_rfl)
theorem zof : jb Tryz.prog 26 (List zv) := zbJ Tryz.underlying26 zsi
theorem znL (H : Type) (enc : TypeId × Value → H) (W : World) (base : Nat) (args : Array Value) (ds : List (DataW H)) (ps : List MemPlace) (hlow : Low NoM W)
  (hval : ∀ (j : Nat) t v, Tryz.f3.params[j]? = some t → args[j]? = some v → Value.okWide Tryz.prog W .any base t v)
  (hA : DataW.TrodAll enc Tryz.prog W 0 (fun _ => true) true Tryz.f3.params.toList args.toList ds ps) : Jo Tryz.prog 3 args.toList NoM W (rep true) := by
 rw [Tryz.params3] at hA hval
 obtain ⟨v0, vs0, d0, ds0, p0, q0, ha0, rfl, rfl, h0, r0⟩ := trodAll_cons hA
 obtain ⟨v1, vs1, d1, ds1, p1, q1, rfl, rfl, rfl, h1, r1⟩ := trodAll_cons r0
 obtain ⟨rfl, rfl, rfl⟩ := trodAll_nil r1
 obtain ⟨x0, k0⟩ := zoe H enc W base v0 d0 p0 (hval 0 25 v0 rfl (by rw [← Array.getElem?_toList, ha0]; rfl)) h0
 obtain ⟨x1, k1⟩ := zof H enc W base v1 d1 p1 (hval 1 26 v1 rfl (by rw [← Array.getElem?_toList, ha0]; rfl)) h1
 rw [ha0]
 exact (zq2 (znN x0 x1 (zl0 k0) (zl0 k1))).calls NoM W _ hlow ⟨k0, k1, trivial⟩
theorem znM (os : Os) (started : os.Started) (H : Type) (enc : TypeId × Value → H) :
  ReturnsInHanded {} Tryz.checked os 3 .any (fun w args => (Rows.docsAreThingsSpec.pre enc Tryz.prog Tryz.f3 Rows.docsAreThingsRow.domain false w args ∧ laidMetH Tryz.prog Rows.docsAreThingsRow.laid w) ∧ sizedMet enc Tryz.prog Tryz.f3 (OpenSpec.ofChange Rows.docsAreThingsSpec) false w args) (Rows.docsAreThingsSpec.post enc Tryz.prog Tryz.f3 false true false false) := by
 refine zsW (C := Tryz.checked) (X := fun w _ => laidMetH Tryz.prog Rows.docsAreThingsRow.laid w) (fun _ _ _ hh h => h.of_heap hh) Tryz.own started (by kernel_rfl) Tryz.func3
  (ChangeSpec.witness_shaped (enc := enc) (C := Tryz.checked) (os := os) (X := fun w _ => laidMetH Tryz.prog Rows.docsAreThingsRow.laid w) false (World.laidAll Tryz.prog os Rows.docsAreThingsRow.laid) #[.agg #[.slice none 0 0, .slice none 0 0], .slice none 0 0] 8 (World.laidAll_os _ _ _)
   (World.shaped_of_ZipB (by kernel_rfl) (by kernel_rfl)) (by kernel_rfl) (by kernel_rfl) (by kernel_rfl)
   (by rw [MakeChecks.laidMetH_plain _ _ _ (by kernel_rfl)]; exact laidMet_laidAll _ (by kernel_rfl) (by kernel_rfl))) ?_
 intro W base args ds gs before hval hW hL hsh
 have hl : laidMet Tryz.prog Rows.docsAreThingsRow.laid W := zq0 hL (by kernel_rfl)
 have e1 : (Rows.laid_unicode_utf8_first : DataW Unit) = Go.Lib.firstData := by kernel_rfl
 have e2 : (Rows.laid_unicode_utf8_acceptRanges : DataW Unit) = Go.Lib.acceptData := by kernel_rfl
 have ht : Go.Lib.Utf8Tabs zaH JJ W := Proofs.utf8Tabs_of_readsT (Proofs.U8Types.of196 znl) ⟨by kernel_rfl, by kernel_rfl, by kernel_rfl, by kernel_rfl, by kernel_rfl, by kernel_rfl, by kernel_rfl⟩ (e1 ▸ Go.Lib.laidMet.reads hl (.tail _ (.tail _ (.tail _ (.tail _ (.tail _ (.tail _ (.tail _ (.tail _ (.head _)))))))))) (e2 ▸ Go.Lib.laidMet.reads hl (.tail _ (.tail _ (.tail _ (.head _)))))
 have hx : ∃ m, W.cell? ⟨zaI, 0, none⟩ = some (.int .i64 m) := Proofs.cell_of_shapedOpen_int (t := 3) (zero := #[.int .i64 0]) hsh (of_decide_eq_true (by kernel_rfl)) (by kernel_rfl) rfl (by kernel_rfl) (by kernel_rfl) Tryz.underlying3
 have e3 : (Rows.laid_strings_asciiSpace : DataW Unit) = Go.Lib.tabData .u8 Go.Lib.asciiSpaceTab := by kernel_rfl
 have e4 : (Rows.laid_unicode_White_Space : DataW Unit) = Go.Lib.whiteData := by kernel_rfl
 have hsp : ∃ P, P.globalNamed "strings.asciiSpace" = some vr ∧ Go.Lib.TabIs P W "strings.asciiSpace" .u8 Go.Lib.asciiSpaceTab := ⟨Tryz.prog, by kernel_rfl, zm3 (g := vr) (by kernel_rfl) (by kernel_rfl) Tryz.underlying196 Tryz.underlying5 (by kernel_rfl) (by kernel_rfl) (e3 ▸ Go.Lib.laidMet.reads hl (.tail _ (.tail _ (.tail _ (.tail _ (.tail _ (.tail _ (.tail _ (.head _)))))))))⟩
 have hwh : Go.Lib.WhiteTab zaL W := Proofs.whiteTab_of_reads (ρ := zjI) { zjH with } ⟨by kernel_rfl, by kernel_rfl, by kernel_rfl, by kernel_rfl, by kernel_rfl, by kernel_rfl, by kernel_rfl, by kernel_rfl⟩ (e4 ▸ Go.Lib.laidMet.reads hl (.tail _ (.tail _ (.tail _ (.tail _ (.tail _ (.tail _ (.head _))))))))
 have e5 : (Rows.laid_internal_strconv_uint64pow10 : DataW Unit) = Go.Lib.tabData .u64 Go.Lib.pow10Tab := by kernel_rfl
 have hpw : ∃ P, P.globalNamed "internal/strconv.uint64pow10" = some vq ∧ Go.Lib.TabIs P W "internal/strconv.uint64pow10" .u64 Go.Lib.pow10Tab := ⟨Tryz.prog, by kernel_rfl, zm3 (g := vq) (by kernel_rfl) (by kernel_rfl) Tryz.underlying274 Tryz.underlying219 (by kernel_rfl) (by kernel_rfl) (e5 ▸ Go.Lib.laidMet.reads hl (.tail _ (.tail _ (.head _))))⟩
 have her : (∃ tp pe, W.cell? ⟨zaK, 0, none⟩ = some (.iface tp pe)) ∧ ∃ tp pe, W.cell? ⟨zaJ, 0, none⟩ = some (.iface tp pe) := ⟨zkl (Go.Lib.laidMet.reads hl (.tail _ (.tail _ (.tail _ (.tail _ (.tail _ (.head _))))))) (by kernel_rfl) (by kernel_rfl) Tryz.underlying163, zkl (Go.Lib.laidMet.reads hl (.tail _ (.tail _ (.tail _ (.tail _ (.head _)))))) (by kernel_rfl) (by kernel_rfl) Tryz.underlying163⟩
 have hr : Tryz.f3.params.toList.all (fun t => Tryz.prog.readableRec t && decide (t < Tryz.prog.types.size)) = true := by kernel_rfl
 refine zq5 (P := Tryz.prog) (B := 4) (s := Rows.docsAreThingsSpec) rfl (by kernel_rfl) Tryz.underlying4 Tryz.laidOut (fun t ht => by have := List.all_eq_true.1 hr t ht; simpa using this) ?_ znL H enc W base args ds gs before (Low.start (fun k h => h) ht hx hsp hwh hpw her) hval hW
 intro H ds hd
 rw [Tryz.params3] at hd
 match ds, hd with
 | [e0, e1], _ => rfl
end Go.Proofs.YtenpeohfmbilaaaGreatDoor
