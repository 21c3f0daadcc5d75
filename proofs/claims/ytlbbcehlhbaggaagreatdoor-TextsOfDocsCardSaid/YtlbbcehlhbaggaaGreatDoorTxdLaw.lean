/-
  TextsOfDocs: diagrams with styles are printed as the reference says, what is printed is read again as it was, and what Parse takes of any text prints as that text, for every diagram, all rules and every text.
-/
import Derived.Test.YtlbbcehlhbaggaaGreatDoorTxdWa2
import Derived.Test.YtlbbcehlhbaggaaGreatDoorLawDoor
import Derived.Test.YtlbbcehlhbaggaaGreatDoorTxdP2
import Derived.Test.YtlbbcehlhbaggaaGreatDoorCards
import Derived.Test.YtlbbcehlhbaggaaGreatDoorTie
import Derived.Lib.LaidU8
namespace Go.Proofs.YtlbbcehlhbaggaaGreatDoor
open Go Go.DB Go.RowKit Go.ChangeShapes Go.WideShapes Go.ChangeAt
set_option maxRecDepth 100000
set_option linter.unusedSimpArgs false
set_option linter.unusedVariables false

theorem Tryz.own : ownKnob Tryz.prog.godebug = none := by kernel_rfl
theorem Tryz.laidOut : laidOutB Tryz.prog = true := by kernel_rfl

theorem tabIs_of_reads {P : Program} {W : World} {name : String} {k : IntKind} {zs : List Int} {g : Nat} {t e : TypeId} {n : Nat} (hg : P.globalNamed name = some g) (hty : (P.globals[g]?).map (·.type) = some t) (ht : P.underlying t = some (.array n e)) (he : P.underlying e = some (.int k))
    (hce : P.cellsOf e = 1) (hct : P.cellsOf t = n) (h : Go.Lib.VarReads P W name (Go.Lib.tabData k zs)) : Go.Lib.TabIs P W name k zs := by
  obtain ⟨g', t', cs, fuel, p, hg', ht', hvar, hd⟩ := h
  obtain rfl := Option.some.inj (hg.symm.trans hg')
  obtain rfl := Option.some.inj (hty.symm.trans ht')
  unfold Go.Lib.TabIs
  rw [hvar, ← Go.Lib.cells_of_tab ht he hce hct hd]

theorem iface_of_reads {P : Program} {W : World} {n nm : String} {d : DataW Unit} {g : Nat} {ti : TypeId} {ms : Array (String × TypeId)} (h : Go.Lib.VarReads P W n (.iface nm d)) (hg : P.globalNamed n = some g) (hty : (P.globals[g]?).map (·.type) = some ti) (hi : P.underlying ti = some (.interface ms)) :
    ∃ tp pe, W.cell? ⟨g, 0, none⟩ = some (.iface tp pe) := by
  obtain ⟨g', t', cs, fuel, p, hg', ht', hvar, hd⟩ := h
  obtain rfl := Option.some.inj (hg.symm.trans hg')
  obtain rfl := Option.some.inj (hty.symm.trans ht')
  have hc := World.var?_cell hg hvar 0
  obtain ⟨l⟩ := cs
  rw [hc]
  cases fuel with
  | zero => cases hd
  | succ m =>
    rw [DataW.trod_step] at hd
    unfold DataW.trodStep at hd
    rw [hi] at hd
    simp only at hd
    split at hd <;> simp_all

theorem rd9 : Reads Tryz.prog 9 Str := reads_str Tryz.underlying9
theorem ar9 : ArgOK Tryz.prog 9 Str := arg_str Tryz.underlying9
theorem rd3 : Reads Tryz.prog 3 Int := reads_int Tryz.underlying3
theorem ar3 : ArgOK Tryz.prog 3 Int := arg_int Tryz.underlying3
theorem rd57 : Reads Tryz.prog 57 Box := reads_struct Tryz.underlying57 (.cons rfl (by kernel_rfl) rd3 (.cons rfl (by kernel_rfl) rd3 (.cons rfl (by kernel_rfl) rd3 (.one rfl (by kernel_rfl) rd3)))) (by kernel_rfl) (fun b => ⟨⟨b.1, b.2.1, b.2.2.1, b.2.2.2⟩, rfl⟩)
theorem ar57 : ArgOK Tryz.prog 57 Box := arg_struct Tryz.underlying57 rd57 rfl
theorem rd4 : Reads Tryz.prog 4 Bool := reads_bool Tryz.underlying4
theorem ar4 : ArgOK Tryz.prog 4 Bool := arg_bool Tryz.underlying4
theorem rd59 : Reads Tryz.prog 59 DNode := reads_struct Tryz.underlying59 (.cons rfl (by kernel_rfl) rd9 (.cons rfl (by kernel_rfl) rd3 (.cons rfl (by kernel_rfl) rd57 (.cons rfl (by kernel_rfl) rd9 (.cons rfl (by kernel_rfl) rd9 (.cons rfl (by kernel_rfl) rd9 (.one rfl (by kernel_rfl) rd4))))))) (by kernel_rfl) (fun b => ⟨⟨b.1, b.2.1, b.2.2.1, b.2.2.2.1, b.2.2.2.2.1, b.2.2.2.2.2.1, b.2.2.2.2.2.2⟩, rfl⟩)
theorem ar59 : ArgOK Tryz.prog 59 DNode := arg_struct Tryz.underlying59 rd59 rfl
theorem rd22 : Reads Tryz.prog 22 (List DNode) := reads_slice Tryz.underlying22 rd59 (by kernel_rfl)
theorem ar22 : ArgOK Tryz.prog 22 (List DNode) := arg_slice Tryz.underlying22 rd22
theorem rd62 : Reads Tryz.prog 62 DEnd := reads_struct Tryz.underlying62 (.cons rfl (by kernel_rfl) rd9 (.cons rfl (by kernel_rfl) rd3 (.one rfl (by kernel_rfl) rd3))) (by kernel_rfl) (fun b => ⟨⟨b.1, b.2.1, b.2.2⟩, rfl⟩)
theorem ar62 : ArgOK Tryz.prog 62 DEnd := arg_struct Tryz.underlying62 rd62 rfl
theorem rd89 : Reads Tryz.prog 89 Point := reads_struct Tryz.underlying89 (.cons rfl (by kernel_rfl) rd3 (.one rfl (by kernel_rfl) rd3)) (by kernel_rfl) (fun b => ⟨⟨b.1, b.2⟩, rfl⟩)
theorem ar89 : ArgOK Tryz.prog 89 Point := arg_struct Tryz.underlying89 rd89 rfl
theorem rd63 : Reads Tryz.prog 63 (List Point) := reads_slice Tryz.underlying63 rd89 (by kernel_rfl)
theorem ar63 : ArgOK Tryz.prog 63 (List Point) := arg_slice Tryz.underlying63 rd63
theorem rd65 : Reads Tryz.prog 65 DEdge := reads_struct Tryz.underlying65 (.cons rfl (by kernel_rfl) rd9 (.cons rfl (by kernel_rfl) rd62 (.cons rfl (by kernel_rfl) rd62 (.cons rfl (by kernel_rfl) rd63 (.cons rfl (by kernel_rfl) rd9 (.one rfl (by kernel_rfl) rd9)))))) (by kernel_rfl) (fun b => ⟨⟨b.1, b.2.1, b.2.2.1, b.2.2.2.1, b.2.2.2.2.1, b.2.2.2.2.2⟩, rfl⟩)
theorem ar65 : ArgOK Tryz.prog 65 DEdge := arg_struct Tryz.underlying65 rd65 rfl
theorem rd23 : Reads Tryz.prog 23 (List DEdge) := reads_slice Tryz.underlying23 rd65 (by kernel_rfl)
theorem ar23 : ArgOK Tryz.prog 23 (List DEdge) := arg_slice Tryz.underlying23 rd23
theorem rd25 : Reads Tryz.prog 25 Doc := reads_struct Tryz.underlying25 (.cons rfl (by kernel_rfl) rd22 (.one rfl (by kernel_rfl) rd23)) (by kernel_rfl) (fun b => ⟨⟨b.1, b.2⟩, rfl⟩)
theorem ar25 : ArgOK Tryz.prog 25 Doc := arg_struct Tryz.underlying25 rd25 rfl
theorem rd43 : Reads Tryz.prog 43 Rule := reads_struct Tryz.underlying43 (.cons rfl (by kernel_rfl) rd9 (.cons rfl (by kernel_rfl) rd9 (.one rfl (by kernel_rfl) rd9))) (by kernel_rfl) (fun b => ⟨⟨b.1, b.2.1, b.2.2⟩, rfl⟩)
theorem ar43 : ArgOK Tryz.prog 43 Rule := arg_struct Tryz.underlying43 rd43 rfl
theorem rd26 : Reads Tryz.prog 26 (List Rule) := reads_slice Tryz.underlying26 rd43 (by kernel_rfl)
theorem ar26 : ArgOK Tryz.prog 26 (List Rule) := arg_slice Tryz.underlying26 rd26

theorem TextsOfDocs_calls (H : Type) (enc : TypeId × Value → H) (W : World) (base : Nat) (args : Array Value) (ds : List (DataW H)) (ps : List MemPlace) (hlow : Low NoM W)
    (hval : ∀ (j : Nat) t v, Tryz.f3.params[j]? = some t → args[j]? = some v → Value.okWide Tryz.prog W .any base t v)
    (hA : DataW.TrodAll enc Tryz.prog W 0 (fun _ => true) true Tryz.f3.params.toList args.toList ds ps) : Gives Tryz.prog 3 args.toList NoM W (rep true) := by
  rw [Tryz.params3] at hA hval
  obtain ⟨v0, vs0, d0, ds0, p0, q0, ha0, rfl, rfl, h0, r0⟩ := trodAll_cons hA
  obtain ⟨v1, vs1, d1, ds1, p1, q1, rfl, rfl, rfl, h1, r1⟩ := trodAll_cons r0
  obtain ⟨v2, vs2, d2, ds2, p2, q2, rfl, rfl, rfl, h2, r2⟩ := trodAll_cons r1
  obtain ⟨rfl, rfl, rfl⟩ := trodAll_nil r2
  obtain ⟨x0, k0⟩ := ar25 H enc W base v0 d0 p0 (hval 0 25 v0 rfl (by rw [← Array.getElem?_toList, ha0]; rfl)) h0
  obtain ⟨x1, k1⟩ := ar26 H enc W base v1 d1 p1 (hval 1 26 v1 rfl (by rw [← Array.getElem?_toList, ha0]; rfl)) h1
  obtain ⟨x2, k2⟩ := ar9 H enc W base v2 d2 p2 (hval 2 9 v2 rfl (by rw [← Array.getElem?_toList, ha0]; rfl)) h2
  rw [ha0]
  exact (law_TextsOfDocs_ok (TextsOfDocs_true x0 x1 x2 (rep_fits k0) (rep_fits k1))).calls NoM W _ hlow ⟨k0, k1, k2, trivial⟩

theorem TextsOfDocs_lifted (os : Os) (started : os.Started) (H : Type) (enc : TypeId × Value → H) :
    ReturnsInHanded {} Tryz.checked os 3 .any (fun w args => (Rows.textsOfDocsSpec.pre enc Tryz.prog Tryz.f3 Rows.textsOfDocsRow.domain false w args ∧ laidMetH Tryz.prog Rows.textsOfDocsRow.laid w) ∧ sizedMet enc Tryz.prog Tryz.f3 (OpenSpec.ofChange Rows.textsOfDocsSpec) false w args) (Rows.textsOfDocsSpec.post enc Tryz.prog Tryz.f3 false true false false) := by
  refine returns_laid (C := Tryz.checked) (X := fun w _ => laidMetH Tryz.prog Rows.textsOfDocsRow.laid w) (fun _ _ _ hh h => h.of_heap hh) Tryz.own started (by kernel_rfl) Tryz.func3
    (ChangeSpec.witness_shaped (enc := enc) (C := Tryz.checked) (os := os) (X := fun w _ => laidMetH Tryz.prog Rows.textsOfDocsRow.laid w) false (World.laidAll Tryz.prog os Rows.textsOfDocsRow.laid) #[.agg #[.slice none 0 0, .slice none 0 0], .slice none 0 0, .string ByteArray.empty] 8 (World.laidAll_os _ _ _)
      (World.shaped_of_ZipB (by kernel_rfl) (by kernel_rfl)) (by kernel_rfl) (by kernel_rfl) (by kernel_rfl)
      (by rw [MakeChecks.laidMetH_plain _ _ _ (by kernel_rfl)]; exact laidMet_laidAll _ (by kernel_rfl) (by kernel_rfl))) ?_
  intro W base args ds gs before hval hW hL hsh
  have hl : laidMet Tryz.prog Rows.textsOfDocsRow.laid W := laidMet_plain hL (by kernel_rfl)
  have e1 : (Rows.laid_unicode_utf8_first : DataW Unit) = Go.Lib.firstData := by kernel_rfl
  have e2 : (Rows.laid_unicode_utf8_acceptRanges : DataW Unit) = Go.Lib.acceptData := by kernel_rfl
  have ht : Go.Lib.Utf8Tabs gFirst gAcc W := Proofs.utf8Tabs_of_readsT (Proofs.U8Types.of196 validStr_lay) ⟨by kernel_rfl, by kernel_rfl, by kernel_rfl, by kernel_rfl, by kernel_rfl, by kernel_rfl, by kernel_rfl⟩ (e1 ▸ Go.Lib.laidMet.reads hl (.tail _ (.tail _ (.tail _ (.tail _ (.tail _ (.tail _ (.tail _ (.tail _ (.head _)))))))))) (e2 ▸ Go.Lib.laidMet.reads hl (.tail _ (.tail _ (.tail _ (.head _)))))
  have hx : ∃ m, W.cell? ⟨gMax, 0, none⟩ = some (.int .i64 m) := Proofs.cell_of_shapedOpen_int (t := 3) (zero := #[.int .i64 0]) hsh (of_decide_eq_true (by kernel_rfl)) (by kernel_rfl) rfl (by kernel_rfl) (by kernel_rfl) Tryz.underlying3
  have e3 : (Rows.laid_strings_asciiSpace : DataW Unit) = Go.Lib.tabData .u8 Go.Lib.asciiSpaceTab := by kernel_rfl
  have e4 : (Rows.laid_unicode_White_Space : DataW Unit) = Go.Lib.whiteData := by kernel_rfl
  have hsp : ∃ P, P.globalNamed "strings.asciiSpace" = some gSpace ∧ Go.Lib.TabIs P W "strings.asciiSpace" .u8 Go.Lib.asciiSpaceTab := ⟨Tryz.prog, by kernel_rfl, tabIs_of_reads (g := gSpace) (by kernel_rfl) (by kernel_rfl) Tryz.underlying172 Tryz.underlying5 (by kernel_rfl) (by kernel_rfl) (e3 ▸ Go.Lib.laidMet.reads hl (.tail _ (.tail _ (.tail _ (.tail _ (.tail _ (.tail _ (.tail _ (.head _)))))))))⟩
  have hwh : Go.Lib.WhiteTab gWhite W := Proofs.whiteTab_of_reads (ρ := fieldsStr_ren) { fieldsStr_lay with } ⟨by kernel_rfl, by kernel_rfl, by kernel_rfl, by kernel_rfl, by kernel_rfl, by kernel_rfl, by kernel_rfl, by kernel_rfl⟩ (e4 ▸ Go.Lib.laidMet.reads hl (.tail _ (.tail _ (.tail _ (.tail _ (.tail _ (.tail _ (.head _))))))))
  have e5 : (Rows.laid_internal_strconv_uint64pow10 : DataW Unit) = Go.Lib.tabData .u64 Go.Lib.pow10Tab := by kernel_rfl
  have hpw : ∃ P, P.globalNamed "internal/strconv.uint64pow10" = some gPow ∧ Go.Lib.TabIs P W "internal/strconv.uint64pow10" .u64 Go.Lib.pow10Tab := ⟨Tryz.prog, by kernel_rfl, tabIs_of_reads (g := gPow) (by kernel_rfl) (by kernel_rfl) Tryz.underlying238 Tryz.underlying203 (by kernel_rfl) (by kernel_rfl) (e5 ▸ Go.Lib.laidMet.reads hl (.tail _ (.tail _ (.head _))))⟩
  have her : (∃ tp pe, W.cell? ⟨gSyn, 0, none⟩ = some (.iface tp pe)) ∧ ∃ tp pe, W.cell? ⟨gRng, 0, none⟩ = some (.iface tp pe) := ⟨iface_of_reads (Go.Lib.laidMet.reads hl (.tail _ (.tail _ (.tail _ (.tail _ (.tail _ (.head _))))))) (by kernel_rfl) (by kernel_rfl) Tryz.underlying52, iface_of_reads (Go.Lib.laidMet.reads hl (.tail _ (.tail _ (.tail _ (.tail _ (.head _)))))) (by kernel_rfl) (by kernel_rfl) Tryz.underlying52⟩
  have hr : Tryz.f3.params.toList.all (fun t => Tryz.prog.readableRec t && decide (t < Tryz.prog.types.size)) = true := by kernel_rfl
  refine law_post (P := Tryz.prog) (B := 4) (s := Rows.textsOfDocsSpec) rfl (by kernel_rfl) Tryz.underlying4 Tryz.laidOut (fun t ht => by have := List.all_eq_true.1 hr t ht; simpa using this) ?_ TextsOfDocs_calls H enc W base args ds gs before (Low.start (fun k h => h) ht hx hsp hwh hpw her) hval hW
  intro H ds hd
  rw [Tryz.params3] at hd
  match ds, hd with
  | [e0, e1, e2], _ => rfl

theorem TextsOfDocs_holds : Rows.TextsOfDocsSaid :=
  OpenClaim.holds_of_wide 3 Tryz.f3 rfl rfl rfl rfl rfl rfl rfl ⟨rfl, rfl, rfl, rfl, rfl⟩ rfl rfl rfl rfl rfl (by kernel_rfl) Tryz.func3 (by kernel_rfl)
    (of_decide_eq_true (by kernel_rfl)) (by unfold Func.isWrapper; rw [if_neg (of_decide_eq_false (by kernel_rfl))]; exact ⟨rfl, rfl⟩)
    (fun os started H enc _ => TextsOfDocs_lifted os started H enc)

theorem TextsOfDocs_card : Rows.TextsOfDocsCardSaid :=
  Claim7.holds_tied_plain_at .later [] [.data, .data, .data, .data, .sentinel, .sentinel, .listed, .data, .pinned] true (true, "2e015835636fad9effe5737780ff39f8e169e14f3b1c66d6804a0e5a19775dbb") true TextsOfDocs_holds (fun _ h => by cases h) (by kernel_rfl) (fun _ h => by cases h) textsOfDocs_row_tie rfl ⟨rfl, rfl⟩ (by kernel_rfl) rfl
    (fun f fn hf hfn => by
      obtain rfl : f = 3 := Option.some.inj ((show Tryz.prog.funcNamed "drawboard/drawlaw1.TextsOfDocs" = some 3 by kernel_rfl).symm.trans hf) |>.symm
      obtain rfl : fn = Tryz.f3 := (Option.some.inj (Tryz.func3.symm.trans hfn)).symm
      exact ⟨by kernel_rfl, fun j t ht => by
        rw [Tryz.params3] at ht
        have hm : t ∈ [25, 26, 9] := by simpa using Array.mem_of_getElem? ht
        have hall : ([25, 26, 9].all fun u => !Tryz.prog.wantsStandIn u) = true := by kernel_rfl
        exact (show Tryz.prog.wantsStandIn t = false by simpa using List.all_eq_true.1 hall t hm)⟩)
    (by kernel_rfl)

end Go.Proofs.YtlbbcehlhbaggaaGreatDoor
