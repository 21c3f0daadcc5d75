/-
  No line is wider than it may be, but those of one code point, and all words are there.
-/
import Derived.Test.YthopjimlhjgoiaaDoorWkwWa1
import Derived.Test.YthopjimlhjgoiaaDoorLawDoor
import Derived.Test.YthopjimlhjgoiaaDoorWkwPuKeeps
import Derived.Test.YthopjimlhjgoiaaDoorCards
import Derived.Test.YthopjimlhjgoiaaDoorTie
import Derived.Lib.LaidU8
namespace Go.Proofs.YthopjimlhjgoiaaDoor
open Go Go.DB Go.RowKit Go.ChangeShapes Go.WideShapes Go.ChangeAt
set_option maxRecDepth 100000
set_option linter.unusedSimpArgs false
set_option linter.unusedVariables false

theorem Tryd.own : ownKnob Tryd.prog.godebug = none := by kernel_rfl
theorem Tryd.laidOut : laidOutB Tryd.prog = true := by kernel_rfl

theorem tabIs_of_reads {P : Program} {W : World} {name : String} {k : IntKind} {zs : List Int} {g : Nat} {t e : TypeId} {n : Nat} (hg : P.globalNamed name = some g) (hty : (P.globals[g]?).map (·.type) = some t) (ht : P.underlying t = some (.array n e)) (he : P.underlying e = some (.int k))
    (hce : P.cellsOf e = 1) (hct : P.cellsOf t = n) (h : Go.Lib.VarReads P W name (Go.Lib.tabData k zs)) : Go.Lib.TabIs P W name k zs := by
  obtain ⟨g', t', cs, fuel, p, hg', ht', hvar, hd⟩ := h
  obtain rfl := Option.some.inj (hg.symm.trans hg')
  obtain rfl := Option.some.inj (hty.symm.trans ht')
  unfold Go.Lib.TabIs
  rw [hvar, ← Go.Lib.cells_of_tab ht he hce hct hd]

theorem rd3 : Reads Tryd.prog 3 Int := reads_int Tryd.underlying3
theorem ar3 : ArgOK Tryd.prog 3 Int := arg_int Tryd.underlying3
theorem rd23 : Reads Tryd.prog 23 Font := reads_struct Tryd.underlying23 (.cons rfl (by kernel_rfl) rd3 (.cons rfl (by kernel_rfl) rd3 (.cons rfl (by kernel_rfl) rd3 (.one rfl (by kernel_rfl) rd3)))) (by kernel_rfl) (fun b => ⟨⟨b.1, b.2.1, b.2.2.1, b.2.2.2⟩, rfl⟩)
theorem ar23 : ArgOK Tryd.prog 23 Font := arg_struct Tryd.underlying23 rd23 rfl
theorem rd9 : Reads Tryd.prog 9 Str := reads_str Tryd.underlying9
theorem ar9 : ArgOK Tryd.prog 9 Str := arg_str Tryd.underlying9

theorem WrapsKeepWords_calls (H : Type) (enc : TypeId × Value → H) (W : World) (base : Nat) (args : Array Value) (ds : List (DataW H)) (ps : List MemPlace) (hlow : Low NoM W)
    (hval : ∀ (j : Nat) t v, Tryd.f7.params[j]? = some t → args[j]? = some v → Value.okWide Tryd.prog W .any base t v)
    (hA : DataW.TrodAll enc Tryd.prog W 0 (fun _ => true) true Tryd.f7.params.toList args.toList ds ps) : Gives Tryd.prog 7 args.toList NoM W (rep true) := by
  rw [Tryd.params7] at hA hval
  obtain ⟨v0, vs0, d0, ds0, p0, q0, ha0, rfl, rfl, h0, r0⟩ := trodAll_cons hA
  obtain ⟨v1, vs1, d1, ds1, p1, q1, rfl, rfl, rfl, h1, r1⟩ := trodAll_cons r0
  obtain ⟨v2, vs2, d2, ds2, p2, q2, rfl, rfl, rfl, h2, r2⟩ := trodAll_cons r1
  obtain ⟨rfl, rfl, rfl⟩ := trodAll_nil r2
  obtain ⟨x0, k0⟩ := ar23 H enc W base v0 d0 p0 (hval 0 23 v0 rfl (by rw [← Array.getElem?_toList, ha0]; rfl)) h0
  obtain ⟨x1, k1⟩ := ar9 H enc W base v1 d1 p1 (hval 1 9 v1 rfl (by rw [← Array.getElem?_toList, ha0]; rfl)) h1
  obtain ⟨x2, k2⟩ := ar3 H enc W base v2 d2 p2 (hval 2 3 v2 rfl (by rw [← Array.getElem?_toList, ha0]; rfl)) h2
  rw [ha0]
  exact (law_WrapsKeepWords_ok (WrapsKeepWords_true x0 x1 x2)).calls NoM W _ hlow ⟨k0, k1, k2, trivial⟩

theorem WrapsKeepWords_lifted (os : Os) (started : os.Started) (H : Type) (enc : TypeId × Value → H) :
    ReturnsInHanded {} Tryd.checked os 7 .any (fun w args => (Rows.wrapsKeepWordsSpec.pre enc Tryd.prog Tryd.f7 Rows.wrapsKeepWordsRow.domain false w args ∧ laidMetH Tryd.prog Rows.wrapsKeepWordsRow.laid w) ∧ sizedMet enc Tryd.prog Tryd.f7 (OpenSpec.ofChange Rows.wrapsKeepWordsSpec) false w args) (Rows.wrapsKeepWordsSpec.post enc Tryd.prog Tryd.f7 false true false false) := by
  refine returns_laid (C := Tryd.checked) (X := fun w _ => laidMetH Tryd.prog Rows.wrapsKeepWordsRow.laid w) (fun _ _ _ hh h => h.of_heap hh) Tryd.own started (by kernel_rfl) Tryd.func7
    (ChangeSpec.witness_shaped (enc := enc) (C := Tryd.checked) (os := os) (X := fun w _ => laidMetH Tryd.prog Rows.wrapsKeepWordsRow.laid w) false (World.laidAll Tryd.prog os Rows.wrapsKeepWordsRow.laid) #[.agg #[.int .i64 0, .int .i64 0, .int .i64 0, .int .i64 0], .string ByteArray.empty, .int .i64 0] 8 (World.laidAll_os _ _ _)
      (World.shaped_of_ZipB (by kernel_rfl) (by kernel_rfl)) (by kernel_rfl) (by kernel_rfl) (by kernel_rfl)
      (by rw [MakeChecks.laidMetH_plain _ _ _ (by kernel_rfl)]; exact laidMet_laidAll _ (by kernel_rfl) (by kernel_rfl))) ?_
  intro W base args ds gs before hval hW hL hsh
  have hl : laidMet Tryd.prog Rows.wrapsKeepWordsRow.laid W := laidMet_plain hL (by kernel_rfl)
  have e1 : (Rows.laid_unicode_utf8_first : DataW Unit) = Go.Lib.firstData := by kernel_rfl
  have e2 : (Rows.laid_unicode_utf8_acceptRanges : DataW Unit) = Go.Lib.acceptData := by kernel_rfl
  have ht : Go.Lib.Utf8Tabs gFirst gAcc W := Proofs.utf8Tabs_of_readsT (Proofs.U8Types.of196 validStr_lay) ⟨by kernel_rfl, by kernel_rfl, by kernel_rfl, by kernel_rfl, by kernel_rfl, by kernel_rfl, by kernel_rfl⟩ (e1 ▸ Go.Lib.laidMet.reads hl (.tail _ (.tail _ (.tail _ (.head _))))) (e2 ▸ Go.Lib.laidMet.reads hl (.head _))
  have hx : ∃ m, W.cell? ⟨gMax, 0, none⟩ = some (.int .i64 m) := Proofs.cell_of_shapedOpen_int (t := 3) (zero := #[.int .i64 0]) hsh (of_decide_eq_true (by kernel_rfl)) (by kernel_rfl) rfl (by kernel_rfl) (by kernel_rfl) Tryd.underlying3
  have e3 : (Rows.laid_strings_asciiSpace : DataW Unit) = Go.Lib.tabData .u8 Go.Lib.asciiSpaceTab := by kernel_rfl
  have e4 : (Rows.laid_unicode_White_Space : DataW Unit) = Go.Lib.whiteData := by kernel_rfl
  have hsp : ∃ P, P.globalNamed "strings.asciiSpace" = some gSpace ∧ Go.Lib.TabIs P W "strings.asciiSpace" .u8 Go.Lib.asciiSpaceTab := ⟨Tryd.prog, by kernel_rfl, tabIs_of_reads (g := gSpace) (by kernel_rfl) (by kernel_rfl) Tryd.underlying103 Tryd.underlying5 (by kernel_rfl) (by kernel_rfl) (e3 ▸ Go.Lib.laidMet.reads hl (.tail _ (.tail _ (.head _))))⟩
  have hwh : Go.Lib.WhiteTab gWhite W := Proofs.whiteTab_of_reads (ρ := fieldsStr_ren) { fieldsStr_lay with } ⟨by kernel_rfl, by kernel_rfl, by kernel_rfl, by kernel_rfl, by kernel_rfl, by kernel_rfl, by kernel_rfl, by kernel_rfl⟩ (e4 ▸ Go.Lib.laidMet.reads hl (.tail _ (.head _)))
  have hr : Tryd.f7.params.toList.all (fun t => Tryd.prog.readableRec t && decide (t < Tryd.prog.types.size)) = true := by kernel_rfl
  refine law_post (P := Tryd.prog) (B := 4) (s := Rows.wrapsKeepWordsSpec) rfl (by kernel_rfl) Tryd.underlying4 Tryd.laidOut (fun t ht => by have := List.all_eq_true.1 hr t ht; simpa using this) ?_ WrapsKeepWords_calls H enc W base args ds gs before (Low.start (fun k h => h) ht hx hsp hwh) hval hW
  intro H ds hd
  rw [Tryd.params7] at hd
  match ds, hd with
  | [e0, e1, e2], _ => rfl

theorem WrapsKeepWords_holds : Rows.WrapsKeepWordsSaid :=
  OpenClaim.holds_of_wide 7 Tryd.f7 rfl rfl rfl rfl rfl rfl rfl ⟨rfl, rfl, rfl, rfl, rfl⟩ rfl rfl rfl rfl rfl (by kernel_rfl) Tryd.func7 (by kernel_rfl)
    (of_decide_eq_true (by kernel_rfl)) (by unfold Func.isWrapper; rw [if_neg (of_decide_eq_false (by kernel_rfl))]; exact ⟨rfl, rfl⟩)
    (fun os started H enc _ => WrapsKeepWords_lifted os started H enc)

theorem WrapsKeepWords_card : Rows.WrapsKeepWordsCardSaid :=
  Claim7.holds_tied_plain_at .later [] [.data, .listed, .data, .pinned] true (true, "cf4ce95fefc19c5f82434427bff519552ae994a8c5b2233b78dadaa9da542061") false WrapsKeepWords_holds (fun _ h => by cases h) (by kernel_rfl) (fun _ h => by cases h) wrapsKeepWords_row_tie rfl ⟨rfl, rfl⟩ (by kernel_rfl) rfl
    (fun f fn hf hfn => by
      obtain rfl : f = 7 := Option.some.inj ((show Tryd.prog.funcNamed "drawboard/drawlaw1.WrapsKeepWords" = some 7 by kernel_rfl).symm.trans hf) |>.symm
      obtain rfl : fn = Tryd.f7 := (Option.some.inj (Tryd.func7.symm.trans hfn)).symm
      exact ⟨by kernel_rfl, fun j t ht => by
        rw [Tryd.params7] at ht
        have hm : t ∈ [23, 9, 3] := by simpa using Array.mem_of_getElem? ht
        have hall : ([23, 9, 3].all fun u => !Tryd.prog.wantsStandIn u) = true := by kernel_rfl
        exact (show Tryd.prog.wantsStandIn t = false by simpa using List.all_eq_true.1 hall t hm)⟩)
    (by kernel_rfl)

end Go.Proofs.YthopjimlhjgoiaaDoor
