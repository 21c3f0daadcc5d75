/-
  ReroutesMatch: all edges of a diagram have best ways, where there are some, and stay otherwise, for every diagram and clearance.
-/
import Derived.Test.YtmfcdppbnbfpjaaGreatDoorRerWa3
import Derived.Test.YtmfcdppbnbfpjaaGreatDoorLawDoor
import Derived.Test.YtmfcdppbnbfpjaaGreatDoorRerG2
import Derived.Test.YtmfcdppbnbfpjaaGreatDoorCards
import Derived.Test.YtmfcdppbnbfpjaaGreatDoorTie
namespace Go.Proofs.YtmfcdppbnbfpjaaGreatDoor
open Go Go.DB Go.RowKit Go.ChangeShapes Go.WideShapes Go.ChangeAt
set_option maxRecDepth 100000
set_option linter.unusedSimpArgs false
set_option linter.unusedVariables false
theorem Tryz.own : ownKnob Tryz.prog.godebug = none := by kernel_rfl
theorem Tryz.laidOut : laidOutB Tryz.prog = true := by kernel_rfl
theorem rd9 : qO Tryz.prog 9 Str := zpu Tryz.underlying9
theorem ar9 : jr Tryz.prog 9 Str := zmi Tryz.underlying9
theorem rd3 : qO Tryz.prog 3 Int := zpt Tryz.underlying3
theorem ar3 : jr Tryz.prog 3 Int := zmh Tryz.underlying3
theorem zj0 : qO Tryz.prog 30 Box := zaO Tryz.underlying30 (.cons rfl (by kernel_rfl) rd3 (.cons rfl (by kernel_rfl) rd3 (.cons rfl (by kernel_rfl) rd3 (.one rfl (by kernel_rfl) rd3)))) (by kernel_rfl) (fun b => ⟨⟨b.1, b.2.1, b.2.2.1, b.2.2.2⟩, rfl⟩)
theorem zsd : jr Tryz.prog 30 Box := zam Tryz.underlying30 zj0 rfl
theorem rd4 : qO Tryz.prog 4 Bool := zps Tryz.underlying4
theorem ar4 : jr Tryz.prog 4 Bool := zmg Tryz.underlying4
theorem zj1 : qO Tryz.prog 32 zm := zaO Tryz.underlying32 (.cons rfl (by kernel_rfl) rd9 (.cons rfl (by kernel_rfl) rd3 (.cons rfl (by kernel_rfl) zj0 (.cons rfl (by kernel_rfl) rd9 (.cons rfl (by kernel_rfl) rd9 (.cons rfl (by kernel_rfl) rd9 (.one rfl (by kernel_rfl) rd4))))))) (by kernel_rfl) (fun b => ⟨⟨b.1, b.2.1, b.2.2.1, b.2.2.2.1, b.2.2.2.2.1, b.2.2.2.2.2.1, b.2.2.2.2.2.2⟩, rfl⟩)
theorem zse : jr Tryz.prog 32 zm := zam Tryz.underlying32 zj1 rfl
theorem zjY : qO Tryz.prog 22 (List zm) := zgD Tryz.underlying22 zj1 (by kernel_rfl)
theorem zsb : jr Tryz.prog 22 (List zm) := zfm Tryz.underlying22 zjY
theorem zgC : qO Tryz.prog 41 yx := zaO Tryz.underlying41 (.cons rfl (by kernel_rfl) rd9 (.cons rfl (by kernel_rfl) rd3 (.one rfl (by kernel_rfl) rd3))) (by kernel_rfl) (fun b => ⟨⟨b.1, b.2.1, b.2.2⟩, rfl⟩)
theorem zsf : jr Tryz.prog 41 yx := zam Tryz.underlying41 zgC rfl
theorem zj4 : qO Tryz.prog 46 zd := zaO Tryz.underlying46 (.cons rfl (by kernel_rfl) rd3 (.one rfl (by kernel_rfl) rd3)) (by kernel_rfl) (fun b => ⟨⟨b.1, b.2⟩, rfl⟩)
theorem zsi : jr Tryz.prog 46 zd := zam Tryz.underlying46 zj4 rfl
theorem zj2 : qO Tryz.prog 42 (List zd) := zgD Tryz.underlying42 zj4 (by kernel_rfl)
theorem zsg : jr Tryz.prog 42 (List zd) := zfm Tryz.underlying42 zj2
theorem zj3 : qO Tryz.prog 44 zJ := zaO Tryz.underlying44 (.cons rfl (by kernel_rfl) rd9 (.cons rfl (by kernel_rfl) zgC (.cons rfl (by kernel_rfl) zgC (.cons rfl (by kernel_rfl) zj2 (.cons rfl (by kernel_rfl) rd9 (.one rfl (by kernel_rfl) rd9)))))) (by kernel_rfl) (fun b => ⟨⟨b.1, b.2.1, b.2.2.1, b.2.2.2.1, b.2.2.2.2.1, b.2.2.2.2.2⟩, rfl⟩)
theorem zsh : jr Tryz.prog 44 zJ := zam Tryz.underlying44 zj3 rfl
theorem zjZ : qO Tryz.prog 23 (List zJ) := zgD Tryz.underlying23 zj3 (by kernel_rfl)
theorem zsc : jr Tryz.prog 23 (List zJ) := zfm Tryz.underlying23 zjZ
theorem zpr : qO Tryz.prog 25 Doc := zaO Tryz.underlying25 (.cons rfl (by kernel_rfl) zjY (.one rfl (by kernel_rfl) zjZ)) (by kernel_rfl) (fun b => ⟨⟨b.1, b.2⟩, rfl⟩)
theorem zmf : jr Tryz.prog 25 Doc := zam Tryz.underlying25 zpr rfl
theorem zl2 (H : Type) (enc : TypeId × Value → H) (W : World) (base : Nat) (args : Array Value) (ds : List (DataW H)) (ps : List MemPlace) (hlow : Low NoM W)
  (hval : ∀ (j : Nat) t v, Tryz.f3.params[j]? = some t → args[j]? = some v → Value.okWide Tryz.prog W .any base t v)
  (hA : DataW.TrodAll enc Tryz.prog W 0 (fun _ => true) true Tryz.f3.params.toList args.toList ds ps) : Q2 Tryz.prog 3 args.toList NoM W (rep true) := by
 rw [Tryz.params3] at hA hval
 obtain ⟨v0, vs0, d0, ds0, p0, q0, ha0, rfl, rfl, h0, r0⟩ := trodAll_cons hA
 obtain ⟨v1, vs1, d1, ds1, p1, q1, rfl, rfl, rfl, h1, r1⟩ := trodAll_cons r0
 obtain ⟨rfl, rfl, rfl⟩ := trodAll_nil r1
 obtain ⟨x0, k0⟩ := zmf H enc W base v0 d0 p0 (hval 0 25 v0 rfl (by rw [← Array.getElem?_toList, ha0]; rfl)) h0
 obtain ⟨x1, k1⟩ := ar3 H enc W base v1 d1 p1 (hval 1 3 v1 rfl (by rw [← Array.getElem?_toList, ha0]; rfl)) h1
 rw [ha0]
 exact (zoo (zl4 x0 x1 (zp1 k0))).calls NoM W _ hlow ⟨k0, k1, trivial⟩
theorem zl3 (os : Os) (started : os.Started) (H : Type) (enc : TypeId × Value → H) :
  ReturnsInHanded {} Tryz.checked os 3 .any (fun w args => (Rows.reroutesMatchSpec.pre enc Tryz.prog Tryz.f3 Rows.reroutesMatchRow.domain false w args ∧ laidMetH Tryz.prog Rows.reroutesMatchRow.laid w) ∧ sizedMet enc Tryz.prog Tryz.f3 (OpenSpec.ofChange Rows.reroutesMatchSpec) false w args) (Rows.reroutesMatchSpec.post enc Tryz.prog Tryz.f3 false true false false) := by
 refine zp7 (C := Tryz.checked) (X := fun w _ => laidMetH Tryz.prog Rows.reroutesMatchRow.laid w) (fun _ _ _ hh h => h.of_heap hh) Tryz.own started (by kernel_rfl) Tryz.func3
  (ChangeSpec.witness_shaped (enc := enc) (C := Tryz.checked) (os := os) (X := fun w _ => laidMetH Tryz.prog Rows.reroutesMatchRow.laid w) false (World.laidAll Tryz.prog os Rows.reroutesMatchRow.laid) #[.agg #[.slice none 0 0, .slice none 0 0], .int .i64 0] 8 (World.laidAll_os _ _ _)
   (World.shaped_of_ZipB (by kernel_rfl) (by kernel_rfl)) (by kernel_rfl) (by kernel_rfl) (by kernel_rfl)
   (by rw [MakeChecks.laidMetH_plain _ _ _ (by kernel_rfl)]; exact laidMet_laidAll _ (by kernel_rfl) (by kernel_rfl))) ?_
 intro W base args ds gs before hval hW hL hsh
 have hl : laidMet Tryz.prog Rows.reroutesMatchRow.laid W := zon hL (by kernel_rfl)
 have e1 : (Rows.laid_unicode_utf8_first : DataW Unit) = Go.Lib.firstData := by kernel_rfl
 have e2 : (Rows.laid_unicode_utf8_acceptRanges : DataW Unit) = Go.Lib.acceptData := by kernel_rfl
 have ht : Go.Lib.Utf8Tabs zav Jy W := Proofs.utf8Tabs_of_readsT (Proofs.U8Types.of196 zlh) ⟨by kernel_rfl, by kernel_rfl, by kernel_rfl, by kernel_rfl, by kernel_rfl, by kernel_rfl, by kernel_rfl⟩ (e1 ▸ Go.Lib.laidMet.reads hl (.tail _ (.head _))) (e2 ▸ Go.Lib.laidMet.reads hl (.head _))
 have hx : ∃ m, W.cell? ⟨zds, 0, none⟩ = some (.int .i64 m) := Proofs.cell_of_shapedOpen_int (t := 3) (zero := #[.int .i64 0]) hsh (of_decide_eq_true (by kernel_rfl)) (by kernel_rfl) rfl (by kernel_rfl) (by kernel_rfl) Tryz.underlying3
 have hr : Tryz.f3.params.toList.all (fun t => Tryz.prog.readableRec t && decide (t < Tryz.prog.types.size)) = true := by kernel_rfl
 refine zoq (P := Tryz.prog) (B := 4) (s := Rows.reroutesMatchSpec) rfl (by kernel_rfl) Tryz.underlying4 Tryz.laidOut (fun t ht => by have := List.all_eq_true.1 hr t ht; simpa using this) ?_ zl2 H enc W base args ds gs before (Low.start (fun k h => h) ht hx) hval hW
 intro H ds hd
 rw [Tryz.params3] at hd
 match ds, hd with
 | [e0, e1], _ => rfl
theorem ReroutesMatch_holds : Rows.ReroutesMatchSaid :=
 OpenClaim.holds_of_wide 3 Tryz.f3 rfl rfl rfl rfl rfl rfl rfl ⟨rfl, rfl, rfl, rfl, rfl⟩ rfl rfl rfl rfl rfl (by kernel_rfl) Tryz.func3 (by kernel_rfl)
  (of_decide_eq_true (by kernel_rfl)) (by unfold Func.isWrapper; rw [if_neg (of_decide_eq_false (by kernel_rfl))]; exact ⟨rfl, rfl⟩)
  (fun os started H enc _ => zl3 os started H enc)
theorem ReroutesMatch_card : Rows.ReroutesMatchCardSaid :=
 Claim7.holds_tied_plain_at .later [] [.data, .pinned] true (true, "fe56882dcb64d0b956e1e0a07370921dbe970ff9f98f9371aba411b2c85ea8c9") true ReroutesMatch_holds (fun _ h => by cases h) (by kernel_rfl) (fun _ h => by cases h) reroutesMatch_row_tie rfl ⟨rfl, rfl⟩ (by kernel_rfl) rfl
  (fun f fn hf hfn => by
   obtain rfl : f = 3 := Option.some.inj ((show Tryz.prog.funcNamed "drawboard/drawlaw1.ReroutesMatch" = some 3 by kernel_rfl).symm.trans hf) |>.symm
   obtain rfl : fn = Tryz.f3 := (Option.some.inj (Tryz.func3.symm.trans hfn)).symm
   exact ⟨by kernel_rfl, fun j t ht => by
    rw [Tryz.params3] at ht
    have hm : t ∈ [25, 3] := by simpa using Array.mem_of_getElem? ht
    have hall : ([25, 3].all fun u => !Tryz.prog.wantsStandIn u) = true := by kernel_rfl
    exact (show Tryz.prog.wantsStandIn t = false by simpa using List.all_eq_true.1 hall t hm)⟩)
  (by kernel_rfl)
end Go.Proofs.YtmfcdppbnbfpjaaGreatDoor
