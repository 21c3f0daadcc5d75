/-
  Lines keep all words, and none is too wide: the law.
-/
import Derived.Test.YthopjimlhjgoiaaDoorWkwPuKeep
import Derived.Test.YthopjimlhjgoiaaDoorWkwPuMeas
set_option linter.unusedSimpArgs false
set_option linter.unusedVariables false
namespace Go.DB
open Go Go.RowKit

theorem runes_len (s : Str) : ∀ (m : List UInt8) (k p : Nat), s.b.drop p = m → m.length ≤ k → (runesFromS s k p).length = (chunks m).length := by
  intro m
  refine chunks_ind (p := fun m => ∀ (k p : Nat), s.b.drop p = m → m.length ≤ k → (runesFromS s k p).length = (chunks m).length) ?_ ?_ m
  · intro k p h _
    have hp : s.b.length ≤ p := List.drop_eq_nil_iff.1 h
    rw [chunks_nil]
    cases k with
    | zero => rfl
    | succ k => unfold runesFromS; rw [if_neg (by omega)]; rfl
  · intro m hm ih k p h hk
    have hml := List.length_pos_iff.2 hm
    have hp : p < s.b.length := by
      have := congrArg List.length h
      rw [List.length_drop] at this; omega
    cases k with
    | zero => omega
    | succ k =>
      unfold runesFromS
      have hd := dec_pos m
      rw [if_pos hp, chunks_cons hm, List.length_cons, List.length_cons, ih k (s.next p) (by rw [drop_next hp, h]) (by rw [List.length_drop]; omega)]
theorem runesL_len (l : List UInt8) : (runesL ⟨l⟩).length = (chunks l).length := runes_len ⟨l⟩ l _ 0 (List.drop_zero) (Nat.le_refl _)
theorem kIndex_eq (s : List Str) (v : Str) (hl : (s.length : Int) ≤ 9223372036854775807) : slices_Index_string s v = some (match s.findIdx? (fun x => decide (v = x)) with | some i => (i : Int) | none => -1) := by
  unfold slices_Index_string
  rw [rforE_index (fun x => decide (v = x)) hl (fun i h => by unfold slices_Index_string_L1; rw [need_of ⟨by omega, by omega⟩, gx_nat h]; cases decide (v = s[i]) <;> rfl)]
  cases s.findIdx? (fun x => decide (v = x)) <;> rfl
theorem kContains_eq (s : List Str) (v : Str) (hl : (s.length : Int) ≤ 9223372036854775807) (hv : v ∉ s) : slices_Contains_string s v = some false := by
  unfold slices_Contains_string
  rw [kIndex_eq s v hl, Option.bind_some]
  have : s.findIdx? (fun x => decide (v = x)) = none := by
    rw [List.findIdx?_eq_none_iff]
    intro x hx
    exact decide_eq_false (fun e => hv (by rw [e]; exact hx))
  rw [this]; rfl
theorem all_eq {s : List UInt8} (hs : s.length ≤ 100000000) : law_WrapsKeepWords_1 ⟨s⟩ = some ⟨keep s⟩ := by
  unfold law_WrapsKeepWords_1
  have hr := (replaceAll_keep s).2
  have e := squeezed s
  have hk : (keep s).length ≤ s.length := by
    unfold keep
    conv => rhs; rw [← chunks_flat s]
    generalize chunks s = cs
    induction cs with
    | nil => exact Nat.le_refl _
    | cons c cs ih =>
      rw [keepC_cons, bytesOf_cons, List.length_append, List.length_append]
      split
      · simp only [List.length_nil]; omega
      · omega
  have hl : (replS ⟨s⟩ ⟨[10]⟩ ⟨[32]⟩).b.length = s.length := hr
  unfold strings_ReplaceAll
  rw [need_of ⟨by show s.length ≤ _; omega, by decide, by decide, by omega⟩, Option.bind_some]
  unfold strings_Fields
  rw [need_of (by omega), Option.bind_some]
  unfold strings_Join
  have hc : (fieldsS (replS ⟨s⟩ ⟨[10]⟩ ⟨[32]⟩)).length ≤ 1000000000 := by
    unfold fieldsS
    rw [List.length_map]
    have := fieldsGo_count ((replS ⟨s⟩ ⟨[10]⟩ ⟨[32]⟩).b.length + 1) [] (replS ⟨s⟩ ⟨[10]⟩ ⟨[32]⟩).b
    unfold Go.Lib.fieldsD
    omega
  rw [need_of ⟨hc, by rw [e]; show (keep s).length ≤ _; omega⟩, e]
  rfl
theorem tot_wrap {f : Font} {width : Int} {Q : Nat × List UInt8 → Prop} {n : Nat} : ∀ {l : List (List UInt8)}, (∀ x ∈ l, LineOK f width Q n x) → tot l ≤ (n + 1) * l.length
  | [], _ => Nat.zero_le _
  | x :: l, h => by
    have ih := tot_wrap (l := l) (fun y hy => h y (by simp [hy]))
    have hx := (h x (by simp)).len
    rw [tot_cons, List.length_cons, Nat.mul_succ]
    rcases hx with rfl | hx
    · simp only [List.length_nil]; omega
    · omega
theorem WrapsKeepWords_true (f : Font) (s : Str) (width : Int) : law_WrapsKeepWords f s width = some true := by
  unfold law_WrapsKeepWords
  rw [Wrap_eq, Option.bind_some]
  by_cases h : firstErr [fontErr f, textErr s, if 1 ≤ width ∧ width ≤ 20000 then 0 else 3] = 0
  case neg =>
    rw [if_neg h]
    simp only [decide_eq_false h, Bool.not_false, cond_true, List.length_nil]
    rw [shapes_eq]; rfl
  rw [if_pos h]
  have hz := firstErr_zero.1 h
  have hf := fontErr_zero.1 (hz (fontErr f) (by simp))
  have ht := hz (textErr s) (by simp)
  have hl := (textErr_zero.1 ht).1
  have hok := wrap_ok hf (width := width) ht
  have hlen := wrapB_len f width s.b
  simp only [decide_true, Bool.not_true, cond_false]
  have hloop : rforE (((wrapB f width s.b).map Str.mk).length : Int) (law_WrapsKeepWords_L1 f ((wrapB f width s.b).map Str.mk, 0) width) (fun s => Res.nx s) () = some (Res.nx ()) := by
    obtain ⟨e, e1, e2⟩ := rforE_inv (n := (((wrapB f width s.b).map Str.mk).length : Int)) (step := law_WrapsKeepWords_L1 f ((wrapB f width s.b).map Str.mk, 0) width) (fin := fun s => Res.nx s) (s0 := ()) (fun _ _ => True) (fun o => o = Res.nx ()) (by rw [List.length_map]; omega) trivial (fun i st hi _ => by
      have hi' : i < ((wrapB f width s.b).map Str.mk).length := by omega
      have hi2 : i < (wrapB f width s.b).length := by rw [List.length_map] at hi'; exact hi'
      left
      refine ⟨(), ?_, trivial⟩
      unfold law_WrapsKeepWords_L1
      simp only
      rw [need_of ⟨by omega, by omega⟩, bnd_eq, gx_nat hi', List.getElem_map]
      have hx := hok _ (List.getElem_mem hi2)
      generalize (wrapB f width s.b)[i] = x at *
      obtain ⟨g1, g2⟩ := line_text (by omega) hx
      have hm : shape_Measure f ⟨x⟩ = some (mw f x, 0) := by
        rw [Measure_eq, hz (fontErr f) (by simp), g1, g2]; rfl
      have hxl : x.length ≤ 1001 := by
        rcases hx.len with e | e
        · rw [e]; simp
        · omega
      rw [hm, Option.bind_some, need_of (fun _ _ => by show (x.length : Int) ≤ _; omega), runesL_len]
      simp only [decide_true, Bool.not_true, Bool.false_or]
      have : (decide (width < mw f x) && decide ((1 : Int) < ((chunks x).length : Int))) = false := by
        rw [Bool.and_eq_false_iff, decide_eq_false_iff_not, decide_eq_false_iff_not]
        rcases hx.fit with e | e
        · left; omega
        · right; omega
      rw [this]; rfl) (fun s _ => rfl)
    rw [e1, e2]
  rw [hloop]
  show Option.bind (law_WrapsKeepWords_1 s) _ = _
  have hs : s = ⟨s.b⟩ := rfl
  have htot := tot_wrap hok
  have hjl := join_len (wrapB f width s.b)
  have hmul := Nat.mul_le_mul (show s.b.length + 1 + 1 ≤ 1002 by omega) (show (wrapB f width s.b).length ≤ 2002 by omega)
  have hJ : joinS ((wrapB f width s.b).map Str.mk) ⟨[32]⟩ = ⟨Go.Lib.join (wrapB f width s.b) [32]⟩ := by
    unfold joinS
    rw [List.map_map]
    have e : ((fun x : Str => x.b) ∘ Str.mk) = id := rfl
    rw [e, List.map_id]
  rw [show law_WrapsKeepWords_1 s = some ⟨keep s.b⟩ from all_eq (s := s.b) (by omega), Option.bind_some]
  show Option.bind (strings_Join ((wrapB f width s.b).map Str.mk) ⟨[32]⟩) _ = _
  unfold strings_Join
  rw [need_of ⟨by rw [List.length_map]; omega, by rw [hJ]; show (Go.Lib.join (wrapB f width s.b) [32]).length ≤ _; omega⟩, Option.bind_some, hJ, all_eq (by omega), Option.bind_some, join_keep, wrap_keep]
  simp only [decide_true, gd_true]
  rw [kContains_eq _ _ (by rw [List.length_map]; omega) (fun hm => by
    obtain ⟨x, hx, e⟩ := List.mem_map.1 hm
    exact (hok x hx).no (congrArg Str.b e))]
  rfl
end Go.DB
