/-
  Operations as lines.
-/
import Derived.Test.YtjnglmeiifcgjaaGreatDoorOppPuOpsR
import Derived.Test.YtjnglmeiifcgjaaGreatDoorOppPuNum
import Derived.Test.YtjnglmeiifcgjaaGreatDoorOppPuQuo
set_option linter.unusedSimpArgs false
set_option linter.unusedVariables false
namespace Go.DB
open Go Go.RowKit

structure Small (x : DOp) : Prop where
  site : x.Stamp.Site.b.length ≤ 40
  id : x.Id.b.length ≤ 40
  field : x.Field.b.length ≤ 40
  value : x.Value.b.length ≤ 1000
  no : InI x.Stamp.No
  time : InI x.Stamp.Time
  of_ : InI x.Of
def bodyB (x : DOp) : List UInt8 :=
  if x.Kind = 1 then [115, 101, 116, 32] ++ (x.Id.b ++ 32 :: (x.Field.b ++ 32 :: (quoteS x.Value).b)) else if x.Kind = 2 then [100, 114, 111, 112, 32] ++ x.Id.b else [117, 110, 100, 111, 32] ++ Go.Lib.itoa x.Of
def lineB (x : DOp) : List UInt8 := x.Stamp.Site.b ++ 32 :: (numsB [x.Stamp.No, x.Stamp.Time] ++ 32 :: bodyB x)
def textB : List DOp → List UInt8
  | [] => []
  | x :: l => lineB x ++ 10 :: textB l
theorem textB_append : ∀ (a b : List DOp), textB (a ++ b) = textB a ++ textB b
  | [], _ => rfl
  | x :: a, b => by rw [List.cons_append, textB, textB, textB_append a b]; simp
theorem nums2_len {x : DOp} (h : Small x) : (numsB [x.Stamp.No, x.Stamp.Time]).length ≤ 44 := numsB_len (fun n hn => by
  simp only [List.mem_cons, List.mem_nil_iff, or_false] at hn
  rcases hn with rfl | rfl
  · exact h.no
  · exact h.time)
theorem bodyB_len {x : DOp} (h : Small x) : (bodyB x).length ≤ 2100 := by
  have h1 := h.id
  have h2 := h.field
  have h3 := h.value
  have h4 := itoa_le h.of_
  have h5 := quoteS_len x.Value
  unfold bodyB
  split
  · simp only [List.length_append, List.length_cons, List.length_nil]; omega
  · split
    · simp only [List.length_append, List.length_cons, List.length_nil]; omega
    · simp only [List.length_append, List.length_cons, List.length_nil]; omega
theorem lineB_len {x : DOp} (h : Small x) : (lineB x).length ≤ 2300 := by
  have h1 := h.site
  have h2 := nums2_len h
  have h3 := bodyB_len h
  unfold lineB
  simp only [List.length_append, List.length_cons]; omega
theorem textB_len : ∀ {l : List DOp}, (∀ x ∈ l, Small x) → (textB l).length ≤ l.length * 2301
  | [], _ => by simp [textB]
  | x :: l, h => by
    have := lineB_len (h x (by simp))
    have := textB_len (l := l) (fun y hy => h y (by simp [hy]))
    rw [textB, List.length_append, List.length_cons, List.length_cons, Nat.add_mul]; omega
theorem OpLine_eq {x : DOp} (h : Small x) : ref_OpLine x = some ⟨lineB x⟩ := by
  have h1 := h.site
  have h2 := nums2_len h
  have h3 := h.id
  have h4 := h.field
  have h5 := h.value
  have h6 := itoa_le h.of_
  have h7 := quoteS_len x.Value
  have hn := numbers_eqR (l := [x.Stamp.No, x.Stamp.Time]) (by simp) (fun n hn => by
    simp only [List.mem_cons, List.mem_nil_iff, or_false] at hn
    rcases hn with rfl | rfl
    · exact h.no
    · exact h.time)
  unfold ref_OpLine
  rw [need_of (by simp only [List.length_cons, List.length_nil]; omega), hn, Option.bind_some]
  rw [need_of (by simp only [List.length_append, List.length_cons, List.length_nil]; omega), need_of (by simp only [List.length_append, List.length_cons, List.length_nil]; omega), bnd_eq]
  unfold lineB bodyB
  by_cases c1 : x.Kind = 1
  · rw [decide_eq_true c1, cond_true, if_pos c1]
    have hq : ref_Quote x.Value = some (quoteS x.Value) := by unfold ref_Quote; exact need_of (by omega)
    rw [need_of (by simp only [List.length_append, List.length_cons, List.length_nil]; omega), need_of (by simp only [List.length_append, List.length_cons, List.length_nil]; omega), need_of (by simp only [List.length_append, List.length_cons, List.length_nil]; omega),
      need_of (by simp only [List.length_append, List.length_cons, List.length_nil]; omega), need_of (by simp only [List.length_append, List.length_cons, List.length_nil]; omega), hq, Option.bind_some, need_of (by simp only [List.length_append, List.length_cons, List.length_nil]; omega)]
    simp
  · rw [decide_eq_false c1, cond_false, if_neg c1]
    by_cases c2 : x.Kind = 2
    · rw [decide_eq_true c2, cond_true, if_pos c2, need_of (by simp only [List.length_append, List.length_cons, List.length_nil]; omega), need_of (by simp only [List.length_append, List.length_cons, List.length_nil]; omega)]
      simp
    · rw [decide_eq_false c2, cond_false, if_neg c2, need_of (by simp only [List.length_append, List.length_cons, List.length_nil]; omega), Itoa_eq h.of_, Option.bind_some, need_of (by simp only [itoaS, List.length_append, List.length_cons, List.length_nil]; omega)]
      simp [itoaS]
theorem OpsText_eq {l : List DOp} (h : ∀ x ∈ l, Small x) (hl : l.length ≤ 1000000) : ref_OpsText l = some ⟨textB l⟩ := by
  unfold ref_OpsText
  obtain ⟨s, h1, h2⟩ := rfor_inv (n := (l.length : Int)) (step := ref_OpsText_L1 l) (s0 := Str.nil) (fun i s => s = ⟨textB (l.take i)⟩) (by omega) rfl (fun i s hi hI => by
    have hi' : i < l.length := by omega
    have hx := h l[i] (List.getElem_mem hi')
    have ht := textB_len (l := l.take i) (fun x hx => h x (List.mem_of_mem_take hx))
    rw [List.length_take] at ht
    have hll := lineB_len hx
    refine ⟨_, ?_, rfl⟩
    unfold ref_OpsText_L1
    rw [need_of ⟨by omega, by omega⟩, bnd_eq, gx_nat hi', OpLine_eq hx, Option.bind_some, need_of (by simp only [List.length_cons, List.length_nil]; omega), hI,
      need_of (by simp only [List.length_append, List.length_cons, List.length_nil]; omega), bnd_eq, List.take_succ_eq_append_getElem hi', textB_append]
    rfl)
  rw [h1, h2]; simp
theorem Print_step {l : List DOp} {i : Nat} {s : Str} (hi : i < l.length) (h : Small l[i]) (hs : s.b.length ≤ 1000000000000) : edit_Print_L1 l (i : Int) s = some ⟨s.b ++ (lineB l[i] ++ [10])⟩ := by
  unfold edit_Print_L1
  rw [need_of ⟨by omega, by omega⟩, bnd_eq, gx_nat hi]
  generalize l[i] = x at h
  have h1 := h.site
  have h2 := nums2_len h
  have h3 := h.id
  have h4 := h.field
  have h5 := h.value
  have h6 := itoa_le h.of_
  have h7 := quoteS_len x.Value
  have hn := Numbers_eq (l := [x.Stamp.No, x.Stamp.Time]) (by simp) (fun n hn => by
    simp only [List.mem_cons, List.mem_nil_iff, or_false] at hn
    rcases hn with rfl | rfl
    · exact h.no
    · exact h.time)
  have hw : ∀ (c t : Str), c.b.length + t.b.length ≤ 70368744177664 → strings_Builder_WriteString c t = some ⟨c.b ++ t.b⟩ := fun c t hh => by unfold strings_Builder_WriteString; exact need_of hh
  rw [need_of (by simp only [List.length_cons, List.length_nil]; omega), hn, Option.bind_some, need_of (by simp only [List.length_append, List.length_cons, List.length_nil]; omega)]
  rw [hw _ _ (by simp only [List.length_append, List.length_cons, List.length_nil]; omega), Option.bind_some]
  unfold lineB bodyB
  by_cases c1 : x.Kind = 1
  · rw [decide_eq_true c1, cond_true, if_pos c1]
    have hq : edit_Quoted x.Value = some (quoteS x.Value) := by unfold edit_Quoted; exact need_of (by omega)
    rw [need_of (by simp only [List.length_append, List.length_cons, List.length_nil]; omega), need_of (by simp only [List.length_append, List.length_cons, List.length_nil]; omega), need_of (by simp only [List.length_append, List.length_cons, List.length_nil]; omega),
      need_of (by simp only [List.length_append, List.length_cons, List.length_nil]; omega), hq, Option.bind_some, need_of (by simp only [List.length_append, List.length_cons, List.length_nil]; omega)]
    rw [hw _ _ (by simp only [List.length_append, List.length_cons, List.length_nil]; omega), Option.bind_some, Option.bind_some, hw _ _ (by simp only [List.length_append, List.length_cons, List.length_nil]; omega), Option.bind_some]
    simp
  · rw [decide_eq_false c1, cond_false, if_neg c1]
    by_cases c2 : x.Kind = 2
    · rw [decide_eq_true c2, cond_true, if_pos c2, need_of (by simp only [List.length_append, List.length_cons, List.length_nil]; omega), hw _ _ (by simp only [List.length_append, List.length_cons, List.length_nil]; omega), Option.bind_some, Option.bind_some, hw _ _ (by simp only [List.length_append, List.length_cons, List.length_nil]; omega), Option.bind_some]
      simp
    · have hn1 := Numbers_eq (l := [x.Of]) (by simp) (fun n hn => by
        simp only [List.mem_cons, List.mem_nil_iff, or_false] at hn
        rw [hn]; exact h.of_)
      have e1 : numsB [x.Of] = Go.Lib.itoa x.Of := rfl
      rw [e1] at hn1
      rw [decide_eq_false c2, cond_false, if_neg c2, hn1, Option.bind_some, need_of (by simp only [List.length_append, List.length_cons, List.length_nil]; omega), hw _ _ (by simp only [List.length_append, List.length_cons, List.length_nil]; omega), Option.bind_some, Option.bind_some, hw _ _ (by simp only [List.length_append, List.length_cons, List.length_nil]; omega), Option.bind_some]
      simp
theorem Print_eq {l : List DOp} (h : opsErr l = 0 → ∀ x ∈ l, Small x) : edit_Print l = some (if opsErr l = 0 then (if 1048576 < (textB l).length then (Str.nil, 4) else (⟨textB l⟩, 0)) else (Str.nil, opsErr l)) := by
  unfold edit_Print
  rw [Check_eq, Option.bind_some]
  by_cases c : opsErr l = 0
  · have hl := (opsErr_len c).1
    obtain ⟨s, h1, h2⟩ := rfor_inv (n := (l.length : Int)) (step := edit_Print_L1 l) (s0 := Str.nil) (fun i s => s = ⟨textB (l.take i)⟩) (by omega) rfl (fun i s hi hI => by
      have hi' : i < l.length := by omega
      have ht := textB_len (l := l.take i) (fun x hx => h c x (List.mem_of_mem_take hx))
      rw [List.length_take] at ht
      refine ⟨_, Print_step hi' (h c _ (List.getElem_mem hi')) (by rw [hI]; show (textB _).length ≤ _; omega), ?_⟩
      rw [hI, List.take_succ_eq_append_getElem hi', textB_append]; rfl)
    have hb := textB_len (l := l) (h c)
    have hlen : strings_Builder_Len ⟨textB l⟩ = some (((textB l).length : Int), ⟨textB l⟩) := by unfold strings_Builder_Len; exact need_of (by show (textB l).length ≤ _; omega)
    have hstr : strings_Builder_String ⟨textB l⟩ = some ⟨textB l⟩ := by unfold strings_Builder_String; exact need_of (by show (textB l).length ≤ _; omega)
    rw [decide_eq_true c, Bool.not_true, cond_false, if_pos c, bnd_eq, show (⟨[]⟩ : Str) = Str.nil from rfl, h1, h2, Option.bind_some, Int.toNat_natCast, List.take_length, hlen, Option.bind_some]
    by_cases d : 1048576 < (textB l).length
    · rw [decide_eq_true (by omega), cond_true, if_pos d]
    · rw [decide_eq_false (by omega), cond_false, if_neg d, hstr]; rfl
  · rw [decide_eq_false c, Bool.not_false, cond_true, if_neg c]
end Go.DB
