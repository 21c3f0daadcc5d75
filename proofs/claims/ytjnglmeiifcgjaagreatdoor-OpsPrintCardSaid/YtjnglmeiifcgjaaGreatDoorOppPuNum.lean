/-
  Numbers with blanks between.
-/
import Derived.Test.YtjnglmeiifcgjaaGreatDoorOppLi1
import Derived.Test.YtjnglmeiifcgjaaGreatDoorPu0
import Derived.Test.YtjnglmeiifcgjaaGreatDoorOppPuName
import Derived.Test.YtjnglmeiifcgjaaGreatDoorOppPuCut
import Derived.Test.YtjnglmeiifcgjaaGreatDoorOppPuDec
import Derived.Lib.ItoaLen
set_option linter.unusedSimpArgs false
set_option linter.unusedVariables false
namespace Go.DB
open Go Go.RowKit

theorem join_eq (c : UInt8) : ∀ (l : List (List UInt8)), Go.Lib.join l [c] = joinC c l
  | [] => rfl
  | [a] => Go.Lib.join_one a [c]
  | a :: b :: r => by
    have ih := join_eq c (b :: r)
    rw [joinC, ← ih]
    simp [Go.Lib.join, List.intercalate, List.intersperse]
/-- The numbers, with blanks between. -/
def numsB (l : List Int) : List UInt8 := joinC 32 (l.map Go.Lib.itoa)
theorem joinC_len (c : UInt8) : ∀ (l : List (List UInt8)) (n : Nat), (∀ x ∈ l, x.length ≤ n) → (joinC c l).length ≤ l.length * (n + 1)
  | [], n, _ => by simp [joinC]
  | [a], n, h => by have := h a (by simp); simp only [joinC, List.length_singleton]; omega
  | a :: b :: r, n, h => by
    have ih := joinC_len c (b :: r) n (fun x hx => h x (by simp [hx]))
    have := h a (by simp)
    rw [joinC, List.length_append, List.length_cons]
    rw [show (a :: b :: r).length = (b :: r).length + 1 from rfl, Nat.add_mul]; omega
theorem itoa_le {n : Int} (h : InI n) : (Go.Lib.itoa n).length ≤ 21 := Go.Lib.itoa_length_le n (by unfold InI at h; omega) (by unfold InI at h; omega)
theorem numsB_len {l : List Int} (hr : ∀ x ∈ l, InI x) : (numsB l).length ≤ l.length * 22 := by
  have := joinC_len 32 (l.map Go.Lib.itoa) 21 (fun x hx => by
    obtain ⟨n, hn, rfl⟩ := List.mem_map.1 hx
    exact itoa_le (hr n hn))
  simpa [numsB] using this
theorem Itoa_eq {n : Int} (h : InI n) : strconv_Itoa n = some (itoaS n) := by
  unfold strconv_Itoa
  exact need_of (by have := itoa_le h; show (Go.Lib.itoa n).length ≤ _; omega)
theorem join_nums {l : List Int} : joinS (l.map itoaS) ⟨[32]⟩ = ⟨numsB l⟩ := by
  unfold joinS numsB
  rw [show (⟨[32]⟩ : Str).b = [32] from rfl, join_eq, List.map_map]
  rfl
theorem Join_nums {l : List Int} (hl : l.length ≤ 1000000) (hr : ∀ x ∈ l, InI x) : strings_Join (l.map itoaS) ⟨[32]⟩ = some ⟨numsB l⟩ := by
  unfold strings_Join
  rw [need_of ⟨by rw [List.length_map]; omega, by rw [join_nums]; have := numsB_len hr; show (numsB l).length ≤ _; omega⟩, join_nums]
theorem flat_one {α β : Type} (f : α → β) : ∀ l : List α, (l.flatMap fun x => [f x]) = l.map f
  | [] => rfl
  | a :: l => by rw [List.flatMap_cons, flat_one f l]; rfl
theorem Numbers_eq {l : List Int} (hl : l.length ≤ 1000000) (hr : ∀ x ∈ l, InI x) : edit_Numbers l = some ⟨numsB l⟩ := by
  unfold edit_Numbers
  have hg : (l.flatMap fun n => [itoaS n]) = l.map itoaS := flat_one itoaS l
  have h := rfor_gather (l := l) (step := edit_Numbers_L1 l) (fun n => [itoaS n]) [] (fun _ _ => Nat.le_refl 1) (by simp; omega) (fun i s hi hs => by
    unfold edit_Numbers_L1
    rw [need_of hi, Itoa_eq (hr _ (gx_mem hi)), Option.bind_some, need_of (by rw [room_iff, List.length_singleton]; omega)])
  rw [h, hg, Option.bind_some, List.nil_append, Join_nums hl hr]; rfl
theorem numbers_eqR {l : List Int} (hl : l.length ≤ 1000000) (hr : ∀ x ∈ l, InI x) : ref_numbers l = some ⟨numsB l⟩ := by
  unfold ref_numbers
  have hg : (l.flatMap fun n => [itoaS n]) = l.map itoaS := flat_one itoaS l
  have h := rfor_gather (l := l) (step := ref_numbers_L1 l) (fun n => [itoaS n]) [] (fun _ _ => Nat.le_refl 1) (by simp; omega) (fun i s hi hs => by
    unfold ref_numbers_L1
    rw [need_of hi, Itoa_eq (hr _ (gx_mem hi)), Option.bind_some, need_of (by rw [room_iff, List.length_singleton]; omega)])
  rw [h, hg, Option.bind_some, List.nil_append, Join_nums hl hr]; rfl
end Go.DB
