/-
  Orders in which some elements tie; lists that are sorted, and what stays in place.
-/
import Derived.Test.YtlkebjlooppdlaaGreatDoorTEMPuList
set_option linter.unusedSimpArgs false
set_option linter.unusedVariables false
namespace Go.DB
open Go Go.RowKit

section
variable {α : Type}
/-- f compares what S has: lt says when its answer is below 0. -/
structure Swo (S : α → Prop) (lt : α → α → Bool) (f : α → α → Option Int) : Prop where
  cmp : ∀ x y, S x → S y → ∃ c, f x y = some c ∧ decide (c < 0) = lt x y
  asym : ∀ x y, S x → S y → lt x y = true → lt y x = false
  ntr : ∀ x y z, S x → S y → S z → lt x y = false → lt y z = false → lt x z = false
def srt (lt : α → α → Bool) (l : List α) : Prop := l.Pairwise (fun x y => lt y x = false)
/-- Out of their old order are only those that had to change. -/
def kept2 (lt : α → α → Bool) (tb : α → α → Prop) (l : List α) : Prop := l.Pairwise (fun x y => tb x y ∨ lt x y = true)
/-- M is L sorted, ties as they were. -/
structure Sd (lt : α → α → Bool) (L M : List α) : Prop where
  perm : M.Perm L
  srtd : srt lt M
  kept : ∀ tb : α → α → Prop, kept2 lt tb L → kept2 lt tb M

variable {S : α → Prop} {lt : α → α → Bool} {f : α → α → Option Int}
theorem srt_one (x : α) : srt lt [x] := by simp [srt]
theorem srt_nil : srt lt ([] : List α) := by simp [srt]
theorem Sd.refl {L : List α} (h : srt lt L) : Sd lt L L := ⟨List.Perm.refl _, h, fun _ h => h⟩
theorem Sd.len {L M : List α} (h : Sd lt L M) : M.length = L.length := h.perm.length_eq
theorem Sd.mem {L M : List α} (h : Sd lt L M) {x : α} : x ∈ M ↔ x ∈ L := h.perm.mem_iff
theorem Sd.all {L M : List α} (h : Sd lt L M) (hS : ∀ x ∈ L, S x) : ∀ x ∈ M, S x := fun x hx => hS x (h.mem.1 hx)
theorem Sd.trans {L M N : List α} (h1 : Sd lt L M) (h2 : Sd lt M N) : Sd lt L N := ⟨h2.perm.trans h1.perm, h2.srtd, fun tb h => h2.kept tb (h1.kept tb h)⟩

theorem Swo.irr (hw : Swo S lt f) {x : α} (hx : S x) : lt x x = false := by
  cases h : lt x x with
  | false => rfl
  | true => have := hw.asym x x hx hx h; rw [h] at this; cases this
theorem Swo.tr (hw : Swo S lt f) {x y z : α} (hx : S x) (hy : S y) (hz : S z) (h1 : lt x y = true) (h2 : lt z y = false) : lt x z = true := by
  cases h : lt x z with
  | true => rfl
  | false => have := hw.ntr x z y hx hz hy h h2; rw [h1] at this; cases this

/-- An element is put between those that are not above it and those that are. -/
theorem Sd.insert (hw : Swo S lt f) {L1 L2 : List α} {x : α} (hS : ∀ y ∈ L1 ++ L2, S y) (hx : S x) (hs : srt lt (L1 ++ L2)) (h1 : ∀ y ∈ L1, lt x y = false) (h2 : ∀ y ∈ L2, lt x y = true) : Sd lt (L1 ++ L2 ++ [x]) (L1 ++ x :: L2) := by
  refine ⟨?_, ?_, fun tb h => ?_⟩
  · rw [List.append_assoc]
    exact (List.perm_append_left_iff L1).2 (List.perm_append_singleton x L2).symm
  · unfold srt at *
    rw [List.pairwise_append] at hs ⊢
    refine ⟨hs.1, List.pairwise_cons.2 ⟨fun y hy => hw.asym x y hx (hS y (List.mem_append_right _ hy)) (h2 y hy), hs.2.1⟩, fun a ha b hb => ?_⟩
    rcases List.mem_cons.1 hb with rfl | hb
    · exact h1 a ha
    · exact hs.2.2 a ha b hb
  · unfold kept2 at *
    rw [List.append_assoc, List.pairwise_append] at h
    rw [List.pairwise_append]
    obtain ⟨k1, k2, k3⟩ := h
    rw [List.pairwise_append] at k2
    refine ⟨k1, List.pairwise_cons.2 ⟨fun y hy => .inr (h2 y hy), k2.1⟩, fun a ha b hb => ?_⟩
    rcases List.mem_cons.1 hb with rfl | hb
    · exact k3 a ha b (by simp)
    · exact k3 a ha b (by simp [hb])
/-- The first of a sorted list is put behind those that are below it. -/
theorem Sd.insertF (hw : Swo S lt f) {L1 L2 : List α} {x : α} (hS : ∀ y ∈ L1 ++ L2, S y) (hx : S x) (hs : srt lt (L1 ++ L2)) (h1 : ∀ y ∈ L1, lt y x = true) (h2 : ∀ y ∈ L2, lt y x = false) : Sd lt (x :: (L1 ++ L2)) (L1 ++ x :: L2) := by
  refine ⟨?_, ?_, fun tb h => ?_⟩
  · exact List.perm_middle
  · unfold srt at *
    rw [List.pairwise_append] at hs ⊢
    refine ⟨hs.1, List.pairwise_cons.2 ⟨fun y hy => h2 y hy, hs.2.1⟩, fun a ha b hb => ?_⟩
    rcases List.mem_cons.1 hb with rfl | hb
    · exact hw.asym a b (hS a (List.mem_append_left _ ha)) hx (h1 a ha)
    · exact hs.2.2 a ha b hb
  · unfold kept2 at *
    rw [List.pairwise_cons, List.pairwise_append] at h
    obtain ⟨k0, k1, k2, k3⟩ := h
    rw [List.pairwise_append]
    refine ⟨k1, List.pairwise_cons.2 ⟨fun y hy => k0 y (List.mem_append_right _ hy), k2⟩, fun a ha b hb => ?_⟩
    rcases List.mem_cons.1 hb with rfl | hb
    · exact .inr (h1 a ha)
    · exact k3 a ha b hb
/-- Two sorted lists are merged by parts. -/
theorem Sd.halves (hw : Swo S lt f) {A1 A2 B1 B2 M1 M2 : List α} (hS : ∀ y ∈ (A1 ++ A2) ++ (B1 ++ B2), S y) (hA : srt lt (A1 ++ A2)) (hB : srt lt (B1 ++ B2))
    (hi : ∀ x ∈ A1, ∀ y ∈ B2, lt y x = false) (hii : ∀ y ∈ B1, ∀ x ∈ A2, lt y x = true) (h1 : Sd lt (A1 ++ B1) M1) (h2 : Sd lt (A2 ++ B2) M2) : Sd lt ((A1 ++ A2) ++ (B1 ++ B2)) (M1 ++ M2) := by
  refine ⟨?_, ?_, fun tb h => ?_⟩
  · refine (h1.perm.append h2.perm).trans ?_
    have : (A1 ++ B1) ++ (A2 ++ B2) = A1 ++ (B1 ++ (A2 ++ B2)) := by simp
    rw [this]
    have : (A1 ++ A2) ++ (B1 ++ B2) = A1 ++ (A2 ++ (B1 ++ B2)) := by simp
    rw [this, List.perm_append_left_iff]
    have e1 : B1 ++ (A2 ++ B2) = (B1 ++ A2) ++ B2 := by simp
    have e2 : A2 ++ (B1 ++ B2) = (A2 ++ B1) ++ B2 := by simp
    rw [e1, e2, List.perm_append_right_iff]
    exact List.perm_append_comm
  · unfold srt
    rw [List.pairwise_append]
    refine ⟨h1.srtd, h2.srtd, fun a ha b hb => ?_⟩
    unfold srt at hA hB
    rw [List.pairwise_append] at hA hB
    have sA2 : ∀ x ∈ A2, S x := fun x hx => hS x (by simp [hx])
    have sB1 : ∀ x ∈ B1, S x := fun x hx => hS x (by simp [hx])
    rcases List.mem_append.1 (h1.mem.1 ha) with ha | ha <;> rcases List.mem_append.1 (h2.mem.1 hb) with hb | hb
    · exact hA.2.2 a ha b hb
    · exact hi a ha b hb
    · exact hw.asym a b (sB1 a ha) (sA2 b hb) (hii a ha b hb)
    · exact hB.2.2 a ha b hb
  · unfold kept2 at *
    have hp : (A1 ++ B1 ++ (A2 ++ B2)).Pairwise (fun x y => tb x y ∨ lt x y = true) := by
      simp only [List.pairwise_append, List.mem_append] at h ⊢
      obtain ⟨⟨k1, k2, k3⟩, ⟨k4, k5, k6⟩, k7⟩ := h
      refine ⟨⟨k1, k4, fun a ha b hb => k7 a (.inl ha) b (.inl hb)⟩, ⟨k2, k5, fun a ha b hb => k7 a (.inr ha) b (.inr hb)⟩, fun a ha b hb => ?_⟩
      rcases ha with ha | ha <;> rcases hb with hb | hb
      · exact k3 a ha b hb
      · exact k7 a (.inl ha) b (.inr hb)
      · exact .inr (hii a ha b hb)
      · exact k6 a ha b hb
    rw [List.pairwise_append] at hp
    rw [List.pairwise_append]
    exact ⟨h1.kept tb hp.1, h2.kept tb hp.2.1, fun a ha b hb => hp.2.2 a (h1.mem.1 ha) b (h2.mem.1 hb)⟩
theorem srt_left {A B : List α} (h : srt lt (A ++ B)) : srt lt A := by unfold srt at *; exact (List.pairwise_append.1 h).1
theorem srt_right {A B : List α} (h : srt lt (A ++ B)) : srt lt B := by unfold srt at *; exact (List.pairwise_append.1 h).2.1

/-- M is L in another order: out of their old order are only those that had to change. -/
structure Pk (lt : α → α → Bool) (L M : List α) : Prop where
  perm : M.Perm L
  kept : ∀ tb : α → α → Prop, kept2 lt tb L → kept2 lt tb M
theorem Sd.pk {L M : List α} (h : Sd lt L M) : Pk lt L M := ⟨h.perm, h.kept⟩
theorem Pk.refl (L : List α) : Pk lt L L := ⟨List.Perm.refl _, fun _ h => h⟩
theorem Pk.trans {L M N : List α} (h1 : Pk lt L M) (h2 : Pk lt M N) : Pk lt L N := ⟨h2.perm.trans h1.perm, fun tb h => h2.kept tb (h1.kept tb h)⟩
theorem Pk.sd {L M : List α} (h : Pk lt L M) (hs : srt lt M) : Sd lt L M := ⟨h.perm, hs, h.kept⟩
theorem Pk.mid {L M : List α} (h : Pk lt L M) (P Q : List α) : Pk lt (P ++ (L ++ Q)) (P ++ (M ++ Q)) := by
  refine ⟨(List.perm_append_left_iff P).2 (h.perm.append_right Q), fun tb hk => ?_⟩
  unfold kept2 at *
  simp only [List.pairwise_append, List.mem_append] at hk ⊢
  obtain ⟨k1, ⟨k2, k3, k4⟩, k5⟩ := hk
  refine ⟨k1, ⟨h.kept tb k2, k3, fun a ha b hb => k4 a (h.perm.mem_iff.1 ha) b hb⟩, fun a ha b hb => ?_⟩
  rcases hb with hb | hb
  · exact k5 a ha b (.inl (h.perm.mem_iff.1 hb))
  · exact k5 a ha b (.inr hb)
theorem Pk.len {L M : List α} (h : Pk lt L M) : M.length = L.length := h.perm.length_eq
theorem Pk.all {L M : List α} (h : Pk lt L M) (hS : ∀ x ∈ L, S x) : ∀ x ∈ M, S x := fun x hx => hS x (h.perm.mem_iff.1 hx)

/-- Blocks that are sorted. -/
inductive Bl (lt : α → α → Bool) (n : Nat) : List α → Prop
  | last {A : List α} : A.length ≤ n → srt lt A → Bl lt n A
  | more {A R : List α} : A.length = n → srt lt A → Bl lt n R → Bl lt n (A ++ R)
inductive BlF (lt : α → α → Bool) (n : Nat) : List α → Prop
  | nil : BlF lt n []
  | snoc {P M : List α} : BlF lt n P → M.length = n → srt lt M → BlF lt n (P ++ M)
theorem BlF.bl {n : Nat} {P : List α} (h : BlF lt n P) : ∀ {D : List α}, Bl lt n D → Bl lt n (P ++ D) := by
  induction h with
  | nil => intro D hD; simpa using hD
  | snoc _ h1 h2 ih => intro D hD; rw [List.append_assoc]; exact ih (.more h1 h2 hD)
theorem Bl.all {n : Nat} {D : List α} (h : Bl lt n D) (hn : D.length ≤ n) : srt lt D := by
  cases h with
  | last _ h => exact h
  | @more A R h1 h2 _ =>
    rw [List.length_append] at hn
    have : R = [] := List.length_eq_zero_iff.1 (by omega)
    rw [this, List.append_nil]; exact h2
/-- The first block. -/
theorem Bl.first {n : Nat} {D : List α} (h : Bl lt n D) (hn : n ≤ D.length) : ∃ A R, D = A ++ R ∧ A.length = n ∧ srt lt A ∧ Bl lt n R := by
  cases h with
  | last h1 h2 => exact ⟨D, [], by simp, by omega, h2, .last (by simp) srt_nil⟩
  | @more A R h1 h2 h3 => exact ⟨A, R, rfl, h1, h2, h3⟩

/-- There is one sorted list in which ties are as they were. -/
theorem sorted_one : ∀ {M N : List α} (R : α → α → Prop), (∀ x y, x ∈ M → y ∈ M → R x y → R y x → x = y) → M.Perm N → M.Pairwise R → N.Pairwise R → M = N
  | [], N, R, _, hp, _, _ => (List.Perm.nil_eq hp)
  | x :: M, N, R, ha, hp, h1, h2 => by
    cases N with
    | nil => exact absurd hp.length_eq (by simp)
    | cons y N =>
      have hxy : x = y := by
        have hx : x ∈ y :: N := hp.mem_iff.1 (by simp)
        have hy : y ∈ x :: M := hp.mem_iff.2 (by simp)
        rcases List.mem_cons.1 hx with e | hx
        · exact e
        · rcases List.mem_cons.1 hy with e | hy
          · exact e.symm
          · exact ha x y (by simp) (by simp [hy]) ((List.pairwise_cons.1 h1).1 y hy) ((List.pairwise_cons.1 h2).1 x hx)
      subst hxy
      rw [sorted_one R (fun a b h3 h4 => ha a b (by simp [h3]) (by simp [h4])) (List.Perm.cons_inv hp) (List.pairwise_cons.1 h1).2 (List.pairwise_cons.1 h2).2]
theorem Sd.one {L M N : List α} (tb : α → α → Prop) (htb : ∀ x y, tb x y → ¬ tb y x) (hL : kept2 lt tb L) (h1 : Sd lt L M) (h2 : Sd lt L N) : M = N := by
  refine sorted_one (fun x y => lt y x = false ∧ (tb x y ∨ lt x y = true)) (fun x y _ _ a b => ?_) (h1.perm.trans h2.perm.symm) ?_ ?_
  · obtain ⟨a1, a2⟩ := a
    obtain ⟨b1, b2⟩ := b
    rcases a2 with a2 | a2
    · rcases b2 with b2 | b2
      · exact absurd b2 (htb x y a2)
      · rw [a1] at b2; cases b2
    · rw [b1] at a2; cases a2
  · exact (h1.srtd.and (h1.kept tb hL)).imp (fun h => h)
  · exact (h2.srtd.and (h2.kept tb hL)).imp (fun h => h)
end

end Go.DB
