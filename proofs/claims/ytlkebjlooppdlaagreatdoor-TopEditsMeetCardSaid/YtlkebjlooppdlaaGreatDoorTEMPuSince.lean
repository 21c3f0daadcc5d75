/-
  Stamps that are looked at, and what the program makes of them.
-/
import Derived.Test.YtlkebjlooppdlaaGreatDoorTEMPuOpsR
set_option linter.unusedSimpArgs false
set_option linter.unusedVariables false
namespace Go.DB
open Go Go.RowKit

def lateSt (l : List Stamp) (i : Nat) : Bool := decide (0 < (i : Int)) && (Op.bytesLess (gx l (i : Int)).Site.b ((gx l ((i : Int) - 1)).Site).b || (gx l (i : Int)).Site.b == ((gx l ((i : Int) - 1)).Site).b)
def stAt (l : List Stamp) (i : Nat) : Int :=
  firstErr [if nameB (gx l (i : Int)).Site = false then 5 else 0, if lateSt l i = true then 7 else 0, if (gx l (i : Int)).No < 0 then 3 else 0]
def stErr (l : List Stamp) : Int := firstErr ((List.range l.length).map (stAt l))
theorem Since_map {seen : List Stamp} (hl : (seen.length : Int) ≤ 9223372036854775807) :
    (stErr seen ≠ 0 ∧ rforE (seen.length : Int) (edit_Since_L1 seen) (fun s => Res.nx s) GMap.nil = some (.ab (([] : List DOp), stErr seen))) ∨
    (stErr seen = 0 ∧ ∃ m : GMap Str Int, rforE (seen.length : Int) (edit_Since_L1 seen) (fun s => Res.nx s) GMap.nil = some (.nx m) ∧
      ∀ t : Str, (∃ (k : Nat) (hk : k < seen.length), seen[k].Site = t ∧ m.getD t 0 = seen[k].No) ∨ ((∀ (k : Nat) (hk : k < seen.length), seen[k].Site ≠ t) ∧ m.getD t 0 = 0)) := by
  obtain ⟨e, e1, e2⟩ := rforE_inv (n := (seen.length : Int)) (step := edit_Since_L1 seen) (fin := fun s => (Res.nx s : Res (GMap Str Int) (List DOp × Int))) (s0 := GMap.nil)
    (fun i m => (∀ j, j < i → stAt seen j = 0) ∧ ∀ t : Str, (∃ (k : Nat) (hk : k < seen.length), k < i ∧ seen[k].Site = t ∧ m.getD t 0 = seen[k].No) ∨ ((∀ (k : Nat) (hk : k < seen.length), k < i → seen[k].Site ≠ t) ∧ m.getD t 0 = 0))
    (fun e => (stErr seen ≠ 0 ∧ e = .ab (([] : List DOp), stErr seen)) ∨ (stErr seen = 0 ∧ ∃ m : GMap Str Int, e = .nx m ∧
      ∀ t : Str, (∃ (k : Nat) (hk : k < seen.length), seen[k].Site = t ∧ m.getD t 0 = seen[k].No) ∨ ((∀ (k : Nat) (hk : k < seen.length), seen[k].Site ≠ t) ∧ m.getD t 0 = 0))) hl
    ⟨fun j h => by omega, fun t => .inr ⟨fun k hk h => by omega, rfl⟩⟩ (fun i m hi hI => by
      obtain ⟨i1, i2⟩ := hI
      have hib : i < seen.length := by omega
      have hin : inR seen (i : Int) := ⟨by omega, by omega⟩
      have hab : stAt seen i ≠ 0 → stErr seen = stAt seen i := fun h => by
        unfold stErr
        have hsp : List.range seen.length = List.range i ++ (i :: (List.range' (i + 1) (seen.length - i - 1))) := by
          rw [List.range_eq_range', List.range_eq_range', show seen.length = i + (1 + (seen.length - i - 1)) by omega, ← List.range'_append_1, ← List.range'_append_1]
          simp
        rw [hsp, List.map_append, List.map_cons]
        have : ∀ (p q : List Int), (∀ x ∈ p, x = 0) → firstErr (p ++ q) = firstErr q := by
          intro p q hp
          induction p with
          | nil => rfl
          | cons x p ih =>
            rw [List.cons_append, firstErr_cons, if_pos (hp x (by simp))]
            exact ih (fun y hy => hp y (by simp [hy]))
        rw [this _ _ (fun x hx => by obtain ⟨j, hj, rfl⟩ := List.mem_map.1 hx; exact i1 j (List.mem_range.1 hj)), firstErr_cons, if_neg h]
      unfold edit_Since_L1
      rw [need_of hin, bnd_eq, isName_eqE, Option.bind_some]
      cases hn : nameB (gx seen (i : Int)).Site with
      | false =>
        right
        have hv : stAt seen i = 5 := by unfold stAt; rw [if_pos hn]; rfl
        rw [Bool.not_false, cond_true]
        exact ⟨_, rfl, .inl ⟨by rw [hab (by omega)]; omega, by rw [hab (by omega), hv]⟩⟩
      | true =>
        have hn' : ¬ nameB (gx seen (i : Int)).Site = false := by rw [hn]; decide
        rw [Bool.not_true, cond_false]
        have hneed : decide (0 < (i : Int)) = true → inR seen (W ((i : Int) - 1)) := fun h => by
          have := of_decide_eq_true h
          rw [Wk (by omega) (by omega)]; exact ⟨by omega, by omega⟩
        rw [need_of hneed, Wk (n := (i : Int) - 1) (by omega) (by omega)]
        show (∃ s', (bif lateSt seen i then _ else _) = _ ∧ _) ∨ ∃ e, (bif lateSt seen i then _ else _) = _ ∧ _
        cases hlt : lateSt seen i with
        | true =>
          right
          have hv : stAt seen i = 7 := by unfold stAt; rw [if_neg hn', if_pos hlt]; rfl
          rw [cond_true]
          exact ⟨_, rfl, .inl ⟨by rw [hab (by omega)]; omega, by rw [hab (by omega), hv]⟩⟩
        | false =>
          have hlt' : ¬ lateSt seen i = true := by rw [hlt]; decide
          rw [cond_false]
          by_cases h3 : (gx seen (i : Int)).No < 0
          · right
            have hv : stAt seen i = 3 := by unfold stAt; rw [if_neg hn', if_neg hlt', if_pos h3]; rfl
            rw [decide_eq_true h3, cond_true]
            exact ⟨_, rfl, .inl ⟨by rw [hab (by omega)]; omega, by rw [hab (by omega), hv]⟩⟩
          · left
            have hv : stAt seen i = 0 := by unfold stAt; rw [if_neg hn', if_neg hlt', if_neg h3]; rfl
            rw [decide_eq_false h3, cond_false]
            refine ⟨_, rfl, fun j hj => ?_, fun t => ?_⟩
            · by_cases hji : j = i
              · rw [hji]; exact hv
              · exact i1 j (by omega)
            · by_cases ht : t = (gx seen (i : Int)).Site
              · left
                refine ⟨i, hib, by omega, by rw [ht, gx_nat hib], ?_⟩
                show (if t = (gx seen (i : Int)).Site then some (gx seen (i : Int)).No else m.f t).getD 0 = _
                rw [if_pos ht, gx_nat hib]; rfl
              · have hg : (m.set (gx seen (i : Int)).Site (gx seen (i : Int)).No).getD t 0 = m.getD t 0 := by
                  show (if t = (gx seen (i : Int)).Site then some (gx seen (i : Int)).No else m.f t).getD 0 = _
                  rw [if_neg ht]; rfl
                rw [hg]
                rcases i2 t with ⟨k, hk, h1, h2, h4⟩ | ⟨h1, h2⟩
                · exact .inl ⟨k, hk, by omega, h2, h4⟩
                · refine .inr ⟨fun k hk h => ?_, h2⟩
                  by_cases hki : k = i
                  · subst hki; intro e; apply ht; rw [← e, gx_nat hib]
                  · exact h1 k hk (by omega))
    (fun m hI => by
      obtain ⟨i1, i2⟩ := hI
      rw [Int.toNat_natCast] at i1 i2
      right
      refine ⟨firstErr_zero.2 fun x hx => ?_, m, rfl, fun t => ?_⟩
      · obtain ⟨j, hj, rfl⟩ := List.mem_map.1 hx
        exact i1 j (List.mem_range.1 hj)
      · rcases i2 t with ⟨k, hk, h1, h2⟩ | ⟨h1, h2⟩
        · exact .inl ⟨k, hk, h2⟩
        · exact .inr ⟨fun k hk => h1 k hk hk, h2⟩)
  rcases e2 with ⟨c, rfl⟩ | ⟨c, m, rfl, h⟩
  · exact .inl ⟨c, e1⟩
  · exact .inr ⟨c, m, e1, h⟩
end Go.DB
