/-
  Totals of ranks: the law in plain words.
-/
import Derived.Test.YtbahnfkccdlpnaaTLaPuGraph
set_option linter.unusedSimpArgs false
set_option linter.unusedVariables false
namespace Go.DB
open Go Go.RowKit

def rankOut (k : Int) : Bool := !decide (0 ≤ k ∧ k ≤ 1000)
def stepD (ranks : List Int) (x : Link) : Int := gx ranks x.To - gx ranks x.From
def sumD (ranks : List Int) (l : List Link) (s : Int) : Int := l.foldl (fun s x => W (s + stepD ranks x)) s

/-- What the program's total comes to. -/
def totalOf (n : Int) (l : List Link) (ranks : List Int) : Int × Int :=
  if graphErr n l ≠ 0 then (0, graphErr n l) else if (ranks.length : Int) ≠ n then (0, 2) else if ranks.any rankOut = true then (0, 3) else
  if l.any (fun x => decide (gx ranks x.To ≤ gx ranks x.From)) = true then (0, 7) else (sumD ranks l 0, 0)

theorem stepD_bd {n : Int} {l : List Link} {ranks : List Int} (hg : graphErr n l = 0) (hn : (ranks.length : Int) = n) (hr : ranks.any rankOut = false) {x : Link} (hx : x ∈ l) :
    inR ranks x.To ∧ inR ranks x.From ∧ (0 ≤ gx ranks x.To ∧ gx ranks x.To ≤ 1000) ∧ (0 ≤ gx ranks x.From ∧ gx ranks x.From ≤ 1000) ∧ W (gx ranks x.To - gx ranks x.From) = stepD ranks x := by
  obtain ⟨_, _, _, h⟩ := graphErr_zero hg
  obtain ⟨a, b, c, d, _⟩ := h x hx
  have h1 : inR ranks x.To := ⟨c, by omega⟩
  have h2 : inR ranks x.From := ⟨a, by omega⟩
  have hb : ∀ k, inR ranks k → 0 ≤ gx ranks k ∧ gx ranks k ≤ 1000 := by
    intro k hk
    have hm := gx_mem hk
    rw [List.any_eq_false] at hr
    have := hr _ hm
    simpa [rankOut] using this
  have g1 := hb _ h1
  have g2 := hb _ h2
  exact ⟨h1, h2, g1, g2, Wk (by omega) (by omega)⟩

theorem Total_eq (n : Int) (l : List Link) (ranks : List Int) : layer_Total n l ranks = some (totalOf n l ranks) := by
  unfold layer_Total totalOf
  rw [layer_Check_eq]
  simp only [bind_sm]
  by_cases hg : graphErr n l = 0
  · obtain ⟨hn1, hn2, hl, hall⟩ := graphErr_zero hg
    simp only [hg, decide_true, Bool.not_true, cond_false, ne_eq, not_true_eq_false, if_false]
    by_cases hn : (ranks.length : Int) = n
    · simp only [hn, decide_true, Bool.not_true, cond_false, not_true_eq_false, if_false]
      rw [← hn, rforE_any rankOut (Res.ab ((0, 3) : Int × Int)) (by omega) (fun i hi => ?_)]
      · by_cases hr : ranks.any rankOut = true
        · simp only [hr, if_true, bindR_ab]
        · have hr' : ranks.any rankOut = false := by simpa using hr
          simp only [hr, if_false, bindR_nx]
          have key : ∀ (m : List Link), (∀ x ∈ m, x ∈ l) → ∀ s, lgoE (fun x s => if gx ranks x.To ≤ gx ranks x.From then some (Res.ab (Res.ab ((0, 7) : Int × Int))) else some (Res.nx (W (s + stepD ranks x)))) (fun s => (Res.nx s : Res Int (Int × Int))) m s =
              some (if m.any (fun x => decide (gx ranks x.To ≤ gx ranks x.From)) = true then Res.ab (0, 7) else Res.nx (sumD ranks m s)) := by
            intro m
            induction m with
            | nil => intro _ s; rfl
            | cons x m ih =>
              intro hm s
              rw [lgoE]
              by_cases hle : gx ranks x.To ≤ gx ranks x.From
              · simp [hle]
              · simp only [hle, if_false, List.any_cons, decide_false, Bool.false_or]
                rw [ih (fun y hy => hm y (by simp [hy]))]
                rfl
          rw [rforE_list (fun x s => if gx ranks x.To ≤ gx ranks x.From then some (Res.ab (Res.ab ((0, 7) : Int × Int))) else some (Res.nx (W (s + stepD ranks x)))) (by omega) (fun i s hi => ?_), key l (fun _ h => h) 0]
          · cases hb : l.any (fun x => decide (gx ranks x.To ≤ gx ranks x.From)) with
            | true => simp
            | false => simp
          · unfold layer_Total_L2
            obtain ⟨h1, h2, g1, g2, g3⟩ := stepD_bd hg hn hr' (gx_mem hi)
            rw [need_of hi]
            simp only [bnd_eq]
            rw [need_of h1, need_of h2, g3]
            by_cases hle : gx ranks (gx l i).To ≤ gx ranks (gx l i).From
            · have : stepD ranks (gx l i) < 1 := by unfold stepD; omega
              simp [this, hle]
            · have : ¬ stepD ranks (gx l i) < 1 := by unfold stepD; omega
              simp [this, hle]
      · unfold layer_Total_L1 rankOut
        rw [need_of hi]
        simp only [bnd_eq]
        generalize gx ranks i = r
        by_cases h : 0 ≤ r ∧ r ≤ 1000
        · have h1 : ¬ r < 0 := by omega
          have h2 : ¬ 1000 < r := by omega
          simp [h, h1, h2]
        · by_cases h1 : r < 0
          · simp [h1, h]
          · have h2 : 1000 < r := by omega
            simp [h1, h2, h]
    · simp [hn]
  · simp [hg]

end Go.DB
