/-
  Functions of four results.
-/
import Derived.Test.YtlbbcehlhbaggaaGreatDoorCore51
set_option linter.unusedSimpArgs false
set_option linter.unusedVariables false
namespace Go.DB
open Go Go.RowKit

theorem results_four {P : Program} {fn : Func} {r1 r2 r3 r4 : ResultVar} {tmps : Array Value} {w : World} {v1 v2 v3 v4 : Value} (h : fn.results = #[r1, r2, r3, r4]) (h1 : (resVal tmps r1).run P w = .ok v1 w)
    (h2 : (resVal tmps r2).run P w = .ok v2 w) (h3 : (resVal tmps r3).run P w = .ok v3 w) (h4 : (resVal tmps r4).run P w = .ok v4 w) : (results fn tmps).run P w = .ok (.tuple #[v1, v2, v3, v4]) w := by
  have : results fn tmps = (do let vs ← (#[r1, r2, r3, r4] : Array ResultVar).mapM (resVal tmps); pure (if h : vs.size = 1 then vs[0] else .tuple vs)) := by
    unfold results; rw [h]; rfl
  rw [this]
  simp [go_sem, h1, h2, h3, h4]
theorem Ends.ret4O {P : Program} {fn : Func} {n : Nat} {F : Fr} {L : Slots} {B : Owns} {e : Exit} (he : e = .ret ∨ e = .normal) {r1 r2 r3 r4 : ResultVar} {S1 S2 S3 S4 : SPred} {an : List Value} {outs : List (Option CPred)} (ks : List Nat) (hr : fn.results = #[r1, r2, r3, r4]) (hnd : ks.Nodup) (ho : OutL B #[r1, r2, r3, r4] an ks outs)
    (h1 : ResOK P L B r1 S1) (h2 : ResOK P L B r2 S2) (h3 : ResOK P L B r3 S3) (h4 : ResOK P L B r4 S4) :
    Ends (bodyPost P fn (PostO F (tup [S1, S2, S3, S4]) an outs)) e n F L B := by
  rintro a w ⟨M, D, hs⟩
  obtain ⟨v1, h1, h1', _⟩ := h1.get hs
  obtain ⟨v2, h2, h2', _⟩ := h2.get hs
  obtain ⟨v3, h3, h3', _⟩ := h3.get hs
  obtain ⟨v4, h4, h4', _⟩ := h4.get hs
  have : a.defers = [] ∧ ∃ v, (results fn a.tmps).run P w = .ok v w ∧ PostO F (tup [S1, S2, S3, S4]) an outs (.returned v) w := ⟨hs.defers, _, results_four hr h1 h2 h3 h4, Post.mk hs ⟨[v1, v2, v3, v4], rfl, rfl, fun i S u hi hu => by
    match i with
    | 0 => simp at hi hu; subst hi hu; exact h1'
    | 1 => simp at hi hu; subst hi hu; exact h2'
    | 2 => simp at hi hu; subst hi hu; exact h3'
    | 3 => simp at hi hu; subst hi hu; exact h4'
    | i + 4 => simp at hi⟩ ho hnd (fun k hk => by simp at hk)⟩
  rcases he with rfl | rfl <;> exact this
theorem Ends.ret4 {P : Program} {fn : Func} {n : Nat} {F : Fr} {L : Slots} {B : Owns} {e : Exit} (he : e = .ret ∨ e = .normal) {r1 r2 r3 r4 : ResultVar} {S1 S2 S3 S4 : SPred} (hr : fn.results = #[r1, r2, r3, r4]) (h1 : ResOK P L B r1 S1) (h2 : ResOK P L B r2 S2) (h3 : ResOK P L B r3 S3) (h4 : ResOK P L B r4 S4) :
    Ends (bodyPost P fn (Post F (tup [S1, S2, S3, S4]))) e n F L B := Ends.ret4O he [] hr .nil .nil h1 h2 h3 h4
end Go.DB
