/-
  Signs of a diagram: the sign of a cell, told by the reference.
-/
import Derived.Test.YtbogpbomhmabhaaGreatDoorSkePuSke3
set_option linter.unusedSimpArgs false
set_option linter.unusedVariables false
namespace Go.DB
open Go Go.RowKit

/-! Stretches in a cell. -/

theorem sk_signL2 {L T w h : Int} (hL : -1000000 ≤ L ∧ L ≤ 1000000) (hT : -1000000 ≤ T ∧ T ≤ 1000000) (hw : 1 ≤ w ∧ w ≤ 20000) (hh : 1 ≤ h ∧ h ≤ 20000) {i k : Nat} (hi : i ≤ 200) (hk : k ≤ 200) {l : List Point} (hl1 : 1 ≤ l.length) (hl2 : l.length ≤ 60) :
    ∃ e, loop (law_sign_L2 (⟨L + k * w, T + i * h, w, h⟩ : Box) l) 1 = some e ∧ (e = Res.ab (Res.ab (⟨[42]⟩ : Str)) ∧ (∃ p ∈ lnUpto l l.length, tch L T w h p i k) ∨ e = Res.nx () ∧ ¬ ∃ p ∈ lnUpto l l.length, tch L T w h p i k) := by
  have m1 := mul_bd (w := 0) hk (Nat.le_refl 200) hw.1 hw.2
  have m2 := mul_bd (w := 0) hi (Nat.le_refl 200) hh.1 hh.2
  refine loop_inv (body := law_sign_L2 (⟨L + k * w, T + i * h, w, h⟩ : Box) l) (s0 := 1) (fun t => ∃ n : Nat, 1 ≤ n ∧ n ≤ l.length ∧ t = (n : Int) ∧ ¬ ∃ p ∈ lnUpto l n, tch L T w h p i k) (fun t => l.length - t.toNat) _
    ⟨1, by omega, hl1, rfl, by rw [lnUpto_one]; simp⟩ (fun t ⟨n, n1, n2, ht, n3⟩ => by
      subst ht
      unfold law_sign_L2
      by_cases hn : n < l.length
      · rw [decide_eq_true (by omega), cond_true, Wk (n := (n : Int) - 1) (by omega) (by omega), need_of ⟨by omega, by omega⟩, bnd_eq, need_of ⟨by omega, by omega⟩, bnd_eq]
        have hst : (decide ((decide ((gx l ((n : Int) - 1)).X = (gx l (n : Int)).X)) = (decide ((gx l ((n : Int) - 1)).Y = (gx l (n : Int)).Y)))) = !strt (gx l ((n : Int) - 1)) (gx l (n : Int)) := by unfold strt; rw [Bool.not_not]
        simp only
        rw [hst, Wk (n := L + (k : Int) * w + w) (by omega) (by omega), Wk (n := T + (i : Int) * h + h) (by omega) (by omega), Wk (n := (n : Int) + 1) (by omega) (by omega)]
        have hsn := lnUpto_snoc (l := l) n1
        cases hs : strt (gx l ((n : Int) - 1)) (gx l (n : Int)) with
        | false =>
          rw [hs, if_neg (by simp)] at hsn
          left
          exact ⟨((n + 1 : Nat) : Int), rfl, ⟨n + 1, by omega, by omega, rfl, by rw [hsn]; exact n3⟩, by omega⟩
        | true =>
          rw [hs, if_pos rfl] at hsn
          rw [Bool.not_true, cond_false]
          by_cases htc : tch L T w h (gx l ((n : Int) - 1), gx l (n : Int)) i k
          · right
            obtain ⟨⟨a1, a2⟩, a3, a4⟩ := htc
            rw [decide_eq_true a1, decide_eq_true a2, decide_eq_true a3, decide_eq_true a4]
            refine ⟨_, rfl, .inl ⟨rfl, (gx l ((n : Int) - 1), gx l (n : Int)), (lnUpto_mem (Nat.le_refl _)).2 ⟨n, n1, hn, hs, rfl⟩, ⟨a1, a2⟩, a3, a4⟩⟩
          · left
            have e : ((((decide ((min (gx l ((n : Int) - 1)).X (gx l (n : Int)).X) < L + (k : Int) * w + w)) && (decide (L + (k : Int) * w ≤ (max (gx l ((n : Int) - 1)).X (gx l (n : Int)).X)))) && (decide ((min (gx l ((n : Int) - 1)).Y (gx l (n : Int)).Y) < T + (i : Int) * h + h))) && (decide (T + (i : Int) * h ≤ (max (gx l ((n : Int) - 1)).Y (gx l (n : Int)).Y)))) = false := by
              cases hq : ((((decide ((min (gx l ((n : Int) - 1)).X (gx l (n : Int)).X) < L + (k : Int) * w + w)) && (decide (L + (k : Int) * w ≤ (max (gx l ((n : Int) - 1)).X (gx l (n : Int)).X)))) && (decide ((min (gx l ((n : Int) - 1)).Y (gx l (n : Int)).Y) < T + (i : Int) * h + h))) && (decide (T + (i : Int) * h ≤ (max (gx l ((n : Int) - 1)).Y (gx l (n : Int)).Y)))) with
              | false => rfl
              | true =>
                simp only [Bool.and_eq_true, decide_eq_true_eq] at hq
                exact absurd ⟨hq.1.1, hq.1.2, hq.2⟩ htc
            rw [e]
            refine ⟨((n + 1 : Nat) : Int), rfl, ⟨n + 1, by omega, by omega, rfl, ?_⟩, by omega⟩
            rw [hsn]
            rintro ⟨p, hp, hp2⟩
            rcases List.mem_append.1 hp with hp | hp
            · exact n3 ⟨p, hp, hp2⟩
            · rw [List.mem_singleton] at hp; subst hp; exact htc hp2
      · right
        rw [decide_eq_false (by omega), cond_false]
        have : n = l.length := by omega
        subst this
        exact ⟨_, rfl, .inr ⟨rfl, n3⟩⟩)

theorem sk_signE {d : Doc} (hc : page_Check d = some 0) (hr : Right d) {L T w h : Int} (hL : -1000000 ≤ L ∧ L ≤ 1000000) (hT : -1000000 ≤ T ∧ T ≤ 1000000) (hw : 1 ≤ w ∧ w ≤ 20000) (hh : 1 ≤ h ∧ h ≤ 20000) {i k : Nat} (hi : i ≤ 200) (hk : k ≤ 200) :
    rforE (d.Edges.length : Int) (law_sign_L1 (⟨L + k * w, T + i * h, w, h⟩ : Box) d) (fun s => Res.nx s) () = some (if ∃ p ∈ lanesD d d.Edges.length, tch L T w h p i k then Res.ab (⟨[42]⟩ : Str) else Res.nx ()) := by
  have hel := hr.el
  obtain ⟨e, e1, e2⟩ := rforE_inv (n := (d.Edges.length : Int)) (step := law_sign_L1 (⟨L + k * w, T + i * h, w, h⟩ : Box) d) (fin := fun s => Res.nx s) (s0 := ())
    (fun n _ => ¬ ∃ p ∈ lanesD d n, tch L T w h p i k) (fun e => e = if ∃ p ∈ lanesD d d.Edges.length, tch L T w h p i k then Res.ab (⟨[42]⟩ : Str) else Res.nx ()) (by omega) (by simp [lanesD]) (fun n s hn hs => by
      have hn' : n < d.Edges.length := by omega
      obtain ⟨l, l1, l2, l3, l4, l5⟩ := sk_line hc hr hn'
      have hsn := lanesD_snoc hn'
      rw [liD_eq l2] at hsn
      unfold law_sign_L1
      rw [need_of ⟨by omega, by omega⟩, bnd_eq, gx_nat hn', l2, Option.bind_some]
      obtain ⟨e, e1, e2⟩ := sk_signL2 hL hT hw hh hi hk l3 l4
      rw [e1]
      rcases e2 with ⟨rfl, p, hp, hp2⟩ | ⟨rfl, hno⟩
      · right
        refine ⟨_, rfl, ?_⟩
        have hin : ∃ p ∈ lanesD d d.Edges.length, tch L T w h p i k := by
          refine ⟨p, ?_, hp2⟩
          unfold lanesD
          rw [List.take_length, List.mem_flatMap]
          exact ⟨d.Edges[n], List.getElem_mem hn', by rw [liD_eq l2]; exact hp⟩
        rw [if_pos hin]
      · left
        refine ⟨_, rfl, ?_⟩
        rw [hsn]
        rintro ⟨p, hp, hp2⟩
        rcases List.mem_append.1 hp with hp | hp
        · exact hs ⟨p, hp, hp2⟩
        · exact hno ⟨p, hp, hp2⟩) (fun s hs => by
      have en : ((d.Edges.length : Int)).toNat = d.Edges.length := by omega
      rw [en] at hs
      rw [if_neg hs])
  rw [e1, e2]

/-! What is at a point. -/

/-- A node that is no group has a point. -/
noncomputable def hitB (l : List DNode) (p : Point) (k : Int) : Bool := decide ((gx l k).Kind ≠ 6) && decide (0 ≤ (shape_has (gx l k).Kind (gx l k).Box p).getD 0)
theorem sk_Has {k : Int} {b : Box} {p : Point} (hk : 1 ≤ k ∧ k ≤ 5) (hb : okB b) (hp : okP p) : shape_Has k b p = Option.bind (shape_has k b p) fun r => some (r, 0) := by
  unfold shape_Has shape_isKind
  rw [decide_eq_true hk.1, decide_eq_true hk.2, CheckBox_eq, boxErr_zero.2 hb, CheckPoint_eq, ptErr_zero.2 hp]
  rfl
theorem sk_HasE {k : Int} {b : Box} {p : Point} (hk : 1 ≤ k ∧ k ≤ 5) (hb : okB b) (hp : ptErr p ≠ 0) : shape_Has k b p = some (0, ptErr p) := by
  unfold shape_Has shape_isKind
  rw [decide_eq_true hk.1, decide_eq_true hk.2, CheckBox_eq, boxErr_zero.2 hb, CheckPoint_eq]
  have : decide (ptErr p = 0) = false := decide_eq_false hp
  simp [this]
theorem sk_find {d : Doc} (h : Right d) (p : Point) : ∃ n b, page_Finder_1 p (ordT d.Nodes) d = some (n, b) ∧
    (ptErr p ≠ 0 → b = false) ∧ (ptErr p = 0 → match (ordT d.Nodes).reverse.find? (hitB d.Nodes p) with | some k => b = true ∧ n = gx d.Nodes k | none => b = false) := by
  have hlen := ordT_len h
  unfold page_Finder_1
  simp only [bnd_eq]
  have hlp : ∃ e, loop (page_Finder_1_L1 p (ordT d.Nodes) d) (W ((ordT d.Nodes).length - 1 : Int)) = some e ∧ (ptErr p ≠ 0 → e = Res.nx ()) ∧ (ptErr p = 0 → match (ordT d.Nodes).reverse.find? (hitB d.Nodes p) with | some k => e = Res.ab (gx d.Nodes k, true) | none => e = Res.nx ()) := by
    rw [Wk (by omega) (by omega)]
    refine loop_inv (body := page_Finder_1_L1 p (ordT d.Nodes) d) (fun t => ∃ n : Nat, n ≤ (ordT d.Nodes).length ∧ t = (n : Int) - 1 ∧ (ptErr p = 0 → (ordT d.Nodes).reverse.find? (hitB d.Nodes p) = ((ordT d.Nodes).take n).reverse.find? (hitB d.Nodes p))) (fun t => (t + 1).toNat) _
      ⟨(ordT d.Nodes).length, Nat.le_refl _, rfl, fun _ => by rw [List.take_length]⟩ (fun t ⟨n, n1, ht, n2⟩ => by
        subst ht
        unfold page_Finder_1_L1
        cases n with
        | zero =>
          right
          rw [decide_eq_false (by omega), cond_false]
          refine ⟨_, rfl, fun _ => rfl, fun hp => ?_⟩
          rw [n2 hp]; rfl
        | succ n =>
          have e1 : ((n + 1 : Nat) : Int) - 1 = (n : Int) := by omega
          rw [e1, decide_eq_true (by omega), cond_true, need_of ⟨by omega, by omega⟩]
          obtain ⟨j, hj, hj2⟩ := ordT_mem h (gx_mem (l := ordT d.Nodes) (k := (n : Int)) ⟨by omega, by omega⟩)
          have hgn : (ordT d.Nodes)[n]'(by omega) = (j : Int) := by rw [← hj, gx_nat (by omega)]
          have htk : (ordT d.Nodes).take (n + 1) = (ordT d.Nodes).take n ++ [(j : Int)] := by rw [List.take_succ_eq_append_getElem (by omega), hgn]
          rw [hj, need_of ⟨by omega, by omega⟩, Wk (n := (n : Int) - 1) (by omega) (by omega)]
          have hat := h.at (List.getElem_mem hj2)
          have hfd : ∀ (q : ptErr p = 0), (ordT d.Nodes).reverse.find? (hitB d.Nodes p) = if hitB d.Nodes p (j : Int) = true then some (j : Int) else ((ordT d.Nodes).take n).reverse.find? (hitB d.Nodes p) := fun q => by
            rw [n2 q, htk, List.reverse_append]
            show ([(j : Int)] ++ _).find? _ = _
            rw [List.singleton_append, List.find?_cons]
            cases hitB d.Nodes p (j : Int) <;> rfl
          have hgo : hitB d.Nodes p (j : Int) = false ∨ ptErr p ≠ 0 → ∃ s', (some (Step.again ((n : Int) - 1)) : Option (Step Int (Res Unit (DNode × Bool)))) = some (.again s') ∧ (∃ n' : Nat, n' ≤ (ordT d.Nodes).length ∧ s' = (n' : Int) - 1 ∧ (ptErr p = 0 → (ordT d.Nodes).reverse.find? (hitB d.Nodes p) = ((ordT d.Nodes).take n').reverse.find? (hitB d.Nodes p))) ∧ (s' + 1).toNat < ((n : Int) + 1).toNat := fun hq =>
            ⟨_, rfl, ⟨n, by omega, rfl, fun q => by
              rw [hfd q]
              rcases hq with hq | hq
              · rw [hq, if_neg (by simp)]
              · exact absurd q hq⟩, by omega⟩
          rw [bnd_eq, gx_nat hj2]
          by_cases hk : d.Nodes[j].Kind = 6
          · left
            rw [decide_eq_true hk, cond_true]
            have : hitB d.Nodes p (j : Int) = false := by unfold hitB; rw [gx_nat hj2, decide_eq_false (by simpa using hk), Bool.false_and]
            exact hgo (.inl this)
          · have hkk : 1 ≤ d.Nodes[j].Kind ∧ d.Nodes[j].Kind ≤ 5 := by have := hat.2.1; omega
            have hb := hat.2.2 hk
            rw [decide_eq_false hk, cond_false]
            by_cases hp : ptErr p = 0
            · have hpk := ptErr_zero.1 hp
              obtain ⟨r, r1, _⟩ := has_both (k := d.Nodes[j].Kind) (p := p) hb (by have := hpk.1; omega) (by have := hpk.2.1; omega) (by have := hpk.2.2.1; omega) (by have := hpk.2.2.2; omega)
              rw [sk_Has hkk hb hpk, r1, Option.bind_some, Option.bind_some]
              have hh : hitB d.Nodes p (j : Int) = decide (0 ≤ r) := by unfold hitB; rw [gx_nat hj2, decide_eq_true (by simpa using hk), Bool.true_and, r1]; rfl
              by_cases h0 : 0 ≤ r
              · right
                rw [decide_eq_true h0]
                refine ⟨_, rfl, fun q => absurd hp q, fun q => ?_⟩
                rw [hfd q, hh, decide_eq_true h0, if_pos rfl]
                simp only
                rw [gx_nat hj2]
              · left
                rw [decide_eq_false h0]
                exact hgo (.inl (by rw [hh, decide_eq_false h0]))
            · left
              rw [sk_HasE hkk hb hp, Option.bind_some]
              have e : decide (((0 : Int), ptErr p).2 = 0) = false := decide_eq_false hp
              rw [e]
              exact hgo (.inr hp))
  obtain ⟨e, h1, h2, h3⟩ := hlp
  rw [h1]
  by_cases hp : ptErr p = 0
  · have := h3 hp
    cases hf : (ordT d.Nodes).reverse.find? (hitB d.Nodes p) with
    | none =>
      rw [hf] at this
      simp only at this
      subst this
      exact ⟨_, _, rfl, fun _ => rfl, fun _ => rfl⟩
    | some k =>
      rw [hf] at this
      simp only at this
      subst this
      exact ⟨_, _, rfl, fun q => absurd hp q, fun _ => ⟨rfl, rfl⟩⟩
  · have := h2 hp
    subst this
    exact ⟨_, _, rfl, fun _ => rfl, fun q => absurd q hp⟩
end Go.DB
