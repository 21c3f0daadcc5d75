/-
  Operations that are read.
-/
import Derived.Test.YtjnglmeiifcgjaaGreatDoorOppPuPrint
set_option linter.unusedSimpArgs false
set_option linter.unusedVariables false
namespace Go.DB
open Go Go.RowKit

theorem Contains_string (w : List Str) (v : Str) (hw : (w.length : Int) ≤ 9223372036854775807) : slices_Contains_string w v = some (decide (v ∈ w)) := by
  unfold slices_Contains_string slices_Index_string
  obtain ⟨e, h1, h2⟩ := rforE_inv (n := (w.length : Int)) (step := slices_Index_string_L1 w v) (fin := fun s => Res.nx s) (s0 := ()) (fun i _ => ∀ j : Nat, j < i → ∀ hj : j < w.length, v ≠ w[j])
    (fun e => (e = Res.nx () ∧ v ∉ w) ∨ ∃ k : Int, 0 ≤ k ∧ e = Res.ab k ∧ v ∈ w) hw (fun j hj => by omega) (fun i s hi hI => by
      have hi' : i < w.length := by omega
      unfold slices_Index_string_L1
      rw [need_of ⟨by omega, by omega⟩, gx_nat hi']
      by_cases e : v = w[i]
      · exact .inr ⟨_, by rw [decide_eq_true e, cond_true], .inr ⟨(i : Int), by omega, rfl, e ▸ List.getElem_mem hi'⟩⟩
      · refine .inl ⟨(), by rw [decide_eq_false e, cond_false], fun j hj hjl => ?_⟩
        by_cases hji : j = i
        · subst hji; exact e
        · exact hI j (by omega) hjl)
    (fun s hI => .inl ⟨rfl, fun hm => by
      obtain ⟨j, hj, he⟩ := List.getElem_of_mem hm
      exact hI j (by omega) hj he.symm⟩)
  rw [h1]
  rcases h2 with ⟨rfl, hn⟩ | ⟨k, h0, rfl, hm⟩
  · rw [bindR_nx, Option.bind_some, decide_eq_false hn]; rfl
  · rw [bindR_ab, Option.bind_some, decide_eq_true hm, decide_eq_true h0]
theorem natural_any (s : Str) (hs : s.b.length ≤ 4294967281) : ∃ n b, edit_natural s = some (n, b) ∧ (b = true → s.b = Go.Lib.itoa n) := by
  unfold edit_natural
  have ha : strconv_Atoi s = some (atoiI s) := by unfold strconv_Atoi; exact need_of hs
  rw [ha, Option.bind_some]
  have hin : InI (atoiI s).1 := by
    unfold atoiI
    rcases h : Go.Lib.atoiAll s.b with v | _ | _
    · obtain ⟨b0, b1⟩ := Go.Lib.atoiAll_bounds h; exact ⟨by omega, by omega⟩
    · show InI 0; decide
    · show InI (Go.Lib.atoiSat s.b); unfold Go.Lib.atoiSat; split <;> decide
  cases hc : ((!(atoiI s).2.is) && (decide (0 ≤ (atoiI s).1))) && (decide ((s.b.length : Int) ≤ 10)) with
  | false => exact ⟨_, _, rfl, fun h => by simp at h⟩
  | true =>
    rw [gd_true, Itoa_eq hin, Option.bind_some]
    refine ⟨_, _, rfl, fun h => ?_⟩
    simp only [Bool.true_and, decide_eq_true_eq] at h
    exact (congrArg Str.b h).symm
theorem natural_of {n : Int} (h0 : 0 ≤ n) (h1 : n < 10000000000) : edit_natural (itoaS n) = some (n, true) := by
  have hlen : (Go.Lib.itoa n).length ≤ 10 := itoa_len (k := 10) (by decide) h0 (by omega)
  unfold edit_natural
  have ha : strconv_Atoi (itoaS n) = some (n, ⟨false⟩) := by
    unfold strconv_Atoi
    rw [need_of (by show (Go.Lib.itoa n).length ≤ _; omega), atoiI_itoa (by omega)]
  rw [ha, Option.bind_some]
  have hb : decide (((itoaS n).b.length : Int) ≤ 10) = true := decide_eq_true (by show ((Go.Lib.itoa n).length : Int) ≤ 10; omega)
  simp only [hb, decide_eq_true h0, Bool.not_false, Bool.and_self, gd_true]
  rw [Itoa_eq (by unfold InI; omega), Option.bind_some]
  simp
theorem kget (s : Str) (i : Nat) (hi : i < s.b.length) : gx s.b (i : Int) = s.b[i] := gx_nat hi
theorem u8n (x : UInt8) (k : Nat) (hk : k < 256) : decide ((⟨(x.toNat : Int)⟩ : KI .u8).n = (⟨(k : Int)⟩ : KI .u8).n) = decide (x = UInt8.ofNat k) := by
  rw [decide_eq_decide]
  show ((x.toNat : Int) = (k : Int)) ↔ _
  constructor
  · intro h
    apply UInt8.toNat_inj.1
    rw [UInt8.toNat_ofNat']; omega
  · intro h; rw [h, UInt8.toNat_ofNat']; omega
theorem head0 : ∀ (l : List UInt8) (h : 0 < l.length), l[0] = l.headD 0
  | a :: l, _ => rfl
theorem index3 (c : UInt8) : strings_IndexByte (⟨[34, 92, 110]⟩ : Str) (⟨(c.toNat : Int)⟩ : KI .u8) = some (if c = 34 then 0 else if c = 92 then 1 else if c = 110 then 2 else -1) := by
  unfold strings_IndexByte
  rw [need_of (by decide)]
  congr 1
  unfold indexByteS
  have e : ((⟨(c.toNat : Int)⟩ : KI .u8).n.toNat.toUInt8) = c := by
    apply UInt8.toNat_inj.1
    simp
  rw [e]
  simp only [Go.Lib.indexByte, beq_iff_eq]
  by_cases h1 : c = 34
  · subst h1; rfl
  · by_cases h2 : c = 92
    · subst h2; rfl
    · by_cases h3 : c = 110
      · subst h3; rfl
      · rw [if_neg (Ne.symm h1), if_neg (Ne.symm h2), if_neg (Ne.symm h3), if_neg h1, if_neg h2, if_neg h3]; rfl
/-- What is read from a place on. -/
def unqR (s : Str) (out : List (KI .u8)) (i : Nat) : Res Unit (Str × Bool) := match unqF (s.b.drop i) with
  | none => if (s.b.drop i).length = 0 then .nx () else .ab (Str.nil, false)
  | some (v, r) => .ab (⟨(strB out).b ++ v⟩, r.isEmpty && s.b.headD 0 == 34)
theorem strB_append (a b : List (KI .u8)) : (strB (a ++ b)).b = (strB a).b ++ (strB b).b := by simp [strB]
theorem strB_one (c : UInt8) : (strB [(⟨(c.toNat : Int)⟩ : KI .u8)]).b = [c] := by
  simp only [strB, List.map_cons, List.map_nil]
  congr 1
  simp
theorem Unquoted_loop (s : Str) (hs : s.b.length ≤ 1000000000) : ∀ (n i : Nat) (out : List (KI .u8)), s.b.length - i ≤ n → 1 ≤ i → i ≤ s.b.length → out.length ≤ i →
    ∃ r, loop (edit_Unquoted_L1 s) (out, (i : Int)) = some r ∧ (match unqF (s.b.drop i) with
      | none => r = .nx () ∨ r = .ab (Str.nil, false)
      | some (v, t) => r = .ab (⟨(strB out).b ++ v⟩, t.isEmpty && s.b.headD 0 == 34)) := by
  intro n
  induction n with
  | zero =>
    intro i out hn h1 hi ho
    obtain rfl : i = s.b.length := by omega
    refine ⟨.nx (), loop_done (by
      unfold edit_Unquoted_L1
      rw [decide_eq_false (by omega), cond_false]), ?_⟩
    rw [List.drop_length, unqF_nil]; exact .inl rfl
  | succ n ih =>
    intro i out hn h1 hi ho
    rcases Nat.eq_or_lt_of_le hi with rfl | hlt
    · refine ⟨.nx (), loop_done (by
        unfold edit_Unquoted_L1
        rw [decide_eq_false (by omega), cond_false]), ?_⟩
      rw [List.drop_length, unqF_nil]; exact .inl rfl
    · have hd : s.b.drop i = s.b[i] :: s.b.drop (i + 1) := List.drop_eq_getElem_cons hlt
      have e0 : edit_Unquoted_L1 s (out, (i : Int)) = bindR (σ := (Int × (KI .u8))) (ρ := (Step ((List (KI .u8)) × Int) (Res Unit (Str × Bool)))) (
          if s.b[i] = 34 then some (Res.ab (Step.done (Res.ab (strB out, (s.b.drop (i + 1)).isEmpty && s.b.headD 0 == 34))))
          else if s.b[i] = 10 then some (Res.ab (Step.done (Res.ab (Str.nil, false))))
          else if s.b[i] = 92 then (match s.b.drop (i + 1) with
            | [] => some (Res.ab (Step.done (Res.ab (Str.nil, false))))
            | c :: _ => if c = 34 then some (Res.nx (((i + 1 : Nat) : Int), (⟨((34 : UInt8).toNat : Int)⟩ : KI .u8))) else if c = 92 then some (Res.nx (((i + 1 : Nat) : Int), (⟨((92 : UInt8).toNat : Int)⟩ : KI .u8))) else if c = 110 then some (Res.nx (((i + 1 : Nat) : Int), (⟨((10 : UInt8).toNat : Int)⟩ : KI .u8))) else some (Res.ab (Step.done (Res.ab (Str.nil, false)))))
          else some (Res.nx ((i : Int), (⟨(s.b[i].toNat : Int)⟩ : KI .u8)))) (fun j => need (room (out.length + [j.2].length)) <| bnd (out ++ [j.2]) fun b1 => bnd (W (j.1 + 1)) fun i2 => some (Step.again (b1, i2))) := by
        unfold edit_Unquoted_L1
        simp only
        rw [decide_eq_true (by omega), cond_true, need_of ⟨by omega, by omega⟩, bnd_eq, kget s i hlt]
        congr 1
        have u34 : decide ((⟨(s.b[i].toNat : Int)⟩ : KI .u8).n = (⟨34⟩ : KI .u8).n) = decide (s.b[i] = 34) := u8n s.b[i] 34 (by decide)
        have u10 : decide ((⟨(s.b[i].toNat : Int)⟩ : KI .u8).n = (⟨10⟩ : KI .u8).n) = decide (s.b[i] = 10) := u8n s.b[i] 10 (by decide)
        have u92 : decide ((⟨(s.b[i].toNat : Int)⟩ : KI .u8).n = (⟨92⟩ : KI .u8).n) = decide (s.b[i] = 92) := u8n s.b[i] 92 (by decide)
        by_cases c1 : s.b[i] = 34
        · rw [if_pos c1]
          rw [show decide ((⟨(s.b[i].toNat : Int)⟩ : KI .u8).n = (⟨34⟩ : KI .u8).n) = true from u34.trans (decide_eq_true c1), cond_true]
          have h0 : 0 < s.b.length := by omega
          rw [need_of (fun _ => ⟨by omega, by omega⟩)]
          have g0 : gx s.b 0 = s.b.headD 0 := by
            have := kget s 0 h0
            rw [show ((0 : Nat) : Int) = 0 from rfl] at this
            rw [this]
            exact head0 s.b h0
          have hw : W ((s.b.length : Int) - 1) = (s.b.length : Int) - 1 := Wk (by omega) (by omega)
          rw [g0, hw]
          have e1 : decide ((i : Int) = (s.b.length : Int) - 1) = (s.b.drop (i + 1)).isEmpty := by
            rw [Bool.eq_iff_iff, decide_eq_true_eq, List.isEmpty_iff, List.drop_eq_nil_iff]; omega
          have e2 := u8n (s.b.headD 0) 34 (by decide)
          rw [e1]
          rw [show decide ((⟨((s.b.headD 0).toNat : Int)⟩ : KI .u8).n = (⟨34⟩ : KI .u8).n) = (s.b.headD 0 == 34) from e2.trans (by rw [Bool.eq_iff_iff, decide_eq_true_eq, beq_iff_eq]; rfl)]
        · rw [if_neg c1]
          rw [show decide ((⟨(s.b[i].toNat : Int)⟩ : KI .u8).n = (⟨34⟩ : KI .u8).n) = false from u34.trans (decide_eq_false c1), cond_false]
          by_cases c2 : s.b[i] = 10
          · rw [if_pos c2, show decide ((⟨(s.b[i].toNat : Int)⟩ : KI .u8).n = (⟨10⟩ : KI .u8).n) = true from u10.trans (decide_eq_true c2), cond_true]
          · rw [if_neg c2, show decide ((⟨(s.b[i].toNat : Int)⟩ : KI .u8).n = (⟨10⟩ : KI .u8).n) = false from u10.trans (decide_eq_false c2), cond_false]
            by_cases c3 : s.b[i] = 92
            · rw [if_pos c3, show decide ((⟨(s.b[i].toNat : Int)⟩ : KI .u8).n = (⟨92⟩ : KI .u8).n) = true from u92.trans (decide_eq_true c3), cond_true]
              have hw : W ((i : Int) + 1) = ((i + 1 : Nat) : Int) := by rw [Wk (by omega) (by omega)]; omega
              rw [hw, bnd_eq]
              by_cases hl : i + 1 = s.b.length
              · rw [decide_eq_true (by omega), cond_true, List.drop_eq_nil_of_le (by omega)]
              · have hl2 : i + 1 < s.b.length := by omega
                rw [decide_eq_false (by omega), cond_false, need_of ⟨by omega, by omega⟩, kget s (i + 1) hl2, index3, Option.bind_some, List.drop_eq_getElem_cons hl2]
                simp only
                by_cases d1 : s.b[i + 1] = 34
                · rw [if_pos d1, if_pos d1, decide_eq_false (by decide), cond_false, need_of ⟨by decide, by decide⟩, bnd_eq]; rfl
                · rw [if_neg d1, if_neg d1]
                  by_cases d2 : s.b[i + 1] = 92
                  · rw [if_pos d2, if_pos d2, decide_eq_false (by decide), cond_false, need_of ⟨by decide, by decide⟩, bnd_eq]; rfl
                  · rw [if_neg d2, if_neg d2]
                    by_cases d3 : s.b[i + 1] = 110
                    · rw [if_pos d3, if_pos d3, decide_eq_false (by decide), cond_false, need_of ⟨by decide, by decide⟩, bnd_eq]; rfl
                    · rw [if_neg d3, if_neg d3]; rfl
            · rw [if_neg c3, show decide ((⟨(s.b[i].toNat : Int)⟩ : KI .u8).n = (⟨92⟩ : KI .u8).n) = false from u92.trans (decide_eq_false c3), cond_false]
      have go : ∀ (c : UInt8) (j : Nat), j + 1 ≤ s.b.length → (need (room (out.length + [(⟨(c.toNat : Int)⟩ : KI .u8)].length)) <| bnd (out ++ [(⟨(c.toNat : Int)⟩ : KI .u8)]) fun b1 => bnd (W ((j : Int) + 1)) fun i2 => (some (Step.again (b1, i2)) : Option (Step ((List (KI .u8)) × Int) (Res Unit (Str × Bool))))) = some (Step.again (out ++ [(⟨(c.toNat : Int)⟩ : KI .u8)], ((j + 1 : Nat) : Int))) := by
        intro c j hj
        rw [need_of (by rw [room_iff, List.length_singleton]; omega), bnd_eq, bnd_eq, Wk (by omega) (by omega)]
        rfl
      rw [hd, unqF_cons]
      by_cases c1 : s.b[i] = 34
      · rw [if_pos c1] at e0 ⊢
        exact ⟨_, loop_done e0, by simp⟩
      · rw [if_neg c1] at e0 ⊢
        by_cases c2 : s.b[i] = 10
        · rw [if_pos c2] at e0 ⊢
          exact ⟨_, loop_done e0, .inr rfl⟩
        · rw [if_neg c2] at e0 ⊢
          by_cases c3 : s.b[i] = 92
          · rw [if_pos c3] at e0 ⊢
            have step : ∀ (c : UInt8) (r : List UInt8), i + 2 ≤ s.b.length → s.b.drop (i + 2) = r → edit_Unquoted_L1 s (out, (i : Int)) = some (Step.again (out ++ [(⟨(c.toNat : Int)⟩ : KI .u8)], ((i + 1 + 1 : Nat) : Int))) →
                ∃ x, loop (edit_Unquoted_L1 s) (out, (i : Int)) = some x ∧ (match (unqF r).map (fun y => (c :: y.1, y.2)) with
                  | none => x = .nx () ∨ x = .ab (Str.nil, false)
                  | some (v, t) => x = .ab (⟨(strB out).b ++ v⟩, t.isEmpty && s.b.headD 0 == 34)) := by
              intro c r hlen hr he
              obtain ⟨x, h1, h2⟩ := ih (i + 2) (out ++ [(⟨(c.toNat : Int)⟩ : KI .u8)]) (by omega) (by omega) hlen (by rw [List.length_append, List.length_singleton]; omega)
              refine ⟨x, (loop_again he).trans h1, ?_⟩
              rw [hr] at h2
              cases hu : unqF r with
              | none => rw [hu] at h2; exact h2
              | some y =>
                obtain ⟨v, t⟩ := y
                rw [hu] at h2
                simp only at h2
                rw [strB_append, strB_one] at h2
                simpa using h2
            cases hm : s.b.drop (i + 1) with
            | nil =>
              rw [hm] at e0
              exact ⟨_, loop_done e0, .inr rfl⟩
            | cons c r =>
              rw [hm] at e0
              simp only at e0 ⊢
              have hlen : i + 2 ≤ s.b.length := by
                have := congrArg List.length hm
                rw [List.length_drop, List.length_cons] at this; omega
              have hr : s.b.drop (i + 2) = r := by
                have := congrArg List.tail hm
                rw [List.tail_drop] at this
                exact this
              by_cases d1 : c = 34
              · rw [if_pos d1] at e0 ⊢
                exact step 34 r hlen hr (e0.trans (go 34 (i + 1) hlen))
              · rw [if_neg d1] at e0 ⊢
                by_cases d2 : c = 92
                · rw [if_pos d2] at e0 ⊢
                  exact step 92 r hlen hr (e0.trans (go 92 (i + 1) hlen))
                · rw [if_neg d2] at e0 ⊢
                  by_cases d3 : c = 110
                  · rw [if_pos d3] at e0 ⊢
                    exact step 10 r hlen hr (e0.trans (go 10 (i + 1) hlen))
                  · rw [if_neg d3] at e0 ⊢
                    exact ⟨_, loop_done e0, .inr rfl⟩
          · rw [if_neg c3] at e0 ⊢
            obtain ⟨x, h1, h2⟩ := ih (i + 1) (out ++ [(⟨(s.b[i].toNat : Int)⟩ : KI .u8)]) (by omega) (by omega) (by omega) (by rw [List.length_append, List.length_singleton]; omega)
            refine ⟨x, (loop_again (e0.trans (go s.b[i] i hlt))).trans h1, ?_⟩
            cases hu : unqF (s.b.drop (i + 1)) with
            | none => rw [hu] at h2; exact h2
            | some y =>
              obtain ⟨v, t⟩ := y
              rw [hu] at h2
              simp only at h2
              rw [strB_append, strB_one] at h2
              simpa using h2
theorem Unquoted_eq (s : Str) (hs : s.b.length ≤ 1000000000) : edit_Unquoted s = some (unquoteS s) := by
  unfold edit_Unquoted unquoteS
  cases hb : s.b with
  | nil =>
    have e0 : edit_Unquoted_L1 s (([] : List (KI .u8)), 1) = some (Step.done (Res.nx ())) := by
      unfold edit_Unquoted_L1
      rw [decide_eq_false (by rw [hb]; simp), cond_false]
    rw [loop_done e0]; rfl
  | cons q l =>
    obtain ⟨x, h1, h2⟩ := Unquoted_loop s hs s.b.length 1 [] (by omega) (Nat.le_refl 1) (by rw [hb]; simp) (by simp)
    rw [show ((1 : Nat) : Int) = 1 from rfl] at h1
    rw [h1]
    rw [hb, List.drop_succ_cons, List.drop_zero] at h2
    simp only
    cases hu : unqF l with
    | none =>
      rw [hu] at h2
      rcases h2 with rfl | rfl <;> rfl
    | some y =>
      obtain ⟨v, t⟩ := y
      rw [hu] at h2
      simp only at h2
      rw [h2]; rfl
end Go.DB
