/-
  What is left of a text without its white space, and the lines that it is divided into.
-/
import Derived.Test.YthopjimlhjgoiaaDoorWkwPuWrap2
import Derived.Test.YthopjimlhjgoiaaDoorWkwPuTErr
import Derived.Test.YthopjimlhjgoiaaDoorExJoin
import Derived.Test.YthopjimlhjgoiaaDoorExReplace
import Derived.Test.YthopjimlhjgoiaaDoorExFields
import Derived.Test.YthopjimlhjgoiaaDoorExContains
set_option linter.unusedSimpArgs false
set_option linter.unusedVariables false
namespace Go.DB
open Go Go.RowKit

def keepC (cs : List (Nat × List UInt8)) : List UInt8 := cs.flatMap fun c => if Go.Lib.isSpaceR c.1 = true then [] else c.2
/-- A text without its white space. -/
def keep (l : List UInt8) : List UInt8 := keepC (chunks l)
theorem keepC_append (a b : List (Nat × List UInt8)) : keepC (a ++ b) = keepC a ++ keepC b := by simp [keepC]
theorem keepC_cons (c : Nat × List UInt8) (b : List (Nat × List UInt8)) : keepC (c :: b) = (if Go.Lib.isSpaceR c.1 = true then [] else c.2) ++ keepC b := by simp [keepC]
theorem keep_nil : keep [] = [] := by unfold keep; rw [chunks_nil]; rfl
theorem keep_sp {b : UInt8} (hb : b.toNat < 128) (hs : Go.Lib.isSpaceR b.toNat = true) (l m : List UInt8) : keep (l ++ b :: m) = keep l ++ keep m := by
  unfold keep
  rw [chunks_space hb, keepC_append, keepC_cons]
  simp only [hs, if_true, List.nil_append]
theorem keep32 (l m : List UInt8) : keep (l ++ 32 :: m) = keep l ++ keep m := keep_sp (b := 32) (by decide) (by decide) l m
theorem keep10 (l m : List UInt8) : keep (l ++ 10 :: m) = keep l ++ keep m := keep_sp (b := 10) (by decide) (by decide) l m

/-! Fields. -/

theorem decodeL_eq (l : List UInt8) : Go.Lib.decodeL l = dec l := by
  have := at_eq ⟨l⟩ 0
  rw [List.drop_zero] at this
  exact this
theorem one_flat (cur : List UInt8) : (if cur = [] then [] else [cur] : List (List UInt8)).flatten = cur := by
  by_cases h : cur = []
  · rw [if_pos h, h]; rfl
  · rw [if_neg h]; simp
theorem fields_flat : ∀ (k : Nat) (cur l : List UInt8), l.length < k → (Go.Lib.fieldsGoD k cur l).flatten = cur ++ keep l
  | 0, cur, l, h => by omega
  | k + 1, cur, l, h => by
    unfold Go.Lib.fieldsGoD
    by_cases hl : l = []
    · rw [if_pos hl, one_flat, hl, keep_nil, List.append_nil]
    · have hp := dec_pos l
      have hll := List.length_pos_iff.2 hl
      have hk : (l.drop (dec l).2).length < k := by rw [List.length_drop]; omega
      have e : keep l = (if Go.Lib.isSpaceR (dec l).1 = true then [] else l.take (dec l).2) ++ keep (l.drop (dec l).2) := by
        unfold keep
        rw [chunks_cons hl, keepC_cons]
      rw [if_neg hl, decodeL_eq, e]
      by_cases hs : Go.Lib.isSpaceR (dec l).1 = true
      · rw [if_pos hs, if_pos hs, List.flatten_append, one_flat, fields_flat k [] _ hk]
      · rw [if_neg hs, if_neg hs, fields_flat k _ _ hk, List.append_assoc]
theorem fieldsD_flat (l : List UInt8) : (Go.Lib.fieldsD l).flatten = keep l := by
  unfold Go.Lib.fieldsD
  rw [fields_flat _ _ _ (by omega), List.nil_append]

/-! Joins. -/

theorem joinTail_nil : ∀ r : List (List UInt8), Go.Lib.joinTail [] r = r.flatten := fun r => by simp [Go.Lib.joinTail]
theorem join_flat : ∀ xs : List (List UInt8), Go.Lib.join xs [] = xs.flatten
  | [] => rfl
  | x :: r => by rw [Go.Lib.join_cons, joinTail_nil]; simp
theorem joinTail_keep : ∀ (r : List (List UInt8)) (x : List UInt8), keep (x ++ Go.Lib.joinTail [32] r) = keep x ++ r.flatMap keep
  | [], x => by simp [Go.Lib.joinTail]
  | y :: r, x => by
    have e : Go.Lib.joinTail [32] (y :: r) = 32 :: (y ++ Go.Lib.joinTail [32] r) := by simp [Go.Lib.joinTail]
    rw [e, keep32, joinTail_keep r y, List.flatMap_cons]
theorem join_keep : ∀ xs : List (List UInt8), keep (Go.Lib.join xs [32]) = xs.flatMap keep
  | [] => keep_nil
  | x :: r => by rw [Go.Lib.join_cons, joinTail_keep, List.flatMap_cons]
theorem joinTail_len : ∀ r : List (List UInt8), (Go.Lib.joinTail [32] r).length = tot r
  | [] => rfl
  | y :: r => by
    have e : Go.Lib.joinTail [32] (y :: r) = 32 :: (y ++ Go.Lib.joinTail [32] r) := by simp [Go.Lib.joinTail]
    rw [e, List.length_cons, List.length_append, joinTail_len r, tot_cons]; omega
theorem join_len (xs : List (List UInt8)) : (Go.Lib.join xs [32]).length ≤ tot xs := by
  cases xs with
  | nil => exact Nat.le_refl _
  | cons x r => rw [Go.Lib.join_cons, List.length_append, joinTail_len, tot_cons]; omega

/-! Line ends that become blanks. -/

theorem idx10 : ∀ s : List UInt8, Go.Lib.index s [10] = -1 ∨ ∃ i : Nat, Go.Lib.index s [10] = i ∧ s = s.take i ++ 10 :: s.drop (i + 1)
  | [] => .inl (by simp [Go.Lib.index])
  | b :: l => by
    unfold Go.Lib.index
    by_cases hb : b = 10
    · subst hb
      exact .inr ⟨0, by simp, by simp⟩
    · have hp : ([10] : List UInt8).isPrefixOf (b :: l) = false := by
        simp [List.isPrefixOf]
        exact fun e => hb e.symm
      rw [hp]
      simp only [Bool.false_eq_true, if_false]
      rcases idx10 l with h | ⟨i, h1, h2⟩
      · left; rw [h]; rfl
      · right
        refine ⟨i + 1, ?_, ?_⟩
        · rw [h1, if_neg (by simp)]; omega
        · rw [List.take_succ_cons, List.drop_succ_cons, List.cons_append, ← h2]
theorem repl_keep : ∀ (k : Nat) (s : List UInt8), keep (Go.Lib.replaceK [10] [32] k s) = keep s ∧ (Go.Lib.replaceK [10] [32] k s).length = s.length
  | 0, s => ⟨rfl, rfl⟩
  | k + 1, s => by
    rcases idx10 s with h | ⟨i, h1, h2⟩
    · unfold Go.Lib.replaceK
      rw [h]; exact ⟨rfl, rfl⟩
    · obtain ⟨g1, g2⟩ := repl_keep k (s.drop (i + 1))
      rw [Go.Lib.replaceK_hit [10] [32] k s i h1]
      have e : s.take i ++ [32] ++ Go.Lib.replaceK [10] [32] k (s.drop (i + ([10] : List UInt8).length)) = s.take i ++ 32 :: Go.Lib.replaceK [10] [32] k (s.drop (i + 1)) := by simp
      rw [e, keep32, g1]
      refine ⟨?_, ?_⟩
      · conv => rhs; rw [h2]
        rw [keep10]
      · conv => rhs; rw [h2]
        rw [List.length_append, List.length_append, List.length_cons, List.length_cons, g2]
theorem replaceAll_keep (s : List UInt8) : keep (Go.Lib.replaceAll s [10] [32]) = keep s ∧ (Go.Lib.replaceAll s [10] [32]).length = s.length := by
  unfold Go.Lib.replaceAll Go.Lib.replace
  split
  · exact ⟨rfl, rfl⟩
  · exact repl_keep _ _
theorem squeezed (s : List UInt8) : joinS (fieldsS (replS ⟨s⟩ ⟨[10]⟩ ⟨[32]⟩)) Str.nil = ⟨keep s⟩ := by
  unfold joinS fieldsS replS
  rw [List.map_map]
  have e : ((fun x : Str => x.b) ∘ Str.mk) = id := rfl
  rw [e, List.map_id]
  show (⟨Go.Lib.join (Go.Lib.fieldsD (Go.Lib.replaceAll s [10] [32])) []⟩ : Str) = _
  rw [join_flat, fieldsD_flat, (replaceAll_keep s).1]
theorem fieldsGo_count : ∀ (k : Nat) (cur l : List UInt8), (Go.Lib.fieldsGoD k cur l).length ≤ k + 1
  | 0, cur, l => by unfold Go.Lib.fieldsGoD; split <;> simp
  | k + 1, cur, l => by
    unfold Go.Lib.fieldsGoD
    split
    · split <;> simp
    · split
      · have := fieldsGo_count k [] (l.drop (Go.Lib.decodeL l).2)
        rw [List.length_append]
        split <;> simp <;> omega
      · exact Nat.le_succ_of_le (fieldsGo_count k _ _)

/-! Pieces. -/

theorem pieces_notin {c : UInt8} {l p : List UInt8} (hp : p ∈ pieces c l) : c ∉ p := by
  induction hn : l.length using Nat.strongRecOn generalizing l with
  | _ n ih =>
    by_cases hc : c ∈ l
    · obtain ⟨a, m, rfl, ha⟩ := List.eq_append_cons_of_mem hc
      rw [pieces_hit ha] at hp
      rcases List.mem_cons.1 hp with rfl | hp
      · exact ha
      · exact ih m.length (by rw [← hn, List.length_append, List.length_cons]; omega) hp rfl
    · rw [pieces_miss hc, List.mem_singleton] at hp
      subst hp; exact hc
theorem pieces_chunks {c : UInt8} (h128 : c.toNat < 128) {l p : List UInt8} (hp : p ∈ pieces c l) : ∀ x ∈ chunks p, x ∈ chunks l := by
  induction hn : l.length using Nat.strongRecOn generalizing l with
  | _ n ih =>
    intro x hx
    by_cases hc : c ∈ l
    · obtain ⟨a, m, rfl, ha⟩ := List.eq_append_cons_of_mem hc
      rw [pieces_hit ha] at hp
      rw [chunks_space h128]
      rcases List.mem_cons.1 hp with rfl | hp
      · exact List.mem_append_left _ hx
      · exact List.mem_append_right _ (List.mem_cons_of_mem _ (ih m.length (by rw [← hn, List.length_append, List.length_cons]; omega) hp rfl x hx))
    · rw [pieces_miss hc, List.mem_singleton] at hp
      subst hp; exact hx
theorem pieces_keep {c : UInt8} (h128 : c.toNat < 128) (hs : Go.Lib.isSpaceR c.toNat = true) (l : List UInt8) : (pieces c l).flatMap keep = keep l := by
  induction hn : l.length using Nat.strongRecOn generalizing l with
  | _ n ih =>
    by_cases hc : c ∈ l
    · obtain ⟨a, m, rfl, ha⟩ := List.eq_append_cons_of_mem hc
      rw [pieces_hit ha, List.flatMap_cons, ih m.length (by rw [← hn, List.length_append, List.length_cons]; omega) m rfl, keep_sp h128 hs]
    · rw [pieces_miss hc]; simp

/-! Lines. -/

theorem chunks_head (f : Font) (width : Int) (l : List UInt8) : chunks (headB f width l) = (chunks l).take (cutN f width l) := chunks_take l _
theorem chunks_rest (f : Font) (width : Int) (l : List UInt8) : chunks (restB f width l) = (chunks l).drop (cutN f width l) := chunks_drop l _
theorem cut_keep (f : Font) (width : Int) : ∀ l, (cutAll f width l).1.flatMap keep ++ keep (cutAll f width l).2 = keep l := by
  refine cut_ind (f := f) (width := width) ?_ ?_
  · intro l h; rw [cutAll_no h]; rfl
  · intro l h1 h2 ih
    rw [cutAll_yes ⟨h1, h2⟩, List.flatMap_cons, List.append_assoc, ih]
    unfold keep
    rw [chunks_head, chunks_rest, ← keepC_append, List.take_append_drop]
def keepS (st : List (List UInt8) × List UInt8) : List UInt8 := st.1.flatMap keep ++ keep st.2
theorem step_keep (f : Font) (width : Int) (st : List (List UInt8) × List UInt8) (w : List UInt8) : keepS (stepW f width st w) = keepS st ++ keep w := by
  unfold stepW keepS
  split
  · simp only
    rw [keep32, List.append_assoc]
  · simp only
    have e : (if st.2 ≠ [] then st.1 ++ [st.2] else st.1).flatMap keep = st.1.flatMap keep ++ keep st.2 := by
      by_cases h : st.2 = []
      · rw [if_neg (by simpa using h), h, keep_nil, List.append_nil]
      · rw [if_pos h]; simp
    rw [List.flatMap_append, e, List.append_assoc, cut_keep]
theorem fold_keep (f : Font) (width : Int) : ∀ (ws : List (List UInt8)) (st : List (List UInt8) × List UInt8), keepS (ws.foldl (stepW f width) st) = keepS st ++ ws.flatMap keep
  | [], st => by simp
  | w :: ws, st => by rw [List.foldl_cons, fold_keep f width ws, step_keep, List.flatMap_cons, List.append_assoc]
theorem filter_keep : ∀ ws : List (List UInt8), (ws.filter (fun w => !decide (w = []))).flatMap keep = ws.flatMap keep
  | [] => rfl
  | w :: ws => by
    by_cases h : w = []
    · rw [List.filter_cons_of_neg (by simp [h]), filter_keep ws, List.flatMap_cons, h, keep_nil, List.nil_append]
    · rw [List.filter_cons_of_pos (by simp [h]), List.flatMap_cons, filter_keep ws, List.flatMap_cons]
theorem part_keep (f : Font) (width : Int) (p : List UInt8) : (partB f width p).flatMap keep = keep p := by
  have := fold_keep f width (wordsB p) ([], [])
  unfold partB foldW
  rw [List.flatMap_append]
  unfold keepS at this
  simp only [List.flatMap_nil, keep_nil, List.nil_append] at this
  simp only [List.flatMap_cons, List.flatMap_nil, List.append_nil]
  rw [this]
  unfold wordsB
  rw [filter_keep, pieces_keep (by decide) (by decide)]
theorem wrap_keep (f : Font) (width : Int) (t : List UInt8) : (wrapB f width t).flatMap keep = keep t := by
  unfold wrapB
  have : ∀ ps : List (List UInt8), (ps.flatMap (partB f width)).flatMap keep = ps.flatMap keep := fun ps => by
    induction ps with
    | nil => rfl
    | cons p ps ih => rw [List.flatMap_cons, List.flatMap_append, part_keep, ih, List.flatMap_cons]
  rw [this, pieces_keep (by decide) (by decide)]

/-! What a line is. -/

/-- A line as it shall be: its pieces are as Q says, it is not too wide, it is not a blank, and it is short. -/
structure LineOK (f : Font) (width : Int) (Q : Nat × List UInt8 → Prop) (n : Nat) (x : List UInt8) : Prop where
  all : ∀ c ∈ chunks x, Q c
  fit : mw f x ≤ width ∨ (chunks x).length ≤ 1
  no : x ≠ [32]
  len : x = [] ∨ x.length + 1 ≤ n
theorem LineOK.up {f : Font} {width : Int} {Q : Nat × List UInt8 → Prop} {n m : Nat} {x : List UInt8} (h : LineOK f width Q n x) (hm : n ≤ m) : LineOK f width Q m x := ⟨h.all, h.fit, h.no, h.len.imp id (fun h => by omega)⟩
theorem LineOK.nil {f : Font} {width : Int} {Q : Nat × List UInt8 → Prop} {n : Nat} : LineOK f width Q n [] := ⟨by rw [chunks_nil]; simp, .inr (by rw [chunks_nil]; simp), by simp, .inl rfl⟩
theorem head_fit {f : Font} (hf : okF f) (width : Int) (l : List UInt8) : mw f (headB f width l) ≤ width ∨ (chunks (headB f width l)).length ≤ 1 := by
  rw [mw_cw, chunks_head]
  unfold cutN
  cases hc : chunks l with
  | nil => right; simp
  | cons c cs =>
    simp only
    by_cases h0 : fitN f width (wd f c.1) cs = 0
    · right; rw [h0]; simp
    · left
      have := (fitN_spec hf width (wd f c.1) cs (fitN f width (wd f c.1) cs) (by omega) (fitN_le f width _ cs)).2 (Nat.le_refl _)
      rw [List.take_succ_cons, cw_cons]; exact this
theorem cut_ok {f : Font} (hf : okF f) {width : Int} {Q : Nat × List UInt8 → Prop} : ∀ w, w ≠ [] → (∀ c ∈ chunks w, Q c) → 32 ∉ w → (∀ x ∈ (cutAll f width w).1, LineOK f width Q (w.length + 1) x) ∧ LineOK f width Q (w.length + 1) (cutAll f width w).2 := by
  refine cut_ind (f := f) (width := width) ?_ ?_
  · intro l h hne hQ h32
    rw [cutAll_no h]
    refine ⟨by simp, ?_⟩
    show LineOK f width Q (l.length + 1) l
    refine ⟨hQ, ?_, fun e => h32 (by rw [e]; simp), .inr (Nat.le_refl _)⟩
    by_cases hw : mw f l ≤ width
    · exact .inl hw
    · exact .inr (by omega)
  · intro l h1 h2 ih hne hQ h32
    have hr := head_rest f width l
    have hlt := rest_lt (f := f) (width := width) hne
    have hlen : (headB f width l).length ≤ l.length := by
      have := congrArg List.length hr
      rw [List.length_append] at this; omega
    obtain ⟨i1, i2⟩ := ih (rest_ne h1 h2) (fun c hc => hQ c (by rw [chunks_rest] at hc; exact List.mem_of_mem_drop hc)) (fun hm => h32 (by rw [← hr]; exact List.mem_append_right _ hm))
    rw [cutAll_yes ⟨h1, h2⟩]
    refine ⟨fun x hx => ?_, i2.up (by omega)⟩
    rcases List.mem_cons.1 hx with rfl | hx
    · exact ⟨fun c hc => hQ c (by rw [chunks_head] at hc; exact List.mem_of_mem_take hc), head_fit hf width l, fun e => h32 (by rw [← hr, e]; simp), .inr (by omega)⟩
    · exact (i1 x hx).up (by omega)
theorem step_ok {f : Font} (hf : okF f) {width : Int} {Q : Nat × List UInt8 → Prop} (h32 : Q (32, [32])) {n : Nat} {st : List (List UInt8) × List UInt8} {w : List UInt8} (h1 : ∀ x ∈ st.1, LineOK f width Q n x) (h2 : LineOK f width Q n st.2) (hw : w ≠ []) (hQ : ∀ c ∈ chunks w, Q c) (hn : 32 ∉ w) :
    (∀ x ∈ (stepW f width st w).1, LineOK f width Q (n + (w.length + 1)) x) ∧ LineOK f width Q (n + (w.length + 1)) (stepW f width st w).2 := by
  unfold stepW
  split
  · rename_i hc
    obtain ⟨hne, hfit⟩ := hc
    have hwl := List.length_pos_iff.2 hw
    have hll := List.length_pos_iff.2 hne
    refine ⟨fun x hx => (h1 x hx).up (by omega), ?_, .inl ?_, ?_, .inr ?_⟩
    · intro c hc
      rw [show st.2 ++ 32 :: w = st.2 ++ (32 : UInt8) :: w from rfl, chunks_space (b := 32) (by decide)] at hc
      rcases List.mem_append.1 hc with hc | hc
      · exact h2.all c hc
      · rcases List.mem_cons.1 hc with rfl | hc
        · exact h32
        · exact hQ c hc
    · show mw f (st.2 ++ 32 :: w) ≤ width
      rw [mw_space]; exact hfit
    · intro e
      have := congrArg List.length e
      simp only [List.length_append, List.length_cons, List.length_nil] at this
      omega
    · have := h2.len
      simp only [List.length_append, List.length_cons]
      rcases this with e | e
      · exact absurd e hne
      · omega
  · obtain ⟨c1, c2⟩ := cut_ok hf (width := width) w hw hQ hn
    refine ⟨fun x hx => ?_, c2.up (by omega)⟩
    rcases List.mem_append.1 hx with hx | hx
    · have : x ∈ st.1 ∨ x = st.2 := by
        split at hx
        · rcases List.mem_append.1 hx with h | h
          · exact .inl h
          · exact .inr (by simpa using h)
        · exact .inl hx
      rcases this with h | rfl
      · exact (h1 x h).up (by omega)
      · exact h2.up (by omega)
    · exact (c1 x hx).up (by omega)
theorem fold_ok {f : Font} (hf : okF f) {width : Int} {Q : Nat × List UInt8 → Prop} (h32 : Q (32, [32])) : ∀ (ws : List (List UInt8)) (n : Nat) (st : List (List UInt8) × List UInt8), (∀ w ∈ ws, w ≠ [] ∧ (∀ c ∈ chunks w, Q c) ∧ 32 ∉ w) →
    (∀ x ∈ st.1, LineOK f width Q n x) → LineOK f width Q n st.2 → (∀ x ∈ (ws.foldl (stepW f width) st).1, LineOK f width Q (n + tot ws) x) ∧ LineOK f width Q (n + tot ws) (ws.foldl (stepW f width) st).2
  | [], n, st, _, h1, h2 => ⟨h1, h2⟩
  | w :: ws, n, st, hw, h1, h2 => by
    obtain ⟨a, b, c⟩ := hw w (by simp)
    obtain ⟨s1, s2⟩ := step_ok hf h32 h1 h2 a b c
    have := fold_ok hf h32 ws _ _ (fun y hy => hw y (by simp [hy])) s1 s2
    rw [List.foldl_cons, tot_cons, ← Nat.add_assoc]
    exact this
theorem part_ok {f : Font} (hf : okF f) {width : Int} {Q : Nat × List UInt8 → Prop} (h32 : Q (32, [32])) {p : List UInt8} (hQ : ∀ c ∈ chunks p, Q c) : ∀ x ∈ partB f width p, LineOK f width Q (p.length + 1) x := by
  have hw : ∀ w ∈ wordsB p, w ≠ [] ∧ (∀ c ∈ chunks w, Q c) ∧ 32 ∉ w := fun w hw => by
    have hm := (List.mem_filter.1 hw).1
    exact ⟨words_ne hw, fun c hc => hQ c (pieces_chunks (c := 32) (by decide) hm c hc), pieces_notin hm⟩
  obtain ⟨h1, h2⟩ := fold_ok hf (width := width) h32 (wordsB p) 0 ([], []) hw (by simp) LineOK.nil
  have ht := tot_words p
  intro x hx
  unfold partB foldW at hx
  rcases List.mem_append.1 hx with hx | hx
  · exact (h1 x hx).up (by omega)
  · rw [List.mem_singleton] at hx
    subst hx
    exact h2.up (by omega)

/-! Right texts. -/

def goodC (c : Nat × List UInt8) : Prop := ¬ (c.1 = 65533 ∧ c.2.length = 1)
theorem validGo_iff : ∀ (n : Nat) (l : List UInt8), l.length ≤ n → (Go.Lib.validGoD n l = true ↔ ∀ c ∈ chunks l, goodC c)
  | 0, l, h => by
    have : l = [] := List.eq_nil_of_length_eq_zero (by omega)
    subst this
    rw [chunks_nil]
    simp [Go.Lib.validGoD]
  | n + 1, l, h => by
    unfold Go.Lib.validGoD
    by_cases hl : l = []
    · subst hl
      rw [chunks_nil]; simp
    · have hp := dec_pos l
      have hle := dec_le hl
      have hll := List.length_pos_iff.2 hl
      have ih := validGo_iff n (l.drop (dec l).2) (by rw [List.length_drop]; omega)
      rw [if_neg hl, decodeL_eq, chunks_cons hl]
      have hlen : (l.take (dec l).2).length = (dec l).2 := by rw [List.length_take]; omega
      by_cases hb : (dec l).1 = 65533 ∧ (dec l).2 = 1
      · rw [if_pos hb]
        constructor
        · intro h; cases h
        · intro h
          exact absurd (⟨hb.1, by rw [hlen]; exact hb.2⟩ : (dec l).1 = 65533 ∧ (l.take (dec l).2).length = 1) (h ((dec l).1, l.take (dec l).2) List.mem_cons_self)
      · rw [if_neg hb, ih]
        constructor
        · intro h c hc
          rcases List.mem_cons.1 hc with rfl | hc
          · exact fun e => hb ⟨e.1, by have := e.2; rw [hlen] at this; exact this⟩
          · exact h c hc
        · exact fun h c hc => h c (List.mem_cons_of_mem _ hc)
theorem validS_iff (s : Str) : validS s = true ↔ ∀ c ∈ chunks s.b, goodC c := validGo_iff _ _ (Nat.le_refl _)
/-- A piece of a right text that is no line end. -/
def goodQ (c : Nat × List UInt8) : Prop := goodC c ∧ ∀ b ∈ c.2, badB b = false ∧ b ≠ 10
theorem mem_chunk {l : List UInt8} {c : Nat × List UInt8} (hc : c ∈ chunks l) {b : UInt8} (hb : b ∈ c.2) : b ∈ l := by
  rw [← chunks_flat l]
  exact List.mem_flatMap.2 ⟨c, hc, hb⟩
theorem mem_bytes {l : List UInt8} {b : UInt8} (hb : b ∈ l) : ∃ c ∈ chunks l, b ∈ c.2 := by
  rw [← chunks_flat l] at hb
  exact List.mem_flatMap.1 hb
/-- The lines of a right text. -/
theorem wrap_ok {f : Font} (hf : okF f) {width : Int} {s : Str} (hs : textErr s = 0) : ∀ x ∈ wrapB f width s.b, LineOK f width goodQ (s.b.length + 1) x := by
  obtain ⟨t1, t2, t3⟩ := textErr_zero.1 hs
  intro x hx
  obtain ⟨p, hp, hx⟩ := List.mem_flatMap.1 hx
  have hv := (validS_iff s).1 t2
  have hbad : ∀ b ∈ s.b, badB b = false := fun b hb => by
    have := List.any_eq_false.1 t3 b hb
    simpa using this
  have hpl : p.length + 1 ≤ s.b.length + 1 := by
    have := tot_mem hp
    rw [tot_pieces] at this; exact this
  refine (part_ok hf (width := width) (Q := goodQ) ⟨(by rintro ⟨a, _⟩; cases a), fun b hb => ?_⟩ (fun c hc => ⟨hv c (pieces_chunks (by decide) hp c hc), fun b hb => ⟨hbad b (mem_chunk (pieces_chunks (c := 10) (by decide) hp c hc) hb), fun e => pieces_notin hp (by rw [← e]; exact mem_chunk hc hb)⟩⟩) x hx).up hpl
  simp at hb
  subst hb
  exact ⟨by decide, by decide⟩
theorem line_text {f : Font} {width : Int} {n : Nat} (hn : n ≤ 1001) {x : List UInt8} (h : LineOK f width goodQ n x) : textErr ⟨x⟩ = 0 ∧ hasByte ⟨x⟩ 10 = false := by
  refine ⟨textErr_zero.2 ⟨?_, (validS_iff _).2 (fun c hc => (h.all c hc).1), ?_⟩, ?_⟩
  · rcases h.len with e | e
    · rw [e]; simp
    · show x.length ≤ 1000
      omega
  · rw [List.any_eq_false]
    intro b hb
    obtain ⟨c, hc, hbc⟩ := mem_bytes hb
    rw [((h.all c hc).2 b hbc).1]; simp
  · unfold hasByte
    rw [indexByte_not (fun hm => by
      obtain ⟨c, hc, hb⟩ := mem_bytes (show (10 : UInt8) ∈ x from hm)
      exact ((h.all c hc).2 _ hb).2 rfl)]
    rfl
end Go.DB
