/-
  Texts divided into lines, on lists of bytes.
-/
import Derived.Test.YthopjimlhjgoiaaDoorWkwPuText
import Derived.Test.YthopjimlhjgoiaaDoorExSplit
set_option linter.unusedSimpArgs false
set_option linter.unusedVariables false
namespace Go.DB
open Go Go.RowKit

/-! Pieces of a text between bytes of one kind. -/

def pieces (c : UInt8) : List UInt8 → List (List UInt8)
  | [] => [[]]
  | b :: l => if b = c then [] :: pieces c l else match pieces c l with
    | [] => [[b]]
    | p :: ps => (b :: p) :: ps
theorem pieces_ne (c : UInt8) (l : List UInt8) : pieces c l ≠ [] := by
  cases l with
  | nil => simp [pieces]
  | cons b l =>
    unfold pieces
    split
    · simp
    · split <;> simp
theorem pieces_tot (c : UInt8) : ∀ l, ((pieces c l).map (fun p => p.length + 1)).sum = l.length + 1
  | [] => rfl
  | b :: l => by
    have ih := pieces_tot c l
    unfold pieces
    split
    · simp only [List.map_cons, List.sum_cons, List.length_nil, List.length_cons]; omega
    · cases h : pieces c l with
      | nil => exact absurd h (pieces_ne c l)
      | cons p ps =>
        rw [h] at ih
        simp only [List.map_cons, List.sum_cons, List.length_cons] at ih ⊢; omega
theorem pieces_count (c : UInt8) : ∀ l, (pieces c l).length = l.count c + 1
  | [] => rfl
  | b :: l => by
    have ih := pieces_count c l
    unfold pieces
    split
    · rename_i h; subst h; simp [ih]
    · rename_i hb
      rw [List.count_cons_of_ne hb]
      cases h : pieces c l with
      | nil => exact absurd h (pieces_ne c l)
      | cons p ps => rw [h] at ih; simpa using ih
theorem pieces_miss {c : UInt8} : ∀ {l : List UInt8}, c ∉ l → pieces c l = [l]
  | [], _ => rfl
  | b :: l, h => by
    have h1 : b ≠ c := fun e => h (by simp [e])
    have h2 : c ∉ l := fun e => h (by simp [e])
    unfold pieces
    rw [if_neg h1, pieces_miss h2]
theorem pieces_hit {c : UInt8} {m : List UInt8} : ∀ {l : List UInt8}, c ∉ l → pieces c (l ++ c :: m) = l :: pieces c m
  | [], _ => by rw [List.nil_append, pieces, if_pos rfl]
  | b :: l, h => by
    have h1 : b ≠ c := fun e => h (by simp [e])
    have h2 : c ∉ l := fun e => h (by simp [e])
    rw [List.cons_append, pieces, if_neg h1, pieces_hit h2]

theorem indexB_one (s : List UInt8) (c : UInt8) : Go.Lib.indexB ⟨s.toArray⟩ ⟨[c].toArray⟩ = Go.Lib.indexByte s c := by
  unfold Go.Lib.indexB
  exact Go.Lib.index_one s c
theorem split_at {l : List UInt8} {c : UInt8} {o : Nat} (h : Go.Lib.indexByte l c = o) : ∃ a m, l = a ++ c :: m ∧ a.length = o ∧ c ∉ a := by
  obtain ⟨h1, h2⟩ := Go.Lib.indexByte_some h
  have ho : o < l.length := (List.getElem?_eq_some_iff.1 h1).1
  refine ⟨l.take o, l.drop (o + 1), ?_, by simp; omega, fun hm => ?_⟩
  · have : l.drop o = c :: l.drop (o + 1) := by rw [List.drop_eq_getElem_cons ho]; congr 1; exact (List.getElem?_eq_some_iff.1 h1).2
    rw [← this, List.take_append_drop]
  · obtain ⟨k, hk, hkc⟩ := List.mem_iff_getElem.1 hm
    simp only [List.length_take] at hk
    exact h2 k (by omega) (by rw [List.getElem?_eq_getElem (by omega)]; rw [← hkc]; simp)
theorem splitB_pieces (c : UInt8) : ∀ (k : Nat) (l : List UInt8), Go.Lib.countB ⟨l.toArray⟩ ⟨[c].toArray⟩ = k → (Go.Lib.splitB ⟨[c].toArray⟩ 0 k ⟨l.toArray⟩).map ofBytes = (pieces c l).map Str.mk := by
  intro k
  have hone : 1 ≤ (ByteArray.mk [c].toArray).size := Nat.le_refl 1
  induction k with
  | zero =>
    intro l hk
    have hno : c ∉ l := by
      intro hm
      have h1 := Go.Lib.indexByte_ge l c
      have h2 : ¬ Go.Lib.indexByte l c = -1 := fun e => by
        obtain ⟨i, hi, he⟩ := List.mem_iff_getElem.1 hm
        exact Go.Lib.indexByte_none e i (by rw [List.getElem?_eq_getElem hi, he])
      obtain ⟨o, ho⟩ : ∃ o : Nat, Go.Lib.indexByte l c = o := ⟨(Go.Lib.indexByte l c).toNat, by omega⟩
      have := Go.Lib.countB_hit ⟨l.toArray⟩ ⟨[c].toArray⟩ o hone (by rw [indexB_one]; exact ho)
      omega
    rw [pieces_miss hno]
    simp [Go.Lib.splitB, ofBytes]
  | succ k ih =>
    intro l hk
    rcases Go.Lib.indexB_cases ⟨l.toArray⟩ ⟨[c].toArray⟩ with h | ⟨o, h, _⟩
    · rw [Go.Lib.countB_miss _ _ h] at hk; omega
    · have hb := h
      rw [indexB_one] at hb
      obtain ⟨a, m, rfl, ha, hc⟩ := split_at hb
      rw [Go.Lib.splitB_hit _ _ _ _ _ h, pieces_hit hc]
      have hcnt := Go.Lib.countB_hit _ _ o hone h
      have ex : ∀ i j, (ByteArray.mk (a ++ c :: m).toArray).extract i j = ⟨(((a ++ c :: m).take j).drop i).toArray⟩ := by
        intro i j
        rw [ByteArray.extract_mk]
        congr 1
        simp [List.drop_take]
      have hsz : (ByteArray.mk (a ++ c :: m).toArray).size = (a ++ c :: m).length := rfl
      have hs1 : (ByteArray.mk [c].toArray).size = 1 := rfl
      have e1 : (ByteArray.mk (a ++ c :: m).toArray).extract 0 (o + 0) = ⟨a.toArray⟩ := by
        rw [ex, Nat.add_zero, List.drop_zero, ← ha, List.take_left]
      have e2 : (ByteArray.mk (a ++ c :: m).toArray).extract (o + (ByteArray.mk [c].toArray).size) (ByteArray.mk (a ++ c :: m).toArray).size = ⟨m.toArray⟩ := by
        rw [ex, hsz, hs1, List.take_length, ← ha, ← List.drop_drop, List.drop_left]; rfl
      rw [e2] at hcnt ⊢
      rw [e1]
      have := ih m (by omega)
      simp only [List.map_cons, this]
      simp [ofBytes]
theorem splitS_one (s : Str) (c : UInt8) : splitS s ⟨[c]⟩ = (pieces c s.b).map Str.mk := splitB_pieces c _ s.b rfl

/-! Words that are cut. -/

def fitN (f : Font) (width : Int) : Int → List (Nat × List UInt8) → Nat
  | _, [] => 0
  | a, c :: cs => if a + wd f c.1 ≤ width then fitN f width (a + wd f c.1) cs + 1 else 0
def cutN (f : Font) (width : Int) (l : List UInt8) : Nat := match chunks l with
  | [] => 0
  | c :: cs => fitN f width (wd f c.1) cs + 1
def headB (f : Font) (width : Int) (l : List UInt8) : List UInt8 := bytesOf ((chunks l).take (cutN f width l))
def restB (f : Font) (width : Int) (l : List UInt8) : List UInt8 := bytesOf ((chunks l).drop (cutN f width l))

theorem fitN_le (f : Font) (width : Int) : ∀ (a : Int) (cs : List (Nat × List UInt8)), fitN f width a cs ≤ cs.length
  | _, [] => Nat.le_refl _
  | a, c :: cs => by
    unfold fitN
    split
    · have := fitN_le f width (a + wd f c.1) cs; simp; omega
    · simp
theorem fitN_all (f : Font) (width : Int) : ∀ (a : Int) (cs : List (Nat × List UInt8)), cs ≠ [] → fitN f width a cs = cs.length → a + cw f cs ≤ width
  | a, c :: cs, _, h => by
    unfold fitN at h
    split at h
    · rename_i hle
      rw [cw_cons]
      cases cs with
      | nil => rw [cw_nil]; omega
      | cons d cs =>
        have := fitN_all f width (a + wd f c.1) (d :: cs) (by simp) (by simpa using h)
        omega
    · simp at h
/-- So many fit, and no more. -/
theorem fitN_spec {f : Font} (hf : okF f) (width : Int) : ∀ (a : Int) (cs : List (Nat × List UInt8)) (k : Nat), 1 ≤ k → k ≤ cs.length → (a + cw f (cs.take k) ≤ width ↔ k ≤ fitN f width a cs)
  | a, [], k, h1, h2 => by simp at h2; omega
  | a, c :: cs, k, h1, h2 => by
    obtain ⟨k, rfl⟩ : ∃ j, k = j + 1 := ⟨k - 1, by omega⟩
    rw [List.take_succ_cons, cw_cons]
    have hp := cw_bd hf (cs.take k)
    unfold fitN
    by_cases hle : a + wd f c.1 ≤ width
    · rw [if_pos hle]
      cases k with
      | zero => simp [cw_nil]; omega
      | succ k =>
        have := fitN_spec hf width (a + wd f c.1) cs (k + 1) (by omega) (by simpa using h2)
        omega
    · rw [if_neg hle]
      constructor
      · intro h; omega
      · intro h; omega

theorem cutN_pos {f : Font} {width : Int} {l : List UInt8} (h : l ≠ []) : 1 ≤ cutN f width l := by
  unfold cutN
  rw [chunks_cons h]
  simp
theorem cutN_lt {f : Font} {width : Int} {l : List UInt8} (h1 : width < mw f l) (h2 : 2 ≤ (chunks l).length) : cutN f width l < (chunks l).length := by
  unfold cutN
  rw [mw_cw] at h1
  cases hc : chunks l with
  | nil => rw [hc] at h2; simp at h2
  | cons c cs =>
    rw [hc] at h1 h2
    rw [cw_cons] at h1
    have hle := fitN_le f width (wd f c.1) cs
    have hne : fitN f width (wd f c.1) cs ≠ cs.length := fun e => by
      have := fitN_all f width (wd f c.1) cs (by intro e; rw [e] at h2; simp at h2) e
      omega
    simp; omega
theorem head_rest (f : Font) (width : Int) (l : List UInt8) : headB f width l ++ restB f width l = l := by
  unfold headB restB
  rw [← bytesOf_append, List.take_append_drop, chunks_flat]
theorem bytesOf_ne {cs : List (Nat × List UInt8)} (h : ∀ c ∈ cs, c.2 ≠ []) (hne : cs ≠ []) : bytesOf cs ≠ [] := by
  cases cs with
  | nil => exact absurd rfl hne
  | cons c cs =>
    rw [bytesOf_cons]
    intro e
    exact h c (by simp) (List.append_eq_nil_iff.1 e).1
theorem head_ne {f : Font} {width : Int} {l : List UInt8} (h : l ≠ []) : headB f width l ≠ [] := by
  refine bytesOf_ne (fun c hc => chunks_ne c (List.mem_of_mem_take hc)) ?_
  have h1 := cutN_pos (f := f) (width := width) h
  have h2 : chunks l ≠ [] := fun e => h (chunks_eq_nil.1 e)
  intro e
  rcases List.take_eq_nil_iff.1 e with e | e
  · omega
  · exact h2 e
theorem rest_ne {f : Font} {width : Int} {l : List UInt8} (h1 : width < mw f l) (h2 : 2 ≤ (chunks l).length) : restB f width l ≠ [] := by
  refine bytesOf_ne (fun c hc => chunks_ne c (List.mem_of_mem_drop hc)) ?_
  have := cutN_lt (f := f) h1 h2
  intro e
  have := List.drop_eq_nil_iff.1 e
  omega
theorem rest_lt {f : Font} {width : Int} {l : List UInt8} (h : l ≠ []) : (restB f width l).length < l.length := by
  have h1 := head_ne (f := f) (width := width) h
  have h2 := congrArg List.length (head_rest f width l)
  have h3 := List.length_pos_iff.2 h1
  simp only [List.length_append] at h2; omega

/-- A word that is too wide is cut. -/
def cutAll (f : Font) (width : Int) (l : List UInt8) : List (List UInt8) × List UInt8 :=
  if h : width < mw f l ∧ 2 ≤ (chunks l).length then (headB f width l :: (cutAll f width (restB f width l)).1, (cutAll f width (restB f width l)).2) else ([], l)
termination_by l.length
decreasing_by
  all_goals exact rest_lt (fun e => by rw [e, chunks_nil] at h; simp at h)
theorem cutAll_no {f : Font} {width : Int} {l : List UInt8} (h : ¬ (width < mw f l ∧ 2 ≤ (chunks l).length)) : cutAll f width l = ([], l) := by rw [cutAll, dif_neg h]
theorem cutAll_yes {f : Font} {width : Int} {l : List UInt8} (h : width < mw f l ∧ 2 ≤ (chunks l).length) : cutAll f width l = (headB f width l :: (cutAll f width (restB f width l)).1, (cutAll f width (restB f width l)).2) := by
  rw [cutAll, dif_pos h]
/-- Induction along the cuts. -/
theorem cut_ind {f : Font} {width : Int} {p : List UInt8 → Prop} (h0 : ∀ l, ¬ (width < mw f l ∧ 2 ≤ (chunks l).length) → p l) (h1 : ∀ l, width < mw f l → 2 ≤ (chunks l).length → p (restB f width l) → p l) : ∀ l, p l := by
  intro l
  induction hn : l.length using Nat.strongRecOn generalizing l with
  | _ n ih =>
    by_cases h : width < mw f l ∧ 2 ≤ (chunks l).length
    · have hne : l ≠ [] := fun e => by rw [e, chunks_nil] at h; simp at h
      exact h1 l h.1 h.2 (ih _ (hn ▸ rest_lt hne) _ rfl)
    · exact h0 l h
theorem cutAll_spec {f : Font} {width : Int} (l : List UInt8) : l ≠ [] → (cutAll f width l).2 ≠ [] ∧ (cutAll f width l).1.length + 1 ≤ l.length ∧ (cutAll f width l).2.length ≤ l.length := by
  refine cut_ind (f := f) (width := width) (p := fun l => l ≠ [] → (cutAll f width l).2 ≠ [] ∧ (cutAll f width l).1.length + 1 ≤ l.length ∧ (cutAll f width l).2.length ≤ l.length) ?_ ?_ l
  · intro l h hne
    have := List.length_pos_iff.2 hne
    rw [cutAll_no h]
    exact ⟨hne, by simp; omega, Nat.le_refl _⟩
  · intro l h1 h2 ih hne
    obtain ⟨i1, i2, i3⟩ := ih (rest_ne h1 h2)
    have hl := rest_lt (f := f) (width := width) hne
    rw [cutAll_yes ⟨h1, h2⟩]
    exact ⟨i1, by simp; omega, by simp; omega⟩

/-! Lines. -/

def stepW (f : Font) (width : Int) (st : List (List UInt8) × List UInt8) (w : List UInt8) : List (List UInt8) × List UInt8 :=
  if st.2 ≠ [] ∧ mw f st.2 + f.Normal + mw f w ≤ width then (st.1, st.2 ++ 32 :: w)
  else ((if st.2 ≠ [] then st.1 ++ [st.2] else st.1) ++ (cutAll f width w).1, (cutAll f width w).2)
def wordsB (p : List UInt8) : List (List UInt8) := (pieces 32 p).filter (fun w => !decide (w = []))
def foldW (f : Font) (width : Int) (ws : List (List UInt8)) (l0 : List (List UInt8)) : List (List UInt8) × List UInt8 := ws.foldl (stepW f width) (l0, [])
def partB (f : Font) (width : Int) (p : List UInt8) : List (List UInt8) := (foldW f width (wordsB p) []).1 ++ [(foldW f width (wordsB p) []).2]
def wrapB (f : Font) (width : Int) (t : List UInt8) : List (List UInt8) := (pieces 10 t).flatMap (partB f width)

theorem stepW_bd {f : Font} {width : Int} {st : List (List UInt8) × List UInt8} {w : List UInt8} (hw : w ≠ []) :
    (stepW f width st w).1.length + 1 ≤ st.1.length + 1 + w.length ∧ (stepW f width st w).2.length ≤ st.2.length + w.length + 1 ∧ (stepW f width st w).2 ≠ [] := by
  obtain ⟨c1, c2, c3⟩ := cutAll_spec (f := f) (width := width) w hw
  unfold stepW
  split
  · refine ⟨by simp, by simp; omega, by simp⟩
  · refine ⟨?_, by simp; omega, c1⟩
    split <;> simp <;> omega
def tot (ws : List (List UInt8)) : Nat := (ws.map (fun w => w.length + 1)).sum
theorem tot_append (a b : List (List UInt8)) : tot (a ++ b) = tot a + tot b := by simp [tot]
theorem tot_cons (w : List UInt8) (b : List (List UInt8)) : tot (w :: b) = w.length + 1 + tot b := by simp [tot]
theorem tot_filter (q : List UInt8 → Bool) : ∀ ws, tot (ws.filter q) ≤ tot ws
  | [] => Nat.le_refl _
  | w :: ws => by
    have := tot_filter q ws
    rw [List.filter_cons, tot_cons]
    split
    · rw [tot_cons]; omega
    · omega
theorem tot_mem {ws : List (List UInt8)} {w : List UInt8} (h : w ∈ ws) : w.length + 1 ≤ tot ws := by
  obtain ⟨a, b, rfl⟩ := List.append_of_mem h
  rw [tot_append, tot_cons]; omega
theorem tot_len (ws : List (List UInt8)) : ws.length ≤ tot ws := by
  induction ws with
  | nil => exact Nat.le_refl _
  | cons w ws ih => rw [tot_cons]; simp; omega
theorem tot_pieces (c : UInt8) (l : List UInt8) : tot (pieces c l) = l.length + 1 := pieces_tot c l
theorem tot_words (p : List UInt8) : tot (wordsB p) ≤ p.length + 1 := by
  have := tot_filter (fun w => !decide (w = [])) (pieces 32 p)
  rw [tot_pieces] at this
  exact this
theorem words_ne {p w : List UInt8} (h : w ∈ wordsB p) : w ≠ [] := by
  have := (List.mem_filter.1 h).2
  simpa using this
theorem fold_bd {f : Font} {width : Int} : ∀ (ws : List (List UInt8)) (st : List (List UInt8) × List UInt8), (∀ w ∈ ws, w ≠ []) →
    (ws.foldl (stepW f width) st).1.length + 1 ≤ st.1.length + 1 + tot ws ∧ (ws.foldl (stepW f width) st).2.length ≤ st.2.length + tot ws
  | [], st, _ => by simp [tot]
  | w :: ws, st, h => by
    obtain ⟨a, b, c⟩ := stepW_bd (f := f) (width := width) (st := st) (h w (by simp))
    obtain ⟨d, e⟩ := fold_bd (f := f) (width := width) ws (stepW f width st w) (fun x hx => h x (by simp [hx]))
    rw [List.foldl_cons, tot_cons]; omega
theorem partB_len (f : Font) (width : Int) (p : List UInt8) : (partB f width p).length ≤ p.length + 2 := by
  obtain ⟨a, _⟩ := fold_bd (f := f) (width := width) (wordsB p) ([], []) (fun w hw => words_ne hw)
  have := tot_words p
  unfold partB foldW
  simp only [List.length_append, List.length_singleton, List.length_nil] at a ⊢; omega

def cutB (f : Font) (width : Int) (p : List UInt8) : Bool := (wordsB p).any (fun w => !(cutAll f width w).1.isEmpty)
theorem wrapB_len (f : Font) (width : Int) (t : List UInt8) : (wrapB f width t).length ≤ 2 * t.length + 2 := by
  have key : ∀ ps : List (List UInt8), (ps.flatMap (partB f width)).length ≤ 2 * tot ps := by
    intro ps
    induction ps with
    | nil => simp [tot]
    | cons p ps ih =>
      have := partB_len f width p
      rw [List.flatMap_cons, List.length_append, tot_cons]; omega
  have := key (pieces 10 t)
  rw [tot_pieces] at this
  unfold wrapB; omega

/-- A loop over a list that goes along with a fold. -/
theorem lgo_model {α σ τ : Type} {f : α → σ → Option σ} (g : τ → α → τ) (R : List α → σ → τ → Prop) {l : List α} {s0 : σ} {t0 : τ} (h0 : R [] s0 t0)
    (hs : ∀ done x rest s t, l = done ++ x :: rest → R done s t → ∃ s', f x s = some s' ∧ R (done ++ [x]) s' (g t x)) : ∃ s', lgo f l s0 = some s' ∧ R l s' (l.foldl g t0) := by
  have key : ∀ (rest done : List α) (s : σ) (t : τ), l = done ++ rest → R done s t → ∃ s', lgo f rest s = some s' ∧ R l s' (rest.foldl g t) := by
    intro rest
    induction rest with
    | nil => intro done s t h hR; simp at h; subst h; exact ⟨s, rfl, hR⟩
    | cons x rest ih =>
      intro done s t h hR
      obtain ⟨s', h1, h2⟩ := hs done x rest s t h hR
      obtain ⟨s2, h3, h4⟩ := ih (done ++ [x]) s' (g t x) (by rw [h]; simp) h2
      exact ⟨s2, by rw [lgo, h1]; exact h3, h4⟩
  exact key l [] s0 t0 rfl h0
end Go.DB
