/-
  Texts divided into lines: the functions compute it.
-/
import Derived.Test.YthopjimlhjgoiaaDoorWkwPuWrap
set_option linter.unusedSimpArgs false
set_option linter.unusedVariables false
namespace Go.DB
open Go Go.RowKit

/-! Elements that are taken out of a row. -/

theorem delete_loop {α : Type} [Inhabited α] (del : α → Bool) {body : Int × Int × List α → Option (Step (Int × Int × List α) (Int × List α))}
    (hb : ∀ i j s, body (i, j, s) = bif decide (j < (s.length : Int)) then (Option.bind (α := (Int × List α)) (need (inR s j) <| Option.bind (some (del (gx s j))) fun r => bif !r then (need (inR s i) <| some (W (i + 1), s.set i.toNat (gx s j))) else some (i, s))
      fun q => some (Step.again (q.1, W (j + 1), q.2))) else some (Step.done (i, s))) :
    ∀ (rest a junk : List α), junk ≠ [] → a.length + junk.length + rest.length ≤ 1000000000 → ∃ s', loop body ((a.length : Int), ((a.length + junk.length : Nat) : Int), a ++ junk ++ rest) = some (((a ++ rest.filter (fun x => !del x)).length : Int), s') ∧
      s'.take (a ++ rest.filter (fun x => !del x)).length = a ++ rest.filter (fun x => !del x) ∧ s'.length = a.length + junk.length + rest.length := by
  intro rest
  induction rest with
  | nil =>
    intro a junk hj hl
    refine ⟨a ++ junk, loop_done ?_, ?_, by simp⟩
    · rw [hb, decide_eq_false (by simp)]; simp
    · simp
  | cons x rest ih =>
    intro a junk hj hl
    simp only [List.length_cons] at hl
    have hg : gx (a ++ junk ++ x :: rest) ((a.length + junk.length : Nat) : Int) = x := by rw [gx_nat (by simp)]; simp
    have hin : inR (a ++ junk ++ x :: rest) ((a.length + junk.length : Nat) : Int) := ⟨by omega, by rw [List.length_append, List.length_append, List.length_cons]; omega⟩
    have hlt : ((a.length + junk.length : Nat) : Int) < ((a ++ junk ++ x :: rest).length : Int) := hin.2
    cases hd : del x with
    | true =>
      obtain ⟨s', h1, h2, h3⟩ := ih a (junk ++ [x]) (by simp) (by simp; omega)
      have hf : (x :: rest).filter (fun x => !del x) = rest.filter (fun x => !del x) := by rw [List.filter_cons, hd]; rfl
      refine ⟨s', ?_, by rw [hf]; exact h2, by rw [h3]; simp; omega⟩
      rw [hf, ← h1]
      refine loop_again ?_
      rw [hb, decide_eq_true hlt, cond_true, need_of hin, hg, hd]
      simp only [Option.bind_some, Bool.not_true, cond_false]
      rw [Wk (by omega) (by omega)]
      simp; omega
    | false =>
      obtain ⟨y, junk, rfl⟩ : ∃ y j, junk = y :: j := by cases junk with
        | nil => exact absurd rfl hj
        | cons y j => exact ⟨y, j, rfl⟩
      obtain ⟨s', h1, h2, h3⟩ := ih (a ++ [x]) (junk ++ [x]) (by simp) (by simp at hl ⊢; omega)
      have hf : (x :: rest).filter (fun x => !del x) = x :: rest.filter (fun x => !del x) := by rw [List.filter_cons, hd]; rfl
      refine ⟨s', ?_, by rw [hf]; simpa using h2, by rw [h3]; simp; omega⟩
      have e : (a ++ x :: rest.filter (fun x => !del x)) = (a ++ [x] ++ rest.filter (fun x => !del x)) := by simp
      rw [hf, e, ← h1]
      refine loop_again ?_
      rw [hb, decide_eq_true hlt, cond_true, need_of hin, hg, hd]
      simp only [Option.bind_some, Bool.not_false, cond_true]
      rw [need_of ⟨by omega, by simp; omega⟩, Wk (by simp at hl; omega) (by simp at hl; omega), Option.bind_some, Wk (by simp at hl ⊢; omega) (by simp at hl ⊢; omega)]
      have hset : (a ++ y :: junk ++ x :: rest).set (a.length : Int).toNat x = a ++ [x] ++ (junk ++ [x]) ++ rest := by
        rw [Int.toNat_natCast, List.append_assoc, List.cons_append, List.set_append_right _ _ (Nat.le_refl _), Nat.sub_self, List.set_cons_zero]; simp
      rw [hset]
      simp; omega

theorem IndexFunc_string_eq (s : List Str) (f : Str → Option Bool) (p : Str → Bool) (hl : (s.length : Int) ≤ 9223372036854775807) (hf : ∀ x ∈ s, f x = some (p x)) :
    slices_IndexFunc_string s f = some (match s.findIdx? p with | some i => (i : Int) | none => -1) := by
  unfold slices_IndexFunc_string
  rw [rforE_index p hl (fun i hi => by
    unfold slices_IndexFunc_string_L1
    rw [need_of ⟨by omega, by omega⟩, gx_nat hi, hf _ (List.getElem_mem _), Option.bind_some]
    cases p s[i] <;> rfl)]
  cases s.findIdx? p <;> rfl
theorem DeleteFunc_string_eq (s : List Str) (f : Str → Option Bool) (p : Str → Bool) (hl : s.length ≤ 1000000000) (hf : ∀ x, f x = some (p x)) : slices_DeleteFunc_string s f = some (s.filter (fun x => !p x)) := by
  unfold slices_DeleteFunc_string
  rw [IndexFunc_string_eq s f p (by omega) (fun x _ => hf x), Option.bind_some]
  cases h : s.findIdx? p with
  | none =>
    have : s.filter (fun x => !p x) = s := List.filter_eq_self.2 (fun x hx => by
      have := List.findIdx?_eq_none_iff.1 h x hx
      rw [this]; rfl)
    rw [this]; rfl
  | some i =>
    obtain ⟨hi, hp, hno⟩ := List.findIdx?_eq_some_iff_getElem.1 h
    have hs : s = s.take i ++ [s[i]] ++ s.drop (i + 1) := by
      rw [List.append_assoc, List.singleton_append, ← List.drop_eq_getElem_cons hi, List.take_append_drop]
    have hfa : (s.take i).filter (fun x => !p x) = s.take i := List.filter_eq_self.2 (fun x hx => by
      obtain ⟨k, hk, rfl⟩ := List.mem_iff_getElem.1 hx
      simp only [List.length_take] at hk
      have := hno k (by omega)
      simpa using this)
    have hfs : s.filter (fun x => !p x) = s.take i ++ (s.drop (i + 1)).filter (fun x => !p x) := by
      conv => lhs; rw [hs]
      rw [List.filter_append, List.filter_append, hfa]
      have : [s[i]].filter (fun x => !p x) = [] := by simp [hp]
      rw [this, List.append_nil]
    have hne : ¬ ((i : Int) = -1) := by omega
    simp only [decide_eq_false hne, cond_false, bnd_eq]
    rw [Wk (by omega) (by omega)]
    have hti : (s.take i).length = i := by simp; omega
    obtain ⟨s', h1, h2, h3⟩ := delete_loop p (body := slices_DeleteFunc_string_L1 f) (fun i j s => by unfold slices_DeleteFunc_string_L1; simp only [bnd_eq, hf]) (s.drop (i + 1)) (s.take i) [s[i]] (by simp) (by simp; omega)
    rw [← hs, hti] at h1
    have e1 : ((i + [s[i]].length : Nat) : Int) = (i : Int) + 1 := by simp
    rw [e1] at h1
    rw [h1, Option.bind_some]
    rw [← hfs] at h2 ⊢
    have hle : (s.filter (fun x => !p x)).length ≤ s'.length := by
      have := congrArg List.length h2
      simp only [List.length_take] at this; omega
    generalize hK : s.filter (fun x => !p x) = K at *
    have hs3 : (s'.take (K.length : Int).toNat ++ List.replicate (s'.length - (K.length : Int).toNat) Str.nil).length = s'.length := by rw [Int.toNat_natCast, List.length_append, List.length_take, List.length_replicate]; omega
    rw [need_of ⟨by omega, by simp only; omega, by omega⟩, need_of ⟨by omega, by omega, by simp only; rw [hs3]; omega⟩]
    congr 1
    unfold seg
    simp only [Int.toNat_natCast, Int.toNat_zero, List.drop_zero, h2]
    rw [List.take_left' rfl]
theorem wordsOf_eq {p : List UInt8} (hp : p.length ≤ 1000000) : shape_wordsOf ⟨p⟩ = some ((wordsB p).map Str.mk) := by
  unfold shape_wordsOf strings_Split
  rw [need_of ⟨by show (p.length : Int) < _; omega, by simp⟩, Option.bind_some, splitS_one]
  have hn := pieces_count 32 p
  have hc := List.count_le_length (a := (32 : UInt8)) (l := p)
  rw [DeleteFunc_string_eq _ shape_wordsOf_1 (fun w => decide (w = Str.nil)) (by simp; omega) (fun w => rfl), Option.bind_some]
  congr 1
  unfold wordsB
  rw [List.filter_map]
  congr 1
  refine List.filter_congr fun w _ => ?_
  simp only [Function.comp]
  congr 1
  by_cases h : w = []
  · subst h; rfl
  · rw [decide_eq_false h, decide_eq_false (p := (⟨w⟩ : Str) = Str.nil) (fun e => h (congrArg Str.b e))]

/-! Counts of code points. -/

theorem runes_from (s : List UInt8) : ∀ (m : List UInt8) (k p : Nat), s.drop p = m → m.length ≤ k → Go.Lib.runeCountFrom ⟨s.toArray⟩ k p = (chunks m).length := by
  intro m
  refine chunks_ind (p := fun m => ∀ (k p : Nat), s.drop p = m → m.length ≤ k → Go.Lib.runeCountFrom ⟨s.toArray⟩ k p = (chunks m).length) ?_ ?_ m
  · intro k p hd _
    rw [chunks_nil]
    have hp : s.length ≤ p := by have := congrArg List.length hd; simp at this; omega
    exact Go.Lib.runeCountFrom_end _ _ _ (by show ¬ p < s.length; omega)
  · intro m hm ih k p hd hk
    have hlt : p < s.length := by
      rcases Nat.lt_or_ge p s.length with h | h
      · exact h
      · rw [List.drop_of_length_le h] at hd; exact absurd hd.symm hm
    obtain ⟨k, rfl⟩ : ∃ j, k = j + 1 := ⟨k - 1, by have := List.length_pos_iff.2 hm; omega⟩
    have hat := at_eq ⟨s⟩ p
    unfold Str.at at hat
    have hpos := dec_pos m
    rw [Go.Lib.runeCountFrom, if_pos (show p < (ByteArray.mk s.toArray).size from hlt), hat, chunks_cons hm]
    show 1 + Go.Lib.runeCountFrom _ k (p + (dec (s.drop p)).2) = _
    rw [hd, ih k (p + (dec m).2) (by rw [← List.drop_drop, hd]) (by simp; omega)]
    simp; omega
theorem runesS_eq (l : List UInt8) : runesS ⟨l⟩ = ((chunks l).length : Int) := by
  unfold runesS Go.Lib.runeCount
  have := runes_from l l l.length 0 rfl (Nat.le_refl _)
  exact congrArg Int.ofNat this

theorem seg_take {l : List UInt8} {n : Nat} (h : n ≤ l.length) : seg l 0 (n : Int) = l.take n := by simp [seg]
theorem seg_drop {l : List UInt8} {n : Nat} : seg l (n : Int) (l.length : Int) = l.drop n := by simp [seg]
theorem fold_piece {l m : List UInt8} {p : Nat} (h : l.drop p = m) (hm : m ≠ []) : p < l.length := by
  rcases Nat.lt_or_ge p l.length with c | c
  · exact c
  · rw [List.drop_of_length_le c] at h; exact absurd h.symm hm
theorem bytes_take_one {m : List UInt8} (hm : m ≠ []) (k : Nat) : (bytesOf ((chunks m).take (k + 1))).length = (dec m).2 + (bytesOf ((chunks (m.drop (dec m).2)).take k)).length := by
  have := dec_le hm
  rw [chunks_cons hm, List.take_succ_cons, bytesOf_cons, List.length_append, List.length_take]
  omega

theorem cut_loop {f : Font} (hf : okF f) {l : List UInt8} (hl : l.length ≤ 1000000) (width : Int) : ∀ (m : List UInt8) (a : Int) (p : Nat), l.drop p = m → 1 ≤ p → 0 ≤ a → a ≤ 200 * p →
    loop (shape_cut_L1 f ⟨l⟩ width) (a, p) = some (if fitN f width a (chunks m) = (chunks m).length then Res.nx () else
      Res.ab (⟨l.take (p + (bytesOf ((chunks m).take (fitN f width a (chunks m)))).length)⟩, ⟨l.drop (p + (bytesOf ((chunks m).take (fitN f width a (chunks m)))).length)⟩)) := by
  intro m
  refine chunks_ind (p := fun m => ∀ (a : Int) (p : Nat), l.drop p = m → 1 ≤ p → 0 ≤ a → a ≤ 200 * p → loop (shape_cut_L1 f ⟨l⟩ width) (a, p) = some (if fitN f width a (chunks m) = (chunks m).length then Res.nx () else
      Res.ab (⟨l.take (p + (bytesOf ((chunks m).take (fitN f width a (chunks m)))).length)⟩, ⟨l.drop (p + (bytesOf ((chunks m).take (fitN f width a (chunks m)))).length)⟩))) ?_ ?_ m
  · intro a p hd _ _ _
    rw [chunks_nil]
    refine loop_done ?_
    unfold shape_cut_L1
    simp only [bnd_eq]
    have : ¬ p < l.length := by intro h; have := congrArg List.length hd; simp at this; omega
    rw [decide_eq_false (show ¬ p < (⟨l⟩ : Str).b.length from this)]
    simp [fitN]
  · intro m hm ih a p hd hp ha ha2
    have hlt := fold_piece hd hm
    have hw := wd_bd hf (dec m).1
    have hnx : (⟨l⟩ : Str).next p = p + (dec m).2 := by rw [next_eq (s := ⟨l⟩) hlt]; show p + (dec (l.drop p)).2 = _; rw [hd]
    have hat : (⟨l⟩ : Str).at p = dec m := by rw [at_eq]; show dec (l.drop p) = _; rw [hd]
    have hdp := dec_pos m
    have hc := chunks_cons hm
    by_cases c : a + wd f (dec m).1 ≤ width
    · have hfit : fitN f width a (chunks m) = fitN f width (a + wd f (dec m).1) (chunks (m.drop (dec m).2)) + 1 := by rw [hc, fitN]; simp only; rw [if_pos c]
      rw [hfit, bytes_take_one hm]
      have hi := ih (a + wd f (dec m).1) (p + (dec m).2) (by rw [← List.drop_drop, hd]) (by omega) (by omega) (by omega)
      have hlen : (chunks m).length = (chunks (m.drop (dec m).2)).length + 1 := by rw [hc]; simp
      rw [hlen]
      have e1 : (fitN f width (a + wd f (dec m).1) (chunks (m.drop (dec m).2)) + 1 = (chunks (m.drop (dec m).2)).length + 1) = (fitN f width (a + wd f (dec m).1) (chunks (m.drop (dec m).2)) = (chunks (m.drop (dec m).2)).length) := propext ⟨fun h => by omega, fun h => by omega⟩
      simp only [e1, ← Nat.add_assoc]
      rw [← hi]
      refine loop_again ?_
      unfold shape_cut_L1
      simp only [bnd_eq]
      rw [decide_eq_true (show p < (⟨l⟩ : Str).b.length from hlt), cond_true, need_of (show p < (⟨l⟩ : Str).b.length from hlt), need_of (show p < (⟨l⟩ : Str).b.length from hlt), hat, hnx, letter_eq f (dec_rune m), Option.bind_some, Wk (by omega) (by omega)]
      have : (decide ((0 : Int) < (p : Int)) && decide (width < a + wd f (dec m).1)) = false := by simp; omega
      rw [this]; rfl
    · have hfit : fitN f width a (chunks m) = 0 := by rw [hc, fitN]; simp only; rw [if_neg c]
      rw [hfit, if_neg (by rw [hc]; simp)]
      refine loop_done ?_
      unfold shape_cut_L1
      simp only [bnd_eq]
      rw [decide_eq_true (show p < (⟨l⟩ : Str).b.length from hlt), cond_true, need_of (show p < (⟨l⟩ : Str).b.length from hlt), need_of (show p < (⟨l⟩ : Str).b.length from hlt), hat, letter_eq f (dec_rune m), Option.bind_some, Wk (by omega) (by omega)]
      have : (decide ((0 : Int) < (p : Int)) && decide (width < a + wd f (dec m).1)) = true := by simp; omega
      rw [this, cond_true]
      show need (segR l.length 0 (p : Int)) (need (segR l.length (p : Int) (l.length : Int)) (some (Step.done (Res.ab ((⟨seg l 0 (p : Int)⟩ : Str), (⟨seg l (p : Int) (l.length : Int)⟩ : Str)))))) = _
      rw [need_of ⟨by omega, by omega, by omega⟩, need_of ⟨by omega, by omega, by omega⟩, seg_take (by omega), seg_drop]
      simp [bytesOf]
theorem cut_eq {f : Font} (hf : okF f) {l : List UInt8} (hl : l.length ≤ 1000000) {width : Int} (h1 : width < mw f l) (h2 : 2 ≤ (chunks l).length) : shape_cut f ⟨l⟩ width = some (⟨headB f width l⟩, ⟨restB f width l⟩) := by
  have hne : l ≠ [] := fun e => by rw [e, chunks_nil] at h2; simp at h2
  have hlp := List.length_pos_iff.2 hne
  have hw := wd_bd hf (dec l).1
  have hdp := dec_pos l
  have hc := chunks_cons hne
  have hnx : (⟨l⟩ : Str).next 0 = (dec l).2 := by rw [next_eq (s := ⟨l⟩) hlp]; show 0 + (dec (l.drop 0)).2 = _; rw [List.drop_zero]; omega
  have hat : (⟨l⟩ : Str).at 0 = dec l := by rw [at_eq]; rfl
  unfold shape_cut
  have e0 : loop (shape_cut_L1 f ⟨l⟩ width) (0, 0) = loop (shape_cut_L1 f ⟨l⟩ width) (wd f (dec l).1, (dec l).2) := by
    refine loop_again ?_
    unfold shape_cut_L1
    simp only [bnd_eq]
    rw [decide_eq_true (show 0 < (⟨l⟩ : Str).b.length from hlp), cond_true, need_of (show 0 < (⟨l⟩ : Str).b.length from hlp), need_of (show 0 < (⟨l⟩ : Str).b.length from hlp), hat, hnx, letter_eq f (dec_rune l), Option.bind_some, Wk (by omega) (by omega), show (0 : Int) + wd f (dec l).1 = wd f (dec l).1 by omega]
    rfl
  rw [e0, cut_loop hf hl width (l.drop (dec l).2) _ _ rfl hdp (by omega) (by omega)]
  have hcut : cutN f width l = fitN f width (wd f (dec l).1) (chunks (l.drop (dec l).2)) + 1 := by unfold cutN; rw [hc]
  have hlt := cutN_lt h1 h2
  rw [hcut, hc, List.length_cons] at hlt
  rw [if_neg (by omega)]
  have hq : (dec l).2 + (bytesOf ((chunks (l.drop (dec l).2)).take (fitN f width (wd f (dec l).1) (chunks (l.drop (dec l).2))))).length = (headB f width l).length := by
    unfold headB
    rw [hcut, bytes_take_one hne]
  rw [hq]
  have hr := head_rest f width l
  have t1 : l.take (headB f width l).length = headB f width l := by
    have := congrArg (List.take (headB f width l).length) hr
    rw [List.take_left] at this
    exact this.symm
  have t2 : l.drop (headB f width l).length = restB f width l := by
    have := congrArg (List.drop (headB f width l).length) hr
    rw [List.drop_left] at this
    exact this.symm
  rw [t1, t2]; rfl
theorem cutAll_loop {f : Font} (hf : okF f) (width : Int) : ∀ (l : List UInt8), l ≠ [] → ∀ (L : List (List UInt8)), l.length ≤ 1000000 → L.length + l.length ≤ 100000000 →
    loop (shape_wrapPart_L2 f width) (⟨l⟩, mw f l, L.map Str.mk) = some (⟨(cutAll f width l).2⟩, mw f (cutAll f width l).2, (L ++ (cutAll f width l).1).map Str.mk) := by
  intro l
  refine cut_ind (f := f) (width := width) (p := fun l => l ≠ [] → ∀ (L : List (List UInt8)), l.length ≤ 1000000 → L.length + l.length ≤ 100000000 →
    loop (shape_wrapPart_L2 f width) (⟨l⟩, mw f l, L.map Str.mk) = some (⟨(cutAll f width l).2⟩, mw f (cutAll f width l).2, (L ++ (cutAll f width l).1).map Str.mk)) ?_ ?_ l
  · intro l h hne L hl hL
    rw [cutAll_no h]
    refine loop_done ?_
    unfold shape_wrapPart_L2 utf8_RuneCountInString
    rw [need_of (by show (l.length : Int) < _; omega), runesS_eq]
    by_cases c : width < mw f l
    · have : ¬ 2 ≤ (chunks l).length := fun e => h ⟨c, e⟩
      simp only [decide_eq_true c, gd_true, Option.bind_some, Bool.true_and]
      rw [decide_eq_false (by omega)]; simp
    · simp only [decide_eq_false c, gd_false, Option.bind_some, Bool.false_and, cond_false]; simp
  · intro l h1 h2 ih hne L hl hL
    have hlt := rest_lt (f := f) (width := width) hne
    rw [cutAll_yes ⟨h1, h2⟩]
    have hi := ih (rest_ne h1 h2) (L ++ [headB f width l]) (by omega) (by simp; omega)
    simp only
    rw [show L ++ headB f width l :: (cutAll f width (restB f width l)).1 = L ++ [headB f width l] ++ (cutAll f width (restB f width l)).1 by simp, ← hi]
    refine loop_again ?_
    unfold shape_wrapPart_L2 utf8_RuneCountInString
    rw [need_of (by show (l.length : Int) < _; omega), runesS_eq]
    simp only [decide_eq_true h1, gd_true, Option.bind_some, Bool.true_and, bnd_eq]
    rw [decide_eq_true (by omega), cond_true, cut_eq hf hl h1 h2, Option.bind_some]
    rw [need_of (by rw [room_iff]; simp; omega), measure_eq hf (s := ⟨restB f width l⟩) (by show (restB f width l).length ≤ _; omega), Option.bind_some]
    simp
theorem flush_eq {ln : List UInt8} {L : List (List UInt8)} {wide : Int} (hL : L.length ≤ 100000000) : shape_wrapPart_1 ⟨ln⟩ (L.map Str.mk) wide = some (Str.nil, (if ln ≠ [] then L ++ [ln] else L).map Str.mk, 0) := by
  unfold shape_wrapPart_1
  by_cases h : ln = []
  · subst h
    have : (!decide ((⟨[]⟩ : Str) = Str.nil)) = false := by decide
    rw [this]; simp
  · have : (!decide ((⟨ln⟩ : Str) = Str.nil)) = true := by
      rw [decide_eq_false (p := (⟨ln⟩ : Str) = Str.nil) (fun e => h (congrArg Str.b e))]; rfl
    rw [this, cond_true, need_of (by rw [room_iff]; simp; omega)]; simp [h]
theorem wordStep_eq {f : Font} (hf : okF f) {width : Int} (hw : width ≤ 1000000) {st : List (List UInt8) × List UInt8} {w : List UInt8} (hne : w ≠ []) (h1 : w.length ≤ 10000) (h2 : st.1.length ≤ 1000000) (h3 : st.2.length ≤ 10000) {ws : List Str} {i : Int} (hi : inR ws i) (hg : gx ws i = ⟨w⟩) :
    shape_wrapPart_L1 f width ws i (st.1.map Str.mk, ⟨st.2⟩, if st.2 = [] then 0 else mw f st.2) =
      some ((stepW f width st w).1.map Str.mk, ⟨(stepW f width st w).2⟩, if (stepW f width st w).2 = [] then 0 else mw f (stepW f width st w).2) := by
  obtain ⟨L, ln⟩ := st
  simp only at h2 h3
  have hnb := mw_bd hf w
  have hlb := mw_bd hf ln
  have hN : 1 ≤ f.Normal ∧ f.Normal ≤ 200 := by unfold okF at hf; omega
  unfold shape_wrapPart_L1
  rw [need_of hi, hg]
  simp only [bnd_eq]
  rw [measure_eq hf (s := ⟨w⟩) (by show w.length ≤ _; omega), Option.bind_some]
  show bindR (bif decide (width < mw f w) then _ else _) _ = _
  by_cases c : width < mw f w
  · -- a word that is too wide
    have hst : stepW f width (L, ln) w = ((if ln ≠ [] then L ++ [ln] else L) ++ (cutAll f width w).1, (cutAll f width w).2) := by
      unfold stepW
      rw [if_neg (by simp only; omega)]
    obtain ⟨k1, k2, k3⟩ := cutAll_spec (f := f) (width := width) w hne
    rw [decide_eq_true c, cond_true, flush_eq (by omega), Option.bind_some]
    simp only
    rw [cutAll_loop hf width w hne (if ln ≠ [] then L ++ [ln] else L) (by omega) (by split <;> (try simp only [List.length_append, List.length_singleton]) <;> omega), Option.bind_some, bindR_ab, hst]
    simp only [k1, if_false]
  · have hca : cutAll f width w = ([], w) := cutAll_no (fun h => c h.1)
    rw [decide_eq_false c, cond_false, bindR_nx]
    by_cases e : ln = []
    · subst e
      have hst : stepW f width (L, []) w = (L, w) := by
        unfold stepW
        rw [if_neg (by simp), hca]; simp
      rw [hst]
      have : (!decide ((⟨[]⟩ : Str) = Str.nil)) = false := by decide
      simp only [this, Bool.false_and, cond_false, Option.bind_some]
      have : decide ((⟨[]⟩ : Str) = Str.nil) = true := by decide
      rw [this, cond_true]; simp [hne]
    · have hse : decide ((⟨ln⟩ : Str) = Str.nil) = false := decide_eq_false (fun x => e (congrArg Str.b x))
      simp only [if_neg e]
      rw [Wk (n := mw f ln + f.Normal) (by omega) (by omega), Wk (by omega) (by omega)]
      by_cases q : width < mw f ln + f.Normal + mw f w
      · have hst : stepW f width (L, ln) w = (L ++ [ln], w) := by
          unfold stepW
          rw [if_neg (by simp only; omega), hca]; simp [e]
        rw [hst]
        simp only [hse, Bool.not_false, Bool.true_and, decide_eq_true q, cond_true]
        rw [flush_eq (by omega), Option.bind_some]
        simp only [Option.bind_some]
        simp [e, hne]
      · have hst : stepW f width (L, ln) w = (L, ln ++ 32 :: w) := by
          unfold stepW
          rw [if_pos ⟨e, by simp only; omega⟩]
        rw [hst]
        simp only [hse, Bool.not_false, Bool.true_and, decide_eq_false q, cond_false, Option.bind_some]
        rw [need_of (by simp; omega), need_of (by simp; omega), mw_space]
        simp
        rw [Wk (n := mw f ln + f.Normal) (by omega) (by omega), Wk (by omega) (by omega)]
theorem wordsLoop_eq {f : Font} (hf : okF f) {width : Int} (hw : width ≤ 1000000) {p : List UInt8} (hp : p.length ≤ 5000) :
    rfor (((wordsB p).map Str.mk).length : Int) (shape_wrapPart_L1 f width ((wordsB p).map Str.mk)) (([] : List Str), Str.nil, 0) = some ((foldW f width (wordsB p) []).1.map Str.mk, ⟨(foldW f width (wordsB p) []).2⟩, if (foldW f width (wordsB p) []).2 = [] then 0 else mw f (foldW f width (wordsB p) []).2) := by
  have htot := tot_words p
  have hlen := tot_len (wordsB p)
  rw [rfor_list (fun (x : Str) s => shape_wrapPart_L1 f width [x] 0 s) (by simp; omega) (fun i s hi => by
    unfold shape_wrapPart_L1
    rw [need_of hi, need_of (show inR [gx ((wordsB p).map Str.mk) i] 0 from ⟨by omega, by simp⟩)]
    rfl)]
  obtain ⟨s', h1, h2⟩ := lgo_model (f := fun (x : Str) s => shape_wrapPart_L1 f width [x] 0 s) (l := (wordsB p).map Str.mk) (s0 := (([] : List Str), Str.nil, (0 : Int))) (t0 := (([] : List (List UInt8)), ([] : List UInt8))) (fun t x => stepW f width t x.b)
    (fun done s t => s = (t.1.map Str.mk, ⟨t.2⟩, if t.2 = [] then 0 else mw f t.2) ∧ t.1.length ≤ tot (done.map Str.b) ∧ t.2.length ≤ tot (done.map Str.b)) ⟨rfl, by simp, by simp⟩
    (fun done x rest s t hsp hR => by
      obtain ⟨rfl, r1, r2⟩ := hR
      have hm := congrArg (List.map Str.b) hsp
      rw [List.map_map] at hm
      have hid : (wordsB p).map (Str.b ∘ Str.mk) = wordsB p := by simp [Function.comp_def]
      rw [hid, List.map_append, List.map_cons] at hm
      have ht : tot (done.map Str.b) + (x.b.length + 1) ≤ p.length + 1 := by
        have := congrArg tot hm
        rw [tot_append, tot_cons] at this; omega
      have hx : x.b ≠ [] := words_ne (p := p) (by rw [hm]; simp)
      obtain ⟨b1, b2, b3⟩ := stepW_bd (f := f) (width := width) (st := t) hx
      refine ⟨_, wordStep_eq hf hw hx (by omega) (by omega) (by omega) ⟨by omega, by simp⟩ rfl, rfl, ?_, ?_⟩
      · rw [List.map_append, tot_append]; simp only [List.map_cons, List.map_nil, tot_cons]; omega
      · rw [List.map_append, tot_append]; simp only [List.map_cons, List.map_nil, tot_cons]; omega)
  rw [h1, h2.1]
  have e : ((wordsB p).map Str.mk).foldl (fun t x => stepW f width t x.b) (([] : List (List UInt8)), ([] : List UInt8)) = foldW f width (wordsB p) [] := by rw [List.foldl_map]; rfl
  rw [e]
theorem fold_line {f : Font} {width : Int} {ws : List (List UInt8)} (h : ∀ w ∈ ws, w ≠ []) : (foldW f width ws []).2 = [] ↔ ws = [] := by
  constructor
  · intro e
    rcases List.eq_nil_or_concat ws with h1 | ⟨a, w, h1⟩
    · exact h1
    · subst h1
      unfold foldW at e
      rw [List.concat_eq_append, List.foldl_append, List.foldl_cons, List.foldl_nil] at e
      exact absurd e (stepW_bd (h w (by simp))).2.2
  · rintro rfl; rfl
theorem wrapPart_eq {f : Font} (hf : okF f) {width : Int} (hw : width ≤ 1000000) {p : List UInt8} (hp : p.length ≤ 5000) : shape_wrapPart f ⟨p⟩ width = some ((partB f width p).map Str.mk) := by
  have htot := tot_words p
  obtain ⟨a, b⟩ := fold_bd (f := f) (width := width) (wordsB p) ([], []) (fun w hw => words_ne hw)
  unfold shape_wrapPart
  rw [wordsOf_eq (by omega), Option.bind_some, wordsLoop_eq hf hw hp, Option.bind_some]
  change (foldW f width (wordsB p) []).1.length + 1 ≤ _ at a
  simp only [List.length_nil] at a
  rw [flush_eq (by omega), Option.bind_some]
  unfold partB
  have hfl := fold_line (f := f) (width := width) (ws := wordsB p) (fun w hw => words_ne hw)
  by_cases e : wordsB p = []
  · have e2 := hfl.2 e
    have e3 : decide ((((wordsB p).map Str.mk).length : Int) = 0) = true := by rw [e]; rfl
    rw [e3, cond_true, need_of (by rw [room_iff]; simp [e2]; omega)]
    simp [e2, Str.nil]
  · have e2 : ¬ (foldW f width (wordsB p) []).2 = [] := fun x => e (hfl.1 x)
    have e3 : decide ((((wordsB p).map Str.mk).length : Int) = 0) = false := decide_eq_false (by have := List.length_pos_iff.2 e; simp; exact e)
    rw [e3, cond_false]
    simp [e2]
theorem wrap_eq {f : Font} (hf : okF f) {width : Int} (hw : width ≤ 1000000) {t : List UInt8} (ht : t.length ≤ 5000) : shape_wrap f ⟨t⟩ width = some ((wrapB f width t).map Str.mk) := by
  unfold shape_wrap strings_Split
  rw [need_of ⟨by show (t.length : Int) < _; omega, by simp⟩, Option.bind_some, splitS_one]
  have htot := tot_pieces 10 t
  have hlen := tot_len (pieces 10 t)
  rw [rfor_list (fun (x : Str) s => shape_wrap_L1 f [x] width 0 s) (by simp; omega) (fun i s hi => by
    unfold shape_wrap_L1
    rw [need_of hi, need_of (show inR [gx ((pieces 10 t).map Str.mk) i] 0 from ⟨by omega, by simp⟩)]
    rfl)]
  obtain ⟨s', h1, h2⟩ := lgo_model (f := fun (x : Str) s => shape_wrap_L1 f [x] width 0 s) (l := (pieces 10 t).map Str.mk) (s0 := ([] : List Str)) (t0 := ([] : List (List UInt8))) (fun a x => a ++ partB f width x.b)
    (fun done s a => s = a.map Str.mk ∧ a.length ≤ 2 * tot (done.map Str.b)) ⟨rfl, by simp⟩
    (fun done x rest s a hsp hR => by
      obtain ⟨rfl, r1⟩ := hR
      have hm := congrArg (List.map Str.b) hsp
      rw [List.map_map] at hm
      have hid : (pieces 10 t).map (Str.b ∘ Str.mk) = pieces 10 t := by simp [Function.comp_def]
      rw [hid, List.map_append, List.map_cons] at hm
      have hT : tot (done.map Str.b) + (x.b.length + 1) ≤ t.length + 1 := by
        have := congrArg tot hm
        rw [tot_append, tot_cons] at this; omega
      have hpl := partB_len f width x.b
      refine ⟨_, ?_, rfl, ?_⟩
      · unfold shape_wrap_L1
        rw [need_of ⟨by omega, by simp⟩]
        show Option.bind (shape_wrapPart f ⟨x.b⟩ width) _ = _
        rw [wrapPart_eq hf hw (by omega), Option.bind_some, need_of (by rw [room_iff]; simp; omega)]
        simp
      · rw [List.map_append, tot_append]; simp only [List.map_cons, List.map_nil, tot_cons, List.length_append]; omega)
  rw [h1, Option.bind_some, h2.1]
  congr 2
  unfold wrapB
  rw [List.foldl_map]
  have : ∀ (ps : List (List UInt8)) (a : List (List UInt8)), ps.foldl (fun a x => a ++ partB f width (Str.mk x).b) a = a ++ ps.flatMap (partB f width) := by
    intro ps
    induction ps with
    | nil => intro a; simp
    | cons p ps ih => intro a; rw [List.foldl_cons, ih]; simp
  rw [this]; simp

end Go.DB
