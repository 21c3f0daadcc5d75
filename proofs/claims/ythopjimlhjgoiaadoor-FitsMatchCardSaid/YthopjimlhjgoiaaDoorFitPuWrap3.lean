/-
  Texts divided into lines: the answer's functions compute it too.
-/
import Derived.Test.YthopjimlhjgoiaaDoorFitPuWrap2
set_option linter.unusedSimpArgs false
set_option linter.unusedVariables false
namespace Go.DB
open Go Go.RowKit

def posN (l : List UInt8) (j : Nat) : Nat := (bytesOf ((chunks l).take j)).length
theorem pos_zero (l : List UInt8) : posN l 0 = 0 := by simp [posN, bytesOf]
theorem pos_all {l : List UInt8} {j : Nat} (h : (chunks l).length ≤ j) : posN l j = l.length := by unfold posN; rw [List.take_of_length_le h, chunks_flat]
theorem pos_take (l : List UInt8) (j : Nat) : l.take (posN l j) = bytesOf ((chunks l).take j) := by
  have h : bytesOf ((chunks l).take j) ++ bytesOf ((chunks l).drop j) = l := by rw [← bytesOf_append, List.take_append_drop, chunks_flat]
  have := congrArg (List.take (posN l j)) h
  unfold posN at this ⊢
  rw [List.take_left] at this
  exact this.symm
theorem pos_drop (l : List UInt8) (j : Nat) : l.drop (posN l j) = bytesOf ((chunks l).drop j) := by
  have h : bytesOf ((chunks l).take j) ++ bytesOf ((chunks l).drop j) = l := by rw [← bytesOf_append, List.take_append_drop, chunks_flat]
  have := congrArg (List.drop (posN l j)) h
  unfold posN at this ⊢
  rw [List.drop_left] at this
  exact this.symm
theorem pos_le (l : List UInt8) (j : Nat) : posN l j ≤ l.length := by
  have h : bytesOf ((chunks l).take j) ++ bytesOf ((chunks l).drop j) = l := by rw [← bytesOf_append, List.take_append_drop, chunks_flat]
  have := congrArg List.length h
  simp only [List.length_append] at this
  unfold posN; omega
theorem pos_next {l : List UInt8} {j : Nat} (h : j < (chunks l).length) : posN l (j + 1) = posN l j + (dec (l.drop (posN l j))).2 := by
  have hne : l.drop (posN l j) ≠ [] := by
    intro e
    rw [pos_drop] at e
    have := chunks_drop l j
    rw [e, chunks_nil] at this
    have := congrArg List.length this
    simp at this; omega
  have hc := chunks_drop l j
  rw [← pos_drop] at hc
  rw [chunks_cons hne] at hc
  unfold posN
  rw [List.take_add_one, bytesOf_append, List.length_append]
  congr 1
  have hj : (chunks l)[j]? = some ((dec (l.drop (posN l j))).1, (l.drop (posN l j)).take (dec (l.drop (posN l j))).2) := by
    have := congrArg (·[0]?) hc
    simp only [List.getElem?_cons_zero, List.getElem?_drop, Nat.add_zero] at this
    exact this.symm
  rw [hj]
  have := dec_le hne
  simp only [Option.toList_some, bytesOf_cons, bytesOf_nil, List.append_nil, List.length_take]
  unfold posN at *
  omega
theorem pos_lt {l : List UInt8} {j : Nat} (h : j < (chunks l).length) : posN l j < l.length := by
  have h1 := pos_next h
  have h2 := dec_pos (l.drop (posN l j))
  have h3 := pos_le l (j + 1)
  omega
theorem pos_pos {l : List UInt8} {j : Nat} (h : j < (chunks l).length) (hj : 1 ≤ j) : 1 ≤ posN l j := by
  obtain ⟨i, rfl⟩ : ∃ i, j = i + 1 := ⟨j - 1, by omega⟩
  have h1 := pos_next (l := l) (j := i) (by omega)
  have h2 := dec_pos (l.drop (posN l i))
  omega
theorem fitN_zero {f : Font} (hf : okF f) {width a : Int} (h : width < a) (cs : List (Nat × List UInt8)) : fitN f width a cs = 0 := by
  cases cs with
  | nil => rfl
  | cons c cs =>
    have := wd_bd hf c.1
    unfold fitN
    rw [if_neg (by omega)]
theorem decodeS_eq {l : List UInt8} (h : l ≠ []) : (decodeS ⟨l⟩).2 = ((dec l).2 : Int) := by
  unfold decodeS Go.Lib.decodeGo
  have hp := List.length_pos_iff.2 h
  rw [if_neg (show ¬ (ByteArray.mk l.toArray).size = 0 by show ¬ l.length = 0; omega)]
  have := at_eq ⟨l⟩ 0
  unfold Str.at at this
  rw [List.drop_zero] at this
  simp only
  rw [this]
theorem scan_loop {f : Font} (hf : okF f) {width : Int} {O : List Str} {cu : Bool} {l : List UInt8} (hl : l.length ≤ 1000000) : ∀ (k j : Nat), j + k = (chunks l).length →
    loop (ref_WrapOf_L4 f (O, cu, ⟨l⟩) width) ((posN l (min (j - 1) (fitN f width 0 (chunks l))) : Int), posN l j) = some (posN l (min ((chunks l).length - 1) (fitN f width 0 (chunks l))) : Int) := by
  intro k
  induction k with
  | zero =>
    intro j hj
    have hp : posN l j = l.length := pos_all (by omega)
    rw [show j = (chunks l).length by omega] at *
    refine loop_done ?_
    unfold ref_WrapOf_L4
    simp only [bnd_eq]
    rw [decide_eq_false (show ¬ posN l (chunks l).length < (⟨l⟩ : Str).b.length by show ¬ posN l _ < l.length; omega)]
    rfl
  | succ k ih =>
    intro j hj
    have hlt : j < (chunks l).length := by omega
    have hpl := pos_lt hlt
    have hnx : (⟨l⟩ : Str).next (posN l j) = posN l (j + 1) := by rw [next_eq (s := ⟨l⟩) hpl, pos_next hlt]
    rw [← ih (j + 1) (by omega)]
    refine loop_again ?_
    unfold ref_WrapOf_L4
    simp only [bnd_eq]
    rw [decide_eq_true (show posN l j < (⟨l⟩ : Str).b.length from hpl), cond_true, need_of (show posN l j < (⟨l⟩ : Str).b.length from hpl), hnx]
    by_cases c : j = 0
    · subst c
      rw [need_of (by intro h; rw [pos_zero] at h; simp at h)]
      have e : decide ((0 : Int) < (posN l 0 : Int)) = false := by rw [pos_zero]; rfl
      rw [e]
      simp
    · have h1 := pos_pos hlt (by omega)
      have e : decide ((0 : Int) < (posN l j : Int)) = true := by simp; omega
      have hsl : seg l 0 (posN l j : Int) = bytesOf ((chunks l).take j) := by rw [seg_take (by omega), pos_take]
      have hmw : mw f (bytesOf ((chunks l).take j)) = cw f ((chunks l).take j) := by rw [mw_cw, chunks_take]
      have hsp := fitN_spec hf width 0 (chunks l) j (by omega) (by omega)
      have hble : (bytesOf ((chunks l).take j)).length ≤ l.length := pos_le l j
      rw [need_of (show decide ((0 : Int) < (posN l j : Int)) = true → segR (⟨l⟩ : Str).b.length 0 (posN l j : Int) from fun _ => ⟨by omega, by omega, by show (posN l j : Int) ≤ (l.length : Int); omega⟩), e, gd_true]
      show Option.bind (ref_WidthOf f ⟨seg l 0 (posN l j : Int)⟩) _ = _
      rw [hsl, WidthOf_eq hf (by show (bytesOf ((chunks l).take j)).length ≤ _; omega), Option.bind_some, Bool.true_and]
      show (bif decide (mw f (bytesOf ((chunks l).take j)) ≤ width) then _ else _) = _
      rw [hmw]
      by_cases q : cw f ((chunks l).take j) ≤ width
      · have hj2 : j ≤ fitN f width 0 (chunks l) := hsp.1 (by omega)
        rw [decide_eq_true q, cond_true, show min (j + 1 - 1) (fitN f width 0 (chunks l)) = j by omega]
      · have hj2 : ¬ j ≤ fitN f width 0 (chunks l) := fun h => q (by have := hsp.2 h; omega)
        rw [decide_eq_false q, cond_false, show min (j + 1 - 1) (fitN f width 0 (chunks l)) = min (j - 1) (fitN f width 0 (chunks l)) by omega]
theorem cutRef_loop {f : Font} (hf : okF f) (width : Int) : ∀ (l : List UInt8), l ≠ [] → ∀ (O : List (List UInt8)) (cu : Bool), l.length ≤ 1000000 → O.length + l.length ≤ 100000000 →
    loop (ref_WrapOf_L3 f width) (O.map Str.mk, cu, ⟨l⟩) = some ((O ++ (cutAll f width l).1).map Str.mk, cu || !(cutAll f width l).1.isEmpty, ⟨(cutAll f width l).2⟩) := by
  intro l
  refine cut_ind (f := f) (width := width) (p := fun l => l ≠ [] → ∀ (O : List (List UInt8)) (cu : Bool), l.length ≤ 1000000 → O.length + l.length ≤ 100000000 →
    loop (ref_WrapOf_L3 f width) (O.map Str.mk, cu, ⟨l⟩) = some ((O ++ (cutAll f width l).1).map Str.mk, cu || !(cutAll f width l).1.isEmpty, ⟨(cutAll f width l).2⟩)) ?_ ?_ l
  · intro l h hne O cu hl hO
    rw [cutAll_no h]
    refine loop_done ?_
    unfold ref_WrapOf_L3
    show Option.bind (ref_WidthOf f ⟨l⟩) _ = _
    rw [WidthOf_eq hf (s := ⟨l⟩) hl, Option.bind_some]
    show (bif decide (width < mw f l) then _ else _) = _
    by_cases c : width < mw f l
    · have h1 : (chunks l).length = 1 := by
        have h2 : ¬ 2 ≤ (chunks l).length := fun e => h ⟨c, e⟩
        have h3 : chunks l ≠ [] := fun e => hne (chunks_eq_nil.1 e)
        have := List.length_pos_iff.2 h3
        omega
      have hs := scan_loop hf (width := width) (O := O.map Str.mk) (cu := cu) hl (chunks l).length 0 (by omega)
      rw [h1] at hs
      have e0 : min (1 - 1) (fitN f width 0 (chunks l)) = 0 := by omega
      rw [e0, pos_zero] at hs
      have hd : (dec l).2 = l.length := by
        have h4 := pos_next (l := l) (j := 0) (by omega)
        rw [pos_zero, List.drop_zero, pos_all (by omega)] at h4
        omega
      rw [decide_eq_true c, cond_true]
      simp only [bnd_eq]
      rw [show ((0 : Nat) : Int) = 0 from rfl] at hs
      rw [hs, Option.bind_some]
      simp only [decide_true, cond_true, utf8_DecodeRuneInString, Option.bind_some]
      rw [decodeS_eq hne, hd]
      simp
    · rw [decide_eq_false c, cond_false]; simp
  · intro l h1 h2 ih hne O cu hl hO
    have hlt := rest_lt (f := f) (width := width) hne
    have hhn := head_ne (f := f) (width := width) hne
    have hhl := congrArg List.length (head_rest f width l)
    rw [List.length_append] at hhl
    have hrn := List.length_pos_iff.2 (rest_ne h1 h2)
    have hhp := List.length_pos_iff.2 hhn
    rw [cutAll_yes ⟨h1, h2⟩]
    have hi := ih (rest_ne h1 h2) (O ++ [headB f width l]) true (by omega) (by simp; omega)
    simp only
    have e : O ++ headB f width l :: (cutAll f width (restB f width l)).1 = O ++ [headB f width l] ++ (cutAll f width (restB f width l)).1 := by simp
    have e2 : (cu || !(headB f width l :: (cutAll f width (restB f width l)).1).isEmpty) = (true || !(cutAll f width (restB f width l)).1.isEmpty) := by simp
    rw [e, e2, ← hi]
    refine loop_again ?_
    unfold ref_WrapOf_L3
    show Option.bind (ref_WidthOf f ⟨l⟩) _ = _
    rw [WidthOf_eq hf (s := ⟨l⟩) hl, Option.bind_some]
    show (bif decide (width < mw f l) then _ else _) = _
    rw [decide_eq_true h1, cond_true]
    simp only [bnd_eq]
    have hs := scan_loop hf (width := width) (O := O.map Str.mk) (cu := cu) hl (chunks l).length 0 (by omega)
    have e1 : min (0 - 1) (fitN f width 0 (chunks l)) = 0 := by omega
    rw [e1, pos_zero] at hs
    rw [show ((0 : Nat) : Int) = 0 from rfl] at hs
    rw [hs, Option.bind_some]
    -- where it is cut
    have hcl := cutN_lt h1 h2
    have hw := wd_bd hf (dec l).1
    have hc := chunks_cons hne
    have hcut : cutN f width l = fitN f width (wd f (dec l).1) (chunks (l.drop (dec l).2)) + 1 := by unfold cutN; rw [hc]
    have hF : fitN f width 0 (chunks l) = if wd f (dec l).1 ≤ width then cutN f width l else 0 := by
      rw [hc, fitN, hcut]
      simp only [Int.zero_add]
    have hlen : (headB f width l).length = posN l (cutN f width l) := rfl
    have hn2 : (bif decide ((posN l (min ((chunks l).length - 1) (fitN f width 0 (chunks l))) : Int) = 0) then Option.bind (utf8_DecodeRuneInString ⟨l⟩) (fun r6 => some r6.2) else some (posN l (min ((chunks l).length - 1) (fitN f width 0 (chunks l))) : Int)) = some ((headB f width l).length : Int) := by
      by_cases c : wd f (dec l).1 ≤ width
      · rw [if_pos c] at hF
        rw [hF, show min ((chunks l).length - 1) (cutN f width l) = cutN f width l by omega, ← hlen, decide_eq_false (by omega)]
        rfl
      · rw [if_neg c] at hF
        have hone : cutN f width l = 1 := by rw [hcut, fitN_zero hf (by omega)]
        have : (headB f width l).length = (dec l).2 := by
          rw [hlen, hone]
          have h4 : posN l 1 = posN l 0 + (dec (l.drop (posN l 0))).2 := pos_next (l := l) (j := 0) (by omega)
          rw [pos_zero, List.drop_zero] at h4
          omega
        rw [hF, show min ((chunks l).length - 1) 0 = 0 by omega, pos_zero]
        simp only [utf8_DecodeRuneInString, Option.bind_some]
        rw [decodeS_eq hne, this]
        rfl
    rw [hn2, Option.bind_some]
    show (bif decide (((headB f width l).length : Int) = (l.length : Int)) then _ else _) = _
    rw [decide_eq_false (by omega), cond_false]
    show need (segR l.length 0 ((headB f width l).length : Int)) _ = _
    rw [need_of ⟨by omega, by omega, by omega⟩, need_of (by rw [room_iff]; simp; omega)]
    show need (segR l.length ((headB f width l).length : Int) (l.length : Int)) _ = _
    rw [need_of ⟨by omega, by omega, by omega⟩]
    have hr := head_rest f width l
    have t1 : seg l 0 ((headB f width l).length : Int) = headB f width l := by
      rw [seg_take (by omega)]
      have := congrArg (List.take (headB f width l).length) hr
      rw [List.take_left] at this
      exact this.symm
    have t2 : seg l ((headB f width l).length : Int) (l.length : Int) = restB f width l := by
      rw [seg_drop]
      have := congrArg (List.drop (headB f width l).length) hr
      rw [List.drop_left] at this
      exact this.symm
    show some (Step.again (O.map Str.mk ++ [(⟨seg l 0 ((headB f width l).length : Int)⟩ : Str)], true, (⟨seg l ((headB f width l).length : Int) (l.length : Int)⟩ : Str))) = _
    rw [t1, t2]
    simp

def stepR (f : Font) (width : Int) (t : (List (List UInt8) × List UInt8) × Bool) (x : List UInt8) : (List (List UInt8) × List UInt8) × Bool :=
  if x = [] then t else (stepW f width t.1 x, t.2 || !(cutAll f width x).1.isEmpty)
theorem stepRef_eq {f : Font} (hf : okF f) {width : Int} {t : (List (List UInt8) × List UInt8) × Bool} {w : List UInt8} (h1 : w.length ≤ 10000) (h2 : t.1.1.length ≤ 1000000) (h3 : t.1.2.length ≤ 10000) {ws : List Str} {i : Int} (hi : inR ws i) (hg : gx ws i = ⟨w⟩) :
    ref_WrapOf_L2 f ws width i (t.1.1.map Str.mk, t.2, ⟨t.1.2⟩, decide (t.1.2 ≠ [])) = some ((stepR f width t w).1.1.map Str.mk, (stepR f width t w).2, ⟨(stepR f width t w).1.2⟩, decide ((stepR f width t w).1.2 ≠ [])) := by
  obtain ⟨⟨L, ln⟩, cu⟩ := t
  simp only at h2 h3
  unfold ref_WrapOf_L2
  rw [need_of hi, hg]
  simp only [bnd_eq]
  by_cases e : w = []
  · subst e
    have : decide ((⟨[]⟩ : Str) = Str.nil) = true := by decide
    rw [this, cond_true]
    unfold stepR
    rw [if_pos rfl]
  · have : decide ((⟨w⟩ : Str) = Str.nil) = false := decide_eq_false (fun x => e (congrArg Str.b x))
    rw [this, cond_false]
    have hnb := mw_bd hf w
    have hlb := mw_bd hf ln
    have hN : 1 ≤ f.Normal ∧ f.Normal ≤ 200 := by unfold okF at hf; omega
    unfold stepR
    rw [if_neg e]
    obtain ⟨k1, k2, k3⟩ := cutAll_spec (f := f) (width := width) w e
    rw [need_of (by intro _; simp; omega), need_of (by intro _; simp; omega)]
    by_cases c : ln = []
    · subst c
      have hst : stepW f width (L, []) w = (L ++ (cutAll f width w).1, (cutAll f width w).2) := by
        unfold stepW
        rw [if_neg (by simp)]; simp
      simp only [ne_eq, not_true_eq_false, decide_false, gd_false, Option.bind_some, Bool.false_and, cond_false]
      rw [cutRef_loop hf width w e L cu (by omega) (by omega), Option.bind_some, hst]
      simp [k1]
    · have d1 : decide (ln ≠ []) = true := by simpa using c
      simp only [d1, gd_true, Bool.true_and, cond_true]
      have hw2 : ref_WidthOf f (⟨(⟨ln ++ (⟨[32]⟩ : Str).b⟩ : Str).b ++ w⟩ : Str) = some (mw f ln + f.Normal + mw f w) := by
        rw [WidthOf_eq hf (by simp; omega)]
        show some (mw f (ln ++ [32] ++ w)) = _
        rw [List.append_assoc, List.singleton_append, mw_space]
      rw [hw2, Option.bind_some]
      by_cases q : mw f ln + f.Normal + mw f w ≤ width
      · have hca : cutAll f width w = ([], w) := cutAll_no (fun h => by omega)
        have hst : stepW f width (L, ln) w = (L, ln ++ 32 :: w) := by
          unfold stepW
          rw [if_pos ⟨c, q⟩]
        rw [decide_eq_true q, cond_true, need_of (by simp; omega), need_of (by simp; omega), hst, hca]
        simp
      · have hst : stepW f width (L, ln) w = (L ++ [ln] ++ (cutAll f width w).1, (cutAll f width w).2) := by
          unfold stepW
          rw [if_neg (fun h => q h.2)]; simp [c]
        rw [decide_eq_false q, cond_false, need_of (by rw [room_iff]; simp; omega), Option.bind_some]
        have hcr := cutRef_loop hf width w e (L ++ [ln]) cu (by omega) (by simp; omega)
        rw [show (L ++ [ln]).map Str.mk = L.map Str.mk ++ [(⟨ln⟩ : Str)] by simp] at hcr
        rw [hcr, Option.bind_some, hst]
        simp [k1]
def cutB (f : Font) (width : Int) (p : List UInt8) : Bool := (wordsB p).any (fun w => !(cutAll f width w).1.isEmpty)
theorem foldR (f : Font) (width : Int) : ∀ (ps : List (List UInt8)) (t : (List (List UInt8) × List UInt8) × Bool),
    ps.foldl (stepR f width) t = ((ps.filter (fun w => !decide (w = []))).foldl (stepW f width) t.1, t.2 || (ps.filter (fun w => !decide (w = []))).any (fun w => !(cutAll f width w).1.isEmpty))
  | [], t => by simp
  | p :: ps, t => by
    rw [List.foldl_cons, foldR f width ps, List.filter_cons]
    unfold stepR
    by_cases e : p = []
    · simp [e]
    · simp [e, Bool.or_assoc]
theorem partRef_eq {f : Font} (hf : okF f) {width : Int} {p : List UInt8} (hp : p.length ≤ 5000) {A : List (List UInt8)} (hA : A.length ≤ 900000) {cu : Bool} {rs : List Str} {i : Int} (hi : inR rs i) (hg : gx rs i = ⟨p⟩) :
    ref_WrapOf_L1 f rs width i (A.map Str.mk, cu) = some ((A ++ partB f width p).map Str.mk, cu || cutB f width p) := by
  have htot := tot_pieces 32 p
  have hlen := tot_len (pieces 32 p)
  unfold ref_WrapOf_L1 strings_Split
  rw [need_of hi, hg, need_of ⟨by show (p.length : Int) < _; omega, by simp⟩, Option.bind_some, splitS_one]
  rw [rfor_list (fun (x : Str) s => ref_WrapOf_L2 f [x] width 0 s) (by simp; omega) (fun i s hi => by
    unfold ref_WrapOf_L2
    rw [need_of hi, need_of (show inR [gx ((pieces 32 p).map Str.mk) i] 0 from ⟨by omega, by simp⟩)]
    rfl)]
  obtain ⟨s', h1, h2⟩ := lgo_model (f := fun (x : Str) s => ref_WrapOf_L2 f [x] width 0 s) (l := (pieces 32 p).map Str.mk) (s0 := (A.map Str.mk, cu, Str.nil, false)) (t0 := ((A, ([] : List UInt8)), cu)) (fun t x => stepR f width t x.b)
    (fun done s t => s = (t.1.1.map Str.mk, t.2, ⟨t.1.2⟩, decide (t.1.2 ≠ [])) ∧ t.1.1.length ≤ A.length + tot (done.map Str.b) ∧ t.1.2.length ≤ tot (done.map Str.b)) ⟨rfl, by simp, by simp⟩
    (fun done x rest s t hsp hR => by
      obtain ⟨rfl, r1, r2⟩ := hR
      have hm := congrArg (List.map Str.b) hsp
      rw [List.map_map] at hm
      have hid : (pieces 32 p).map (Str.b ∘ Str.mk) = pieces 32 p := by simp [Function.comp_def]
      rw [hid, List.map_append, List.map_cons] at hm
      have ht : tot (done.map Str.b) + (x.b.length + 1) ≤ p.length + 1 := by
        have := congrArg tot hm
        rw [tot_append, tot_cons] at this; omega
      refine ⟨_, stepRef_eq hf (w := x.b) (by omega) (by omega) (by omega) ⟨by omega, by simp⟩ rfl, rfl, ?_, ?_⟩
      all_goals rw [List.map_append, tot_append]; simp only [List.map_cons, List.map_nil, tot_cons]
      all_goals unfold stepR
      all_goals by_cases e : x.b = []
      all_goals first
        | (rw [if_pos e]; omega)
        | (rw [if_neg e]
           obtain ⟨b1, b2, b3⟩ := stepW_bd (f := f) (width := width) (st := t.1) e
           simp only; omega))
  rw [h1, Option.bind_some, h2.1]
  have e : ((pieces 32 p).map Str.mk).foldl (fun t x => stepR f width t x.b) ((A, ([] : List UInt8)), cu) = ((A ++ (foldW f width (wordsB p) []).1, (foldW f width (wordsB p) []).2), cu || cutB f width p) := by
    rw [List.foldl_map, foldR]
    have := fold_pre f width (wordsB p) A [] []
    rw [List.append_nil] at this
    unfold cutB foldW
    rw [← this]; rfl
  have hb := h2.2.1
  rw [e] at hb ⊢
  simp only at hb ⊢
  have hid : ((pieces 32 p).map Str.mk).map Str.b = pieces 32 p := by simp [Function.comp_def]
  rw [hid, htot] at hb
  rw [need_of (by rw [room_iff]; simp only [List.length_map, List.length_cons, List.length_nil]; omega)]
  unfold partB
  simp
theorem WrapOf_eq {f : Font} (hf : okF f) {width : Int} {t : List UInt8} (ht : t.length ≤ 5000) : ref_WrapOf f ⟨t⟩ width = some ((wrapB f width t).map Str.mk, (pieces 10 t).any (cutB f width)) := by
  unfold ref_WrapOf strings_Split
  rw [need_of ⟨by show (t.length : Int) < _; omega, by simp⟩, Option.bind_some, splitS_one]
  have htot := tot_pieces 10 t
  have hlen := tot_len (pieces 10 t)
  rw [rfor_list (fun (x : Str) s => ref_WrapOf_L1 f [x] width 0 s) (by simp; omega) (fun i s hi => by
    unfold ref_WrapOf_L1
    rw [need_of hi, need_of (show inR [gx ((pieces 10 t).map Str.mk) i] 0 from ⟨by omega, by simp⟩)]
    rfl)]
  obtain ⟨s', h1, h2⟩ := lgo_model (f := fun (x : Str) s => ref_WrapOf_L1 f [x] width 0 s) (l := (pieces 10 t).map Str.mk) (s0 := (([] : List Str), false)) (t0 := (([] : List (List UInt8)), false)) (fun a x => (a.1 ++ partB f width x.b, a.2 || cutB f width x.b))
    (fun done s a => s = (a.1.map Str.mk, a.2) ∧ a.1.length ≤ 2 * tot (done.map Str.b)) ⟨rfl, by simp⟩
    (fun done x rest s a hsp hR => by
      obtain ⟨rfl, r1⟩ := hR
      have hm := congrArg (List.map Str.b) hsp
      rw [List.map_map] at hm
      have hid : (pieces 10 t).map (Str.b ∘ Str.mk) = pieces 10 t := by simp [Function.comp_def]
      rw [hid, List.map_append, List.map_cons] at hm
      have hT : tot (done.map Str.b) + (x.b.length + 1) ≤ t.length + 1 := by
        have := congrArg tot hm
        rw [tot_append, tot_cons] at this; omega
      have hpl := partB_len f width x.b
      refine ⟨_, partRef_eq hf (p := x.b) (by omega) (by omega) ⟨by omega, by simp⟩ rfl, rfl, ?_⟩
      rw [List.map_append, tot_append]; simp only [List.map_cons, List.map_nil, tot_cons, List.length_append]; omega)
  rw [h1, Option.bind_some, h2.1]
  congr 1
  rw [List.foldl_map]
  have : ∀ (ps : List (List UInt8)) (a : List (List UInt8) × Bool), ps.foldl (fun a x => (a.1 ++ partB f width (Str.mk x).b, a.2 || cutB f width (Str.mk x).b)) a = (a.1 ++ ps.flatMap (partB f width), a.2 || ps.any (cutB f width)) := by
    intro ps
    induction ps with
    | nil => intro a; simp
    | cons p ps ih => intro a; rw [List.foldl_cons, ih]; simp [Bool.or_assoc]
  rw [this]
  unfold wrapB
  simp

end Go.DB
