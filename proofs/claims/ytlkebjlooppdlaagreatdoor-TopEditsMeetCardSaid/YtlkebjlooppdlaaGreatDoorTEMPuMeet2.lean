/-
  Which operations count, told by the operations themselves; an undoing that is undone changes nothing.
-/
import Derived.Test.YtlkebjlooppdlaaGreatDoorTEMPuMeet1
import Derived.Test.YtlkebjlooppdlaaGreatDoorTEMPuStates
set_option linter.unusedSimpArgs false
set_option linter.unusedVariables false
namespace Go.DB
open Go Go.RowKit

def undoX (y x : DOp) : Bool := decide (y.Kind = 3) && decide (y.Stamp.Site = x.Stamp.Site) && decide (y.Of = x.Stamp.No)
theorem undoX_iff {x y : DOp} : undoX y x = true ↔ y.Kind = 3 ∧ y.Stamp.Site = x.Stamp.Site ∧ y.Of = x.Stamp.No := by
  unfold undoX
  simp only [Bool.and_eq_true, decide_eq_true_eq, and_assoc]
def Cnt (l : List DOp) (K : DOp → Bool) : Prop := ∀ x ∈ l, K x = !(l.any fun y => undoX y x && K y)
theorem undoX_no {l : List DOp} (h : opsErr l = 0) {x y : DOp} (hy : y ∈ l) (hu : undoX y x = true) : x.Stamp.No < y.Stamp.No := by
  obtain ⟨a, b, c⟩ := undoX_iff.1 hu
  obtain ⟨i, hi, rfl⟩ := op_mem hy
  have := (undo_of h hi a).1
  omega
theorem Cnt.uniq {l : List DOp} {K K' : DOp → Bool} (h : opsErr l = 0) (c : Cnt l K) (c' : Cnt l K') : ∀ x ∈ l, K x = K' x := by
  have hl := (opsErr_len h).1
  have key : ∀ n : Nat, ∀ x ∈ l, (2001 - x.Stamp.No).toNat ≤ n → K x = K' x := by
    intro n
    induction n with
    | zero =>
      intro x hx hn
      obtain ⟨i, hi, rfl⟩ := op_mem hx
      have := no_bd h i hi
      omega
    | succ n ih =>
      intro x hx hn
      rw [c x hx, c' x hx]
      congr 1
      rw [Bool.eq_iff_iff, List.any_eq_true, List.any_eq_true]
      have hstep : ∀ y ∈ l, undoX y x = true → K y = K' y := fun y hy hu => by
        have := undoX_no h hy hu
        exact ih y hy (by omega)
      constructor
      · rintro ⟨y, hy, e⟩
        rw [Bool.and_eq_true] at e
        exact ⟨y, hy, by rw [← hstep y hy e.1, e.1, e.2]; rfl⟩
      · rintro ⟨y, hy, e⟩
        rw [Bool.and_eq_true] at e
        exact ⟨y, hy, by rw [hstep y hy e.1, e.1, e.2]; rfl⟩
  exact fun x hx => key _ x hx (Nat.le_refl _)
def cntX (l : List DOp) (x : DOp) : Bool := (List.range l.length).any fun i => decide (opI l i = x) && cntB l i
theorem opI_inj {l : List DOp} (h : opsErr l = 0) {i j : Nat} (hi : i < l.length) (hj : j < l.length) (e : opI l i = opI l j) : i = j := no_inj h hi hj (by rw [e]) (by rw [e])
theorem cntX_at {l : List DOp} (h : opsErr l = 0) {i : Nat} (hi : i < l.length) : cntX l (opI l i) = cntB l i := by
  unfold cntX
  rw [Bool.eq_iff_iff, List.any_eq_true]
  constructor
  · rintro ⟨j, hj, e⟩
    rw [Bool.and_eq_true, decide_eq_true_eq] at e
    obtain rfl := opI_inj h (by simpa using hj) hi e.1
    exact e.2
  · intro e
    exact ⟨i, by simpa using hi, by rw [e]; simp⟩
theorem cntX_cnt {l : List DOp} (h : opsErr l = 0) : Cnt l (cntX l) := fun x hx => by
  obtain ⟨i, hi, rfl⟩ := op_mem hx
  rw [cntX_at h hi, cntB_eq l i]
  congr 1
  rw [Bool.eq_iff_iff, List.any_eq_true, List.any_eq_true]
  constructor
  · rintro ⟨j, hj, e⟩
    have hj : j < l.length := by simpa using hj
    simp only [Bool.and_eq_true, decide_eq_true_eq] at e
    exact ⟨opI l j, mem_op hj, by rw [cntX_at h hj, e.1.2, Bool.and_true]; exact e.2⟩
  · rintro ⟨y, hy, e⟩
    obtain ⟨j, hj, rfl⟩ := op_mem hy
    rw [cntX_at h hj, Bool.and_eq_true] at e
    have hu : undoB l j i = true := e.1
    exact ⟨j, by simpa using hj, by rw [hu, e.2]; simp [undo_lt h hi hj hu]⟩
theorem someL_filter {l : List DOp} (h : opsErr l = 0) : someL l = l.filter (fun x => cntX l x && !decide (x.Kind = 3)) := by
  have hl : l = (List.range l.length).map (opI l) := by
    refine List.ext_getElem (by simp) fun i h1 h2 => ?_
    simp only [List.getElem_map, List.getElem_range]
    exact (gx_nat h1).symm
  conv => rhs; rw [hl, List.filter_map, ← hl]
  unfold someL
  congr 1
  refine List.filter_congr fun i hi => ?_
  simp only [Function.comp]
  rw [cntX_at h (by simpa using hi)]
theorem insP_filter {l : List DOp} {y : DOp} {p : Nat} {f : DOp → Bool} (hf : f y = false) : (insP l y p).filter f = l.filter f := by
  unfold insP
  rw [List.filter_append, List.filter_append]
  conv => rhs; rw [← List.take_append_drop p l, List.filter_append]
  simp [hf]
theorem Fresh.no {l : List DOp} (h : opsErr l = 0) {y : DOp} (hf : Fresh l y) {x : DOp} (hx : x ∈ l) (hs : x.Stamp.Site = y.Stamp.Site) : x.Stamp.No < y.Stamp.No := by
  obtain ⟨j, hj, rfl⟩ := op_mem hx
  exact hf.lt h hj hs
/-- Undone and done again, what counts is as it was. -/
theorem someL_again {l : List DOp} {z w : DOp} {p q : Nat} (h : opsErr l = 0) (hz : Ins l z p) (kz : z.Kind = 3) (hu : opsErr (insP l z p) = 0) (hw : Ins (insP l z p) w q) (kw : w.Kind = 3) (hs : w.Stamp.Site = z.Stamp.Site) (ho : w.Of = z.Stamp.No)
    (hr : opsErr (insP (insP l z p) w q) = 0) : someL (insP (insP l z p) w q) = someL l := by
  have hc := cntX_cnt hr
  have hmem : ∀ x, x ∈ insP (insP l z p) w q ↔ x ∈ l ∨ x = z ∨ x = w := fun x => by
    rw [insP_mem, List.mem_append, insP_mem, List.mem_append, List.mem_singleton, List.mem_singleton, or_assoc]
  have hzu : z ∈ insP l z p := by rw [insP_mem]; simp
  have hK : ∀ x, x ∈ l ∨ x = z ∨ x = w → cntX (insP (insP l z p) w q) x = !((l.any fun y => undoX y x && cntX (insP (insP l z p) w q) y) || (undoX z x && cntX (insP (insP l z p) w q) z) || (undoX w x && cntX (insP (insP l z p) w q) w)) := fun x hx => by
    rw [hc x ((hmem x).2 hx)]
    congr 1
    rw [Bool.eq_iff_iff, Bool.or_eq_true, Bool.or_eq_true, List.any_eq_true, List.any_eq_true]
    constructor
    · rintro ⟨y, hy, e⟩
      rcases (hmem y).1 hy with m | rfl | rfl
      · exact .inl (.inl ⟨y, m, e⟩)
      · exact .inl (.inr e)
      · exact .inr e
    · rintro ((⟨y, hy, e⟩ | e) | e)
      · exact ⟨y, (hmem y).2 (.inl hy), e⟩
      · exact ⟨z, (hmem z).2 (.inr (.inl rfl)), e⟩
      · exact ⟨w, (hmem w).2 (.inr (.inr rfl)), e⟩
  have hwm : w ∈ insP (insP l z p) w q := (hmem w).2 (.inr (.inr rfl))
  have hnw : ∀ y ∈ insP (insP l z p) w q, undoX y w = false := fun y hy => by
    cases e : undoX y w with
    | false => rfl
    | true =>
      have h1 := undoX_no hr hy e
      have h2 := (undoX_iff.1 e).2.1
      rw [insP_mem, List.mem_append, List.mem_singleton] at hy
      rcases hy with hy | rfl
      · have := hw.no.no hu hy h2; omega
      · omega
  have kw1 : cntX (insP (insP l z p) w q) w = true := by
    rw [hc w hwm, Bool.not_eq_true', List.any_eq_false]
    intro y hy
    rw [hnw y hy]; simp
  have kz0 : cntX (insP (insP l z p) w q) z = false := by
    rw [hK z (.inr (.inl rfl)), kw1, undoX_iff.2 ⟨kw, hs, ho⟩]; simp
  have hcl : Cnt l (cntX (insP (insP l z p) w q)) := fun x hx => by
    rw [hK x (.inl hx), kz0, kw1]
    have : undoX w x = false := by
      cases e : undoX w x with
      | false => rfl
      | true =>
        obtain ⟨_, e2, e3⟩ := undoX_iff.1 e
        have := hz.no.no h hx (e2.symm.trans hs)
        omega
    rw [this]; simp
  have hsame := hcl.uniq h (cntX_cnt h)
  rw [someL_filter hr, someL_filter h, insP_filter (by simp [kw]), insP_filter (by simp [kz])]
  refine List.filter_congr fun x hx => ?_
  rw [hsame x hx]
end Go.DB
