/-
  The drawing of a branch: its levels are in order, and it is not wider than its nodes allow.
-/
import Derived.Test.YtakkmmhjohadaaaTdmPuTidy1
set_option linter.unusedSimpArgs false
set_option linter.unusedVariables false
namespace Go.DB
open Go Go.RowKit

/-! Levels below nodes. -/

def levf (kd : Int → List Int) (l : List Int) : Nat → List Int
  | 0 => l
  | r + 1 => (levf kd l r).flatMap kd
theorem levf_append (kd : Int → List Int) (a b : List Int) : ∀ r, levf kd (a ++ b) r = levf kd a r ++ levf kd b r
  | 0 => rfl
  | r + 1 => by simp only [levf, levf_append kd a b r, List.flatMap_append]
theorem levf_succ (kd : Int → List Int) (l : List Int) : ∀ r, levf kd l (r + 1) = levf kd (l.flatMap kd) r
  | 0 => rfl
  | r + 1 => by rw [levf, levf_succ kd l r]; rfl
theorem levf_nil (kd : Int → List Int) : ∀ r, levf kd [] r = []
  | 0 => rfl
  | r + 1 => by rw [levf, levf_nil kd r]; rfl
theorem levf_lev (kd : Int → List Int) (i : Nat) : ∀ r, levf kd (lev kd i) r = lev kd (i + r)
  | 0 => rfl
  | r + 1 => by rw [levf, levf_lev kd i r]; rfl
theorem levf_sub {kd : Int → List Int} {a b : List Int} (h : ∀ x ∈ a, x ∈ b) : ∀ r, ∀ x ∈ levf kd a r, x ∈ levf kd b r
  | 0, x, hx => h x hx
  | r + 1, x, hx => by
    obtain ⟨y, hy, hxy⟩ := List.mem_flatMap.1 hx
    exact List.mem_flatMap.2 ⟨y, levf_sub h r y hy, hxy⟩
theorem levf_in {kd : Int → List Int} {k : Int} {i : Nat} (hk : k ∈ lev kd i) (r : Nat) : ∀ x ∈ levf kd [k] r, x ∈ lev kd (i + r) := fun x hx => by
  rw [← levf_lev]; exact levf_sub (fun y hy => by simp at hy; subst hy; exact hk) r x hx

/-! How many nodes there are. -/

def cnt (kd : Int → List Int) : Nat → Int → Nat
  | 0, _ => 0
  | d + 1, k => 1 + ((kd k).map (cnt kd d)).sum
theorem Fo.cnt_more {n : Nat} {kd : Int → List Int} (h : Fo n kd) {m : Nat} (hm : lev kd m = []) {i : Nat} {k : Int} (hi : i ≤ m) (hk : k ∈ lev kd i) : ∀ d', m - i ≤ d' → cnt kd d' k = cnt kd (m - i) k := by
  refine h.ind hm (fun d k => ∀ d', d ≤ d' → cnt kd d' k = cnt kd d k) (fun d i k hd hk ih d' hd' => ?_) (m - i) i k (by omega) hk
  obtain ⟨e, rfl⟩ : ∃ e, d' = e + 1 := ⟨d' - 1, by omega⟩
  show 1 + _ = 1 + _
  rw [List.map_congr_left (fun x hx => ih x hx e (by omega))]
def cn (kd : Int → List Int) (m : Nat) (k : Int) : Nat := cnt kd m k
theorem Fo.cn_eq {n : Nat} {kd : Int → List Int} (h : Fo n kd) {m : Nat} (hm : lev kd m = []) {i : Nat} {k : Int} (hi : i < m) (hk : k ∈ lev kd i) : cn kd m k = 1 + ((kd k).map (cn kd m)).sum := by
  unfold cn
  rw [h.cnt_more hm (Nat.le_of_lt hi) hk m (by omega)]
  obtain ⟨d, hd⟩ : ∃ d, m - i = d + 1 := ⟨m - i - 1, by omega⟩
  rw [hd]
  show 1 + _ = 1 + _
  rw [List.map_congr_left (fun x hx => ?_)]
  have := h.cnt_more hm (show i + 1 ≤ m by omega) (lev_kid hk hx) m (by omega)
  rw [this, show m - (i + 1) = d by omega]
theorem sum_flatC {α β : Type} (f : β → Nat) (g : α → List β) : ∀ l : List α, ((l.flatMap g).map f).sum = (l.map (fun x => ((g x).map f).sum)).sum
  | [] => rfl
  | x :: l => by simp [List.flatMap_cons, sum_flatC f g l]
theorem sum_addC {α : Type} (f g : α → Nat) : ∀ l : List α, (∀ x ∈ l, f x = 1 + g x) → (l.map f).sum = l.length + (l.map g).sum
  | [], _ => by simp
  | x :: l, h => by
    have h1 := h x (by simp)
    have h2 := sum_addC f g l (fun y hy => h y (by simp [hy]))
    simp; omega
theorem sum_memC {α : Type} (f : α → Nat) : ∀ {l : List α} {x : α}, x ∈ l → f x ≤ (l.map f).sum
  | y :: l, x, h => by
    simp only [List.map_cons, List.sum_cons]
    rcases List.mem_cons.1 h with rfl | h
    · omega
    · have := sum_memC f h; omega
theorem Fo.cn_sum {n : Nat} {kd : Int → List Int} (h : Fo n kd) {m : Nat} (hm : lev kd m = []) : ∀ d i, i + d = m → ((lev kd i).map (cn kd m)).sum + (DB.sn kd i).length ≤ n
  | 0, i, hi => by
    have : i = m := by omega
    subst this
    rw [hm]; have := h.sn_le i; simpa using this
  | d + 1, i, hi => by
    have ih := h.cn_sum hm d (i + 1) (by omega)
    have e1 : lev kd (i + 1) = (lev kd i).flatMap kd := rfl
    have e2 : DB.sn kd (i + 1) = DB.sn kd i ++ lev kd i := rfl
    rw [e1, sum_flatC, e2, List.length_append] at ih
    have := sum_addC (cn kd m) (fun k => ((kd k).map (cn kd m)).sum) (lev kd i) (fun k hk => h.cn_eq hm (by omega) hk)
    omega
theorem Fo.cn_le {n : Nat} {kd : Int → List Int} (h : Fo n kd) {m : Nat} (hm : lev kd m = []) {i : Nat} {k : Int} (hi : i < m) (hk : k ∈ lev kd i) : cn kd m k ≤ n := by
  have h1 := h.cn_sum hm (m - i) i (by omega)
  have := sum_memC (cn kd m) hk
  omega

/-! The drawing. -/

/-- Half of a sum, rounded down. -/
def mid (b : List Tst) : Int := match b with
  | [] => 0
  | x :: _ => (x.from_ + x.to_) / 2
def xOf (w : Int → Int) (k : Int) (b : List Tst) : Int := match b with
  | [] => 0
  | x :: _ => (x.from_ + x.to_) / 2 - w k / 2
def skd (kd : Int → List Int) (w : Int → Int) (gap : Int) : Nat → Int → List Tst
  | 0, _ => []
  | d + 1, k => ⟨xOf w k (run gap [] ((kd k).map (skd kd w gap d))).1, xOf w k (run gap [] ((kd k).map (skd kd w gap d))).1 + w k⟩ :: (run gap [] ((kd k).map (skd kd w gap d))).1
theorem Fo.skd_more {n : Nat} {kd : Int → List Int} (h : Fo n kd) (w : Int → Int) (gap : Int) {m : Nat} (hm : lev kd m = []) {i : Nat} {k : Int} (hi : i ≤ m) (hk : k ∈ lev kd i) : ∀ d', m - i ≤ d' → skd kd w gap d' k = skd kd w gap (m - i) k := by
  refine h.ind hm (fun d k => ∀ d', d ≤ d' → skd kd w gap d' k = skd kd w gap d k) (fun d i k hd hk ih d' hd' => ?_) (m - i) i k (by omega) hk
  obtain ⟨e, rfl⟩ : ∃ e, d' = e + 1 := ⟨d' - 1, by omega⟩
  simp only [skd]
  rw [List.map_congr_left (fun x hx => ih x hx e (by omega))]
/-- The levels of a branch, and what is below its root. -/
def sk (kd : Int → List Int) (w : Int → Int) (gap : Int) (m : Nat) (k : Int) : List Tst := skd kd w gap m k
def bel (kd : Int → List Int) (w : Int → Int) (gap : Int) (m : Nat) (k : Int) : List Tst := (run gap [] ((kd k).map (sk kd w gap m))).1
def mov (kd : Int → List Int) (w : Int → Int) (gap : Int) (m : Nat) (k : Int) : List Int := (run gap [] ((kd k).map (sk kd w gap m))).2
def px (kd : Int → List Int) (w : Int → Int) (gap : Int) (m : Nat) (k : Int) : Int := xOf w k (bel kd w gap m k)
theorem Fo.sk_eq {n : Nat} {kd : Int → List Int} (h : Fo n kd) (w : Int → Int) (gap : Int) {m : Nat} (hm : lev kd m = []) {i : Nat} {k : Int} (hi : i < m) (hk : k ∈ lev kd i) :
    sk kd w gap m k = ⟨px kd w gap m k, px kd w gap m k + w k⟩ :: bel kd w gap m k := by
  have e : sk kd w gap m k = skd kd w gap (m - i) k := h.skd_more w gap hm (Nat.le_of_lt hi) hk m (by omega)
  obtain ⟨d, hd⟩ : ∃ d, m - i = d + 1 := ⟨m - i - 1, by omega⟩
  have e2 : (kd k).map (skd kd w gap d) = (kd k).map (sk kd w gap m) := List.map_congr_left (fun x hx => by
    have := h.skd_more w gap hm (show i + 1 ≤ m by omega) (lev_kid hk hx) m (by omega)
    unfold sk
    rw [this, show m - (i + 1) = d by omega])
  rw [e, hd]
  simp only [skd, e2]; rfl

/-- Where the drawings of branches are, and the nodes. -/
structure Sh (kd : Int → List Int) (w : Int → Int) (gap : Int) (m : Nat) (sh : Int → Int) : Prop where
  kid : ∀ (i : Nat) (k : Int), k ∈ lev kd i → ∀ (j : Nat) (h : j < (kd k).length), sh (kd k)[j] = sh k + (mov kd w gap m k)[j]'(by unfold mov; rw [run_len]; simpa using h)

/-- Drawings beside each other: kids from the j-th on. -/
theorem Dr.all {w : Int → Int} {gap : Int} (hg : 0 ≤ gap) (hg1 : gap ≤ 1000) {kd : Int → List Int} {S : Int → List Tst} {N : Int → Nat} {P sh : Int → Int} {o : Int} (hw : ∀ x, 0 ≤ w x) :
    ∀ (cs : List Int) (done : List Int) (b : List Tst) (lo hi : Int), b ≠ [] → Dr w gap (levf kd done) (fun v => P v + sh v - o) b lo hi → hi - lo ≤ 2001 * ((done.map N).sum : Nat) - 1000 →
      (∀ c ∈ cs, S c ≠ [] ∧ ∃ lo hi, Dr w gap (levf kd [c]) (fun v => P v + sh v - sh c) (S c) lo hi ∧ hi - lo ≤ 2001 * (N c : Int) - 1000) →
      (∀ (j : Nat) (h : j < cs.length), sh cs[j] = o + ((run gap b (cs.map S)).2[j]'(by rw [run_len]; simpa using h))) →
      ∃ lo hi, Dr w gap (levf kd (done ++ cs)) (fun v => P v + sh v - o) (run gap b (cs.map S)).1 lo hi ∧ hi - lo ≤ 2001 * (((done ++ cs).map N).sum : Nat) - 1000 ∧ (run gap b (cs.map S)).1 ≠ []
  | [], done, b, lo, hi, hb, h, hbd, _, _ => ⟨lo, hi, by simpa [run] using h, by simpa using hbd, by simpa [run] using hb⟩
  | c :: cs, done, b, lo, hi, hb, h, hbd, hc, hsh => by
    obtain ⟨h1, lo2, hi2, h2, h3⟩ := hc c (by simp)
    have hs0 := hsh 0 (by simp)
    simp only [List.map_cons, run, List.getElem_cons_zero] at hs0
    obtain ⟨lo', hi', g1, g2, _, _⟩ := Dr.beside (w := w) (gap := gap) (pos := fun v => P v + sh v - o) (fun r n _ => hw n) hg hb h1 h h2 (fun r n hn => by show P n + sh n - o = P n + sh n - sh c + _; omega)
    have hne : mrg (mvOf gap b (S c)) b (S c) ≠ [] := by
      have := List.length_pos_iff.2 hb
      exact List.length_pos_iff.1 (by rw [mrg_len]; omega)
    have e1 : (fun r => levf kd done r ++ levf kd [c] r) = levf kd (done ++ [c]) := by funext r; rw [levf_append]
    rw [e1] at g1
    obtain ⟨lo3, hi3, k1, k2, k3⟩ := Dr.all hg hg1 hw cs (done ++ [c]) _ lo' hi' hne g1 (by simp only [List.map_append, List.sum_append_nat, List.map_cons, List.map_nil, List.sum_cons, List.sum_nil]; omega) (fun c' hc' => hc c' (by simp [hc'])) (fun j hj => by
      have := hsh (j + 1) (by simpa using hj)
      simpa [run] using this)
    refine ⟨lo3, hi3, ?_, ?_, ?_⟩
    · simpa [run] using k1
    · simpa using k2
    · simpa [run] using k3

theorem mvOf_nil (gap : Int) (l : List Tst) : mvOf gap [] l = 0 := by unfold mvOf mvs; simp
theorem mrg_zero : ∀ l : List Tst, mrg 0 [] l = l
  | [] => rfl
  | x :: l => by simp [mrg, mrg_zero l]

/-- The drawing of every branch is in order. -/
theorem Fo.dr {n : Nat} {kd : Int → List Int} (h : Fo n kd) {m : Nat} (hm : lev kd m = []) {w : Int → Int} (hw : ∀ x, 0 ≤ w x ∧ w x ≤ 1000) {gap : Int} (hg : 0 ≤ gap) (hg1 : gap ≤ 1000) {sh : Int → Int} (hsh : Sh kd w gap m sh) {i : Nat} {k : Int} (hi : i < m) (hk : k ∈ lev kd i) :
    ∃ lo hi, Dr w gap (levf kd [k]) (fun v => px kd w gap m v + sh v - sh k) (sk kd w gap m k) lo hi ∧ hi - lo ≤ 2001 * (cn kd m k : Int) - 1000 := by
  refine (h.ind hm (fun d k => ∀ i, i + d = m → k ∈ lev kd i → 1 ≤ d → ∃ lo hi, Dr w gap (levf kd [k]) (fun v => px kd w gap m v + sh v - sh k) (sk kd w gap m k) lo hi ∧ hi - lo ≤ 2001 * (cn kd m k : Int) - 1000) (fun d i0 k hd hk0 ih i hi hk _ => ?_) (m - i) i k (by omega) hk) i (by omega) hk (by omega)
  have hwk := hw k
  have hlk : levf kd [k] 0 = [k] := rfl
  have hls : ∀ r, levf kd [k] (r + 1) = levf kd (kd k) r := fun r => by rw [levf_succ]; simp
  have hsk := h.sk_eq w gap hm (show i < m by omega) hk
  have hcn := h.cn_eq hm (show i < m by omega) hk
  have hpk : ∀ b, bel kd w gap m k = b → px kd w gap m k = xOf w k b := fun b hb => by unfold px; rw [hb]
  cases hkd : kd k with
  | nil =>
    have hb : bel kd w gap m k = [] := by unfold bel; rw [hkd]; rfl
    have hp : px kd w gap m k = 0 := by rw [hpk _ hb]; rfl
    rw [hsk, hb, hp]
    have hnil : ∀ r, levf kd [k] (r + 1) = [] := fun r => by rw [hls, hkd, levf_nil]
    refine ⟨0, w k, ⟨fun r hr => ?_, fun r => ?_, fun r hr => ?_, fun r hr => ?_, fun r x hx => ?_, Int.le_refl _, hwk.1⟩, by omega⟩
    · obtain ⟨r', rfl⟩ : ∃ q, r = q + 1 := ⟨r - 1, by simp at hr; omega⟩
      exact hnil r'
    · match r with
      | 0 => rw [hlk]; simp
      | r + 1 => rw [hnil]; simp
    · match r, hr with
      | 0, _ => rw [hlk]; simp [hp]
    · match r, hr with
      | 0, _ => rw [hlk]; simp [hp]
    · match r, hx with
      | 0, hx => rw [hlk] at hx; simp at hx; subst hx; simp [hp]
      | r + 1, hx => rw [hnil] at hx; cases hx
  | cons c cs =>
    have hkm : ∀ x ∈ kd k, x ∈ lev kd (i + 1) := fun x hx => lev_kid hk hx
    have hi1 : i + 1 < m := by
      rcases Nat.lt_or_ge (i + 1) m with h5 | h5
      · exact h5
      · have : i + 1 = m := by omega
        have := hkm c (by rw [hkd]; simp)
        rw [show i + 1 = m by omega, hm] at this; cases this
    have hc : ∀ x ∈ kd k, sk kd w gap m x ≠ [] ∧ ∃ lo hi, Dr w gap (levf kd [x]) (fun v => px kd w gap m v + sh v - sh x) (sk kd w gap m x) lo hi ∧ hi - lo ≤ 2001 * (cn kd m x : Int) - 1000 := fun x hx => by
      refine ⟨by rw [h.sk_eq w gap hm hi1 (hkm x hx)]; simp, ih x hx (i + 1) (by omega) (hkm x hx) (by omega)⟩
    have hshk := hsh.kid i k hk
    obtain ⟨hs0, lo0, hi0, d0, bd0⟩ := hc c (by rw [hkd]; simp)
    have hrun : run gap [] ((c :: cs).map (sk kd w gap m)) = ((run gap (sk kd w gap m c) (cs.map (sk kd w gap m))).1, 0 :: (run gap (sk kd w gap m c) (cs.map (sk kd w gap m))).2) := by
      simp only [List.map_cons, run, mvOf_nil, mrg_zero]
    have hbel : bel kd w gap m k = (run gap (sk kd w gap m c) (cs.map (sk kd w gap m))).1 := by unfold bel; rw [hkd, hrun]
    have hmov : mov kd w gap m k = 0 :: (run gap (sk kd w gap m c) (cs.map (sk kd w gap m))).2 := by unfold mov; rw [hkd, hrun]
    have hsc : sh c = sh k := by
      have := hshk 0 (by rw [hkd]; simp)
      simp only [hkd, hmov, List.getElem_cons_zero] at this
      omega
    have hscs : ∀ (j : Nat) (hj : j < cs.length), sh cs[j] = sh k + ((run gap (sk kd w gap m c) (cs.map (sk kd w gap m))).2[j]'(by rw [run_len]; simpa using hj)) := fun j hj => by
      have := hshk (j + 1) (by rw [hkd]; simpa using hj)
      simp only [hkd, hmov, List.getElem_cons_succ] at this
      exact this
    rw [hsc] at d0
    obtain ⟨lo, hi', g1, g2, g3⟩ := Dr.all (w := w) (gap := gap) (N := cn kd m) (P := px kd w gap m) (S := sk kd w gap m) (sh := sh) (o := sh k) hg hg1 (fun x => (hw x).1) cs [c] (sk kd w gap m c) lo0 hi0 hs0 d0 (by simpa using bd0)
      (fun x hx => hc x (by rw [hkd]; simp [hx])) hscs
    rw [← hbel] at g1 g3
    have hcc : [c] ++ cs = kd k := by rw [hkd]; rfl
    rw [hcc] at g1 g2
    generalize hb : bel kd w gap m k = b at *
    cases b with
    | nil => exact absurd rfl g3
    | cons x b' =>
      have hp : px kd w gap m k = (x.from_ + x.to_) / 2 - w k / 2 := by rw [hpk _ rfl]; rfl
      obtain ⟨⟨n1, hn1, e1⟩, f1⟩ := g1.fr 0 (by simp)
      obtain ⟨⟨n2, hn2, e2⟩, f2⟩ := g1.to 0 (by simp)
      simp only [List.getElem_cons_zero] at e1 f1 e2 f2
      have b1 := g1.bd 0 n1 hn1
      have b2 := g1.bd 0 n2 hn2
      have w1 := hw n1
      have w2 := hw n2
      have l0 := g1.l0
      have h0 := g1.h0
      rw [hsk]
      have hpos : px kd w gap m k + sh k - sh k = px kd w gap m k := by omega
      refine ⟨min lo (px kd w gap m k), max hi' (px kd w gap m k + w k), ⟨fun r hr => ?_, fun r => ?_, fun r hr => ?_, fun r hr => ?_, fun r v hv => ?_, by omega, by omega⟩, by omega⟩
      · obtain ⟨r', rfl⟩ : ∃ q, r = q + 1 := ⟨r - 1, by simp at hr; omega⟩
        rw [hls]; exact g1.nil r' (by simpa using hr)
      · match r with
        | 0 => rw [hlk]; simp
        | r + 1 => rw [hls]; exact g1.ord r
      · match r, hr with
        | 0, _ => rw [hlk]; simp [hpos]
        | r + 1, hr => rw [hls]; exact g1.fr r (by simpa using hr)
      · match r, hr with
        | 0, _ => rw [hlk]; simp [hpos]
        | r + 1, hr => rw [hls]; exact g1.to r (by simpa using hr)
      · match r, hv with
        | 0, hv => rw [hlk] at hv; simp at hv; subst hv; omega
        | r + 1, hv => rw [hls] at hv; have := g1.bd r v hv; omega

end Go.DB
