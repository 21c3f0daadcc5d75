/-
  Lines where bends can be, zones, searches: in plain words.
-/
import Derived.Test.YtjkfpjpepjjhlaaTnbPuTask
import Derived.Test.YtjkfpjpepjjhlaaTnbPuWay
import Derived.Test.YtjkfpjpepjjhlaaTnbPuList
set_option linter.unusedSimpArgs false
set_option linter.unusedVariables false
namespace Go.DB
open Go Go.RowKit

theorem Clone_Point_eq {l : List Point} (hl : l.length ≤ 1000) : slices_Clone_Point l = some l := by
  unfold slices_Clone_Point
  rw [need_of (by rw [room_iff]; simp; omega)]
  simp only [bnd_eq, List.nil_append]
  unfold nilc
  by_cases h : l = []
  · simp [h]
  · rw [if_neg h]
/-! Numbers around numbers. -/

def in1 (k : Int) : List Int := if -1000000 ≤ k ∧ k ≤ 1000000 then [k] else []
def arnd (n : Int) : List Int := in1 (n - 1) ++ in1 n ++ in1 (n + 1)
theorem in1_len (k : Int) : (in1 k).length ≤ 1 := by unfold in1; split <;> simp
theorem arnd_len (n : Int) : (arnd n).length ≤ 3 := by
  have := in1_len (n - 1); have := in1_len n; have := in1_len (n + 1)
  simp only [arnd, List.length_append]; omega
theorem arnds_len : ∀ at_ : List Int, (at_.flatMap arnd).length ≤ 3 * at_.length
  | [] => by simp
  | n :: l => by
    have := arnd_len n; have := arnds_len l
    simp only [List.flatMap_cons, List.length_append, List.length_cons]; omega
def nrI (n : Int) : Prop := -10000000 ≤ n ∧ n ≤ 10000000

theorem L2_step {n k : Int} {s : List Int} (hn : nrI n) (h1 : n - 1 ≤ k) (h2 : k ≤ n + 2) (hs : s.length ≤ 100000) : route_lines_1_L2 n (s, k) = some (if k ≤ n + 1 then .again (s ++ in1 k, k + 1) else .done s) := by
  unfold nrI at hn
  unfold route_lines_1_L2 in1
  simp only [bnd_eq]
  rw [Wk (n := n + 1) (by omega) (by omega), Wk (n := k + 1) (by omega) (by omega)]
  by_cases c : k ≤ n + 1
  · simp only [c, decide_true, cond_true, if_true]
    rw [need_of (by rw [room_iff]; simp; omega)]
    by_cases d : -1000000 ≤ k ∧ k ≤ 1000000
    · have e : (decide (-1000000 ≤ k) && decide (k ≤ 1000000)) = true := by simpa using d
      simp only [e, cond_true, if_pos d, bind_sm]
    · have e : (decide (-1000000 ≤ k) && decide (k ≤ 1000000)) = false := by simp; omega
      simp only [e, cond_false, if_neg d, bind_sm, List.append_nil]
  · simp only [c, decide_false, cond_false, if_false]
theorem L2_loop {n : Int} {s : List Int} (hn : nrI n) (hs : s.length ≤ 99990) : loop (route_lines_1_L2 n) (s, W (n - 1)) = some (s ++ arnd n) := by
  have b1 := in1_len (n - 1); have b2 := in1_len (n - 1 + 1); have b3 := in1_len (n - 1 + 1 + 1)
  have hn' := hn
  unfold nrI at hn'
  rw [Wk (n := n - 1) (by omega) (by omega)]
  have e1 := L2_step (k := n - 1) (s := s) hn (by omega) (by omega) (by omega)
  rw [if_pos (by omega)] at e1
  rw [loop_again e1]
  have e2 := L2_step (k := n - 1 + 1) (s := s ++ in1 (n - 1)) hn (by omega) (by omega) (by simp only [List.length_append]; omega)
  rw [if_pos (by omega)] at e2
  rw [loop_again e2]
  have e3 := L2_step (k := n - 1 + 1 + 1) (s := s ++ in1 (n - 1) ++ in1 (n - 1 + 1)) hn (by omega) (by omega) (by simp only [List.length_append]; omega)
  rw [if_pos (by omega)] at e3
  rw [loop_again e3]
  have e4 := L2_step (k := n - 1 + 1 + 1 + 1) (s := s ++ in1 (n - 1) ++ in1 (n - 1 + 1) ++ in1 (n - 1 + 1 + 1)) hn (by omega) (by omega) (by simp only [List.length_append]; omega)
  rw [if_neg (by omega)] at e4
  rw [loop_done e4, show n - 1 + 1 = n by omega]
  simp only [arnd, List.append_assoc]
theorem L1_all : ∀ (at_ s : List Int), (∀ n ∈ at_, nrI n) → s.length + 3 * at_.length ≤ 99990 → lgo (fun n s => loop (route_lines_1_L2 n) (s, W (n - 1))) at_ s = some (s ++ at_.flatMap arnd)
  | [], s, _, _ => by simp [lgo]
  | n :: l, s, hn, hs => by
    simp only [List.length_cons] at hs
    rw [lgo, L2_loop (hn n (by simp)) (by omega)]
    simp only
    have := arnd_len n
    rw [L1_all l (s ++ arnd n) (fun m hm => hn m (by simp [hm])) (by simp only [List.length_append]; omega)]
    simp [List.flatMap_cons]
theorem lines1_eq {at_ s : List Int} (hn : ∀ n ∈ at_, nrI n) (hs : s.length + 3 * at_.length ≤ 99990) : route_lines_1 s at_ = some (s ++ at_.flatMap arnd) := by
  unfold route_lines_1
  rw [rfor_list (fun n s => loop (route_lines_1_L2 n) (s, W (n - 1))) (by omega) (fun i s hi => by unfold route_lines_1_L1; rw [need_of hi]; rfl), L1_all at_ s hn hs]
  rfl

noncomputable def gridOf (at_ : List Int) : List Int := compactI (sortI (at_.flatMap arnd))
theorem sortI_len (l : List Int) : (sortI l).length = l.length := by simp [sortI]
theorem gridOf_len (at_ : List Int) : (gridOf at_).length ≤ 3 * at_.length := by
  have h1 := compactI_len (sortI (at_.flatMap arnd))
  rw [sortI_len] at h1
  have := arnds_len at_
  unfold gridOf; omega
def zn (t : Task) (w : Box) : Route_zone := ⟨W (w.X - t.Clear), W (w.Y - t.Clear), W (W (w.X + w.W_) + t.Clear), W (W (w.Y + w.H) + t.Clear)⟩
def xv (t : Task) : List Int := [(startP t).X, (endP t).X] ++ t.Walls.flatMap (fun w => [(zn t w).left, (zn t w).right])
def yv (t : Task) : List Int := [(startP t).Y, (endP t).Y] ++ t.Walls.flatMap (fun w => [(zn t w).top, (zn t w).bottom])

structure TaskOK (t : Task) : Prop where
  from_ : okP t.From
  fs : sideErr t.FromSide = 0
  to : okP t.To
  ts : sideErr t.ToSide = 0
  few : t.Walls.length ≤ 100
  walls : ∀ b ∈ t.Walls, okB b
  c1 : 1 ≤ t.Clear
  c2 : t.Clear ≤ 200
  start : okP (startP t)
  end_ : okP (endP t)
theorem task_ok {t : Task} (h : taskErr t = 0) : TaskOK t := by
  have h := firstErr_zero.1 h
  have h5 : t.Walls.length ≤ 100 := by
    have := h (if 100 < t.Walls.length then 4 else 0) (by simp)
    by_cases c : 100 < t.Walls.length
    · simp [c] at this
    · omega
  have h7 := h (endsErr t) (by simp)
  unfold endsErr at h7
  by_cases c : 1 ≤ t.Clear ∧ t.Clear ≤ 200
  · rw [if_pos c] at h7
    have h8 := firstErr_zero.1 h7
    exact ⟨ptErr_zero.1 (h _ (by simp)), h _ (by simp), ptErr_zero.1 (h (ptErr t.To) (by simp)), h (sideErr t.ToSide) (by simp), h5, boxes_ok (h (firstErr (t.Walls.map boxErr)) (by simp)), c.1, c.2, ptErr_zero.1 (h8 _ (by simp)), ptErr_zero.1 (h8 (ptErr (endP t)) (by simp))⟩
  · rw [if_neg c] at h7; omega
theorem zn_nr {t : Task} (h : TaskOK t) {w : Box} (hw : w ∈ t.Walls) : nrI (zn t w).left ∧ nrI (zn t w).top ∧ nrI (zn t w).right ∧ nrI (zn t w).bottom := by
  have hb := h.walls w hw
  have c1 := h.c1; have c2 := h.c2
  unfold okB at hb
  unfold zn nrI
  simp only
  rw [Wk (n := w.X - t.Clear) (by omega) (by omega), Wk (n := w.Y - t.Clear) (by omega) (by omega), Wk (n := w.X + w.W_) (by omega) (by omega), Wk (n := w.Y + w.H) (by omega) (by omega), Wk (n := w.X + w.W_ + t.Clear) (by omega) (by omega), Wk (n := w.Y + w.H + t.Clear) (by omega) (by omega)]
  omega
theorem two_len {α : Type} (f g : α → Int) : ∀ l : List α, (l.flatMap fun w => [f w, g w]).length = 2 * l.length
  | [] => by simp
  | w :: l => by simp only [List.flatMap_cons, List.length_append, two_len f g l, List.length_cons, List.length_nil]; omega
theorem xv_len (t : Task) : (xv t).length = 2 + 2 * t.Walls.length := by unfold xv; rw [List.length_append, two_len]; simp
theorem yv_len (t : Task) : (yv t).length = 2 + 2 * t.Walls.length := by unfold yv; rw [List.length_append, two_len]; simp

theorem zones_all (t : Task) : ∀ (ws : List Box) (s : List Route_zone), s.length + ws.length ≤ 1000 →
    lgo (fun v1 s => need (room (s.length + [(⟨W (v1.X - t.Clear), W (v1.Y - t.Clear), W ((W (v1.X + v1.W_)) + t.Clear), W ((W (v1.Y + v1.H)) + t.Clear)⟩ : Route_zone)].length)) (some (s ++ [(⟨W (v1.X - t.Clear), W (v1.Y - t.Clear), W ((W (v1.X + v1.W_)) + t.Clear), W ((W (v1.Y + v1.H)) + t.Clear)⟩ : Route_zone)]))) ws s = some (s ++ ws.map (zn t))
  | [], s, _ => by simp [lgo]
  | w :: ws, s, h => by
    simp only [List.length_cons] at h
    rw [lgo, need_of (by rw [room_iff]; simp; omega)]
    simp only
    rw [zones_all t ws _ (by simp only [List.length_append, List.length_cons, List.length_nil]; omega)]
    simp [zn]
theorem zones_eq {t : Task} (h : TaskOK t) : route_zones t = some (t.Walls.map (zn t)) := by
  have hf := h.few
  unfold route_zones
  rw [rfor_list (fun v1 s => need (room (s.length + [(⟨W (v1.X - t.Clear), W (v1.Y - t.Clear), W ((W (v1.X + v1.W_)) + t.Clear), W ((W (v1.Y + v1.H)) + t.Clear)⟩ : Route_zone)].length)) (some (s ++ [(⟨W (v1.X - t.Clear), W (v1.Y - t.Clear), W ((W (v1.X + v1.W_)) + t.Clear), W ((W (v1.Y + v1.H)) + t.Clear)⟩ : Route_zone)]))) (by omega) (fun i s hi => by unfold route_zones_L1; rw [need_of hi]; rfl), zones_all t _ _ (by simp only [List.length_nil]; omega)]
  simp

theorem lines_all : ∀ (zs : List Route_zone) (s : List Int × List Int), (∀ z ∈ zs, nrI z.left ∧ nrI z.top ∧ nrI z.right ∧ nrI z.bottom) → s.1.length + 6 * zs.length ≤ 99990 → s.2.length + 6 * zs.length ≤ 99990 →
    lgo (fun (v1 : Route_zone) (s : List Int × List Int) => Option.bind (route_lines_1 s.1 [v1.left, v1.right]) fun xs2 => Option.bind (route_lines_1 s.2 [v1.top, v1.bottom]) fun ys2 => some (xs2, ys2)) zs s =
      some (s.1 ++ zs.flatMap (fun z => [z.left, z.right].flatMap arnd), s.2 ++ zs.flatMap (fun z => [z.top, z.bottom].flatMap arnd))
  | [], s, _, _, _ => by simp [lgo]
  | z :: zs, s, hz, h1, h2 => by
    simp only [List.length_cons] at h1 h2
    obtain ⟨z1, z2, z3, z4⟩ := hz z (by simp)
    rw [lgo, lines1_eq (s := s.1) (at_ := [z.left, z.right]) (by simp only [List.mem_cons, List.not_mem_nil, or_false]; rintro n (rfl | rfl); exact z1; exact z3) (by simp only [List.length_cons, List.length_nil]; omega),
      lines1_eq (s := s.2) (at_ := [z.top, z.bottom]) (by simp only [List.mem_cons, List.not_mem_nil, or_false]; rintro n (rfl | rfl); exact z2; exact z4) (by simp only [List.length_cons, List.length_nil]; omega)]
    simp only [bind_sm]
    have a1 := arnds_len [z.left, z.right]
    have a2 := arnds_len [z.top, z.bottom]
    simp only [List.length_cons, List.length_nil] at a1 a2
    rw [lines_all zs _ (fun y hy => hz y (by simp [hy])) (by simp only [List.length_append]; omega) (by simp only [List.length_append]; omega)]
    simp only [List.flatMap_cons, List.append_assoc]
theorem lines_eq {t : Task} (h : TaskOK t) : route_lines t = some (gridOf (xv t), gridOf (yv t)) := by
  have hf := h.few
  have hs := h.start; have he := h.end_
  unfold okP at hs he
  have c1 := h.c1; have c2 := h.c2
  unfold route_lines
  rw [ends_eq h.from_ h.to h.fs h.ts (by omega) (by omega)]
  simp only [bind_sm]
  rw [lines1_eq (s := []) (at_ := [(startP t).X, (endP t).X]) (by simp only [List.mem_cons, List.not_mem_nil, or_false]; rintro n (rfl | rfl) <;> unfold nrI <;> omega) (by simp only [List.length_cons, List.length_nil]; omega),
    lines1_eq (s := []) (at_ := [(startP t).Y, (endP t).Y]) (by simp only [List.mem_cons, List.not_mem_nil, or_false]; rintro n (rfl | rfl) <;> unfold nrI <;> omega) (by simp only [List.length_cons, List.length_nil]; omega), zones_eq h]
  simp only [bind_sm]
  have a1 := arnds_len [(startP t).X, (endP t).X]
  have a2 := arnds_len [(startP t).Y, (endP t).Y]
  simp only [List.length_cons, List.length_nil] at a1 a2
  rw [rfor_list (fun (v1 : Route_zone) (s : List Int × List Int) => Option.bind (route_lines_1 s.1 [v1.left, v1.right]) fun xs2 => Option.bind (route_lines_1 s.2 [v1.top, v1.bottom]) fun ys2 => some (xs2, ys2)) (by rw [List.length_map]; omega) (fun i s hi => by unfold route_lines_L1; rw [need_of hi]; rfl),
    lines_all _ _ (fun z hz => by obtain ⟨w, hw, rfl⟩ := List.mem_map.1 hz; exact zn_nr h hw) (by simp only [List.length_append, List.length_map, List.length_nil]; omega) (by simp only [List.length_append, List.length_map, List.length_nil]; omega)]
  have ex : ([] ++ [(startP t).X, (endP t).X].flatMap arnd) ++ (t.Walls.map (zn t)).flatMap (fun z => [z.left, z.right].flatMap arnd) = (xv t).flatMap arnd := by
    unfold xv
    rw [List.flatMap_append, List.flatMap_assoc, List.flatMap_map]; rfl
  have ey : ([] ++ [(startP t).Y, (endP t).Y].flatMap arnd) ++ (t.Walls.map (zn t)).flatMap (fun z => [z.top, z.bottom].flatMap arnd) = (yv t).flatMap arnd := by
    unfold yv
    rw [List.flatMap_append, List.flatMap_assoc, List.flatMap_map]; rfl
  rw [ex, ey]
  have b1 := arnds_len (xv t); have b2 := arnds_len (yv t)
  rw [xv_len] at b1; rw [yv_len] at b2
  simp only [bind_sm]
  unfold slices_Sort_int slices_Compact_int
  rw [need_of (by omega), need_of (by omega)]
  simp only [bind_sm]
  rw [need_of (by rw [sortI_len]; omega), need_of (by rw [sortI_len]; omega)]
  rfl

end Go.DB
