/-
  Closed facts on the program.
-/
import Derived.Test.YtlkebjlooppdlaaGreatDoorRows
import Derived.Test.YtlkebjlooppdlaaGreatDoorStmLi1
set_option maxRecDepth 100000
set_option linter.unusedSimpArgs false
set_option linter.unusedVariables false
namespace Go.Proofs.YtlkebjlooppdlaaGreatDoor
open Go Go.DB Go.RowKit

theorem mixed : Tryz.prog.follows .mixedOrders = true := by kernel_rfl
theorem mx : Tryz.prog.follows .mixedOrders = true := mixed
def validStr_ren : Shelf.Ren where
  f := fun x => match x with | 196 => 74 | 259 => 103 | n => n
  t := fun x => match x with | 9 => 9 | 4 => 4 | 3 => 3 | 5 => 5 | 12 => 12 | 119 => 132 | 0 => 0 | 46 => 88 | 139 => 135 | 138 => 134 | 53 => 125 | n => n
  g := fun x => match x with | 3 => 1 | 4 => 2 | n => n
theorem validStr_lay : Lays.n196 Tryz.prog validStr_ren where
  mixed := by kernel_rfl
  f196 := Tryz.func74.trans (by kernel_rfl)
  f259 := Tryz.func103.trans (by kernel_rfl)
  t0 := Tryz.underlying0
  a0 := Tryz.isAgg0
  z0 := Tryz.sizeOf0
  v0 := Tryz.zeroValue0
  t3 := Tryz.underlying3
  a3 := Tryz.isAgg3
  z3 := Tryz.sizeOf3
  v3 := Tryz.zeroValue3
  t4 := Tryz.underlying4
  a4 := Tryz.isAgg4
  z4 := Tryz.sizeOf4
  v4 := Tryz.zeroValue4
  t5 := Tryz.underlying5
  a5 := Tryz.isAgg5
  z5 := Tryz.sizeOf5
  v5 := Tryz.zeroValue5
  t9 := Tryz.underlying9
  a9 := Tryz.isAgg9
  z9 := Tryz.sizeOf9
  v9 := Tryz.zeroValue9
  t12 := Tryz.underlying12
  a12 := Tryz.isAgg12
  z12 := Tryz.sizeOf12
  v12 := Tryz.zeroValue12
  t46 := Tryz.underlying88
  a46 := Tryz.isAgg88
  z46 := Tryz.sizeOf88
  v46 := Tryz.zeroValue88
  t53 := Tryz.underlying125
  a53 := Tryz.isAgg125
  z53 := Tryz.sizeOf125
  v53 := Tryz.zeroValue125
  t119 := Tryz.underlying132
  a119 := Tryz.isAgg132
  z119 := Tryz.sizeOf132
  t138 := Tryz.underlying134
  a138 := Tryz.isAgg134
  z138 := Tryz.sizeOf134
  v138 := Tryz.zeroValue134
  t139 := Tryz.underlying135
  a139 := Tryz.isAgg135
  z139 := Tryz.sizeOf135
  v139 := Tryz.zeroValue135
  g3 := by kernel_rfl
  g4 := by kernel_rfl

def trimStr_ren : Shelf.Ren where
  f := fun x => match x with | 160 => 55 | 232 => 76 | 231 => 75 | 227 => 77 | 234 => 79 | 233 => 78 | 236 => 81 | 235 => 80 | 228 => 104 | 271 => 107 | 151 => 106 | 197 => 105 | 120 => 136 | 152 => 135 | 260 => 134 | 137 => 155 | 119 => 156 | 224 => 157 | 225 => 158 | 217 => 166 | 266 => 168 | n => n
  t := fun x => match x with | 9 => 9 | 4 => 4 | 3 => 3 | 5 => 5 | 117 => 110 | 116 => 109 | 0 => 0 | 124 => 113 | 21 => 21 | 105 => 137 | 46 => 88 | 119 => 132 | 139 => 135 | 138 => 134 | n => n
  g := fun x => match x with | 3 => 1 | 4 => 2 | n => n
theorem trimStr_lay : Lays.n160 Tryz.prog trimStr_ren where
  mixed := by kernel_rfl
  f119 := Tryz.func156.trans (by kernel_rfl)
  f120 := Tryz.func136.trans (by kernel_rfl)
  f137 := Tryz.func155.trans (by kernel_rfl)
  f151 := Tryz.func106.trans (by kernel_rfl)
  f152 := Tryz.func135.trans (by kernel_rfl)
  f160 := Tryz.func55.trans (by kernel_rfl)
  f197 := Tryz.func105.trans (by kernel_rfl)
  f217 := Tryz.func166.trans (by kernel_rfl)
  f224 := Tryz.func157.trans (by kernel_rfl)
  f225 := Tryz.func158.trans (by kernel_rfl)
  f227 := Tryz.func77.trans (by kernel_rfl)
  f228 := Tryz.func104.trans (by kernel_rfl)
  f231 := Tryz.func75.trans (by kernel_rfl)
  f232 := Tryz.func76.trans (by kernel_rfl)
  f233 := Tryz.func78.trans (by kernel_rfl)
  f234 := Tryz.func79.trans (by kernel_rfl)
  f235 := Tryz.func80.trans (by kernel_rfl)
  f236 := Tryz.func81.trans (by kernel_rfl)
  f260 := Tryz.func134.trans (by kernel_rfl)
  f266 := Tryz.func168.trans (by kernel_rfl)
  f271 := Tryz.func107.trans (by kernel_rfl)
  t0 := Tryz.underlying0
  a0 := Tryz.isAgg0
  z0 := Tryz.sizeOf0
  v0 := Tryz.zeroValue0
  t3 := Tryz.underlying3
  a3 := Tryz.isAgg3
  z3 := Tryz.sizeOf3
  v3 := Tryz.zeroValue3
  t4 := Tryz.underlying4
  a4 := Tryz.isAgg4
  z4 := Tryz.sizeOf4
  v4 := Tryz.zeroValue4
  t5 := Tryz.underlying5
  a5 := Tryz.isAgg5
  z5 := Tryz.sizeOf5
  v5 := Tryz.zeroValue5
  t9 := Tryz.underlying9
  a9 := Tryz.isAgg9
  z9 := Tryz.sizeOf9
  v9 := Tryz.zeroValue9
  t21 := Tryz.underlying21
  a21 := Tryz.isAgg21
  z21 := Tryz.sizeOf21
  v21 := Tryz.zeroValue21
  t46 := Tryz.underlying88
  a46 := Tryz.isAgg88
  z46 := Tryz.sizeOf88
  v46 := Tryz.zeroValue88
  t105 := Tryz.underlying137
  a105 := Tryz.isAgg137
  z105 := Tryz.sizeOf137
  v105 := Tryz.zeroValue137
  t116 := Tryz.underlying109
  a116 := Tryz.isAgg109
  z116 := Tryz.sizeOf109
  t117 := Tryz.underlying110
  a117 := Tryz.isAgg110
  z117 := Tryz.sizeOf110
  v117 := Tryz.zeroValue110
  t119 := Tryz.underlying132
  a119 := Tryz.isAgg132
  z119 := Tryz.sizeOf132
  t124 := Tryz.underlying113
  a124 := Tryz.isAgg113
  z124 := Tryz.sizeOf113
  v124 := Tryz.zeroValue113
  t138 := Tryz.underlying134
  a138 := Tryz.isAgg134
  z138 := Tryz.sizeOf134
  v138 := Tryz.zeroValue134
  t139 := Tryz.underlying135
  a139 := Tryz.isAgg135
  z139 := Tryz.sizeOf135
  v139 := Tryz.zeroValue135
  g3 := by kernel_rfl
  g4 := by kernel_rfl

def compareStr_ren : Shelf.Ren where
  f := fun x => match x with | 106 => 52 | 213 => 72 | 265 => 102 | n => n
  t := fun x => match x with | 9 => 9 | 3 => 3 | n => n
  g := fun n => n
theorem compareStr_lay : Lays.n106 Tryz.prog compareStr_ren where
  mixed := by kernel_rfl
  f106 := Tryz.func52.trans (by kernel_rfl)
  f213 := Tryz.func72.trans (by kernel_rfl)
  f265 := Tryz.func102.trans (by kernel_rfl)
  t3 := Tryz.underlying3
  a3 := Tryz.isAgg3
  z3 := Tryz.sizeOf3
  v3 := Tryz.zeroValue3
  t9 := Tryz.underlying9
  a9 := Tryz.isAgg9
  z9 := Tryz.sizeOf9
  v9 := Tryz.zeroValue9

theorem nanI_ok (a : Int) (w : World) : Calls Tryz.prog 73 #[.int .i64 a] w fun e w' => e = .returned (.bool false) ∧ w' = w := by
  go_enter Tryz.func73, Tryz.ntmps73
  go_wp2
  go_ret
  exact ⟨rfl, rfl⟩
theorem cmpI_ok (a b : Int) (w : World) : Calls Tryz.prog 53 #[.int .i64 a, .int .i64 b] w fun e w' => e = .returned (.int .i64 (if a < b then -1 else if b < a then 1 else 0)) ∧ w' = w := by
  go_enter Tryz.func53, Tryz.ntmps53
  go_wp2_with (go_at_call 73; refine (nanI_ok _ _).mono ?_; rintro e w' ⟨rfl, rfl⟩)
  all_goals go_ret
  all_goals exact ⟨by simp_all, rfl⟩

theorem orJ_at (b c : Nat) (x y r : Int) (w : World) (hr1 : x ≠ 0 → r = x) (hr2 : x = 0 → r = y) (hx : w.cell? ⟨b, 0, none⟩ = some (.int .i64 x)) (hy : w.cell? ⟨b, 1, none⟩ = some (.int .i64 y)) :
    Calls Tryz.prog 51 #[.slice (some ⟨b, 0, none⟩) 2 c] w fun e w' => e = .returned (.int .i64 r) ∧ w' = w := by
  go_enter Tryz.func51, Tryz.ntmps51
  go_wp2
  go_loop [5, 8] (fun _ i => ∃ k : Nat, k ≤ 2 ∧ i = .int .i64 k ∧ (0 < k → x = 0) ∧ (1 < k → y = 0)) (fun _ i => match i with | .int _ m => 2 - m.toNat | _ => 0)
  case atStart => exact ⟨0, by omega, rfl, fun h => absurd h (by omega), fun h => absurd h (by omega)⟩
  case round =>
    obtain ⟨k, hk, rfl, h0, h1⟩ := hrel
    have hcell : ∃ z, ((k : Int) < 2 → w.cell? ⟨b, k, none⟩ = some (.int .i64 z)) ∧ (k = 0 → z = x) ∧ (k = 1 → z = y) := by
      refine ⟨if k = 0 then x else y, fun h => ?_, fun h => if_pos h, fun h => if_neg (by omega)⟩
      by_cases e : k = 0
      · rw [e, hx, if_pos rfl]
      · obtain rfl : k = 1 := by omega
        rw [hy, if_neg e]
    obtain ⟨z, hz, hz0, hz1⟩ := hcell
    go_wp2
    · have hlt : (k : Int) < 2 := by assumption
      have hne : (z != 0) = true := by assumption
      have hne' : z ≠ 0 := by simpa using hne
      go_ret
      refine ⟨?_, rfl⟩
      show Ending.returned (.int .i64 z) = .returned (.int .i64 r)
      congr 2
      by_cases e : k = 0
      · rw [hz0 e] at hne' ⊢; exact (hr1 hne').symm
      · rw [hz1 (by omega)]; exact (hr2 (h0 (by omega))).symm
    · have hlt : (k : Int) < 2 := by assumption
      have hne : (z != 0) = false := by assumption
      have hne' : z = 0 := by simpa using hne
      refine ⟨⟨k + 1, by omega, by push_cast; rfl, fun _ => ?_, fun h => ?_⟩, by show 2 - ((k : Int) + 1).toNat < 2 - (k : Int).toNat; omega⟩
      · by_cases e : k = 0
        · rw [← hz0 e]; exact hne'
        · exact h0 (by omega)
      · rw [← hz1 (by omega)]; exact hne'
    · have hge : 2 ≤ (k : Int) := by assumption
      go_ret
      refine ⟨?_, rfl⟩
      show Ending.returned (.int .i64 0) = .returned (.int .i64 r)
      rw [hr2 (h0 (by omega)), h1 (by omega)]
theorem pair_cells (w : World) (x y : Value) (t : TypeId) : (w.alloc (.cells #[x, y] t)).cell? ⟨w.heap.size, 0, none⟩ = some x ∧ (w.alloc (.cells #[x, y] t)).cell? ⟨w.heap.size, 1, none⟩ = some y := by constructor <;> go_simp

theorem drewN_grow (w : World) (os : Array Obj) (n : Nat) : (Go.Sort.grow w os).drewN n = Go.Sort.grow (w.drewN n) os := rfl
theorem pair_at {w : World} {x y : Value} {t : TypeId} {b : Nat} (hb : b = w.heap.size) : (w.alloc (.cells #[x, y] t)).cell? ⟨b, 0, none⟩ = some x ∧ (w.alloc (.cells #[x, y] t)).cell? ⟨b, 1, none⟩ = some y := by subst hb; exact pair_cells _ _ _ _
theorem orderE_at (a1 a3 a4 a8 b1 b3 b4 b8 r : Int) (a2 a5 a6 a7 b2 b5 b6 b7 : Str) (w0 : World) (hr1 : Lib.compareBytes a2.b b2.b ≠ 0 → r = Lib.compareBytes a2.b b2.b) (hr2 : Lib.compareBytes a2.b b2.b = 0 → r = if a3 < b3 then (-1 : Int) else if b3 < a3 then 1 else 0) :
    Calls Tryz.prog 30 #[.agg #[.int .i64 a1, .string ⟨a2.b.toArray⟩, .int .i64 a3, .int .i64 a4, .string ⟨a5.b.toArray⟩, .string ⟨a6.b.toArray⟩, .string ⟨a7.b.toArray⟩, .int .i64 a8], .agg #[.int .i64 b1, .string ⟨b2.b.toArray⟩, .int .i64 b3, .int .i64 b4, .string ⟨b5.b.toArray⟩, .string ⟨b6.b.toArray⟩, .string ⟨b7.b.toArray⟩, .int .i64 b8]] w0 fun e w' => e = .returned (.int .i64 r) ∧ ∃ q os', w' = Go.Sort.grow (w0.drewN q) os' := by
  go_enter Tryz.func30, Tryz.ntmps30
  go_wp2
  obtain ⟨w1, hw1⟩ : ∃ w1, w1 = (w0.alloc (.cells #[.int .i64 a1, .string ⟨a2.b.toArray⟩, .int .i64 a3, .int .i64 a4, .string ⟨a5.b.toArray⟩, .string ⟨a6.b.toArray⟩, .string ⟨a7.b.toArray⟩, .int .i64 a8] 42)).alloc (.cells #[.int .i64 b1, .string ⟨b2.b.toArray⟩, .int .i64 b3, .int .i64 b4, .string ⟨b5.b.toArray⟩, .string ⟨b6.b.toArray⟩, .string ⟨b7.b.toArray⟩, .int .i64 b8] 42) := ⟨_, rfl⟩
  rw [← hw1]
  have k1 : w1.drew.cell? ⟨w0.heap.size, 1, none⟩ = some (.string ⟨a2.b.toArray⟩) := by rw [hw1]; go_simp
  have k2 : w1.drew.cell? ⟨w0.heap.size, 2, none⟩ = some (.int .i64 a3) := by rw [hw1]; go_simp
  have k3 : w1.drew.cell? ⟨w0.heap.size + 1, 1, none⟩ = some (.string ⟨b2.b.toArray⟩) := by rw [hw1]; go_simp
  have k4 : w1.drew.cell? ⟨w0.heap.size + 1, 2, none⟩ = some (.int .i64 b3) := by rw [hw1]; go_simp
  refine wp_region_still_tail 14 (by kernel_rfl) (by kernel_rfl) ?_
  change wpStill _ _ w1.drew (fun a' => wpList _ _ _ _ a' w1.drew) _ _
  generalize hw2 : w1.drew = w2 at *
  simp only [List.take_succ_cons, List.take_zero, List.drop_succ_cons, List.drop_zero]
  repeat still_step
  still_call (Proofs.Any.strings_Compare compareStr_lay _ _ _)
  repeat still_step
  still_call (cmpI_ok _ _ _)
  refine wpStill_nil ?_
  generalize hcc : (if a3 < b3 then (-1 : Int) else if b3 < a3 then 1 else 0) = cc
  go_wp2_with (go_at_call 51; refine Calls.mono (orJ_at _ _ _ _ r _ hr1 (fun h => (hr2 h).trans hcc) (pair_cells _ _ _ _).1 (pair_cells _ _ _ _).2) ?_; rintro e w' ⟨rfl, rfl⟩)
  go_ret
  exact ⟨rfl, 1, _, by rw [Go.Sort.alloc_eq_grow, ← hw2, hw1, Go.Sort.alloc_eq_grow, Go.Sort.alloc_eq_grow, Go.Sort.grow_grow, Go.Sort.drew_grow, Go.Sort.grow_grow]; rfl⟩
set_option maxHeartbeats 4000000 in
theorem laterE_at (a1 a3 a4 a8 b1 b3 b4 b8 r c : Int) (a2 a5 a6 a7 b2 b5 b6 b7 : Str) (w0 : World) (hc1 : Lib.compareBytes a2.b b2.b ≠ 0 → c = Lib.compareBytes a2.b b2.b) (hc2 : Lib.compareBytes a2.b b2.b = 0 → c = if a3 < b3 then (-1 : Int) else if b3 < a3 then 1 else 0)
    (hr1 : (if a1 < b1 then (-1 : Int) else if b1 < a1 then 1 else 0) ≠ 0 → r = if a1 < b1 then (-1 : Int) else if b1 < a1 then 1 else 0) (hr2 : (if a1 < b1 then (-1 : Int) else if b1 < a1 then 1 else 0) = 0 → r = c) :
    Calls Tryz.prog 34 #[.agg #[.int .i64 a1, .string ⟨a2.b.toArray⟩, .int .i64 a3, .int .i64 a4, .string ⟨a5.b.toArray⟩, .string ⟨a6.b.toArray⟩, .string ⟨a7.b.toArray⟩, .int .i64 a8], .agg #[.int .i64 b1, .string ⟨b2.b.toArray⟩, .int .i64 b3, .int .i64 b4, .string ⟨b5.b.toArray⟩, .string ⟨b6.b.toArray⟩, .string ⟨b7.b.toArray⟩, .int .i64 b8]] w0 fun e w' => e = .returned (.int .i64 r) ∧ ∃ q os', w' = Go.Sort.grow (w0.drewN q) os' := by
  go_enter Tryz.func34, Tryz.ntmps34
  go_wp2
  obtain ⟨w1, hw1⟩ : ∃ w1, w1 = (w0.alloc (.cells #[.int .i64 a1, .string ⟨a2.b.toArray⟩, .int .i64 a3, .int .i64 a4, .string ⟨a5.b.toArray⟩, .string ⟨a6.b.toArray⟩, .string ⟨a7.b.toArray⟩, .int .i64 a8] 42)).alloc (.cells #[.int .i64 b1, .string ⟨b2.b.toArray⟩, .int .i64 b3, .int .i64 b4, .string ⟨b5.b.toArray⟩, .string ⟨b6.b.toArray⟩, .string ⟨b7.b.toArray⟩, .int .i64 b8] 42) := ⟨_, rfl⟩
  rw [← hw1]
  have k2 : w1.drew.cell? ⟨w0.heap.size, 0, none⟩ = some (.int .i64 a1) := by rw [hw1]; go_simp
  have k4 : w1.drew.cell? ⟨w0.heap.size + 1, 0, none⟩ = some (.int .i64 b1) := by rw [hw1]; go_simp
  refine wp_region_still_tail 9 (by kernel_rfl) (by kernel_rfl) ?_
  change wpStill _ _ w1.drew (fun a' => wpList _ _ _ _ a' w1.drew) _ _
  simp only [List.take_succ_cons, List.take_zero, List.drop_succ_cons, List.drop_zero]
  repeat still_step
  still_call (cmpI_ok _ _ _)
  repeat still_step
  refine wpStill_nil ?_
  generalize hcc : (if a1 < b1 then (-1 : Int) else if b1 < a1 then 1 else 0) = cc at *
  have hsz : ∀ (os1 : Array Obj) (q1 : Nat), w0.heap.size + 1 + 1 + os1.size = (Go.Sort.grow (((w0.alloc (.cells #[.int .i64 a1, .string ⟨a2.b.toArray⟩, .int .i64 a3, .int .i64 a4, .string ⟨a5.b.toArray⟩, .string ⟨a6.b.toArray⟩, .string ⟨a7.b.toArray⟩, .int .i64 a8] 42)).alloc (.cells #[.int .i64 b1, .string ⟨b2.b.toArray⟩, .int .i64 b3, .int .i64 b4, .string ⟨b5.b.toArray⟩, .string ⟨b6.b.toArray⟩, .string ⟨b7.b.toArray⟩, .int .i64 b8] 42)).drewN (1 + q1)) os1).heap.size := fun os1 q1 => by
    rw [Go.Sort.size_grow]
    show _ = (((w0.alloc (.cells #[.int .i64 a1, .string ⟨a2.b.toArray⟩, .int .i64 a3, .int .i64 a4, .string ⟨a5.b.toArray⟩, .string ⟨a6.b.toArray⟩, .string ⟨a7.b.toArray⟩, .int .i64 a8] 42)).alloc (.cells #[.int .i64 b1, .string ⟨b2.b.toArray⟩, .int .i64 b3, .int .i64 b4, .string ⟨b5.b.toArray⟩, .string ⟨b6.b.toArray⟩, .string ⟨b7.b.toArray⟩, .int .i64 b8] 42))).heap.size + os1.size
    rw [size_new, size_new]
  go_wp2_with (first
    | (go_at_call 30; refine Calls.mono (orderE_at a1 a3 a4 a8 b1 b3 b4 b8 c a2 a5 a6 a7 b2 b5 b6 b7 _ hc1 hc2) ?_; rintro e w' ⟨rfl, q1, os1, rfl⟩)
    | (go_at_call 51; refine Calls.mono (orJ_at _ _ cc c r _ hr1 hr2 (pair_at (hsz _ _)).1 (pair_at (hsz _ _)).2) ?_; rintro e w' ⟨rfl, rfl⟩))
  go_ret
  exact ⟨rfl, 1 + q1, _, by rw [Go.Sort.alloc_eq_grow, Go.Sort.alloc_eq_grow, Go.Sort.alloc_eq_grow, drewN_grow, drewN_grow, Go.Sort.grow_grow, Go.Sort.grow_grow, Go.Sort.grow_grow]⟩

def sortF42_ren : Shelf.Ren where
  f := fun x => match x with | 6 => 33 | 15 => 58 | 14 => 57 | 28 => 90 | 29 => 91 | 20 => 82 | 21 => 83 | 22 => 84 | 23 => 85 | 24 => 86 | 25 => 87 | 26 => 88 | 27 => 89 | 46 => 108 | 47 => 109 | 48 => 110 | 49 => 111 | 50 => 112 | 57 => 137 | n => n
  t := fun x => match x with | 22 => 22 | 24 => 42 | 25 => 53 | 3 => 3 | 39 => 88 | 0 => 0 | 53 => 123 | 55 => 125 | 4 => 4 | 46 => 116 | 45 => 115 | 50 => 120 | 5 => 5 | 9 => 9 | 66 => 140 | 70 => 144 | 76 => 160 | 77 => 161 | n => n
  g := fun n => n
theorem sortF42_lay : SlLaysF0.n6 Tryz.prog sortF42_ren where
  mixed := by kernel_rfl
  f6 := ⟨ "slices.SortFunc[[]drawboard/api.Op,drawboard/api.Op]", of_decide_eq_true (by kernel_rfl), Tryz.func33.trans (by kernel_rfl)⟩
  f14 := ⟨ "slices.pdqsortCmpFunc[drawboard/api.Op]", of_decide_eq_true (by kernel_rfl), Tryz.func57.trans (by kernel_rfl)⟩
  f15 := Tryz.func58.trans (by kernel_rfl)
  f20 := ⟨ "slices.insertionSortCmpFunc[drawboard/api.Op]", of_decide_eq_true (by kernel_rfl), Tryz.func82.trans (by kernel_rfl)⟩
  f21 := ⟨ "slices.heapSortCmpFunc[drawboard/api.Op]", of_decide_eq_true (by kernel_rfl), Tryz.func83.trans (by kernel_rfl)⟩
  f22 := ⟨ "slices.breakPatternsCmpFunc[drawboard/api.Op]", of_decide_eq_true (by kernel_rfl), Tryz.func84.trans (by kernel_rfl)⟩
  f23 := ⟨ "slices.choosePivotCmpFunc[drawboard/api.Op]", of_decide_eq_true (by kernel_rfl), Tryz.func85.trans (by kernel_rfl)⟩
  f24 := ⟨ "slices.reverseRangeCmpFunc[drawboard/api.Op]", of_decide_eq_true (by kernel_rfl), Tryz.func86.trans (by kernel_rfl)⟩
  f25 := ⟨ "slices.partialInsertionSortCmpFunc[drawboard/api.Op]", of_decide_eq_true (by kernel_rfl), Tryz.func87.trans (by kernel_rfl)⟩
  f26 := ⟨ "slices.partitionEqualCmpFunc[drawboard/api.Op]", of_decide_eq_true (by kernel_rfl), Tryz.func88.trans (by kernel_rfl)⟩
  f27 := ⟨ "slices.partitionCmpFunc[drawboard/api.Op]", of_decide_eq_true (by kernel_rfl), Tryz.func89.trans (by kernel_rfl)⟩
  f28 := Tryz.func90.trans (by kernel_rfl)
  f29 := Tryz.func91.trans (by kernel_rfl)
  f46 := ⟨ "slices.siftDownCmpFunc[drawboard/api.Op]", of_decide_eq_true (by kernel_rfl), Tryz.func108.trans (by kernel_rfl)⟩
  f47 := Tryz.func109.trans (by kernel_rfl)
  f48 := Tryz.func110.trans (by kernel_rfl)
  f49 := ⟨ "slices.medianAdjacentCmpFunc[drawboard/api.Op]", of_decide_eq_true (by kernel_rfl), Tryz.func111.trans (by kernel_rfl)⟩
  f50 := ⟨ "slices.medianCmpFunc[drawboard/api.Op]", of_decide_eq_true (by kernel_rfl), Tryz.func112.trans (by kernel_rfl)⟩
  f57 := ⟨ "slices.order2CmpFunc[drawboard/api.Op]", of_decide_eq_true (by kernel_rfl), Tryz.func137.trans (by kernel_rfl)⟩
  t0 := Tryz.underlying0
  a0 := Tryz.isAgg0
  z0 := Tryz.sizeOf0
  v0 := Tryz.zeroValue0
  t3 := Tryz.underlying3
  a3 := Tryz.isAgg3
  z3 := Tryz.sizeOf3
  v3 := Tryz.zeroValue3
  t4 := Tryz.underlying4
  a4 := Tryz.isAgg4
  z4 := Tryz.sizeOf4
  v4 := Tryz.zeroValue4
  t5 := Tryz.underlying5
  a5 := Tryz.isAgg5
  z5 := Tryz.sizeOf5
  v5 := Tryz.zeroValue5
  t9 := Tryz.underlying9
  a9 := Tryz.isAgg9
  z9 := Tryz.sizeOf9
  v9 := Tryz.zeroValue9
  t22 := Tryz.underlying22
  a22 := Tryz.isAgg22
  z22 := Tryz.sizeOf22
  v22 := Tryz.zeroValue22
  t25 := Tryz.underlying53
  a25 := Tryz.isAgg53
  z25 := Tryz.sizeOf53
  v25 := Tryz.zeroValue53
  t39 := Tryz.underlying88
  a39 := Tryz.isAgg88
  z39 := Tryz.sizeOf88
  v39 := Tryz.zeroValue88
  t45 := Tryz.underlying115
  a45 := Tryz.isAgg115
  z45 := Tryz.sizeOf115
  v45 := Tryz.zeroValue115
  t46 := Tryz.underlying116
  a46 := Tryz.isAgg116
  z46 := Tryz.sizeOf116
  v46 := Tryz.zeroValue116
  t50 := Tryz.underlying120
  a50 := Tryz.isAgg120
  z50 := Tryz.sizeOf120
  v50 := Tryz.zeroValue120
  t53 := Tryz.underlying123
  a53 := Tryz.isAgg123
  z53 := Tryz.sizeOf123
  v53 := Tryz.zeroValue123
  t55 := Tryz.underlying125
  a55 := Tryz.isAgg125
  z55 := Tryz.sizeOf125
  v55 := Tryz.zeroValue125
  t66 := Tryz.underlying140
  a66 := Tryz.isAgg140
  z66 := Tryz.sizeOf140
  v66 := Tryz.zeroValue140
  t70 := Tryz.underlying144
  a70 := Tryz.isAgg144
  z70 := Tryz.sizeOf144
  v70 := Tryz.zeroValue144
  t76 := Tryz.underlying160
  a76 := Tryz.isAgg160
  z76 := Tryz.sizeOf160
  v76 := Tryz.zeroValue160
  t77 := Tryz.underlying161
  a77 := Tryz.isAgg161
  z77 := Tryz.sizeOf161
  v77 := Tryz.zeroValue161

def sortF78_ren : Shelf.Ren where
  f := fun x => match x with | 6 => 59 | 15 => 58 | 14 => 92 | 28 => 90 | 29 => 91 | 20 => 113 | 21 => 114 | 22 => 115 | 23 => 116 | 24 => 117 | 25 => 118 | 26 => 119 | 27 => 120 | 46 => 138 | 47 => 109 | 48 => 110 | 49 => 139 | 50 => 140 | 57 => 159 | n => n
  t := fun x => match x with | 22 => 73 | 24 => 78 | 25 => 90 | 3 => 3 | 39 => 88 | 0 => 0 | 53 => 123 | 55 => 125 | 4 => 4 | 46 => 116 | 45 => 115 | 50 => 120 | 5 => 5 | 9 => 9 | 66 => 140 | 70 => 144 | 76 => 160 | 77 => 161 | n => n
  g := fun n => n
theorem sortF78_lay : SlLaysF0.n6 Tryz.prog sortF78_ren where
  mixed := by kernel_rfl
  f6 := ⟨ "slices.SortFunc[[]drawboard/api.Attr,drawboard/api.Attr]", of_decide_eq_true (by kernel_rfl), Tryz.func59.trans (by kernel_rfl)⟩
  f14 := ⟨ "slices.pdqsortCmpFunc[drawboard/api.Attr]", of_decide_eq_true (by kernel_rfl), Tryz.func92.trans (by kernel_rfl)⟩
  f15 := Tryz.func58.trans (by kernel_rfl)
  f20 := ⟨ "slices.insertionSortCmpFunc[drawboard/api.Attr]", of_decide_eq_true (by kernel_rfl), Tryz.func113.trans (by kernel_rfl)⟩
  f21 := ⟨ "slices.heapSortCmpFunc[drawboard/api.Attr]", of_decide_eq_true (by kernel_rfl), Tryz.func114.trans (by kernel_rfl)⟩
  f22 := ⟨ "slices.breakPatternsCmpFunc[drawboard/api.Attr]", of_decide_eq_true (by kernel_rfl), Tryz.func115.trans (by kernel_rfl)⟩
  f23 := ⟨ "slices.choosePivotCmpFunc[drawboard/api.Attr]", of_decide_eq_true (by kernel_rfl), Tryz.func116.trans (by kernel_rfl)⟩
  f24 := ⟨ "slices.reverseRangeCmpFunc[drawboard/api.Attr]", of_decide_eq_true (by kernel_rfl), Tryz.func117.trans (by kernel_rfl)⟩
  f25 := ⟨ "slices.partialInsertionSortCmpFunc[drawboard/api.Attr]", of_decide_eq_true (by kernel_rfl), Tryz.func118.trans (by kernel_rfl)⟩
  f26 := ⟨ "slices.partitionEqualCmpFunc[drawboard/api.Attr]", of_decide_eq_true (by kernel_rfl), Tryz.func119.trans (by kernel_rfl)⟩
  f27 := ⟨ "slices.partitionCmpFunc[drawboard/api.Attr]", of_decide_eq_true (by kernel_rfl), Tryz.func120.trans (by kernel_rfl)⟩
  f28 := Tryz.func90.trans (by kernel_rfl)
  f29 := Tryz.func91.trans (by kernel_rfl)
  f46 := ⟨ "slices.siftDownCmpFunc[drawboard/api.Attr]", of_decide_eq_true (by kernel_rfl), Tryz.func138.trans (by kernel_rfl)⟩
  f47 := Tryz.func109.trans (by kernel_rfl)
  f48 := Tryz.func110.trans (by kernel_rfl)
  f49 := ⟨ "slices.medianAdjacentCmpFunc[drawboard/api.Attr]", of_decide_eq_true (by kernel_rfl), Tryz.func139.trans (by kernel_rfl)⟩
  f50 := ⟨ "slices.medianCmpFunc[drawboard/api.Attr]", of_decide_eq_true (by kernel_rfl), Tryz.func140.trans (by kernel_rfl)⟩
  f57 := ⟨ "slices.order2CmpFunc[drawboard/api.Attr]", of_decide_eq_true (by kernel_rfl), Tryz.func159.trans (by kernel_rfl)⟩
  t0 := Tryz.underlying0
  a0 := Tryz.isAgg0
  z0 := Tryz.sizeOf0
  v0 := Tryz.zeroValue0
  t3 := Tryz.underlying3
  a3 := Tryz.isAgg3
  z3 := Tryz.sizeOf3
  v3 := Tryz.zeroValue3
  t4 := Tryz.underlying4
  a4 := Tryz.isAgg4
  z4 := Tryz.sizeOf4
  v4 := Tryz.zeroValue4
  t5 := Tryz.underlying5
  a5 := Tryz.isAgg5
  z5 := Tryz.sizeOf5
  v5 := Tryz.zeroValue5
  t9 := Tryz.underlying9
  a9 := Tryz.isAgg9
  z9 := Tryz.sizeOf9
  v9 := Tryz.zeroValue9
  t22 := Tryz.underlying73
  a22 := Tryz.isAgg73
  z22 := Tryz.sizeOf73
  v22 := Tryz.zeroValue73
  t25 := Tryz.underlying90
  a25 := Tryz.isAgg90
  z25 := Tryz.sizeOf90
  v25 := Tryz.zeroValue90
  t39 := Tryz.underlying88
  a39 := Tryz.isAgg88
  z39 := Tryz.sizeOf88
  v39 := Tryz.zeroValue88
  t45 := Tryz.underlying115
  a45 := Tryz.isAgg115
  z45 := Tryz.sizeOf115
  v45 := Tryz.zeroValue115
  t46 := Tryz.underlying116
  a46 := Tryz.isAgg116
  z46 := Tryz.sizeOf116
  v46 := Tryz.zeroValue116
  t50 := Tryz.underlying120
  a50 := Tryz.isAgg120
  z50 := Tryz.sizeOf120
  v50 := Tryz.zeroValue120
  t53 := Tryz.underlying123
  a53 := Tryz.isAgg123
  z53 := Tryz.sizeOf123
  v53 := Tryz.zeroValue123
  t55 := Tryz.underlying125
  a55 := Tryz.isAgg125
  z55 := Tryz.sizeOf125
  v55 := Tryz.zeroValue125
  t66 := Tryz.underlying140
  a66 := Tryz.isAgg140
  z66 := Tryz.sizeOf140
  v66 := Tryz.zeroValue140
  t70 := Tryz.underlying144
  a70 := Tryz.isAgg144
  z70 := Tryz.sizeOf144
  v70 := Tryz.zeroValue144
  t76 := Tryz.underlying160
  a76 := Tryz.isAgg160
  z76 := Tryz.sizeOf160
  v76 := Tryz.zeroValue160
  t77 := Tryz.underlying161
  a77 := Tryz.isAgg161
  z77 := Tryz.sizeOf161
  v77 := Tryz.zeroValue161

def sortF75_ren : Shelf.Ren where
  f := fun x => match x with | 6 => 61 | 15 => 58 | 14 => 93 | 28 => 90 | 29 => 91 | 20 => 121 | 21 => 122 | 22 => 123 | 23 => 124 | 24 => 125 | 25 => 126 | 26 => 127 | 27 => 128 | 46 => 141 | 47 => 109 | 48 => 110 | 49 => 142 | 50 => 143 | 57 => 160 | n => n
  t := fun x => match x with | 22 => 28 | 24 => 75 | 25 => 92 | 3 => 3 | 39 => 88 | 0 => 0 | 53 => 123 | 55 => 125 | 4 => 4 | 46 => 116 | 45 => 115 | 50 => 120 | 5 => 5 | 9 => 9 | 66 => 140 | 70 => 144 | 76 => 160 | 77 => 161 | n => n
  g := fun n => n
theorem sortF75_lay : SlLaysF0.n6 Tryz.prog sortF75_ren where
  mixed := by kernel_rfl
  f6 := ⟨ "slices.SortFunc[[]drawboard/api.Thing,drawboard/api.Thing]", of_decide_eq_true (by kernel_rfl), Tryz.func61.trans (by kernel_rfl)⟩
  f14 := ⟨ "slices.pdqsortCmpFunc[drawboard/api.Thing]", of_decide_eq_true (by kernel_rfl), Tryz.func93.trans (by kernel_rfl)⟩
  f15 := Tryz.func58.trans (by kernel_rfl)
  f20 := ⟨ "slices.insertionSortCmpFunc[drawboard/api.Thing]", of_decide_eq_true (by kernel_rfl), Tryz.func121.trans (by kernel_rfl)⟩
  f21 := ⟨ "slices.heapSortCmpFunc[drawboard/api.Thing]", of_decide_eq_true (by kernel_rfl), Tryz.func122.trans (by kernel_rfl)⟩
  f22 := ⟨ "slices.breakPatternsCmpFunc[drawboard/api.Thing]", of_decide_eq_true (by kernel_rfl), Tryz.func123.trans (by kernel_rfl)⟩
  f23 := ⟨ "slices.choosePivotCmpFunc[drawboard/api.Thing]", of_decide_eq_true (by kernel_rfl), Tryz.func124.trans (by kernel_rfl)⟩
  f24 := ⟨ "slices.reverseRangeCmpFunc[drawboard/api.Thing]", of_decide_eq_true (by kernel_rfl), Tryz.func125.trans (by kernel_rfl)⟩
  f25 := ⟨ "slices.partialInsertionSortCmpFunc[drawboard/api.Thing]", of_decide_eq_true (by kernel_rfl), Tryz.func126.trans (by kernel_rfl)⟩
  f26 := ⟨ "slices.partitionEqualCmpFunc[drawboard/api.Thing]", of_decide_eq_true (by kernel_rfl), Tryz.func127.trans (by kernel_rfl)⟩
  f27 := ⟨ "slices.partitionCmpFunc[drawboard/api.Thing]", of_decide_eq_true (by kernel_rfl), Tryz.func128.trans (by kernel_rfl)⟩
  f28 := Tryz.func90.trans (by kernel_rfl)
  f29 := Tryz.func91.trans (by kernel_rfl)
  f46 := ⟨ "slices.siftDownCmpFunc[drawboard/api.Thing]", of_decide_eq_true (by kernel_rfl), Tryz.func141.trans (by kernel_rfl)⟩
  f47 := Tryz.func109.trans (by kernel_rfl)
  f48 := Tryz.func110.trans (by kernel_rfl)
  f49 := ⟨ "slices.medianAdjacentCmpFunc[drawboard/api.Thing]", of_decide_eq_true (by kernel_rfl), Tryz.func142.trans (by kernel_rfl)⟩
  f50 := ⟨ "slices.medianCmpFunc[drawboard/api.Thing]", of_decide_eq_true (by kernel_rfl), Tryz.func143.trans (by kernel_rfl)⟩
  f57 := ⟨ "slices.order2CmpFunc[drawboard/api.Thing]", of_decide_eq_true (by kernel_rfl), Tryz.func160.trans (by kernel_rfl)⟩
  t0 := Tryz.underlying0
  a0 := Tryz.isAgg0
  z0 := Tryz.sizeOf0
  v0 := Tryz.zeroValue0
  t3 := Tryz.underlying3
  a3 := Tryz.isAgg3
  z3 := Tryz.sizeOf3
  v3 := Tryz.zeroValue3
  t4 := Tryz.underlying4
  a4 := Tryz.isAgg4
  z4 := Tryz.sizeOf4
  v4 := Tryz.zeroValue4
  t5 := Tryz.underlying5
  a5 := Tryz.isAgg5
  z5 := Tryz.sizeOf5
  v5 := Tryz.zeroValue5
  t9 := Tryz.underlying9
  a9 := Tryz.isAgg9
  z9 := Tryz.sizeOf9
  v9 := Tryz.zeroValue9
  t22 := Tryz.underlying28
  a22 := Tryz.isAgg28
  z22 := Tryz.sizeOf28
  v22 := Tryz.zeroValue28
  t25 := Tryz.underlying92
  a25 := Tryz.isAgg92
  z25 := Tryz.sizeOf92
  v25 := Tryz.zeroValue92
  t39 := Tryz.underlying88
  a39 := Tryz.isAgg88
  z39 := Tryz.sizeOf88
  v39 := Tryz.zeroValue88
  t45 := Tryz.underlying115
  a45 := Tryz.isAgg115
  z45 := Tryz.sizeOf115
  v45 := Tryz.zeroValue115
  t46 := Tryz.underlying116
  a46 := Tryz.isAgg116
  z46 := Tryz.sizeOf116
  v46 := Tryz.zeroValue116
  t50 := Tryz.underlying120
  a50 := Tryz.isAgg120
  z50 := Tryz.sizeOf120
  v50 := Tryz.zeroValue120
  t53 := Tryz.underlying123
  a53 := Tryz.isAgg123
  z53 := Tryz.sizeOf123
  v53 := Tryz.zeroValue123
  t55 := Tryz.underlying125
  a55 := Tryz.isAgg125
  z55 := Tryz.sizeOf125
  v55 := Tryz.zeroValue125
  t66 := Tryz.underlying140
  a66 := Tryz.isAgg140
  z66 := Tryz.sizeOf140
  v66 := Tryz.zeroValue140
  t70 := Tryz.underlying144
  a70 := Tryz.isAgg144
  z70 := Tryz.sizeOf144
  v70 := Tryz.zeroValue144
  t76 := Tryz.underlying160
  a76 := Tryz.isAgg160
  z76 := Tryz.sizeOf160
  v76 := Tryz.zeroValue160
  t77 := Tryz.underlying161
  a77 := Tryz.isAgg161
  z77 := Tryz.sizeOf161
  v77 := Tryz.zeroValue161

theorem orT_at (b c : Nat) (x y z r : Int) (w : World) (hr1 : x ≠ 0 → r = x) (hr2 : x = 0 → y ≠ 0 → r = y) (hr3 : x = 0 → y = 0 → r = z) (hx : w.cell? ⟨b, 0, none⟩ = some (.int .i64 x)) (hy : w.cell? ⟨b, 1, none⟩ = some (.int .i64 y)) (hz : w.cell? ⟨b, 2, none⟩ = some (.int .i64 z)) :
    Calls Tryz.prog 51 #[.slice (some ⟨b, 0, none⟩) 3 c] w fun e w' => e = .returned (.int .i64 r) ∧ w' = w := by
  go_enter Tryz.func51, Tryz.ntmps51
  go_wp2
  go_loop [5, 8] (fun _ i => ∃ k : Nat, k ≤ 3 ∧ i = .int .i64 k ∧ (0 < k → x = 0) ∧ (1 < k → y = 0) ∧ (2 < k → z = 0)) (fun _ i => match i with | .int _ m => 3 - m.toNat | _ => 0)
  case atStart => exact ⟨0, by omega, rfl, fun h => absurd h (by omega), fun h => absurd h (by omega), fun h => absurd h (by omega)⟩
  case round =>
    obtain ⟨k, hk, rfl, h0, h1, h2⟩ := hrel
    have hcell : ∃ u, ((k : Int) < 3 → w.cell? ⟨b, k, none⟩ = some (.int .i64 u)) ∧ (k = 0 → u = x) ∧ (k = 1 → u = y) ∧ (k = 2 → u = z) := by
      refine ⟨if k = 0 then x else if k = 1 then y else z, fun h => ?_, fun h => if_pos h, fun h => by rw [if_neg (by omega), if_pos h], fun h => by rw [if_neg (by omega), if_neg (by omega)]⟩
      by_cases e : k = 0
      · rw [e, hx, if_pos rfl]
      · by_cases e1 : k = 1
        · rw [e1, hy, if_neg (by decide), if_pos rfl]
        · obtain rfl : k = 2 := by omega
          rw [hz, if_neg e, if_neg e1]
    obtain ⟨u, hu, hu0, hu1, hu2⟩ := hcell
    go_wp2
    · have hlt : (k : Int) < 3 := by assumption
      have hne : (u != 0) = true := by assumption
      have hne' : u ≠ 0 := by simpa using hne
      go_ret
      refine ⟨?_, rfl⟩
      show Ending.returned (.int .i64 u) = .returned (.int .i64 r)
      congr 2
      by_cases e : k = 0
      · rw [hu0 e] at hne' ⊢; exact (hr1 hne').symm
      · by_cases e1 : k = 1
        · rw [hu1 e1] at hne' ⊢; exact (hr2 (h0 (by omega)) hne').symm
        · rw [hu2 (by omega)]; exact (hr3 (h0 (by omega)) (h1 (by omega))).symm
    · have hlt : (k : Int) < 3 := by assumption
      have hne : (u != 0) = false := by assumption
      have hne' : u = 0 := by simpa using hne
      refine ⟨⟨k + 1, by omega, by push_cast; rfl, fun _ => ?_, fun h => ?_, fun h => ?_⟩, by show 3 - ((k : Int) + 1).toNat < 3 - (k : Int).toNat; omega⟩
      · by_cases e : k = 0
        · rw [← hu0 e]; exact hne'
        · exact h0 (by omega)
      · by_cases e : k = 1
        · rw [← hu1 e]; exact hne'
        · exact h1 (by omega)
      · rw [← hu2 (by omega)]; exact hne'
    · have hge : 3 ≤ (k : Int) := by assumption
      go_ret
      refine ⟨?_, rfl⟩
      show Ending.returned (.int .i64 0) = .returned (.int .i64 r)
      rw [hr3 (h0 (by omega)) (h1 (by omega)), h2 (by omega)]
theorem triple_cells (w : World) (x y z : Value) (t : TypeId) : (w.alloc (.cells #[x, y, z] t)).cell? ⟨w.heap.size, 0, none⟩ = some x ∧ (w.alloc (.cells #[x, y, z] t)).cell? ⟨w.heap.size, 1, none⟩ = some y ∧ (w.alloc (.cells #[x, y, z] t)).cell? ⟨w.heap.size, 2, none⟩ = some z := by refine ⟨?_, ?_, ?_⟩ <;> go_simp
theorem laterR_at (a1 a3 b1 b3 r : Int) (a2 b2 : Str) (w0 : World)
    (hr1 : (if a1 < b1 then (-1 : Int) else if b1 < a1 then 1 else 0) ≠ 0 → r = if a1 < b1 then (-1 : Int) else if b1 < a1 then 1 else 0)
    (hr2 : (if a1 < b1 then (-1 : Int) else if b1 < a1 then 1 else 0) = 0 → Lib.compareBytes a2.b b2.b ≠ 0 → r = Lib.compareBytes a2.b b2.b)
    (hr3 : (if a1 < b1 then (-1 : Int) else if b1 < a1 then 1 else 0) = 0 → Lib.compareBytes a2.b b2.b = 0 → r = if a3 < b3 then (-1 : Int) else if b3 < a3 then 1 else 0) :
    Calls Tryz.prog 40 #[.agg #[.int .i64 a1, .string ⟨a2.b.toArray⟩, .int .i64 a3], .agg #[.int .i64 b1, .string ⟨b2.b.toArray⟩, .int .i64 b3]] w0 fun e w' => e = .returned (.int .i64 r) ∧ ∃ q os', w' = Go.Sort.grow (w0.drewN q) os' := by
  go_enter Tryz.func40, Tryz.ntmps40
  go_wp2
  obtain ⟨w1, hw1⟩ : ∃ w1, w1 = (w0.alloc (.cells #[.int .i64 a1, .string ⟨a2.b.toArray⟩, .int .i64 a3] 40)).alloc (.cells #[.int .i64 b1, .string ⟨b2.b.toArray⟩, .int .i64 b3] 40) := ⟨_, rfl⟩
  rw [← hw1]
  have k0 : w1.drew.cell? ⟨w0.heap.size, 0, none⟩ = some (.int .i64 a1) := by rw [hw1]; go_simp
  have k1 : w1.drew.cell? ⟨w0.heap.size, 1, none⟩ = some (.string ⟨a2.b.toArray⟩) := by rw [hw1]; go_simp
  have k2 : w1.drew.cell? ⟨w0.heap.size, 2, none⟩ = some (.int .i64 a3) := by rw [hw1]; go_simp
  have k3 : w1.drew.cell? ⟨w0.heap.size + 1, 0, none⟩ = some (.int .i64 b1) := by rw [hw1]; go_simp
  have k4 : w1.drew.cell? ⟨w0.heap.size + 1, 1, none⟩ = some (.string ⟨b2.b.toArray⟩) := by rw [hw1]; go_simp
  have k5 : w1.drew.cell? ⟨w0.heap.size + 1, 2, none⟩ = some (.int .i64 b3) := by rw [hw1]; go_simp
  refine wp_region_still_tail 15 (by kernel_rfl) (by kernel_rfl) ?_
  change wpStill _ _ w1.drew (fun a' => wpList _ _ _ _ a' w1.drew) _ _
  generalize hw2 : w1.drew = w2 at *
  simp only [List.take_succ_cons, List.take_zero, List.drop_succ_cons, List.drop_zero]
  repeat still_step
  still_call (cmpI_ok _ _ _)
  repeat still_step
  still_call (Proofs.Any.strings_Compare compareStr_lay _ _ _)
  repeat still_step
  still_call (cmpI_ok _ _ _)
  refine wpStill_nil ?_
  generalize hcc : (if a3 < b3 then (-1 : Int) else if b3 < a3 then 1 else 0) = cc at *
  generalize hcd : (if a1 < b1 then (-1 : Int) else if b1 < a1 then 1 else 0) = cd at *
  go_wp2_with (go_at_call 51; refine Calls.mono (orT_at _ _ _ _ _ r _ hr1 hr2 hr3 (triple_cells _ _ _ _ _).1 (triple_cells _ _ _ _ _).2.1 (triple_cells _ _ _ _ _).2.2) ?_; rintro e w' ⟨rfl, rfl⟩)
  go_ret
  exact ⟨rfl, 1, _, by rw [Go.Sort.alloc_eq_grow, ← hw2, hw1, Go.Sort.alloc_eq_grow, Go.Sort.alloc_eq_grow, Go.Sort.grow_grow, Go.Sort.drew_grow, Go.Sort.grow_grow]; rfl⟩
set_option maxHeartbeats 4000000 in
theorem stateC_at (a1 a3 a4 a8 b1 b3 b4 b8 r : Int) (a2 a5 a6 a7 b2 b5 b6 b7 : Str) (w0 : World)
    (hr1 : (if a1 < b1 then (-1 : Int) else if b1 < a1 then 1 else 0) ≠ 0 → r = if a1 < b1 then (-1 : Int) else if b1 < a1 then 1 else 0)
    (hr2 : (if a1 < b1 then (-1 : Int) else if b1 < a1 then 1 else 0) = 0 → Lib.compareBytes a2.b b2.b ≠ 0 → r = Lib.compareBytes a2.b b2.b)
    (hr3 : (if a1 < b1 then (-1 : Int) else if b1 < a1 then 1 else 0) = 0 → Lib.compareBytes a2.b b2.b = 0 → r = if a3 < b3 then (-1 : Int) else if b3 < a3 then 1 else 0) :
    Calls Tryz.prog 39 #[.agg #[.int .i64 a1, .string ⟨a2.b.toArray⟩, .int .i64 a3, .int .i64 a4, .string ⟨a5.b.toArray⟩, .string ⟨a6.b.toArray⟩, .string ⟨a7.b.toArray⟩, .int .i64 a8], .agg #[.int .i64 b1, .string ⟨b2.b.toArray⟩, .int .i64 b3, .int .i64 b4, .string ⟨b5.b.toArray⟩, .string ⟨b6.b.toArray⟩, .string ⟨b7.b.toArray⟩, .int .i64 b8]] w0 fun e w' => e = .returned (.int .i64 r) ∧ ∃ q os', w' = Go.Sort.grow (w0.drewN q) os' := by
  go_enter Tryz.func39, Tryz.ntmps39
  go_wp2_with (go_at_call 40; refine Calls.mono (laterR_at a1 a3 b1 b3 r a2 b2 _ hr1 hr2 hr3) ?_; rintro e w' ⟨rfl, q1, os1, rfl⟩)
  go_ret
  exact ⟨rfl, q1, _, by rw [Go.Sort.alloc_eq_grow, Go.Sort.alloc_eq_grow, drewN_grow, drewN_grow, Go.Sort.grow_grow, Go.Sort.grow_grow]⟩


def keysZ65_ren : Shelf.Ren where
  f := fun x => match x with | 7 => 65 | 10 => 96 | n => n
  t := fun x => match x with | 23 => 60 | 26 => 9 | 3 => 65 | 28 => 96 | 0 => 0 | 27 => 95 | 33 => 56 | 4 => 4 | n => n
  g := fun n => n
theorem keysZ65_lay : SlLaysZ.n7 Tryz.prog keysZ65_ren where
  mixed := by kernel_rfl
  f7 := ⟨ "maps.Keys[map[string]map[string]string,string,map[string]string]", of_decide_eq_true (by kernel_rfl), Tryz.func65.trans (by kernel_rfl)⟩
  f10 := ⟨ "maps.Keys[map[string]map[string]string,string,map[string]string]$1", of_decide_eq_true (by kernel_rfl), Tryz.func96.trans (by kernel_rfl)⟩
  t0 := Tryz.underlying0
  a0 := Tryz.isAgg0
  z0 := Tryz.sizeOf0
  v0 := Tryz.zeroValue0
  t4 := Tryz.underlying4
  a4 := Tryz.isAgg4
  z4 := Tryz.sizeOf4
  v4 := Tryz.zeroValue4
  t23 := Tryz.underlying60
  a23 := Tryz.isAgg60
  z23 := Tryz.sizeOf60
  v23 := Tryz.zeroValue60
  t26 := Tryz.underlying9
  a26 := Tryz.isAgg9
  z26 := Tryz.sizeOf9
  v26 := Tryz.zeroValue9
  t27 := Tryz.underlying95
  a27 := Tryz.isAgg95
  z27 := Tryz.sizeOf95
  v27 := Tryz.zeroValue95
  t28 := Tryz.underlying96
  a28 := Tryz.isAgg96
  z28 := Tryz.sizeOf96
  v28 := Tryz.zeroValue96
  t33 := Tryz.underlying56
  a33 := Tryz.isAgg56
  z33 := Tryz.sizeOf56
  v33 := Tryz.zeroValue56

def sortedZ_ren : Shelf.Ren where
  f := fun x => match x with | 6 => 64 | 8 => 94 | 9 => 95 | 11 => 129 | 13 => 58 | 12 => 130 | 23 => 90 | 24 => 91 | 14 => 144 | 15 => 145 | 16 => 146 | 17 => 147 | 18 => 148 | 19 => 149 | 20 => 150 | 21 => 151 | 22 => 152 | 25 => 161 | 26 => 109 | 27 => 110 | 28 => 162 | 29 => 163 | 30 => 164 | 31 => 167 | n => n
  t := fun x => match x with | 26 => 9 | 28 => 96 | 24 => 93 | 0 => 0 | 3 => 3 | 37 => 88 | 48 => 123 | 50 => 125 | 4 => 4 | 40 => 116 | 39 => 115 | 45 => 120 | 5 => 5 | 9 => 9 | 51 => 140 | 55 => 144 | 57 => 160 | 58 => 161 | 33 => 56 | n => n
  g := fun n => n
theorem sortedZ_lay : SlLaysZ.n6 Tryz.prog sortedZ_ren where
  mixed := by kernel_rfl
  f6 := ⟨ "slices.Sorted[string]", of_decide_eq_true (by kernel_rfl), Tryz.func64.trans (by kernel_rfl)⟩
  f8 := ⟨ "slices.Collect[string]", of_decide_eq_true (by kernel_rfl), Tryz.func94.trans (by kernel_rfl)⟩
  f11 := ⟨ "slices.AppendSeq[[]string,string]", of_decide_eq_true (by kernel_rfl), Tryz.func129.trans (by kernel_rfl)⟩
  t0 := Tryz.underlying0
  a0 := Tryz.isAgg0
  z0 := Tryz.sizeOf0
  v0 := Tryz.zeroValue0
  t24 := Tryz.underlying93
  a24 := Tryz.isAgg93
  z24 := Tryz.sizeOf93
  v24 := Tryz.zeroValue93
  t26 := Tryz.underlying9
  a26 := Tryz.isAgg9
  z26 := Tryz.sizeOf9
  v26 := Tryz.zeroValue9
  t28 := Tryz.underlying96
  a28 := Tryz.isAgg96
  z28 := Tryz.sizeOf96
  v28 := Tryz.zeroValue96
  i26 := by kernel_rfl

def sortSM_ren : Shelf.Ren where
  f := fun x => match x with | 6 => 95 | 8 => 58 | 9 => 130 | 19 => 90 | 20 => 91 | 21 => 144 | 22 => 145 | 23 => 146 | 24 => 147 | 25 => 148 | 26 => 149 | 27 => 150 | 28 => 151 | 29 => 152 | 36 => 161 | 31 => 109 | 32 => 110 | 37 => 162 | 38 => 163 | 39 => 164 | 41 => 167 | n => n
  t := fun x => match x with | 27 => 93 | 29 => 9 | 3 => 3 | 32 => 88 | 26 => 93 | 0 => 0 | 44 => 123 | 46 => 125 | 4 => 4 | 36 => 116 | 35 => 115 | 41 => 120 | 5 => 5 | 9 => 9 | 53 => 140 | 57 => 144 | 63 => 160 | 64 => 161 | n => n
  g := fun n => n
theorem sortSM_lay : SlLaysM.n6 Tryz.prog sortSM_ren where
  mixed := by kernel_rfl
  f6 := ⟨ "slices.Sort[[]string,string]", of_decide_eq_true (by kernel_rfl), Tryz.func95.trans (by kernel_rfl)⟩
  f8 := Tryz.func58.trans (by kernel_rfl)
  f9 := ⟨ "slices.pdqsortOrdered[string]", of_decide_eq_true (by kernel_rfl), Tryz.func130.trans (by kernel_rfl)⟩
  f19 := Tryz.func90.trans (by kernel_rfl)
  f20 := Tryz.func91.trans (by kernel_rfl)
  f21 := ⟨ "slices.insertionSortOrdered[string]", of_decide_eq_true (by kernel_rfl), Tryz.func144.trans (by kernel_rfl)⟩
  f22 := ⟨ "slices.heapSortOrdered[string]", of_decide_eq_true (by kernel_rfl), Tryz.func145.trans (by kernel_rfl)⟩
  f23 := ⟨ "slices.breakPatternsOrdered[string]", of_decide_eq_true (by kernel_rfl), Tryz.func146.trans (by kernel_rfl)⟩
  f24 := ⟨ "slices.choosePivotOrdered[string]", of_decide_eq_true (by kernel_rfl), Tryz.func147.trans (by kernel_rfl)⟩
  f25 := ⟨ "slices.reverseRangeOrdered[string]", of_decide_eq_true (by kernel_rfl), Tryz.func148.trans (by kernel_rfl)⟩
  f26 := ⟨ "slices.partialInsertionSortOrdered[string]", of_decide_eq_true (by kernel_rfl), Tryz.func149.trans (by kernel_rfl)⟩
  f27 := ⟨ "cmp.Less[string]", of_decide_eq_true (by kernel_rfl), Tryz.func150.trans (by kernel_rfl)⟩
  f28 := ⟨ "slices.partitionEqualOrdered[string]", of_decide_eq_true (by kernel_rfl), Tryz.func151.trans (by kernel_rfl)⟩
  f29 := ⟨ "slices.partitionOrdered[string]", of_decide_eq_true (by kernel_rfl), Tryz.func152.trans (by kernel_rfl)⟩
  f31 := Tryz.func109.trans (by kernel_rfl)
  f32 := Tryz.func110.trans (by kernel_rfl)
  f36 := ⟨ "slices.siftDownOrdered[string]", of_decide_eq_true (by kernel_rfl), Tryz.func161.trans (by kernel_rfl)⟩
  f37 := ⟨ "slices.medianAdjacentOrdered[string]", of_decide_eq_true (by kernel_rfl), Tryz.func162.trans (by kernel_rfl)⟩
  f38 := ⟨ "slices.medianOrdered[string]", of_decide_eq_true (by kernel_rfl), Tryz.func163.trans (by kernel_rfl)⟩
  f39 := ⟨ "cmp.isNaN[string]", of_decide_eq_true (by kernel_rfl), Tryz.func164.trans (by kernel_rfl)⟩
  f41 := ⟨ "slices.order2Ordered[string]", of_decide_eq_true (by kernel_rfl), Tryz.func167.trans (by kernel_rfl)⟩
  t0 := Tryz.underlying0
  a0 := Tryz.isAgg0
  z0 := Tryz.sizeOf0
  v0 := Tryz.zeroValue0
  t3 := Tryz.underlying3
  a3 := Tryz.isAgg3
  z3 := Tryz.sizeOf3
  v3 := Tryz.zeroValue3
  t4 := Tryz.underlying4
  a4 := Tryz.isAgg4
  z4 := Tryz.sizeOf4
  v4 := Tryz.zeroValue4
  t5 := Tryz.underlying5
  a5 := Tryz.isAgg5
  z5 := Tryz.sizeOf5
  v5 := Tryz.zeroValue5
  t9 := Tryz.underlying9
  a9 := Tryz.isAgg9
  z9 := Tryz.sizeOf9
  v9 := Tryz.zeroValue9
  t26 := Tryz.underlying93
  a26 := Tryz.isAgg93
  z26 := Tryz.sizeOf93
  v26 := Tryz.zeroValue93
  t27 := Tryz.underlying93
  a27 := Tryz.isAgg93
  z27 := Tryz.sizeOf93
  v27 := Tryz.zeroValue93
  t29 := Tryz.underlying9
  a29 := Tryz.isAgg9
  z29 := Tryz.sizeOf9
  v29 := Tryz.zeroValue9
  t32 := Tryz.underlying88
  a32 := Tryz.isAgg88
  z32 := Tryz.sizeOf88
  v32 := Tryz.zeroValue88
  t35 := Tryz.underlying115
  a35 := Tryz.isAgg115
  z35 := Tryz.sizeOf115
  v35 := Tryz.zeroValue115
  t36 := Tryz.underlying116
  a36 := Tryz.isAgg116
  z36 := Tryz.sizeOf116
  v36 := Tryz.zeroValue116
  t41 := Tryz.underlying120
  a41 := Tryz.isAgg120
  z41 := Tryz.sizeOf120
  v41 := Tryz.zeroValue120
  t44 := Tryz.underlying123
  a44 := Tryz.isAgg123
  z44 := Tryz.sizeOf123
  v44 := Tryz.zeroValue123
  t46 := Tryz.underlying125
  a46 := Tryz.isAgg125
  z46 := Tryz.sizeOf125
  v46 := Tryz.zeroValue125
  t53 := Tryz.underlying140
  a53 := Tryz.isAgg140
  z53 := Tryz.sizeOf140
  v53 := Tryz.zeroValue140
  t57 := Tryz.underlying144
  a57 := Tryz.isAgg144
  z57 := Tryz.sizeOf144
  v57 := Tryz.zeroValue144
  t63 := Tryz.underlying160
  a63 := Tryz.isAgg160
  z63 := Tryz.sizeOf160
  v63 := Tryz.zeroValue160
  t64 := Tryz.underlying161
  a64 := Tryz.isAgg161
  z64 := Tryz.sizeOf161
  v64 := Tryz.zeroValue161

def keysZ66_ren : Shelf.Ren where
  f := fun x => match x with | 7 => 66 | 10 => 97 | n => n
  t := fun x => match x with | 23 => 65 | 26 => 9 | 3 => 9 | 28 => 96 | 0 => 0 | 27 => 95 | 33 => 56 | 4 => 4 | n => n
  g := fun n => n
theorem keysZ66_lay : SlLaysZ.n7 Tryz.prog keysZ66_ren where
  mixed := by kernel_rfl
  f7 := ⟨ "maps.Keys[map[string]string,string,string]", of_decide_eq_true (by kernel_rfl), Tryz.func66.trans (by kernel_rfl)⟩
  f10 := ⟨ "maps.Keys[map[string]string,string,string]$1", of_decide_eq_true (by kernel_rfl), Tryz.func97.trans (by kernel_rfl)⟩
  t0 := Tryz.underlying0
  a0 := Tryz.isAgg0
  z0 := Tryz.sizeOf0
  v0 := Tryz.zeroValue0
  t4 := Tryz.underlying4
  a4 := Tryz.isAgg4
  z4 := Tryz.sizeOf4
  v4 := Tryz.zeroValue4
  t23 := Tryz.underlying65
  a23 := Tryz.isAgg65
  z23 := Tryz.sizeOf65
  v23 := Tryz.zeroValue65
  t26 := Tryz.underlying9
  a26 := Tryz.isAgg9
  z26 := Tryz.sizeOf9
  v26 := Tryz.zeroValue9
  t27 := Tryz.underlying95
  a27 := Tryz.isAgg95
  z27 := Tryz.sizeOf95
  v27 := Tryz.zeroValue95
  t28 := Tryz.underlying96
  a28 := Tryz.isAgg96
  z28 := Tryz.sizeOf96
  v28 := Tryz.zeroValue96
  t33 := Tryz.underlying56
  a33 := Tryz.isAgg56
  z33 := Tryz.sizeOf56
  v33 := Tryz.zeroValue56

theorem fnok74 : FnOK Tryz.prog 74 := ⟨_, Tryz.func74, by kernel_rfl, by kernel_rfl⟩
theorem fnok55 : FnOK Tryz.prog 55 := ⟨_, Tryz.func55, by kernel_rfl, by kernel_rfl⟩
theorem fnok52 : FnOK Tryz.prog 52 := ⟨_, Tryz.func52, by kernel_rfl, by kernel_rfl⟩
theorem fnok3 : FnOK Tryz.prog 3 := ⟨_, Tryz.func3, by kernel_rfl, by kernel_rfl⟩
theorem ty22 : Ty Tryz.prog 22 (List DOp) := ⟨⟨_, Tryz.underlying22, rfl⟩, by kernel_rfl⟩
theorem fnok5 : FnOK Tryz.prog 5 := ⟨_, Tryz.func5, by kernel_rfl, by kernel_rfl⟩
theorem sl22 : SliceOf Tryz.prog 22 42 := Tryz.underlying22
theorem bu42 : BuildAt Tryz.prog 42 [.int .i64 0, .string ByteArray.empty, .int .i64 0, .int .i64 0, .string ByteArray.empty, .string ByteArray.empty, .string ByteArray.empty, .int .i64 0] [(0, 3), (3, 1), (4, 1), (5, 1), (6, 1), (7, 1)] := ⟨by kernel_rfl, _, Tryz.underlying42, by kernel_rfl⟩
theorem zc42 : ∀ (M : MSet) (w : World), Rep.cells M (⟨(⟨(0 : Int), Str.nil, (0 : Int)⟩ : Stamp), (0 : Int), Str.nil, Str.nil, Str.nil, (0 : Int)⟩ : DOp) [.int .i64 0, .string ByteArray.empty, .int .i64 0, .int .i64 0, .string ByteArray.empty, .string ByteArray.empty, .string ByteArray.empty, .int .i64 0] w := fun _ _ => ⟨[_, _, _], _, rfl, ⟨[_], _, rfl, ⟨rfl, by decide⟩, ⟨[_], _, rfl, str_zero, ⟨rfl, by decide⟩⟩⟩, ⟨[_], _, rfl, ⟨rfl, by decide⟩, ⟨[_], _, rfl, str_zero, ⟨[_], _, rfl, str_zero, ⟨[_], _, rfl, str_zero, ⟨rfl, by decide⟩⟩⟩⟩⟩⟩
theorem zo42 : ZeroOf Tryz.prog 42 (⟨(⟨(0 : Int), Str.nil, (0 : Int)⟩ : Stamp), (0 : Int), Str.nil, Str.nil, Str.nil, (0 : Int)⟩ : DOp) := ⟨[.int .i64 0, .string ByteArray.empty, .int .i64 0, .int .i64 0, .string ByteArray.empty, .string ByteArray.empty, .string ByteArray.empty, .int .i64 0], by kernel_rfl, fun _ _ => ⟨[_, _, _], _, rfl, ⟨[_], _, rfl, ⟨rfl, by decide⟩, ⟨[_], _, rfl, str_zero, ⟨rfl, by decide⟩⟩⟩, ⟨[_], _, rfl, ⟨rfl, by decide⟩, ⟨[_], _, rfl, str_zero, ⟨[_], _, rfl, str_zero, ⟨[_], _, rfl, str_zero, ⟨rfl, by decide⟩⟩⟩⟩⟩⟩⟩
theorem ty42 : Ty Tryz.prog 42 DOp := ⟨⟨_, Tryz.underlying42, rfl⟩, by kernel_rfl⟩
theorem fd42_0 : FieldAt Tryz.prog 42 0 0 := ⟨_, _, Tryz.underlying42, rfl, rfl, by kernel_rfl⟩
theorem hfd42_0 : HasField DOp Stamp 0 DOp.Stamp := ⟨by decide, fun M x cs w h => (HasField.fst HasField.self).2 M _ cs w h⟩
theorem fd40_1 : FieldAt Tryz.prog 40 1 1 := ⟨_, _, Tryz.underlying40, rfl, rfl, by kernel_rfl⟩
theorem hfd40_1 : HasField Stamp Str 1 Stamp.Site := ⟨by decide, fun M x cs w h => (HasField.snd (HasField.fst HasField.self)).2 M _ cs w h⟩
theorem ty9 : Ty Tryz.prog 9 Str := ⟨⟨_, Tryz.underlying9, rfl⟩, by kernel_rfl⟩
theorem fd40_2 : FieldAt Tryz.prog 40 2 2 := ⟨_, _, Tryz.underlying40, rfl, rfl, by kernel_rfl⟩
theorem hfd40_2 : HasField Stamp Int 2 Stamp.No := ⟨by decide, fun M x cs w h => (HasField.snd (HasField.snd HasField.self)).2 M _ cs w h⟩
theorem ty3 : Ty Tryz.prog 3 Int := ⟨⟨_, Tryz.underlying3, rfl⟩, by kernel_rfl⟩
theorem sf42_0 : SetField DOp Stamp 0 (fun x z => { x with Stamp := z }) := ⟨by decide, fun M x z cs zs w h hz => (SetField.fst SetField.self).2 M _ z cs zs w h hz⟩
theorem sf40_2 : SetField Stamp Int 2 (fun x z => { x with No := z }) := ⟨by decide, fun M x z cs zs w h hz => (SetField.snd (SetField.snd SetField.self)).2 M _ z cs zs w h hz⟩
theorem fd40_0 : FieldAt Tryz.prog 40 0 0 := ⟨_, _, Tryz.underlying40, rfl, rfl, by kernel_rfl⟩
theorem hfd40_0 : HasField Stamp Int 0 Stamp.Time := ⟨by decide, fun M x cs w h => (HasField.fst HasField.self).2 M _ cs w h⟩
theorem sf40_0 : SetField Stamp Int 0 (fun x z => { x with Time := z }) := ⟨by decide, fun M x z cs zs w h hz => (SetField.fst SetField.self).2 M _ z cs zs w h hz⟩
theorem fnok23 : FnOK Tryz.prog 23 := ⟨_, Tryz.func23, by kernel_rfl, by kernel_rfl⟩
theorem fnok53 : FnOK Tryz.prog 53 := ⟨_, Tryz.func53, by kernel_rfl, by kernel_rfl⟩
theorem fnok73 : FnOK Tryz.prog 73 := ⟨_, Tryz.func73, by kernel_rfl, by kernel_rfl⟩
theorem sl105 : SliceOf Tryz.prog 105 3 := Tryz.underlying105
theorem hz3 : HasZero Tryz.prog 3 := by unfold HasZero; kernel_rfl
theorem fnok51 : FnOK Tryz.prog 51 := ⟨_, Tryz.func51, by kernel_rfl, by kernel_rfl⟩
theorem fnok26 : FnOK Tryz.prog 26 := ⟨_, Tryz.func26, by kernel_rfl, by kernel_rfl⟩
theorem fnok25 : FnOK Tryz.prog 25 := ⟨_, Tryz.func25, by kernel_rfl, by kernel_rfl⟩
theorem fnok27 : FnOK Tryz.prog 27 := ⟨_, Tryz.func27, by kernel_rfl, by kernel_rfl⟩
theorem fnok28 : FnOK Tryz.prog 28 := ⟨_, Tryz.func28, by kernel_rfl, by kernel_rfl⟩
theorem fd42_1 : FieldAt Tryz.prog 42 1 3 := ⟨_, _, Tryz.underlying42, rfl, rfl, by kernel_rfl⟩
theorem hfd42_1 : HasField DOp Int 3 DOp.Kind := ⟨by decide, fun M x cs w h => (HasField.snd (HasField.fst HasField.self)).2 M _ cs w h⟩
theorem fd42_3 : FieldAt Tryz.prog 42 3 5 := ⟨_, _, Tryz.underlying42, rfl, rfl, by kernel_rfl⟩
theorem hfd42_3 : HasField DOp Str 5 DOp.Field := ⟨by decide, fun M x cs w h => (HasField.snd (HasField.snd (HasField.snd (HasField.fst HasField.self)))).2 M _ cs w h⟩
theorem fd42_4 : FieldAt Tryz.prog 42 4 6 := ⟨_, _, Tryz.underlying42, rfl, rfl, by kernel_rfl⟩
theorem hfd42_4 : HasField DOp Str 6 DOp.Value := ⟨by decide, fun M x cs w h => (HasField.snd (HasField.snd (HasField.snd (HasField.snd (HasField.fst HasField.self))))).2 M _ cs w h⟩
theorem fd42_2 : FieldAt Tryz.prog 42 2 4 := ⟨_, _, Tryz.underlying42, rfl, rfl, by kernel_rfl⟩
theorem hfd42_2 : HasField DOp Str 4 DOp.Id := ⟨by decide, fun M x cs w h => (HasField.snd (HasField.snd (HasField.fst HasField.self))).2 M _ cs w h⟩
theorem fd42_5 : FieldAt Tryz.prog 42 5 7 := ⟨_, _, Tryz.underlying42, rfl, rfl, by kernel_rfl⟩
theorem hfd42_5 : HasField DOp Int 7 DOp.Of := ⟨by decide, fun M x cs w h => (HasField.snd (HasField.snd (HasField.snd (HasField.snd (HasField.snd HasField.self))))).2 M _ cs w h⟩
theorem fnok54 : FnOK Tryz.prog 54 := ⟨_, Tryz.func54, by kernel_rfl, by kernel_rfl⟩
theorem sl83 : SliceOf Tryz.prog 83 23 := Tryz.underlying83
theorem ty23 : Ty Tryz.prog 23 Int := ⟨⟨_, Tryz.underlying23, rfl⟩, by kernel_rfl⟩
theorem hz23 : HasZero Tryz.prog 23 := by unfold HasZero; kernel_rfl
theorem fnok24 : FnOK Tryz.prog 24 := ⟨_, Tryz.func24, by kernel_rfl, by kernel_rfl⟩
theorem fnok6 : FnOK Tryz.prog 6 := ⟨_, Tryz.func6, by kernel_rfl, by kernel_rfl⟩
theorem fnok29 : FnOK Tryz.prog 29 := ⟨_, Tryz.func29, by kernel_rfl, by kernel_rfl⟩
theorem fnok30 : FnOK Tryz.prog 30 := ⟨_, Tryz.func30, by kernel_rfl, by kernel_rfl⟩
theorem fnok31 : FnOK Tryz.prog 31 := ⟨_, Tryz.func31, by kernel_rfl, by kernel_rfl⟩
theorem fnok56 : FnOK Tryz.prog 56 := ⟨_, Tryz.func56, by kernel_rfl, by kernel_rfl⟩
theorem fnok7 : FnOK Tryz.prog 7 := ⟨_, Tryz.func7, by kernel_rfl, by kernel_rfl⟩
theorem fnok32 : FnOK Tryz.prog 32 := ⟨_, Tryz.func32, by kernel_rfl, by kernel_rfl⟩
theorem sl25 : SliceOf Tryz.prog 25 4 := Tryz.underlying25
theorem ty4 : Ty Tryz.prog 4 Bool := ⟨⟨_, Tryz.underlying4, rfl⟩, by kernel_rfl⟩
theorem rk25 : RowOK Tryz.prog 25 4 Bool := ⟨sl25, ty4, by kernel_rfl⟩
theorem zo4 : ZeroOf Tryz.prog 4 false := ⟨[.bool false], by kernel_rfl, fun _ _ => rfl⟩
theorem fnok8 : FnOK Tryz.prog 8 := ⟨_, Tryz.func8, by kernel_rfl, by kernel_rfl⟩
theorem hz42 : HasZero Tryz.prog 42 := by unfold HasZero; kernel_rfl
theorem rk22 : RowOK Tryz.prog 22 42 DOp := ⟨sl22, ty42, by kernel_rfl⟩
theorem fnok33 : FnOK Tryz.prog 33 := ⟨_, Tryz.func33, by kernel_rfl, by kernel_rfl⟩
theorem fnok34 : FnOK Tryz.prog 34 := ⟨_, Tryz.func34, by kernel_rfl, by kernel_rfl⟩
theorem fnok35 : FnOK Tryz.prog 35 := ⟨_, Tryz.func35, by kernel_rfl, by kernel_rfl⟩
theorem mo61 : MapOf Tryz.prog 61 9 65 (MKey.desc Str) := ⟨Tryz.underlying61, Tryz.underlying9⟩
theorem zo65 : ZeroOf Tryz.prog 65 (GMap.nil : (GMap Str Str)) := ⟨[.map none], by kernel_rfl, fun _ _ => map_zero⟩
theorem zrawm65 : ZeroOf Tryz.prog 65 (⟨.map none⟩ : Raw) := ⟨[.map none], by kernel_rfl, fun _ _ => ⟨rfl, rfl, rfl⟩⟩
theorem mo65 : MapOf Tryz.prog 65 9 9 (MKey.desc Str) := ⟨Tryz.underlying65, Tryz.underlying9⟩
theorem fnok36 : FnOK Tryz.prog 36 := ⟨_, Tryz.func36, by kernel_rfl, by kernel_rfl⟩
theorem zvc_Thing_o1 : ∀ (M : MSet) (w : World), Rep.cells M (⟨Str.nil, ⟨.slice none 0 0⟩⟩ : Thing_o1) [.string ByteArray.empty, .slice none 0 0] w := fun _ _ => ⟨[_], _, rfl, str_zero, ⟨rfl, rfl, rfl⟩⟩
theorem sv_Thing_o1_0 : SetField Thing_o1 Str 0 (fun x z => { x with Id := z }) := ⟨by decide, fun M x z cs zs w h hz => (SetField.fst SetField.self).2 M _ z cs zs w h hz⟩
theorem bu75 : BuildAt Tryz.prog 75 [.string ByteArray.empty, .slice none 0 0] [(0, 1), (1, 1)] := ⟨by kernel_rfl, _, Tryz.underlying75, by kernel_rfl⟩
theorem zo75 : ZeroOf Tryz.prog 75 (⟨Str.nil, ([] : (List Attr))⟩ : Thing) := ⟨[.string ByteArray.empty, .slice none 0 0], by kernel_rfl, fun _ _ => ⟨[_], _, rfl, str_zero, ⟨none, 0, rfl, Nat.le_refl _, by decide, rfl⟩⟩⟩
theorem tyv_Thing_o1 : Ty Tryz.prog 75 Thing_o1 := ⟨⟨_, Tryz.underlying75, rfl⟩, by kernel_rfl⟩
theorem fd75_1 : FieldAt Tryz.prog 75 1 1 := ⟨_, _, Tryz.underlying75, rfl, rfl, by kernel_rfl⟩
theorem hfd75_1 : HasField Thing (List Attr) 1 Thing.Attrs := ⟨by decide, fun M x cs w h => (HasField.snd HasField.self).2 M _ cs w h⟩
theorem tr73 : Ty Tryz.prog 73 Raw := ⟨⟨_, Tryz.underlying73, rfl⟩, by kernel_rfl⟩
theorem hv_Thing_o1_1 : HasField Thing_o1 Raw 1 Thing_o1.Attrs := ⟨by decide, fun M x cs w h => (HasField.snd HasField.self).2 M _ cs w h⟩
theorem sv_Thing_o1_1 : SetField Thing_o1 Raw 1 (fun x z => { x with Attrs := z }) := ⟨by decide, fun M x z cs zs w h hz => (SetField.snd SetField.self).2 M _ z cs zs w h hz⟩
theorem sf78_1 : SetField Attr Str 1 (fun x z => { x with Value := z }) := ⟨by decide, fun M x z cs zs w h hz => (SetField.snd SetField.self).2 M _ z cs zs w h hz⟩
theorem sf78_0 : SetField Attr Str 0 (fun x z => { x with Field := z }) := ⟨by decide, fun M x z cs zs w h hz => (SetField.fst SetField.self).2 M _ z cs zs w h hz⟩
theorem bu78 : BuildAt Tryz.prog 78 [.string ByteArray.empty, .string ByteArray.empty] [(0, 1), (1, 1)] := ⟨by kernel_rfl, _, Tryz.underlying78, by kernel_rfl⟩
theorem zc78 : ∀ (M : MSet) (w : World), Rep.cells M (⟨Str.nil, Str.nil⟩ : Attr) [.string ByteArray.empty, .string ByteArray.empty] w := fun _ _ => ⟨[_], _, rfl, str_zero, str_zero⟩
theorem sl73 : SliceOf Tryz.prog 73 78 := Tryz.underlying73
theorem ty78 : Ty Tryz.prog 78 Attr := ⟨⟨_, Tryz.underlying78, rfl⟩, by kernel_rfl⟩
theorem hz78 : HasZero Tryz.prog 78 := by unfold HasZero; kernel_rfl
theorem rk73 : RowOK Tryz.prog 73 78 Attr := ⟨sl73, ty78, by kernel_rfl⟩
theorem ty73 : Ty Tryz.prog 73 (List Attr) := ⟨⟨_, Tryz.underlying73, rfl⟩, by kernel_rfl⟩
theorem fnok59 : FnOK Tryz.prog 59 := ⟨_, Tryz.func59, by kernel_rfl, by kernel_rfl⟩
theorem fnok60 : FnOK Tryz.prog 60 := ⟨_, Tryz.func60, by kernel_rfl, by kernel_rfl⟩
theorem ty75 : Ty Tryz.prog 75 Thing := ⟨⟨_, Tryz.underlying75, rfl⟩, by kernel_rfl⟩
theorem sl28 : SliceOf Tryz.prog 28 75 := Tryz.underlying28
theorem hz75 : HasZero Tryz.prog 75 := by unfold HasZero; kernel_rfl
theorem rk28 : RowOK Tryz.prog 28 75 Thing := ⟨sl28, ty75, by kernel_rfl⟩
theorem tyU75 : Ty Tryz.prog 75 (Str × SlV) := ⟨⟨_, Tryz.underlying75, rfl⟩, by kernel_rfl⟩
theorem fnok61 : FnOK Tryz.prog 61 := ⟨_, Tryz.func61, by kernel_rfl, by kernel_rfl⟩
theorem fnok62 : FnOK Tryz.prog 62 := ⟨_, Tryz.func62, by kernel_rfl, by kernel_rfl⟩
theorem fnok9 : FnOK Tryz.prog 9 := ⟨_, Tryz.func9, by kernel_rfl, by kernel_rfl⟩
theorem fnok11 : FnOK Tryz.prog 11 := ⟨_, Tryz.func11, by kernel_rfl, by kernel_rfl⟩
theorem fnok12 : FnOK Tryz.prog 12 := ⟨_, Tryz.func12, by kernel_rfl, by kernel_rfl⟩
theorem fnok10 : FnOK Tryz.prog 10 := ⟨_, Tryz.func10, by kernel_rfl, by kernel_rfl⟩
theorem fnok37 : FnOK Tryz.prog 37 := ⟨_, Tryz.func37, by kernel_rfl, by kernel_rfl⟩
theorem fnok14 : FnOK Tryz.prog 14 := ⟨_, Tryz.func14, by kernel_rfl, by kernel_rfl⟩
theorem fnok15 : FnOK Tryz.prog 15 := ⟨_, Tryz.func15, by kernel_rfl, by kernel_rfl⟩
theorem fnok39 : FnOK Tryz.prog 39 := ⟨_, Tryz.func39, by kernel_rfl, by kernel_rfl⟩
theorem mo60 : MapOf Tryz.prog 60 9 65 (MKey.desc Str) := ⟨Tryz.underlying60, Tryz.underlying9⟩
theorem fnok41 : FnOK Tryz.prog 41 := ⟨_, Tryz.func41, by kernel_rfl, by kernel_rfl⟩
theorem fnok65 : FnOK Tryz.prog 65 := ⟨_, Tryz.func65, by kernel_rfl, by kernel_rfl⟩
theorem fnok64 : FnOK Tryz.prog 64 := ⟨_, Tryz.func64, by kernel_rfl, by kernel_rfl⟩
theorem fnok96 : FnOK Tryz.prog 96 := ⟨_, Tryz.func96, by kernel_rfl, by kernel_rfl⟩
theorem fnok95 : FnOK Tryz.prog 95 := ⟨_, Tryz.func95, by kernel_rfl, by kernel_rfl⟩
theorem sl93 : SliceOf Tryz.prog 93 9 := Tryz.underlying93
theorem fnok66 : FnOK Tryz.prog 66 := ⟨_, Tryz.func66, by kernel_rfl, by kernel_rfl⟩
theorem fnok97 : FnOK Tryz.prog 97 := ⟨_, Tryz.func97, by kernel_rfl, by kernel_rfl⟩
theorem zo9 : ZeroOf Tryz.prog 9 Str.nil := ⟨[.string ByteArray.empty], by kernel_rfl, fun _ _ => str_zero⟩
theorem fnok13 : FnOK Tryz.prog 13 := ⟨_, Tryz.func13, by kernel_rfl, by kernel_rfl⟩
theorem fnok38 : FnOK Tryz.prog 38 := ⟨_, Tryz.func38, by kernel_rfl, by kernel_rfl⟩
theorem fnok48 : FnOK Tryz.prog 48 := ⟨_, Tryz.func48, by kernel_rfl, by kernel_rfl⟩
theorem fnok63 : FnOK Tryz.prog 63 := ⟨_, Tryz.func63, by kernel_rfl, by kernel_rfl⟩
theorem fd75_0 : FieldAt Tryz.prog 75 0 0 := ⟨_, _, Tryz.underlying75, rfl, rfl, by kernel_rfl⟩
theorem hfd75_0 : HasField Thing Str 0 Thing.Id := ⟨by decide, fun M x cs w h => (HasField.fst HasField.self).2 M _ cs w h⟩
theorem fnok50 : FnOK Tryz.prog 50 := ⟨_, Tryz.func50, by kernel_rfl, by kernel_rfl⟩
theorem hfd78_1 : HasField Attr Str 1 Attr.Value := ⟨by decide, fun M x cs w h => (HasField.snd HasField.self).2 M _ cs w h⟩
theorem hfd78_0 : HasField Attr Str 0 Attr.Field := ⟨by decide, fun M x cs w h => (HasField.fst HasField.self).2 M _ cs w h⟩
theorem eqi78 : EqIn Tryz.prog 78 Attr 2 := eqIn_struct Tryz.underlying78 (by kernel_rfl) (.cons (proj := Attr.Field) rfl hfd78_0 ty9 (eqIn_str Tryz.underlying9) (.cons (proj := Attr.Value) rfl hfd78_1 ty9 (eqIn_str Tryz.underlying9) .nil)) (fun x y => by rw [Bool.eq_iff_iff]; cases x; cases y; simp only [Bool.and_eq_true, decide_eq_true_eq, and_true, Attr.mk.injEq]) rfl
theorem eqa78 : DB.EqAt Tryz.prog 78 Attr := eqAt_in eqi78 (by kernel_rfl) (by kernel_rfl) rfl

end Go.Proofs.YtlkebjlooppdlaaGreatDoor
