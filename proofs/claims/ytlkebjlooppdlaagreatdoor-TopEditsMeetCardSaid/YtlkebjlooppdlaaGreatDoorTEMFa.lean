/-
  Closed facts on the program.
-/
import Derived.Test.YtlkebjlooppdlaaGreatDoorRows
import Derived.Test.YtlkebjlooppdlaaGreatDoorTEMLi1
set_option maxRecDepth 100000
set_option linter.unusedSimpArgs false
set_option linter.unusedVariables false
namespace Go.Proofs.YtlkebjlooppdlaaGreatDoor
open Go Go.DB Go.RowKit

theorem mixed : Tryz.prog.follows .mixedOrders = true := by kernel_rfl
theorem mx : Tryz.prog.follows .mixedOrders = true := mixed
def validStr_ren : Shelf.Ren where
  f := fun x => match x with | 196 => 74 | 259 => 103 | n => n
  t := fun x => match x with | 9 => 9 | 4 => 4 | 3 => 3 | 5 => 5 | 12 => 12 | 119 => 132 | 0 => 0 | 46 => 88 | 139 => 135 | 138 => 134 | 53 => 125 | n => n
  g := fun x => match x with | 3 => 1 | 4 => 2 | n => n
theorem validStr_lay : Lays.n196 Tryz.prog validStr_ren where
  mixed := by kernel_rfl
  f196 := Tryz.func74.trans (by kernel_rfl)
  f259 := Tryz.func103.trans (by kernel_rfl)
  t0 := Tryz.underlying0
  a0 := Tryz.isAgg0
  z0 := Tryz.sizeOf0
  v0 := Tryz.zeroValue0
  t3 := Tryz.underlying3
  a3 := Tryz.isAgg3
  z3 := Tryz.sizeOf3
  v3 := Tryz.zeroValue3
  t4 := Tryz.underlying4
  a4 := Tryz.isAgg4
  z4 := Tryz.sizeOf4
  v4 := Tryz.zeroValue4
  t5 := Tryz.underlying5
  a5 := Tryz.isAgg5
  z5 := Tryz.sizeOf5
  v5 := Tryz.zeroValue5
  t9 := Tryz.underlying9
  a9 := Tryz.isAgg9
  z9 := Tryz.sizeOf9
  v9 := Tryz.zeroValue9
  t12 := Tryz.underlying12
  a12 := Tryz.isAgg12
  z12 := Tryz.sizeOf12
  v12 := Tryz.zeroValue12
  t46 := Tryz.underlying88
  a46 := Tryz.isAgg88
  z46 := Tryz.sizeOf88
  v46 := Tryz.zeroValue88
  t53 := Tryz.underlying125
  a53 := Tryz.isAgg125
  z53 := Tryz.sizeOf125
  v53 := Tryz.zeroValue125
  t119 := Tryz.underlying132
  a119 := Tryz.isAgg132
  z119 := Tryz.sizeOf132
  t138 := Tryz.underlying134
  a138 := Tryz.isAgg134
  z138 := Tryz.sizeOf134
  v138 := Tryz.zeroValue134
  t139 := Tryz.underlying135
  a139 := Tryz.isAgg135
  z139 := Tryz.sizeOf135
  v139 := Tryz.zeroValue135
  g3 := by kernel_rfl
  g4 := by kernel_rfl

def trimStr_ren : Shelf.Ren where
  f := fun x => match x with | 160 => 55 | 232 => 76 | 231 => 75 | 227 => 77 | 234 => 79 | 233 => 78 | 236 => 81 | 235 => 80 | 228 => 104 | 271 => 107 | 151 => 106 | 197 => 105 | 120 => 136 | 152 => 135 | 260 => 134 | 137 => 155 | 119 => 156 | 224 => 157 | 225 => 158 | 217 => 166 | 266 => 168 | n => n
  t := fun x => match x with | 9 => 9 | 4 => 4 | 3 => 3 | 5 => 5 | 117 => 110 | 116 => 109 | 0 => 0 | 124 => 113 | 21 => 21 | 105 => 137 | 46 => 88 | 119 => 132 | 139 => 135 | 138 => 134 | n => n
  g := fun x => match x with | 3 => 1 | 4 => 2 | n => n
theorem trimStr_lay : Lays.n160 Tryz.prog trimStr_ren where
  mixed := by kernel_rfl
  f119 := Tryz.func156.trans (by kernel_rfl)
  f120 := Tryz.func136.trans (by kernel_rfl)
  f137 := Tryz.func155.trans (by kernel_rfl)
  f151 := Tryz.func106.trans (by kernel_rfl)
  f152 := Tryz.func135.trans (by kernel_rfl)
  f160 := Tryz.func55.trans (by kernel_rfl)
  f197 := Tryz.func105.trans (by kernel_rfl)
  f217 := Tryz.func166.trans (by kernel_rfl)
  f224 := Tryz.func157.trans (by kernel_rfl)
  f225 := Tryz.func158.trans (by kernel_rfl)
  f227 := Tryz.func77.trans (by kernel_rfl)
  f228 := Tryz.func104.trans (by kernel_rfl)
  f231 := Tryz.func75.trans (by kernel_rfl)
  f232 := Tryz.func76.trans (by kernel_rfl)
  f233 := Tryz.func78.trans (by kernel_rfl)
  f234 := Tryz.func79.trans (by kernel_rfl)
  f235 := Tryz.func80.trans (by kernel_rfl)
  f236 := Tryz.func81.trans (by kernel_rfl)
  f260 := Tryz.func134.trans (by kernel_rfl)
  f266 := Tryz.func168.trans (by kernel_rfl)
  f271 := Tryz.func107.trans (by kernel_rfl)
  t0 := Tryz.underlying0
  a0 := Tryz.isAgg0
  z0 := Tryz.sizeOf0
  v0 := Tryz.zeroValue0
  t3 := Tryz.underlying3
  a3 := Tryz.isAgg3
  z3 := Tryz.sizeOf3
  v3 := Tryz.zeroValue3
  t4 := Tryz.underlying4
  a4 := Tryz.isAgg4
  z4 := Tryz.sizeOf4
  v4 := Tryz.zeroValue4
  t5 := Tryz.underlying5
  a5 := Tryz.isAgg5
  z5 := Tryz.sizeOf5
  v5 := Tryz.zeroValue5
  t9 := Tryz.underlying9
  a9 := Tryz.isAgg9
  z9 := Tryz.sizeOf9
  v9 := Tryz.zeroValue9
  t21 := Tryz.underlying21
  a21 := Tryz.isAgg21
  z21 := Tryz.sizeOf21
  v21 := Tryz.zeroValue21
  t46 := Tryz.underlying88
  a46 := Tryz.isAgg88
  z46 := Tryz.sizeOf88
  v46 := Tryz.zeroValue88
  t105 := Tryz.underlying137
  a105 := Tryz.isAgg137
  z105 := Tryz.sizeOf137
  v105 := Tryz.zeroValue137
  t116 := Tryz.underlying109
  a116 := Tryz.isAgg109
  z116 := Tryz.sizeOf109
  t117 := Tryz.underlying110
  a117 := Tryz.isAgg110
  z117 := Tryz.sizeOf110
  v117 := Tryz.zeroValue110
  t119 := Tryz.underlying132
  a119 := Tryz.isAgg132
  z119 := Tryz.sizeOf132
  t124 := Tryz.underlying113
  a124 := Tryz.isAgg113
  z124 := Tryz.sizeOf113
  v124 := Tryz.zeroValue113
  t138 := Tryz.underlying134
  a138 := Tryz.isAgg134
  z138 := Tryz.sizeOf134
  v138 := Tryz.zeroValue134
  t139 := Tryz.underlying135
  a139 := Tryz.isAgg135
  z139 := Tryz.sizeOf135
  v139 := Tryz.zeroValue135
  g3 := by kernel_rfl
  g4 := by kernel_rfl

def compareStr_ren : Shelf.Ren where
  f := fun x => match x with | 106 => 52 | 213 => 72 | 265 => 102 | n => n
  t := fun x => match x with | 9 => 9 | 3 => 3 | n => n
  g := fun n => n
theorem compareStr_lay : Lays.n106 Tryz.prog compareStr_ren where
  mixed := by kernel_rfl
  f106 := Tryz.func52.trans (by kernel_rfl)
  f213 := Tryz.func72.trans (by kernel_rfl)
  f265 := Tryz.func102.trans (by kernel_rfl)
  t3 := Tryz.underlying3
  a3 := Tryz.isAgg3
  z3 := Tryz.sizeOf3
  v3 := Tryz.zeroValue3
  t9 := Tryz.underlying9
  a9 := Tryz.isAgg9
  z9 := Tryz.sizeOf9
  v9 := Tryz.zeroValue9

def growNil42_ren : Shelf.Ren where
  f := fun x => match x with | 4 => 67 | n => n
  t := fun x => match x with | 22 => 22 | 25 => 42 | 3 => 3 | 4 => 4 | 9 => 9 | 20 => 20 | 0 => 0 | n => n
  g := fun n => n
theorem growNil42_lay : Lays8.n4 Tryz.prog growNil42_ren where
  mixed := by kernel_rfl
  f4 := ⟨ "slices.Grow[[]drawboard/api.Op,drawboard/api.Op]", of_decide_eq_true (by kernel_rfl), Tryz.func67.trans (by kernel_rfl)⟩
  t0 := Tryz.underlying0
  a0 := Tryz.isAgg0
  z0 := Tryz.sizeOf0
  v0 := Tryz.zeroValue0
  t3 := Tryz.underlying3
  a3 := Tryz.isAgg3
  z3 := Tryz.sizeOf3
  v3 := Tryz.zeroValue3
  t4 := Tryz.underlying4
  a4 := Tryz.isAgg4
  z4 := Tryz.sizeOf4
  v4 := Tryz.zeroValue4
  t9 := Tryz.underlying9
  a9 := Tryz.isAgg9
  z9 := Tryz.sizeOf9
  v9 := Tryz.zeroValue9
  t20 := Tryz.underlying20
  a20 := Tryz.isAgg20
  z20 := Tryz.sizeOf20
  v20 := Tryz.zeroValue20
  t22 := Tryz.underlying22
  a22 := Tryz.isAgg22
  z22 := Tryz.sizeOf22
  v22 := Tryz.zeroValue22

theorem nanI_ok (a : Int) (w : World) : Calls Tryz.prog 73 #[.int .i64 a] w fun e w' => e = .returned (.bool false) ∧ w' = w := by
  go_enter Tryz.func73, Tryz.ntmps73
  go_wp2
  go_ret
  exact ⟨rfl, rfl⟩
theorem cmpI_ok (a b : Int) (w : World) : Calls Tryz.prog 53 #[.int .i64 a, .int .i64 b] w fun e w' => e = .returned (.int .i64 (if a < b then -1 else if b < a then 1 else 0)) ∧ w' = w := by
  go_enter Tryz.func53, Tryz.ntmps53
  go_wp2_with (go_at_call 73; refine (nanI_ok _ _).mono ?_; rintro e w' ⟨rfl, rfl⟩)
  all_goals go_ret
  all_goals exact ⟨by simp_all, rfl⟩

theorem orJ_at (b c : Nat) (x y r : Int) (w : World) (hr1 : x ≠ 0 → r = x) (hr2 : x = 0 → r = y) (hx : w.cell? ⟨b, 0, none⟩ = some (.int .i64 x)) (hy : w.cell? ⟨b, 1, none⟩ = some (.int .i64 y)) :
    Calls Tryz.prog 51 #[.slice (some ⟨b, 0, none⟩) 2 c] w fun e w' => e = .returned (.int .i64 r) ∧ w' = w := by
  go_enter Tryz.func51, Tryz.ntmps51
  go_wp2
  go_loop [5, 8] (fun _ i => ∃ k : Nat, k ≤ 2 ∧ i = .int .i64 k ∧ (0 < k → x = 0) ∧ (1 < k → y = 0)) (fun _ i => match i with | .int _ m => 2 - m.toNat | _ => 0)
  case atStart => exact ⟨0, by omega, rfl, fun h => absurd h (by omega), fun h => absurd h (by omega)⟩
  case round =>
    obtain ⟨k, hk, rfl, h0, h1⟩ := hrel
    have hcell : ∃ z, ((k : Int) < 2 → w.cell? ⟨b, k, none⟩ = some (.int .i64 z)) ∧ (k = 0 → z = x) ∧ (k = 1 → z = y) := by
      refine ⟨if k = 0 then x else y, fun h => ?_, fun h => if_pos h, fun h => if_neg (by omega)⟩
      by_cases e : k = 0
      · rw [e, hx, if_pos rfl]
      · obtain rfl : k = 1 := by omega
        rw [hy, if_neg e]
    obtain ⟨z, hz, hz0, hz1⟩ := hcell
    go_wp2
    · have hlt : (k : Int) < 2 := by assumption
      have hne : (z != 0) = true := by assumption
      have hne' : z ≠ 0 := by simpa using hne
      go_ret
      refine ⟨?_, rfl⟩
      show Ending.returned (.int .i64 z) = .returned (.int .i64 r)
      congr 2
      by_cases e : k = 0
      · rw [hz0 e] at hne' ⊢; exact (hr1 hne').symm
      · rw [hz1 (by omega)]; exact (hr2 (h0 (by omega))).symm
    · have hlt : (k : Int) < 2 := by assumption
      have hne : (z != 0) = false := by assumption
      have hne' : z = 0 := by simpa using hne
      refine ⟨⟨k + 1, by omega, by push_cast; rfl, fun _ => ?_, fun h => ?_⟩, by show 2 - ((k : Int) + 1).toNat < 2 - (k : Int).toNat; omega⟩
      · by_cases e : k = 0
        · rw [← hz0 e]; exact hne'
        · exact h0 (by omega)
      · rw [← hz1 (by omega)]; exact hne'
    · have hge : 2 ≤ (k : Int) := by assumption
      go_ret
      refine ⟨?_, rfl⟩
      show Ending.returned (.int .i64 0) = .returned (.int .i64 r)
      rw [hr2 (h0 (by omega)), h1 (by omega)]
theorem pair_cells (w : World) (x y : Value) (t : TypeId) : (w.alloc (.cells #[x, y] t)).cell? ⟨w.heap.size, 0, none⟩ = some x ∧ (w.alloc (.cells #[x, y] t)).cell? ⟨w.heap.size, 1, none⟩ = some y := by constructor <;> go_simp

theorem drewN_grow (w : World) (os : Array Obj) (n : Nat) : (Go.Sort.grow w os).drewN n = Go.Sort.grow (w.drewN n) os := rfl
theorem pair_at {w : World} {x y : Value} {t : TypeId} {b : Nat} (hb : b = w.heap.size) : (w.alloc (.cells #[x, y] t)).cell? ⟨b, 0, none⟩ = some x ∧ (w.alloc (.cells #[x, y] t)).cell? ⟨b, 1, none⟩ = some y := by subst hb; exact pair_cells _ _ _ _
theorem orderE_at (a1 a3 a4 a8 b1 b3 b4 b8 r : Int) (a2 a5 a6 a7 b2 b5 b6 b7 : Str) (w0 : World) (hr1 : Lib.compareBytes a2.b b2.b ≠ 0 → r = Lib.compareBytes a2.b b2.b) (hr2 : Lib.compareBytes a2.b b2.b = 0 → r = if a3 < b3 then (-1 : Int) else if b3 < a3 then 1 else 0) :
    Calls Tryz.prog 30 #[.agg #[.int .i64 a1, .string ⟨a2.b.toArray⟩, .int .i64 a3, .int .i64 a4, .string ⟨a5.b.toArray⟩, .string ⟨a6.b.toArray⟩, .string ⟨a7.b.toArray⟩, .int .i64 a8], .agg #[.int .i64 b1, .string ⟨b2.b.toArray⟩, .int .i64 b3, .int .i64 b4, .string ⟨b5.b.toArray⟩, .string ⟨b6.b.toArray⟩, .string ⟨b7.b.toArray⟩, .int .i64 b8]] w0 fun e w' => e = .returned (.int .i64 r) ∧ ∃ q os', w' = Go.Sort.grow (w0.drewN q) os' := by
  go_enter Tryz.func30, Tryz.ntmps30
  go_wp2
  obtain ⟨w1, hw1⟩ : ∃ w1, w1 = (w0.alloc (.cells #[.int .i64 a1, .string ⟨a2.b.toArray⟩, .int .i64 a3, .int .i64 a4, .string ⟨a5.b.toArray⟩, .string ⟨a6.b.toArray⟩, .string ⟨a7.b.toArray⟩, .int .i64 a8] 42)).alloc (.cells #[.int .i64 b1, .string ⟨b2.b.toArray⟩, .int .i64 b3, .int .i64 b4, .string ⟨b5.b.toArray⟩, .string ⟨b6.b.toArray⟩, .string ⟨b7.b.toArray⟩, .int .i64 b8] 42) := ⟨_, rfl⟩
  rw [← hw1]
  have k1 : w1.drew.cell? ⟨w0.heap.size, 1, none⟩ = some (.string ⟨a2.b.toArray⟩) := by rw [hw1]; go_simp
  have k2 : w1.drew.cell? ⟨w0.heap.size, 2, none⟩ = some (.int .i64 a3) := by rw [hw1]; go_simp
  have k3 : w1.drew.cell? ⟨w0.heap.size + 1, 1, none⟩ = some (.string ⟨b2.b.toArray⟩) := by rw [hw1]; go_simp
  have k4 : w1.drew.cell? ⟨w0.heap.size + 1, 2, none⟩ = some (.int .i64 b3) := by rw [hw1]; go_simp
  refine wp_region_still_tail 14 (by kernel_rfl) (by kernel_rfl) ?_
  change wpStill _ _ w1.drew (fun a' => wpList _ _ _ _ a' w1.drew) _ _
  generalize hw2 : w1.drew = w2 at *
  simp only [List.take_succ_cons, List.take_zero, List.drop_succ_cons, List.drop_zero]
  repeat still_step
  still_call (Proofs.Any.strings_Compare compareStr_lay _ _ _)
  repeat still_step
  still_call (cmpI_ok _ _ _)
  refine wpStill_nil ?_
  generalize hcc : (if a3 < b3 then (-1 : Int) else if b3 < a3 then 1 else 0) = cc
  go_wp2_with (go_at_call 51; refine Calls.mono (orJ_at _ _ _ _ r _ hr1 (fun h => (hr2 h).trans hcc) (pair_cells _ _ _ _).1 (pair_cells _ _ _ _).2) ?_; rintro e w' ⟨rfl, rfl⟩)
  go_ret
  exact ⟨rfl, 1, _, by rw [Go.Sort.alloc_eq_grow, ← hw2, hw1, Go.Sort.alloc_eq_grow, Go.Sort.alloc_eq_grow, Go.Sort.grow_grow, Go.Sort.drew_grow, Go.Sort.grow_grow]; rfl⟩
set_option maxHeartbeats 4000000 in
theorem laterE_at (a1 a3 a4 a8 b1 b3 b4 b8 r c : Int) (a2 a5 a6 a7 b2 b5 b6 b7 : Str) (w0 : World) (hc1 : Lib.compareBytes a2.b b2.b ≠ 0 → c = Lib.compareBytes a2.b b2.b) (hc2 : Lib.compareBytes a2.b b2.b = 0 → c = if a3 < b3 then (-1 : Int) else if b3 < a3 then 1 else 0)
    (hr1 : (if a1 < b1 then (-1 : Int) else if b1 < a1 then 1 else 0) ≠ 0 → r = if a1 < b1 then (-1 : Int) else if b1 < a1 then 1 else 0) (hr2 : (if a1 < b1 then (-1 : Int) else if b1 < a1 then 1 else 0) = 0 → r = c) :
    Calls Tryz.prog 34 #[.agg #[.int .i64 a1, .string ⟨a2.b.toArray⟩, .int .i64 a3, .int .i64 a4, .string ⟨a5.b.toArray⟩, .string ⟨a6.b.toArray⟩, .string ⟨a7.b.toArray⟩, .int .i64 a8], .agg #[.int .i64 b1, .string ⟨b2.b.toArray⟩, .int .i64 b3, .int .i64 b4, .string ⟨b5.b.toArray⟩, .string ⟨b6.b.toArray⟩, .string ⟨b7.b.toArray⟩, .int .i64 b8]] w0 fun e w' => e = .returned (.int .i64 r) ∧ ∃ q os', w' = Go.Sort.grow (w0.drewN q) os' := by
  go_enter Tryz.func34, Tryz.ntmps34
  go_wp2
  obtain ⟨w1, hw1⟩ : ∃ w1, w1 = (w0.alloc (.cells #[.int .i64 a1, .string ⟨a2.b.toArray⟩, .int .i64 a3, .int .i64 a4, .string ⟨a5.b.toArray⟩, .string ⟨a6.b.toArray⟩, .string ⟨a7.b.toArray⟩, .int .i64 a8] 42)).alloc (.cells #[.int .i64 b1, .string ⟨b2.b.toArray⟩, .int .i64 b3, .int .i64 b4, .string ⟨b5.b.toArray⟩, .string ⟨b6.b.toArray⟩, .string ⟨b7.b.toArray⟩, .int .i64 b8] 42) := ⟨_, rfl⟩
  rw [← hw1]
  have k2 : w1.drew.cell? ⟨w0.heap.size, 0, none⟩ = some (.int .i64 a1) := by rw [hw1]; go_simp
  have k4 : w1.drew.cell? ⟨w0.heap.size + 1, 0, none⟩ = some (.int .i64 b1) := by rw [hw1]; go_simp
  refine wp_region_still_tail 9 (by kernel_rfl) (by kernel_rfl) ?_
  change wpStill _ _ w1.drew (fun a' => wpList _ _ _ _ a' w1.drew) _ _
  simp only [List.take_succ_cons, List.take_zero, List.drop_succ_cons, List.drop_zero]
  repeat still_step
  still_call (cmpI_ok _ _ _)
  repeat still_step
  refine wpStill_nil ?_
  generalize hcc : (if a1 < b1 then (-1 : Int) else if b1 < a1 then 1 else 0) = cc at *
  have hsz : ∀ (os1 : Array Obj) (q1 : Nat), w0.heap.size + 1 + 1 + os1.size = (Go.Sort.grow (((w0.alloc (.cells #[.int .i64 a1, .string ⟨a2.b.toArray⟩, .int .i64 a3, .int .i64 a4, .string ⟨a5.b.toArray⟩, .string ⟨a6.b.toArray⟩, .string ⟨a7.b.toArray⟩, .int .i64 a8] 42)).alloc (.cells #[.int .i64 b1, .string ⟨b2.b.toArray⟩, .int .i64 b3, .int .i64 b4, .string ⟨b5.b.toArray⟩, .string ⟨b6.b.toArray⟩, .string ⟨b7.b.toArray⟩, .int .i64 b8] 42)).drewN (1 + q1)) os1).heap.size := fun os1 q1 => by
    rw [Go.Sort.size_grow]
    show _ = (((w0.alloc (.cells #[.int .i64 a1, .string ⟨a2.b.toArray⟩, .int .i64 a3, .int .i64 a4, .string ⟨a5.b.toArray⟩, .string ⟨a6.b.toArray⟩, .string ⟨a7.b.toArray⟩, .int .i64 a8] 42)).alloc (.cells #[.int .i64 b1, .string ⟨b2.b.toArray⟩, .int .i64 b3, .int .i64 b4, .string ⟨b5.b.toArray⟩, .string ⟨b6.b.toArray⟩, .string ⟨b7.b.toArray⟩, .int .i64 b8] 42))).heap.size + os1.size
    rw [size_new, size_new]
  go_wp2_with (first
    | (go_at_call 30; refine Calls.mono (orderE_at a1 a3 a4 a8 b1 b3 b4 b8 c a2 a5 a6 a7 b2 b5 b6 b7 _ hc1 hc2) ?_; rintro e w' ⟨rfl, q1, os1, rfl⟩)
    | (go_at_call 51; refine Calls.mono (orJ_at _ _ cc c r _ hr1 hr2 (pair_at (hsz _ _)).1 (pair_at (hsz _ _)).2) ?_; rintro e w' ⟨rfl, rfl⟩))
  go_ret
  exact ⟨rfl, 1 + q1, _, by rw [Go.Sort.alloc_eq_grow, Go.Sort.alloc_eq_grow, Go.Sort.alloc_eq_grow, drewN_grow, drewN_grow, Go.Sort.grow_grow, Go.Sort.grow_grow, Go.Sort.grow_grow]⟩

def sortF42_ren : Shelf.Ren where
  f := fun x => match x with | 6 => 33 | 15 => 58 | 14 => 57 | 28 => 90 | 29 => 91 | 20 => 82 | 21 => 83 | 22 => 84 | 23 => 85 | 24 => 86 | 25 => 87 | 26 => 88 | 27 => 89 | 46 => 108 | 47 => 109 | 48 => 110 | 49 => 111 | 50 => 112 | 57 => 137 | n => n
  t := fun x => match x with | 22 => 22 | 24 => 42 | 25 => 53 | 3 => 3 | 39 => 88 | 0 => 0 | 53 => 123 | 55 => 125 | 4 => 4 | 46 => 116 | 45 => 115 | 50 => 120 | 5 => 5 | 9 => 9 | 66 => 140 | 70 => 144 | 76 => 160 | 77 => 161 | n => n
  g := fun n => n
theorem sortF42_lay : SlLaysF0.n6 Tryz.prog sortF42_ren where
  mixed := by kernel_rfl
  f6 := ⟨ "slices.SortFunc[[]drawboard/api.Op,drawboard/api.Op]", of_decide_eq_true (by kernel_rfl), Tryz.func33.trans (by kernel_rfl)⟩
  f14 := ⟨ "slices.pdqsortCmpFunc[drawboard/api.Op]", of_decide_eq_true (by kernel_rfl), Tryz.func57.trans (by kernel_rfl)⟩
  f15 := Tryz.func58.trans (by kernel_rfl)
  f20 := ⟨ "slices.insertionSortCmpFunc[drawboard/api.Op]", of_decide_eq_true (by kernel_rfl), Tryz.func82.trans (by kernel_rfl)⟩
  f21 := ⟨ "slices.heapSortCmpFunc[drawboard/api.Op]", of_decide_eq_true (by kernel_rfl), Tryz.func83.trans (by kernel_rfl)⟩
  f22 := ⟨ "slices.breakPatternsCmpFunc[drawboard/api.Op]", of_decide_eq_true (by kernel_rfl), Tryz.func84.trans (by kernel_rfl)⟩
  f23 := ⟨ "slices.choosePivotCmpFunc[drawboard/api.Op]", of_decide_eq_true (by kernel_rfl), Tryz.func85.trans (by kernel_rfl)⟩
  f24 := ⟨ "slices.reverseRangeCmpFunc[drawboard/api.Op]", of_decide_eq_true (by kernel_rfl), Tryz.func86.trans (by kernel_rfl)⟩
  f25 := ⟨ "slices.partialInsertionSortCmpFunc[drawboard/api.Op]", of_decide_eq_true (by kernel_rfl), Tryz.func87.trans (by kernel_rfl)⟩
  f26 := ⟨ "slices.partitionEqualCmpFunc[drawboard/api.Op]", of_decide_eq_true (by kernel_rfl), Tryz.func88.trans (by kernel_rfl)⟩
  f27 := ⟨ "slices.partitionCmpFunc[drawboard/api.Op]", of_decide_eq_true (by kernel_rfl), Tryz.func89.trans (by kernel_rfl)⟩
  f28 := Tryz.func90.trans (by kernel_rfl)
  f29 := Tryz.func91.trans (by kernel_rfl)
  f46 := ⟨ "slices.siftDownCmpFunc[drawboard/api.Op]", of_decide_eq_true (by kernel_rfl), Tryz.func108.trans (by kernel_rfl)⟩
  f47 := Tryz.func109.trans (by kernel_rfl)
  f48 := Tryz.func110.trans (by kernel_rfl)
  f49 := ⟨ "slices.medianAdjacentCmpFunc[drawboard/api.Op]", of_decide_eq_true (by kernel_rfl), Tryz.func111.trans (by kernel_rfl)⟩
  f50 := ⟨ "slices.medianCmpFunc[drawboard/api.Op]", of_decide_eq_true (by kernel_rfl), Tryz.func112.trans (by kernel_rfl)⟩
  f57 := ⟨ "slices.order2CmpFunc[drawboard/api.Op]", of_decide_eq_true (by kernel_rfl), Tryz.func137.trans (by kernel_rfl)⟩
  t0 := Tryz.underlying0
  a0 := Tryz.isAgg0
  z0 := Tryz.sizeOf0
  v0 := Tryz.zeroValue0
  t3 := Tryz.underlying3
  a3 := Tryz.isAgg3
  z3 := Tryz.sizeOf3
  v3 := Tryz.zeroValue3
  t4 := Tryz.underlying4
  a4 := Tryz.isAgg4
  z4 := Tryz.sizeOf4
  v4 := Tryz.zeroValue4
  t5 := Tryz.underlying5
  a5 := Tryz.isAgg5
  z5 := Tryz.sizeOf5
  v5 := Tryz.zeroValue5
  t9 := Tryz.underlying9
  a9 := Tryz.isAgg9
  z9 := Tryz.sizeOf9
  v9 := Tryz.zeroValue9
  t22 := Tryz.underlying22
  a22 := Tryz.isAgg22
  z22 := Tryz.sizeOf22
  v22 := Tryz.zeroValue22
  t25 := Tryz.underlying53
  a25 := Tryz.isAgg53
  z25 := Tryz.sizeOf53
  v25 := Tryz.zeroValue53
  t39 := Tryz.underlying88
  a39 := Tryz.isAgg88
  z39 := Tryz.sizeOf88
  v39 := Tryz.zeroValue88
  t45 := Tryz.underlying115
  a45 := Tryz.isAgg115
  z45 := Tryz.sizeOf115
  v45 := Tryz.zeroValue115
  t46 := Tryz.underlying116
  a46 := Tryz.isAgg116
  z46 := Tryz.sizeOf116
  v46 := Tryz.zeroValue116
  t50 := Tryz.underlying120
  a50 := Tryz.isAgg120
  z50 := Tryz.sizeOf120
  v50 := Tryz.zeroValue120
  t53 := Tryz.underlying123
  a53 := Tryz.isAgg123
  z53 := Tryz.sizeOf123
  v53 := Tryz.zeroValue123
  t55 := Tryz.underlying125
  a55 := Tryz.isAgg125
  z55 := Tryz.sizeOf125
  v55 := Tryz.zeroValue125
  t66 := Tryz.underlying140
  a66 := Tryz.isAgg140
  z66 := Tryz.sizeOf140
  v66 := Tryz.zeroValue140
  t70 := Tryz.underlying144
  a70 := Tryz.isAgg144
  z70 := Tryz.sizeOf144
  v70 := Tryz.zeroValue144
  t76 := Tryz.underlying160
  a76 := Tryz.isAgg160
  z76 := Tryz.sizeOf160
  v76 := Tryz.zeroValue160
  t77 := Tryz.underlying161
  a77 := Tryz.isAgg161
  z77 := Tryz.sizeOf161
  v77 := Tryz.zeroValue161

def sortF78_ren : Shelf.Ren where
  f := fun x => match x with | 6 => 59 | 15 => 58 | 14 => 92 | 28 => 90 | 29 => 91 | 20 => 113 | 21 => 114 | 22 => 115 | 23 => 116 | 24 => 117 | 25 => 118 | 26 => 119 | 27 => 120 | 46 => 138 | 47 => 109 | 48 => 110 | 49 => 139 | 50 => 140 | 57 => 159 | n => n
  t := fun x => match x with | 22 => 73 | 24 => 78 | 25 => 90 | 3 => 3 | 39 => 88 | 0 => 0 | 53 => 123 | 55 => 125 | 4 => 4 | 46 => 116 | 45 => 115 | 50 => 120 | 5 => 5 | 9 => 9 | 66 => 140 | 70 => 144 | 76 => 160 | 77 => 161 | n => n
  g := fun n => n
theorem sortF78_lay : SlLaysF0.n6 Tryz.prog sortF78_ren where
  mixed := by kernel_rfl
  f6 := ⟨ "slices.SortFunc[[]drawboard/api.Attr,drawboard/api.Attr]", of_decide_eq_true (by kernel_rfl), Tryz.func59.trans (by kernel_rfl)⟩
  f14 := ⟨ "slices.pdqsortCmpFunc[drawboard/api.Attr]", of_decide_eq_true (by kernel_rfl), Tryz.func92.trans (by kernel_rfl)⟩
  f15 := Tryz.func58.trans (by kernel_rfl)
  f20 := ⟨ "slices.insertionSortCmpFunc[drawboard/api.Attr]", of_decide_eq_true (by kernel_rfl), Tryz.func113.trans (by kernel_rfl)⟩
  f21 := ⟨ "slices.heapSortCmpFunc[drawboard/api.Attr]", of_decide_eq_true (by kernel_rfl), Tryz.func114.trans (by kernel_rfl)⟩
  f22 := ⟨ "slices.breakPatternsCmpFunc[drawboard/api.Attr]", of_decide_eq_true (by kernel_rfl), Tryz.func115.trans (by kernel_rfl)⟩
  f23 := ⟨ "slices.choosePivotCmpFunc[drawboard/api.Attr]", of_decide_eq_true (by kernel_rfl), Tryz.func116.trans (by kernel_rfl)⟩
  f24 := ⟨ "slices.reverseRangeCmpFunc[drawboard/api.Attr]", of_decide_eq_true (by kernel_rfl), Tryz.func117.trans (by kernel_rfl)⟩
  f25 := ⟨ "slices.partialInsertionSortCmpFunc[drawboard/api.Attr]", of_decide_eq_true (by kernel_rfl), Tryz.func118.trans (by kernel_rfl)⟩
  f26 := ⟨ "slices.partitionEqualCmpFunc[drawboard/api.Attr]", of_decide_eq_true (by kernel_rfl), Tryz.func119.trans (by kernel_rfl)⟩
  f27 := ⟨ "slices.partitionCmpFunc[drawboard/api.Attr]", of_decide_eq_true (by kernel_rfl), Tryz.func120.trans (by kernel_rfl)⟩
  f28 := Tryz.func90.trans (by kernel_rfl)
  f29 := Tryz.func91.trans (by kernel_rfl)
  f46 := ⟨ "slices.siftDownCmpFunc[drawboard/api.Attr]", of_decide_eq_true (by kernel_rfl), Tryz.func138.trans (by kernel_rfl)⟩
  f47 := Tryz.func109.trans (by kernel_rfl)
  f48 := Tryz.func110.trans (by kernel_rfl)
  f49 := ⟨ "slices.medianAdjacentCmpFunc[drawboard/api.Attr]", of_decide_eq_true (by kernel_rfl), Tryz.func139.trans (by kernel_rfl)⟩
  f50 := ⟨ "slices.medianCmpFunc[drawboard/api.Attr]", of_decide_eq_true (by kernel_rfl), Tryz.func140.trans (by kernel_rfl)⟩
  f57 := ⟨ "slices.order2CmpFunc[drawboard/api.Attr]", of_decide_eq_true (by kernel_rfl), Tryz.func159.trans (by kernel_rfl)⟩
  t0 := Tryz.underlying0
  a0 := Tryz.isAgg0
  z0 := Tryz.sizeOf0
  v0 := Tryz.zeroValue0
  t3 := Tryz.underlying3
  a3 := Tryz.isAgg3
  z3 := Tryz.sizeOf3
  v3 := Tryz.zeroValue3
  t4 := Tryz.underlying4
  a4 := Tryz.isAgg4
  z4 := Tryz.sizeOf4
  v4 := Tryz.zeroValue4
  t5 := Tryz.underlying5
  a5 := Tryz.isAgg5
  z5 := Tryz.sizeOf5
  v5 := Tryz.zeroValue5
  t9 := Tryz.underlying9
  a9 := Tryz.isAgg9
  z9 := Tryz.sizeOf9
  v9 := Tryz.zeroValue9
  t22 := Tryz.underlying73
  a22 := Tryz.isAgg73
  z22 := Tryz.sizeOf73
  v22 := Tryz.zeroValue73
  t25 := Tryz.underlying90
  a25 := Tryz.isAgg90
  z25 := Tryz.sizeOf90
  v25 := Tryz.zeroValue90
  t39 := Tryz.underlying88
  a39 := Tryz.isAgg88
  z39 := Tryz.sizeOf88
  v39 := Tryz.zeroValue88
  t45 := Tryz.underlying115
  a45 := Tryz.isAgg115
  z45 := Tryz.sizeOf115
  v45 := Tryz.zeroValue115
  t46 := Tryz.underlying116
  a46 := Tryz.isAgg116
  z46 := Tryz.sizeOf116
  v46 := Tryz.zeroValue116
  t50 := Tryz.underlying120
  a50 := Tryz.isAgg120
  z50 := Tryz.sizeOf120
  v50 := Tryz.zeroValue120
  t53 := Tryz.underlying123
  a53 := Tryz.isAgg123
  z53 := Tryz.sizeOf123
  v53 := Tryz.zeroValue123
  t55 := Tryz.underlying125
  a55 := Tryz.isAgg125
  z55 := Tryz.sizeOf125
  v55 := Tryz.zeroValue125
  t66 := Tryz.underlying140
  a66 := Tryz.isAgg140
  z66 := Tryz.sizeOf140
  v66 := Tryz.zeroValue140
  t70 := Tryz.underlying144
  a70 := Tryz.isAgg144
  z70 := Tryz.sizeOf144
  v70 := Tryz.zeroValue144
  t76 := Tryz.underlying160
  a76 := Tryz.isAgg160
  z76 := Tryz.sizeOf160
  v76 := Tryz.zeroValue160
  t77 := Tryz.underlying161
  a77 := Tryz.isAgg161
  z77 := Tryz.sizeOf161
  v77 := Tryz.zeroValue161

def sortF75_ren : Shelf.Ren where
  f := fun x => match x with | 6 => 61 | 15 => 58 | 14 => 93 | 28 => 90 | 29 => 91 | 20 => 121 | 21 => 122 | 22 => 123 | 23 => 124 | 24 => 125 | 25 => 126 | 26 => 127 | 27 => 128 | 46 => 141 | 47 => 109 | 48 => 110 | 49 => 142 | 50 => 143 | 57 => 160 | n => n
  t := fun x => match x with | 22 => 28 | 24 => 75 | 25 => 92 | 3 => 3 | 39 => 88 | 0 => 0 | 53 => 123 | 55 => 125 | 4 => 4 | 46 => 116 | 45 => 115 | 50 => 120 | 5 => 5 | 9 => 9 | 66 => 140 | 70 => 144 | 76 => 160 | 77 => 161 | n => n
  g := fun n => n
theorem sortF75_lay : SlLaysF0.n6 Tryz.prog sortF75_ren where
  mixed := by kernel_rfl
  f6 := ⟨ "slices.SortFunc[[]drawboard/api.Thing,drawboard/api.Thing]", of_decide_eq_true (by kernel_rfl), Tryz.func61.trans (by kernel_rfl)⟩
  f14 := ⟨ "slices.pdqsortCmpFunc[drawboard/api.Thing]", of_decide_eq_true (by kernel_rfl), Tryz.func93.trans (by kernel_rfl)⟩
  f15 := Tryz.func58.trans (by kernel_rfl)
  f20 := ⟨ "slices.insertionSortCmpFunc[drawboard/api.Thing]", of_decide_eq_true (by kernel_rfl), Tryz.func121.trans (by kernel_rfl)⟩
  f21 := ⟨ "slices.heapSortCmpFunc[drawboard/api.Thing]", of_decide_eq_true (by kernel_rfl), Tryz.func122.trans (by kernel_rfl)⟩
  f22 := ⟨ "slices.breakPatternsCmpFunc[drawboard/api.Thing]", of_decide_eq_true (by kernel_rfl), Tryz.func123.trans (by kernel_rfl)⟩
  f23 := ⟨ "slices.choosePivotCmpFunc[drawboard/api.Thing]", of_decide_eq_true (by kernel_rfl), Tryz.func124.trans (by kernel_rfl)⟩
  f24 := ⟨ "slices.reverseRangeCmpFunc[drawboard/api.Thing]", of_decide_eq_true (by kernel_rfl), Tryz.func125.trans (by kernel_rfl)⟩
  f25 := ⟨ "slices.partialInsertionSortCmpFunc[drawboard/api.Thing]", of_decide_eq_true (by kernel_rfl), Tryz.func126.trans (by kernel_rfl)⟩
  f26 := ⟨ "slices.partitionEqualCmpFunc[drawboard/api.Thing]", of_decide_eq_true (by kernel_rfl), Tryz.func127.trans (by kernel_rfl)⟩
  f27 := ⟨ "slices.partitionCmpFunc[drawboard/api.Thing]", of_decide_eq_true (by kernel_rfl), Tryz.func128.trans (by kernel_rfl)⟩
  f28 := Tryz.func90.trans (by kernel_rfl)
  f29 := Tryz.func91.trans (by kernel_rfl)
  f46 := ⟨ "slices.siftDownCmpFunc[drawboard/api.Thing]", of_decide_eq_true (by kernel_rfl), Tryz.func141.trans (by kernel_rfl)⟩
  f47 := Tryz.func109.trans (by kernel_rfl)
  f48 := Tryz.func110.trans (by kernel_rfl)
  f49 := ⟨ "slices.medianAdjacentCmpFunc[drawboard/api.Thing]", of_decide_eq_true (by kernel_rfl), Tryz.func142.trans (by kernel_rfl)⟩
  f50 := ⟨ "slices.medianCmpFunc[drawboard/api.Thing]", of_decide_eq_true (by kernel_rfl), Tryz.func143.trans (by kernel_rfl)⟩
  f57 := ⟨ "slices.order2CmpFunc[drawboard/api.Thing]", of_decide_eq_true (by kernel_rfl), Tryz.func160.trans (by kernel_rfl)⟩
  t0 := Tryz.underlying0
  a0 := Tryz.isAgg0
  z0 := Tryz.sizeOf0
  v0 := Tryz.zeroValue0
  t3 := Tryz.underlying3
  a3 := Tryz.isAgg3
  z3 := Tryz.sizeOf3
  v3 := Tryz.zeroValue3
  t4 := Tryz.underlying4
  a4 := Tryz.isAgg4
  z4 := Tryz.sizeOf4
  v4 := Tryz.zeroValue4
  t5 := Tryz.underlying5
  a5 := Tryz.isAgg5
  z5 := Tryz.sizeOf5
  v5 := Tryz.zeroValue5
  t9 := Tryz.underlying9
  a9 := Tryz.isAgg9
  z9 := Tryz.sizeOf9
  v9 := Tryz.zeroValue9
  t22 := Tryz.underlying28
  a22 := Tryz.isAgg28
  z22 := Tryz.sizeOf28
  v22 := Tryz.zeroValue28
  t25 := Tryz.underlying92
  a25 := Tryz.isAgg92
  z25 := Tryz.sizeOf92
  v25 := Tryz.zeroValue92
  t39 := Tryz.underlying88
  a39 := Tryz.isAgg88
  z39 := Tryz.sizeOf88
  v39 := Tryz.zeroValue88
  t45 := Tryz.underlying115
  a45 := Tryz.isAgg115
  z45 := Tryz.sizeOf115
  v45 := Tryz.zeroValue115
  t46 := Tryz.underlying116
  a46 := Tryz.isAgg116
  z46 := Tryz.sizeOf116
  v46 := Tryz.zeroValue116
  t50 := Tryz.underlying120
  a50 := Tryz.isAgg120
  z50 := Tryz.sizeOf120
  v50 := Tryz.zeroValue120
  t53 := Tryz.underlying123
  a53 := Tryz.isAgg123
  z53 := Tryz.sizeOf123
  v53 := Tryz.zeroValue123
  t55 := Tryz.underlying125
  a55 := Tryz.isAgg125
  z55 := Tryz.sizeOf125
  v55 := Tryz.zeroValue125
  t66 := Tryz.underlying140
  a66 := Tryz.isAgg140
  z66 := Tryz.sizeOf140
  v66 := Tryz.zeroValue140
  t70 := Tryz.underlying144
  a70 := Tryz.isAgg144
  z70 := Tryz.sizeOf144
  v70 := Tryz.zeroValue144
  t76 := Tryz.underlying160
  a76 := Tryz.isAgg160
  z76 := Tryz.sizeOf160
  v76 := Tryz.zeroValue160
  t77 := Tryz.underlying161
  a77 := Tryz.isAgg161
  z77 := Tryz.sizeOf161
  v77 := Tryz.zeroValue161

theorem fnok74 : FnOK Tryz.prog 74 := ⟨_, Tryz.func74, by kernel_rfl, by kernel_rfl⟩
theorem fnok55 : FnOK Tryz.prog 55 := ⟨_, Tryz.func55, by kernel_rfl, by kernel_rfl⟩
theorem fnok52 : FnOK Tryz.prog 52 := ⟨_, Tryz.func52, by kernel_rfl, by kernel_rfl⟩
theorem sl22 : SliceOf Tryz.prog 22 42 := Tryz.underlying22
theorem ty42 : Ty Tryz.prog 42 DOp := ⟨⟨_, Tryz.underlying42, rfl⟩, by kernel_rfl⟩
theorem zo42 : ZeroOf Tryz.prog 42 (⟨(⟨(0 : Int), Str.nil, (0 : Int)⟩ : Stamp), (0 : Int), Str.nil, Str.nil, Str.nil, (0 : Int)⟩ : DOp) := ⟨[.int .i64 0, .string ByteArray.empty, .int .i64 0, .int .i64 0, .string ByteArray.empty, .string ByteArray.empty, .string ByteArray.empty, .int .i64 0], by kernel_rfl, fun _ _ => ⟨[_, _, _], _, rfl, ⟨[_], _, rfl, ⟨rfl, by decide⟩, ⟨[_], _, rfl, str_zero, ⟨rfl, by decide⟩⟩⟩, ⟨[_], _, rfl, ⟨rfl, by decide⟩, ⟨[_], _, rfl, str_zero, ⟨[_], _, rfl, str_zero, ⟨[_], _, rfl, str_zero, ⟨rfl, by decide⟩⟩⟩⟩⟩⟩⟩
theorem rk22 : RowOK Tryz.prog 22 42 DOp := ⟨sl22, ty42, by kernel_rfl⟩
theorem fnok100 : FnOK Tryz.prog 100 := ⟨_, Tryz.func100, by kernel_rfl, by kernel_rfl⟩
theorem fnok67 : FnOK Tryz.prog 67 := ⟨_, Tryz.func67, by kernel_rfl, by kernel_rfl⟩
theorem fnok4 : FnOK Tryz.prog 4 := ⟨_, Tryz.func4, by kernel_rfl, by kernel_rfl⟩
theorem bu42 : BuildAt Tryz.prog 42 [.int .i64 0, .string ByteArray.empty, .int .i64 0, .int .i64 0, .string ByteArray.empty, .string ByteArray.empty, .string ByteArray.empty, .int .i64 0] [(0, 3), (3, 1), (4, 1), (5, 1), (6, 1), (7, 1)] := ⟨by kernel_rfl, _, Tryz.underlying42, by kernel_rfl⟩
theorem zc42 : ∀ (M : MSet) (w : World), Rep.cells M (⟨(⟨(0 : Int), Str.nil, (0 : Int)⟩ : Stamp), (0 : Int), Str.nil, Str.nil, Str.nil, (0 : Int)⟩ : DOp) [.int .i64 0, .string ByteArray.empty, .int .i64 0, .int .i64 0, .string ByteArray.empty, .string ByteArray.empty, .string ByteArray.empty, .int .i64 0] w := fun _ _ => ⟨[_, _, _], _, rfl, ⟨[_], _, rfl, ⟨rfl, by decide⟩, ⟨[_], _, rfl, str_zero, ⟨rfl, by decide⟩⟩⟩, ⟨[_], _, rfl, ⟨rfl, by decide⟩, ⟨[_], _, rfl, str_zero, ⟨[_], _, rfl, str_zero, ⟨[_], _, rfl, str_zero, ⟨rfl, by decide⟩⟩⟩⟩⟩⟩
theorem hz42 : HasZero Tryz.prog 42 := by unfold HasZero; kernel_rfl
theorem fnok6 : FnOK Tryz.prog 6 := ⟨_, Tryz.func6, by kernel_rfl, by kernel_rfl⟩
theorem fd42_0 : FieldAt Tryz.prog 42 0 0 := ⟨_, _, Tryz.underlying42, rfl, rfl, by kernel_rfl⟩
theorem hfd42_0 : HasField DOp Stamp 0 DOp.Stamp := ⟨by decide, fun M x cs w h => (HasField.fst HasField.self).2 M _ cs w h⟩
theorem fd40_1 : FieldAt Tryz.prog 40 1 1 := ⟨_, _, Tryz.underlying40, rfl, rfl, by kernel_rfl⟩
theorem hfd40_1 : HasField Stamp Str 1 Stamp.Site := ⟨by decide, fun M x cs w h => (HasField.snd (HasField.fst HasField.self)).2 M _ cs w h⟩
theorem ty9 : Ty Tryz.prog 9 Str := ⟨⟨_, Tryz.underlying9, rfl⟩, by kernel_rfl⟩
theorem fnok29 : FnOK Tryz.prog 29 := ⟨_, Tryz.func29, by kernel_rfl, by kernel_rfl⟩
theorem fnok30 : FnOK Tryz.prog 30 := ⟨_, Tryz.func30, by kernel_rfl, by kernel_rfl⟩
theorem fd40_2 : FieldAt Tryz.prog 40 2 2 := ⟨_, _, Tryz.underlying40, rfl, rfl, by kernel_rfl⟩
theorem hfd40_2 : HasField Stamp Int 2 Stamp.No := ⟨by decide, fun M x cs w h => (HasField.snd (HasField.snd HasField.self)).2 M _ cs w h⟩
theorem ty3 : Ty Tryz.prog 3 Int := ⟨⟨_, Tryz.underlying3, rfl⟩, by kernel_rfl⟩
theorem fnok53 : FnOK Tryz.prog 53 := ⟨_, Tryz.func53, by kernel_rfl, by kernel_rfl⟩
theorem fnok73 : FnOK Tryz.prog 73 := ⟨_, Tryz.func73, by kernel_rfl, by kernel_rfl⟩
theorem sl105 : SliceOf Tryz.prog 105 3 := Tryz.underlying105
theorem hz3 : HasZero Tryz.prog 3 := by unfold HasZero; kernel_rfl
theorem fnok51 : FnOK Tryz.prog 51 := ⟨_, Tryz.func51, by kernel_rfl, by kernel_rfl⟩
theorem fd40_0 : FieldAt Tryz.prog 40 0 0 := ⟨_, _, Tryz.underlying40, rfl, rfl, by kernel_rfl⟩
theorem hfd40_0 : HasField Stamp Int 0 Stamp.Time := ⟨by decide, fun M x cs w h => (HasField.fst HasField.self).2 M _ cs w h⟩
theorem fnok31 : FnOK Tryz.prog 31 := ⟨_, Tryz.func31, by kernel_rfl, by kernel_rfl⟩
theorem fd42_1 : FieldAt Tryz.prog 42 1 3 := ⟨_, _, Tryz.underlying42, rfl, rfl, by kernel_rfl⟩
theorem hfd42_1 : HasField DOp Int 3 DOp.Kind := ⟨by decide, fun M x cs w h => (HasField.snd (HasField.fst HasField.self)).2 M _ cs w h⟩
theorem fd42_5 : FieldAt Tryz.prog 42 5 7 := ⟨_, _, Tryz.underlying42, rfl, rfl, by kernel_rfl⟩
theorem hfd42_5 : HasField DOp Int 7 DOp.Of := ⟨by decide, fun M x cs w h => (HasField.snd (HasField.snd (HasField.snd (HasField.snd (HasField.snd HasField.self))))).2 M _ cs w h⟩
theorem fd42_2 : FieldAt Tryz.prog 42 2 4 := ⟨_, _, Tryz.underlying42, rfl, rfl, by kernel_rfl⟩
theorem hfd42_2 : HasField DOp Str 4 DOp.Id := ⟨by decide, fun M x cs w h => (HasField.snd (HasField.snd (HasField.fst HasField.self))).2 M _ cs w h⟩
theorem fd42_3 : FieldAt Tryz.prog 42 3 5 := ⟨_, _, Tryz.underlying42, rfl, rfl, by kernel_rfl⟩
theorem hfd42_3 : HasField DOp Str 5 DOp.Field := ⟨by decide, fun M x cs w h => (HasField.snd (HasField.snd (HasField.snd (HasField.fst HasField.self)))).2 M _ cs w h⟩
theorem fd42_4 : FieldAt Tryz.prog 42 4 6 := ⟨_, _, Tryz.underlying42, rfl, rfl, by kernel_rfl⟩
theorem hfd42_4 : HasField DOp Str 6 DOp.Value := ⟨by decide, fun M x cs w h => (HasField.snd (HasField.snd (HasField.snd (HasField.snd (HasField.fst HasField.self))))).2 M _ cs w h⟩
theorem fnok56 : FnOK Tryz.prog 56 := ⟨_, Tryz.func56, by kernel_rfl, by kernel_rfl⟩
theorem fnok16 : FnOK Tryz.prog 16 := ⟨_, Tryz.func16, by kernel_rfl, by kernel_rfl⟩
theorem sl99 : SliceOf Tryz.prog 99 22 := Tryz.underlying99
theorem ty22 : Ty Tryz.prog 22 (List DOp) := ⟨⟨_, Tryz.underlying22, rfl⟩, by kernel_rfl⟩
theorem hz22 : HasZero Tryz.prog 22 := by unfold HasZero; kernel_rfl
theorem fnok42 : FnOK Tryz.prog 42 := ⟨_, Tryz.func42, by kernel_rfl, by kernel_rfl⟩
theorem fnok43 : FnOK Tryz.prog 43 := ⟨_, Tryz.func43, by kernel_rfl, by kernel_rfl⟩
theorem fnok68 : FnOK Tryz.prog 68 := ⟨_, Tryz.func68, by kernel_rfl, by kernel_rfl⟩
theorem fnok82 : FnOK Tryz.prog 82 := ⟨_, Tryz.func82, by kernel_rfl, by kernel_rfl⟩
theorem fnok98 : FnOK Tryz.prog 98 := ⟨_, Tryz.func98, by kernel_rfl, by kernel_rfl⟩
theorem fnok131 : FnOK Tryz.prog 131 := ⟨_, Tryz.func131, by kernel_rfl, by kernel_rfl⟩
theorem fnok153 : FnOK Tryz.prog 153 := ⟨_, Tryz.func153, by kernel_rfl, by kernel_rfl⟩
theorem eqi40 : EqIn Tryz.prog 40 Stamp 2 := eqIn_struct Tryz.underlying40 (by kernel_rfl) (.cons (proj := Stamp.Time) rfl hfd40_0 ty3 (eqIn_int Tryz.underlying3) (.cons (proj := Stamp.Site) rfl hfd40_1 ty9 (eqIn_str Tryz.underlying9) (.cons (proj := Stamp.No) rfl hfd40_2 ty3 (eqIn_int Tryz.underlying3) .nil))) (fun x y => by rw [Bool.eq_iff_iff]; cases x; cases y; simp only [Bool.and_eq_true, decide_eq_true_eq, and_true, Stamp.mk.injEq]) rfl
theorem ty40 : Ty Tryz.prog 40 Stamp := ⟨⟨_, Tryz.underlying40, rfl⟩, by kernel_rfl⟩
theorem eqi42 : EqIn Tryz.prog 42 DOp 3 := eqIn_struct Tryz.underlying42 (by kernel_rfl) (.cons (proj := DOp.Stamp) rfl hfd42_0 ty40 eqi40 (.cons (proj := DOp.Kind) rfl hfd42_1 ty3 (eqIn_more (eqIn_int Tryz.underlying3) (by decide)) (.cons (proj := DOp.Id) rfl hfd42_2 ty9 (eqIn_more (eqIn_str Tryz.underlying9) (by decide)) (.cons (proj := DOp.Field) rfl hfd42_3 ty9 (eqIn_more (eqIn_str Tryz.underlying9) (by decide)) (.cons (proj := DOp.Value) rfl hfd42_4 ty9 (eqIn_more (eqIn_str Tryz.underlying9) (by decide)) (.cons (proj := DOp.Of) rfl hfd42_5 ty3 (eqIn_more (eqIn_int Tryz.underlying3) (by decide)) .nil)))))) (fun x y => by rw [Bool.eq_iff_iff]; cases x; cases y; simp only [Bool.and_eq_true, decide_eq_true_eq, and_true, DOp.mk.injEq]) rfl
theorem eqa42 : DB.EqAt Tryz.prog 42 DOp := eqAt_in eqi42 (by kernel_rfl) (by kernel_rfl) rfl
theorem fnok44 : FnOK Tryz.prog 44 := ⟨_, Tryz.func44, by kernel_rfl, by kernel_rfl⟩
theorem fnok17 : FnOK Tryz.prog 17 := ⟨_, Tryz.func17, by kernel_rfl, by kernel_rfl⟩
theorem fnok18 : FnOK Tryz.prog 18 := ⟨_, Tryz.func18, by kernel_rfl, by kernel_rfl⟩
theorem sl46 : SliceOf Tryz.prog 46 40 := Tryz.underlying46
theorem hz40 : HasZero Tryz.prog 40 := by unfold HasZero; kernel_rfl
theorem rk46 : RowOK Tryz.prog 46 40 Stamp := ⟨sl46, ty40, by kernel_rfl⟩
theorem fnok19 : FnOK Tryz.prog 19 := ⟨_, Tryz.func19, by kernel_rfl, by kernel_rfl⟩
theorem zo40 : ZeroOf Tryz.prog 40 (⟨(0 : Int), Str.nil, (0 : Int)⟩ : Stamp) := ⟨[.int .i64 0, .string ByteArray.empty, .int .i64 0], by kernel_rfl, fun _ _ => ⟨[_], _, rfl, ⟨rfl, by decide⟩, ⟨[_], _, rfl, str_zero, ⟨rfl, by decide⟩⟩⟩⟩
theorem mo69 : MapOf Tryz.prog 69 9 3 (MKey.desc Str) := ⟨Tryz.underlying69, Tryz.underlying9⟩
theorem zo3 : ZeroOf Tryz.prog 3 (0 : Int) := ⟨[.int .i64 0], by kernel_rfl, fun _ _ => ⟨rfl, by decide⟩⟩
theorem fnok20 : FnOK Tryz.prog 20 := ⟨_, Tryz.func20, by kernel_rfl, by kernel_rfl⟩
theorem fnok46 : FnOK Tryz.prog 46 := ⟨_, Tryz.func46, by kernel_rfl, by kernel_rfl⟩
theorem sl25 : SliceOf Tryz.prog 25 4 := Tryz.underlying25
theorem ty4 : Ty Tryz.prog 4 Bool := ⟨⟨_, Tryz.underlying4, rfl⟩, by kernel_rfl⟩
theorem fnok45 : FnOK Tryz.prog 45 := ⟨_, Tryz.func45, by kernel_rfl, by kernel_rfl⟩
theorem sf40_1 : SetField Stamp Str 1 (fun x z => { x with Site := z }) := ⟨by decide, fun M x z cs zs w h hz => (SetField.snd (SetField.fst SetField.self)).2 M _ z cs zs w h hz⟩
theorem bu40 : BuildAt Tryz.prog 40 [.int .i64 0, .string ByteArray.empty, .int .i64 0] [(0, 1), (1, 1), (2, 1)] := ⟨by kernel_rfl, _, Tryz.underlying40, by kernel_rfl⟩
theorem zc40 : ∀ (M : MSet) (w : World), Rep.cells M (⟨(0 : Int), Str.nil, (0 : Int)⟩ : Stamp) [.int .i64 0, .string ByteArray.empty, .int .i64 0] w := fun _ _ => ⟨[_], _, rfl, ⟨rfl, by decide⟩, ⟨[_], _, rfl, str_zero, ⟨rfl, by decide⟩⟩⟩
theorem sf42_1 : SetField DOp Int 3 (fun x z => { x with Kind := z }) := ⟨by decide, fun M x z cs zs w h hz => (SetField.snd (SetField.fst SetField.self)).2 M _ z cs zs w h hz⟩
theorem sf42_0 : SetField DOp Stamp 0 (fun x z => { x with Stamp := z }) := ⟨by decide, fun M x z cs zs w h hz => (SetField.fst SetField.self).2 M _ z cs zs w h hz⟩
theorem fnok69 : FnOK Tryz.prog 69 := ⟨_, Tryz.func69, by kernel_rfl, by kernel_rfl⟩
theorem sf40_2 : SetField Stamp Int 2 (fun x z => { x with No := z }) := ⟨by decide, fun M x z cs zs w h hz => (SetField.snd (SetField.snd SetField.self)).2 M _ z cs zs w h hz⟩
theorem sf40_0 : SetField Stamp Int 0 (fun x z => { x with Time := z }) := ⟨by decide, fun M x z cs zs w h hz => (SetField.fst SetField.self).2 M _ z cs zs w h hz⟩
theorem fnok99 : FnOK Tryz.prog 99 := ⟨_, Tryz.func99, by kernel_rfl, by kernel_rfl⟩
theorem fnok101 : FnOK Tryz.prog 101 := ⟨_, Tryz.func101, by kernel_rfl, by kernel_rfl⟩
theorem fnok32 : FnOK Tryz.prog 32 := ⟨_, Tryz.func32, by kernel_rfl, by kernel_rfl⟩
theorem rk25 : RowOK Tryz.prog 25 4 Bool := ⟨sl25, ty4, by kernel_rfl⟩
theorem zo4 : ZeroOf Tryz.prog 4 false := ⟨[.bool false], by kernel_rfl, fun _ _ => rfl⟩
theorem fnok71 : FnOK Tryz.prog 71 := ⟨_, Tryz.func71, by kernel_rfl, by kernel_rfl⟩
theorem fnok70 : FnOK Tryz.prog 70 := ⟨_, Tryz.func70, by kernel_rfl, by kernel_rfl⟩
theorem sf42_5 : SetField DOp Int 7 (fun x z => { x with Of := z }) := ⟨by decide, fun M x z cs zs w h hz => (SetField.snd (SetField.snd (SetField.snd (SetField.snd (SetField.snd SetField.self))))).2 M _ z cs zs w h hz⟩
theorem fnok21 : FnOK Tryz.prog 21 := ⟨_, Tryz.func21, by kernel_rfl, by kernel_rfl⟩
theorem fnok47 : FnOK Tryz.prog 47 := ⟨_, Tryz.func47, by kernel_rfl, by kernel_rfl⟩
theorem fnok8 : FnOK Tryz.prog 8 := ⟨_, Tryz.func8, by kernel_rfl, by kernel_rfl⟩
theorem fnok33 : FnOK Tryz.prog 33 := ⟨_, Tryz.func33, by kernel_rfl, by kernel_rfl⟩
theorem fnok34 : FnOK Tryz.prog 34 := ⟨_, Tryz.func34, by kernel_rfl, by kernel_rfl⟩
theorem fnok35 : FnOK Tryz.prog 35 := ⟨_, Tryz.func35, by kernel_rfl, by kernel_rfl⟩
theorem mo61 : MapOf Tryz.prog 61 9 65 (MKey.desc Str) := ⟨Tryz.underlying61, Tryz.underlying9⟩
theorem zrawm65 : ZeroOf Tryz.prog 65 (⟨.map none⟩ : Raw) := ⟨[.map none], by kernel_rfl, fun _ _ => ⟨rfl, rfl, rfl⟩⟩
theorem mo65 : MapOf Tryz.prog 65 9 9 (MKey.desc Str) := ⟨Tryz.underlying65, Tryz.underlying9⟩
theorem fnok36 : FnOK Tryz.prog 36 := ⟨_, Tryz.func36, by kernel_rfl, by kernel_rfl⟩
theorem zvc_Thing_o1 : ∀ (M : MSet) (w : World), Rep.cells M (⟨Str.nil, ⟨.slice none 0 0⟩⟩ : Thing_o1) [.string ByteArray.empty, .slice none 0 0] w := fun _ _ => ⟨[_], _, rfl, str_zero, ⟨rfl, rfl, rfl⟩⟩
theorem sv_Thing_o1_0 : SetField Thing_o1 Str 0 (fun x z => { x with Id := z }) := ⟨by decide, fun M x z cs zs w h hz => (SetField.fst SetField.self).2 M _ z cs zs w h hz⟩
theorem bu75 : BuildAt Tryz.prog 75 [.string ByteArray.empty, .slice none 0 0] [(0, 1), (1, 1)] := ⟨by kernel_rfl, _, Tryz.underlying75, by kernel_rfl⟩
theorem zo75 : ZeroOf Tryz.prog 75 (⟨Str.nil, ([] : (List Attr))⟩ : Thing) := ⟨[.string ByteArray.empty, .slice none 0 0], by kernel_rfl, fun _ _ => ⟨[_], _, rfl, str_zero, ⟨none, 0, rfl, Nat.le_refl _, by decide, rfl⟩⟩⟩
theorem tyv_Thing_o1 : Ty Tryz.prog 75 Thing_o1 := ⟨⟨_, Tryz.underlying75, rfl⟩, by kernel_rfl⟩
theorem fd75_1 : FieldAt Tryz.prog 75 1 1 := ⟨_, _, Tryz.underlying75, rfl, rfl, by kernel_rfl⟩
theorem hfd75_1 : HasField Thing (List Attr) 1 Thing.Attrs := ⟨by decide, fun M x cs w h => (HasField.snd HasField.self).2 M _ cs w h⟩
theorem tr73 : Ty Tryz.prog 73 Raw := ⟨⟨_, Tryz.underlying73, rfl⟩, by kernel_rfl⟩
theorem hv_Thing_o1_1 : HasField Thing_o1 Raw 1 Thing_o1.Attrs := ⟨by decide, fun M x cs w h => (HasField.snd HasField.self).2 M _ cs w h⟩
theorem sv_Thing_o1_1 : SetField Thing_o1 Raw 1 (fun x z => { x with Attrs := z }) := ⟨by decide, fun M x z cs zs w h hz => (SetField.snd SetField.self).2 M _ z cs zs w h hz⟩
theorem sf78_1 : SetField Attr Str 1 (fun x z => { x with Value := z }) := ⟨by decide, fun M x z cs zs w h hz => (SetField.snd SetField.self).2 M _ z cs zs w h hz⟩
theorem sf78_0 : SetField Attr Str 0 (fun x z => { x with Field := z }) := ⟨by decide, fun M x z cs zs w h hz => (SetField.fst SetField.self).2 M _ z cs zs w h hz⟩
theorem bu78 : BuildAt Tryz.prog 78 [.string ByteArray.empty, .string ByteArray.empty] [(0, 1), (1, 1)] := ⟨by kernel_rfl, _, Tryz.underlying78, by kernel_rfl⟩
theorem zc78 : ∀ (M : MSet) (w : World), Rep.cells M (⟨Str.nil, Str.nil⟩ : Attr) [.string ByteArray.empty, .string ByteArray.empty] w := fun _ _ => ⟨[_], _, rfl, str_zero, str_zero⟩
theorem sl73 : SliceOf Tryz.prog 73 78 := Tryz.underlying73
theorem ty78 : Ty Tryz.prog 78 Attr := ⟨⟨_, Tryz.underlying78, rfl⟩, by kernel_rfl⟩
theorem hz78 : HasZero Tryz.prog 78 := by unfold HasZero; kernel_rfl
theorem rk73 : RowOK Tryz.prog 73 78 Attr := ⟨sl73, ty78, by kernel_rfl⟩
theorem ty73 : Ty Tryz.prog 73 (List Attr) := ⟨⟨_, Tryz.underlying73, rfl⟩, by kernel_rfl⟩
theorem fnok59 : FnOK Tryz.prog 59 := ⟨_, Tryz.func59, by kernel_rfl, by kernel_rfl⟩
theorem fnok60 : FnOK Tryz.prog 60 := ⟨_, Tryz.func60, by kernel_rfl, by kernel_rfl⟩
theorem ty75 : Ty Tryz.prog 75 Thing := ⟨⟨_, Tryz.underlying75, rfl⟩, by kernel_rfl⟩
theorem sl28 : SliceOf Tryz.prog 28 75 := Tryz.underlying28
theorem hz75 : HasZero Tryz.prog 75 := by unfold HasZero; kernel_rfl
theorem rk28 : RowOK Tryz.prog 28 75 Thing := ⟨sl28, ty75, by kernel_rfl⟩
theorem tyU75 : Ty Tryz.prog 75 (Str × SlV) := ⟨⟨_, Tryz.underlying75, rfl⟩, by kernel_rfl⟩
theorem fnok61 : FnOK Tryz.prog 61 := ⟨_, Tryz.func61, by kernel_rfl, by kernel_rfl⟩
theorem fnok62 : FnOK Tryz.prog 62 := ⟨_, Tryz.func62, by kernel_rfl, by kernel_rfl⟩
theorem fnok22 : FnOK Tryz.prog 22 := ⟨_, Tryz.func22, by kernel_rfl, by kernel_rfl⟩
theorem fnok48 : FnOK Tryz.prog 48 := ⟨_, Tryz.func48, by kernel_rfl, by kernel_rfl⟩
theorem fnok49 : FnOK Tryz.prog 49 := ⟨_, Tryz.func49, by kernel_rfl, by kernel_rfl⟩
theorem fd75_0 : FieldAt Tryz.prog 75 0 0 := ⟨_, _, Tryz.underlying75, rfl, rfl, by kernel_rfl⟩
theorem hfd75_0 : HasField Thing Str 0 Thing.Id := ⟨by decide, fun M x cs w h => (HasField.fst HasField.self).2 M _ cs w h⟩
theorem fnok50 : FnOK Tryz.prog 50 := ⟨_, Tryz.func50, by kernel_rfl, by kernel_rfl⟩
theorem hfd78_1 : HasField Attr Str 1 Attr.Value := ⟨by decide, fun M x cs w h => (HasField.snd HasField.self).2 M _ cs w h⟩
theorem hfd78_0 : HasField Attr Str 0 Attr.Field := ⟨by decide, fun M x cs w h => (HasField.fst HasField.self).2 M _ cs w h⟩
theorem eqi78 : EqIn Tryz.prog 78 Attr 2 := eqIn_struct Tryz.underlying78 (by kernel_rfl) (.cons (proj := Attr.Field) rfl hfd78_0 ty9 (eqIn_str Tryz.underlying9) (.cons (proj := Attr.Value) rfl hfd78_1 ty9 (eqIn_str Tryz.underlying9) .nil)) (fun x y => by rw [Bool.eq_iff_iff]; cases x; cases y; simp only [Bool.and_eq_true, decide_eq_true_eq, and_true, Attr.mk.injEq]) rfl
theorem eqa78 : DB.EqAt Tryz.prog 78 Attr := eqAt_in eqi78 (by kernel_rfl) (by kernel_rfl) rfl

end Go.Proofs.YtlkebjlooppdlaaGreatDoor
