/-
  Closed facts on the program.
-/
import Derived.Test.YtjnglmeiifcgjaaGreatDoorRows
import Derived.Test.YtjnglmeiifcgjaaGreatDoorOppLi1
set_option maxRecDepth 100000
set_option linter.unusedSimpArgs false
set_option linter.unusedVariables false
namespace Go.Proofs.YtjnglmeiifcgjaaGreatDoor
open Go Go.DB Go.RowKit

theorem mixed : Tryz.prog.follows .mixedOrders = true := by kernel_rfl
theorem mx : Tryz.prog.follows .mixedOrders = true := mixed
def countStr_ren : Shelf.Ren where
  f := fun x => match x with | 138 => 14 | 195 => 28 | 218 => 29 | 143 => 30 | 219 => 50 | 217 => 65 | 225 => 66 | 224 => 67 | 267 => 68 | 266 => 86 | 314 => 87 | n => n
  t := fun x => match x with | 9 => 9 | 3 => 3 | 4 => 4 | 5 => 5 | 0 => 0 | 46 => 106 | 146 => 124 | 51 => 88 | n => n
  g := fun x => match x with | 1 => 0 | n => n
theorem countStr_lay : Lays.n138 Tryz.prog countStr_ren where
  mixed := by kernel_rfl
  f138 := Tryz.func14.trans (by kernel_rfl)
  f143 := Tryz.func30.trans (by kernel_rfl)
  f195 := Tryz.func28.trans (by kernel_rfl)
  f217 := Tryz.func65.trans (by kernel_rfl)
  f218 := Tryz.func29.trans (by kernel_rfl)
  f219 := Tryz.func50.trans (by kernel_rfl)
  f224 := Tryz.func67.trans (by kernel_rfl)
  f225 := Tryz.func66.trans (by kernel_rfl)
  f266 := Tryz.func86.trans (by kernel_rfl)
  f267 := Tryz.func68.trans (by kernel_rfl)
  f314 := Tryz.func87.trans (by kernel_rfl)
  t0 := Tryz.underlying0
  a0 := Tryz.isAgg0
  z0 := Tryz.sizeOf0
  v0 := Tryz.zeroValue0
  t3 := Tryz.underlying3
  a3 := Tryz.isAgg3
  z3 := Tryz.sizeOf3
  v3 := Tryz.zeroValue3
  t4 := Tryz.underlying4
  a4 := Tryz.isAgg4
  z4 := Tryz.sizeOf4
  v4 := Tryz.zeroValue4
  t5 := Tryz.underlying5
  a5 := Tryz.isAgg5
  z5 := Tryz.sizeOf5
  v5 := Tryz.zeroValue5
  t9 := Tryz.underlying9
  a9 := Tryz.isAgg9
  z9 := Tryz.sizeOf9
  v9 := Tryz.zeroValue9
  t46 := Tryz.underlying106
  a46 := Tryz.isAgg106
  z46 := Tryz.sizeOf106
  v46 := Tryz.zeroValue106
  t51 := Tryz.underlying88
  a51 := Tryz.isAgg88
  z51 := Tryz.sizeOf88
  v51 := Tryz.zeroValue88
  t146 := Tryz.underlying124
  a146 := Tryz.isAgg124
  z146 := Tryz.sizeOf124
  v146 := Tryz.zeroValue124
  g1 := by kernel_rfl

def itoaStr_ren : Shelf.Ren where
  f := fun x => match x with | 171 => 35 | 243 => 54 | 246 => 76 | 283 => 92 | 284 => 93 | 285 => 94 | 286 => 95 | 129 => 112 | 317 => 111 | 318 => 113 | 319 => 114 | 320 => 115 | 337 => 126 | 338 => 127 | n => n
  t := fun x => match x with | 3 => 3 | 9 => 9 | 2 => 2 | 4 => 4 | 171 => 130 | 0 => 0 | 53 => 131 | 37 => 43 | 5 => 5 | 173 => 134 | 212 => 159 | 51 => 88 | 20 => 20 | 213 => 160 | 46 => 106 | 232 => 197 | 233 => 198 | n => n
  g := fun x => match x with | 17 => 3 | 18 => 6 | 19 => 7 | n => n
theorem itoaStr_lay : LaysM.n171 Tryz.prog itoaStr_ren where
  mixed := by kernel_rfl
  f129 := Tryz.func112.trans (by kernel_rfl)
  f171 := Tryz.func35.trans (by kernel_rfl)
  f243 := Tryz.func54.trans (by kernel_rfl)
  f246 := Tryz.func76.trans (by kernel_rfl)
  f283 := Tryz.func92.trans (by kernel_rfl)
  f284 := Tryz.func93.trans (by kernel_rfl)
  f285 := Tryz.func94.trans (by kernel_rfl)
  f286 := Tryz.func95.trans (by kernel_rfl)
  f317 := Tryz.func111.trans (by kernel_rfl)
  f318 := Tryz.func113.trans (by kernel_rfl)
  f319 := Tryz.func114.trans (by kernel_rfl)
  f320 := Tryz.func115.trans (by kernel_rfl)
  f337 := Tryz.func126.trans (by kernel_rfl)
  f338 := Tryz.func127.trans (by kernel_rfl)
  t0 := Tryz.underlying0
  a0 := Tryz.isAgg0
  z0 := Tryz.sizeOf0
  v0 := Tryz.zeroValue0
  t2 := Tryz.underlying2
  a2 := Tryz.isAgg2
  z2 := Tryz.sizeOf2
  v2 := Tryz.zeroValue2
  t3 := Tryz.underlying3
  a3 := Tryz.isAgg3
  z3 := Tryz.sizeOf3
  v3 := Tryz.zeroValue3
  t4 := Tryz.underlying4
  a4 := Tryz.isAgg4
  z4 := Tryz.sizeOf4
  v4 := Tryz.zeroValue4
  t5 := Tryz.underlying5
  a5 := Tryz.isAgg5
  z5 := Tryz.sizeOf5
  v5 := Tryz.zeroValue5
  t9 := Tryz.underlying9
  a9 := Tryz.isAgg9
  z9 := Tryz.sizeOf9
  v9 := Tryz.zeroValue9
  t20 := Tryz.underlying20
  a20 := Tryz.isAgg20
  z20 := Tryz.sizeOf20
  v20 := Tryz.zeroValue20
  t37 := Tryz.underlying43
  a37 := Tryz.isAgg43
  z37 := Tryz.sizeOf43
  v37 := Tryz.zeroValue43
  t46 := Tryz.underlying106
  a46 := Tryz.isAgg106
  z46 := Tryz.sizeOf106
  v46 := Tryz.zeroValue106
  t51 := Tryz.underlying88
  a51 := Tryz.isAgg88
  z51 := Tryz.sizeOf88
  v51 := Tryz.zeroValue88
  t53 := Tryz.underlying131
  a53 := Tryz.isAgg131
  z53 := Tryz.sizeOf131
  v53 := Tryz.zeroValue131
  t171 := Tryz.underlying130
  a171 := Tryz.isAgg130
  z171 := Tryz.sizeOf130
  v171 := Tryz.zeroValue130
  t173 := Tryz.underlying134
  a173 := Tryz.isAgg134
  z173 := Tryz.sizeOf134
  v173 := Tryz.zeroValue134
  t212 := Tryz.underlying159
  a212 := Tryz.isAgg159
  z212 := Tryz.sizeOf159
  v212 := Tryz.zeroValue159
  t213 := Tryz.underlying160
  a213 := Tryz.isAgg160
  z213 := Tryz.sizeOf160
  t232 := Tryz.underlying197
  a232 := Tryz.isAgg197
  z232 := Tryz.sizeOf197
  v232 := Tryz.zeroValue197
  t233 := Tryz.underlying198
  a233 := Tryz.isAgg198
  z233 := Tryz.sizeOf198
  v233 := Tryz.zeroValue198
  g17 := by kernel_rfl
  g18 := by kernel_rfl
  g19 := by kernel_rfl
  i0 := by kernel_rfl
  i2 := by kernel_rfl
  i3 := by kernel_rfl
  i4 := by kernel_rfl
  i5 := by kernel_rfl
  i9 := by kernel_rfl
  i20 := by kernel_rfl
  i37 := by kernel_rfl
  i46 := by kernel_rfl
  i51 := by kernel_rfl
  i53 := by kernel_rfl
  i171 := by kernel_rfl
  i173 := by kernel_rfl
  i212 := by kernel_rfl
  i232 := by kernel_rfl
  i233 := by kernel_rfl
  m17 := by kernel_rfl
  m18 := by kernel_rfl
  m19 := by kernel_rfl

theorem sy_disable (w : World) : (callFunc 128 #[]).run Tryz.prog w = .ok (.value (.tuple #[])) w := run_call_mark0 Tryz.func128 (by kernel_rfl) (by kernel_rfl) (by kernel_rfl) .disable (by kernel_rfl) w
theorem sy_enable (w : World) : (callFunc 130 #[]).run Tryz.prog w = .ok (.value (.tuple #[])) w := run_call_mark0 Tryz.func130 (by kernel_rfl) (by kernel_rfl) (by kernel_rfl) .enable (by kernel_rfl) w
theorem sy_acquire (a : Addr) (w : World) : (callFunc 131 #[.pointer (some a)]).run Tryz.prog w = .ok (.value (.tuple #[])) w := run_call_marked Tryz.func131 (by kernel_rfl) (by kernel_rfl) (by kernel_rfl) .acquire (by kernel_rfl) a w
theorem sy_releaseMerge (a : Addr) (w : World) : (callFunc 133 #[.pointer (some a)]).run Tryz.prog w = .ok (.value (.tuple #[])) w := run_call_marked Tryz.func133 (by kernel_rfl) (by kernel_rfl) (by kernel_rfl) .releaseMerge (by kernel_rfl) a w
theorem sy_store (a : Addr) (x : Value) (u : FrameMode) (w : World) (hc : w.cell? a = some x) (hz : w.frozen? a = false) :
    CallsD Tryz.prog 100 #[.pointer (some a), .bool true] u w fun e u' w' => u' = u ∧ (e = .returned (.tuple #[]) ∧ w' = w.drew.setCell a (.int .u32 1)) := by
  have hc' : w.drew.cell? a = some x := by go_simp
  have hz' : w.drew.frozen? a = false := by go_simp
  have hst := run_call_store (P := Tryz.prog) Tryz.func118 (by kernel_rfl) (by kernel_rfl) (by kernel_rfl) (by kernel_rfl) (k := .u32) (y := 1) hc' hz'
  go_enter_d Tryz.func100, Tryz.ntmps100
  go_wp2
  go_region_calls
  all_goals (go_end0; exact ⟨rfl, rfl⟩)
theorem sy_unlock (a : Addr) (u : FrameMode) (w : World) (hc : w.cell? a = some (.int .i32 1)) (hz : w.frozen? a = false) :
    CallsD Tryz.prog 99 #[.pointer (some a)] u w fun e u' w' => u' = u ∧ (e = .returned (.tuple #[]) ∧ w' = w.setCell a (.int .i32 0)) := by
  have hd := sy_disable
  have he := sy_enable
  have hr := sy_releaseMerge
  have hadd := run_call_add (P := Tryz.prog) Tryz.func134 (by kernel_rfl) (by kernel_rfl) (by kernel_rfl) .i32 (by kernel_rfl) (y := -1) (s := 0) hc hz (by simp [go_sem]; rfl)
  have hcv := run_convert_to_unsafe (P := Tryz.prog) (src := 183) (dst := 82) Tryz.underlying183 Tryz.underlying82 (by kernel_rfl) hc
  go_enter_d Tryz.func99, Tryz.ntmps99
  go_wp2
  go_end0
  go_wp2
  all_goals (go_end0; exact ⟨rfl, rfl⟩)
theorem sy_lock (a : Addr) (w : World) (hc : w.cell? a = some (.int .i32 0)) (hz : w.frozen? a = false) :
    Calls Tryz.prog 98 #[.pointer (some a)] w fun e w' => e = .returned (.tuple #[]) ∧ w' = w.setCell a (.int .i32 1) := by
  have hd := sy_disable
  have he := sy_enable
  have ha := sy_acquire
  have hcas := run_call_cas_hit (P := Tryz.prog) Tryz.func129 (by kernel_rfl) (by kernel_rfl) (by kernel_rfl) .i32 (by kernel_rfl) (y := 1) hc hz
  have hc' : (w.setCell a (.int .i32 1)).cell? a = some (.int .i32 1) := World.cell?_setCell_same w a _ hc
  have hcv := run_convert_to_unsafe (P := Tryz.prog) (src := 183) (dst := 82) Tryz.underlying183 Tryz.underlying82 (by kernel_rfl) hc'
  go_enter Tryz.func98, Tryz.ntmps98
  go_wp2
  first | go_end0 | (simp only [Exit.inBlock, Exit.then]; refine bodyPost_ret (results_none rfl _ _ _) rfl ?_) | refine bodyPost_ret (results_none rfl _ _ _) rfl ?_
  go_wp2
  all_goals (go_end0; exact ⟨rfl, rfl⟩)
set_option maxHeartbeats 1600000 in
theorem sy_slow (b : Nat) (w : World) (Q : World → Prop) (h0 : w.cell? ⟨b, 0, none⟩ = some (.int .u32 0)) (h1 : w.cell? ⟨b, 1, none⟩ = some (.int .i32 0)) (f0 : w.frozen? ⟨b, 0, none⟩ = false) (f1 : w.frozen? ⟨b, 1, none⟩ = false)
    (hbo : Calls Tryz.prog 57 #[.pointer (some ⟨b, 0, none⟩)] (w.setCell ⟨b, 1, none⟩ (.int .i32 1)) fun e w' => e = .returned (.tuple #[]) ∧ w'.cell? ⟨b, 0, none⟩ = some (.int .u32 0) ∧ w'.frozen? ⟨b, 0, none⟩ = false ∧ w'.cell? ⟨b, 1, none⟩ = some (.int .i32 1) ∧ w'.frozen? ⟨b, 1, none⟩ = false ∧ Q w') :
    Calls Tryz.prog 79 #[.pointer (some ⟨b, 0, none⟩), .func (.func 57) #[.pointer (some ⟨b, 0, none⟩)] #[]] w fun e w' => e = .returned (.tuple #[]) ∧ ∃ w1, Q w1 ∧ w' = (w1.drew.setCell ⟨b, 0, none⟩ (.int .u32 1)).setCell ⟨b, 1, none⟩ (.int .i32 0) := by
  have hl := run_call_load (P := Tryz.prog) Tryz.func97 (by kernel_rfl) (by kernel_rfl) (by kernel_rfl) .u32 (by kernel_rfl) (w := w.setCell ⟨b, 1, none⟩ (.int .i32 1)) (a := ⟨b, 0, none⟩) (x := 0) ((World.cell?_setCell_other _ ⟨b, 1, none⟩ ⟨b, 0, none⟩ _ (by simp)).trans h0)
  have hnot : ∀ (x : Bool) (w : World), (Op.unary .not (.bool x)).run Tryz.prog w = .ok (.bool (!x)) w := fun _ _ => rfl
  go_enter_defers Tryz.func79, Tryz.ntmps79
  go_wp2_with (first | (go_at_call 98; refine (sy_lock ⟨b, 1, none⟩ _ (by go_simp) (by go_simp)).mono ?_; rintro e w' ⟨rfl, rfl⟩) | (go_at_call 57; refine hbo.mono ?_; rintro e w1 ⟨rfl, k0, z0, k1, z1, hQ⟩) | (go_at_call 78; go_in))
  refine leaves_cons (f := 100) (args := #[.pointer (some ⟨b, 0, none⟩), .bool true]) (by simp) (by simp [go_sem]) ?_
  refine (sy_store ⟨b, 0, none⟩ (.int .u32 0) .returning _ k0 z0).mono ?_
  rintro e u' w'' ⟨rfl, rfl, rfl⟩
  refine leaves_cons (f := 99) (args := #[.pointer (some ⟨b, 1, none⟩)]) (by simp [settle]) (by simp [go_sem]) ?_
  refine (sy_unlock ⟨b, 1, none⟩ _ _ ?_ (by simp [z1])).mono ?_
  · refine (World.cell?_setCell_other _ ⟨b, 0, none⟩ ⟨b, 1, none⟩ _ (by simp)).trans ?_
    rw [World.cell?_drew]; exact k1
  rintro e u' w'' ⟨rfl, rfl, rfl⟩
  simp [Leaves, settle, results, Tryz.results79]
  exact ⟨_, hQ, rfl⟩
set_option maxHeartbeats 1600000 in
theorem sy_do (b : Nat) (w : World) (Q : World → Prop) (h0 : w.cell? ⟨b, 0, none⟩ = some (.int .u32 0)) (h1 : w.cell? ⟨b, 1, none⟩ = some (.int .i32 0)) (f0 : w.frozen? ⟨b, 0, none⟩ = false) (f1 : w.frozen? ⟨b, 1, none⟩ = false)
    (hbo : Calls Tryz.prog 57 #[.pointer (some ⟨b, 0, none⟩)] (w.setCell ⟨b, 1, none⟩ (.int .i32 1)) fun e w' => e = .returned (.tuple #[]) ∧ w'.cell? ⟨b, 0, none⟩ = some (.int .u32 0) ∧ w'.frozen? ⟨b, 0, none⟩ = false ∧ w'.cell? ⟨b, 1, none⟩ = some (.int .i32 1) ∧ w'.frozen? ⟨b, 1, none⟩ = false ∧ Q w') :
    Calls Tryz.prog 56 #[.pointer (some ⟨b, 0, none⟩), .func (.func 57) #[.pointer (some ⟨b, 0, none⟩)] #[]] w fun e w' => e = .returned (.tuple #[]) ∧ ∃ w1, Q w1 ∧ w' = (w1.drew.setCell ⟨b, 0, none⟩ (.int .u32 1)).setCell ⟨b, 1, none⟩ (.int .i32 0) := by
  have hl := run_call_load (P := Tryz.prog) Tryz.func97 (by kernel_rfl) (by kernel_rfl) (by kernel_rfl) .u32 (by kernel_rfl) h0
  have hnot : ∀ (x : Bool) (w : World), (Op.unary .not (.bool x)).run Tryz.prog w = .ok (.bool (!x)) w := fun _ _ => rfl
  go_enter Tryz.func56, Tryz.ntmps56
  go_wp2_with (first | (go_at_call 79; refine (sy_slow b _ Q h0 h1 f0 f1 hbo).mono ?_; rintro e w' ⟨rfl, w1, hQ, rfl⟩) | (go_at_call 78; go_in))
  go_end0
  exact ⟨rfl, _, hQ, rfl⟩
set_option maxHeartbeats 1600000 in
theorem nr_at (a : Nat) (w : World) (s0 s1 s2 s3 s4 s5 : ByteArray) (ha : w.heap[a]? = some (.cells #[.string s0, .string s1, .string s2, .string s3, .string s4, .string s5] 9 (0, 0))) :
    Calls Tryz.prog 37 #[.slice (some ⟨a, 0, none⟩) 6 6] w fun e w' => e = .returned (.pointer (some ⟨w.heap.size + 1, 0, none⟩)) ∧ ∃ C, w' = ((w.alloc (.cells (#[.string s0, .string s1, .string s2, .string s3, .string s4, .string s5] ++ Builtin.zeroCells #[.string ⟨#[]⟩] (C - 6)) 9)).alloc
      (.cells #[.int .u32 0, .int .i32 0, .int .u32 0, .nilIface, .slice (some ⟨w.heap.size, 0, none⟩) 6 C] 100)).drew := by
  have hrem : (Op.intDiv .rem .i64 6 2 : Sem Value).run Tryz.prog w = .ok (.int .i64 0) w := rfl
  have c0 : w.cell? ⟨a, 0, none⟩ = some (.string s0) := by simp [World.cell?, ha]
  have c1 : w.cell? ⟨a, 1, none⟩ = some (.string s1) := by simp [World.cell?, ha]
  have c2 : w.cell? ⟨a, 2, none⟩ = some (.string s2) := by simp [World.cell?, ha]
  have c3 : w.cell? ⟨a, 3, none⟩ = some (.string s3) := by simp [World.cell?, ha]
  have c4 : w.cell? ⟨a, 4, none⟩ = some (.string s4) := by simp [World.cell?, ha]
  have c5 : w.cell? ⟨a, 5, none⟩ = some (.string s5) := by simp [World.cell?, ha]
  go_enter Tryz.func37, Tryz.ntmps37
  go_wp2
  go_ret
  exact ⟨rfl, _, rfl⟩
structure RepAt (g t : Nat) (w : World) : Prop where
  hit : ∀ b : UInt8, isEsc b = true → ∃ m cap y, w.cell? ⟨g, b.toNat, none⟩ = some (.slice (some ⟨m, 0, none⟩) 2 cap) ∧ m < w.heap.size ∧ w.cell? ⟨m, 0, none⟩ = some (.int .u8 92) ∧ w.cell? ⟨m, 1, none⟩ = some (.int .u8 (UInt8.toNat y : Nat)) ∧ escB b = [92, y]
  miss : ∀ b : UInt8, isEsc b = false → w.cell? ⟨g, b.toNat, none⟩ = some (.slice none 0 0)
  tr : w.cell? ⟨g, 256, none⟩ = some (.slice (some ⟨t, 0, none⟩) 3 3)
  t0 : w.cell? ⟨t, 0, none⟩ = some (.string ⟨#[10]⟩)
  t1 : w.cell? ⟨t, 1, none⟩ = some (.string ⟨#[34]⟩)
  t2 : w.cell? ⟨t, 2, none⟩ = some (.string ⟨#[92]⟩)
  g_lt : g < w.heap.size
  t_lt : t < w.heap.size
theorem RepAt.below {g t : Nat} {w w' : World} (h : RepAt g t w) (hb : Below w.heap.size w w') : RepAt g t w' := by
  refine ⟨fun b hb' => ?_, fun b hb' => ?_, ?_, ?_, ?_, ?_, Nat.lt_of_lt_of_le h.g_lt hb.size, Nat.lt_of_lt_of_le h.t_lt hb.size⟩
  · obtain ⟨m, cap, y, h1, h2, h3, h4, h5⟩ := h.hit b hb'
    exact ⟨m, cap, y, (hb.cell (p := ⟨g, b.toNat, none⟩) h.g_lt).trans h1, Nat.lt_of_lt_of_le h2 hb.size, (hb.cell (p := ⟨m, 0, none⟩) h2).trans h3, (hb.cell (p := ⟨m, 1, none⟩) h2).trans h4, h5⟩
  · exact (hb.cell (p := ⟨g, b.toNat, none⟩) h.g_lt).trans (h.miss b hb')
  · exact (hb.cell (p := ⟨g, 256, none⟩) h.g_lt).trans h.tr
  · exact (hb.cell (p := ⟨t, 0, none⟩) h.t_lt).trans h.t0
  · exact (hb.cell (p := ⟨t, 1, none⟩) h.t_lt).trans h.t1
  · exact (hb.cell (p := ⟨t, 2, none⟩) h.t_lt).trans h.t2
theorem byte_one (c : UInt8) (h : 0 < (ByteArray.mk #[c]).size) : (ByteArray.mk #[c])[0] = c := rfl
theorem byte10 : (10 : UInt8).toNat = 10 := rfl
theorem byte34 : (34 : UInt8).toNat = 34 := rfl
theorem byte92 : (92 : UInt8).toNat = 92 := rfl
attribute [local go_sem] byte_one byte10 byte34 byte92
theorem below_drew (w : World) : Below w.heap.size w w.drew := ⟨rfl, rfl, rfl, Nat.le_refl _, fun _ _ => rfl⟩
theorem below_drew2 (B : Nat) (w : World) : Below B w w.drew := ⟨rfl, rfl, rfl, Nat.le_refl _, fun _ _ => rfl⟩
def u8v (b : UInt8) : Value := .int .u8 (UInt8.toNat b : Nat)
def bufG (out : List UInt8) (n : Nat) : List Value := out.map u8v ++ List.replicate (n - out.length) (.int .u8 0)
theorem bufG_len {out : List UInt8} {n : Nat} (h : out.length ≤ n) : (bufG out n).length = n := by simp [bufG]; omega
theorem bufG_splice (out xs : List UInt8) (n : Nat) (h : out.length + xs.length ≤ n) : splice (bufG out n) out.length (xs.map u8v) = bufG (out ++ xs) n := by
  unfold splice bufG
  rw [List.length_map, List.take_left' (by simp), List.map_append, List.append_assoc]
  congr 2
  rw [show out.length + xs.length = (out.map u8v).length + xs.length by simp, ← List.drop_drop, List.drop_left, List.drop_replicate, List.length_append]
  congr 1; omega
theorem bufG_set (out : List UInt8) (x : UInt8) (n : Nat) (h : out.length + 1 ≤ n) : (bufG out n).set out.length (u8v x) = bufG (out ++ [x]) n := by
  have h1 := bufG_splice out [x] n h
  rw [← h1]
  unfold splice
  rw [List.set_eq_take_append_cons_drop, if_pos (by rw [bufG_len (by omega)]; omega)]
  rfl
theorem bufG_zero (n : Nat) : madeCells #[.int .u8 0] n = (bufG [] n).toArray := by
  have : (bufG [] n) = List.replicate n (.int .u8 0) := by simp [bufG]
  rw [this]
  apply Array.ext
  · simp [madeCells]
  · intro i h1 h2
    simp [madeCells, Nat.mod_one]
def outB (l : List UInt8) (k : Nat) : List UInt8 := escL (l.take k)
def outN (l : List UInt8) (k : Nat) : Nat := (outB l k).length
def bufV (l : List UInt8) (n k : Nat) : List Value := bufG (outB l k) n
theorem outB_succ {l : List UInt8} {k : Nat} (hk : k < l.length) : outB l (k + 1) = outB l k ++ escB l[k] := by
  unfold outB
  rw [List.take_add_one, List.getElem?_eq_getElem hk, escL_append]
  simp [escL]
theorem escN_succ {l : List UInt8} {k : Nat} (hk : k < l.length) : escN (l.take (k + 1)) = escN (l.take k) + if isEsc l[k] then 1 else 0 := by
  unfold escN
  rw [List.take_add_one, List.getElem?_eq_getElem hk, List.countP_append]
  simp [List.countP_cons]
theorem escL_mono (l : List UInt8) (k : Nat) : (escL (l.take k)).length ≤ (escL l).length := by
  conv => rhs; rw [← List.take_append_drop k l, escL_append, List.length_append]
  omega
theorem heap_set {w : World} {m i : Nat} {c : List Value} {T : TypeId} {fr : Nat × Nat} (h : w.heap[m]? = some (.cells c.toArray T fr)) (v : Value) : (w.setCell ⟨m, i, none⟩ v).heap[m]? = some (.cells (c.set i v).toArray T fr) := by
  simp [World.setCell, Array.getElem?_modify, h]
def cn (x y z : Nat) : Nat → Nat
  | 0 => 0
  | 1 => x
  | 2 => x + y
  | _ => x + y + z
def gt0 (n : Nat) : Bool := decide (0 < n)
set_option maxHeartbeats 3200000 in
theorem rp_at (g t : Nat) (l : List UInt8) (w : World) (hl : l.length ≤ 4294967296) (h : RepAt g t w)
    (hcnt : ∀ (c : UInt8) (w : World), Calls Tryz.prog 14 #[.string ⟨l.toArray⟩, .string ⟨#[c]⟩] w fun e w' => e = .returned (.int .i64 (l.count c)) ∧ w' = w) :
    Calls Tryz.prog 173 #[.pointer (some ⟨g, 0, none⟩), .string ⟨l.toArray⟩] w fun e w' => e = .returned (.string ⟨(escL l).toArray⟩) ∧ Below w.heap.size w w' := by
  have htr := h.tr
  have hsz : (ByteArray.mk l.toArray).size = l.length := rfl
  have q10 := hcnt 10
  have q34 := hcnt 34
  have q92 := hcnt 92
  have hN := escN_counts l
  have hNl : escN l ≤ l.length := List.countP_le_length
  have hc10 := List.count_le_length (a := (10 : UInt8)) (l := l)
  have hc34 := List.count_le_length (a := (34 : UInt8)) (l := l)
  have hc92 := List.count_le_length (a := (92 : UInt8)) (l := l)
  clear hcnt
  generalize l.count 10 = x10 at *
  generalize l.count 34 = x34 at *
  generalize l.count 92 = x92 at *
  have hmk : ∀ (n : Nat) (w : World), n ≤ 281474976710656 → (Instr.makeSlice 43 (.int .i64 (n : Int)) (.int .i64 (n : Int))).run Tryz.prog w = .ok (.slice (some ⟨w.heap.size, 0, none⟩) n n) (w.alloc (.cells (madeCells #[.int .u8 0] n) 5)) := fun n w hn =>
    run_make_row' (P := Tryz.prog) 43 5 (.int .u8 0) 1 Tryz.underlying43 (by kernel_rfl) rfl .i64 .i64 n (by omega) (by omega) w
  go_enter Tryz.func173, Tryz.ntmps173
  go_wp2
  · rename_i hbig; clear hbig
    go_loopw [5, 6, 32] (fun ns an i wr => ∃ k : Nat, k ≤ 3 ∧ i = .int .i64 k ∧ ns = .int .i64 ((l.length + cn x10 x34 x92 k : Nat) : Int) ∧ an = .bool (gt0 (cn x10 x34 x92 k)) ∧ Hid (RepAt g t wr) ∧ Hid (Below w.heap.size w wr)) (fun _ _ i _ => 3 - (RowKit.intOf i).toNat)
    case atStart => exact ⟨0, by omega, rfl, rfl, rfl, h, Below.refl _ _⟩
    case round =>
      obtain ⟨k, hk, rfl, rfl, rfl, hR, hB⟩ := hrel
      have hR' := hR.out
      have k0 := hR'.t0
      have k1 := hR'.t1
      have k2 := hR'.t2
      obtain ⟨m10, e10, y10, g10, _, _, _, _⟩ := hR'.hit 10 rfl
      obtain ⟨m34, e34, y34, g34, _, _, _, _⟩ := hR'.hit 34 rfl
      obtain ⟨m92, e92, y92, g92, _, _, _, _⟩ := hR'.hit 92 rfl
      simp only [show (10 : UInt8).toNat = 10 from rfl, show (34 : UInt8).toNat = 34 from rfl, show (92 : UInt8).toNat = 92 from rfl] at g10 g34 g92
      clear hR'
      rcases (show k = 0 ∨ k = 1 ∨ k = 2 ∨ k = 3 by omega) with rfl | rfl | rfl | rfl
      · simp only [cn]
        go_wp2_with (go_at_call 14; refine (q10 _).mono ?_; rintro e w' ⟨rfl, rfl⟩)
        · have hne : ((x10 : Int) != 0) = true := by assumption
          have hne' : ¬ x10 = 0 := by simpa using hne
          go_region
          go_wp2
          go_roundw
          case rel => exact ⟨1, by omega, rfl, rfl, by simp only [gt0, cn]; rw [decide_eq_true (by omega)], hR.out.below (below_drew _), hB.out.trans (below_drew2 _ _)⟩
          case measure => simp [RowKit.intOf]
        · have hne : ((x10 : Int) != 0) = false := by assumption
          have hne' : x10 = 0 := by simpa using hne
          go_roundw
          case rel => exact ⟨1, by omega, rfl, by simp only [cn]; congr 1; omega, by simp only [cn, hne', Nat.add_zero], hR, hB⟩
          case measure => simp [RowKit.intOf]
      · simp only [cn]
        go_wp2_with (go_at_call 14; refine (q34 _).mono ?_; rintro e w' ⟨rfl, rfl⟩)
        · have hne : ((x34 : Int) != 0) = true := by assumption
          have hne' : ¬ x34 = 0 := by simpa using hne
          go_region
          go_wp2
          go_roundw
          case rel => exact ⟨2, by omega, rfl, by simp only [cn]; congr 1; omega, by simp only [gt0, cn]; rw [decide_eq_true (by omega)], hR.out.below (below_drew _), hB.out.trans (below_drew2 _ _)⟩
          case measure => simp [RowKit.intOf]
        · have hne : ((x34 : Int) != 0) = false := by assumption
          have hne' : x34 = 0 := by simpa using hne
          go_roundw
          case rel => exact ⟨2, by omega, rfl, by simp only [cn]; congr 1; omega, by simp only [cn, hne', Nat.add_zero], hR, hB⟩
          case measure => simp [RowKit.intOf]
      · simp only [cn]
        go_wp2_with (go_at_call 14; refine (q92 _).mono ?_; rintro e w' ⟨rfl, rfl⟩)
        · have hne : ((x92 : Int) != 0) = true := by assumption
          have hne' : ¬ x92 = 0 := by simpa using hne
          go_region
          go_wp2
          go_roundw
          case rel => exact ⟨3, by omega, rfl, by simp only [cn]; congr 1; omega, by simp only [gt0, cn]; rw [decide_eq_true (by omega)], hR.out.below (below_drew _), hB.out.trans (below_drew2 _ _)⟩
          case measure => simp [RowKit.intOf]
        · have hne : ((x92 : Int) != 0) = false := by assumption
          have hne' : x92 = 0 := by simpa using hne
          go_roundw
          case rel => exact ⟨3, by omega, rfl, by simp only [cn]; congr 1; omega, by simp only [cn, hne', Nat.add_zero], hR, hB⟩
          case measure => simp [RowKit.intOf]
      · simp only [cn, ← hN]
        generalize hNN : escN l = N at *
        generalize hnn : l.length + N = n at *
        clear hN q10 q34 q92 g10 g34 g92 k0 k1 k2
        have hmk' := fun w => hmk n w (by omega)
        clear hmk
        rename World => w1
        go_wp2
        · have hg0 : (!gt0 N) = true := by assumption
          have : N = 0 := by unfold gt0 at hg0; simpa using hg0
          refine bodyPost_ret (results_tmp rfl _ _ _) rfl ?_
          refine ⟨?_, hB.out⟩
          rw [escL_none (hNN.trans this)]; rfl
        · clear hmk'
          generalize ((3 : Nat) : Int) = z3
          have hgz : (!gt0 N) = false := by assumption
          simp only [hgz]
          obtain ⟨m, hm0⟩ : ∃ m, m = w1.heap.size := ⟨_, rfl⟩
          rw [← hm0]
          have hm : Hid (m = w1.heap.size) := hm0
          clear hm0
          have hlen : (escL l).length = n := by rw [escL_len, hNN, hnn]
          go_loopw [13, 14] (fun j i w2 => ∃ k : Nat, k ≤ l.length ∧ i = .int .i64 k ∧ j = .int .i64 (outN l k) ∧ Hid (w2.heap[m]? = some (.cells (bufV l n k).toArray 5 (0, 0))) ∧ Hid (Below m w1 w2)) (fun _ i _ => l.length - (RowKit.intOf i).toNat)
          case atStart => exact ⟨0, by omega, rfl, rfl, by show (w1.heap.push _)[m]? = _; rw [hm.out, Array.getElem?_push_size, bufG_zero]; rfl, (Below.refl _ _).alloc (by rw [hm.out]; exact Nat.le_refl _) _⟩
          case round =>
            obtain ⟨k, hk, rfl, rfl, hbuf, hB2⟩ := hrel
            have hR2 : RepAt g t wr := (hR.out).below (by rw [← hm.out]; exact hB2.out)
            have hmlt : m < wr.heap.size := (Array.getElem?_eq_some_iff.1 hbuf.out).1
            by_cases hlt : k < l.length
            · obtain ⟨x, hx⟩ : ∃ x, x = l[k] := ⟨_, rfl⟩
              have hget : ∀ h, (ByteArray.mk l.toArray)[k]'h = x := fun h => hx.symm
              have hx256 : x.toNat < 256 := x.toNat_lt
              have hx256i : (x.toNat : Int) < 256 := by omega
              have hlti : (k : Int) < l.length := by omega
              have hmono := escL_mono l (k + 1)
              have hsucc := outB_succ hlt
              rw [← hx] at hsucc
              clear hx
              rw [hlen, show escL (l.take (k + 1)) = outB l (k + 1) from rfl, hsucc, List.length_append] at hmono
              cases hb : isEsc x with
              | true =>
                obtain ⟨a, cap, y, r1, ra, r2, r3, he⟩ := hR2.hit x hb
                rw [he] at hmono hsucc
                have hroom : outN l k + 2 ≤ n := hmono
                have n1 : ∀ w : World, (binOp .neq 43 (.slice (some ⟨a, 0, none⟩) 2 cap) (.slice none 0 0)).run Tryz.prog w = .ok (.bool true) w := fun w => run_neq_slice_nil (P := Tryz.prog) (w := w) 43 5 (some ⟨a, 0, none⟩) 2 cap Tryz.underlying43
                clear hmono hR2
                have hsl : (outN l k : Int) ≤ n := by omega
                have hne : ¬ n = outN l k := by omega
                have hbl : (bufV l n k).length = n := bufG_len (by unfold outN at hroom; omega)
                have hsrc : ∀ (j : Nat) (v : Value), ([92, y].map u8v)[j]? = some v → wr.cell? ((⟨a, 0, none⟩ : Addr).add j) = some v := by
                  intro j v hj
                  match j, hj with
                  | 0, hj => rw [← hj]; exact r2
                  | 1, hj => rw [← hj]; exact r3
                have hfit : outN l k + ([92, y].map u8v).length ≤ (bufV l n k).length := by rw [hbl]; exact hroom
                have hone : ∀ v ∈ [92, y].map u8v, v.oneCell' = true := by simp [u8v, Value.oneCell']
                have hmin : ([92, y].map u8v).length = Nat.min 2 (n - outN l k) := (Nat.min_eq_left (by omega)).symm
                have Hs : Hid (bufV l n (k + 1) = splice (bufV l n k) (outN l k) ([92, y].map u8v)) := by
                  have := bufG_splice (outB l k) [92, y] n hroom
                  show _ = _
                  unfold bufV outN
                  rw [this, hsucc]
                have Ho : Hid (outN l (k + 1) = outN l k + 2) := by show _ = _; unfold outN; rw [hsucc, List.length_append]; rfl
                clear hsucc
                go_wp2
                go_region_law (refine step_copy_splice rfl (.tmp 105) (.tmp 111) 43 43 rfl 5 Tryz.underlying43 (by kernel_rfl) (some ⟨m, outN l k, none⟩) (some ⟨a, 0, none⟩) (n - outN l k) (n - outN l k) 2 cap (by simp [Act.eval, Act.put]) (by simp [Act.eval, Act.put]) m (outN l k) (bufV l n k) 5 hbuf.out ([92, y].map u8v) hmin (fun _ => ⟨rfl, _, rfl, hsrc⟩) hfit hone m w1 (hB2.out.trans (below_drew2 _ _)) (Nat.le_refl m) ?_; intro w4 hg4 hb4)
                go_wp2
                go_roundw
                case rel =>
                  refine ⟨k + 1, by omega, by go_num, ?_, ?_, hb4⟩
                  · rw [Ho.out]; simp
                  · show _ = _
                    rw [hg4.out, Hs.out]
                case measure => simp [RowKit.intOf]; omega
              | false =>
                have r1 := hR2.miss x hb
                rw [escB_not hb] at hmono hsucc
                have hroom : outN l k + 1 ≤ n := hmono
                have hrooi : (outN l k : Int) < n := by omega
                have c1 : wr.cell? ⟨m, outN l k, none⟩ = some (.int .u8 0) := by
                  have : (bufV l n k)[outN l k]? = some (.int .u8 0) := by
                    unfold bufV bufG outN
                    rw [List.getElem?_append_right (by simp), List.length_map, Nat.sub_self, List.getElem?_replicate, if_pos (by unfold outN at hroom; omega)]
                  simp [World.cell?, hbuf.out, this]
                have f1 : wr.frozen? ⟨m, outN l k, none⟩ = false := by simp [World.frozen?, hbuf.out]
                have n1 : ∀ w : World, (binOp .neq 43 (.slice none 0 0) (.slice none 0 0)).run Tryz.prog w = .ok (.bool false) w := fun w => run_neq_slice_nil (P := Tryz.prog) (w := w) 43 5 none 0 0 Tryz.underlying43
                clear hmono hR2
                go_wp2
                go_roundw
                case rel => 
                  refine ⟨k + 1, by omega, by go_num, ?_, ?_, ?_⟩
                  · unfold outN; rw [hsucc, List.length_append]; rfl
                  · show _ = _
                    rw [heap_set hbuf.out]
                    unfold bufV
                    rw [hsucc]
                    exact congrArg (fun c : List Value => some (Obj.cells c.toArray 5 (0, 0))) (bufG_set _ _ _ hroom)
                  · exact hB2.out.setCell (show m ≤ _ from Nat.le_refl m) _
                case measure => simp [RowKit.intOf]; omega
            · have : k = l.length := by omega
              subst this
              have hcv : (convert 43 9 (.slice (some ⟨m, 0, none⟩) n n)).run Tryz.prog wr = .ok (.string ⟨(escL l).toArray⟩) wr := by
                have hb : bufV l n l.length = (escL l).map u8v := by
                  unfold bufV bufG outB
                  rw [List.take_length, hlen, Nat.sub_self]; simp
                have hbu := hbuf.out
                rw [hb] at hbu
                have := run_convert_bytes_arg (P := Tryz.prog) wr 43 5 Tryz.underlying43 Tryz.underlying5 m 0 n n ((escL l).map fun b => (UInt8.toNat b : Int)) (by rw [List.length_map, hlen]) (fun i hi => by
                  rw [Nat.zero_add]
                  simp [World.cell?, hbu, u8v, List.getElem?_eq_getElem (show i < (escL l).length by omega)]) 9 Tryz.underlying9
                rw [this]
                simp [strOfNums, List.map_map, Function.comp_def]
              clear hR2
              go_wp2
              refine bodyPost_ret (results_tmp rfl _ _ _) rfl ?_
              exact ⟨rfl, hB.out.trans (hB2.out.mono (by rw [hm.out]; exact hB.out.size))⟩
  · rename_i hbig; clear hbig
    go_loopw [5, 6, 10] (fun ns an i wr => ∃ k : Nat, k ≤ l.length ∧ i = .int .i64 k ∧ ns = .int .i64 ((l.length + escN (l.take k) : Nat) : Int) ∧ an = .bool (gt0 (escN (l.take k))) ∧ Hid (RepAt g t wr) ∧ Hid (Below w.heap.size w wr)) (fun _ _ i _ => l.length - (RowKit.intOf i).toNat)
    case atStart => exact ⟨0, by omega, rfl, by simp [escN], rfl, h, Below.refl _ _⟩
    case round =>
      obtain ⟨k, hk, rfl, rfl, rfl, hR, hB⟩ := hrel
      by_cases hlt : k < l.length
      · obtain ⟨x, hx⟩ : ∃ x, x = l[k] := ⟨_, rfl⟩
        have hget : ∀ h, (ByteArray.mk l.toArray)[k]'h = x := fun h => hx.symm
        have hx256 : x.toNat < 256 := x.toNat_lt
        have hx256i : (x.toNat : Int) < 256 := by omega
        have hlti : (k : Int) < l.length := by omega
        have hsucc := escN_succ hlt
        rw [← hx] at hsucc
        clear hx hN
        have hcl : escN (l.take k) ≤ l.length := Nat.le_trans List.countP_le_length (by rw [List.length_take]; omega)
        generalize escN (l.take k) = c at *
        have hR2 := hR.out
        cases hb : isEsc x with
        | true =>
          obtain ⟨a, cap, y, r1, ra, r2, r3, he⟩ := hR2.hit x hb
          rw [hb, if_pos rfl] at hsucc
          have hs : Hid (escN (l.take (k + 1)) = c + 1) := hsucc
          have n1 : ∀ w : World, (binOp .neq 43 (.slice (some ⟨a, 0, none⟩) 2 cap) (.slice none 0 0)).run Tryz.prog w = .ok (.bool true) w := fun w => run_neq_slice_nil (P := Tryz.prog) (w := w) 43 5 (some ⟨a, 0, none⟩) 2 cap Tryz.underlying43
          clear hsucc hR2
          go_wp2
          go_roundw
          case rel => exact ⟨k + 1, by omega, by go_num, by rw [hs.out]; go_num, by rw [hs.out]; rfl, hR, hB⟩
          case measure => simp [RowKit.intOf]; omega
        | false =>
          have r1 := hR2.miss x hb
          rw [hb, if_neg (by decide)] at hsucc
          have hs : Hid (escN (l.take (k + 1)) = c) := hsucc
          have n1 : ∀ w : World, (binOp .neq 43 (.slice none 0 0) (.slice none 0 0)).run Tryz.prog w = .ok (.bool false) w := fun w => run_neq_slice_nil (P := Tryz.prog) (w := w) 43 5 none 0 0 Tryz.underlying43
          clear hsucc hR2
          go_wp2
          go_roundw
          case rel => exact ⟨k + 1, by omega, by go_num, by rw [hs.out], by rw [hs.out], hR, hB⟩
          case measure => simp [RowKit.intOf]; omega
      · have : k = l.length := by omega
        subst this
        simp only [List.take_length]
        clear hN
        generalize hNN : escN l = N at *
        generalize hnn : l.length + N = n at *
        have hmk' := fun w => hmk n w (by omega)
        clear hmk
        rename World => w1
        go_wp2
        · have hg0 : (!gt0 N) = true := by assumption
          have : N = 0 := by unfold gt0 at hg0; simpa using hg0
          refine bodyPost_ret (results_tmp rfl _ _ _) rfl ?_
          refine ⟨?_, hB.out⟩
          rw [escL_none (hNN.trans this)]; rfl
        · clear hmk'
          generalize ((3 : Nat) : Int) = z3
          have hgz : (!gt0 N) = false := by assumption
          simp only [hgz]
          obtain ⟨m, hm0⟩ : ∃ m, m = w1.heap.size := ⟨_, rfl⟩
          rw [← hm0]
          have hm : Hid (m = w1.heap.size) := hm0
          clear hm0
          have hlen : (escL l).length = n := by rw [escL_len, hNN, hnn]
          go_loopw [13, 14] (fun j i w2 => ∃ k : Nat, k ≤ l.length ∧ i = .int .i64 k ∧ j = .int .i64 (outN l k) ∧ Hid (w2.heap[m]? = some (.cells (bufV l n k).toArray 5 (0, 0))) ∧ Hid (Below m w1 w2)) (fun _ i _ => l.length - (RowKit.intOf i).toNat)
          case atStart => exact ⟨0, by omega, rfl, rfl, by show (w1.heap.push _)[m]? = _; rw [hm.out, Array.getElem?_push_size, bufG_zero]; rfl, (Below.refl _ _).alloc (by rw [hm.out]; exact Nat.le_refl _) _⟩
          case round =>
            obtain ⟨k, hk, rfl, rfl, hbuf, hB2⟩ := hrel
            have hR2 : RepAt g t wr := (hR.out).below (by rw [← hm.out]; exact hB2.out)
            have hmlt : m < wr.heap.size := (Array.getElem?_eq_some_iff.1 hbuf.out).1
            by_cases hlt : k < l.length
            · obtain ⟨x, hx⟩ : ∃ x, x = l[k] := ⟨_, rfl⟩
              have hget : ∀ h, (ByteArray.mk l.toArray)[k]'h = x := fun h => hx.symm
              have hx256 : x.toNat < 256 := x.toNat_lt
              have hx256i : (x.toNat : Int) < 256 := by omega
              have hlti : (k : Int) < l.length := by omega
              have hmono := escL_mono l (k + 1)
              have hsucc := outB_succ hlt
              rw [← hx] at hsucc
              clear hx
              rw [hlen, show escL (l.take (k + 1)) = outB l (k + 1) from rfl, hsucc, List.length_append] at hmono
              cases hb : isEsc x with
              | true =>
                obtain ⟨a, cap, y, r1, ra, r2, r3, he⟩ := hR2.hit x hb
                rw [he] at hmono hsucc
                have hroom : outN l k + 2 ≤ n := hmono
                have n1 : ∀ w : World, (binOp .neq 43 (.slice (some ⟨a, 0, none⟩) 2 cap) (.slice none 0 0)).run Tryz.prog w = .ok (.bool true) w := fun w => run_neq_slice_nil (P := Tryz.prog) (w := w) 43 5 (some ⟨a, 0, none⟩) 2 cap Tryz.underlying43
                clear hmono hR2
                have hsl : (outN l k : Int) ≤ n := by omega
                have hne : ¬ n = outN l k := by omega
                have hbl : (bufV l n k).length = n := bufG_len (by unfold outN at hroom; omega)
                have hsrc : ∀ (j : Nat) (v : Value), ([92, y].map u8v)[j]? = some v → wr.cell? ((⟨a, 0, none⟩ : Addr).add j) = some v := by
                  intro j v hj
                  match j, hj with
                  | 0, hj => rw [← hj]; exact r2
                  | 1, hj => rw [← hj]; exact r3
                have hfit : outN l k + ([92, y].map u8v).length ≤ (bufV l n k).length := by rw [hbl]; exact hroom
                have hone : ∀ v ∈ [92, y].map u8v, v.oneCell' = true := by simp [u8v, Value.oneCell']
                have hmin : ([92, y].map u8v).length = Nat.min 2 (n - outN l k) := (Nat.min_eq_left (by omega)).symm
                have Hs : Hid (bufV l n (k + 1) = splice (bufV l n k) (outN l k) ([92, y].map u8v)) := by
                  have := bufG_splice (outB l k) [92, y] n hroom
                  show _ = _
                  unfold bufV outN
                  rw [this, hsucc]
                have Ho : Hid (outN l (k + 1) = outN l k + 2) := by show _ = _; unfold outN; rw [hsucc, List.length_append]; rfl
                clear hsucc
                go_wp2
                go_region_law (refine step_copy_splice rfl (.tmp 105) (.tmp 111) 43 43 rfl 5 Tryz.underlying43 (by kernel_rfl) (some ⟨m, outN l k, none⟩) (some ⟨a, 0, none⟩) (n - outN l k) (n - outN l k) 2 cap (by simp [Act.eval, Act.put]) (by simp [Act.eval, Act.put]) m (outN l k) (bufV l n k) 5 hbuf.out ([92, y].map u8v) hmin (fun _ => ⟨rfl, _, rfl, hsrc⟩) hfit hone m w1 (hB2.out.trans (below_drew2 _ _)) (Nat.le_refl m) ?_; intro w4 hg4 hb4)
                go_wp2
                go_roundw
                case rel =>
                  refine ⟨k + 1, by omega, by go_num, ?_, ?_, hb4⟩
                  · rw [Ho.out]; simp
                  · show _ = _
                    rw [hg4.out, Hs.out]
                case measure => simp [RowKit.intOf]; omega
              | false =>
                have r1 := hR2.miss x hb
                rw [escB_not hb] at hmono hsucc
                have hroom : outN l k + 1 ≤ n := hmono
                have hrooi : (outN l k : Int) < n := by omega
                have c1 : wr.cell? ⟨m, outN l k, none⟩ = some (.int .u8 0) := by
                  have : (bufV l n k)[outN l k]? = some (.int .u8 0) := by
                    unfold bufV bufG outN
                    rw [List.getElem?_append_right (by simp), List.length_map, Nat.sub_self, List.getElem?_replicate, if_pos (by unfold outN at hroom; omega)]
                  simp [World.cell?, hbuf.out, this]
                have f1 : wr.frozen? ⟨m, outN l k, none⟩ = false := by simp [World.frozen?, hbuf.out]
                have n1 : ∀ w : World, (binOp .neq 43 (.slice none 0 0) (.slice none 0 0)).run Tryz.prog w = .ok (.bool false) w := fun w => run_neq_slice_nil (P := Tryz.prog) (w := w) 43 5 none 0 0 Tryz.underlying43
                clear hmono hR2
                go_wp2
                go_roundw
                case rel => 
                  refine ⟨k + 1, by omega, by go_num, ?_, ?_, ?_⟩
                  · unfold outN; rw [hsucc, List.length_append]; rfl
                  · show _ = _
                    rw [heap_set hbuf.out]
                    unfold bufV
                    rw [hsucc]
                    exact congrArg (fun c : List Value => some (Obj.cells c.toArray 5 (0, 0))) (bufG_set _ _ _ hroom)
                  · exact hB2.out.setCell (show m ≤ _ from Nat.le_refl m) _
                case measure => simp [RowKit.intOf]; omega
            · have : k = l.length := by omega
              subst this
              have hcv : (convert 43 9 (.slice (some ⟨m, 0, none⟩) n n)).run Tryz.prog wr = .ok (.string ⟨(escL l).toArray⟩) wr := by
                have hb : bufV l n l.length = (escL l).map u8v := by
                  unfold bufV bufG outB
                  rw [List.take_length, hlen, Nat.sub_self]; simp
                have hbu := hbuf.out
                rw [hb] at hbu
                have := run_convert_bytes_arg (P := Tryz.prog) wr 43 5 Tryz.underlying43 Tryz.underlying5 m 0 n n ((escL l).map fun b => (UInt8.toNat b : Int)) (by rw [List.length_map, hlen]) (fun i hi => by
                  rw [Nat.zero_add]
                  simp [World.cell?, hbu, u8v, List.getElem?_eq_getElem (show i < (escL l).length by omega)]) 9 Tryz.underlying9
                rw [this]
                simp [strOfNums, List.map_map, Function.comp_def]
              clear hR2
              go_wp2
              refine bodyPost_ret (results_tmp rfl _ _ _) rfl ?_
              exact ⟨rfl, hB.out.trans (hB2.out.mono (by rw [hm.out]; exact hB.out.size))⟩
attribute [local go_sem] byte_one byte10 byte34 byte92
theorem run_eql_slice_nil {P : Program} {w : World} (t e : TypeId) (a : Option Addr) (l c : Nat) (h : P.underlying t = some (.slice e)) : (binOp .eql t (.slice a l c) (.slice none 0 0)).run P w = .ok (.bool a.isNone) w := by
  simp only [binOp]
  simp [run_equal_slice_nil w t e a l c h]
def stp : Nat → UInt8
  | 0 => 10
  | 1 => 34
  | _ => 92
def stn : Nat → List UInt8
  | 0 => [92, 110]
  | 1 => [92, 34]
  | _ => [92, 92]
def iv : Nat → Int
  | 0 => 4
  | 1 => 2
  | 2 => 0
  | _ => -2
def ord (b : UInt8) : Nat := if b = 10 then 0 else if b = 34 then 1 else if b = 92 then 2 else 3
def tsV : Nat → List Value
  | 0 => [.string ByteArray.empty, .string ByteArray.empty, .string ByteArray.empty]
  | 1 => [.string ⟨#[10]⟩, .string ByteArray.empty, .string ByteArray.empty]
  | 2 => [.string ⟨#[10]⟩, .string ⟨#[34]⟩, .string ByteArray.empty]
  | _ => [.string ⟨#[10]⟩, .string ⟨#[34]⟩, .string ⟨#[92]⟩]
theorem conv1 (w : World) (x : UInt8) : (convert 43 9 (.slice (some ⟨w.heap.size, 0, none⟩) 1 1)).run Tryz.prog (w.alloc (.cells #[.int .u8 (UInt8.toNat x : Nat)] 5)) = .ok (.string ⟨#[x]⟩) (w.alloc (.cells #[.int .u8 (UInt8.toNat x : Nat)] 5)) := by
  have := run_convert_bytes_arg (P := Tryz.prog) (w.alloc (.cells #[.int .u8 (UInt8.toNat x : Nat)] 5)) 43 5 Tryz.underlying43 Tryz.underlying5 w.heap.size 0 1 1 [(UInt8.toNat x : Int)] rfl (fun i hi => by
    obtain rfl : i = 0 := by omega
    go_simp) 9 Tryz.underlying9
  rw [this]
  simp [strOfNums]
def cpB (W : World) : Nat := grownCap W 2 0 5
def boB (W : World) (s : ByteArray) : Obj := .cells (bytesRow s (cpB W)) 5 ((bytesRow s (cpB W)).size, (bytesRow s (cpB W)).size + 1)
theorem convB (W : World) (x y : UInt8) : (convert 9 43 (.string ⟨#[x, y]⟩)).run Tryz.prog W = .ok (.slice (some ⟨W.heap.size, 0, none⟩) 2 (cpB W)) (W.drew.alloc (boB W ⟨#[x, y]⟩)) := by
  have := run_bytes_of_string (P := Tryz.prog) W 9 43 5 ⟨#[x, y]⟩ Tryz.underlying9 Tryz.underlying43 Tryz.underlying5
  exact this
structure BdInv (g t : Nat) (k : Nat) (w0 w : World) : Prop where
  row : ∃ f, w.rowIs g 149 257 f ∧ f 256 = .slice (some ⟨t, 0, none⟩) k 3 ∧
    (∀ b : UInt8, ord b < k → ∃ m cap y, f b.toNat = .slice (some ⟨m, 0, none⟩) 2 cap ∧ m < w.heap.size ∧ w.cell? ⟨m, 0, none⟩ = some (.int .u8 92) ∧ w.cell? ⟨m, 1, none⟩ = some (.int .u8 (UInt8.toNat y : Nat)) ∧ escB b = [92, y]) ∧
    (∀ b : UInt8, k ≤ ord b → f b.toNat = .slice none 0 0)
  ts : w.heap[t]? = some (.cells (tsV k).toArray 9 (0, 0))
  bel : Below w0.heap.size w0 w
def sty : Nat → UInt8
  | 0 => 110
  | 1 => 34
  | _ => 92
theorem ord_stp {k : Nat} (hk : k < 3) : ord (stp k) = k := by
  match k, hk with
  | 0, _ => rfl
  | 1, _ => rfl
  | 2, _ => rfl
theorem ord_eq {k : Nat} (hk : k < 3) {b : UInt8} (h : ord b = k) : b = stp k := by
  unfold ord at h
  by_cases h1 : b = 10
  · rw [if_pos h1] at h; subst h; exact h1
  · rw [if_neg h1] at h
    by_cases h2 : b = 34
    · rw [if_pos h2] at h; subst h; exact h2
    · rw [if_neg h2] at h
      by_cases h3 : b = 92
      · rw [if_pos h3] at h; subst h; exact h3
      · rw [if_neg h3] at h; omega
theorem esc_stp {k : Nat} (hk : k < 3) : escB (stp k) = [92, sty k] := by
  match k, hk with
  | 0, _ => rfl
  | 1, _ => rfl
  | 2, _ => rfl
theorem tsV_set {k : Nat} (hk : k < 3) : (tsV k).set k (.string ⟨#[stp k]⟩) = tsV (k + 1) := by
  match k, hk with
  | 0, _ => rfl
  | 1, _ => rfl
  | 2, _ => rfl
theorem heap_setOther {w : World} {m i : Nat} {a : Addr} (v : Value) (ha : m ≠ a.block) : (w.setCell a v).heap[m]? = w.heap[m]? := by
  simp [World.setCell, Array.getElem?_modify, Ne.symm ha]
theorem heap_allocPast {w : World} {m : Nat} (o : Obj) (h : m < w.heap.size) : (w.alloc o).heap[m]? = w.heap[m]? := by
  show (w.heap.push o)[m]? = _
  rw [Array.getElem?_push, if_neg (by omega)]
theorem bd_step {g t k : Nat} {w0 wr : World} (hk : k < 3) (h : BdInv g t k w0 wr) (hgt : g ≠ t) (hg0 : w0.heap.size ≤ g) (ht0 : w0.heap.size ≤ t) :
    ∃ W3 W4 m cap, W3 = (((wr.setCell ⟨t, k, none⟩ (.string ⟨#[stp k]⟩)).setCell ⟨g, 256, none⟩ (.slice (some ⟨t, 0, none⟩) (k + 1) 3)).alloc (.cells #[.int .u8 (UInt8.toNat (stp k) : Nat)] 5)).alloc (.cells #[.string ⟨#[stp k]⟩] 9) ∧
      (convert 9 43 (.string ⟨#[92, sty k]⟩)).run Tryz.prog W3 = .ok (.slice (some ⟨m, 0, none⟩) 2 cap) W4 ∧ W4.cell? ⟨g, (stp k).toNat, none⟩ = some (.slice none 0 0) ∧ W4.frozen? ⟨g, (stp k).toNat, none⟩ = false ∧
      BdInv g t (k + 1) w0 (W4.setCell ⟨g, (stp k).toNat, none⟩ (.slice (some ⟨m, 0, none⟩) 2 cap)) := by
  obtain ⟨⟨f, hrow, h256, hdone, htodo⟩, hts, hbel⟩ := h
  have hglt := hrow.lt
  have htlt : t < wr.heap.size := (Array.getElem?_eq_some_iff.1 hts).1
  have hb256 : (stp k).toNat < 256 := (stp k).toNat_lt
  obtain ⟨W1, hW1⟩ : ∃ W1, W1 = (wr.setCell ⟨t, k, none⟩ (.string ⟨#[stp k]⟩)).setCell ⟨g, 256, none⟩ (.slice (some ⟨t, 0, none⟩) (k + 1) 3) := ⟨_, rfl⟩
  have hs1 : W1.heap.size = wr.heap.size := by rw [hW1]; simp
  have r1 : W1.rowIs g 149 257 (fun j => if j = 256 then .slice (some ⟨t, 0, none⟩) (k + 1) 3 else f j) := by rw [hW1]; exact (hrow.setOther (a := ⟨t, k, none⟩) hgt _).set 256 _
  have t1 : W1.heap[t]? = some (.cells (tsV (k + 1)).toArray 9 (0, 0)) := by
    rw [hW1, heap_setOther (i := 0) _ (Ne.symm hgt), heap_set hts, tsV_set hk]
  have b1 : Below w0.heap.size w0 W1 := by rw [hW1]; exact (hbel.setCell ht0 _).setCell hg0 _
  have old1 : ∀ m j, m < wr.heap.size → m ≠ g → m ≠ t → W1.cell? ⟨m, j, none⟩ = wr.cell? ⟨m, j, none⟩ := by
    intro m j hm h1 h2
    rw [hW1]
    refine World.cell?_of_block ?_
    rw [heap_setOther (i := 0) _ h1, heap_setOther (i := 0) _ h2]
  obtain ⟨W2, hW2⟩ : ∃ W2, W2 = W1.alloc (.cells #[.int .u8 (UInt8.toNat (stp k) : Nat)] 5) := ⟨_, rfl⟩
  obtain ⟨W3, hW3⟩ : ∃ W3, W3 = W2.alloc (.cells #[.string ⟨#[stp k]⟩] 9) := ⟨_, rfl⟩
  obtain ⟨W4, hW4⟩ : ∃ W4, W4 = W3.drew.alloc (boB W3 ⟨#[92, sty k]⟩) := ⟨_, rfl⟩
  have hs2 : W2.heap.size = wr.heap.size + 1 := by rw [hW2]; show (W1.heap.push _).size = _; rw [Array.size_push, hs1]
  have hs3 : W3.heap.size = wr.heap.size + 2 := by rw [hW3]; show (W2.heap.push _).size = _; rw [Array.size_push, hs2]
  have hs4 : W4.heap.size = wr.heap.size + 3 := by rw [hW4]; show (W3.heap.push _).size = _; rw [Array.size_push, hs3]
  have e4 : ∀ m, m < wr.heap.size → W4.heap[m]? = W1.heap[m]? := by
    intro m hm
    rw [hW4, heap_allocPast _ (by show m < W3.heap.size; omega)]
    show W3.heap[m]? = _
    rw [hW3, heap_allocPast _ (by omega), hW2, heap_allocPast _ (by omega)]
  have r4 : W4.rowIs g 149 257 (fun j => if j = 256 then .slice (some ⟨t, 0, none⟩) (k + 1) 3 else f j) := r1.of_block (e4 g hglt)
  have b4 : Below w0.heap.size w0 W4 := by
    have hsz : w0.heap.size ≤ wr.heap.size := hbel.size
    refine b1.trans ?_
    rw [hW4]
    have a1 : Below w0.heap.size W1 W2 := by rw [hW2]; exact (Below.refl _ _).alloc (by omega) _
    have a2 : Below w0.heap.size W1 W3 := by rw [hW3]; exact a1.alloc (by omega) _
    exact (a2.trans (below_drew2 _ _)).alloc (by show _ ≤ W3.heap.size; omega) _
  have c4 : W4.cell? ⟨g, (stp k).toNat, none⟩ = some (.slice none 0 0) := by
    rw [r4.cell (by omega), if_neg (by omega), htodo _ (Nat.le_of_eq (ord_stp hk).symm)]
  have m4 : W4.heap[W3.heap.size]? = some (boB W3 ⟨#[92, sty k]⟩) := by
    rw [hW4]; show (W3.heap.push _)[W3.heap.size]? = _
    rw [Array.getElem?_push_size]
  refine ⟨W3, W4, W3.heap.size, cpB W3, by rw [hW3, hW2, hW1], by rw [hW4]; exact convB W3 92 (sty k), c4, r4.frozen _, ⟨_, r4.set (stp k).toNat _, ?_, ?_, ?_⟩, ?_, ?_⟩
  · rw [if_neg (by omega), if_pos rfl]
  · intro b hb
    have hbk : b.toNat < 256 := b.toNat_lt
    have hsz5 : ∀ (a : Addr) (v : Value), (W4.setCell a v).heap.size = wr.heap.size + 3 := fun a v => by rw [← hs4]; simp
    by_cases hbs : b = stp k
    · subst hbs
      refine ⟨W3.heap.size, cpB W3, sty k, if_pos rfl, by rw [hsz5]; omega, ?_, ?_, esc_stp hk⟩
      · rw [World.cell?_of_block (heap_setOther (i := 0) _ (by show W3.heap.size ≠ g; omega))]
        simp [World.cell?, m4, boB, bytesRow]
        rw [Array.getElem?_append_left (by simp)]; rfl
      · rw [World.cell?_of_block (heap_setOther (i := 0) _ (by show W3.heap.size ≠ g; omega))]
        simp [World.cell?, m4, boB, bytesRow]
        rw [Array.getElem?_append_left (by simp)]; rfl
    · have hlt : ord b < k := by
        have : ord b ≠ k := fun e => hbs (ord_eq hk e)
        omega
      obtain ⟨m, cap, y, q1, q2, q3, q4, q5⟩ := hdone b hlt
      have hne : ¬ b.toNat = (stp k).toNat := fun e => hbs (UInt8.toNat_inj.1 e)
      have hmg : m ≠ g := by
        rintro rfl
        have := hrow.cell (i := 0) (by decide)
        rw [q3] at this
        have hz := htodo 0 (by have : ord 0 = 3 := rfl; omega)
        rw [show (0 : UInt8).toNat = 0 from rfl] at hz
        rw [hz] at this; cases this
      have hmt : m ≠ t := by
        rintro rfl
        simp [World.cell?, hts] at q3
        match k, hk, q3 with
        | 0, _, q3 => simp [tsV] at q3
        | 1, _, q3 => simp [tsV] at q3
        | 2, _, q3 => simp [tsV] at q3
      have hold : ∀ j, (W4.setCell ⟨g, (stp k).toNat, none⟩ (.slice (some ⟨W3.heap.size, 0, none⟩) 2 (cpB W3))).cell? ⟨m, j, none⟩ = wr.cell? ⟨m, j, none⟩ := fun j => by
        rw [World.cell?_of_block (heap_setOther (i := 0) _ (by exact hmg)), World.cell?_of_block (e4 m q2), old1 m j q2 hmg hmt]
      exact ⟨m, cap, y, by rw [if_neg hne, if_neg (by omega)]; exact q1, by rw [hsz5]; omega, (hold 0).trans q3, (hold 1).trans q4, q5⟩
  · intro b hb
    have hbk : b.toNat < 256 := b.toNat_lt
    have hne : ¬ b.toNat = (stp k).toNat := fun e => by
      have := UInt8.toNat_inj.1 e
      rw [this, ord_stp hk] at hb; omega
    rw [if_neg hne, if_neg (by omega)]
    exact htodo b (by omega)
  · rw [heap_setOther (i := 0) _ (by exact Ne.symm hgt), e4 t htlt, t1]
  · exact b4.setCell hg0 _
theorem rep_of {g t : Nat} {w0 w : World} (h : BdInv g t 3 w0 w) : RepAt g t w := by
  obtain ⟨⟨f, hrow, h256, hdone, htodo⟩, hts, hbel⟩ := h
  refine ⟨fun b hb => ?_, fun b hb => ?_, ?_, ?_, ?_, ?_, hrow.lt, (Array.getElem?_eq_some_iff.1 hts).1⟩
  · have : ord b < 3 := by
      unfold isEsc at hb
      unfold ord
      simp only [Bool.or_eq_true, beq_iff_eq] at hb
      rcases hb with (h | h) | h <;> subst h <;> decide
    obtain ⟨m, cap, y, q1, q2⟩ := hdone b this
    exact ⟨m, cap, y, by rw [hrow.cell (by have := b.toNat_lt; omega), q1], q2⟩
  · have : ord b = 3 := by
      unfold isEsc at hb
      simp only [Bool.or_eq_false_iff, beq_eq_false_iff_ne] at hb
      unfold ord
      rw [if_neg hb.1.1, if_neg hb.1.2, if_neg hb.2]
    rw [hrow.cell (by have := b.toNat_lt; omega), htodo b (by omega)]
  · rw [hrow.cell (by decide), h256]
  · simp [World.cell?, hts, tsV]
  · simp [World.cell?, hts, tsV]
  · simp [World.cell?, hts, tsV]
theorem zero149 : Tryz.zeroCells149 = Array.replicate 257 (.slice none 0 0) := by kernel_rfl
theorem bd_start (w : World) : BdInv (w.heap.size + 1) w.heap.size 0 w ((w.alloc (.cells #[.string ByteArray.empty, .string ByteArray.empty, .string ByteArray.empty] 9)).alloc (.cells (Tryz.zeroCells149.setIfInBounds 256 (.slice (some ⟨w.heap.size, 0, none⟩) 0 3)) 149)) := by
  have hs : (w.alloc (.cells #[.string ByteArray.empty, .string ByteArray.empty, .string ByteArray.empty] 9)).heap.size = w.heap.size + 1 := by show (w.heap.push _).size = _; rw [Array.size_push]
  refine ⟨⟨fun j => if j = 256 then .slice (some ⟨w.heap.size, 0, none⟩) 0 3 else .slice none 0 0, ⟨Tryz.zeroCells149.setIfInBounds 256 (.slice (some ⟨w.heap.size, 0, none⟩) 0 3), ?_, ?_, fun i hi => ?_⟩, if_pos rfl, fun b hb => by omega, fun b _ => if_neg (by have := b.toNat_lt; omega)⟩, ?_, ?_⟩
  · show ((w.alloc _).heap.push _)[w.heap.size + 1]? = _
    rw [← hs, Array.getElem?_push_size]
  · rw [Array.size_setIfInBounds, zero149]; simp
  · rw [Array.getElem?_setIfInBounds, zero149]
    by_cases e : i = 256
    · subst e; simp
    · rw [if_neg (fun h => e h.symm)]
      simp [hi, e]
  · rw [heap_allocPast _ (by rw [hs]; omega)]
    show (w.heap.push _)[w.heap.size]? = _
    rw [Array.getElem?_push_size]; rfl
  · exact ((Below.refl _ w).alloc (Nat.le_refl _) _).alloc (by rw [hs]; omega) _
set_option maxHeartbeats 3200000 in
theorem bd_at (b o C : Nat) (w : World) (ho : o < w.heap.size) (hbl : b < w.heap.size) (hb : w.cell? ⟨b, 4, none⟩ = some (.slice (some ⟨o, 0, none⟩) 6 C))
    (c0 : w.cell? ⟨o, 0, none⟩ = some (.string ⟨#[92]⟩)) (c1 : w.cell? ⟨o, 1, none⟩ = some (.string ⟨#[92, 92]⟩)) (c2 : w.cell? ⟨o, 2, none⟩ = some (.string ⟨#[34]⟩)) (c3 : w.cell? ⟨o, 3, none⟩ = some (.string ⟨#[92, 34]⟩)) (c4 : w.cell? ⟨o, 4, none⟩ = some (.string ⟨#[10]⟩)) (c5 : w.cell? ⟨o, 5, none⟩ = some (.string ⟨#[92, 110]⟩)) :
    Calls Tryz.prog 80 #[.pointer (some ⟨b, 0, none⟩)] w fun e w' => ∃ g t, e = .returned (.iface 150 (.pointer (some ⟨g, 0, none⟩))) ∧ RepAt g t w' ∧ Below w.heap.size w w' := by
  have hmk : (Instr.makeSlice 65 (.int .i64 0) (.int .i64 3)).run Tryz.prog w = .ok (.slice (some ⟨w.heap.size, 0, none⟩) 0 3) (w.alloc (.cells #[.string ByteArray.empty, .string ByteArray.empty, .string ByteArray.empty] 9)) := by
    obtain ⟨i, hi, hz, hs, hb⟩ := info_parts (show (Tryz.prog.info? 9).map (fun i => (i.zero, i.size, i.bytes)) = some (some (.string ByteArray.empty), 1, 16) from by kernel_rfl)
    have := run_make (P := Tryz.prog) w 65 9 i _ Tryz.underlying65 hi hz .i64 .i64 0 3 (by decide) (by decide) (by rw [hb]; decide) (by decide)
    rw [hs] at this
    have hm : madeCells (Value.string ByteArray.empty).cells (Int.toNat 3 * 1) = #[.string ByteArray.empty, .string ByteArray.empty, .string ByteArray.empty] := by kernel_rfl
    rw [hm] at this
    exact this
  have hst : (storeCells ⟨w.heap.size + 1, 0, none⟩ (Tryz.zeroCells149.toList.set 256 (.slice (some ⟨w.heap.size, 0, none⟩) 0 3))).run Tryz.prog ((w.alloc (.cells #[.string ByteArray.empty, .string ByteArray.empty, .string ByteArray.empty] 9)).alloc (.cells Tryz.zeroCells149 149))
      = .ok () ((w.alloc (.cells #[.string ByteArray.empty, .string ByteArray.empty, .string ByteArray.empty] 9)).alloc (.cells (Tryz.zeroCells149.setIfInBounds 256 (.slice (some ⟨w.heap.size, 0, none⟩) 0 3)) 149)) := by
    have h := run_storeCells_new (P := Tryz.prog) (w.alloc (.cells #[.string ByteArray.empty, .string ByteArray.empty, .string ByteArray.empty] 9)) 149 Tryz.zeroCells149 (Tryz.zeroCells149.setIfInBounds 256 (.slice (some ⟨w.heap.size, 0, none⟩) 0 3)) (by rw [Array.size_setIfInBounds]; kernel_rfl) (by rw [Array.size_setIfInBounds]) (by kernel_rfl)
    have hsz : (w.alloc (.cells #[.string ByteArray.empty, .string ByteArray.empty, .string ByteArray.empty] 9)).heap.size = w.heap.size + 1 := by show (w.heap.push _).size = _; rw [Array.size_push]
    rw [hsz, Array.toList_setIfInBounds] at h
    exact h
  go_enter Tryz.func80, Tryz.ntmps80
  go_wp2
  go_rounds 4
  clear hmk hst
  generalize hW : ((w.alloc (.cells #[.string ByteArray.empty, .string ByteArray.empty, .string ByteArray.empty] 9)).alloc (.cells (Tryz.zeroCells149.setIfInBounds 256 (.slice (some ⟨w.heap.size, 0, none⟩) 0 3)) 149)) = W
  obtain ⟨t, ht⟩ : ∃ t, t = w.heap.size := ⟨_, rfl⟩
  obtain ⟨g, hg⟩ : ∃ g, g = w.heap.size + 1 := ⟨_, rfl⟩
  rw [← hg]
  have Hg : Hid (g = w.heap.size + 1) := hg
  have Ht : Hid (t = w.heap.size) := ht
  have hgt : ¬ g = t := by omega
  clear hg ht
  go_loopw [12] (fun i wr => ∃ k : Nat, k ≤ 3 ∧ i = .int .i64 (iv k) ∧ BdInv g t k w wr) (fun i _ => (6 + RowKit.intOf i).toNat)
  case atStart => exact ⟨0, by omega, rfl, by rw [← hW, Hg.out, Ht.out]; exact bd_start w⟩
  case round =>
    obtain ⟨k, hk, rfl, hI⟩ := hrel
    rcases (show k = 0 ∨ k = 1 ∨ k = 2 ∨ k = 3 by omega) with rfl | rfl | rfl | rfl
    · obtain ⟨W3, W4, m, cap, hW3, hcv, hc4, hf4, hI2⟩ := bd_step (k := 0) (by decide) hI hgt (by rw [Hg.out]; omega) (by rw [Ht.out]; exact Nat.le_refl _)
      obtain ⟨⟨f, hrow, h256, hdone, htodo⟩, hts, hbel⟩ := hI
      have hglt := hrow.lt
      have htlt : t < wr.heap.size := (Array.getElem?_eq_some_iff.1 hts).1
      have holt : o < wr.heap.size := Nat.lt_of_lt_of_le ho hbel.size
      have g256 := hrow.cell (i := 256) (by decide)
      rw [h256] at g256
      have gf256 := hrow.frozen 256
      have HI2 : Hid (BdInv g t 1 w (W4.setCell ⟨g, (stp 0).toNat, none⟩ (.slice (some ⟨m, 0, none⟩) 2 cap))) := hI2
      have Hcv : Hid ((convert 9 43 (.string ⟨#[92, 110]⟩)).run Tryz.prog W3 = .ok (.slice (some ⟨m, 0, none⟩) 2 cap) W4) := hcv
      have HW3 : Hid (W3 = (((wr.setCell ⟨t, 0, none⟩ (.string ⟨#[10]⟩)).setCell ⟨g, 256, none⟩ (.slice (some ⟨t, 0, none⟩) 1 3)).alloc (.cells #[.int .u8 10] 5)).alloc (.cells #[.string ⟨#[10]⟩] 9)) := hW3
      have Hc4 : Hid (W4.cell? ⟨g, 10, none⟩ = some (.slice none 0 0)) := hc4
      have Hf4 : Hid (W4.frozen? ⟨g, 10, none⟩ = false) := hf4
      clear hI2 hcv hW3 hc4 hf4
      simp only [iv]
      have e4 := (hbel.cell (p := ⟨o, 4, none⟩) ho).trans c4
      have e5 := (hbel.cell (p := ⟨o, 5, none⟩) ho).trans c5
      have g10 := hrow.cell (i := 10) (by decide)
      rw [show (10 : Nat) = (10 : UInt8).toNat from rfl, htodo 10 (by decide)] at g10
      rw [byte10] at g10
      have gf10 := hrow.frozen 10
      have t0 : wr.cell? ⟨t, 0, none⟩ = some (.string ByteArray.empty) := by simp [World.cell?, hts, tsV]
      have tf0 : wr.frozen? ⟨t, 0, none⟩ = false := by simp [World.frozen?, hts]
      have q1 : ∀ w : World, (binOp .eql 43 (.slice none 0 0) (.slice none 0 0)).run Tryz.prog w = .ok (.bool true) w := fun w => run_eql_slice_nil (P := Tryz.prog) (w := w) 43 5 none 0 0 Tryz.underlying43
      have cv : (convert 43 9 (.slice (some ⟨wr.heap.size, 0, none⟩) 1 1)).run Tryz.prog (wr.alloc (.cells #[.int .u8 10] 5)) = .ok (.string ⟨#[10]⟩) (wr.alloc (.cells #[.int .u8 10] 5)) := conv1 wr 10
      clear hdone htodo hrow hts h256 hbel
      go_wp2
      rw [← HW3.out]
      rw [Hcv.out]
      simp only [Result.andThen]
      rw [Oper.upon_value]
      have c10 := Hc4.out
      have f10 := Hf4.out
      go_wp2
      go_roundw
      case rel => exact ⟨1, by omega, rfl, HI2.out⟩
      case measure => decide
    · obtain ⟨W3, W4, m, cap, hW3, hcv, hc4, hf4, hI2⟩ := bd_step (k := 1) (by decide) hI hgt (by rw [Hg.out]; omega) (by rw [Ht.out]; exact Nat.le_refl _)
      obtain ⟨⟨f, hrow, h256, hdone, htodo⟩, hts, hbel⟩ := hI
      have hglt := hrow.lt
      have htlt : t < wr.heap.size := (Array.getElem?_eq_some_iff.1 hts).1
      have holt : o < wr.heap.size := Nat.lt_of_lt_of_le ho hbel.size
      have g256 := hrow.cell (i := 256) (by decide)
      rw [h256] at g256
      have gf256 := hrow.frozen 256
      have HI2 : Hid (BdInv g t 2 w (W4.setCell ⟨g, (stp 1).toNat, none⟩ (.slice (some ⟨m, 0, none⟩) 2 cap))) := hI2
      have Hcv : Hid ((convert 9 43 (.string ⟨#[92, 34]⟩)).run Tryz.prog W3 = .ok (.slice (some ⟨m, 0, none⟩) 2 cap) W4) := hcv
      have HW3 : Hid (W3 = (((wr.setCell ⟨t, 1, none⟩ (.string ⟨#[34]⟩)).setCell ⟨g, 256, none⟩ (.slice (some ⟨t, 0, none⟩) 2 3)).alloc (.cells #[.int .u8 34] 5)).alloc (.cells #[.string ⟨#[34]⟩] 9)) := hW3
      have Hc4 : Hid (W4.cell? ⟨g, 34, none⟩ = some (.slice none 0 0)) := hc4
      have Hf4 : Hid (W4.frozen? ⟨g, 34, none⟩ = false) := hf4
      clear hI2 hcv hW3 hc4 hf4
      simp only [iv]
      have e4 := (hbel.cell (p := ⟨o, 2, none⟩) ho).trans c2
      have e5 := (hbel.cell (p := ⟨o, 3, none⟩) ho).trans c3
      have g10 := hrow.cell (i := 34) (by decide)
      rw [show (34 : Nat) = (34 : UInt8).toNat from rfl, htodo 34 (by decide)] at g10
      rw [byte34] at g10
      have gf10 := hrow.frozen 34
      have t0 : wr.cell? ⟨t, 1, none⟩ = some (.string ByteArray.empty) := by simp [World.cell?, hts, tsV]
      have tf0 : wr.frozen? ⟨t, 1, none⟩ = false := by simp [World.frozen?, hts]
      have q1 : ∀ w : World, (binOp .eql 43 (.slice none 0 0) (.slice none 0 0)).run Tryz.prog w = .ok (.bool true) w := fun w => run_eql_slice_nil (P := Tryz.prog) (w := w) 43 5 none 0 0 Tryz.underlying43
      have cv : (convert 43 9 (.slice (some ⟨wr.heap.size, 0, none⟩) 1 1)).run Tryz.prog (wr.alloc (.cells #[.int .u8 34] 5)) = .ok (.string ⟨#[34]⟩) (wr.alloc (.cells #[.int .u8 34] 5)) := conv1 wr 34
      clear hdone htodo hrow hts h256 hbel
      go_wp2
      rw [← HW3.out]
      rw [Hcv.out]
      simp only [Result.andThen]
      rw [Oper.upon_value]
      have c10 := Hc4.out
      have f10 := Hf4.out
      go_wp2
      go_roundw
      case rel => exact ⟨2, by omega, rfl, HI2.out⟩
      case measure => decide
    · obtain ⟨W3, W4, m, cap, hW3, hcv, hc4, hf4, hI2⟩ := bd_step (k := 2) (by decide) hI hgt (by rw [Hg.out]; omega) (by rw [Ht.out]; exact Nat.le_refl _)
      obtain ⟨⟨f, hrow, h256, hdone, htodo⟩, hts, hbel⟩ := hI
      have hglt := hrow.lt
      have htlt : t < wr.heap.size := (Array.getElem?_eq_some_iff.1 hts).1
      have holt : o < wr.heap.size := Nat.lt_of_lt_of_le ho hbel.size
      have g256 := hrow.cell (i := 256) (by decide)
      rw [h256] at g256
      have gf256 := hrow.frozen 256
      have HI2 : Hid (BdInv g t 3 w (W4.setCell ⟨g, (stp 2).toNat, none⟩ (.slice (some ⟨m, 0, none⟩) 2 cap))) := hI2
      have Hcv : Hid ((convert 9 43 (.string ⟨#[92, 92]⟩)).run Tryz.prog W3 = .ok (.slice (some ⟨m, 0, none⟩) 2 cap) W4) := hcv
      have HW3 : Hid (W3 = (((wr.setCell ⟨t, 2, none⟩ (.string ⟨#[92]⟩)).setCell ⟨g, 256, none⟩ (.slice (some ⟨t, 0, none⟩) 3 3)).alloc (.cells #[.int .u8 92] 5)).alloc (.cells #[.string ⟨#[92]⟩] 9)) := hW3
      have Hc4 : Hid (W4.cell? ⟨g, 92, none⟩ = some (.slice none 0 0)) := hc4
      have Hf4 : Hid (W4.frozen? ⟨g, 92, none⟩ = false) := hf4
      clear hI2 hcv hW3 hc4 hf4
      simp only [iv]
      have e4 := (hbel.cell (p := ⟨o, 0, none⟩) ho).trans c0
      have e5 := (hbel.cell (p := ⟨o, 1, none⟩) ho).trans c1
      have g10 := hrow.cell (i := 92) (by decide)
      rw [show (92 : Nat) = (92 : UInt8).toNat from rfl, htodo 92 (by decide)] at g10
      rw [byte92] at g10
      have gf10 := hrow.frozen 92
      have t0 : wr.cell? ⟨t, 2, none⟩ = some (.string ByteArray.empty) := by simp [World.cell?, hts, tsV]
      have tf0 : wr.frozen? ⟨t, 2, none⟩ = false := by simp [World.frozen?, hts]
      have q1 : ∀ w : World, (binOp .eql 43 (.slice none 0 0) (.slice none 0 0)).run Tryz.prog w = .ok (.bool true) w := fun w => run_eql_slice_nil (P := Tryz.prog) (w := w) 43 5 none 0 0 Tryz.underlying43
      have cv : (convert 43 9 (.slice (some ⟨wr.heap.size, 0, none⟩) 1 1)).run Tryz.prog (wr.alloc (.cells #[.int .u8 92] 5)) = .ok (.string ⟨#[92]⟩) (wr.alloc (.cells #[.int .u8 92] 5)) := conv1 wr 92
      clear hdone htodo hrow hts h256 hbel
      go_wp2
      rw [← HW3.out]
      rw [Hcv.out]
      simp only [Result.andThen]
      rw [Oper.upon_value]
      have c10 := Hc4.out
      have f10 := Hf4.out
      go_wp2
      go_roundw
      case rel => exact ⟨3, by omega, rfl, HI2.out⟩
      case measure => decide
    · simp only [iv]
      have HI : Hid (BdInv g t 3 w wr) := hI
      clear hI
      go_wp2
      refine bodyPost_ret (results_tmp rfl _ _ _) rfl ?_
      exact ⟨g, t, rfl, rep_of HI.out, HI.out.bel⟩
theorem RepAt.other {g t b : Nat} {w w' : World} (h : RepAt g t w) {x : Int} (h0 : w.cell? ⟨b, 0, none⟩ = some (.int .u32 x)) (h5 : w.cell? ⟨b, 256, none⟩ = none) (hsz : w'.heap.size = w.heap.size) (hk : ∀ m, m ≠ b → w'.heap[m]? = w.heap[m]?) : RepAt g t w' := by
  have hgb : g ≠ b := by rintro rfl; rw [h.tr] at h5; cases h5
  have htb : t ≠ b := by rintro rfl; rw [h.t0] at h0; cases h0
  have e : ∀ m j, m ≠ b → w'.cell? ⟨m, j, none⟩ = w.cell? ⟨m, j, none⟩ := fun m j hm => World.cell?_of_block (hk m hm)
  refine ⟨fun c hc => ?_, fun c hc => (e g _ hgb).trans (h.miss c hc), (e g _ hgb).trans h.tr, (e t _ htb).trans h.t0, (e t _ htb).trans h.t1, (e t _ htb).trans h.t2, by rw [hsz]; exact h.g_lt, by rw [hsz]; exact h.t_lt⟩
  obtain ⟨m, cap, y, q1, q2, q3, q4, q5⟩ := h.hit c hc
  have hmb : m ≠ b := by rintro rfl; rw [q3] at h0; cases h0
  exact ⟨m, cap, y, (e g _ hgb).trans q1, by rw [hsz]; exact q2, (e m _ hmb).trans q3, (e m _ hmb).trans q4, q5⟩
set_option maxHeartbeats 1600000 in
theorem bo_at (b o C : Nat) (w : World) (x : Int) (ho : o < w.heap.size) (hob : o ≠ b) (hb : w.heap[b]? = some (.cells #[.int .u32 0, .int .i32 x, .int .u32 0, .nilIface, .slice (some ⟨o, 0, none⟩) 6 C] 100 (0, 0)))
    (c0 : w.cell? ⟨o, 0, none⟩ = some (.string ⟨#[92]⟩)) (c1 : w.cell? ⟨o, 1, none⟩ = some (.string ⟨#[92, 92]⟩)) (c2 : w.cell? ⟨o, 2, none⟩ = some (.string ⟨#[34]⟩)) (c3 : w.cell? ⟨o, 3, none⟩ = some (.string ⟨#[92, 34]⟩)) (c4 : w.cell? ⟨o, 4, none⟩ = some (.string ⟨#[10]⟩)) (c5 : w.cell? ⟨o, 5, none⟩ = some (.string ⟨#[92, 110]⟩)) :
    Calls Tryz.prog 57 #[.pointer (some ⟨b, 0, none⟩)] w fun e w' => e = .returned (.tuple #[]) ∧ ∃ g t, w'.heap[b]? = some (.cells #[.int .u32 0, .int .i32 x, .int .u32 0, .iface 150 (.pointer (some ⟨g, 0, none⟩)), .slice none 0 0] 100 (0, 0)) ∧ RepAt g t w' ∧ Below b w w' := by
  have hbl : b < w.heap.size := (Array.getElem?_eq_some_iff.1 hb).1
  have hb4 : w.cell? ⟨b, 4, none⟩ = some (.slice (some ⟨o, 0, none⟩) 6 C) := by simp [World.cell?, hb]
  have hbd := bd_at b o C w ho hbl hb4 c0 c1 c2 c3 c4 c5
  go_enter Tryz.func57, Tryz.ntmps57
  go_wp2_with (go_at_call 80; refine hbd.mono ?_)
  rintro e w1 ⟨g, t, rfl, hR, hB⟩
  have hbw : w1.heap[b]? = some (.cells #[.int .u32 0, .int .i32 x, .int .u32 0, .nilIface, .slice (some ⟨o, 0, none⟩) 6 C] 100 (0, 0)) := (hB.block b hbl).trans hb
  have k3 : w1.cell? ⟨b, 3, none⟩ = some .nilIface := by simp [World.cell?, hbw]
  have k4 : w1.cell? ⟨b, 4, none⟩ = some (.slice (some ⟨o, 0, none⟩) 6 C) := by simp [World.cell?, hbw]
  have f3 : w1.frozen? ⟨b, 3, none⟩ = false := by simp [World.frozen?, hbw]
  have f4 : w1.frozen? ⟨b, 4, none⟩ = false := by simp [World.frozen?, hbw]
  have hR2 : Hid (RepAt g t w1) := hR
  have hB2 : Hid (Below w.heap.size w w1) := hB
  have hbw2 : Hid (w1.heap[b]? = some (.cells #[.int .u32 0, .int .i32 x, .int .u32 0, .nilIface, .slice (some ⟨o, 0, none⟩) 6 C] 100 (0, 0))) := hbw
  clear hR hB hbw hbd
  go_wp2
  go_end0
  refine ⟨rfl, g, t, ?_, ?_, ?_⟩
  · have h1 : (w1.setCell ⟨b, 3, none⟩ (.iface 150 (.pointer (some ⟨g, 0, none⟩)))).heap[b]? = some (.cells ([.int .u32 0, .int .i32 x, .int .u32 0, .iface 150 (.pointer (some ⟨g, 0, none⟩)), .slice (some ⟨o, 0, none⟩) 6 C] : List Value).toArray 100 (0, 0)) := heap_set (c := [.int .u32 0, .int .i32 x, .int .u32 0, .nilIface, .slice (some ⟨o, 0, none⟩) 6 C]) hbw2.out _
    exact heap_set h1 _
  · refine hR2.out.other (b := b) (x := 0) (by simp [World.cell?, hbw2.out]) (by simp [World.cell?, hbw2.out]) (by simp) (fun m hm => ?_)
    rw [heap_setOther (i := 0) _ hm, heap_setOther (i := 0) _ hm]
  · exact ((hB2.out.mono (Nat.le_of_lt hbl)).setCell (Nat.le_refl b) _).setCell (Nat.le_refl b) _
set_option maxHeartbeats 1600000 in
theorem rl_at (b o C : Nat) (l : List UInt8) (w : World) (hl : l.length ≤ 4294967296) (ho : o < w.heap.size) (hob : o ≠ b) (hb : w.heap[b]? = some (.cells #[.int .u32 0, .int .i32 0, .int .u32 0, .nilIface, .slice (some ⟨o, 0, none⟩) 6 C] 100 (0, 0)))
    (c0 : w.cell? ⟨o, 0, none⟩ = some (.string ⟨#[92]⟩)) (c1 : w.cell? ⟨o, 1, none⟩ = some (.string ⟨#[92, 92]⟩)) (c2 : w.cell? ⟨o, 2, none⟩ = some (.string ⟨#[34]⟩)) (c3 : w.cell? ⟨o, 3, none⟩ = some (.string ⟨#[92, 34]⟩)) (c4 : w.cell? ⟨o, 4, none⟩ = some (.string ⟨#[10]⟩)) (c5 : w.cell? ⟨o, 5, none⟩ = some (.string ⟨#[92, 110]⟩))
    (hcnt : ∀ (c : UInt8) (w : World), Calls Tryz.prog 14 #[.string ⟨l.toArray⟩, .string ⟨#[c]⟩] w fun e w' => e = .returned (.int .i64 (l.count c)) ∧ w' = w) :
    Calls Tryz.prog 38 #[.pointer (some ⟨b, 0, none⟩), .string ⟨l.toArray⟩] w fun e w' => e = .returned (.string ⟨(escL l).toArray⟩) ∧ Below b w w' := by
  have hbl : b < w.heap.size := (Array.getElem?_eq_some_iff.1 hb).1
  have h0 : w.cell? ⟨b, 0, none⟩ = some (.int .u32 0) := by simp [World.cell?, hb]
  have h1 : w.cell? ⟨b, 1, none⟩ = some (.int .i32 0) := by simp [World.cell?, hb]
  have f0 : w.frozen? ⟨b, 0, none⟩ = false := by simp [World.frozen?, hb]
  have f1 : w.frozen? ⟨b, 1, none⟩ = false := by simp [World.frozen?, hb]
  have hb1 : (w.setCell ⟨b, 1, none⟩ (.int .i32 1)).heap[b]? = some (.cells #[.int .u32 0, .int .i32 1, .int .u32 0, .nilIface, .slice (some ⟨o, 0, none⟩) 6 C] 100 (0, 0)) := heap_set (c := [.int .u32 0, .int .i32 0, .int .u32 0, .nilIface, .slice (some ⟨o, 0, none⟩) 6 C]) hb _
  have hoc : ∀ j, (w.setCell ⟨b, 1, none⟩ (.int .i32 1)).cell? ⟨o, j, none⟩ = w.cell? ⟨o, j, none⟩ := fun j => World.cell?_of_block (heap_setOther (i := 0) _ hob)
  have hdo := sy_do b w (fun w' => ∃ g t, w'.heap[b]? = some (.cells #[.int .u32 0, .int .i32 1, .int .u32 0, .iface 150 (.pointer (some ⟨g, 0, none⟩)), .slice none 0 0] 100 (0, 0)) ∧ RepAt g t w' ∧ Below b w w') h0 h1 f0 f1
    ((bo_at b o C (w.setCell ⟨b, 1, none⟩ (.int .i32 1)) 1 (by simp; exact ho) hob hb1 ((hoc 0).trans c0) ((hoc 1).trans c1) ((hoc 2).trans c2) ((hoc 3).trans c3) ((hoc 4).trans c4) ((hoc 5).trans c5)).mono (by
      rintro e w' ⟨rfl, g, t, q1, q2, q3⟩
      exact ⟨rfl, by simp [World.cell?, q1], by simp [World.frozen?, q1], by simp [World.cell?, q1], by simp [World.frozen?, q1], g, t, q1, q2, ((Below.refl b w).setCell (Nat.le_refl b) _).trans q3⟩))
  go_enter Tryz.func38, Tryz.ntmps38
  go_wp2_with (go_at_call 56; refine hdo.mono ?_)
  rintro e w2 ⟨rfl, w1, ⟨g, t, q1, q2, q3⟩, rfl⟩
  have hR : RepAt g t ((w1.drew.setCell ⟨b, 0, none⟩ (.int .u32 1)).setCell ⟨b, 1, none⟩ (.int .i32 0)) := by
    refine q2.other (b := b) (x := 0) (by simp [World.cell?, q1]) (by simp [World.cell?, q1]) (by simp) (fun m hm => ?_)
    rw [heap_setOther (i := 0) _ hm, heap_setOther (i := 0) _ hm]
    rfl
  have hB : Below b w ((w1.drew.setCell ⟨b, 0, none⟩ (.int .u32 1)).setCell ⟨b, 1, none⟩ (.int .i32 0)) := ((q3.trans (below_drew2 _ _)).setCell (Nat.le_refl b) _).setCell (Nat.le_refl b) _
  have k3 : ((w1.drew.setCell ⟨b, 0, none⟩ (.int .u32 1)).setCell ⟨b, 1, none⟩ (.int .i32 0)).cell? ⟨b, 3, none⟩ = some (.iface 150 (.pointer (some ⟨g, 0, none⟩))) := by
    have a1 : (w1.drew.setCell ⟨b, 0, none⟩ (.int .u32 1)).heap[b]? = some (.cells ([.int .u32 1, .int .i32 1, .int .u32 0, .iface 150 (.pointer (some ⟨g, 0, none⟩)), .slice none 0 0] : List Value).toArray 100 (0, 0)) := heap_set (w := w1.drew) (c := [.int .u32 0, .int .i32 1, .int .u32 0, .iface 150 (.pointer (some ⟨g, 0, none⟩)), .slice none 0 0]) q1 _
    have a2 := heap_set (i := 1) a1 (.int .i32 0)
    simp [World.cell?, a2]
  have hlt : b ≤ ((w1.drew.setCell ⟨b, 0, none⟩ (.int .u32 1)).setCell ⟨b, 1, none⟩ (.int .i32 0)).heap.size := by
    have := hB.size; omega
  generalize ((w1.drew.setCell ⟨b, 0, none⟩ (.int .u32 1)).setCell ⟨b, 1, none⟩ (.int .i32 0)) = w2 at *
  have hrp := rp_at g t l w2 hl hR hcnt
  have HB : Hid (Below b w w2) := hB
  clear q1 q2 q3 hR hB hdo hb1 hoc hb h0 h1 f0 f1 c0 c1 c2 c3 c4 c5 hcnt
  go_wp2_with (go_at_call 173; refine hrp.mono ?_)
  rintro e w3 ⟨rfl, hB3⟩
  have HB3 : Hid (Below w2.heap.size w2 w3) := hB3
  clear hB3
  go_wp2
  refine bodyPost_ret (results_tmp rfl _ _ _) rfl ?_
  exact ⟨rfl, HB.out.trans (HB3.out.mono hlt)⟩

set_option maxHeartbeats 1600000 in
theorem qt44_at (l : List UInt8) (w : World) (hl : l.length ≤ 4294967296)
    (hcnt : ∀ (c : UInt8) (w : World), Calls Tryz.prog 14 #[.string ⟨l.toArray⟩, .string ⟨#[c]⟩] w fun e w' => e = .returned (.int .i64 (l.count c)) ∧ w' = w) :
    Calls Tryz.prog 44 #[.string ⟨l.toArray⟩] w fun e w' => e = .returned (.string ⟨(34 :: (escL l ++ [34])).toArray⟩) ∧ Below w.heap.size w w' := by
  have hnr := nr_at w.heap.size (w.alloc (.cells #[.string ⟨#[92]⟩, .string ⟨#[92, 92]⟩, .string ⟨#[34]⟩, .string ⟨#[92, 34]⟩, .string ⟨#[10]⟩, .string ⟨#[92, 110]⟩] 9)) ⟨#[92]⟩ ⟨#[92, 92]⟩ ⟨#[34]⟩ ⟨#[92, 34]⟩ ⟨#[10]⟩ ⟨#[92, 110]⟩ (by show (w.heap.push _)[w.heap.size]? = _; rw [Array.getElem?_push_size])
  have hsz : (w.alloc (.cells #[.string ⟨#[92]⟩, .string ⟨#[92, 92]⟩, .string ⟨#[34]⟩, .string ⟨#[92, 34]⟩, .string ⟨#[10]⟩, .string ⟨#[92, 110]⟩] 9)).heap.size = w.heap.size + 1 := by show (w.heap.push _).size = _; rw [Array.size_push]
  go_enter Tryz.func44, Tryz.ntmps44
  go_wp2_with (go_at_call 37; refine hnr.mono ?_)
  rintro e w1 ⟨rfl, C, hw1⟩
  obtain ⟨wa, hwa⟩ : ∃ x, x = w.alloc (.cells #[.string ⟨#[92]⟩, .string ⟨#[92, 92]⟩, .string ⟨#[34]⟩, .string ⟨#[92, 34]⟩, .string ⟨#[10]⟩, .string ⟨#[92, 110]⟩] 9) := ⟨_, rfl⟩
  rw [← hwa] at hw1 hsz ⊢
  obtain ⟨wb, hwb⟩ : ∃ x, x = wa.alloc (.cells (#[.string ⟨#[92]⟩, .string ⟨#[92, 92]⟩, .string ⟨#[34]⟩, .string ⟨#[92, 34]⟩, .string ⟨#[10]⟩, .string ⟨#[92, 110]⟩] ++ Builtin.zeroCells #[.string ⟨#[]⟩] (C - 6)) 9) := ⟨_, rfl⟩
  rw [← hwb] at hw1
  have hsb : wb.heap.size = wa.heap.size + 1 := by rw [hwb]; show (wa.heap.push _).size = _; rw [Array.size_push]
  have hb : w1.heap[wa.heap.size + 1]? = some (.cells #[.int .u32 0, .int .i32 0, .int .u32 0, .nilIface, .slice (some ⟨wa.heap.size, 0, none⟩) 6 C] 100 (0, 0)) := by
    rw [hw1]; show (wb.heap.push _)[wa.heap.size + 1]? = _
    rw [← hsb, Array.getElem?_push_size]
  have ho : w1.heap[wa.heap.size]? = some (.cells (#[.string ⟨#[92]⟩, .string ⟨#[92, 92]⟩, .string ⟨#[34]⟩, .string ⟨#[92, 34]⟩, .string ⟨#[10]⟩, .string ⟨#[92, 110]⟩] ++ Builtin.zeroCells #[.string ⟨#[]⟩] (C - 6)) 9 (0, 0)) := by
    rw [hw1]
    show (wb.alloc _).heap[wa.heap.size]? = _
    rw [heap_allocPast _ (by omega), hwb]
    show (wa.heap.push _)[wa.heap.size]? = _
    rw [Array.getElem?_push_size]
  have hs1 : w1.heap.size = wa.heap.size + 2 := by rw [hw1]; show (wb.heap.push _).size = _; rw [Array.size_push, hsb]
  have hB : Below w.heap.size w w1 := by
    have a1 : Below w.heap.size w wa := by rw [hwa]; exact (Below.refl _ w).alloc (Nat.le_refl _) _
    have a2 : Below w.heap.size w wb := by rw [hwb]; exact a1.alloc (by omega) _
    rw [hw1]; exact (a2.alloc (by omega) _).trans (below_drew2 _ _)
  have cell : ∀ j v, (#[Value.string ⟨#[92]⟩, .string ⟨#[92, 92]⟩, .string ⟨#[34]⟩, .string ⟨#[92, 34]⟩, .string ⟨#[10]⟩, .string ⟨#[92, 110]⟩] : Array Value)[j]? = some v → w1.cell? ⟨wa.heap.size, j, none⟩ = some v := by
    intro j v hj
    simp only [World.cell?, ho]
    rw [Array.getElem?_append_left (Array.getElem?_eq_some_iff.1 hj).1]
    simpa using hj
  have hrl := rl_at (wa.heap.size + 1) wa.heap.size C l w1 hl (by omega) (by omega) hb (cell 0 _ rfl) (cell 1 _ rfl) (cell 2 _ rfl) (cell 3 _ rfl) (cell 4 _ rfl) (cell 5 _ rfl) hcnt
  have HB : Hid (Below w.heap.size w w1) := hB
  have hle : w.heap.size ≤ wa.heap.size + 1 := by omega
  clear cell ho hb hs1 hsb hw1 hwb hwa hB hsz hnr hcnt
  go_wp2_with (go_at_call 38; refine hrl.mono ?_)
  rintro e w3 ⟨rfl, hB3⟩
  have HB3 : Hid (Below (wa.heap.size + 1) w1 w3) := hB3
  clear hB3
  have hlen : (escL l).length ≤ 8589934592 := by
    rw [escL_len]
    have : escN l ≤ l.length := List.countP_le_length
    omega
  have n1 : ¬ 9223372036854775807 < 1 + (escL l).length := by omega
  have n2 : ¬ 9223372036854775807 < 1 + (escL l).length + 1 := by omega
  go_wp2
  refine bodyPost_ret (results_tmp rfl _ _ _) rfl ?_
  refine ⟨?_, HB.out.trans (HB3.out.mono hle)⟩
  show Ending.returned (.string (ByteArray.mk #[34] ++ ByteArray.mk (escL l).toArray ++ ByteArray.mk #[34])) = _
  congr 2

def joinStr_ren : Shelf.Ren where
  f := fun x => match x with | 156 => 36 | 165 => 55 | 166 => 16 | 169 => 20 | 240 => 34 | 241 => 77 | 276 => 53 | 277 => 96 | n => n
  t := fun x => match x with | 31 => 65 | 9 => 9 | 3 => 3 | 4 => 4 | 0 => 0 | 20 => 20 | 72 => 45 | 76 => 48 | 70 => 42 | 37 => 43 | 75 => 47 | 127 => 70 | 164 => 82 | 5 => 5 | 80 => 31 | n => n
  g := fun n => n
theorem joinStr_lay : Lays.n156 Tryz.prog joinStr_ren where
  mixed := by kernel_rfl
  f156 := Tryz.func36.trans (by kernel_rfl)
  f165 := Tryz.func55.trans (by kernel_rfl)
  f166 := Tryz.func16.trans (by kernel_rfl)
  f169 := Tryz.func20.trans (by kernel_rfl)
  f240 := Tryz.func34.trans (by kernel_rfl)
  f241 := Tryz.func77.trans (by kernel_rfl)
  f276 := Tryz.func53.trans (by kernel_rfl)
  f277 := Tryz.func96.trans (by kernel_rfl)
  t0 := Tryz.underlying0
  a0 := Tryz.isAgg0
  z0 := Tryz.sizeOf0
  v0 := Tryz.zeroValue0
  t3 := Tryz.underlying3
  a3 := Tryz.isAgg3
  z3 := Tryz.sizeOf3
  v3 := Tryz.zeroValue3
  t4 := Tryz.underlying4
  a4 := Tryz.isAgg4
  z4 := Tryz.sizeOf4
  v4 := Tryz.zeroValue4
  t9 := Tryz.underlying9
  a9 := Tryz.isAgg9
  z9 := Tryz.sizeOf9
  v9 := Tryz.zeroValue9
  t20 := Tryz.underlying20
  a20 := Tryz.isAgg20
  z20 := Tryz.sizeOf20
  v20 := Tryz.zeroValue20
  t31 := Tryz.underlying65
  a31 := Tryz.isAgg65
  z31 := Tryz.sizeOf65
  v31 := Tryz.zeroValue65
  t37 := Tryz.underlying43
  a37 := Tryz.isAgg43
  z37 := Tryz.sizeOf43
  v37 := Tryz.zeroValue43
  t70 := Tryz.underlying42
  a70 := Tryz.isAgg42
  z70 := Tryz.sizeOf42
  v70 := Tryz.zeroValue42
  t72 := Tryz.underlying45
  a72 := Tryz.isAgg45
  z72 := Tryz.sizeOf45
  v72 := Tryz.zeroValue45
  t75 := Tryz.underlying47
  a75 := Tryz.isAgg47
  z75 := Tryz.sizeOf47
  v75 := Tryz.zeroValue47
  t76 := Tryz.underlying48
  a76 := Tryz.isAgg48
  z76 := Tryz.sizeOf48
  v76 := Tryz.zeroValue48
  t127 := Tryz.underlying70
  a127 := Tryz.isAgg70
  z127 := Tryz.sizeOf70
  v127 := Tryz.zeroValue70
  t164 := Tryz.underlying82
  a164 := Tryz.isAgg82
  z164 := Tryz.sizeOf82
  v164 := Tryz.zeroValue82
theorem joinStr_extra : Proofs.Builder.Extra Tryz.prog joinStr_ren where
  sizeBuilder := by kernel_rfl
  liesBuilder := by kernel_rfl
  t5 := Tryz.underlying5
  a5 := Tryz.isAgg5
  z5 := Tryz.sizeOf5
  v5 := Tryz.zeroValue5
  infoByte := by kernel_rfl
  cellsByte := by kernel_rfl
  sizeByte := by kernel_rfl
  neB5 := by decide

def validStr_ren : Shelf.Ren where
  f := fun x => match x with | 196 => 60 | 259 => 82 | n => n
  t := fun x => match x with | 9 => 9 | 4 => 4 | 3 => 3 | 5 => 5 | 12 => 12 | 119 => 118 | 0 => 0 | 46 => 106 | 139 => 121 | 138 => 120 | 53 => 131 | n => n
  g := fun x => match x with | 3 => 1 | 4 => 2 | n => n
theorem validStr_lay : Lays.n196 Tryz.prog validStr_ren where
  mixed := by kernel_rfl
  f196 := Tryz.func60.trans (by kernel_rfl)
  f259 := Tryz.func82.trans (by kernel_rfl)
  t0 := Tryz.underlying0
  a0 := Tryz.isAgg0
  z0 := Tryz.sizeOf0
  v0 := Tryz.zeroValue0
  t3 := Tryz.underlying3
  a3 := Tryz.isAgg3
  z3 := Tryz.sizeOf3
  v3 := Tryz.zeroValue3
  t4 := Tryz.underlying4
  a4 := Tryz.isAgg4
  z4 := Tryz.sizeOf4
  v4 := Tryz.zeroValue4
  t5 := Tryz.underlying5
  a5 := Tryz.isAgg5
  z5 := Tryz.sizeOf5
  v5 := Tryz.zeroValue5
  t9 := Tryz.underlying9
  a9 := Tryz.isAgg9
  z9 := Tryz.sizeOf9
  v9 := Tryz.zeroValue9
  t12 := Tryz.underlying12
  a12 := Tryz.isAgg12
  z12 := Tryz.sizeOf12
  v12 := Tryz.zeroValue12
  t46 := Tryz.underlying106
  a46 := Tryz.isAgg106
  z46 := Tryz.sizeOf106
  v46 := Tryz.zeroValue106
  t53 := Tryz.underlying131
  a53 := Tryz.isAgg131
  z53 := Tryz.sizeOf131
  v53 := Tryz.zeroValue131
  t119 := Tryz.underlying118
  a119 := Tryz.isAgg118
  z119 := Tryz.sizeOf118
  t138 := Tryz.underlying120
  a138 := Tryz.isAgg120
  z138 := Tryz.sizeOf120
  v138 := Tryz.zeroValue120
  t139 := Tryz.underlying121
  a139 := Tryz.isAgg121
  z139 := Tryz.sizeOf121
  v139 := Tryz.zeroValue121
  g3 := by kernel_rfl
  g4 := by kernel_rfl

def compareStr_ren : Shelf.Ren where
  f := fun x => match x with | 106 => 40 | 213 => 58 | 265 => 81 | n => n
  t := fun x => match x with | 9 => 9 | 3 => 3 | n => n
  g := fun n => n
theorem compareStr_lay : Lays.n106 Tryz.prog compareStr_ren where
  mixed := by kernel_rfl
  f106 := Tryz.func40.trans (by kernel_rfl)
  f213 := Tryz.func58.trans (by kernel_rfl)
  f265 := Tryz.func81.trans (by kernel_rfl)
  t3 := Tryz.underlying3
  a3 := Tryz.isAgg3
  z3 := Tryz.sizeOf3
  v3 := Tryz.zeroValue3
  t9 := Tryz.underlying9
  a9 := Tryz.isAgg9
  z9 := Tryz.sizeOf9
  v9 := Tryz.zeroValue9

def trimStr_ren : Shelf.Ren where
  f := fun x => match x with | 160 => 51 | 232 => 70 | 231 => 69 | 227 => 71 | 234 => 73 | 233 => 72 | 236 => 75 | 235 => 74 | 228 => 88 | 271 => 91 | 151 => 90 | 197 => 89 | 120 => 110 | 152 => 109 | 260 => 108 | 137 => 64 | 119 => 125 | 224 => 67 | 225 => 66 | 217 => 65 | 266 => 86 | n => n
  t := fun x => match x with | 9 => 9 | 4 => 4 | 3 => 3 | 5 => 5 | 117 => 110 | 116 => 109 | 0 => 0 | 124 => 113 | 21 => 21 | 105 => 127 | 46 => 106 | 119 => 118 | 139 => 121 | 138 => 120 | n => n
  g := fun x => match x with | 3 => 1 | 4 => 2 | n => n
theorem trimStr_lay : Lays.n160 Tryz.prog trimStr_ren where
  mixed := by kernel_rfl
  f119 := Tryz.func125.trans (by kernel_rfl)
  f120 := Tryz.func110.trans (by kernel_rfl)
  f137 := Tryz.func64.trans (by kernel_rfl)
  f151 := Tryz.func90.trans (by kernel_rfl)
  f152 := Tryz.func109.trans (by kernel_rfl)
  f160 := Tryz.func51.trans (by kernel_rfl)
  f197 := Tryz.func89.trans (by kernel_rfl)
  f217 := Tryz.func65.trans (by kernel_rfl)
  f224 := Tryz.func67.trans (by kernel_rfl)
  f225 := Tryz.func66.trans (by kernel_rfl)
  f227 := Tryz.func71.trans (by kernel_rfl)
  f228 := Tryz.func88.trans (by kernel_rfl)
  f231 := Tryz.func69.trans (by kernel_rfl)
  f232 := Tryz.func70.trans (by kernel_rfl)
  f233 := Tryz.func72.trans (by kernel_rfl)
  f234 := Tryz.func73.trans (by kernel_rfl)
  f235 := Tryz.func74.trans (by kernel_rfl)
  f236 := Tryz.func75.trans (by kernel_rfl)
  f260 := Tryz.func108.trans (by kernel_rfl)
  f266 := Tryz.func86.trans (by kernel_rfl)
  f271 := Tryz.func91.trans (by kernel_rfl)
  t0 := Tryz.underlying0
  a0 := Tryz.isAgg0
  z0 := Tryz.sizeOf0
  v0 := Tryz.zeroValue0
  t3 := Tryz.underlying3
  a3 := Tryz.isAgg3
  z3 := Tryz.sizeOf3
  v3 := Tryz.zeroValue3
  t4 := Tryz.underlying4
  a4 := Tryz.isAgg4
  z4 := Tryz.sizeOf4
  v4 := Tryz.zeroValue4
  t5 := Tryz.underlying5
  a5 := Tryz.isAgg5
  z5 := Tryz.sizeOf5
  v5 := Tryz.zeroValue5
  t9 := Tryz.underlying9
  a9 := Tryz.isAgg9
  z9 := Tryz.sizeOf9
  v9 := Tryz.zeroValue9
  t21 := Tryz.underlying21
  a21 := Tryz.isAgg21
  z21 := Tryz.sizeOf21
  v21 := Tryz.zeroValue21
  t46 := Tryz.underlying106
  a46 := Tryz.isAgg106
  z46 := Tryz.sizeOf106
  v46 := Tryz.zeroValue106
  t105 := Tryz.underlying127
  a105 := Tryz.isAgg127
  z105 := Tryz.sizeOf127
  v105 := Tryz.zeroValue127
  t116 := Tryz.underlying109
  a116 := Tryz.isAgg109
  z116 := Tryz.sizeOf109
  t117 := Tryz.underlying110
  a117 := Tryz.isAgg110
  z117 := Tryz.sizeOf110
  v117 := Tryz.zeroValue110
  t119 := Tryz.underlying118
  a119 := Tryz.isAgg118
  z119 := Tryz.sizeOf118
  t124 := Tryz.underlying113
  a124 := Tryz.isAgg113
  z124 := Tryz.sizeOf113
  v124 := Tryz.zeroValue113
  t138 := Tryz.underlying120
  a138 := Tryz.isAgg120
  z138 := Tryz.sizeOf120
  v138 := Tryz.zeroValue120
  t139 := Tryz.underlying121
  a139 := Tryz.isAgg121
  z139 := Tryz.sizeOf121
  v139 := Tryz.zeroValue121
  g3 := by kernel_rfl
  g4 := by kernel_rfl

def indexByteStr_ren : Shelf.Ren where
  f := fun x => match x with | 137 => 64 | 217 => 65 | 266 => 86 | n => n
  t := fun x => match x with | 9 => 9 | 5 => 5 | 3 => 3 | n => n
  g := fun n => n
theorem indexByteStr_lay : Lays.n137 Tryz.prog indexByteStr_ren where
  mixed := by kernel_rfl
  f137 := Tryz.func64.trans (by kernel_rfl)
  f217 := Tryz.func65.trans (by kernel_rfl)
  f266 := Tryz.func86.trans (by kernel_rfl)
  t3 := Tryz.underlying3
  a3 := Tryz.isAgg3
  z3 := Tryz.sizeOf3
  v3 := Tryz.zeroValue3
  t5 := Tryz.underlying5
  a5 := Tryz.isAgg5
  z5 := Tryz.sizeOf5
  v5 := Tryz.zeroValue5
  t9 := Tryz.underlying9
  a9 := Tryz.isAgg9
  z9 := Tryz.sizeOf9
  v9 := Tryz.zeroValue9

def atoiStr_ren : Shelf.Ren where
  f := fun x => match x with | 172 => 63 | 244 => 84 | 245 => 85 | 247 => 103 | 279 => 104 | 280 => 105 | 281 => 106 | 282 => 107 | 287 => 122 | 316 => 123 | 171 => 35 | 205 => 124 | 321 => 138 | 322 => 139 | 243 => 54 | 246 => 76 | 283 => 92 | 284 => 93 | 285 => 94 | 286 => 95 | 129 => 112 | 317 => 111 | 318 => 113 | 319 => 114 | 320 => 115 | 337 => 126 | 338 => 127 | n => n
  t := fun x => match x with | 9 => 9 | 3 => 3 | 75 => 47 | 76 => 48 | 4 => 4 | 5 => 5 | 167 => 151 | 37 => 43 | 0 => 0 | 85 => 152 | 2 => 2 | 168 => 154 | 53 => 131 | 175 => 176 | 46 => 106 | 210 => 179 | 127 => 70 | 145 => 196 | 143 => 194 | 21 => 21 | 171 => 130 | 173 => 134 | 212 => 159 | 51 => 88 | 20 => 20 | 213 => 160 | 232 => 197 | 233 => 198 | 80 => 31 | n => n
  g := fun x => match x with | 15 => 4 | 16 => 5 | 17 => 3 | 18 => 6 | 19 => 7 | n => n
theorem atoiStr_lay : LaysC.n172 Tryz.prog atoiStr_ren where
  mixed := by kernel_rfl
  f129 := Tryz.func112.trans (by kernel_rfl)
  f171 := Tryz.func35.trans (by kernel_rfl)
  f172 := Tryz.func63.trans (by kernel_rfl)
  f205 := Tryz.func124.trans (by kernel_rfl)
  f243 := Tryz.func54.trans (by kernel_rfl)
  f244 := Tryz.func84.trans (by kernel_rfl)
  f245 := Tryz.func85.trans (by kernel_rfl)
  f246 := Tryz.func76.trans (by kernel_rfl)
  f247 := Tryz.func103.trans (by kernel_rfl)
  f279 := Tryz.func104.trans (by kernel_rfl)
  f280 := Tryz.func105.trans (by kernel_rfl)
  f281 := Tryz.func106.trans (by kernel_rfl)
  f282 := Tryz.func107.trans (by kernel_rfl)
  f283 := Tryz.func92.trans (by kernel_rfl)
  f284 := Tryz.func93.trans (by kernel_rfl)
  f285 := Tryz.func94.trans (by kernel_rfl)
  f286 := Tryz.func95.trans (by kernel_rfl)
  f287 := Tryz.func122.trans (by kernel_rfl)
  f316 := Tryz.func123.trans (by kernel_rfl)
  f317 := Tryz.func111.trans (by kernel_rfl)
  f318 := Tryz.func113.trans (by kernel_rfl)
  f319 := Tryz.func114.trans (by kernel_rfl)
  f320 := Tryz.func115.trans (by kernel_rfl)
  f321 := Tryz.func138.trans (by kernel_rfl)
  f322 := Tryz.func139.trans (by kernel_rfl)
  f337 := Tryz.func126.trans (by kernel_rfl)
  f338 := Tryz.func127.trans (by kernel_rfl)
  t0 := Tryz.underlying0
  a0 := Tryz.isAgg0
  z0 := Tryz.sizeOf0
  v0 := Tryz.zeroValue0
  t2 := Tryz.underlying2
  a2 := Tryz.isAgg2
  z2 := Tryz.sizeOf2
  v2 := Tryz.zeroValue2
  t3 := Tryz.underlying3
  a3 := Tryz.isAgg3
  z3 := Tryz.sizeOf3
  v3 := Tryz.zeroValue3
  t4 := Tryz.underlying4
  a4 := Tryz.isAgg4
  z4 := Tryz.sizeOf4
  v4 := Tryz.zeroValue4
  t5 := Tryz.underlying5
  a5 := Tryz.isAgg5
  z5 := Tryz.sizeOf5
  v5 := Tryz.zeroValue5
  t9 := Tryz.underlying9
  a9 := Tryz.isAgg9
  z9 := Tryz.sizeOf9
  v9 := Tryz.zeroValue9
  t20 := Tryz.underlying20
  a20 := Tryz.isAgg20
  z20 := Tryz.sizeOf20
  v20 := Tryz.zeroValue20
  t21 := Tryz.underlying21
  a21 := Tryz.isAgg21
  z21 := Tryz.sizeOf21
  v21 := Tryz.zeroValue21
  t37 := Tryz.underlying43
  a37 := Tryz.isAgg43
  z37 := Tryz.sizeOf43
  v37 := Tryz.zeroValue43
  t46 := Tryz.underlying106
  a46 := Tryz.isAgg106
  z46 := Tryz.sizeOf106
  v46 := Tryz.zeroValue106
  t51 := Tryz.underlying88
  a51 := Tryz.isAgg88
  z51 := Tryz.sizeOf88
  v51 := Tryz.zeroValue88
  t53 := Tryz.underlying131
  a53 := Tryz.isAgg131
  z53 := Tryz.sizeOf131
  v53 := Tryz.zeroValue131
  t75 := Tryz.underlying47
  a75 := Tryz.isAgg47
  z75 := Tryz.sizeOf47
  v75 := Tryz.zeroValue47
  t76 := Tryz.underlying48
  a76 := Tryz.isAgg48
  z76 := Tryz.sizeOf48
  v76 := Tryz.zeroValue48
  t85 := Tryz.underlying152
  a85 := Tryz.isAgg152
  z85 := Tryz.sizeOf152
  v85 := Tryz.zeroValue152
  t127 := Tryz.underlying70
  a127 := Tryz.isAgg70
  z127 := Tryz.sizeOf70
  v127 := Tryz.zeroValue70
  t143 := Tryz.underlying194
  a143 := Tryz.isAgg194
  z143 := Tryz.sizeOf194
  v143 := Tryz.zeroValue194
  t145 := Tryz.underlying196
  a145 := Tryz.isAgg196
  z145 := Tryz.sizeOf196
  v145 := Tryz.zeroValue196
  t167 := Tryz.underlying151
  a167 := Tryz.isAgg151
  z167 := Tryz.sizeOf151
  v167 := Tryz.zeroValue151
  t168 := Tryz.underlying154
  a168 := Tryz.isAgg154
  z168 := Tryz.sizeOf154
  v168 := Tryz.zeroValue154
  t171 := Tryz.underlying130
  a171 := Tryz.isAgg130
  z171 := Tryz.sizeOf130
  v171 := Tryz.zeroValue130
  t173 := Tryz.underlying134
  a173 := Tryz.isAgg134
  z173 := Tryz.sizeOf134
  v173 := Tryz.zeroValue134
  t175 := Tryz.underlying176
  a175 := Tryz.isAgg176
  z175 := Tryz.sizeOf176
  v175 := Tryz.zeroValue176
  t210 := Tryz.underlying179
  a210 := Tryz.isAgg179
  z210 := Tryz.sizeOf179
  v210 := Tryz.zeroValue179
  t212 := Tryz.underlying159
  a212 := Tryz.isAgg159
  z212 := Tryz.sizeOf159
  v212 := Tryz.zeroValue159
  t213 := Tryz.underlying160
  a213 := Tryz.isAgg160
  z213 := Tryz.sizeOf160
  t232 := Tryz.underlying197
  a232 := Tryz.isAgg197
  z232 := Tryz.sizeOf197
  v232 := Tryz.zeroValue197
  t233 := Tryz.underlying198
  a233 := Tryz.isAgg198
  z233 := Tryz.sizeOf198
  v233 := Tryz.zeroValue198
  g15 := by kernel_rfl
  g16 := by kernel_rfl
  g17 := by kernel_rfl
  g18 := by kernel_rfl
  g19 := by kernel_rfl
  t80 := Tryz.underlying31
  a80 := Tryz.isAgg31
  z80 := Tryz.sizeOf31
  v80 := Tryz.zeroValue31
  i0 := by kernel_rfl
  i2 := by kernel_rfl
  i3 := by kernel_rfl
  i4 := by kernel_rfl
  i5 := by kernel_rfl
  i9 := by kernel_rfl
  i20 := by kernel_rfl
  i21 := by kernel_rfl
  i37 := by kernel_rfl
  i46 := by kernel_rfl
  i51 := by kernel_rfl
  i53 := by kernel_rfl
  i75 := by kernel_rfl
  i76 := by kernel_rfl
  i80 := by kernel_rfl
  i85 := by kernel_rfl
  i127 := by kernel_rfl
  i143 := by kernel_rfl
  i145 := by kernel_rfl
  i167 := by kernel_rfl
  i168 := by kernel_rfl
  i171 := by kernel_rfl
  i173 := by kernel_rfl
  i175 := by kernel_rfl
  i210 := by kernel_rfl
  i212 := by kernel_rfl
  i232 := by kernel_rfl
  i233 := by kernel_rfl
  m15 := by kernel_rfl
  m16 := by kernel_rfl
  m17 := by kernel_rfl
  m18 := by kernel_rfl
  m19 := by kernel_rfl
  c0 := by kernel_rfl
  c2 := by kernel_rfl
  c3 := by kernel_rfl
  c4 := by kernel_rfl
  c5 := by kernel_rfl
  c9 := by kernel_rfl
  c20 := by kernel_rfl
  c21 := by kernel_rfl
  c37 := by kernel_rfl
  c46 := by kernel_rfl
  c51 := by kernel_rfl
  c53 := by kernel_rfl
  c75 := by kernel_rfl
  c76 := by kernel_rfl
  c80 := by kernel_rfl
  c85 := by kernel_rfl
  c127 := by kernel_rfl
  c143 := by kernel_rfl
  c145 := by kernel_rfl
  c167 := by kernel_rfl
  c168 := by kernel_rfl
  c171 := by kernel_rfl
  c173 := by kernel_rfl
  c175 := by kernel_rfl
  c210 := by kernel_rfl
  c212 := by kernel_rfl
  c213 := by kernel_rfl
  c232 := by kernel_rfl
  c233 := by kernel_rfl

def splitNStr_ren : Shelf.Ren where
  f := fun x => match x with | 147 => 46 | 221 => 61 | 268 => 83 | 138 => 14 | 143 => 30 | 195 => 28 | 197 => 89 | 218 => 29 | 219 => 50 | 260 => 108 | 217 => 65 | 225 => 66 | 224 => 67 | 267 => 68 | 266 => 86 | 314 => 87 | n => n
  t := fun x => match x with | 9 => 9 | 3 => 3 | 31 => 65 | 4 => 4 | 0 => 0 | 105 => 127 | 21 => 21 | 5 => 5 | 46 => 106 | 119 => 118 | 139 => 121 | 138 => 120 | 146 => 124 | 51 => 88 | n => n
  g := fun x => match x with | 1 => 0 | 3 => 1 | 4 => 2 | n => n
theorem splitNStr_lay : Lays.n147 Tryz.prog splitNStr_ren where
  mixed := by kernel_rfl
  f138 := Tryz.func14.trans (by kernel_rfl)
  f143 := Tryz.func30.trans (by kernel_rfl)
  f147 := Tryz.func46.trans (by kernel_rfl)
  f195 := Tryz.func28.trans (by kernel_rfl)
  f197 := Tryz.func89.trans (by kernel_rfl)
  f217 := Tryz.func65.trans (by kernel_rfl)
  f218 := Tryz.func29.trans (by kernel_rfl)
  f219 := Tryz.func50.trans (by kernel_rfl)
  f221 := Tryz.func61.trans (by kernel_rfl)
  f224 := Tryz.func67.trans (by kernel_rfl)
  f225 := Tryz.func66.trans (by kernel_rfl)
  f260 := Tryz.func108.trans (by kernel_rfl)
  f266 := Tryz.func86.trans (by kernel_rfl)
  f267 := Tryz.func68.trans (by kernel_rfl)
  f268 := Tryz.func83.trans (by kernel_rfl)
  f314 := Tryz.func87.trans (by kernel_rfl)
  t0 := Tryz.underlying0
  a0 := Tryz.isAgg0
  z0 := Tryz.sizeOf0
  v0 := Tryz.zeroValue0
  t3 := Tryz.underlying3
  a3 := Tryz.isAgg3
  z3 := Tryz.sizeOf3
  v3 := Tryz.zeroValue3
  t4 := Tryz.underlying4
  a4 := Tryz.isAgg4
  z4 := Tryz.sizeOf4
  v4 := Tryz.zeroValue4
  t5 := Tryz.underlying5
  a5 := Tryz.isAgg5
  z5 := Tryz.sizeOf5
  v5 := Tryz.zeroValue5
  t9 := Tryz.underlying9
  a9 := Tryz.isAgg9
  z9 := Tryz.sizeOf9
  v9 := Tryz.zeroValue9
  t21 := Tryz.underlying21
  a21 := Tryz.isAgg21
  z21 := Tryz.sizeOf21
  v21 := Tryz.zeroValue21
  t31 := Tryz.underlying65
  a31 := Tryz.isAgg65
  z31 := Tryz.sizeOf65
  v31 := Tryz.zeroValue65
  t46 := Tryz.underlying106
  a46 := Tryz.isAgg106
  z46 := Tryz.sizeOf106
  v46 := Tryz.zeroValue106
  t51 := Tryz.underlying88
  a51 := Tryz.isAgg88
  z51 := Tryz.sizeOf88
  v51 := Tryz.zeroValue88
  t105 := Tryz.underlying127
  a105 := Tryz.isAgg127
  z105 := Tryz.sizeOf127
  v105 := Tryz.zeroValue127
  t119 := Tryz.underlying118
  a119 := Tryz.isAgg118
  z119 := Tryz.sizeOf118
  t138 := Tryz.underlying120
  a138 := Tryz.isAgg120
  z138 := Tryz.sizeOf120
  v138 := Tryz.zeroValue120
  t139 := Tryz.underlying121
  a139 := Tryz.isAgg121
  z139 := Tryz.sizeOf121
  v139 := Tryz.zeroValue121
  t146 := Tryz.underlying124
  a146 := Tryz.isAgg124
  z146 := Tryz.sizeOf124
  v146 := Tryz.zeroValue124
  g1 := by kernel_rfl
  g3 := by kernel_rfl
  g4 := by kernel_rfl

def cutStr_ren : Shelf.Ren where
  f := fun x => match x with | 145 => 26 | 220 => 45 | 219 => 50 | 217 => 65 | 225 => 66 | 224 => 67 | 267 => 68 | 266 => 86 | 314 => 87 | n => n
  t := fun x => match x with | 9 => 9 | 4 => 4 | 59 => 58 | 3 => 3 | 5 => 5 | 46 => 106 | 146 => 124 | 51 => 88 | n => n
  g := fun x => match x with | 1 => 0 | n => n
theorem cutStr_lay : Lays.n145 Tryz.prog cutStr_ren where
  mixed := by kernel_rfl
  f145 := Tryz.func26.trans (by kernel_rfl)
  f217 := Tryz.func65.trans (by kernel_rfl)
  f219 := Tryz.func50.trans (by kernel_rfl)
  f220 := Tryz.func45.trans (by kernel_rfl)
  f224 := Tryz.func67.trans (by kernel_rfl)
  f225 := Tryz.func66.trans (by kernel_rfl)
  f266 := Tryz.func86.trans (by kernel_rfl)
  f267 := Tryz.func68.trans (by kernel_rfl)
  f314 := Tryz.func87.trans (by kernel_rfl)
  t3 := Tryz.underlying3
  a3 := Tryz.isAgg3
  z3 := Tryz.sizeOf3
  v3 := Tryz.zeroValue3
  t4 := Tryz.underlying4
  a4 := Tryz.isAgg4
  z4 := Tryz.sizeOf4
  v4 := Tryz.zeroValue4
  t5 := Tryz.underlying5
  a5 := Tryz.isAgg5
  z5 := Tryz.sizeOf5
  v5 := Tryz.zeroValue5
  t9 := Tryz.underlying9
  a9 := Tryz.isAgg9
  z9 := Tryz.sizeOf9
  v9 := Tryz.zeroValue9
  t46 := Tryz.underlying106
  a46 := Tryz.isAgg106
  z46 := Tryz.sizeOf106
  v46 := Tryz.zeroValue106
  t51 := Tryz.underlying88
  a51 := Tryz.isAgg88
  z51 := Tryz.sizeOf88
  v51 := Tryz.zeroValue88
  t59 := Tryz.underlying58
  a59 := Tryz.isAgg58
  z59 := Tryz.sizeOf58
  v59 := Tryz.zeroValue58
  t146 := Tryz.underlying124
  a146 := Tryz.isAgg124
  z146 := Tryz.sizeOf124
  v146 := Tryz.zeroValue124
  g1 := by kernel_rfl

def bldStringL_ren : Shelf.Ren where
  f := fun x => match x with | 169 => 20 | n => n
  t := fun x => match x with | 70 => 42 | 9 => 9 | 0 => 0 | 72 => 45 | 37 => 43 | 127 => 70 | 3 => 3 | 5 => 5 | n => n
  g := fun n => n
theorem bldStringL_lay : Lays.n169 Tryz.prog bldStringL_ren where
  mixed := by kernel_rfl
  f169 := Tryz.func20.trans (by kernel_rfl)
  t0 := Tryz.underlying0
  a0 := Tryz.isAgg0
  z0 := Tryz.sizeOf0
  v0 := Tryz.zeroValue0
  t3 := Tryz.underlying3
  a3 := Tryz.isAgg3
  z3 := Tryz.sizeOf3
  v3 := Tryz.zeroValue3
  t9 := Tryz.underlying9
  a9 := Tryz.isAgg9
  z9 := Tryz.sizeOf9
  v9 := Tryz.zeroValue9
  t37 := Tryz.underlying43
  a37 := Tryz.isAgg43
  z37 := Tryz.sizeOf43
  v37 := Tryz.zeroValue43
  t70 := Tryz.underlying42
  a70 := Tryz.isAgg42
  z70 := Tryz.sizeOf42
  v70 := Tryz.zeroValue42
  t72 := Tryz.underlying45
  a72 := Tryz.isAgg45
  z72 := Tryz.sizeOf45
  v72 := Tryz.zeroValue45
  t127 := Tryz.underlying70
  a127 := Tryz.isAgg70
  z127 := Tryz.sizeOf70
  v127 := Tryz.zeroValue70
theorem bldStringL_extra : Proofs.Builder.Extra Tryz.prog bldStringL_ren where
  sizeBuilder := by kernel_rfl
  liesBuilder := by kernel_rfl
  t5 := Tryz.underlying5
  a5 := Tryz.isAgg5
  z5 := Tryz.sizeOf5
  v5 := Tryz.zeroValue5
  infoByte := by kernel_rfl
  cellsByte := by kernel_rfl
  sizeByte := by kernel_rfl
  neB5 := by decide

def bldLenL_ren : Shelf.Ren where
  f := fun x => match x with | 170 => 19 | n => n
  t := fun x => match x with | 70 => 42 | 3 => 3 | 0 => 0 | 72 => 45 | 37 => 43 | 5 => 5 | n => n
  g := fun n => n
theorem bldLenL_lay : Lays.n170 Tryz.prog bldLenL_ren where
  mixed := by kernel_rfl
  f170 := Tryz.func19.trans (by kernel_rfl)
  t0 := Tryz.underlying0
  a0 := Tryz.isAgg0
  z0 := Tryz.sizeOf0
  v0 := Tryz.zeroValue0
  t3 := Tryz.underlying3
  a3 := Tryz.isAgg3
  z3 := Tryz.sizeOf3
  v3 := Tryz.zeroValue3
  t37 := Tryz.underlying43
  a37 := Tryz.isAgg43
  z37 := Tryz.sizeOf43
  v37 := Tryz.zeroValue43
  t70 := Tryz.underlying42
  a70 := Tryz.isAgg42
  z70 := Tryz.sizeOf42
  v70 := Tryz.zeroValue42
  t72 := Tryz.underlying45
  a72 := Tryz.isAgg45
  z72 := Tryz.sizeOf45
  v72 := Tryz.zeroValue45

set_option maxHeartbeats 1000000 in
theorem cc_fresh (m : Nat) (w : World) (h0 : w.cell? ⟨m, 0, none⟩ = some (.pointer none)) (hsh : w.shape? m = some (45, 2)) (hfz : w.frozen? ⟨m, 0, none⟩ = false) :
    Calls Tryz.prog 34 #[.pointer (some ⟨m, 0, none⟩)] w fun e w' => e = .returned (.tuple #[]) ∧ w' = w.setCell ⟨m, 0, none⟩ (.pointer (some ⟨m, 0, none⟩)) := by
  obtain ⟨j, hj, hjs⟩ := Option.map_eq_some_iff.1 (show (Tryz.prog.info? 45).map (·.size) = some 2 from by kernel_rfl)
  go_enter Tryz.func34, Tryz.ntmps34
  go_wp2
  rw [Lib.run_to_unsafe w ⟨m, 0, none⟩ Tryz.underlying42 Tryz.underlying82 hj (by rw [hjs]; decide) hsh (Nat.zero_lt_succ 1)]
  simp only [Result.andThen]
  rw [Oper.upon_value]
  go_wp2
  rw [run_callFunc_extern Tryz.func53 (by kernel_rfl) (by kernel_rfl) (by kernel_rfl) (e := Extern.AbiNoEscape.same) (by kernel_rfl)]
  rw [Lib.run_noEscape]
  simp only [Result.andThen]
  rw [Oper.upon_value]
  go_wp2
  rw [Lib.run_from_unsafe w ⟨m, 0, none⟩ Tryz.underlying82 Tryz.underlying42 hj hsh (by kernel_rfl)]
  simp only [Result.andThen]
  rw [Oper.upon_value]
  go_wp2
  go_end0
  exact ⟨rfl, rfl⟩
set_option maxHeartbeats 1000000 in
theorem cc_used (m : Nat) (w : World) (h0 : w.cell? ⟨m, 0, none⟩ = some (.pointer (some ⟨m, 0, none⟩))) :
    Calls Tryz.prog 34 #[.pointer (some ⟨m, 0, none⟩)] w fun e w' => e = .returned (.tuple #[]) ∧ w' = w := by
  obtain ⟨j, hj, _⟩ := Option.map_eq_some_iff.1 (show (Tryz.prog.info? 45).map (·.size) = some 2 from by kernel_rfl)
  go_enter Tryz.func34, Tryz.ntmps34
  go_wp2
  rw [Lib.run_neq_ptr_same w _ Tryz.underlying42 hj]
  go_wp2
  go_end0
  exact ⟨rfl, rfl⟩
theorem cc_at : ChecksCopy Tryz.prog 34 45 := by
  intro m p u w hp h3
  rcases hp with rfl | rfl
  · refine Calls.mono (cc_fresh m w (by rw [Go.DB.cell_of_heap h3]; rfl) (by simp [World.shape?, h3]) (by simp [World.frozen?, h3])) ?_
    rintro e w' ⟨rfl, rfl⟩
    refine ⟨rfl, by simp [World.setCell, Array.getElem?_modify, h3], rfl, rfl, rfl, by simp [World.setCell], fun k hk => ?_⟩
    simp only [World.setCell, Array.getElem?_modify]
    rw [if_neg (Ne.symm hk)]
  · refine Calls.mono (cc_used m w (by rw [Go.DB.cell_of_heap h3]; rfl)) ?_
    rintro e w' ⟨rfl, rfl⟩
    exact ⟨rfl, h3, rfl, rfl, rfl, rfl, fun _ _ => rfl⟩
set_option maxHeartbeats 1000000 in
theorem ws_at : WritesStr Tryz.prog 16 45 5 := by
  intro m p u c s w hp h3 h4 h5 hl
  obtain ⟨i0, hi, hz0, hz1, hz2⟩ := info_parts (show (Tryz.prog.info? 5).map (fun i => (i.zero, i.size, i.bytes)) = some (some (.int .u8 0), 1, 1) from by kernel_rfl)
  have hm := (Array.getElem?_eq_some_iff.1 h3).1
  have hss : (ByteArray.mk s.toArray).size = s.length := rfl
  go_enter Tryz.func16, Tryz.ntmps16
  go_wp2_with (go_at_call 34; refine Calls.mono (cc_at m p u _ hp h3) ?_)
  rintro e w1 ⟨rfl, g1, g2, g3, g4, g5, g6⟩
  have c0 : w1.cell? ⟨m, 0, none⟩ = some (.pointer (some ⟨m, 0, none⟩)) := by rw [Go.DB.cell_of_heap g1]; rfl
  have c1 : w1.cell? ⟨m, 1, none⟩ = some u := by rw [Go.DB.cell_of_heap g1]; rfl
  have hown1 := own_turn (T := 45) h4 h5 g6
  go_wp2_with (at_builtin; refine wp_append_str rfl _ _ 43 9 rfl 5 i0 Tryz.underlying43 Tryz.underlying9 hi hz0 hz1 hz2 _ _ _ rfl hown1 ⟨s.toArray⟩ rfl ?c3 ?_)
  case c3 => rw [hss]; exact hl
  intro v' w2 hown2 hgrow hwhere
  have hm2 : w2.heap[m]? = some (.cells #[.pointer (some ⟨m, 0, none⟩), u] 45 (0, 0)) := by
    rw [hgrow.block m (by omega) (fun e => h5 e.symm)]; exact g1
  have d0 : w2.cell? ⟨m, 0, none⟩ = some (.pointer (some ⟨m, 0, none⟩)) := by rw [Go.DB.cell_of_heap hm2]; rfl
  have d1 : w2.cell? ⟨m, 1, none⟩ = some u := by rw [Go.DB.cell_of_heap hm2]; rfl
  have f1 : w2.frozen? ⟨m, 1, none⟩ = false := by simp [World.frozen?, hm2]
  obtain ⟨ao, n', cap, rfl⟩ := own_shape hown2
  go_wp2
  go_ret2
  exact ws_end (by decide) h3 h5 g2 g3 g4 g5 g6 hm2 hown2 hgrow (fun k hk => (hwhere k hk).imp id (fun h => by omega))

set_option maxHeartbeats 1600000 in
theorem qt18_at (l : List UInt8) (w : World) (hl : l.length ≤ 4294967296)
    (hcnt : ∀ (c : UInt8) (w : World), Calls Tryz.prog 14 #[.string ⟨l.toArray⟩, .string ⟨#[c]⟩] w fun e w' => e = .returned (.int .i64 (l.count c)) ∧ w' = w) :
    Calls Tryz.prog 18 #[.string ⟨l.toArray⟩] w fun e w' => e = .returned (.string ⟨(34 :: (escL l ++ [34])).toArray⟩) ∧ Below w.heap.size w w' := by
  have hnr := nr_at w.heap.size (w.alloc (.cells #[.string ⟨#[92]⟩, .string ⟨#[92, 92]⟩, .string ⟨#[34]⟩, .string ⟨#[92, 34]⟩, .string ⟨#[10]⟩, .string ⟨#[92, 110]⟩] 9)) ⟨#[92]⟩ ⟨#[92, 92]⟩ ⟨#[34]⟩ ⟨#[92, 34]⟩ ⟨#[10]⟩ ⟨#[92, 110]⟩ (by show (w.heap.push _)[w.heap.size]? = _; rw [Array.getElem?_push_size])
  have hsz : (w.alloc (.cells #[.string ⟨#[92]⟩, .string ⟨#[92, 92]⟩, .string ⟨#[34]⟩, .string ⟨#[92, 34]⟩, .string ⟨#[10]⟩, .string ⟨#[92, 110]⟩] 9)).heap.size = w.heap.size + 1 := by show (w.heap.push _).size = _; rw [Array.size_push]
  go_enter Tryz.func18, Tryz.ntmps18
  go_wp2_with (go_at_call 37; refine hnr.mono ?_)
  rintro e w1 ⟨rfl, C, hw1⟩
  obtain ⟨wa, hwa⟩ : ∃ x, x = w.alloc (.cells #[.string ⟨#[92]⟩, .string ⟨#[92, 92]⟩, .string ⟨#[34]⟩, .string ⟨#[92, 34]⟩, .string ⟨#[10]⟩, .string ⟨#[92, 110]⟩] 9) := ⟨_, rfl⟩
  rw [← hwa] at hw1 hsz ⊢
  obtain ⟨wb, hwb⟩ : ∃ x, x = wa.alloc (.cells (#[.string ⟨#[92]⟩, .string ⟨#[92, 92]⟩, .string ⟨#[34]⟩, .string ⟨#[92, 34]⟩, .string ⟨#[10]⟩, .string ⟨#[92, 110]⟩] ++ Builtin.zeroCells #[.string ⟨#[]⟩] (C - 6)) 9) := ⟨_, rfl⟩
  rw [← hwb] at hw1
  have hsb : wb.heap.size = wa.heap.size + 1 := by rw [hwb]; show (wa.heap.push _).size = _; rw [Array.size_push]
  have hb : w1.heap[wa.heap.size + 1]? = some (.cells #[.int .u32 0, .int .i32 0, .int .u32 0, .nilIface, .slice (some ⟨wa.heap.size, 0, none⟩) 6 C] 100 (0, 0)) := by
    rw [hw1]; show (wb.heap.push _)[wa.heap.size + 1]? = _
    rw [← hsb, Array.getElem?_push_size]
  have ho : w1.heap[wa.heap.size]? = some (.cells (#[.string ⟨#[92]⟩, .string ⟨#[92, 92]⟩, .string ⟨#[34]⟩, .string ⟨#[92, 34]⟩, .string ⟨#[10]⟩, .string ⟨#[92, 110]⟩] ++ Builtin.zeroCells #[.string ⟨#[]⟩] (C - 6)) 9 (0, 0)) := by
    rw [hw1]
    show (wb.alloc _).heap[wa.heap.size]? = _
    rw [heap_allocPast _ (by omega), hwb]
    show (wa.heap.push _)[wa.heap.size]? = _
    rw [Array.getElem?_push_size]
  have hs1 : w1.heap.size = wa.heap.size + 2 := by rw [hw1]; show (wb.heap.push _).size = _; rw [Array.size_push, hsb]
  have hB : Below w.heap.size w w1 := by
    have a1 : Below w.heap.size w wa := by rw [hwa]; exact (Below.refl _ w).alloc (Nat.le_refl _) _
    have a2 : Below w.heap.size w wb := by rw [hwb]; exact a1.alloc (by omega) _
    rw [hw1]; exact (a2.alloc (by omega) _).trans (below_drew2 _ _)
  have cell : ∀ j v, (#[Value.string ⟨#[92]⟩, .string ⟨#[92, 92]⟩, .string ⟨#[34]⟩, .string ⟨#[92, 34]⟩, .string ⟨#[10]⟩, .string ⟨#[92, 110]⟩] : Array Value)[j]? = some v → w1.cell? ⟨wa.heap.size, j, none⟩ = some v := by
    intro j v hj
    simp only [World.cell?, ho]
    rw [Array.getElem?_append_left (Array.getElem?_eq_some_iff.1 hj).1]
    simpa using hj
  have hrl := rl_at (wa.heap.size + 1) wa.heap.size C l w1 hl (by omega) (by omega) hb (cell 0 _ rfl) (cell 1 _ rfl) (cell 2 _ rfl) (cell 3 _ rfl) (cell 4 _ rfl) (cell 5 _ rfl) hcnt
  have HB : Hid (Below w.heap.size w w1) := hB
  have hle : w.heap.size ≤ wa.heap.size + 1 := by omega
  clear cell ho hb hs1 hsb hw1 hwb hwa hB hsz hnr hcnt
  go_wp2_with (go_at_call 38; refine hrl.mono ?_)
  rintro e w3 ⟨rfl, hB3⟩
  have HB3 : Hid (Below (wa.heap.size + 1) w1 w3) := hB3
  clear hB3
  have hlen : (escL l).length ≤ 8589934592 := by
    rw [escL_len]
    have : escN l ≤ l.length := List.countP_le_length
    omega
  have n1 : ¬ 9223372036854775807 < 1 + (escL l).length := by omega
  have n2 : ¬ 9223372036854775807 < 1 + (escL l).length + 1 := by omega
  go_wp2
  refine bodyPost_ret (results_tmp rfl _ _ _) rfl ?_
  refine ⟨?_, HB.out.trans (HB3.out.mono hle)⟩
  show Ending.returned (.string (ByteArray.mk #[34] ++ ByteArray.mk (escL l).toArray ++ ByteArray.mk #[34])) = _
  congr 2

theorem fnok14 : FnOK Tryz.prog 14 := ⟨_, Tryz.func14, by kernel_rfl, by kernel_rfl⟩
theorem fnok35 : FnOK Tryz.prog 35 := ⟨_, Tryz.func35, by kernel_rfl, by kernel_rfl⟩
theorem fnok44 : FnOK Tryz.prog 44 := ⟨_, Tryz.func44, by kernel_rfl, by kernel_rfl⟩
theorem fnok36 : FnOK Tryz.prog 36 := ⟨_, Tryz.func36, by kernel_rfl, by kernel_rfl⟩
theorem fnok60 : FnOK Tryz.prog 60 := ⟨_, Tryz.func60, by kernel_rfl, by kernel_rfl⟩
theorem fnok40 : FnOK Tryz.prog 40 := ⟨_, Tryz.func40, by kernel_rfl, by kernel_rfl⟩
theorem fnok51 : FnOK Tryz.prog 51 := ⟨_, Tryz.func51, by kernel_rfl, by kernel_rfl⟩
theorem fnok64 : FnOK Tryz.prog 64 := ⟨_, Tryz.func64, by kernel_rfl, by kernel_rfl⟩
theorem fnok63 : FnOK Tryz.prog 63 := ⟨_, Tryz.func63, by kernel_rfl, by kernel_rfl⟩
theorem fnok46 : FnOK Tryz.prog 46 := ⟨_, Tryz.func46, by kernel_rfl, by kernel_rfl⟩
theorem fnok26 : FnOK Tryz.prog 26 := ⟨_, Tryz.func26, by kernel_rfl, by kernel_rfl⟩
theorem fnok20 : FnOK Tryz.prog 20 := ⟨_, Tryz.func20, by kernel_rfl, by kernel_rfl⟩
theorem fnok19 : FnOK Tryz.prog 19 := ⟨_, Tryz.func19, by kernel_rfl, by kernel_rfl⟩
theorem fnok16 : FnOK Tryz.prog 16 := ⟨_, Tryz.func16, by kernel_rfl, by kernel_rfl⟩
theorem fnok18 : FnOK Tryz.prog 18 := ⟨_, Tryz.func18, by kernel_rfl, by kernel_rfl⟩
theorem fnok3 : FnOK Tryz.prog 3 := ⟨_, Tryz.func3, by kernel_rfl, by kernel_rfl⟩
theorem ty22 : Ty Tryz.prog 22 (List DOp) := ⟨⟨_, Tryz.underlying22, rfl⟩, by kernel_rfl⟩
theorem fnok4 : FnOK Tryz.prog 4 := ⟨_, Tryz.func4, by kernel_rfl, by kernel_rfl⟩
theorem fnok15 : FnOK Tryz.prog 15 := ⟨_, Tryz.func15, by kernel_rfl, by kernel_rfl⟩
theorem sl22 : SliceOf Tryz.prog 22 38 := Tryz.underlying22
theorem ty38 : Ty Tryz.prog 38 DOp := ⟨⟨_, Tryz.underlying38, rfl⟩, by kernel_rfl⟩
theorem zo38 : ZeroOf Tryz.prog 38 (⟨(⟨(0 : Int), Str.nil, (0 : Int)⟩ : Stamp), (0 : Int), Str.nil, Str.nil, Str.nil, (0 : Int)⟩ : DOp) := ⟨[.int .i64 0, .string ByteArray.empty, .int .i64 0, .int .i64 0, .string ByteArray.empty, .string ByteArray.empty, .string ByteArray.empty, .int .i64 0], by kernel_rfl, fun _ _ => ⟨[_, _, _], _, rfl, ⟨[_], _, rfl, ⟨rfl, by decide⟩, ⟨[_], _, rfl, str_zero, ⟨rfl, by decide⟩⟩⟩, ⟨[_], _, rfl, ⟨rfl, by decide⟩, ⟨[_], _, rfl, str_zero, ⟨[_], _, rfl, str_zero, ⟨[_], _, rfl, str_zero, ⟨rfl, by decide⟩⟩⟩⟩⟩⟩⟩
theorem bu38 : BuildAt Tryz.prog 38 [.int .i64 0, .string ByteArray.empty, .int .i64 0, .int .i64 0, .string ByteArray.empty, .string ByteArray.empty, .string ByteArray.empty, .int .i64 0] [(0, 3), (3, 1), (4, 1), (5, 1), (6, 1), (7, 1)] := ⟨by kernel_rfl, _, Tryz.underlying38, by kernel_rfl⟩
theorem zc38 : ∀ (M : MSet) (w : World), Rep.cells M (⟨(⟨(0 : Int), Str.nil, (0 : Int)⟩ : Stamp), (0 : Int), Str.nil, Str.nil, Str.nil, (0 : Int)⟩ : DOp) [.int .i64 0, .string ByteArray.empty, .int .i64 0, .int .i64 0, .string ByteArray.empty, .string ByteArray.empty, .string ByteArray.empty, .int .i64 0] w := fun _ _ => ⟨[_, _, _], _, rfl, ⟨[_], _, rfl, ⟨rfl, by decide⟩, ⟨[_], _, rfl, str_zero, ⟨rfl, by decide⟩⟩⟩, ⟨[_], _, rfl, ⟨rfl, by decide⟩, ⟨[_], _, rfl, str_zero, ⟨[_], _, rfl, str_zero, ⟨[_], _, rfl, str_zero, ⟨rfl, by decide⟩⟩⟩⟩⟩⟩
theorem fd38_0 : FieldAt Tryz.prog 38 0 0 := ⟨_, _, Tryz.underlying38, rfl, rfl, by kernel_rfl⟩
theorem hfd38_0 : HasField DOp Stamp 0 DOp.Stamp := ⟨by decide, fun M x cs w h => (HasField.fst HasField.self).2 M _ cs w h⟩
theorem fd36_1 : FieldAt Tryz.prog 36 1 1 := ⟨_, _, Tryz.underlying36, rfl, rfl, by kernel_rfl⟩
theorem hfd36_1 : HasField Stamp Str 1 Stamp.Site := ⟨by decide, fun M x cs w h => (HasField.snd (HasField.fst HasField.self)).2 M _ cs w h⟩
theorem ty9 : Ty Tryz.prog 9 Str := ⟨⟨_, Tryz.underlying9, rfl⟩, by kernel_rfl⟩
theorem fnok31 : FnOK Tryz.prog 31 := ⟨_, Tryz.func31, by kernel_rfl, by kernel_rfl⟩
theorem fnok32 : FnOK Tryz.prog 32 := ⟨_, Tryz.func32, by kernel_rfl, by kernel_rfl⟩
theorem fd36_2 : FieldAt Tryz.prog 36 2 2 := ⟨_, _, Tryz.underlying36, rfl, rfl, by kernel_rfl⟩
theorem hfd36_2 : HasField Stamp Int 2 Stamp.No := ⟨by decide, fun M x cs w h => (HasField.snd (HasField.snd HasField.self)).2 M _ cs w h⟩
theorem ty3 : Ty Tryz.prog 3 Int := ⟨⟨_, Tryz.underlying3, rfl⟩, by kernel_rfl⟩
theorem fnok41 : FnOK Tryz.prog 41 := ⟨_, Tryz.func41, by kernel_rfl, by kernel_rfl⟩
theorem fnok59 : FnOK Tryz.prog 59 := ⟨_, Tryz.func59, by kernel_rfl, by kernel_rfl⟩
theorem sl64 : SliceOf Tryz.prog 64 3 := Tryz.underlying64
theorem hz3 : HasZero Tryz.prog 3 := by unfold HasZero; kernel_rfl
theorem fnok39 : FnOK Tryz.prog 39 := ⟨_, Tryz.func39, by kernel_rfl, by kernel_rfl⟩
theorem fd36_0 : FieldAt Tryz.prog 36 0 0 := ⟨_, _, Tryz.underlying36, rfl, rfl, by kernel_rfl⟩
theorem hfd36_0 : HasField Stamp Int 0 Stamp.Time := ⟨by decide, fun M x cs w h => (HasField.fst HasField.self).2 M _ cs w h⟩
theorem fnok33 : FnOK Tryz.prog 33 := ⟨_, Tryz.func33, by kernel_rfl, by kernel_rfl⟩
theorem fd38_1 : FieldAt Tryz.prog 38 1 3 := ⟨_, _, Tryz.underlying38, rfl, rfl, by kernel_rfl⟩
theorem hfd38_1 : HasField DOp Int 3 DOp.Kind := ⟨by decide, fun M x cs w h => (HasField.snd (HasField.fst HasField.self)).2 M _ cs w h⟩
theorem fd38_5 : FieldAt Tryz.prog 38 5 7 := ⟨_, _, Tryz.underlying38, rfl, rfl, by kernel_rfl⟩
theorem hfd38_5 : HasField DOp Int 7 DOp.Of := ⟨by decide, fun M x cs w h => (HasField.snd (HasField.snd (HasField.snd (HasField.snd (HasField.snd HasField.self))))).2 M _ cs w h⟩
theorem fd38_2 : FieldAt Tryz.prog 38 2 4 := ⟨_, _, Tryz.underlying38, rfl, rfl, by kernel_rfl⟩
theorem hfd38_2 : HasField DOp Str 4 DOp.Id := ⟨by decide, fun M x cs w h => (HasField.snd (HasField.snd (HasField.fst HasField.self))).2 M _ cs w h⟩
theorem fd38_3 : FieldAt Tryz.prog 38 3 5 := ⟨_, _, Tryz.underlying38, rfl, rfl, by kernel_rfl⟩
theorem hfd38_3 : HasField DOp Str 5 DOp.Field := ⟨by decide, fun M x cs w h => (HasField.snd (HasField.snd (HasField.snd (HasField.fst HasField.self)))).2 M _ cs w h⟩
theorem fd38_4 : FieldAt Tryz.prog 38 4 6 := ⟨_, _, Tryz.underlying38, rfl, rfl, by kernel_rfl⟩
theorem hfd38_4 : HasField DOp Str 6 DOp.Value := ⟨by decide, fun M x cs w h => (HasField.snd (HasField.snd (HasField.snd (HasField.snd (HasField.fst HasField.self))))).2 M _ cs w h⟩
theorem fnok52 : FnOK Tryz.prog 52 := ⟨_, Tryz.func52, by kernel_rfl, by kernel_rfl⟩
theorem zbld45 : ZeroOf Tryz.prog 45 ((⟨.pointer none⟩, ⟨.slice none 0 0⟩) : Raw × Raw) := ⟨_, by kernel_rfl, fun _ _ => ⟨[.pointer none], [.slice none 0 0], rfl, ⟨rfl, rfl, rfl⟩, ⟨rfl, rfl, rfl⟩⟩⟩
theorem fnok17 : FnOK Tryz.prog 17 := ⟨_, Tryz.func17, by kernel_rfl, by kernel_rfl⟩
theorem sl65 : SliceOf Tryz.prog 65 9 := Tryz.underlying65
theorem hz9 : HasZero Tryz.prog 9 := by unfold HasZero; kernel_rfl
theorem rk65 : RowOK Tryz.prog 65 9 Str := ⟨sl65, ty9, by kernel_rfl⟩
theorem fnok5 : FnOK Tryz.prog 5 := ⟨_, Tryz.func5, by kernel_rfl, by kernel_rfl⟩
theorem sf38_0 : SetField DOp Stamp 0 (fun x z => { x with Stamp := z }) := ⟨by decide, fun M x z cs zs w h hz => (SetField.fst SetField.self).2 M _ z cs zs w h hz⟩
theorem sf36_2 : SetField Stamp Int 2 (fun x z => { x with No := z }) := ⟨by decide, fun M x z cs zs w h hz => (SetField.snd (SetField.snd SetField.self)).2 M _ z cs zs w h hz⟩
theorem sf36_0 : SetField Stamp Int 0 (fun x z => { x with Time := z }) := ⟨by decide, fun M x z cs zs w h hz => (SetField.fst SetField.self).2 M _ z cs zs w h hz⟩
theorem fnok21 : FnOK Tryz.prog 21 := ⟨_, Tryz.func21, by kernel_rfl, by kernel_rfl⟩
theorem fnok23 : FnOK Tryz.prog 23 := ⟨_, Tryz.func23, by kernel_rfl, by kernel_rfl⟩
theorem fnok6 : FnOK Tryz.prog 6 := ⟨_, Tryz.func6, by kernel_rfl, by kernel_rfl⟩
theorem fnok13 : FnOK Tryz.prog 13 := ⟨_, Tryz.func13, by kernel_rfl, by kernel_rfl⟩
theorem fnok24 : FnOK Tryz.prog 24 := ⟨_, Tryz.func24, by kernel_rfl, by kernel_rfl⟩
theorem fnok42 : FnOK Tryz.prog 42 := ⟨_, Tryz.func42, by kernel_rfl, by kernel_rfl⟩
theorem sl73 : SliceOf Tryz.prog 73 23 := Tryz.underlying73
theorem ty23 : Ty Tryz.prog 23 Int := ⟨⟨_, Tryz.underlying23, rfl⟩, by kernel_rfl⟩
theorem hz23 : HasZero Tryz.prog 23 := by unfold HasZero; kernel_rfl
theorem fnok22 : FnOK Tryz.prog 22 := ⟨_, Tryz.func22, by kernel_rfl, by kernel_rfl⟩
theorem fnok7 : FnOK Tryz.prog 7 := ⟨_, Tryz.func7, by kernel_rfl, by kernel_rfl⟩
theorem fnok25 : FnOK Tryz.prog 25 := ⟨_, Tryz.func25, by kernel_rfl, by kernel_rfl⟩
theorem fnok43 : FnOK Tryz.prog 43 := ⟨_, Tryz.func43, by kernel_rfl, by kernel_rfl⟩
theorem fnok8 : FnOK Tryz.prog 8 := ⟨_, Tryz.func8, by kernel_rfl, by kernel_rfl⟩
theorem hz38 : HasZero Tryz.prog 38 := by unfold HasZero; kernel_rfl
theorem fnok10 : FnOK Tryz.prog 10 := ⟨_, Tryz.func10, by kernel_rfl, by kernel_rfl⟩
theorem fnok9 : FnOK Tryz.prog 9 := ⟨_, Tryz.func9, by kernel_rfl, by kernel_rfl⟩
theorem fnok11 : FnOK Tryz.prog 11 := ⟨_, Tryz.func11, by kernel_rfl, by kernel_rfl⟩
theorem fnok27 : FnOK Tryz.prog 27 := ⟨_, Tryz.func27, by kernel_rfl, by kernel_rfl⟩
theorem fnok47 : FnOK Tryz.prog 47 := ⟨_, Tryz.func47, by kernel_rfl, by kernel_rfl⟩
theorem fnok62 : FnOK Tryz.prog 62 := ⟨_, Tryz.func62, by kernel_rfl, by kernel_rfl⟩
theorem sf36_1 : SetField Stamp Str 1 (fun x z => { x with Site := z }) := ⟨by decide, fun M x z cs zs w h hz => (SetField.snd (SetField.fst SetField.self)).2 M _ z cs zs w h hz⟩
theorem fnok48 : FnOK Tryz.prog 48 := ⟨_, Tryz.func48, by kernel_rfl, by kernel_rfl⟩
theorem sf38_1 : SetField DOp Int 3 (fun x z => { x with Kind := z }) := ⟨by decide, fun M x z cs zs w h hz => (SetField.snd (SetField.fst SetField.self)).2 M _ z cs zs w h hz⟩
theorem sf38_2 : SetField DOp Str 4 (fun x z => { x with Id := z }) := ⟨by decide, fun M x z cs zs w h hz => (SetField.snd (SetField.snd (SetField.fst SetField.self))).2 M _ z cs zs w h hz⟩
theorem sf38_3 : SetField DOp Str 5 (fun x z => { x with Field := z }) := ⟨by decide, fun M x z cs zs w h hz => (SetField.snd (SetField.snd (SetField.snd (SetField.fst SetField.self)))).2 M _ z cs zs w h hz⟩
theorem fnok49 : FnOK Tryz.prog 49 := ⟨_, Tryz.func49, by kernel_rfl, by kernel_rfl⟩
theorem sl43 : SliceOf Tryz.prog 43 5 := Tryz.underlying43
theorem ty5 : Ty Tryz.prog 5 (KI .u8) := ⟨⟨_, Tryz.underlying5, rfl⟩, by kernel_rfl⟩
theorem hz5 : HasZero Tryz.prog 5 := by unfold HasZero; kernel_rfl
theorem rk43 : RowOK Tryz.prog 43 5 (KI .u8) := ⟨sl43, ty5, by kernel_rfl⟩
theorem sf38_4 : SetField DOp Str 6 (fun x z => { x with Value := z }) := ⟨by decide, fun M x z cs zs w h hz => (SetField.snd (SetField.snd (SetField.snd (SetField.snd (SetField.fst SetField.self))))).2 M _ z cs zs w h hz⟩
theorem sf38_5 : SetField DOp Int 7 (fun x z => { x with Of := z }) := ⟨by decide, fun M x z cs zs w h hz => (SetField.snd (SetField.snd (SetField.snd (SetField.snd (SetField.snd SetField.self))))).2 M _ z cs zs w h hz⟩
theorem rk22 : RowOK Tryz.prog 22 38 DOp := ⟨sl22, ty38, by kernel_rfl⟩
theorem fnok12 : FnOK Tryz.prog 12 := ⟨_, Tryz.func12, by kernel_rfl, by kernel_rfl⟩
theorem eqi36 : EqIn Tryz.prog 36 Stamp 2 := eqIn_struct Tryz.underlying36 (by kernel_rfl) (.cons (proj := Stamp.Time) rfl hfd36_0 ty3 (eqIn_int Tryz.underlying3) (.cons (proj := Stamp.Site) rfl hfd36_1 ty9 (eqIn_str Tryz.underlying9) (.cons (proj := Stamp.No) rfl hfd36_2 ty3 (eqIn_int Tryz.underlying3) .nil))) (fun x y => by rw [Bool.eq_iff_iff]; cases x; cases y; simp only [Bool.and_eq_true, decide_eq_true_eq, and_true, Stamp.mk.injEq]) rfl
theorem ty36 : Ty Tryz.prog 36 Stamp := ⟨⟨_, Tryz.underlying36, rfl⟩, by kernel_rfl⟩
theorem eqi38 : EqIn Tryz.prog 38 DOp 3 := eqIn_struct Tryz.underlying38 (by kernel_rfl) (.cons (proj := DOp.Stamp) rfl hfd38_0 ty36 eqi36 (.cons (proj := DOp.Kind) rfl hfd38_1 ty3 (eqIn_more (eqIn_int Tryz.underlying3) (by decide)) (.cons (proj := DOp.Id) rfl hfd38_2 ty9 (eqIn_more (eqIn_str Tryz.underlying9) (by decide)) (.cons (proj := DOp.Field) rfl hfd38_3 ty9 (eqIn_more (eqIn_str Tryz.underlying9) (by decide)) (.cons (proj := DOp.Value) rfl hfd38_4 ty9 (eqIn_more (eqIn_str Tryz.underlying9) (by decide)) (.cons (proj := DOp.Of) rfl hfd38_5 ty3 (eqIn_more (eqIn_int Tryz.underlying3) (by decide)) .nil)))))) (fun x y => by rw [Bool.eq_iff_iff]; cases x; cases y; simp only [Bool.and_eq_true, decide_eq_true_eq, and_true, DOp.mk.injEq]) rfl
theorem eqa38 : DB.EqAt Tryz.prog 38 DOp := eqAt_in eqi38 (by kernel_rfl) (by kernel_rfl) rfl

end Go.Proofs.YtjnglmeiifcgjaaGreatDoor
