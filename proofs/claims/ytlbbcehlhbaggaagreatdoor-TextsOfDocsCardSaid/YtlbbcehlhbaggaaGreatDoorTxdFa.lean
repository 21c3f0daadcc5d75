/-
  Closed facts on the program.
-/
import Derived.Test.YtlbbcehlhbaggaaGreatDoorRows
import Derived.Test.YtlbbcehlhbaggaaGreatDoorTxdLi1
set_option maxRecDepth 100000
set_option linter.unusedSimpArgs false
set_option linter.unusedVariables false
namespace Go.Proofs.YtlbbcehlhbaggaaGreatDoor
open Go Go.DB Go.RowKit

theorem mixed : Tryz.prog.follows .mixedOrders = true := by kernel_rfl
theorem mx : Tryz.prog.follows .mixedOrders = true := mixed
def countStr_ren : Shelf.Ren where
  f := fun x => match x with | 138 => 17 | 195 => 43 | 218 => 44 | 143 => 45 | 219 => 86 | 217 => 113 | 225 => 114 | 224 => 115 | 267 => 116 | 266 => 138 | 314 => 139 | n => n
  t := fun x => match x with | 9 => 9 | 3 => 3 | 4 => 4 | 5 => 5 | 0 => 0 | 46 => 156 | 146 => 180 | 51 => 179 | n => n
  g := fun x => match x with | 1 => 0 | n => n
theorem countStr_lay : Lays.n138 Tryz.prog countStr_ren where
  mixed := by kernel_rfl
  f138 := Tryz.func17.trans (by kernel_rfl)
  f143 := Tryz.func45.trans (by kernel_rfl)
  f195 := Tryz.func43.trans (by kernel_rfl)
  f217 := Tryz.func113.trans (by kernel_rfl)
  f218 := Tryz.func44.trans (by kernel_rfl)
  f219 := Tryz.func86.trans (by kernel_rfl)
  f224 := Tryz.func115.trans (by kernel_rfl)
  f225 := Tryz.func114.trans (by kernel_rfl)
  f266 := Tryz.func138.trans (by kernel_rfl)
  f267 := Tryz.func116.trans (by kernel_rfl)
  f314 := Tryz.func139.trans (by kernel_rfl)
  t0 := Tryz.underlying0
  a0 := Tryz.isAgg0
  z0 := Tryz.sizeOf0
  v0 := Tryz.zeroValue0
  t3 := Tryz.underlying3
  a3 := Tryz.isAgg3
  z3 := Tryz.sizeOf3
  v3 := Tryz.zeroValue3
  t4 := Tryz.underlying4
  a4 := Tryz.isAgg4
  z4 := Tryz.sizeOf4
  v4 := Tryz.zeroValue4
  t5 := Tryz.underlying5
  a5 := Tryz.isAgg5
  z5 := Tryz.sizeOf5
  v5 := Tryz.zeroValue5
  t9 := Tryz.underlying9
  a9 := Tryz.isAgg9
  z9 := Tryz.sizeOf9
  v9 := Tryz.zeroValue9
  t46 := Tryz.underlying156
  a46 := Tryz.isAgg156
  z46 := Tryz.sizeOf156
  v46 := Tryz.zeroValue156
  t51 := Tryz.underlying179
  a51 := Tryz.isAgg179
  z51 := Tryz.sizeOf179
  v51 := Tryz.zeroValue179
  t146 := Tryz.underlying180
  a146 := Tryz.isAgg180
  z146 := Tryz.sizeOf180
  v146 := Tryz.zeroValue180
  g1 := by kernel_rfl

theorem sy_disable (w : World) : (callFunc 197 #[]).run Tryz.prog w = .ok (.value (.tuple #[])) w := run_call_mark0 Tryz.func197 (by kernel_rfl) (by kernel_rfl) (by kernel_rfl) .disable (by kernel_rfl) w
theorem sy_enable (w : World) : (callFunc 199 #[]).run Tryz.prog w = .ok (.value (.tuple #[])) w := run_call_mark0 Tryz.func199 (by kernel_rfl) (by kernel_rfl) (by kernel_rfl) .enable (by kernel_rfl) w
theorem sy_acquire (a : Addr) (w : World) : (callFunc 200 #[.pointer (some a)]).run Tryz.prog w = .ok (.value (.tuple #[])) w := run_call_marked Tryz.func200 (by kernel_rfl) (by kernel_rfl) (by kernel_rfl) .acquire (by kernel_rfl) a w
theorem sy_releaseMerge (a : Addr) (w : World) : (callFunc 202 #[.pointer (some a)]).run Tryz.prog w = .ok (.value (.tuple #[])) w := run_call_marked Tryz.func202 (by kernel_rfl) (by kernel_rfl) (by kernel_rfl) .releaseMerge (by kernel_rfl) a w
theorem sy_store (a : Addr) (x : Value) (u : FrameMode) (w : World) (hc : w.cell? a = some x) (hz : w.frozen? a = false) :
    CallsD Tryz.prog 181 #[.pointer (some a), .bool true] u w fun e u' w' => u' = u ∧ (e = .returned (.tuple #[]) ∧ w' = w.drew.setCell a (.int .u32 1)) := by
  have hc' : w.drew.cell? a = some x := by go_simp
  have hz' : w.drew.frozen? a = false := by go_simp
  have hst := run_call_store (P := Tryz.prog) Tryz.func191 (by kernel_rfl) (by kernel_rfl) (by kernel_rfl) (by kernel_rfl) (k := .u32) (y := 1) hc' hz'
  go_enter_d Tryz.func181, Tryz.ntmps181
  go_wp2
  go_region_calls
  all_goals (go_end0; exact ⟨rfl, rfl⟩)
theorem sy_unlock (a : Addr) (u : FrameMode) (w : World) (hc : w.cell? a = some (.int .i32 1)) (hz : w.frozen? a = false) :
    CallsD Tryz.prog 180 #[.pointer (some a)] u w fun e u' w' => u' = u ∧ (e = .returned (.tuple #[]) ∧ w' = w.setCell a (.int .i32 0)) := by
  have hd := sy_disable
  have he := sy_enable
  have hr := sy_releaseMerge
  have hadd := run_call_add (P := Tryz.prog) Tryz.func203 (by kernel_rfl) (by kernel_rfl) (by kernel_rfl) .i32 (by kernel_rfl) (y := -1) (s := 0) hc hz (by simp [go_sem]; rfl)
  have hcv := run_convert_to_unsafe (P := Tryz.prog) (src := 283) (dst := 145) Tryz.underlying283 Tryz.underlying145 (by kernel_rfl) hc
  go_enter_d Tryz.func180, Tryz.ntmps180
  go_wp2
  go_end0
  go_wp2
  all_goals (go_end0; exact ⟨rfl, rfl⟩)
theorem sy_lock (a : Addr) (w : World) (hc : w.cell? a = some (.int .i32 0)) (hz : w.frozen? a = false) :
    Calls Tryz.prog 179 #[.pointer (some a)] w fun e w' => e = .returned (.tuple #[]) ∧ w' = w.setCell a (.int .i32 1) := by
  have hd := sy_disable
  have he := sy_enable
  have ha := sy_acquire
  have hcas := run_call_cas_hit (P := Tryz.prog) Tryz.func198 (by kernel_rfl) (by kernel_rfl) (by kernel_rfl) .i32 (by kernel_rfl) (y := 1) hc hz
  have hc' : (w.setCell a (.int .i32 1)).cell? a = some (.int .i32 1) := World.cell?_setCell_same w a _ hc
  have hcv := run_convert_to_unsafe (P := Tryz.prog) (src := 283) (dst := 145) Tryz.underlying283 Tryz.underlying145 (by kernel_rfl) hc'
  go_enter Tryz.func179, Tryz.ntmps179
  go_wp2
  first | go_end0 | (simp only [Exit.inBlock, Exit.then]; refine bodyPost_ret (results_none rfl _ _ _) rfl ?_) | refine bodyPost_ret (results_none rfl _ _ _) rfl ?_
  go_wp2
  all_goals (go_end0; exact ⟨rfl, rfl⟩)
set_option maxHeartbeats 1600000 in
theorem sy_slow (b : Nat) (w : World) (Q : World → Prop) (h0 : w.cell? ⟨b, 0, none⟩ = some (.int .u32 0)) (h1 : w.cell? ⟨b, 1, none⟩ = some (.int .i32 0)) (f0 : w.frozen? ⟨b, 0, none⟩ = false) (f1 : w.frozen? ⟨b, 1, none⟩ = false)
    (hbo : Calls Tryz.prog 148 #[.pointer (some ⟨b, 0, none⟩)] (w.setCell ⟨b, 1, none⟩ (.int .i32 1)) fun e w' => e = .returned (.tuple #[]) ∧ w'.cell? ⟨b, 0, none⟩ = some (.int .u32 0) ∧ w'.frozen? ⟨b, 0, none⟩ = false ∧ w'.cell? ⟨b, 1, none⟩ = some (.int .i32 1) ∧ w'.frozen? ⟨b, 1, none⟩ = false ∧ Q w') :
    Calls Tryz.prog 162 #[.pointer (some ⟨b, 0, none⟩), .func (.func 148) #[.pointer (some ⟨b, 0, none⟩)] #[]] w fun e w' => e = .returned (.tuple #[]) ∧ ∃ w1, Q w1 ∧ w' = (w1.drew.setCell ⟨b, 0, none⟩ (.int .u32 1)).setCell ⟨b, 1, none⟩ (.int .i32 0) := by
  have hl := run_call_load (P := Tryz.prog) Tryz.func178 (by kernel_rfl) (by kernel_rfl) (by kernel_rfl) .u32 (by kernel_rfl) (w := w.setCell ⟨b, 1, none⟩ (.int .i32 1)) (a := ⟨b, 0, none⟩) (x := 0) ((World.cell?_setCell_other _ ⟨b, 1, none⟩ ⟨b, 0, none⟩ _ (by simp)).trans h0)
  have hnot : ∀ (x : Bool) (w : World), (Op.unary .not (.bool x)).run Tryz.prog w = .ok (.bool (!x)) w := fun _ _ => rfl
  go_enter_defers Tryz.func162, Tryz.ntmps162
  go_wp2_with (first | (go_at_call 179; refine (sy_lock ⟨b, 1, none⟩ _ (by go_simp) (by go_simp)).mono ?_; rintro e w' ⟨rfl, rfl⟩) | (go_at_call 148; refine hbo.mono ?_; rintro e w1 ⟨rfl, k0, z0, k1, z1, hQ⟩) | (go_at_call 161; go_in))
  refine leaves_cons (f := 181) (args := #[.pointer (some ⟨b, 0, none⟩), .bool true]) (by simp) (by simp [go_sem]) ?_
  refine (sy_store ⟨b, 0, none⟩ (.int .u32 0) .returning _ k0 z0).mono ?_
  rintro e u' w'' ⟨rfl, rfl, rfl⟩
  refine leaves_cons (f := 180) (args := #[.pointer (some ⟨b, 1, none⟩)]) (by simp [settle]) (by simp [go_sem]) ?_
  refine (sy_unlock ⟨b, 1, none⟩ _ _ ?_ (by simp [z1])).mono ?_
  · refine (World.cell?_setCell_other _ ⟨b, 0, none⟩ ⟨b, 1, none⟩ _ (by simp)).trans ?_
    rw [World.cell?_drew]; exact k1
  rintro e u' w'' ⟨rfl, rfl, rfl⟩
  simp [Leaves, settle, results, Tryz.results162]
  exact ⟨_, hQ, rfl⟩
set_option maxHeartbeats 1600000 in
theorem sy_do (b : Nat) (w : World) (Q : World → Prop) (h0 : w.cell? ⟨b, 0, none⟩ = some (.int .u32 0)) (h1 : w.cell? ⟨b, 1, none⟩ = some (.int .i32 0)) (f0 : w.frozen? ⟨b, 0, none⟩ = false) (f1 : w.frozen? ⟨b, 1, none⟩ = false)
    (hbo : Calls Tryz.prog 148 #[.pointer (some ⟨b, 0, none⟩)] (w.setCell ⟨b, 1, none⟩ (.int .i32 1)) fun e w' => e = .returned (.tuple #[]) ∧ w'.cell? ⟨b, 0, none⟩ = some (.int .u32 0) ∧ w'.frozen? ⟨b, 0, none⟩ = false ∧ w'.cell? ⟨b, 1, none⟩ = some (.int .i32 1) ∧ w'.frozen? ⟨b, 1, none⟩ = false ∧ Q w') :
    Calls Tryz.prog 147 #[.pointer (some ⟨b, 0, none⟩), .func (.func 148) #[.pointer (some ⟨b, 0, none⟩)] #[]] w fun e w' => e = .returned (.tuple #[]) ∧ ∃ w1, Q w1 ∧ w' = (w1.drew.setCell ⟨b, 0, none⟩ (.int .u32 1)).setCell ⟨b, 1, none⟩ (.int .i32 0) := by
  have hl := run_call_load (P := Tryz.prog) Tryz.func178 (by kernel_rfl) (by kernel_rfl) (by kernel_rfl) .u32 (by kernel_rfl) h0
  have hnot : ∀ (x : Bool) (w : World), (Op.unary .not (.bool x)).run Tryz.prog w = .ok (.bool (!x)) w := fun _ _ => rfl
  go_enter Tryz.func147, Tryz.ntmps147
  go_wp2_with (first | (go_at_call 162; refine (sy_slow b _ Q h0 h1 f0 f1 hbo).mono ?_; rintro e w' ⟨rfl, w1, hQ, rfl⟩) | (go_at_call 161; go_in))
  go_end0
  exact ⟨rfl, _, hQ, rfl⟩
set_option maxHeartbeats 1600000 in
theorem nr_at (a : Nat) (w : World) (s0 s1 s2 s3 s4 s5 : ByteArray) (ha : w.heap[a]? = some (.cells #[.string s0, .string s1, .string s2, .string s3, .string s4, .string s5] 9 (0, 0))) :
    Calls Tryz.prog 130 #[.slice (some ⟨a, 0, none⟩) 6 6] w fun e w' => e = .returned (.pointer (some ⟨w.heap.size + 1, 0, none⟩)) ∧ ∃ C, w' = ((w.alloc (.cells (#[.string s0, .string s1, .string s2, .string s3, .string s4, .string s5] ++ Builtin.zeroCells #[.string ⟨#[]⟩] (C - 6)) 9)).alloc
      (.cells #[.int .u32 0, .int .i32 0, .int .u32 0, .nilIface, .slice (some ⟨w.heap.size, 0, none⟩) 6 C] 201)).drew := by
  have hrem : (Op.intDiv .rem .i64 6 2 : Sem Value).run Tryz.prog w = .ok (.int .i64 0) w := rfl
  have c0 : w.cell? ⟨a, 0, none⟩ = some (.string s0) := by simp [World.cell?, ha]
  have c1 : w.cell? ⟨a, 1, none⟩ = some (.string s1) := by simp [World.cell?, ha]
  have c2 : w.cell? ⟨a, 2, none⟩ = some (.string s2) := by simp [World.cell?, ha]
  have c3 : w.cell? ⟨a, 3, none⟩ = some (.string s3) := by simp [World.cell?, ha]
  have c4 : w.cell? ⟨a, 4, none⟩ = some (.string s4) := by simp [World.cell?, ha]
  have c5 : w.cell? ⟨a, 5, none⟩ = some (.string s5) := by simp [World.cell?, ha]
  go_enter Tryz.func130, Tryz.ntmps130
  go_wp2
  go_ret
  exact ⟨rfl, _, rfl⟩
structure RepAt (g t : Nat) (w : World) : Prop where
  hit : ∀ b : UInt8, isEsc b = true → ∃ m cap y, w.cell? ⟨g, b.toNat, none⟩ = some (.slice (some ⟨m, 0, none⟩) 2 cap) ∧ m < w.heap.size ∧ w.cell? ⟨m, 0, none⟩ = some (.int .u8 92) ∧ w.cell? ⟨m, 1, none⟩ = some (.int .u8 (UInt8.toNat y : Nat)) ∧ escB b = [92, y]
  miss : ∀ b : UInt8, isEsc b = false → w.cell? ⟨g, b.toNat, none⟩ = some (.slice none 0 0)
  tr : w.cell? ⟨g, 256, none⟩ = some (.slice (some ⟨t, 0, none⟩) 3 3)
  t0 : w.cell? ⟨t, 0, none⟩ = some (.string ⟨#[10]⟩)
  t1 : w.cell? ⟨t, 1, none⟩ = some (.string ⟨#[34]⟩)
  t2 : w.cell? ⟨t, 2, none⟩ = some (.string ⟨#[92]⟩)
  g_lt : g < w.heap.size
  t_lt : t < w.heap.size
theorem RepAt.below {g t : Nat} {w w' : World} (h : RepAt g t w) (hb : Below w.heap.size w w') : RepAt g t w' := by
  refine ⟨fun b hb' => ?_, fun b hb' => ?_, ?_, ?_, ?_, ?_, Nat.lt_of_lt_of_le h.g_lt hb.size, Nat.lt_of_lt_of_le h.t_lt hb.size⟩
  · obtain ⟨m, cap, y, h1, h2, h3, h4, h5⟩ := h.hit b hb'
    exact ⟨m, cap, y, (hb.cell (p := ⟨g, b.toNat, none⟩) h.g_lt).trans h1, Nat.lt_of_lt_of_le h2 hb.size, (hb.cell (p := ⟨m, 0, none⟩) h2).trans h3, (hb.cell (p := ⟨m, 1, none⟩) h2).trans h4, h5⟩
  · exact (hb.cell (p := ⟨g, b.toNat, none⟩) h.g_lt).trans (h.miss b hb')
  · exact (hb.cell (p := ⟨g, 256, none⟩) h.g_lt).trans h.tr
  · exact (hb.cell (p := ⟨t, 0, none⟩) h.t_lt).trans h.t0
  · exact (hb.cell (p := ⟨t, 1, none⟩) h.t_lt).trans h.t1
  · exact (hb.cell (p := ⟨t, 2, none⟩) h.t_lt).trans h.t2
theorem byte_one (c : UInt8) (h : 0 < (ByteArray.mk #[c]).size) : (ByteArray.mk #[c])[0] = c := rfl
theorem byte10 : (10 : UInt8).toNat = 10 := rfl
theorem byte34 : (34 : UInt8).toNat = 34 := rfl
theorem byte92 : (92 : UInt8).toNat = 92 := rfl
attribute [local go_sem] byte_one byte10 byte34 byte92
theorem below_drew (w : World) : Below w.heap.size w w.drew := ⟨rfl, rfl, rfl, Nat.le_refl _, fun _ _ => rfl⟩
theorem below_drew2 (B : Nat) (w : World) : Below B w w.drew := ⟨rfl, rfl, rfl, Nat.le_refl _, fun _ _ => rfl⟩
def u8v (b : UInt8) : Value := .int .u8 (UInt8.toNat b : Nat)
def bufG (out : List UInt8) (n : Nat) : List Value := out.map u8v ++ List.replicate (n - out.length) (.int .u8 0)
theorem bufG_len {out : List UInt8} {n : Nat} (h : out.length ≤ n) : (bufG out n).length = n := by simp [bufG]; omega
theorem bufG_splice (out xs : List UInt8) (n : Nat) (h : out.length + xs.length ≤ n) : splice (bufG out n) out.length (xs.map u8v) = bufG (out ++ xs) n := by
  unfold splice bufG
  rw [List.length_map, List.take_left' (by simp), List.map_append, List.append_assoc]
  congr 2
  rw [show out.length + xs.length = (out.map u8v).length + xs.length by simp, ← List.drop_drop, List.drop_left, List.drop_replicate, List.length_append]
  congr 1; omega
theorem bufG_set (out : List UInt8) (x : UInt8) (n : Nat) (h : out.length + 1 ≤ n) : (bufG out n).set out.length (u8v x) = bufG (out ++ [x]) n := by
  have h1 := bufG_splice out [x] n h
  rw [← h1]
  unfold splice
  rw [List.set_eq_take_append_cons_drop, if_pos (by rw [bufG_len (by omega)]; omega)]
  rfl
theorem bufG_zero (n : Nat) : madeCells #[.int .u8 0] n = (bufG [] n).toArray := by
  have : (bufG [] n) = List.replicate n (.int .u8 0) := by simp [bufG]
  rw [this]
  apply Array.ext
  · simp [madeCells]
  · intro i h1 h2
    simp [madeCells, Nat.mod_one]
def outB (l : List UInt8) (k : Nat) : List UInt8 := escL (l.take k)
def outN (l : List UInt8) (k : Nat) : Nat := (outB l k).length
def bufV (l : List UInt8) (n k : Nat) : List Value := bufG (outB l k) n
theorem outB_succ {l : List UInt8} {k : Nat} (hk : k < l.length) : outB l (k + 1) = outB l k ++ escB l[k] := by
  unfold outB
  rw [List.take_add_one, List.getElem?_eq_getElem hk, escL_append]
  simp [escL]
theorem escN_succ {l : List UInt8} {k : Nat} (hk : k < l.length) : escN (l.take (k + 1)) = escN (l.take k) + if isEsc l[k] then 1 else 0 := by
  unfold escN
  rw [List.take_add_one, List.getElem?_eq_getElem hk, List.countP_append]
  simp [List.countP_cons]
theorem escL_mono (l : List UInt8) (k : Nat) : (escL (l.take k)).length ≤ (escL l).length := by
  conv => rhs; rw [← List.take_append_drop k l, escL_append, List.length_append]
  omega
theorem heap_set {w : World} {m i : Nat} {c : List Value} {T : TypeId} {fr : Nat × Nat} (h : w.heap[m]? = some (.cells c.toArray T fr)) (v : Value) : (w.setCell ⟨m, i, none⟩ v).heap[m]? = some (.cells (c.set i v).toArray T fr) := by
  simp [World.setCell, Array.getElem?_modify, h]
def cn (x y z : Nat) : Nat → Nat
  | 0 => 0
  | 1 => x
  | 2 => x + y
  | _ => x + y + z
def gt0 (n : Nat) : Bool := decide (0 < n)
set_option maxHeartbeats 3200000 in
theorem rp_at (g t : Nat) (l : List UInt8) (w : World) (hl : l.length ≤ 4294967296) (h : RepAt g t w)
    (hcnt : ∀ (c : UInt8) (w : World), Calls Tryz.prog 17 #[.string ⟨l.toArray⟩, .string ⟨#[c]⟩] w fun e w' => e = .returned (.int .i64 (l.count c)) ∧ w' = w) :
    Calls Tryz.prog 241 #[.pointer (some ⟨g, 0, none⟩), .string ⟨l.toArray⟩] w fun e w' => e = .returned (.string ⟨(escL l).toArray⟩) ∧ Below w.heap.size w w' := by
  have htr := h.tr
  have hsz : (ByteArray.mk l.toArray).size = l.length := rfl
  have q10 := hcnt 10
  have q34 := hcnt 34
  have q92 := hcnt 92
  have hN := escN_counts l
  have hNl : escN l ≤ l.length := List.countP_le_length
  have hc10 := List.count_le_length (a := (10 : UInt8)) (l := l)
  have hc34 := List.count_le_length (a := (34 : UInt8)) (l := l)
  have hc92 := List.count_le_length (a := (92 : UInt8)) (l := l)
  clear hcnt
  generalize l.count 10 = x10 at *
  generalize l.count 34 = x34 at *
  generalize l.count 92 = x92 at *
  have hmk : ∀ (n : Nat) (w : World), n ≤ 281474976710656 → (Instr.makeSlice 48 (.int .i64 (n : Int)) (.int .i64 (n : Int))).run Tryz.prog w = .ok (.slice (some ⟨w.heap.size, 0, none⟩) n n) (w.alloc (.cells (madeCells #[.int .u8 0] n) 5)) := fun n w hn =>
    run_make_row' (P := Tryz.prog) 48 5 (.int .u8 0) 1 Tryz.underlying48 (by kernel_rfl) rfl .i64 .i64 n (by omega) (by omega) w
  go_enter Tryz.func241, Tryz.ntmps241
  go_wp2
  · rename_i hbig; clear hbig
    go_loopw [5, 6, 32] (fun ns an i wr => ∃ k : Nat, k ≤ 3 ∧ i = .int .i64 k ∧ ns = .int .i64 ((l.length + cn x10 x34 x92 k : Nat) : Int) ∧ an = .bool (gt0 (cn x10 x34 x92 k)) ∧ Hid (RepAt g t wr) ∧ Hid (Below w.heap.size w wr)) (fun _ _ i _ => 3 - (RowKit.intOf i).toNat)
    case atStart => exact ⟨0, by omega, rfl, rfl, rfl, h, Below.refl _ _⟩
    case round =>
      obtain ⟨k, hk, rfl, rfl, rfl, hR, hB⟩ := hrel
      have hR' := hR.out
      have k0 := hR'.t0
      have k1 := hR'.t1
      have k2 := hR'.t2
      obtain ⟨m10, e10, y10, g10, _, _, _, _⟩ := hR'.hit 10 rfl
      obtain ⟨m34, e34, y34, g34, _, _, _, _⟩ := hR'.hit 34 rfl
      obtain ⟨m92, e92, y92, g92, _, _, _, _⟩ := hR'.hit 92 rfl
      simp only [show (10 : UInt8).toNat = 10 from rfl, show (34 : UInt8).toNat = 34 from rfl, show (92 : UInt8).toNat = 92 from rfl] at g10 g34 g92
      clear hR'
      rcases (show k = 0 ∨ k = 1 ∨ k = 2 ∨ k = 3 by omega) with rfl | rfl | rfl | rfl
      · simp only [cn]
        go_wp2_with (go_at_call 17; refine (q10 _).mono ?_; rintro e w' ⟨rfl, rfl⟩)
        · have hne : ((x10 : Int) != 0) = true := by assumption
          have hne' : ¬ x10 = 0 := by simpa using hne
          go_region
          go_wp2
          go_roundw
          case rel => exact ⟨1, by omega, rfl, rfl, by simp only [gt0, cn]; rw [decide_eq_true (by omega)], hR.out.below (below_drew _), hB.out.trans (below_drew2 _ _)⟩
          case measure => simp [RowKit.intOf]
        · have hne : ((x10 : Int) != 0) = false := by assumption
          have hne' : x10 = 0 := by simpa using hne
          go_roundw
          case rel => exact ⟨1, by omega, rfl, by simp only [cn]; congr 1; omega, by simp only [cn, hne', Nat.add_zero], hR, hB⟩
          case measure => simp [RowKit.intOf]
      · simp only [cn]
        go_wp2_with (go_at_call 17; refine (q34 _).mono ?_; rintro e w' ⟨rfl, rfl⟩)
        · have hne : ((x34 : Int) != 0) = true := by assumption
          have hne' : ¬ x34 = 0 := by simpa using hne
          go_region
          go_wp2
          go_roundw
          case rel => exact ⟨2, by omega, rfl, by simp only [cn]; congr 1; omega, by simp only [gt0, cn]; rw [decide_eq_true (by omega)], hR.out.below (below_drew _), hB.out.trans (below_drew2 _ _)⟩
          case measure => simp [RowKit.intOf]
        · have hne : ((x34 : Int) != 0) = false := by assumption
          have hne' : x34 = 0 := by simpa using hne
          go_roundw
          case rel => exact ⟨2, by omega, rfl, by simp only [cn]; congr 1; omega, by simp only [cn, hne', Nat.add_zero], hR, hB⟩
          case measure => simp [RowKit.intOf]
      · simp only [cn]
        go_wp2_with (go_at_call 17; refine (q92 _).mono ?_; rintro e w' ⟨rfl, rfl⟩)
        · have hne : ((x92 : Int) != 0) = true := by assumption
          have hne' : ¬ x92 = 0 := by simpa using hne
          go_region
          go_wp2
          go_roundw
          case rel => exact ⟨3, by omega, rfl, by simp only [cn]; congr 1; omega, by simp only [gt0, cn]; rw [decide_eq_true (by omega)], hR.out.below (below_drew _), hB.out.trans (below_drew2 _ _)⟩
          case measure => simp [RowKit.intOf]
        · have hne : ((x92 : Int) != 0) = false := by assumption
          have hne' : x92 = 0 := by simpa using hne
          go_roundw
          case rel => exact ⟨3, by omega, rfl, by simp only [cn]; congr 1; omega, by simp only [cn, hne', Nat.add_zero], hR, hB⟩
          case measure => simp [RowKit.intOf]
      · simp only [cn, ← hN]
        generalize hNN : escN l = N at *
        generalize hnn : l.length + N = n at *
        clear hN q10 q34 q92 g10 g34 g92 k0 k1 k2
        have hmk' := fun w => hmk n w (by omega)
        clear hmk
        rename World => w1
        go_wp2
        · have hg0 : (!gt0 N) = true := by assumption
          have : N = 0 := by unfold gt0 at hg0; simpa using hg0
          refine bodyPost_ret (results_tmp rfl _ _ _) rfl ?_
          refine ⟨?_, hB.out⟩
          rw [escL_none (hNN.trans this)]; rfl
        · clear hmk'
          generalize ((3 : Nat) : Int) = z3
          have hgz : (!gt0 N) = false := by assumption
          simp only [hgz]
          obtain ⟨m, hm0⟩ : ∃ m, m = w1.heap.size := ⟨_, rfl⟩
          rw [← hm0]
          have hm : Hid (m = w1.heap.size) := hm0
          clear hm0
          have hlen : (escL l).length = n := by rw [escL_len, hNN, hnn]
          go_loopw [13, 14] (fun j i w2 => ∃ k : Nat, k ≤ l.length ∧ i = .int .i64 k ∧ j = .int .i64 (outN l k) ∧ Hid (w2.heap[m]? = some (.cells (bufV l n k).toArray 5 (0, 0))) ∧ Hid (Below m w1 w2)) (fun _ i _ => l.length - (RowKit.intOf i).toNat)
          case atStart => exact ⟨0, by omega, rfl, rfl, by show (w1.heap.push _)[m]? = _; rw [hm.out, Array.getElem?_push_size, bufG_zero]; rfl, (Below.refl _ _).alloc (by rw [hm.out]; exact Nat.le_refl _) _⟩
          case round =>
            obtain ⟨k, hk, rfl, rfl, hbuf, hB2⟩ := hrel
            have hR2 : RepAt g t wr := (hR.out).below (by rw [← hm.out]; exact hB2.out)
            have hmlt : m < wr.heap.size := (Array.getElem?_eq_some_iff.1 hbuf.out).1
            by_cases hlt : k < l.length
            · obtain ⟨x, hx⟩ : ∃ x, x = l[k] := ⟨_, rfl⟩
              have hget : ∀ h, (ByteArray.mk l.toArray)[k]'h = x := fun h => hx.symm
              have hx256 : x.toNat < 256 := x.toNat_lt
              have hx256i : (x.toNat : Int) < 256 := by omega
              have hlti : (k : Int) < l.length := by omega
              have hmono := escL_mono l (k + 1)
              have hsucc := outB_succ hlt
              rw [← hx] at hsucc
              clear hx
              rw [hlen, show escL (l.take (k + 1)) = outB l (k + 1) from rfl, hsucc, List.length_append] at hmono
              cases hb : isEsc x with
              | true =>
                obtain ⟨a, cap, y, r1, ra, r2, r3, he⟩ := hR2.hit x hb
                rw [he] at hmono hsucc
                have hroom : outN l k + 2 ≤ n := hmono
                have n1 : ∀ w : World, (binOp .neq 48 (.slice (some ⟨a, 0, none⟩) 2 cap) (.slice none 0 0)).run Tryz.prog w = .ok (.bool true) w := fun w => run_neq_slice_nil (P := Tryz.prog) (w := w) 48 5 (some ⟨a, 0, none⟩) 2 cap Tryz.underlying48
                clear hmono hR2
                have hsl : (outN l k : Int) ≤ n := by omega
                have hne : ¬ n = outN l k := by omega
                have hbl : (bufV l n k).length = n := bufG_len (by unfold outN at hroom; omega)
                have hsrc : ∀ (j : Nat) (v : Value), ([92, y].map u8v)[j]? = some v → wr.cell? ((⟨a, 0, none⟩ : Addr).add j) = some v := by
                  intro j v hj
                  match j, hj with
                  | 0, hj => rw [← hj]; exact r2
                  | 1, hj => rw [← hj]; exact r3
                have hfit : outN l k + ([92, y].map u8v).length ≤ (bufV l n k).length := by rw [hbl]; exact hroom
                have hone : ∀ v ∈ [92, y].map u8v, v.oneCell' = true := by simp [u8v, Value.oneCell']
                have hmin : ([92, y].map u8v).length = Nat.min 2 (n - outN l k) := (Nat.min_eq_left (by omega)).symm
                have Hs : Hid (bufV l n (k + 1) = splice (bufV l n k) (outN l k) ([92, y].map u8v)) := by
                  have := bufG_splice (outB l k) [92, y] n hroom
                  show _ = _
                  unfold bufV outN
                  rw [this, hsucc]
                have Ho : Hid (outN l (k + 1) = outN l k + 2) := by show _ = _; unfold outN; rw [hsucc, List.length_append]; rfl
                clear hsucc
                go_wp2
                go_region_law (refine step_copy_splice rfl (.tmp 105) (.tmp 111) 48 48 rfl 5 Tryz.underlying48 (by kernel_rfl) (some ⟨m, outN l k, none⟩) (some ⟨a, 0, none⟩) (n - outN l k) (n - outN l k) 2 cap (by simp [Act.eval, Act.put]) (by simp [Act.eval, Act.put]) m (outN l k) (bufV l n k) 5 hbuf.out ([92, y].map u8v) hmin (fun _ => ⟨rfl, _, rfl, hsrc⟩) hfit hone m w1 (hB2.out.trans (below_drew2 _ _)) (Nat.le_refl m) ?_; intro w4 hg4 hb4)
                go_wp2
                go_roundw
                case rel =>
                  refine ⟨k + 1, by omega, by go_num, ?_, ?_, hb4⟩
                  · rw [Ho.out]; simp
                  · show _ = _
                    rw [hg4.out, Hs.out]
                case measure => simp [RowKit.intOf]; omega
              | false =>
                have r1 := hR2.miss x hb
                rw [escB_not hb] at hmono hsucc
                have hroom : outN l k + 1 ≤ n := hmono
                have hrooi : (outN l k : Int) < n := by omega
                have c1 : wr.cell? ⟨m, outN l k, none⟩ = some (.int .u8 0) := by
                  have : (bufV l n k)[outN l k]? = some (.int .u8 0) := by
                    unfold bufV bufG outN
                    rw [List.getElem?_append_right (by simp), List.length_map, Nat.sub_self, List.getElem?_replicate, if_pos (by unfold outN at hroom; omega)]
                  simp [World.cell?, hbuf.out, this]
                have f1 : wr.frozen? ⟨m, outN l k, none⟩ = false := by simp [World.frozen?, hbuf.out]
                have n1 : ∀ w : World, (binOp .neq 48 (.slice none 0 0) (.slice none 0 0)).run Tryz.prog w = .ok (.bool false) w := fun w => run_neq_slice_nil (P := Tryz.prog) (w := w) 48 5 none 0 0 Tryz.underlying48
                clear hmono hR2
                go_wp2
                go_roundw
                case rel => 
                  refine ⟨k + 1, by omega, by go_num, ?_, ?_, ?_⟩
                  · unfold outN; rw [hsucc, List.length_append]; rfl
                  · show _ = _
                    rw [heap_set hbuf.out]
                    unfold bufV
                    rw [hsucc]
                    exact congrArg (fun c : List Value => some (Obj.cells c.toArray 5 (0, 0))) (bufG_set _ _ _ hroom)
                  · exact hB2.out.setCell (show m ≤ _ from Nat.le_refl m) _
                case measure => simp [RowKit.intOf]; omega
            · have : k = l.length := by omega
              subst this
              have hcv : (convert 48 9 (.slice (some ⟨m, 0, none⟩) n n)).run Tryz.prog wr = .ok (.string ⟨(escL l).toArray⟩) wr := by
                have hb : bufV l n l.length = (escL l).map u8v := by
                  unfold bufV bufG outB
                  rw [List.take_length, hlen, Nat.sub_self]; simp
                have hbu := hbuf.out
                rw [hb] at hbu
                have := run_convert_bytes_arg (P := Tryz.prog) wr 48 5 Tryz.underlying48 Tryz.underlying5 m 0 n n ((escL l).map fun b => (UInt8.toNat b : Int)) (by rw [List.length_map, hlen]) (fun i hi => by
                  rw [Nat.zero_add]
                  simp [World.cell?, hbu, u8v, List.getElem?_eq_getElem (show i < (escL l).length by omega)]) 9 Tryz.underlying9
                rw [this]
                simp [strOfNums, List.map_map, Function.comp_def]
              clear hR2
              go_wp2
              refine bodyPost_ret (results_tmp rfl _ _ _) rfl ?_
              exact ⟨rfl, hB.out.trans (hB2.out.mono (by rw [hm.out]; exact hB.out.size))⟩
  · rename_i hbig; clear hbig
    go_loopw [5, 6, 10] (fun ns an i wr => ∃ k : Nat, k ≤ l.length ∧ i = .int .i64 k ∧ ns = .int .i64 ((l.length + escN (l.take k) : Nat) : Int) ∧ an = .bool (gt0 (escN (l.take k))) ∧ Hid (RepAt g t wr) ∧ Hid (Below w.heap.size w wr)) (fun _ _ i _ => l.length - (RowKit.intOf i).toNat)
    case atStart => exact ⟨0, by omega, rfl, by simp [escN], rfl, h, Below.refl _ _⟩
    case round =>
      obtain ⟨k, hk, rfl, rfl, rfl, hR, hB⟩ := hrel
      by_cases hlt : k < l.length
      · obtain ⟨x, hx⟩ : ∃ x, x = l[k] := ⟨_, rfl⟩
        have hget : ∀ h, (ByteArray.mk l.toArray)[k]'h = x := fun h => hx.symm
        have hx256 : x.toNat < 256 := x.toNat_lt
        have hx256i : (x.toNat : Int) < 256 := by omega
        have hlti : (k : Int) < l.length := by omega
        have hsucc := escN_succ hlt
        rw [← hx] at hsucc
        clear hx hN
        have hcl : escN (l.take k) ≤ l.length := Nat.le_trans List.countP_le_length (by rw [List.length_take]; omega)
        generalize escN (l.take k) = c at *
        have hR2 := hR.out
        cases hb : isEsc x with
        | true =>
          obtain ⟨a, cap, y, r1, ra, r2, r3, he⟩ := hR2.hit x hb
          rw [hb, if_pos rfl] at hsucc
          have hs : Hid (escN (l.take (k + 1)) = c + 1) := hsucc
          have n1 : ∀ w : World, (binOp .neq 48 (.slice (some ⟨a, 0, none⟩) 2 cap) (.slice none 0 0)).run Tryz.prog w = .ok (.bool true) w := fun w => run_neq_slice_nil (P := Tryz.prog) (w := w) 48 5 (some ⟨a, 0, none⟩) 2 cap Tryz.underlying48
          clear hsucc hR2
          go_wp2
          go_roundw
          case rel => exact ⟨k + 1, by omega, by go_num, by rw [hs.out]; go_num, by rw [hs.out]; rfl, hR, hB⟩
          case measure => simp [RowKit.intOf]; omega
        | false =>
          have r1 := hR2.miss x hb
          rw [hb, if_neg (by decide)] at hsucc
          have hs : Hid (escN (l.take (k + 1)) = c) := hsucc
          have n1 : ∀ w : World, (binOp .neq 48 (.slice none 0 0) (.slice none 0 0)).run Tryz.prog w = .ok (.bool false) w := fun w => run_neq_slice_nil (P := Tryz.prog) (w := w) 48 5 none 0 0 Tryz.underlying48
          clear hsucc hR2
          go_wp2
          go_roundw
          case rel => exact ⟨k + 1, by omega, by go_num, by rw [hs.out], by rw [hs.out], hR, hB⟩
          case measure => simp [RowKit.intOf]; omega
      · have : k = l.length := by omega
        subst this
        simp only [List.take_length]
        clear hN
        generalize hNN : escN l = N at *
        generalize hnn : l.length + N = n at *
        have hmk' := fun w => hmk n w (by omega)
        clear hmk
        rename World => w1
        go_wp2
        · have hg0 : (!gt0 N) = true := by assumption
          have : N = 0 := by unfold gt0 at hg0; simpa using hg0
          refine bodyPost_ret (results_tmp rfl _ _ _) rfl ?_
          refine ⟨?_, hB.out⟩
          rw [escL_none (hNN.trans this)]; rfl
        · clear hmk'
          generalize ((3 : Nat) : Int) = z3
          have hgz : (!gt0 N) = false := by assumption
          simp only [hgz]
          obtain ⟨m, hm0⟩ : ∃ m, m = w1.heap.size := ⟨_, rfl⟩
          rw [← hm0]
          have hm : Hid (m = w1.heap.size) := hm0
          clear hm0
          have hlen : (escL l).length = n := by rw [escL_len, hNN, hnn]
          go_loopw [13, 14] (fun j i w2 => ∃ k : Nat, k ≤ l.length ∧ i = .int .i64 k ∧ j = .int .i64 (outN l k) ∧ Hid (w2.heap[m]? = some (.cells (bufV l n k).toArray 5 (0, 0))) ∧ Hid (Below m w1 w2)) (fun _ i _ => l.length - (RowKit.intOf i).toNat)
          case atStart => exact ⟨0, by omega, rfl, rfl, by show (w1.heap.push _)[m]? = _; rw [hm.out, Array.getElem?_push_size, bufG_zero]; rfl, (Below.refl _ _).alloc (by rw [hm.out]; exact Nat.le_refl _) _⟩
          case round =>
            obtain ⟨k, hk, rfl, rfl, hbuf, hB2⟩ := hrel
            have hR2 : RepAt g t wr := (hR.out).below (by rw [← hm.out]; exact hB2.out)
            have hmlt : m < wr.heap.size := (Array.getElem?_eq_some_iff.1 hbuf.out).1
            by_cases hlt : k < l.length
            · obtain ⟨x, hx⟩ : ∃ x, x = l[k] := ⟨_, rfl⟩
              have hget : ∀ h, (ByteArray.mk l.toArray)[k]'h = x := fun h => hx.symm
              have hx256 : x.toNat < 256 := x.toNat_lt
              have hx256i : (x.toNat : Int) < 256 := by omega
              have hlti : (k : Int) < l.length := by omega
              have hmono := escL_mono l (k + 1)
              have hsucc := outB_succ hlt
              rw [← hx] at hsucc
              clear hx
              rw [hlen, show escL (l.take (k + 1)) = outB l (k + 1) from rfl, hsucc, List.length_append] at hmono
              cases hb : isEsc x with
              | true =>
                obtain ⟨a, cap, y, r1, ra, r2, r3, he⟩ := hR2.hit x hb
                rw [he] at hmono hsucc
                have hroom : outN l k + 2 ≤ n := hmono
                have n1 : ∀ w : World, (binOp .neq 48 (.slice (some ⟨a, 0, none⟩) 2 cap) (.slice none 0 0)).run Tryz.prog w = .ok (.bool true) w := fun w => run_neq_slice_nil (P := Tryz.prog) (w := w) 48 5 (some ⟨a, 0, none⟩) 2 cap Tryz.underlying48
                clear hmono hR2
                have hsl : (outN l k : Int) ≤ n := by omega
                have hne : ¬ n = outN l k := by omega
                have hbl : (bufV l n k).length = n := bufG_len (by unfold outN at hroom; omega)
                have hsrc : ∀ (j : Nat) (v : Value), ([92, y].map u8v)[j]? = some v → wr.cell? ((⟨a, 0, none⟩ : Addr).add j) = some v := by
                  intro j v hj
                  match j, hj with
                  | 0, hj => rw [← hj]; exact r2
                  | 1, hj => rw [← hj]; exact r3
                have hfit : outN l k + ([92, y].map u8v).length ≤ (bufV l n k).length := by rw [hbl]; exact hroom
                have hone : ∀ v ∈ [92, y].map u8v, v.oneCell' = true := by simp [u8v, Value.oneCell']
                have hmin : ([92, y].map u8v).length = Nat.min 2 (n - outN l k) := (Nat.min_eq_left (by omega)).symm
                have Hs : Hid (bufV l n (k + 1) = splice (bufV l n k) (outN l k) ([92, y].map u8v)) := by
                  have := bufG_splice (outB l k) [92, y] n hroom
                  show _ = _
                  unfold bufV outN
                  rw [this, hsucc]
                have Ho : Hid (outN l (k + 1) = outN l k + 2) := by show _ = _; unfold outN; rw [hsucc, List.length_append]; rfl
                clear hsucc
                go_wp2
                go_region_law (refine step_copy_splice rfl (.tmp 105) (.tmp 111) 48 48 rfl 5 Tryz.underlying48 (by kernel_rfl) (some ⟨m, outN l k, none⟩) (some ⟨a, 0, none⟩) (n - outN l k) (n - outN l k) 2 cap (by simp [Act.eval, Act.put]) (by simp [Act.eval, Act.put]) m (outN l k) (bufV l n k) 5 hbuf.out ([92, y].map u8v) hmin (fun _ => ⟨rfl, _, rfl, hsrc⟩) hfit hone m w1 (hB2.out.trans (below_drew2 _ _)) (Nat.le_refl m) ?_; intro w4 hg4 hb4)
                go_wp2
                go_roundw
                case rel =>
                  refine ⟨k + 1, by omega, by go_num, ?_, ?_, hb4⟩
                  · rw [Ho.out]; simp
                  · show _ = _
                    rw [hg4.out, Hs.out]
                case measure => simp [RowKit.intOf]; omega
              | false =>
                have r1 := hR2.miss x hb
                rw [escB_not hb] at hmono hsucc
                have hroom : outN l k + 1 ≤ n := hmono
                have hrooi : (outN l k : Int) < n := by omega
                have c1 : wr.cell? ⟨m, outN l k, none⟩ = some (.int .u8 0) := by
                  have : (bufV l n k)[outN l k]? = some (.int .u8 0) := by
                    unfold bufV bufG outN
                    rw [List.getElem?_append_right (by simp), List.length_map, Nat.sub_self, List.getElem?_replicate, if_pos (by unfold outN at hroom; omega)]
                  simp [World.cell?, hbuf.out, this]
                have f1 : wr.frozen? ⟨m, outN l k, none⟩ = false := by simp [World.frozen?, hbuf.out]
                have n1 : ∀ w : World, (binOp .neq 48 (.slice none 0 0) (.slice none 0 0)).run Tryz.prog w = .ok (.bool false) w := fun w => run_neq_slice_nil (P := Tryz.prog) (w := w) 48 5 none 0 0 Tryz.underlying48
                clear hmono hR2
                go_wp2
                go_roundw
                case rel => 
                  refine ⟨k + 1, by omega, by go_num, ?_, ?_, ?_⟩
                  · unfold outN; rw [hsucc, List.length_append]; rfl
                  · show _ = _
                    rw [heap_set hbuf.out]
                    unfold bufV
                    rw [hsucc]
                    exact congrArg (fun c : List Value => some (Obj.cells c.toArray 5 (0, 0))) (bufG_set _ _ _ hroom)
                  · exact hB2.out.setCell (show m ≤ _ from Nat.le_refl m) _
                case measure => simp [RowKit.intOf]; omega
            · have : k = l.length := by omega
              subst this
              have hcv : (convert 48 9 (.slice (some ⟨m, 0, none⟩) n n)).run Tryz.prog wr = .ok (.string ⟨(escL l).toArray⟩) wr := by
                have hb : bufV l n l.length = (escL l).map u8v := by
                  unfold bufV bufG outB
                  rw [List.take_length, hlen, Nat.sub_self]; simp
                have hbu := hbuf.out
                rw [hb] at hbu
                have := run_convert_bytes_arg (P := Tryz.prog) wr 48 5 Tryz.underlying48 Tryz.underlying5 m 0 n n ((escL l).map fun b => (UInt8.toNat b : Int)) (by rw [List.length_map, hlen]) (fun i hi => by
                  rw [Nat.zero_add]
                  simp [World.cell?, hbu, u8v, List.getElem?_eq_getElem (show i < (escL l).length by omega)]) 9 Tryz.underlying9
                rw [this]
                simp [strOfNums, List.map_map, Function.comp_def]
              clear hR2
              go_wp2
              refine bodyPost_ret (results_tmp rfl _ _ _) rfl ?_
              exact ⟨rfl, hB.out.trans (hB2.out.mono (by rw [hm.out]; exact hB.out.size))⟩
attribute [local go_sem] byte_one byte10 byte34 byte92
theorem run_eql_slice_nil {P : Program} {w : World} (t e : TypeId) (a : Option Addr) (l c : Nat) (h : P.underlying t = some (.slice e)) : (binOp .eql t (.slice a l c) (.slice none 0 0)).run P w = .ok (.bool a.isNone) w := by
  simp only [binOp]
  simp [run_equal_slice_nil w t e a l c h]
def stp : Nat → UInt8
  | 0 => 10
  | 1 => 34
  | _ => 92
def stn : Nat → List UInt8
  | 0 => [92, 110]
  | 1 => [92, 34]
  | _ => [92, 92]
def iv : Nat → Int
  | 0 => 4
  | 1 => 2
  | 2 => 0
  | _ => -2
def ord (b : UInt8) : Nat := if b = 10 then 0 else if b = 34 then 1 else if b = 92 then 2 else 3
def tsV : Nat → List Value
  | 0 => [.string ByteArray.empty, .string ByteArray.empty, .string ByteArray.empty]
  | 1 => [.string ⟨#[10]⟩, .string ByteArray.empty, .string ByteArray.empty]
  | 2 => [.string ⟨#[10]⟩, .string ⟨#[34]⟩, .string ByteArray.empty]
  | _ => [.string ⟨#[10]⟩, .string ⟨#[34]⟩, .string ⟨#[92]⟩]
theorem conv1 (w : World) (x : UInt8) : (convert 48 9 (.slice (some ⟨w.heap.size, 0, none⟩) 1 1)).run Tryz.prog (w.alloc (.cells #[.int .u8 (UInt8.toNat x : Nat)] 5)) = .ok (.string ⟨#[x]⟩) (w.alloc (.cells #[.int .u8 (UInt8.toNat x : Nat)] 5)) := by
  have := run_convert_bytes_arg (P := Tryz.prog) (w.alloc (.cells #[.int .u8 (UInt8.toNat x : Nat)] 5)) 48 5 Tryz.underlying48 Tryz.underlying5 w.heap.size 0 1 1 [(UInt8.toNat x : Int)] rfl (fun i hi => by
    obtain rfl : i = 0 := by omega
    go_simp) 9 Tryz.underlying9
  rw [this]
  simp [strOfNums]
def cpB (W : World) : Nat := grownCap W 2 0 5
def boB (W : World) (s : ByteArray) : Obj := .cells (bytesRow s (cpB W)) 5 ((bytesRow s (cpB W)).size, (bytesRow s (cpB W)).size + 1)
theorem convB (W : World) (x y : UInt8) : (convert 9 48 (.string ⟨#[x, y]⟩)).run Tryz.prog W = .ok (.slice (some ⟨W.heap.size, 0, none⟩) 2 (cpB W)) (W.drew.alloc (boB W ⟨#[x, y]⟩)) := by
  have := run_bytes_of_string (P := Tryz.prog) W 9 48 5 ⟨#[x, y]⟩ Tryz.underlying9 Tryz.underlying48 Tryz.underlying5
  exact this
structure BdInv (g t : Nat) (k : Nat) (w0 w : World) : Prop where
  row : ∃ f, w.rowIs g 253 257 f ∧ f 256 = .slice (some ⟨t, 0, none⟩) k 3 ∧
    (∀ b : UInt8, ord b < k → ∃ m cap y, f b.toNat = .slice (some ⟨m, 0, none⟩) 2 cap ∧ m < w.heap.size ∧ w.cell? ⟨m, 0, none⟩ = some (.int .u8 92) ∧ w.cell? ⟨m, 1, none⟩ = some (.int .u8 (UInt8.toNat y : Nat)) ∧ escB b = [92, y]) ∧
    (∀ b : UInt8, k ≤ ord b → f b.toNat = .slice none 0 0)
  ts : w.heap[t]? = some (.cells (tsV k).toArray 9 (0, 0))
  bel : Below w0.heap.size w0 w
def sty : Nat → UInt8
  | 0 => 110
  | 1 => 34
  | _ => 92
theorem ord_stp {k : Nat} (hk : k < 3) : ord (stp k) = k := by
  match k, hk with
  | 0, _ => rfl
  | 1, _ => rfl
  | 2, _ => rfl
theorem ord_eq {k : Nat} (hk : k < 3) {b : UInt8} (h : ord b = k) : b = stp k := by
  unfold ord at h
  by_cases h1 : b = 10
  · rw [if_pos h1] at h; subst h; exact h1
  · rw [if_neg h1] at h
    by_cases h2 : b = 34
    · rw [if_pos h2] at h; subst h; exact h2
    · rw [if_neg h2] at h
      by_cases h3 : b = 92
      · rw [if_pos h3] at h; subst h; exact h3
      · rw [if_neg h3] at h; omega
theorem esc_stp {k : Nat} (hk : k < 3) : escB (stp k) = [92, sty k] := by
  match k, hk with
  | 0, _ => rfl
  | 1, _ => rfl
  | 2, _ => rfl
theorem tsV_set {k : Nat} (hk : k < 3) : (tsV k).set k (.string ⟨#[stp k]⟩) = tsV (k + 1) := by
  match k, hk with
  | 0, _ => rfl
  | 1, _ => rfl
  | 2, _ => rfl
theorem heap_setOther {w : World} {m i : Nat} {a : Addr} (v : Value) (ha : m ≠ a.block) : (w.setCell a v).heap[m]? = w.heap[m]? := by
  simp [World.setCell, Array.getElem?_modify, Ne.symm ha]
theorem heap_allocPast {w : World} {m : Nat} (o : Obj) (h : m < w.heap.size) : (w.alloc o).heap[m]? = w.heap[m]? := by
  show (w.heap.push o)[m]? = _
  rw [Array.getElem?_push, if_neg (by omega)]
theorem bd_step {g t k : Nat} {w0 wr : World} (hk : k < 3) (h : BdInv g t k w0 wr) (hgt : g ≠ t) (hg0 : w0.heap.size ≤ g) (ht0 : w0.heap.size ≤ t) :
    ∃ W3 W4 m cap, W3 = (((wr.setCell ⟨t, k, none⟩ (.string ⟨#[stp k]⟩)).setCell ⟨g, 256, none⟩ (.slice (some ⟨t, 0, none⟩) (k + 1) 3)).alloc (.cells #[.int .u8 (UInt8.toNat (stp k) : Nat)] 5)).alloc (.cells #[.string ⟨#[stp k]⟩] 9) ∧
      (convert 9 48 (.string ⟨#[92, sty k]⟩)).run Tryz.prog W3 = .ok (.slice (some ⟨m, 0, none⟩) 2 cap) W4 ∧ W4.cell? ⟨g, (stp k).toNat, none⟩ = some (.slice none 0 0) ∧ W4.frozen? ⟨g, (stp k).toNat, none⟩ = false ∧
      BdInv g t (k + 1) w0 (W4.setCell ⟨g, (stp k).toNat, none⟩ (.slice (some ⟨m, 0, none⟩) 2 cap)) := by
  obtain ⟨⟨f, hrow, h256, hdone, htodo⟩, hts, hbel⟩ := h
  have hglt := hrow.lt
  have htlt : t < wr.heap.size := (Array.getElem?_eq_some_iff.1 hts).1
  have hb256 : (stp k).toNat < 256 := (stp k).toNat_lt
  obtain ⟨W1, hW1⟩ : ∃ W1, W1 = (wr.setCell ⟨t, k, none⟩ (.string ⟨#[stp k]⟩)).setCell ⟨g, 256, none⟩ (.slice (some ⟨t, 0, none⟩) (k + 1) 3) := ⟨_, rfl⟩
  have hs1 : W1.heap.size = wr.heap.size := by rw [hW1]; simp
  have r1 : W1.rowIs g 253 257 (fun j => if j = 256 then .slice (some ⟨t, 0, none⟩) (k + 1) 3 else f j) := by rw [hW1]; exact (hrow.setOther (a := ⟨t, k, none⟩) hgt _).set 256 _
  have t1 : W1.heap[t]? = some (.cells (tsV (k + 1)).toArray 9 (0, 0)) := by
    rw [hW1, heap_setOther (i := 0) _ (Ne.symm hgt), heap_set hts, tsV_set hk]
  have b1 : Below w0.heap.size w0 W1 := by rw [hW1]; exact (hbel.setCell ht0 _).setCell hg0 _
  have old1 : ∀ m j, m < wr.heap.size → m ≠ g → m ≠ t → W1.cell? ⟨m, j, none⟩ = wr.cell? ⟨m, j, none⟩ := by
    intro m j hm h1 h2
    rw [hW1]
    refine World.cell?_of_block ?_
    rw [heap_setOther (i := 0) _ h1, heap_setOther (i := 0) _ h2]
  obtain ⟨W2, hW2⟩ : ∃ W2, W2 = W1.alloc (.cells #[.int .u8 (UInt8.toNat (stp k) : Nat)] 5) := ⟨_, rfl⟩
  obtain ⟨W3, hW3⟩ : ∃ W3, W3 = W2.alloc (.cells #[.string ⟨#[stp k]⟩] 9) := ⟨_, rfl⟩
  obtain ⟨W4, hW4⟩ : ∃ W4, W4 = W3.drew.alloc (boB W3 ⟨#[92, sty k]⟩) := ⟨_, rfl⟩
  have hs2 : W2.heap.size = wr.heap.size + 1 := by rw [hW2]; show (W1.heap.push _).size = _; rw [Array.size_push, hs1]
  have hs3 : W3.heap.size = wr.heap.size + 2 := by rw [hW3]; show (W2.heap.push _).size = _; rw [Array.size_push, hs2]
  have hs4 : W4.heap.size = wr.heap.size + 3 := by rw [hW4]; show (W3.heap.push _).size = _; rw [Array.size_push, hs3]
  have e4 : ∀ m, m < wr.heap.size → W4.heap[m]? = W1.heap[m]? := by
    intro m hm
    rw [hW4, heap_allocPast _ (by show m < W3.heap.size; omega)]
    show W3.heap[m]? = _
    rw [hW3, heap_allocPast _ (by omega), hW2, heap_allocPast _ (by omega)]
  have r4 : W4.rowIs g 253 257 (fun j => if j = 256 then .slice (some ⟨t, 0, none⟩) (k + 1) 3 else f j) := r1.of_block (e4 g hglt)
  have b4 : Below w0.heap.size w0 W4 := by
    have hsz : w0.heap.size ≤ wr.heap.size := hbel.size
    refine b1.trans ?_
    rw [hW4]
    have a1 : Below w0.heap.size W1 W2 := by rw [hW2]; exact (Below.refl _ _).alloc (by omega) _
    have a2 : Below w0.heap.size W1 W3 := by rw [hW3]; exact a1.alloc (by omega) _
    exact (a2.trans (below_drew2 _ _)).alloc (by show _ ≤ W3.heap.size; omega) _
  have c4 : W4.cell? ⟨g, (stp k).toNat, none⟩ = some (.slice none 0 0) := by
    rw [r4.cell (by omega), if_neg (by omega), htodo _ (Nat.le_of_eq (ord_stp hk).symm)]
  have m4 : W4.heap[W3.heap.size]? = some (boB W3 ⟨#[92, sty k]⟩) := by
    rw [hW4]; show (W3.heap.push _)[W3.heap.size]? = _
    rw [Array.getElem?_push_size]
  refine ⟨W3, W4, W3.heap.size, cpB W3, by rw [hW3, hW2, hW1], by rw [hW4]; exact convB W3 92 (sty k), c4, r4.frozen _, ⟨_, r4.set (stp k).toNat _, ?_, ?_, ?_⟩, ?_, ?_⟩
  · rw [if_neg (by omega), if_pos rfl]
  · intro b hb
    have hbk : b.toNat < 256 := b.toNat_lt
    have hsz5 : ∀ (a : Addr) (v : Value), (W4.setCell a v).heap.size = wr.heap.size + 3 := fun a v => by rw [← hs4]; simp
    by_cases hbs : b = stp k
    · subst hbs
      refine ⟨W3.heap.size, cpB W3, sty k, if_pos rfl, by rw [hsz5]; omega, ?_, ?_, esc_stp hk⟩
      · rw [World.cell?_of_block (heap_setOther (i := 0) _ (by show W3.heap.size ≠ g; omega))]
        simp [World.cell?, m4, boB, bytesRow]
        rw [Array.getElem?_append_left (by simp)]; rfl
      · rw [World.cell?_of_block (heap_setOther (i := 0) _ (by show W3.heap.size ≠ g; omega))]
        simp [World.cell?, m4, boB, bytesRow]
        rw [Array.getElem?_append_left (by simp)]; rfl
    · have hlt : ord b < k := by
        have : ord b ≠ k := fun e => hbs (ord_eq hk e)
        omega
      obtain ⟨m, cap, y, q1, q2, q3, q4, q5⟩ := hdone b hlt
      have hne : ¬ b.toNat = (stp k).toNat := fun e => hbs (UInt8.toNat_inj.1 e)
      have hmg : m ≠ g := by
        rintro rfl
        have := hrow.cell (i := 0) (by decide)
        rw [q3] at this
        have hz := htodo 0 (by have : ord 0 = 3 := rfl; omega)
        rw [show (0 : UInt8).toNat = 0 from rfl] at hz
        rw [hz] at this; cases this
      have hmt : m ≠ t := by
        rintro rfl
        simp [World.cell?, hts] at q3
        match k, hk, q3 with
        | 0, _, q3 => simp [tsV] at q3
        | 1, _, q3 => simp [tsV] at q3
        | 2, _, q3 => simp [tsV] at q3
      have hold : ∀ j, (W4.setCell ⟨g, (stp k).toNat, none⟩ (.slice (some ⟨W3.heap.size, 0, none⟩) 2 (cpB W3))).cell? ⟨m, j, none⟩ = wr.cell? ⟨m, j, none⟩ := fun j => by
        rw [World.cell?_of_block (heap_setOther (i := 0) _ (by exact hmg)), World.cell?_of_block (e4 m q2), old1 m j q2 hmg hmt]
      exact ⟨m, cap, y, by rw [if_neg hne, if_neg (by omega)]; exact q1, by rw [hsz5]; omega, (hold 0).trans q3, (hold 1).trans q4, q5⟩
  · intro b hb
    have hbk : b.toNat < 256 := b.toNat_lt
    have hne : ¬ b.toNat = (stp k).toNat := fun e => by
      have := UInt8.toNat_inj.1 e
      rw [this, ord_stp hk] at hb; omega
    rw [if_neg hne, if_neg (by omega)]
    exact htodo b (by omega)
  · rw [heap_setOther (i := 0) _ (by exact Ne.symm hgt), e4 t htlt, t1]
  · exact b4.setCell hg0 _
theorem rep_of {g t : Nat} {w0 w : World} (h : BdInv g t 3 w0 w) : RepAt g t w := by
  obtain ⟨⟨f, hrow, h256, hdone, htodo⟩, hts, hbel⟩ := h
  refine ⟨fun b hb => ?_, fun b hb => ?_, ?_, ?_, ?_, ?_, hrow.lt, (Array.getElem?_eq_some_iff.1 hts).1⟩
  · have : ord b < 3 := by
      unfold isEsc at hb
      unfold ord
      simp only [Bool.or_eq_true, beq_iff_eq] at hb
      rcases hb with (h | h) | h <;> subst h <;> decide
    obtain ⟨m, cap, y, q1, q2⟩ := hdone b this
    exact ⟨m, cap, y, by rw [hrow.cell (by have := b.toNat_lt; omega), q1], q2⟩
  · have : ord b = 3 := by
      unfold isEsc at hb
      simp only [Bool.or_eq_false_iff, beq_eq_false_iff_ne] at hb
      unfold ord
      rw [if_neg hb.1.1, if_neg hb.1.2, if_neg hb.2]
    rw [hrow.cell (by have := b.toNat_lt; omega), htodo b (by omega)]
  · rw [hrow.cell (by decide), h256]
  · simp [World.cell?, hts, tsV]
  · simp [World.cell?, hts, tsV]
  · simp [World.cell?, hts, tsV]
theorem zero253 : Tryz.zeroCells253 = Array.replicate 257 (.slice none 0 0) := by kernel_rfl
theorem bd_start (w : World) : BdInv (w.heap.size + 1) w.heap.size 0 w ((w.alloc (.cells #[.string ByteArray.empty, .string ByteArray.empty, .string ByteArray.empty] 9)).alloc (.cells (Tryz.zeroCells253.setIfInBounds 256 (.slice (some ⟨w.heap.size, 0, none⟩) 0 3)) 253)) := by
  have hs : (w.alloc (.cells #[.string ByteArray.empty, .string ByteArray.empty, .string ByteArray.empty] 9)).heap.size = w.heap.size + 1 := by show (w.heap.push _).size = _; rw [Array.size_push]
  refine ⟨⟨fun j => if j = 256 then .slice (some ⟨w.heap.size, 0, none⟩) 0 3 else .slice none 0 0, ⟨Tryz.zeroCells253.setIfInBounds 256 (.slice (some ⟨w.heap.size, 0, none⟩) 0 3), ?_, ?_, fun i hi => ?_⟩, if_pos rfl, fun b hb => by omega, fun b _ => if_neg (by have := b.toNat_lt; omega)⟩, ?_, ?_⟩
  · show ((w.alloc _).heap.push _)[w.heap.size + 1]? = _
    rw [← hs, Array.getElem?_push_size]
  · rw [Array.size_setIfInBounds, zero253]; simp
  · rw [Array.getElem?_setIfInBounds, zero253]
    by_cases e : i = 256
    · subst e; simp
    · rw [if_neg (fun h => e h.symm)]
      simp [hi, e]
  · rw [heap_allocPast _ (by rw [hs]; omega)]
    show (w.heap.push _)[w.heap.size]? = _
    rw [Array.getElem?_push_size]; rfl
  · exact ((Below.refl _ w).alloc (Nat.le_refl _) _).alloc (by rw [hs]; omega) _
set_option maxHeartbeats 3200000 in
theorem bd_at (b o C : Nat) (w : World) (ho : o < w.heap.size) (hbl : b < w.heap.size) (hb : w.cell? ⟨b, 4, none⟩ = some (.slice (some ⟨o, 0, none⟩) 6 C))
    (c0 : w.cell? ⟨o, 0, none⟩ = some (.string ⟨#[92]⟩)) (c1 : w.cell? ⟨o, 1, none⟩ = some (.string ⟨#[92, 92]⟩)) (c2 : w.cell? ⟨o, 2, none⟩ = some (.string ⟨#[34]⟩)) (c3 : w.cell? ⟨o, 3, none⟩ = some (.string ⟨#[92, 34]⟩)) (c4 : w.cell? ⟨o, 4, none⟩ = some (.string ⟨#[10]⟩)) (c5 : w.cell? ⟨o, 5, none⟩ = some (.string ⟨#[92, 110]⟩)) :
    Calls Tryz.prog 163 #[.pointer (some ⟨b, 0, none⟩)] w fun e w' => ∃ g t, e = .returned (.iface 254 (.pointer (some ⟨g, 0, none⟩))) ∧ RepAt g t w' ∧ Below w.heap.size w w' := by
  have hmk : (Instr.makeSlice 76 (.int .i64 0) (.int .i64 3)).run Tryz.prog w = .ok (.slice (some ⟨w.heap.size, 0, none⟩) 0 3) (w.alloc (.cells #[.string ByteArray.empty, .string ByteArray.empty, .string ByteArray.empty] 9)) := by
    obtain ⟨i, hi, hz, hs, hb⟩ := info_parts (show (Tryz.prog.info? 9).map (fun i => (i.zero, i.size, i.bytes)) = some (some (.string ByteArray.empty), 1, 16) from by kernel_rfl)
    have := run_make (P := Tryz.prog) w 76 9 i _ Tryz.underlying76 hi hz .i64 .i64 0 3 (by decide) (by decide) (by rw [hb]; decide) (by decide)
    rw [hs] at this
    have hm : madeCells (Value.string ByteArray.empty).cells (Int.toNat 3 * 1) = #[.string ByteArray.empty, .string ByteArray.empty, .string ByteArray.empty] := by kernel_rfl
    rw [hm] at this
    exact this
  have hst : (storeCells ⟨w.heap.size + 1, 0, none⟩ (Tryz.zeroCells253.toList.set 256 (.slice (some ⟨w.heap.size, 0, none⟩) 0 3))).run Tryz.prog ((w.alloc (.cells #[.string ByteArray.empty, .string ByteArray.empty, .string ByteArray.empty] 9)).alloc (.cells Tryz.zeroCells253 253))
      = .ok () ((w.alloc (.cells #[.string ByteArray.empty, .string ByteArray.empty, .string ByteArray.empty] 9)).alloc (.cells (Tryz.zeroCells253.setIfInBounds 256 (.slice (some ⟨w.heap.size, 0, none⟩) 0 3)) 253)) := by
    have h := run_storeCells_new (P := Tryz.prog) (w.alloc (.cells #[.string ByteArray.empty, .string ByteArray.empty, .string ByteArray.empty] 9)) 253 Tryz.zeroCells253 (Tryz.zeroCells253.setIfInBounds 256 (.slice (some ⟨w.heap.size, 0, none⟩) 0 3)) (by rw [Array.size_setIfInBounds]; kernel_rfl) (by rw [Array.size_setIfInBounds]) (by kernel_rfl)
    have hsz : (w.alloc (.cells #[.string ByteArray.empty, .string ByteArray.empty, .string ByteArray.empty] 9)).heap.size = w.heap.size + 1 := by show (w.heap.push _).size = _; rw [Array.size_push]
    rw [hsz, Array.toList_setIfInBounds] at h
    exact h
  go_enter Tryz.func163, Tryz.ntmps163
  go_wp2
  go_rounds 4
  clear hmk hst
  generalize hW : ((w.alloc (.cells #[.string ByteArray.empty, .string ByteArray.empty, .string ByteArray.empty] 9)).alloc (.cells (Tryz.zeroCells253.setIfInBounds 256 (.slice (some ⟨w.heap.size, 0, none⟩) 0 3)) 253)) = W
  obtain ⟨t, ht⟩ : ∃ t, t = w.heap.size := ⟨_, rfl⟩
  obtain ⟨g, hg⟩ : ∃ g, g = w.heap.size + 1 := ⟨_, rfl⟩
  rw [← hg]
  have Hg : Hid (g = w.heap.size + 1) := hg
  have Ht : Hid (t = w.heap.size) := ht
  have hgt : ¬ g = t := by omega
  clear hg ht
  go_loopw [12] (fun i wr => ∃ k : Nat, k ≤ 3 ∧ i = .int .i64 (iv k) ∧ BdInv g t k w wr) (fun i _ => (6 + RowKit.intOf i).toNat)
  case atStart => exact ⟨0, by omega, rfl, by rw [← hW, Hg.out, Ht.out]; exact bd_start w⟩
  case round =>
    obtain ⟨k, hk, rfl, hI⟩ := hrel
    rcases (show k = 0 ∨ k = 1 ∨ k = 2 ∨ k = 3 by omega) with rfl | rfl | rfl | rfl
    · obtain ⟨W3, W4, m, cap, hW3, hcv, hc4, hf4, hI2⟩ := bd_step (k := 0) (by decide) hI hgt (by rw [Hg.out]; omega) (by rw [Ht.out]; exact Nat.le_refl _)
      obtain ⟨⟨f, hrow, h256, hdone, htodo⟩, hts, hbel⟩ := hI
      have hglt := hrow.lt
      have htlt : t < wr.heap.size := (Array.getElem?_eq_some_iff.1 hts).1
      have holt : o < wr.heap.size := Nat.lt_of_lt_of_le ho hbel.size
      have g256 := hrow.cell (i := 256) (by decide)
      rw [h256] at g256
      have gf256 := hrow.frozen 256
      have HI2 : Hid (BdInv g t 1 w (W4.setCell ⟨g, (stp 0).toNat, none⟩ (.slice (some ⟨m, 0, none⟩) 2 cap))) := hI2
      have Hcv : Hid ((convert 9 48 (.string ⟨#[92, 110]⟩)).run Tryz.prog W3 = .ok (.slice (some ⟨m, 0, none⟩) 2 cap) W4) := hcv
      have HW3 : Hid (W3 = (((wr.setCell ⟨t, 0, none⟩ (.string ⟨#[10]⟩)).setCell ⟨g, 256, none⟩ (.slice (some ⟨t, 0, none⟩) 1 3)).alloc (.cells #[.int .u8 10] 5)).alloc (.cells #[.string ⟨#[10]⟩] 9)) := hW3
      have Hc4 : Hid (W4.cell? ⟨g, 10, none⟩ = some (.slice none 0 0)) := hc4
      have Hf4 : Hid (W4.frozen? ⟨g, 10, none⟩ = false) := hf4
      clear hI2 hcv hW3 hc4 hf4
      simp only [iv]
      have e4 := (hbel.cell (p := ⟨o, 4, none⟩) ho).trans c4
      have e5 := (hbel.cell (p := ⟨o, 5, none⟩) ho).trans c5
      have g10 := hrow.cell (i := 10) (by decide)
      rw [show (10 : Nat) = (10 : UInt8).toNat from rfl, htodo 10 (by decide)] at g10
      rw [byte10] at g10
      have gf10 := hrow.frozen 10
      have t0 : wr.cell? ⟨t, 0, none⟩ = some (.string ByteArray.empty) := by simp [World.cell?, hts, tsV]
      have tf0 : wr.frozen? ⟨t, 0, none⟩ = false := by simp [World.frozen?, hts]
      have q1 : ∀ w : World, (binOp .eql 48 (.slice none 0 0) (.slice none 0 0)).run Tryz.prog w = .ok (.bool true) w := fun w => run_eql_slice_nil (P := Tryz.prog) (w := w) 48 5 none 0 0 Tryz.underlying48
      have cv : (convert 48 9 (.slice (some ⟨wr.heap.size, 0, none⟩) 1 1)).run Tryz.prog (wr.alloc (.cells #[.int .u8 10] 5)) = .ok (.string ⟨#[10]⟩) (wr.alloc (.cells #[.int .u8 10] 5)) := conv1 wr 10
      clear hdone htodo hrow hts h256 hbel
      go_wp2
      rw [← HW3.out]
      rw [Hcv.out]
      simp only [Result.andThen]
      rw [Oper.upon_value]
      have c10 := Hc4.out
      have f10 := Hf4.out
      go_wp2
      go_roundw
      case rel => exact ⟨1, by omega, rfl, HI2.out⟩
      case measure => decide
    · obtain ⟨W3, W4, m, cap, hW3, hcv, hc4, hf4, hI2⟩ := bd_step (k := 1) (by decide) hI hgt (by rw [Hg.out]; omega) (by rw [Ht.out]; exact Nat.le_refl _)
      obtain ⟨⟨f, hrow, h256, hdone, htodo⟩, hts, hbel⟩ := hI
      have hglt := hrow.lt
      have htlt : t < wr.heap.size := (Array.getElem?_eq_some_iff.1 hts).1
      have holt : o < wr.heap.size := Nat.lt_of_lt_of_le ho hbel.size
      have g256 := hrow.cell (i := 256) (by decide)
      rw [h256] at g256
      have gf256 := hrow.frozen 256
      have HI2 : Hid (BdInv g t 2 w (W4.setCell ⟨g, (stp 1).toNat, none⟩ (.slice (some ⟨m, 0, none⟩) 2 cap))) := hI2
      have Hcv : Hid ((convert 9 48 (.string ⟨#[92, 34]⟩)).run Tryz.prog W3 = .ok (.slice (some ⟨m, 0, none⟩) 2 cap) W4) := hcv
      have HW3 : Hid (W3 = (((wr.setCell ⟨t, 1, none⟩ (.string ⟨#[34]⟩)).setCell ⟨g, 256, none⟩ (.slice (some ⟨t, 0, none⟩) 2 3)).alloc (.cells #[.int .u8 34] 5)).alloc (.cells #[.string ⟨#[34]⟩] 9)) := hW3
      have Hc4 : Hid (W4.cell? ⟨g, 34, none⟩ = some (.slice none 0 0)) := hc4
      have Hf4 : Hid (W4.frozen? ⟨g, 34, none⟩ = false) := hf4
      clear hI2 hcv hW3 hc4 hf4
      simp only [iv]
      have e4 := (hbel.cell (p := ⟨o, 2, none⟩) ho).trans c2
      have e5 := (hbel.cell (p := ⟨o, 3, none⟩) ho).trans c3
      have g10 := hrow.cell (i := 34) (by decide)
      rw [show (34 : Nat) = (34 : UInt8).toNat from rfl, htodo 34 (by decide)] at g10
      rw [byte34] at g10
      have gf10 := hrow.frozen 34
      have t0 : wr.cell? ⟨t, 1, none⟩ = some (.string ByteArray.empty) := by simp [World.cell?, hts, tsV]
      have tf0 : wr.frozen? ⟨t, 1, none⟩ = false := by simp [World.frozen?, hts]
      have q1 : ∀ w : World, (binOp .eql 48 (.slice none 0 0) (.slice none 0 0)).run Tryz.prog w = .ok (.bool true) w := fun w => run_eql_slice_nil (P := Tryz.prog) (w := w) 48 5 none 0 0 Tryz.underlying48
      have cv : (convert 48 9 (.slice (some ⟨wr.heap.size, 0, none⟩) 1 1)).run Tryz.prog (wr.alloc (.cells #[.int .u8 34] 5)) = .ok (.string ⟨#[34]⟩) (wr.alloc (.cells #[.int .u8 34] 5)) := conv1 wr 34
      clear hdone htodo hrow hts h256 hbel
      go_wp2
      rw [← HW3.out]
      rw [Hcv.out]
      simp only [Result.andThen]
      rw [Oper.upon_value]
      have c10 := Hc4.out
      have f10 := Hf4.out
      go_wp2
      go_roundw
      case rel => exact ⟨2, by omega, rfl, HI2.out⟩
      case measure => decide
    · obtain ⟨W3, W4, m, cap, hW3, hcv, hc4, hf4, hI2⟩ := bd_step (k := 2) (by decide) hI hgt (by rw [Hg.out]; omega) (by rw [Ht.out]; exact Nat.le_refl _)
      obtain ⟨⟨f, hrow, h256, hdone, htodo⟩, hts, hbel⟩ := hI
      have hglt := hrow.lt
      have htlt : t < wr.heap.size := (Array.getElem?_eq_some_iff.1 hts).1
      have holt : o < wr.heap.size := Nat.lt_of_lt_of_le ho hbel.size
      have g256 := hrow.cell (i := 256) (by decide)
      rw [h256] at g256
      have gf256 := hrow.frozen 256
      have HI2 : Hid (BdInv g t 3 w (W4.setCell ⟨g, (stp 2).toNat, none⟩ (.slice (some ⟨m, 0, none⟩) 2 cap))) := hI2
      have Hcv : Hid ((convert 9 48 (.string ⟨#[92, 92]⟩)).run Tryz.prog W3 = .ok (.slice (some ⟨m, 0, none⟩) 2 cap) W4) := hcv
      have HW3 : Hid (W3 = (((wr.setCell ⟨t, 2, none⟩ (.string ⟨#[92]⟩)).setCell ⟨g, 256, none⟩ (.slice (some ⟨t, 0, none⟩) 3 3)).alloc (.cells #[.int .u8 92] 5)).alloc (.cells #[.string ⟨#[92]⟩] 9)) := hW3
      have Hc4 : Hid (W4.cell? ⟨g, 92, none⟩ = some (.slice none 0 0)) := hc4
      have Hf4 : Hid (W4.frozen? ⟨g, 92, none⟩ = false) := hf4
      clear hI2 hcv hW3 hc4 hf4
      simp only [iv]
      have e4 := (hbel.cell (p := ⟨o, 0, none⟩) ho).trans c0
      have e5 := (hbel.cell (p := ⟨o, 1, none⟩) ho).trans c1
      have g10 := hrow.cell (i := 92) (by decide)
      rw [show (92 : Nat) = (92 : UInt8).toNat from rfl, htodo 92 (by decide)] at g10
      rw [byte92] at g10
      have gf10 := hrow.frozen 92
      have t0 : wr.cell? ⟨t, 2, none⟩ = some (.string ByteArray.empty) := by simp [World.cell?, hts, tsV]
      have tf0 : wr.frozen? ⟨t, 2, none⟩ = false := by simp [World.frozen?, hts]
      have q1 : ∀ w : World, (binOp .eql 48 (.slice none 0 0) (.slice none 0 0)).run Tryz.prog w = .ok (.bool true) w := fun w => run_eql_slice_nil (P := Tryz.prog) (w := w) 48 5 none 0 0 Tryz.underlying48
      have cv : (convert 48 9 (.slice (some ⟨wr.heap.size, 0, none⟩) 1 1)).run Tryz.prog (wr.alloc (.cells #[.int .u8 92] 5)) = .ok (.string ⟨#[92]⟩) (wr.alloc (.cells #[.int .u8 92] 5)) := conv1 wr 92
      clear hdone htodo hrow hts h256 hbel
      go_wp2
      rw [← HW3.out]
      rw [Hcv.out]
      simp only [Result.andThen]
      rw [Oper.upon_value]
      have c10 := Hc4.out
      have f10 := Hf4.out
      go_wp2
      go_roundw
      case rel => exact ⟨3, by omega, rfl, HI2.out⟩
      case measure => decide
    · simp only [iv]
      have HI : Hid (BdInv g t 3 w wr) := hI
      clear hI
      go_wp2
      refine bodyPost_ret (results_tmp rfl _ _ _) rfl ?_
      exact ⟨g, t, rfl, rep_of HI.out, HI.out.bel⟩
theorem RepAt.other {g t b : Nat} {w w' : World} (h : RepAt g t w) {x : Int} (h0 : w.cell? ⟨b, 0, none⟩ = some (.int .u32 x)) (h5 : w.cell? ⟨b, 256, none⟩ = none) (hsz : w'.heap.size = w.heap.size) (hk : ∀ m, m ≠ b → w'.heap[m]? = w.heap[m]?) : RepAt g t w' := by
  have hgb : g ≠ b := by rintro rfl; rw [h.tr] at h5; cases h5
  have htb : t ≠ b := by rintro rfl; rw [h.t0] at h0; cases h0
  have e : ∀ m j, m ≠ b → w'.cell? ⟨m, j, none⟩ = w.cell? ⟨m, j, none⟩ := fun m j hm => World.cell?_of_block (hk m hm)
  refine ⟨fun c hc => ?_, fun c hc => (e g _ hgb).trans (h.miss c hc), (e g _ hgb).trans h.tr, (e t _ htb).trans h.t0, (e t _ htb).trans h.t1, (e t _ htb).trans h.t2, by rw [hsz]; exact h.g_lt, by rw [hsz]; exact h.t_lt⟩
  obtain ⟨m, cap, y, q1, q2, q3, q4, q5⟩ := h.hit c hc
  have hmb : m ≠ b := by rintro rfl; rw [q3] at h0; cases h0
  exact ⟨m, cap, y, (e g _ hgb).trans q1, by rw [hsz]; exact q2, (e m _ hmb).trans q3, (e m _ hmb).trans q4, q5⟩
set_option maxHeartbeats 1600000 in
theorem bo_at (b o C : Nat) (w : World) (x : Int) (ho : o < w.heap.size) (hob : o ≠ b) (hb : w.heap[b]? = some (.cells #[.int .u32 0, .int .i32 x, .int .u32 0, .nilIface, .slice (some ⟨o, 0, none⟩) 6 C] 201 (0, 0)))
    (c0 : w.cell? ⟨o, 0, none⟩ = some (.string ⟨#[92]⟩)) (c1 : w.cell? ⟨o, 1, none⟩ = some (.string ⟨#[92, 92]⟩)) (c2 : w.cell? ⟨o, 2, none⟩ = some (.string ⟨#[34]⟩)) (c3 : w.cell? ⟨o, 3, none⟩ = some (.string ⟨#[92, 34]⟩)) (c4 : w.cell? ⟨o, 4, none⟩ = some (.string ⟨#[10]⟩)) (c5 : w.cell? ⟨o, 5, none⟩ = some (.string ⟨#[92, 110]⟩)) :
    Calls Tryz.prog 148 #[.pointer (some ⟨b, 0, none⟩)] w fun e w' => e = .returned (.tuple #[]) ∧ ∃ g t, w'.heap[b]? = some (.cells #[.int .u32 0, .int .i32 x, .int .u32 0, .iface 254 (.pointer (some ⟨g, 0, none⟩)), .slice none 0 0] 201 (0, 0)) ∧ RepAt g t w' ∧ Below b w w' := by
  have hbl : b < w.heap.size := (Array.getElem?_eq_some_iff.1 hb).1
  have hb4 : w.cell? ⟨b, 4, none⟩ = some (.slice (some ⟨o, 0, none⟩) 6 C) := by simp [World.cell?, hb]
  have hbd := bd_at b o C w ho hbl hb4 c0 c1 c2 c3 c4 c5
  go_enter Tryz.func148, Tryz.ntmps148
  go_wp2_with (go_at_call 163; refine hbd.mono ?_)
  rintro e w1 ⟨g, t, rfl, hR, hB⟩
  have hbw : w1.heap[b]? = some (.cells #[.int .u32 0, .int .i32 x, .int .u32 0, .nilIface, .slice (some ⟨o, 0, none⟩) 6 C] 201 (0, 0)) := (hB.block b hbl).trans hb
  have k3 : w1.cell? ⟨b, 3, none⟩ = some .nilIface := by simp [World.cell?, hbw]
  have k4 : w1.cell? ⟨b, 4, none⟩ = some (.slice (some ⟨o, 0, none⟩) 6 C) := by simp [World.cell?, hbw]
  have f3 : w1.frozen? ⟨b, 3, none⟩ = false := by simp [World.frozen?, hbw]
  have f4 : w1.frozen? ⟨b, 4, none⟩ = false := by simp [World.frozen?, hbw]
  have hR2 : Hid (RepAt g t w1) := hR
  have hB2 : Hid (Below w.heap.size w w1) := hB
  have hbw2 : Hid (w1.heap[b]? = some (.cells #[.int .u32 0, .int .i32 x, .int .u32 0, .nilIface, .slice (some ⟨o, 0, none⟩) 6 C] 201 (0, 0))) := hbw
  clear hR hB hbw hbd
  go_wp2
  go_end0
  refine ⟨rfl, g, t, ?_, ?_, ?_⟩
  · have h1 : (w1.setCell ⟨b, 3, none⟩ (.iface 254 (.pointer (some ⟨g, 0, none⟩)))).heap[b]? = some (.cells ([.int .u32 0, .int .i32 x, .int .u32 0, .iface 254 (.pointer (some ⟨g, 0, none⟩)), .slice (some ⟨o, 0, none⟩) 6 C] : List Value).toArray 201 (0, 0)) := heap_set (c := [.int .u32 0, .int .i32 x, .int .u32 0, .nilIface, .slice (some ⟨o, 0, none⟩) 6 C]) hbw2.out _
    exact heap_set h1 _
  · refine hR2.out.other (b := b) (x := 0) (by simp [World.cell?, hbw2.out]) (by simp [World.cell?, hbw2.out]) (by simp) (fun m hm => ?_)
    rw [heap_setOther (i := 0) _ hm, heap_setOther (i := 0) _ hm]
  · exact ((hB2.out.mono (Nat.le_of_lt hbl)).setCell (Nat.le_refl b) _).setCell (Nat.le_refl b) _
set_option maxHeartbeats 1600000 in
theorem rl_at (b o C : Nat) (l : List UInt8) (w : World) (hl : l.length ≤ 4294967296) (ho : o < w.heap.size) (hob : o ≠ b) (hb : w.heap[b]? = some (.cells #[.int .u32 0, .int .i32 0, .int .u32 0, .nilIface, .slice (some ⟨o, 0, none⟩) 6 C] 201 (0, 0)))
    (c0 : w.cell? ⟨o, 0, none⟩ = some (.string ⟨#[92]⟩)) (c1 : w.cell? ⟨o, 1, none⟩ = some (.string ⟨#[92, 92]⟩)) (c2 : w.cell? ⟨o, 2, none⟩ = some (.string ⟨#[34]⟩)) (c3 : w.cell? ⟨o, 3, none⟩ = some (.string ⟨#[92, 34]⟩)) (c4 : w.cell? ⟨o, 4, none⟩ = some (.string ⟨#[10]⟩)) (c5 : w.cell? ⟨o, 5, none⟩ = some (.string ⟨#[92, 110]⟩))
    (hcnt : ∀ (c : UInt8) (w : World), Calls Tryz.prog 17 #[.string ⟨l.toArray⟩, .string ⟨#[c]⟩] w fun e w' => e = .returned (.int .i64 (l.count c)) ∧ w' = w) :
    Calls Tryz.prog 131 #[.pointer (some ⟨b, 0, none⟩), .string ⟨l.toArray⟩] w fun e w' => e = .returned (.string ⟨(escL l).toArray⟩) ∧ Below b w w' := by
  have hbl : b < w.heap.size := (Array.getElem?_eq_some_iff.1 hb).1
  have h0 : w.cell? ⟨b, 0, none⟩ = some (.int .u32 0) := by simp [World.cell?, hb]
  have h1 : w.cell? ⟨b, 1, none⟩ = some (.int .i32 0) := by simp [World.cell?, hb]
  have f0 : w.frozen? ⟨b, 0, none⟩ = false := by simp [World.frozen?, hb]
  have f1 : w.frozen? ⟨b, 1, none⟩ = false := by simp [World.frozen?, hb]
  have hb1 : (w.setCell ⟨b, 1, none⟩ (.int .i32 1)).heap[b]? = some (.cells #[.int .u32 0, .int .i32 1, .int .u32 0, .nilIface, .slice (some ⟨o, 0, none⟩) 6 C] 201 (0, 0)) := heap_set (c := [.int .u32 0, .int .i32 0, .int .u32 0, .nilIface, .slice (some ⟨o, 0, none⟩) 6 C]) hb _
  have hoc : ∀ j, (w.setCell ⟨b, 1, none⟩ (.int .i32 1)).cell? ⟨o, j, none⟩ = w.cell? ⟨o, j, none⟩ := fun j => World.cell?_of_block (heap_setOther (i := 0) _ hob)
  have hdo := sy_do b w (fun w' => ∃ g t, w'.heap[b]? = some (.cells #[.int .u32 0, .int .i32 1, .int .u32 0, .iface 254 (.pointer (some ⟨g, 0, none⟩)), .slice none 0 0] 201 (0, 0)) ∧ RepAt g t w' ∧ Below b w w') h0 h1 f0 f1
    ((bo_at b o C (w.setCell ⟨b, 1, none⟩ (.int .i32 1)) 1 (by simp; exact ho) hob hb1 ((hoc 0).trans c0) ((hoc 1).trans c1) ((hoc 2).trans c2) ((hoc 3).trans c3) ((hoc 4).trans c4) ((hoc 5).trans c5)).mono (by
      rintro e w' ⟨rfl, g, t, q1, q2, q3⟩
      exact ⟨rfl, by simp [World.cell?, q1], by simp [World.frozen?, q1], by simp [World.cell?, q1], by simp [World.frozen?, q1], g, t, q1, q2, ((Below.refl b w).setCell (Nat.le_refl b) _).trans q3⟩))
  go_enter Tryz.func131, Tryz.ntmps131
  go_wp2_with (go_at_call 147; refine hdo.mono ?_)
  rintro e w2 ⟨rfl, w1, ⟨g, t, q1, q2, q3⟩, rfl⟩
  have hR : RepAt g t ((w1.drew.setCell ⟨b, 0, none⟩ (.int .u32 1)).setCell ⟨b, 1, none⟩ (.int .i32 0)) := by
    refine q2.other (b := b) (x := 0) (by simp [World.cell?, q1]) (by simp [World.cell?, q1]) (by simp) (fun m hm => ?_)
    rw [heap_setOther (i := 0) _ hm, heap_setOther (i := 0) _ hm]
    rfl
  have hB : Below b w ((w1.drew.setCell ⟨b, 0, none⟩ (.int .u32 1)).setCell ⟨b, 1, none⟩ (.int .i32 0)) := ((q3.trans (below_drew2 _ _)).setCell (Nat.le_refl b) _).setCell (Nat.le_refl b) _
  have k3 : ((w1.drew.setCell ⟨b, 0, none⟩ (.int .u32 1)).setCell ⟨b, 1, none⟩ (.int .i32 0)).cell? ⟨b, 3, none⟩ = some (.iface 254 (.pointer (some ⟨g, 0, none⟩))) := by
    have a1 : (w1.drew.setCell ⟨b, 0, none⟩ (.int .u32 1)).heap[b]? = some (.cells ([.int .u32 1, .int .i32 1, .int .u32 0, .iface 254 (.pointer (some ⟨g, 0, none⟩)), .slice none 0 0] : List Value).toArray 201 (0, 0)) := heap_set (w := w1.drew) (c := [.int .u32 0, .int .i32 1, .int .u32 0, .iface 254 (.pointer (some ⟨g, 0, none⟩)), .slice none 0 0]) q1 _
    have a2 := heap_set (i := 1) a1 (.int .i32 0)
    simp [World.cell?, a2]
  have hlt : b ≤ ((w1.drew.setCell ⟨b, 0, none⟩ (.int .u32 1)).setCell ⟨b, 1, none⟩ (.int .i32 0)).heap.size := by
    have := hB.size; omega
  generalize ((w1.drew.setCell ⟨b, 0, none⟩ (.int .u32 1)).setCell ⟨b, 1, none⟩ (.int .i32 0)) = w2 at *
  have hrp := rp_at g t l w2 hl hR hcnt
  have HB : Hid (Below b w w2) := hB
  clear q1 q2 q3 hR hB hdo hb1 hoc hb h0 h1 f0 f1 c0 c1 c2 c3 c4 c5 hcnt
  go_wp2_with (go_at_call 241; refine hrp.mono ?_)
  rintro e w3 ⟨rfl, hB3⟩
  have HB3 : Hid (Below w2.heap.size w2 w3) := hB3
  clear hB3
  go_wp2
  refine bodyPost_ret (results_tmp rfl _ _ _) rfl ?_
  exact ⟨rfl, HB.out.trans (HB3.out.mono hlt)⟩

set_option maxHeartbeats 1600000 in
theorem qt107_at (l : List UInt8) (w : World) (hl : l.length ≤ 4294967296)
    (hcnt : ∀ (c : UInt8) (w : World), Calls Tryz.prog 17 #[.string ⟨l.toArray⟩, .string ⟨#[c]⟩] w fun e w' => e = .returned (.int .i64 (l.count c)) ∧ w' = w) :
    Calls Tryz.prog 107 #[.string ⟨l.toArray⟩] w fun e w' => e = .returned (.string ⟨(34 :: (escL l ++ [34])).toArray⟩) ∧ Below w.heap.size w w' := by
  have hnr := nr_at w.heap.size (w.alloc (.cells #[.string ⟨#[92]⟩, .string ⟨#[92, 92]⟩, .string ⟨#[34]⟩, .string ⟨#[92, 34]⟩, .string ⟨#[10]⟩, .string ⟨#[92, 110]⟩] 9)) ⟨#[92]⟩ ⟨#[92, 92]⟩ ⟨#[34]⟩ ⟨#[92, 34]⟩ ⟨#[10]⟩ ⟨#[92, 110]⟩ (by show (w.heap.push _)[w.heap.size]? = _; rw [Array.getElem?_push_size])
  have hsz : (w.alloc (.cells #[.string ⟨#[92]⟩, .string ⟨#[92, 92]⟩, .string ⟨#[34]⟩, .string ⟨#[92, 34]⟩, .string ⟨#[10]⟩, .string ⟨#[92, 110]⟩] 9)).heap.size = w.heap.size + 1 := by show (w.heap.push _).size = _; rw [Array.size_push]
  go_enter Tryz.func107, Tryz.ntmps107
  go_wp2_with (go_at_call 130; refine hnr.mono ?_)
  rintro e w1 ⟨rfl, C, hw1⟩
  obtain ⟨wa, hwa⟩ : ∃ x, x = w.alloc (.cells #[.string ⟨#[92]⟩, .string ⟨#[92, 92]⟩, .string ⟨#[34]⟩, .string ⟨#[92, 34]⟩, .string ⟨#[10]⟩, .string ⟨#[92, 110]⟩] 9) := ⟨_, rfl⟩
  rw [← hwa] at hw1 hsz ⊢
  obtain ⟨wb, hwb⟩ : ∃ x, x = wa.alloc (.cells (#[.string ⟨#[92]⟩, .string ⟨#[92, 92]⟩, .string ⟨#[34]⟩, .string ⟨#[92, 34]⟩, .string ⟨#[10]⟩, .string ⟨#[92, 110]⟩] ++ Builtin.zeroCells #[.string ⟨#[]⟩] (C - 6)) 9) := ⟨_, rfl⟩
  rw [← hwb] at hw1
  have hsb : wb.heap.size = wa.heap.size + 1 := by rw [hwb]; show (wa.heap.push _).size = _; rw [Array.size_push]
  have hb : w1.heap[wa.heap.size + 1]? = some (.cells #[.int .u32 0, .int .i32 0, .int .u32 0, .nilIface, .slice (some ⟨wa.heap.size, 0, none⟩) 6 C] 201 (0, 0)) := by
    rw [hw1]; show (wb.heap.push _)[wa.heap.size + 1]? = _
    rw [← hsb, Array.getElem?_push_size]
  have ho : w1.heap[wa.heap.size]? = some (.cells (#[.string ⟨#[92]⟩, .string ⟨#[92, 92]⟩, .string ⟨#[34]⟩, .string ⟨#[92, 34]⟩, .string ⟨#[10]⟩, .string ⟨#[92, 110]⟩] ++ Builtin.zeroCells #[.string ⟨#[]⟩] (C - 6)) 9 (0, 0)) := by
    rw [hw1]
    show (wb.alloc _).heap[wa.heap.size]? = _
    rw [heap_allocPast _ (by omega), hwb]
    show (wa.heap.push _)[wa.heap.size]? = _
    rw [Array.getElem?_push_size]
  have hs1 : w1.heap.size = wa.heap.size + 2 := by rw [hw1]; show (wb.heap.push _).size = _; rw [Array.size_push, hsb]
  have hB : Below w.heap.size w w1 := by
    have a1 : Below w.heap.size w wa := by rw [hwa]; exact (Below.refl _ w).alloc (Nat.le_refl _) _
    have a2 : Below w.heap.size w wb := by rw [hwb]; exact a1.alloc (by omega) _
    rw [hw1]; exact (a2.alloc (by omega) _).trans (below_drew2 _ _)
  have cell : ∀ j v, (#[Value.string ⟨#[92]⟩, .string ⟨#[92, 92]⟩, .string ⟨#[34]⟩, .string ⟨#[92, 34]⟩, .string ⟨#[10]⟩, .string ⟨#[92, 110]⟩] : Array Value)[j]? = some v → w1.cell? ⟨wa.heap.size, j, none⟩ = some v := by
    intro j v hj
    simp only [World.cell?, ho]
    rw [Array.getElem?_append_left (Array.getElem?_eq_some_iff.1 hj).1]
    simpa using hj
  have hrl := rl_at (wa.heap.size + 1) wa.heap.size C l w1 hl (by omega) (by omega) hb (cell 0 _ rfl) (cell 1 _ rfl) (cell 2 _ rfl) (cell 3 _ rfl) (cell 4 _ rfl) (cell 5 _ rfl) hcnt
  have HB : Hid (Below w.heap.size w w1) := hB
  have hle : w.heap.size ≤ wa.heap.size + 1 := by omega
  clear cell ho hb hs1 hsb hw1 hwb hwa hB hsz hnr hcnt
  go_wp2_with (go_at_call 131; refine hrl.mono ?_)
  rintro e w3 ⟨rfl, hB3⟩
  have HB3 : Hid (Below (wa.heap.size + 1) w1 w3) := hB3
  clear hB3
  have hlen : (escL l).length ≤ 8589934592 := by
    rw [escL_len]
    have : escN l ≤ l.length := List.countP_le_length
    omega
  have n1 : ¬ 9223372036854775807 < 1 + (escL l).length := by omega
  have n2 : ¬ 9223372036854775807 < 1 + (escL l).length + 1 := by omega
  go_wp2
  refine bodyPost_ret (results_tmp rfl _ _ _) rfl ?_
  refine ⟨?_, HB.out.trans (HB3.out.mono hle)⟩
  show Ending.returned (.string (ByteArray.mk #[34] ++ ByteArray.mk (escL l).toArray ++ ByteArray.mk #[34])) = _
  congr 2

def itoaStr_ren : Shelf.Ren where
  f := fun x => match x with | 171 => 97 | 243 => 128 | 246 => 145 | 283 => 156 | 284 => 157 | 285 => 158 | 286 => 159 | 129 => 174 | 317 => 173 | 318 => 175 | 319 => 176 | 320 => 177 | 337 => 187 | 338 => 188 | n => n
  t := fun x => match x with | 3 => 3 | 9 => 9 | 2 => 2 | 4 => 4 | 171 => 211 | 0 => 0 | 53 => 203 | 37 => 48 | 5 => 5 | 173 => 214 | 212 => 238 | 51 => 179 | 20 => 20 | 213 => 239 | 46 => 156 | 232 => 281 | 233 => 282 | n => n
  g := fun x => match x with | 17 => 5 | 18 => 8 | 19 => 9 | n => n
theorem itoaStr_lay : LaysM.n171 Tryz.prog itoaStr_ren where
  mixed := by kernel_rfl
  f129 := Tryz.func174.trans (by kernel_rfl)
  f171 := Tryz.func97.trans (by kernel_rfl)
  f243 := Tryz.func128.trans (by kernel_rfl)
  f246 := Tryz.func145.trans (by kernel_rfl)
  f283 := Tryz.func156.trans (by kernel_rfl)
  f284 := Tryz.func157.trans (by kernel_rfl)
  f285 := Tryz.func158.trans (by kernel_rfl)
  f286 := Tryz.func159.trans (by kernel_rfl)
  f317 := Tryz.func173.trans (by kernel_rfl)
  f318 := Tryz.func175.trans (by kernel_rfl)
  f319 := Tryz.func176.trans (by kernel_rfl)
  f320 := Tryz.func177.trans (by kernel_rfl)
  f337 := Tryz.func187.trans (by kernel_rfl)
  f338 := Tryz.func188.trans (by kernel_rfl)
  t0 := Tryz.underlying0
  a0 := Tryz.isAgg0
  z0 := Tryz.sizeOf0
  v0 := Tryz.zeroValue0
  t2 := Tryz.underlying2
  a2 := Tryz.isAgg2
  z2 := Tryz.sizeOf2
  v2 := Tryz.zeroValue2
  t3 := Tryz.underlying3
  a3 := Tryz.isAgg3
  z3 := Tryz.sizeOf3
  v3 := Tryz.zeroValue3
  t4 := Tryz.underlying4
  a4 := Tryz.isAgg4
  z4 := Tryz.sizeOf4
  v4 := Tryz.zeroValue4
  t5 := Tryz.underlying5
  a5 := Tryz.isAgg5
  z5 := Tryz.sizeOf5
  v5 := Tryz.zeroValue5
  t9 := Tryz.underlying9
  a9 := Tryz.isAgg9
  z9 := Tryz.sizeOf9
  v9 := Tryz.zeroValue9
  t20 := Tryz.underlying20
  a20 := Tryz.isAgg20
  z20 := Tryz.sizeOf20
  v20 := Tryz.zeroValue20
  t37 := Tryz.underlying48
  a37 := Tryz.isAgg48
  z37 := Tryz.sizeOf48
  v37 := Tryz.zeroValue48
  t46 := Tryz.underlying156
  a46 := Tryz.isAgg156
  z46 := Tryz.sizeOf156
  v46 := Tryz.zeroValue156
  t51 := Tryz.underlying179
  a51 := Tryz.isAgg179
  z51 := Tryz.sizeOf179
  v51 := Tryz.zeroValue179
  t53 := Tryz.underlying203
  a53 := Tryz.isAgg203
  z53 := Tryz.sizeOf203
  v53 := Tryz.zeroValue203
  t171 := Tryz.underlying211
  a171 := Tryz.isAgg211
  z171 := Tryz.sizeOf211
  v171 := Tryz.zeroValue211
  t173 := Tryz.underlying214
  a173 := Tryz.isAgg214
  z173 := Tryz.sizeOf214
  v173 := Tryz.zeroValue214
  t212 := Tryz.underlying238
  a212 := Tryz.isAgg238
  z212 := Tryz.sizeOf238
  v212 := Tryz.zeroValue238
  t213 := Tryz.underlying239
  a213 := Tryz.isAgg239
  z213 := Tryz.sizeOf239
  t232 := Tryz.underlying281
  a232 := Tryz.isAgg281
  z232 := Tryz.sizeOf281
  v232 := Tryz.zeroValue281
  t233 := Tryz.underlying282
  a233 := Tryz.isAgg282
  z233 := Tryz.sizeOf282
  v233 := Tryz.zeroValue282
  g17 := by kernel_rfl
  g18 := by kernel_rfl
  g19 := by kernel_rfl
  i0 := by kernel_rfl
  i2 := by kernel_rfl
  i3 := by kernel_rfl
  i4 := by kernel_rfl
  i5 := by kernel_rfl
  i9 := by kernel_rfl
  i20 := by kernel_rfl
  i37 := by kernel_rfl
  i46 := by kernel_rfl
  i51 := by kernel_rfl
  i53 := by kernel_rfl
  i171 := by kernel_rfl
  i173 := by kernel_rfl
  i212 := by kernel_rfl
  i232 := by kernel_rfl
  i233 := by kernel_rfl
  m17 := by kernel_rfl
  m18 := by kernel_rfl
  m19 := by kernel_rfl

def fieldsStr_ren : Shelf.Ren where
  f := fun x => match x with | 157 => 106 | 229 => 133 | 199 => 134 | 261 => 149 | 311 => 164 | 312 => 165 | n => n
  t := fun x => match x with | 9 => 9 | 31 => 76 | 3 => 3 | 5 => 5 | 4 => 4 | 119 => 172 | 0 => 0 | 40 => 177 | 152 => 204 | 21 => 21 | 154 => 206 | 51 => 179 | 141 => 208 | 196 => 222 | 193 => 219 | 198 => 225 | 49 => 223 | 194 => 220 | 201 => 228 | 226 => 255 | 46 => 156 | 227 => 256 | n => n
  g := fun x => match x with | 0 => 3 | 6 => 4 | n => n
theorem fieldsStr_lay : Lays.n157 Tryz.prog fieldsStr_ren where
  mixed := by kernel_rfl
  f157 := Tryz.func106.trans (by kernel_rfl)
  f199 := Tryz.func134.trans (by kernel_rfl)
  f229 := Tryz.func133.trans (by kernel_rfl)
  f261 := Tryz.func149.trans (by kernel_rfl)
  f311 := Tryz.func164.trans (by kernel_rfl)
  f312 := Tryz.func165.trans (by kernel_rfl)
  t0 := Tryz.underlying0
  a0 := Tryz.isAgg0
  z0 := Tryz.sizeOf0
  v0 := Tryz.zeroValue0
  t3 := Tryz.underlying3
  a3 := Tryz.isAgg3
  z3 := Tryz.sizeOf3
  v3 := Tryz.zeroValue3
  t4 := Tryz.underlying4
  a4 := Tryz.isAgg4
  z4 := Tryz.sizeOf4
  v4 := Tryz.zeroValue4
  t5 := Tryz.underlying5
  a5 := Tryz.isAgg5
  z5 := Tryz.sizeOf5
  v5 := Tryz.zeroValue5
  t9 := Tryz.underlying9
  a9 := Tryz.isAgg9
  z9 := Tryz.sizeOf9
  v9 := Tryz.zeroValue9
  t21 := Tryz.underlying21
  a21 := Tryz.isAgg21
  z21 := Tryz.sizeOf21
  v21 := Tryz.zeroValue21
  t31 := Tryz.underlying76
  a31 := Tryz.isAgg76
  z31 := Tryz.sizeOf76
  v31 := Tryz.zeroValue76
  t40 := Tryz.underlying177
  a40 := Tryz.isAgg177
  z40 := Tryz.sizeOf177
  v40 := Tryz.zeroValue177
  t46 := Tryz.underlying156
  a46 := Tryz.isAgg156
  z46 := Tryz.sizeOf156
  v46 := Tryz.zeroValue156
  t49 := Tryz.underlying223
  a49 := Tryz.isAgg223
  z49 := Tryz.sizeOf223
  v49 := Tryz.zeroValue223
  t51 := Tryz.underlying179
  a51 := Tryz.isAgg179
  z51 := Tryz.sizeOf179
  v51 := Tryz.zeroValue179
  t119 := Tryz.underlying172
  a119 := Tryz.isAgg172
  z119 := Tryz.sizeOf172
  t141 := Tryz.underlying208
  a141 := Tryz.isAgg208
  z141 := Tryz.sizeOf208
  v141 := Tryz.zeroValue208
  t152 := Tryz.underlying204
  a152 := Tryz.isAgg204
  z152 := Tryz.sizeOf204
  v152 := Tryz.zeroValue204
  t154 := Tryz.underlying206
  a154 := Tryz.isAgg206
  z154 := Tryz.sizeOf206
  v154 := Tryz.zeroValue206
  t193 := Tryz.underlying219
  a193 := Tryz.isAgg219
  z193 := Tryz.sizeOf219
  v193 := Tryz.zeroValue219
  t194 := Tryz.underlying220
  a194 := Tryz.isAgg220
  z194 := Tryz.sizeOf220
  v194 := Tryz.zeroValue220
  t196 := Tryz.underlying222
  a196 := Tryz.isAgg222
  z196 := Tryz.sizeOf222
  v196 := Tryz.zeroValue222
  t198 := Tryz.underlying225
  a198 := Tryz.isAgg225
  z198 := Tryz.sizeOf225
  v198 := Tryz.zeroValue225
  t201 := Tryz.underlying228
  a201 := Tryz.isAgg228
  z201 := Tryz.sizeOf228
  v201 := Tryz.zeroValue228
  t226 := Tryz.underlying255
  a226 := Tryz.isAgg255
  z226 := Tryz.sizeOf255
  v226 := Tryz.zeroValue255
  t227 := Tryz.underlying256
  a227 := Tryz.isAgg256
  z227 := Tryz.sizeOf256
  v227 := Tryz.zeroValue256
  g0 := by kernel_rfl
  g6 := by kernel_rfl

def validStr_ren : Shelf.Ren where
  f := fun x => match x with | 196 => 103 | 259 => 132 | n => n
  t := fun x => match x with | 9 => 9 | 4 => 4 | 3 => 3 | 5 => 5 | 12 => 12 | 119 => 172 | 0 => 0 | 46 => 156 | 139 => 175 | 138 => 174 | 53 => 203 | n => n
  g := fun x => match x with | 3 => 1 | 4 => 2 | n => n
theorem validStr_lay : Lays.n196 Tryz.prog validStr_ren where
  mixed := by kernel_rfl
  f196 := Tryz.func103.trans (by kernel_rfl)
  f259 := Tryz.func132.trans (by kernel_rfl)
  t0 := Tryz.underlying0
  a0 := Tryz.isAgg0
  z0 := Tryz.sizeOf0
  v0 := Tryz.zeroValue0
  t3 := Tryz.underlying3
  a3 := Tryz.isAgg3
  z3 := Tryz.sizeOf3
  v3 := Tryz.zeroValue3
  t4 := Tryz.underlying4
  a4 := Tryz.isAgg4
  z4 := Tryz.sizeOf4
  v4 := Tryz.zeroValue4
  t5 := Tryz.underlying5
  a5 := Tryz.isAgg5
  z5 := Tryz.sizeOf5
  v5 := Tryz.zeroValue5
  t9 := Tryz.underlying9
  a9 := Tryz.isAgg9
  z9 := Tryz.sizeOf9
  v9 := Tryz.zeroValue9
  t12 := Tryz.underlying12
  a12 := Tryz.isAgg12
  z12 := Tryz.sizeOf12
  v12 := Tryz.zeroValue12
  t46 := Tryz.underlying156
  a46 := Tryz.isAgg156
  z46 := Tryz.sizeOf156
  v46 := Tryz.zeroValue156
  t53 := Tryz.underlying203
  a53 := Tryz.isAgg203
  z53 := Tryz.sizeOf203
  v53 := Tryz.zeroValue203
  t119 := Tryz.underlying172
  a119 := Tryz.isAgg172
  z119 := Tryz.sizeOf172
  t138 := Tryz.underlying174
  a138 := Tryz.isAgg174
  z138 := Tryz.sizeOf174
  v138 := Tryz.zeroValue174
  t139 := Tryz.underlying175
  a139 := Tryz.isAgg175
  z139 := Tryz.sizeOf175
  v139 := Tryz.zeroValue175
  g3 := by kernel_rfl
  g4 := by kernel_rfl

def trimStr_ren : Shelf.Ren where
  f := fun x => match x with | 160 => 95 | 232 => 122 | 231 => 121 | 227 => 123 | 234 => 125 | 233 => 124 | 236 => 127 | 235 => 126 | 228 => 141 | 271 => 144 | 151 => 143 | 197 => 142 | 120 => 155 | 152 => 154 | 260 => 153 | 137 => 109 | 119 => 172 | 224 => 115 | 225 => 114 | 217 => 113 | 266 => 138 | n => n
  t := fun x => match x with | 9 => 9 | 4 => 4 | 3 => 3 | 5 => 5 | 117 => 164 | 116 => 163 | 0 => 0 | 124 => 167 | 21 => 21 | 105 => 183 | 46 => 156 | 119 => 172 | 139 => 175 | 138 => 174 | n => n
  g := fun x => match x with | 3 => 1 | 4 => 2 | n => n
theorem trimStr_lay : Lays.n160 Tryz.prog trimStr_ren where
  mixed := by kernel_rfl
  f119 := Tryz.func172.trans (by kernel_rfl)
  f120 := Tryz.func155.trans (by kernel_rfl)
  f137 := Tryz.func109.trans (by kernel_rfl)
  f151 := Tryz.func143.trans (by kernel_rfl)
  f152 := Tryz.func154.trans (by kernel_rfl)
  f160 := Tryz.func95.trans (by kernel_rfl)
  f197 := Tryz.func142.trans (by kernel_rfl)
  f217 := Tryz.func113.trans (by kernel_rfl)
  f224 := Tryz.func115.trans (by kernel_rfl)
  f225 := Tryz.func114.trans (by kernel_rfl)
  f227 := Tryz.func123.trans (by kernel_rfl)
  f228 := Tryz.func141.trans (by kernel_rfl)
  f231 := Tryz.func121.trans (by kernel_rfl)
  f232 := Tryz.func122.trans (by kernel_rfl)
  f233 := Tryz.func124.trans (by kernel_rfl)
  f234 := Tryz.func125.trans (by kernel_rfl)
  f235 := Tryz.func126.trans (by kernel_rfl)
  f236 := Tryz.func127.trans (by kernel_rfl)
  f260 := Tryz.func153.trans (by kernel_rfl)
  f266 := Tryz.func138.trans (by kernel_rfl)
  f271 := Tryz.func144.trans (by kernel_rfl)
  t0 := Tryz.underlying0
  a0 := Tryz.isAgg0
  z0 := Tryz.sizeOf0
  v0 := Tryz.zeroValue0
  t3 := Tryz.underlying3
  a3 := Tryz.isAgg3
  z3 := Tryz.sizeOf3
  v3 := Tryz.zeroValue3
  t4 := Tryz.underlying4
  a4 := Tryz.isAgg4
  z4 := Tryz.sizeOf4
  v4 := Tryz.zeroValue4
  t5 := Tryz.underlying5
  a5 := Tryz.isAgg5
  z5 := Tryz.sizeOf5
  v5 := Tryz.zeroValue5
  t9 := Tryz.underlying9
  a9 := Tryz.isAgg9
  z9 := Tryz.sizeOf9
  v9 := Tryz.zeroValue9
  t21 := Tryz.underlying21
  a21 := Tryz.isAgg21
  z21 := Tryz.sizeOf21
  v21 := Tryz.zeroValue21
  t46 := Tryz.underlying156
  a46 := Tryz.isAgg156
  z46 := Tryz.sizeOf156
  v46 := Tryz.zeroValue156
  t105 := Tryz.underlying183
  a105 := Tryz.isAgg183
  z105 := Tryz.sizeOf183
  v105 := Tryz.zeroValue183
  t116 := Tryz.underlying163
  a116 := Tryz.isAgg163
  z116 := Tryz.sizeOf163
  t117 := Tryz.underlying164
  a117 := Tryz.isAgg164
  z117 := Tryz.sizeOf164
  v117 := Tryz.zeroValue164
  t119 := Tryz.underlying172
  a119 := Tryz.isAgg172
  z119 := Tryz.sizeOf172
  t124 := Tryz.underlying167
  a124 := Tryz.isAgg167
  z124 := Tryz.sizeOf167
  v124 := Tryz.zeroValue167
  t138 := Tryz.underlying174
  a138 := Tryz.isAgg174
  z138 := Tryz.sizeOf174
  v138 := Tryz.zeroValue174
  t139 := Tryz.underlying175
  a139 := Tryz.isAgg175
  z139 := Tryz.sizeOf175
  v139 := Tryz.zeroValue175
  g3 := by kernel_rfl
  g4 := by kernel_rfl

def atoiStr_ren : Shelf.Ren where
  f := fun x => match x with | 172 => 137 | 244 => 151 | 245 => 152 | 247 => 167 | 279 => 168 | 280 => 169 | 281 => 170 | 282 => 171 | 287 => 184 | 316 => 185 | 171 => 97 | 205 => 186 | 321 => 195 | 322 => 196 | 243 => 128 | 246 => 145 | 283 => 156 | 284 => 157 | 285 => 158 | 286 => 159 | 129 => 174 | 317 => 173 | 318 => 175 | 319 => 176 | 320 => 177 | 337 => 187 | 338 => 188 | n => n
  t := fun x => match x with | 9 => 9 | 3 => 3 | 75 => 52 | 76 => 53 | 4 => 4 | 5 => 5 | 167 => 231 | 37 => 48 | 0 => 0 | 85 => 232 | 2 => 2 | 168 => 234 | 53 => 203 | 175 => 257 | 46 => 156 | 210 => 260 | 127 => 106 | 145 => 280 | 143 => 278 | 21 => 21 | 171 => 211 | 173 => 214 | 212 => 238 | 51 => 179 | 20 => 20 | 213 => 239 | 232 => 281 | 233 => 282 | 80 => 37 | n => n
  g := fun x => match x with | 15 => 6 | 16 => 7 | 17 => 5 | 18 => 8 | 19 => 9 | n => n
theorem atoiStr_lay : LaysC.n172 Tryz.prog atoiStr_ren where
  mixed := by kernel_rfl
  f129 := Tryz.func174.trans (by kernel_rfl)
  f171 := Tryz.func97.trans (by kernel_rfl)
  f172 := Tryz.func137.trans (by kernel_rfl)
  f205 := Tryz.func186.trans (by kernel_rfl)
  f243 := Tryz.func128.trans (by kernel_rfl)
  f244 := Tryz.func151.trans (by kernel_rfl)
  f245 := Tryz.func152.trans (by kernel_rfl)
  f246 := Tryz.func145.trans (by kernel_rfl)
  f247 := Tryz.func167.trans (by kernel_rfl)
  f279 := Tryz.func168.trans (by kernel_rfl)
  f280 := Tryz.func169.trans (by kernel_rfl)
  f281 := Tryz.func170.trans (by kernel_rfl)
  f282 := Tryz.func171.trans (by kernel_rfl)
  f283 := Tryz.func156.trans (by kernel_rfl)
  f284 := Tryz.func157.trans (by kernel_rfl)
  f285 := Tryz.func158.trans (by kernel_rfl)
  f286 := Tryz.func159.trans (by kernel_rfl)
  f287 := Tryz.func184.trans (by kernel_rfl)
  f316 := Tryz.func185.trans (by kernel_rfl)
  f317 := Tryz.func173.trans (by kernel_rfl)
  f318 := Tryz.func175.trans (by kernel_rfl)
  f319 := Tryz.func176.trans (by kernel_rfl)
  f320 := Tryz.func177.trans (by kernel_rfl)
  f321 := Tryz.func195.trans (by kernel_rfl)
  f322 := Tryz.func196.trans (by kernel_rfl)
  f337 := Tryz.func187.trans (by kernel_rfl)
  f338 := Tryz.func188.trans (by kernel_rfl)
  t0 := Tryz.underlying0
  a0 := Tryz.isAgg0
  z0 := Tryz.sizeOf0
  v0 := Tryz.zeroValue0
  t2 := Tryz.underlying2
  a2 := Tryz.isAgg2
  z2 := Tryz.sizeOf2
  v2 := Tryz.zeroValue2
  t3 := Tryz.underlying3
  a3 := Tryz.isAgg3
  z3 := Tryz.sizeOf3
  v3 := Tryz.zeroValue3
  t4 := Tryz.underlying4
  a4 := Tryz.isAgg4
  z4 := Tryz.sizeOf4
  v4 := Tryz.zeroValue4
  t5 := Tryz.underlying5
  a5 := Tryz.isAgg5
  z5 := Tryz.sizeOf5
  v5 := Tryz.zeroValue5
  t9 := Tryz.underlying9
  a9 := Tryz.isAgg9
  z9 := Tryz.sizeOf9
  v9 := Tryz.zeroValue9
  t20 := Tryz.underlying20
  a20 := Tryz.isAgg20
  z20 := Tryz.sizeOf20
  v20 := Tryz.zeroValue20
  t21 := Tryz.underlying21
  a21 := Tryz.isAgg21
  z21 := Tryz.sizeOf21
  v21 := Tryz.zeroValue21
  t37 := Tryz.underlying48
  a37 := Tryz.isAgg48
  z37 := Tryz.sizeOf48
  v37 := Tryz.zeroValue48
  t46 := Tryz.underlying156
  a46 := Tryz.isAgg156
  z46 := Tryz.sizeOf156
  v46 := Tryz.zeroValue156
  t51 := Tryz.underlying179
  a51 := Tryz.isAgg179
  z51 := Tryz.sizeOf179
  v51 := Tryz.zeroValue179
  t53 := Tryz.underlying203
  a53 := Tryz.isAgg203
  z53 := Tryz.sizeOf203
  v53 := Tryz.zeroValue203
  t75 := Tryz.underlying52
  a75 := Tryz.isAgg52
  z75 := Tryz.sizeOf52
  v75 := Tryz.zeroValue52
  t76 := Tryz.underlying53
  a76 := Tryz.isAgg53
  z76 := Tryz.sizeOf53
  v76 := Tryz.zeroValue53
  t85 := Tryz.underlying232
  a85 := Tryz.isAgg232
  z85 := Tryz.sizeOf232
  v85 := Tryz.zeroValue232
  t127 := Tryz.underlying106
  a127 := Tryz.isAgg106
  z127 := Tryz.sizeOf106
  v127 := Tryz.zeroValue106
  t143 := Tryz.underlying278
  a143 := Tryz.isAgg278
  z143 := Tryz.sizeOf278
  v143 := Tryz.zeroValue278
  t145 := Tryz.underlying280
  a145 := Tryz.isAgg280
  z145 := Tryz.sizeOf280
  v145 := Tryz.zeroValue280
  t167 := Tryz.underlying231
  a167 := Tryz.isAgg231
  z167 := Tryz.sizeOf231
  v167 := Tryz.zeroValue231
  t168 := Tryz.underlying234
  a168 := Tryz.isAgg234
  z168 := Tryz.sizeOf234
  v168 := Tryz.zeroValue234
  t171 := Tryz.underlying211
  a171 := Tryz.isAgg211
  z171 := Tryz.sizeOf211
  v171 := Tryz.zeroValue211
  t173 := Tryz.underlying214
  a173 := Tryz.isAgg214
  z173 := Tryz.sizeOf214
  v173 := Tryz.zeroValue214
  t175 := Tryz.underlying257
  a175 := Tryz.isAgg257
  z175 := Tryz.sizeOf257
  v175 := Tryz.zeroValue257
  t210 := Tryz.underlying260
  a210 := Tryz.isAgg260
  z210 := Tryz.sizeOf260
  v210 := Tryz.zeroValue260
  t212 := Tryz.underlying238
  a212 := Tryz.isAgg238
  z212 := Tryz.sizeOf238
  v212 := Tryz.zeroValue238
  t213 := Tryz.underlying239
  a213 := Tryz.isAgg239
  z213 := Tryz.sizeOf239
  t232 := Tryz.underlying281
  a232 := Tryz.isAgg281
  z232 := Tryz.sizeOf281
  v232 := Tryz.zeroValue281
  t233 := Tryz.underlying282
  a233 := Tryz.isAgg282
  z233 := Tryz.sizeOf282
  v233 := Tryz.zeroValue282
  g15 := by kernel_rfl
  g16 := by kernel_rfl
  g17 := by kernel_rfl
  g18 := by kernel_rfl
  g19 := by kernel_rfl
  t80 := Tryz.underlying37
  a80 := Tryz.isAgg37
  z80 := Tryz.sizeOf37
  v80 := Tryz.zeroValue37
  i0 := by kernel_rfl
  i2 := by kernel_rfl
  i3 := by kernel_rfl
  i4 := by kernel_rfl
  i5 := by kernel_rfl
  i9 := by kernel_rfl
  i20 := by kernel_rfl
  i21 := by kernel_rfl
  i37 := by kernel_rfl
  i46 := by kernel_rfl
  i51 := by kernel_rfl
  i53 := by kernel_rfl
  i75 := by kernel_rfl
  i76 := by kernel_rfl
  i80 := by kernel_rfl
  i85 := by kernel_rfl
  i127 := by kernel_rfl
  i143 := by kernel_rfl
  i145 := by kernel_rfl
  i167 := by kernel_rfl
  i168 := by kernel_rfl
  i171 := by kernel_rfl
  i173 := by kernel_rfl
  i175 := by kernel_rfl
  i210 := by kernel_rfl
  i212 := by kernel_rfl
  i232 := by kernel_rfl
  i233 := by kernel_rfl
  m15 := by kernel_rfl
  m16 := by kernel_rfl
  m17 := by kernel_rfl
  m18 := by kernel_rfl
  m19 := by kernel_rfl
  c0 := by kernel_rfl
  c2 := by kernel_rfl
  c3 := by kernel_rfl
  c4 := by kernel_rfl
  c5 := by kernel_rfl
  c9 := by kernel_rfl
  c20 := by kernel_rfl
  c21 := by kernel_rfl
  c37 := by kernel_rfl
  c46 := by kernel_rfl
  c51 := by kernel_rfl
  c53 := by kernel_rfl
  c75 := by kernel_rfl
  c76 := by kernel_rfl
  c80 := by kernel_rfl
  c85 := by kernel_rfl
  c127 := by kernel_rfl
  c143 := by kernel_rfl
  c145 := by kernel_rfl
  c167 := by kernel_rfl
  c168 := by kernel_rfl
  c171 := by kernel_rfl
  c173 := by kernel_rfl
  c175 := by kernel_rfl
  c210 := by kernel_rfl
  c212 := by kernel_rfl
  c213 := by kernel_rfl
  c232 := by kernel_rfl
  c233 := by kernel_rfl

def splitStr_ren : Shelf.Ren where
  f := fun x => match x with | 146 => 78 | 221 => 110 | 268 => 135 | 138 => 17 | 143 => 45 | 195 => 43 | 197 => 142 | 218 => 44 | 219 => 86 | 260 => 153 | 217 => 113 | 225 => 114 | 224 => 115 | 267 => 116 | 266 => 138 | 314 => 139 | n => n
  t := fun x => match x with | 9 => 9 | 31 => 76 | 3 => 3 | 4 => 4 | 0 => 0 | 105 => 183 | 21 => 21 | 5 => 5 | 46 => 156 | 119 => 172 | 139 => 175 | 138 => 174 | 146 => 180 | 51 => 179 | n => n
  g := fun x => match x with | 1 => 0 | 3 => 1 | 4 => 2 | n => n
theorem splitStr_lay : Lays.n146 Tryz.prog splitStr_ren where
  mixed := by kernel_rfl
  f138 := Tryz.func17.trans (by kernel_rfl)
  f143 := Tryz.func45.trans (by kernel_rfl)
  f146 := Tryz.func78.trans (by kernel_rfl)
  f195 := Tryz.func43.trans (by kernel_rfl)
  f197 := Tryz.func142.trans (by kernel_rfl)
  f217 := Tryz.func113.trans (by kernel_rfl)
  f218 := Tryz.func44.trans (by kernel_rfl)
  f219 := Tryz.func86.trans (by kernel_rfl)
  f221 := Tryz.func110.trans (by kernel_rfl)
  f224 := Tryz.func115.trans (by kernel_rfl)
  f225 := Tryz.func114.trans (by kernel_rfl)
  f260 := Tryz.func153.trans (by kernel_rfl)
  f266 := Tryz.func138.trans (by kernel_rfl)
  f267 := Tryz.func116.trans (by kernel_rfl)
  f268 := Tryz.func135.trans (by kernel_rfl)
  f314 := Tryz.func139.trans (by kernel_rfl)
  t0 := Tryz.underlying0
  a0 := Tryz.isAgg0
  z0 := Tryz.sizeOf0
  v0 := Tryz.zeroValue0
  t3 := Tryz.underlying3
  a3 := Tryz.isAgg3
  z3 := Tryz.sizeOf3
  v3 := Tryz.zeroValue3
  t4 := Tryz.underlying4
  a4 := Tryz.isAgg4
  z4 := Tryz.sizeOf4
  v4 := Tryz.zeroValue4
  t5 := Tryz.underlying5
  a5 := Tryz.isAgg5
  z5 := Tryz.sizeOf5
  v5 := Tryz.zeroValue5
  t9 := Tryz.underlying9
  a9 := Tryz.isAgg9
  z9 := Tryz.sizeOf9
  v9 := Tryz.zeroValue9
  t21 := Tryz.underlying21
  a21 := Tryz.isAgg21
  z21 := Tryz.sizeOf21
  v21 := Tryz.zeroValue21
  t31 := Tryz.underlying76
  a31 := Tryz.isAgg76
  z31 := Tryz.sizeOf76
  v31 := Tryz.zeroValue76
  t46 := Tryz.underlying156
  a46 := Tryz.isAgg156
  z46 := Tryz.sizeOf156
  v46 := Tryz.zeroValue156
  t51 := Tryz.underlying179
  a51 := Tryz.isAgg179
  z51 := Tryz.sizeOf179
  v51 := Tryz.zeroValue179
  t105 := Tryz.underlying183
  a105 := Tryz.isAgg183
  z105 := Tryz.sizeOf183
  v105 := Tryz.zeroValue183
  t119 := Tryz.underlying172
  a119 := Tryz.isAgg172
  z119 := Tryz.sizeOf172
  t138 := Tryz.underlying174
  a138 := Tryz.isAgg174
  z138 := Tryz.sizeOf174
  v138 := Tryz.zeroValue174
  t139 := Tryz.underlying175
  a139 := Tryz.isAgg175
  z139 := Tryz.sizeOf175
  v139 := Tryz.zeroValue175
  t146 := Tryz.underlying180
  a146 := Tryz.isAgg180
  z146 := Tryz.sizeOf180
  v146 := Tryz.zeroValue180
  g1 := by kernel_rfl
  g3 := by kernel_rfl
  g4 := by kernel_rfl

def indexByteStr_ren : Shelf.Ren where
  f := fun x => match x with | 137 => 109 | 217 => 113 | 266 => 138 | n => n
  t := fun x => match x with | 9 => 9 | 5 => 5 | 3 => 3 | n => n
  g := fun n => n
theorem indexByteStr_lay : Lays.n137 Tryz.prog indexByteStr_ren where
  mixed := by kernel_rfl
  f137 := Tryz.func109.trans (by kernel_rfl)
  f217 := Tryz.func113.trans (by kernel_rfl)
  f266 := Tryz.func138.trans (by kernel_rfl)
  t3 := Tryz.underlying3
  a3 := Tryz.isAgg3
  z3 := Tryz.sizeOf3
  v3 := Tryz.zeroValue3
  t5 := Tryz.underlying5
  a5 := Tryz.isAgg5
  z5 := Tryz.sizeOf5
  v5 := Tryz.zeroValue5
  t9 := Tryz.underlying9
  a9 := Tryz.isAgg9
  z9 := Tryz.sizeOf9
  v9 := Tryz.zeroValue9

def cutStr_ren : Shelf.Ren where
  f := fun x => match x with | 145 => 34 | 220 => 76 | 219 => 86 | 217 => 113 | 225 => 114 | 224 => 115 | 267 => 116 | 266 => 138 | 314 => 139 | n => n
  t := fun x => match x with | 9 => 9 | 4 => 4 | 59 => 74 | 3 => 3 | 5 => 5 | 46 => 156 | 146 => 180 | 51 => 179 | n => n
  g := fun x => match x with | 1 => 0 | n => n
theorem cutStr_lay : Lays.n145 Tryz.prog cutStr_ren where
  mixed := by kernel_rfl
  f145 := Tryz.func34.trans (by kernel_rfl)
  f217 := Tryz.func113.trans (by kernel_rfl)
  f219 := Tryz.func86.trans (by kernel_rfl)
  f220 := Tryz.func76.trans (by kernel_rfl)
  f224 := Tryz.func115.trans (by kernel_rfl)
  f225 := Tryz.func114.trans (by kernel_rfl)
  f266 := Tryz.func138.trans (by kernel_rfl)
  f267 := Tryz.func116.trans (by kernel_rfl)
  f314 := Tryz.func139.trans (by kernel_rfl)
  t3 := Tryz.underlying3
  a3 := Tryz.isAgg3
  z3 := Tryz.sizeOf3
  v3 := Tryz.zeroValue3
  t4 := Tryz.underlying4
  a4 := Tryz.isAgg4
  z4 := Tryz.sizeOf4
  v4 := Tryz.zeroValue4
  t5 := Tryz.underlying5
  a5 := Tryz.isAgg5
  z5 := Tryz.sizeOf5
  v5 := Tryz.zeroValue5
  t9 := Tryz.underlying9
  a9 := Tryz.isAgg9
  z9 := Tryz.sizeOf9
  v9 := Tryz.zeroValue9
  t46 := Tryz.underlying156
  a46 := Tryz.isAgg156
  z46 := Tryz.sizeOf156
  v46 := Tryz.zeroValue156
  t51 := Tryz.underlying179
  a51 := Tryz.isAgg179
  z51 := Tryz.sizeOf179
  v51 := Tryz.zeroValue179
  t59 := Tryz.underlying74
  a59 := Tryz.isAgg74
  z59 := Tryz.sizeOf74
  v59 := Tryz.zeroValue74
  t146 := Tryz.underlying180
  a146 := Tryz.isAgg180
  z146 := Tryz.sizeOf180
  v146 := Tryz.zeroValue180
  g1 := by kernel_rfl

def bldStringL_ren : Shelf.Ren where
  f := fun x => match x with | 169 => 25 | n => n
  t := fun x => match x with | 70 => 47 | 9 => 9 | 0 => 0 | 72 => 50 | 37 => 48 | 127 => 106 | 3 => 3 | 5 => 5 | n => n
  g := fun n => n
theorem bldStringL_lay : Lays.n169 Tryz.prog bldStringL_ren where
  mixed := by kernel_rfl
  f169 := Tryz.func25.trans (by kernel_rfl)
  t0 := Tryz.underlying0
  a0 := Tryz.isAgg0
  z0 := Tryz.sizeOf0
  v0 := Tryz.zeroValue0
  t3 := Tryz.underlying3
  a3 := Tryz.isAgg3
  z3 := Tryz.sizeOf3
  v3 := Tryz.zeroValue3
  t9 := Tryz.underlying9
  a9 := Tryz.isAgg9
  z9 := Tryz.sizeOf9
  v9 := Tryz.zeroValue9
  t37 := Tryz.underlying48
  a37 := Tryz.isAgg48
  z37 := Tryz.sizeOf48
  v37 := Tryz.zeroValue48
  t70 := Tryz.underlying47
  a70 := Tryz.isAgg47
  z70 := Tryz.sizeOf47
  v70 := Tryz.zeroValue47
  t72 := Tryz.underlying50
  a72 := Tryz.isAgg50
  z72 := Tryz.sizeOf50
  v72 := Tryz.zeroValue50
  t127 := Tryz.underlying106
  a127 := Tryz.isAgg106
  z127 := Tryz.sizeOf106
  v127 := Tryz.zeroValue106
theorem bldStringL_extra : Proofs.Builder.Extra Tryz.prog bldStringL_ren where
  sizeBuilder := by kernel_rfl
  liesBuilder := by kernel_rfl
  t5 := Tryz.underlying5
  a5 := Tryz.isAgg5
  z5 := Tryz.sizeOf5
  v5 := Tryz.zeroValue5
  infoByte := by kernel_rfl
  cellsByte := by kernel_rfl
  sizeByte := by kernel_rfl
  neB5 := by decide

def bldLenL_ren : Shelf.Ren where
  f := fun x => match x with | 170 => 24 | n => n
  t := fun x => match x with | 70 => 47 | 3 => 3 | 0 => 0 | 72 => 50 | 37 => 48 | 5 => 5 | n => n
  g := fun n => n
theorem bldLenL_lay : Lays.n170 Tryz.prog bldLenL_ren where
  mixed := by kernel_rfl
  f170 := Tryz.func24.trans (by kernel_rfl)
  t0 := Tryz.underlying0
  a0 := Tryz.isAgg0
  z0 := Tryz.sizeOf0
  v0 := Tryz.zeroValue0
  t3 := Tryz.underlying3
  a3 := Tryz.isAgg3
  z3 := Tryz.sizeOf3
  v3 := Tryz.zeroValue3
  t37 := Tryz.underlying48
  a37 := Tryz.isAgg48
  z37 := Tryz.sizeOf48
  v37 := Tryz.zeroValue48
  t70 := Tryz.underlying47
  a70 := Tryz.isAgg47
  z70 := Tryz.sizeOf47
  v70 := Tryz.zeroValue47
  t72 := Tryz.underlying50
  a72 := Tryz.isAgg50
  z72 := Tryz.sizeOf50
  v72 := Tryz.zeroValue50

set_option maxHeartbeats 1000000 in
theorem cc_fresh (m : Nat) (w : World) (h0 : w.cell? ⟨m, 0, none⟩ = some (.pointer none)) (hsh : w.shape? m = some (50, 2)) (hfz : w.frozen? ⟨m, 0, none⟩ = false) :
    Calls Tryz.prog 53 #[.pointer (some ⟨m, 0, none⟩)] w fun e w' => e = .returned (.tuple #[]) ∧ w' = w.setCell ⟨m, 0, none⟩ (.pointer (some ⟨m, 0, none⟩)) := by
  obtain ⟨j, hj, hjs⟩ := Option.map_eq_some_iff.1 (show (Tryz.prog.info? 50).map (·.size) = some 2 from by kernel_rfl)
  go_enter Tryz.func53, Tryz.ntmps53
  go_wp2
  rw [Lib.run_to_unsafe w ⟨m, 0, none⟩ Tryz.underlying47 Tryz.underlying145 hj (by rw [hjs]; decide) hsh (Nat.zero_lt_succ 1)]
  simp only [Result.andThen]
  rw [Oper.upon_value]
  go_wp2
  rw [run_callFunc_extern Tryz.func96 (by kernel_rfl) (by kernel_rfl) (by kernel_rfl) (e := Extern.AbiNoEscape.same) (by kernel_rfl)]
  rw [Lib.run_noEscape]
  simp only [Result.andThen]
  rw [Oper.upon_value]
  go_wp2
  rw [Lib.run_from_unsafe w ⟨m, 0, none⟩ Tryz.underlying145 Tryz.underlying47 hj hsh (by kernel_rfl)]
  simp only [Result.andThen]
  rw [Oper.upon_value]
  go_wp2
  go_end0
  exact ⟨rfl, rfl⟩
set_option maxHeartbeats 1000000 in
theorem cc_used (m : Nat) (w : World) (h0 : w.cell? ⟨m, 0, none⟩ = some (.pointer (some ⟨m, 0, none⟩))) :
    Calls Tryz.prog 53 #[.pointer (some ⟨m, 0, none⟩)] w fun e w' => e = .returned (.tuple #[]) ∧ w' = w := by
  obtain ⟨j, hj, _⟩ := Option.map_eq_some_iff.1 (show (Tryz.prog.info? 50).map (·.size) = some 2 from by kernel_rfl)
  go_enter Tryz.func53, Tryz.ntmps53
  go_wp2
  rw [Lib.run_neq_ptr_same w _ Tryz.underlying47 hj]
  go_wp2
  go_end0
  exact ⟨rfl, rfl⟩
theorem cc_at : ChecksCopy Tryz.prog 53 50 := by
  intro m p u w hp h3
  rcases hp with rfl | rfl
  · refine Calls.mono (cc_fresh m w (by rw [Go.DB.cell_of_heap h3]; rfl) (by simp [World.shape?, h3]) (by simp [World.frozen?, h3])) ?_
    rintro e w' ⟨rfl, rfl⟩
    refine ⟨rfl, by simp [World.setCell, Array.getElem?_modify, h3], rfl, rfl, rfl, by simp [World.setCell], fun k hk => ?_⟩
    simp only [World.setCell, Array.getElem?_modify]
    rw [if_neg (Ne.symm hk)]
  · refine Calls.mono (cc_used m w (by rw [Go.DB.cell_of_heap h3]; rfl)) ?_
    rintro e w' ⟨rfl, rfl⟩
    exact ⟨rfl, h3, rfl, rfl, rfl, rfl, fun _ _ => rfl⟩
set_option maxHeartbeats 1000000 in
theorem ws_at : WritesStr Tryz.prog 20 50 5 := by
  intro m p u c s w hp h3 h4 h5 hl
  obtain ⟨i0, hi, hz0, hz1, hz2⟩ := info_parts (show (Tryz.prog.info? 5).map (fun i => (i.zero, i.size, i.bytes)) = some (some (.int .u8 0), 1, 1) from by kernel_rfl)
  have hm := (Array.getElem?_eq_some_iff.1 h3).1
  have hss : (ByteArray.mk s.toArray).size = s.length := rfl
  go_enter Tryz.func20, Tryz.ntmps20
  go_wp2_with (go_at_call 53; refine Calls.mono (cc_at m p u _ hp h3) ?_)
  rintro e w1 ⟨rfl, g1, g2, g3, g4, g5, g6⟩
  have c0 : w1.cell? ⟨m, 0, none⟩ = some (.pointer (some ⟨m, 0, none⟩)) := by rw [Go.DB.cell_of_heap g1]; rfl
  have c1 : w1.cell? ⟨m, 1, none⟩ = some u := by rw [Go.DB.cell_of_heap g1]; rfl
  have hown1 := own_turn (T := 50) h4 h5 g6
  go_wp2_with (at_builtin; refine wp_append_str rfl _ _ 48 9 rfl 5 i0 Tryz.underlying48 Tryz.underlying9 hi hz0 hz1 hz2 _ _ _ rfl hown1 ⟨s.toArray⟩ rfl ?c3 ?_)
  case c3 => rw [hss]; exact hl
  intro v' w2 hown2 hgrow hwhere
  have hm2 : w2.heap[m]? = some (.cells #[.pointer (some ⟨m, 0, none⟩), u] 50 (0, 0)) := by
    rw [hgrow.block m (by omega) (fun e => h5 e.symm)]; exact g1
  have d0 : w2.cell? ⟨m, 0, none⟩ = some (.pointer (some ⟨m, 0, none⟩)) := by rw [Go.DB.cell_of_heap hm2]; rfl
  have d1 : w2.cell? ⟨m, 1, none⟩ = some u := by rw [Go.DB.cell_of_heap hm2]; rfl
  have f1 : w2.frozen? ⟨m, 1, none⟩ = false := by simp [World.frozen?, hm2]
  obtain ⟨ao, n', cap, rfl⟩ := own_shape hown2
  go_wp2
  go_ret2
  exact ws_end (by decide) h3 h5 g2 g3 g4 g5 g6 hm2 hown2 hgrow (fun k hk => (hwhere k hk).imp id (fun h => by omega))

set_option maxHeartbeats 1600000 in
theorem qt99_at (l : List UInt8) (w : World) (hl : l.length ≤ 4294967296)
    (hcnt : ∀ (c : UInt8) (w : World), Calls Tryz.prog 17 #[.string ⟨l.toArray⟩, .string ⟨#[c]⟩] w fun e w' => e = .returned (.int .i64 (l.count c)) ∧ w' = w) :
    Calls Tryz.prog 99 #[.string ⟨l.toArray⟩] w fun e w' => e = .returned (.string ⟨(34 :: (escL l ++ [34])).toArray⟩) ∧ Below w.heap.size w w' := by
  have hnr := nr_at w.heap.size (w.alloc (.cells #[.string ⟨#[92]⟩, .string ⟨#[92, 92]⟩, .string ⟨#[34]⟩, .string ⟨#[92, 34]⟩, .string ⟨#[10]⟩, .string ⟨#[92, 110]⟩] 9)) ⟨#[92]⟩ ⟨#[92, 92]⟩ ⟨#[34]⟩ ⟨#[92, 34]⟩ ⟨#[10]⟩ ⟨#[92, 110]⟩ (by show (w.heap.push _)[w.heap.size]? = _; rw [Array.getElem?_push_size])
  have hsz : (w.alloc (.cells #[.string ⟨#[92]⟩, .string ⟨#[92, 92]⟩, .string ⟨#[34]⟩, .string ⟨#[92, 34]⟩, .string ⟨#[10]⟩, .string ⟨#[92, 110]⟩] 9)).heap.size = w.heap.size + 1 := by show (w.heap.push _).size = _; rw [Array.size_push]
  go_enter Tryz.func99, Tryz.ntmps99
  go_wp2_with (go_at_call 130; refine hnr.mono ?_)
  rintro e w1 ⟨rfl, C, hw1⟩
  obtain ⟨wa, hwa⟩ : ∃ x, x = w.alloc (.cells #[.string ⟨#[92]⟩, .string ⟨#[92, 92]⟩, .string ⟨#[34]⟩, .string ⟨#[92, 34]⟩, .string ⟨#[10]⟩, .string ⟨#[92, 110]⟩] 9) := ⟨_, rfl⟩
  rw [← hwa] at hw1 hsz ⊢
  obtain ⟨wb, hwb⟩ : ∃ x, x = wa.alloc (.cells (#[.string ⟨#[92]⟩, .string ⟨#[92, 92]⟩, .string ⟨#[34]⟩, .string ⟨#[92, 34]⟩, .string ⟨#[10]⟩, .string ⟨#[92, 110]⟩] ++ Builtin.zeroCells #[.string ⟨#[]⟩] (C - 6)) 9) := ⟨_, rfl⟩
  rw [← hwb] at hw1
  have hsb : wb.heap.size = wa.heap.size + 1 := by rw [hwb]; show (wa.heap.push _).size = _; rw [Array.size_push]
  have hb : w1.heap[wa.heap.size + 1]? = some (.cells #[.int .u32 0, .int .i32 0, .int .u32 0, .nilIface, .slice (some ⟨wa.heap.size, 0, none⟩) 6 C] 201 (0, 0)) := by
    rw [hw1]; show (wb.heap.push _)[wa.heap.size + 1]? = _
    rw [← hsb, Array.getElem?_push_size]
  have ho : w1.heap[wa.heap.size]? = some (.cells (#[.string ⟨#[92]⟩, .string ⟨#[92, 92]⟩, .string ⟨#[34]⟩, .string ⟨#[92, 34]⟩, .string ⟨#[10]⟩, .string ⟨#[92, 110]⟩] ++ Builtin.zeroCells #[.string ⟨#[]⟩] (C - 6)) 9 (0, 0)) := by
    rw [hw1]
    show (wb.alloc _).heap[wa.heap.size]? = _
    rw [heap_allocPast _ (by omega), hwb]
    show (wa.heap.push _)[wa.heap.size]? = _
    rw [Array.getElem?_push_size]
  have hs1 : w1.heap.size = wa.heap.size + 2 := by rw [hw1]; show (wb.heap.push _).size = _; rw [Array.size_push, hsb]
  have hB : Below w.heap.size w w1 := by
    have a1 : Below w.heap.size w wa := by rw [hwa]; exact (Below.refl _ w).alloc (Nat.le_refl _) _
    have a2 : Below w.heap.size w wb := by rw [hwb]; exact a1.alloc (by omega) _
    rw [hw1]; exact (a2.alloc (by omega) _).trans (below_drew2 _ _)
  have cell : ∀ j v, (#[Value.string ⟨#[92]⟩, .string ⟨#[92, 92]⟩, .string ⟨#[34]⟩, .string ⟨#[92, 34]⟩, .string ⟨#[10]⟩, .string ⟨#[92, 110]⟩] : Array Value)[j]? = some v → w1.cell? ⟨wa.heap.size, j, none⟩ = some v := by
    intro j v hj
    simp only [World.cell?, ho]
    rw [Array.getElem?_append_left (Array.getElem?_eq_some_iff.1 hj).1]
    simpa using hj
  have hrl := rl_at (wa.heap.size + 1) wa.heap.size C l w1 hl (by omega) (by omega) hb (cell 0 _ rfl) (cell 1 _ rfl) (cell 2 _ rfl) (cell 3 _ rfl) (cell 4 _ rfl) (cell 5 _ rfl) hcnt
  have HB : Hid (Below w.heap.size w w1) := hB
  have hle : w.heap.size ≤ wa.heap.size + 1 := by omega
  clear cell ho hb hs1 hsb hw1 hwb hwa hB hsz hnr hcnt
  go_wp2_with (go_at_call 131; refine hrl.mono ?_)
  rintro e w3 ⟨rfl, hB3⟩
  have HB3 : Hid (Below (wa.heap.size + 1) w1 w3) := hB3
  clear hB3
  have hlen : (escL l).length ≤ 8589934592 := by
    rw [escL_len]
    have : escN l ≤ l.length := List.countP_le_length
    omega
  have n1 : ¬ 9223372036854775807 < 1 + (escL l).length := by omega
  have n2 : ¬ 9223372036854775807 < 1 + (escL l).length + 1 := by omega
  go_wp2
  refine bodyPost_ret (results_tmp rfl _ _ _) rfl ?_
  refine ⟨?_, HB.out.trans (HB3.out.mono hle)⟩
  show Ending.returned (.string (ByteArray.mk #[34] ++ ByteArray.mk (escL l).toArray ++ ByteArray.mk #[34])) = _
  congr 2

def joinStr_ren : Shelf.Ren where
  f := fun x => match x with | 156 => 98 | 165 => 129 | 166 => 20 | 169 => 25 | 240 => 53 | 241 => 146 | 276 => 96 | 277 => 160 | n => n
  t := fun x => match x with | 31 => 76 | 9 => 9 | 3 => 3 | 4 => 4 | 0 => 0 | 20 => 20 | 72 => 50 | 76 => 53 | 70 => 47 | 37 => 48 | 75 => 52 | 127 => 106 | 164 => 145 | 5 => 5 | 80 => 37 | n => n
  g := fun n => n
theorem joinStr_lay : Lays.n156 Tryz.prog joinStr_ren where
  mixed := by kernel_rfl
  f156 := Tryz.func98.trans (by kernel_rfl)
  f165 := Tryz.func129.trans (by kernel_rfl)
  f166 := Tryz.func20.trans (by kernel_rfl)
  f169 := Tryz.func25.trans (by kernel_rfl)
  f240 := Tryz.func53.trans (by kernel_rfl)
  f241 := Tryz.func146.trans (by kernel_rfl)
  f276 := Tryz.func96.trans (by kernel_rfl)
  f277 := Tryz.func160.trans (by kernel_rfl)
  t0 := Tryz.underlying0
  a0 := Tryz.isAgg0
  z0 := Tryz.sizeOf0
  v0 := Tryz.zeroValue0
  t3 := Tryz.underlying3
  a3 := Tryz.isAgg3
  z3 := Tryz.sizeOf3
  v3 := Tryz.zeroValue3
  t4 := Tryz.underlying4
  a4 := Tryz.isAgg4
  z4 := Tryz.sizeOf4
  v4 := Tryz.zeroValue4
  t9 := Tryz.underlying9
  a9 := Tryz.isAgg9
  z9 := Tryz.sizeOf9
  v9 := Tryz.zeroValue9
  t20 := Tryz.underlying20
  a20 := Tryz.isAgg20
  z20 := Tryz.sizeOf20
  v20 := Tryz.zeroValue20
  t31 := Tryz.underlying76
  a31 := Tryz.isAgg76
  z31 := Tryz.sizeOf76
  v31 := Tryz.zeroValue76
  t37 := Tryz.underlying48
  a37 := Tryz.isAgg48
  z37 := Tryz.sizeOf48
  v37 := Tryz.zeroValue48
  t70 := Tryz.underlying47
  a70 := Tryz.isAgg47
  z70 := Tryz.sizeOf47
  v70 := Tryz.zeroValue47
  t72 := Tryz.underlying50
  a72 := Tryz.isAgg50
  z72 := Tryz.sizeOf50
  v72 := Tryz.zeroValue50
  t75 := Tryz.underlying52
  a75 := Tryz.isAgg52
  z75 := Tryz.sizeOf52
  v75 := Tryz.zeroValue52
  t76 := Tryz.underlying53
  a76 := Tryz.isAgg53
  z76 := Tryz.sizeOf53
  v76 := Tryz.zeroValue53
  t127 := Tryz.underlying106
  a127 := Tryz.isAgg106
  z127 := Tryz.sizeOf106
  v127 := Tryz.zeroValue106
  t164 := Tryz.underlying145
  a164 := Tryz.isAgg145
  z164 := Tryz.sizeOf145
  v164 := Tryz.zeroValue145
theorem joinStr_extra : Proofs.Builder.Extra Tryz.prog joinStr_ren where
  sizeBuilder := by kernel_rfl
  liesBuilder := by kernel_rfl
  t5 := Tryz.underlying5
  a5 := Tryz.isAgg5
  z5 := Tryz.sizeOf5
  v5 := Tryz.zeroValue5
  infoByte := by kernel_rfl
  cellsByte := by kernel_rfl
  sizeByte := by kernel_rfl
  neB5 := by decide

theorem fnok17 : FnOK Tryz.prog 17 := ⟨_, Tryz.func17, by kernel_rfl, by kernel_rfl⟩
theorem fnok107 : FnOK Tryz.prog 107 := ⟨_, Tryz.func107, by kernel_rfl, by kernel_rfl⟩
theorem fnok97 : FnOK Tryz.prog 97 := ⟨_, Tryz.func97, by kernel_rfl, by kernel_rfl⟩
theorem fnok106 : FnOK Tryz.prog 106 := ⟨_, Tryz.func106, by kernel_rfl, by kernel_rfl⟩
theorem fnok103 : FnOK Tryz.prog 103 := ⟨_, Tryz.func103, by kernel_rfl, by kernel_rfl⟩
theorem fnok95 : FnOK Tryz.prog 95 := ⟨_, Tryz.func95, by kernel_rfl, by kernel_rfl⟩
theorem fnok137 : FnOK Tryz.prog 137 := ⟨_, Tryz.func137, by kernel_rfl, by kernel_rfl⟩
theorem fnok78 : FnOK Tryz.prog 78 := ⟨_, Tryz.func78, by kernel_rfl, by kernel_rfl⟩
theorem fnok109 : FnOK Tryz.prog 109 := ⟨_, Tryz.func109, by kernel_rfl, by kernel_rfl⟩
theorem fnok34 : FnOK Tryz.prog 34 := ⟨_, Tryz.func34, by kernel_rfl, by kernel_rfl⟩
theorem fnok25 : FnOK Tryz.prog 25 := ⟨_, Tryz.func25, by kernel_rfl, by kernel_rfl⟩
theorem fnok24 : FnOK Tryz.prog 24 := ⟨_, Tryz.func24, by kernel_rfl, by kernel_rfl⟩
theorem fnok20 : FnOK Tryz.prog 20 := ⟨_, Tryz.func20, by kernel_rfl, by kernel_rfl⟩
theorem fnok99 : FnOK Tryz.prog 99 := ⟨_, Tryz.func99, by kernel_rfl, by kernel_rfl⟩
theorem fnok98 : FnOK Tryz.prog 98 := ⟨_, Tryz.func98, by kernel_rfl, by kernel_rfl⟩
theorem fnok3 : FnOK Tryz.prog 3 := ⟨_, Tryz.func3, by kernel_rfl, by kernel_rfl⟩
theorem ty25 : Ty Tryz.prog 25 Doc := ⟨⟨_, Tryz.underlying25, rfl⟩, by kernel_rfl⟩
theorem ty26 : Ty Tryz.prog 26 (List Rule) := ⟨⟨_, Tryz.underlying26, rfl⟩, by kernel_rfl⟩
theorem fnok4 : FnOK Tryz.prog 4 := ⟨_, Tryz.func4, by kernel_rfl, by kernel_rfl⟩
theorem fnok18 : FnOK Tryz.prog 18 := ⟨_, Tryz.func18, by kernel_rfl, by kernel_rfl⟩
theorem fd25_0 : FieldAt Tryz.prog 25 0 0 := ⟨_, _, Tryz.underlying25, rfl, rfl, by kernel_rfl⟩
theorem hfd25_0 : HasField Doc (List DNode) 0 Doc.Nodes := ⟨by decide, fun M x cs w h => (HasField.fst HasField.self).2 M _ cs w h⟩
theorem ty22 : Ty Tryz.prog 22 (List DNode) := ⟨⟨_, Tryz.underlying22, rfl⟩, by kernel_rfl⟩
theorem sl22 : SliceOf Tryz.prog 22 59 := Tryz.underlying22
theorem fd25_1 : FieldAt Tryz.prog 25 1 1 := ⟨_, _, Tryz.underlying25, rfl, rfl, by kernel_rfl⟩
theorem hfd25_1 : HasField Doc (List DEdge) 1 Doc.Edges := ⟨by decide, fun M x cs w h => (HasField.snd HasField.self).2 M _ cs w h⟩
theorem ty23 : Ty Tryz.prog 23 (List DEdge) := ⟨⟨_, Tryz.underlying23, rfl⟩, by kernel_rfl⟩
theorem sl23 : SliceOf Tryz.prog 23 65 := Tryz.underlying23
theorem ty59 : Ty Tryz.prog 59 DNode := ⟨⟨_, Tryz.underlying59, rfl⟩, by kernel_rfl⟩
theorem zo59 : ZeroOf Tryz.prog 59 (⟨Str.nil, (0 : Int), (⟨(0 : Int), (0 : Int), (0 : Int), (0 : Int)⟩ : Box), Str.nil, Str.nil, Str.nil, false⟩ : DNode) := ⟨[.string ByteArray.empty, .int .i64 0, .int .i64 0, .int .i64 0, .int .i64 0, .int .i64 0, .string ByteArray.empty, .string ByteArray.empty, .string ByteArray.empty, .bool false], by kernel_rfl, fun _ _ => ⟨[_], _, rfl, str_zero, ⟨[_], _, rfl, ⟨rfl, by decide⟩, ⟨[_, _, _, _], _, rfl, ⟨[_], _, rfl, ⟨rfl, by decide⟩, ⟨[_], _, rfl, ⟨rfl, by decide⟩, ⟨[_], _, rfl, ⟨rfl, by decide⟩, ⟨rfl, by decide⟩⟩⟩⟩, ⟨[_], _, rfl, str_zero, ⟨[_], _, rfl, str_zero, ⟨[_], _, rfl, str_zero, rfl⟩⟩⟩⟩⟩⟩⟩
theorem fd59_0 : FieldAt Tryz.prog 59 0 0 := ⟨_, _, Tryz.underlying59, rfl, rfl, by kernel_rfl⟩
theorem hfd59_0 : HasField DNode Str 0 DNode.Id := ⟨by decide, fun M x cs w h => (HasField.fst HasField.self).2 M _ cs w h⟩
theorem ty9 : Ty Tryz.prog 9 Str := ⟨⟨_, Tryz.underlying9, rfl⟩, by kernel_rfl⟩
theorem zo4 : ZeroOf Tryz.prog 4 false := ⟨[.bool false], by kernel_rfl, fun _ _ => rfl⟩
theorem mo93 : MapOf Tryz.prog 93 9 4 (MKey.desc Str) := ⟨Tryz.underlying93, Tryz.underlying9⟩
theorem fnok46 : FnOK Tryz.prog 46 := ⟨_, Tryz.func46, by kernel_rfl, by kernel_rfl⟩
theorem fnok87 : FnOK Tryz.prog 87 := ⟨_, Tryz.func87, by kernel_rfl, by kernel_rfl⟩
theorem fd59_1 : FieldAt Tryz.prog 59 1 1 := ⟨_, _, Tryz.underlying59, rfl, rfl, by kernel_rfl⟩
theorem hfd59_1 : HasField DNode Int 1 DNode.Kind := ⟨by decide, fun M x cs w h => (HasField.snd (HasField.fst HasField.self)).2 M _ cs w h⟩
theorem ty3 : Ty Tryz.prog 3 Int := ⟨⟨_, Tryz.underlying3, rfl⟩, by kernel_rfl⟩
theorem fd59_2 : FieldAt Tryz.prog 59 2 2 := ⟨_, _, Tryz.underlying59, rfl, rfl, by kernel_rfl⟩
theorem hfd59_2 : HasField DNode Box 2 DNode.Box := ⟨by decide, fun M x cs w h => (HasField.snd (HasField.snd (HasField.fst HasField.self))).2 M _ cs w h⟩
theorem ty57 : Ty Tryz.prog 57 Box := ⟨⟨_, Tryz.underlying57, rfl⟩, by kernel_rfl⟩
theorem bu57 : BuildAt Tryz.prog 57 [.int .i64 0, .int .i64 0, .int .i64 0, .int .i64 0] [(0, 1), (1, 1), (2, 1), (3, 1)] := ⟨by kernel_rfl, _, Tryz.underlying57, by kernel_rfl⟩
theorem zc57 : ∀ (M : MSet) (w : World), Rep.cells M (⟨(0 : Int), (0 : Int), (0 : Int), (0 : Int)⟩ : Box) [.int .i64 0, .int .i64 0, .int .i64 0, .int .i64 0] w := fun _ _ => ⟨[_], _, rfl, ⟨rfl, by decide⟩, ⟨[_], _, rfl, ⟨rfl, by decide⟩, ⟨[_], _, rfl, ⟨rfl, by decide⟩, ⟨rfl, by decide⟩⟩⟩⟩
theorem eq57 : DB.EqAt Tryz.prog 57 Box := eqAt_ints (n := 4) (fun p => [p.X, p.Y, p.W_, p.H]) (fun a b => by cases a; cases b; simp) (fun _ => rfl) (fun M v w a h => by obtain ⟨cs, h, rfl⟩ := h; obtain ⟨_, _, rfl, ⟨rfl, _⟩, ⟨_, _, rfl, ⟨rfl, _⟩, ⟨_, _, rfl, ⟨rfl, _⟩, ⟨rfl, _⟩⟩⟩⟩ := h; rfl) ⟨by kernel_rfl, by kernel_rfl, by kernel_rfl, by kernel_rfl⟩
theorem fnok88 : FnOK Tryz.prog 88 := ⟨_, Tryz.func88, by kernel_rfl, by kernel_rfl⟩
theorem fd57_0 : FieldAt Tryz.prog 57 0 0 := ⟨_, _, Tryz.underlying57, rfl, rfl, by kernel_rfl⟩
theorem hfd57_0 : HasField Box Int 0 Box.X := ⟨by decide, fun M x cs w h => (HasField.fst HasField.self).2 M _ cs w h⟩
theorem fnok117 : FnOK Tryz.prog 117 := ⟨_, Tryz.func117, by kernel_rfl, by kernel_rfl⟩
theorem fd57_1 : FieldAt Tryz.prog 57 1 1 := ⟨_, _, Tryz.underlying57, rfl, rfl, by kernel_rfl⟩
theorem hfd57_1 : HasField Box Int 1 Box.Y := ⟨by decide, fun M x cs w h => (HasField.snd (HasField.fst HasField.self)).2 M _ cs w h⟩
theorem fd57_2 : FieldAt Tryz.prog 57 2 2 := ⟨_, _, Tryz.underlying57, rfl, rfl, by kernel_rfl⟩
theorem hfd57_2 : HasField Box Int 2 Box.W_ := ⟨by decide, fun M x cs w h => (HasField.snd (HasField.snd (HasField.fst HasField.self))).2 M _ cs w h⟩
theorem fd57_3 : FieldAt Tryz.prog 57 3 3 := ⟨_, _, Tryz.underlying57, rfl, rfl, by kernel_rfl⟩
theorem hfd57_3 : HasField Box Int 3 Box.H := ⟨by decide, fun M x cs w h => (HasField.snd (HasField.snd (HasField.snd HasField.self))).2 M _ cs w h⟩
theorem fd59_3 : FieldAt Tryz.prog 59 3 6 := ⟨_, _, Tryz.underlying59, rfl, rfl, by kernel_rfl⟩
theorem hfd59_3 : HasField DNode Str 6 DNode.Text := ⟨by decide, fun M x cs w h => (HasField.snd (HasField.snd (HasField.snd (HasField.fst HasField.self)))).2 M _ cs w h⟩
theorem fnok89 : FnOK Tryz.prog 89 := ⟨_, Tryz.func89, by kernel_rfl, by kernel_rfl⟩
theorem fd59_4 : FieldAt Tryz.prog 59 4 7 := ⟨_, _, Tryz.underlying59, rfl, rfl, by kernel_rfl⟩
theorem hfd59_4 : HasField DNode Str 7 DNode.Class := ⟨by decide, fun M x cs w h => (HasField.snd (HasField.snd (HasField.snd (HasField.snd (HasField.fst HasField.self))))).2 M _ cs w h⟩
theorem fnok47 : FnOK Tryz.prog 47 := ⟨_, Tryz.func47, by kernel_rfl, by kernel_rfl⟩
theorem zvc_Page_view_o12 : ∀ (M : MSet) (w : World), Rep.cells M (⟨(⟨([] : (List DNode)), ([] : (List DEdge))⟩ : Doc), ⟨.map none⟩, ⟨.map none⟩⟩ : Page_view_o12) [.slice none 0 0, .slice none 0 0, .map none, .map none] w := fun _ _ => ⟨[_, _], _, rfl, ⟨[_], _, rfl, ⟨none, 0, rfl, Nat.le_refl _, by decide, rfl⟩, ⟨none, 0, rfl, Nat.le_refl _, by decide, rfl⟩⟩, ⟨[_], _, rfl, ⟨rfl, rfl, rfl⟩, ⟨rfl, rfl, rfl⟩⟩⟩
theorem hv_Page_view_o12_2 : HasField Page_view_o12 Raw 3 Page_view_o12.members := ⟨by decide, fun M x cs w h => (HasField.snd (HasField.snd HasField.self)).2 M _ cs w h⟩
theorem sv_Page_view_o12_2 : SetField Page_view_o12 Raw 3 (fun x z => { x with members := z }) := ⟨by decide, fun M x z cs zs w h hz => (SetField.snd (SetField.snd SetField.self)).2 M _ z cs zs w h hz⟩
theorem hv_Page_view_o12_1 : HasField Page_view_o12 Raw 2 Page_view_o12.number := ⟨by decide, fun M x cs w h => (HasField.snd (HasField.fst HasField.self)).2 M _ cs w h⟩
theorem sv_Page_view_o12_1 : SetField Page_view_o12 Raw 2 (fun x z => { x with number := z }) := ⟨by decide, fun M x z cs zs w h hz => (SetField.snd (SetField.fst SetField.self)).2 M _ z cs zs w h hz⟩
theorem sv_Page_view_o12_0 : SetField Page_view_o12 Doc 0 (fun x z => { x with d := z }) := ⟨by decide, fun M x z cs zs w h hz => (SetField.fst SetField.self).2 M _ z cs zs w h hz⟩
theorem bu141 : BuildAt Tryz.prog 141 [.slice none 0 0, .slice none 0 0, .map none, .map none] [(0, 2), (2, 1), (3, 1)] := ⟨by kernel_rfl, _, Tryz.underlying141, by kernel_rfl⟩
theorem fd141_1 : FieldAt Tryz.prog 141 1 2 := ⟨_, _, Tryz.underlying141, rfl, rfl, by kernel_rfl⟩
theorem hfd141_1 : HasField Page_view (GMap Str Int) 2 Page_view.number := ⟨by decide, fun M x cs w h => (HasField.snd (HasField.fst HasField.self)).2 M _ cs w h⟩
theorem tr138 : Ty Tryz.prog 138 Raw := ⟨⟨_, Tryz.underlying138, rfl⟩, by kernel_rfl⟩
theorem mo138 : MapOf Tryz.prog 138 9 3 (MKey.desc Str) := ⟨Tryz.underlying138, Tryz.underlying9⟩
theorem fd59_5 : FieldAt Tryz.prog 59 5 8 := ⟨_, _, Tryz.underlying59, rfl, rfl, by kernel_rfl⟩
theorem hfd59_5 : HasField DNode Str 8 DNode.Parent := ⟨by decide, fun M x cs w h => (HasField.snd (HasField.snd (HasField.snd (HasField.snd (HasField.snd (HasField.fst HasField.self)))))).2 M _ cs w h⟩
theorem fd141_2 : FieldAt Tryz.prog 141 2 3 := ⟨_, _, Tryz.underlying141, rfl, rfl, by kernel_rfl⟩
theorem hfd141_2 : HasField Page_view (GMap Str (List Int)) 3 Page_view.members := ⟨by decide, fun M x cs w h => (HasField.snd (HasField.snd HasField.self)).2 M _ cs w h⟩
theorem tr139 : Ty Tryz.prog 139 Raw := ⟨⟨_, Tryz.underlying139, rfl⟩, by kernel_rfl⟩
theorem zo104 : ZeroOf Tryz.prog 104 ([] : (List Int)) := ⟨[.slice none 0 0], by kernel_rfl, fun _ _ => ⟨none, 0, rfl, Nat.le_refl _, by decide, rfl⟩⟩
theorem mo139 : MapOf Tryz.prog 139 9 104 (MKey.desc Str) := ⟨Tryz.underlying139, Tryz.underlying9⟩
theorem zraw104 : ZeroOf Tryz.prog 104 (⟨.slice none 0 0⟩ : Raw) := ⟨[.slice none 0 0], by kernel_rfl, fun _ _ => ⟨rfl, rfl, rfl⟩⟩
theorem sl104 : SliceOf Tryz.prog 104 3 := Tryz.underlying104
theorem hz3 : HasZero Tryz.prog 3 := by unfold HasZero; kernel_rfl
theorem rk104 : RowOK Tryz.prog 104 3 Int := ⟨sl104, ty3, by kernel_rfl⟩
theorem fnok48 : FnOK Tryz.prog 48 := ⟨_, Tryz.func48, by kernel_rfl, by kernel_rfl⟩
theorem fd141_0 : FieldAt Tryz.prog 141 0 0 := ⟨_, _, Tryz.underlying141, rfl, rfl, by kernel_rfl⟩
theorem hfd141_0 : HasField Page_view Doc 0 Page_view.d := ⟨by decide, fun M x cs w h => (HasField.fst HasField.self).2 M _ cs w h⟩
theorem ty138 : Ty Tryz.prog 138 (GMap Str Int) := ⟨⟨_, Tryz.underlying138, rfl⟩, by kernel_rfl⟩
theorem zo3 : ZeroOf Tryz.prog 3 (0 : Int) := ⟨[.int .i64 0], by kernel_rfl, fun _ _ => ⟨rfl, by decide⟩⟩
theorem fnok90 : FnOK Tryz.prog 90 := ⟨_, Tryz.func90, by kernel_rfl, by kernel_rfl⟩
theorem fnok118 : FnOK Tryz.prog 118 := ⟨_, Tryz.func118, by kernel_rfl, by kernel_rfl⟩
theorem ty139 : Ty Tryz.prog 139 (GMap Str (List Int)) := ⟨⟨_, Tryz.underlying139, rfl⟩, by kernel_rfl⟩
theorem ty65 : Ty Tryz.prog 65 DEdge := ⟨⟨_, Tryz.underlying65, rfl⟩, by kernel_rfl⟩
theorem zo65 : ZeroOf Tryz.prog 65 (⟨Str.nil, (⟨Str.nil, (0 : Int), (0 : Int)⟩ : DEnd), (⟨Str.nil, (0 : Int), (0 : Int)⟩ : DEnd), ([] : (List Point)), Str.nil, Str.nil⟩ : DEdge) := ⟨[.string ByteArray.empty, .string ByteArray.empty, .int .i64 0, .int .i64 0, .string ByteArray.empty, .int .i64 0, .int .i64 0, .slice none 0 0, .string ByteArray.empty, .string ByteArray.empty], by kernel_rfl, fun _ _ => ⟨[_], _, rfl, str_zero, ⟨[_, _, _], _, rfl, ⟨[_], _, rfl, str_zero, ⟨[_], _, rfl, ⟨rfl, by decide⟩, ⟨rfl, by decide⟩⟩⟩, ⟨[_, _, _], _, rfl, ⟨[_], _, rfl, str_zero, ⟨[_], _, rfl, ⟨rfl, by decide⟩, ⟨rfl, by decide⟩⟩⟩, ⟨[_], _, rfl, ⟨none, 0, rfl, Nat.le_refl _, by decide, rfl⟩, ⟨[_], _, rfl, str_zero, str_zero⟩⟩⟩⟩⟩⟩
theorem fd65_0 : FieldAt Tryz.prog 65 0 0 := ⟨_, _, Tryz.underlying65, rfl, rfl, by kernel_rfl⟩
theorem hfd65_0 : HasField DEdge Str 0 DEdge.Id := ⟨by decide, fun M x cs w h => (HasField.fst HasField.self).2 M _ cs w h⟩
theorem fnok49 : FnOK Tryz.prog 49 := ⟨_, Tryz.func49, by kernel_rfl, by kernel_rfl⟩
theorem fd65_1 : FieldAt Tryz.prog 65 1 1 := ⟨_, _, Tryz.underlying65, rfl, rfl, by kernel_rfl⟩
theorem hfd65_1 : HasField DEdge DEnd 1 DEdge.From := ⟨by decide, fun M x cs w h => (HasField.snd (HasField.fst HasField.self)).2 M _ cs w h⟩
theorem ty62 : Ty Tryz.prog 62 DEnd := ⟨⟨_, Tryz.underlying62, rfl⟩, by kernel_rfl⟩
theorem fd65_2 : FieldAt Tryz.prog 65 2 4 := ⟨_, _, Tryz.underlying65, rfl, rfl, by kernel_rfl⟩
theorem hfd65_2 : HasField DEdge DEnd 4 DEdge.To := ⟨by decide, fun M x cs w h => (HasField.snd (HasField.snd (HasField.fst HasField.self))).2 M _ cs w h⟩
theorem sl117 : SliceOf Tryz.prog 117 62 := Tryz.underlying117
theorem hz62 : HasZero Tryz.prog 62 := by unfold HasZero; kernel_rfl
theorem zo62 : ZeroOf Tryz.prog 62 (⟨Str.nil, (0 : Int), (0 : Int)⟩ : DEnd) := ⟨[.string ByteArray.empty, .int .i64 0, .int .i64 0], by kernel_rfl, fun _ _ => ⟨[_], _, rfl, str_zero, ⟨[_], _, rfl, ⟨rfl, by decide⟩, ⟨rfl, by decide⟩⟩⟩⟩
theorem fnok91 : FnOK Tryz.prog 91 := ⟨_, Tryz.func91, by kernel_rfl, by kernel_rfl⟩
theorem fd62_0 : FieldAt Tryz.prog 62 0 0 := ⟨_, _, Tryz.underlying62, rfl, rfl, by kernel_rfl⟩
theorem hfd62_0 : HasField DEnd Str 0 DEnd.Node := ⟨by decide, fun M x cs w h => (HasField.fst HasField.self).2 M _ cs w h⟩
theorem fd62_1 : FieldAt Tryz.prog 62 1 1 := ⟨_, _, Tryz.underlying62, rfl, rfl, by kernel_rfl⟩
theorem hfd62_1 : HasField DEnd Int 1 DEnd.Side := ⟨by decide, fun M x cs w h => (HasField.snd (HasField.fst HasField.self)).2 M _ cs w h⟩
theorem fd62_2 : FieldAt Tryz.prog 62 2 2 := ⟨_, _, Tryz.underlying62, rfl, rfl, by kernel_rfl⟩
theorem hfd62_2 : HasField DEnd Int 2 DEnd.At := ⟨by decide, fun M x cs w h => (HasField.snd (HasField.snd HasField.self)).2 M _ cs w h⟩
theorem fd65_3 : FieldAt Tryz.prog 65 3 7 := ⟨_, _, Tryz.underlying65, rfl, rfl, by kernel_rfl⟩
theorem hfd65_3 : HasField DEdge (List Point) 7 DEdge.Bends := ⟨by decide, fun M x cs w h => (HasField.snd (HasField.snd (HasField.snd (HasField.fst HasField.self)))).2 M _ cs w h⟩
theorem ty63 : Ty Tryz.prog 63 (List Point) := ⟨⟨_, Tryz.underlying63, rfl⟩, by kernel_rfl⟩
theorem sl63 : SliceOf Tryz.prog 63 89 := Tryz.underlying63
theorem fnok92 : FnOK Tryz.prog 92 := ⟨_, Tryz.func92, by kernel_rfl, by kernel_rfl⟩
theorem fnok119 : FnOK Tryz.prog 119 := ⟨_, Tryz.func119, by kernel_rfl, by kernel_rfl⟩
theorem ty89 : Ty Tryz.prog 89 Point := ⟨⟨_, Tryz.underlying89, rfl⟩, by kernel_rfl⟩
theorem zo89 : ZeroOf Tryz.prog 89 (⟨(0 : Int), (0 : Int)⟩ : Point) := ⟨[.int .i64 0, .int .i64 0], by kernel_rfl, fun _ _ => ⟨[_], _, rfl, ⟨rfl, by decide⟩, ⟨rfl, by decide⟩⟩⟩
theorem fnok140 : FnOK Tryz.prog 140 := ⟨_, Tryz.func140, by kernel_rfl, by kernel_rfl⟩
theorem fd89_0 : FieldAt Tryz.prog 89 0 0 := ⟨_, _, Tryz.underlying89, rfl, rfl, by kernel_rfl⟩
theorem hfd89_0 : HasField Point Int 0 Point.X := ⟨by decide, fun M x cs w h => (HasField.fst HasField.self).2 M _ cs w h⟩
theorem fd89_1 : FieldAt Tryz.prog 89 1 1 := ⟨_, _, Tryz.underlying89, rfl, rfl, by kernel_rfl⟩
theorem hfd89_1 : HasField Point Int 1 Point.Y := ⟨by decide, fun M x cs w h => (HasField.snd HasField.self).2 M _ cs w h⟩
theorem fd65_4 : FieldAt Tryz.prog 65 4 8 := ⟨_, _, Tryz.underlying65, rfl, rfl, by kernel_rfl⟩
theorem hfd65_4 : HasField DEdge Str 8 DEdge.Text := ⟨by decide, fun M x cs w h => (HasField.snd (HasField.snd (HasField.snd (HasField.snd (HasField.fst HasField.self))))).2 M _ cs w h⟩
theorem fd65_5 : FieldAt Tryz.prog 65 5 9 := ⟨_, _, Tryz.underlying65, rfl, rfl, by kernel_rfl⟩
theorem hfd65_5 : HasField DEdge Str 9 DEdge.Class := ⟨by decide, fun M x cs w h => (HasField.snd (HasField.snd (HasField.snd (HasField.snd (HasField.snd HasField.self))))).2 M _ cs w h⟩
theorem fnok50 : FnOK Tryz.prog 50 := ⟨_, Tryz.func50, by kernel_rfl, by kernel_rfl⟩
theorem zo57 : ZeroOf Tryz.prog 57 (⟨(0 : Int), (0 : Int), (0 : Int), (0 : Int)⟩ : Box) := ⟨[.int .i64 0, .int .i64 0, .int .i64 0, .int .i64 0], by kernel_rfl, fun _ _ => ⟨[_], _, rfl, ⟨rfl, by decide⟩, ⟨[_], _, rfl, ⟨rfl, by decide⟩, ⟨[_], _, rfl, ⟨rfl, by decide⟩, ⟨rfl, by decide⟩⟩⟩⟩⟩
theorem sl120 : SliceOf Tryz.prog 120 57 := Tryz.underlying120
theorem hz57 : HasZero Tryz.prog 57 := by unfold HasZero; kernel_rfl
theorem rk120 : RowOK Tryz.prog 120 57 Box := ⟨sl120, ty57, by kernel_rfl⟩
theorem fnok93 : FnOK Tryz.prog 93 := ⟨_, Tryz.func93, by kernel_rfl, by kernel_rfl⟩
theorem fnok120 : FnOK Tryz.prog 120 := ⟨_, Tryz.func120, by kernel_rfl, by kernel_rfl⟩
theorem sf57_3 : SetField Box Int 3 (fun x z => { x with H := z }) := ⟨by decide, fun M x z cs zs w h hz => (SetField.snd (SetField.snd (SetField.snd SetField.self))).2 M _ z cs zs w h hz⟩
theorem sf57_2 : SetField Box Int 2 (fun x z => { x with W_ := z }) := ⟨by decide, fun M x z cs zs w h hz => (SetField.snd (SetField.snd (SetField.fst SetField.self))).2 M _ z cs zs w h hz⟩
theorem sf57_1 : SetField Box Int 1 (fun x z => { x with Y := z }) := ⟨by decide, fun M x z cs zs w h hz => (SetField.snd (SetField.fst SetField.self)).2 M _ z cs zs w h hz⟩
theorem sf57_0 : SetField Box Int 0 (fun x z => { x with X := z }) := ⟨by decide, fun M x z cs zs w h hz => (SetField.fst SetField.self).2 M _ z cs zs w h hz⟩
theorem fnok94 : FnOK Tryz.prog 94 := ⟨_, Tryz.func94, by kernel_rfl, by kernel_rfl⟩
theorem fnok19 : FnOK Tryz.prog 19 := ⟨_, Tryz.func19, by kernel_rfl, by kernel_rfl⟩
theorem sl26 : SliceOf Tryz.prog 26 43 := Tryz.underlying26
theorem ty43 : Ty Tryz.prog 43 Rule := ⟨⟨_, Tryz.underlying43, rfl⟩, by kernel_rfl⟩
theorem zo43 : ZeroOf Tryz.prog 43 (⟨Str.nil, Str.nil, Str.nil⟩ : Rule) := ⟨[.string ByteArray.empty, .string ByteArray.empty, .string ByteArray.empty], by kernel_rfl, fun _ _ => ⟨[_], _, rfl, str_zero, ⟨[_], _, rfl, str_zero, str_zero⟩⟩⟩
theorem fd43_0 : FieldAt Tryz.prog 43 0 0 := ⟨_, _, Tryz.underlying43, rfl, rfl, by kernel_rfl⟩
theorem hfd43_0 : HasField Rule Str 0 Rule.Class := ⟨by decide, fun M x cs w h => (HasField.fst HasField.self).2 M _ cs w h⟩
theorem fnok51 : FnOK Tryz.prog 51 := ⟨_, Tryz.func51, by kernel_rfl, by kernel_rfl⟩
theorem fd43_1 : FieldAt Tryz.prog 43 1 1 := ⟨_, _, Tryz.underlying43, rfl, rfl, by kernel_rfl⟩
theorem hfd43_1 : HasField Rule Str 1 Rule.Prop_ := ⟨by decide, fun M x cs w h => (HasField.snd (HasField.fst HasField.self)).2 M _ cs w h⟩
theorem fd43_2 : FieldAt Tryz.prog 43 2 2 := ⟨_, _, Tryz.underlying43, rfl, rfl, by kernel_rfl⟩
theorem hfd43_2 : HasField Rule Str 2 Rule.Value := ⟨by decide, fun M x cs w h => (HasField.snd (HasField.snd HasField.self)).2 M _ cs w h⟩
theorem fnok52 : FnOK Tryz.prog 52 := ⟨_, Tryz.func52, by kernel_rfl, by kernel_rfl⟩
theorem zbld50 : ZeroOf Tryz.prog 50 ((⟨.pointer none⟩, ⟨.slice none 0 0⟩) : Raw × Raw) := ⟨_, by kernel_rfl, fun _ _ => ⟨[.pointer none], [.slice none 0 0], rfl, ⟨rfl, rfl, rfl⟩, ⟨rfl, rfl, rfl⟩⟩⟩
theorem fnok21 : FnOK Tryz.prog 21 := ⟨_, Tryz.func21, by kernel_rfl, by kernel_rfl⟩
theorem fnok22 : FnOK Tryz.prog 22 := ⟨_, Tryz.func22, by kernel_rfl, by kernel_rfl⟩
theorem fnok54 : FnOK Tryz.prog 54 := ⟨_, Tryz.func54, by kernel_rfl, by kernel_rfl⟩
theorem sl76 : SliceOf Tryz.prog 76 9 := Tryz.underlying76
theorem hz9 : HasZero Tryz.prog 9 := by unfold HasZero; kernel_rfl
theorem fnok55 : FnOK Tryz.prog 55 := ⟨_, Tryz.func55, by kernel_rfl, by kernel_rfl⟩
theorem rk76 : RowOK Tryz.prog 76 9 Str := ⟨sl76, ty9, by kernel_rfl⟩
theorem fd59_6 : FieldAt Tryz.prog 59 6 9 := ⟨_, _, Tryz.underlying59, rfl, rfl, by kernel_rfl⟩
theorem hfd59_6 : HasField DNode Bool 9 DNode.Locked := ⟨by decide, fun M x cs w h => (HasField.snd (HasField.snd (HasField.snd (HasField.snd (HasField.snd (HasField.snd HasField.self)))))).2 M _ cs w h⟩
theorem ty4 : Ty Tryz.prog 4 Bool := ⟨⟨_, Tryz.underlying4, rfl⟩, by kernel_rfl⟩
theorem fnok56 : FnOK Tryz.prog 56 := ⟨_, Tryz.func56, by kernel_rfl, by kernel_rfl⟩
theorem fnok23 : FnOK Tryz.prog 23 := ⟨_, Tryz.func23, by kernel_rfl, by kernel_rfl⟩
theorem fnok57 : FnOK Tryz.prog 57 := ⟨_, Tryz.func57, by kernel_rfl, by kernel_rfl⟩
theorem fnok100 : FnOK Tryz.prog 100 := ⟨_, Tryz.func100, by kernel_rfl, by kernel_rfl⟩
theorem fnok58 : FnOK Tryz.prog 58 := ⟨_, Tryz.func58, by kernel_rfl, by kernel_rfl⟩
theorem fnok6 : FnOK Tryz.prog 6 := ⟨_, Tryz.func6, by kernel_rfl, by kernel_rfl⟩
theorem fnok26 : FnOK Tryz.prog 26 := ⟨_, Tryz.func26, by kernel_rfl, by kernel_rfl⟩
theorem fnok60 : FnOK Tryz.prog 60 := ⟨_, Tryz.func60, by kernel_rfl, by kernel_rfl⟩
theorem fnok59 : FnOK Tryz.prog 59 := ⟨_, Tryz.func59, by kernel_rfl, by kernel_rfl⟩
theorem fnok101 : FnOK Tryz.prog 101 := ⟨_, Tryz.func101, by kernel_rfl, by kernel_rfl⟩
theorem fnok30 : FnOK Tryz.prog 30 := ⟨_, Tryz.func30, by kernel_rfl, by kernel_rfl⟩
theorem fnok8 : FnOK Tryz.prog 8 := ⟨_, Tryz.func8, by kernel_rfl, by kernel_rfl⟩
theorem fnok16 : FnOK Tryz.prog 16 := ⟨_, Tryz.func16, by kernel_rfl, by kernel_rfl⟩
theorem sl68 : SliceOf Tryz.prog 68 27 := Tryz.underlying68
theorem ty27 : Ty Tryz.prog 27 Int := ⟨⟨_, Tryz.underlying27, rfl⟩, by kernel_rfl⟩
theorem hz27 : HasZero Tryz.prog 27 := by unfold HasZero; kernel_rfl
theorem fnok5 : FnOK Tryz.prog 5 := ⟨_, Tryz.func5, by kernel_rfl, by kernel_rfl⟩
theorem fnok61 : FnOK Tryz.prog 61 := ⟨_, Tryz.func61, by kernel_rfl, by kernel_rfl⟩
theorem sf89_1 : SetField Point Int 1 (fun x z => { x with Y := z }) := ⟨by decide, fun M x z cs zs w h hz => (SetField.snd SetField.self).2 M _ z cs zs w h hz⟩
theorem sf89_0 : SetField Point Int 0 (fun x z => { x with X := z }) := ⟨by decide, fun M x z cs zs w h hz => (SetField.fst SetField.self).2 M _ z cs zs w h hz⟩
theorem bu89 : BuildAt Tryz.prog 89 [.int .i64 0, .int .i64 0] [(0, 1), (1, 1)] := ⟨by kernel_rfl, _, Tryz.underlying89, by kernel_rfl⟩
theorem zc89 : ∀ (M : MSet) (w : World), Rep.cells M (⟨(0 : Int), (0 : Int)⟩ : Point) [.int .i64 0, .int .i64 0] w := fun _ _ => ⟨[_], _, rfl, ⟨rfl, by decide⟩, ⟨rfl, by decide⟩⟩
theorem fnok102 : FnOK Tryz.prog 102 := ⟨_, Tryz.func102, by kernel_rfl, by kernel_rfl⟩
theorem fnok62 : FnOK Tryz.prog 62 := ⟨_, Tryz.func62, by kernel_rfl, by kernel_rfl⟩
theorem fnok63 : FnOK Tryz.prog 63 := ⟨_, Tryz.func63, by kernel_rfl, by kernel_rfl⟩
theorem fnok27 : FnOK Tryz.prog 27 := ⟨_, Tryz.func27, by kernel_rfl, by kernel_rfl⟩
theorem fnok64 : FnOK Tryz.prog 64 := ⟨_, Tryz.func64, by kernel_rfl, by kernel_rfl⟩
theorem fnok104 : FnOK Tryz.prog 104 := ⟨_, Tryz.func104, by kernel_rfl, by kernel_rfl⟩
theorem fnok65 : FnOK Tryz.prog 65 := ⟨_, Tryz.func65, by kernel_rfl, by kernel_rfl⟩
theorem fnok66 : FnOK Tryz.prog 66 := ⟨_, Tryz.func66, by kernel_rfl, by kernel_rfl⟩
theorem hz59 : HasZero Tryz.prog 59 := by unfold HasZero; kernel_rfl
theorem rk22 : RowOK Tryz.prog 22 59 DNode := ⟨sl22, ty59, by kernel_rfl⟩
theorem fnok28 : FnOK Tryz.prog 28 := ⟨_, Tryz.func28, by kernel_rfl, by kernel_rfl⟩
theorem fnok68 : FnOK Tryz.prog 68 := ⟨_, Tryz.func68, by kernel_rfl, by kernel_rfl⟩
theorem fnok67 : FnOK Tryz.prog 67 := ⟨_, Tryz.func67, by kernel_rfl, by kernel_rfl⟩
theorem fnok105 : FnOK Tryz.prog 105 := ⟨_, Tryz.func105, by kernel_rfl, by kernel_rfl⟩
theorem fnok69 : FnOK Tryz.prog 69 := ⟨_, Tryz.func69, by kernel_rfl, by kernel_rfl⟩
theorem fnok70 : FnOK Tryz.prog 70 := ⟨_, Tryz.func70, by kernel_rfl, by kernel_rfl⟩
theorem fnok29 : FnOK Tryz.prog 29 := ⟨_, Tryz.func29, by kernel_rfl, by kernel_rfl⟩
theorem fnok71 : FnOK Tryz.prog 71 := ⟨_, Tryz.func71, by kernel_rfl, by kernel_rfl⟩
theorem fnok7 : FnOK Tryz.prog 7 := ⟨_, Tryz.func7, by kernel_rfl, by kernel_rfl⟩
theorem fnok9 : FnOK Tryz.prog 9 := ⟨_, Tryz.func9, by kernel_rfl, by kernel_rfl⟩
theorem fnok31 : FnOK Tryz.prog 31 := ⟨_, Tryz.func31, by kernel_rfl, by kernel_rfl⟩
theorem fnok32 : FnOK Tryz.prog 32 := ⟨_, Tryz.func32, by kernel_rfl, by kernel_rfl⟩
theorem fnok72 : FnOK Tryz.prog 72 := ⟨_, Tryz.func72, by kernel_rfl, by kernel_rfl⟩
theorem fnok73 : FnOK Tryz.prog 73 := ⟨_, Tryz.func73, by kernel_rfl, by kernel_rfl⟩
theorem fnok74 : FnOK Tryz.prog 74 := ⟨_, Tryz.func74, by kernel_rfl, by kernel_rfl⟩
theorem fnok33 : FnOK Tryz.prog 33 := ⟨_, Tryz.func33, by kernel_rfl, by kernel_rfl⟩
theorem fnok75 : FnOK Tryz.prog 75 := ⟨_, Tryz.func75, by kernel_rfl, by kernel_rfl⟩
theorem fnok108 : FnOK Tryz.prog 108 := ⟨_, Tryz.func108, by kernel_rfl, by kernel_rfl⟩
theorem fnok10 : FnOK Tryz.prog 10 := ⟨_, Tryz.func10, by kernel_rfl, by kernel_rfl⟩
theorem bu43 : BuildAt Tryz.prog 43 [.string ByteArray.empty, .string ByteArray.empty, .string ByteArray.empty] [(0, 1), (1, 1), (2, 1)] := ⟨by kernel_rfl, _, Tryz.underlying43, by kernel_rfl⟩
theorem zc43 : ∀ (M : MSet) (w : World), Rep.cells M (⟨Str.nil, Str.nil, Str.nil⟩ : Rule) [.string ByteArray.empty, .string ByteArray.empty, .string ByteArray.empty] w := fun _ _ => ⟨[_], _, rfl, str_zero, ⟨[_], _, rfl, str_zero, str_zero⟩⟩
theorem hz43 : HasZero Tryz.prog 43 := by unfold HasZero; kernel_rfl
theorem fnok12 : FnOK Tryz.prog 12 := ⟨_, Tryz.func12, by kernel_rfl, by kernel_rfl⟩
theorem fnok11 : FnOK Tryz.prog 11 := ⟨_, Tryz.func11, by kernel_rfl, by kernel_rfl⟩
theorem fnok13 : FnOK Tryz.prog 13 := ⟨_, Tryz.func13, by kernel_rfl, by kernel_rfl⟩
theorem zo25 : ZeroOf Tryz.prog 25 (⟨([] : (List DNode)), ([] : (List DEdge))⟩ : Doc) := ⟨[.slice none 0 0, .slice none 0 0], by kernel_rfl, fun _ _ => ⟨[_], _, rfl, ⟨none, 0, rfl, Nat.le_refl _, by decide, rfl⟩, ⟨none, 0, rfl, Nat.le_refl _, by decide, rfl⟩⟩⟩
theorem bu25 : BuildAt Tryz.prog 25 [.slice none 0 0, .slice none 0 0] [(0, 1), (1, 1)] := ⟨by kernel_rfl, _, Tryz.underlying25, by kernel_rfl⟩
theorem zc25 : ∀ (M : MSet) (w : World), Rep.cells M (⟨([] : (List DNode)), ([] : (List DEdge))⟩ : Doc) [.slice none 0 0, .slice none 0 0] w := fun _ _ => ⟨[_], _, rfl, ⟨none, 0, rfl, Nat.le_refl _, by decide, rfl⟩, ⟨none, 0, rfl, Nat.le_refl _, by decide, rfl⟩⟩
theorem zvc_Doc_o01 : ∀ (M : MSet) (w : World), Rep.cells M (⟨⟨.slice none 0 0⟩, ⟨.slice none 0 0⟩⟩ : Doc_o01) [.slice none 0 0, .slice none 0 0] w := fun _ _ => ⟨[_], _, rfl, ⟨rfl, rfl, rfl⟩, ⟨rfl, rfl, rfl⟩⟩
theorem zv_Doc_o01 : ZeroOf Tryz.prog 25 (⟨⟨.slice none 0 0⟩, ⟨.slice none 0 0⟩⟩ : Doc_o01) := ⟨[.slice none 0 0, .slice none 0 0], by kernel_rfl, zvc_Doc_o01⟩
theorem fnok35 : FnOK Tryz.prog 35 := ⟨_, Tryz.func35, by kernel_rfl, by kernel_rfl⟩
theorem fnok77 : FnOK Tryz.prog 77 := ⟨_, Tryz.func77, by kernel_rfl, by kernel_rfl⟩
theorem sl48 : SliceOf Tryz.prog 48 5 := Tryz.underlying48
theorem ty5 : Ty Tryz.prog 5 (KI .u8) := ⟨⟨_, Tryz.underlying5, rfl⟩, by kernel_rfl⟩
theorem hz5 : HasZero Tryz.prog 5 := by unfold HasZero; kernel_rfl
theorem rk48 : RowOK Tryz.prog 48 5 (KI .u8) := ⟨sl48, ty5, by kernel_rfl⟩
theorem fnok79 : FnOK Tryz.prog 79 := ⟨_, Tryz.func79, by kernel_rfl, by kernel_rfl⟩
theorem fnok85 : FnOK Tryz.prog 85 := ⟨_, Tryz.func85, by kernel_rfl, by kernel_rfl⟩
theorem fnok36 : FnOK Tryz.prog 36 := ⟨_, Tryz.func36, by kernel_rfl, by kernel_rfl⟩
theorem sf43_2 : SetField Rule Str 2 (fun x z => { x with Value := z }) := ⟨by decide, fun M x z cs zs w h hz => (SetField.snd (SetField.snd SetField.self)).2 M _ z cs zs w h hz⟩
theorem sf43_1 : SetField Rule Str 1 (fun x z => { x with Prop_ := z }) := ⟨by decide, fun M x z cs zs w h hz => (SetField.snd (SetField.fst SetField.self)).2 M _ z cs zs w h hz⟩
theorem sf43_0 : SetField Rule Str 0 (fun x z => { x with Class := z }) := ⟨by decide, fun M x z cs zs w h hz => (SetField.fst SetField.self).2 M _ z cs zs w h hz⟩
theorem tr22 : Ty Tryz.prog 22 Raw := ⟨⟨_, Tryz.underlying22, rfl⟩, by kernel_rfl⟩
theorem hv_Doc_o01_0 : HasField Doc_o01 Raw 0 Doc_o01.Nodes := ⟨by decide, fun M x cs w h => (HasField.fst HasField.self).2 M _ cs w h⟩
theorem sv_Doc_o01_0 : SetField Doc_o01 Raw 0 (fun x z => { x with Nodes := z }) := ⟨by decide, fun M x z cs zs w h hz => (SetField.fst SetField.self).2 M _ z cs zs w h hz⟩
theorem tr23 : Ty Tryz.prog 23 Raw := ⟨⟨_, Tryz.underlying23, rfl⟩, by kernel_rfl⟩
theorem hv_Doc_o01_1 : HasField Doc_o01 Raw 1 Doc_o01.Edges := ⟨by decide, fun M x cs w h => (HasField.snd HasField.self).2 M _ cs w h⟩
theorem sv_Doc_o01_1 : SetField Doc_o01 Raw 1 (fun x z => { x with Edges := z }) := ⟨by decide, fun M x z cs zs w h hz => (SetField.snd SetField.self).2 M _ z cs zs w h hz⟩
theorem rk26 : RowOK Tryz.prog 26 43 Rule := ⟨sl26, ty43, by kernel_rfl⟩
theorem fnok37 : FnOK Tryz.prog 37 := ⟨_, Tryz.func37, by kernel_rfl, by kernel_rfl⟩
theorem sf130_0 : SetField Desk_words (List Str) 0 (fun x z => { x with l := z }) := ⟨by decide, fun M x z cs zs w h hz => SetField.self.2 M _ z cs zs w h hz⟩
theorem bu130 : BuildAt Tryz.prog 130 [.slice none 0 0] [(0, 1)] := ⟨by kernel_rfl, _, Tryz.underlying130, by kernel_rfl⟩
theorem zc130 : ∀ (M : MSet) (w : World), Rep.cells M (⟨([] : (List Str))⟩ : Desk_words) [.slice none 0 0] w := fun _ _ => ⟨none, 0, rfl, Nat.le_refl _, by decide, rfl⟩
theorem fnok80 : FnOK Tryz.prog 80 := ⟨_, Tryz.func80, by kernel_rfl, by kernel_rfl⟩
theorem fd130_0 : FieldAt Tryz.prog 130 0 0 := ⟨_, _, Tryz.underlying130, rfl, rfl, by kernel_rfl⟩
theorem hfd130_0 : HasField Desk_words (List Str) 0 Desk_words.l := ⟨by decide, fun M x cs w h => HasField.self.2 M _ cs w h⟩
theorem ty76 : Ty Tryz.prog 76 (List Str) := ⟨⟨_, Tryz.underlying76, rfl⟩, by kernel_rfl⟩
theorem sf65_0 : SetField DEdge Str 0 (fun x z => { x with Id := z }) := ⟨by decide, fun M x z cs zs w h hz => (SetField.fst SetField.self).2 M _ z cs zs w h hz⟩
theorem sf65_4 : SetField DEdge Str 8 (fun x z => { x with Text := z }) := ⟨by decide, fun M x z cs zs w h hz => (SetField.snd (SetField.snd (SetField.snd (SetField.snd (SetField.fst SetField.self))))).2 M _ z cs zs w h hz⟩
theorem fnok81 : FnOK Tryz.prog 81 := ⟨_, Tryz.func81, by kernel_rfl, by kernel_rfl⟩
theorem sf62_0 : SetField DEnd Str 0 (fun x z => { x with Node := z }) := ⟨by decide, fun M x z cs zs w h hz => (SetField.fst SetField.self).2 M _ z cs zs w h hz⟩
theorem sf62_1 : SetField DEnd Int 1 (fun x z => { x with Side := z }) := ⟨by decide, fun M x z cs zs w h hz => (SetField.snd (SetField.fst SetField.self)).2 M _ z cs zs w h hz⟩
theorem fnok111 : FnOK Tryz.prog 111 := ⟨_, Tryz.func111, by kernel_rfl, by kernel_rfl⟩
theorem fnok136 : FnOK Tryz.prog 136 := ⟨_, Tryz.func136, by kernel_rfl, by kernel_rfl⟩
theorem fnok150 : FnOK Tryz.prog 150 := ⟨_, Tryz.func150, by kernel_rfl, by kernel_rfl⟩
theorem fnok166 : FnOK Tryz.prog 166 := ⟨_, Tryz.func166, by kernel_rfl, by kernel_rfl⟩
theorem sf62_2 : SetField DEnd Int 2 (fun x z => { x with At := z }) := ⟨by decide, fun M x z cs zs w h hz => (SetField.snd (SetField.snd SetField.self)).2 M _ z cs zs w h hz⟩
theorem sf65_1 : SetField DEdge DEnd 1 (fun x z => { x with From := z }) := ⟨by decide, fun M x z cs zs w h hz => (SetField.snd (SetField.fst SetField.self)).2 M _ z cs zs w h hz⟩
theorem sf65_2 : SetField DEdge DEnd 4 (fun x z => { x with To := z }) := ⟨by decide, fun M x z cs zs w h hz => (SetField.snd (SetField.snd (SetField.fst SetField.self))).2 M _ z cs zs w h hz⟩
theorem fnok82 : FnOK Tryz.prog 82 := ⟨_, Tryz.func82, by kernel_rfl, by kernel_rfl⟩
theorem fnok112 : FnOK Tryz.prog 112 := ⟨_, Tryz.func112, by kernel_rfl, by kernel_rfl⟩
theorem fnok83 : FnOK Tryz.prog 83 := ⟨_, Tryz.func83, by kernel_rfl, by kernel_rfl⟩
theorem hz89 : HasZero Tryz.prog 89 := by unfold HasZero; kernel_rfl
theorem rk63 : RowOK Tryz.prog 63 89 Point := ⟨sl63, ty89, by kernel_rfl⟩
theorem sf65_3 : SetField DEdge (List Point) 7 (fun x z => { x with Bends := z }) := ⟨by decide, fun M x z cs zs w h hz => (SetField.snd (SetField.snd (SetField.snd (SetField.fst SetField.self)))).2 M _ z cs zs w h hz⟩
theorem fnok84 : FnOK Tryz.prog 84 := ⟨_, Tryz.func84, by kernel_rfl, by kernel_rfl⟩
theorem sf65_5 : SetField DEdge Str 9 (fun x z => { x with Class := z }) := ⟨by decide, fun M x z cs zs w h hz => (SetField.snd (SetField.snd (SetField.snd (SetField.snd (SetField.snd SetField.self))))).2 M _ z cs zs w h hz⟩
theorem hz65 : HasZero Tryz.prog 65 := by unfold HasZero; kernel_rfl
theorem rk23 : RowOK Tryz.prog 23 65 DEdge := ⟨sl23, ty65, by kernel_rfl⟩
theorem fnok38 : FnOK Tryz.prog 38 := ⟨_, Tryz.func38, by kernel_rfl, by kernel_rfl⟩
theorem sf59_1 : SetField DNode Int 1 (fun x z => { x with Kind := z }) := ⟨by decide, fun M x z cs zs w h hz => (SetField.snd (SetField.fst SetField.self)).2 M _ z cs zs w h hz⟩
theorem sf59_0 : SetField DNode Str 0 (fun x z => { x with Id := z }) := ⟨by decide, fun M x z cs zs w h hz => (SetField.fst SetField.self).2 M _ z cs zs w h hz⟩
theorem sf59_3 : SetField DNode Str 6 (fun x z => { x with Text := z }) := ⟨by decide, fun M x z cs zs w h hz => (SetField.snd (SetField.snd (SetField.snd (SetField.fst SetField.self)))).2 M _ z cs zs w h hz⟩
theorem sf59_2 : SetField DNode Box 2 (fun x z => { x with Box := z }) := ⟨by decide, fun M x z cs zs w h hz => (SetField.snd (SetField.snd (SetField.fst SetField.self))).2 M _ z cs zs w h hz⟩
theorem sf59_4 : SetField DNode Str 7 (fun x z => { x with Class := z }) := ⟨by decide, fun M x z cs zs w h hz => (SetField.snd (SetField.snd (SetField.snd (SetField.snd (SetField.fst SetField.self))))).2 M _ z cs zs w h hz⟩
theorem sf59_5 : SetField DNode Str 8 (fun x z => { x with Parent := z }) := ⟨by decide, fun M x z cs zs w h hz => (SetField.snd (SetField.snd (SetField.snd (SetField.snd (SetField.snd (SetField.fst SetField.self)))))).2 M _ z cs zs w h hz⟩
theorem sf59_6 : SetField DNode Bool 9 (fun x z => { x with Locked := z }) := ⟨by decide, fun M x z cs zs w h hz => (SetField.snd (SetField.snd (SetField.snd (SetField.snd (SetField.snd (SetField.snd SetField.self)))))).2 M _ z cs zs w h hz⟩
theorem fnok14 : FnOK Tryz.prog 14 := ⟨_, Tryz.func14, by kernel_rfl, by kernel_rfl⟩
theorem fnok39 : FnOK Tryz.prog 39 := ⟨_, Tryz.func39, by kernel_rfl, by kernel_rfl⟩
theorem eqi57 : EqIn Tryz.prog 57 Box 2 := eqIn_struct Tryz.underlying57 (by kernel_rfl) (.cons (proj := Box.X) rfl hfd57_0 ty3 (eqIn_int Tryz.underlying3) (.cons (proj := Box.Y) rfl hfd57_1 ty3 (eqIn_int Tryz.underlying3) (.cons (proj := Box.W_) rfl hfd57_2 ty3 (eqIn_int Tryz.underlying3) (.cons (proj := Box.H) rfl hfd57_3 ty3 (eqIn_int Tryz.underlying3) .nil)))) (fun x y => by rw [Bool.eq_iff_iff]; cases x; cases y; simp only [Bool.and_eq_true, decide_eq_true_eq, and_true, Box.mk.injEq]) rfl
theorem eqi59 : EqIn Tryz.prog 59 DNode 3 := eqIn_struct Tryz.underlying59 (by kernel_rfl) (.cons (proj := DNode.Id) rfl hfd59_0 ty9 (eqIn_more (eqIn_str Tryz.underlying9) (by decide)) (.cons (proj := DNode.Kind) rfl hfd59_1 ty3 (eqIn_more (eqIn_int Tryz.underlying3) (by decide)) (.cons (proj := DNode.Box) rfl hfd59_2 ty57 eqi57 (.cons (proj := DNode.Text) rfl hfd59_3 ty9 (eqIn_more (eqIn_str Tryz.underlying9) (by decide)) (.cons (proj := DNode.Class) rfl hfd59_4 ty9 (eqIn_more (eqIn_str Tryz.underlying9) (by decide)) (.cons (proj := DNode.Parent) rfl hfd59_5 ty9 (eqIn_more (eqIn_str Tryz.underlying9) (by decide)) (.cons (proj := DNode.Locked) rfl hfd59_6 ty4 (eqIn_more (eqIn_bool Tryz.underlying4) (by decide)) .nil))))))) (fun x y => by rw [Bool.eq_iff_iff]; cases x; cases y; simp only [Bool.and_eq_true, decide_eq_true_eq, and_true, DNode.mk.injEq]) rfl
theorem eqa59 : DB.EqAt Tryz.prog 59 DNode := eqAt_in eqi59 (by kernel_rfl) (by kernel_rfl) rfl
theorem fnok40 : FnOK Tryz.prog 40 := ⟨_, Tryz.func40, by kernel_rfl, by kernel_rfl⟩
theorem fnok41 : FnOK Tryz.prog 41 := ⟨_, Tryz.func41, by kernel_rfl, by kernel_rfl⟩
theorem eqi62 : EqIn Tryz.prog 62 DEnd 2 := eqIn_struct Tryz.underlying62 (by kernel_rfl) (.cons (proj := DEnd.Node) rfl hfd62_0 ty9 (eqIn_str Tryz.underlying9) (.cons (proj := DEnd.Side) rfl hfd62_1 ty3 (eqIn_int Tryz.underlying3) (.cons (proj := DEnd.At) rfl hfd62_2 ty3 (eqIn_int Tryz.underlying3) .nil))) (fun x y => by rw [Bool.eq_iff_iff]; cases x; cases y; simp only [Bool.and_eq_true, decide_eq_true_eq, and_true, DEnd.mk.injEq]) rfl
theorem eqa62 : DB.EqAt Tryz.prog 62 DEnd := eqAt_in eqi62 (by kernel_rfl) (by kernel_rfl) rfl
theorem fnok42 : FnOK Tryz.prog 42 := ⟨_, Tryz.func42, by kernel_rfl, by kernel_rfl⟩
theorem eq89 : DB.EqAt Tryz.prog 89 Point := eqAt_ints (n := 2) (fun p => [p.X, p.Y]) (fun a b => by cases a; cases b; simp) (fun _ => rfl) (fun M v w a h => by obtain ⟨cs, h, rfl⟩ := h; obtain ⟨_, _, rfl, ⟨rfl, _⟩, ⟨rfl, _⟩⟩ := h; rfl) ⟨by kernel_rfl, by kernel_rfl, by kernel_rfl, by kernel_rfl⟩
theorem fnok15 : FnOK Tryz.prog 15 := ⟨_, Tryz.func15, by kernel_rfl, by kernel_rfl⟩
theorem eqi43 : EqIn Tryz.prog 43 Rule 2 := eqIn_struct Tryz.underlying43 (by kernel_rfl) (.cons (proj := Rule.Class) rfl hfd43_0 ty9 (eqIn_str Tryz.underlying9) (.cons (proj := Rule.Prop_) rfl hfd43_1 ty9 (eqIn_str Tryz.underlying9) (.cons (proj := Rule.Value) rfl hfd43_2 ty9 (eqIn_str Tryz.underlying9) .nil))) (fun x y => by rw [Bool.eq_iff_iff]; cases x; cases y; simp only [Bool.and_eq_true, decide_eq_true_eq, and_true, Rule.mk.injEq]) rfl
theorem eqa43 : DB.EqAt Tryz.prog 43 Rule := eqAt_in eqi43 (by kernel_rfl) (by kernel_rfl) rfl

end Go.Proofs.YtlbbcehlhbaggaaGreatDoor
