/-
  Rows of bytes that are made of strings, and strings that are made of rows of bytes.
-/
import Derived.Test.YtbogpbomhmabhaaGreatDoorCore48
import Derived.Laws.IdiomStrings
set_option linter.unusedSimpArgs false
set_option linter.unusedVariables false
namespace Go.DB
open Go Go.RowKit

/-- The bytes of a string, as numbers. -/
def bytesL (s : Str) : List (KI .u8) := s.b.map fun b => ⟨(b.toNat : Int)⟩
/-- The string of some bytes. -/
def strB (l : List (KI .u8)) : Str := ⟨l.map fun x => UInt8.ofNat x.n.toNat⟩
theorem strB_bytes (s : Str) : strB (bytesL s) = s := by
  obtain ⟨b⟩ := s
  simp only [strB, bytesL, List.map_map]
  congr 1
  conv => rhs; rw [← List.map_id b]
  refine List.map_congr_left fun c _ => ?_
  simp
theorem elems_ki {k : IntKind} {M : MSet} {w : World} : ∀ (l : List (KI k)) (cs : List Value), Elems M w l cs ↔ cs = l.map fun x => Value.int k x.n
  | [], cs => by simp [Elems]
  | x :: l, cs => by
    simp only [Elems, List.map_cons]
    constructor
    · rintro ⟨c, r, rfl, h1, h2⟩
      rw [(elems_ki l r).1 h2, show c = [.int k x.n] from h1]; rfl
    · intro h
      exact ⟨[.int k x.n], l.map fun x => Value.int k x.n, by rw [h]; rfl, rfl, (elems_ki l _).2 rfl⟩
theorem foldl_push : ∀ (l : List (KI .u8)) (r : ByteArray), (l.map (fun x => x.n)).foldl (fun r n => r.push (UInt8.ofNat n.toNat)) r = ⟨r.data ++ (strB l).b.toArray⟩
  | [], r => by simp [strB]
  | x :: l, r => by
    simp only [List.map_cons, List.foldl_cons]
    rw [foldl_push l]
    simp [ByteArray.push, strB]
theorem run_strB {P : Program} (w : World) (src dst e : TypeId) (a : Option Addr) (cap : Nat) (l : List (KI .u8)) (hs : P.underlying src = some (.slice e)) (he : P.underlying e = some (.int .u8)) (hd : P.underlying dst = some .string)
    (hn : a = none → l = []) (hc : ∀ ad, a = some ad → ∀ j u, (l.map fun x => Value.int .u8 x.n)[j]? = some u → w.cell? (ad.add j) = some u) :
    (convert src dst (.slice a l.length cap)).run P w = .ok (strV (strB l)) w := by
  cases a with
  | none =>
    obtain rfl := hn rfl
    show (convert src dst (.slice none 0 cap)).run P w = _
    rw [run_convert_bytes_string w src dst e none 0 cap hs he hd]
    rfl
  | some ad =>
    rw [run_convert_bytes_string w src dst e (some ad) l.length cap hs he hd]
    have hl := run_loadCells_list (P := P) w ad ((l.map (fun x => x.n)).map (Value.int .u8)) (fun j v hj => hc ad rfl j v (by rw [List.map_map] at hj; exact hj))
    simp only [List.length_map] at hl
    rw [run_bytesToString w ad l.length cap _ hl, foldl_push]
    have he0 : ByteArray.empty.data = #[] := rfl
    rw [he0]
    simp [strV]

theorem Opd.nilF {L : Slots} {G : Prop} : Opd L G (.const .nilFunc) (isV .nilFunc) := fun _ _ => rep_raw.2 ⟨rfl, rfl, rfl⟩
section
variable {P : Program} {ops : Array Oper} {fs : Nat} {L : Slots} {B : Owns} {G : Prop}
variable {d : Option Tmp} {ty : TypeId} {pos : String} {after : Array Edge} {g : Option (Nat × Bool)} {xr : List Nat}

/-- '[]byte(s)': a row of one's own. -/
theorem StepOK.strBytesO {d : Nat} {src dst e : TypeId} {s : Str} {x : Operand} (hdd : Nat.blt d fs = true) (hs : P.underlying src = some .string) (hd : P.underlying dst = some (.slice e)) (he : P.underlying e = some (.int .u8)) (hx : Opd L True x (rep s)) (hl : (s.b.length : Int) ≤ 70368744177664) :
    StepOK P ops fs ⟨some d, .convert src dst x, ty, pos, after, none⟩ L B ([], [d]) ⟨True, anyV⟩ [(d, some (rowV e (bytesL s)))] := by
  refine .doing fun M D a w hsz hm hsat _ => ?_
  obtain ⟨h1, h2⟩ := rep_str.1 (hx.get hsat (fun t ht => looksAt_op (by simp [Op.operands, ht])) trivial)
  have hsz1 : (ByteArray.mk s.b.toArray).size = s.b.length := rfl
  have hrun := run_bytes_of_string (P := P) w src dst e (ByteArray.mk s.b.toArray) hs hd he
  rw [hsz1] at hrun
  have hge := grownCap_ge w s.b.length 0 e
  have hle2 := grownCap_le_maxLen w s.b.length 0 e (by simp only [maxLen]; omega)
  simp only [maxLen] at hle2
  have hbl : (bytesL s).length = s.b.length := by simp [bytesL]
  have hrow : bytesRow (ByteArray.mk s.b.toArray) (grownCap w s.b.length 0 e) = ((bytesL s).map (fun x => Value.int .u8 x.n) ++ List.replicate (grownCap w s.b.length 0 e - s.b.length) (Value.int .u8 0)).toArray := by
    unfold bytesRow
    rw [hsz1]
    simp [bytesL, List.map_map, Function.comp_def]
  generalize hcap : grownCap w s.b.length 0 e = cap at *
  have hext : Ext w (w.drew.alloc (.cells (bytesRow (ByteArray.mk s.b.toArray) cap) e ((bytesRow (ByteArray.mk s.b.toArray) cap).size, (bytesRow (ByteArray.mk s.b.toArray) cap).size + 1))) := Keeps.trans (Ext.drew w) (Ext.alloc _ _)
  refine Does.value (w' := w.drew.alloc (.cells (bytesRow (ByteArray.mk s.b.toArray) cap) e ((bytesRow (ByteArray.mk s.b.toArray) cap).size, (bytesRow (ByteArray.mk s.b.toArray) cap).size + 1))) (v := .slice (some ⟨w.heap.size, 0, none⟩) s.b.length cap) (ex_convertW h1 hrun)
    (.one (fun k => M k ∨ k = w.heap.size) (fun k => k = w.heap.size) hext (fun k h => .inl h) (fun k h => h.imp id (by omega)) (fun k h => ?_) ⟨fun _ => trivial, fun hf => (hf trivial).elim⟩ ?_ (fun k h => by omega))
  · rw [size_new]
    show k < w.heap.size + 1
    rcases h with h | h
    · have := hm k h; omega
    · omega
  · rw [val_self (by rw [hsz]; exact Nat.le_of_ble_eq_true hdd)]
    refine ⟨some ⟨w.heap.size, 0, none⟩, cap, by rw [hbl], by rw [hbl]; exact hge, by omega, rfl, fun k => Iff.rfl, .inr rfl, [], _, List.replicate (cap - s.b.length) (Value.int .u8 0), ⟨((bytesRow (ByteArray.mk s.b.toArray) cap).size, (bytesRow (ByteArray.mk s.b.toArray) cap).size + 1), .inr ⟨rfl, ?_⟩, ?_⟩, rfl, (elems_ki _ _).2 rfl, ?_⟩
    · rw [hrow]; simp
    · show (w.drew.heap.push _)[w.heap.size]? = _
      rw [show w.heap.size = w.drew.heap.size from rfl, Array.getElem?_push_size, hrow]
      rfl
    · rw [hbl, List.length_replicate]; exact Nat.le_of_eq (by rw [show Rep.sz (KI .u8) = 1 from rfl, Nat.mul_one])

/-- 'string(b)', b a row that stays. -/
theorem StepOK.bytesStr {src dst e : TypeId} {l : List (KI .u8)} {x : Operand} (hg : Guard ops g L G) (hs : P.underlying src = some (.slice e)) (he : P.underlying e = some (.int .u8)) (hd : P.underlying dst = some .string) (hx : Opd L G x (rep l)) :
    StepOK P ops fs ⟨d, .convert src dst x, ty, pos, after, g⟩ L B (xr, []) ⟨G, rep (strB l)⟩ [] :=
  .of hg fun M D a w hm hsat _ hG => by
    obtain ⟨ad, cap, h1, h2, h3, h4⟩ := rep_list.1 (hx.get hsat (fun t ht => looksAt_op (by simp [Op.operands, ht])) hG)
    refine Does.value (ex_convertW h1 (run_strB w src dst e ad cap l hs he hd (fun e => by subst e; exact h4) (fun ad' e j u hu => by
      subst e
      obtain ⟨cs, g1, g2⟩ := Lies.elems l ad' h4
      rw [(elems_ki l cs).1 g1] at g2
      exact g2 j u hu))) ⟨Keeps.refl _ _, rep_str.2 ⟨rfl, ?_⟩⟩
    simp [strB]; omega
end
end Go.DB
