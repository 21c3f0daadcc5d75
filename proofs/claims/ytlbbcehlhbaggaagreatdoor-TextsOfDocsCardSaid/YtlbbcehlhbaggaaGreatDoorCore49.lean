/-
  Rows of bytes that are made of strings, and strings that are made of rows of bytes.
-/
import Derived.Test.YtlbbcehlhbaggaaGreatDoorCore48
import Derived.Laws.IdiomStrings
set_option linter.unusedSimpArgs false
set_option linter.unusedVariables false
namespace Go.DB
open Go Go.RowKit

/-- The bytes of a string, as numbers. -/
def bytesL (s : Str) : List (KI .u8) := s.b.map fun b => ⟨(b.toNat : Int)⟩
/-- The string of some bytes. -/
def strB (l : List (KI .u8)) : Str := ⟨l.map fun x => UInt8.ofNat x.n.toNat⟩
theorem elems_ki {k : IntKind} {M : MSet} {w : World} : ∀ (l : List (KI k)) (cs : List Value), Elems M w l cs ↔ cs = l.map fun x => Value.int k x.n
  | [], cs => by simp [Elems]
  | x :: l, cs => by
    simp only [Elems, List.map_cons]
    constructor
    · rintro ⟨c, r, rfl, h1, h2⟩
      rw [(elems_ki l r).1 h2, show c = [.int k x.n] from h1]; rfl
    · intro h
      exact ⟨[.int k x.n], l.map fun x => Value.int k x.n, by rw [h]; rfl, rfl, (elems_ki l _).2 rfl⟩
theorem foldl_push : ∀ (l : List (KI .u8)) (r : ByteArray), (l.map (fun x => x.n)).foldl (fun r n => r.push (UInt8.ofNat n.toNat)) r = ⟨r.data ++ (strB l).b.toArray⟩
  | [], r => by simp [strB]
  | x :: l, r => by
    simp only [List.map_cons, List.foldl_cons]
    rw [foldl_push l]
    simp [ByteArray.push, strB]
theorem run_strB {P : Program} (w : World) (src dst e : TypeId) (a : Option Addr) (cap : Nat) (l : List (KI .u8)) (hs : P.underlying src = some (.slice e)) (he : P.underlying e = some (.int .u8)) (hd : P.underlying dst = some .string)
    (hn : a = none → l = []) (hc : ∀ ad, a = some ad → ∀ j u, (l.map fun x => Value.int .u8 x.n)[j]? = some u → w.cell? (ad.add j) = some u) :
    (convert src dst (.slice a l.length cap)).run P w = .ok (strV (strB l)) w := by
  cases a with
  | none =>
    obtain rfl := hn rfl
    show (convert src dst (.slice none 0 cap)).run P w = _
    rw [run_convert_bytes_string w src dst e none 0 cap hs he hd]
    rfl
  | some ad =>
    rw [run_convert_bytes_string w src dst e (some ad) l.length cap hs he hd]
    have hl := run_loadCells_list (P := P) w ad ((l.map (fun x => x.n)).map (Value.int .u8)) (fun j v hj => hc ad rfl j v (by rw [List.map_map] at hj; exact hj))
    simp only [List.length_map] at hl
    rw [run_bytesToString w ad l.length cap _ hl, foldl_push]
    have he0 : ByteArray.empty.data = #[] := rfl
    rw [he0]
    simp [strV]

section
variable {P : Program} {ops : Array Oper} {fs : Nat} {L : Slots} {B : Owns} {G : Prop}
variable {d : Option Tmp} {ty : TypeId} {pos : String} {after : Array Edge} {g : Option (Nat × Bool)} {xr : List Nat}

/-- 'string(b)', b a row of one's own. -/
theorem StepOK.bytesStrO {src dst e T k : Nat} {l : List (KI .u8)} {x : Operand} (hs : P.underlying src = some (.slice e)) (he : P.underlying e = some (.int .u8)) (hd : P.underlying dst = some .string) (hx : RowArg L B x k (rowV T l)) :
    StepOK P ops fs ⟨d, .convert src dst x, ty, pos, after, none⟩ L B ([k], []) ⟨True, rep (strB l)⟩ [] :=
  .of .none fun M D a w hm hsat hsB hG => by
    obtain ⟨⟨ad, cap, h1, h2, h3, h4⟩, _⟩ := hx.get hsat (fun t ht => looksAt_op (by simp [Op.operands, ht])) hsB (by simp)
    refine Does.value (ex_convertW h1 (run_strB w src dst e ad cap l hs he hd (fun e => by subst e; exact h4.1) (fun ad' e j u hu => by
      subst e
      obtain ⟨hsp, hD, hM, pre, cs, rest, hh, hp, he, hr⟩ := h4
      obtain ⟨b, off, sp⟩ := ad'
      simp only at hsp hh hp
      subst hsp
      have hcs := (elems_ki l cs).1 he
      rw [← hcs] at hu
      rw [add_none, hh.cell, List.getElem?_toArray, List.append_assoc, List.getElem?_append_right (by omega), List.getElem?_append_left (by have := (List.getElem?_eq_some_iff.1 hu).1; omega), hp]
      rw [← hu]; congr 1; omega))) ⟨Keeps.refl _ _, rep_str.2 ⟨rfl, ?_⟩⟩
    simp [strB]; omega
end
end Go.DB
