/-
  What the library's sort of structs by a function comes to.
-/
import Derived.Test.YtjnglmeiifcgjaaGreatDoorCoreF
import Derived.Shelf.SlSortCmp.NoneTotal
set_option linter.unusedSimpArgs false
set_option linter.unusedVariables false
namespace Go.DB
open Go Go.RowKit

/-- The cells of plain data. -/
class Enc (α : Type) [Rep α] where
  enc : α → List Value
  ok : α → Prop
  cells : ∀ {M : MSet} {x : α} {cs : List Value} {w : World}, Rep.cells M x cs w ↔ cs = enc x ∧ ok x
  len : ∀ x, (enc x).length = Rep.sz α
  one : ∀ x, ∀ v ∈ enc x, isOne v = true
instance : Enc Int := ⟨fun n => [.int .i64 n], InI, fun {M x cs w} => Iff.rfl, fun _ => rfl, fun x v h => by obtain rfl := List.mem_singleton.1 h; rfl⟩
instance : Enc Bool := ⟨fun b => [.bool b], fun _ => True, fun {M x cs w} => ⟨fun h => ⟨h, trivial⟩, fun h => h.1⟩, fun _ => rfl, fun x v h => by obtain rfl := List.mem_singleton.1 h; rfl⟩
instance {α β : Type} [Rep α] [Rep β] [Enc α] [Enc β] : Enc (α × β) := ⟨fun x => Enc.enc x.1 ++ Enc.enc x.2, fun x => Enc.ok x.1 ∧ Enc.ok x.2, fun {M x cs w} => by
  constructor
  · rintro ⟨c1, c2, h, h1, h2⟩
    obtain ⟨e1, o1⟩ := Enc.cells.1 h1
    obtain ⟨e2, o2⟩ := Enc.cells.1 h2
    exact ⟨by rw [h, e1, e2], o1, o2⟩
  · rintro ⟨h, o1, o2⟩
    exact ⟨_, _, h, Enc.cells.2 ⟨rfl, o1⟩, Enc.cells.2 ⟨rfl, o2⟩⟩, fun x => by rw [List.length_append, Enc.len, Enc.len]; rfl, fun x v h => (List.mem_append.1 h).elim (Enc.one _ v) (Enc.one _ v)⟩
@[reducible] def Enc.via {α β : Type} [Rep β] [Enc β] (f : α → β) : @Enc α (Rep.via f) := @Enc.mk α (Rep.via f) (fun x => Enc.enc (f x)) (fun x => Enc.ok (f x)) (fun {M x cs w} => Enc.cells (α := β)) (fun x => Enc.len (f x)) (fun x => Enc.one (f x))

section
variable {α : Type} {Q : α → Prop} [Inhabited { x : α // Q x }]
/-- A list that is sorted by a comparison of those elements that Q allows. -/
noncomputable def sortF (cf : { x : α // Q x } → { x : α // Q x } → Int) (l : List α) : List α := by
  classical
  exact if h : ∀ x ∈ l, Q x then (Sort.pdq (Proofs.ltOf cf) (l.attachWith Q h).toArray 0 l.length (Lib.bitLen l.length) true true).toList.map (·.1) else l
variable {cf : { x : α // Q x } → { x : α // Q x } → Int} {l : List α}
end

end Go.DB
