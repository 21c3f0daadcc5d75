/-
  Diagrams whose roots are moved, each by its own numbers: the document's way, and the program's.
-/
import Derived.Test.YtclcheggnlhamaaGreatDoorMGBPuMove2
set_option linter.unusedSimpArgs false
set_option linter.unusedVariables false
namespace Go.DB
open Go Go.RowKit

def ptF (p : Int × Int) : Point := ⟨p.1, p.2⟩
def idK (d : Doc) (k : Int) : Str := (gx d.Nodes k).Id
/-- A map that tells of each root by how much it moves. -/
def ByR (d : Doc) (R : List Int) (f : Int → Int × Int) (m : GMap Str Point) : Prop := ∀ id p, m.f id = some p ↔ ∃ k ∈ R, idK d k = id ∧ p = ptF (f k)
theorem idK_inj {d : Doc} (h : Right d) {R : List Int} (hA : ApartR d R) {a b : Int} (ha : a ∈ R) (hb : b ∈ R) (e : idK d a = idK d b) : a = b := by
  obtain ⟨i, hi, rfl⟩ := hA.isIn a ha
  obtain ⟨j, hj, rfl⟩ := hA.isIn b hb
  unfold idK at e
  rw [gx_nat hi, gx_nat hj] at e
  rw [h.at_Id hi hj e]
theorem ByR.lists {d : Doc} (h : Right d) {R : List Int} (hA : ApartR d R) {f : Int → Int × Int} {m : GMap Str Point} (hm : ByR d R f m) : Lists m (R.map fun k => (idK d k, ptF (f k))) := by
  refine ⟨?_, fun k v => ?_⟩
  · rw [List.map_map]
    have : ∀ l : List Int, l.Nodup → (∀ a ∈ l, a ∈ R) → (l.map ((fun x : Str × Point => x.1) ∘ fun k => (idK d k, ptF (f k)))).Nodup := by
      intro l
      induction l with
      | nil => intro _ _; exact List.nodup_nil
      | cons a l ih =>
        intro hn hl
        rw [List.nodup_cons] at hn
        rw [List.map_cons, List.nodup_cons]
        refine ⟨fun hc => ?_, ih hn.2 (fun x hx => hl x (by simp [hx]))⟩
        obtain ⟨b, hb, e⟩ := List.mem_map.1 hc
        have e' : idK d b = idK d a := e
        have := idK_inj h hA (hl b (by simp [hb])) (hl a (by simp)) e'
        subst this
        exact hn.1 hb
    exact this R hA.nodup (fun _ ha => ha)
  · rw [hm]
    constructor
    · intro hx
      obtain ⟨a, ha, e⟩ := List.mem_map.1 hx
      cases e
      exact ⟨a, ha, rfl, rfl⟩
    · rintro ⟨a, ha, rfl, rfl⟩
      exact List.mem_map.2 ⟨a, ha, rfl⟩
theorem ByR.get {d : Doc} (h : Right d) {R : List Int} (hA : ApartR d R) {f : Int → Int × Int} {m : GMap Str Point} (hm : ByR d R f m) {k : Int} (hk : k ∈ R) {z : Point} : m.getD (idK d k) z = ptF (f k) := by
  unfold GMap.getD
  rw [(hm _ _).2 ⟨k, hk, rfl, rfl⟩]; rfl
theorem rootOf_mem {d : Doc} {R : List Int} {j : Nat} {k : Int} (h : rootOf d R j = some k) : k ∈ R ∧ subB d.Nodes k.toNat j = true :=
  ⟨List.mem_of_find?_eq_some h, by have := List.find?_some h; simpa using this⟩
/-- Which nodes may not be moved so. -/
noncomputable def lockR (d : Doc) (R : List Int) (f : Int → Int × Int) (j : Nat) : Bool := match rootOf d R j with | some k => (gx d.Nodes (j : Int)).Locked && !decide (f k = (0, 0)) | none => false
/-- The roots that are told of nodes ahead of a number. -/
noncomputable def rmap (d : Doc) (R : List Int) : Nat → GMap Str Str
  | 0 => GMap.nil
  | k + 1 => match rootOf d R k with | some r => (rmap d R k).set (idK d (k : Int)) (idK d r) | none => rmap d R k
end Go.DB
