/-
  What the library's reading of a string's first code point comes to.
-/
import Derived.Test.YthopjimlhjgoiaaDoorCoreD
import Derived.Shelf.Unicode.DecodeAny
set_option linter.unusedSimpArgs false
set_option linter.unusedVariables false
namespace Go.DB
open Go Go.RowKit

def decodeS (s : Str) : KI .i32 × Int := (⟨((Go.Lib.decodeGo (ByteArray.mk s.b.toArray)).1 : Int)⟩, ((Go.Lib.decodeGo (ByteArray.mk s.b.toArray)).2 : Int))
theorem decodeN_le4 (n b0 b1 b2 b3 : Nat) : (Go.Lib.decodeN n b0 b1 b2 b3).2 ≤ 4 := by
  unfold Go.Lib.decodeN
  repeat' split
  all_goals simp
theorem decodeGo_le (s : ByteArray) : (Go.Lib.decodeGo s).2 ≤ 4 := by
  unfold Go.Lib.decodeGo
  split
  · simp
  · rw [Go.Lib.decode_at]; exact decodeN_le4 _ _ _ _ _
theorem decodeS_spec {P : Program} {ρ : Shelf.Ren} (Ly : Proofs.Lays.n197 P ρ) {f : Nat} (hf : ρ.f 197 = f) (h3 : ρ.g 3 = gFirst) (h4 : ρ.g 4 = gAcc) (ok : FnOK P f) {s : Str} : FSpec P f [rep s] (tup [rep (decodeS s).1, rep (decodeS s).2]) := by
  refine ⟨ok, fun M w vs hM ha => ?_⟩
  match vs, ha with
  | [v], ⟨hv, _⟩ =>
    obtain ⟨rfl, hs⟩ := rep_str.1 hv
    subst hf
    have hT : Go.Lib.Utf8Tabs (ρ.g 3) (ρ.g 4) w := by rw [h3, h4]; exact hM.glob.tabs
    refine Calls.mono (Proofs.Any.utf8_DecodeRuneInString Ly (ByteArray.mk s.b.toArray) w hT) ?_
    rintro e w' ⟨rfl, hb⟩
    refine ⟨Ext.of_below hb, _, rfl, ⟨_, rfl, rfl, ?_⟩⟩
    intro i S u h1 h2
    match i, h1, h2 with
    | 0, h1, h2 => cases h1; cases h2; exact rep_ki.2 rfl
    | 1, h1, h2 =>
      cases h1; cases h2
      refine rep_int.2 ⟨rfl, ?_⟩
      have := decodeGo_le (ByteArray.mk s.b.toArray)
      unfold InI decodeS; simp only; omega
end Go.DB
