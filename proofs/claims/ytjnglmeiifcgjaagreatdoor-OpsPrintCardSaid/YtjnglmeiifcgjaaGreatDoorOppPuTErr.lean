/-
  Texts are checked, in plain words: what is no text.
-/
import Derived.Test.YtjnglmeiifcgjaaGreatDoorOppPuRef
import Derived.Test.YtjnglmeiifcgjaaGreatDoorExValid
set_option linter.unusedSimpArgs false
set_option linter.unusedVariables false
namespace Go.DB
open Go Go.RowKit

def badB (b : UInt8) : Bool := (decide (b.toNat < 32) && !decide (b.toNat = 10)) || decide (b.toNat = 127)
def textErr (s : Str) : Int := if 1000 < s.b.length then 4 else if validS s = true ∧ s.b.any badB = false then 0 else 2
theorem textErr_zero {s : Str} : textErr s = 0 ↔ s.b.length ≤ 1000 ∧ validS s = true ∧ s.b.any badB = false := by
  unfold textErr
  by_cases h : 1000 < s.b.length
  · rw [if_pos h]; simp; omega
  · rw [if_neg h]
    by_cases h2 : validS s = true ∧ s.b.any badB = false
    · rw [if_pos h2]; exact ⟨fun _ => ⟨by omega, h2⟩, fun _ => rfl⟩
    · rw [if_neg h2]; exact ⟨fun e => by simp at e, fun hh => absurd hh.2 h2⟩
theorem badB_eq (b : UInt8) : ((decide ((⟨(b.toNat : Int)⟩ : KI .u8).n < (⟨32⟩ : KI .u8).n) && !decide ((⟨(b.toNat : Int)⟩ : KI .u8).n = (⟨10⟩ : KI .u8).n)) || decide ((⟨(b.toNat : Int)⟩ : KI .u8).n = (⟨127⟩ : KI .u8).n)) = badB b := by
  unfold badB
  have e1 : decide ((⟨(b.toNat : Int)⟩ : KI .u8).n < (⟨32⟩ : KI .u8).n) = decide (b.toNat < 32) := by simp; omega
  have e2 : decide ((⟨(b.toNat : Int)⟩ : KI .u8).n = (⟨10⟩ : KI .u8).n) = decide (b.toNat = 10) := by simp; omega
  have e3 : decide ((⟨(b.toNat : Int)⟩ : KI .u8).n = (⟨127⟩ : KI .u8).n) = decide (b.toNat = 127) := by simp; omega
  rw [e1, e2, e3]
theorem CheckText_eq (s : Str) : shape_CheckText s = some (textErr s) := by
  unfold shape_CheckText
  by_cases h : 1000 < s.b.length
  · rw [decide_eq_true (by omega), show textErr s = 4 by unfold textErr; rw [if_pos h]]; rfl
  · rw [decide_eq_false (by omega), cond_false]
    simp only [utf8_ValidString, Option.bind_some]
    cases hv : validS s with
    | false => rw [show textErr s = 2 by unfold textErr; rw [if_neg h, hv, if_neg (fun x => by cases x.1)]]; rfl
    | true =>
      simp only [Bool.not_true, cond_false]
      rw [rforE_err (fun b => if badB b = true then 2 else 0) (fun e => (Res.ab e : Res Unit Int)) (by omega) (fun i hi => by
        unfold shape_CheckText_L1
        rw [need_of hi, need_of (fun _ => hi), need_of (fun _ => hi), badB_eq]
        cases badB (gx s.b i) <;> simp)]
      by_cases hb : s.b.any badB = true
      · rw [show textErr s = 2 by unfold textErr; rw [if_neg h, hb, if_neg (fun x => by cases x.2)]]
        have hne : firstErr (s.b.map (fun b => if badB b = true then (2 : Int) else 0)) = 2 := by
          clear h hv
          generalize s.b = l at hb
          induction l with
          | nil => simp at hb
          | cons b l ih =>
            rw [List.map_cons, firstErr_cons]
            by_cases c : badB b = true
            · rw [c]; simp
            · rw [if_pos (by simp [c])]
              exact ih (by simpa [c] using hb)
        rw [hne]; simp
      · have hb' : s.b.any badB = false := by simpa using hb
        rw [show textErr s = 0 by unfold textErr; rw [if_neg h, if_pos ⟨hv, hb'⟩]]
        have hz : firstErr (s.b.map (fun b => if badB b = true then (2 : Int) else 0)) = 0 := firstErr_zero.2 (fun e he => by
          obtain ⟨b, hbm, rfl⟩ := List.mem_map.1 he
          have : badB b = false := by
            cases q : badB b with
            | false => rfl
            | true => exact absurd (List.any_eq_true.2 ⟨b, hbm, q⟩) hb
          rw [this]; simp)
        rw [hz]; simp
theorem TextError_eq {s : Str} (hs : fits s) : ref_TextError s = some (textErr s) := by
  have hl : (s.b.length : Int) ≤ 9223372036854775807 := by have : s.b.length ≤ 9223372036854775807 := hs; omega
  unfold ref_TextError
  simp only [utf8_ValidString, Option.bind_some, bnd_eq]
  rw [rfor_fold (l := s.b) (fun a b => a || badB b) hl (fun i a hi => by
    unfold ref_TextError_L1
    rw [need_of (fun _ => hi), need_of (fun _ _ => hi), need_of (fun _ => hi), bnd_eq]
    rw [Bool.or_assoc, badB_eq])]
  have hf : ∀ (l : List UInt8) (a : Bool), l.foldl (fun a b => a || badB b) a = (a || l.any badB) := by
    intro l
    induction l with
    | nil => intro a; simp
    | cons b l ih => intro a; rw [List.foldl_cons, ih, List.any_cons, Bool.or_assoc]
  rw [hf, Option.bind_some, When_eq, When_eq, Option.bind_some, Option.bind_some, First_eq (by simp), Option.bind_some]
  congr 1
  unfold textErr
  by_cases h : 1000 < s.b.length
  · rw [if_pos h, if_pos (by simp; omega)]; rfl
  · rw [if_neg h, if_neg (by simp; omega)]
    by_cases h2 : validS s = true ∧ s.b.any badB = false
    · rw [if_pos h2]; simp [h2]
    · rw [if_neg h2]
      have : (!validS s || s.b.any badB) = true := by
        cases a : validS s
        · simp
        · cases b : s.b.any badB
          · exact absurd ⟨a, b⟩ h2
          · simp
      rw [if_pos (by simpa using this)]; simp
end Go.DB
