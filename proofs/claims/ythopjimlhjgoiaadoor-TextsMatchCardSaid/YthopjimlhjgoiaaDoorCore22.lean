/-
  Conversions between integers, strings and rows of code points.
-/
import Derived.Test.YthopjimlhjgoiaaDoorCore21
import Derived.Laws.IdiomStrings
set_option linter.unusedVariables false
set_option linter.unusedSimpArgs false
namespace Go.DB
open Go Go.RowKit

section
variable {P : Program} {ops : Array Oper} {fs : Nat} {L : Slots} {B : Owns} {G : Prop}
variable {d : Option Tmp} {ty : TypeId} {pos : String} {after : Array Edge} {g : Option (Nat × Bool)} {xr : List Nat}

theorem str_bytes (s : ByteArray) : Value.string s = strV ⟨s.data.toList⟩ := by cases s; simp [strV]
/-- A code point's bytes. -/
def encS (n : Int) : Str := ⟨(Utf8.encode n).data.toList⟩
theorem encS_len (n : Int) : (encS n).b.length ≤ 4 := by
  unfold encS Utf8.encode
  simp only
  repeat' split
  all_goals simp
theorem StepOK.intStr {src dst : TypeId} {α : Type} [Rep α] [IsInt α] {b : α} {x : Operand} (hg : Guard ops g L G) (hs : (P.underlying src).isSome = true) (hd : P.underlying dst = some .string) (hx : Opd L G x (rep b)) :
    StepOK P ops fs ⟨d, .convert src dst x, ty, pos, after, g⟩ L B (xr, []) ⟨G, rep (encS (IsInt.val b))⟩ [] :=
  .pure hg fun M a w _ hsat hG => by
    have h1 := IsInt.spec (hx.get hsat (fun t ht => looksAt_op (by simp [Op.operands, ht])) hG)
    obtain ⟨D, hD⟩ := Option.isSome_iff_exists.1 hs
    refine ⟨strV (encS (IsInt.val b)), ex_convert h1 ?_, rep_str.2 ⟨rfl, Nat.le_trans (encS_len _) (by decide)⟩⟩
    unfold encS
    rw [← str_bytes]
    simp [convert, underlying, hD, hd, go_sem, Conv.intToString]

/-- The code points of a string. -/
def runesFromS (s : Str) : Nat → Nat → List (KI .i32)
  | 0, _ => []
  | k + 1, p => if p < s.b.length then ⟨((s.at p).1 : Int)⟩ :: runesFromS s k (s.next p) else []
def runesL (s : Str) : List (KI .i32) := runesFromS s s.b.length 0
theorem runesFrom_acc (s : Str) : ∀ (k p : Nat) (acc : Array Value), Conv.runesFrom (ByteArray.mk s.b.toArray) k p acc = acc ++ ((runesFromS s k p).map (fun x => Value.int .i32 x.n)).toArray
  | 0, p, acc => by simp [Conv.runesFrom, runesFromS]
  | k + 1, p, acc => by
    have hsz : (ByteArray.mk s.b.toArray).size = s.b.length := rfl
    unfold Conv.runesFrom runesFromS
    rw [hsz]
    by_cases h : p < s.b.length
    · rw [if_pos h, if_pos h]
      simp only
      rw [runesFrom_acc s k]
      have : p + (Utf8.decode (ByteArray.mk s.b.toArray) p).2 = s.next p := by unfold Str.next Str.at; rw [if_pos h]
      rw [this]
      simp [Str.at]
    · rw [if_neg h, if_neg h]; simp
theorem runesFromS_len (s : Str) : ∀ (k p : Nat), (runesFromS s k p).length ≤ k
  | 0, _ => Nat.le_refl _
  | k + 1, p => by
    unfold runesFromS
    split
    · have := runesFromS_len s k (s.next p); simp; omega
    · simp

theorem ex_convertW {ρ : Operand → Value} {x : Operand} {src dst : TypeId} {v u : Value} {w w' : World} (hx : ρ x = v) (h : (convert src dst v).run P w = .ok u w') :
    (execOp ρ ⟨d, .convert src dst x, ty, pos, after, g⟩).run P w = .ok (.value u) w' := by
  simp only [execOp, hx]
  generalize convert src dst v = s at *
  simp [go_sem, h]
theorem StepOK.strRunes {src dst e : TypeId} {s : Str} {x : Operand} (hg : Guard ops g L G) (hs : P.underlying src = some .string) (hd : P.underlying dst = some (.slice e)) (he : P.underlying e = some (.int .i32)) (hx : Opd L G x (rep s)) (hl : G → (s.b.length : Int) ≤ 70368744177664) :
    StepOK P ops fs ⟨d, .convert src dst x, ty, pos, after, g⟩ L B (xr, []) ⟨G, rep (runesL s)⟩ [] :=
  .of hg fun M D a w hm hsat _ hG => by
    obtain ⟨h1, h2⟩ := rep_str.1 (hx.get hsat (fun t ht => looksAt_op (by simp [Op.operands, ht])) hG)
    have hl := hl hG
    have hsz : (ByteArray.mk s.b.toArray).size = s.b.length := rfl
    have hr : Conv.runesFrom (ByteArray.mk s.b.toArray) (ByteArray.mk s.b.toArray).size 0 #[] = ((runesL s).map (fun x => Value.int .i32 x.n)).toArray := by rw [runesFrom_acc]; simp [runesL, hsz]
    have hle : (runesL s).length ≤ s.b.length := runesFromS_len _ _ _
    have hrun := run_runes_of_string (P := P) w src dst e (ByteArray.mk s.b.toArray) hs hd he (by rw [hr]; simp; omega)
    rw [hr] at hrun
    simp only [List.size_toArray, List.length_map] at hrun
    have hge := grownCap_ge w (runesL s).length 0 e
    have hle2 := grownCap_le_maxLen w (runesL s).length 0 e (by simp only [maxLen]; omega)
    simp only [maxLen] at hle2
    generalize grownCap w (runesL s).length 0 e = cap at *
    have hext : Ext w (w.drew.alloc (.cells (((runesL s).map (fun x => Value.int .i32 x.n)).toArray ++ Array.replicate (cap - (runesL s).length) (.int .i32 0)) e)) := Keeps.trans (Ext.drew w) (Ext.alloc _ _)
    refine Does.value (ex_convertW h1 hrun) ⟨hext, rep_list.2 ⟨some ⟨w.heap.size, 0, none⟩, cap, rfl, hge, by omega, fun i hi => ⟨rfl, fun hM => by have := hm _ hM; simp at this, by rw [size_new]; show w.heap.size < w.heap.size + 1; omega, [.int .i32 (runesL s)[i].n], rfl, fun j hj => ?_⟩⟩⟩
    have hj0 : j = 0 := by have : Rep.sz (KI .i32) = 1 := rfl; omega
    subst hj0
    have hc := World.cell?_alloc_mark w.drew (((runesL s).map (fun x => Value.int .i32 x.n)).toArray ++ Array.replicate (cap - (runesL s).length) (.int .i32 0)) e (0, 0) (0 + i * Rep.sz (KI .i32) + 0)
    refine Eq.trans hc ?_
    have hsz1 : Rep.sz (KI .i32) = 1 := rfl
    simp only [Nat.zero_add, Nat.add_zero, hsz1, Nat.mul_one]
    rw [Array.getElem?_append_left (by simpa using hi)]
    simp [hi]
end
end Go.DB
