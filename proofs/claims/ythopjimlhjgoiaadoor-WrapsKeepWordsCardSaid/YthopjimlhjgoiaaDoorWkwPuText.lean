/-
  Widths of texts: each code point has one.
-/
import Derived.Test.YthopjimlhjgoiaaDoorWkwPuFont
import Derived.Test.YthopjimlhjgoiaaDoorWkwPuUtf
import Derived.Lib.IndexAny
set_option linter.unusedSimpArgs false
set_option linter.unusedVariables false
namespace Go.DB
open Go Go.RowKit

def narrowL : List UInt8 := [105, 106, 108, 39, 46, 44, 58, 59, 33, 124]
def wideL : List UInt8 := [109, 119, 77, 87, 64, 37]
def inL (l : List UInt8) (r : Nat) : Bool := l.any (fun b => b.toNat == r)
/-- A code point's width. -/
def wd (f : Font) (r : Nat) : Int := if inL narrowL r = true then f.Narrow else if 4352 ≤ r ∨ inL wideL r = true then f.Wide else f.Normal
/-- A text's width. -/
def mw (f : Font) (l : List UInt8) : Int := (chunks l).foldl (fun st c => st + wd f c.1) 0

theorem wd_bd {f : Font} (hf : okF f) (r : Nat) : 1 ≤ wd f r ∧ wd f r ≤ 200 := by
  unfold okF at hf; unfold wd
  repeat' split
  all_goals omega
theorem fold_wd (f : Font) : ∀ (cs : List (Nat × List UInt8)) (a : Int), cs.foldl (fun st c => st + wd f c.1) a = a + cs.foldl (fun st c => st + wd f c.1) 0
  | [], a => by simp
  | c :: cs, a => by
    rw [List.foldl_cons, List.foldl_cons, fold_wd f cs (a + wd f c.1), fold_wd f cs (0 + wd f c.1)]; omega
def cw (f : Font) (cs : List (Nat × List UInt8)) : Int := cs.foldl (fun st c => st + wd f c.1) 0
theorem cw_nil (f : Font) : cw f [] = 0 := rfl
theorem cw_cons (f : Font) (c : Nat × List UInt8) (cs : List (Nat × List UInt8)) : cw f (c :: cs) = wd f c.1 + cw f cs := by
  unfold cw; rw [List.foldl_cons, fold_wd]; omega
theorem cw_append (f : Font) : ∀ (a b : List (Nat × List UInt8)), cw f (a ++ b) = cw f a + cw f b
  | [], b => by rw [List.nil_append, cw_nil]; omega
  | c :: a, b => by rw [List.cons_append, cw_cons, cw_cons, cw_append f a b]; omega
theorem cw_bd {f : Font} (hf : okF f) : ∀ (cs : List (Nat × List UInt8)), (cs.length : Int) ≤ cw f cs ∧ cw f cs ≤ 200 * cs.length
  | [] => by rw [cw_nil]; simp
  | c :: cs => by
    have h1 := wd_bd hf c.1
    have h2 := cw_bd hf cs
    rw [cw_cons]
    simp only [List.length_cons]; omega
theorem mw_cw (f : Font) (l : List UInt8) : mw f l = cw f (chunks l) := rfl
theorem mw_bd {f : Font} (hf : okF f) (l : List UInt8) : 0 ≤ mw f l ∧ mw f l ≤ 200 * l.length := by
  have h1 := cw_bd hf (chunks l)
  have h2 := chunks_len l
  rw [mw_cw]; omega
theorem wd_space (f : Font) : wd f 32 = f.Normal := by
  unfold wd
  rw [if_neg (by decide), if_neg (by decide)]
theorem mw_space (f : Font) (l m : List UInt8) : mw f (l ++ 32 :: m) = mw f l + f.Normal + mw f m := by
  rw [mw_cw, chunks_space (by decide), cw_append, cw_cons, mw_cw, mw_cw]
  have : wd f (32 : UInt8).toNat = f.Normal := wd_space f
  simp only [this]; omega

/-! The search of a code point in an ASCII text. -/

theorem inL_mem {l : List UInt8} {r : Nat} : inL l r = true ↔ ∃ b ∈ l, b.toNat = r := by simp [inL]
theorem enc_a {r : Nat} (hv : Utf8.valid (r : Int) = true) (c0 : ¬ r < 128) (c1 : r < 2048) : Utf8.encode (r : Int) = ⟨#[UInt8.ofNat (0xC0 + r / 64), UInt8.ofNat (0x80 + r % 64)]⟩ := by
  unfold Utf8.encode
  rw [hv, if_pos rfl]
  simp only [Int.toNat_natCast]
  rw [if_neg c0, if_pos c1]
theorem enc_b {r : Nat} (hv : Utf8.valid (r : Int) = true) (c0 : ¬ r < 128) (c1 : ¬ r < 2048) (c2 : r < 65536) : Utf8.encode (r : Int) = ⟨#[UInt8.ofNat (0xE0 + r / 4096), UInt8.ofNat (0x80 + r / 64 % 64), UInt8.ofNat (0x80 + r % 64)]⟩ := by
  unfold Utf8.encode
  rw [hv, if_pos rfl]
  simp only [Int.toNat_natCast]
  rw [if_neg c0, if_neg c1, if_pos c2]
theorem enc_c {r : Nat} (hv : Utf8.valid (r : Int) = true) (c0 : ¬ r < 128) (c1 : ¬ r < 2048) (c2 : ¬ r < 65536) : Utf8.encode (r : Int) = ⟨#[UInt8.ofNat (0xF0 + r / 262144), UInt8.ofNat (0x80 + r / 4096 % 64), UInt8.ofNat (0x80 + r / 64 % 64), UInt8.ofNat (0x80 + r % 64)]⟩ := by
  unfold Utf8.encode
  rw [hv, if_pos rfl]
  simp only [Int.toNat_natCast]
  rw [if_neg c0, if_neg c1, if_neg c2]
theorem enc_last {r : Nat} (h1 : 128 ≤ r) (h2 : r < 55296 ∨ (57343 < r ∧ r ≤ 1114111)) : ∃ (i : List UInt8) (b : UInt8), (encS (r : Int)).b = i ++ [b] ∧ 128 ≤ b.toNat ∧ i.length ≤ 3 := by
  have hv : Utf8.valid (r : Int) = true := by
    unfold Utf8.valid
    simp only [Bool.or_eq_true, Bool.and_eq_true, decide_eq_true_eq]
    omega
  have hb : ∀ n : Nat, n < 64 → 128 ≤ (UInt8.ofNat (0x80 + n)).toNat := by
    intro n hn
    rw [UInt8.toNat_ofNat']; omega
  have c0 : ¬ r < 128 := by omega
  unfold encS
  by_cases c1 : r < 2048
  · rw [enc_a hv c0 c1]
    exact ⟨[UInt8.ofNat (0xC0 + r / 64)], _, rfl, hb _ (Nat.mod_lt _ (by decide)), by simp⟩
  · by_cases c2 : r < 65536
    · rw [enc_b hv c0 c1 c2]
      exact ⟨[UInt8.ofNat (0xE0 + r / 4096), UInt8.ofNat (0x80 + r / 64 % 64)], _, rfl, hb _ (Nat.mod_lt _ (by decide)), by simp⟩
    · rw [enc_c hv c0 c1 c2]
      exact ⟨[UInt8.ofNat (0xF0 + r / 262144), UInt8.ofNat (0x80 + r / 4096 % 64), UInt8.ofNat (0x80 + r / 64 % 64)], _, rfl, hb _ (Nat.mod_lt _ (by decide)), by simp⟩

theorem indexByte_not {l : List UInt8} {c : UInt8} (h : c ∉ l) : Go.Lib.indexByte l c = -1 := by
  have h1 := Go.Lib.contains_iff_indexByte l c
  have h2 := Go.Lib.indexByte_ge l c
  have h3 : l.contains c = false := by simpa using h
  rw [h3] at h1
  have := of_decide_eq_false h1.symm
  omega
theorem ValidRune_eq {r : Nat} (h2 : r < 55296 ∨ (57343 < r ∧ r ≤ 1114111)) : utf8_ValidRune ⟨(r : Int)⟩ = some true := by
  unfold utf8_ValidRune
  rcases h2 with h | ⟨h, h'⟩
  · have e : (decide ((⟨0⟩ : KI .i32).n ≤ (⟨(r : Int)⟩ : KI .i32).n) && decide ((⟨(r : Int)⟩ : KI .i32).n < (⟨55296⟩ : KI .i32).n)) = true := by simp; omega
    rw [e]; rfl
  · have e1 : (decide ((⟨0⟩ : KI .i32).n ≤ (⟨(r : Int)⟩ : KI .i32).n) && decide ((⟨(r : Int)⟩ : KI .i32).n < (⟨55296⟩ : KI .i32).n)) = false := by simp; omega
    have e2 : (decide ((⟨57343⟩ : KI .i32).n < (⟨(r : Int)⟩ : KI .i32).n) && decide ((⟨(r : Int)⟩ : KI .i32).n ≤ (⟨1114111⟩ : KI .i32).n)) = true := by simp; omega
    rw [e1, e2]; rfl
theorem ContainsRune_eq {l : List UInt8} (hl : ∀ b ∈ l, b.toNat < 128) (hn : l.length ≤ 100) {r : Nat} (h2 : r < 55296 ∨ (57343 < r ∧ r ≤ 1114111)) : strings_ContainsRune ⟨l⟩ ⟨(r : Int)⟩ = some (inL l r) := by
  have key : ∃ i, strings_IndexRune ⟨l⟩ ⟨(r : Int)⟩ = some i ∧ decide (0 ≤ i) = inL l r := by
    have no : 128 ≤ r → inL l r = false := by
      intro h
      cases hq : inL l r with
      | false => rfl
      | true =>
        obtain ⟨b, hb, rfl⟩ := inL_mem.1 hq
        have := hl b hb; omega
    unfold strings_IndexRune
    by_cases c : r < 128
    · have e : (decide ((⟨0⟩ : KI .i32).n ≤ (⟨(r : Int)⟩ : KI .i32).n) && decide ((⟨(r : Int)⟩ : KI .i32).n < (⟨128⟩ : KI .i32).n)) = true := by simp; omega
      rw [e, cond_true]
      unfold strings_IndexByte
      rw [need_of (by show (l.length : Int) < _; omega), Option.bind_some]
      refine ⟨_, rfl, ?_⟩
      unfold indexByteS
      have hw : (KI.of .u8 (⟨(r : Int)⟩ : KI .i32).n).n = r := by
        show IntKind.u8.wrap (r : Int) = r
        simp [IntKind.wrap, IntKind.bits, IntKind.signed]
        omega
      rw [hw, ← Go.Lib.contains_iff_indexByte]
      have ht : ((r : Int).toNat.toUInt8).toNat = r := by
        rw [Int.toNat_natCast]
        rw [Nat.toUInt8, UInt8.toNat_ofNat']; omega
      cases hq : inL l r with
      | true =>
        obtain ⟨b, hb, hbr⟩ := inL_mem.1 hq
        have : (r : Int).toNat.toUInt8 = b := UInt8.toNat_inj.1 (by rw [ht, hbr])
        rw [this]; simpa using hb
      | false =>
        have : (r : Int).toNat.toUInt8 ∉ l := fun hm => by
          have := inL_mem.2 ⟨_, hm, ht⟩
          rw [hq] at this; cases this
        simpa using this
    · have e : (decide ((⟨0⟩ : KI .i32).n ≤ (⟨(r : Int)⟩ : KI .i32).n) && decide ((⟨(r : Int)⟩ : KI .i32).n < (⟨128⟩ : KI .i32).n)) = false := by simp; omega
      rw [e, cond_false]
      rw [no (by omega)]
      refine ⟨-1, ?_, rfl⟩
      by_cases c2 : r = 65533
      · have e2 : decide ((⟨(r : Int)⟩ : KI .i32).n = (⟨65533⟩ : KI .i32).n) = true := by simp; omega
        rw [e2, cond_true]
        have hloop : ∀ (m : List UInt8) (p : Nat), l.drop p = m → loop (strings_IndexRune_L1 ⟨l⟩) p = some (Res.nx ()) := by
          intro m
          refine chunks_ind (p := fun m => ∀ p, l.drop p = m → loop (strings_IndexRune_L1 ⟨l⟩) p = some (Res.nx ())) ?_ ?_ m
          · intro p hp
            refine loop_done ?_
            unfold strings_IndexRune_L1
            simp only [bnd_eq]
            have : ¬ p < l.length := by intro h; have := congrArg List.length hp; simp at this; omega
            simp [this]
          · intro m hm ih p hp
            have hlt : p < l.length := by
              rcases Nat.lt_or_ge p l.length with h | h
              · exact h
              · rw [List.drop_of_length_le h] at hp; exact absurd hp.symm hm
            refine (loop_again (s' := (⟨l⟩ : Str).next p) ?_).trans (ih _ ?_)
            · unfold strings_IndexRune_L1
              simp only [bnd_eq]
              have hr : ((⟨l⟩ : Str).at p).1 ≠ 65533 := by
                rw [at_eq]
                show (dec (l.drop p)).1 ≠ _
                rw [List.drop_eq_getElem_cons hlt, dec_ascii (hl _ (List.getElem_mem _))]
                have := hl l[p] (List.getElem_mem _)
                simp only; omega
              rw [decide_eq_true (show p < (⟨l⟩ : Str).b.length from hlt), cond_true, need_of (show p < (⟨l⟩ : Str).b.length from hlt), need_of (show p < (⟨l⟩ : Str).b.length from hlt)]
              have : decide ((⟨(((⟨l⟩ : Str).at p).1 : Int)⟩ : KI .i32).n = (⟨65533⟩ : KI .i32).n) = false := by simp; omega
              rw [this]; rfl
            · have := drop_next (s := ⟨l⟩) (p := p) hlt
              rw [this]; show (l.drop p).drop _ = _; rw [hp]
        rw [hloop _ 0 rfl]; rfl
      · have e2 : decide ((⟨(r : Int)⟩ : KI .i32).n = (⟨65533⟩ : KI .i32).n) = false := by simp; omega
        rw [e2, cond_false, ValidRune_eq h2, Option.bind_some]
        simp only [Bool.not_true, cond_false, bnd_eq]
        obtain ⟨i, b, he, hb, hi⟩ := enc_last (r := r) (by omega) h2
        have hlen : ((encS (r : Int)).b.length : Int) = i.length + 1 := by rw [he]; simp
        show bindR (loop (strings_IndexRune_L2 ⟨l⟩ (encS (r : Int)) (W (((encS (r : Int)).b.length : Int) - 1))) ()) _ = _
        rw [hlen, Wk (by omega) (by omega), show (i.length : Int) + 1 - 1 = i.length by omega]
        have hg : gx (encS (r : Int)).b (i.length : Int) = b := by rw [he]; exact gx_nat (by simp) |>.trans (by simp)
        have hin : inR (encS (r : Int)).b (i.length : Int) := by rw [he]; exact ⟨by omega, by simp only [List.length_append, List.length_singleton]; omega⟩
        have hL : ∃ o, loop (strings_IndexRune_L2 ⟨l⟩ (encS (r : Int)) (i.length : Int)) () = some o ∧ (o = Res.nx () ∨ o = Res.ab (-1)) := by
          by_cases c3 : i.length < l.length
          · refine ⟨_, loop_done (e := Res.ab (-1)) ?_, .inr rfl⟩
            unfold strings_IndexRune_L2
            rw [decide_eq_true (show (i.length : Int) < ((⟨l⟩ : Str).b.length : Int) by show (i.length : Int) < (l.length : Int); omega), cond_true, need_of (show inR l (i.length : Int) from ⟨by omega, by omega⟩), need_of hin, hg]
            have hs : gx l (i.length : Int) = l[i.length] := gx_nat c3
            have hne : (!decide ((⟨((gx l (i.length : Int)).toNat : Int)⟩ : KI .u8).n = (⟨(b.toNat : Int)⟩ : KI .u8).n)) = true := by
              rw [hs]
              have := hl l[i.length] (List.getElem_mem _)
              simp; omega
            show bindR (bif !decide ((⟨((gx l (i.length : Int)).toNat : Int)⟩ : KI .u8).n = (⟨(b.toNat : Int)⟩ : KI .u8).n) then _ else _) _ = _
            rw [hne, cond_true, Wk (by omega) (by omega)]
            rw [need_of (show segR l.length ((i.length : Int) + 1) (l.length : Int) from ⟨by omega, by omega, by omega⟩), need_of hin]
            unfold strings_IndexByte
            have hsl : (seg l ((i.length : Int) + 1) (l.length : Int)).length ≤ l.length := by unfold seg; simp
            rw [need_of (by show ((seg l ((i.length : Int) + 1) (l.length : Int)).length : Int) < _; omega), Option.bind_some]
            have hno : indexByteS ⟨seg l ((i.length : Int) + 1) (l.length : Int)⟩ (⟨(b.toNat : Int)⟩ : KI .u8) = -1 := by
              unfold indexByteS
              refine indexByte_not ?_
              have : (b.toNat : Int).toNat.toUInt8 = b := UInt8.toNat_inj.1 (by rw [Int.toNat_natCast, Nat.toUInt8, UInt8.toNat_ofNat']; have := UInt8.toNat_lt b; omega)
              rw [this]
              intro hm
              have hm2 : b ∈ l := by unfold seg at hm; exact List.mem_of_mem_take (List.mem_of_mem_drop hm)
              have := hl b hm2; omega
            show Option.bind _ _ = _
            rw [hno]; rfl
          · refine ⟨_, loop_done (e := Res.nx ()) ?_, .inl rfl⟩
            unfold strings_IndexRune_L2
            rw [decide_eq_false (show ¬ (i.length : Int) < ((⟨l⟩ : Str).b.length : Int) by show ¬ (i.length : Int) < (l.length : Int); omega)]
            rfl
        obtain ⟨o, ho, h | h⟩ := hL
        · rw [ho, h]; rfl
        · rw [ho, h]; rfl
  obtain ⟨i, h1, h2⟩ := key
  unfold strings_ContainsRune
  rw [h1, Option.bind_some, h2]
theorem letter_eq (f : Font) {r : Nat} (h2 : r < 55296 ∨ (57343 < r ∧ r ≤ 1114111)) : shape_letter f ⟨(r : Int)⟩ = some (wd f r) := by
  unfold shape_letter
  rw [ContainsRune_eq (l := [105, 106, 108, 39, 46, 44, 58, 59, 33, 124]) (by decide) (by decide) h2, Option.bind_some]
  unfold wd
  show (bif inL narrowL r then _ else _) = _
  cases hn : inL narrowL r with
  | true => rfl
  | false =>
    rw [cond_false, if_neg (by simp), ContainsRune_eq (l := [109, 119, 77, 87, 64, 37]) (by decide) (by decide) h2]
    show Option.bind (gd _ (some (inL wideL r))) _ = _
    by_cases c : 4352 ≤ r
    · have e : decide ((⟨4352⟩ : KI .i32).n ≤ (⟨(r : Int)⟩ : KI .i32).n) = true := by simp; omega
      rw [e, if_pos (.inl c)]; rfl
    · have e : decide ((⟨4352⟩ : KI .i32).n ≤ (⟨(r : Int)⟩ : KI .i32).n) = false := by simp; omega
      rw [e]
      simp only [Bool.not_false, gd_true, Option.bind_some, Bool.false_or]
      cases hw : inL wideL r with
      | true => rw [if_pos (.inr rfl)]; rfl
      | false => rw [if_neg (by simp; omega)]; rfl
theorem measure_eq {f : Font} (hf : okF f) {s : Str} (hs : s.b.length ≤ 1000000) : shape_measure f s = some (mw f s.b) := by
  unfold shape_measure
  rw [iter_fold (s := s) (fun st r => st + wd f r) (fun st => st) (fun st l => 0 ≤ st ∧ st + 200 * l.length ≤ 200000000)
    (fun st p hp hI => by
      have hb := wd_bd hf (dec (s.b.drop p)).1
      have hlen := next_le hp
      have hnx := next_eq hp
      have hdp := dec_pos (s.b.drop p)
      simp only [List.length_drop] at hI
      constructor
      · unfold shape_measure_L1
        simp only [bnd_eq]
        rw [decide_eq_true hp, cond_true, need_of hp, at_eq, letter_eq f (dec_rune _), Option.bind_some, Wk (by omega) (by omega)]
      · simp only [List.length_drop]; omega)
    (fun st p hp => by
      unfold shape_measure_L1
      simp only [bnd_eq]
      rw [decide_eq_false hp]; rfl) s.b 0 0 rfl ⟨by omega, by omega⟩, Option.bind_some]
  rfl

end Go.DB
