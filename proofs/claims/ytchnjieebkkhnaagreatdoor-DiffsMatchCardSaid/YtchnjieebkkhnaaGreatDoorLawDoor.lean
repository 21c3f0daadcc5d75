/-
  A law's row that lists tables of the library: what the tables tell.
-/
import Derived.Test.YtchnjieebkkhnaaGreatDoorLaw
import Derived.LaidMore
import Derived.OpenShut
import Derived.Lay
import Derived.SevenTiedAt
import Derived.Stop.Joined
import Derived.PinnedBridge
import Derived.Lib.LaidIn
import Derived.Lib.LaidU8T
import Derived.Shelf.Vars
import Derived.SizedLaws
set_option linter.unusedSimpArgs false
set_option linter.unusedVariables false
namespace Go.DB
open Go Go.RowKit Go.ChangeShapes Go.WideShapes
variable {H : Type} {enc : TypeId × Value → H}

/-- The same, with the sizes: the contract is told the listed tables and the world's shape. -/
theorem returns_laidZ {a : Assume} {C : Checked} {os : Os} {f : FuncId} {fn : Func} {s : ChangeSpec} {conds : List PathCond} {apart fresh handsOn again : Bool} {X : World → Array Value → Prop}
    (hX : ∀ (w w' : World) (args : Array Value), w.heap = w'.heap → X w args → X w' args)
    (own : ownKnob C.prog.godebug = none) (started : os.Started) (noInit : C.prog.inits.idxOf? f = none) (hfn : C.prog.funcs[f]? = some fn)
    (witness : ∃ (w : World) (tape : Tape) (i : Input), w.os = os ∧ (w.forCall tape i).Shaped C.prog ∧ i.vars = [] ∧ Input.okWide C.prog (w.forCall tape i) .any w.heap.size f i ∧
      ((s.pre enc C.prog fn conds apart (w.forCall tape i).memory i.args ∧ X (w.forCall tape i).memory i.args) ∧ sizedMet enc C.prog fn (OpenSpec.ofChange s) apart (w.forCall tape i).memory i.args) ∧ a.holds C.prog (lone (Frame.enter C.prog f i.args .normal) [] (w.forCall tape i)))
    (contract : ∀ (W : World) (base : Nat) (args : Array Value) (ds gs : List (DataW H)) (before : List MemPlace),
      (∀ (j : Nat) t v, fn.params[j]? = some t → args[j]? = some v → Value.okWide C.prog W .any base t v) →
      DataW.Whole enc C.prog fn.params.toList s.vars apart W args.toList ds gs before →
      X W args → W.ShapedOpen C.prog → (DataW.weightsEach C.prog (fn.params.toList ++ (OpenSpec.ofChange s).bare.plain.varTypes C.prog) (ds ++ gs)).all (· ≤ reachBytes) = true →
      Calls C.prog f args W fun e W' => ∃ v, e = .returned v ∧ s.post enc C.prog fn apart fresh handsOn again W args v W') :
    ReturnsInHanded a C os f .any (fun w args => (s.pre enc C.prog fn conds apart w args ∧ X w args) ∧ sizedMet enc C.prog fn (OpenSpec.ofChange s) apart w args) (s.post enc C.prog fn apart fresh handsOn again) := by
  refine returnsInHanded_of_calls own started noInit witness ?_
  intro w tape i _ hsh _ hok hpre hholds
  obtain ⟨_, _, _, fn', hfn', _, _, _, _, hval⟩ := hok
  have e : fn' = fn := Option.some.inj (hfn'.symm.trans hfn)
  subst e
  obtain ⟨⟨⟨ds, gs, before, hw, hc⟩, hx⟩, hz⟩ := hpre
  have hw' := DataW.Whole.of_heap (w' := w.forCall tape i) (by rfl) hw
  refine (contract (w.forCall tape i) w.heap.size i.args ds gs before hval hw' (hX _ _ _ (by rfl) hx) hsh (hz.weights hw)).mono fun e W' ⟨v, he, hp⟩ => ?_
  subst he
  exact ChangeSpec.post_blind hp

/-- An argument that is a slice. -/
theorem arg_sliceZ {P : Program} {T E : TypeId} {α : Type} [Rep α] (hT : P.underlying T = some (.slice E)) (hR : Reads P T (List α)) {W : World} {base : Nat} {v : Value} {d : DataW H} {p : List MemPlace} (hv : Value.okWide P W .any base T v) (h : DataW.Trod enc P W 0 (fun _ => true) true T v d p) :
    ∃ y : List α, (rep y).p NoM v W ∧ (y = [] ∨ ∃ elems spare, d = .slice elems spare ∧ elems.length = y.length) := by
  obtain ⟨fuel, h⟩ := h
  obtain ⟨a, len, cap, rfl⟩ := okWide_slice hT hv
  obtain ⟨y, hy⟩ := hR H enc W _ fuel _ _ h
  have hyv : (rep y).p NoM (.slice a len cap) W := ⟨_, hy, rfl⟩
  refine ⟨y, hyv, ?_⟩
  obtain ⟨a', cap', e, _⟩ := rep_list.1 hyv
  injection e with _ e2 _
  rcases Deep.open_slice hT h with ⟨h1, _⟩ | ⟨b, len', cap2, m, n, D, Pl, h3, _, _, _, _, h2, _⟩
  · have h1 : [Value.slice a len cap] = [Value.slice none 0 0] := h1
    injection h1 with h1 _
    injection h1 with _ h1 _
    exact .inl (List.eq_nil_of_length_eq_zero (by omega))
  · have h3 : [Value.slice a len cap] = [Value.slice (some b) len' cap2] := h3
    injection h3 with h3 _
    injection h3 with _ h3 _
    refine .inr ⟨_, _, (Prod.mk.inj h2).1, ?_⟩
    rw [List.length_map, List.length_range]
    omega

theorem laidMet_plain {P : Program} {laid : List (String × DataW Unit)} {w : World} (h : laidMetH P laid w) (hp : (laid.all fun x => x.2.handleName?.isNone) = true) : laidMet P laid w := by
  rwa [MakeChecks.laidMetH_plain _ _ _ hp] at h
end Go.DB
