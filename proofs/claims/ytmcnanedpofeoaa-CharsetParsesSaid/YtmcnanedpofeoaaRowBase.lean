/-
  What the rows of charset share: arguments.
-/
import Derived.Test.YtmcnanedpofeoaaRows
import Derived.Test.YtmcnanedpofeoaaVcM
import Derived.Test.YtmcnanedpofeoaaPB
import Derived.Test.YtmcnanedpofeoaaW2
namespace Go.Proofs.Ytmcnanedpofeoaa
open Go.ChangeShapes Go.WideShapes Go.ChangeAt Go.RowKit Go.Vc

theorem own_knob : ownKnob Try.prog.godebug = none := by kernel_rfl
theorem laid_out : laidOutB Try.prog = true := by kernel_rfl

/-- the types that the arguments of the laws lead to -/
def argTypes : List TypeId := [26, 24, 3, 5, 22, 9]
theorem arg_closed : closedB Try.prog argTypes = true := by kernel_rfl

theorem fits_int {n : Nat} {t : TypeId} {k : IntKind} {ds : List Dc} (hu : Try.prog.underlying t = some (.int k)) (h : Fits Try.prog n t ds) : ∃ m, ds = [.int k m] ∧ (Lit.int k m).wf = true := by
  cases n with
  | zero => exact h.elim
  | succ n =>
    unfold Fits at h
    rw [hu] at h
    exact h
theorem fits_set {n : Nat} {ds : List Dc} (h : Fits Try.prog n 26 ds) : ∃ s : S4, ds = eS4 s ∧ ∀ m ∈ [s.w0, s.w1, s.w2, s.w3], (Lit.int .u64 m).wf = true := by
  cases n with
  | zero => exact h.elim
  | succ n =>
    unfold Fits at h
    rw [Try.underlying26] at h
    obtain ⟨parts, rfl, hl, hp⟩ := h
    match parts, hl with
    | [a, b, c, d], _ =>
      obtain ⟨x, rfl, hx⟩ := fits_int Try.underlying24 (hp a (by simp))
      obtain ⟨y, rfl, hy⟩ := fits_int Try.underlying24 (hp b (by simp))
      obtain ⟨z, rfl, hz⟩ := fits_int Try.underlying24 (hp c (by simp))
      obtain ⟨u, rfl, hu⟩ := fits_int Try.underlying24 (hp d (by simp))
      exact ⟨⟨x, y, z, u⟩, rfl, by simp [hx, hy, hz, hu]⟩

theorem agg_of {P : Program} {w : World} {r : Reach} {base : Nat} {t : TypeId} {v : Value} {n : Nat} {e : TypeId} (hu : P.underlying t = some (.array n e)) (h : Value.okWide P w r base t v) : ∃ cs, v = .agg cs := by
  unfold Value.okWide at h
  rw [hu] at h
  obtain ⟨cs, rfl, _⟩ := h
  exact ⟨cs, rfl⟩

theorem pures_set {w : World} {X : Nat → Prop} {cs : List Value} {s : S4} (h : Pures w X cs (eS4 s)) : cs = s.vs := by
  unfold eS4 at h
  cases h with
  | cons h1 h =>
    cases h with
    | cons h2 h =>
      cases h with
      | cons h3 h =>
        cases h with
        | cons h4 h =>
          cases h
          cases h1; cases h2; cases h3; cases h4
          rfl

theorem arg_set {H : Type} {enc : TypeId × Value → H} {w : World} {base : Nat} {v : Value} {d : DataW H} {ps : List MemPlace} (ho : Value.okWide Try.prog w .any base 26 v) (h : DataW.Trod enc Try.prog w 0 (fun _ => true) true 26 v d ps) :
    ∃ s : S4, v = .agg s.vs.toArray ∧ ∀ m ∈ [s.w0, s.w1, s.w2, s.w3], (Lit.int .u64 m).wf = true := by
  obtain ⟨cs, rfl⟩ := agg_of Try.underlying26 ho
  obtain ⟨fuel, ds, hp, hf⟩ := args_ok arg_closed (by decide) h
  obtain ⟨s, rfl, hw⟩ := fits_set hf
  have := pures_set hp
  refine ⟨s, ?_, hw⟩
  have e : cs = (Value.agg cs).cells := rfl
  rw [← this, ← e]

theorem okW_wf {m : Int} (h : (Lit.int .u64 m).wf = true) : okW m := by
  have h2 : IntKind.u64.min ≤ m ∧ m ≤ IntKind.u64.max := by simpa [Lit.wf] using h
  have e1 : IntKind.u64.min = 0 := by decide
  have e2 : IntKind.u64.max = 18446744073709551615 := by decide
  rw [e1, e2] at h2
  exact ⟨h2.1, by omega⟩
theorem okS_wf {s : S4} (h : ∀ m ∈ [s.w0, s.w1, s.w2, s.w3], (Lit.int .u64 m).wf = true) : okS s :=
  ⟨okW_wf (h _ (by simp)), okW_wf (h _ (by simp)), okW_wf (h _ (by simp)), okW_wf (h _ (by simp))⟩
end Go.Proofs.Ytmcnanedpofeoaa
