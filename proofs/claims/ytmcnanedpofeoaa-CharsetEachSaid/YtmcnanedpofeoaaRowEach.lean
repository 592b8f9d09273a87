/-
  The row CharsetEach.
-/
import Derived.Test.YtmcnanedpofeoaaRows
import Derived.Test.YtmcnanedpofeoaaVcM
import Derived.Test.YtmcnanedpofeoaaPE
import Derived.Test.YtmcnanedpofeoaaW2
namespace Go.Proofs.Ytmcnanedpofeoaa
open Go.ChangeShapes Go.WideShapes Go.ChangeAt Go.RowKit Go.Vc

theorem own_knob : ownKnob Try.prog.godebug = none := by kernel_rfl
theorem laid_out : laidOutB Try.prog = true := by kernel_rfl

/-- the types that the arguments of the laws lead to -/
def argTypes : List TypeId := [26, 24, 3, 5, 22, 9]
theorem arg_closed : closedB Try.prog argTypes = true := by kernel_rfl

theorem fits_int {n : Nat} {t : TypeId} {k : IntKind} {ds : List Dc} (hu : Try.prog.underlying t = some (.int k)) (h : Fits Try.prog n t ds) : ∃ m, ds = [.int k m] ∧ (Lit.int k m).wf = true := by
  cases n with
  | zero => exact h.elim
  | succ n =>
    unfold Fits at h
    rw [hu] at h
    exact h
theorem fits_set {n : Nat} {ds : List Dc} (h : Fits Try.prog n 26 ds) : ∃ s : S4, ds = eS4 s ∧ ∀ m ∈ [s.w0, s.w1, s.w2, s.w3], (Lit.int .u64 m).wf = true := by
  cases n with
  | zero => exact h.elim
  | succ n =>
    unfold Fits at h
    rw [Try.underlying26] at h
    obtain ⟨parts, rfl, hl, hp⟩ := h
    match parts, hl with
    | [a, b, c, d], _ =>
      obtain ⟨x, rfl, hx⟩ := fits_int Try.underlying24 (hp a (by simp))
      obtain ⟨y, rfl, hy⟩ := fits_int Try.underlying24 (hp b (by simp))
      obtain ⟨z, rfl, hz⟩ := fits_int Try.underlying24 (hp c (by simp))
      obtain ⟨u, rfl, hu⟩ := fits_int Try.underlying24 (hp d (by simp))
      exact ⟨⟨x, y, z, u⟩, rfl, by simp [hx, hy, hz, hu]⟩

theorem agg_of {P : Program} {w : World} {r : Reach} {base : Nat} {t : TypeId} {v : Value} {n : Nat} {e : TypeId} (hu : P.underlying t = some (.array n e)) (h : Value.okWide P w r base t v) : ∃ cs, v = .agg cs := by
  unfold Value.okWide at h
  rw [hu] at h
  obtain ⟨cs, rfl, _⟩ := h
  exact ⟨cs, rfl⟩

theorem pures_set {w : World} {X : Nat → Prop} {cs : List Value} {s : S4} (h : Pures w X cs (eS4 s)) : cs = s.vs := by
  unfold eS4 at h
  cases h with
  | cons h1 h =>
    cases h with
    | cons h2 h =>
      cases h with
      | cons h3 h =>
        cases h with
        | cons h4 h =>
          cases h
          cases h1; cases h2; cases h3; cases h4
          rfl

theorem arg_set {H : Type} {enc : TypeId × Value → H} {w : World} {base : Nat} {v : Value} {d : DataW H} {ps : List MemPlace} (ho : Value.okWide Try.prog w .any base 26 v) (h : DataW.Trod enc Try.prog w 0 (fun _ => true) true 26 v d ps) :
    ∃ s : S4, v = .agg s.vs.toArray ∧ ∀ m ∈ [s.w0, s.w1, s.w2, s.w3], (Lit.int .u64 m).wf = true := by
  obtain ⟨cs, rfl⟩ := agg_of Try.underlying26 ho
  obtain ⟨fuel, ds, hp, hf⟩ := args_ok arg_closed (by decide) h
  obtain ⟨s, rfl, hw⟩ := fits_set hf
  have := pures_set hp
  refine ⟨s, ?_, hw⟩
  have e : cs = (Value.agg cs).cells := rfl
  rw [← this, ← e]

theorem each_lifted (os : Os) (started : os.Started) (H : Type) (enc : TypeId × Value → H) :
    ReturnsInHanded {} Try.checked os 8 .any (Rows.charsetEachSpec.pre6 enc Try.prog Try.f8 Rows.charsetEachRow.domain false) (Rows.charsetEachSpec.post enc Try.prog Try.f8 false true false false) := by
  refine returnsInHanded_of_change (C := Try.checked) own_knob started (by kernel_rfl) Try.func8
    (ChangeSpec.witness6 (enc := enc) (C := Try.checked) false ⟨#[], #[.agg #[.int .u64 0, .int .u64 0, .int .u64 0, .int .u64 0], .int .i64 0], []⟩ 8 (by kernel_rfl) (by kernel_rfl) (by kernel_rfl) (by kernel_rfl)) ?_
  intro W base args ds gs before hval0 hW hcnd _
  have hval : ∀ (j : Nat) t v, Try.f8.params[j]? = some t → args[j]? = some v → Value.okWide Try.prog W .any base t v := hval0
  have hW' := hW
  obtain ⟨p, q, hA0, hV, rfl, hfz, hnd⟩ := hW
  have hA : DataW.TrodAll enc Try.prog W 0 (fun _ => true) true Try.f8.params.toList args.toList ds p := hA0
  rw [Try.params8] at hA hval
  obtain ⟨v0, v1, d0, d1, p0, p1, rfl, rfl, rfl, h0, h1⟩ := trodAll_two hA
  obtain ⟨rfl, rfl⟩ := trodVars_none hV
  obtain ⟨s, rfl, _⟩ := arg_set (hval 0 26 v0 rfl rfl) h0
  obtain ⟨m, rfl, rfl, rfl, _⟩ := open_int Try.underlying3 (hval 1 3 v1 rfl rfl) h1
  exact calls_law (tb := 4) (Φp := []) laid_out (by kernel_rfl) rfl rfl Try.underlying4 hW' rfl (tri8 300 s m true (law_Each s m)) (fun p hp => by cases hp)

theorem each_holds : Rows.CharsetEachSaid :=
  OpenClaim.holds_of_wide 8 Try.f8 rfl rfl rfl rfl rfl rfl rfl ⟨rfl, rfl, rfl, rfl, rfl⟩ rfl rfl rfl rfl rfl (by kernel_rfl) Try.func8 (by kernel_rfl)
    (of_decide_eq_true (by kernel_rfl)) (by unfold Func.isWrapper; first | (rw [if_pos (by decide +kernel)]; kernel_rfl) | (rw [if_neg (by decide +kernel)]; exact ⟨rfl, rfl⟩))
    (fun os started H enc _ => each_lifted os started H enc)

end Go.Proofs.Ytmcnanedpofeoaa
