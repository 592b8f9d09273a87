/-
  What the rows of words share: bytes.
-/
import Derived.Test.YthkfffheppfieaaRowT
import Derived.Test.YthkfffheppfieaaWK
set_option linter.unusedVariables false
set_option linter.unusedSimpArgs false
set_option maxRecDepth 8000
namespace Go.Proofs.Ythkfffheppfieaa
open Go.ChangeShapes Go.WideShapes Go.ChangeAt Go.RowKit Go.Vc Go.Proofs
theorem u8b_wf {m : Int} (h : (Lit.int .u8 m).wf = true) : u8b m := by
  have h2 : IntKind.u8.min ≤ m ∧ m ≤ IntKind.u8.max := by simpa [Lit.wf] using h
  have e1 : IntKind.u8.min = 0 := by decide
  have e2 : IntKind.u8.max = 255 := by decide
  rw [e1, e2] at h2
  exact ⟨h2.1, by omega⟩
theorem fits_int {n : Nat} {t : TypeId} {k : IntKind} {ds : List Dc} (hu : Try.prog.underlying t = some (.int k)) (h : Fits Try.prog n t ds) : ∃ m, ds = [.int k m] ∧ (Lit.int k m).wf = true := by
  cases n with
  | zero => exact h.elim
  | succ n =>
    unfold Fits at h
    rw [hu] at h
    exact h
theorem fits_bytes {xs : List (List Dc)} {n : Nat} (h : ∀ x ∈ xs, Fits Try.prog n 5 x) : ∃ l : List Int, xs = l.map eU8 ∧ ∀ m ∈ l, u8b m := by
  induction xs with
  | nil => exact ⟨[], rfl, fun _ h => by cases h⟩
  | cons x xs ih =>
    obtain ⟨l, rfl, hl⟩ := ih (fun y hy => h y (List.mem_cons_of_mem _ hy))
    obtain ⟨m, rfl, hm⟩ := fits_int Try.underlying5 (h x List.mem_cons_self)
    refine ⟨m :: l, rfl, fun y hy => ?_⟩
    rcases List.mem_cons.1 hy with rfl | hy
    · exact u8b_wf hm
    · exact hl y hy
theorem arg_bytes {H : Type} {enc : TypeId × Value → H} {w : World} {base : Nat} {v : Value} {d : DataW H} {ps : List MemPlace} (ho : Value.okWide Try.prog w .any base 30 v) (h : DataW.Trod enc Try.prog w 0 (fun _ => true) true 30 v d ps) :
    ∃ (l : List Int) (a : Option Addr) (n c : Nat), v = .slice a n c ∧ (∀ m ∈ l, u8b m) ∧ PureC w (fun _ => False) (.slice a n c) (.slice 1 (l.map eU8)) := by
  obtain ⟨fuel, ds, hp, hf⟩ := args_ok arg_closed (by decide) h
  obtain ⟨a, n0, c, rfl⟩ := okWide_slice Try.underlying30 ho
  cases fuel with
  | zero => exact hf.elim
  | succ n =>
    unfold Fits at hf
    rw [Try.underlying30] at hf
    obtain ⟨xs, rfl, hl, hx⟩ := hf
    obtain ⟨l, rfl, hm⟩ := fits_bytes hx
    obtain ⟨u, hu, hp⟩ := pures_one hp
    have e : Try.prog.cellsOf 5 = 1 := by kernel_rfl
    rw [e] at hp
    have hv : Value.slice a n0 c = u := by simpa [Value.cells] using hu
    subst hv
    exact ⟨l, _, _, _, rfl, hm, hp⟩
end Go.Proofs.Ythkfffheppfieaa
