/-
  What the rows of charset share, too: bytes and texts as arguments.
-/
import Derived.Test.YtmcnanedpofeoaaRowBase
import Derived.Test.YtmcnanedpofeoaaPL
namespace Go.Proofs.Ytmcnanedpofeoaa
open Go.ChangeShapes Go.WideShapes Go.ChangeAt Go.RowKit Go.Vc

theorem isB_wf {m : Int} (h : (Lit.int .u8 m).wf = true) : isB m := by
  have h2 : IntKind.u8.min ≤ m ∧ m ≤ IntKind.u8.max := by simpa [Lit.wf] using h
  have e1 : IntKind.u8.min = 0 := by decide
  have e2 : IntKind.u8.max = 255 := by decide
  rw [e1, e2] at h2
  exact ⟨h2.1, by omega⟩
theorem pures_one {w : World} {X : Nat → Prop} {cs : List Value} {d : Dc} (h : Pures w X cs [d]) : ∃ v, cs = [v] ∧ PureC w X v d := by
  cases h with
  | cons h1 h =>
    cases h
    exact ⟨_, rfl, h1⟩
theorem arg_str {H : Type} {enc : TypeId × Value → H} {w : World} {base : Nat} {v : Value} {d : DataW H} {ps : List MemPlace} (ho : Value.okWide Try.prog w .any base 9 v) (h : DataW.Trod enc Try.prog w 0 (fun _ => true) true 9 v d ps) :
    ∃ s : List UInt8, v = .string (bs s) ∧ s.length ≤ maxLen := by
  obtain ⟨fuel, ds, hp, hf⟩ := args_ok arg_closed (by decide) h
  obtain ⟨v0, rfl⟩ := okWide_string Try.underlying9 ho
  cases fuel with
  | zero => exact hf.elim
  | succ n =>
    unfold Fits at hf
    rw [Try.underlying9] at hf
    obtain ⟨s, rfl, hl⟩ := hf
    obtain ⟨u, hu, hp⟩ := pures_one hp
    cases hp with
    | str =>
      refine ⟨s, ?_, hl⟩
      simpa [Value.cells] using hu
theorem fits_bytes {xs : List (List Dc)} {n : Nat} (h : ∀ x ∈ xs, Fits Try.prog n 5 x) : ∃ l : List Int, xs = l.map eU8 ∧ ∀ m ∈ l, isB m := by
  induction xs with
  | nil => exact ⟨[], rfl, fun _ h => by cases h⟩
  | cons x xs ih =>
    obtain ⟨l, rfl, hl⟩ := ih (fun y hy => h y (List.mem_cons_of_mem _ hy))
    obtain ⟨m, rfl, hm⟩ := fits_int Try.underlying5 (h x List.mem_cons_self)
    refine ⟨m :: l, rfl, fun y hy => ?_⟩
    rcases List.mem_cons.1 hy with rfl | hy
    · exact isB_wf hm
    · exact hl y hy
theorem arg_bytes {H : Type} {enc : TypeId × Value → H} {w : World} {base : Nat} {v : Value} {d : DataW H} {ps : List MemPlace} (ho : Value.okWide Try.prog w .any base 22 v) (h : DataW.Trod enc Try.prog w 0 (fun _ => true) true 22 v d ps) :
    ∃ (l : List Int) (a : Option Addr) (n c : Nat), v = .slice a n c ∧ (∀ m ∈ l, isB m) ∧ PureC w (fun _ => False) (.slice a n c) (.slice 1 (l.map eU8)) := by
  obtain ⟨fuel, ds, hp, hf⟩ := args_ok arg_closed (by decide) h
  obtain ⟨a, n0, c, rfl⟩ := okWide_slice Try.underlying22 ho
  cases fuel with
  | zero => exact hf.elim
  | succ n =>
    unfold Fits at hf
    rw [Try.underlying22] at hf
    obtain ⟨xs, rfl, hl, hx⟩ := hf
    obtain ⟨l, rfl, hm⟩ := fits_bytes hx
    obtain ⟨u, hu, hp⟩ := pures_one hp
    have e : Try.prog.cellsOf 5 = 1 := by kernel_rfl
    rw [e] at hp
    have hv : Value.slice a n0 c = u := by simpa [Value.cells] using hu
    subst hv
    exact ⟨l, _, _, _, rfl, hm, hp⟩
end Go.Proofs.Ytmcnanedpofeoaa
