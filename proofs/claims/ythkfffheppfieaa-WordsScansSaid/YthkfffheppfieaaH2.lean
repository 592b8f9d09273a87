import Derived.Test.YthkfffheppfieaaH1
import Derived.Test.YthkfffheppfieaaShelf
set_option linter.unusedVariables false
set_option linter.unusedSimpArgs false
set_option maxRecDepth 8000
namespace Go.Vc
open Go Go.Proofs
theorem tri48 (s : List UInt8) (c : Int) (r : Int) (hF : F.strings.IndexByte s c = some r) :
    Tri Try.prog 48 [.string (bs s), .int .u8 c] [] [] (fun o H Φ => o = .ret (.int .i64 r) ∧ H = [] ∧ Φ = []) := by
  cases hF
  intro w X ho
  refine (Try.strings_IndexByte (bs s) c w).mono ?_
  rintro e w' ⟨rfl, rfl⟩
  exact ⟨.ret _, rfl, [], [], ⟨rfl, rfl, rfl⟩, Frm.refl _ _, ho, by simp⟩
theorem tri32 (s : List UInt8) (c : Int) (r : Int) (hF : F.strings.LastIndexByte s c = some r) :
    Tri Try.prog 32 [.string (bs s), .int .u8 c] [] [] (fun o H Φ => o = .ret (.int .i64 r) ∧ H = [] ∧ Φ = []) := by
  unfold F.strings.LastIndexByte at hF
  split at hF
  · rename_i hl
    cases hF
    intro w X ho
    refine (Try.strings_LastIndexByte (bs s) c (of_decide_eq_true hl) w).mono ?_
    rintro e w' ⟨rfl, rfl⟩
    exact ⟨.ret _, rfl, [], [], ⟨rfl, rfl, rfl⟩, Frm.refl _ _, ho, by simp⟩
  · cases hF
theorem tri31 (s x : List UInt8) (r : Int) (hF : F.strings.Count s x = some r) :
    Tri Try.prog 31 [.string (bs s), .string (bs x)] [] [] (fun o H Φ => o = .ret (.int .i64 r) ∧ H = [] ∧ Φ = []) := by
  unfold F.strings.Count at hF
  split at hF
  · rename_i c
    cases hF
    intro w X ho
    refine (Try.strings_Count_one (bs s) c w).mono ?_
    rintro e w' ⟨rfl, rfl⟩
    exact ⟨.ret _, rfl, [], [], ⟨rfl, rfl, rfl⟩, Frm.refl _ _, ho, by simp⟩
  · cases hF
end Go.Vc
