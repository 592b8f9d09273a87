/-
  The document's counter.
-/
import Derived.Test.YtfhbgelpmbkooaaHD
import Derived.Test.YtfhbgelpmbkooaaFV
set_option linter.unusedVariables false
set_option linter.unusedSimpArgs false
namespace Go.Vc
open Go Ea
section
variable {g : Gram} {w : List Int} {k : Nat} {Y : List Bool} {ρ : Nat → Nat}
abbrev Tt (g : Gram) (w : List Int) (ρ : Nat → Nat) : Nat → Nat → Nat → List Tr := trees (Rs g w) ρ g.Nts.toNat
structure KnI (g : Gram) (w : List Int) (ρ : Nat → Nat) (K : List Int) : Prop where
  len : K.length = Mx g w
  kn : ∀ a i j, a < g.Nts.toNat → i ≤ w.length → j ≤ w.length → K.getD (ixT w.length a i j) 0 = 0 ∨ K.getD (ixT w.length a i j) 0 = ((sat (Tt g w ρ a i j).length : Nat) : Int)
structure Cx (g : Gram) (w : List Int) (Y : List Bool) (ρ : Nat → Nat) : Prop where
  h : Bd g w
  hY : Y.length = Mx g w
  hT : Table (Rs g w) w.length (YesP g.Nts.toNat w.length Y)
  hρ : Falls (Rs g w) ρ g.Nts.toNat
theorem symT_der (C : Cx g w Y ρ) {s : Sy} {m j : Nat} (hj : j ≤ w.length) : symT (YesP g.Nts.toNat w.length Y) s m j ↔ DerY (Rs g w) s m j := C.hT.sym hj
end
end Go.Vc
