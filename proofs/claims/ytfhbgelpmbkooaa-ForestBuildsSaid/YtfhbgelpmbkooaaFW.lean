import Derived.Test.YtfhbgelpmbkooaaFV
import Derived.Test.YtfhbgelpmbkooaaGZ
set_option linter.unusedVariables false
set_option linter.unusedSimpArgs false
namespace Go.Vc
open Go Ea
def Low : Nat → Tree → Prop
  | 0, _ => False
  | h + 1, t => t.Kids.length ≤ 100 ∧ ∀ x ∈ t.Kids, Low h x
theorem Low.up : ∀ {h h' : Nat} {t : Tree}, Low h t → h ≤ h' → Low h' t
  | 0, _, _, h, _ => by cases h
  | h + 1, 0, _, _, hh => by omega
  | h + 1, h' + 1, _, ⟨h1, h2⟩, hh => ⟨h1, fun x hx => (h2 x hx).up (by omega)⟩
end Go.Vc
namespace Go.Vc
open Go Ea
section
variable {g : Gram} {w : List Int} {v0 : Forest_grove} {ρ : Nat → Nat}
abbrev An (g : Gram) (w : List Int) (ρ : Nat → Nat) : Qu → Nat := ans (Rs g w) ρ g.Nts.toNat
def gCw (g : Gram) (w : List Int) (ρ : Nat → Nat) (q i j : Nat) : Bool := decide (0 < An g w ρ (.r q (((Rs g w)[q]?.map fun r => r.rhs.length).getD 0) i j))
def gRw (g : Gram) (w : List Int) (ρ : Nat → Nat) (q d i m : Nat) : Bool := decide (0 < An g w ρ (.r q d i m))
def Wk (g : Gram) (w : List Int) (ρ : Nat → Nat) (v0 v : Forest_grove) : Prop := ∃ st, GR g w v0 st v ∧ KnOk (Rs g w) ρ g.Nts.toNat st
structure Ctx (g : Gram) (w : List Int) (v0 : Forest_grove) (ρ : Nat → Nat) : Prop where
  hg : RightG g
  hsm : SmallG g
  hw : Bytes w
  hwl : w.length ≤ 20
  hv0 : Grove g w v0
  hρ : Falls (Rs g w) ρ g.Nts.toNat
  hhas : ∀ a i j, j ≤ w.length → (hasW v0 a i j = true ↔ DerY (Rs g w) (.nt a) i j)
theorem ctx_of (hr : rightB g = true) (hsm : SmallG g) (hw : Bytes w) (hwl : w.length ≤ 20) (hρ : Falls (Rs g w) ρ g.Nts.toNat) (hv : Grove g w v0) : Ctx g w v0 ρ := by
  have hg := rightG hr
  refine ⟨hg, hsm, hw, hwl, hv, hρ, fun a i j hj => ?_⟩
  unfold hasW
  rw [decide_eq_true_eq]
  rcases hv.whole (spn a i j) with ⟨h1, a', i', j', h2, h3, h4, h5⟩ | ⟨h1, h2⟩
  · rw [h1]
    obtain ⟨rfl, rfl, rfl⟩ := spn_inj (show spn a i j = spn a' i' j' from h2)
    exact ⟨fun _ => h5, fun _ => by omega⟩
  · rw [h1]
    refine ⟨fun h => by omega, fun h => absurd ⟨a, i, j, rfl, ?_, hj, h⟩ h2⟩
    obtain ⟨r, hr', hl, _⟩ := derY_nt.1 h
    obtain ⟨x, hx, rfl⟩ := List.mem_map.1 hr'
    have := hg.lhs1 x hx
    have := hg.lhs2 x hx
    have hl' : x.Lhs.toNat = a := hl
    omega
theorem Ctx.hW (h : Ctx g w v0 ρ) : ∀ r ∈ Rs g w, r.rhs.length + 2 ≤ 82 := by
  intro r hr'
  obtain ⟨x, hx, rfl⟩ := List.mem_map.1 hr'
  rw [toRu_len]
  have := h.hg.rhs x hx
  omega
theorem Wk.row (C : Ctx g w v0 ρ) {k : Nat} {v : Forest_grove} {x : Qu} (h : Wk g w ρ v0 v) (hk : 430000 ≤ k) (hf : Fits (Rs g w) ρ g.Nts.toNat 82 w.length 400000 x) (hx : InR g w x) :
    ∃ v', askF k v x = some ((An g w ρ x : Int), v') ∧ Wk g w ρ v0 v' := by
  obtain ⟨st, h1, h2⟩ := h
  obtain ⟨st', ha, hkn⟩ := ask_ok (R := Rs g w) (by_ := byG g) (has := hasW v0) (ρ := ρ) (K := g.Nts.toNat) (W := 82) (n := w.length) C.hρ (fun a => byG_Rs g w a) C.hhas C.hW 400001 400000 x st (by omega) hf h2
  obtain ⟨v', e', hgr', _⟩ := ask_F C.hg C.hsm C.hw C.hwl C.hv0 400001 k x st _ st' v (by omega) ha h1 hx
  exact ⟨v', e', st', hgr', hkn⟩
theorem an_pos (C : Ctx g w v0 ρ) {q d i m : Nat} {r : Ru} (hq : (Rs g w)[q]? = some r) : 0 < An g w ρ (.r q d i m) ↔ Der (Rs g w) (r.rhs.take d) i m := by
  show 0 < sat (rowsL (trees (Rs g w) ρ g.Nts.toNat) ((((Rs g w)[q]?.map fun r => r.rhs).getD []).take d) i m).length ↔ _
  rw [hq]
  simp only [Option.map_some, Option.getD_some]
  constructor
  · intro h
    refine rowsL_fair (trees_fair ρ g.Nts.toNat) _ fun e => ?_
    rw [e] at h
    exact absurd h (by decide)
  · intro h
    refine Nat.pos_of_ne_zero fun e => rows_some C.hρ h ?_
    exact List.length_eq_zero_iff.1 (sat_zero_iff.1 e)
end
end Go.Vc
