/-
  Texts, slices that are read, rows of the call's own.
-/
import Derived.Test.YtfhbgelpmbkooaaVcD
set_option linter.unusedVariables false
set_option linter.unusedSimpArgs false
namespace Go.Vc
open Go
def inR (i : Int) (n : Nat) : Bool := decide (0 ≤ i) && decide (i < n)
def sub {α : Type} (s : List α) (lo hi : Int) : List α := (s.drop lo.toNat).take (hi.toNat - lo.toNat)
def okSub (lo hi : Int) (n : Nat) : Bool := decide (0 ≤ lo) && decide (lo ≤ hi) && decide (hi ≤ n)
def gquo (k : IntKind) (a b : Int) : Int := k.wrap (a.tdiv b)
def grem (a b : Int) : Int := a.tmod b
def gand (k : IntKind) (a b : Int) : Int := k.wrap ((BitVec.ofInt k.bits a &&& BitVec.ofInt k.bits b).toNat)
def gor (k : IntKind) (a b : Int) : Int := k.wrap ((BitVec.ofInt k.bits a ||| BitVec.ofInt k.bits b).toNat)
def gxor (k : IntKind) (a b : Int) : Int := k.wrap ((BitVec.ofInt k.bits a ^^^ BitVec.ofInt k.bits b).toNat)
def gandNot (k : IntKind) (a b : Int) : Int := k.wrap ((BitVec.ofInt k.bits a &&& ~~~ BitVec.ofInt k.bits b).toNat)
def gshr (k : IntKind) (a b : Int) : Int := a.fdiv (2 ^ (min b.toNat k.bits))
@[simp] theorem inR_iff {i : Int} {n : Nat} : inR i n = true ↔ 0 ≤ i ∧ i < n := by simp [inR]
@[simp] theorem okSub_iff {lo hi : Int} {n : Nat} : okSub lo hi n = true ↔ (0 ≤ lo ∧ lo ≤ hi) ∧ hi ≤ n := by simp [okSub]
section
variable {E : Env} {ops : Array Oper} {os : List Oper} {l : List (Nat × Value)} {H : List HB} {Φ : List (Value × Dc)} {N : SP} {Q : QS}
variable {ty : TypeId} {pos : String} {aft : Array Edge} {d : Nat}
theorem run_underlying' {P : Program} {T : TypeId} {dsc : TypeDesc} (hu : P.underlying T = some dsc) (w : World) : (underlying T).run P w = .ok dsc w := by
  simp only [underlying, program, Sem.run_bind, Sem.run, Result.andThen, hu]; rfl
def cutLo (lo : Option Value) : Option Int := match lo with | none => some 0 | some (.int _ n) => some n | _ => none
def cutHi (n : Nat) (hi : Option Value) : Option Int := match hi with | none => some n | some (.int _ m) => some m | _ => none
def opvO (l : List (Nat × Value)) : Option Operand → Option (Option Value)
  | none => some none
  | some x => (opv l x).map some
theorem opvO_eval {a : Act} {w : World} (hs : St E l H Φ a w) {x : Option Operand} {v : Option Value} (h : opvO l x = some v) : x.map a.eval = v := by
  cases x with
  | none => simp only [opvO, Option.some.injEq] at h; subst h; rfl
  | some x =>
    simp only [opvO, Option.map_eq_some_iff] at h
    obtain ⟨u, h1, rfl⟩ := h
    simp [opv_eval hs h1]
theorem run_bounds {P : Program} {isS : Bool} {len cap : Nat} {lo hi : Option Value} {a b : Int} (h1 : cutLo lo = some a) (h2 : cutHi len hi = some b) (hok : okSub a b len = true) (hc : len ≤ cap) (w : World) :
    (Instr.sliceBounds isS len cap lo hi none).run P w = .ok (a.toNat, b.toNat, cap) w := by
  obtain ⟨⟨h3, h4⟩, h5⟩ := okSub_iff.1 hok
  have hb : ∀ (k : IntKind) (i : Int) (y : Nat) code, 0 ≤ i → i ≤ y → (Instr.sliceBound (.int k i) y code).run P w = .ok i.toNat w := by
    intro k i y code g1 g2
    simp only [Instr.sliceBound, asIntOf, Sem.run_bind]
    simp only [pure, Sem.run, Result.andThen]
    rw [if_pos ⟨g1, g2⟩]; rfl
  cases lo with
  | none =>
    simp only [cutLo, Option.some.injEq] at h1; subst h1
    cases hi with
    | none => simp only [cutHi, Option.some.injEq] at h2; subst h2; simp [Instr.sliceBounds]
    | some v =>
      cases v <;> simp only [cutHi, Option.some.injEq, reduceCtorEq] at h2
      subst h2
      simp [Instr.sliceBounds, hb _ _ cap _ (by omega) (by omega)]
  | some u =>
    cases u <;> simp only [cutLo, Option.some.injEq, reduceCtorEq] at h1
    subst h1
    cases hi with
    | none => simp only [cutHi, Option.some.injEq] at h2; subst h2; simp [Instr.sliceBounds, hb _ _ len _ h3 h4]
    | some v =>
      cases v <;> simp only [cutHi, Option.some.injEq, reduceCtorEq] at h2
      subst h2
      rename_i ku nu kv nv
      have e1 : ∀ code, (Instr.sliceBound (.int kv nv) cap code).run P w = .ok nv.toNat w := fun code => hb kv nv cap code (by omega) (by omega)
      have e2 : ∀ code, (Instr.sliceBound (.int ku nu) nv.toNat code).run P w = .ok nu.toNat w := fun code => hb ku nu nv.toNat code h3 (by omega)
      simp [Instr.sliceBounds, e1, e2]
theorem v_shr {T T' : TypeId} {x y : Operand} {k k' : IntKind} {a b : Int} (hx : opv l x = some (.int k a)) (hy : opv l y = some (.int k' b)) (hb : decide (b < 0) = false) : Val E l H Φ (.binOp .shr T x y T') ty (.int k (gshr k a b)) :=
  v_binr hx hy (fun w => by
    have := of_decide_eq_false hb
    simp [eqGuard, binOp, Op.shift, this, gshr])
theorem v_quo {T T' : TypeId} {x y : Operand} {k : IntKind} {a b : Int} (hx : opv l x = some (.int k a)) (hy : opv l y = some (.int k b)) (hb : (b == 0) = false) : Val E l H Φ (.binOp .quo T x y T') ty (.int k (gquo k a b)) :=
  v_binr hx hy (fun w => by
    have : ¬ b = 0 := by simpa using hb
    simp [eqGuard, binOp, Op.intDiv, this, gquo])
theorem v_rem {T T' : TypeId} {x y : Operand} {k : IntKind} {a b : Int} (hx : opv l x = some (.int k a)) (hy : opv l y = some (.int k b)) (hb : (b == 0) = false) : Val E l H Φ (.binOp .rem T x y T') ty (.int k (grem a b)) :=
  v_binr hx hy (fun w => by
    have : ¬ b = 0 := by simpa using hb
    simp [eqGuard, binOp, Op.intDiv, this, grem])
def bitOp : BinOp → IntKind → Int → Int → Option Int
  | .and, k, a, b => some (gand k a b)
  | .or, k, a, b => some (gor k a b)
  | .xor, k, a, b => some (gxor k a b)
  | .andNot, k, a, b => some (gandNot k a b)
  | _, _, _, _ => none
theorem v_bit {op : BinOp} {T T' : TypeId} {x y : Operand} {k : IntKind} {a b r : Int} (hx : opv l x = some (.int k a)) (hy : opv l y = some (.int k b)) (hr : bitOp op k a b = some r) : Val E l H Φ (.binOp op T x y T') ty (.int k r) :=
  v_binr hx hy (fun w => by
    cases op <;> simp only [bitOp, Option.some.injEq, reduceCtorEq] at hr <;> subst hr <;> simp [eqGuard, binOp, Op.intBits, gand, gor, gxor, gandNot])
end
end Go.Vc
