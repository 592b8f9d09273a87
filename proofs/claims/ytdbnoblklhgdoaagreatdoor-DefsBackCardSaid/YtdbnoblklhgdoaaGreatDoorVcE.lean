import Derived.Test.YtdbnoblklhgdoaaGreatDoorVcD
set_option linter.unusedVariables false
set_option linter.unusedSimpArgs false
namespace Go.Vc
open Go
def xf (i : Int) (n : Nat) : Bool := decide (0 <= i) && decide (i < n)
def yk (s : List UInt8) (i : Int) : Int := ((s.getD i.toNat 0).toNat : Int)
def sub {α : Type} (s : List α) (lo hi : Int) : List α := (s.drop lo.toNat).take (hi.toNat - lo.toNat)
def vp (lo hi : Int) (n : Nat) : Bool := decide (0 <= lo) && decide (lo <= hi) && decide (hi <= n)
def vh (k : IntKind) (a b : Int) : Int := k.wrap (a.tdiv b)
def jL (a b : Int) : Int := a.tmod b
def gand (k : IntKind) (a b : Int) : Int := k.wrap ((BitVec.ofInt k.bits a &&& BitVec.ofInt k.bits b).toNat)
def gor (k : IntKind) (a b : Int) : Int := k.wrap ((BitVec.ofInt k.bits a ||| BitVec.ofInt k.bits b).toNat)
def gxor (k : IntKind) (a b : Int) : Int := k.wrap ((BitVec.ofInt k.bits a ^^^ BitVec.ofInt k.bits b).toNat)
def gandNot (k : IntKind) (a b : Int) : Int := k.wrap ((BitVec.ofInt k.bits a &&& ~~~ BitVec.ofInt k.bits b).toNat)
def gshl (k : IntKind) (a b : Int) : Int := k.wrap (a * 2 ^ (min b.toNat k.bits))
def gshr (k : IntKind) (a b : Int) : Int := a.fdiv (2 ^ (min b.toNat k.bits))
def gu (k : IntKind) (a : Int) : Int := gxor k (if k.signed then -1 else k.max) a
@[simp] theorem yy {i : Int} {n : Nat} : xf i n = true ↔ 0 <= i /\ i < n := by simp [xf]
@[simp] theorem qS {lo hi : Int} {n : Nat} : vp lo hi n = true ↔ (0 <= lo /\ lo <= hi) /\ hi <= n := by simp [vp]
theorem gd (s : List UInt8) : (bs s).toList = s := by
 rw [ByteArray.toList_eq]
 rfl
theorem ul (s : List UInt8) : (bs s).size = s.length := rfl
section
variable {E : wx} {ops : Array Oper} {os : List Oper} {l : List (Nat × Value)} {H : List HB} {Φ : List (Value × Dc)} {N : SP} {Q : QS}
variable {ty : TypeId} {pos : String} {aft : Array Edge} {d : Nat}
theorem yP {T T' : TypeId} {x y : Operand} {s t : List UInt8} (hx : xd l x = some (.string (bs s))) (hy : xd l y = some (.string (bs t))) : wQ E l H Φ (.binOp .eql T x y T') ty (.bool (s == t)) :=
 wV hx hy (fun w => by simp [eqGuard, binOp, Op.stringOp, gd])
theorem w7 {T T' : TypeId} {x y : Operand} {s t : List UInt8} (hx : xd l x = some (.string (bs s))) (hy : xd l y = some (.string (bs t))) : wQ E l H Φ (.binOp .neq T x y T') ty (.bool (!(s == t))) :=
 wV hx hy (fun w => by simp [eqGuard, binOp, Op.stringOp, gd])
theorem bs_append (s t : List UInt8) : bs s ++ bs t = bs (s ++ t) := by
 apply ByteArray.ext
 simp [bs, ByteArray.data_append]
theorem v_strcat {T T' : TypeId} {x y : Operand} {s t : List UInt8} (hx : xd l x = some (.string (bs s))) (hy : xd l y = some (.string (bs t))) (hc : decide (s.length + t.length <= 9223372036854775807) = true) : wQ E l H Φ (.binOp .add T x y T') ty (.string (bs (s ++ t))) :=
 wV hx hy (fun w => by
  have hc' : s.length + t.length <= 9223372036854775807 := of_decide_eq_true hc
  have hm : ¬ (((bs s).size + (bs t).size : Nat) : Int) > IntKind.i64.max := by
   rw [ul, ul]
   have e : IntKind.i64.max = 9223372036854775807 := by decide
   rw [e]; omega
  simp only [eqGuard, binOp, Op.stringOp, Sem.run_bind]
  rw [if_neg hm, bs_append]
  simp)
theorem yw {T : TypeId} {x y : Operand} {s : List UInt8} {k : IntKind} {i : Int} (hu : E.P.underlying T = some .string) (hx : xd l x = some (.string (bs s))) (hy : xd l y = some (.int k i)) (hi : xf i s.length = true) : wQ E l H Φ (.index T x y) ty (.int .u8 (yk s i)) :=
 v_index hx hy (fun w => by
  obtain ⟨h0, h1⟩ := yy.1 hi
  have hlt : i.toNat < s.length := by omega
  have e : (underlying T).run E.P w = .ok .string w := by
   simp only [underlying, program, Sem.run_bind, Sem.run, Result.andThen, hu]; rfl
  have hg : (bs s)[i.toNat]? = some s[i.toNat] := by
   rw [getElem?_pos (bs s) i.toNat (by rw [ul]; exact hlt)]
   rfl
  simp only [Instr.index, asIntOf, Sem.run_bind]
  simp only [pure, Sem.run, Result.andThen, e]
  rw [if_pos h0, hg]
  simp [yk, hlt])
theorem yA {P : Program} {T : TypeId} {dsc : TypeDesc} (hu : P.underlying T = some dsc) (w : World) : (underlying T).run P w = .ok dsc w := by
 simp only [underlying, program, Sem.run_bind, Sem.run, Result.andThen, hu]; rfl
theorem yo {T : TypeId} {x : Operand} {s : List UInt8} (hu : E.P.underlying T = some .string) (hx : xd l x = some (.string (bs s))) : wQ E l H Φ (.call ⟨.builtin .len, #[x], #[T]⟩) ty (.int .i64 (s.length : Int)) :=
 fun a w hs dd pp aa gg => by
  simp only [execOp, resolve, List.map_toArray, List.map_cons, List.map_nil, zE hs hx, Sem.run_bind]
  simp only [pure, Sem.run, Result.andThen, invoke, builtin, Builtin.len_]
  simp [yA hu, goInt, ul]
theorem bs_extract (s : List UInt8) (a b : Nat) : (bs s).extract a b = bs ((s.drop a).take (b - a)) := by
 apply ByteArray.ext
 simp [bs, ByteArray.data_extract, List.extract_eq_take_drop]
def cutLo (lo : Option Value) : Option Int := match lo with | none => some 0 | some (.int _ n) => some n | _ => none
def cutHi (n : Nat) (hi : Option Value) : Option Int := match hi with | none => some n | some (.int _ m) => some m | _ => none
def opvO (l : List (Nat × Value)) : Option Operand -> Option (Option Value)
 | none => some none
 | some x => (xd l x).map some
theorem opvO_eval {a : Act} {w : World} (hs : St E l H Φ a w) {x : Option Operand} {v : Option Value} (h : opvO l x = some v) : x.map a.eval = v := by
 cases x with
 | none => simp only [opvO, Option.some.injEq] at h; subst h; rfl
 | some x =>
  simp only [opvO, Option.map_eq_some_iff] at h
  obtain ⟨u, h1, rfl⟩ := h
  simp [zE hs h1]
theorem run_bounds {P : Program} {isS : Bool} {len cap : Nat} {lo hi : Option Value} {a b : Int} (h1 : cutLo lo = some a) (h2 : cutHi len hi = some b) (hok : vp a b len = true) (hc : len <= cap) (w : World) :
  (Instr.sliceBounds isS len cap lo hi none).run P w = .ok (a.toNat, b.toNat, cap) w := by
 obtain ⟨⟨h3, h4⟩, h5⟩ := qS.1 hok
 have hb : ∀ (k : IntKind) (i : Int) (y : Nat) code, 0 <= i -> i <= y -> (Instr.sliceBound (.int k i) y code).run P w = .ok i.toNat w := by
  intro k i y code g1 g2
  simp only [Instr.sliceBound, asIntOf, Sem.run_bind]
  simp only [pure, Sem.run, Result.andThen]
  rw [if_pos ⟨g1, g2⟩]; rfl
 cases lo with
 | none =>
  simp only [cutLo, Option.some.injEq] at h1; subst h1
  cases hi with
  | none => simp only [cutHi, Option.some.injEq] at h2; subst h2; simp [Instr.sliceBounds]
  | some v =>
   cases v <;> simp only [cutHi, Option.some.injEq, reduceCtorEq] at h2
   subst h2
   simp [Instr.sliceBounds, hb _ _ cap _ (by omega) (by omega)]
 | some u =>
  cases u <;> simp only [cutLo, Option.some.injEq, reduceCtorEq] at h1
  subst h1
  cases hi with
  | none => simp only [cutHi, Option.some.injEq] at h2; subst h2; simp [Instr.sliceBounds, hb _ _ len _ h3 h4]
  | some v =>
   cases v <;> simp only [cutHi, Option.some.injEq, reduceCtorEq] at h2
   subst h2
   rename_i ku nu kv nv
   have e1 : ∀ code, (Instr.sliceBound (.int kv nv) cap code).run P w = .ok nv.toNat w := fun code => hb kv nv cap code (by omega) (by omega)
   have e2 : ∀ code, (Instr.sliceBound (.int ku nu) nv.toNat code).run P w = .ok nu.toNat w := fun code => hb ku nu nv.toNat code h3 (by omega)
   simp [Instr.sliceBounds, e1, e2]
theorem w9 {T : TypeId} {x : Operand} {lo hi : Option Operand} {vlo vhi : Option Value} {s : List UInt8} {p q : Int} (hu : E.P.underlying T = some .string) (hx : xd l x = some (.string (bs s))) (hlo : opvO l lo = some vlo) (hhi : opvO l hi = some vhi)
  (h1 : cutLo vlo = some p) (h2 : cutHi s.length vhi = some q) (hok : vp p q s.length = true) : wQ E l H Φ (.slice T x lo hi none) ty (.string (bs (sub s p q))) :=
 fun a w hs dd pp aa gg => by
  simp only [execOp, zE hs hx, opvO_eval hs hlo, opvO_eval hs hhi, Option.map_none, Sem.run_bind]
  have e : (Instr.sliceAt T (.string (bs s)) vlo vhi none).run E.P w = .ok (.string (bs (sub s p q))) w := by
   simp only [Instr.sliceAt, Sem.run_bind, yA hu, Result.andThen, Instr.slice]
   have := run_bounds (P := E.P) (isS := false) (cap := s.length) h1 h2 hok (Nat.le_refl _) w
   simp [ul, this, bs_extract, sub]
  rw [e]; rfl
theorem v_shl {T T' : TypeId} {x y : Operand} {k k' : IntKind} {a b : Int} (hx : xd l x = some (.int k a)) (hy : xd l y = some (.int k' b)) (hb : decide (b < 0) = false) : wQ E l H Φ (.binOp .shl T x y T') ty (.int k (gshl k a b)) :=
 wV hx hy (fun w => by
  have := of_decide_eq_false hb
  simp [eqGuard, binOp, Op.shift, this, gshl])
theorem v_shr {T T' : TypeId} {x y : Operand} {k k' : IntKind} {a b : Int} (hx : xd l x = some (.int k a)) (hy : xd l y = some (.int k' b)) (hb : decide (b < 0) = false) : wQ E l H Φ (.binOp .shr T x y T') ty (.int k (gshr k a b)) :=
 wV hx hy (fun w => by
  have := of_decide_eq_false hb
  simp [eqGuard, binOp, Op.shift, this, gshr])
theorem v_quo {T T' : TypeId} {x y : Operand} {k : IntKind} {a b : Int} (hx : xd l x = some (.int k a)) (hy : xd l y = some (.int k b)) (hb : (b == 0) = false) : wQ E l H Φ (.binOp .quo T x y T') ty (.int k (vh k a b)) :=
 wV hx hy (fun w => by
  have : ¬ b = 0 := by simpa using hb
  simp [eqGuard, binOp, Op.intDiv, this, vh])
theorem v_rem {T T' : TypeId} {x y : Operand} {k : IntKind} {a b : Int} (hx : xd l x = some (.int k a)) (hy : xd l y = some (.int k b)) (hb : (b == 0) = false) : wQ E l H Φ (.binOp .rem T x y T') ty (.int k (jL a b)) :=
 wV hx hy (fun w => by
  have : ¬ b = 0 := by simpa using hb
  simp [eqGuard, binOp, Op.intDiv, this, jL])
def bitOp : BinOp -> IntKind -> Int -> Int -> Option Int
 | .and, k, a, b => some (gand k a b)
 | .or, k, a, b => some (gor k a b)
 | .xor, k, a, b => some (gxor k a b)
 | .andNot, k, a, b => some (gandNot k a b)
 | _, _, _, _ => none
theorem v_bit {op : BinOp} {T T' : TypeId} {x y : Operand} {k : IntKind} {a b r : Int} (hx : xd l x = some (.int k a)) (hy : xd l y = some (.int k b)) (hr : bitOp op k a b = some r) : wQ E l H Φ (.binOp op T x y T') ty (.int k r) :=
 wV hx hy (fun w => by
  cases op <;> simp only [bitOp, Option.some.injEq, reduceCtorEq] at hr <;> subst hr <;> simp [eqGuard, binOp, Op.intBits, gand, gor, gxor, gandNot])
end
end Go.Vc
