/-
  Sets of four words, tests, loops with two ways out, equality of records.
-/
import Derived.Test.YtfhbgelpmbkooaaVcI
import Derived.Laws.StructEq
set_option linter.unusedVariables false
set_option linter.unusedSimpArgs false
namespace Go.Vc
open Go
structure S4 where
  w0 : Int
  w1 : Int
  w2 : Int
  w3 : Int
instance : Inhabited S4 := ⟨⟨0, 0, 0, 0⟩⟩
def S4.get (s : S4) (i : Int) : Int := match i.toNat with
  | 0 => s.w0
  | 1 => s.w1
  | 2 => s.w2
  | _ => s.w3
def S4.set (s : S4) (i v : Int) : S4 := match i.toNat with
  | 0 => ⟨v, s.w1, s.w2, s.w3⟩
  | 1 => ⟨s.w0, v, s.w2, s.w3⟩
  | 2 => ⟨s.w0, s.w1, v, s.w3⟩
  | _ => ⟨s.w0, s.w1, s.w2, v⟩
def S4.vs (s : S4) : List Value := [.int .u64 s.w0, .int .u64 s.w1, .int .u64 s.w2, .int .u64 s.w3]
def S4.eq (s t : S4) : Bool := (s.w0 == t.w0) && ((s.w1 == t.w1) && ((s.w2 == t.w2) && (s.w3 == t.w3)))
def eI64 (n : Int) : List Dc := [.int .i64 n]
def eB (b : Bool) : List Dc := [.bool b]
def eSl {α : Type} (sz : Nat) (e : α → List Dc) (xs : List α) : List Dc := [.slice sz (xs.map e)]
inductive LR (α β : Type) where
  | ret (b : β)
  | done (a : α)
def LR.go {α β γ : Type} (x : LR α β) (f : α → Option (LR γ β)) : Option (LR γ β) := match x with
  | .ret b => some (.ret b)
  | .done a => f a
def LR.fin {α β : Type} (x : LR α β) (f : α → Option β) : Option β := match x with
  | .ret b => some b
  | .done a => f a
theorem lr_ret {α β γ : Type} {b : β} {f : α → Option (LR γ β)} {o : LR γ β} (h : LR.go (.ret b) f = some o) : o = .ret b := (Option.some.inj h).symm
theorem lrf_ret {α β : Type} {b r : β} {f : α → Option β} (h : LR.fin (.ret b) f = some r) : r = b := (Option.some.inj h).symm
theorem lr_done {α β γ : Type} {a : α} {f : α → Option (LR γ β)} {o : LR γ β} (h : LR.go (.done a) f = some o) : f a = some o := h
theorem lrf_done {α β : Type} {a : α} {f : α → Option β} {r : β} (h : LR.fin (.done a) f = some r) : f a = some r := h
theorem ite_none {c : Bool} {α : Type} {x : Option α} {r : α} {G : Prop} (h : (if c then none else x) = some r) (k : c = false → x = some r → G) : G := by
  cases c with
  | true => cases h
  | false => exact k rfl h
theorem ite_t {c : Bool} {α : Type} {x y : α} {r : α} (hc : c = true) (h : (if c then x else y) = r) : x = r := by subst hc; exact h
theorem ite_f {c : Bool} {α : Type} {x y : α} {r : α} (hc : c = false) (h : (if c then x else y) = r) : y = r := by subst hc; exact h
theorem bd {α β : Type} {x : Option α} {f : α → Option β} {r : β} (h : x.bind f = some r) : ∃ v, x = some v ∧ f v = some r := Option.bind_eq_some_iff.1 h
section
variable {E : Env} {ops : Array Oper} {os : List Oper} {l : List (Nat × Value)} {H : List HB} {Φ : List (Value × Dc)} {N : SP} {Q : QS}
variable {ty : TypeId} {pos : String} {aft : Array Edge} {d : Nat}
theorem v_not {T : TypeId} {x : Operand} {b : Bool} (hx : opv l x = some (.bool b)) : Val E l H Φ (.unOp .not T x) ty (.bool (!b)) :=
  v_un hx (fun w => by simp [Op.unary])
def arT (P : Program) (T : TypeId) : Option (Nat × Nat) :=
  match P.underlying T with
  | some (.array n e) => match P.info? e with
    | some i => some (n, i.size)
    | none => none
  | _ => none
theorem arT_parts {P : Program} {T : TypeId} {n sz : Nat} (h : arT P T = some (n, sz)) : ∃ e i, P.underlying T = some (.array n e) ∧ P.info? e = some i ∧ i.size = sz := by
  unfold arT at h
  split at h
  · rename_i n' e hu
    split at h
    · rename_i i hi
      simp only [Option.some.injEq, Prod.mk.injEq] at h
      obtain ⟨rfl, rfl⟩ := h
      exact ⟨e, i, hu, hi, rfl⟩
    · cases h
  · cases h
theorem run_sizeOf' {P : Program} {e : TypeId} {i : TypeInfo} (hi : P.info? e = some i) (w : World) : (sizeOf e).run P w = .ok i.size w := by
  have h : (typeInfo e).run P w = .ok i w := by
    simp only [typeInfo, program, Sem.run_bind, Sem.run, Result.andThen, hi]; rfl
  simp only [sizeOf, Sem.run_bind, h, Result.andThen]; rfl
theorem v_indexAddr_a {T : TypeId} {x y : Operand} {b o n sz : Nat} {k : IntKind} {i : Int} (ht : arT E.P T = some (n, sz)) (hx : opv l x = some (.pointer (some ⟨b, o, none⟩))) (hy : opv l y = some (.int k i))
    (hi : inR i n = true) : Val E l H Φ (.indexAddr T x y) ty (.pointer (some ⟨b, o + i.toNat * sz, none⟩)) := by
  intro ac w hs _ _ _ _
  obtain ⟨h0, h1⟩ := inR_iff.1 hi
  obtain ⟨e, inf, hu, h2, h3⟩ := arT_parts ht
  simp only [execOp, opv_eval hs hx, opv_eval hs hy, Sem.run_bind]
  have e2 : (Instr.indexAt T (.pointer (some ⟨b, o, none⟩)) (.int k i)).run E.P w = .ok (.pointer (some ⟨b, o + i.toNat * sz, none⟩)) w := by
    simp only [Instr.indexAt, asIntOf, Sem.run_bind, run_underlying' hu, Result.andThen]
    simp [Instr.sureAddr, run_underlying' hu, h0, h1, run_sizeOf' h2, h3, add_none]
  rw [e2]; rfl
theorem S4.get_vs (s : S4) {i : Int} (hi : inR i 4 = true) : s.vs[i.toNat]? = some (.int .u64 (s.get i)) := by
  obtain ⟨h0, h1⟩ := inR_iff.1 hi
  have : i.toNat < 4 := by omega
  unfold S4.get S4.vs
  match i.toNat, this with
  | 0, _ => rfl
  | 1, _ => rfl
  | 2, _ => rfl
  | 3, _ => rfl
theorem v_load_a (j : Nat) {t : TypeId} {x : Operand} {b : Nat} {T : TypeId} {i : Int} (s : S4) (ht : tyd E.P t = some (false, 1)) (hx : opv l x = some (.pointer (some ⟨b, 0 + i.toNat * 1, none⟩)))
    (hj : H[j]? = some (.box b T s.vs)) (hi : inR i 4 = true) : Val E l H Φ (.load t x) ty (.int .u64 (s.get i)) := by
  intro a w hs _ _ _ _
  have hb := box_cells hs hj
  have hr := run_loadVar (P := E.P) ht (b := b) (o := 0 + i.toNat * 1) (w := w) [.int .u64 (s.get i)] rfl (fun _ => rfl) (fun q hq => by
    have hq0 : q = 0 := by simpa using hq
    subst hq0
    simp only [World.cell?, hb, Option.isSome_none, Bool.false_eq_true, if_false]
    have := s.get_vs hi
    simpa using this)
  simp only [execOp, opv_eval hs hx, Instr.loadAt, Instr.sureAddr, Sem.run_bind]
  simp only [pure, Sem.run, Result.andThen, hr, asVal, List.headD]
theorem v_load_s {α : Type} [Inhabited α] {t : TypeId} {x : Operand} {a : Option Addr} {n c sz : Nat} {i : Int} {j m : Nat} {ag : Bool} {xs : List α} {enc : α → List Dc} {ds : List Dc} {v : Value} (ht : tyd E.P t = some (ag, m)) (hx : opv l x = some (.pointer (some ⟨blkA a, offA a + (i.toNat * sz + j), none⟩)))
    (hw : Where H Φ (.slice a n c) sz (xs.map enc)) (hi : inR i xs.length = true) (hds : ((enc (at_ xs i)).drop j).take m = ds) (hm : Nat.beq ds.length m = true) (h1 : (ag || Nat.beq m 1) = true) (h0 : Nat.blt 0 m = true) (hna : noAt ds = true) (hns : nSl ds = 0)
    (hv : asVal ag (cellsV ds []) = v) : Val E l H Φ (.load t x) ty v := by
  intro ac w hs dst pos aft g
  have hm' := Nat.eq_of_beq_eq_true hm
  obtain ⟨hlt, hget⟩ := at_get hi
  have hse := hw.seen hs
  have hc := hse.cells i.toNat (by simpa using hlt)
  have key : ∀ y, xs[i.toNat] = y → (enc y).length = sz ∧ ∀ q (hq : q < (enc y).length), ∃ u, w.cell? ⟨blkA a, offA a + (i.toNat * sz + q), none⟩ = some u ∧ PureC w (fun b => E.X b ∨ b ∈ blks H) u (enc y)[q] := by
    rintro y rfl
    obtain ⟨g1, g2, g3⟩ := hc
    exact ⟨by simpa using g1, by simpa using g3⟩
  obtain ⟨g1, g3⟩ := key _ hget.symm
  have hjm : j + m ≤ (enc (at_ xs i)).length := by
    have := congrArg List.length hds
    simp only [List.length_take, List.length_drop, hm'] at this
    have := blt_lt h0
    omega
  have hcell : ∀ q (hq : q < ds.length), ∃ u, w.cell? ⟨blkA a, offA a + (i.toNat * sz + j) + q, none⟩ = some u ∧ PureC w (fun b => E.X b ∨ b ∈ blks H) u ds[q] := by
    intro q hq
    obtain ⟨u, h2, h3⟩ := g3 (j + q) (by omega)
    refine ⟨u, ?_, ?_⟩
    · rw [← h2]; congr 2; omega
    · subst hds
      simpa using h3
  have hpure : ∃ vs : List Value, vs.length = ds.length ∧ (∀ q (hq : q < vs.length), w.cell? ⟨blkA a, offA a + (i.toNat * sz + j) + q, none⟩ = some vs[q]) ∧ Pures w (fun b => E.X b ∨ b ∈ blks H) vs ds := by
    refine ⟨(List.range ds.length).map fun q => (w.cell? ⟨blkA a, offA a + (i.toNat * sz + j) + q, none⟩).getD undef, by simp, ?_, ?_⟩
    · intro q hq
      obtain ⟨u, h2, _⟩ := hcell q (by simpa using hq)
      simp [h2]
    · refine Pures.of_get _ _ (by simp) fun q hq => ?_
      obtain ⟨u, h2, h3⟩ := hcell q hq
      exact ⟨u, by simp [hq, h2], h3⟩
  obtain ⟨vs, hv1, hv2, hv3⟩ := hpure
  obtain ⟨sl, hs1, hs2, hs3⟩ := hv3.cells hna
  have hsl : sl = [] := List.eq_nil_of_length_eq_zero (by rw [hs1, hns])
  subst hsl
  have hr := run_loadVar (P := E.P) ht (b := blkA a) (o := offA a + (i.toNat * sz + j)) (w := w) vs (by omega) (fun e => by subst e; simpa using Nat.eq_of_beq_eq_true (by simpa using h1)) hv2
  simp only [execOp, opv_eval hs hx, Instr.loadAt, Instr.sureAddr, Sem.run_bind]
  simp only [pure, Sem.run, Result.andThen, hr]
  rw [hs2, hv]
theorem v_lenS {α : Type} {enc : α → List Dc} (xs : List α) {T : TypeId} {x : Operand} {a : Option Addr} {n c sz e bytes : Nat} (ht : slT E.P T = some (e, sz, bytes)) (hx : opv l x = some (.slice a n c)) (hw : Where H Φ (.slice a n c) sz (xs.map enc)) :
    Val E l H Φ (.call ⟨.builtin .len, #[x], #[T]⟩) ty (.int .i64 (xs.length : Int)) := v_len ht hx hw (by simp)
theorem v_makeFunc {f : FuncId} {cap : Array Operand} {vs : List Value} (hv : opvL l cap.toList = some vs) : Val E l H Φ (.makeFunc (.func f) #[] cap) ty (.func (.func f) #[] vs.toArray) :=
  fun a w hs dd pp aa gg => by
    have e : cap.map a.eval = vs.toArray := by
      rw [← opvL_eval hs _ _ hv, ← List.map_toArray]
    simp only [execOp, e]
    simp [Instr.makeFunc]
theorem fin_sel {a : Act} {w : World} (hs : St E l H Φ a w) (js : List Nat) {H' : List HB} {Φ' : List (Value × Dc)} {post : Post} {out : Out} (hp : post out H' Φ') (hsel : selS js H = H') (hΦ : ∀ p ∈ Φ', p ∈ Φ) :
    Fin E.w0 E.X E.M post out w := by
  have hq := sel_perm js H
  rw [hsel] at hq
  refine ⟨H', Φ', hp, hs.frm, (hs.own.perm hq).sub (List.sublist_append_left _ _) hΦ, fun b hb => hs.base b ?_⟩
  refine ((perm_blks hq).mem_iff).2 ?_
  rw [blks_append]
  exact List.mem_append.2 (.inl hb)
theorem c_exit0 {id : Nat} {N0 R : SP} {r : List (Nat × SP)} {Pn : Value → SP} (h : Sat E l H Φ N0) : WC E (.exit id) l H Φ N ⟨(id, N0) :: r, R, Pn⟩ := by
  refine c_exit ?_
  have e : lk id ((id, N0) :: r) = N0 := by simp only [lk]; rw [Nat.beq_refl]
  show Sat E l H Φ (lk id ((id, N0) :: r))
  rw [e]; exact h
theorem c_exit2 {id i1 i2 : Nat} {N0 N1 N2 R : SP} {r : List (Nat × SP)} {Pn : Value → SP} (h : Sat E l H Φ N0) (hne : Nat.beq id i1 = false := by rfl) (hne2 : Nat.beq id i2 = false := by rfl) : WC E (.exit id) l H Φ N ⟨(i1, N1) :: (i2, N2) :: (id, N0) :: r, R, Pn⟩ := by
  refine c_exit ?_
  have e : lk id ((i1, N1) :: (i2, N2) :: (id, N0) :: r) = N0 := by simp only [lk]; rw [hne, hne2, Nat.beq_refl]
  show Sat E l H Φ (lk id ((i1, N1) :: (i2, N2) :: (id, N0) :: r))
  rw [e]; exact h
def EqIn (P : Program) (n : Nat) (t : TypeId) (u v : Value) (b : Bool) : Prop := ∀ w d, (Op.equalIn (d + n) t u v).run P w = .ok b w
def EqFs (P : Program) (n : Nat) (xs ys : Array Value) (fs : List Field) (b : Bool) : Prop := ∀ w d, (Op.eqFields (d + n) xs ys fs).run P w = .ok b w
theorem eqi_int {P : Program} {t : TypeId} {k k' : IntKind} {a b : Int} (n : Nat) (h : P.underlying t = some (.int k')) : EqIn P (n + 1) t (.int k a) (.int k b) (a == b) := fun w d => run_equalIn_int w (d + n) t k k' a b h
theorem eqf_nil {P : Program} {n : Nat} {xs ys : Array Value} : EqFs P n xs ys [] true := fun _ _ => rfl
theorem eqf_cons {P : Program} {n : Nat} {xs ys : Array Value} {f : Field} {fs : List Field} {u v : Value} {b c : Bool} (hn : (f.name == "_") = false) (h1 : ∀ w, (part f.type xs f.offset).run P w = .ok u w) (h2 : ∀ w, (part f.type ys f.offset).run P w = .ok v w)
    (e : EqIn P n f.type u v b) (r : EqFs P n xs ys fs c) : EqFs P n xs ys (f :: fs) (b && c) := by
  intro w d
  have hne : f.name ≠ "_" := by simpa using hn
  simp only [Op.eqFields, hne, ne_eq, not_false_eq_true, if_true, Sem.run_bind, h1, h2, Result.andThen, e w d]
  cases b with
  | true => simpa using r w d
  | false => rfl
theorem eqi_struct {P : Program} {n : Nat} {t : TypeId} {fa : Array Field} {xs ys : Array Value} {b : Bool} (ht : P.underlying t = some (.struct fa)) (hp : P.stoodInHeld t = false) (h : EqFs P n xs ys fa.toList b) : EqIn P (n + 1) t (.agg xs) (.agg ys) b := by
  intro w d
  have e : P.fieldsOf t = fa := by simp [Program.fieldsOf, ht]
  have := run_equalIn_struct (P := P) w (d + n) t xs ys (by rw [e]; exact ht) hp
  rw [e] at this
  exact this.trans (h w d)
theorem eqi_arr4 {P : Program} {n : Nat} {t e : TypeId} {s s' : S4} (ht : P.underlying t = some (.array 4 e)) (he : P.underlying e = some (.int .u64)) (hd : tyd P e = some (false, 1)) : EqIn P (n + 2) t (.agg s.vs.toArray) (.agg s'.vs.toArray) (S4.eq s s') := by
  intro w d
  obtain ⟨e1, e2⟩ := tyd_isAgg hd w
  have ei : ∀ (a b : Int), (Op.equalIn (d + n + 1) e (.int .u64 a) (.int .u64 b)).run P w = .ok (a == b) w := fun a b => run_equalIn_int w (d + n) e .u64 .u64 a b he
  have hp : ∀ (s : S4) (i : Nat) (v : Value), s.vs[i]? = some v → (part e s.vs.toArray i).run P w = .ok v w := by
    intro s i v hv
    simp only [part, Sem.run_bind, e1, Result.andThen, Bool.false_eq_true, if_false, List.getElem?_toArray, hv]
    rfl
  have p0 : ∀ s : S4, (part e s.vs.toArray (0 * 1)).run P w = .ok (.int .u64 s.w0) w := fun s => hp s _ _ rfl
  have p1 : ∀ s : S4, (part e s.vs.toArray (1 * 1)).run P w = .ok (.int .u64 s.w1) w := fun s => hp s _ _ rfl
  have p2 : ∀ s : S4, (part e s.vs.toArray (2 * 1)).run P w = .ok (.int .u64 s.w2) w := fun s => hp s _ _ rfl
  have p3 : ∀ s : S4, (part e s.vs.toArray (3 * 1)).run P w = .ok (.int .u64 s.w3) w := fun s => hp s _ _ rfl
  have q0 : ∀ s : S4, (part e s.vs.toArray 0).run P w = .ok (.int .u64 s.w0) w := p0
  have q1 : ∀ s : S4, (part e s.vs.toArray 1).run P w = .ok (.int .u64 s.w1) w := p1
  have q2 : ∀ s : S4, (part e s.vs.toArray 2).run P w = .ok (.int .u64 s.w2) w := p2
  have q3 : ∀ s : S4, (part e s.vs.toArray 3).run P w = .ok (.int .u64 s.w3) w := p3
  show (Op.equalIn ((d + n + 1) + 1) t (.agg s.vs.toArray) (.agg s'.vs.toArray)).run P w = _
  rw [Op.equalIn]
  generalize Op.equalIn (d + n + 1) = eqn at ei ⊢
  generalize hpa : part e s.vs.toArray = pa at ⊢
  generalize hpb : part e s'.vs.toArray = pb at ⊢
  have h4 : List.range' 0 4 1 = [0, 1, 2, 3] := rfl
  simp only [Sem.run_bind, run_underlying' ht, Result.andThen, e2]
  simp only [Std.Legacy.Range.forIn_eq_forIn_range', Std.Legacy.Range.size, Nat.sub_zero, Nat.add_sub_cancel, Nat.div_one, h4, List.forIn_cons, List.forIn_nil, Sem.run_bind]
  subst hpa
  subst hpb
  obtain ⟨f, hf⟩ : ∃ f : Int → Int → Bool, ∀ a b, f a b = (a == b) := ⟨_, fun _ _ => rfl⟩
  simp only [← hf] at ei
  have hS : S4.eq s s' = (f s.w0 s'.w0 && (f s.w1 s'.w1 && (f s.w2 s'.w2 && f s.w3 s'.w3))) := by simp only [S4.eq, hf]
  rw [hS]
  simp only [p0, p1, p2, p3, Result.andThen, ei]
  cases h0 : f s.w0 s'.w0 <;> cases h1 : f s.w1 s'.w1 <;> cases h2 : f s.w2 s'.w2 <;> cases h3 : f s.w3 s'.w3 <;> simp [p0, p1, p2, p3, q0, q1, q2, q3, ei, Result.andThen, h0, h1, h2, h3]
theorem v_agne {T T' : TypeId} {x y : Operand} {xs ys : Array Value} {b : Bool} (n : Nat) (hx : opv l x = some (.agg xs)) (hy : opv l y = some (.agg ys)) (he : EqIn E.P n T (.agg xs) (.agg ys) b) (hn : Nat.ble n 10000 = true) (hg : E.P.eqGuardType E.P.depth T = false) :
    Val E l H Φ (.binOp .neq T x y T') ty (.bool (!b)) :=
  v_binr hx hy (fun w => by
    have hle := Nat.le_of_ble_eq_true hn
    have h1 := he w (10000 - n)
    rw [Nat.sub_add_cancel hle] at h1
    simp only [Sem.run_bind, run_eqGuard_agg w .neq T x y xs ys hg, Result.andThen, run_neq_struct, h1])
end
end Go.Vc
