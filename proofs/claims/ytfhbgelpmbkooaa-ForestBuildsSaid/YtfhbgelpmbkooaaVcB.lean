/-
  The judgements: a piece of code, or the operations left of a region, from a state that is told by its temporaries, the call's own blocks and what reads as data.
-/
import Derived.Test.YtfhbgelpmbkooaaVcA
import Derived.WalkKit
import Derived.RangeFuncNested
import Derived.RangeFuncLeaves
import Derived.RangeFuncCalls
set_option linter.unusedVariables false
set_option linter.unusedSimpArgs false
namespace Go.Vc
open Go
abbrev SP := Act → World → Prop
structure Env where
  P : Program
  n : Nat
  w0 : World
  X : Nat → Prop
  M : List Nat
  ds : List Deferred
  rd : Option Nat
def Env.F (E : Env) : Fence := { Fence.wide with round := E.rd }
theorem fenced_F (E : Env) (P : Program) : Machine.fenced P E.F = Machine.fenced P Fence.wide := rfl
theorem callsIn_F {E : Env} {n : Nat} {P : Program} {f : FuncId} {args : Array Value} {w : World} {R : Ending → World → Prop} (h : Calls P f args w R) : CallsIn E.F n P f args w R :=
  (callsIn_wide (n := n)).2 h
theorem rowsIn_F {E : Env} {n : Nat} {P : Program} {row : String} {args : Array Value} {w : World} {R : Value → World → Prop} (h : Rows P row args w R) : RowsIn E.F n P row args w R := by
  intro c cs _
  obtain ⟨v, w', r, s⟩ := h c cs
  refine ⟨v, w', r, ?_⟩
  rw [fenced_F]
  exact stepsIn_wide.2 s
def nodef (ops : Array Oper) : Bool := ops.toList.all fun o => match o.op with
  | .defer _ => false
  | _ => true
theorem nodef_spec {ops : Array Oper} (h : nodef ops = true) {i : Nat} {o : Oper} (ho : ops[i]? = some o) : ∀ c, o.op ≠ .defer c := by
  intro c hc
  have := List.all_eq_true.1 h o (Array.mem_def.1 (Array.mem_of_getElem? ho))
  simp [hc] at this
theorem oper_wpIn {E : Env} {P : Program} {o : Oper} {a : Act} {w : World} {K' : Act → World → Prop} {Q : Exit → Act → World → Prop} (hd : E.rd = none ∨ ∀ c, o.op ≠ .defer c) (h : o.wp P a w K' Q) : o.wpIn E.F 1 P a w K' Q := by
  refine ⟨fun _ _ => trivial, ?_⟩
  have e : o.semAt E.F.round a.eval = execOp a.eval o := by
    rcases hd with hd | hd
    · have : E.F.round = none := hd
      rw [this]; rfl
    · exact Oper.semAt_eq _ _ _ hd
  rw [e]
  unfold Oper.wp at h
  generalize (execOp a.eval o).run P w = r at h ⊢
  cases r with
  | ok x w' =>
    cases x <;> simp only [Oper.upon] at h <;> simp only [Oper.uponIn] <;> first | exact h | exact ⟨fun _ => Nat.le_refl 1, callsIn_F h⟩ | exact ⟨fun _ => Nat.le_refl 1, rowsIn_F h⟩
  | halt x w' =>
    cases x <;> simp only [Oper.upon] at h <;> simp only [Oper.uponIn]
    exact h
def findT : Nat → List (Nat × Value) → Option Value
  | _, [] => none
  | t, p :: l => match Nat.beq t p.1 with
    | true => some p.2
    | false => findT t l
structure St (E : Env) (l : List (Nat × Value)) (H : List HB) (Φ : List (Value × Dc)) (a : Act) (w : World) : Prop where
  size : a.tmps.size = E.n
  defers : a.defers = E.ds
  tm : ∀ t v, findT t l = some v → a.tmps[t]? = some v
  own : Own w E.X H Φ
  frm : Frm E.w0 E.M w
  base : ∀ b ∈ blks H, E.w0.heap.size ≤ b ∨ b ∈ E.M
def Sat (E : Env) (l : List (Nat × Value)) (H : List HB) (Φ : List (Value × Dc)) (N : SP) : Prop := ∀ a w, St E l H Φ a w → N a w
structure QS where
  Xs : List (Nat × SP)
  R : SP
  Pn : Value → SP
def lk : Nat → List (Nat × SP) → SP
  | _, [] => fun _ _ => False
  | i, p :: r => match Nat.beq i p.1 with
    | true => p.2
    | false => lk i r
def K (N : SP) (Q : QS) : Exit → Act → World → Prop
  | .normal, a, w => N a w
  | .exit id, a, w => lk id Q.Xs a w
  | .ret, a, w => Q.R a w
  | .panic ch, a, w => ∃ v, ch = [{ v, recovered := false }] ∧ Q.Pn v a w
  | _, _, _ => False
def WC (E : Env) (c : Code) (l : List (Nat × Value)) (H : List HB) (Φ : List (Value × Dc)) (N : SP) (Q : QS) : Prop :=
  ∀ a w, St E l H Φ a w → c.wpIn E.F 1 E.P (K N Q) a w
def wpL (P : Program) (ops : Array Oper) (Q : Exit → Act → World → Prop) : List Oper → Act → World → Prop
  | [], a, w => Q .normal a w
  | o :: rest, a, w => if Region.wanted o (yielded ops a.tmps) then o.wp P a w (wpL P ops Q rest) Q else wpL P ops Q rest (a.put o.dst undef) w
def WO (E : Env) (ops : Array Oper) (os : List Oper) (l : List (Nat × Value)) (H : List HB) (Φ : List (Value × Dc)) (N : SP) (Q : QS) : Prop :=
  ∀ a w, St E l H Φ a w → wpL E.P ops (K N Q) os a w
theorem wpL_ops {E : Env} {P : Program} {ops : Array Oper} {Q : Exit → Act → World → Prop} (hd : ∀ (i : Nat) (o : Oper), ops[i]? = some o → E.rd = none ∨ ∀ c, o.op ≠ .defer c) : ∀ (n i : Nat) (a : Act) (w : World), i + n = ops.size → wpL P ops Q (ops.toList.drop i) a w → wpOpsIn E.F 1 P ops Q (List.range' i n) a w
  | 0, i, a, w, h, hw => by
    rw [List.drop_eq_nil_of_le (by simp; omega)] at hw
    exact hw
  | n + 1, i, a, w, h, hw => by
    have hi : i < ops.size := by omega
    rw [List.drop_eq_getElem_cons (by simpa using hi)] at hw
    simp only [List.range'_succ, wpOpsIn]
    rw [Array.getElem?_eq_getElem hi]
    simp only [wpL, Array.getElem_toList] at hw ⊢
    split
    · rename_i hg
      rw [if_pos hg] at hw
      exact oper_wpIn (hd i _ (Array.getElem?_eq_getElem hi)) (Oper.wp_mono (fun a w h' => wpL_ops hd n (i + 1) a w (by omega) h') hw)
    · rename_i hg
      rw [if_neg hg] at hw
      exact ⟨fun _ _ => trivial, wpL_ops hd n (i + 1) _ w (by omega) hw⟩
section
variable {E : Env} {l : List (Nat × Value)} {H : List HB} {Φ : List (Value × Dc)} {N : SP} {Q : QS}
theorem c_region {id : Nat} {ops : Array Oper} (h : WO E ops ops.toList l H Φ N Q) (hnd : (E.rd.isNone || nodef ops) = true := by rfl) : WC E (.region id ops false) l H Φ N Q := by
  intro a w hs
  refine wpIn_region ?_
  rw [List.range_eq_range']
  refine wpL_ops (fun i o ho => ?_) ops.size 0 a w (by omega) (h a w hs)
  rcases Bool.or_eq_true_iff.1 hnd with hn | hn
  · exact .inl (Option.isNone_iff_eq_none.1 hn)
  · exact .inr (nodef_spec hn ho)
theorem K_then {x : SP} {N : SP} {Q : QS} : ∀ e a w, K x Q e a w → Exit.then x (K N Q) e a w := by
  intro e a w h; cases e <;> exact h
theorem c_seq {x y : Code} (h : WC E x l H Φ (fun a w => y.wpIn E.F 1 E.P (K N Q) a w) Q) : WC E (.seq x y) l H Φ N Q :=
  fun a w hs => wpIn_seq (wpIn_mono (h a w hs) K_then)
theorem c_skip (h : Sat E l H Φ N) : WC E .skip l H Φ N Q := fun a w hs => wpIn_skip (h a w hs)
theorem c_label {i : Nat} (h : Sat E l H Φ N) : WC E (.label i) l H Φ N Q := fun a w hs => wpIn_label (h a w hs)
theorem c_exit {id : Nat} (h : Sat E l H Φ (lk id Q.Xs)) : WC E (.exit id) l H Φ N Q := fun a w hs => wpIn_exit (h a w hs)
theorem c_ret (h : Sat E l H Φ Q.R) : WC E .ret l H Φ N Q := fun a w hs => wpIn_ret (h a w hs)
theorem sat_wc {y : Code} (h : WC E y l H Φ N Q) : Sat E l H Φ (fun a w => y.wpIn E.F 1 E.P (K N Q) a w) := h
theorem c_block {id : Nat} {c : Code} (h : WC E c l H Φ N { Q with Xs := (id, N) :: Q.Xs }) : WC E (.block id c) l H Φ N Q := by
  intro a w hs
  refine wpIn_block (wpIn_mono (h a w hs) ?_)
  intro e a w he
  cases e with
  | exit id' =>
    simp only [K, lk, Exit.inBlock] at he ⊢
    by_cases hid : id' = id
    · subst hid; rw [if_pos rfl]; rw [show Nat.beq id' id' = true from Nat.beq_refl id'] at he; exact he
    · rw [if_neg hid]
      have : Nat.beq id' id = false := by
        cases hb : Nat.beq id' id with
        | false => rfl
        | true => exact absurd (Nat.eq_of_beq_eq_true hb) hid
      rw [this] at he; exact he
  | _ => exact he
def opv (l : List (Nat × Value)) : Operand → Option Value
  | .tmp t => findT t l
  | .const v => some v
  | .func f => some (.func (.func f) #[] #[])
  | .global g => some (.pointer (some ⟨g, 0, none⟩))
theorem opv_eval {a : Act} {w : World} (hs : St E l H Φ a w) {x : Operand} {v : Value} (h : opv l x = some v) : a.eval x = v := by
  cases x with
  | tmp t => simp only [opv] at h; simp [Act.eval, Array.getD_eq_getD_getElem?, hs.tm t v h]
  | const u => simp only [opv, Option.some.injEq] at h; exact h
  | func f => simp only [opv, Option.some.injEq] at h; exact h
  | global g => simp only [opv, Option.some.injEq] at h; exact h
theorem c_cond {c : Operand} {x y : Code} {b : Bool} (hc : opv l c = some (.bool b)) (h1 : b = true → WC E x l H Φ N Q) (h2 : b = false → WC E y l H Φ N Q) : WC E (.cond c x y) l H Φ N Q :=
  fun a w hs => wpIn_cond_split (opv_eval hs hc) (fun h => h1 h a w hs) (fun h => h2 h a w hs)
theorem wp_loop_fuel {F : Fence} {n : Nat} {P : Program} {c : Code} {Qx : Exit → Act → World → Prop} (I : Nat → SP) (round : ∀ k a w, I k a w → c.wpIn F n P (Exit.then (fun a' w' => ∃ j, j < k ∧ I j a' w') Qx) a w)
    {k : Nat} {a : Act} {w : World} (h : I k a w) : (Code.loop c).wpIn F n P Qx a w := by
  classical
  let least (a : Act) (w : World) : Nat := if hx : ∃ k, I k a w then Classical.choose (show ∃ k, I k a w ∧ ∀ j, j < k → ¬ I j a w from by
    obtain ⟨k, hk⟩ := hx
    induction k using Nat.strongRecOn with
    | _ k ih =>
      by_cases hj : ∃ j, j < k ∧ I j a w
      · obtain ⟨j, hj, hi⟩ := hj; exact ih j hj hi
      · exact ⟨k, hk, fun j hj' hi => hj ⟨j, hj', hi⟩⟩) else 0
  have hleast : ∀ a w, (∃ k, I k a w) → I (least a w) a w ∧ ∀ j, j < least a w → ¬ I j a w := by
    intro a w hx
    have := Classical.choose_spec (show ∃ k, I k a w ∧ ∀ j, j < k → ¬ I j a w from by
      obtain ⟨k, hk⟩ := hx
      induction k using Nat.strongRecOn with
      | _ k ih =>
        by_cases hj : ∃ j, j < k ∧ I j a w
        · obtain ⟨j, hj, hi⟩ := hj; exact ih j hj hi
        · exact ⟨k, hk, fun j hj' hi => hj ⟨j, hj', hi⟩⟩)
    simp only [least, hx, dif_pos]
    exact this
  refine wpIn_loop (fun a w => ∃ k, I k a w) least ⟨k, h⟩ ?_
  intro a w hx
  refine wpIn_mono (round _ a w (hleast a w hx).1) ?_
  intro e a' w' he
  cases e with
  | normal =>
    obtain ⟨j, hj, hi⟩ := he
    refine ⟨⟨j, hi⟩, ?_⟩
    have := (hleast a' w' ⟨j, hi⟩).2
    have h2 : ¬ j < least a' w' := fun hlt => this j hlt hi
    omega
  | _ => exact he
theorem c_loop {c : Code} (I : Nat → SP) (k : Nat) (h : Sat E l H Φ (I k)) (round : ∀ k, ∀ a w, I k a w → c.wpIn E.F 1 E.P (K (fun a' w' => ∃ j, j < k ∧ I j a' w') Q) a w) : WC E (.loop c) l H Φ N Q :=
  fun a w hs => wp_loop_fuel I (fun k a w hi => wpIn_mono (round k a w hi) K_then) (h a w hs)
theorem w_weaken {l' : List (Nat × Value)} {H' : List HB} {Φ' : List (Value × Dc)} (hl : ∀ t v, findT t l' = some v → findT t l = some v) (hH : H'.Sublist H) (hΦ : ∀ p ∈ Φ', p ∈ Φ) {a : Act} {w : World}
    (hs : St E l H Φ a w) : St E l' H' Φ' a w :=
  ⟨hs.size, hs.defers, fun t v h => hs.tm t v (hl t v h), hs.own.sub hH hΦ, hs.frm, fun b hb => hs.base b ((sub_blks hH).subset hb)⟩
theorem findT_le {l' : List (Nat × Value)} (h : ∀ p ∈ l', findT p.1 l = some p.2) : ∀ t v, findT t l' = some v → findT t l = some v := by
  intro t v hf
  induction l' with
  | nil => simp [findT] at hf
  | cons p r ih =>
    simp only [findT] at hf
    split at hf
    · rename_i hb
      have := Nat.eq_of_beq_eq_true hb
      subst this
      rw [← Option.some.inj hf]
      exact h p List.mem_cons_self
    · exact ih (fun q hq => h q (List.mem_cons_of_mem _ hq)) hf
end
section
variable {E : Env} {ops : Array Oper} {os : List Oper} {l : List (Nat × Value)} {H : List HB} {Φ : List (Value × Dc)} {N : SP} {Q : QS}
variable {op : Op} {ty : TypeId} {pos : String} {aft : Array Edge} {d : Nat}
theorem o_nil (h : Sat E l H Φ N) : WO E ops [] l H Φ N Q := h
theorem o_seq {y : Code} (h : WC E y l H Φ N Q) : WO E ops [] l H Φ (fun a w => y.wpIn E.F 1 E.P (K N Q) a w) Q := h
theorem findT_put {a : Act} {n : Nat} {v : Value} (hn : a.tmps.size = n) (hd : d < n) (htm : ∀ t v, findT t l = some v → a.tmps[t]? = some v) :
    ∀ t u, findT t ((d, v) :: l) = some u → (a.put (some d) v).tmps[t]? = some u := by
  intro t u h
  simp only [findT] at h
  simp only [Act.put]
  split at h
  · rename_i hb
    have := Nat.eq_of_beq_eq_true hb
    subst this
    rw [Array.getElem?_setIfInBounds_self_of_lt (by omega)]
    exact h
  · rename_i hb
    have hne : d ≠ t := by
      intro he; subst he; rw [Nat.beq_refl] at hb; cases hb
    rw [Array.getElem?_setIfInBounds_ne hne]
    exact htm t u h
theorem St.put {a : Act} {w w' : World} {v : Value} {H' : List HB} {Φ' : List (Value × Dc)} (hs : St E l H Φ a w) (hd : d < E.n) (ho : Own w' E.X H' Φ') (hf : Frm E.w0 E.M w')
    (hb : ∀ b ∈ blks H', E.w0.heap.size ≤ b ∨ b ∈ E.M) : St E ((d, v) :: l) H' Φ' (a.put (some d) v) w' :=
  ⟨by simp [Act.put, hs.size], hs.defers, findT_put hs.size hd hs.tm, ho, hf, hb⟩
theorem St.put_same {a : Act} {w : World} {v : Value} (hs : St E l H Φ a w) (hd : d < E.n) : St E ((d, v) :: l) H Φ (a.put (some d) v) w := hs.put hd hs.own hs.frm hs.base
theorem blt_lt {a b : Nat} (h : Nat.blt a b = true) : a < b := by
  simp only [Nat.blt] at h
  exact Nat.le_of_ble_eq_true h
theorem o_step {dst : Option Nat} (h : ∀ a w, St E l H Φ a w → ∃ v w', (execOp a.eval ⟨dst, op, ty, pos, aft, none⟩).run E.P w = .ok (.value v) w' ∧ wpL E.P ops (K N Q) os (a.put dst v) w') :
    WO E ops (⟨dst, op, ty, pos, aft, none⟩ :: os) l H Φ N Q := by
  intro a w hs
  obtain ⟨v, w', hr, hk⟩ := h a w hs
  simp only [wpL, Region.wanted, if_true, Oper.wp, hr, Oper.upon]
  exact hk
theorem o_step_skip {dst : Option Nat} (h : ∀ a w, St E l H Φ a w → ∃ w', (execOp a.eval ⟨dst, op, ty, pos, aft, none⟩).run E.P w = .ok .skip w' ∧ wpL E.P ops (K N Q) os (a.put dst undef) w') :
    WO E ops (⟨dst, op, ty, pos, aft, none⟩ :: os) l H Φ N Q := by
  intro a w hs
  obtain ⟨w', hr, hk⟩ := h a w hs
  simp only [wpL, Region.wanted, if_true, Oper.wp, hr, Oper.upon]
  exact hk
theorem o_val {v : Value} (hd : Nat.blt d E.n = true) (hr : ∀ a w, St E l H Φ a w → (execOp a.eval ⟨some d, op, ty, pos, aft, none⟩).run E.P w = .ok (.value v) w)
    (h : WO E ops os ((d, v) :: l) H Φ N Q) : WO E ops (⟨some d, op, ty, pos, aft, none⟩ :: os) l H Φ N Q :=
  o_step fun a w hs => ⟨v, w, hr a w hs, h _ _ (hs.put_same (blt_lt hd))⟩
theorem o_on {dst : Option Nat} {j : Nat} {want : Bool} {dj : Nat} (hj : (ops[j]?).bind (·.dst) = some dj) (hl : findT dj l = some (.bool want))
    (h : WO E ops (⟨dst, op, ty, pos, aft, none⟩ :: os) l H Φ N Q) : WO E ops (⟨dst, op, ty, pos, aft, some (j, want)⟩ :: os) l H Φ N Q := by
  intro a w hs
  have hy : yielded ops a.tmps j = some want := by
    unfold yielded
    rw [hj]
    simp only [Option.bind_some]
    rw [hs.tm dj _ hl]
  have := h a w hs
  simp only [wpL, Region.wanted, if_true, hy, BEq.rfl] at this ⊢
  exact this
theorem o_off {j : Nat} {want b : Bool} {dj : Nat} (hj : (ops[j]?).bind (·.dst) = some dj) (hl : findT dj l = some (.bool b)) (hb : b ≠ want) (hd : Nat.blt d E.n = true)
    (h : WO E ops os ((d, undef) :: l) H Φ N Q) : WO E ops (⟨some d, op, ty, pos, aft, some (j, want)⟩ :: os) l H Φ N Q := by
  intro a w hs
  have hy : yielded ops a.tmps j = some b := by
    unfold yielded
    rw [hj]
    simp only [Option.bind_some]
    rw [hs.tm dj _ hl]
  have hne : ((some b == some want) : Bool) = false := by cases b <;> cases want <;> first | rfl | exact absurd rfl hb
  simp only [wpL, Region.wanted, hy, hne, Bool.false_eq_true, if_false]
  exact h _ _ (hs.put_same (blt_lt hd))
theorem o_split {t : Nat} {b : Bool} (hl : findT t l = some (.bool b)) (h1 : b = true → WO E ops os ((t, .bool true) :: l) H Φ N Q) (h2 : b = false → WO E ops os ((t, .bool false) :: l) H Φ N Q) :
    WO E ops os l H Φ N Q := by
  intro a w hs
  have key : ∀ c, b = c → St E ((t, .bool c) :: l) H Φ a w := by
    intro c hc
    subst hc
    refine ⟨hs.size, hs.defers, fun t' v h => ?_, hs.own, hs.frm, hs.base⟩
    simp only [findT] at h
    split at h
    · rename_i hb
      have := Nat.eq_of_beq_eq_true hb
      subst this
      rw [hs.tm t' _ hl]; exact h
    · exact hs.tm t' v h
  cases b with
  | true => exact h1 rfl a w (key true rfl)
  | false => exact h2 rfl a w (key false rfl)
def Val (E : Env) (l : List (Nat × Value)) (H : List HB) (Φ : List (Value × Dc)) (op : Op) (ty : TypeId) (v : Value) : Prop :=
  ∀ a w, St E l H Φ a w → ∀ (dst : Option Nat) (pos : String) (aft : Array Edge) (g : Option (Nat × Bool)), (execOp a.eval ⟨dst, op, ty, pos, aft, g⟩).run E.P w = .ok (.value v) w
theorem o_v {v : Value} (hv : Val E l H Φ op ty v) (hd : Nat.blt d E.n = true) (h : WO E ops os ((d, v) :: l) H Φ N Q) : WO E ops (⟨some d, op, ty, pos, aft, none⟩ :: os) l H Φ N Q :=
  o_val hd (fun a w hs => hv a w hs _ _ _ _) h
theorem v_move {x : Operand} {v : Value} (hx : opv l x = some v) : Val E l H Φ (.move x) ty v :=
  fun a w hs _ _ _ _ => by simp only [execOp, opv_eval hs hx]; rfl
theorem v_assign {x : Operand} {v : Value} (hx : opv l x = some v) : Val E l H Φ (.assign x) ty v :=
  fun a w hs _ _ _ _ => by simp only [execOp, opv_eval hs hx]; rfl
def intOp : BinOp → IntKind → Int → Int → Option Value
  | .add, k, a, b => some (.int k (k.wrap (a + b)))
  | .sub, k, a, b => some (.int k (k.wrap (a - b)))
  | .mul, k, a, b => some (.int k (k.wrap (a * b)))
  | .lss, _, a, b => some (.bool (decide (a < b)))
  | .leq, _, a, b => some (.bool (decide (a ≤ b)))
  | .gtr, _, a, b => some (.bool (decide (b < a)))
  | .geq, _, a, b => some (.bool (decide (b ≤ a)))
  | .eql, _, a, b => some (.bool (a == b))
  | .neq, _, a, b => some (.bool (a != b))
  | _, _, _, _ => none
end
end Go.Vc
