import Derived.Test.YtdbnoblklhgdoaaGreatDoorVcN
import Derived.RecoverIn
set_option linter.unusedVariables false
set_option linter.unusedSimpArgs false
namespace Go.Vc
open Go
def PanD (E : wx) (fn : Func) (post : vT) (v : Value) : SP := fun a w' => LeavesInM Fence.wide 1 E.P fn a.tmps (endR E.w0 E.X E.M post) a.defers (.panicking [{ v, recovered := false }]) w'
theorem tri_introD {P : Program} {f : FuncId} {fn : Func} {c : Code} {n : Nat} {vs : List Value} {Hp : List HB} {Φp : List (Value × Dc)} {post : vT} (hf : P.funcs[f]? = some fn) (hb : fn.body = some c) (hn : fn.ntmps = n)
  (hlen : Nat.ble vs.length n = true)
  (h : ∀ w X, WC ⟨P, n, w, X, zQ Hp, [], none⟩ c (numT 0 vs) Hp Φp (uY ⟨P, n, w, X, zQ Hp, [], none⟩ fn post) ⟨[], uY ⟨P, n, w, X, zQ Hp, [], none⟩ fn post, PanD ⟨P, n, w, X, zQ Hp, [], none⟩ fn post⟩) : xu P f vs Hp Φp post := by
 intro w X ho
 have hle := Nat.le_of_ble_eq_true hlen
 refine (callsIn_wide (n := 1)).1 (callsIn_of_wp_marks hf hb trivial (wpIn_mono (h w X _ w ⟨?_, rfl, ?_, ho, .refl _ _, fun b hb => .inr hb⟩) ?_))
 ·simp [hn]; omega
 ·intro t v ht
  have := (k0 vs 0 t v ht).2
  simp only [Nat.sub_zero] at this
  have hlt : t < vs.length := (List.getElem?_eq_some_iff.1 this).1
  rw [Array.getElem?_append_left (by simpa using hlt)]
  simpa using this
 ·intro e a w' he
  cases e with
  | normal => exact he
  | ret => exact he
  | panic ch => obtain ⟨v, rfl, h1⟩ := he; exact h1
  | exit id => exact he.elim
  | goto l => exact he.elim
  | outgrown => exact he.elim
def modeOf : Option Value -> FrameMode
 | none => .returning
 | some v => .panicking [{ v, recovered := false }]
def LvS (E : wx) (fn : Func) (post : vT) : Option Value -> SP
 | none => uY E fn post
 | some v => PanD E fn post v
def FinD (w0 : World) (X : Nat -> Prop) (M : List Nat) (post : List HB -> List (Value × Dc) -> Prop) (w' : World) : Prop :=
 ∃ H' Φ', post H' Φ' /\ Frm w0 M w' /\ Own w' X H' Φ' /\ ∀ b ∈ zQ H', w0.heap.size <= b \/ b ∈ M
def TriD (P : Program) (f : FuncId) (vs : List Value) (Hp : List HB) (Φp : List (Value × Dc)) (m : Option Value) (post : List HB -> List (Value × Dc) -> Prop) : Prop :=
 ∀ w X, Own w X Hp Φp -> CallsDIn Fence.wide 0 P f vs.toArray (modeOf m) w fun e u' w' => (∃ v, e = .returned v) /\ settle u' = .returning /\ FinD w X (zQ Hp) post w'
section
variable {E : wx} {ops : Array Oper} {os : List Oper} {l : List (Nat × Value)} {H : List HB} {Φ : List (Value × Dc)} {N : SP} {Q : QS}
variable {ty : TypeId} {pos : String} {aft : Array Edge}
theorem o_defer {x : Operand} {f : Nat} {cap : Array Value} (hx : xd l x = some (.func (.func f) #[] cap))
  (h : WO ⟨E.P, E.n, E.w0, E.X, E.M, ⟨.fn (.func f) cap, #[]⟩ :: E.ds, E.rd⟩ ops os l H Φ N Q) : WO E ops (⟨none, .defer ⟨.value x, #[], #[]⟩, ty, pos, aft, none⟩ :: os) l H Φ N Q := by
 intro a w hs
 have hr : (execOp a.eval ⟨none, .defer ⟨.value x, #[], #[]⟩, ty, pos, aft, none⟩).run E.P w = .ok (.defer ⟨.fn (.func f) cap, #[]⟩) w := by
  simp only [execOp, resolve, zE hs hx, Deferred.ofValue, Sem.run_bind]
  simp [pure, Sem.run, Result.andThen]
 simp only [wpL, Region.wanted, if_true, Oper.wp, hr, Oper.upon]
 exact h _ w ⟨hs.size, by show _ :: a.defers = _ :: E.ds; rw [hs.defers], hs.tm, hs.own, hs.frm, hs.base⟩
theorem s_defer (js : List Nat) {fn : Func} {post : vT} {f : Nat} {cap : Array Value} {Hp : List HB} {Φp : List (Value × Dc)} {post' : List HB -> List (Value × Dc) -> Prop} (m : Option Value) (hds : E.ds = [⟨.fn (.func f) cap, #[]⟩]) (hc : zr E.P f)
  (hsel : wN js H = Hp) (hΦ : ∀ p ∈ Φp, p ∈ Φ) (tri : TriD E.P f cap.toList Hp Φp m post')
  (h : ∀ H' Φ', post' H' Φ' -> zT ⟨E.P, E.n, E.w0, E.X, E.M, [], E.rd⟩ l (H' ++ xM js H) (Φ' ++ Φ) (uY E fn post)) : zT E l H Φ (LvS E fn post m) := by
 intro a w hs
 subst hsel
 have hd : a.defers = [⟨.fn (.func f) cap, #[]⟩] := by rw [hs.defers, hds]
 have o0 := hs.own.perm (xL js H)
 have o1 := (o0.sub (List.Sublist.refl _) hΦ)
 have hcall := tri w _ o1.lend
 have hinv : (invoke (.fn (.func f) cap) #[]).run E.P w = .ok (.enter f cap.toList.toArray) w := by
  have := hc cap.toList.toArray w
  simp only [invoke]
  have e2 : (#[] : Array Value) ++ cap = cap.toList.toArray := by simp
  first
   | (rw [e2]; exact this)
   | simpa using this
 have key : LeavesInM Fence.wide 1 E.P fn a.tmps (endR E.w0 E.X E.M post) [⟨.fn (.func f) cap, #[]⟩] (modeOf m) w := by
  refine ⟨by cases m <;> simp [modeOf], .inr ⟨fun hh => Nat.le_refl 1, .func f, cap, f, cap.toList.toArray, rfl, hinv, fun _ _ => trivial, hcall.mono ?_⟩⟩
  rintro e u' w' ⟨⟨v, rfl⟩, hset, H', Φ', hp, hf, ho, hb⟩
  show LeavesInM _ _ _ _ _ _ [] (settle u') w'
  rw [hset]
  have hbase : ∀ b ∈ zQ (H' ++ xM js H), E.w0.heap.size <= b \/ b ∈ E.M := by
   intro b hbm
   rw [zZ] at hbm
   have hall : ∀ c, c ∈ zQ (wN js H) \/ c ∈ zQ (xM js H) -> E.w0.heap.size <= c \/ c ∈ E.M := fun c hc' =>
    hs.base c (((xL js H).filterMap HB.blk).mem_iff.2 (by
     have : (wN js H ++ xM js H).filterMap HB.blk = zQ (wN js H) ++ zQ (xM js H) := by rw [<- zZ]; rfl
     rw [this, List.mem_append]; exact hc'))
   rcases List.mem_append.1 hbm with h1 | h1
   ·rcases hb b h1 with h2 | h2
    ·exact .inl (Nat.le_trans hs.frm.size h2)
    ·exact hall b (.inl h2)
   ·exact hall b (.inr h1)
  have hfrm : Frm E.w0 E.M w' := by
   refine ⟨hf.os.trans hs.frm.os, hf.tape.trans hs.frm.tape, hf.output.trans hs.frm.output, Nat.le_trans hs.frm.size hf.size, fun b hlt hm => ?_⟩
   rw [hf.block b (Nat.lt_of_lt_of_le hlt hs.frm.size) (fun hin => ?_)]
   ·exact hs.frm.block b hlt hm
   ·have := hs.base b (((xL js H).filterMap HB.blk).mem_iff.2 (by
     have : (wN js H ++ xM js H).filterMap HB.blk = zQ (wN js H) ++ zQ (xM js H) := by rw [<- zZ]; rfl
     rw [this, List.mem_append]; exact .inl hin))
    rcases this with h1 | h1
    ·omega
    ·exact hm h1
  exact h H' Φ' hp { a with defers := [] } w' ⟨hs.size, rfl, hs.tm, o0.back hf ho hb, hfrm, hbase⟩
 cases m with
 | none => show LeavesInM _ _ _ _ _ _ a.defers _ _; rw [hd]; exact key
 | some v => show LeavesInM _ _ _ _ _ _ a.defers _ _; rw [hd]; exact key
def RetD (E : wx) (post : List HB -> List (Value × Dc) -> Prop) : SP := fun a w' => a.defers = [] /\ FinD E.w0 E.X E.M post w'
theorem pnokF {Xs : List (Nat × SP)} {R : SP} : PnOk ⟨Xs, R, fun _ _ _ => False⟩ := fun _ _ _ _ _ h => h.elim
theorem s_retDs (js : List Nat) {post : List HB -> List (Value × Dc) -> Prop} {H' : List HB} {Φ' : List (Value × Dc)} (hp : post H' Φ') (hsel : wN js H = H') (hΦ : ∀ p ∈ Φ', p ∈ Φ) (hds : E.ds = [] := by rfl) : zT E l H Φ (RetD E post) := by
 intro a w hs
 obtain ⟨H1, Φ1, h1, h2, h3, h4⟩ := zo (post := fun _ H Φ => post H Φ) (out := .ret .nilIface) hs js hp hsel hΦ
 exact ⟨by rw [hs.defers, hds], H1, Φ1, h1, h2, h3, h4⟩
theorem v_typeAssert {ty S D : TypeId} {x : Operand} {ok : Bool} {u v : Value} (hx : xd l x = some u) (hr : ∀ w, (Instr.typeAssert u S D ok).run E.P w = .ok v w) : wQ E l H Φ (.typeAssert x S D ok) ty v :=
 fun a w hs dd pp aa gg => by simp only [execOp, zE hs hx, Sem.run_bind, hr, Result.andThen]; rfl
theorem wps_rec {n : Nat} {P : Program} {ops : Array Oper} {Q : Exit -> Act -> List Frame -> World -> Prop} {i : Nat} {rest : List Nat} {a : Act} {cs : List Frame} {w : World} {o : Oper} (hi : ops[i]? = some o) (hg : o.guard = none)
  (hr : (execOp a.eval o).run P w = .ok .recover w) (h : match recoverD cs with | some (v, cs') => wpOpsSIn Fence.wide n P ops Q rest (a.put o.dst v) cs' w | none => wpOpsSIn Fence.wide n P ops Q rest (a.put o.dst .nilIface) cs w) : wpOpsSIn Fence.wide n P ops Q (i :: rest) a cs w := by
 simp only [wpOpsSIn, hi]
 refine ⟨fun _ _ => trivial, ?_⟩
 have hw : Region.wanted o (yielded ops a.tmps) = true := by unfold Region.wanted; rw [hg]
 rw [if_pos hw]
 simp only [hr]
 exact h
theorem wps_val {n : Nat} {P : Program} {ops : Array Oper} {Q : Exit -> Act -> List Frame -> World -> Prop} {i : Nat} {rest : List Nat} {a : Act} {cs : List Frame} {w : World} {o : Oper} {v : Value} (hi : ops[i]? = some o) (hg : o.guard = none)
  (hr : (execOp a.eval o).run P w = .ok (.value v) w) (h : wpOpsSIn Fence.wide n P ops Q rest (a.put o.dst v) cs w) : wpOpsSIn Fence.wide n P ops Q (i :: rest) a cs w := by
 simp only [wpOpsSIn, hi]
 refine ⟨fun _ _ => trivial, ?_⟩
 have hw : Region.wanted o (yielded ops a.tmps) = true := by unfold Region.wanted; rw [hg]
 rw [if_pos hw]
 simp only [hr]
 exact h
theorem triD_intro {P : Program} {f : FuncId} {fn : Func} {id : Nat} {o1 o2 : Oper} {c2 : Code} {n t2 t3 : Nat} {vs : List Value} {Hp : List HB} {Φp : List (Value × Dc)} {m : Option Value} {post : List HB -> List (Value × Dc) -> Prop}
  (hf : P.funcs[f]? = some fn) (hb : fn.body = some (.seq (.region id #[o1, o2] false) c2)) (hn : fn.ntmps = n) (hres : fn.results = #[]) (hlen : Nat.ble vs.length n = true)
  (h1 : o1.op = .call ⟨.builtin .recover, #[], #[]⟩) (h1g : o1.guard = none) (h1d : o1.dst = some t3) (h2 : o2.op = .assign (.tmp t3)) (h2g : o2.guard = none) (h2d : o2.dst = some t2) (ht2 : Nat.blt t2 n = true) (ht3 : Nat.blt t3 n = true)
  (h : ∀ w X, WC ⟨P, n, w, X, zQ Hp, [], none⟩ c2 ((t2, m.getD .nilIface) :: (t3, m.getD .nilIface) :: numT 0 vs) Hp Φp (RetD ⟨P, n, w, X, zQ Hp, [], none⟩ post) ⟨[], RetD ⟨P, n, w, X, zQ Hp, [], none⟩ post, fun _ _ _ => False⟩) : TriD P f vs Hp Φp m post := by
 intro w X ho
 have hle := Nat.le_of_ble_eq_true hlen
 obtain ⟨d1, p1, y1, q1, f1, g1⟩ := o1
 obtain ⟨d2, p2, y2, q2, f2, g2⟩ := o2
 simp only at h1 h1g h1d h2 h2g h2d
 subst h1 h1g h1d h2 h2g h2d
 refine callsDIn_of_wpSIn hf hb trivial fun c₀ cs hu => ?_
 refine wpSIn_seq (wpSIn_region ?_)
 let a0 : Act := { tmps := vs.toArray ++ Array.replicate (fn.ntmps - vs.toArray.size) undef, defers := [] }
 let v : Value := m.getD .nilIface
 have hrest : ∀ (cs' : List Frame) (u' : FrameMode), cs' = { c₀ with mode := u' } :: cs -> settle u' = .returning ->
   c2.wpSIn Fence.wide 0 P (bodyPostS P fn c₀ cs fun e u' w' => (∃ v, e = .returned v) /\ settle u' = .returning /\ FinD w X (zQ Hp) post w') ((a0.put (some t3) v).put (some t2) v) cs' w := by
  intro cs' u' hcs hset
  refine wpSIn_of_wpIn rfl ?_
  have hst : St ⟨P, n, w, X, zQ Hp, [], none⟩ ((t2, v) :: (t3, v) :: numT 0 vs) Hp Φp ((a0.put (some t3) v).put (some t2) v) w := by
   have h0 : St ⟨P, n, w, X, zQ Hp, [], none⟩ (numT 0 vs) Hp Φp a0 w := by
    refine ⟨by simp [a0, hn]; omega, rfl, ?_, ho, .refl _ _, fun b hb => .inr hb⟩
    intro t v ht
    have := (k0 vs 0 t v ht).2
    simp only [Nat.sub_zero] at this
    have hlt : t < vs.length := (List.getElem?_eq_some_iff.1 this).1
    rw [Array.getElem?_append_left (by simpa using hlt)]
    simpa using this
   exact St.putT (St.putT h0 (xe ht3)) (xe ht2)
  have := h w X _ w hst
  refine wpIn_mono (wpIn_n (E := ⟨P, n, w, X, zQ Hp, [], none⟩) (m := 0) this) ?_
  intro e a' w' he
  have fin : RetD ⟨P, n, w, X, zQ Hp, [], none⟩ post a' w' -> bodyPostS P fn c₀ cs (fun e u' w' => (∃ v, e = .returned v) /\ settle u' = .returning /\ FinD w X (zQ Hp) post w') .ret a' cs' w' := by
   rintro ⟨hd, hfd⟩
   refine ⟨hd, u', hcs, .tuple #[], ?_, ⟨_, rfl⟩, hset, hfd⟩
   simp [results, hres]
  cases e with
  | normal => exact fin he
  | ret => exact fin he
  | panic ch => obtain ⟨_, _, h1⟩ := he; exact h1.elim
  | exit id => exact he.elim
  | goto l => exact he.elim
  | outgrown => exact he.elim
 have hev : ∀ (a : Act), a.tmps[t3]? = some v -> a.eval (.tmp t3) = v := by
  intro a ha
  simp [Act.eval, ha]
 have hget : (a0.put (some t3) v).tmps[t3]? = some v := by
  have hsz : a0.tmps.size = n := by simp [a0, hn]; omega
  simp [Act.put, hsz, xe ht3]
 have e1 : (execOp a0.eval ⟨some t3, .call ⟨.builtin .recover, #[], #[]⟩, y1, q1, f1, none⟩).run P w = .ok .recover w := by
  simp only [execOp, resolve, Sem.run_bind]; rfl
 have e2 : (execOp (a0.put (some t3) v).eval ⟨some t2, .assign (.tmp t3), y2, q2, f2, none⟩).run P w = .ok (.value v) w := by
  simp only [execOp, hev _ hget]; rfl
 show wpOpsSIn _ _ _ _ _ [0, 1] _ _ _
 refine wps_rec (o := ⟨some t3, .call ⟨.builtin .recover, #[], #[]⟩, y1, q1, f1, none⟩) rfl rfl e1 ?_
 cases m with
 | none =>
  have hrec : recoverD (c₀ :: cs) = none := by simp [recoverD, hu, modeOf]
  rw [hrec]
  refine wps_val (o := ⟨some t2, .assign (.tmp t3), y2, q2, f2, none⟩) (v := v) rfl rfl e2 ?_
  exact hrest _ .returning (by show _ = { c₀ with mode := .returning } :: cs; rw [<- show c₀.mode = .returning from hu]) rfl
 | some u =>
  have hrec : recoverD (c₀ :: cs) = some (u, { c₀ with mode := .panicking [{ v := u, recovered := true }] } :: cs) := by simp [recoverD, hu, modeOf]
  rw [hrec]
  refine wps_val (o := ⟨some t2, .assign (.tmp t3), y2, q2, f2, none⟩) (v := v) rfl rfl e2 ?_
  exact hrest _ (.panicking [{ v := u, recovered := true }]) rfl rfl
end
section
variable {E : wx} {ops : Array Oper} {os : List Oper} {l : List (Nat × Value)} {H : List HB} {Φ : List (Value × Dc)} {N : SP} {Q : QS}
variable {ty : TypeId} {pos : String} {aft : Array Edge} {d : Nat}
end
end Go.Vc
