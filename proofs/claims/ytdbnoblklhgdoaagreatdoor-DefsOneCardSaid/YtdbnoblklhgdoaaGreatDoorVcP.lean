import Derived.Test.YtdbnoblklhgdoaaGreatDoorVcN
import Derived.RecoverIn
set_option linter.unusedVariables false
set_option linter.unusedSimpArgs false
namespace Go.Vc
open Go
def PanD (E : wj) (fn : Func) (post : vr) (v : Value) : SP := fun a w' => LeavesInM Fence.wide 1 E.P fn a.tmps (endR E.w0 E.X E.M post) a.defers (.panicking [{ v, recovered := false }]) w'
theorem tri_introD {P : Program} {f : FuncId} {fn : Func} {c : Code} {n : Nat} {vs : List Value} {Hp : List HB} {Φp : List (Value × Dc)} {post : vr} (hf : P.funcs[f]? = some fn) (hb : fn.body = some c) (hn : fn.ntmps = n)
  (hlen : Nat.ble vs.length n = true)
  (h : ∀ w X, WC ⟨P, n, w, X, zP Hp, [], none⟩ c (numT 0 vs) Hp Φp (uC ⟨P, n, w, X, zP Hp, [], none⟩ fn post) ⟨[], uC ⟨P, n, w, X, zP Hp, [], none⟩ fn post, PanD ⟨P, n, w, X, zP Hp, [], none⟩ fn post⟩) : xn P f vs Hp Φp post := by
 intro w X ho
 have hle := Nat.le_of_ble_eq_true hlen
 refine (callsIn_wide (n := 1)).1 (callsIn_of_wp_marks hf hb trivial (wpIn_mono (h w X _ w ⟨?_, rfl, ?_, ho, .refl _ _, fun b hb => .inr hb⟩) ?_))
 ·simp [hn]; omega
 ·intro t v ht
  have := (kH vs 0 t v ht).2
  simp only [Nat.sub_zero] at this
  have hlt : t < vs.length := (List.getElem?_eq_some_iff.1 this).1
  rw [Array.getElem?_append_left (by simpa using hlt)]
  simpa using this
 ·intro e a w' he
  cases e with
  | normal => exact he
  | ret => exact he
  | panic ch => obtain ⟨v, rfl, h1⟩ := he; exact h1
  | exit id => exact he.elim
  | goto l => exact he.elim
  | outgrown => exact he.elim
def modeOf : Option Value -> FrameMode
 | none => .returning
 | some v => .panicking [{ v, recovered := false }]
def LvS (E : wj) (fn : Func) (post : vr) : Option Value -> SP
 | none => uC E fn post
 | some v => PanD E fn post v
def FinD (w0 : World) (X : Nat -> Prop) (M : List Nat) (post : List HB -> List (Value × Dc) -> Prop) (w' : World) : Prop :=
 ∃ H' Φ', post H' Φ' /\ Frm w0 M w' /\ Own w' X H' Φ' /\ ∀ b ∈ zP H', w0.heap.size <= b \/ b ∈ M
def TriD (P : Program) (f : FuncId) (vs : List Value) (Hp : List HB) (Φp : List (Value × Dc)) (m : Option Value) (post : List HB -> List (Value × Dc) -> Prop) : Prop :=
 ∀ w X, Own w X Hp Φp -> CallsDIn Fence.wide 0 P f vs.toArray (modeOf m) w fun e u' w' => (∃ v, e = .returned v) /\ settle u' = .returning /\ FinD w X (zP Hp) post w'
section
variable {E : wj} {ops : Array Oper} {os : List Oper} {l : List (Nat × Value)} {H : List HB} {Φ : List (Value × Dc)} {N : SP} {Q : QS}
variable {ty : TypeId} {pos : String} {aft : Array Edge}
theorem o_defer {x : Operand} {f : Nat} {cap : Array Value} (hx : y9 l x = some (.func (.func f) #[] cap))
  (h : WO ⟨E.P, E.n, E.w0, E.X, E.M, ⟨.fn (.func f) cap, #[]⟩ :: E.ds, E.rd⟩ ops os l H Φ N Q) : WO E ops (⟨none, .defer ⟨.value x, #[], #[]⟩, ty, pos, aft, none⟩ :: os) l H Φ N Q := by
 intro a w hs
 have hr : (execOp a.eval ⟨none, .defer ⟨.value x, #[], #[]⟩, ty, pos, aft, none⟩).run E.P w = .ok (.defer ⟨.fn (.func f) cap, #[]⟩) w := by
  simp only [execOp, resolve, zB hs hx, Deferred.ofValue, Sem.run_bind]
  simp [pure, Sem.run, Result.andThen]
 simp only [wpL, Region.wanted, if_true, Oper.wp, hr, Oper.upon]
 exact h _ w ⟨hs.size, by show _ :: a.defers = _ :: E.ds; rw [hs.defers], hs.tm, hs.own, hs.frm, hs.base⟩
theorem s_defer (js : List Nat) {fn : Func} {post : vr} {f : Nat} {cap : Array Value} {Hp : List HB} {Φp : List (Value × Dc)} {post' : List HB -> List (Value × Dc) -> Prop} (m : Option Value) (hds : E.ds = [⟨.fn (.func f) cap, #[]⟩]) (hc : zr E.P f)
  (hsel : wx js H = Hp) (hΦ : ∀ p ∈ Φp, p ∈ Φ) (tri : TriD E.P f cap.toList Hp Φp m post')
  (h : ∀ H' Φ', post' H' Φ' -> zT ⟨E.P, E.n, E.w0, E.X, E.M, [], E.rd⟩ l (H' ++ xJ js H) (Φ' ++ Φ) (uC E fn post)) : zT E l H Φ (LvS E fn post m) := by
 intro a w hs
 subst hsel
 have hd : a.defers = [⟨.fn (.func f) cap, #[]⟩] := by rw [hs.defers, hds]
 have o0 := hs.own.perm (xI js H)
 have o1 := (o0.sub (List.Sublist.refl _) hΦ)
 have hcall := tri w _ o1.lend
 have hinv : (invoke (.fn (.func f) cap) #[]).run E.P w = .ok (.enter f cap.toList.toArray) w := by
  have := hc cap.toList.toArray w
  simp only [invoke]
  have e2 : (#[] : Array Value) ++ cap = cap.toList.toArray := by simp
  first
   | (rw [e2]; exact this)
   | simpa using this
 have key : LeavesInM Fence.wide 1 E.P fn a.tmps (endR E.w0 E.X E.M post) [⟨.fn (.func f) cap, #[]⟩] (modeOf m) w := by
  refine ⟨by cases m <;> simp [modeOf], .inr ⟨fun hh => Nat.le_refl 1, .func f, cap, f, cap.toList.toArray, rfl, hinv, fun _ _ => trivial, hcall.mono ?_⟩⟩
  rintro e u' w' ⟨⟨v, rfl⟩, hset, H', Φ', hp, hf, ho, hb⟩
  show LeavesInM _ _ _ _ _ _ [] (settle u') w'
  rw [hset]
  have hbase : ∀ b ∈ zP (H' ++ xJ js H), E.w0.heap.size <= b \/ b ∈ E.M := by
   intro b hbm
   rw [zZ] at hbm
   have hall : ∀ c, c ∈ zP (wx js H) \/ c ∈ zP (xJ js H) -> E.w0.heap.size <= c \/ c ∈ E.M := fun c hc' =>
    hs.base c (((xI js H).filterMap HB.blk).mem_iff.2 (by
     have : (wx js H ++ xJ js H).filterMap HB.blk = zP (wx js H) ++ zP (xJ js H) := by rw [<- zZ]; rfl
     rw [this, List.mem_append]; exact hc'))
   rcases List.mem_append.1 hbm with h1 | h1
   ·rcases hb b h1 with h2 | h2
    ·exact .inl (Nat.le_trans hs.frm.size h2)
    ·exact hall b (.inl h2)
   ·exact hall b (.inr h1)
  have hfrm : Frm E.w0 E.M w' := by
   refine ⟨hf.os.trans hs.frm.os, hf.tape.trans hs.frm.tape, hf.output.trans hs.frm.output, Nat.le_trans hs.frm.size hf.size, fun b hlt hm => ?_⟩
   rw [hf.block b (Nat.lt_of_lt_of_le hlt hs.frm.size) (fun hin => ?_)]
   ·exact hs.frm.block b hlt hm
   ·have := hs.base b (((xI js H).filterMap HB.blk).mem_iff.2 (by
     have : (wx js H ++ xJ js H).filterMap HB.blk = zP (wx js H) ++ zP (xJ js H) := by rw [<- zZ]; rfl
     rw [this, List.mem_append]; exact .inl hin))
    rcases this with h1 | h1
    ·omega
    ·exact hm h1
  exact h H' Φ' hp { a with defers := [] } w' ⟨hs.size, rfl, hs.tm, o0.back hf ho hb, hfrm, hbase⟩
 cases m with
 | none => show LeavesInM _ _ _ _ _ _ a.defers _ _; rw [hd]; exact key
 | some v => show LeavesInM _ _ _ _ _ _ a.defers _ _; rw [hd]; exact key
def RetD (E : wj) (post : List HB -> List (Value × Dc) -> Prop) : SP := fun a w' => a.defers = [] /\ FinD E.w0 E.X E.M post w'
theorem pnokF {Xs : List (Nat × SP)} {R : SP} : PnOk ⟨Xs, R, fun _ _ _ => False⟩ := fun _ _ _ _ _ h => h.elim
theorem s_retDs (js : List Nat) {post : List HB -> List (Value × Dc) -> Prop} {H' : List HB} {Φ' : List (Value × Dc)} (hp : post H' Φ') (hsel : wx js H = H') (hΦ : ∀ p ∈ Φ', p ∈ Φ) (hds : E.ds = [] := by rfl) : zT E l H Φ (RetD E post) := by
 intro a w hs
 obtain ⟨H1, Φ1, h1, h2, h3, h4⟩ := zo (post := fun _ H Φ => post H Φ) (out := .ret .nilIface) hs js hp hsel hΦ
 exact ⟨by rw [hs.defers, hds], H1, Φ1, h1, h2, h3, h4⟩
theorem v_typeAssert {ty S D : TypeId} {x : Operand} {ok : Bool} {u v : Value} (hx : y9 l x = some u) (hr : ∀ w, (Instr.typeAssert u S D ok).run E.P w = .ok v w) : wD E l H Φ (.typeAssert x S D ok) ty v :=
 fun a w hs dd pp aa gg => by simp only [execOp, zB hs hx, Sem.run_bind, hr, Result.andThen]; rfl
theorem wps_rec {n : Nat} {P : Program} {ops : Array Oper} {Q : Exit -> Act -> List Frame -> World -> Prop} {i : Nat} {rest : List Nat} {a : Act} {cs : List Frame} {w : World} {o : Oper} (hi : ops[i]? = some o) (hg : o.guard = none)
  (hr : (execOp a.eval o).run P w = .ok .recover w) (h : match recoverD cs with | some (v, cs') => wpOpsSIn Fence.wide n P ops Q rest (a.put o.dst v) cs' w | none => wpOpsSIn Fence.wide n P ops Q rest (a.put o.dst .nilIface) cs w) : wpOpsSIn Fence.wide n P ops Q (i :: rest) a cs w := by
 simp only [wpOpsSIn, hi]
 refine ⟨fun _ _ => trivial, ?_⟩
 have hw : Region.wanted o (yielded ops a.tmps) = true := by unfold Region.wanted; rw [hg]
 rw [if_pos hw]
 simp only [hr]
 exact h
theorem wps_val {n : Nat} {P : Program} {ops : Array Oper} {Q : Exit -> Act -> List Frame -> World -> Prop} {i : Nat} {rest : List Nat} {a : Act} {cs : List Frame} {w : World} {o : Oper} {v : Value} (hi : ops[i]? = some o) (hg : o.guard = none)
  (hr : (execOp a.eval o).run P w = .ok (.value v) w) (h : wpOpsSIn Fence.wide n P ops Q rest (a.put o.dst v) cs w) : wpOpsSIn Fence.wide n P ops Q (i :: rest) a cs w := by
 simp only [wpOpsSIn, hi]
 refine ⟨fun _ _ => trivial, ?_⟩
 have hw : Region.wanted o (yielded ops a.tmps) = true := by unfold Region.wanted; rw [hg]
 rw [if_pos hw]
 simp only [hr]
 exact h
theorem triD_intro {P : Program} {f : FuncId} {fn : Func} {id : Nat} {o1 o2 : Oper} {c2 : Code} {n t2 t3 : Nat} {vs : List Value} {Hp : List HB} {Φp : List (Value × Dc)} {m : Option Value} {post : List HB -> List (Value × Dc) -> Prop}
  (hf : P.funcs[f]? = some fn) (hb : fn.body = some (.seq (.region id #[o1, o2] false) c2)) (hn : fn.ntmps = n) (hres : fn.results = #[]) (hlen : Nat.ble vs.length n = true)
  (h1 : o1.op = .call ⟨.builtin .recover, #[], #[]⟩) (h1g : o1.guard = none) (h1d : o1.dst = some t3) (h2 : o2.op = .assign (.tmp t3)) (h2g : o2.guard = none) (h2d : o2.dst = some t2) (ht2 : Nat.blt t2 n = true) (ht3 : Nat.blt t3 n = true)
  (h : ∀ w X, WC ⟨P, n, w, X, zP Hp, [], none⟩ c2 ((t2, m.getD .nilIface) :: (t3, m.getD .nilIface) :: numT 0 vs) Hp Φp (RetD ⟨P, n, w, X, zP Hp, [], none⟩ post) ⟨[], RetD ⟨P, n, w, X, zP Hp, [], none⟩ post, fun _ _ _ => False⟩) : TriD P f vs Hp Φp m post := by
 intro w X ho
 have hle := Nat.le_of_ble_eq_true hlen
 obtain ⟨d1, p1, y1, q1, f1, g1⟩ := o1
 obtain ⟨d2, p2, y2, q2, f2, g2⟩ := o2
 simp only at h1 h1g h1d h2 h2g h2d
 subst h1 h1g h1d h2 h2g h2d
 refine callsDIn_of_wpSIn hf hb trivial fun c₀ cs hu => ?_
 refine wpSIn_seq (wpSIn_region ?_)
 let a0 : Act := { tmps := vs.toArray ++ Array.replicate (fn.ntmps - vs.toArray.size) undef, defers := [] }
 let v : Value := m.getD .nilIface
 have hrest : ∀ (cs' : List Frame) (u' : FrameMode), cs' = { c₀ with mode := u' } :: cs -> settle u' = .returning ->
   c2.wpSIn Fence.wide 0 P (bodyPostS P fn c₀ cs fun e u' w' => (∃ v, e = .returned v) /\ settle u' = .returning /\ FinD w X (zP Hp) post w') ((a0.put (some t3) v).put (some t2) v) cs' w := by
  intro cs' u' hcs hset
  refine wpSIn_of_wpIn rfl ?_
  have hst : St ⟨P, n, w, X, zP Hp, [], none⟩ ((t2, v) :: (t3, v) :: numT 0 vs) Hp Φp ((a0.put (some t3) v).put (some t2) v) w := by
   have h0 : St ⟨P, n, w, X, zP Hp, [], none⟩ (numT 0 vs) Hp Φp a0 w := by
    refine ⟨by simp [a0, hn]; omega, rfl, ?_, ho, .refl _ _, fun b hb => .inr hb⟩
    intro t v ht
    have := (kH vs 0 t v ht).2
    simp only [Nat.sub_zero] at this
    have hlt : t < vs.length := (List.getElem?_eq_some_iff.1 this).1
    rw [Array.getElem?_append_left (by simpa using hlt)]
    simpa using this
   exact St.putT (St.putT h0 (yZ ht3)) (yZ ht2)
  have := h w X _ w hst
  refine wpIn_mono (wpIn_n (E := ⟨P, n, w, X, zP Hp, [], none⟩) (m := 0) this) ?_
  intro e a' w' he
  have fin : RetD ⟨P, n, w, X, zP Hp, [], none⟩ post a' w' -> bodyPostS P fn c₀ cs (fun e u' w' => (∃ v, e = .returned v) /\ settle u' = .returning /\ FinD w X (zP Hp) post w') .ret a' cs' w' := by
   rintro ⟨hd, hfd⟩
   refine ⟨hd, u', hcs, .tuple #[], ?_, ⟨_, rfl⟩, hset, hfd⟩
   simp [results, hres]
  cases e with
  | normal => exact fin he
  | ret => exact fin he
  | panic ch => obtain ⟨_, _, h1⟩ := he; exact h1.elim
  | exit id => exact he.elim
  | goto l => exact he.elim
  | outgrown => exact he.elim
 have hev : ∀ (a : Act), a.tmps[t3]? = some v -> a.eval (.tmp t3) = v := by
  intro a ha
  simp [Act.eval, ha]
 have hget : (a0.put (some t3) v).tmps[t3]? = some v := by
  have hsz : a0.tmps.size = n := by simp [a0, hn]; omega
  simp [Act.put, hsz, yZ ht3]
 have e1 : (execOp a0.eval ⟨some t3, .call ⟨.builtin .recover, #[], #[]⟩, y1, q1, f1, none⟩).run P w = .ok .recover w := by
  simp only [execOp, resolve, Sem.run_bind]; rfl
 have e2 : (execOp (a0.put (some t3) v).eval ⟨some t2, .assign (.tmp t3), y2, q2, f2, none⟩).run P w = .ok (.value v) w := by
  simp only [execOp, hev _ hget]; rfl
 show wpOpsSIn _ _ _ _ _ [0, 1] _ _ _
 refine wps_rec (o := ⟨some t3, .call ⟨.builtin .recover, #[], #[]⟩, y1, q1, f1, none⟩) rfl rfl e1 ?_
 cases m with
 | none =>
  have hrec : recoverD (c₀ :: cs) = none := by simp [recoverD, hu, modeOf]
  rw [hrec]
  refine wps_val (o := ⟨some t2, .assign (.tmp t3), y2, q2, f2, none⟩) (v := v) rfl rfl e2 ?_
  exact hrest _ .returning (by show _ = { c₀ with mode := .returning } :: cs; rw [<- show c₀.mode = .returning from hu]) rfl
 | some u =>
  have hrec : recoverD (c₀ :: cs) = some (u, { c₀ with mode := .panicking [{ v := u, recovered := true }] } :: cs) := by simp [recoverD, hu, modeOf]
  rw [hrec]
  refine wps_val (o := ⟨some t2, .assign (.tmp t3), y2, q2, f2, none⟩) (v := v) rfl rfl e2 ?_
  exact hrest _ (.panicking [{ v := u, recovered := true }]) rfl rfl
end
section
variable {E : wj} {ops : Array Oper} {os : List Oper} {l : List (Nat × Value)} {H : List HB} {Φ : List (Value × Dc)} {N : SP} {Q : QS}
variable {ty : TypeId} {pos : String} {aft : Array Edge} {d : Nat}
theorem pure_sub {α : Type} {enc : α -> List Dc} {w : World} {X : Nat -> Prop} {a : Option Addr} {n c sz : Nat} {xs : List α} {p q : Nat} (h : yf w X (.slice a n c) (.slice sz (xs.map enc))) (hp : p <= q) (hq : q <= xs.length) :
  yf w X (.slice (if c = p then a else a.map (·.add (p * sz))) (q - p) (c - p)) (.slice sz (((xs.drop p).take (q - p)).map enc)) := by
 have hlen2 : (((xs.drop p).take (q - p)).map enc).length = q - p := by simp; omega
 by_cases h0 : q - p = 0
 ·have : ((xs.drop p).take (q - p)).map enc = [] := List.eq_nil_of_length_eq_zero (by rw [hlen2]; exact h0)
  rw [h0] at this ⊢
  rw [this]
  exact .nil _ _ _
 ·generalize hys : xs.map enc = ys at h
  have hyl : ys.length = xs.length := by rw [<- hys]; simp
  cases h with
  | nil => simp only [List.length_nil] at hyl; omega
  | slice b o len cap sz xs' vs hlen hcap hX hb hsz hc he =>
   have hcp : ¬ c = p := by omega
   rw [if_neg hcp, Option.map_some, wN]
   have hget : ∀ i (hi : i < (((xs.drop p).take (q - p)).map enc).length), (((xs.drop p).take (q - p)).map enc)[i] = ys[p + i]'(by rw [hlen2] at hi; omega) := by
    intro i hi
    subst hys
    simp
   refine .slice b (o + p * sz) (q - p) (c - p) sz _ (fun i j => vs (p + i) j) hlen2 (by omega) hX hb (fun e he' => ?_) (fun i j hi hj => ?_) (fun i j hi hj => ?_)
   ·obtain ⟨i, hi, rfl⟩ := List.getElem_of_mem he'
    rw [hget i hi]
    exact hsz _ (List.getElem_mem _)
   ·have := hc (p + i) j (by omega) hj
    rw [<- this, Nat.add_mul]
    congr 2
    omega
   ·have e := hget i hi
    have : ∀ (L : List Dc) (_ : (((xs.drop p).take (q - p)).map enc)[i] = L) (hj' : j < L.length), yf w X (vs (p + i) j) L[j] -> yf w X (vs (p + i) j) ((((xs.drop p).take (q - p)).map enc)[i][j]) := by
     rintro L rfl hj' hh; exact hh
    exact this _ e (by rw [<- e]; exact hj) (he (p + i) j _ _)
theorem o_cutS {α : Type} {enc : α -> List Dc} {xs : List α} (j : Nat) {T e : TypeId} {sz bytes : Nat} {x : Operand} {a : Option Addr} {n c : Nat} {lo hi : Option Operand} {vlo vhi : Option Value} {p q : Int} (ht : slT E.P T = some (e, sz, bytes)) (hx : y9 l x = some (.slice a n c))
  (hlo : opvO l lo = some vlo) (hhi : opvO l hi = some vhi) (hj : Φ[j]? = some (.slice a n c, .slice sz (xs.map enc))) (h1 : cutLo vlo = some p) (h2 : cutHi xs.length vhi = some q) (hok : wl p q xs.length = true) (hd : Nat.blt d E.n = true)
  (h : ∀ a n c, WO E ops os ((d, .slice a n c) :: l) H ((.slice a n c, .slice sz ((sub xs p q).map enc)) :: Φ) N Q) : WO E ops (⟨some d, .slice T x lo hi none, ty, pos, aft, none⟩ :: os) l H Φ N Q := by
 refine wU fun ac w hs => ?_
 obtain ⟨hu, inf, z, g2, g3, g4, g5, g6, g7⟩ := vl ht
 have hp := hs.own.facts _ (List.mem_of_getElem? hj)
 have hn : n = xs.length /\ n <= c := by
  have : ∀ ys, yf w (fun b => E.X b \/ b ∈ zP H) (.slice a n c) (.slice sz ys) -> n = ys.length /\ n <= c := by
   intro ys hh
   cases hh with
   | nil => exact ⟨rfl, Nat.zero_le _⟩
   | slice b o len cap sz xs' vs hlen hcap => exact ⟨hlen.symm, hcap⟩
  simpa using this _ hp
 obtain ⟨rfl, hnc⟩ := hn
 have hok' := hok
 simp only [wl, Bool.and_eq_true, decide_eq_true_eq] at hok'
 have hr : (Instr.sliceAt T (.slice a xs.length c) vlo vhi none).run E.P w = .ok (.slice (if c = p.toNat then a else a.map (·.add (p.toNat * sz))) (q.toNat - p.toNat) (c - p.toNat)) w := by
  simp only [Instr.sliceAt, Sem.run_bind, yp hu, Result.andThen, Instr.slice]
  have hb := run_bounds (P := E.P) (isS := true) (cap := c) h1 h2 hok hnc w
  have hsz := uH (P := E.P) g2 w
  simp [hb, hsz, g4]
 refine ⟨_, w, ?_, h _ _ _ _ _ (St.putT ⟨hs.size, hs.defers, hs.tm, hs.own.addFact (pure_sub hp (by omega : p.toNat <= q.toNat) (by omega)), hs.frm, hs.base⟩ (yZ hd))⟩
 simp only [execOp, zB hs hx, qw hs hlo, qw hs hhi, Option.map_none, Sem.run_bind, hr]
 rfl
end
end Go.Vc
