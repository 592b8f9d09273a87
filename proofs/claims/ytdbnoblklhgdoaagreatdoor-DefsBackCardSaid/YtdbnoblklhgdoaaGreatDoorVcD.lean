import Derived.Test.YtdbnoblklhgdoaaGreatDoorVcC
set_option linter.unusedVariables false
set_option linter.unusedSimpArgs false
namespace Go.Vc
open Go
def HB.notDfr : HB -> Bool
 | .dfr _ => false
 | .itr _ _ _ => false
 | .mp _ _ => false
 | _ => true
inductive Out where
 | ret (v : Value)
 | pan (v : Value)
def Out.ending : Out -> Ending
 | .ret v => .returned v
 | .pan v => .panicked [{ v, recovered := false }]
abbrev vT := Out -> List HB -> List (Value × Dc) -> Prop
def Fin (w0 : World) (X : Nat -> Prop) (M : List Nat) (post : vT) (out : Out) (w' : World) : Prop :=
 ∃ H' Φ', post out H' Φ' /\ Frm w0 M w' /\ Own w' X H' Φ' /\ ∀ b ∈ zQ H', w0.heap.size <= b \/ b ∈ M
def xu (P : Program) (f : FuncId) (vs : List Value) (Hp : List HB) (Φp : List (Value × Dc)) (post : vT) : Prop :=
 ∀ w X, Own w X Hp Φp -> Calls P f vs.toArray w fun e w' => ∃ out : Out, e = out.ending /\ Fin w X (zQ Hp) post out w'
theorem xu.mono {P : Program} {f : FuncId} {vs : List Value} {Hp : List HB} {Φp : List (Value × Dc)} {post post' : vT} (h : xu P f vs Hp Φp post) (hp : ∀ o H Φ, post o H Φ -> post' o H Φ) : xu P f vs Hp Φp post' :=
 fun w X ho => (h w X ho).mono fun _ _ ⟨out, he, H', Φ', h1, h2⟩ => ⟨out, he, H', Φ', hp _ _ _ h1, h2⟩
def endR (w0 : World) (X : Nat -> Prop) (M : List Nat) (post : vT) : Ending -> World -> Prop := fun e w'' => ∃ out : Out, e = out.ending /\ Fin w0 X M post out w''
def uY (E : wx) (fn : Func) (post : vT) : SP := fun a w' => LeavesInM Fence.wide 1 E.P fn a.tmps (endR E.w0 E.X E.M post) a.defers .returning w'
def PanS (E : wx) (fn : Func) (post : vT) (v : Value) : SP := fun a w' => ∀ tmps, LeavesInM Fence.wide 1 E.P fn tmps (endR E.w0 E.X E.M post) a.defers (.panicking [{ v, recovered := false }]) w'
def numT : Nat -> List Value -> List (Nat × Value)
 | _, [] => []
 | i, v :: vs => (i, v) :: numT (i + 1) vs
theorem k0 : ∀ (vs : List Value) (i t : Nat) (v : Value), xl t (numT i vs) = some v -> i <= t /\ vs[t - i]? = some v
 | [], i, t, v, h => by simp [numT, xl] at h
 | u :: vs, i, t, v, h => by
  simp only [numT, xl] at h
  split at h
  ·rename_i hb
   have := Nat.eq_of_beq_eq_true hb
   subst this
   exact ⟨Nat.le_refl _, by simpa using h⟩
  ·have := k0 vs (i + 1) t v h
   refine ⟨by omega, ?_⟩
   rw [show t - i = (t - (i + 1)) + 1 by omega]
   simpa using this.2
theorem zt {P : Program} {f : FuncId} {fn : Func} {c : Code} {n : Nat} {vs : List Value} {Hp : List HB} {Φp : List (Value × Dc)} {post : vT} (hf : P.funcs[f]? = some fn) (hb : fn.body = some c) (hn : fn.ntmps = n)
  (hlen : Nat.ble vs.length n = true)
  (h : ∀ w X, WC ⟨P, n, w, X, zQ Hp, [], none⟩ c (numT 0 vs) Hp Φp (uY ⟨P, n, w, X, zQ Hp, [], none⟩ fn post) ⟨[], uY ⟨P, n, w, X, zQ Hp, [], none⟩ fn post, PanS ⟨P, n, w, X, zQ Hp, [], none⟩ fn post⟩) : xu P f vs Hp Φp post := by
 intro w X ho
 have hle := Nat.le_of_ble_eq_true hlen
 refine (callsIn_wide (n := 1)).1 (callsIn_of_wp_marks hf hb trivial (wpIn_mono (h w X _ w ⟨?_, rfl, ?_, ho, .refl _ _, fun b hb => .inr hb⟩) ?_))
 ·simp [hn]; omega
 ·intro t v ht
  have := (k0 vs 0 t v ht).2
  simp only [Nat.sub_zero] at this
  have hlt : t < vs.length := (List.getElem?_eq_some_iff.1 this).1
  rw [Array.getElem?_append_left (by simpa using hlt)]
  simpa using this
 ·intro e a w' he
  cases e with
  | normal => exact he
  | ret => exact he
  | panic ch => obtain ⟨v, rfl, h1⟩ := he; exact h1 _
  | exit id => exact he.elim
  | goto l => exact he.elim
  | outgrown => exact he.elim
section
variable {E : wx} {l : List (Nat × Value)} {H : List HB} {Φ : List (Value × Dc)} {N : SP} {Q : QS}
theorem Own.perm {w : World} {X : Nat -> Prop} {H H' : List HB} {Φ : List (Value × Dc)} (o : Own w X H Φ) (hp : H.Perm H') : Own w X H' Φ := by
 have hb : (zQ H).Perm (zQ H') := hp.filterMap _
 have hm : ∀ b, b ∈ zQ H' ↔ b ∈ zQ H := fun b => (hb.mem_iff).symm
 refine ⟨o.xin, hb.nodup_iff.1 o.nodup, fun b h => o.apart b ((hm b).1 h), fun b h => o.inw b ((hm b).1 h), fun h hh => ?_, fun p hp' => ?_⟩
 ·exact (o.live h (hp.mem_iff.2 hh)).mono (Nat.le_refl _) (fun _ _ => rfl) (fun _ _ _ => rfl) (fun b _ hx => hx.imp id (hm b).1)
 ·exact (o.facts p hp').weaken (fun b hx => hx.imp id (hm b).1)
theorem zn {Φ : List (Value × Dc)} : ∀ p ∈ ([] : List (Value × Dc)), p ∈ Φ := fun _ h => by cases h
def ResIs (E : wx) (l : List (Nat × Value)) (H : List HB) (Φ : List (Value × Dc)) (r : ResultVar) (v : Value) : Prop :=
 ∀ a w, St E l H Φ a w -> (match r with
  | .tmp t => (pure (a.tmps.getD t undef) : Sem Value)
  | .cell x t => do loadVar t (<- asAddr (a.tmps.getD x undef))).run E.P w = .ok v w
theorem zX {t : Nat} {v : Value} (h : xl t l = some v) : ResIs E l H Φ (.tmp t) v := by
 intro a w hs
 simp [hs.tm t v h]
theorem zM (j : Nat) {t : Nat} {T T' : TypeId} {b : Nat} {cs : List Value} {ag : Bool} {n : Nat} {v : Value} (h : xl t l = some (.pointer (some ⟨b, 0, none⟩))) (ht : ka E.P T = some (ag, n))
  (hj : H[j]? = some (.box b T' cs)) (hlen : Nat.beq cs.length n = true) (h1 : (ag || Nat.beq n 1) = true) (hv : uq ag cs = v) : ResIs E l H Φ (.cell t T) v := by
 intro a w hs
 have hb := kO hs hj
 have hr := vk (P := E.P) ht (b := b) (o := 0) (w := w) cs (Nat.eq_of_beq_eq_true hlen) (fun e => by subst e; simpa using Nat.eq_of_beq_eq_true (by simpa using h1)) (fun i hi => by
  simp only [World.cell?, hb, Option.isSome_none, Bool.false_eq_true, if_false]
  simp [hi])
 simp only [Array.getD_eq_getD_getElem?, hs.tm t _ h, Option.getD_some, asAddr, Sem.run_bind]
 simp only [pure, Sem.run, Result.andThen, hr, hv]
theorem xz {fn : Func} {post : vT} (hr : fn.results = #[]) (hp : ∀ a w, St E l H Φ a w -> Fin E.w0 E.X E.M post (.ret (.tuple #[])) w) (hds : E.ds = [] := by rfl) : zT E l H Φ (uY E fn post) := by
 intro a w hs
 have hd : a.defers = [] := by rw [hs.defers, hds]
 show LeavesInM _ _ _ _ _ _ a.defers _ _
 rw [hd]
 refine ⟨(.tuple #[]), ?_, _, rfl, hp a w hs⟩
 simp [results, hr]
theorem yH {fn : Func} {post : vT} {r : ResultVar} {v : Value} (hr : fn.results = #[r]) (h : ResIs E l H Φ r v) (hp : ∀ a w, St E l H Φ a w -> Fin E.w0 E.X E.M post (.ret v) w) (hds : E.ds = [] := by rfl) : zT E l H Φ (uY E fn post) := by
 intro a w hs
 have hd : a.defers = [] := by rw [hs.defers, hds]
 show LeavesInM _ _ _ _ _ _ a.defers _ _
 rw [hd]
 refine ⟨v, ?_, _, rfl, hp a w hs⟩
 have key : ∀ g : ResultVar -> Sem Value, (g r).run E.P w = .ok v w -> (do let vs <- #[r].mapM g; pure (if h : vs.size = 1 then vs[0] else .tuple vs) : Sem Value).run E.P w = .ok v w := by
  intro g g0; simp [g0]
 simp only [results, hr]
 exact key _ (h a w hs)
theorem ye {fn : Func} {post : vT} {r r2 : ResultVar} {v v2 : Value} (hr : fn.results = #[r, r2]) (h : ResIs E l H Φ r v) (h2 : ResIs E l H Φ r2 v2) (hp : ∀ a w, St E l H Φ a w -> Fin E.w0 E.X E.M post (.ret (.tuple #[v, v2])) w) (hds : E.ds = [] := by rfl) : zT E l H Φ (uY E fn post) := by
 intro a w hs
 have hd : a.defers = [] := by rw [hs.defers, hds]
 show LeavesInM _ _ _ _ _ _ a.defers _ _
 rw [hd]
 refine ⟨(.tuple #[v, v2]), ?_, _, rfl, hp a w hs⟩
 have key : ∀ g : ResultVar -> Sem Value, (g r).run E.P w = .ok v w -> (g r2).run E.P w = .ok v2 w -> (do let vs <- #[r, r2].mapM g; pure (if h : vs.size = 1 then vs[0] else .tuple vs) : Sem Value).run E.P w = .ok (.tuple #[v, v2]) w := by
  intro g g0 g1; simp [g0, g1]
 simp only [results, hr]
 exact key _ (h a w hs) (h2 a w hs)
theorem uB {fn : Func} {post : vT} {r r2 r3 : ResultVar} {v v2 v3 : Value} (hr : fn.results = #[r, r2, r3]) (h : ResIs E l H Φ r v) (h2 : ResIs E l H Φ r2 v2) (h3 : ResIs E l H Φ r3 v3) (hp : ∀ a w, St E l H Φ a w -> Fin E.w0 E.X E.M post (.ret (.tuple #[v, v2, v3])) w) (hds : E.ds = [] := by rfl) : zT E l H Φ (uY E fn post) := by
 intro a w hs
 have hd : a.defers = [] := by rw [hs.defers, hds]
 show LeavesInM _ _ _ _ _ _ a.defers _ _
 rw [hd]
 refine ⟨(.tuple #[v, v2, v3]), ?_, _, rfl, hp a w hs⟩
 have key : ∀ g : ResultVar -> Sem Value, (g r).run E.P w = .ok v w -> (g r2).run E.P w = .ok v2 w -> (g r3).run E.P w = .ok v3 w -> (do let vs <- #[r, r2, r3].mapM g; pure (if h : vs.size = 1 then vs[0] else .tuple vs) : Sem Value).run E.P w = .ok (.tuple #[v, v2, v3]) w := by
  intro g g0 g1 g2; simp [g0, g1, g2]
 simp only [results, hr]
 exact key _ (h a w hs) (h2 a w hs) (h3 a w hs)
theorem s_dfr (j D : Nat) {fn : Func} {post : vT} (hD : E.w0.heap.size <= D) (hds : E.ds = [coll D]) (hj : H[j]? = some (.dfr D)) (hno : (H.eraseIdx j).all HB.notDfr = true) (h : zT ⟨E.P, E.n, E.w0, E.X, E.M, [], E.rd⟩ l (H.eraseIdx j) Φ (uY E fn post)) : zT E l H Φ (uY E fn post) := by
 intro a w hs
 have hd : a.defers = [coll D] := by rw [hs.defers, hds]
 show LeavesInM _ _ _ _ _ _ a.defers _ _
 rw [hd]
 obtain ⟨hl, hXD⟩ := hs.own.live _ (List.mem_of_getElem? hj)
 have hold : ∀ b, b ≠ D -> (w.putObj D (.deferred none)).heap[b]? = w.heap[b]? := fun b hb => by
  simp only [World.putObj]
  rw [Array.getElem?_setIfInBounds_ne (fun e => hb e.symm)]
 have hsz : (w.putObj D (.deferred none)).heap.size = w.heap.size := by simp [World.putObj]
 refine ⟨by simp, .inl ⟨D, _, rfl, run_takeDeferred hl, ?_⟩⟩
 have hsub := List.eraseIdx_sublist H j
 have ho := hs.own.sub hsub (fun p hp => hp)
 have hX' : ∀ b, (E.X b \/ b ∈ zQ (H.eraseIdx j)) -> b ≠ D := by
  intro b hb e
  subst e
  exact hXD (hb.imp id (fun hm => (hsub.filterMap _).subset hm))
 have hpc : ∀ {X : Nat -> Prop} {v : Value} {d : Dc}, yi w X v d -> yi (w.putObj D (.deferred none)) X v d := fun hp => hp.atRec D hl rfl hsz hold
 have hown : Own (w.putObj D (.deferred none)) E.X (H.eraseIdx j) Φ := by
  refine ⟨fun b hb => by rw [hsz]; exact ho.xin b hb, ho.nodup, ho.apart, fun b hb => by rw [hsz]; exact ho.inw b hb, ?_, fun p hp => hpc (ho.facts p hp)⟩
  intro g hg
  have hlg := ho.live g hg
  cases g with
  | box b T cs =>
   have hne := hX' b (.inr (xa hg rfl))
   exact (hold b hne).trans hlg
  | itr _ _ _ => exact absurd (List.all_eq_true.1 hno _ hg) (by simp [HB.notDfr])
  | mp _ _ => exact absurd (List.all_eq_true.1 hno _ hg) (by simp [HB.notDfr])
  | dfr D' => exact absurd (List.all_eq_true.1 hno _ hg) (by simp [HB.notDfr])
  | row v T sz xs =>
   rcases hlg with hlg | ⟨b, cap, arr, rfl, h1, h2, h3, h4, h5, h6⟩
   ·exact .inl hlg
   ·refine .inr ⟨b, cap, arr, rfl, (hold b (hX' b (.inr (xa hg rfl)))).trans h1, h2, h3, h4, h5, fun i j hi hj => ?_⟩
    obtain ⟨u, hu, hp⟩ := h6 i j hi hj
    exact ⟨u, hu, hpc hp⟩
 refine h { a with defers := [] } (w.putObj D (.deferred none)) ⟨hs.size, rfl, hs.tm, hown, ⟨hs.frm.os, hs.frm.tape, hs.frm.output, by rw [hsz]; exact hs.frm.size, fun b hb hm => ?_⟩, fun b hb => hs.base b ((hsub.filterMap HB.blk).subset hb)⟩
 have hb' : b < E.w0.heap.size := hb
 rw [hold b (by omega)]
 exact hs.frm.block b hb' hm
def zr (P : Program) (f : FuncId) : Prop := ∀ args w, (callFunc f args).run P w = .ok (.enter f args) w
theorem zj {P : Program} {f : FuncId} {fn : Func} (hf : P.funcs[f]? = some fn) (hn : (fn.name == "runtime.NumGoroutine") = false) (hb : fn.body.isNone = false) : zr P f := by
 intro args w
 simp only [callFunc, program, Sem.run_bind, Sem.run, Result.andThen, hf, hn, hb]
 rfl
def hZ (l : List (Nat × Value)) : List Operand -> Option (List Value)
 | [] => some []
 | x :: r => match xd l x, hZ l r with
  | some v, some vs => some (v :: vs)
  | _, _ => none
theorem vO {a : Act} {w : World} (hs : St E l H Φ a w) : ∀ (xs : List Operand) (vs : List Value), hZ l xs = some vs -> xs.map a.eval = vs
 | [], vs, h => by simp only [hZ, Option.some.injEq] at h; subst h; rfl
 | x :: r, vs, h => by
  simp only [hZ] at h
  cases h1 : xd l x with
  | none => simp [h1] at h
  | some v =>
   cases h2 : hZ l r with
   | none => simp [h1, h2] at h
   | some vs' =>
    simp only [h1, h2, Option.some.injEq] at h
    subst h
    simp [zE hs h1, vO hs r vs' h2]
def wN : List Nat -> List HB -> List HB
 | [], _ => []
 | j :: js, H => match H[j]? with
  | some h => h :: wN js (H.eraseIdx j)
  | none => wN js H
def xM : List Nat -> List HB -> List HB
 | [], H => H
 | j :: js, H => match H[j]? with
  | some _ => xM js (H.eraseIdx j)
  | none => xM js H
theorem perm_front {j : Nat} {h : HB} : ∀ {H : List HB}, H[j]? = some h -> H.Perm (h :: H.eraseIdx j) := by
 induction j with
 | zero => intro H hj; cases H with
  | nil => simp at hj
  | cons g H => simp only [List.getElem?_cons_zero, Option.some.injEq] at hj; subst hj; exact .refl _
 | succ j ih => intro H hj; cases H with
  | nil => simp at hj
  | cons g H =>
   simp only [List.getElem?_cons_succ] at hj
   simp only [List.eraseIdx_cons_succ]
   exact ((ih hj).cons g).trans (.swap _ _ _)
theorem xL : ∀ (js : List Nat) (H : List HB), H.Perm (wN js H ++ xM js H)
 | [], H => .refl _
 | j :: js, H => by
  simp only [wN, xM]
  cases hj : H[j]? with
  | none => exact xL js H
  | some h => exact (perm_front hj).trans ((xL js _).cons h)
theorem Own.lend {w : World} {X : Nat -> Prop} {Hp Hr : List HB} {Φ : List (Value × Dc)} (o : Own w X (Hp ++ Hr) Φ) : Own w (fun b => X b \/ b ∈ zQ Hr) Hp Φ := by
 have hn := o.nodup
 rw [zZ] at hn
 have h1 := List.nodup_append.1 hn
 have hY : ∀ b, ((X b \/ b ∈ zQ Hr) \/ b ∈ zQ Hp) -> (X b \/ b ∈ zQ (Hp ++ Hr)) := by
  intro b h
  rw [zZ, List.mem_append]
  rcases h with (h | h) | h
  ·exact .inl h
  ·exact .inr (.inr h)
  ·exact .inr (.inl h)
 refine ⟨?_, h1.1, ?_, fun b hb => o.inw b (by simp [hb]), ?_, ?_⟩
 ·rintro b (hb | hb)
  ·exact o.xin b hb
  ·exact o.inw b (by simp [hb])
 ·rintro b hb (hx | hx)
  ·exact o.apart b (by simp [hb]) hx
  ·exact h1.2.2 b hb b hx rfl
 ·intro h hh
  exact (o.live h (by simp [hh])).mono (Nat.le_refl _) (fun _ _ => rfl) (fun _ _ _ => rfl) (fun b _ => hY b)
 ·intro p hp
  exact (o.facts p hp).weaken hY
theorem Own.back {w w' : World} {X : Nat -> Prop} {Hp Hr H' : List HB} {Φ Φ' : List (Value × Dc)} (o : Own w X (Hp ++ Hr) Φ) (hf : Frm w (zQ Hp) w') (o' : Own w' (fun b => X b \/ b ∈ zQ Hr) H' Φ')
  (hb : ∀ b ∈ zQ H', w.heap.size <= b \/ b ∈ zQ Hp) : Own w' X (H' ++ Hr) (Φ' ++ Φ) := by
 have hn := o.nodup
 rw [zZ] at hn
 have h1 := List.nodup_append.1 hn
 have hYo : ∀ b, b < w.heap.size -> (X b \/ b ∈ zQ (H' ++ Hr)) -> (X b \/ b ∈ zQ (Hp ++ Hr)) := by
  intro b hlt h
  rw [zZ, List.mem_append] at h ⊢
  rcases h with h | h | h
  ·exact .inl h
  ·rcases hb b h with h0 | h0
   ·omega
   ·exact .inr (.inl h0)
  ·exact .inr (.inr h)
 have hYn : ∀ b, (X b \/ b ∈ zQ (H' ++ Hr)) -> ((X b \/ b ∈ zQ Hr) \/ b ∈ zQ H') := by
  intro b h
  rw [zZ, List.mem_append] at h
  rcases h with h | h | h
  ·exact .inl (.inl h)
  ·exact .inr h
  ·exact .inl (.inr h)
 refine ⟨fun b hx => Nat.lt_of_lt_of_le (o.xin b hx) hf.size, ?_, ?_, ?_, ?_, ?_⟩
 ·rw [zZ]
  refine List.nodup_append.2 ⟨o'.nodup, h1.2.1, ?_⟩
  rintro b hb1 c hc rfl
  exact o'.apart b hb1 (.inr hc)
 ·intro b h hx
  rw [zZ] at h
  rcases List.mem_append.1 h with h | h
  ·exact o'.apart b h (.inl hx)
  ·exact o.apart b (by simp [h]) hx
 ·intro b h
  rw [zZ] at h
  rcases List.mem_append.1 h with h | h
  ·exact o'.inw b h
  ·exact Nat.lt_of_lt_of_le (o.inw b (by simp [h])) hf.size
 ·intro h hh
  rcases List.mem_append.1 hh with hh | hh
  ·exact (o'.live h hh).mono (Nat.le_refl _) (fun _ _ => rfl) (fun _ _ _ => rfl) (fun b _ => hYn b)
  ·have hm : h ∈ Hp ++ Hr := by simp [hh]
   refine (o.live h hm).mono hf.size (fun b hbl => hf.block b (o.inw b (xa hm hbl)) (fun hin => h1.2.2 b hin b (xa hh hbl) rfl)) (fun b hlt hx => hf.block b hlt (fun hin => hx (.inr (by simp [hin])))) hYo
 ·intro p hp
  rcases List.mem_append.1 hp with hp | hp
  ·exact (o'.facts p hp).weaken hYn
  ·exact (o.facts p hp).mono hf.size (fun b hlt hx => hf.block b hlt (fun hin => hx (.inr (by simp [hin])))) hYo
end
section
variable {E : wx} {ops : Array Oper} {os : List Oper} {l : List (Nat × Value)} {H : List HB} {Φ : List (Value × Dc)} {N : SP} {Q : QS}
variable {ty : TypeId} {pos : String} {aft : Array Edge} {d : Nat}
theorem qy {f : FuncId} {args : Array Operand} {argTypes : Array TypeId} {dst : Option Nat} {a : Act} {w : World} {vs : List Value} {x : Operand} {cap : Array Value} (hc : zr E.P f) (hx : a.eval x = .func (.func f) #[] cap) (ha : args.toList.map a.eval = vs) :
  (execOp a.eval ⟨dst, .call ⟨.value x, args, argTypes⟩, ty, pos, aft, none⟩).run E.P w = .ok (.enter f (vs ++ cap.toList).toArray) w := by
 have e : args.map a.eval = vs.toArray := by rw [<- ha, <- List.map_toArray]
 simp only [execOp, resolve, e, hx, Deferred.ofValue, Sem.run_bind]
 simp only [pure, Sem.run, Result.andThen, invoke]
 have := hc ((vs ++ cap.toList).toArray) w
 have e2 : (#[] : Array Value) ++ vs.toArray ++ cap = (vs ++ cap.toList).toArray := by
  apply Array.toList_inj.1; simp
 rw [e2]
 exact this
theorem xZ (js : List Nat) {f : FuncId} {args : Array Operand} {argTypes : Array TypeId} {x : Operand} {cap : Array Value} {vs : List Value} {Hp : List HB} {Φp : List (Value × Dc)} {post : vT}
  (hc : zr E.P f) (hx : xd l x = some (.func (.func f) #[] cap)) (ha : hZ l args.toList = some vs) (hsel : wN js H = Hp) (hΦ : ∀ p ∈ Φp, p ∈ Φ) (tri : xu E.P f (vs ++ cap.toList) Hp Φp post) (hd : Nat.blt d E.n = true)
  (h : ∀ out H' Φ', post out H' Φ' -> match out with
   | .ret v => WO E ops os ((d, v) :: l) (H' ++ xM js H) (Φ' ++ Φ) N Q
   | .pan v => zT E l (H' ++ xM js H) (Φ' ++ Φ) (Q.Pn v)) :
  WO E ops (⟨some d, .call ⟨.value x, args, argTypes⟩, ty, pos, aft, none⟩ :: os) l H Φ N Q := by
 intro a w hs
 subst hsel
 simp only [wpL, Region.wanted, if_true, Oper.wp, qy (E := E) hc (zE hs hx) (vO hs _ _ ha), Oper.upon]
 have o0 := hs.own.perm (xL js H)
 have o1 := (o0.sub (List.Sublist.refl _) hΦ)
 refine (tri w _ o1.lend).mono ?_
 rintro e w' ⟨out, rfl, H', Φ', hp, hf, ho, hb⟩
 have hbase : ∀ b ∈ zQ (H' ++ xM js H), E.w0.heap.size <= b \/ b ∈ E.M := by
  intro b hbm
  rw [zZ] at hbm
  have hall : ∀ c, c ∈ zQ (wN js H) \/ c ∈ zQ (xM js H) -> E.w0.heap.size <= c \/ c ∈ E.M := fun c hc' =>
   hs.base c (((xL js H).filterMap HB.blk).mem_iff.2 (by
    have : (wN js H ++ xM js H).filterMap HB.blk = zQ (wN js H) ++ zQ (xM js H) := by rw [<- zZ]; rfl
    rw [this, List.mem_append]; exact hc'))
  rcases List.mem_append.1 hbm with h1 | h1
  ·rcases hb b h1 with h2 | h2
   ·exact .inl (Nat.le_trans hs.frm.size h2)
   ·exact hall b (.inl h2)
  ·exact hall b (.inr h1)
 have hfrm : Frm E.w0 E.M w' := by
  refine ⟨hf.os.trans hs.frm.os, hf.tape.trans hs.frm.tape, hf.output.trans hs.frm.output, Nat.le_trans hs.frm.size hf.size, fun b hlt hm => ?_⟩
  rw [hf.block b (Nat.lt_of_lt_of_le hlt hs.frm.size) (fun hin => ?_)]
  ·exact hs.frm.block b hlt hm
  ·have := hs.base b (((xL js H).filterMap HB.blk).mem_iff.2 (by
    have : (wN js H ++ xM js H).filterMap HB.blk = zQ (wN js H) ++ zQ (xM js H) := by rw [<- zZ]; rfl
    rw [this, List.mem_append]; exact .inl hin))
   rcases this with h1 | h1
   ·omega
   ·exact hm h1
 have hown := o0.back hf ho hb
 have hs' : St E l (H' ++ xM js H) (Φ' ++ Φ) a w' := ⟨hs.size, hs.defers, hs.tm, hown, hfrm, hbase⟩
 cases out with
 | ret v => exact h _ H' Φ' hp _ w' (hs'.put_same (xe hd))
 | pan v => exact ⟨v, rfl, h _ H' Φ' hp a w' hs'⟩
theorem zV {f : FuncId} {args : Array Operand} {argTypes : Array TypeId} {vs : List Value} {Φp : List (Value × Dc)} {post : vT}
  (hc : zr E.P f) (ha : hZ l args.toList = some vs) (hΦ : ∀ p ∈ Φp, p ∈ Φ) (tri : xu E.P f vs [] Φp post) (hd : Nat.blt d E.n = true)
  (h : ∀ out H' Φ', post out H' Φ' -> match out with
   | .ret v => WO E ops os ((d, v) :: l) (H' ++ H) (Φ' ++ Φ) N Q
   | .pan v => zT E l (H' ++ H) (Φ' ++ Φ) (Q.Pn v)) :
  WO E ops (⟨some d, .call ⟨.value (.func f), args, argTypes⟩, ty, pos, aft, none⟩ :: os) l H Φ N Q :=
 xZ [] (cap := #[]) hc rfl ha rfl hΦ (by show xu E.P f (vs ++ []) [] Φp post; rw [List.append_nil]; exact tri) hd h
theorem o_callS {f : FuncId} {args : Array Operand} {argTypes : Array TypeId} {vs : List Value} {Φp : List (Value × Dc)} {v : Value}
  (hc : zr E.P f) (ha : hZ l args.toList = some vs) (hΦ : ∀ p ∈ Φp, p ∈ Φ) (tri : xu E.P f vs [] Φp (fun o H Φ => o = .ret v /\ H = [] /\ Φ = [])) (hd : Nat.blt d E.n = true)
  (h : WO E ops os ((d, v) :: l) H Φ N Q) :
  WO E ops (⟨some d, .call ⟨.value (.func f), args, argTypes⟩, ty, pos, aft, none⟩ :: os) l H Φ N Q :=
 zV hc ha hΦ tri hd (by rintro _ _ _ ⟨rfl, rfl, rfl⟩; exact h)
end
end Go.Vc
