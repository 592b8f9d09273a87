/-
  Calls: what a function does to what it is handed ('Tri'), how that is shown, and how it is used.
-/
import Derived.Test.YtfhbgelpmbkooaaVcC
set_option linter.unusedVariables false
set_option linter.unusedSimpArgs false
namespace Go.Vc
open Go
inductive Out where
  | ret (v : Value)
  | pan (v : Value)
def Out.ending : Out → Ending
  | .ret v => .returned v
  | .pan v => .panicked [{ v, recovered := false }]
abbrev Post := Out → List HB → List (Value × Dc) → Prop
def Fin (w0 : World) (X : Nat → Prop) (M : List Nat) (post : Post) (out : Out) (w' : World) : Prop :=
  ∃ H' Φ', post out H' Φ' ∧ Frm w0 M w' ∧ Own w' X H' Φ' ∧ ∀ b ∈ blks H', w0.heap.size ≤ b ∨ b ∈ M
def Tri (P : Program) (f : FuncId) (vs : List Value) (Hp : List HB) (Φp : List (Value × Dc)) (post : Post) : Prop :=
  ∀ w X, Own w X Hp Φp → Calls P f vs.toArray w fun e w' => ∃ out : Out, e = out.ending ∧ Fin w X (blks Hp) post out w'
theorem Tri.mono {P : Program} {f : FuncId} {vs : List Value} {Hp : List HB} {Φp : List (Value × Dc)} {post post' : Post} (h : Tri P f vs Hp Φp post) (hp : ∀ o H Φ, post o H Φ → post' o H Φ) : Tri P f vs Hp Φp post' :=
  fun w X ho => (h w X ho).mono fun _ _ ⟨out, he, H', Φ', h1, h2⟩ => ⟨out, he, H', Φ', hp _ _ _ h1, h2⟩
def endR (w0 : World) (X : Nat → Prop) (M : List Nat) (post : Post) : Ending → World → Prop := fun e w'' => ∃ out : Out, e = out.ending ∧ Fin w0 X M post out w''
def RetS (E : Env) (fn : Func) (post : Post) : SP := fun a w' => LeavesInM Fence.wide 1 E.P fn a.tmps (endR E.w0 E.X E.M post) a.defers .returning w'
def PanS (E : Env) (fn : Func) (post : Post) (v : Value) : SP := fun a w' => ∀ tmps, LeavesInM Fence.wide 1 E.P fn tmps (endR E.w0 E.X E.M post) a.defers (.panicking [{ v, recovered := false }]) w'
def numT : Nat → List Value → List (Nat × Value)
  | _, [] => []
  | i, v :: vs => (i, v) :: numT (i + 1) vs
theorem findT_numT : ∀ (vs : List Value) (i t : Nat) (v : Value), findT t (numT i vs) = some v → i ≤ t ∧ vs[t - i]? = some v
  | [], i, t, v, h => by simp [numT, findT] at h
  | u :: vs, i, t, v, h => by
    simp only [numT, findT] at h
    split at h
    · rename_i hb
      have := Nat.eq_of_beq_eq_true hb
      subst this
      exact ⟨Nat.le_refl _, by simpa using h⟩
    · have := findT_numT vs (i + 1) t v h
      refine ⟨by omega, ?_⟩
      rw [show t - i = (t - (i + 1)) + 1 by omega]
      simpa using this.2
theorem tri_intro {P : Program} {f : FuncId} {fn : Func} {c : Code} {n : Nat} {vs : List Value} {Hp : List HB} {Φp : List (Value × Dc)} {post : Post} (hf : P.funcs[f]? = some fn) (hb : fn.body = some c) (hn : fn.ntmps = n)
    (hlen : Nat.ble vs.length n = true)
    (h : ∀ w X, WC ⟨P, n, w, X, blks Hp, [], none⟩ c (numT 0 vs) Hp Φp (RetS ⟨P, n, w, X, blks Hp, [], none⟩ fn post) ⟨[], RetS ⟨P, n, w, X, blks Hp, [], none⟩ fn post, PanS ⟨P, n, w, X, blks Hp, [], none⟩ fn post⟩) : Tri P f vs Hp Φp post := by
  intro w X ho
  have hle := Nat.le_of_ble_eq_true hlen
  refine (callsIn_wide (n := 1)).1 (callsIn_of_wp_marks hf hb trivial (wpIn_mono (h w X _ w ⟨?_, rfl, ?_, ho, .refl _ _, fun b hb => .inr hb⟩) ?_))
  · simp [hn]; omega
  · intro t v ht
    have := (findT_numT vs 0 t v ht).2
    simp only [Nat.sub_zero] at this
    have hlt : t < vs.length := (List.getElem?_eq_some_iff.1 this).1
    rw [Array.getElem?_append_left (by simpa using hlt)]
    simpa using this
  · intro e a w' he
    cases e with
    | normal => exact he
    | ret => exact he
    | panic ch => obtain ⟨v, rfl, h1⟩ := he; exact h1 _
    | exit id => exact he.elim
    | goto l => exact he.elim
    | outgrown => exact he.elim
section
variable {E : Env} {l : List (Nat × Value)} {H : List HB} {Φ : List (Value × Dc)} {N : SP} {Q : QS}
theorem Own.perm {w : World} {X : Nat → Prop} {H H' : List HB} {Φ : List (Value × Dc)} (o : Own w X H Φ) (hp : H.Perm H') : Own w X H' Φ := by
  have hb : (blks H).Perm (blks H') := perm_blks hp
  have hm : ∀ b, b ∈ blks H' ↔ b ∈ blks H := fun b => (hb.mem_iff).symm
  refine ⟨o.xin, hb.nodup_iff.1 o.nodup, fun b h => o.apart b ((hm b).1 h), fun b h => o.inw b ((hm b).1 h), fun h hh => ?_, fun p hp' => ?_⟩
  · exact (o.live h (hp.mem_iff.2 hh)).mono (Nat.le_refl _) (fun _ _ => rfl) (fun _ _ _ => rfl) (fun b _ hx => hx.imp id (hm b).1)
  · exact (o.facts p hp').weaken (fun b hx => hx.imp id (hm b).1)
theorem sub_nil {Φ : List (Value × Dc)} : ∀ p ∈ ([] : List (Value × Dc)), p ∈ Φ := fun _ h => by cases h
def ResIs (E : Env) (l : List (Nat × Value)) (H : List HB) (Φ : List (Value × Dc)) (r : ResultVar) (v : Value) : Prop :=
  ∀ a w, St E l H Φ a w → (match r with
    | .tmp t => (pure (a.tmps.getD t undef) : Sem Value)
    | .cell x t => do loadVar t (← asAddr (a.tmps.getD x undef))).run E.P w = .ok v w
theorem r_tmp {t : Nat} {v : Value} (h : findT t l = some v) : ResIs E l H Φ (.tmp t) v := by
  intro a w hs
  simp [hs.tm t v h]
theorem r_cell (j : Nat) {t : Nat} {T T' : TypeId} {b : Nat} {cs : List Value} {ag : Bool} {n : Nat} {v : Value} (h : findT t l = some (.pointer (some ⟨b, 0, none⟩))) (ht : tyd E.P T = some (ag, n))
    (hj : H[j]? = some (.box b T' cs)) (hlen : Nat.beq cs.length n = true) (h1 : (ag || Nat.beq n 1) = true) (hv : asVal ag cs = v) : ResIs E l H Φ (.cell t T) v := by
  intro a w hs
  have hb := box_cells hs hj
  have hr := run_loadVar (P := E.P) ht (b := b) (o := 0) (w := w) cs (Nat.eq_of_beq_eq_true hlen) (fun e => by subst e; simpa using Nat.eq_of_beq_eq_true (by simpa using h1)) (fun i hi => by
    simp only [World.cell?, hb, Option.isSome_none, Bool.false_eq_true, if_false]
    simp [hi])
  simp only [Array.getD_eq_getD_getElem?, hs.tm t _ h, Option.getD_some, asAddr, Sem.run_bind]
  simp only [pure, Sem.run, Result.andThen, hr, hv]
theorem s_ret0 {fn : Func} {post : Post} (hr : fn.results = #[]) (hp : ∀ a w, St E l H Φ a w → Fin E.w0 E.X E.M post (.ret (.tuple #[])) w) (hds : E.ds = [] := by rfl) : Sat E l H Φ (RetS E fn post) := by
  intro a w hs
  have hd : a.defers = [] := by rw [hs.defers, hds]
  show LeavesInM _ _ _ _ _ _ a.defers _ _
  rw [hd]
  refine ⟨(.tuple #[]), ?_, _, rfl, hp a w hs⟩
  simp [results, hr]
theorem s_ret1 {fn : Func} {post : Post} {r : ResultVar} {v : Value} (hr : fn.results = #[r]) (h : ResIs E l H Φ r v) (hp : ∀ a w, St E l H Φ a w → Fin E.w0 E.X E.M post (.ret v) w) (hds : E.ds = [] := by rfl) : Sat E l H Φ (RetS E fn post) := by
  intro a w hs
  have hd : a.defers = [] := by rw [hs.defers, hds]
  show LeavesInM _ _ _ _ _ _ a.defers _ _
  rw [hd]
  refine ⟨v, ?_, _, rfl, hp a w hs⟩
  have key : ∀ g : ResultVar → Sem Value, (g r).run E.P w = .ok v w → (do let vs ← #[r].mapM g; pure (if h : vs.size = 1 then vs[0] else .tuple vs) : Sem Value).run E.P w = .ok v w := by
    intro g g0; simp [g0]
  simp only [results, hr]
  exact key _ (h a w hs)
theorem s_ret2 {fn : Func} {post : Post} {r r2 : ResultVar} {v v2 : Value} (hr : fn.results = #[r, r2]) (h : ResIs E l H Φ r v) (h2 : ResIs E l H Φ r2 v2) (hp : ∀ a w, St E l H Φ a w → Fin E.w0 E.X E.M post (.ret (.tuple #[v, v2])) w) (hds : E.ds = [] := by rfl) : Sat E l H Φ (RetS E fn post) := by
  intro a w hs
  have hd : a.defers = [] := by rw [hs.defers, hds]
  show LeavesInM _ _ _ _ _ _ a.defers _ _
  rw [hd]
  refine ⟨(.tuple #[v, v2]), ?_, _, rfl, hp a w hs⟩
  have key : ∀ g : ResultVar → Sem Value, (g r).run E.P w = .ok v w → (g r2).run E.P w = .ok v2 w → (do let vs ← #[r, r2].mapM g; pure (if h : vs.size = 1 then vs[0] else .tuple vs) : Sem Value).run E.P w = .ok (.tuple #[v, v2]) w := by
    intro g g0 g1; simp [g0, g1]
  simp only [results, hr]
  exact key _ (h a w hs) (h2 a w hs)
def Callable (P : Program) (f : FuncId) : Prop := ∀ args w, (callFunc f args).run P w = .ok (.enter f args) w
theorem callable_of {P : Program} {f : FuncId} {fn : Func} (hf : P.funcs[f]? = some fn) (hn : (fn.name == "runtime.NumGoroutine") = false) (hb : fn.body.isNone = false) : Callable P f := by
  intro args w
  simp only [callFunc, program, Sem.run_bind, Sem.run, Result.andThen, hf, hn, hb]
  rfl
def opvL (l : List (Nat × Value)) : List Operand → Option (List Value)
  | [] => some []
  | x :: r => match opv l x, opvL l r with
    | some v, some vs => some (v :: vs)
    | _, _ => none
theorem opvL_eval {a : Act} {w : World} (hs : St E l H Φ a w) : ∀ (xs : List Operand) (vs : List Value), opvL l xs = some vs → xs.map a.eval = vs
  | [], vs, h => by simp only [opvL, Option.some.injEq] at h; subst h; rfl
  | x :: r, vs, h => by
    simp only [opvL] at h
    cases h1 : opv l x with
    | none => simp [h1] at h
    | some v =>
      cases h2 : opvL l r with
      | none => simp [h1, h2] at h
      | some vs' =>
        simp only [h1, h2, Option.some.injEq] at h
        subst h
        simp [opv_eval hs h1, opvL_eval hs r vs' h2]
def selS : List Nat → List HB → List HB
  | [], _ => []
  | j :: js, H => match H[j]? with
    | some h => h :: selS js (H.eraseIdx j)
    | none => selS js H
def restS : List Nat → List HB → List HB
  | [], H => H
  | j :: js, H => match H[j]? with
    | some _ => restS js (H.eraseIdx j)
    | none => restS js H
theorem perm_front {j : Nat} {h : HB} : ∀ {H : List HB}, H[j]? = some h → H.Perm (h :: H.eraseIdx j) := by
  induction j with
  | zero => intro H hj; cases H with
    | nil => simp at hj
    | cons g H => simp only [List.getElem?_cons_zero, Option.some.injEq] at hj; subst hj; exact .refl _
  | succ j ih => intro H hj; cases H with
    | nil => simp at hj
    | cons g H =>
      simp only [List.getElem?_cons_succ] at hj
      simp only [List.eraseIdx_cons_succ]
      exact ((ih hj).cons g).trans (.swap _ _ _)
theorem sel_perm : ∀ (js : List Nat) (H : List HB), H.Perm (selS js H ++ restS js H)
  | [], H => .refl _
  | j :: js, H => by
    simp only [selS, restS]
    cases hj : H[j]? with
    | none => exact sel_perm js H
    | some h => exact (perm_front hj).trans ((sel_perm js _).cons h)
theorem Own.lend {w : World} {X : Nat → Prop} {Hp Hr : List HB} {Φ : List (Value × Dc)} (o : Own w X (Hp ++ Hr) Φ) : Own w (fun b => X b ∨ b ∈ blks Hr) Hp Φ := by
  have hn := o.nodup
  rw [blks_append] at hn
  have h1 := List.nodup_append.1 hn
  have hY : ∀ b, ((X b ∨ b ∈ blks Hr) ∨ b ∈ blks Hp) → (X b ∨ b ∈ blks (Hp ++ Hr)) := by
    intro b h
    rw [blks_append, List.mem_append]
    rcases h with (h | h) | h
    · exact .inl h
    · exact .inr (.inr h)
    · exact .inr (.inl h)
  refine ⟨?_, h1.1, ?_, fun b hb => o.inw b (by simp [hb]), ?_, ?_⟩
  · rintro b (hb | hb)
    · exact o.xin b hb
    · exact o.inw b (by simp [hb])
  · rintro b hb (hx | hx)
    · exact o.apart b (by simp [hb]) hx
    · exact h1.2.2 b hb b hx rfl
  · intro h hh
    exact (o.live h (by simp [hh])).mono (Nat.le_refl _) (fun _ _ => rfl) (fun _ _ _ => rfl) (fun b _ => hY b)
  · intro p hp
    exact (o.facts p hp).weaken hY
theorem Own.back {w w' : World} {X : Nat → Prop} {Hp Hr H' : List HB} {Φ Φ' : List (Value × Dc)} (o : Own w X (Hp ++ Hr) Φ) (hf : Frm w (blks Hp) w') (o' : Own w' (fun b => X b ∨ b ∈ blks Hr) H' Φ')
    (hb : ∀ b ∈ blks H', w.heap.size ≤ b ∨ b ∈ blks Hp) : Own w' X (H' ++ Hr) (Φ' ++ Φ) := by
  have hn := o.nodup
  rw [blks_append] at hn
  have h1 := List.nodup_append.1 hn
  have hYo : ∀ b, b < w.heap.size → (X b ∨ b ∈ blks (H' ++ Hr)) → (X b ∨ b ∈ blks (Hp ++ Hr)) := by
    intro b hlt h
    rw [blks_append, List.mem_append] at h ⊢
    rcases h with h | h | h
    · exact .inl h
    · rcases hb b h with h0 | h0
      · omega
      · exact .inr (.inl h0)
    · exact .inr (.inr h)
  have hYn : ∀ b, (X b ∨ b ∈ blks (H' ++ Hr)) → ((X b ∨ b ∈ blks Hr) ∨ b ∈ blks H') := by
    intro b h
    rw [blks_append, List.mem_append] at h
    rcases h with h | h | h
    · exact .inl (.inl h)
    · exact .inr h
    · exact .inl (.inr h)
  refine ⟨fun b hx => Nat.lt_of_lt_of_le (o.xin b hx) hf.size, ?_, ?_, ?_, ?_, ?_⟩
  · rw [blks_append]
    refine List.nodup_append.2 ⟨o'.nodup, h1.2.1, ?_⟩
    rintro b hb1 c hc rfl
    exact o'.apart b hb1 (.inr hc)
  · intro b h hx
    rw [blks_append] at h
    rcases List.mem_append.1 h with h | h
    · exact o'.apart b h (.inl hx)
    · exact o.apart b (by simp [h]) hx
  · intro b h
    rw [blks_append] at h
    rcases List.mem_append.1 h with h | h
    · exact o'.inw b h
    · exact Nat.lt_of_lt_of_le (o.inw b (by simp [h])) hf.size
  · intro h hh
    rcases List.mem_append.1 hh with hh | hh
    · exact (o'.live h hh).mono (Nat.le_refl _) (fun _ _ => rfl) (fun _ _ _ => rfl) (fun b _ => hYn b)
    · have hm : h ∈ Hp ++ Hr := by simp [hh]
      refine (o.live h hm).mono hf.size (fun b hbl => hf.block b (o.inw b (mem_bks hm hbl)) (fun hin => h1.2.2 b hin b (mem_bks hh hbl) rfl)) (fun b hlt hx => hf.block b hlt (fun hin => hx (.inr (by simp [hin])))) hYo
  · intro p hp
    rcases List.mem_append.1 hp with hp | hp
    · exact (o'.facts p hp).weaken hYn
    · exact (o.facts p hp).mono hf.size (fun b hlt hx => hf.block b hlt (fun hin => hx (.inr (by simp [hin])))) hYo
end
section
variable {E : Env} {ops : Array Oper} {os : List Oper} {l : List (Nat × Value)} {H : List HB} {Φ : List (Value × Dc)} {N : SP} {Q : QS}
variable {ty : TypeId} {pos : String} {aft : Array Edge} {d : Nat}
theorem run_call_value {f : FuncId} {args : Array Operand} {argTypes : Array TypeId} {dst : Option Nat} {a : Act} {w : World} {vs : List Value} {x : Operand} {cap : Array Value} (hc : Callable E.P f) (hx : a.eval x = .func (.func f) #[] cap) (ha : args.toList.map a.eval = vs) :
    (execOp a.eval ⟨dst, .call ⟨.value x, args, argTypes⟩, ty, pos, aft, none⟩).run E.P w = .ok (.enter f (vs ++ cap.toList).toArray) w := by
  have e : args.map a.eval = vs.toArray := by rw [← ha, ← List.map_toArray]
  simp only [execOp, resolve, e, hx, Deferred.ofValue, Sem.run_bind]
  simp only [pure, Sem.run, Result.andThen, invoke]
  have := hc ((vs ++ cap.toList).toArray) w
  have e2 : (#[] : Array Value) ++ vs.toArray ++ cap = (vs ++ cap.toList).toArray := by
    apply Array.toList_inj.1; simp
  rw [e2]
  exact this
theorem o_call (js : List Nat) {f : FuncId} {args : Array Operand} {argTypes : Array TypeId} {x : Operand} {cap : Array Value} {vs : List Value} {Hp : List HB} {Φp : List (Value × Dc)} {post : Post}
    (hc : Callable E.P f) (hx : opv l x = some (.func (.func f) #[] cap)) (ha : opvL l args.toList = some vs) (hsel : selS js H = Hp) (hΦ : ∀ p ∈ Φp, p ∈ Φ) (tri : Tri E.P f (vs ++ cap.toList) Hp Φp post) (hd : Nat.blt d E.n = true)
    (h : ∀ out H' Φ', post out H' Φ' → match out with
      | .ret v => WO E ops os ((d, v) :: l) (H' ++ restS js H) (Φ' ++ Φ) N Q
      | .pan v => Sat E l (H' ++ restS js H) (Φ' ++ Φ) (Q.Pn v)) :
    WO E ops (⟨some d, .call ⟨.value x, args, argTypes⟩, ty, pos, aft, none⟩ :: os) l H Φ N Q := by
  intro a w hs
  subst hsel
  simp only [wpL, Region.wanted, if_true, Oper.wp, run_call_value (E := E) hc (opv_eval hs hx) (opvL_eval hs _ _ ha), Oper.upon]
  have o0 := hs.own.perm (sel_perm js H)
  have o1 := (o0.sub (List.Sublist.refl _) hΦ)
  refine (tri w _ o1.lend).mono ?_
  rintro e w' ⟨out, rfl, H', Φ', hp, hf, ho, hb⟩
  have hbase : ∀ b ∈ blks (H' ++ restS js H), E.w0.heap.size ≤ b ∨ b ∈ E.M := by
    intro b hbm
    rw [blks_append] at hbm
    have hall : ∀ c, c ∈ blks (selS js H) ∨ c ∈ blks (restS js H) → E.w0.heap.size ≤ c ∨ c ∈ E.M := fun c hc' =>
      hs.base c ((perm_blks (sel_perm js H)).mem_iff.2 (by
        have : blks (selS js H ++ restS js H) = blks (selS js H) ++ blks (restS js H) := blks_append _ _
        rw [this, List.mem_append]; exact hc'))
    rcases List.mem_append.1 hbm with h1 | h1
    · rcases hb b h1 with h2 | h2
      · exact .inl (Nat.le_trans hs.frm.size h2)
      · exact hall b (.inl h2)
    · exact hall b (.inr h1)
  have hfrm : Frm E.w0 E.M w' := by
    refine ⟨hf.os.trans hs.frm.os, hf.tape.trans hs.frm.tape, hf.output.trans hs.frm.output, Nat.le_trans hs.frm.size hf.size, fun b hlt hm => ?_⟩
    rw [hf.block b (Nat.lt_of_lt_of_le hlt hs.frm.size) (fun hin => ?_)]
    · exact hs.frm.block b hlt hm
    · have := hs.base b ((perm_blks (sel_perm js H)).mem_iff.2 (by
        have : blks (selS js H ++ restS js H) = blks (selS js H) ++ blks (restS js H) := blks_append _ _
        rw [this, List.mem_append]; exact .inl hin))
      rcases this with h1 | h1
      · omega
      · exact hm h1
  have hown := o0.back hf ho hb
  have hs' : St E l (H' ++ restS js H) (Φ' ++ Φ) a w' := ⟨hs.size, hs.defers, hs.tm, hown, hfrm, hbase⟩
  cases out with
  | ret v => exact h _ H' Φ' hp _ w' (hs'.put_same (blt_lt hd))
  | pan v => exact ⟨v, rfl, h _ H' Φ' hp a w' hs'⟩
theorem o_call0 {f : FuncId} {args : Array Operand} {argTypes : Array TypeId} {vs : List Value} {Φp : List (Value × Dc)} {post : Post}
    (hc : Callable E.P f) (ha : opvL l args.toList = some vs) (hΦ : ∀ p ∈ Φp, p ∈ Φ) (tri : Tri E.P f vs [] Φp post) (hd : Nat.blt d E.n = true)
    (h : ∀ out H' Φ', post out H' Φ' → match out with
      | .ret v => WO E ops os ((d, v) :: l) (H' ++ H) (Φ' ++ Φ) N Q
      | .pan v => Sat E l (H' ++ H) (Φ' ++ Φ) (Q.Pn v)) :
    WO E ops (⟨some d, .call ⟨.value (.func f), args, argTypes⟩, ty, pos, aft, none⟩ :: os) l H Φ N Q :=
  o_call [] (cap := #[]) hc rfl ha rfl hΦ (by show Tri E.P f (vs ++ []) [] Φp post; rw [List.append_nil]; exact tri) hd h
end
end Go.Vc
