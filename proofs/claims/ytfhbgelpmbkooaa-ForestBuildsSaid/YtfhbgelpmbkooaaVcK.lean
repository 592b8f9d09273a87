/-
  Guards on what was passed by; ranges over functions.
-/
import Derived.Test.YtfhbgelpmbkooaaVcJ
set_option linter.unusedVariables false
set_option linter.unusedSimpArgs false
namespace Go.Vc
open Go
section
variable {E : Env} {ops : Array Oper} {os : List Oper} {l : List (Nat × Value)} {H : List HB} {Φ : List (Value × Dc)} {N : SP} {Q : QS}
variable {op : Op} {ty : TypeId} {pos : String} {aft : Array Edge} {d : Nat}
theorem o_offU {j : Nat} {want : Bool} {dj : Nat} (hj : (ops[j]?).bind (·.dst) = some dj) (hl : findT dj l = some undef) (hd : Nat.blt d E.n = true)
    (h : WO E ops os ((d, undef) :: l) H Φ N Q) : WO E ops (⟨some d, op, ty, pos, aft, some (j, want)⟩ :: os) l H Φ N Q := by
  intro a w hs
  have hy : yielded ops a.tmps j = none := by
    unfold yielded
    rw [hj]
    simp only [Option.bind_some]
    rw [hs.tm dj _ hl]
    rfl
  have hne : ((none == some want) : Bool) = false := rfl
  simp only [wpL, Region.wanted, hy, hne, Bool.false_eq_true, if_false]
  exact h _ _ (hs.put_same (blt_lt hd))
end
section
variable {E : Env} {ops : Array Oper} {H0 : List HB} {Φ0 : List (Value × Dc)} {fuel : Nat} {listed : Array Bool} {l : List (Nat × Value)} {H : List HB} {Φ : List (Value × Dc)} {N : SP} {Q : QS}
end
inductive RS (V : Type) where
  | next (v : V)
  | brk (v : V)
  | ret (v : V)
def steps {V : Type} (f : Int → V → Option (RS V)) : V → List Int → Option V
  | v, [] => some v
  | v, x :: xs => match f x v with
    | some (.next v') => steps f v' xs
    | _ => none
section
variable {V : Type} {f : Int → V → Option (RS V)}
end
section
variable {E : Env} {l : List (Nat × Value)} {H : List HB} {Φ : List (Value × Dc)} {N : SP} {Q : QS}
end
section
variable {E : Env} {ops : Array Oper} {l : List (Nat × Value)} {H : List HB} {Φ : List (Value × Dc)} {N : SP} {Q : QS}
end
section
variable {E : Env} {l : List (Nat × Value)} {H : List HB} {Φ : List (Value × Dc)}
end
section
variable {E : Env} {l : List (Nat × Value)} {H : List HB} {Φ : List (Value × Dc)} {ty : TypeId}
end
def Lent (H : List HB) (Φ : List (Value × Dc)) (p : Value × Dc) : Prop := p ∈ Φ ∨ ∃ v T sz xs, p = (v, .slice sz xs) ∧ HB.row v T sz xs ∈ H
theorem lent_nil {H : List HB} {Φ : List (Value × Dc)} : ∀ p ∈ ([] : List (Value × Dc)), Lent H Φ p := fun _ h => by cases h
theorem lent_f {H : List HB} {Φ Φp : List (Value × Dc)} {p : Value × Dc} (j : Nat) (hj : Φ[j]? = some p) (h : ∀ q ∈ Φp, Lent H Φ q) : ∀ q ∈ p :: Φp, Lent H Φ q := by
  intro q hq
  rcases List.mem_cons.1 hq with rfl | hq
  · exact .inl (List.mem_of_getElem? hj)
  · exact h q hq
theorem lent_r {H : List HB} {Φ Φp : List (Value × Dc)} {v : Value} {T : TypeId} {sz : Nat} {xs : List (List Dc)} (j : Nat) (hj : H[j]? = some (.row v T sz xs)) (h : ∀ q ∈ Φp, Lent H Φ q) : ∀ q ∈ (v, Dc.slice sz xs) :: Φp, Lent H Φ q := by
  intro q hq
  rcases List.mem_cons.1 hq with rfl | hq
  · exact .inr ⟨v, T, sz, xs, rfl, List.mem_of_getElem? hj⟩
  · exact h q hq
section
variable {E : Env} {ops : Array Oper} {os : List Oper} {l : List (Nat × Value)} {H : List HB} {Φ : List (Value × Dc)} {N : SP} {Q : QS}
variable {ty : TypeId} {pos : String} {aft : Array Edge} {d : Nat}
theorem o_callSB {f : FuncId} {args : Array Operand} {argTypes : Array TypeId} {vs : List Value} {Φp : List (Value × Dc)} {v : Value}
    (hc : Callable E.P f) (ha : opvL l args.toList = some vs) (hΦ : ∀ p ∈ Φp, Lent H Φ p) (tri : Tri E.P f vs [] Φp (fun o H Φ => o = .ret v ∧ H = [] ∧ Φ = [])) (hd : Nat.blt d E.n = true)
    (h : WO E ops os ((d, v) :: l) H Φ N Q) :
    WO E ops (⟨some d, .call ⟨.value (.func f), args, argTypes⟩, ty, pos, aft, none⟩ :: os) l H Φ N Q := by
  intro a w hs
  have hrun := run_call_value (E := E) (dst := some d) (ty := ty) (pos := pos) (aft := aft) (argTypes := argTypes) (x := .func f) (cap := #[]) (w := w) hc rfl (opvL_eval hs args.toList vs ha)
  simp only [wpL, Region.wanted, if_true, Oper.wp, hrun, Oper.upon]
  have hown : Own w (fun _ => False) [] Φp := by
    refine ⟨fun _ h => h.elim, by simp, by simp, by simp, by simp, fun p hp => ?_⟩
    rcases hΦ p hp with hp | ⟨v', T, sz, xs, rfl, hm⟩
    · exact (hs.own.facts p hp).weaken (fun b hb => by rcases hb with hb | hb; exact hb.elim; simp at hb)
    · exact (hs.own.live _ hm).pure (fun b hb => ⟨fun hx => by rcases hx with hx | hx; exact hx; simp at hx, hs.own.inw b (mem_blks hm hb)⟩) (fun b hb => by rcases hb with hb | hb; exact hb.elim; simp at hb)
  have := tri w (fun _ => False) hown
  simp only [List.append_nil] at this ⊢
  refine this.mono ?_
  rintro e w' ⟨out, rfl, H', Φ', ⟨rfl, rfl, rfl⟩, hf, _, _⟩
  have hold : ∀ b, b < w.heap.size → w'.heap[b]? = w.heap[b]? := fun b hb => hf.block b hb (by simp)
  have hs' : St E l H Φ a w' := ⟨hs.size, hs.defers, hs.tm, hs.own.grow hf.size hold, ⟨hf.os.trans hs.frm.os, hf.tape.trans hs.frm.tape, hf.output.trans hs.frm.output, Nat.le_trans hs.frm.size hf.size, fun b hlt hm => by rw [hold b (Nat.lt_of_lt_of_le hlt hs.frm.size)]; exact hs.frm.block b hlt hm⟩, hs.base⟩
  exact h _ w' (hs'.put_same (blt_lt hd))
end
def AllL (p : Nat → Prop) : List Nat → Prop
  | [] => True
  | i :: r => p i ∧ AllL p r
theorem AllL.get {p : Nat → Prop} : ∀ {l : List Nat}, AllL p l → ∀ i ∈ l, p i
  | j :: r, h, i, hi => by
    rcases List.mem_cons.1 hi with rfl | hi
    · exact h.1
    · exact AllL.get h.2 i hi
section
variable {E : Env} {ops : Array Oper} {H0 : List HB} {Φ0 : List (Value × Dc)} {fuel : Nat} {listed : Array Bool} {l : List (Nat × Value)} {H : List HB} {Φ : List (Value × Dc)} {N : SP} {Q : QS}
theorem d_all (is : List Nat) (hr : Region.ready .any ops listed = is) (hne : is ≠ []) (h : AllL (fun i => ∃ o, ops[i]? = some o ∧ WO E ops [o] l H Φ (DN E ops H0 Φ0 fuel (listed.setIfInBounds i true) N Q) Q) is) : WA E ops H0 Φ0 (fuel + 1) listed l H Φ N Q := by
  intro a w hst _
  refine wpAnyH_all hr hne ?_
  intro k hk
  obtain ⟨o, ho, hw⟩ := h.get k hk
  exact wpOp_of_WO ho (hw a w hst)
end
end Go.Vc
