/-
  Regions that draw their order; stores into rows; bytes to text; cuts of slices.
-/
import Derived.Test.YtfhbgelpmbkooaaVcG
set_option linter.unusedVariables false
set_option linter.unusedSimpArgs false
namespace Go.Vc
open Go
def SW (E : Env) (H0 : List HB) (Φ0 : List (Value × Dc)) : World → Prop := fun w => Own w E.X H0 Φ0 ∧ Frm E.w0 E.M w ∧ ∀ b ∈ blks H0, E.w0.heap.size ≤ b ∨ b ∈ E.M
def WA (E : Env) (ops : Array Oper) (H0 : List HB) (Φ0 : List (Value × Dc)) (fuel : Nat) (listed : Array Bool) (l : List (Nat × Value)) (H : List HB) (Φ : List (Value × Dc)) (N : SP) (Q : QS) : Prop :=
  ∀ a w, St E l H Φ a w → SW E H0 Φ0 w → wpAnyH E.P .any ops (K N Q) (SW E H0 Φ0) fuel listed a w
def DN (E : Env) (ops : Array Oper) (H0 : List HB) (Φ0 : List (Value × Dc)) (fuel : Nat) (listed : Array Bool) (N : SP) (Q : QS) : SP := fun a w =>
  SW E H0 Φ0 w ∧ wpAnyH E.P .any ops (K N Q) (SW E H0 Φ0) fuel listed a w
def PnOk (Q : QS) : Prop := ∀ v (a : Act) d u w, Q.Pn v (a.put d u) w → Q.Pn v a w
theorem pnok {E : Env} {Xs : List (Nat × SP)} {R : SP} {fn : Func} {post : Post} : PnOk ⟨Xs, R, PanS E fn post⟩ := by
  intro v a d u w h
  cases d <;> exact h
section
variable {E : Env} {ops : Array Oper} {H0 : List HB} {Φ0 : List (Value × Dc)} {fuel : Nat} {listed : Array Bool} {l : List (Nat × Value)} {H : List HB} {Φ : List (Value × Dc)} {N : SP} {Q : QS}
theorem sw_of {a : Act} {w : World} (hs : St E l H Φ a w) (js : List Nat) (hsel : selS js H = H0) (hΦ : ∀ p ∈ Φ0, p ∈ Φ) : SW E H0 Φ0 w := by
  have hp := sel_perm js H
  rw [hsel] at hp
  refine ⟨((hs.own.perm hp).sub (List.sublist_append_left _ _) hΦ), hs.frm, fun b hb => hs.base b ?_⟩
  refine ((perm_blks hp).mem_iff).2 ?_
  rw [blks_append]
  exact List.mem_append.2 (.inl hb)
theorem mem_drop {α : Type} {Φ Φ0 : List α} (k : Nat) (h : Φ.drop k = Φ0) : ∀ p ∈ Φ0, p ∈ Φ := by
  intro p hp; rw [← h] at hp; exact List.mem_of_mem_drop hp
theorem c_draw {id n : Nat} (js : List Nat) (hm : E.P.follows .mixedOrders = true) (hn : Nat.beq ops.size n = true) (hsel : selS js H = H0)
    (h : WA E ops H0 Φ n (Array.replicate n false) l H Φ N Q) (hrd : E.rd = none := by rfl) : WC E (.region id ops true) l H Φ N Q := by
  intro a w hs
  have hF : E.F = Fence.wide := by unfold Env.F; rw [hrd]; rfl
  rw [hF]
  have hn' := Nat.eq_of_beq_eq_true hn
  subst hn'
  refine wpIn_wide.2 ?_
  refine wp_region_held hm (S := SW E H0 Φ) ?_
  have hs' : St E l H Φ a { w with drawn := w.drawn + 1 } := ⟨hs.size, hs.defers, hs.tm, hs.own.grow (Nat.le_refl _) (fun _ _ => rfl), ⟨hs.frm.os, hs.frm.tape, hs.frm.output, hs.frm.size, hs.frm.block⟩, hs.base⟩
  exact h a _ hs' (sw_of hs' js hsel (fun p hp => hp))
theorem st_sw {a : Act} {w w' : World} (hs : St E l H Φ a w) (h : SW E H0 Φ0 w') : St E l H0 Φ0 a w' := ⟨hs.size, hs.defers, hs.tm, h.1, h.2.1, h.2.2⟩
theorem K_panic_put {d : Option Nat} {v : Value} (hq : PnOk Q) : ∀ c a w, K N Q (.panic c) (a.put d v) w → K N Q (.panic c) a w := by
  rintro c a w ⟨u, h1, h2⟩
  exact ⟨u, h1, hq u a d v w h2⟩
theorem d_val (i : Nat) {op : Op} {ty : TypeId} {pos : String} {aft : Array Edge} {d : Nat} {v : Value} (hi : ops[i]? = some ⟨some d, op, ty, pos, aft, none⟩) (hq : PnOk Q) (hs : Region.noSelect ops = true) (hf : Region.free .any ops listed i = true)
    (hr : (Region.ready .any ops listed).contains i = true) (hd : Nat.blt d E.n = true) (hv : Val E l H0 Φ0 op ty v) (h : WA E ops H0 Φ0 fuel (listed.setIfInBounds i true) ((d, v) :: l) H Φ N Q) : WA E ops H0 Φ0 (fuel + 1) listed l H Φ N Q := by
  intro a w hst hS
  refine wpAnyH_take hi hs hf hr (K_panic_put hq) (.inl ⟨rfl, fun w2 h2 => hv a w2 (st_sw hst h2) _ _ _ _⟩) hS (h _ w (hst.put_same (blt_lt hd)) hS)
theorem yl {a : Act} {w : World} (hs : St E l H Φ a w) {j dj : Nat} {b : Bool} (hj : (ops[j]?).bind (·.dst) = some dj) (hl : findT dj l = some (.bool b)) : yielded ops a.tmps j = some b := by
  unfold yielded
  rw [hj]
  simp only [Option.bind_some]
  rw [hs.tm dj _ hl]
theorem d_val_on (i : Nat) {op : Op} {ty : TypeId} {pos : String} {aft : Array Edge} {d j dj : Nat} {want : Bool} {v : Value} (hi : ops[i]? = some ⟨some d, op, ty, pos, aft, some (j, want)⟩) (hj : (ops[j]?).bind (·.dst) = some dj) (hl : findT dj l = some (.bool want))
    (hq : PnOk Q) (hs : Region.noSelect ops = true) (hf : Region.free .any ops listed i = true)
    (hr : (Region.ready .any ops listed).contains i = true) (hd : Nat.blt d E.n = true) (hv : Val E l H0 Φ0 op ty v) (h : WA E ops H0 Φ0 fuel (listed.setIfInBounds i true) ((d, v) :: l) H Φ N Q) : WA E ops H0 Φ0 (fuel + 1) listed l H Φ N Q := by
  intro a w hst hS
  refine wpAnyH_take hi hs hf hr (K_panic_put hq) (.inl ⟨?_, fun w2 h2 => hv a w2 (st_sw hst h2) _ _ _ _⟩) hS (h _ w (hst.put_same (blt_lt hd)) hS)
  simp [Region.wanted, yl hst hj hl]
theorem d_off (i : Nat) {op : Op} {ty : TypeId} {pos : String} {aft : Array Edge} {d j dj : Nat} {want b : Bool} (hi : ops[i]? = some ⟨some d, op, ty, pos, aft, some (j, want)⟩) (hj : (ops[j]?).bind (·.dst) = some dj) (hl : findT dj l = some (.bool b)) (hb : b ≠ want)
    (hq : PnOk Q) (hs : Region.noSelect ops = true) (hf : Region.free .any ops listed i = true)
    (hr : (Region.ready .any ops listed).contains i = true) (hd : Nat.blt d E.n = true) (h : WA E ops H0 Φ0 fuel (listed.setIfInBounds i true) ((d, undef) :: l) H Φ N Q) : WA E ops H0 Φ0 (fuel + 1) listed l H Φ N Q := by
  intro a w hst hS
  refine wpAnyH_take hi hs hf hr (K_panic_put hq) (.inr ⟨?_, rfl⟩) hS (h _ w (hst.put_same (blt_lt hd)) hS)
  have hne : ((some b == some want) : Bool) = false := by cases b <;> cases want <;> first | rfl | exact absurd rfl hb
  simp only [Region.wanted, yl hst hj hl, hne]
theorem Oper.wp_Q {P : Program} {o : Oper} {a : Act} {w : World} {Kx : SP} {Q₁ Q₂ : Exit → Act → World → Prop} (hp : ∀ c a w, Q₁ (.panic c) a w → Q₂ (.panic c) a w) (hl : LetsOut Q₁ → LetsOut Q₂) (h : o.wp P a w Kx Q₁) : o.wp P a w Kx Q₂ := by
  unfold Oper.wp at *
  generalize (execOp a.eval o).run P w = r at *
  cases r with
  | ok n w' =>
    cases n <;> simp only [Oper.upon] at h ⊢ <;>
      first
        | exact h
        | exact Calls.mono h (fun e w'' he => by cases e <;> first | exact he | exact hp _ _ _ he | exact hl he)
  | halt x w' =>
    cases x <;> simp only [Oper.upon] at h ⊢
    case panic u => exact hp _ _ _ h
theorem wpOp_of_WO {i : Nat} {o : Oper} (hi : ops[i]? = some o) {Nx : SP} {a : Act} {w : World} (h : wpL E.P ops (K Nx Q) [o] a w) : wpOp E.P ops (K N Q) i Nx a w := by
  unfold wpOp
  simp only [hi]
  simp only [wpL] at h
  split
  · rename_i hg
    rw [if_pos hg] at h
    refine .inl (Oper.wp_Q (fun c a w h => h) (fun ⟨_, _, h⟩ => h.elim) h)
  · rename_i hg
    rw [if_neg hg] at h
    exact h
theorem d_one (i : Nat) {o : Oper} (hi : ops[i]? = some o) (hr : Region.ready .any ops listed = [i]) (h : WO E ops [o] l H Φ (DN E ops H0 Φ0 fuel (listed.setIfInBounds i true) N Q) Q) : WA E ops H0 Φ0 (fuel + 1) listed l H Φ N Q := by
  intro a w hst _
  refine wpAnyH_all hr (by simp) ?_
  intro k hk
  obtain rfl : k = i := by simpa using hk
  exact wpOp_of_WO hi (h a w hst)
theorem d_next (js : List Nat) (k : Nat) (hsel : selS js H = H0) (hΦ : Φ.drop k = Φ0) (h : WA E ops H0 Φ0 fuel listed l H Φ N Q) : WO E ops [] l H Φ (DN E ops H0 Φ0 fuel listed N Q) Q := by
  intro a w hst
  have hS := sw_of hst js hsel (mem_drop k hΦ)
  exact ⟨hS, h a w hst hS⟩
theorem d_done (hr : Region.ready .any ops listed = []) (h : Sat E l H Φ N) : WA E ops H0 Φ0 fuel listed l H Φ N Q :=
  fun a w hst _ => wpAnyH_done hr (h a w hst) fuel
theorem d_done_seq {y : Code} (hr : Region.ready .any ops listed = []) (h : WC E y l H Φ N Q) : WA E ops H0 Φ0 fuel listed l H Φ (fun a w => y.wpIn E.F 1 E.P (K N Q) a w) Q :=
  d_done hr h
theorem d_split {t : Nat} {b : Bool} (hl : findT t l = some (.bool b)) (h1 : b = true → WA E ops H0 Φ0 fuel listed ((t, .bool true) :: l) H Φ N Q) (h2 : b = false → WA E ops H0 Φ0 fuel listed ((t, .bool false) :: l) H Φ N Q) :
    WA E ops H0 Φ0 fuel listed l H Φ N Q := by
  intro a w hs hS
  have key : ∀ c, b = c → St E ((t, .bool c) :: l) H Φ a w := by
    intro c hc
    subst hc
    refine ⟨hs.size, hs.defers, fun t' v h => ?_, hs.own, hs.frm, hs.base⟩
    simp only [findT] at h
    split at h
    · rename_i hb
      have := Nat.eq_of_beq_eq_true hb
      subst this
      rw [hs.tm t' _ hl]; exact h
    · exact hs.tm t' v h
  cases b with
  | true => exact h1 rfl a w (key true rfl) hS
  | false => exact h2 rfl a w (key false rfl) hS
end
end Go.Vc
