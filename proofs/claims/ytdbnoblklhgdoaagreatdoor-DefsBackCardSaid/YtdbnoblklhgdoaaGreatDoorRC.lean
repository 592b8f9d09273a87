import Derived.Test.YtdbnoblklhgdoaaGreatDoorPW
import Derived.Test.YtdbnoblklhgdoaaGreatDoorRP
import Derived.Test.YtdbnoblklhgdoaaGreatDoorSI
set_option linter.unusedVariables false
set_option linter.unusedSimpArgs false
set_option linter.unusedSectionVars false
namespace Go.Vc
open Go
theorem gV {ws r : List zg} {t : List UInt8} (h : zJ ws t = .ok r) : ws.length = r.length + 1 := by
 cases ws with
 | nil => simp [zJ, xt] at h
 | cons w r1 =>
  unfold zJ at h
  cases hi : xt (w :: r1) t with
  | false => rw [hi] at h; cases h
  | true => rw [hi] at h; cases h; simp
theorem kind_len {ws r : List zg} {w : zg} {k : Int} (h : yN ws k = .ok (w, r)) : ws.length = r.length + 1 := by
 cases ws with
 | nil => cases h
 | cons w r1 => obtain ⟨_, rfl, _⟩ := gJ h; simp
theorem symsL_le : ∀ (j : Nat) (out c : List xg) (ws r : List zg), kA j out ws = .ok (c, r) -> out.length <= 12 -> c.length <= 12 := by
 intro j
 induction j with
 | zero => intro _ _ _ _ h; cases h
 | succ j ih =>
  intro out c ws r h ho
  simp only [kA] at h
  split at h
  ·split at h
   ·cases h
   ·split at h
    ·cases h
    ·exact ih _ _ _ _ h (by simp; omega)
  ·cases h; exact ho
theorem syms_le {ws r : List zg} {c : List xg} (h : kz ws = .ok (c, r)) : c.length <= 12 := by
 unfold kz at h
 split at h
 ·cases h
 ·exact symsL_le _ _ _ _ _ h (by simp)
theorem namesL_le : ∀ (j : Nat) (out c : List (List UInt8)) (ws r : List zg), xQ j out ws = .ok (c, r) -> out.length <= 16 -> c.length <= 16 := by
 intro j
 induction j with
 | zero => intro _ _ _ _ h; cases h
 | succ j ih =>
  intro out c ws r h ho
  cases ws with
  | nil => cases h; exact ho
  | cons w r1 =>
   simp only [xQ] at h
   split at h
   ·split at h
    ·cases h
    ·split at h
     ·cases h
     ·exact ih _ _ _ _ h (by simp; omega)
   ·cases h; exact ho
theorem group_le {ws r : List zg} {g : zw} (h : vg ws = .ok (g, r)) : g.Cons.length <= 16 := by
 unfold vg at h
 split at h
 ·cases h
 ·split at h
  ·cases h
  ·rename_i hn
   cases h
   exact namesL_le _ _ _ _ _ hn (by simp)
theorem prioL_le : ∀ (j : Nat) (out c : List zw) (ws r : List zg), jI j out ws = .ok (c, r) -> out.length <= 16 /\ (∀ g ∈ out, g.Cons.length <= 16) -> c.length <= 16 /\ ∀ g ∈ c, g.Cons.length <= 16 := by
 intro j
 induction j with
 | zero => intro _ _ _ _ h; cases h
 | succ j ih =>
  intro out c ws r h ho
  simp only [jI] at h
  split at h
  ·split at h
   ·cases h
   ·split at h
    ·cases h
    ·rename_i hg
     refine ih _ _ _ _ h ⟨by simp; omega, fun g hm => ?_⟩
     rcases List.mem_append.1 hm with hm | hm
     ·exact ho.2 g hm
     ·rw [List.mem_singleton.1 hm]; exact group_le hg
  ·cases h; exact ho
theorem prio_le {ws r : List zg} {c : List zw} (h : kV ws = .ok (c, r)) : c.length <= 16 /\ ∀ g ∈ c, g.Cons.length <= 16 := by
 unfold kV at h
 split at h
 ·cases h
 ·rename_i hg
  split at h
  ·cases h
  ·rename_i hp
   split at h
   ·cases h
   ·cases h
    exact prioL_le _ _ _ _ _ hp ⟨by simp, fun g hm => by rw [List.mem_singleton.1 hm]; exact group_le hg⟩
theorem lexL_le : ∀ (j : Nat) (a c : List UInt8) (ps ps' : List Prod) (ws r : List zg), gr j a c ps ws = .ok (ps', r) -> (∀ p ∈ ps, p.Syms.length <= 12) -> ps.length < 200 -> (∀ p ∈ ps', p.Syms.length <= 12) /\ ps'.length <= 200 := by
 intro j
 induction j with
 | zero => intro _ _ _ _ _ _ h; cases h
 | succ j ih =>
  intro a c ps ps' ws r h ho hl
  simp only [gr] at h
  split at h
  ·cases h
  ·rename_i hs
   have hn : ∀ x, x.length <= 12 -> ∀ p ∈ ps ++ [Prod.mk true a c false x], p.Syms.length <= 12 := fun x hx p hp => by
    rcases List.mem_append.1 hp with hp | hp
    ·exact ho p hp
    ·rw [List.mem_singleton.1 hp]; exact hx
   split at h
   ·split at h
    ·cases h
    ·rename_i hne
     exact ih _ _ _ _ _ _ h (hn _ (syms_le hs)) (by simp; omega)
   ·cases h; exact ⟨hn _ (syms_le hs), by simp; omega⟩
theorem within_iz {g : Nat -> List zg -> Pi} (hg : ∀ n ws x m r, g n ws = .ok ((x, m), r) -> izL x + r.length <= ws.length) {n m : Nat} {ws r : List zg} {x : List Item} (h : yO g n ws = .ok ((x, m), r)) : izL x + r.length <= ws.length := by
 unfold yO at h
 split at h
 ·cases h
 ·rename_i h1
  split at h
  ·cases h
  ·rename_i h2
   split at h
   ·cases h
   ·rename_i h3
    cases h
    have := gV h1
    have := gV h3
    have := hg _ _ _ _ _ h2
    omega
theorem item_iz {g : Nat -> List zg -> Pi} (hg : ∀ n ws x m r, g n ws = .ok ((x, m), r) -> izL x + r.length <= ws.length) {n m : Nat} {ws r : List zg} {x : Item} (h : vG g n ws = .ok ((x, m), r)) : izI x + r.length <= ws.length := by
 cases ws with
 | nil => cases h
 | cons w r1 =>
  simp only [vG] at h
  split at h
  ·split at h
   ·cases h
   ·rename_i hk
    have := kind_len hk
    cases h
    rw [qE]; simp only [izL]; omega
  split at h
  ·cases h; rw [qE]; simp [izL]; omega
  split at h
  ·cases h; rw [qE]; simp [izL]; omega
  split at h
  ·cases h; rw [qE]; simp [izL]; omega
  split at h
  ·split at h
   ·cases h
   ·rename_i hk
    have := kind_len hk
    split at h
    ·cases h
    ·rename_i hw
     cases h
     have := within_iz hg hw
     rw [qE]; simp only [List.length_cons]; omega
  ·split at h
   ·cases h
   ·rename_i hw
    cases h
    have := within_iz hg hw
    rw [qE]; simp only [List.length_cons]; omega
theorem list_iz : ∀ (f n : Nat) (ws : List zg) (x : List Item) (m : Nat) (r : List zg), xi f n ws = .ok ((x, m), r) -> izL x + r.length <= ws.length := by
 intro f
 induction f with
 | zero => intro _ _ _ _ _ h; cases h
 | succ f ih =>
  intro n ws x m r h
  simp only [xi] at h
  split at h
  ·split at h
   ·cases h
   ·split at h
    ·cases h
    ·rename_i h1
     split at h
     ·cases h
     ·rename_i h2
      cases h
      have := item_iz ih h1
      have := ih _ _ _ _ _ h2
      simp only [izL]
      omega
  ·cases h; simp [izL]
theorem okL_of : ∀ (n : Nat) (l : List Item), izL l <= n -> n <= 1000000 -> okL l := by
 intro n
 induction n with
 | zero =>
  intro l h _
  have := jn l
  have : l = [] := List.length_eq_zero_iff.1 (by omega)
  subst this
  simp [okL]
 | succ n ih =>
  intro l h hn
  have key : ∀ l' : List Item, (∀ x ∈ l', x ∈ l) -> okL l' := by
   intro l'
   induction l' with
   | nil => intro _; simp [okL]
   | cons x r ihr =>
    intro hm
    rw [okL]
    refine ⟨(okI_eq x).2 ?_, ihr fun y hy => hm y (by simp [hy])⟩
    have := izL_mem l x (hm x (by simp))
    have h2 := jn x.Items
    exact ⟨by omega, ih x.Items (by omega) (by omega)⟩
  exact key l fun _ h => h
theorem box_iz {ws r : List zg} {b : xm} {m : Nat} (h : qo ws = .ok ((b, m), r)) : izL b.Items + r.length <= ws.length := by
 unfold qo at h
 split at h
 ·cases h
 ·rename_i h1
  have l1 := xS.len _ _ _ h1
  split at h
  ·cases h
  ·rename_i h2
   split at h
   ·cases h
   ·rename_i h3
    split at h
    ·cases h
    ·rename_i h4
     cases h
     have := gV h2
     have := gV h4
     have := list_iz _ _ _ _ _ _ h3
     dsimp only
     omega
theorem lexW_le {w : zg} {ps ps' : List Prod} {ws r : List zg} (h : ql w ps ws = .ok (ps', r)) (hs : ∀ p ∈ ps, p.Syms.length <= 12) (hp : ps.length <= 200) : (∀ p ∈ ps', p.Syms.length <= 12) /\ ps'.length <= 200 := by
 unfold ql at h
 split at h
 ·cases h
 split at h
 ·cases h
 split at h
 ·cases h
 ·rename_i hl
  split at h
  ·cases h
  ·cases h; exact lexL_le _ _ _ _ _ _ _ hl hs (by omega)
theorem cfW_le {w : zg} {ps ps' : List Prod} {ws r : List zg} (h : cfW w ps ws = .ok (ps', r)) (hs : ∀ p ∈ ps, p.Syms.length <= 12) (hp : ps.length <= 200) : (∀ p ∈ ps', p.Syms.length <= 12) /\ ps'.length <= 200 := by
 unfold cfW at h
 split at h
 ·cases h
 split at h
 ·cases h
 split at h
 ·cases h
 ·rename_i hy
  have hn : ∀ b a c, ∀ p ∈ ps ++ [Prod.mk false a c b _], p.Syms.length <= 12 := fun b a c p hp => by
   rcases List.mem_append.1 hp with hp | hp
   ·exact hs p hp
   ·rw [List.mem_singleton.1 hp]; exact syms_le hy
  split at h
  ·split at h
   ·cases h
   split at h
   ·cases h
   ·cases h; exact ⟨hn _ _ _, by simp; omega⟩
  ·split at h
   ·cases h
   ·cases h; exact ⟨hn _ _ _, by simp; omega⟩
structure Iv (d : zY) (m N : Nat) : Prop where
 p : d.Prods.length <= 200
 sy : ∀ p ∈ d.Prods, p.Syms.length <= 12
 c : d.Chains.length + m <= N
 cg : ∀ c ∈ d.Chains, c.length <= 16 /\ ∀ g ∈ c, g.Cons.length <= 16
 f : d.Follows.length + m <= N
 r : d.Rejects.length + m <= N
 b : d.Boxes.length + m <= N
 z : dz d.Boxes + m <= N
theorem dz_app : ∀ a b : List xm, dz (a ++ b) = dz a + dz b
 | [], b => by simp [dz]
 | x :: a, b => by simp only [List.cons_append, dz, dz_app a b]; omega
theorem stmt_iv {w : zg} {d : zY} {s y : Bool} {ws r : List zg} {x : zY × Bool × Bool} {N : Nat} (e : xX w d s y ws = .ok (x, r)) (h : Iv d (ws.length + 1) N) : Iv x.1 r.length N := by
 have hlt := (gl_stmt w d s y).lt _ _ _ e
 obtain ⟨h1, h2, h3, h4, h5, h6, h7, h8⟩ := h
 unfold xX at e
 by_cases c : w.Text = [115, 116, 97, 114, 116]
 ·rw [if_pos c] at e
  by_cases hs : s = true
  ·rw [if_pos hs] at e; cases e
  rw [if_neg hs] at e
  cases hx : kd ws with
  | error e' => rw [hx] at e; cases e
  | ok v =>
   rw [hx] at e; cases e
   exact ⟨h1, h2, by simp only [dS, dL, dP, dC, wb, dR, dB, List.length_append, List.length_cons, List.length_nil]; omega, h4, by simp only [dS, dL, dP, dC, wb, dR, dB, List.length_append, List.length_cons, List.length_nil]; omega, by simp only [dS, dL, dP, dC, wb, dR, dB, List.length_append, List.length_cons, List.length_nil]; omega, by simp only [dS, dL, dP, dC, wb, dR, dB, List.length_append, List.length_cons, List.length_nil]; omega, by simp only [dS, dL, dP, dC, wb, dR, dB, List.length_append, List.length_cons, List.length_nil]; omega⟩
 rw [if_neg c] at e
 clear c
 by_cases c : w.Text = [108, 97, 121, 111, 117, 116]
 ·rw [if_pos c] at e
  by_cases hs : y = true
  ·rw [if_pos hs] at e; cases e
  rw [if_neg hs] at e
  cases hx : kd ws with
  | error e' => rw [hx] at e; cases e
  | ok v =>
   rw [hx] at e; cases e
   exact ⟨h1, h2, by simp only [dS, dL, dP, dC, wb, dR, dB, List.length_append, List.length_cons, List.length_nil]; omega, h4, by simp only [dS, dL, dP, dC, wb, dR, dB, List.length_append, List.length_cons, List.length_nil]; omega, by simp only [dS, dL, dP, dC, wb, dR, dB, List.length_append, List.length_cons, List.length_nil]; omega, by simp only [dS, dL, dP, dC, wb, dR, dB, List.length_append, List.length_cons, List.length_nil]; omega, by simp only [dS, dL, dP, dC, wb, dR, dB, List.length_append, List.length_cons, List.length_nil]; omega⟩
 rw [if_neg c] at e
 clear c
 by_cases c : w.Text = [108, 101, 120]
 ·rw [if_pos c] at e
  cases hx : ql w d.Prods ws with
  | error e' => rw [hx] at e; cases e
  | ok v =>
   rw [hx] at e; cases e
   obtain ⟨z1, z2⟩ := lexW_le (ps' := v.1) (r := v.2) hx h2 h1
   exact ⟨z2, z1, by simp only [dS, dL, dP, dC, wb, dR, dB, List.length_append, List.length_cons, List.length_nil]; omega, h4, by simp only [dS, dL, dP, dC, wb, dR, dB, List.length_append, List.length_cons, List.length_nil]; omega, by simp only [dS, dL, dP, dC, wb, dR, dB, List.length_append, List.length_cons, List.length_nil]; omega, by simp only [dS, dL, dP, dC, wb, dR, dB, List.length_append, List.length_cons, List.length_nil]; omega, by simp only [dS, dL, dP, dC, wb, dR, dB, List.length_append, List.length_cons, List.length_nil]; omega⟩
 rw [if_neg c] at e
 clear c
 by_cases c : w.Text = [99, 102]
 ·rw [if_pos c] at e
  cases hx : cfW w d.Prods ws with
  | error e' => rw [hx] at e; cases e
  | ok v =>
   rw [hx] at e; cases e
   obtain ⟨z1, z2⟩ := cfW_le (ps' := v.1) (r := v.2) hx h2 h1
   exact ⟨z2, z1, by simp only [dS, dL, dP, dC, wb, dR, dB, List.length_append, List.length_cons, List.length_nil]; omega, h4, by simp only [dS, dL, dP, dC, wb, dR, dB, List.length_append, List.length_cons, List.length_nil]; omega, by simp only [dS, dL, dP, dC, wb, dR, dB, List.length_append, List.length_cons, List.length_nil]; omega, by simp only [dS, dL, dP, dC, wb, dR, dB, List.length_append, List.length_cons, List.length_nil]; omega, by simp only [dS, dL, dP, dC, wb, dR, dB, List.length_append, List.length_cons, List.length_nil]; omega⟩
 rw [if_neg c] at e
 clear c
 by_cases c : w.Text = [112, 114, 105, 111]
 ·rw [if_pos c] at e
  cases hx : kV ws with
  | error e' => rw [hx] at e; cases e
  | ok v =>
   rw [hx] at e; cases e
   refine ⟨h1, h2, by simp only [dS, dL, dP, dC, wb, dR, dB, List.length_append, List.length_cons, List.length_nil]; omega, fun c hc => ?_, by simp only [dS, dL, dP, dC, wb, dR, dB, List.length_append, List.length_cons, List.length_nil]; omega, by simp only [dS, dL, dP, dC, wb, dR, dB, List.length_append, List.length_cons, List.length_nil]; omega, by simp only [dS, dL, dP, dC, wb, dR, dB, List.length_append, List.length_cons, List.length_nil]; omega, by simp only [dS, dL, dP, dC, wb, dR, dB, List.length_append, List.length_cons, List.length_nil]; omega⟩
   rcases List.mem_append.1 hc with hc | hc
   ·exact h4 c hc
   ·rw [List.mem_singleton.1 hc]; exact prio_le (c := v.1) (r := v.2) hx
 rw [if_neg c] at e
 clear c
 by_cases c : w.Text = [102, 111, 108, 108, 111, 119]
 ·rw [if_pos c] at e
  cases hx : vt ws with
  | error e' => rw [hx] at e; cases e
  | ok v =>
   rw [hx] at e; cases e
   exact ⟨h1, h2, by simp only [dS, dL, dP, dC, wb, dR, dB, List.length_append, List.length_cons, List.length_nil]; omega, h4, by simp only [dS, dL, dP, dC, wb, dR, dB, List.length_append, List.length_cons, List.length_nil]; omega, by simp only [dS, dL, dP, dC, wb, dR, dB, List.length_append, List.length_cons, List.length_nil]; omega, by simp only [dS, dL, dP, dC, wb, dR, dB, List.length_append, List.length_cons, List.length_nil]; omega, by simp only [dS, dL, dP, dC, wb, dR, dB, List.length_append, List.length_cons, List.length_nil]; omega⟩
 rw [if_neg c] at e
 clear c
 by_cases c : w.Text = [114, 101, 106, 101, 99, 116]
 ·rw [if_pos c] at e
  cases hx : vW ws with
  | error e' => rw [hx] at e; cases e
  | ok v =>
   rw [hx] at e; cases e
   exact ⟨h1, h2, by simp only [dS, dL, dP, dC, wb, dR, dB, List.length_append, List.length_cons, List.length_nil]; omega, h4, by simp only [dS, dL, dP, dC, wb, dR, dB, List.length_append, List.length_cons, List.length_nil]; omega, by simp only [dS, dL, dP, dC, wb, dR, dB, List.length_append, List.length_cons, List.length_nil]; omega, by simp only [dS, dL, dP, dC, wb, dR, dB, List.length_append, List.length_cons, List.length_nil]; omega, by simp only [dS, dL, dP, dC, wb, dR, dB, List.length_append, List.length_cons, List.length_nil]; omega⟩
 rw [if_neg c] at e
 clear c
 by_cases c : w.Text = [98, 111, 120]
 ·rw [if_pos c] at e
  cases hx : qo ws with
  | error e' => rw [hx] at e; cases e
  | ok v =>
   rw [hx] at e; cases e
   have := box_iz (b := v.1.1) (m := v.1.2) (r := v.2) hx
   exact ⟨h1, h2, by simp only [dS, dL, dP, dC, wb, dR, dB, List.length_append, List.length_cons, List.length_nil]; omega, h4, by simp only [dS, dL, dP, dC, wb, dR, dB, List.length_append, List.length_cons, List.length_nil]; omega, by simp only [dS, dL, dP, dC, wb, dR, dB, List.length_append, List.length_cons, List.length_nil]; omega, by simp only [dS, dL, dP, dC, wb, dR, dB, List.length_append, List.length_cons, List.length_nil]; omega, by simp only [dB, dz_app, dz]; omega⟩
 rw [if_neg c] at e
 clear c
 cases e
theorem allW_iv {N : Nat} : ∀ (j : Nat) (d d' : zY) (s y : Bool) (ws : List zg), Iv d ws.length N -> kw j d s y ws = .ok d' -> Iv d' 0 N := by
 intro j
 induction j with
 | zero => intro _ _ _ _ _ _ h; cases h
 | succ j ih =>
  intro d d' s y ws hI h
  cases ws with
  | nil => cases h
  | cons w r =>
   simp only [kw] at h
   split at h
   ·cases h
    obtain ⟨h1, h2, h3, h4, h5, h6, h7, h8⟩ := hI
    exact ⟨h1, h2, by omega, h4, by omega, by omega, by omega, by omega⟩
   split at h
   ·cases hs : xX w d s y r with
    | error e => rw [hs] at h; cases h
    | ok v => rw [hs] at h; exact ih _ _ _ _ _ (stmt_iv hs hI) h
   ·cases h
theorem prsP_iv {s : List UInt8} (hb : s.length <= 60000) (h : (vz s).2.Code = 0) : Iv (vz s).1 0 (s.length + 1) := by
 obtain ⟨l, l1, l2⟩ := prsP_ok (by omega) h
 have hl := scT_len _ _ _ (by omega) l1
 refine allW_iv _ _ _ _ _ _ ?_ l2
 have hlen : (uv s l ++ [jz s]).length = l.length + 1 := by simp [uv]
 rw [hlen]
 exact ⟨by simp [d0], fun p hp => (by cases hp), by simp [d0]; omega, fun c hc => (by cases hc), by simp [d0]; omega, by simp [d0]; omega, by simp [d0]; omega, by simp [d0, dz]; omega⟩
theorem iv_bd {d : zY} {N : Nat} (h : Iv d 0 N) (hN : N <= 30000) : Bd d /\ okBx d /\ 200000 + 4 * dz d.Boxes <= 400000 := by
 obtain ⟨h1, h2, h3, h4, h5, h6, h7, h8⟩ := h
 refine ⟨⟨by omega, fun p hp => by have := h2 p hp; omega, by omega, fun c hc => by have := (h4 c hc).1; omega, fun c hc g hg => by have := (h4 c hc).2 g hg; omega, by omega, by omega, by omega⟩, fun b hb => ?_, by omega⟩
 have := dz_mem _ _ hb
 have := jn b.Items
 exact ⟨by omega, okL_of _ _ (Nat.le_refl _) (by omega)⟩
theorem prsP_iv0 {s : List UInt8} (hb : s.length <= 60000) : Iv (vz s).1 0 (s.length + 1) := by
 by_cases h : (vz s).2.Code = 0
 ·exact prsP_iv hb h
 ·have e : (vz s).1 = d0 := by
   unfold vz at h ⊢
   cases hs : jB 400000 s with
   | error z => rfl
   | ok l =>
    rw [hs] at h
    simp only at h ⊢
    cases ha : kw 400000 d0 false false (uv s l ++ [jz s]) with
    | error f => rfl
    | ok d => rw [ha] at h; exact absurd rfl h
  rw [e]
  exact ⟨by simp [d0], fun p hp => (by cases hp), by simp [d0], fun c hc => (by cases hc), by simp [d0], by simp [d0], by simp [d0], by simp [d0, dz]⟩
end Go.Vc
