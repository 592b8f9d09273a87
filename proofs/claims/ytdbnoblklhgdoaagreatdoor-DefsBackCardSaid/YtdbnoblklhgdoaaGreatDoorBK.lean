import Derived.Test.YtdbnoblklhgdoaaGreatDoorBF
import Derived.Test.YtdbnoblklhgdoaaGreatDoorRC
set_option linter.unusedSectionVars false
set_option linter.unusedVariables false
namespace Go.Vc
open Go
structure Gw (w : zg) : Prop where
 nm : w.Kind = 1 -> yU w.Text = true
 num : w.Kind = 3 -> 0 <= w.N_ /\ w.N_ <= 999999
 set : w.Kind = 5 -> Cp.okS w.Set
def GW (ws : List zg) : Prop := ∀ w ∈ ws, Gw w
def Og {α : Type} (P : α -> Prop) (p : List zg -> Ps α) : Prop := ∀ ws x r, GW ws -> p ws = .ok (x, r) -> P x /\ GW r
section
variable {α β : Type} {P : α -> Prop} {Q : β -> Prop}
theorem GW_tail {ws : List zg} (h : GW ws) : GW ws.tail := fun w hw => h w (List.mem_of_mem_tail hw)
theorem jj {p q : List zg -> Ps α} (h : ∀ ws, p ws = q ws) (hq : Og P q) : Og P p := by rw [show p = q from funext h]; exact hq
theorem xK {a : α} (h : P a) : Og P fun ws => .ok (a, ws) := fun ws x r hw e => by cases e; exact ⟨h, hw⟩
theorem wE (f : List zg -> Int) (c : Int) : Og P fun ws => .error ⟨f ws, c⟩ := fun ws x r hw e => by cases e
theorem wT {c : List zg -> Bool} {p q : List zg -> Ps α} (hp : Og P p) (hq : Og P q) : Og P fun ws => if c ws then p ws else q ws := by
 intro ws x r hw e
 simp only at e
 split at e
 ·exact hp ws x r hw e
 ·exact hq ws x r hw e
theorem wi {c : Prop} [Decidable c] {p q : List zg -> Ps α} (hp : c -> Og P p) (hq : ¬ c -> Og P q) : Og P fun ws => if c then p ws else q ws := by
 by_cases h : c
 ·exact jj (fun ws => if_pos h) (hp h)
 ·exact jj (fun ws => if_neg h) (hq h)
theorem wh {p : List zg -> Ps α} (hp : Og P p) : Og P fun ws => p ws.tail := fun ws x r hw e => hp ws.tail x r (GW_tail hw) e
theorem yp {p : List zg -> Ps α} {q : α -> List zg -> Ps β} (hp : Og P p) (hq : ∀ x, P x -> Og Q (q x)) : Og Q fun ws => match p ws with
  | .error e => .error e
  | .ok (x, r) => q x r := by
 intro ws y r hw e
 simp only at e
 cases h : p ws with
 | error f => rw [h] at e; cases e
 | ok v =>
  obtain ⟨x, r1⟩ := v
  rw [h] at e
  obtain ⟨h1, h2⟩ := hp ws x r1 hw h
  exact hq x h1 r1 y r h2 e
theorem kI (t : List UInt8) {q : List zg -> Ps β} (hq : Og Q q) : Og Q fun ws => match zJ ws t with
  | .error e => .error e
  | .ok r => q r := by
 intro ws y r hw e
 simp only at e
 unfold zJ at e
 split at e
 ·rename_i e' h
  cases e
 ·rename_i r' h
  split at h
  ·cases h
   exact hq _ y r (GW_tail hw) e
  ·cases h
end
theorem ji {β : Type} {Q : β -> Prop} (k : Int) {q : zg -> List zg -> Ps β} (hq : ∀ w, Gw w -> w.Kind = k -> (k = 4 -> w.Bytes.length <= 32) -> Og Q (q w)) : Og Q fun ws => match yN ws k with
  | .error e => .error e
  | .ok (w, r) => q w r := by
 intro ws y r hw e
 simp only at e
 cases h : yN ws k with
 | error f => rw [h] at e; cases e
 | ok v =>
  obtain ⟨w, r1⟩ := v
  rw [h] at e
  cases ws with
  | nil => cases h
  | cons w0 r0 =>
   obtain ⟨e1, e2, h3, h4⟩ := gJ h
   subst e1 e2
   exact hq w (hw _ List.mem_cons_self) h3 h4 r1 y r (fun z hz => hw z (List.mem_cons_of_mem _ hz)) e
theorem vq : Og (fun a => yU a = true) yR := by
 refine jj (fun ws => ?_) (ji (q := fun w r => .ok (w.Text, r)) 1 fun w h1 h2 _ => xK (h1.nm h2))
 unfold yR
 cases yN ws 1 <;> rfl
def SymOK (s : xg) : Prop := wW s = true /\ Cp.okS s.Set
theorem qM : zS xA = true := by decide
theorem qT : Cp.okS xA := Cp.okS_none
theorem isNm_nil {a : List UInt8} (h : yU a = true) : (a == []) = false := by simpa using uf h
theorem sym_end {k : Int} {set : S4} {nm : List UInt8} (h : (nm = [] /\ Cp.okS set) \/ (yU nm = true /\ set = xA)) (hk : k = 4 \/ k = 5 \/ k = 6) : SymOK ⟨k, [], set, nm, []⟩ := by
 rcases h with ⟨rfl, h⟩ | ⟨h, rfl⟩
 ·refine ⟨?_, h⟩
  rcases hk with rfl | rfl | rfl <;> rfl
 ·refine ⟨?_, qT⟩
  have e := isNm_nil h
  rcases hk with rfl | rfl | rfl
  ·simp [wW, h, qM]
  ·simp [wW, h, qM, uf h]
  ·simp [wW, h, qM, uf h]
theorem og_end {k : Int} {set : S4} {nm : List UInt8} (h : (nm = [] /\ Cp.okS set /\ k = 2) \/ (yU nm = true /\ set = xA /\ k = 3)) : Og SymOK fun ws => .ok (jM k set nm ws) := by
 have h' : (nm = [] /\ Cp.okS set) \/ (yU nm = true /\ set = xA) := h.imp (fun x => ⟨x.1, x.2.1⟩) (fun x => ⟨x.1, x.2.1⟩)
 refine jj (fun ws => ?_) (wT (c := (xt · [63])) (wh (xK (a := ⟨4, [], set, nm, []⟩) (sym_end h' (.inl rfl)))) (wT (c := (xt · [42])) (wh (xK (a := ⟨5, [], set, nm, []⟩) (sym_end h' (.inr (.inl rfl))))) (wT (c := (xt · [43])) (wh (xK (a := ⟨6, [], set, nm, []⟩) (sym_end h' (.inr (.inr rfl))))) (xK (a := ⟨k, [], set, nm, []⟩) ?_))))
 ·unfold jM
  cases xt ws [63] <;> cases xt ws [42] <;> cases xt ws [43] <;> rfl
 ·rcases h with ⟨rfl, h, rfl⟩ | ⟨h, rfl, rfl⟩
  ·exact ⟨rfl, h⟩
  ·exact ⟨by simp [wW, h, qM], qT⟩
theorem og_part : Og SymOK qz := by
 refine jj (fun ws => ?_) (wT (c := (hkd · 5)) (ji (q := fun w r => .ok (jM 2 w.Set [] r)) 5 (fun w h1 h2 _ => og_end (.inl ⟨rfl, h1.set h2, rfl⟩))) (yp vq (fun nm h => og_end (.inr ⟨h, rfl, rfl⟩))))
 cases ws with
 | nil => rfl
 | cons w r =>
  by_cases h : w.Kind = 5
  ·simp [qz, hkd, yN, h]
  ·have e : (w.Kind == 5) = false := by simp [h]
   simp only [qz, hkd, e, if_neg h, Bool.false_eq_true, if_false]
   cases yR (w :: r) <;> rfl
theorem toS_len (a : List Int) : (vj a).length = a.length := by simp [vj]
theorem sym_sep {k : Int} {nm : List UInt8} {b : List Int} (h : yU nm = true) (hb : b.length <= 32) (hk : k = 5 \/ k = 6) : SymOK ⟨k, [], xA, nm, vj b⟩ := by
 refine ⟨?_, qT⟩
 rcases hk with rfl | rfl <;> simp [wW, h, qM, uf h, toS_len, hb]
set_option smartUnfolding false in
theorem og_brace : Og SymOK gM := by
 refine yp (q := fun nm r => match yN r 4 with
  | .error e => .error e
  | .ok (w, r2) => if w.Bytes.length = 0 then .error ⟨w.At, 30⟩ else match zJ r2 [125] with
   | .error e => .error e
   | .ok r3 => if xt r3 [42] then .ok ((⟨5, [], xA, nm, vj w.Bytes⟩ : xg), r3.tail) else match zJ r3 [43] with
    | .error e => .error e
    | .ok r4 => .ok (⟨6, [], xA, nm, vj w.Bytes⟩, r4)) vq fun nm hn => ?_
 refine ji 4 (q := fun w r2 => if w.Bytes.length = 0 then .error ⟨w.At, 30⟩ else match zJ r2 [125] with
   | .error e => .error e
   | .ok r3 => if xt r3 [42] then .ok ((⟨5, [], xA, nm, vj w.Bytes⟩ : xg), r3.tail) else match zJ r3 [43] with
    | .error e => .error e
    | .ok r4 => .ok (⟨6, [], xA, nm, vj w.Bytes⟩, r4)) (fun w _ _ hl => wi (fun _ => wE (fun _ => w.At) 30) fun _ => ?_)
 exact kI [125] (wT (c := (xt · [42])) (wh (xK (sym_sep hn (hl rfl) (.inl rfl)))) (kI [43] (xK (sym_sep hn (hl rfl) (.inr rfl)))))
theorem og_sym : Og SymOK vo := by
 refine jj (fun ws => ?_) (wT (c := (hkd · 4)) (ji (q := fun w r => .ok ((⟨1, vj w.Bytes, xA, [], []⟩ : xg), r)) 4 (fun w _ _ hl => xK ⟨by simp [wW, qM, toS_len, hl rfl], qT⟩)) (wT (c := (xt · [123])) (wh og_brace) og_part))
 cases ws with
 | nil => rfl
 | cons w r =>
  by_cases h : w.Kind = 4
  ·simp only [vo, hkd, h, if_true, beq_self_eq_true]
   cases yN (w :: r) 4 <;> rfl
  ·simp [vo, hkd, h]
def SymsOK (l : List xg) : Prop := (1 <= l.length /\ l.length <= 12) /\ ∀ s ∈ l, SymOK s
theorem xT {α : Type} {P : α -> Prop} {l : List α} {x : α} (h : ∀ y ∈ l, P y) (hx : P x) : ∀ y ∈ l ++ [x], P y := by
 intro y hy
 rcases List.mem_append.1 hy with hy | hy
 ·exact h y hy
 ·rw [List.mem_singleton] at hy; subst hy; exact hx
set_option smartUnfolding false in
theorem og_symsL : ∀ (j : Nat) (out : List xg), SymsOK out -> Og SymsOK (kA j out)
 | 0, _, _ => wE (fun _ => 0) 1
 | j + 1, out, h => wT (c := uX) (wi (c := out.length = 12) (fun _ => wE j8 2) (fun hn => yp og_sym fun x hx => og_symsL j (out ++ [x]) ⟨by have := h.1; rw [List.length_append, List.length_singleton]; omega, xT h.2 hx⟩)) (xK h)
set_option smartUnfolding false in
theorem og_syms : Og SymsOK kz := yp og_sym fun x hx => og_symsL 20 [x] ⟨by simp, xT (l := []) (by simp) hx⟩
set_option smartUnfolding false in
theorem og_head : Og (fun x => yU x.1 = true /\ uL x.2 true = true) headW := yp vq fun a ha => wT (c := (xt · [46])) (wh (yp vq fun c hc => kI [61] (xK (a := (a, c)) ⟨ha, by simp [uL, hc]⟩))) (kI [61] (xK (a := (a, [])) ⟨ha, rfl⟩))
def ProdOK (p : Prod) : Prop := kc p = true /\ ∀ s ∈ p.Syms, Cp.okS s.Set
def PsOK (ps : List Prod) : Prop := ps.length <= 200 /\ ∀ p ∈ ps, ProdOK p
theorem prod_mk {L B : Bool} {a c : List UInt8} {x : List xg} (ha : yU a = true) (hc : uL c true = true) (hx : SymsOK x) (hb : (if L then !B else B == (c == [])) = true) : ProdOK ⟨L, a, c, B, x⟩ := by
 refine ⟨?_, fun s hs => (hx.2 s hs).2⟩
 have h1 : x.all wW = true := List.all_eq_true.2 fun s hs => (hx.2 s hs).1
 unfold kc
 simp only [ha, hc, h1, hb, Bool.true_and, Bool.and_true, decide_eq_true_eq]
 exact hx.1
set_option smartUnfolding false in
theorem og_lexL : ∀ (j : Nat) (a c : List UInt8) (ps : List Prod), yU a = true -> uL c true = true -> ps.length < 200 -> PsOK ps -> Og PsOK (gr j a c ps)
 | 0, _, _, _, _, _, _, _ => wE (fun _ => 0) 1
 | j + 1, a, c, ps, ha, hc, hl, h => yp og_syms fun x hx => wT (c := (xt · [124])) (wi (c := ps.length + 1 = 200) (fun _ => wE j8 2) fun hn => wh (og_lexL j a c (ps ++ [Prod.mk true a c false x]) ha hc (by rw [List.length_append, List.length_singleton]; omega) ⟨by rw [List.length_append, List.length_singleton]; omega, xT h.2 (prod_mk ha hc hx rfl)⟩)) (xK (a := ps ++ [Prod.mk true a c false x]) ⟨by rw [List.length_append, List.length_singleton]; omega, xT h.2 (prod_mk ha hc hx rfl)⟩)
set_option smartUnfolding false in
theorem jh {α : Type} {P : α -> Prop} {f : α} (h : P f) : Og P fun ws => match zJ ws [59] with
  | .error e => .error e
  | .ok r => .ok (f, r) := kI [59] (xK h)
set_option smartUnfolding false in
theorem og_lex (w : zg) {ps : List Prod} (h : PsOK ps) : Og PsOK (ql w ps) := wi (c := ps.length = 200) (fun _ => wE (fun _ => w.At) 2) fun hn => yp og_head fun x hx => yp (og_lexL 300 x.1 x.2 ps hx.1 hx.2 (by have := h.1; omega) h) fun p hp => jh hp
set_option smartUnfolding false in
theorem og_cf (w : zg) {ps : List Prod} (h : PsOK ps) : Og PsOK (cfW w ps) := wi (c := ps.length = 200) (fun _ => wE (fun _ => w.At) 2) fun hn => yp og_head fun x hx => yp og_syms fun l hl => wi (c := x.2 = [])
  (fun hc => kI [98, 114, 97, 99, 107, 101, 116] (jh (P := PsOK) (f := ps ++ [Prod.mk false x.1 x.2 true l]) ⟨by have := h.1; rw [List.length_append, List.length_singleton]; omega, xT h.2 (prod_mk hx.1 hx.2 hl (by simp [hc]))⟩))
  (fun hc => jh (P := PsOK) (f := ps ++ [Prod.mk false x.1 x.2 false l]) ⟨by have := h.1; rw [List.length_append, List.length_singleton]; omega, xT h.2 (prod_mk hx.1 hx.2 hl (by simp [hc]))⟩)
def NmsOK (l : List (List UInt8)) : Prop := (1 <= l.length /\ l.length <= 16) /\ ∀ a ∈ l, yU a = true
theorem og_namesL : ∀ (j : Nat) (out : List (List UInt8)), NmsOK out -> Og NmsOK (xQ j out)
 | 0, _, _ => wE (fun _ => 0) 1
 | j + 1, out, h => by
  refine jj (fun ws => ?_) (wT (c := (hkd · 1)) (wi (c := out.length = 16) (fun _ => wE j8 2) fun hn => yp vq fun x hx => og_namesL j (out ++ [x]) ⟨by have := h.1; rw [List.length_append, List.length_singleton]; omega, xT h.2 hx⟩) (xK h))
  cases ws with
  | nil => rfl
  | cons w r =>
   by_cases h : w.Kind = 1
   ·simp only [xQ, hkd, h, if_true, beq_self_eq_true]
    by_cases h16 : out.length = 16
    ·rw [if_pos h16, if_pos h16]; rfl
    ·rw [if_neg h16, if_neg h16]; cases yR (w :: r) <;> rfl
   ·simp [xQ, hkd, h]
theorem og_group : Og (fun g => wu g = true) vg := by
 have q : ∀ g : Int, 0 <= g /\ g <= 3 -> Og (fun g => wu g = true) fun ws => match yR ws with
   | .error e => .error e
   | .ok (x, r2) => match xQ 30 [x] r2 with
    | .error e => .error e
    | .ok (c, r3) => .ok ((⟨g, c⟩ : zw), r3) := by
  intro g hg
  refine jj (fun ws => ?_) (yp vq fun x hx => yp (og_namesL 30 [x] ⟨by simp, xT (l := []) (by simp) hx⟩) fun c hc => xK (a := zw.mk g c) ?_)
  ·cases yR ws with
   | error e => rfl
   | ok v => obtain ⟨x, r⟩ := v; dsimp only; cases xQ 30 [x] r <;> rfl
  ·simp only [wu, Bool.and_eq_true, decide_eq_true_eq]
   exact ⟨hg, hc.1, List.all_eq_true.2 hc.2⟩
 refine jj (fun ws => ?_) (wT (c := (xt · [108, 101, 102, 116])) (wh (q 1 (by omega))) (wT (c := (xt · [114, 105, 103, 104, 116])) (wh (q 2 (by omega))) (wT (c := (xt · [110, 111, 110])) (wh (q 3 (by omega))) (q 0 (by omega)))))
 unfold vg kY
 cases xt ws [108, 101, 102, 116] <;> cases xt ws [114, 105, 103, 104, 116] <;> cases xt ws [110, 111, 110] <;> rfl
def GsOK (l : List zw) : Prop := (1 <= l.length /\ l.length <= 16) /\ ∀ g ∈ l, wu g = true
set_option smartUnfolding false in
theorem og_prioL : ∀ (j : Nat) (out : List zw), GsOK out -> Og GsOK (jI j out)
 | 0, _, _ => wE (fun _ => 0) 1
 | j + 1, out, h => wT (c := (xt · [62])) (wi (c := out.length = 16) (fun _ => wE (fun ws => j8 ws.tail) 2) fun hn => wh (yp og_group fun g hg => og_prioL j (out ++ [g]) ⟨by have := h.1; rw [List.length_append, List.length_singleton]; omega, xT h.2 hg⟩)) (xK h)
set_option smartUnfolding false in
theorem og_prio : Og (fun c => wJ c = true) kV := yp og_group fun g hg => yp (og_prioL 30 [g] ⟨by simp, xT (l := []) (by simp) hg⟩) fun c hc => jh (f := c) (by
 simp only [wJ, Bool.and_eq_true, decide_eq_true_eq]
 exact ⟨hc.1, List.all_eq_true.2 hc.2⟩)
def ItsOK (n : Nat) (x : List Item × Nat) : Prop := n <= x.2 /\ x.2 <= 64 /\ wF x.1 (64 - n) = some (64 - x.2)
theorem og_within {g : Nat -> List zg -> Pi} {n : Nat} (hg : Og (ItsOK n) (g n)) : Og (ItsOK n) (yO g n) := by
 refine jj (fun ws => ?_) (kI [40] (yp hg fun x hx => kI [41] (xK hx)))
 unfold yO
 cases zJ ws [40] with
 | error e => rfl
 | ok r =>
  dsimp only
  cases g n r with
  | error e => rfl
  | ok v => obtain ⟨⟨x, m⟩, r2⟩ := v; dsimp only; cases zJ r2 [41] <;> rfl
def ItOK (n : Nat) (x : Item × Nat) : Prop := n <= x.2 /\ x.2 <= 64 /\ itC x.1 (64 - n + 1) = some (64 - x.2)
theorem it_flat {x : Item} {n : Nat} (hn : n <= 64) (h : wt x = true) (hi : x.Items = []) : ItOK n (x, n) := by
 refine ⟨Nat.le_refl _, hn, ?_⟩
 show itC x (64 - n + 1) = _
 rw [ue, if_pos h, hi]
 rfl
theorem it_deep {x : Item} {n m : Nat} {i : List Item} (h : ItsOK n (i, m)) (h1 : wt x = true) (hi : x.Items = i) : ItOK n (x, m) := by
 obtain ⟨a, b, c⟩ := h
 refine ⟨a, b, ?_⟩
 show itC x (64 - n + 1) = _
 rw [ue, if_pos h1, hi]
 exact c
theorem numP_ok {n : Int} (h : 0 <= n /\ n <= 999999) : numP n = true := by
 unfold numP
 simp [h.1, h.2]
theorem og_item {g : Nat -> List zg -> Pi} {n : Nat} (hn : n <= 64) (hg : Og (ItsOK n) (g n)) : Og (ItOK n) (vG g n) := by
 have gi : ∀ f : List Item -> Item, (∀ i, wt (f i) = true /\ (f i).Items = i) -> Og (ItOK n) fun ws => match yO g n ws with
   | .error e => .error e
   | .ok (i, r3) => .ok ((f i.1, i.2), r3) := by
  intro f hf
  refine jj (fun ws => ?_) (yp (og_within hg) fun x hx => xK (a := (f x.1, x.2)) (it_deep hx (hf x.1).1 (hf x.1).2))
  cases yO g n ws <;> rfl
 refine jj (fun ws => ?_) (wT (c := (hkd · 4)) (ji (q := fun w r => .ok (((⟨1, vj w.Bytes, 0, []⟩ : Item), n), r)) 4 (fun w _ _ hl => xK (it_flat hn (by simp [wt, toS_len, hl rfl]) rfl)))
  (wT (c := (hkd · 3)) (ji (q := fun w r => .ok (((⟨2, [], w.N_, []⟩ : Item), n), r)) 3 (fun w h1 h2 _ => xK (it_flat hn (by simp [wt, numP_ok (h1.num h2)]) rfl)))
  (wT (c := (xt · [95])) (wh (xK (a := ((⟨3, [], 0, []⟩ : Item), n)) (it_flat hn rfl rfl)))
  (wT (c := (xt · [47])) (wh (xK (a := ((⟨4, [], 0, []⟩ : Item), n)) (it_flat hn rfl rfl)))
  (wT (c := (xt · [110, 101, 115, 116])) (wh (ji (q := fun w r => match yO g n r with
    | .error e => .error e
    | .ok (i, r3) => .ok (((⟨5, [], w.N_, i.1⟩ : Item), i.2), r3)) 3 (fun w h1 h2 _ => gi (fun i => ⟨5, [], w.N_, i⟩) fun i => ⟨by simp [wt, numP_ok (h1.num h2)], rfl⟩)))
  (wT (c := fun ws => decide (ws ≠ [])) (wh (gi (fun i => ⟨6, [], 0, i⟩) fun i => ⟨rfl, rfl⟩)) (wE (fun _ => 0) 1)))))))
 cases ws with
 | nil => rfl
 | cons w r =>
  simp only [vG, hkd]
  by_cases h4 : w.Kind = 4
  ·simp only [h4, if_true, beq_self_eq_true]
   cases yN (w :: r) 4 <;> rfl
  by_cases h3 : w.Kind = 3
  ·simp [h3, yN]
  simp only [h4, h3, if_false, beq_iff_eq]
  cases xt (w :: r) [95] with
  | true => rfl
  | false =>
  cases xt (w :: r) [47] with
  | true => rfl
  | false =>
  cases xt (w :: r) [110, 101, 115, 116] with
  | true =>
   simp only [Bool.false_eq_true, if_false, if_true, List.tail_cons]
   cases yN r 3 with
   | error e => rfl
   | ok v => obtain ⟨x, r2⟩ := v; dsimp only; cases yO g n r2 <;> rfl
  | false =>
   simp only [Bool.false_eq_true, if_false, List.tail_cons, decide_true, if_true, ne_eq, reduceCtorEq, not_false_eq_true]
   cases yO g n r <;> rfl
set_option smartUnfolding false in
theorem og_list2 {f n : Nat} (h1 : Og (ItOK (n + 1)) (vG (xi f) (n + 1))) (h2 : ∀ m, m <= 64 -> Og (ItsOK m) (xi f m)) : Og (ItsOK n) fun ws => match vG (xi f) (n + 1) ws with
  | .error e => .error e
  | .ok (x, r) => match xi f x.2 r with
   | .error e => .error e
   | .ok (y, r') => .ok ((x.1 :: y.1, y.2), r') := by
 refine yp (q := fun x r => match xi f x.2 r with
  | .error e => .error e
  | .ok (y, r') => .ok ((x.1 :: y.1, y.2), r')) (P := ItOK (n + 1)) h1 fun x hx => ?_
 refine yp (h2 x.2 hx.2.1) fun y hy => xK (a := (x.1 :: y.1, y.2)) ?_
 obtain ⟨a1, a2, a3⟩ := hx
 obtain ⟨b1, b2, b3⟩ := hy
 refine ⟨by show n <= y.2; omega, b2, ?_⟩
 show wF (x.1 :: y.1) (64 - n) = some (64 - y.2)
 have h64 : n + 1 <= 64 := by omega
 rw [wF, show 64 - n = 64 - (n + 1) + 1 by omega, a3]
 exact b3
theorem og_list : ∀ (f n : Nat), n <= 64 -> Og (ItsOK n) (xi f n)
 | 0, _, _ => wE (fun _ => 0) 1
 | f + 1, n, hn => by
  have hb := fun hne : n ≠ 64 => og_list2 (og_item (n := n + 1) (by omega) (og_list f (n + 1) (by omega))) (og_list f)
  refine jj (fun ws => ?_) (wT (c := kh) (wi (c := n = 64) (fun _ => wE j8 2) hb) (xK (a := ([], n)) ⟨Nat.le_refl _, hn, rfl⟩))
  simp only [xi]
  cases kh ws with
  | false => rfl
  | true =>
   simp only [if_true]
   by_cases h : n = 64
   ·rw [if_pos h, if_pos h]
   ·rw [if_neg h, if_neg h]
    cases vG (xi f) (n + 1) ws with
    | error e => rfl
    | ok v => obtain ⟨⟨x, m⟩, r⟩ := v; dsimp only; cases xi f m r <;> rfl
set_option smartUnfolding false in
theorem og_once : Og (fun a => yU a = true) kd := yp vq fun a ha => jh (P := fun a => yU a = true) (f := a) ha
set_option smartUnfolding false in
theorem og_follow : Og (fun f => yU f.Sort_ = true /\ Cp.okS f.Set) vt := yp vq fun a ha => ji (q := fun w r => match zJ r [59] with
  | .error e => .error e
  | .ok r3 => .ok ((⟨a, w.Set⟩ : Follow), r3)) 5 fun w h1 h2 _ => jh (f := Follow.mk a w.Set) ⟨ha, h1.set h2⟩
set_option smartUnfolding false in
theorem og_reject : Og (fun r => (yU r.Sort_ && yU r.By) = true) vW := yp vq fun a ha => yp vq fun b hb => jh (f := zz.mk a b) (by simp [ha, hb])
theorem og_box : Og (fun b => uV b.1 = true) qo := by
 refine jj (fun ws => ?_) (yp vq fun a ha => kI [61] (yp (og_list 65 0 (by omega)) fun x hx => jh (f := ((⟨a, x.1⟩ : xm), x.2)) ?_))
 ·unfold qo
  cases yR ws with
  | error e => rfl
  | ok v =>
   obtain ⟨a, r⟩ := v
   dsimp only
   cases zJ r [61] with
   | error e => rfl
   | ok r2 => dsimp only; cases xi 65 0 r2 <;> rfl
 ·have h := hx.2.2
  simp only [uV, ha, Bool.true_and]
  rw [show (64 : Nat) = 64 - 0 from rfl, h]
  rfl
structure DOK (d : zY) : Prop where
 start : uL d.Start true = true
 layout : uL d.Layout true = true
 prods : PsOK d.Prods
 chains : ∀ c ∈ d.Chains, wJ c = true
 follows : ∀ f ∈ d.Follows, yU f.Sort_ = true /\ Cp.okS f.Set
 rejects : ∀ r ∈ d.Rejects, (yU r.Sort_ && yU r.By) = true
 boxes : ∀ b ∈ d.Boxes, uV b = true
theorem nmE_of {a : List UInt8} (h : yU a = true) : uL a true = true := by simp [uL, h]
set_option smartUnfolding false in
theorem og_stmt (w : zg) {d : zY} (s y : Bool) (h : DOK d) : Og (fun x => DOK x.1) (xX w d s y) := by
 obtain ⟨h1, h2, h3, h4, h5, h6, h7⟩ := h
 unfold xX
 exact wi (fun _ => wi (fun _ => wE (fun _ => w.At) 31) fun _ => yp og_once fun x hx => xK (a := (dS d x, true, y)) ⟨nmE_of hx, h2, h3, h4, h5, h6, h7⟩) fun _ =>
  wi (fun _ => wi (fun _ => wE (fun _ => w.At) 31) fun _ => yp og_once fun x hx => xK (a := (dL d x, s, true)) ⟨h1, nmE_of hx, h3, h4, h5, h6, h7⟩) fun _ =>
  wi (fun _ => yp (og_lex w h3) fun x hx => xK (a := (dP d x, s, y)) ⟨h1, h2, hx, h4, h5, h6, h7⟩) fun _ =>
  wi (fun _ => yp (og_cf w h3) fun x hx => xK (a := (dP d x, s, y)) ⟨h1, h2, hx, h4, h5, h6, h7⟩) fun _ =>
  wi (fun _ => yp og_prio fun x hx => xK (a := (dC d (d.Chains ++ [x]), s, y)) ⟨h1, h2, h3, xT h4 hx, h5, h6, h7⟩) fun _ =>
  wi (fun _ => yp og_follow fun x hx => xK (a := (wb d (d.Follows ++ [x]), s, y)) ⟨h1, h2, h3, h4, xT h5 hx, h6, h7⟩) fun _ =>
  wi (fun _ => yp og_reject fun x hx => xK (a := (dR d (d.Rejects ++ [x]), s, y)) ⟨h1, h2, h3, h4, h5, xT h6 hx, h7⟩) fun _ =>
  wi (fun _ => yp og_box fun x hx => xK (a := (dB d (d.Boxes ++ [x.1]), s, y)) ⟨h1, h2, h3, h4, h5, h6, xT h7 hx⟩) fun _ => wE (fun _ => w.At) 30
theorem allW_ok : ∀ (j : Nat) (d d' : zY) (s y : Bool) (ws : List zg), DOK d -> GW ws -> kw j d s y ws = .ok d' -> DOK d'
 | 0, _, _, _, _, _, _, _, h => by cases h
 | j + 1, d, d', s, y, ws, hd, hw, h => by
  cases ws with
  | nil => cases h
  | cons w r =>
   simp only [kw] at h
   split at h
   ·cases h; exact hd
   split at h
   ·cases hs : xX w d s y r with
    | error e => rw [hs] at h; cases h
    | ok v =>
     obtain ⟨x, r'⟩ := v
     rw [hs] at h
     obtain ⟨h1, h2⟩ := og_stmt w s y hd r x r' (fun z hz => hw z (List.mem_cons_of_mem _ hz)) hs
     exact allW_ok j _ _ _ _ _ h1 h2 h
   ·cases h
theorem DOK_right {d : zY} (h : DOK d) : qJ d = true /\ gO d := by
 obtain ⟨h1, h2, h3, h4, h5, h6, h7⟩ := h
 refine ⟨?_, fun p hp s hs => (h3.2 p hp).2 s hs, fun f hf => (h5 f hf).2⟩
 unfold qJ
 simp only [h1, h2, Bool.true_and, Bool.and_eq_true, decide_eq_true_eq, List.all_eq_true]
 exact ⟨h3.1, fun p hp => (h3.2 p hp).1, h4, fun f hf => (h5 f hf).1, fun r hr => Bool.and_eq_true_iff.1 (h6 r hr), h7⟩
theorem p10 {c : Nat} (h : c <= 6) : (10 : Int) ^ c <= 1000000 := by
 have : c = 0 \/ c = 1 \/ c = 2 \/ c = 3 \/ c = 4 \/ c = 5 \/ c = 6 := by omega
 rcases this with rfl | rfl | rfl | rfl | rfl | rfl | rfl <;> decide
theorem numR_lt : ∀ (r : List UInt8) (c : Nat) (v : Int) (m : Nat) (n : Int), 0 <= v -> v < 10 ^ c -> c <= 6 -> vD c v r = some (m, n) -> 0 <= n /\ n <= 999999
 | [], c, v, m, n, h0, h1, h6, h => by
  rw [vD] at h
  cases h
  have := p10 h6
  omega
 | d :: r, c, v, m, n, h0, h1, h6, h => by
  have hp := p10 h6
  rw [vD] at h
  split at h
  ·rename_i hd
   split at h
   ·cases h
   rename_i hc
   have hdl : 48 <= d.toNat /\ d.toNat <= 57 := by
    unfold vE at hd
    split at hd
    ·omega
    split at hd
    ·omega
    split at hd
    ·assumption
    ·omega
   obtain ⟨e, he⟩ : ∃ e : Nat, d.toNat = 48 + e := ⟨d.toNat - 48, by omega⟩
   have e4 : IntKind.wrap .u8 ((d.toNat : Int) - 48) = (e : Int) := by
    rw [show (d.toNat : Int) - 48 = (e : Int) by omega]
    simp only [IntKind.wrap, IntKind.bits, IntKind.signed]
    simp
    omega
   rw [e4, zO (show -9223372036854775808 <= 10 * v by omega) (by omega), zO (show -9223372036854775808 <= (e : Int) by omega) (by omega), zO (by omega) (by omega)] at h
   exact numR_lt r (c + 1) _ m n (by omega) (by rw [Int.pow_succ]; omega) (by omega) h
  ·cases h
   omega
theorem psP_okS {t : List UInt8} (h : t.length <= 65536) : Cp.okS (psP t).1 := by
 unfold psP
 rw [Cp.yParse_ok (by omega) (by omega)]
 unfold Cp.parseT
 split
 ·exact Cp.okS_none
 split
 ·exact Cp.okS_none
 rename_i h1 h2
 have hn : (if t[1]? = some 94 then 2 else 1) <= t.length := by
  split
  ·rename_i h
   have := (List.getElem?_eq_some_iff.1 h).1
   omega
  ·rename_i h
   have : t[0]? = some 91 := by simpa using h2
   have := (List.getElem?_eq_some_iff.1 this).1
   omega
 obtain ⟨r, hr, hu⟩ := Cp.parseL_some (t := t) (t.length - (if t[1]? = some 94 then 2 else 1)) 400000 _ (S4.mk 0 0 0 0) (by omega) hn (by omega) Cp.okS_none
 rw [hr]
 cases r with
 | ret f => exact Cp.okS_none
 | done x =>
  simp only [Option.map_some, Option.getD_some]
  split
  ·exact Cp.okS_none
  split
  ·exact Cp.okS_ofP _
  ·exact (hu x.1 x.2 rfl).2
theorem tok_good {r : List UInt8} {x : Tk} {n : Nat} (hl : r.length <= 65536) (h : kD r = .ok (x, n)) (s : List UInt8) (i : Nat) : Gw (wd s i (r.take n) x) := by
 cases r with
 | nil => cases h
 | cons c r =>
  simp only [kD] at h
  split at h
  ·rename_i hc
   split at h
   ·cases h
   rename_i h32
   cases h
   refine ⟨fun hk => ?_, fun hk => ?_, fun hk => ?_⟩
   ·have hk1 : vE c.toNat = 1 := by
     have : ((vE c.toNat : Nat) : Int) = 1 := hk
     omega
    have h1 := (pl_some (c :: r)).2.2 [] (fun _ _ e => by cases e)
    rw [List.append_nil] at h1
    have hal : al c = true := by unfold al; rw [decide_eq_true_eq]; omega
    obtain ⟨m, hm⟩ : ∃ m', pl (c :: r) = m' + 1 := ⟨pl r, by rw [jX, if_pos hal]⟩
    have hle := pl_le (c :: r)
    show yU ((c :: r).take (pl (c :: r))) = true
    rw [hm, List.take_succ_cons] at h1 ⊢
    rw [hm] at hle h32
    simp only [List.length_cons] at hle
    simp only [yU, hk1, Bool.and_eq_true, decide_eq_true_eq]
    have hlen : (c :: r.take m).length = m + 1 := by rw [List.length_cons, List.length_take]; omega
    exact ⟨by omega, trivial, by rw [h1, hlen]⟩
   ·have : ((vE c.toNat : Nat) : Int) = 3 := hk
    omega
   ·have : ((vE c.toNat : Nat) : Int) = 5 := hk
    omega
  split at h
  ·split at h
   ·cases h
   rename_i m v hn
   split at h
   ·cases h
   cases h
   refine ⟨fun hk => absurd (show (3 : Int) = 1 from hk) (by decide), fun _ => numR_lt _ 0 0 _ _ (by omega) (by decide) (by omega) hn, fun hk => absurd (show (3 : Int) = 5 from hk) (by decide)⟩
  split at h
  ·split at h
   ·cases h
   ·cases h
   ·cases h
    exact ⟨fun hk => absurd (show (4 : Int) = 1 from hk) (by decide), fun hk => absurd (show (4 : Int) = 3 from hk) (by decide), fun hk => absurd (show (4 : Int) = 5 from hk) (by decide)⟩
  split at h
  ·split at h
   ·cases h
   rename_i m hm
   split at h
   ·cases h
   cases h
   exact ⟨fun hk => absurd (show (5 : Int) = 1 from hk) (by decide), fun hk => absurd (show (5 : Int) = 3 from hk) (by decide), fun _ => psP_okS (by rw [List.length_take]; omega)⟩
  split at h
  ·cases h
   exact ⟨fun hk => absurd (show (6 : Int) = 1 from hk) (by decide), fun hk => absurd (show (6 : Int) = 3 from hk) (by decide), fun hk => absurd (show (6 : Int) = 5 from hk) (by decide)⟩
  ·cases h
theorem scT_good : ∀ (j : Nat) (r : List UInt8) (l : List (Nat × List UInt8 × Tk)), r.length <= 65536 -> jB j r = .ok l -> ∀ p ∈ l, ∀ s i, Gw (wd s i p.2.1 p.2.2)
 | 0, _, _, _, h => by cases h; exact fun p hp => (by cases hp)
 | j + 1, r, l, hl, h => by
  have hs := gG r false
  unfold jB at h
  cases hk : vx false r with
  | nil => rw [hk] at h; cases h; exact fun p hp => (by cases hp)
  | cons c t =>
   rw [hk] at h hs
   simp only at h
   cases ht : kD (c :: t) with
   | error p => rw [ht] at h; cases h
   | ok p =>
    obtain ⟨x, n⟩ := p
    rw [ht] at h
    simp only at h
    cases hr : jB j ((c :: t).drop n) with
    | error z => rw [hr] at h; cases h
    | ok l' =>
     rw [hr] at h
     cases h
     intro p hp
     rcases List.mem_cons.1 hp with rfl | hp
     ·exact fun s i => tok_good (by omega) ht s i
     ·exact scT_good j _ l' (by rw [List.length_drop]; omega) hr p hp
theorem prsP_right {s : List UInt8} (hb : s.length <= 65536) (h : (vz s).2.Code = 0) : qJ (vz s).1 = true /\ gO (vz s).1 := by
 obtain ⟨l, h1, h2⟩ := prsP_ok hb h
 have hg := scT_good _ _ _ hb h1
 refine DOK_right (allW_ok _ d0 _ false false _ ⟨rfl, rfl, ⟨by simp [d0], by simp [d0]⟩, by simp [d0], by simp [d0], by simp [d0], by simp [d0]⟩ (fun w hw => ?_) h2)
 rcases List.mem_append.1 hw with hw | hw
 ·obtain ⟨p, hp, rfl⟩ := List.mem_map.1 hw
  exact hg p hp _ _
 ·rw [List.mem_singleton] at hw
  subst hw
  exact ⟨fun hk => absurd (show (7 : Int) = 1 from hk) (by decide), fun hk => absurd (show (7 : Int) = 3 from hk) (by decide), fun hk => absurd (show (7 : Int) = 5 from hk) (by decide)⟩
theorem prsP_bad {s : List UInt8} (h : (vz s).2.Code ≠ 0) : (vz s).1 = d0 := by
 unfold vz at h ⊢
 cases hs : jB 400000 s with
 | error z => rfl
 | ok l =>
  rw [hs] at h
  simp only at h ⊢
  cases ha : kw 400000 d0 false false (uv s l ++ [jz s]) with
  | error f => rfl
  | ok d => rw [ha] at h; exact absurd rfl h
theorem law_Back0 {d : zY} {text : List UInt8} (ho : OkD d) (hs : gO d) (halive : ∀ m, qv.alive (m + 200000) = some true) : ∃ k, qv.DefsBack k d text = some true := by
 refine ⟨(200000 + 4 * dz d.Boxes) + 200000, ?_⟩
 have hk1 : 200000 + 4 * dz d.Boxes <= (200000 + 4 * dz d.Boxes) + 200000 := by omega
 have hK : 400000 <= (200000 + 4 * dz d.Boxes) + 200000 := by omega
 have hal := halive (200000 + 4 * dz d.Boxes)
 generalize (200000 + 4 * dz d.Boxes) + 200000 = k at *
 obtain ⟨u, e1, p1⟩ := heavy_ok hk1 ho
 unfold qv.DefsBack
 rw [e1, hal]
 simp only [Option.bind_some]
 cases u with
 | true => rfl
 | false =>
  have da := p1 rfl
  simp only [Bool.false_eq_true, if_false]
  by_cases ht : 20000 < text.length
  ·rw [if_pos (by rw [decide_eq_true_eq]; omega)]
  rw [if_neg (by rw [decide_eq_true_eq]; omega), Print_one (by omega) da hs, Option.bind_some]
  have hj : qv.DefsBack_j1 k text = some true := by
   unfold qv.DefsBack_j1
   rw [Parse_ok hK (by omega), Option.bind_some, hal, Option.bind_some]
   obtain ⟨b1, b2, b3⟩ := iv_bd (prsP_iv0 (s := text) (by omega)) (by omega)
   by_cases hc : (vz text).2.Code = 0
   ·obtain ⟨g1, g2⟩ := prsP_right (s := text) (by omega) hc
    have hc' : ((vz text).2.Code != 0) = false := by simpa using hc
    rw [hc', if_neg (by simp), Print_one (by omega) b1 g2, Option.bind_some, Right_ok (by omega) b1, g1]
    rcases u7 (vz text).1 with ⟨a1, a2, a3⟩ | ⟨e, a1, a2⟩
    ·rw [a3]
     show ((qd.Parse k (jE (vz text).1)).bind _) = _
     rw [Parse_ok hK a2, prsP_text a1 g2 a2, Option.bind_some, SameR_ok (show 200000 + 4 * dz (vz text).1.Boxes <= k by omega) b1 b2, ceq_self]
     rfl
    ·have he : e = 2 := by
      have hh : ∀ y, jW (vz text).1 = ([], y) -> y ≠ 0 -> y = 2 := by
       intro y
       unfold jW
       rw [if_pos g1]
       split
       ·intro h h0
        exact absurd (congrArg (fun x => x.2) h).symm h0
       ·intro h _
        exact (congrArg (fun x => x.2) h).symm
      exact hh e a2 a1
     rw [a2, he]
     rfl
   ·have hc' : ((vz text).2.Code != 0) = true := by simpa using hc
    have e0 := prsP_bad hc
    rw [hc', if_pos rfl, if_pos rfl, SameR_ok (show 200000 + 4 * dz (vz text).1.Boxes <= k by omega) b1 b2, e0]
    show some (vn d0 d0) = _
    rw [ceq_self]
  rw [hj]
  rcases u7 d with ⟨a1, a2, a3⟩ | ⟨x, a1, a2⟩
  ·rw [a3]
   show ((qd.Parse k (jE d)).bind _) = _
   rw [Parse_ok hK a2, prsP_text a1 hs a2, Option.bind_some, SameR_ok hk1 da ho.items, ceq_self]
   rfl
  ·have hx : (x == 0) = false := by simpa using a1
   rw [a2]
   simp only [hx]
   rfl
end Go.Vc
