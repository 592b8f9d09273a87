import Derived.Test.YtdbnoblklhgdoaaGreatDoorRA
set_option linter.unusedSectionVars false
set_option linter.unusedVariables false
namespace Go.Vc
open Go
def er (w : zg) : zg := ⟨w.Kind, w.Text, w.Bytes, w.Set, w.N_, 0, 0, 0⟩
def Eq' (ws ws' : List zg) : Prop := ws.map er = ws'.map er
def Rl {α : Type} : Ps α -> Ps α -> Prop
 | .ok (a, r), .ok (b, r') => a = b /\ Eq' r r'
 | .error e, .error e' => e.Code = e'.Code
 | _, _ => False
structure Gp {α : Type} (p : List zg -> Ps α) : Prop where
 er : ∀ ws ws', Eq' ws ws' -> Rl (p ws) (p ws')
 len : ∀ ws x r, p ws = .ok (x, r) -> r.length <= ws.length
 loc : ∀ ws z x r, p ws = .ok (x, r) -> 2 <= r.length -> p (ws.dropLast ++ z) = .ok (x, r.dropLast ++ z)
 nz : ∀ ws e, p ws = .error e -> e.Code ≠ 0
structure Ts (c : List zg -> Bool) : Prop where
 er : ∀ ws ws', Eq' ws ws' -> c ws = c ws'
 loc : ∀ ws z, 2 <= ws.length -> c (ws.dropLast ++ z) = c ws
theorem kC {w w' : zg} (h : er w = er w') : w.Kind = w'.Kind /\ w.Text = w'.Text /\ w.Bytes = w'.Bytes /\ w.Set = w'.Set /\ w.N_ = w'.N_ := by
 simp only [er, zg.mk.injEq] at h
 exact ⟨h.1, h.2.1, h.2.2.1, h.2.2.2.1, h.2.2.2.2.1⟩
theorem eq_nil {ws : List zg} (h : Eq' [] ws) : ws = [] := by cases ws with
 | nil => rfl
 | cons _ _ => simp [Eq'] at h
theorem eq_cons {w : zg} {r ws : List zg} (h : Eq' (w :: r) ws) : ∃ w' r', ws = w' :: r' /\ er w = er w' /\ Eq' r r' := by cases ws with
 | nil => simp [Eq'] at h
 | cons w' r' => simp only [Eq', List.map_cons, List.cons.injEq] at h; exact ⟨w', r', rfl, h.1, h.2⟩
theorem dl {w : zg} {r z : List zg} (h : 1 <= r.length) : (w :: r).dropLast ++ z = w :: (r.dropLast ++ z) := by cases r with
 | nil => simp at h
 | cons _ _ => simp
theorem ts_mk {c : List zg -> Bool} (f : zg -> Bool) (hf : ∀ w w', er w = er w' -> f w = f w') (b : Bool) (h0 : c [] = b) (hc : ∀ w r, c (w :: r) = f w) : Ts c := by
 constructor
 ·intro ws ws' h
  cases ws with
  | nil => rw [eq_nil h]
  | cons w r =>
   obtain ⟨w', r', rfl, h1, _⟩ := eq_cons h
   rw [hc, hc, hf _ _ h1]
 ·intro ws z h
  cases ws with
  | nil => simp at h
  | cons w r =>
   simp only [List.length_cons] at h
   rw [dl (by omega), hc, hc]
theorem kS (t : List UInt8) : Ts (xt · t) := ts_mk (fun w => (w.Kind == 6 || w.Kind == 2) && w.Text == t) (fun w w' h => by
 obtain ⟨h1, h2, _⟩ := kC h
 simp only [h1, h2]) false rfl (fun _ _ => rfl)
def hkd (ws : List zg) (k : Int) : Bool := match ws with
 | w :: _ => w.Kind == k
 | [] => false
theorem ts_kd (k : Int) : Ts (hkd · k) := ts_mk (fun w => w.Kind == k) (fun w w' h => by rw [(kC h).1]) false rfl (fun _ _ => rfl)
section
variable {α β : Type}
theorem kZ {p q : List zg -> Ps α} (h : ∀ ws, p ws = q ws) (hq : Gp q) : Gp p := by rw [show p = q from funext h]; exact hq
theorem xC (a : α) : Gp fun ws => .ok (a, ws) := ⟨fun _ _ h => ⟨rfl, h⟩, fun _ _ _ h => (by cases h; exact Nat.le_refl _), fun _ _ _ _ h _ => (by cases h; rfl), fun _ _ h => (by cases h)⟩
theorem wv (f : List zg -> Int) (c : Int) (hc : c ≠ 0 := by decide) : Gp (α := α) fun ws => .error ⟨f ws, c⟩ := ⟨fun _ _ _ => rfl, fun _ _ _ h => (by cases h), fun _ _ _ _ h => (by cases h), fun _ _ h => (by cases h; exact hc)⟩
theorem wG {c : List zg -> Bool} {p q : List zg -> Ps α} (hc : Ts c) (hp : Gp p) (hq : Gp q) : Gp fun ws => if c ws then p ws else q ws := by
 constructor
 ·intro ws ws' h
  show Rl (if c ws then p ws else q ws) (if c ws' then p ws' else q ws')
  rw [hc.er ws ws' h]
  split
  ·exact hp.er _ _ h
  ·exact hq.er _ _ h
 ·intro ws x r h
  split at h
  ·exact hp.len _ _ _ h
  ·exact hq.len _ _ _ h
 ·intro ws z x r h h2
  have hl : 2 <= ws.length := by
   split at h
   ·have := hp.len _ _ _ h; omega
   ·have := hq.len _ _ _ h; omega
  rw [hc.loc ws z hl]
  split at h
  ·rename_i hh; rw [if_pos hh]; exact hp.loc _ _ _ _ h h2
  ·rename_i hh; rw [if_neg hh]; exact hq.loc _ _ _ _ h h2
 ·intro ws e h
  split at h
  ·exact hp.nz _ _ h
  ·exact hq.nz _ _ h
theorem eq_tail {ws ws' : List zg} (h : Eq' ws ws') : Eq' ws.tail ws'.tail := by
 unfold Eq' at *
 rw [List.map_tail, List.map_tail, h]
theorem tail_dl {ws z : List zg} (h : 2 <= ws.length) : (ws.dropLast ++ z).tail = ws.tail.dropLast ++ z := by
 cases ws with
 | nil => simp at h
 | cons w r => simp only [List.length_cons] at h; rw [dl (by omega)]; rfl
theorem xW {p : List zg -> Ps α} (hp : Gp p) : Gp fun ws => p ws.tail := by
 constructor
 ·intro ws ws' h
  exact hp.er _ _ (eq_tail h)
 ·intro ws x r h
  have := hp.len _ _ _ h
  rw [List.length_tail] at this
  omega
 ·intro ws z x r h h2
  have := hp.len _ _ _ h
  rw [List.length_tail] at this
  rw [tail_dl (by omega)]
  exact hp.loc _ _ _ _ h h2
 ·intro ws e h
  exact hp.nz _ _ h
theorem yr {p : List zg -> Ps α} {q : α -> List zg -> Ps β} (hp : Gp p) (hq : ∀ x, Gp (q x)) : Gp fun ws => match p ws with
  | .error e => .error e
  | .ok (x, r) => q x r := by
 constructor
 ·intro ws ws' h
  have := hp.er _ _ h
  cases h1 : p ws with
  | error e => cases h2 : p ws' with
   | error e' => rw [h1, h2] at this; exact this
   | ok v => rw [h1, h2] at this; exact this.elim
  | ok v => cases h2 : p ws' with
   | error e' => rw [h1, h2] at this; exact this.elim
   | ok v' =>
    rw [h1, h2] at this
    obtain ⟨x, r⟩ := v
    obtain ⟨x', r'⟩ := v'
    obtain ⟨rfl, h3⟩ := this
    exact (hq x).er _ _ h3
 ·intro ws x r h
  cases h1 : p ws with
  | error e => rw [h1] at h; cases h
  | ok v =>
   obtain ⟨y, r1⟩ := v
   rw [h1] at h
   have := hp.len _ _ _ h1
   have := (hq y).len _ _ _ h
   omega
 ·intro ws z x r h h2
  cases h1 : p ws with
  | error e => rw [h1] at h; cases h
  | ok v =>
   obtain ⟨y, r1⟩ := v
   rw [h1] at h
   have l2 := (hq y).len _ _ _ h
   rw [hp.loc _ z _ _ h1 (by omega)]
   exact (hq y).loc _ _ _ _ h h2
 ·intro ws e h
  cases h1 : p ws with
  | error e' => rw [h1] at h; cases h; exact hp.nz _ _ h1
  | ok v => rw [h1] at h; exact (hq v.1).nz _ _ h
theorem kJ (t : List UInt8) {q : List zg -> Ps β} (hq : Gp q) : Gp fun ws => match zJ ws t with
  | .error e => .error e
  | .ok r => q r := by
 refine kZ (fun ws => ?_) (wG (kS t) (xW hq) (wv j8 30))
 unfold zJ
 cases xt ws t <;> rfl
theorem gp_kind (k : Int) {q : zg -> List zg -> Ps β} (hq : ∀ w, Gp (q w)) (hw : ∀ w w', er w = er w' -> ∀ ws ws', Eq' ws ws' -> Rl (q w ws) (q w' ws')) : Gp fun ws => match yN ws k with
  | .error e => .error e
  | .ok (w, r) => q w r := by
 constructor
 ·intro ws ws' h
  cases ws with
  | nil => rw [eq_nil h]; exact rfl
  | cons w r =>
   obtain ⟨w', r', rfl, h1, h2⟩ := eq_cons h
   obtain ⟨e1, _, e3, _⟩ := kC h1
   simp only [yN, <- e1, <- e3]
   by_cases hk : w.Kind = k
   ·rw [if_pos hk, if_pos hk]
    by_cases hb : k = 4 /\ 32 < w.Bytes.length
    ·rw [if_pos hb, if_pos hb]; exact rfl
    ·rw [if_neg hb, if_neg hb]; exact hw w w' h1 r r' h2
   ·rw [if_neg hk, if_neg hk]; exact rfl
 ·intro ws x r h
  cases ws with
  | nil => cases h
  | cons w r1 =>
   simp only [yN] at h
   by_cases hk : w.Kind = k
   ·rw [if_pos hk] at h
    by_cases hb : k = 4 /\ 32 < w.Bytes.length
    ·rw [if_pos hb] at h; cases h
    ·rw [if_neg hb] at h
     have := (hq w).len _ _ _ h
     simp only [List.length_cons]; omega
   ·rw [if_neg hk] at h; cases h
 ·intro ws z x r h h2
  cases ws with
  | nil => cases h
  | cons w r1 =>
   simp only [yN] at h
   by_cases hk : w.Kind = k
   ·rw [if_pos hk] at h
    by_cases hb : k = 4 /\ 32 < w.Bytes.length
    ·rw [if_pos hb] at h; cases h
    ·rw [if_neg hb] at h
     have hl := (hq w).len _ _ _ h
     rw [dl (by omega)]
     simp only [yN]
     rw [if_pos hk, if_neg hb]
     exact (hq w).loc _ _ _ _ h h2
   ·rw [if_neg hk] at h; cases h
 ·intro ws e h
  cases ws with
  | nil => cases h; decide
  | cons w r1 =>
   simp only [yN] at h
   by_cases hk : w.Kind = k
   ·rw [if_pos hk] at h
    by_cases hb : k = 4 /\ 32 < w.Bytes.length
    ·rw [if_pos hb] at h; cases h; simp
    ·rw [if_neg hb] at h
     exact (hq w).nz _ _ h
   ·rw [if_neg hk] at h; cases h; simp
theorem kj {γ : Type} (k : Int) (f : zg -> γ) (hf : ∀ w w', er w = er w' -> f w = f w') {q : γ -> List zg -> Ps β} (hq : ∀ w, Gp (q w)) : Gp fun ws => match yN ws k with
  | .error e => .error e
  | .ok (w, r) => q (f w) r := gp_kind k (q := fun w => q (f w)) (fun w => hq (f w)) (fun w w' h ws ws' h' => by rw [hf w w' h]; exact (hq _).er _ _ h')
end
theorem xS : Gp yR := kZ (fun ws => by unfold yR; cases yN ws 1 <;> rfl) <| kj (q := fun x r => .ok (x, r)) 1 (fun w => w.Text) (fun _ _ h => (kC h).2.1) (fun x => xC x)
section
variable {α β : Type}
theorem wk {c : Prop} [Decidable c] {p q : List zg -> Ps α} (hp : Gp p) (hq : Gp q) : Gp fun ws => if c then p ws else q ws := by
 by_cases h : c
 ·exact kZ (fun ws => if_pos h) hp
 ·exact kZ (fun ws => if_neg h) hq
end
theorem gp_end (k : Int) (set : S4) (nm : List UInt8) : Gp fun ws => .ok (jM k set nm ws) := by
 refine kZ (fun ws => ?_) (wG (kS [63]) (xW (xC ⟨4, [], set, nm, []⟩)) (wG (kS [42]) (xW (xC ⟨5, [], set, nm, []⟩)) (wG (kS [43]) (xW (xC ⟨6, [], set, nm, []⟩)) (xC ⟨k, [], set, nm, []⟩))))
 unfold jM
 cases xt ws [63] <;> cases xt ws [42] <;> cases xt ws [43] <;> rfl
theorem gp_part : Gp qz := by
 refine kZ (fun ws => ?_) (wG (ts_kd 5) (kj 5 (fun w => w.Set) (fun _ _ h => (kC h).2.2.2.1) (fun s => gp_end 2 s [])) (yr xS (fun nm => gp_end 3 xA nm)))
 cases ws with
 | nil => rfl
 | cons w r =>
  by_cases h : w.Kind = 5
  ·simp [qz, hkd, yN, h]
  ·have e : (w.Kind == 5) = false := by simp [h]
   simp only [qz, hkd, e, if_neg h, Bool.false_eq_true, if_false]
   cases yR (w :: r) <;> rfl
set_option smartUnfolding false in
theorem gp_brace2 (nm : List UInt8) (b : List Int) : Gp fun ws => match zJ ws [125] with
  | .error e => .error e
  | .ok r3 => if xt r3 [42] then .ok ((⟨5, [], xA, nm, vj b⟩ : xg), r3.tail) else match zJ r3 [43] with
   | .error e => .error e
   | .ok r4 => .ok (⟨6, [], xA, nm, vj b⟩, r4) :=
 kJ [125] (wG (kS [42]) (xW (xC _)) (kJ [43] (xC _)))
set_option smartUnfolding false in
theorem gp_brace : Gp gM := by
 refine yr (q := fun nm r => match yN r 4 with
  | .error e => .error e
  | .ok (w, r2) => if w.Bytes.length = 0 then .error ⟨w.At, 30⟩ else match zJ r2 [125] with
   | .error e => .error e
   | .ok r3 => if xt r3 [42] then .ok ((⟨5, [], xA, nm, vj w.Bytes⟩ : xg), r3.tail) else match zJ r3 [43] with
    | .error e => .error e
    | .ok r4 => .ok (⟨6, [], xA, nm, vj w.Bytes⟩, r4)) xS fun nm => ?_
 refine gp_kind 4 (q := fun w r2 => if w.Bytes.length = 0 then .error ⟨w.At, 30⟩ else match zJ r2 [125] with
   | .error e => .error e
   | .ok r3 => if xt r3 [42] then .ok ((⟨5, [], xA, nm, vj w.Bytes⟩ : xg), r3.tail) else match zJ r3 [43] with
    | .error e => .error e
    | .ok r4 => .ok (⟨6, [], xA, nm, vj w.Bytes⟩, r4)) (fun w => wk (wv (fun _ => w.At) 30) (gp_brace2 nm w.Bytes)) ?_
 intro w w' h ws ws' h'
 have e := (kC h).2.2.1
 simp only [<- e]
 by_cases hb : w.Bytes.length = 0
 ·rw [if_pos hb, if_pos hb]; exact rfl
 ·rw [if_neg hb, if_neg hb]; exact (gp_brace2 nm w.Bytes).er _ _ h'
theorem gp_sym : Gp vo := by
 refine kZ (fun ws => ?_) (wG (ts_kd 4) (kj (q := fun b r => .ok ((⟨1, vj b, xA, [], []⟩ : xg), r)) 4 (fun w => w.Bytes) (fun _ _ h => (kC h).2.2.1) (fun s => xC _)) (wG (kS [123]) (xW gp_brace) gp_part))
 cases ws with
 | nil => rfl
 | cons w r =>
  by_cases h : w.Kind = 4
  ·simp only [vo, hkd, h, if_true, beq_self_eq_true]
   cases yN (w :: r) 4 <;> rfl
  ·simp [vo, hkd, h]
theorem ts_beg : Ts uX := ts_mk (fun w => w.Kind == 4 || w.Kind == 1 || w.Kind == 5 || ((w.Kind == 6 || w.Kind == 2) && w.Text == [123])) (fun w w' h => by
 obtain ⟨h1, h2, _⟩ := kC h
 simp only [h1, h2]) false rfl (fun _ _ => rfl)
set_option smartUnfolding false in
theorem gp_symsL : ∀ (j : Nat) (out : List xg), Gp (kA j out)
 | 0, _ => wv (fun _ => 0) 1
 | j + 1, out => wG ts_beg (wk (c := out.length = 12) (wv j8 2) (yr gp_sym fun x => gp_symsL j (out ++ [x]))) (xC out)
set_option smartUnfolding false in
theorem gp_syms : Gp kz := yr gp_sym fun x => gp_symsL 20 [x]
set_option smartUnfolding false in
theorem gp_head : Gp headW := yr xS fun a => wG (kS [46]) (xW (yr xS fun c => kJ [61] (xC (a, c)))) (kJ [61] (xC (a, [])))
set_option smartUnfolding false in
theorem gp_lexL : ∀ (j : Nat) (a c : List UInt8) (ps : List Prod), Gp (gr j a c ps)
 | 0, _, _, _ => wv (fun _ => 0) 1
 | j + 1, a, c, ps => yr gp_syms fun x => wG (kS [124]) (wk (c := ps.length + 1 = 200) (wv j8 2) (xW (gp_lexL j a c (ps ++ [Prod.mk true a c false x])))) (xC (ps ++ [Prod.mk true a c false x]))
set_option smartUnfolding false in
theorem jo {α : Type} (f : α) : Gp fun ws => match zJ ws [59] with
  | .error e => .error e
  | .ok r => .ok (f, r) := kJ [59] (xC f)
set_option smartUnfolding false in
theorem gp_lex (w : zg) (ps : List Prod) : Gp (ql w ps) := wk (c := ps.length = 200) (wv (fun _ => w.At) 2) (yr gp_head fun x => yr (gp_lexL 300 x.1 x.2 ps) fun p => jo p)
set_option smartUnfolding false in
theorem gp_cf (w : zg) (ps : List Prod) : Gp (cfW w ps) := wk (c := ps.length = 200) (wv (fun _ => w.At) 2) (yr gp_head fun x => yr gp_syms fun l => wk (c := x.2 = []) (kJ [98, 114, 97, 99, 107, 101, 116] (jo (ps ++ [⟨false, x.1, x.2, true, l⟩]))) (jo (ps ++ [⟨false, x.1, x.2, false, l⟩])))
theorem gp_namesL : ∀ (j : Nat) (out : List (List UInt8)), Gp (xQ j out)
 | 0, _ => wv (fun _ => 0) 1
 | j + 1, out => by
  refine kZ (fun ws => ?_) (wG (ts_kd 1) (wk (c := out.length = 16) (wv j8 2) (yr xS fun x => gp_namesL j (out ++ [x]))) (xC out))
  cases ws with
  | nil => rfl
  | cons w r =>
   by_cases h : w.Kind = 1
   ·simp only [xQ, hkd, h, if_true, beq_self_eq_true]
    by_cases h16 : out.length = 16
    ·rw [if_pos h16, if_pos h16]; rfl
    ·rw [if_neg h16, if_neg h16]; cases yR (w :: r) <;> rfl
   ·simp [xQ, hkd, h]
theorem gp_group : Gp vg := by
 have q : ∀ g : Int, Gp fun ws => match yR ws with
   | .error e => .error e
   | .ok (x, r2) => match xQ 30 [x] r2 with
    | .error e => .error e
    | .ok (c, r3) => .ok ((⟨g, c⟩ : zw), r3) := by
  intro g
  refine kZ (fun ws => ?_) (yr xS fun x => yr (gp_namesL 30 [x]) fun c => xC ⟨g, c⟩)
  cases yR ws with
  | error e => rfl
  | ok v => obtain ⟨x, r⟩ := v; dsimp only; cases xQ 30 [x] r <;> rfl
 refine kZ (fun ws => ?_) (wG (kS [108, 101, 102, 116]) (xW (q 1)) (wG (kS [114, 105, 103, 104, 116]) (xW (q 2)) (wG (kS [110, 111, 110]) (xW (q 3)) (q 0))))
 unfold vg kY
 cases xt ws [108, 101, 102, 116] <;> cases xt ws [114, 105, 103, 104, 116] <;> cases xt ws [110, 111, 110] <;> rfl
set_option smartUnfolding false in
theorem gp_prioL : ∀ (j : Nat) (out : List zw), Gp (jI j out)
 | 0, _ => wv (fun _ => 0) 1
 | j + 1, out => wG (kS [62]) (wk (c := out.length = 16) (wv (fun ws => j8 ws.tail) 2) (xW (yr gp_group fun g => gp_prioL j (out ++ [g])))) (xC out)
set_option smartUnfolding false in
theorem gp_prio : Gp kV := yr gp_group fun g => yr (gp_prioL 30 [g]) fun c => jo c
theorem gp_within {g : Nat -> List zg -> Pi} (hg : ∀ n, Gp (g n)) (n : Nat) : Gp (yO g n) := by
 refine kZ (fun ws => ?_) (kJ [40] (yr (hg n) fun x => kJ [41] (xC x)))
 unfold yO
 cases zJ ws [40] with
 | error e => rfl
 | ok r =>
  dsimp only
  cases g n r with
  | error e => rfl
  | ok v => obtain ⟨⟨x, m⟩, r2⟩ := v; dsimp only; cases zJ r2 [41] <;> rfl
theorem gp_item {g : Nat -> List zg -> Pi} (hg : ∀ n, Gp (g n)) (n : Nat) : Gp (vG g n) := by
 have gi : ∀ f : List Item -> Item, Gp fun ws => match yO g n ws with
   | .error e => .error e
   | .ok (i, r3) => .ok ((f i.1, i.2), r3) := by
  intro f
  refine kZ (fun ws => ?_) (yr (gp_within hg n) fun x => xC (f x.1, x.2))
  cases yO g n ws <;> rfl
 refine kZ (fun ws => ?_) (wG (ts_kd 4) (kj (q := fun b r => .ok (((⟨1, vj b, 0, []⟩ : Item), n), r)) 4 (fun w => w.Bytes) (fun _ _ h => (kC h).2.2.1) (fun s => xC _))
  (wG (ts_kd 3) (kj (q := fun b r => .ok (((⟨2, [], b, []⟩ : Item), n), r)) 3 (fun w => w.N_) (fun _ _ h => (kC h).2.2.2.2) (fun s => xC _))
  (wG (kS [95]) (xW (xC ((⟨3, [], 0, []⟩ : Item), n)))
  (wG (kS [47]) (xW (xC ((⟨4, [], 0, []⟩ : Item), n)))
  (wG (kS [110, 101, 115, 116]) (xW (kj (q := fun b r => match yO g n r with
    | .error e => .error e
    | .ok (i, r3) => .ok (((⟨5, [], b, i.1⟩ : Item), i.2), r3)) 3 (fun w => w.N_) (fun _ _ h => (kC h).2.2.2.2) (fun b => gi (fun i => ⟨5, [], b, i⟩))))
  (wG (c := fun ws => decide (ws ≠ [])) ⟨?_, ?_⟩ (xW (gi (fun i => ⟨6, [], 0, i⟩))) (wv (fun _ => 0) 1)))))))
 ·cases ws with
  | nil => rfl
  | cons w r =>
   simp only [vG, hkd]
   by_cases h4 : w.Kind = 4
   ·simp only [h4, if_true, beq_self_eq_true]
    cases yN (w :: r) 4 <;> rfl
   by_cases h3 : w.Kind = 3
   ·simp [h3, yN]
   simp only [h4, h3, if_false, beq_iff_eq]
   cases xt (w :: r) [95] with
   | true => rfl
   | false =>
   cases xt (w :: r) [47] with
   | true => rfl
   | false =>
   cases xt (w :: r) [110, 101, 115, 116] with
   | true =>
    simp only [Bool.false_eq_true, if_false, if_true, List.tail_cons]
    cases yN r 3 with
    | error e => rfl
    | ok v => obtain ⟨x, r2⟩ := v; dsimp only; cases yO g n r2 <;> rfl
   | false =>
    simp only [Bool.false_eq_true, if_false, List.tail_cons, decide_true, if_true, ne_eq, reduceCtorEq, not_false_eq_true]
    cases yO g n r <;> rfl
 ·intro ws ws' h
  cases ws with
  | nil => rw [eq_nil h]
  | cons w r => obtain ⟨w', r', rfl, _⟩ := eq_cons h; simp
 ·intro ws z h
  cases ws with
  | nil => simp at h
  | cons w r => simp only [List.length_cons] at h; rw [dl (by omega)]; simp
theorem ts_ib : Ts kh := ts_mk (fun w => kh [w]) (fun w w' h => by
 obtain ⟨h1, h2, _⟩ := kC h
 simp only [kh, xt, h1, h2]) false rfl (fun _ _ => rfl)
theorem gp_list : ∀ (f n : Nat), Gp (xi f n)
 | 0, _ => wv (fun _ => 0) 1
 | f + 1, n => by
  refine kZ (fun ws => ?_) (wG ts_ib (wk (c := n = 64) (wv j8 2) (yr (gp_item (gp_list f) (n + 1)) fun x => yr (gp_list f x.2) fun y => xC (x.1 :: y.1, y.2))) (xC ([], n)))
  simp only [xi]
  cases kh ws with
  | false => rfl
  | true =>
   simp only [if_true]
   by_cases h : n = 64
   ·rw [if_pos h, if_pos h]
   ·rw [if_neg h, if_neg h]
    cases vG (xi f) (n + 1) ws with
    | error e => rfl
    | ok v => obtain ⟨⟨x, m⟩, r⟩ := v; dsimp only; cases xi f m r <;> rfl
set_option smartUnfolding false in
theorem gp_once : Gp kd := yr xS fun a => jo a
set_option smartUnfolding false in
theorem gp_follow : Gp vt := yr xS fun a => kj (q := fun s r => match zJ r [59] with
  | .error e => .error e
  | .ok r3 => .ok ((⟨a, s⟩ : Follow), r3)) 5 (fun w => w.Set) (fun _ _ h => (kC h).2.2.2.1) fun s => jo (Follow.mk a s)
set_option smartUnfolding false in
theorem gp_reject : Gp vW := yr xS fun a => yr xS fun b => jo (zz.mk a b)
theorem gp_box : Gp qo := by
 refine kZ (fun ws => ?_) (yr xS fun a => kJ [61] (yr (gp_list 65 0) fun x => jo ((⟨a, x.1⟩ : xm), x.2)))
 unfold qo
 cases yR ws with
 | error e => rfl
 | ok v =>
  obtain ⟨a, r⟩ := v
  dsimp only
  cases zJ r [61] with
  | error e => rfl
  | ok r2 => dsimp only; cases xi 65 0 r2 <;> rfl
set_option smartUnfolding false in
theorem gp_stmt (w : zg) (d : zY) (s y : Bool) : Gp (xX w d s y) := by
 unfold xX
 exact wk (wk (wv (fun _ => w.At) 31) (yr gp_once fun x => xC (dS d x, true, y))) <| wk (wk (wv (fun _ => w.At) 31) (yr gp_once fun x => xC (dL d x, s, true))) <|
  wk (yr (gp_lex w d.Prods) fun x => xC (dP d x, s, y)) <| wk (yr (gp_cf w d.Prods) fun x => xC (dP d x, s, y)) <| wk (yr gp_prio fun x => xC (dC d (d.Chains ++ [x]), s, y)) <|
  wk (yr gp_follow fun x => xC (wb d (d.Follows ++ [x]), s, y)) <| wk (yr gp_reject fun x => xC (dR d (d.Rejects ++ [x]), s, y)) <| wk (yr gp_box fun x => xC (dB d (d.Boxes ++ [x.1]), s, y)) (wv (fun _ => w.At) 30)
structure Gl {α : Type} (p : List zg -> Ps α) : Prop where
 lt : ∀ ws x r, p ws = .ok (x, r) -> r.length < ws.length
 loc : ∀ ws z x r, p ws = .ok (x, r) -> 1 <= r.length -> p (ws.dropLast ++ z) = .ok (x, r.dropLast ++ z)
section
variable {α β : Type}
theorem gl_eq {p q : List zg -> Ps α} (h : ∀ ws, p ws = q ws) (hq : Gl q) : Gl p := by rw [show p = q from funext h]; exact hq
theorem jp (f : α) : Gl fun ws => match zJ ws [59] with
  | .error e => .error e
  | .ok r => .ok (f, r) := by
 have key : ∀ ws x r, (match zJ ws [59] with
  | .error e => .error e
  | .ok r => .ok (f, r) : Ps α) = .ok (x, r) -> ∃ w, ws = w :: r /\ x = f /\ xt (w :: r) [59] = true := by
  intro ws x r h
  cases ws with
  | nil => simp [zJ, xt] at h
  | cons w r1 =>
   unfold zJ at h
   cases hi : xt (w :: r1) [59] with
   | false => rw [hi] at h; cases h
   | true => rw [hi] at h; cases h; exact ⟨w, rfl, rfl, hi⟩
 constructor
 ·intro ws x r h
  obtain ⟨w, rfl, _⟩ := key ws x r h
  simp
 ·intro ws z x r h h1
  obtain ⟨w, rfl, rfl, hi⟩ := key ws x r h
  rw [dl h1]
  have : xt (w :: (r.dropLast ++ z)) [59] = true := hi
  unfold zJ
  rw [this]
  rfl
theorem wO {p : List zg -> Ps α} {q : α -> List zg -> Ps β} (hp : Gp p) (hq : ∀ x, Gl (q x)) : Gl fun ws => match p ws with
  | .error e => .error e
  | .ok (x, r) => q x r := by
 constructor
 ·intro ws x r h
  cases h1 : p ws with
  | error e => rw [h1] at h; cases h
  | ok v =>
   obtain ⟨y, r1⟩ := v
   rw [h1] at h
   have := hp.len _ _ _ h1
   have := (hq y).lt _ _ _ h
   omega
 ·intro ws z x r h h2
  cases h1 : p ws with
  | error e => rw [h1] at h; cases h
  | ok v =>
   obtain ⟨y, r1⟩ := v
   rw [h1] at h
   have l2 := (hq y).lt _ _ _ h
   rw [hp.loc _ z _ _ h1 (by omega)]
   exact (hq y).loc _ _ _ _ h h2
theorem qH {p : List zg -> Ps α} (f : α -> β) (hp : Gl p) : Gl fun ws => match p ws with
  | .error e => .error e
  | .ok (x, r) => .ok (f x, r) := by
 constructor
 ·intro ws x r h
  cases h1 : p ws with
  | error e => rw [h1] at h; cases h
  | ok v => rw [h1] at h; cases h; exact hp.lt _ _ _ h1
 ·intro ws z x r h h2
  cases h1 : p ws with
  | error e => rw [h1] at h; cases h
  | ok v => rw [h1] at h; cases h; rw [hp.loc _ z _ _ h1 h2]
theorem vR {c : Prop} [Decidable c] {p q : List zg -> Ps α} (hp : Gl p) (hq : Gl q) : Gl fun ws => if c then p ws else q ws := by
 by_cases h : c
 ·exact gl_eq (fun ws => if_pos h) hp
 ·exact gl_eq (fun ws => if_neg h) hq
theorem gl_err (f : List zg -> Int) (c : Int) : Gl (α := α) fun ws => .error ⟨f ws, c⟩ := ⟨fun _ _ _ h => (by cases h), fun _ _ _ _ h => (by cases h)⟩
theorem gl_want (t : List UInt8) {q : List zg -> Ps β} (hq : Gl q) : Gl fun ws => match zJ ws t with
  | .error e => .error e
  | .ok r => q r := by
 have key : ∀ ws r, zJ ws t = .ok r -> ∃ w, ws = w :: r /\ ∀ r', zJ (w :: r') t = .ok r' := by
  intro ws r h
  cases ws with
  | nil => simp [zJ, xt] at h
  | cons w r1 =>
   unfold zJ at h
   cases hi : xt (w :: r1) t with
   | false => rw [hi] at h; cases h
   | true =>
    rw [hi] at h; cases h
    refine ⟨w, rfl, fun r' => ?_⟩
    have : xt (w :: r') t = true := hi
    unfold zJ
    rw [this]; rfl
 constructor
 ·intro ws x r h
  cases h1 : zJ ws t with
  | error e => rw [h1] at h; cases h
  | ok r1 =>
   rw [h1] at h
   obtain ⟨w, rfl, _⟩ := key _ _ h1
   have := hq.lt _ _ _ h
   simp only [List.length_cons]; omega
 ·intro ws z x r h h2
  cases h1 : zJ ws t with
  | error e => rw [h1] at h; cases h
  | ok r1 =>
   rw [h1] at h
   obtain ⟨w, rfl, hw⟩ := key _ _ h1
   have := hq.lt _ _ _ h
   rw [dl (by omega), hw]
   exact hq.loc _ _ _ _ h h2
end
theorem gp_kset : Gp fun ws => match yN ws 5 with
  | .error e => .error e
  | .ok (w, r) => .ok (w.Set, r) := kj (q := fun s r => .ok (s, r)) 5 (fun w => w.Set) (fun _ _ h => (kC h).2.2.2.1) fun s => xC s
set_option smartUnfolding false in
theorem gl_lex (w : zg) (ps : List Prod) : Gl (ql w ps) := vR (c := ps.length = 200) (gl_err (fun _ => w.At) 2) (wO gp_head fun x => wO (gp_lexL 300 x.1 x.2 ps) fun p => jp p)
set_option smartUnfolding false in
theorem gl_cf (w : zg) (ps : List Prod) : Gl (cfW w ps) := vR (c := ps.length = 200) (gl_err (fun _ => w.At) 2) (wO gp_head fun x => wO gp_syms fun l => vR (c := x.2 = []) (gl_want [98, 114, 97, 99, 107, 101, 116] (jp (ps ++ [⟨false, x.1, x.2, true, l⟩]))) (jp (ps ++ [⟨false, x.1, x.2, false, l⟩])))
set_option smartUnfolding false in
theorem gl_prio : Gl kV := wO gp_group fun g => wO (gp_prioL 30 [g]) fun c => jp c
set_option smartUnfolding false in
theorem gl_once : Gl kd := wO xS fun a => jp a
theorem gl_follow : Gl vt := by
 refine gl_eq (fun ws => ?_) (wO xS fun a => wO gp_kset fun s => jp (Follow.mk a s))
 unfold vt
 cases yR ws with
 | error e => rfl
 | ok v => obtain ⟨a, r⟩ := v; dsimp only; cases yN r 5 <;> rfl
set_option smartUnfolding false in
theorem gl_reject : Gl vW := wO xS fun a => wO xS fun b => jp (zz.mk a b)
theorem gl_box : Gl qo := by
 refine gl_eq (fun ws => ?_) (wO xS fun a => gl_want [61] (wO (gp_list 65 0) fun x => jp ((⟨a, x.1⟩ : xm), x.2)))
 unfold qo
 cases yR ws with
 | error e => rfl
 | ok v =>
  obtain ⟨a, r⟩ := v
  dsimp only
  cases zJ r [61] with
  | error e => rfl
  | ok r2 => dsimp only; cases xi 65 0 r2 <;> rfl
set_option smartUnfolding false in
theorem gl_stmt (w : zg) (d : zY) (s y : Bool) : Gl (xX w d s y) := by
 unfold xX
 exact vR (vR (gl_err (fun _ => w.At) 31) (qH (fun x => (dS d x, true, y)) gl_once)) <| vR (vR (gl_err (fun _ => w.At) 31) (qH (fun x => (dL d x, s, true)) gl_once)) <|
  vR (qH (fun x => (dP d x, s, y)) (gl_lex w d.Prods)) <| vR (qH (fun x => (dP d x, s, y)) (gl_cf w d.Prods)) <| vR (qH (fun x => (dC d (d.Chains ++ [x]), s, y)) gl_prio) <|
  vR (qH (fun x => (wb d (d.Follows ++ [x]), s, y)) gl_follow) <| vR (qH (fun x => (dR d (d.Rejects ++ [x]), s, y)) gl_reject) <| vR (qH (fun x => (dB d (d.Boxes ++ [x.1]), s, y)) gl_box) (gl_err (fun _ => w.At) 30)
theorem allW_fuel : ∀ (j j' : Nat) (d : zY) (s y : Bool) (ws : List zg), ws.length <= j -> ws.length <= j' -> kw j d s y ws = kw j' d s y ws := by
 intro j
 induction j with
 | zero =>
  intro j' d s y ws h h'
  have : ws = [] := List.length_eq_zero_iff.1 (by omega)
  subst this
  cases j' <;> rfl
 | succ j ih =>
  intro j' d s y ws h h'
  cases ws with
  | nil => cases j' <;> rfl
  | cons w r =>
   simp only [List.length_cons] at h h'
   obtain ⟨j', rfl⟩ : ∃ p, j' = p + 1 := ⟨j' - 1, by omega⟩
   simp only [kw]
   cases hs : xX w d s y r with
   | error e => rfl
   | ok v =>
    obtain ⟨x, r'⟩ := v
    have := (gl_stmt w d s y).lt _ _ _ hs
    dsimp only
    rw [ih j' x.1 x.2.1 x.2.2 r' (by omega) (by omega)]
def Re {α : Type} : Except Fault α -> Except Fault α -> Prop
 | .ok a, .ok b => a = b
 | .error e, .error e' => e.Code = e'.Code
 | _, _ => False
theorem kE {α : Type} (x : Except Fault α) : Re x x := by cases x <;> rfl
theorem re_map {α β : Type} (f : α -> β) (x x' : Ps α) : Re x x' -> Re (match x with
  | .error e => .error e
  | .ok (a, r) => .ok (f a, r) : Ps β) (match x' with
  | .error e => .error e
  | .ok (a, r) => .ok (f a, r)) := by
 intro h
 cases x <;> cases x'
 ·exact h
 ·exact h.elim
 ·exact h.elim
 ·cases h; exact kE _
theorem lex_re (w w' : zg) (ps : List Prod) (ws : List zg) : Re (ql w ps ws) (ql w' ps ws) := by
 unfold ql
 by_cases h : ps.length = 200
 ·rw [if_pos h, if_pos h]; exact rfl
 ·rw [if_neg h, if_neg h]; exact kE _
theorem cf_re (w w' : zg) (ps : List Prod) (ws : List zg) : Re (cfW w ps ws) (cfW w' ps ws) := by
 unfold cfW
 by_cases h : ps.length = 200
 ·rw [if_pos h, if_pos h]; exact rfl
 ·rw [if_neg h, if_neg h]; exact kE _
theorem kn {α : Type} {c : Prop} [Decidable c] {x x' y y' : Except Fault α} (h : Re x x') (h' : Re y y') : Re (if c then x else y) (if c then x' else y') := by
 split
 ·exact h
 ·exact h'
set_option smartUnfolding false in
theorem stmt_re {w w' : zg} (h : er w = er w') (d : zY) (s y : Bool) (ws : List zg) : Re (xX w d s y ws) (xX w' d s y ws) := by
 unfold xX
 rw [(kC h).2.1]
 exact kn (kn rfl (kE _)) <| kn (kn rfl (kE _)) <| kn (re_map (fun x => (dP d x, s, y)) _ _ (lex_re w w' d.Prods ws)) <| kn (re_map (fun x => (dP d x, s, y)) _ _ (cf_re w w' d.Prods ws)) <|
  kn (kE _) <| kn (kE _) <| kn (kE _) <| kn (kE _) rfl
theorem allW_er : ∀ (j : Nat) (d : zY) (s y : Bool) (ws ws' : List zg), Eq' ws ws' -> Re (kw j d s y ws) (kw j d s y ws') := by
 intro j
 induction j with
 | zero => intros; exact rfl
 | succ j ih =>
  intro d s y ws ws' h
  cases ws with
  | nil => rw [eq_nil h]; exact rfl
  | cons w r =>
   obtain ⟨w', r', rfl, h1, h2⟩ := eq_cons h
   simp only [kw, <- (kC h1).1]
   refine kn rfl (kn ?_ rfl)
   have a := (gp_stmt w d s y).er r r' h2
   have b := stmt_re h1 d s y r'
   cases e1 : xX w d s y r with
   | error e => cases e2 : xX w d s y r' with
    | ok v => rw [e1, e2] at a; exact a.elim
    | error e' => cases e3 : xX w' d s y r' with
     | ok v => rw [e2, e3] at b; exact b.elim
     | error e'' => rw [e1, e2] at a; rw [e2, e3] at b; exact (show e.Code = e''.Code from Eq.trans (show e.Code = e'.Code from a) b)
   | ok v => cases e2 : xX w d s y r' with
    | error e' => rw [e1, e2] at a; exact a.elim
    | ok v' => cases e3 : xX w' d s y r' with
     | error e'' => rw [e2, e3] at b; exact b.elim
     | ok v'' =>
      rw [e1, e2] at a
      rw [e2, e3] at b
      obtain ⟨x, r1⟩ := v
      obtain ⟨x', r1'⟩ := v'
      cases b
      obtain ⟨rfl, a⟩ := a
      exact ih x.1 x.2.1 x.2.2 r1 r1' a
end Go.Vc
