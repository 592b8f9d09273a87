import Derived.Test.YtdbnoblklhgdoaaGreatDoorRA
set_option linter.unusedSectionVars false
set_option linter.unusedVariables false
namespace Go.Vc
open Go
def er (w : zh) : zh := ⟨w.Kind, w.Text, w.Bytes, w.Set, w.N_, 0, 0, 0⟩
def Eq' (ws ws' : List zh) : Prop := ws.map er = ws'.map er
def Rl {α : Type} : Ps α -> Ps α -> Prop
 | .ok (a, r), .ok (b, r') => a = b /\ Eq' r r'
 | .error e, .error e' => e.Code = e'.Code
 | _, _ => False
structure Gp {α : Type} (p : List zh -> Ps α) : Prop where
 er : ∀ ws ws', Eq' ws ws' -> Rl (p ws) (p ws')
 len : ∀ ws x r, p ws = .ok (x, r) -> r.length <= ws.length
 loc : ∀ ws z x r, p ws = .ok (x, r) -> 2 <= r.length -> p (ws.dropLast ++ z) = .ok (x, r.dropLast ++ z)
 nz : ∀ ws e, p ws = .error e -> e.Code ≠ 0
structure Ts (c : List zh -> Bool) : Prop where
 er : ∀ ws ws', Eq' ws ws' -> c ws = c ws'
 loc : ∀ ws z, 2 <= ws.length -> c (ws.dropLast ++ z) = c ws
theorem ke {w w' : zh} (h : er w = er w') : w.Kind = w'.Kind /\ w.Text = w'.Text /\ w.Bytes = w'.Bytes /\ w.Set = w'.Set /\ w.N_ = w'.N_ := by
 simp only [er, zh.mk.injEq] at h
 exact ⟨h.1, h.2.1, h.2.2.1, h.2.2.2.1, h.2.2.2.2.1⟩
theorem eq_nil {ws : List zh} (h : Eq' [] ws) : ws = [] := by cases ws with
 | nil => rfl
 | cons _ _ => simp [Eq'] at h
theorem eq_cons {w : zh} {r ws : List zh} (h : Eq' (w :: r) ws) : ∃ w' r', ws = w' :: r' /\ er w = er w' /\ Eq' r r' := by cases ws with
 | nil => simp [Eq'] at h
 | cons w' r' => simp only [Eq', List.map_cons, List.cons.injEq] at h; exact ⟨w', r', rfl, h.1, h.2⟩
theorem dl {w : zh} {r z : List zh} (h : 1 <= r.length) : (w :: r).dropLast ++ z = w :: (r.dropLast ++ z) := by cases r with
 | nil => simp at h
 | cons _ _ => simp
theorem ts_mk {c : List zh -> Bool} (f : zh -> Bool) (hf : ∀ w w', er w = er w' -> f w = f w') (b : Bool) (h0 : c [] = b) (hc : ∀ w r, c (w :: r) = f w) : Ts c := by
 constructor
 ·intro ws ws' h
  cases ws with
  | nil => rw [eq_nil h]
  | cons w r =>
   obtain ⟨w', r', rfl, h1, _⟩ := eq_cons h
   rw [hc, hc, hf _ _ h1]
 ·intro ws z h
  cases ws with
  | nil => simp at h
  | cons w r =>
   simp only [List.length_cons] at h
   rw [dl (by omega), hc, hc]
theorem kx (t : List UInt8) : Ts (xU · t) := ts_mk (fun w => (w.Kind == 6 || w.Kind == 2) && w.Text == t) (fun w w' h => by
 obtain ⟨h1, h2, _⟩ := ke h
 simp only [h1, h2]) false rfl (fun _ _ => rfl)
def hkd (ws : List zh) (k : Int) : Bool := match ws with
 | w :: _ => w.Kind == k
 | [] => false
theorem ts_kd (k : Int) : Ts (hkd · k) := ts_mk (fun w => w.Kind == k) (fun w w' h => by rw [(ke h).1]) false rfl (fun _ _ => rfl)
section
variable {α β : Type}
theorem kG {p q : List zh -> Ps α} (h : ∀ ws, p ws = q ws) (hq : Gp q) : Gp p := by rw [show p = q from funext h]; exact hq
theorem xy (a : α) : Gp fun ws => .ok (a, ws) := ⟨fun _ _ h => ⟨rfl, h⟩, fun _ _ _ h => (by cases h; exact Nat.le_refl _), fun _ _ _ _ h _ => (by cases h; rfl), fun _ _ h => (by cases h)⟩
theorem wh (f : List zh -> Int) (c : Int) (hc : c ≠ 0 := by decide) : Gp (α := α) fun ws => .error ⟨f ws, c⟩ := ⟨fun _ _ _ => rfl, fun _ _ _ h => (by cases h), fun _ _ _ _ h => (by cases h), fun _ _ h => (by cases h; exact hc)⟩
theorem wq {c : List zh -> Bool} {p q : List zh -> Ps α} (hc : Ts c) (hp : Gp p) (hq : Gp q) : Gp fun ws => if c ws then p ws else q ws := by
 constructor
 ·intro ws ws' h
  show Rl (if c ws then p ws else q ws) (if c ws' then p ws' else q ws')
  rw [hc.er ws ws' h]
  split
  ·exact hp.er _ _ h
  ·exact hq.er _ _ h
 ·intro ws x r h
  split at h
  ·exact hp.len _ _ _ h
  ·exact hq.len _ _ _ h
 ·intro ws z x r h h2
  have hl : 2 <= ws.length := by
   split at h
   ·have := hp.len _ _ _ h; omega
   ·have := hq.len _ _ _ h; omega
  rw [hc.loc ws z hl]
  split at h
  ·rename_i hh; rw [if_pos hh]; exact hp.loc _ _ _ _ h h2
  ·rename_i hh; rw [if_neg hh]; exact hq.loc _ _ _ _ h h2
 ·intro ws e h
  split at h
  ·exact hp.nz _ _ h
  ·exact hq.nz _ _ h
theorem eq_tail {ws ws' : List zh} (h : Eq' ws ws') : Eq' ws.tail ws'.tail := by
 unfold Eq' at *
 rw [List.map_tail, List.map_tail, h]
theorem tail_dl {ws z : List zh} (h : 2 <= ws.length) : (ws.dropLast ++ z).tail = ws.tail.dropLast ++ z := by
 cases ws with
 | nil => simp at h
 | cons w r => simp only [List.length_cons] at h; rw [dl (by omega)]; rfl
theorem xQ {p : List zh -> Ps α} (hp : Gp p) : Gp fun ws => p ws.tail := by
 constructor
 ·intro ws ws' h
  exact hp.er _ _ (eq_tail h)
 ·intro ws x r h
  have := hp.len _ _ _ h
  rw [List.length_tail] at this
  omega
 ·intro ws z x r h h2
  have := hp.len _ _ _ h
  rw [List.length_tail] at this
  rw [tail_dl (by omega)]
  exact hp.loc _ _ _ _ h h2
 ·intro ws e h
  exact hp.nz _ _ h
theorem yr {p : List zh -> Ps α} {q : α -> List zh -> Ps β} (hp : Gp p) (hq : ∀ x, Gp (q x)) : Gp fun ws => match p ws with
  | .error e => .error e
  | .ok (x, r) => q x r := by
 constructor
 ·intro ws ws' h
  have := hp.er _ _ h
  cases h1 : p ws with
  | error e => cases h2 : p ws' with
   | error e' => rw [h1, h2] at this; exact this
   | ok v => rw [h1, h2] at this; exact this.elim
  | ok v => cases h2 : p ws' with
   | error e' => rw [h1, h2] at this; exact this.elim
   | ok v' =>
    rw [h1, h2] at this
    obtain ⟨x, r⟩ := v
    obtain ⟨x', r'⟩ := v'
    obtain ⟨rfl, h3⟩ := this
    exact (hq x).er _ _ h3
 ·intro ws x r h
  cases h1 : p ws with
  | error e => rw [h1] at h; cases h
  | ok v =>
   obtain ⟨y, r1⟩ := v
   rw [h1] at h
   have := hp.len _ _ _ h1
   have := (hq y).len _ _ _ h
   omega
 ·intro ws z x r h h2
  cases h1 : p ws with
  | error e => rw [h1] at h; cases h
  | ok v =>
   obtain ⟨y, r1⟩ := v
   rw [h1] at h
   have l2 := (hq y).len _ _ _ h
   rw [hp.loc _ z _ _ h1 (by omega)]
   exact (hq y).loc _ _ _ _ h h2
 ·intro ws e h
  cases h1 : p ws with
  | error e' => rw [h1] at h; cases h; exact hp.nz _ _ h1
  | ok v => rw [h1] at h; exact (hq v.1).nz _ _ h
theorem kj (t : List UInt8) {q : List zh -> Ps β} (hq : Gp q) : Gp fun ws => match zM ws t with
  | .error e => .error e
  | .ok r => q r := by
 refine kG (fun ws => ?_) (wq (kx t) (xQ hq) (wh gQ 30))
 unfold zM
 cases xU ws t <;> rfl
theorem gp_kind (k : Int) {q : zh -> List zh -> Ps β} (hq : ∀ w, Gp (q w)) (hw : ∀ w w', er w = er w' -> ∀ ws ws', Eq' ws ws' -> Rl (q w ws) (q w' ws')) : Gp fun ws => match xk ws k with
  | .error e => .error e
  | .ok (w, r) => q w r := by
 constructor
 ·intro ws ws' h
  cases ws with
  | nil => rw [eq_nil h]; exact rfl
  | cons w r =>
   obtain ⟨w', r', rfl, h1, h2⟩ := eq_cons h
   obtain ⟨e1, _, e3, _⟩ := ke h1
   simp only [xk, <- e1, <- e3]
   by_cases hk : w.Kind = k
   ·rw [if_pos hk, if_pos hk]
    by_cases hb : k = 4 /\ 32 < w.Bytes.length
    ·rw [if_pos hb, if_pos hb]; exact rfl
    ·rw [if_neg hb, if_neg hb]; exact hw w w' h1 r r' h2
   ·rw [if_neg hk, if_neg hk]; exact rfl
 ·intro ws x r h
  cases ws with
  | nil => cases h
  | cons w r1 =>
   simp only [xk] at h
   by_cases hk : w.Kind = k
   ·rw [if_pos hk] at h
    by_cases hb : k = 4 /\ 32 < w.Bytes.length
    ·rw [if_pos hb] at h; cases h
    ·rw [if_neg hb] at h
     have := (hq w).len _ _ _ h
     simp only [List.length_cons]; omega
   ·rw [if_neg hk] at h; cases h
 ·intro ws z x r h h2
  cases ws with
  | nil => cases h
  | cons w r1 =>
   simp only [xk] at h
   by_cases hk : w.Kind = k
   ·rw [if_pos hk] at h
    by_cases hb : k = 4 /\ 32 < w.Bytes.length
    ·rw [if_pos hb] at h; cases h
    ·rw [if_neg hb] at h
     have hl := (hq w).len _ _ _ h
     rw [dl (by omega)]
     simp only [xk]
     rw [if_pos hk, if_neg hb]
     exact (hq w).loc _ _ _ _ h h2
   ·rw [if_neg hk] at h; cases h
 ·intro ws e h
  cases ws with
  | nil => cases h; decide
  | cons w r1 =>
   simp only [xk] at h
   by_cases hk : w.Kind = k
   ·rw [if_pos hk] at h
    by_cases hb : k = 4 /\ 32 < w.Bytes.length
    ·rw [if_pos hb] at h; cases h; simp
    ·rw [if_neg hb] at h
     exact (hq w).nz _ _ h
   ·rw [if_neg hk] at h; cases h; simp
theorem vI {γ : Type} (k : Int) (f : zh -> γ) (hf : ∀ w w', er w = er w' -> f w = f w') {q : γ -> List zh -> Ps β} (hq : ∀ w, Gp (q w)) : Gp fun ws => match xk ws k with
  | .error e => .error e
  | .ok (w, r) => q (f w) r := gp_kind k (q := fun w => q (f w)) (fun w => hq (f w)) (fun w w' h ws ws' h' => by rw [hf w w' h]; exact (hq _).er _ _ h')
end
theorem xR : Gp xf := kG (fun ws => by unfold xf; cases xk ws 1 <;> rfl) <| vI (q := fun x r => .ok (x, r)) 1 (fun w => w.Text) (fun _ _ h => (ke h).2.1) (fun x => xy x)
section
variable {α β : Type}
theorem x9 {c : Prop} [Decidable c] {p q : List zh -> Ps α} (hp : Gp p) (hq : Gp q) : Gp fun ws => if c then p ws else q ws := by
 by_cases h : c
 ·exact kG (fun ws => if_pos h) hp
 ·exact kG (fun ws => if_neg h) hq
end
theorem gp_end (k : Int) (set : S4) (nm : List UInt8) : Gp fun ws => .ok (qk k set nm ws) := by
 refine kG (fun ws => ?_) (wq (kx [63]) (xQ (xy ⟨4, [], set, nm, []⟩)) (wq (kx [42]) (xQ (xy ⟨5, [], set, nm, []⟩)) (wq (kx [43]) (xQ (xy ⟨6, [], set, nm, []⟩)) (xy ⟨k, [], set, nm, []⟩))))
 unfold qk
 cases xU ws [63] <;> cases xU ws [42] <;> cases xU ws [43] <;> rfl
theorem gp_part : Gp uK := by
 refine kG (fun ws => ?_) (wq (ts_kd 5) (vI 5 (fun w => w.Set) (fun _ _ h => (ke h).2.2.2.1) (fun s => gp_end 2 s [])) (yr xR (fun nm => gp_end 3 wG nm)))
 cases ws with
 | nil => rfl
 | cons w r =>
  by_cases h : w.Kind = 5
  ·simp [uK, hkd, xk, h]
  ·have e : (w.Kind == 5) = false := by simp [h]
   simp only [uK, hkd, e, if_neg h, Bool.false_eq_true, if_false]
   cases xf (w :: r) <;> rfl
set_option smartUnfolding false in
theorem gp_brace2 (nm : List UInt8) (b : List Int) : Gp fun ws => match zM ws [125] with
  | .error e => .error e
  | .ok r3 => if xU r3 [42] then .ok ((⟨5, [], wG, nm, vx b⟩ : xj), r3.tail) else match zM r3 [43] with
   | .error e => .error e
   | .ok r4 => .ok (⟨6, [], wG, nm, vx b⟩, r4) :=
 kj [125] (wq (kx [42]) (xQ (xy _)) (kj [43] (xy _)))
set_option smartUnfolding false in
theorem gp_brace : Gp uz := by
 refine yr (q := fun nm r => match xk r 4 with
  | .error e => .error e
  | .ok (w, r2) => if w.Bytes.length = 0 then .error ⟨w.At, 30⟩ else match zM r2 [125] with
   | .error e => .error e
   | .ok r3 => if xU r3 [42] then .ok ((⟨5, [], wG, nm, vx w.Bytes⟩ : xj), r3.tail) else match zM r3 [43] with
    | .error e => .error e
    | .ok r4 => .ok (⟨6, [], wG, nm, vx w.Bytes⟩, r4)) xR fun nm => ?_
 refine gp_kind 4 (q := fun w r2 => if w.Bytes.length = 0 then .error ⟨w.At, 30⟩ else match zM r2 [125] with
   | .error e => .error e
   | .ok r3 => if xU r3 [42] then .ok ((⟨5, [], wG, nm, vx w.Bytes⟩ : xj), r3.tail) else match zM r3 [43] with
    | .error e => .error e
    | .ok r4 => .ok (⟨6, [], wG, nm, vx w.Bytes⟩, r4)) (fun w => x9 (wh (fun _ => w.At) 30) (gp_brace2 nm w.Bytes)) ?_
 intro w w' h ws ws' h'
 have e := (ke h).2.2.1
 simp only [<- e]
 by_cases hb : w.Bytes.length = 0
 ·rw [if_pos hb, if_pos hb]; exact rfl
 ·rw [if_neg hb, if_neg hb]; exact (gp_brace2 nm w.Bytes).er _ _ h'
theorem gp_sym : Gp vy := by
 refine kG (fun ws => ?_) (wq (ts_kd 4) (vI (q := fun b r => .ok ((⟨1, vx b, wG, [], []⟩ : xj), r)) 4 (fun w => w.Bytes) (fun _ _ h => (ke h).2.2.1) (fun s => xy _)) (wq (kx [123]) (xQ gp_brace) gp_part))
 cases ws with
 | nil => rfl
 | cons w r =>
  by_cases h : w.Kind = 4
  ·simp only [vy, hkd, h, if_true, beq_self_eq_true]
   cases xk (w :: r) 4 <;> rfl
  ·simp [vy, hkd, h]
theorem ts_beg : Ts u4 := ts_mk (fun w => w.Kind == 4 || w.Kind == 1 || w.Kind == 5 || ((w.Kind == 6 || w.Kind == 2) && w.Text == [123])) (fun w w' h => by
 obtain ⟨h1, h2, _⟩ := ke h
 simp only [h1, h2]) false rfl (fun _ _ => rfl)
set_option smartUnfolding false in
theorem gp_symsL : ∀ (j : Nat) (out : List xj), Gp (jk j out)
 | 0, _ => wh (fun _ => 0) 1
 | j + 1, out => wq ts_beg (x9 (c := out.length = 12) (wh gQ 2) (yr gp_sym fun x => gp_symsL j (out ++ [x]))) (xy out)
set_option smartUnfolding false in
theorem gp_syms : Gp jj := yr gp_sym fun x => gp_symsL 20 [x]
set_option smartUnfolding false in
theorem gp_head : Gp headW := yr xR fun a => wq (kx [46]) (xQ (yr xR fun c => kj [61] (xy (a, c)))) (kj [61] (xy (a, [])))
set_option smartUnfolding false in
theorem gp_lexL : ∀ (j : Nat) (a c : List UInt8) (ps : List Prod), Gp (uq j a c ps)
 | 0, _, _, _ => wh (fun _ => 0) 1
 | j + 1, a, c, ps => yr gp_syms fun x => wq (kx [124]) (x9 (c := ps.length + 1 = 200) (wh gQ 2) (xQ (gp_lexL j a c (ps ++ [Prod.mk true a c false x])))) (xy (ps ++ [Prod.mk true a c false x]))
set_option smartUnfolding false in
theorem kX {α : Type} (f : α) : Gp fun ws => match zM ws [59] with
  | .error e => .error e
  | .ok r => .ok (f, r) := kj [59] (xy f)
set_option smartUnfolding false in
theorem gp_lex (w : zh) (ps : List Prod) : Gp (gM w ps) := x9 (c := ps.length = 200) (wh (fun _ => w.At) 2) (yr gp_head fun x => yr (gp_lexL 300 x.1 x.2 ps) fun p => kX p)
set_option smartUnfolding false in
theorem gp_cf (w : zh) (ps : List Prod) : Gp (cfW w ps) := x9 (c := ps.length = 200) (wh (fun _ => w.At) 2) (yr gp_head fun x => yr gp_syms fun l => x9 (c := x.2 = []) (kj [98, 114, 97, 99, 107, 101, 116] (kX (ps ++ [⟨false, x.1, x.2, true, l⟩]))) (kX (ps ++ [⟨false, x.1, x.2, false, l⟩])))
theorem gp_namesL : ∀ (j : Nat) (out : List (List UInt8)), Gp (wV j out)
 | 0, _ => wh (fun _ => 0) 1
 | j + 1, out => by
  refine kG (fun ws => ?_) (wq (ts_kd 1) (x9 (c := out.length = 16) (wh gQ 2) (yr xR fun x => gp_namesL j (out ++ [x]))) (xy out))
  cases ws with
  | nil => rfl
  | cons w r =>
   by_cases h : w.Kind = 1
   ·simp only [wV, hkd, h, if_true, beq_self_eq_true]
    by_cases h16 : out.length = 16
    ·rw [if_pos h16, if_pos h16]; rfl
    ·rw [if_neg h16, if_neg h16]; cases xf (w :: r) <;> rfl
   ·simp [wV, hkd, h]
theorem gp_group : Gp kF := by
 have q : ∀ g : Int, Gp fun ws => match xf ws with
   | .error e => .error e
   | .ok (x, r2) => match wV 30 [x] r2 with
    | .error e => .error e
    | .ok (c, r3) => .ok ((⟨g, c⟩ : zx), r3) := by
  intro g
  refine kG (fun ws => ?_) (yr xR fun x => yr (gp_namesL 30 [x]) fun c => xy ⟨g, c⟩)
  cases xf ws with
  | error e => rfl
  | ok v => obtain ⟨x, r⟩ := v; dsimp only; cases wV 30 [x] r <;> rfl
 refine kG (fun ws => ?_) (wq (kx [108, 101, 102, 116]) (xQ (q 1)) (wq (kx [114, 105, 103, 104, 116]) (xQ (q 2)) (wq (kx [110, 111, 110]) (xQ (q 3)) (q 0))))
 unfold kF jd
 cases xU ws [108, 101, 102, 116] <;> cases xU ws [114, 105, 103, 104, 116] <;> cases xU ws [110, 111, 110] <;> rfl
set_option smartUnfolding false in
theorem gp_prioL : ∀ (j : Nat) (out : List zx), Gp (qT j out)
 | 0, _ => wh (fun _ => 0) 1
 | j + 1, out => wq (kx [62]) (x9 (c := out.length = 16) (wh (fun ws => gQ ws.tail) 2) (xQ (yr gp_group fun g => gp_prioL j (out ++ [g])))) (xy out)
set_option smartUnfolding false in
theorem gp_prio : Gp j9 := yr gp_group fun g => yr (gp_prioL 30 [g]) fun c => kX c
theorem gp_within {g : Nat -> List zh -> Pi} (hg : ∀ n, Gp (g n)) (n : Nat) : Gp (xC g n) := by
 refine kG (fun ws => ?_) (kj [40] (yr (hg n) fun x => kj [41] (xy x)))
 unfold xC
 cases zM ws [40] with
 | error e => rfl
 | ok r =>
  dsimp only
  cases g n r with
  | error e => rfl
  | ok v => obtain ⟨⟨x, m⟩, r2⟩ := v; dsimp only; cases zM r2 [41] <;> rfl
theorem gp_item {g : Nat -> List zh -> Pi} (hg : ∀ n, Gp (g n)) (n : Nat) : Gp (qf g n) := by
 have gi : ∀ f : List Item -> Item, Gp fun ws => match xC g n ws with
   | .error e => .error e
   | .ok (i, r3) => .ok ((f i.1, i.2), r3) := by
  intro f
  refine kG (fun ws => ?_) (yr (gp_within hg n) fun x => xy (f x.1, x.2))
  cases xC g n ws <;> rfl
 refine kG (fun ws => ?_) (wq (ts_kd 4) (vI (q := fun b r => .ok (((⟨1, vx b, 0, []⟩ : Item), n), r)) 4 (fun w => w.Bytes) (fun _ _ h => (ke h).2.2.1) (fun s => xy _))
  (wq (ts_kd 3) (vI (q := fun b r => .ok (((⟨2, [], b, []⟩ : Item), n), r)) 3 (fun w => w.N_) (fun _ _ h => (ke h).2.2.2.2) (fun s => xy _))
  (wq (kx [95]) (xQ (xy ((⟨3, [], 0, []⟩ : Item), n)))
  (wq (kx [47]) (xQ (xy ((⟨4, [], 0, []⟩ : Item), n)))
  (wq (kx [110, 101, 115, 116]) (xQ (vI (q := fun b r => match xC g n r with
    | .error e => .error e
    | .ok (i, r3) => .ok (((⟨5, [], b, i.1⟩ : Item), i.2), r3)) 3 (fun w => w.N_) (fun _ _ h => (ke h).2.2.2.2) (fun b => gi (fun i => ⟨5, [], b, i⟩))))
  (wq (c := fun ws => decide (ws ≠ [])) ⟨?_, ?_⟩ (xQ (gi (fun i => ⟨6, [], 0, i⟩))) (wh (fun _ => 0) 1)))))))
 ·cases ws with
  | nil => rfl
  | cons w r =>
   simp only [qf, hkd]
   by_cases h4 : w.Kind = 4
   ·simp only [h4, if_true, beq_self_eq_true]
    cases xk (w :: r) 4 <;> rfl
   by_cases h3 : w.Kind = 3
   ·simp [h3, xk]
   simp only [h4, h3, if_false, beq_iff_eq]
   cases xU (w :: r) [95] with
   | true => rfl
   | false =>
   cases xU (w :: r) [47] with
   | true => rfl
   | false =>
   cases xU (w :: r) [110, 101, 115, 116] with
   | true =>
    simp only [Bool.false_eq_true, if_false, if_true, List.tail_cons]
    cases xk r 3 with
    | error e => rfl
    | ok v => obtain ⟨x, r2⟩ := v; dsimp only; cases xC g n r2 <;> rfl
   | false =>
    simp only [Bool.false_eq_true, if_false, List.tail_cons, decide_true, if_true, ne_eq, reduceCtorEq, not_false_eq_true]
    cases xC g n r <;> rfl
 ·intro ws ws' h
  cases ws with
  | nil => rw [eq_nil h]
  | cons w r => obtain ⟨w', r', rfl, _⟩ := eq_cons h; simp
 ·intro ws z h
  cases ws with
  | nil => simp at h
  | cons w r => simp only [List.length_cons] at h; rw [dl (by omega)]; simp
theorem ts_ib : Ts kE := ts_mk (fun w => kE [w]) (fun w w' h => by
 obtain ⟨h1, h2, _⟩ := ke h
 simp only [kE, xU, h1, h2]) false rfl (fun _ _ => rfl)
theorem gp_list : ∀ (f n : Nat), Gp (xN f n)
 | 0, _ => wh (fun _ => 0) 1
 | f + 1, n => by
  refine kG (fun ws => ?_) (wq ts_ib (x9 (c := n = 64) (wh gQ 2) (yr (gp_item (gp_list f) (n + 1)) fun x => yr (gp_list f x.2) fun y => xy (x.1 :: y.1, y.2))) (xy ([], n)))
  simp only [xN]
  cases kE ws with
  | false => rfl
  | true =>
   simp only [if_true]
   by_cases h : n = 64
   ·rw [if_pos h, if_pos h]
   ·rw [if_neg h, if_neg h]
    cases qf (xN f) (n + 1) ws with
    | error e => rfl
    | ok v => obtain ⟨⟨x, m⟩, r⟩ := v; dsimp only; cases xN f m r <;> rfl
set_option smartUnfolding false in
theorem gp_once : Gp kS := yr xR fun a => kX a
set_option smartUnfolding false in
theorem gp_follow : Gp kk := yr xR fun a => vI (q := fun s r => match zM r [59] with
  | .error e => .error e
  | .ok r3 => .ok ((⟨a, s⟩ : Follow), r3)) 5 (fun w => w.Set) (fun _ _ h => (ke h).2.2.2.1) fun s => kX (Follow.mk a s)
set_option smartUnfolding false in
theorem gp_reject : Gp kR := yr xR fun a => yr xR fun b => kX (zz.mk a b)
theorem gp_box : Gp uA := by
 refine kG (fun ws => ?_) (yr xR fun a => kj [61] (yr (gp_list 65 0) fun x => kX ((⟨a, x.1⟩ : xi), x.2)))
 unfold uA
 cases xf ws with
 | error e => rfl
 | ok v =>
  obtain ⟨a, r⟩ := v
  dsimp only
  cases zM r [61] with
  | error e => rfl
  | ok r2 => dsimp only; cases xN 65 0 r2 <;> rfl
set_option smartUnfolding false in
theorem gp_stmt (w : zh) (d : z7) (s y : Bool) : Gp (wY w d s y) := by
 unfold wY
 exact x9 (x9 (wh (fun _ => w.At) 31) (yr gp_once fun x => xy (dS d x, true, y))) <| x9 (x9 (wh (fun _ => w.At) 31) (yr gp_once fun x => xy (dL d x, s, true))) <|
  x9 (yr (gp_lex w d.Prods) fun x => xy (dP d x, s, y)) <| x9 (yr (gp_cf w d.Prods) fun x => xy (dP d x, s, y)) <| x9 (yr gp_prio fun x => xy (dC d (d.Chains ++ [x]), s, y)) <|
  x9 (yr gp_follow fun x => xy (jg d (d.Follows ++ [x]), s, y)) <| x9 (yr gp_reject fun x => xy (dR d (d.Rejects ++ [x]), s, y)) <| x9 (yr gp_box fun x => xy (dB d (d.Boxes ++ [x.1]), s, y)) (wh (fun _ => w.At) 30)
structure Gl {α : Type} (p : List zh -> Ps α) : Prop where
 lt : ∀ ws x r, p ws = .ok (x, r) -> r.length < ws.length
 loc : ∀ ws z x r, p ws = .ok (x, r) -> 1 <= r.length -> p (ws.dropLast ++ z) = .ok (x, r.dropLast ++ z)
section
variable {α β : Type}
theorem gl_eq {p q : List zh -> Ps α} (h : ∀ ws, p ws = q ws) (hq : Gl q) : Gl p := by rw [show p = q from funext h]; exact hq
theorem kY (f : α) : Gl fun ws => match zM ws [59] with
  | .error e => .error e
  | .ok r => .ok (f, r) := by
 have key : ∀ ws x r, (match zM ws [59] with
  | .error e => .error e
  | .ok r => .ok (f, r) : Ps α) = .ok (x, r) -> ∃ w, ws = w :: r /\ x = f /\ xU (w :: r) [59] = true := by
  intro ws x r h
  cases ws with
  | nil => simp [zM, xU] at h
  | cons w r1 =>
   unfold zM at h
   cases hi : xU (w :: r1) [59] with
   | false => rw [hi] at h; cases h
   | true => rw [hi] at h; cases h; exact ⟨w, rfl, rfl, hi⟩
 constructor
 ·intro ws x r h
  obtain ⟨w, rfl, _⟩ := key ws x r h
  simp
 ·intro ws z x r h h1
  obtain ⟨w, rfl, rfl, hi⟩ := key ws x r h
  rw [dl h1]
  have : xU (w :: (r.dropLast ++ z)) [59] = true := hi
  unfold zM
  rw [this]
  rfl
theorem wz {p : List zh -> Ps α} {q : α -> List zh -> Ps β} (hp : Gp p) (hq : ∀ x, Gl (q x)) : Gl fun ws => match p ws with
  | .error e => .error e
  | .ok (x, r) => q x r := by
 constructor
 ·intro ws x r h
  cases h1 : p ws with
  | error e => rw [h1] at h; cases h
  | ok v =>
   obtain ⟨y, r1⟩ := v
   rw [h1] at h
   have := hp.len _ _ _ h1
   have := (hq y).lt _ _ _ h
   omega
 ·intro ws z x r h h2
  cases h1 : p ws with
  | error e => rw [h1] at h; cases h
  | ok v =>
   obtain ⟨y, r1⟩ := v
   rw [h1] at h
   have l2 := (hq y).lt _ _ _ h
   rw [hp.loc _ z _ _ h1 (by omega)]
   exact (hq y).loc _ _ _ _ h h2
theorem qi {p : List zh -> Ps α} (f : α -> β) (hp : Gl p) : Gl fun ws => match p ws with
  | .error e => .error e
  | .ok (x, r) => .ok (f x, r) := by
 constructor
 ·intro ws x r h
  cases h1 : p ws with
  | error e => rw [h1] at h; cases h
  | ok v => rw [h1] at h; cases h; exact hp.lt _ _ _ h1
 ·intro ws z x r h h2
  cases h1 : p ws with
  | error e => rw [h1] at h; cases h
  | ok v => rw [h1] at h; cases h; rw [hp.loc _ z _ _ h1 h2]
theorem vq {c : Prop} [Decidable c] {p q : List zh -> Ps α} (hp : Gl p) (hq : Gl q) : Gl fun ws => if c then p ws else q ws := by
 by_cases h : c
 ·exact gl_eq (fun ws => if_pos h) hp
 ·exact gl_eq (fun ws => if_neg h) hq
theorem gl_err (f : List zh -> Int) (c : Int) : Gl (α := α) fun ws => .error ⟨f ws, c⟩ := ⟨fun _ _ _ h => (by cases h), fun _ _ _ _ h => (by cases h)⟩
theorem gl_want (t : List UInt8) {q : List zh -> Ps β} (hq : Gl q) : Gl fun ws => match zM ws t with
  | .error e => .error e
  | .ok r => q r := by
 have key : ∀ ws r, zM ws t = .ok r -> ∃ w, ws = w :: r /\ ∀ r', zM (w :: r') t = .ok r' := by
  intro ws r h
  cases ws with
  | nil => simp [zM, xU] at h
  | cons w r1 =>
   unfold zM at h
   cases hi : xU (w :: r1) t with
   | false => rw [hi] at h; cases h
   | true =>
    rw [hi] at h; cases h
    refine ⟨w, rfl, fun r' => ?_⟩
    have : xU (w :: r') t = true := hi
    unfold zM
    rw [this]; rfl
 constructor
 ·intro ws x r h
  cases h1 : zM ws t with
  | error e => rw [h1] at h; cases h
  | ok r1 =>
   rw [h1] at h
   obtain ⟨w, rfl, _⟩ := key _ _ h1
   have := hq.lt _ _ _ h
   simp only [List.length_cons]; omega
 ·intro ws z x r h h2
  cases h1 : zM ws t with
  | error e => rw [h1] at h; cases h
  | ok r1 =>
   rw [h1] at h
   obtain ⟨w, rfl, hw⟩ := key _ _ h1
   have := hq.lt _ _ _ h
   rw [dl (by omega), hw]
   exact hq.loc _ _ _ _ h h2
end
theorem gp_kset : Gp fun ws => match xk ws 5 with
  | .error e => .error e
  | .ok (w, r) => .ok (w.Set, r) := vI (q := fun s r => .ok (s, r)) 5 (fun w => w.Set) (fun _ _ h => (ke h).2.2.2.1) fun s => xy s
set_option smartUnfolding false in
theorem gl_lex (w : zh) (ps : List Prod) : Gl (gM w ps) := vq (c := ps.length = 200) (gl_err (fun _ => w.At) 2) (wz gp_head fun x => wz (gp_lexL 300 x.1 x.2 ps) fun p => kY p)
set_option smartUnfolding false in
theorem gl_cf (w : zh) (ps : List Prod) : Gl (cfW w ps) := vq (c := ps.length = 200) (gl_err (fun _ => w.At) 2) (wz gp_head fun x => wz gp_syms fun l => vq (c := x.2 = []) (gl_want [98, 114, 97, 99, 107, 101, 116] (kY (ps ++ [⟨false, x.1, x.2, true, l⟩]))) (kY (ps ++ [⟨false, x.1, x.2, false, l⟩])))
set_option smartUnfolding false in
theorem gl_prio : Gl j9 := wz gp_group fun g => wz (gp_prioL 30 [g]) fun c => kY c
set_option smartUnfolding false in
theorem gl_once : Gl kS := wz xR fun a => kY a
theorem gl_follow : Gl kk := by
 refine gl_eq (fun ws => ?_) (wz xR fun a => wz gp_kset fun s => kY (Follow.mk a s))
 unfold kk
 cases xf ws with
 | error e => rfl
 | ok v => obtain ⟨a, r⟩ := v; dsimp only; cases xk r 5 <;> rfl
set_option smartUnfolding false in
theorem gl_reject : Gl kR := wz xR fun a => wz xR fun b => kY (zz.mk a b)
theorem gl_box : Gl uA := by
 refine gl_eq (fun ws => ?_) (wz xR fun a => gl_want [61] (wz (gp_list 65 0) fun x => kY ((⟨a, x.1⟩ : xi), x.2)))
 unfold uA
 cases xf ws with
 | error e => rfl
 | ok v =>
  obtain ⟨a, r⟩ := v
  dsimp only
  cases zM r [61] with
  | error e => rfl
  | ok r2 => dsimp only; cases xN 65 0 r2 <;> rfl
set_option smartUnfolding false in
theorem gl_stmt (w : zh) (d : z7) (s y : Bool) : Gl (wY w d s y) := by
 unfold wY
 exact vq (vq (gl_err (fun _ => w.At) 31) (qi (fun x => (dS d x, true, y)) gl_once)) <| vq (vq (gl_err (fun _ => w.At) 31) (qi (fun x => (dL d x, s, true)) gl_once)) <|
  vq (qi (fun x => (dP d x, s, y)) (gl_lex w d.Prods)) <| vq (qi (fun x => (dP d x, s, y)) (gl_cf w d.Prods)) <| vq (qi (fun x => (dC d (d.Chains ++ [x]), s, y)) gl_prio) <|
  vq (qi (fun x => (jg d (d.Follows ++ [x]), s, y)) gl_follow) <| vq (qi (fun x => (dR d (d.Rejects ++ [x]), s, y)) gl_reject) <| vq (qi (fun x => (dB d (d.Boxes ++ [x.1]), s, y)) gl_box) (gl_err (fun _ => w.At) 30)
theorem allW_fuel : ∀ (j j' : Nat) (d : z7) (s y : Bool) (ws : List zh), ws.length <= j -> ws.length <= j' -> gn j d s y ws = gn j' d s y ws := by
 intro j
 induction j with
 | zero =>
  intro j' d s y ws h h'
  have : ws = [] := List.length_eq_zero_iff.1 (by omega)
  subst this
  cases j' <;> rfl
 | succ j ih =>
  intro j' d s y ws h h'
  cases ws with
  | nil => cases j' <;> rfl
  | cons w r =>
   simp only [List.length_cons] at h h'
   obtain ⟨j', rfl⟩ : ∃ p, j' = p + 1 := ⟨j' - 1, by omega⟩
   simp only [gn]
   cases hs : wY w d s y r with
   | error e => rfl
   | ok v =>
    obtain ⟨x, r'⟩ := v
    have := (gl_stmt w d s y).lt _ _ _ hs
    dsimp only
    rw [ih j' x.1 x.2.1 x.2.2 r' (by omega) (by omega)]
def Re {α : Type} : Except Fault α -> Except Fault α -> Prop
 | .ok a, .ok b => a = b
 | .error e, .error e' => e.Code = e'.Code
 | _, _ => False
theorem kf {α : Type} (x : Except Fault α) : Re x x := by cases x <;> rfl
theorem re_map {α β : Type} (f : α -> β) (x x' : Ps α) : Re x x' -> Re (match x with
  | .error e => .error e
  | .ok (a, r) => .ok (f a, r) : Ps β) (match x' with
  | .error e => .error e
  | .ok (a, r) => .ok (f a, r)) := by
 intro h
 cases x <;> cases x'
 ·exact h
 ·exact h.elim
 ·exact h.elim
 ·cases h; exact kf _
theorem lex_re (w w' : zh) (ps : List Prod) (ws : List zh) : Re (gM w ps ws) (gM w' ps ws) := by
 unfold gM
 by_cases h : ps.length = 200
 ·rw [if_pos h, if_pos h]; exact rfl
 ·rw [if_neg h, if_neg h]; exact kf _
theorem cf_re (w w' : zh) (ps : List Prod) (ws : List zh) : Re (cfW w ps ws) (cfW w' ps ws) := by
 unfold cfW
 by_cases h : ps.length = 200
 ·rw [if_pos h, if_pos h]; exact rfl
 ·rw [if_neg h, if_neg h]; exact kf _
theorem vR {α : Type} {c : Prop} [Decidable c] {x x' y y' : Except Fault α} (h : Re x x') (h' : Re y y') : Re (if c then x else y) (if c then x' else y') := by
 split
 ·exact h
 ·exact h'
set_option smartUnfolding false in
theorem stmt_re {w w' : zh} (h : er w = er w') (d : z7) (s y : Bool) (ws : List zh) : Re (wY w d s y ws) (wY w' d s y ws) := by
 unfold wY
 rw [(ke h).2.1]
 exact vR (vR rfl (kf _)) <| vR (vR rfl (kf _)) <| vR (re_map (fun x => (dP d x, s, y)) _ _ (lex_re w w' d.Prods ws)) <| vR (re_map (fun x => (dP d x, s, y)) _ _ (cf_re w w' d.Prods ws)) <|
  vR (kf _) <| vR (kf _) <| vR (kf _) <| vR (kf _) rfl
theorem allW_er : ∀ (j : Nat) (d : z7) (s y : Bool) (ws ws' : List zh), Eq' ws ws' -> Re (gn j d s y ws) (gn j d s y ws') := by
 intro j
 induction j with
 | zero => intros; exact rfl
 | succ j ih =>
  intro d s y ws ws' h
  cases ws with
  | nil => rw [eq_nil h]; exact rfl
  | cons w r =>
   obtain ⟨w', r', rfl, h1, h2⟩ := eq_cons h
   simp only [gn, <- (ke h1).1]
   refine vR rfl (vR ?_ rfl)
   have a := (gp_stmt w d s y).er r r' h2
   have b := stmt_re h1 d s y r'
   cases e1 : wY w d s y r with
   | error e => cases e2 : wY w d s y r' with
    | ok v => rw [e1, e2] at a; exact a.elim
    | error e' => cases e3 : wY w' d s y r' with
     | ok v => rw [e2, e3] at b; exact b.elim
     | error e'' => rw [e1, e2] at a; rw [e2, e3] at b; exact (show e.Code = e''.Code from Eq.trans (show e.Code = e'.Code from a) b)
   | ok v => cases e2 : wY w d s y r' with
    | error e' => rw [e1, e2] at a; exact a.elim
    | ok v' => cases e3 : wY w' d s y r' with
     | error e'' => rw [e2, e3] at b; exact b.elim
     | ok v'' =>
      rw [e1, e2] at a
      rw [e2, e3] at b
      obtain ⟨x, r1⟩ := v
      obtain ⟨x', r1'⟩ := v'
      cases b
      obtain ⟨rfl, a⟩ := a
      exact ih x.1 x.2.1 x.2.2 r1 r1' a
end Go.Vc
