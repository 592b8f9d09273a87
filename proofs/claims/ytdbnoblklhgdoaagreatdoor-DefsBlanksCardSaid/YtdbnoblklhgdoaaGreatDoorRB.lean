import Derived.Test.YtdbnoblklhgdoaaGreatDoorRA
set_option linter.unusedSectionVars false
set_option linter.unusedVariables false
namespace Go.Vc
open Go
def er (w : Word) : Word := ⟨w.Kind, w.Text, w.Bytes, w.Set, w.N_, 0, 0, 0⟩
def Eq' (ws ws' : List Word) : Prop := ws.map er = ws'.map er
def Rl {α : Type} : Ps α → Ps α → Prop
  | .ok (a, r), .ok (b, r') => a = b ∧ Eq' r r'
  | .error e, .error e' => e.Code = e'.Code
  | _, _ => False
structure Gp {α : Type} (p : List Word → Ps α) : Prop where
  er : ∀ ws ws', Eq' ws ws' → Rl (p ws) (p ws')
  len : ∀ ws x r, p ws = .ok (x, r) → r.length ≤ ws.length
  loc : ∀ ws z x r, p ws = .ok (x, r) → 2 ≤ r.length → p (ws.dropLast ++ z) = .ok (x, r.dropLast ++ z)
  nz : ∀ ws e, p ws = .error e → e.Code ≠ 0
structure Ts (c : List Word → Bool) : Prop where
  er : ∀ ws ws', Eq' ws ws' → c ws = c ws'
  loc : ∀ ws z, 2 ≤ ws.length → c (ws.dropLast ++ z) = c ws
theorem er_in {w w' : Word} (h : er w = er w') : w.Kind = w'.Kind ∧ w.Text = w'.Text ∧ w.Bytes = w'.Bytes ∧ w.Set = w'.Set ∧ w.N_ = w'.N_ := by
  simp only [er, Word.mk.injEq] at h
  exact ⟨h.1, h.2.1, h.2.2.1, h.2.2.2.1, h.2.2.2.2.1⟩
theorem eq_nil {ws : List Word} (h : Eq' [] ws) : ws = [] := by cases ws with
  | nil => rfl
  | cons _ _ => simp [Eq'] at h
theorem eq_cons {w : Word} {r ws : List Word} (h : Eq' (w :: r) ws) : ∃ w' r', ws = w' :: r' ∧ er w = er w' ∧ Eq' r r' := by cases ws with
  | nil => simp [Eq'] at h
  | cons w' r' => simp only [Eq', List.map_cons, List.cons.injEq] at h; exact ⟨w', r', rfl, h.1, h.2⟩
theorem dl {w : Word} {r z : List Word} (h : 1 ≤ r.length) : (w :: r).dropLast ++ z = w :: (r.dropLast ++ z) := by cases r with
  | nil => simp at h
  | cons _ _ => simp
theorem ts_mk {c : List Word → Bool} (f : Word → Bool) (hf : ∀ w w', er w = er w' → f w = f w') (b : Bool) (h0 : c [] = b) (hc : ∀ w r, c (w :: r) = f w) : Ts c := by
  constructor
  · intro ws ws' h
    cases ws with
    | nil => rw [eq_nil h]
    | cons w r =>
      obtain ⟨w', r', rfl, h1, _⟩ := eq_cons h
      rw [hc, hc, hf _ _ h1]
  · intro ws z h
    cases ws with
    | nil => simp at h
    | cons w r =>
      simp only [List.length_cons] at h
      rw [dl (by omega), hc, hc]
theorem ts_is (t : List UInt8) : Ts (isP · t) := ts_mk (fun w => (w.Kind == 6 || w.Kind == 2) && w.Text == t) (fun w w' h => by
  obtain ⟨h1, h2, _⟩ := er_in h
  simp only [h1, h2]) false rfl (fun _ _ => rfl)
def hkd (ws : List Word) (k : Int) : Bool := match ws with
  | w :: _ => w.Kind == k
  | [] => false
theorem ts_kd (k : Int) : Ts (hkd · k) := ts_mk (fun w => w.Kind == k) (fun w w' h => by rw [(er_in h).1]) false rfl (fun _ _ => rfl)
section
variable {α β : Type}
theorem gp_eq {p q : List Word → Ps α} (h : ∀ ws, p ws = q ws) (hq : Gp q) : Gp p := by rw [show p = q from funext h]; exact hq
theorem gp_ok (a : α) : Gp fun ws => .ok (a, ws) := ⟨fun _ _ h => ⟨rfl, h⟩, fun _ _ _ h => (by cases h; exact Nat.le_refl _), fun _ _ _ _ h _ => (by cases h; rfl), fun _ _ h => (by cases h)⟩
theorem gp_err (f : List Word → Int) (c : Int) (hc : c ≠ 0 := by decide) : Gp (α := α) fun ws => .error ⟨f ws, c⟩ := ⟨fun _ _ _ => rfl, fun _ _ _ h => (by cases h), fun _ _ _ _ h => (by cases h), fun _ _ h => (by cases h; exact hc)⟩
theorem gp_if {c : List Word → Bool} {p q : List Word → Ps α} (hc : Ts c) (hp : Gp p) (hq : Gp q) : Gp fun ws => if c ws then p ws else q ws := by
  constructor
  · intro ws ws' h
    show Rl (if c ws then p ws else q ws) (if c ws' then p ws' else q ws')
    rw [hc.er ws ws' h]
    split
    · exact hp.er _ _ h
    · exact hq.er _ _ h
  · intro ws x r h
    split at h
    · exact hp.len _ _ _ h
    · exact hq.len _ _ _ h
  · intro ws z x r h h2
    have hl : 2 ≤ ws.length := by
      split at h
      · have := hp.len _ _ _ h; omega
      · have := hq.len _ _ _ h; omega
    rw [hc.loc ws z hl]
    split at h
    · rename_i hh; rw [if_pos hh]; exact hp.loc _ _ _ _ h h2
    · rename_i hh; rw [if_neg hh]; exact hq.loc _ _ _ _ h h2
  · intro ws e h
    split at h
    · exact hp.nz _ _ h
    · exact hq.nz _ _ h
theorem eq_tail {ws ws' : List Word} (h : Eq' ws ws') : Eq' ws.tail ws'.tail := by
  unfold Eq' at *
  rw [List.map_tail, List.map_tail, h]
theorem tail_dl {ws z : List Word} (h : 2 ≤ ws.length) : (ws.dropLast ++ z).tail = ws.tail.dropLast ++ z := by
  cases ws with
  | nil => simp at h
  | cons w r => simp only [List.length_cons] at h; rw [dl (by omega)]; rfl
theorem gp_tail {p : List Word → Ps α} (hp : Gp p) : Gp fun ws => p ws.tail := by
  constructor
  · intro ws ws' h
    exact hp.er _ _ (eq_tail h)
  · intro ws x r h
    have := hp.len _ _ _ h
    rw [List.length_tail] at this
    omega
  · intro ws z x r h h2
    have := hp.len _ _ _ h
    rw [List.length_tail] at this
    rw [tail_dl (by omega)]
    exact hp.loc _ _ _ _ h h2
  · intro ws e h
    exact hp.nz _ _ h
theorem gp_bind {p : List Word → Ps α} {q : α → List Word → Ps β} (hp : Gp p) (hq : ∀ x, Gp (q x)) : Gp fun ws => match p ws with
    | .error e => .error e
    | .ok (x, r) => q x r := by
  constructor
  · intro ws ws' h
    have := hp.er _ _ h
    cases h1 : p ws with
    | error e => cases h2 : p ws' with
      | error e' => rw [h1, h2] at this; exact this
      | ok v => rw [h1, h2] at this; exact this.elim
    | ok v => cases h2 : p ws' with
      | error e' => rw [h1, h2] at this; exact this.elim
      | ok v' =>
        rw [h1, h2] at this
        obtain ⟨x, r⟩ := v
        obtain ⟨x', r'⟩ := v'
        obtain ⟨rfl, h3⟩ := this
        exact (hq x).er _ _ h3
  · intro ws x r h
    cases h1 : p ws with
    | error e => rw [h1] at h; cases h
    | ok v =>
      obtain ⟨y, r1⟩ := v
      rw [h1] at h
      have := hp.len _ _ _ h1
      have := (hq y).len _ _ _ h
      omega
  · intro ws z x r h h2
    cases h1 : p ws with
    | error e => rw [h1] at h; cases h
    | ok v =>
      obtain ⟨y, r1⟩ := v
      rw [h1] at h
      have l2 := (hq y).len _ _ _ h
      rw [hp.loc _ z _ _ h1 (by omega)]
      exact (hq y).loc _ _ _ _ h h2
  · intro ws e h
    cases h1 : p ws with
    | error e' => rw [h1] at h; cases h; exact hp.nz _ _ h1
    | ok v => rw [h1] at h; exact (hq v.1).nz _ _ h
theorem gp_want (t : List UInt8) {q : List Word → Ps β} (hq : Gp q) : Gp fun ws => match wantP ws t with
    | .error e => .error e
    | .ok r => q r := by
  refine gp_eq (fun ws => ?_) (gp_if (ts_is t) (gp_tail hq) (gp_err hdAt 30))
  unfold wantP
  cases isP ws t <;> rfl
theorem gp_kind (k : Int) {q : Word → List Word → Ps β} (hq : ∀ w, Gp (q w)) (hw : ∀ w w', er w = er w' → ∀ ws ws', Eq' ws ws' → Rl (q w ws) (q w' ws')) : Gp fun ws => match kindP ws k with
    | .error e => .error e
    | .ok (w, r) => q w r := by
  constructor
  · intro ws ws' h
    cases ws with
    | nil => rw [eq_nil h]; exact rfl
    | cons w r =>
      obtain ⟨w', r', rfl, h1, h2⟩ := eq_cons h
      obtain ⟨e1, _, e3, _⟩ := er_in h1
      simp only [kindP, ← e1, ← e3]
      by_cases hk : w.Kind = k
      · rw [if_pos hk, if_pos hk]
        by_cases hb : k = 4 ∧ 32 < w.Bytes.length
        · rw [if_pos hb, if_pos hb]; exact rfl
        · rw [if_neg hb, if_neg hb]; exact hw w w' h1 r r' h2
      · rw [if_neg hk, if_neg hk]; exact rfl
  · intro ws x r h
    cases ws with
    | nil => cases h
    | cons w r1 =>
      simp only [kindP] at h
      by_cases hk : w.Kind = k
      · rw [if_pos hk] at h
        by_cases hb : k = 4 ∧ 32 < w.Bytes.length
        · rw [if_pos hb] at h; cases h
        · rw [if_neg hb] at h
          have := (hq w).len _ _ _ h
          simp only [List.length_cons]; omega
      · rw [if_neg hk] at h; cases h
  · intro ws z x r h h2
    cases ws with
    | nil => cases h
    | cons w r1 =>
      simp only [kindP] at h
      by_cases hk : w.Kind = k
      · rw [if_pos hk] at h
        by_cases hb : k = 4 ∧ 32 < w.Bytes.length
        · rw [if_pos hb] at h; cases h
        · rw [if_neg hb] at h
          have hl := (hq w).len _ _ _ h
          rw [dl (by omega)]
          simp only [kindP]
          rw [if_pos hk, if_neg hb]
          exact (hq w).loc _ _ _ _ h h2
      · rw [if_neg hk] at h; cases h
  · intro ws e h
    cases ws with
    | nil => cases h; decide
    | cons w r1 =>
      simp only [kindP] at h
      by_cases hk : w.Kind = k
      · rw [if_pos hk] at h
        by_cases hb : k = 4 ∧ 32 < w.Bytes.length
        · rw [if_pos hb] at h; cases h; simp
        · rw [if_neg hb] at h
          exact (hq w).nz _ _ h
      · rw [if_neg hk] at h; cases h; simp
theorem gp_kindf {γ : Type} (k : Int) (f : Word → γ) (hf : ∀ w w', er w = er w' → f w = f w') {q : γ → List Word → Ps β} (hq : ∀ w, Gp (q w)) : Gp fun ws => match kindP ws k with
    | .error e => .error e
    | .ok (w, r) => q (f w) r := gp_kind k (q := fun w => q (f w)) (fun w => hq (f w)) (fun w w' h ws ws' h' => by rw [hf w w' h]; exact (hq _).er _ _ h')
end
theorem gp_name : Gp nameP := gp_eq (fun ws => by unfold nameP; cases kindP ws 1 <;> rfl) <| gp_kindf (q := fun x r => .ok (x, r)) 1 (fun w => w.Text) (fun _ _ h => (er_in h).2.1) (fun x => gp_ok x)
section
variable {α β : Type}
theorem gp_ite {c : Prop} [Decidable c] {p q : List Word → Ps α} (hp : Gp p) (hq : Gp q) : Gp fun ws => if c then p ws else q ws := by
  by_cases h : c
  · exact gp_eq (fun ws => if_pos h) hp
  · exact gp_eq (fun ws => if_neg h) hq
end
theorem gp_end (k : Int) (set : S4) (nm : List UInt8) : Gp fun ws => .ok (endP k set nm ws) := by
  refine gp_eq (fun ws => ?_) (gp_if (ts_is [63]) (gp_tail (gp_ok ⟨4, [], set, nm, []⟩)) (gp_if (ts_is [42]) (gp_tail (gp_ok ⟨5, [], set, nm, []⟩)) (gp_if (ts_is [43]) (gp_tail (gp_ok ⟨6, [], set, nm, []⟩)) (gp_ok ⟨k, [], set, nm, []⟩))))
  unfold endP
  cases isP ws [63] <;> cases isP ws [42] <;> cases isP ws [43] <;> rfl
theorem gp_part : Gp partW := by
  refine gp_eq (fun ws => ?_) (gp_if (ts_kd 5) (gp_kindf 5 (fun w => w.Set) (fun _ _ h => (er_in h).2.2.2.1) (fun s => gp_end 2 s [])) (gp_bind gp_name (fun nm => gp_end 3 noSet nm)))
  cases ws with
  | nil => rfl
  | cons w r =>
    by_cases h : w.Kind = 5
    · simp [partW, hkd, kindP, h]
    · have e : (w.Kind == 5) = false := by simp [h]
      simp only [partW, hkd, e, if_neg h, Bool.false_eq_true, if_false]
      cases nameP (w :: r) <;> rfl
set_option smartUnfolding false in
theorem gp_brace2 (nm : List UInt8) (b : List Int) : Gp fun ws => match wantP ws [125] with
    | .error e => .error e
    | .ok r3 => if isP r3 [42] then .ok ((⟨5, [], noSet, nm, toS b⟩ : Sym), r3.tail) else match wantP r3 [43] with
      | .error e => .error e
      | .ok r4 => .ok (⟨6, [], noSet, nm, toS b⟩, r4) :=
  gp_want [125] (gp_if (ts_is [42]) (gp_tail (gp_ok _)) (gp_want [43] (gp_ok _)))
set_option smartUnfolding false in
theorem gp_brace : Gp braceP := by
  refine gp_bind (q := fun nm r => match kindP r 4 with
    | .error e => .error e
    | .ok (w, r2) => if w.Bytes.length = 0 then .error ⟨w.At, 30⟩ else match wantP r2 [125] with
      | .error e => .error e
      | .ok r3 => if isP r3 [42] then .ok ((⟨5, [], noSet, nm, toS w.Bytes⟩ : Sym), r3.tail) else match wantP r3 [43] with
        | .error e => .error e
        | .ok r4 => .ok (⟨6, [], noSet, nm, toS w.Bytes⟩, r4)) gp_name fun nm => ?_
  refine gp_kind 4 (q := fun w r2 => if w.Bytes.length = 0 then .error ⟨w.At, 30⟩ else match wantP r2 [125] with
      | .error e => .error e
      | .ok r3 => if isP r3 [42] then .ok ((⟨5, [], noSet, nm, toS w.Bytes⟩ : Sym), r3.tail) else match wantP r3 [43] with
        | .error e => .error e
        | .ok r4 => .ok (⟨6, [], noSet, nm, toS w.Bytes⟩, r4)) (fun w => gp_ite (gp_err (fun _ => w.At) 30) (gp_brace2 nm w.Bytes)) ?_
  intro w w' h ws ws' h'
  have e := (er_in h).2.2.1
  simp only [← e]
  by_cases hb : w.Bytes.length = 0
  · rw [if_pos hb, if_pos hb]; exact rfl
  · rw [if_neg hb, if_neg hb]; exact (gp_brace2 nm w.Bytes).er _ _ h'
theorem gp_sym : Gp symW := by
  refine gp_eq (fun ws => ?_) (gp_if (ts_kd 4) (gp_kindf (q := fun b r => .ok ((⟨1, toS b, noSet, [], []⟩ : Sym), r)) 4 (fun w => w.Bytes) (fun _ _ h => (er_in h).2.2.1) (fun s => gp_ok _)) (gp_if (ts_is [123]) (gp_tail gp_brace) gp_part))
  cases ws with
  | nil => rfl
  | cons w r =>
    by_cases h : w.Kind = 4
    · simp only [symW, hkd, h, if_true, beq_self_eq_true]
      cases kindP (w :: r) 4 <;> rfl
    · simp [symW, hkd, h]
theorem ts_beg : Ts begP := ts_mk (fun w => w.Kind == 4 || w.Kind == 1 || w.Kind == 5 || ((w.Kind == 6 || w.Kind == 2) && w.Text == [123])) (fun w w' h => by
  obtain ⟨h1, h2, _⟩ := er_in h
  simp only [h1, h2]) false rfl (fun _ _ => rfl)
set_option smartUnfolding false in
theorem gp_symsL : ∀ (j : Nat) (out : List Sym), Gp (symsL j out)
  | 0, _ => gp_err (fun _ => 0) 1
  | j + 1, out => gp_if ts_beg (gp_ite (c := out.length = 12) (gp_err hdAt 2) (gp_bind gp_sym fun x => gp_symsL j (out ++ [x]))) (gp_ok out)
set_option smartUnfolding false in
theorem gp_syms : Gp symsW := gp_bind gp_sym fun x => gp_symsL 20 [x]
set_option smartUnfolding false in
theorem gp_head : Gp headW := gp_bind gp_name fun a => gp_if (ts_is [46]) (gp_tail (gp_bind gp_name fun c => gp_want [61] (gp_ok (a, c)))) (gp_want [61] (gp_ok (a, [])))
set_option smartUnfolding false in
theorem gp_lexL : ∀ (j : Nat) (a c : List UInt8) (ps : List Prod), Gp (lexL j a c ps)
  | 0, _, _, _ => gp_err (fun _ => 0) 1
  | j + 1, a, c, ps => gp_bind gp_syms fun x => gp_if (ts_is [124]) (gp_ite (c := ps.length + 1 = 200) (gp_err hdAt 2) (gp_tail (gp_lexL j a c (ps ++ [Prod.mk true a c false x])))) (gp_ok (ps ++ [Prod.mk true a c false x]))
set_option smartUnfolding false in
theorem gp_semi {α : Type} (f : α) : Gp fun ws => match wantP ws [59] with
    | .error e => .error e
    | .ok r => .ok (f, r) := gp_want [59] (gp_ok f)
set_option smartUnfolding false in
theorem gp_lex (w : Word) (ps : List Prod) : Gp (lexW w ps) := gp_ite (c := ps.length = 200) (gp_err (fun _ => w.At) 2) (gp_bind gp_head fun x => gp_bind (gp_lexL 300 x.1 x.2 ps) fun p => gp_semi p)
set_option smartUnfolding false in
theorem gp_cf (w : Word) (ps : List Prod) : Gp (cfW w ps) := gp_ite (c := ps.length = 200) (gp_err (fun _ => w.At) 2) (gp_bind gp_head fun x => gp_bind gp_syms fun l => gp_ite (c := x.2 = []) (gp_want [98, 114, 97, 99, 107, 101, 116] (gp_semi (ps ++ [⟨false, x.1, x.2, true, l⟩]))) (gp_semi (ps ++ [⟨false, x.1, x.2, false, l⟩])))
theorem gp_namesL : ∀ (j : Nat) (out : List (List UInt8)), Gp (namesL j out)
  | 0, _ => gp_err (fun _ => 0) 1
  | j + 1, out => by
    refine gp_eq (fun ws => ?_) (gp_if (ts_kd 1) (gp_ite (c := out.length = 16) (gp_err hdAt 2) (gp_bind gp_name fun x => gp_namesL j (out ++ [x]))) (gp_ok out))
    cases ws with
    | nil => rfl
    | cons w r =>
      by_cases h : w.Kind = 1
      · simp only [namesL, hkd, h, if_true, beq_self_eq_true]
        by_cases h16 : out.length = 16
        · rw [if_pos h16, if_pos h16]; rfl
        · rw [if_neg h16, if_neg h16]; cases nameP (w :: r) <;> rfl
      · simp [namesL, hkd, h]
theorem gp_group : Gp groupW := by
  have q : ∀ g : Int, Gp fun ws => match nameP ws with
      | .error e => .error e
      | .ok (x, r2) => match namesL 30 [x] r2 with
        | .error e => .error e
        | .ok (c, r3) => .ok ((⟨g, c⟩ : Group), r3) := by
    intro g
    refine gp_eq (fun ws => ?_) (gp_bind gp_name fun x => gp_bind (gp_namesL 30 [x]) fun c => gp_ok ⟨g, c⟩)
    cases nameP ws with
    | error e => rfl
    | ok v => obtain ⟨x, r⟩ := v; dsimp only; cases namesL 30 [x] r <;> rfl
  refine gp_eq (fun ws => ?_) (gp_if (ts_is [108, 101, 102, 116]) (gp_tail (q 1)) (gp_if (ts_is [114, 105, 103, 104, 116]) (gp_tail (q 2)) (gp_if (ts_is [110, 111, 110]) (gp_tail (q 3)) (q 0))))
  unfold groupW groupA
  cases isP ws [108, 101, 102, 116] <;> cases isP ws [114, 105, 103, 104, 116] <;> cases isP ws [110, 111, 110] <;> rfl
set_option smartUnfolding false in
theorem gp_prioL : ∀ (j : Nat) (out : List Group), Gp (prioL j out)
  | 0, _ => gp_err (fun _ => 0) 1
  | j + 1, out => gp_if (ts_is [62]) (gp_ite (c := out.length = 16) (gp_err (fun ws => hdAt ws.tail) 2) (gp_tail (gp_bind gp_group fun g => gp_prioL j (out ++ [g])))) (gp_ok out)
set_option smartUnfolding false in
theorem gp_prio : Gp prioW := gp_bind gp_group fun g => gp_bind (gp_prioL 30 [g]) fun c => gp_semi c
theorem gp_within {g : Nat → List Word → Pi} (hg : ∀ n, Gp (g n)) (n : Nat) : Gp (withinW g n) := by
  refine gp_eq (fun ws => ?_) (gp_want [40] (gp_bind (hg n) fun x => gp_want [41] (gp_ok x)))
  unfold withinW
  cases wantP ws [40] with
  | error e => rfl
  | ok r =>
    dsimp only
    cases g n r with
    | error e => rfl
    | ok v => obtain ⟨⟨x, m⟩, r2⟩ := v; dsimp only; cases wantP r2 [41] <;> rfl
theorem gp_item {g : Nat → List Word → Pi} (hg : ∀ n, Gp (g n)) (n : Nat) : Gp (itemW g n) := by
  have gi : ∀ f : List Item → Item, Gp fun ws => match withinW g n ws with
      | .error e => .error e
      | .ok (i, r3) => .ok ((f i.1, i.2), r3) := by
    intro f
    refine gp_eq (fun ws => ?_) (gp_bind (gp_within hg n) fun x => gp_ok (f x.1, x.2))
    cases withinW g n ws <;> rfl
  refine gp_eq (fun ws => ?_) (gp_if (ts_kd 4) (gp_kindf (q := fun b r => .ok (((⟨1, toS b, 0, []⟩ : Item), n), r)) 4 (fun w => w.Bytes) (fun _ _ h => (er_in h).2.2.1) (fun s => gp_ok _))
    (gp_if (ts_kd 3) (gp_kindf (q := fun b r => .ok (((⟨2, [], b, []⟩ : Item), n), r)) 3 (fun w => w.N_) (fun _ _ h => (er_in h).2.2.2.2) (fun s => gp_ok _))
    (gp_if (ts_is [95]) (gp_tail (gp_ok ((⟨3, [], 0, []⟩ : Item), n)))
    (gp_if (ts_is [47]) (gp_tail (gp_ok ((⟨4, [], 0, []⟩ : Item), n)))
    (gp_if (ts_is [110, 101, 115, 116]) (gp_tail (gp_kindf (q := fun b r => match withinW g n r with
        | .error e => .error e
        | .ok (i, r3) => .ok (((⟨5, [], b, i.1⟩ : Item), i.2), r3)) 3 (fun w => w.N_) (fun _ _ h => (er_in h).2.2.2.2) (fun b => gi (fun i => ⟨5, [], b, i⟩))))
    (gp_if (c := fun ws => decide (ws ≠ [])) ⟨?_, ?_⟩ (gp_tail (gi (fun i => ⟨6, [], 0, i⟩))) (gp_err (fun _ => 0) 1)))))))
  · cases ws with
    | nil => rfl
    | cons w r =>
      simp only [itemW, hkd]
      by_cases h4 : w.Kind = 4
      · simp only [h4, if_true, beq_self_eq_true]
        cases kindP (w :: r) 4 <;> rfl
      by_cases h3 : w.Kind = 3
      · simp [h3, kindP]
      simp only [h4, h3, if_false, beq_iff_eq]
      cases isP (w :: r) [95] with
      | true => rfl
      | false =>
      cases isP (w :: r) [47] with
      | true => rfl
      | false =>
      cases isP (w :: r) [110, 101, 115, 116] with
      | true =>
        simp only [Bool.false_eq_true, if_false, if_true, List.tail_cons]
        cases kindP r 3 with
        | error e => rfl
        | ok v => obtain ⟨x, r2⟩ := v; dsimp only; cases withinW g n r2 <;> rfl
      | false =>
        simp only [Bool.false_eq_true, if_false, List.tail_cons, decide_true, if_true, ne_eq, reduceCtorEq, not_false_eq_true]
        cases withinW g n r <;> rfl
  · intro ws ws' h
    cases ws with
    | nil => rw [eq_nil h]
    | cons w r => obtain ⟨w', r', rfl, _⟩ := eq_cons h; simp
  · intro ws z h
    cases ws with
    | nil => simp at h
    | cons w r => simp only [List.length_cons] at h; rw [dl (by omega)]; simp
theorem ts_ib : Ts itBeg := ts_mk (fun w => itBeg [w]) (fun w w' h => by
  obtain ⟨h1, h2, _⟩ := er_in h
  simp only [itBeg, isP, h1, h2]) false rfl (fun _ _ => rfl)
theorem gp_list : ∀ (f n : Nat), Gp (listW f n)
  | 0, _ => gp_err (fun _ => 0) 1
  | f + 1, n => by
    refine gp_eq (fun ws => ?_) (gp_if ts_ib (gp_ite (c := n = 64) (gp_err hdAt 2) (gp_bind (gp_item (gp_list f) (n + 1)) fun x => gp_bind (gp_list f x.2) fun y => gp_ok (x.1 :: y.1, y.2))) (gp_ok ([], n)))
    simp only [listW]
    cases itBeg ws with
    | false => rfl
    | true =>
      simp only [if_true]
      by_cases h : n = 64
      · rw [if_pos h, if_pos h]
      · rw [if_neg h, if_neg h]
        cases itemW (listW f) (n + 1) ws with
        | error e => rfl
        | ok v => obtain ⟨⟨x, m⟩, r⟩ := v; dsimp only; cases listW f m r <;> rfl
set_option smartUnfolding false in
theorem gp_once : Gp onceW := gp_bind gp_name fun a => gp_semi a
set_option smartUnfolding false in
theorem gp_follow : Gp followW := gp_bind gp_name fun a => gp_kindf (q := fun s r => match wantP r [59] with
    | .error e => .error e
    | .ok r3 => .ok ((⟨a, s⟩ : Follow), r3)) 5 (fun w => w.Set) (fun _ _ h => (er_in h).2.2.2.1) fun s => gp_semi (Follow.mk a s)
set_option smartUnfolding false in
theorem gp_reject : Gp rejectW := gp_bind gp_name fun a => gp_bind gp_name fun b => gp_semi (Reject.mk a b)
theorem gp_box : Gp boxW := by
  refine gp_eq (fun ws => ?_) (gp_bind gp_name fun a => gp_want [61] (gp_bind (gp_list 65 0) fun x => gp_semi ((⟨a, x.1⟩ : Box), x.2)))
  unfold boxW
  cases nameP ws with
  | error e => rfl
  | ok v =>
    obtain ⟨a, r⟩ := v
    dsimp only
    cases wantP r [61] with
    | error e => rfl
    | ok r2 => dsimp only; cases listW 65 0 r2 <;> rfl
set_option smartUnfolding false in
theorem gp_stmt (w : Word) (d : Def) (s y : Bool) : Gp (stmtW w d s y) := by
  unfold stmtW
  exact gp_ite (gp_ite (gp_err (fun _ => w.At) 31) (gp_bind gp_once fun x => gp_ok (dS d x, true, y))) <| gp_ite (gp_ite (gp_err (fun _ => w.At) 31) (gp_bind gp_once fun x => gp_ok (dL d x, s, true))) <|
    gp_ite (gp_bind (gp_lex w d.Prods) fun x => gp_ok (dP d x, s, y)) <| gp_ite (gp_bind (gp_cf w d.Prods) fun x => gp_ok (dP d x, s, y)) <| gp_ite (gp_bind gp_prio fun x => gp_ok (dC d (d.Chains ++ [x]), s, y)) <|
    gp_ite (gp_bind gp_follow fun x => gp_ok (dFo d (d.Follows ++ [x]), s, y)) <| gp_ite (gp_bind gp_reject fun x => gp_ok (dR d (d.Rejects ++ [x]), s, y)) <| gp_ite (gp_bind gp_box fun x => gp_ok (dB d (d.Boxes ++ [x.1]), s, y)) (gp_err (fun _ => w.At) 30)
structure Gl {α : Type} (p : List Word → Ps α) : Prop where
  lt : ∀ ws x r, p ws = .ok (x, r) → r.length < ws.length
  loc : ∀ ws z x r, p ws = .ok (x, r) → 1 ≤ r.length → p (ws.dropLast ++ z) = .ok (x, r.dropLast ++ z)
section
variable {α β : Type}
theorem gl_eq {p q : List Word → Ps α} (h : ∀ ws, p ws = q ws) (hq : Gl q) : Gl p := by rw [show p = q from funext h]; exact hq
theorem gl_semi (f : α) : Gl fun ws => match wantP ws [59] with
    | .error e => .error e
    | .ok r => .ok (f, r) := by
  have key : ∀ ws x r, (match wantP ws [59] with
    | .error e => .error e
    | .ok r => .ok (f, r) : Ps α) = .ok (x, r) → ∃ w, ws = w :: r ∧ x = f ∧ isP (w :: r) [59] = true := by
    intro ws x r h
    cases ws with
    | nil => simp [wantP, isP] at h
    | cons w r1 =>
      unfold wantP at h
      cases hi : isP (w :: r1) [59] with
      | false => rw [hi] at h; cases h
      | true => rw [hi] at h; cases h; exact ⟨w, rfl, rfl, hi⟩
  constructor
  · intro ws x r h
    obtain ⟨w, rfl, _⟩ := key ws x r h
    simp
  · intro ws z x r h h1
    obtain ⟨w, rfl, rfl, hi⟩ := key ws x r h
    rw [dl h1]
    have : isP (w :: (r.dropLast ++ z)) [59] = true := hi
    unfold wantP
    rw [this]
    rfl
theorem gl_bind {p : List Word → Ps α} {q : α → List Word → Ps β} (hp : Gp p) (hq : ∀ x, Gl (q x)) : Gl fun ws => match p ws with
    | .error e => .error e
    | .ok (x, r) => q x r := by
  constructor
  · intro ws x r h
    cases h1 : p ws with
    | error e => rw [h1] at h; cases h
    | ok v =>
      obtain ⟨y, r1⟩ := v
      rw [h1] at h
      have := hp.len _ _ _ h1
      have := (hq y).lt _ _ _ h
      omega
  · intro ws z x r h h2
    cases h1 : p ws with
    | error e => rw [h1] at h; cases h
    | ok v =>
      obtain ⟨y, r1⟩ := v
      rw [h1] at h
      have l2 := (hq y).lt _ _ _ h
      rw [hp.loc _ z _ _ h1 (by omega)]
      exact (hq y).loc _ _ _ _ h h2
theorem gl_map {p : List Word → Ps α} (f : α → β) (hp : Gl p) : Gl fun ws => match p ws with
    | .error e => .error e
    | .ok (x, r) => .ok (f x, r) := by
  constructor
  · intro ws x r h
    cases h1 : p ws with
    | error e => rw [h1] at h; cases h
    | ok v => rw [h1] at h; cases h; exact hp.lt _ _ _ h1
  · intro ws z x r h h2
    cases h1 : p ws with
    | error e => rw [h1] at h; cases h
    | ok v => rw [h1] at h; cases h; rw [hp.loc _ z _ _ h1 h2]
theorem gl_ite {c : Prop} [Decidable c] {p q : List Word → Ps α} (hp : Gl p) (hq : Gl q) : Gl fun ws => if c then p ws else q ws := by
  by_cases h : c
  · exact gl_eq (fun ws => if_pos h) hp
  · exact gl_eq (fun ws => if_neg h) hq
theorem gl_err (f : List Word → Int) (c : Int) : Gl (α := α) fun ws => .error ⟨f ws, c⟩ := ⟨fun _ _ _ h => (by cases h), fun _ _ _ _ h => (by cases h)⟩
theorem gl_want (t : List UInt8) {q : List Word → Ps β} (hq : Gl q) : Gl fun ws => match wantP ws t with
    | .error e => .error e
    | .ok r => q r := by
  have key : ∀ ws r, wantP ws t = .ok r → ∃ w, ws = w :: r ∧ ∀ r', wantP (w :: r') t = .ok r' := by
    intro ws r h
    cases ws with
    | nil => simp [wantP, isP] at h
    | cons w r1 =>
      unfold wantP at h
      cases hi : isP (w :: r1) t with
      | false => rw [hi] at h; cases h
      | true =>
        rw [hi] at h; cases h
        refine ⟨w, rfl, fun r' => ?_⟩
        have : isP (w :: r') t = true := hi
        unfold wantP
        rw [this]; rfl
  constructor
  · intro ws x r h
    cases h1 : wantP ws t with
    | error e => rw [h1] at h; cases h
    | ok r1 =>
      rw [h1] at h
      obtain ⟨w, rfl, _⟩ := key _ _ h1
      have := hq.lt _ _ _ h
      simp only [List.length_cons]; omega
  · intro ws z x r h h2
    cases h1 : wantP ws t with
    | error e => rw [h1] at h; cases h
    | ok r1 =>
      rw [h1] at h
      obtain ⟨w, rfl, hw⟩ := key _ _ h1
      have := hq.lt _ _ _ h
      rw [dl (by omega), hw]
      exact hq.loc _ _ _ _ h h2
end
theorem gp_kset : Gp fun ws => match kindP ws 5 with
    | .error e => .error e
    | .ok (w, r) => .ok (w.Set, r) := gp_kindf (q := fun s r => .ok (s, r)) 5 (fun w => w.Set) (fun _ _ h => (er_in h).2.2.2.1) fun s => gp_ok s
set_option smartUnfolding false in
theorem gl_lex (w : Word) (ps : List Prod) : Gl (lexW w ps) := gl_ite (c := ps.length = 200) (gl_err (fun _ => w.At) 2) (gl_bind gp_head fun x => gl_bind (gp_lexL 300 x.1 x.2 ps) fun p => gl_semi p)
set_option smartUnfolding false in
theorem gl_cf (w : Word) (ps : List Prod) : Gl (cfW w ps) := gl_ite (c := ps.length = 200) (gl_err (fun _ => w.At) 2) (gl_bind gp_head fun x => gl_bind gp_syms fun l => gl_ite (c := x.2 = []) (gl_want [98, 114, 97, 99, 107, 101, 116] (gl_semi (ps ++ [⟨false, x.1, x.2, true, l⟩]))) (gl_semi (ps ++ [⟨false, x.1, x.2, false, l⟩])))
set_option smartUnfolding false in
theorem gl_prio : Gl prioW := gl_bind gp_group fun g => gl_bind (gp_prioL 30 [g]) fun c => gl_semi c
set_option smartUnfolding false in
theorem gl_once : Gl onceW := gl_bind gp_name fun a => gl_semi a
theorem gl_follow : Gl followW := by
  refine gl_eq (fun ws => ?_) (gl_bind gp_name fun a => gl_bind gp_kset fun s => gl_semi (Follow.mk a s))
  unfold followW
  cases nameP ws with
  | error e => rfl
  | ok v => obtain ⟨a, r⟩ := v; dsimp only; cases kindP r 5 <;> rfl
set_option smartUnfolding false in
theorem gl_reject : Gl rejectW := gl_bind gp_name fun a => gl_bind gp_name fun b => gl_semi (Reject.mk a b)
theorem gl_box : Gl boxW := by
  refine gl_eq (fun ws => ?_) (gl_bind gp_name fun a => gl_want [61] (gl_bind (gp_list 65 0) fun x => gl_semi ((⟨a, x.1⟩ : Box), x.2)))
  unfold boxW
  cases nameP ws with
  | error e => rfl
  | ok v =>
    obtain ⟨a, r⟩ := v
    dsimp only
    cases wantP r [61] with
    | error e => rfl
    | ok r2 => dsimp only; cases listW 65 0 r2 <;> rfl
set_option smartUnfolding false in
theorem gl_stmt (w : Word) (d : Def) (s y : Bool) : Gl (stmtW w d s y) := by
  unfold stmtW
  exact gl_ite (gl_ite (gl_err (fun _ => w.At) 31) (gl_map (fun x => (dS d x, true, y)) gl_once)) <| gl_ite (gl_ite (gl_err (fun _ => w.At) 31) (gl_map (fun x => (dL d x, s, true)) gl_once)) <|
    gl_ite (gl_map (fun x => (dP d x, s, y)) (gl_lex w d.Prods)) <| gl_ite (gl_map (fun x => (dP d x, s, y)) (gl_cf w d.Prods)) <| gl_ite (gl_map (fun x => (dC d (d.Chains ++ [x]), s, y)) gl_prio) <|
    gl_ite (gl_map (fun x => (dFo d (d.Follows ++ [x]), s, y)) gl_follow) <| gl_ite (gl_map (fun x => (dR d (d.Rejects ++ [x]), s, y)) gl_reject) <| gl_ite (gl_map (fun x => (dB d (d.Boxes ++ [x.1]), s, y)) gl_box) (gl_err (fun _ => w.At) 30)
def Re {α : Type} : Except Fault α → Except Fault α → Prop
  | .ok a, .ok b => a = b
  | .error e, .error e' => e.Code = e'.Code
  | _, _ => False
theorem re_refl {α : Type} (x : Except Fault α) : Re x x := by cases x <;> rfl
theorem re_map {α β : Type} (f : α → β) (x x' : Ps α) : Re x x' → Re (match x with
    | .error e => .error e
    | .ok (a, r) => .ok (f a, r) : Ps β) (match x' with
    | .error e => .error e
    | .ok (a, r) => .ok (f a, r)) := by
  intro h
  cases x <;> cases x'
  · exact h
  · exact h.elim
  · exact h.elim
  · cases h; exact re_refl _
theorem lex_re (w w' : Word) (ps : List Prod) (ws : List Word) : Re (lexW w ps ws) (lexW w' ps ws) := by
  unfold lexW
  by_cases h : ps.length = 200
  · rw [if_pos h, if_pos h]; exact rfl
  · rw [if_neg h, if_neg h]; exact re_refl _
theorem cf_re (w w' : Word) (ps : List Prod) (ws : List Word) : Re (cfW w ps ws) (cfW w' ps ws) := by
  unfold cfW
  by_cases h : ps.length = 200
  · rw [if_pos h, if_pos h]; exact rfl
  · rw [if_neg h, if_neg h]; exact re_refl _
theorem re_ite {α : Type} {c : Prop} [Decidable c] {x x' y y' : Except Fault α} (h : Re x x') (h' : Re y y') : Re (if c then x else y) (if c then x' else y') := by
  split
  · exact h
  · exact h'
set_option smartUnfolding false in
theorem stmt_re {w w' : Word} (h : er w = er w') (d : Def) (s y : Bool) (ws : List Word) : Re (stmtW w d s y ws) (stmtW w' d s y ws) := by
  unfold stmtW
  rw [(er_in h).2.1]
  exact re_ite (re_ite rfl (re_refl _)) <| re_ite (re_ite rfl (re_refl _)) <| re_ite (re_map (fun x => (dP d x, s, y)) _ _ (lex_re w w' d.Prods ws)) <| re_ite (re_map (fun x => (dP d x, s, y)) _ _ (cf_re w w' d.Prods ws)) <|
    re_ite (re_refl _) <| re_ite (re_refl _) <| re_ite (re_refl _) <| re_ite (re_refl _) rfl
theorem allW_er : ∀ (j : Nat) (d : Def) (s y : Bool) (ws ws' : List Word), Eq' ws ws' → Re (allW j d s y ws) (allW j d s y ws') := by
  intro j
  induction j with
  | zero => intros; exact rfl
  | succ j ih =>
    intro d s y ws ws' h
    cases ws with
    | nil => rw [eq_nil h]; exact rfl
    | cons w r =>
      obtain ⟨w', r', rfl, h1, h2⟩ := eq_cons h
      simp only [allW, ← (er_in h1).1]
      refine re_ite rfl (re_ite ?_ rfl)
      have a := (gp_stmt w d s y).er r r' h2
      have b := stmt_re h1 d s y r'
      cases e1 : stmtW w d s y r with
      | error e => cases e2 : stmtW w d s y r' with
        | ok v => rw [e1, e2] at a; exact a.elim
        | error e' => cases e3 : stmtW w' d s y r' with
          | ok v => rw [e2, e3] at b; exact b.elim
          | error e'' => rw [e1, e2] at a; rw [e2, e3] at b; exact (show e.Code = e''.Code from Eq.trans (show e.Code = e'.Code from a) b)
      | ok v => cases e2 : stmtW w d s y r' with
        | error e' => rw [e1, e2] at a; exact a.elim
        | ok v' => cases e3 : stmtW w' d s y r' with
          | error e'' => rw [e2, e3] at b; exact b.elim
          | ok v'' =>
            rw [e1, e2] at a
            rw [e2, e3] at b
            obtain ⟨x, r1⟩ := v
            obtain ⟨x', r1'⟩ := v'
            cases b
            obtain ⟨rfl, a⟩ := a
            exact ih x.1 x.2.1 x.2.2 r1 r1' a
end Go.Vc
