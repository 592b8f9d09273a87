import Derived.Test.YtdbnoblklhgdoaaGreatDoorRB
import Derived.Test.YtdbnoblklhgdoaaGreatDoorSH
import Derived.Test.YtdbnoblklhgdoaaGreatDoorRP
import Derived.Test.YtdbnoblklhgdoaaGreatDoorSI
set_option linter.unusedVariables false
set_option linter.unusedSimpArgs false
set_option linter.unusedSectionVars false
namespace Go.Vc
open Go
theorem scT_gd : ∀ (j : Nat) (r : List UInt8) (l : List (Nat × List UInt8 × Tk)), r.length ≤ 65536 → scT j r = .ok l → ∀ p ∈ l, p.2.1 ≠ [] ∧ p.2.2.kind ≠ 7
  | 0, _, _, _, h => by cases h; exact fun p hp => (by cases hp)
  | j + 1, r, l, hl, h => by
    have hs := skL_le r false
    unfold scT at h
    cases hk : skL false r with
    | nil => rw [hk] at h; cases h; exact fun p hp => (by cases hp)
    | cons c t =>
      rw [hk] at h hs
      simp only at h
      cases ht : tok (c :: t) with
      | error p => rw [ht] at h; cases h
      | ok p =>
        obtain ⟨x, n⟩ := p
        obtain ⟨n1, n2, n3, n4, _⟩ := tok_ok (by omega) ht
        rw [ht] at h
        simp only at h
        cases hr : scT j ((c :: t).drop n) with
        | error z => rw [hr] at h; cases h
        | ok l' =>
          rw [hr] at h
          cases h
          have hlen : ((c :: t).take n).length = n := by rw [List.length_take]; omega
          intro p hp
          rcases List.mem_cons.1 hp with rfl | hp
          · exact ⟨fun e => by have e' : (c :: t).take n = [] := e; rw [e'] at hlen; simp only [List.length_nil] at hlen; omega, n4⟩
          · exact scT_gd j _ l' (by rw [List.length_drop]; omega) hr p hp
theorem wds_E7 (s s' : List UInt8) : ∀ (l : List (Nat × List UInt8 × Tk)), (∀ p ∈ l, p.2.1 ≠ [] ∧ p.2.2.kind ≠ 7) → E7 (wds s l ++ [endW s'])
  | [], _ => E7.one _ rfl
  | p :: l, h => E7.cons _ _ (h p (by simp)).2 (wds_E7 s s' l fun q hq => h q (by simp [hq]))
def d0 : Def := ⟨[], [], [], [], [], [], []⟩
def prsP (s : List UInt8) : Def × Fault := match scT 400000 s with
  | .error (m, o, e) => (d0, ⟨((s.length - m : Nat) : Int) + o, e⟩)
  | .ok l => match allW 400000 d0 false false (wds s l ++ [endW s]) with
    | .ok d => (d, ⟨0, 0⟩)
    | .error f => (d0, f)
theorem Sf_of {ws : List Word} (h : E7 ws) (hl : ws.length < 1000000) : Sf ws ws := ⟨by simp, h, hl⟩
theorem Rm_d0 {n : Nat} (h : n ≤ 1000000) : Rm d0 n := ⟨by simp [d0], by simpa [d0] using h, by simpa [d0] using h, by simpa [d0] using h, by simpa [d0] using h⟩
theorem Parse_ok {s : List UInt8} (hb : s.length ≤ 65536) : F.defs.Parse 400000 s = some (prsP s) := by
  unfold F.defs.Parse prsP
  rw [Scan_ok hb, Option.bind_some]
  cases hs : scT 400000 s with
  | error z =>
    obtain ⟨m, o, e⟩ := z
    obtain ⟨_, g2, _⟩ := scT_err _ _ _ _ _ hb hs
    simp only
    rw [if_pos (by simpa using g2)]
    rfl
  | ok l =>
    have hl := scT_len _ _ _ hb hs
    have hg := scT_gd _ _ _ hb hs
    simp only
    rw [if_neg (by simp)]
    have hlen : (wds s l ++ [endW s]).length = l.length + 1 := by simp [wds]
    have hS := Sf_of (wds_E7 s s l hg) (by rw [hlen]; omega)
    obtain ⟨z, z1, z2⟩ := all_l1_ok (k := 400000) (by omega) 400000 400000 d0 false false 0 _ hS (Rm_d0 (by rw [hlen]; omega)) (by rw [hlen]; omega) (by rw [hlen]; omega)
    have hix : ix (wds s l ++ [endW s]) (wds s l ++ [endW s]) = 0 := by simp [ix]
    rw [hix] at z1
    unfold F.defs.reader_all
    show ((F.defs.reader_all_l1 400000 400000 (wds s l ++ [endW s]) 0 d0.Start d0.Layout d0.Prods d0.Chains d0.Follows d0.Rejects d0.Boxes false false 0).bind _).bind _ = _
    rw [z1]
    cases ha : allW 400000 d0 false false (wds s l ++ [endW s]) with
    | error f =>
      rw [ha] at z2
      subst z2
      rfl
    | ok d =>
      rw [ha] at z2
      obtain ⟨a, s', y', n', rfl⟩ := z2
      rfl
theorem allW_nz : ∀ (j : Nat) (d : Def) (s y : Bool) (ws : List Word) (e : Fault), allW j d s y ws = .error e → e.Code ≠ 0 := by
  intro j
  induction j with
  | zero => intro _ _ _ _ _ h; cases h; decide
  | succ j ih =>
    intro d s y ws e h
    cases ws with
    | nil => cases h; decide
    | cons w r =>
      simp only [allW] at h
      split at h
      · cases h
      split at h
      · cases hs : stmtW w d s y r with
        | error e' => rw [hs] at h; cases h; exact (gp_stmt w d s y).nz _ _ hs
        | ok v => rw [hs] at h; exact ih _ _ _ _ _ h
      · cases h; simp
theorem prsP_ok {s : List UInt8} (hb : s.length ≤ 65536) (h : (prsP s).2.Code = 0) : ∃ l, scT 400000 s = .ok l ∧ allW 400000 d0 false false (wds s l ++ [endW s]) = .ok (prsP s).1 := by
  unfold prsP at h ⊢
  cases hs : scT 400000 s with
  | error z =>
    obtain ⟨m, o, e⟩ := z
    obtain ⟨_, g2, _⟩ := scT_err _ _ _ _ _ hb hs
    rw [hs] at h
    exact absurd h g2
  | ok l =>
    rw [hs] at h
    simp only at h ⊢
    refine ⟨l, rfl, ?_⟩
    cases ha : allW 400000 d0 false false (wds s l ++ [endW s]) with
    | error e => rw [ha] at h; exact absurd h (allW_nz _ _ _ _ _ _ ha)
    | ok d => rfl
theorem er_core {l l' : List Word} (h : l.map core = l'.map core) : Eq' l l' := by
  have : ∀ w : Word, er w = (fun c : Int × List UInt8 × List Int × S4 × Int => (⟨c.1, c.2.1, c.2.2.1, c.2.2.2.1, c.2.2.2.2, 0, 0, 0⟩ : Word)) (core w) := fun _ => rfl
  unfold Eq'
  rw [show er = (fun c : Int × List UInt8 × List Int × S4 × Int => (⟨c.1, c.2.1, c.2.2.1, c.2.2.2.1, c.2.2.2.2, 0, 0, 0⟩ : Word)) ∘ core from funext this, ← List.map_map, ← List.map_map, h]
theorem want_len {ws r : List Word} {t : List UInt8} (h : wantP ws t = .ok r) : ws.length = r.length + 1 := by
  cases ws with
  | nil => simp [wantP, isP] at h
  | cons w r1 =>
    unfold wantP at h
    cases hi : isP (w :: r1) t with
    | false => rw [hi] at h; cases h
    | true => rw [hi] at h; cases h; simp
theorem kind_len {ws r : List Word} {w : Word} {k : Int} (h : kindP ws k = .ok (w, r)) : ws.length = r.length + 1 := by
  cases ws with
  | nil => cases h
  | cons w r1 => obtain ⟨_, rfl, _⟩ := kindP_spec h; simp
theorem symsL_le : ∀ (j : Nat) (out c : List Sym) (ws r : List Word), symsL j out ws = .ok (c, r) → out.length ≤ 12 → c.length ≤ 12 := by
  intro j
  induction j with
  | zero => intro _ _ _ _ h; cases h
  | succ j ih =>
    intro out c ws r h ho
    simp only [symsL] at h
    split at h
    · split at h
      · cases h
      · split at h
        · cases h
        · exact ih _ _ _ _ h (by simp; omega)
    · cases h; exact ho
theorem syms_le {ws r : List Word} {c : List Sym} (h : symsW ws = .ok (c, r)) : c.length ≤ 12 := by
  unfold symsW at h
  split at h
  · cases h
  · exact symsL_le _ _ _ _ _ h (by simp)
theorem namesL_le : ∀ (j : Nat) (out c : List (List UInt8)) (ws r : List Word), namesL j out ws = .ok (c, r) → out.length ≤ 16 → c.length ≤ 16 := by
  intro j
  induction j with
  | zero => intro _ _ _ _ h; cases h
  | succ j ih =>
    intro out c ws r h ho
    cases ws with
    | nil => cases h; exact ho
    | cons w r1 =>
      simp only [namesL] at h
      split at h
      · split at h
        · cases h
        · split at h
          · cases h
          · exact ih _ _ _ _ h (by simp; omega)
      · cases h; exact ho
theorem group_le {ws r : List Word} {g : Group} (h : groupW ws = .ok (g, r)) : g.Cons.length ≤ 16 := by
  unfold groupW at h
  split at h
  · cases h
  · split at h
    · cases h
    · rename_i hn
      cases h
      exact namesL_le _ _ _ _ _ hn (by simp)
theorem prioL_le : ∀ (j : Nat) (out c : List Group) (ws r : List Word), prioL j out ws = .ok (c, r) → out.length ≤ 16 ∧ (∀ g ∈ out, g.Cons.length ≤ 16) → c.length ≤ 16 ∧ ∀ g ∈ c, g.Cons.length ≤ 16 := by
  intro j
  induction j with
  | zero => intro _ _ _ _ h; cases h
  | succ j ih =>
    intro out c ws r h ho
    simp only [prioL] at h
    split at h
    · split at h
      · cases h
      · split at h
        · cases h
        · rename_i hg
          refine ih _ _ _ _ h ⟨by simp; omega, fun g hm => ?_⟩
          rcases List.mem_append.1 hm with hm | hm
          · exact ho.2 g hm
          · rw [List.mem_singleton.1 hm]; exact group_le hg
    · cases h; exact ho
theorem prio_le {ws r : List Word} {c : List Group} (h : prioW ws = .ok (c, r)) : c.length ≤ 16 ∧ ∀ g ∈ c, g.Cons.length ≤ 16 := by
  unfold prioW at h
  split at h
  · cases h
  · rename_i hg
    split at h
    · cases h
    · rename_i hp
      split at h
      · cases h
      · cases h
        exact prioL_le _ _ _ _ _ hp ⟨by simp, fun g hm => by rw [List.mem_singleton.1 hm]; exact group_le hg⟩
theorem lexL_le : ∀ (j : Nat) (a c : List UInt8) (ps ps' : List Prod) (ws r : List Word), lexL j a c ps ws = .ok (ps', r) → (∀ p ∈ ps, p.Syms.length ≤ 12) → ps.length < 200 → (∀ p ∈ ps', p.Syms.length ≤ 12) ∧ ps'.length ≤ 200 := by
  intro j
  induction j with
  | zero => intro _ _ _ _ _ _ h; cases h
  | succ j ih =>
    intro a c ps ps' ws r h ho hl
    simp only [lexL] at h
    split at h
    · cases h
    · rename_i hs
      have hn : ∀ x, x.length ≤ 12 → ∀ p ∈ ps ++ [Prod.mk true a c false x], p.Syms.length ≤ 12 := fun x hx p hp => by
        rcases List.mem_append.1 hp with hp | hp
        · exact ho p hp
        · rw [List.mem_singleton.1 hp]; exact hx
      split at h
      · split at h
        · cases h
        · rename_i hne
          exact ih _ _ _ _ _ _ h (hn _ (syms_le hs)) (by simp; omega)
      · cases h; exact ⟨hn _ (syms_le hs), by simp; omega⟩
theorem within_iz {g : Nat → List Word → Pi} (hg : ∀ n ws x m r, g n ws = .ok ((x, m), r) → izL x + r.length ≤ ws.length) {n m : Nat} {ws r : List Word} {x : List Item} (h : withinW g n ws = .ok ((x, m), r)) : izL x + r.length ≤ ws.length := by
  unfold withinW at h
  split at h
  · cases h
  · rename_i h1
    split at h
    · cases h
    · rename_i h2
      split at h
      · cases h
      · rename_i h3
        cases h
        have := want_len h1
        have := want_len h3
        have := hg _ _ _ _ _ h2
        omega
theorem item_iz {g : Nat → List Word → Pi} (hg : ∀ n ws x m r, g n ws = .ok ((x, m), r) → izL x + r.length ≤ ws.length) {n m : Nat} {ws r : List Word} {x : Item} (h : itemW g n ws = .ok ((x, m), r)) : izI x + r.length ≤ ws.length := by
  cases ws with
  | nil => cases h
  | cons w r1 =>
    simp only [itemW] at h
    split at h
    · split at h
      · cases h
      · rename_i hk
        have := kind_len hk
        cases h
        rw [izI_eq]; simp only [izL]; omega
    split at h
    · cases h; rw [izI_eq]; simp [izL]; omega
    split at h
    · cases h; rw [izI_eq]; simp [izL]; omega
    split at h
    · cases h; rw [izI_eq]; simp [izL]; omega
    split at h
    · split at h
      · cases h
      · rename_i hk
        have := kind_len hk
        split at h
        · cases h
        · rename_i hw
          cases h
          have := within_iz hg hw
          rw [izI_eq]; simp only [List.length_cons]; omega
    · split at h
      · cases h
      · rename_i hw
        cases h
        have := within_iz hg hw
        rw [izI_eq]; simp only [List.length_cons]; omega
theorem list_iz : ∀ (f n : Nat) (ws : List Word) (x : List Item) (m : Nat) (r : List Word), listW f n ws = .ok ((x, m), r) → izL x + r.length ≤ ws.length := by
  intro f
  induction f with
  | zero => intro _ _ _ _ _ h; cases h
  | succ f ih =>
    intro n ws x m r h
    simp only [listW] at h
    split at h
    · split at h
      · cases h
      · split at h
        · cases h
        · rename_i h1
          split at h
          · cases h
          · rename_i h2
            cases h
            have := item_iz ih h1
            have := ih _ _ _ _ _ h2
            simp only [izL]
            omega
    · cases h; simp [izL]
theorem okL_of : ∀ (n : Nat) (l : List Item), izL l ≤ n → n ≤ 1000000 → okL l := by
  intro n
  induction n with
  | zero =>
    intro l h _
    have := izL_len l
    have : l = [] := List.length_eq_zero_iff.1 (by omega)
    subst this
    simp [okL]
  | succ n ih =>
    intro l h hn
    have key : ∀ l' : List Item, (∀ x ∈ l', x ∈ l) → okL l' := by
      intro l'
      induction l' with
      | nil => intro _; simp [okL]
      | cons x r ihr =>
        intro hm
        rw [okL]
        refine ⟨(okI_eq x).2 ?_, ihr fun y hy => hm y (by simp [hy])⟩
        have := izL_mem l x (hm x (by simp))
        have h2 := izL_len x.Items
        exact ⟨by omega, ih x.Items (by omega) (by omega)⟩
    exact key l fun _ h => h
theorem box_iz {ws r : List Word} {b : Box} {m : Nat} (h : boxW ws = .ok ((b, m), r)) : izL b.Items + r.length ≤ ws.length := by
  unfold boxW at h
  split at h
  · cases h
  · rename_i h1
    have l1 := gp_name.len _ _ _ h1
    split at h
    · cases h
    · rename_i h2
      split at h
      · cases h
      · rename_i h3
        split at h
        · cases h
        · rename_i h4
          cases h
          have := want_len h2
          have := want_len h4
          have := list_iz _ _ _ _ _ _ h3
          dsimp only
          omega
theorem lexW_le {w : Word} {ps ps' : List Prod} {ws r : List Word} (h : lexW w ps ws = .ok (ps', r)) (hs : ∀ p ∈ ps, p.Syms.length ≤ 12) (hp : ps.length ≤ 200) : (∀ p ∈ ps', p.Syms.length ≤ 12) ∧ ps'.length ≤ 200 := by
  unfold lexW at h
  split at h
  · cases h
  split at h
  · cases h
  split at h
  · cases h
  · rename_i hl
    split at h
    · cases h
    · cases h; exact lexL_le _ _ _ _ _ _ _ hl hs (by omega)
theorem cfW_le {w : Word} {ps ps' : List Prod} {ws r : List Word} (h : cfW w ps ws = .ok (ps', r)) (hs : ∀ p ∈ ps, p.Syms.length ≤ 12) (hp : ps.length ≤ 200) : (∀ p ∈ ps', p.Syms.length ≤ 12) ∧ ps'.length ≤ 200 := by
  unfold cfW at h
  split at h
  · cases h
  split at h
  · cases h
  split at h
  · cases h
  · rename_i hy
    have hn : ∀ b a c, ∀ p ∈ ps ++ [Prod.mk false a c b _], p.Syms.length ≤ 12 := fun b a c p hp => by
      rcases List.mem_append.1 hp with hp | hp
      · exact hs p hp
      · rw [List.mem_singleton.1 hp]; exact syms_le hy
    split at h
    · split at h
      · cases h
      split at h
      · cases h
      · cases h; exact ⟨hn _ _ _, by simp; omega⟩
    · split at h
      · cases h
      · cases h; exact ⟨hn _ _ _, by simp; omega⟩
structure Iv (d : Def) (m N : Nat) : Prop where
  p : d.Prods.length ≤ 200
  sy : ∀ p ∈ d.Prods, p.Syms.length ≤ 12
  c : d.Chains.length + m ≤ N
  cg : ∀ c ∈ d.Chains, c.length ≤ 16 ∧ ∀ g ∈ c, g.Cons.length ≤ 16
  f : d.Follows.length + m ≤ N
  r : d.Rejects.length + m ≤ N
  b : d.Boxes.length + m ≤ N
  z : dz d.Boxes + m ≤ N
theorem dz_app : ∀ a b : List Box, dz (a ++ b) = dz a + dz b
  | [], b => by simp [dz]
  | x :: a, b => by simp only [List.cons_append, dz, dz_app a b]; omega
theorem stmt_iv {w : Word} {d : Def} {s y : Bool} {ws r : List Word} {x : Def × Bool × Bool} {N : Nat} (e : stmtW w d s y ws = .ok (x, r)) (h : Iv d (ws.length + 1) N) : Iv x.1 r.length N := by
  have hlt := (gl_stmt w d s y).lt _ _ _ e
  obtain ⟨h1, h2, h3, h4, h5, h6, h7, h8⟩ := h
  unfold stmtW at e
  by_cases c : w.Text = [115, 116, 97, 114, 116]
  · rw [if_pos c] at e
    by_cases hs : s = true
    · rw [if_pos hs] at e; cases e
    rw [if_neg hs] at e
    cases hx : onceW ws with
    | error e' => rw [hx] at e; cases e
    | ok v =>
      rw [hx] at e; cases e
      exact ⟨h1, h2, by simp only [dS, dL, dP, dC, dFo, dR, dB, List.length_append, List.length_cons, List.length_nil]; omega, h4, by simp only [dS, dL, dP, dC, dFo, dR, dB, List.length_append, List.length_cons, List.length_nil]; omega, by simp only [dS, dL, dP, dC, dFo, dR, dB, List.length_append, List.length_cons, List.length_nil]; omega, by simp only [dS, dL, dP, dC, dFo, dR, dB, List.length_append, List.length_cons, List.length_nil]; omega, by simp only [dS, dL, dP, dC, dFo, dR, dB, List.length_append, List.length_cons, List.length_nil]; omega⟩
  rw [if_neg c] at e
  clear c
  by_cases c : w.Text = [108, 97, 121, 111, 117, 116]
  · rw [if_pos c] at e
    by_cases hs : y = true
    · rw [if_pos hs] at e; cases e
    rw [if_neg hs] at e
    cases hx : onceW ws with
    | error e' => rw [hx] at e; cases e
    | ok v =>
      rw [hx] at e; cases e
      exact ⟨h1, h2, by simp only [dS, dL, dP, dC, dFo, dR, dB, List.length_append, List.length_cons, List.length_nil]; omega, h4, by simp only [dS, dL, dP, dC, dFo, dR, dB, List.length_append, List.length_cons, List.length_nil]; omega, by simp only [dS, dL, dP, dC, dFo, dR, dB, List.length_append, List.length_cons, List.length_nil]; omega, by simp only [dS, dL, dP, dC, dFo, dR, dB, List.length_append, List.length_cons, List.length_nil]; omega, by simp only [dS, dL, dP, dC, dFo, dR, dB, List.length_append, List.length_cons, List.length_nil]; omega⟩
  rw [if_neg c] at e
  clear c
  by_cases c : w.Text = [108, 101, 120]
  · rw [if_pos c] at e
    cases hx : lexW w d.Prods ws with
    | error e' => rw [hx] at e; cases e
    | ok v =>
      rw [hx] at e; cases e
      obtain ⟨z1, z2⟩ := lexW_le (ps' := v.1) (r := v.2) hx h2 h1
      exact ⟨z2, z1, by simp only [dS, dL, dP, dC, dFo, dR, dB, List.length_append, List.length_cons, List.length_nil]; omega, h4, by simp only [dS, dL, dP, dC, dFo, dR, dB, List.length_append, List.length_cons, List.length_nil]; omega, by simp only [dS, dL, dP, dC, dFo, dR, dB, List.length_append, List.length_cons, List.length_nil]; omega, by simp only [dS, dL, dP, dC, dFo, dR, dB, List.length_append, List.length_cons, List.length_nil]; omega, by simp only [dS, dL, dP, dC, dFo, dR, dB, List.length_append, List.length_cons, List.length_nil]; omega⟩
  rw [if_neg c] at e
  clear c
  by_cases c : w.Text = [99, 102]
  · rw [if_pos c] at e
    cases hx : cfW w d.Prods ws with
    | error e' => rw [hx] at e; cases e
    | ok v =>
      rw [hx] at e; cases e
      obtain ⟨z1, z2⟩ := cfW_le (ps' := v.1) (r := v.2) hx h2 h1
      exact ⟨z2, z1, by simp only [dS, dL, dP, dC, dFo, dR, dB, List.length_append, List.length_cons, List.length_nil]; omega, h4, by simp only [dS, dL, dP, dC, dFo, dR, dB, List.length_append, List.length_cons, List.length_nil]; omega, by simp only [dS, dL, dP, dC, dFo, dR, dB, List.length_append, List.length_cons, List.length_nil]; omega, by simp only [dS, dL, dP, dC, dFo, dR, dB, List.length_append, List.length_cons, List.length_nil]; omega, by simp only [dS, dL, dP, dC, dFo, dR, dB, List.length_append, List.length_cons, List.length_nil]; omega⟩
  rw [if_neg c] at e
  clear c
  by_cases c : w.Text = [112, 114, 105, 111]
  · rw [if_pos c] at e
    cases hx : prioW ws with
    | error e' => rw [hx] at e; cases e
    | ok v =>
      rw [hx] at e; cases e
      refine ⟨h1, h2, by simp only [dS, dL, dP, dC, dFo, dR, dB, List.length_append, List.length_cons, List.length_nil]; omega, fun c hc => ?_, by simp only [dS, dL, dP, dC, dFo, dR, dB, List.length_append, List.length_cons, List.length_nil]; omega, by simp only [dS, dL, dP, dC, dFo, dR, dB, List.length_append, List.length_cons, List.length_nil]; omega, by simp only [dS, dL, dP, dC, dFo, dR, dB, List.length_append, List.length_cons, List.length_nil]; omega, by simp only [dS, dL, dP, dC, dFo, dR, dB, List.length_append, List.length_cons, List.length_nil]; omega⟩
      rcases List.mem_append.1 hc with hc | hc
      · exact h4 c hc
      · rw [List.mem_singleton.1 hc]; exact prio_le (c := v.1) (r := v.2) hx
  rw [if_neg c] at e
  clear c
  by_cases c : w.Text = [102, 111, 108, 108, 111, 119]
  · rw [if_pos c] at e
    cases hx : followW ws with
    | error e' => rw [hx] at e; cases e
    | ok v =>
      rw [hx] at e; cases e
      exact ⟨h1, h2, by simp only [dS, dL, dP, dC, dFo, dR, dB, List.length_append, List.length_cons, List.length_nil]; omega, h4, by simp only [dS, dL, dP, dC, dFo, dR, dB, List.length_append, List.length_cons, List.length_nil]; omega, by simp only [dS, dL, dP, dC, dFo, dR, dB, List.length_append, List.length_cons, List.length_nil]; omega, by simp only [dS, dL, dP, dC, dFo, dR, dB, List.length_append, List.length_cons, List.length_nil]; omega, by simp only [dS, dL, dP, dC, dFo, dR, dB, List.length_append, List.length_cons, List.length_nil]; omega⟩
  rw [if_neg c] at e
  clear c
  by_cases c : w.Text = [114, 101, 106, 101, 99, 116]
  · rw [if_pos c] at e
    cases hx : rejectW ws with
    | error e' => rw [hx] at e; cases e
    | ok v =>
      rw [hx] at e; cases e
      exact ⟨h1, h2, by simp only [dS, dL, dP, dC, dFo, dR, dB, List.length_append, List.length_cons, List.length_nil]; omega, h4, by simp only [dS, dL, dP, dC, dFo, dR, dB, List.length_append, List.length_cons, List.length_nil]; omega, by simp only [dS, dL, dP, dC, dFo, dR, dB, List.length_append, List.length_cons, List.length_nil]; omega, by simp only [dS, dL, dP, dC, dFo, dR, dB, List.length_append, List.length_cons, List.length_nil]; omega, by simp only [dS, dL, dP, dC, dFo, dR, dB, List.length_append, List.length_cons, List.length_nil]; omega⟩
  rw [if_neg c] at e
  clear c
  by_cases c : w.Text = [98, 111, 120]
  · rw [if_pos c] at e
    cases hx : boxW ws with
    | error e' => rw [hx] at e; cases e
    | ok v =>
      rw [hx] at e; cases e
      have := box_iz (b := v.1.1) (m := v.1.2) (r := v.2) hx
      exact ⟨h1, h2, by simp only [dS, dL, dP, dC, dFo, dR, dB, List.length_append, List.length_cons, List.length_nil]; omega, h4, by simp only [dS, dL, dP, dC, dFo, dR, dB, List.length_append, List.length_cons, List.length_nil]; omega, by simp only [dS, dL, dP, dC, dFo, dR, dB, List.length_append, List.length_cons, List.length_nil]; omega, by simp only [dS, dL, dP, dC, dFo, dR, dB, List.length_append, List.length_cons, List.length_nil]; omega, by simp only [dB, dz_app, dz]; omega⟩
  rw [if_neg c] at e
  clear c
  cases e
theorem allW_iv {N : Nat} : ∀ (j : Nat) (d d' : Def) (s y : Bool) (ws : List Word), Iv d ws.length N → allW j d s y ws = .ok d' → Iv d' 0 N := by
  intro j
  induction j with
  | zero => intro _ _ _ _ _ _ h; cases h
  | succ j ih =>
    intro d d' s y ws hI h
    cases ws with
    | nil => cases h
    | cons w r =>
      simp only [allW] at h
      split at h
      · cases h
        obtain ⟨h1, h2, h3, h4, h5, h6, h7, h8⟩ := hI
        exact ⟨h1, h2, by omega, h4, by omega, by omega, by omega, by omega⟩
      split at h
      · cases hs : stmtW w d s y r with
        | error e => rw [hs] at h; cases h
        | ok v => rw [hs] at h; exact ih _ _ _ _ _ (stmt_iv hs hI) h
      · cases h
theorem prsP_iv {s : List UInt8} (hb : s.length ≤ 60000) (h : (prsP s).2.Code = 0) : Iv (prsP s).1 0 (s.length + 1) := by
  obtain ⟨l, l1, l2⟩ := prsP_ok (by omega) h
  have hl := scT_len _ _ _ (by omega) l1
  refine allW_iv _ _ _ _ _ _ ?_ l2
  have hlen : (wds s l ++ [endW s]).length = l.length + 1 := by simp [wds]
  rw [hlen]
  exact ⟨by simp [d0], fun p hp => (by cases hp), by simp [d0]; omega, fun c hc => (by cases hc), by simp [d0]; omega, by simp [d0]; omega, by simp [d0]; omega, by simp [d0, dz]; omega⟩
theorem iv_bd {d : Def} {N : Nat} (h : Iv d 0 N) (hN : N ≤ 30000) : Bd d ∧ okBx d ∧ 200000 + 4 * dz d.Boxes ≤ 400000 := by
  obtain ⟨h1, h2, h3, h4, h5, h6, h7, h8⟩ := h
  refine ⟨⟨by omega, fun p hp => by have := h2 p hp; omega, by omega, fun c hc => by have := (h4 c hc).1; omega, fun c hc g hg => by have := (h4 c hc).2 g hg; omega, by omega, by omega, by omega⟩, fun b hb => ?_, by omega⟩
  have := dz_mem _ _ hb
  have := izL_len b.Items
  exact ⟨by omega, okL_of _ _ (Nat.le_refl _) (by omega)⟩
theorem prsP_iv0 {s : List UInt8} (hb : s.length ≤ 60000) : Iv (prsP s).1 0 (s.length + 1) := by
  by_cases h : (prsP s).2.Code = 0
  · exact prsP_iv hb h
  · have e : (prsP s).1 = d0 := by
      unfold prsP at h ⊢
      cases hs : scT 400000 s with
      | error z => rfl
      | ok l =>
        rw [hs] at h
        simp only at h ⊢
        cases ha : allW 400000 d0 false false (wds s l ++ [endW s]) with
        | error f => rfl
        | ok d => rw [ha] at h; exact absurd rfl h
    rw [e]
    exact ⟨by simp [d0], fun p hp => (by cases hp), by simp [d0], fun c hc => (by cases hc), by simp [d0], by simp [d0], by simp [d0], by simp [d0, dz]⟩
theorem prsP_core {s s' : List UInt8} {l l' : List (Nat × List UInt8 × Tk)} (h : scT 400000 s = .ok l) (h' : scT 400000 s' = .ok l') (e : l.map (fun p => p.2) = l'.map fun p => p.2) : (prsP s).1 = (prsP s').1 ∧ (prsP s).2.Code = (prsP s').2.Code := by
  have hc : ∀ (s' : List UInt8) (l : List (Nat × List UInt8 × Tk)), (wds s' l).map core = (l.map fun p => p.2).map fun q => core (wd [] 0 q.1 q.2) := by
    intro s' l
    simp only [wds, List.map_map]
    rfl
  have hw : Eq' (wds s l ++ [endW s]) (wds s' l' ++ [endW s']) := by
    apply er_core
    rw [List.map_append, List.map_append, hc, hc, e]
    rfl
  have hr := allW_er 400000 d0 false false _ _ hw
  unfold prsP
  rw [h, h']
  simp only
  cases h1 : allW 400000 d0 false false (wds s l ++ [endW s]) with
  | error f => cases h2 : allW 400000 d0 false false (wds s' l' ++ [endW s']) with
    | error f' => rw [h1, h2] at hr; exact ⟨rfl, hr⟩
    | ok d' => rw [h1, h2] at hr; exact hr.elim
  | ok d => cases h2 : allW 400000 d0 false false (wds s' l' ++ [endW s']) with
    | error f' => rw [h1, h2] at hr; exact hr.elim
    | ok d' => rw [h1, h2] at hr; exact ⟨hr, rfl⟩
theorem law_Blanks {s : List UInt8} (_ : s.length ≤ 140737488351232) : F.law03.DefsBlanks 400000 s = some true := by
  have hal : F.law03.alive 400000 = some true := alive_K 200000
  unfold F.law03.DefsBlanks
  by_cases h : 20000 < s.length
  · rw [if_pos (by rw [decide_eq_true_eq]; omega), hal]; rfl
  rw [if_neg (by rw [decide_eq_true_eq]; omega), Scan_ok (by omega), Option.bind_some]
  cases h1 : scT 400000 s with
  | error z =>
    obtain ⟨m, o, e⟩ := z
    obtain ⟨g1, g2, g3, g4⟩ := scT_err _ _ _ _ _ (by omega) h1
    simp only
    rw [if_pos (by simpa using g2), Parse_ok (by omega), Option.bind_some, hal, Option.bind_some, if_pos rfl]
    unfold prsP
    rw [h1]
    simp
  | ok l =>
    have hl := scT_len _ _ _ (by omega) h1
    obtain ⟨hg, hjl⟩ := scT_all _ _ _ (by omega) h1
    simp only
    have el : (wds s l ++ [endW s]).length = l.length + 1 := by simp [wds]
    rw [if_neg (by simp), Parse_ok (by omega), Option.bind_some]
    have hjt := hjl true
    have hjf := hjl false
    obtain ⟨a, hj⟩ := Join_l1_ok (all := wds s l ++ [endW s]) (by omega) 400000 0 false [] _ rfl (by rw [List.drop_zero, el]; omega) (by rw [List.drop_zero, wds_filter s l hg, List.length_nil]; omega) (fun w hw h7 => by
      rw [List.drop_zero] at hw
      rcases List.mem_append.1 hw with hw | hw
      · obtain ⟨p, hp, rfl⟩ := List.mem_map.1 hw
        exact (hg p hp).1
      · rw [List.mem_singleton] at hw
        subst hw
        exact absurd rfl h7)
    rw [List.drop_zero, wds_filter s l hg, zero_cast] at hj
    have hJ : F.words.Join 400000 (wds s l ++ [endW s]) = some (jnT false (l.map fun p => p.2.1)) := by
      unfold F.words.Join
      rw [hj, Option.bind_some]
      unfold F.strings.Builder_String
      simp only [List.nil_append]
      rw [if_pos (ofS_ok _), toS_ofS']
      rfl
    obtain ⟨l', e1, e2⟩ := scT_join l false 400000 hg (by omega)
    rw [hJ, Option.bind_some, Parse_ok (by omega), Option.bind_some, hal, Option.bind_some, if_pos rfl]
    obtain ⟨b1, b2, b3⟩ := iv_bd (prsP_iv0 (s := s) (by omega)) (by omega)
    obtain ⟨c1, c2⟩ := prsP_core h1 e1 e2.symm
    rw [SameR_ok b3 b1 b2, Option.bind_some, c1, ceq_self, if_pos rfl, c2]
    simp
end Go.Vc
