/-
  Trees of a grammar, with a part taken for another one: the law TreesStay.
-/
import Derived.Test.YtncbbbjakbaojaaDoorTM
import Derived.Test.YtncbbbjakbaojaaDoorTG
set_option linter.unusedVariables false
set_option linter.unusedSimpArgs false
namespace Go.Vc
open Go
def leafOk (s : KSym) (k : Tree) : Bool := decide (k.Rule = -1) && (decide (k.Kids.length = 0) && (F.charset.Has (S4.mk s.Set.w0 s.Set.w1 s.Set.w2 s.Set.w3) k.Byte).getD false)
mutual
/-- is a tree one of a nonterminal? -/
def fitP (g : Gram) (nt : Int) : Tree → Bool
  | .mk r b ks => decide (0 ≤ r) && (decide (r < (g.Rules.length : Int)) && (decide (b = 0) && (decide ((at_ g.Rules r).Lhs = nt) && (decide ((at_ g.Rules r).Rhs.length = ks.length) && fitL g (at_ g.Rules r).Rhs ks))))
def fitL (g : Gram) : List KSym → List Tree → Bool
  | _, [] => true
  | [], _ :: _ => true
  | s :: ss, k :: ks => (if 0 ≤ s.Nt then fitP g s.Nt k else leafOk s k) && fitL g ss ks
end
def cnd (g : Gram) (s : KSym) (k : Tree) : Bool := if 0 ≤ s.Nt then fitP g s.Nt k else leafOk s k
theorem fitP_eq (g : Gram) (nt : Int) (t : Tree) : fitP g nt t = (decide (0 ≤ t.Rule) && (decide (t.Rule < (g.Rules.length : Int)) && (decide (t.Byte = 0) && (decide ((at_ g.Rules t.Rule).Lhs = nt) && (decide ((at_ g.Rules t.Rule).Rhs.length = t.Kids.length) && fitL g (at_ g.Rules t.Rule).Rhs t.Kids))))) := by cases t; rw [fitP]
theorem fitL_cons (g : Gram) (s : KSym) (ss : List KSym) (k : Tree) (ks : List Tree) : fitL g (s :: ss) (k :: ks) = (cnd g s k && fitL g ss ks) := by rw [fitL]; rfl
theorem fitL_nil (g : Gram) (ss : List KSym) : fitL g ss [] = true := by cases ss <;> rw [fitL]
theorem fitL_get {g : Gram} : ∀ (ss : List KSym) (ks : List Tree) (n : Nat) (h1 : n < ss.length) (h2 : n < ks.length), fitL g ss ks = true → cnd g ss[n] ks[n] = true
  | s :: ss, k :: ks, 0, _, _, h => by
    rw [fitL_cons, Bool.and_eq_true] at h
    exact h.1
  | s :: ss, k :: ks, n + 1, h1, h2, h => by
    rw [fitL_cons, Bool.and_eq_true] at h
    exact fitL_get ss ks n (by simpa using h1) (by simpa using h2) h.2
  | [], _, _, h1, _, _ => by simp at h1
  | _ :: _, [], _, _, h2, _ => by simp at h2
theorem fitL_set {g : Gram} : ∀ (ss : List KSym) (ks : List Tree) (n : Nat) (y : Tree) (h1 : n < ss.length) (h2 : n < ks.length), fitL g ss ks = true → fitL g ss (ks.set n y) = cnd g ss[n] y
  | s :: ss, k :: ks, 0, y, _, _, h => by
    rw [fitL_cons, Bool.and_eq_true] at h
    rw [List.set_cons_zero, fitL_cons, h.2, Bool.and_true]
    rfl
  | s :: ss, k :: ks, n + 1, y, h1, h2, h => by
    rw [fitL_cons, Bool.and_eq_true] at h
    rw [List.set_cons_succ, fitL_cons, h.1, Bool.true_and]
    exact fitL_set ss ks n y (by simpa using h1) (by simpa using h2) h.2
  | [], _, _, _, h1, _, _ => by simp at h1
  | _ :: _, [], _, _, _, h2, _ => by simp at h2
/-! ### the program's answer -/
theorem fits_l_ok {g : Gram} {t : Tree} {g40 : Gram → Int → Tree → Option Bool} {r : Nat} (hr : t.Rule = (r : Int)) (hrl : r < g.Rules.length) (hle : g.Rules[r].Rhs.length = t.Kids.length) (hb : t.Kids.length < 1000000)
    (hS : ∀ s ∈ g.Rules[r].Rhs, okS s.Set) (hok : okTs t.Kids) (hg : ∀ u, u ∈ t.Kids → ∀ nt, g40 g nt u = some (fitP g nt u)) :
    ∀ (j i : Nat), i ≤ t.Kids.length → t.Kids.length - i < j → F.trees.fits_l1 g t g40 j i = some (if fitL g (g.Rules[r].Rhs.drop i) (t.Kids.drop i) = true then .done () else .ret false)
  | 0, _, _, h => by omega
  | j + 1, i, h1, h2 => by
    simp only [F.trees.fits_l1, hr]
    rw [ix_at hrl]
    by_cases hi : i < t.Kids.length
    · have hi' : i < g.Rules[r].Rhs.length := by omega
      rw [ix_lt hi', ix_in hi', ix_in hi, ix_at hi, ix_at hi', List.drop_eq_getElem_cons hi, List.drop_eq_getElem_cons hi', fitL_cons]
      simp only [if_true]
      have ih := fits_l_ok hr hrl hle hb hS hok hg j (i + 1) (by omega) (by omega)
      obtain ⟨b, hb1, hb2⟩ := kid_byte (okTs_mem hok _ (List.getElem_mem hi))
      have hset := hS _ (List.getElem_mem hi')
      have hHas : F.charset.Has (S4.mk g.Rules[r].Rhs[i].Set.w0 g.Rules[r].Rhs[i].Set.w1 g.Rules[r].Rhs[i].Set.w2 g.Rules[r].Rhs[i].Set.w3) t.Kids[i].Byte = some (bit g.Rules[r].Rhs[i].Set b) := by
        rw [hb2]; exact Has_bit hset hb1
      simp only [F.trees.fits_j3, F.trees.fits_j2, ix_inc (show i < 4611686018427387904 by omega), ih]
      unfold cnd
      by_cases hn : 0 ≤ g.Rules[r].Rhs[i].Nt
      · have d1 : decide (0 ≤ g.Rules[r].Rhs[i].Nt) = true := decide_eq_true hn
        simp only [d1, if_true, if_pos hn, hg _ (List.getElem_mem hi), Option.bind_some]
        cases fitP g g.Rules[r].Rhs[i].Nt t.Kids[i] <;> simp
      · have d1 : decide (0 ≤ g.Rules[r].Rhs[i].Nt) = false := decide_eq_false hn
        simp only [d1, Bool.false_eq_true, if_false, if_neg hn]
        unfold leafOk
        rw [hHas]
        by_cases hk1 : t.Kids[i].Rule = -1
        · have c2 : (t.Kids[i].Rule != -1) = false := by simpa using hk1
          simp only [c2, Bool.false_eq_true, if_false, decide_eq_true hk1, Bool.true_and]
          by_cases hk2 : t.Kids[i].Kids.length = 0
          · have c4 : decide (0 < (t.Kids[i].Kids.length : Int)) = false := decide_eq_false (by omega)
            simp only [c4, Bool.false_eq_true, if_false, decide_eq_true hk2, Bool.true_and, Option.bind_some, Option.getD_some]
            cases bit g.Rules[r].Rhs[i].Set b <;> simp
          · have c4 : decide (0 < (t.Kids[i].Kids.length : Int)) = true := decide_eq_true (by omega)
            simp only [c4, if_true, decide_eq_false hk2, Bool.false_and, Bool.false_eq_true, if_false]
        · have c2 : (t.Kids[i].Rule != -1) = true := by simpa using hk1
          simp only [c2, if_true, decide_eq_false hk1, Bool.false_and, Bool.false_eq_true, if_false]
    · have hi' : ¬ i < g.Rules[r].Rhs.length := by omega
      rw [ix_ge hi', List.drop_eq_nil_of_le (show t.Kids.length ≤ i by omega), fitL_nil]
      rfl
theorem fits_ok : ∀ (k : Nat) (g : Gram) (nt : Int) (t : Tree), okG g → okT t → sz t < k → k ≤ 1000000 → F.trees.fits k g nt t = some (fitP g nt t)
  | 0, _, _, _, _, _, h, _ => by omega
  | k + 1, g, nt, t, hG, hok, hk, hB => by
    show F.trees.fits_B k (F.trees.fits k) g nt t = _
    have hs := sz_eq t
    have hl := len_sz t
    obtain ⟨_, _, _, hoks⟩ := (okT_eq t).1 hok
    unfold F.trees.fits_B
    rw [fitP_eq]
    by_cases h1 : t.Rule < 0
    · rw [if_pos (by simpa using h1), decide_eq_false (show ¬ (0 ≤ t.Rule) by omega)]; rfl
    rw [if_neg (by simpa using h1), decide_eq_true (show 0 ≤ t.Rule by omega), Bool.true_and]
    by_cases h2 : (g.Rules.length : Int) ≤ t.Rule
    · rw [if_pos (by simpa using h2), decide_eq_false (show ¬ (t.Rule < (g.Rules.length : Int)) by omega)]; rfl
    rw [if_neg (by simpa using h2), decide_eq_true (show t.Rule < (g.Rules.length : Int) by omega), Bool.true_and]
    by_cases h3 : t.Byte = 0
    case neg => rw [if_pos (by simpa using h3), decide_eq_false h3]; rfl
    rw [if_neg (by simpa using h3), decide_eq_true h3, Bool.true_and]
    obtain ⟨r, hr⟩ : ∃ r : Nat, t.Rule = (r : Int) := ⟨t.Rule.toNat, by omega⟩
    have hrl : r < g.Rules.length := by omega
    rw [hr, ix_in hrl, if_pos rfl, ix_at hrl]
    by_cases h4 : g.Rules[r].Lhs = nt
    case neg => rw [if_pos (by simpa using h4), decide_eq_false h4]; rfl
    rw [if_neg (by simpa using h4), decide_eq_true h4, Bool.true_and]
    by_cases h5 : g.Rules[r].Rhs.length = t.Kids.length
    case neg => rw [if_pos (by simp; omega), decide_eq_false h5]; rfl
    rw [if_neg (by simp; omega), decide_eq_true h5, Bool.true_and]
    have := fits_l_ok (g := g) (t := t) (g40 := F.trees.fits k) hr hrl h5 (by omega) (fun s hs => ((hG.2.2.2 _ (List.getElem_mem hrl)).2.2 s hs).2) hoks
      (fun u hu nt => fits_ok k g nt u hG (okTs_mem hoks u hu) (by have := sz_mem hu; omega) (by omega)) k 0 (by omega) (by omega)
    rw [zero_cast, List.drop_zero, List.drop_zero] at this
    rw [this, Option.bind_some]
    cases fitL g g.Rules[r].Rhs t.Kids <;> rfl
/-! ### a part taken for another one -/
theorem stay {g : Gram} {old : Tree} : ∀ (p : List Int) (nt : Int) (t : Tree), fitP g nt t = true → atT t p = some old → old.Rule = -1 ∨ ∃ r : Nat, ∃ hr : r < g.Rules.length, old.Rule = (r : Int) ∧ fitP g g.Rules[r].Lhs old = true ∧ ∀ s x, putT t p s = some x → fitP g nt x = fitP g g.Rules[r].Lhs s
  | [], nt, t, hf, ha => by
    have e : t = old := Option.some.inj ha
    rw [← e]
    have hf' := hf
    rw [fitP_eq] at hf
    simp only [Bool.and_eq_true, decide_eq_true_eq] at hf
    obtain ⟨h1, h2, h3, h4, h5, h6⟩ := hf
    have hr : t.Rule.toNat < g.Rules.length := by omega
    have hat : at_ g.Rules t.Rule = g.Rules[t.Rule.toNat] := by simp [at_, hr]
    rw [hat] at h4
    refine .inr ⟨t.Rule.toNat, hr, by omega, by rw [h4]; exact hf', fun s x hx => ?_⟩
    have h' : putT t [] s = some s := by cases t; rfl
    rw [h'] at hx
    cases hx
    rw [h4]
  | i :: p, nt, t, hf, ha => by
    have hf' := hf
    rw [fitP_eq] at hf
    simp only [Bool.and_eq_true, decide_eq_true_eq] at hf
    obtain ⟨h1, h2, h3, h4, h5, h6⟩ := hf
    unfold atT at ha
    split at ha
    case isFalse => cases ha
    rename_i hi
    obtain ⟨g1, g2⟩ := at_get hi
    have hn1 : i.toNat < (at_ g.Rules t.Rule).Rhs.length := by omega
    have hc := fitL_get _ _ i.toNat hn1 g1 h6
    rw [← g2] at hc
    by_cases hnt : 0 ≤ ((at_ g.Rules t.Rule).Rhs[i.toNat]'hn1).Nt
    · unfold cnd at hc
      rw [if_pos hnt] at hc
      rcases stay p _ _ hc ha with h | ⟨r, hr, e1, e2, e3⟩
      · exact .inl h
      · refine .inr ⟨r, hr, e1, e2, fun s x hx => ?_⟩
        rw [putT_eq, if_pos hi] at hx
        obtain ⟨y, k1, k2⟩ := Option.map_eq_some_iff.1 hx
        subst k2
        rw [← e3 s y k1, fitP_eq]
        show (decide (0 ≤ t.Rule) && (decide (t.Rule < (g.Rules.length : Int)) && (decide (t.Byte = 0) && (decide ((at_ g.Rules t.Rule).Lhs = nt) && (decide ((at_ g.Rules t.Rule).Rhs.length = (t.Kids.set i.toNat y).length) && fitL g (at_ g.Rules t.Rule).Rhs (t.Kids.set i.toNat y)))))) = _
        rw [decide_eq_true h1, decide_eq_true h2, decide_eq_true h3, decide_eq_true h4, List.length_set, decide_eq_true h5, fitL_set _ _ _ y hn1 g1 h6]
        unfold cnd
        rw [if_pos hnt]
        rfl
    · unfold cnd at hc
      rw [if_neg hnt] at hc
      unfold leafOk at hc
      simp only [Bool.and_eq_true, decide_eq_true_eq] at hc
      cases p with
      | nil => cases ha; exact .inl hc.1
      | cons q p =>
        unfold atT at ha
        rw [if_neg (by rw [inR_iff, hc.2.1]; omega)] at ha
        cases ha
theorem okT_at : ∀ (p : List Int) (t u : Tree), okT t → atT t p = some u → okT u
  | [], t, u, h, e => by cases e; exact h
  | i :: p, t, u, h, e => by
    unfold atT at e
    split at e
    · rename_i hi
      obtain ⟨g1, g2⟩ := at_get hi
      refine okT_at p _ u ?_ e
      rw [g2]
      exact okTs_mem ((okT_eq t).1 h).2.2.2 _ (List.getElem_mem g1)
    · cases e
theorem okT_put : ∀ (p : List Int) (t s x : Tree), okT t → okT s → putT t p s = some x → okT x
  | [], t, s, x, h, hs, e => by
    have h' : putT t [] s = some s := by cases t; rfl
    rw [h'] at e
    cases e
    exact hs
  | i :: p, t, s, x, h, hs, e => by
    rw [putT_eq] at e
    split at e
    · rename_i hi
      obtain ⟨y, k1, k2⟩ := Option.map_eq_some_iff.1 e
      subst k2
      obtain ⟨g1, g2⟩ := at_get hi
      obtain ⟨a1, a2, a3, a4⟩ := (okT_eq t).1 h
      have hy := okT_put p _ s y (by rw [g2]; exact okTs_mem a4 _ (List.getElem_mem g1)) hs k1
      refine (okT_eq _).2 ⟨a1, a2, by simpa [set_] using a3, okTs_of fun u hu => ?_⟩
      rcases List.mem_or_eq_of_mem_set hu with hu | rfl
      · exact okTs_mem a4 u hu
      · exact hy
    · cases e
theorem gl2 {k : Nat} {g : Gram} : ∀ (j i : Nat), g.Rules.length < 1000000 → F.facts.Right_l2 k g j (i : Int) = some (.done ()) → ∀ (q : Nat) (hq : q < g.Rules.length), i ≤ q → 0 ≤ g.Rules[q].Lhs ∧ g.Rules[q].Lhs < g.Nts
  | 0, _, _, h, _, _, _ => by cases h
  | j + 1, i, hb, h, q, hq, hiq => by
    have hi : i < g.Rules.length := by omega
    simp only [F.facts.Right_l2] at h
    rw [ix_lt hi, if_pos rfl, ix_in hi, if_pos rfl, ix_at hi] at h
    split at h
    · cases h
    rename_i c1
    split at h
    · cases h
    rename_i c2
    split at h
    · cases h
    cases h3 : F.facts.Right_l3 g (i : Int) k 0 with
    | none => rw [h3] at h; cases h
    | some o =>
      rw [h3, Option.bind_some] at h
      cases o with
      | ret b => cases h
      | done d =>
        have h' : F.facts.Right_l2 k g j (IntKind.wrap .i64 ((i : Int) + 1)) = some (.done ()) := h
        rw [ix_inc (by omega)] at h'
        by_cases he : q = i
        · subst he
          simp only [decide_eq_true_eq] at c1 c2
          omega
        · exact gl2 j (i + 1) hb h' q hq (by omega)
theorem gram_lhs {k : Nat} {g : Gram} (hk : 9000 ≤ k) (h : F.facts.Right k g = some 0) : ∀ (q : Nat) (hq : q < g.Rules.length), 0 ≤ g.Rules[q].Lhs ∧ g.Rules[q].Lhs < g.Nts := by
  unfold F.facts.Right at h
  have bad : F.facts.Right_j1 k g true = some 0 → False := by
    unfold F.facts.Right_j1
    rw [if_pos rfl]
    intro h
    cases h
  split at h
  · exact (bad h).elim
  rename_i n1
  split at h
  · exact (bad h).elim
  split at h
  · exact (bad h).elim
  split at h
  · exact (bad h).elim
  unfold F.facts.Right_j1 at h
  split at h
  · cases h
  rename_i n2
  have hl : g.Rules.length ≤ 8192 := by simp only [decide_eq_true_eq] at n2; omega
  have hn : 1 ≤ g.Nts := by simp only [decide_eq_true_eq] at n1; omega
  obtain ⟨o, e, h3⟩ := gr_l2_ok (k := k) (g := g) (by omega) hl k 0 (by omega) (by omega)
  rw [zero_cast, ← gr_l2_eq hn] at e
  rw [e, Option.bind_some] at h
  cases o with
  | ret b =>
    have := h3 b rfl
    subst this
    cases h
  | done d => exact fun q hq => gl2 k 0 (by omega) e q hq (by omega)
theorem Right_val {k : Nat} {g : Gram} {nt : Int} {t : Tree} (hG : okG g) (hok : okT t) (hs : sz t < k) (hB : k ≤ 1000000) (hg : F.facts.Right k g = some 0) : F.trees.Right k g nt t = some (if 0 ≤ nt ∧ nt < g.Nts then (if fitP g nt t = true then 0 else 90) else 1) := by
  unfold F.trees.Right
  rw [hg, Option.bind_some, if_neg (by simp)]
  by_cases h1 : nt < 0
  · rw [if_pos (by simpa using h1), if_neg (by omega)]
  rw [if_neg (by simpa using h1)]
  by_cases h2 : g.Nts ≤ nt
  · rw [if_pos (by simpa using h2), if_neg (by omega)]
  rw [if_neg (by simpa using h2), if_pos (by omega), fits_ok k g nt t hG hok hs hB, Option.bind_some]
  cases fitP g nt t <;> rfl
theorem law_Stay {g : Gram} {t s : Tree} {path : List Int} (hG : okG g) (ht : okT t) (_ : ∀ m ∈ path, i64b m) (hs : okT s) : F.law09.TreesStay 100000 g t path s = some true := by
  have jt : F.law09.TreesStay_j1 100000 g t path s true = some true := by
    unfold F.law09.TreesStay_j1
    rw [if_pos rfl, alive_K]
    rfl
  unfold F.law09.TreesStay
  rw [heavy_ok (by omega) t, Option.bind_some]
  by_cases h1 : 1500 < sz t
  · rw [decide_eq_true h1, if_pos rfl, jt]
  rw [decide_eq_false h1, if_neg (by simp), heavy_ok (by omega) s, Option.bind_some]
  by_cases h2 : 1500 < sz s
  · rw [decide_eq_true h2, if_pos rfl, jt]
  rw [decide_eq_false h2, if_neg (by simp)]
  obtain ⟨hv, e⟩ := Heavy_ok (k := 100000) hG (by omega)
  rw [e, Option.bind_some]
  cases hv with
  | true => rw [if_pos rfl, jt]
  | false =>
    rw [if_neg (by simp)]
    by_cases h3 : 1000 < path.length
    · rw [decide_eq_true (show (1000 : Int) < (path.length : Int) by omega), jt]
    rw [decide_eq_false (show ¬ (1000 : Int) < (path.length : Int) by omega)]
    unfold F.law09.TreesStay_j1
    rw [if_neg (by simp)]
    obtain ⟨gv, ge, g03⟩ := gr_ok (k := 100000) g (by omega)
    rw [← gr_eq] at ge
    rcases g03 with rfl | rfl
    case inr =>
      have : F.trees.Right 100000 g g.Start t = some 3 := by
        unfold F.trees.Right
        rw [ge, Option.bind_some, if_pos (by simp)]
      rw [this, Option.bind_some, if_pos (by simp), alive_K]
      rfl
    rw [Right_val hG ht (by omega) (by omega) ge, Option.bind_some]
    by_cases hst : 0 ≤ g.Start ∧ g.Start < g.Nts
    case neg =>
      rw [if_neg hst, if_pos (by simp), alive_K]
      rfl
    rw [if_pos hst]
    cases hf : fitP g g.Start t with
    | false =>
      rw [show (if false = true then (0 : Int) else 90) = 90 from rfl, if_pos (by simp), alive_K]
      rfl
    | true =>
      rw [if_pos rfl, if_neg (by simp), At_ok (by omega) (by omega) (by omega), Option.bind_some]
      cases ha : atT t path with
      | none =>
        simp only
        rw [if_pos (by simp)]
        unfold F.law09.TreesStay_j2
        rw [if_pos rfl, alive_K, Option.bind_some, if_pos rfl, if_pos (by simp)]
      | some old =>
        simp only
        rw [if_neg (by simp)]
        rcases stay path g.Start t hf ha with hm | ⟨r, hr, e1, e2, e3⟩
        · rw [if_pos (by simp [hm])]
          unfold F.law09.TreesStay_j2
          rw [if_pos rfl, alive_K, Option.bind_some, if_pos rfl, if_neg (by simp)]
          simp [hm]
        · rw [if_neg (by simp [e1]), decide_eq_false (show ¬ (g.Rules.length : Int) ≤ old.Rule by omega)]
          unfold F.law09.TreesStay_j2
          have hio : inR old.Rule g.Rules.length = true := by rw [e1]; exact ix_in hr
          have hao : at_ g.Rules old.Rule = g.Rules[r] := by rw [e1]; exact ix_at hr
          obtain ⟨x, hx⟩ := putT_some path t old s ha
          have hxs := putT_sz _ _ _ _ hx
          have hos := atT_sz _ _ _ ha
          have hlr := gram_lhs (by omega) ge r hr
          simp only [hao]
          rw [if_neg (by simp), if_pos hio, Put_ok (by omega) (by omega) (by omega) (by omega), ha]
          simp only
          rw [hx, Option.map_some, Option.bind_some, Right_val hG hs (by omega) (by omega) ge, Option.bind_some, alive_K, Option.bind_some, if_pos rfl, if_pos (by simp), Right_val hG (okT_at _ _ _ ht ha) (by omega) (by omega) ge, Option.bind_some, if_pos hlr, if_pos hlr, if_pos e2, if_pos (by simp), Right_val hG (okT_put _ _ _ _ ht hs hx) (by show sz x < 100000; omega) (by omega) ge, Option.bind_some, if_pos hst]
          unfold F.law09.TreesStay_j3
          rw [e3 s x hx]
          cases fitP g g.Rules[r].Lhs s <;> rfl
end Go.Vc
