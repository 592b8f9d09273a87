/-
  Trees of a grammar: the law TreesRight.
-/
import Derived.Test.YtncbbbjakbaojaaDoorPB
import Derived.Test.YtncbbbjakbaojaaDoorTC
set_option linter.unusedVariables false
set_option linter.unusedSimpArgs false
namespace Go.Vc
open Go
/-- what a grammar's data may be -/
def okG (g : Gram) : Prop := i64b g.Nts ∧ i64b g.Start ∧ g.Rules.length ≤ maxLen ∧ ∀ r ∈ g.Rules, i64b r.Lhs ∧ r.Rhs.length ≤ maxLen ∧ ∀ s ∈ r.Rhs, i64b s.Nt ∧ okS s.Set
theorem maxLen_eq : maxLen = 9223372036854775807 := rfl
/-! ### is it right? -/
theorem gr_l3_eq {g : Gram} {i : Int} (h1 : 1 ≤ g.Nts) : ∀ (j : Nat) (q : Int), F.facts.Right_l3 g i j q = F.ref06.Right_l3 g i j q
  | 0, _ => rfl
  | j + 1, q => by
    simp only [F.facts.Right_l3, F.ref06.Right_l3]
    split
    · split
      · generalize (at_ ((at_ g.Rules i).Rhs) q).Nt = n
        have e : F.facts.Right_l3 g i j = F.ref06.Right_l3 g i j := funext fun q => gr_l3_eq h1 j q
        rw [e]
        have e4 : ∀ b, F.facts.Right_j4 (F.ref06.Right_l3 g i j) q b = F.ref06.Right_j4 (F.ref06.Right_l3 g i j) q b := fun b => rfl
        simp only [e4]
        by_cases hn : n = -1
        · subst hn
          rw [if_neg (by simp), if_neg (by simp; omega), if_neg (by simp), if_neg (by simp)]
        · have c : (n != -1) = true := by simpa using hn
          by_cases h2 : n < 0
          · have d1 : decide (n < -1) = true := decide_eq_true (by omega)
            have d2 : decide (n < 0) = true := decide_eq_true h2
            simp only [c, d1, d2, if_true]
          · have d1 : decide (n < -1) = false := decide_eq_false (by omega)
            have d2 : decide (n < 0) = false := decide_eq_false h2
            have d3 : decide (0 ≤ n) = true := decide_eq_true (by omega)
            simp only [c, d1, d2, d3, if_true, Bool.false_eq_true, if_false]
      · rfl
    · rfl
theorem gr_l2_eq {k : Nat} {g : Gram} (h1 : 1 ≤ g.Nts) : ∀ (j : Nat) (q : Int), F.facts.Right_l2 k g j q = F.ref06.Right_l2 k g j q
  | 0, _ => rfl
  | j + 1, q => by
    simp only [F.facts.Right_l2, F.ref06.Right_l2]
    have e : F.facts.Right_l2 k g j = F.ref06.Right_l2 k g j := funext fun q => gr_l2_eq h1 j q
    rw [e, gr_l3_eq h1]
theorem gr_eq (k : Nat) (g : Gram) : F.facts.Right k g = F.ref06.Right k g := by
  unfold F.facts.Right F.ref06.Right
  by_cases h1 : g.Nts < 1
  · rw [if_pos (by simpa using h1), if_pos (by simpa using h1)]; rfl
  · have : ∀ b, F.facts.Right_j1 k g b = F.ref06.Right_j1 k g b := by
      intro b
      unfold F.facts.Right_j1 F.ref06.Right_j1
      rw [gr_l2_eq (by omega)]
    simp only [this]
theorem gr_l3_ok {g : Gram} {r : Nat} (hl : (at_ g.Rules (r : Int)).Rhs.length ≤ 80) : ∀ (j i : Nat), i ≤ (at_ g.Rules (r : Int)).Rhs.length → (at_ g.Rules (r : Int)).Rhs.length - i < j → ∃ o, F.ref06.Right_l3 g r j i = some o ∧ ∀ b, o = .ret b → b = 3
  | 0, _, _, h => by omega
  | j + 1, i, h1, h2 => by
    simp only [F.ref06.Right_l3]
    have e4 : ∀ b, i < (at_ g.Rules (r : Int)).Rhs.length → ∃ o, F.ref06.Right_j4 (F.ref06.Right_l3 g r j) i b = some o ∧ ∀ b, o = .ret b → b = 3 := by
      intro b hi
      unfold F.ref06.Right_j4
      cases b with
      | true => exact ⟨_, rfl, fun b h => by cases h; rfl⟩
      | false =>
        rw [if_neg (by simp), ix_inc (by omega)]
        exact gr_l3_ok hl j (i + 1) (by omega) (by omega)
    by_cases hi : i < (at_ g.Rules (r : Int)).Rhs.length
    · rw [ix_lt hi, if_pos rfl, ix_in hi, if_pos rfl]
      split
      · split
        · exact e4 _ hi
        · split <;> exact e4 _ hi
      · exact e4 _ hi
    · rw [ix_ge hi, if_neg (by simp)]
      exact ⟨_, rfl, fun b h => by cases h⟩
theorem gr_l2_ok {k : Nat} {g : Gram} (hk : 100 ≤ k) (hl : g.Rules.length ≤ 8192) : ∀ (j i : Nat), i ≤ g.Rules.length → g.Rules.length - i < j → ∃ o, F.ref06.Right_l2 k g j i = some o ∧ ∀ b, o = .ret b → b = 3
  | 0, _, _, h => by omega
  | j + 1, i, h1, h2 => by
    simp only [F.ref06.Right_l2]
    by_cases hi : i < g.Rules.length
    · rw [ix_lt hi, if_pos rfl, ix_in hi, if_pos rfl]
      split
      · exact ⟨_, rfl, fun b h => by cases h; rfl⟩
      split
      · exact ⟨_, rfl, fun b h => by cases h; rfl⟩
      split
      · exact ⟨_, rfl, fun b h => by cases h; rfl⟩
      rename_i _ _ h80
      have hr : (at_ g.Rules (i : Int)).Rhs.length ≤ 80 := by simp at h80; omega
      obtain ⟨o, e, h3⟩ := gr_l3_ok hr k 0 (by omega) (by omega)
      rw [zero_cast] at e
      rw [e, Option.bind_some]
      cases o with
      | ret b => exact ⟨.ret b, rfl, fun b' h => by cases h; exact h3 _ rfl⟩
      | done d =>
        show ∃ o, F.ref06.Right_l2 k g j (IntKind.wrap .i64 ((i : Int) + 1)) = some o ∧ _
        rw [ix_inc (by omega)]
        exact gr_l2_ok hk hl j (i + 1) (by omega) (by omega)
    · rw [ix_ge hi, if_neg (by simp)]
      exact ⟨_, rfl, fun b h => by cases h⟩
theorem gr_ok {k : Nat} (g : Gram) (hk : 9000 ≤ k) : ∃ v, F.ref06.Right k g = some v ∧ (v = 0 ∨ v = 3) := by
  unfold F.ref06.Right
  have key : ∃ v, F.ref06.Right_j1 k g (decide (8192 < (g.Rules.length : Int))) = some v ∧ (v = 0 ∨ v = 3) := by
    unfold F.ref06.Right_j1
    by_cases h : 8192 < g.Rules.length
    · rw [if_pos (by simp; omega)]; exact ⟨_, rfl, .inr rfl⟩
    · obtain ⟨o, e, h3⟩ := gr_l2_ok (k := k) (g := g) (by omega) (by omega) k 0 (by omega) (by omega)
      rw [zero_cast] at e
      rw [if_neg (by simp; omega), e, Option.bind_some]
      cases o with
      | ret b => exact ⟨b, rfl, .inr (h3 _ rfl)⟩
      | done d => exact ⟨0, rfl, .inl rfl⟩
  split
  · exact ⟨_, rfl, .inr rfl⟩
  split
  · exact ⟨_, rfl, .inr rfl⟩
  split
  · exact ⟨_, rfl, .inr rfl⟩
  split
  · exact ⟨_, rfl, .inr rfl⟩
  exact key

/-! ### is a tree one of a nonterminal? -/
theorem kid_byte {t : Tree} (h : okT t) : ∃ b : Nat, b < 256 ∧ t.Byte = (b : Int) := by
  obtain ⟨_, ⟨h1, h2⟩, _⟩ := (okT_eq t).1 h
  exact ⟨t.Byte.toNat, by omega, by omega⟩
theorem of_l_ok {k : Nat} {g : Gram} {t : Tree} {g40 g42 : Gram → Int → Tree → Option Bool} {r : Nat} (hk : 100 ≤ k) (hr : t.Rule = (r : Int)) (hrl : r < g.Rules.length) (hle : g.Rules[r].Rhs.length = t.Kids.length) (hb : t.Kids.length < 1000000)
    (hS : ∀ s ∈ g.Rules[r].Rhs, okS s.Set) (hok : okTs t.Kids) (hg : ∀ u, u ∈ t.Kids → ∀ nt, ∃ v, g40 g nt u = some v ∧ g42 g nt u = some v) :
    ∀ (j i : Nat), i ≤ t.Kids.length → t.Kids.length - i < j → ∃ o, F.trees.fits_l1 g t g40 j i = some o ∧ F.ref09.Of_l2 k t g g42 j i = some o
  | 0, _, _, h => by omega
  | j + 1, i, h1, h2 => by
    simp only [F.trees.fits_l1, F.ref09.Of_l2, hr]
    rw [ix_at hrl, ix_in hrl]
    by_cases hi : i < t.Kids.length
    · have hi' : i < g.Rules[r].Rhs.length := by omega
      rw [ix_lt hi', ix_lt hi, ix_in hi', ix_in hi, ix_at hi, ix_at hi']
      simp only [if_true]
      obtain ⟨o, e1, e2⟩ := of_l_ok hk hr hrl hle hb hS hok hg j (i + 1) (by omega) (by omega)
      obtain ⟨b, hb1, hb2⟩ := kid_byte (okTs_mem hok _ (List.getElem_mem hi))
      have hset := hS _ (List.getElem_mem hi')
      have hHas : F.charset.Has (S4.mk g.Rules[r].Rhs[i].Set.w0 g.Rules[r].Rhs[i].Set.w1 g.Rules[r].Rhs[i].Set.w2 g.Rules[r].Rhs[i].Set.w3) t.Kids[i].Byte = some (bit g.Rules[r].Rhs[i].Set b) := by
        rw [hb2]; exact Has_bit hset hb1
      have hHas2 : F.ref01.Has k (S4.mk g.Rules[r].Rhs[i].Set.w0 g.Rules[r].Rhs[i].Set.w1 g.Rules[r].Rhs[i].Set.w2 g.Rules[r].Rhs[i].Set.w3) (IntKind.wrap .i64 t.Kids[i].Byte) = some (bit g.Rules[r].Rhs[i].Set b) := by
        rw [hb2, wrap_i64 (by omega) (by omega)]; exact refHas_bit hset hb1 hk
      rw [hHas, hHas2]
      simp only [Option.bind_some, F.ref09.Of_j4, F.ref09.Of_j5, F.ref09.Of_j3, F.trees.fits_j3, F.trees.fits_j2, hr, ix_at hrl, ix_at hi', ix_in hi, ix_at hi, ix_inc (show i < 4611686018427387904 by omega), e1, e2]
      by_cases hn : 0 ≤ g.Rules[r].Rhs[i].Nt
      · obtain ⟨v, e3, e4⟩ := hg _ (List.getElem_mem hi) g.Rules[r].Rhs[i].Nt
        have d1 : decide (0 ≤ g.Rules[r].Rhs[i].Nt) = true := decide_eq_true hn
        have d2 : decide (g.Rules[r].Rhs[i].Nt < 0) = false := decide_eq_false (by omega)
        simp only [d1, d2, e3, e4, if_true, Option.bind_some, Bool.false_eq_true, if_false]
        cases v
        · refine ⟨.ret false, by simp, ?_⟩
          split
          · split <;> simp
          · simp
        · refine ⟨o, by simp, ?_⟩
          split
          · split <;> simp
          · simp
      · have d1 : decide (0 ≤ g.Rules[r].Rhs[i].Nt) = false := decide_eq_false hn
        have d2 : decide (g.Rules[r].Rhs[i].Nt < 0) = true := decide_eq_true (by omega)
        simp only [d1, d2, if_true, Bool.false_eq_true, if_false]
        by_cases hk1 : t.Kids[i].Rule = -1
        · have c1 : (t.Kids[i].Rule == -1) = true := by simpa using hk1
          have c2 : (t.Kids[i].Rule != -1) = false := by simpa using hk1
          simp only [c1, c2, if_true, Bool.false_eq_true, if_false]
          by_cases hk2 : t.Kids[i].Kids.length = 0
          · have c3 : ((t.Kids[i].Kids.length : Int) == 0) = true := by simp only [beq_iff_eq]; omega
            have c4 : decide (0 < (t.Kids[i].Kids.length : Int)) = false := decide_eq_false (by omega)
            simp only [c3, c4, if_true, Bool.false_eq_true, if_false]
            cases bit g.Rules[r].Rhs[i].Set b
            · exact ⟨.ret false, by simp, by simp⟩
            · exact ⟨o, by simp, by simp⟩
          · have c3 : ((t.Kids[i].Kids.length : Int) == 0) = false := by rw [beq_eq_false_iff_ne]; omega
            have c4 : decide (0 < (t.Kids[i].Kids.length : Int)) = true := decide_eq_true (by omega)
            simp only [c3, c4, if_true, Bool.false_eq_true, if_false]
            exact ⟨.ret false, by simp, by simp⟩
        · have c1 : (t.Kids[i].Rule == -1) = false := by simpa using hk1
          have c2 : (t.Kids[i].Rule != -1) = true := by simpa using hk1
          simp only [c1, c2, if_true, Bool.false_eq_true, if_false]
          exact ⟨.ret false, by simp, by simp⟩
    · have hi' : ¬ i < g.Rules[r].Rhs.length := by omega
      rw [ix_ge hi, ix_ge hi']
      exact ⟨_, rfl, rfl⟩
theorem of_ok : ∀ (k : Nat) (g : Gram) (nt : Int) (t : Tree), okG g → okT t → sz t + 100 < k → k ≤ 1000000 → ∃ v, F.trees.fits k g nt t = some v ∧ F.ref09.Of k g nt t = some v
  | 0, _, _, _, _, _, h, _ => by omega
  | k + 1, g, nt, t, hG, hok, hk, hB => by
    show ∃ v, F.trees.fits_B k (F.trees.fits k) g nt t = some v ∧ F.ref09.Of_B k (F.ref09.Of k) g nt t = some v
    have hs := sz_eq t
    have hl := len_sz t
    obtain ⟨_, _, _, hoks⟩ := (okT_eq t).1 hok
    unfold F.trees.fits_B F.ref09.Of_B F.ref09.Of_j1
    simp only [if_true]
    by_cases h1 : t.Rule < 0
    · have d1 : decide (t.Rule < 0) = true := decide_eq_true h1
      simp only [d1, if_true]
      refine ⟨false, rfl, ?_⟩
      split <;> rfl
    have d1 : decide (t.Rule < 0) = false := decide_eq_false h1
    by_cases h2 : (g.Rules.length : Int) ≤ t.Rule
    · have d2 : decide ((g.Rules.length : Int) ≤ t.Rule) = true := decide_eq_true h2
      simp only [d1, d2, if_true, Bool.false_eq_true, if_false]
      refine ⟨false, rfl, ?_⟩
      split <;> rfl
    have d2 : decide ((g.Rules.length : Int) ≤ t.Rule) = false := decide_eq_false h2
    by_cases h3 : t.Byte = 0
    case neg =>
      have d3 : (t.Byte != 0) = true := by simpa using h3
      simp only [d1, d2, d3, if_true, Bool.false_eq_true, if_false]
      exact ⟨false, rfl, rfl⟩
    have d3 : (t.Byte != 0) = false := by simpa using h3
    obtain ⟨r, hr⟩ : ∃ r : Nat, t.Rule = (r : Int) := ⟨t.Rule.toNat, by omega⟩
    have hrl : r < g.Rules.length := by omega
    have d1r : decide ((r : Int) < 0) = false := by rw [← hr]; exact d1
    have d2r : decide ((g.Rules.length : Int) ≤ (r : Int)) = false := by rw [← hr]; exact d2
    simp only [d3, Bool.false_eq_true, if_false, hr, d1r, d2r, ix_in hrl, ix_at hrl, if_true]
    by_cases h4 : g.Rules[r].Lhs = nt
    case neg =>
      have d4 : (g.Rules[r].Lhs != nt) = true := by simpa using h4
      simp only [d4, if_true]
      exact ⟨false, rfl, rfl⟩
    have d4 : (g.Rules[r].Lhs != nt) = false := by simpa using h4
    simp only [d4, Bool.false_eq_true, if_false]
    by_cases h5 : g.Rules[r].Rhs.length = t.Kids.length
    case neg =>
      have d5 : ((g.Rules[r].Rhs.length : Int) != (t.Kids.length : Int)) = true := by simp; omega
      simp only [d5, if_true]
      exact ⟨false, rfl, rfl⟩
    have d5 : ((g.Rules[r].Rhs.length : Int) != (t.Kids.length : Int)) = false := by simp; omega
    simp only [d5, Bool.false_eq_true, if_false]
    obtain ⟨o, e1, e2⟩ := of_l_ok (k := k) (g := g) (t := t) (g40 := F.trees.fits k) (g42 := F.ref09.Of k) (by omega) hr hrl h5 (by omega) (fun s hs => ((hG.2.2.2 _ (List.getElem_mem hrl)).2.2 s hs).2) hoks
      (fun u hu nt => of_ok k g nt u hG (okTs_mem hoks u hu) (by have := sz_mem hu; omega) (by omega)) k 0 (by omega) (by omega)
    rw [zero_cast] at e1 e2
    rw [e1, e2, Option.bind_some]
    cases o with
    | ret b => exact ⟨b, rfl, rfl⟩
    | done d => exact ⟨true, rfl, rfl⟩
theorem Right_eq {k : Nat} {g : Gram} {nt : Int} {t : Tree} (hG : okG g) (hok : okT t) (hs : sz t + 100 < k) (hk : 9000 ≤ k) (hB : k ≤ 1000000) : ∃ v, F.trees.Right k g nt t = some v ∧ F.ref09.Right k g nt t = some v := by
  unfold F.trees.Right F.ref09.Right
  rw [gr_eq]
  obtain ⟨v, e, _⟩ := gr_ok g hk
  obtain ⟨v2, e3, e4⟩ := of_ok k g nt t hG hok hs hB
  rw [e, Option.bind_some, e3, e4, Option.bind_some, Option.bind_some]
  split
  · exact ⟨_, rfl, rfl⟩
  split
  · exact ⟨_, rfl, rfl⟩
  split
  · exact ⟨_, rfl, rfl⟩
  split
  · exact ⟨_, rfl, rfl⟩
  · exact ⟨_, rfl, rfl⟩
/-! ### the guard -/
theorem Heavy_ok {k : Nat} {g : Gram} (hG : okG g) (hk : 1000 ≤ k) : ∃ v, F.ref06.Heavy k g 500 = some v := by
  unfold F.ref06.Heavy
  split
  · exact ⟨_, rfl⟩
  split
  · exact ⟨_, rfl⟩
  rename_i h1 h2
  have hl : g.Rules.length ≤ 500 := by simp at h2; omega
  have hn : g.Nts ≤ 500 := by simpa using h1
  have hn2 := hG.1
  unfold i64b at hn2
  have key : ∀ (j i : Nat) (n : Int), i ≤ g.Rules.length → g.Rules.length - i < j → ∃ o, F.ref06.Heavy_l1 g 500 j n i = some o := by
    intro j
    induction j with
    | zero => intro i n h1 h2; omega
    | succ j ih =>
      intro i n h1 h2
      simp only [F.ref06.Heavy_l1]
      by_cases hi : i < g.Rules.length
      · rw [ix_lt hi, if_pos rfl, ix_in hi, if_pos rfl]
        split
        · exact ⟨_, rfl⟩
        · rw [ix_inc (by omega)]
          exact ih (i + 1) _ (by omega) (by omega)
      · rw [ix_ge hi, if_neg (by simp)]
        exact ⟨_, rfl⟩
  obtain ⟨o, e⟩ := key k 0 g.Nts (by omega) (by omega)
  rw [zero_cast] at e
  rw [e, Option.bind_some]
  cases o <;> exact ⟨_, rfl⟩
theorem law_Right {g : Gram} {nt : Int} {t : Tree} (hG : okG g) (_ : i64b nt) (hok : okT t) : F.law09.TreesRight 100000 g nt t = some true := by
  unfold F.law09.TreesRight
  obtain ⟨v, e⟩ := Heavy_ok (k := 100000) hG (by omega)
  rw [heavy_ok (by omega) t, Option.bind_some, alive_K, Option.bind_some, e, Option.bind_some]
  by_cases h1 : 1500 < sz t
  · rw [decide_eq_true h1, if_pos rfl]
  · rw [decide_eq_false h1, if_neg (by simp)]
    cases v with
    | true => rfl
    | false =>
      obtain ⟨v, e1, e2⟩ := Right_eq (k := 100000) (nt := nt) hG hok (by omega) (by omega) (by omega)
      rw [if_neg (by simp), Copy_ok _ _ (by omega) (by omega), Option.bind_some, Option.bind_some, if_pos rfl, e1, e2, Option.bind_some, Option.bind_some, if_pos (by simp), refSame_ok (by omega) (by omega)]
      simp
end Go.Vc
