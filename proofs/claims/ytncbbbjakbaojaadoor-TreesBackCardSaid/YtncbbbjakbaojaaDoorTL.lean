/-
  The laws TreesReads and TreesBack.
-/
import Derived.Test.YtncbbbjakbaojaaDoorTK
set_option linter.unusedVariables false
set_option linter.unusedSimpArgs false
namespace Go.Vc
open Go
/-- what reading comes to -/
def prs (s : List UInt8) : Tree × Fault := if 65536 < s.length then (t0, ⟨0, 2⟩) else match rdT 200 s with
  | .error (m, c) => (t0, ⟨((s.length - m : Nat) : Int), c⟩)
  | .ok (t, []) => (t, ⟨0, 0⟩)
  | .ok (_, c :: r) => (t0, ⟨((s.length - (r.length + 1) : Nat) : Int), 15⟩)
theorem Parse_ok (s : List UInt8) : F.trees.Parse 100000 s = some (prs s) := by
  unfold F.trees.Parse prs
  by_cases hl : 65536 < s.length
  · rw [if_pos (by simp; omega), if_pos hl]; rfl
  · rw [if_neg (by simp; omega), if_neg hl]
    have ht := tree_ok (s := s) (by omega) 200 100000 0 s (D_zero s) (by omega) (by omega)
    show ((F.trees.reader_tree 100000 (rk s 0) ((200 : Nat) : Int)).bind _) = _
    rw [ht, Option.bind_some]
    cases he : rdT 200 s with
    | error f => obtain ⟨m, e⟩ := f; rfl
    | ok a =>
      obtain ⟨t, r⟩ := a
      have hless := rdT_less 200 s
      rw [he] at hless
      have hlt := less_len hless
      simp only [pn, Pn.go, rk]
      cases r with
      | nil =>
        rw [if_neg (by simp)]
        rfl
      | cons c r =>
        simp only [List.length_cons] at hlt ⊢
        rw [if_pos (by simp; omega)]
        rfl
theorem refParse_ok (s : List UInt8) : F.ref09.Parse 100000 s = some (prs s) := by
  unfold F.ref09.Parse prs
  by_cases hl : 65536 < s.length
  · rw [if_pos (by simp; omega), if_pos hl]; rfl
  · rw [if_neg (by simp; omega), if_neg hl]
    have ht := one_G_ok (s := s) (by omega) 200 100000 0 s (D_zero s) (by omega) (by omega)
    show ((F.ref09.one_G 100000).1 s ((0 : Nat) : Int) ((201 - 200 : Nat) : Int)).bind _ = _
    rw [ht, Option.bind_some]
    have hless := rdT_less 200 s
    cases he : rdT 200 s with
    | error f =>
      obtain ⟨m, e⟩ := f
      rw [he] at hless
      have hne : e ≠ 0 := by rcases hless.2 with h | h | h <;> omega
      have c1 : (e != 0) = true := by simpa using hne
      simp only [on, c1, if_true]
      rfl
    | ok a =>
      obtain ⟨t, r⟩ := a
      rw [he] at hless
      have hlt := less_len hless
      have hon : on s (.ok (t, r)) = (t, ((s.length - r.length : Nat) : Int), ⟨0, 0⟩) := rfl
      rw [hon, if_neg (by simp)]
      cases r with
      | nil => rw [if_neg (by simp)]
      | cons c r =>
        simp only [List.length_cons] at hlt
        rw [if_pos (by simp; omega)]
        rfl
mutual
theorem sz_tx : ∀ t : Tree, plainT t = true → sz t ≤ (tx t).length
  | .mk r b ks, h => by
    rw [plainT] at h
    simp only [tx, sz]
    by_cases hr : r = -1
    · rw [if_pos hr] at h ⊢
      cases ks with
      | nil => simp [hx, szs]
      | cons x q => cases h
    · rw [if_neg hr] at h ⊢
      simp only [Bool.and_eq_true, decide_eq_true_eq] at h
      have := szs_tx true ks h.2
      simp only [List.length_append, List.length_cons, List.length_nil]
      omega
theorem szs_tx : ∀ (f : Bool) (ks : List Tree), plainTs ks = true → szs ks ≤ (txs f ks).length
  | _, [], _ => Nat.le_refl _
  | f, t :: r, h => by
    simp only [plainTs, Bool.and_eq_true] at h
    have h1 := sz_tx t h.1
    have h2 := szs_tx false r h.2
    simp only [txs, szs, List.length_append]
    omega
end
theorem sz_t0 : sz t0 = 1 := rfl
theorem prs_sz (s : List UInt8) : sz (prs s).1 < 70000 := by
  unfold prs
  split
  · rw [sz_t0]; omega
  · split
    · rw [sz_t0]; omega
    · rename_i hl _ t he
      obtain ⟨e, h⟩ := rdT_sound 200 s [] t (by omega) he
      have := sz_tx t h.1
      rw [List.append_nil] at e
      show sz t < 70000
      rw [e] at hl
      omega
    · rw [sz_t0]; omega
theorem law_Reads {s : List UInt8} (_ : s.length ≤ maxLen) : F.law09.TreesReads 100000 s = some true := by
  unfold F.law09.TreesReads
  have key : F.law09.TreesReads_j1 100000 s false = some true := by
    unfold F.law09.TreesReads_j1
    have := prs_sz s
    rw [if_neg (by simp), Parse_ok, Option.bind_some, refParse_ok, Option.bind_some, alive_K, Option.bind_some, if_pos rfl, refSame_ok (by omega) (by omega), Option.bind_some, if_pos (by simp)]
    simp
  by_cases h1 : 20000 < s.length
  · rw [if_pos (by simp; omega)]
    by_cases h2 : s.length ≤ 65536
    · have : decide ((s.length : Int) ≤ 65536) = true := decide_eq_true (by omega)
      rw [this]
      unfold F.law09.TreesReads_j1
      rw [if_pos rfl, alive_K]
      rfl
    · have : decide ((s.length : Int) ≤ 65536) = false := decide_eq_false (by omega)
      rw [this]
      exact key
  · rw [if_neg (by simp; omega)]
    exact key
/-! ### TreesBack -/
theorem back_fault {s : List UInt8} {p c : Int} (h : prs s = (t0, ⟨p, c⟩)) (hc : c ≠ 0) (h1 : 0 ≤ p) (h2 : p ≤ s.length) : F.law09.TreesBack_j1 100000 s = some true := by
  unfold F.law09.TreesBack_j1
  have hz : sz t0 < 100000 := by rw [sz_t0]; omega
  have e : decide (t0 = Tree.mk 0 0 []) = true := decide_eq_true rfl
  rw [Parse_ok, Option.bind_some, h, if_pos (by simpa using hc), alive_K, Option.bind_some, if_pos rfl, refSame_ok hz (by omega), Option.bind_some, e, if_pos rfl, if_pos (by simpa using h1)]
  unfold F.law09.TreesBack_j2
  congr 1
  simpa using h2
theorem back_j1 {s : List UInt8} (hs : s.length ≤ 20000) : F.law09.TreesBack_j1 100000 s = some true := by
  have hless := rdT_less 200 s
  cases he : rdT 200 s with
  | error f =>
    obtain ⟨m, e⟩ := f
    rw [he] at hless
    refine back_fault (p := ((s.length - m : Nat) : Int)) (c := e) ?_ (by rcases hless.2 with h | h | h <;> omega) (by omega) (by omega)
    unfold prs
    rw [if_neg (by omega), he]
  | ok a =>
    obtain ⟨t, r⟩ := a
    cases r with
    | cons c r =>
      refine back_fault (p := ((s.length - (r.length + 1) : Nat) : Int)) (c := 15) ?_ (by omega) (by omega) (by omega)
      unfold prs
      rw [if_neg (by omega), he]
    | nil =>
      obtain ⟨e, h1, h2, h3⟩ := rdT_sound 200 s [] t (by omega) he
      rw [List.append_nil] at e
      have hsz := sz_tx t h1
      have hpr : prs s = (t, ⟨0, 0⟩) := by
        unfold prs
        rw [if_neg (by omega), he]
      have hlen := congrArg List.length e
      unfold F.law09.TreesBack_j1
      rw [Parse_ok, Option.bind_some, hpr, if_neg (by simp), Print_ok (by show 4 * sz t + 1 < 100000; omega) (by omega) h3, Option.bind_some, alive_K, Option.bind_some, if_pos rfl]
      have hp : prt t = (s, 0) := by
        unfold prt
        rw [h1, decide_eq_true h2, if_pos (by rfl), if_neg (by omega), ← e]
      rw [hp, if_pos (by rfl)]
      exact congrArg some (beq_self_eq_true s)
theorem law_Back {t : Tree} {s : List UInt8} (hok : okT t) (_ : s.length ≤ maxLen) : F.law09.TreesBack 100000 t s = some true := by
  unfold F.law09.TreesBack
  rw [heavy_ok (by omega) t, Option.bind_some, alive_K, Option.bind_some]
  by_cases h1 : 1500 < sz t
  · rw [decide_eq_true h1, if_pos rfl]
  rw [decide_eq_false h1, if_neg (by simp)]
  by_cases h2 : 20000 < s.length
  · rw [if_pos (by simp; omega)]
  rw [if_neg (by simp; omega), Print_ok (by omega) (by omega) hok, Option.bind_some]
  by_cases hp : plainT t = true ∧ dp t ≤ 200
  · have hcond : (plainT t && decide (dp t ≤ 200)) = true := by simp [hp.1, hp.2]
    have htl := tx_len t hp.1
    have e : prt t = (tx t, 0) := by
      unfold prt
      rw [if_pos hcond, if_neg (by omega)]
    rw [e, if_pos (by rfl), Parse_ok, Option.bind_some]
    have hpr : prs (tx t) = (t, ⟨0, 0⟩) := by
      unfold prs
      rw [if_neg (by omega)]
      have := rdT_complete 200 t [] ⟨hp.1, hp.2, hok⟩
      rw [List.append_nil] at this
      rw [this]
    rw [hpr, if_neg (by simp), refSame_ok (by show sz t < 100000; omega) (by omega), Option.bind_some, if_neg (by simp)]
    exact back_j1 (by omega)
  · have hcond : (plainT t && decide (dp t ≤ 200)) = false := by
      rw [Bool.and_eq_false_iff]
      by_cases h : plainT t = true
      · exact .inr (decide_eq_false fun h' => hp ⟨h, h'⟩)
      · exact .inl (by simpa using h)
    have e : prt t = ([], 90) := by
      unfold prt
      rw [hcond]
      rfl
    rw [e, if_neg (by decide)]
    exact back_j1 (by omega)
end Go.Vc
