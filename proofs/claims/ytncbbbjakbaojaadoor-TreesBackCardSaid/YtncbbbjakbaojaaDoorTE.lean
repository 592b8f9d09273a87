/-
  Trees: texts; the law TreesWrites.
-/
import Derived.Test.YtncbbbjakbaojaaDoorTD
set_option linter.unusedVariables false
set_option linter.unusedSimpArgs false
namespace Go.Vc
open Go
def hexA : List UInt8 := [48, 49, 50, 51, 52, 53, 54, 55, 56, 57, 97, 98, 99, 100, 101, 102]
def hx (b : Int) : List UInt8 := [120, hexA.getD (b / 16).toNat 0, hexA.getD (b % 16).toNat 0]
theorem quo16 {b : Int} (h : u8b b) : gquo .u8 b 16 = b / 16 ∧ gquo .i64 (IntKind.wrap .i64 b) 16 = b / 16 ∧ grem b 16 = b % 16 ∧ grem (IntKind.wrap .i64 b) 16 = b % 16 := by
  obtain ⟨h1, h2⟩ := h
  have e1 : IntKind.wrap .i64 b = b := wrap_i64 (by omega) (by omega)
  have e2 : b.tdiv 16 = b / 16 := Int.tdiv_eq_ediv_of_nonneg h1
  have e3 : b.tmod 16 = b % 16 := Int.tmod_eq_emod_of_nonneg h1
  refine ⟨?_, ?_, e3, by rw [e1]; exact e3⟩
  · unfold gquo
    rw [e2]
    simp only [IntKind.wrap, IntKind.bits, IntKind.signed]
    simp
    omega
  · unfold gquo
    rw [e1, e2, wrap_i64 (by omega) (by omega)]
mutual
def plainT : Tree → Bool
  | .mk r b ks => if r = -1 then ks.isEmpty else (b == 0) && decide (0 ≤ r) && decide (r ≤ 999999) && plainTs ks
def plainTs : List Tree → Bool
  | [] => true
  | t :: r => plainT t && plainTs r
end
theorem plainT_eq (t : Tree) : plainT t = if t.Rule = -1 then t.Kids.isEmpty else (t.Byte == 0) && decide (0 ≤ t.Rule) && decide (t.Rule ≤ 999999) && plainTs t.Kids := by cases t; simp only [plainT]
theorem plainTs_mem : ∀ {ks : List Tree}, plainTs ks = true → ∀ t ∈ ks, plainT t = true
  | [], _, _, h => by cases h
  | x :: r, h, t, ht => by
    simp only [plainTs, Bool.and_eq_true] at h
    rcases List.mem_cons.1 ht with rfl | ht
    · exact h.1
    · exact plainTs_mem h.2 t ht
theorem plainTs_drop {ks : List Tree} {i : Nat} (h : i < ks.length) : plainTs (ks.drop i) = (plainT ks[i] && plainTs (ks.drop (i + 1))) := by
  rw [List.drop_eq_getElem_cons h]; rfl
mutual
def tx : Tree → List UInt8
  | .mk r b ks => if r = -1 then hx b else Lib.itoa r ++ [40] ++ txs true ks ++ [41]
def txs : Bool → List Tree → List UInt8
  | _, [] => []
  | f, t :: rest => (if f then [] else [32]) ++ tx t ++ txs false rest
end
theorem tx_eq (t : Tree) : tx t = if t.Rule = -1 then hx t.Byte else Lib.itoa t.Rule ++ [40] ++ txs true t.Kids ++ [41] := by cases t; simp only [tx]
theorem txs_drop {ks : List Tree} {i : Nat} (h : i < ks.length) (f : Bool) : txs f (ks.drop i) = (if f then [] else [32]) ++ tx ks[i] ++ txs false (ks.drop (i + 1)) := by
  rw [List.drop_eq_getElem_cons h]; simp only [txs]
theorem itoa_len {r : Int} (h1 : 0 ≤ r) (h2 : r ≤ 999999) : (Lib.itoa r).length ≤ 6 := by
  unfold Lib.itoa
  rw [if_neg (by omega), Lib.decDigits_length]
  have : ∀ u : Nat, u ≤ 999999 → Lib.nDigits u ≤ 6 := by
    intro u hu
    by_cases h0 : u < 10
    · rw [Lib.nDigits_small h0]; omega
    rw [Lib.nDigits_big h0]
    by_cases h1 : u / 10 < 10
    · rw [Lib.nDigits_small h1]; omega
    rw [Lib.nDigits_big h1]
    by_cases h2 : u / 10 / 10 < 10
    · rw [Lib.nDigits_small h2]; omega
    rw [Lib.nDigits_big h2]
    by_cases h3 : u / 10 / 10 / 10 < 10
    · rw [Lib.nDigits_small h3]; omega
    rw [Lib.nDigits_big h3]
    by_cases h4 : u / 10 / 10 / 10 / 10 < 10
    · rw [Lib.nDigits_small h4]; omega
    rw [Lib.nDigits_big h4]
    rw [Lib.nDigits_small (by omega)]
    omega
  exact this _ (by omega)
mutual
theorem tx_len : ∀ t : Tree, plainT t = true → (tx t).length + 1 ≤ 10 * sz t
  | .mk r b ks, h => by
    rw [plainT] at h
    simp only [tx, sz]
    by_cases hr : r = -1
    · rw [if_pos hr]; simp [hx]; omega
    · rw [if_neg hr] at h
      simp only [Bool.and_eq_true, decide_eq_true_eq] at h
      have h1 := itoa_len h.1.1.2 h.1.2
      have h2 := txs_len true ks h.2
      rw [if_neg hr]
      simp only [List.length_append, List.length_cons, List.length_nil]
      omega
theorem txs_len : ∀ (f : Bool) (ks : List Tree), plainTs ks = true → (txs f ks).length ≤ 10 * szs ks
  | _, [], _ => Nat.le_refl _
  | f, t :: rest, h => by
    simp only [plainTs, Bool.and_eq_true] at h
    have h1 := tx_len t h.1
    have h2 := txs_len false rest h.2
    simp only [txs, szs, List.length_append]
    have : (if f = true then ([] : List UInt8) else [32]).length ≤ 1 := by split <;> simp
    omega
end

/-! ### plain -/
theorem refplain_l1_ok {t : Tree} {g : Tree → Option Bool} (hb : t.Kids.length < 1000000) (hg : ∀ u, u ∈ t.Kids → g u = some (plainT u)) :
    ∀ (j i : Nat), i ≤ t.Kids.length → t.Kids.length - i < j → F.ref09.plain_l1 t g j i = some (if plainTs (t.Kids.drop i) = true then .done () else .ret false)
  | 0, _, _, h => by omega
  | j + 1, i, h1, h2 => by
    simp only [F.ref09.plain_l1]
    by_cases hi : i < t.Kids.length
    · rw [ix_lt hi, if_pos rfl, ix_in hi, if_pos rfl, ix_at hi, hg _ (List.getElem_mem hi), Option.bind_some, plainTs_drop hi]
      cases hp : plainT t.Kids[i] with
      | true =>
        rw [ix_inc (by omega), refplain_l1_ok hb hg j (i + 1) (by omega) (by omega)]
        simp
      | false => simp
    · rw [ix_ge hi, if_neg (by simp), List.drop_eq_nil_of_le (by omega)]
      simp [plainTs]
theorem refplain_ok : ∀ (k : Nat) (t : Tree), sz t < k → k ≤ 1000000 → F.ref09.plain k t = some (plainT t)
  | 0, _, h, _ => by omega
  | k + 1, t, hk, hB => by
    show F.ref09.plain_B k (F.ref09.plain k) t = _
    have hs := sz_eq t
    have hl := len_sz t
    unfold F.ref09.plain_B
    rw [plainT_eq]
    by_cases hr : t.Rule = -1
    · rw [if_pos (by simpa using hr), if_pos hr]
      congr 1
      cases t.Kids with
      | nil => rfl
      | cons x r => simp; omega
    rw [if_neg (by simpa using hr), if_neg hr]
    by_cases hb : t.Byte = 0
    case neg => rw [if_pos (by simpa using hb)]; simp [hb]
    rw [if_neg (by simpa using hb)]
    by_cases h0 : t.Rule < 0
    · rw [if_pos (by simpa using h0)]; simp [hb]; omega
    rw [if_neg (by simpa using h0)]
    by_cases h9 : 999999 < t.Rule
    · rw [if_pos (by simpa using h9)]; simp [hb]; omega
    rw [if_neg (by simpa using h9)]
    have := refplain_l1_ok (t := t) (by omega) (g := F.ref09.plain k) (fun u hu => refplain_ok k u (by have := sz_mem hu; omega) (by omega)) k 0 (by omega) (by omega)
    rw [zero_cast, List.drop_zero] at this
    rw [this, Option.bind_some]
    have e1 : decide (0 ≤ t.Rule) = true := decide_eq_true (by omega)
    have e2 : decide (t.Rule ≤ 999999) = true := decide_eq_true (by omega)
    rw [hb, e1, e2]
    cases plainTs t.Kids <;> rfl
/-- plain, and so deep at most -/
theorem Index_l1_ok {ks : List Tree} {g : Tree → Int → Option Bool} {c : Int} {p : Tree → Bool} (hb : ks.length < 1000000) (hg : ∀ u, u ∈ ks → g u c = some (!p u)) :
    ∀ (j i : Nat), i ≤ ks.length → ks.length - i < j → ∃ o, F.slices.IndexFunc_f72_61_l1 ks g c j i = some o ∧ ((∃ m : Nat, o = .ret (m : Int)) ↔ (ks.drop i).all p = false) ∧ (o = .done () ↔ (ks.drop i).all p = true)
  | 0, _, _, h => by omega
  | j + 1, i, h1, h2 => by
    simp only [F.slices.IndexFunc_f72_61_l1]
    by_cases hi : i < ks.length
    · rw [ix_lt hi, if_pos rfl, ix_in hi, if_pos rfl, ix_at hi, hg _ (List.getElem_mem hi), Option.bind_some, List.drop_eq_getElem_cons hi, List.all_cons]
      cases hp : p ks[i] with
      | true =>
        rw [ix_inc (by omega)]
        simpa using Index_l1_ok hb hg j (i + 1) (by omega) (by omega)
      | false => exact ⟨.ret i, by simp, ⟨fun _ => by simp, fun _ => ⟨i, rfl⟩⟩, by simp⟩
    · rw [ix_ge hi, if_neg (by simp), List.drop_eq_nil_of_le (by omega)]
      exact ⟨_, rfl, by simp, by simp⟩
theorem all_plain {l : Nat} : ∀ ks : List Tree, (ks.all fun u => plainT u && decide (dp u ≤ l)) = (plainTs ks && decide (dps ks ≤ l))
  | [] => by simp [plainTs, dps]
  | t :: r => by
    rw [List.all_cons, all_plain r]
    simp only [plainTs, dps, Nat.max_le, Bool.decide_and]
    cases plainT t <;> cases plainTs r <;> simp
theorem plain_G_ok : ∀ (k : Nat), k ≤ 1000000 → ∀ l : Nat, l ≤ 1000000 →
    (∀ t : Tree, 4 * sz t + 1 < k → (F.trees.plain_G k).1 t l = some (plainT t && decide (dp t ≤ l))) ∧
    (∀ ks : List Tree, 4 * szs ks + 4 < k → (F.trees.plain_G k).2.1 ks ((l + 1 : Nat) : Int) = some !(plainTs ks && decide (dps ks ≤ l))) ∧
    (∀ ks : List Tree, 4 * szs ks + 3 < k → ∃ v, (F.trees.plain_G k).2.2.1 ks ((l + 1 : Nat) : Int) = some v ∧ (0 ≤ v ↔ (plainTs ks && decide (dps ks ≤ l)) = false)) ∧
    (∀ t : Tree, 4 * sz t + 2 < k → (F.trees.plain_G k).2.2.2 t ((l + 1 : Nat) : Int) = some !(plainT t && decide (dp t ≤ l)))
  | 0, _, _, _ => ⟨fun _ h => by omega, fun _ h => by omega, fun _ h => by omega, fun _ h => by omega⟩
  | k + 1, hB, l, hl => by
    refine ⟨fun t hk => ?_, fun ks hk => ?_, fun ks hk => ?_, fun t hk => ?_⟩
    · show F.trees.plain_B k ((F.trees.plain_G k).2.1) t l = _
      have hs := sz_eq t
      have hd := dp_eq t
      unfold F.trees.plain_B F.trees.plain_j1
      rw [plainT_eq]
      cases l with
      | zero => rw [if_pos (by simp), if_pos rfl]; simp [hd]
      | succ l =>
        have ih := (plain_G_ok k (by omega) l (by omega)).2.1 t.Kids (by omega)
        rw [if_neg (by simp; omega)]
        have hdd : decide (dp t ≤ l + 1) = decide (dps t.Kids ≤ l) := by rw [hd]; simp
        rw [hdd]
        by_cases hr : t.Rule = -1
        · rw [if_pos (by simpa using hr)]
          simp only [hr, if_true]
          by_cases h0 : t.Kids = []
          · rw [h0] at ih ⊢
            rw [if_neg (by simp), if_neg (by simp), if_neg (by simp), ih]
            simp [plainTs, dps]
          · have : 0 < t.Kids.length := List.length_pos_iff.2 h0
            rw [if_pos (by simpa using this)]
            cases hk : t.Kids with
            | nil => exact absurd hk h0
            | cons => rfl
        · rw [if_neg (by simpa using hr), if_pos (by simpa using hr), if_neg hr]
          by_cases hb : t.Byte = 0
          case neg => rw [if_pos (by simpa using hb), if_pos rfl]; simp [hb]
          rw [if_neg (by simpa using hb)]
          by_cases h0 : t.Rule < 0
          · rw [if_pos (by simpa using h0), if_pos rfl]
            have e1 : decide (0 ≤ t.Rule) = false := decide_eq_false (by omega)
            rw [e1]; simp
          rw [if_neg (by simpa using h0)]
          have e1 : decide (0 ≤ t.Rule) = true := decide_eq_true (by omega)
          rw [e1, hb]
          by_cases h9 : 999999 < t.Rule
          · have e2 : decide (t.Rule ≤ 999999) = false := decide_eq_false (by omega)
            rw [if_pos (by simpa using h9), e2]; simp
          have e2 : decide (t.Rule ≤ 999999) = true := decide_eq_true (by omega)
          rw [if_neg (by simpa using h9), e2, ih]
          simp
    · show F.slices.ContainsFunc_f60_61_B k ((F.trees.plain_G k).2.2.1) ks _ = _
      unfold F.slices.ContainsFunc_f60_61_B
      obtain ⟨v, h1, h2⟩ := (plain_G_ok k (by omega) l hl).2.2.1 ks (by omega)
      rw [h1, Option.bind_some]
      congr 1
      cases hp : (plainTs ks && decide (dps ks ≤ l)) with
      | true => simp only [Bool.not_true]; exact decide_eq_false fun h => by rw [h2, hp] at h; cases h
      | false => simp only [Bool.not_false]; exact decide_eq_true (h2.2 hp)
    · show ∃ v, F.slices.IndexFunc_f72_61_B k ((F.trees.plain_G k).2.2.2) ks _ = some v ∧ _
      have hl' := szs_len ks
      unfold F.slices.IndexFunc_f72_61_B
      obtain ⟨o, h1, h2, h3⟩ := Index_l1_ok (ks := ks) (c := ((l + 1 : Nat) : Int)) (g := (F.trees.plain_G k).2.2.2) (p := fun u => plainT u && decide (dp u ≤ l)) (by omega) (fun u hu => (plain_G_ok k (by omega) l hl).2.2.2 u (by have := sz_mem hu; omega)) k 0 (by omega) (by omega)
      rw [zero_cast] at h1
      rw [List.drop_zero, all_plain] at h2 h3
      rw [h1, Option.bind_some]
      cases hp : (plainTs ks && decide (dps ks ≤ l)) with
      | true =>
        rw [h3.2 hp]
        exact ⟨-1, rfl, by simp⟩
      | false =>
        obtain ⟨m, rfl⟩ := h2.2 hp
        exact ⟨m, rfl, by simp⟩
    · show F.trees.plain_c1_B k ((F.trees.plain_G k).1) t _ = _
      unfold F.trees.plain_c1_B
      have e : IntKind.wrap .i64 (((l + 1 : Nat) : Int) - 1) = (l : Int) := by rw [wrap_i64 (by omega) (by omega)]; omega
      rw [e, (plain_G_ok k (by omega) l hl).1 t (by omega)]
      rfl
theorem plain_ok {k : Nat} {t : Tree} (hk : 4 * sz t + 1 < k) (hB : k ≤ 1000000) : F.trees.plain k t 200 = some (plainT t && decide (dp t ≤ 200)) := (plain_G_ok k hB 200 (by omega)).1 t hk
end Go.Vc
