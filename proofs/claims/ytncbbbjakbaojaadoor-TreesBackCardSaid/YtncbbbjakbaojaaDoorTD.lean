/-
  The laws TreesTell and TreesYield.
-/
import Derived.Test.YtncbbbjakbaojaaDoorTC
set_option linter.unusedVariables false
set_option linter.unusedSimpArgs false
namespace Go.Vc
open Go
theorem SameRuns_l1_ok (a : List Run) (hb : a.length < 1000000) : ∀ (j i : Nat), i ≤ a.length → a.length - i < j → F.ref01.SameRuns_l1 a a j i = some (.done ())
  | 0, _, _, h => by omega
  | j + 1, i, h1, h2 => by
    simp only [F.ref01.SameRuns_l1]
    by_cases hi : i < a.length
    · rw [ix_lt hi, if_pos rfl, ix_in hi, if_pos rfl, if_pos rfl, ix_at hi, if_neg (by simp), ix_inc (by omega)]
      exact SameRuns_l1_ok a hb j (i + 1) (by omega) (by omega)
    · rw [ix_ge hi, if_neg (by simp)]
theorem SameRuns_ok {k : Nat} (a : List Run) (hb : a.length < k) (hB : k ≤ 1000000) : F.ref01.SameRuns k a a = some true := by
  unfold F.ref01.SameRuns
  have := SameRuns_l1_ok a (by omega) k 0 (by omega) (by omega)
  rw [zero_cast] at this
  rw [if_neg (by simp), this]; rfl
theorem law_Tell {t : Tree} (_ : okT t) : F.law09.TreesTell 100000 t = some true := by
  unfold F.law09.TreesTell
  rw [heavy_ok (by omega) t, Option.bind_some, alive_K, Option.bind_some]
  by_cases h1 : 1500 < sz t
  · rw [decide_eq_true h1, if_pos rfl]
  · have hl := sp_len t 0 false
    rw [decide_eq_false h1, if_neg (by simp), Size_ok _ _ (by omega) (by omega), Option.bind_some, refSize_ok _ _ (by omega) (by omega), Option.bind_some, Spans_ok (by omega) (by omega), Option.bind_some, Option.bind_some, if_pos rfl, if_pos (by simp), if_pos (by simp),
      Yield_ok _ _ (by omega) (by omega), Option.bind_some, refYield_ok _ _ (by omega) (by omega), Option.bind_some, if_pos (by simp), refSpans_ok (by omega) (by omega), Option.bind_some, SameRuns_ok _ (by omega) (by omega)]
    rfl

/-! ### TreesYield -/
theorem YieldL_ok {k : Nat} {t : Tree} (hb : sz t < k) (hB : k ≤ 1000000) :
    ∀ (j i : Nat) (out : List Int), i ≤ t.Kids.length → t.Kids.length - i < j → out.length + (yts (t.Kids.drop i)).length < 1000001 → F.law09.TreesYield_l5 k t j out i = some (out ++ yts (t.Kids.drop i))
  | 0, _, _, _, h, _ => by omega
  | j + 1, i, out, h1, h2, h4 => by
    simp only [F.law09.TreesYield_l5]
    by_cases hi : i < t.Kids.length
    · have hl := len_sz t
      have hs := sz_kid hi
      rw [yts_drop hi, List.length_append] at h4
      rw [ix_lt hi, if_pos rfl, ix_in hi, if_pos rfl, ix_at hi, Yield_ok _ _ (by omega) hB, Option.bind_some, if_pos (decide_eq_true (by omega)), if_pos (decide_eq_true (by omega)), ix_inc (by omega),
        YieldL_ok hb hB j (i + 1) _ (by omega) (by omega) (by rw [List.length_append]; omega), yts_drop hi, List.append_assoc]
    · rw [ix_ge hi, if_neg (by simp), List.drop_eq_nil_of_le (by omega)]
      simp [yts]

/-- spans lie one behind the other, from a on, and end by b -/
def lies (lo : Int) (hi : Int) : List Run → Prop
  | [] => True
  | r :: rest => lo ≤ r.Lo ∧ r.Lo ≤ r.Hi ∧ r.Hi ≤ hi ∧ lies r.Lo hi rest
theorem lies_mono : ∀ {l : List Run} {lo lo' hi hi' : Int}, lo' ≤ lo → hi ≤ hi' → lies lo hi l → lies lo' hi' l
  | [], _, _, _, _, _, _, _ => trivial
  | r :: rest, _, _, _, _, h1, h2, ⟨a, b, c, d⟩ => ⟨by omega, b, by omega, lies_mono (Int.le_refl _) h2 d⟩
/-- where the last one begins -/
def lastLo (lo : Int) : List Run → Int
  | [] => lo
  | r :: rest => lastLo r.Lo rest
theorem lies_append : ∀ {l m : List Run} {lo hi : Int}, lies lo hi l → lies (lastLo lo l) hi m → lies lo hi (l ++ m)
  | [], _, _, _, _, h => h
  | _ :: _, _, _, _, ⟨a, b, c, d⟩, h => ⟨a, b, c, lies_append d h⟩
theorem lastLo_le : ∀ {l : List Run} {lo hi : Int}, lies lo hi l → lo ≤ hi → lastLo lo l ≤ hi
  | [], _, _, _, h => h
  | r :: rest, lo, hi, ⟨a, b, c, d⟩, h => by
    show lastLo r.Lo rest ≤ hi
    exact lastLo_le d (by omega)
mutual
theorem sp_lies : ∀ (t : Tree) (a : Nat) (q : Bool), lies a ((a + adv q (yt t).length : Nat) : Int) (sp t a q)
  | .mk r b ks, a, q => by
    rw [sp_eq]
    refine ⟨Int.le_refl _, ?_, Int.le_refl _, ?_⟩
    · show (a : Int) ≤ ((a + adv q (yt (.mk r b ks)).length : Nat) : Int)
      omega
    show lies (a : Int) _ (sps ks _ _)
    have h := sps_lies ks (if r = -1 then a + adv q 1 else a) (q || (r == -1))
    refine lies_mono ?_ ?_ h
    · show (a : Int) ≤ ((if r = -1 then a + adv q 1 else a : Nat) : Int)
      split <;> omega
    · show (((if r = -1 then a + adv q 1 else a) + adv (q || (r == -1)) (yts ks).length : Nat) : Int) ≤ ((a + adv q (yt (.mk r b ks)).length : Nat) : Int)
      rw [yt_eq]
      by_cases hr : r = -1
      · simp [hr, adv]
      · simp [hr, adv]
theorem sps_lies : ∀ (ks : List Tree) (a : Nat) (q : Bool), lies a ((a + adv q (yts ks).length : Nat) : Int) (sps ks a q)
  | [], _, _ => trivial
  | t :: r, a, q => by
    simp only [sps, yts, List.length_append, adv_add]
    have h1 := sp_lies t a q
    have h2 := sps_lies r (a + adv q (yt t).length) q
    refine lies_append (lies_mono (Int.le_refl _) (by omega) h1) (lies_mono (lastLo_le h1 (by omega)) (by omega) h2)
end
theorem lies_get : ∀ {l : List Run} {lo hi : Int}, lies lo hi l → ∀ i (h : i < l.length), lo ≤ l[i].Lo ∧ l[i].Lo ≤ l[i].Hi ∧ l[i].Hi ≤ hi ∧ ∀ h0 : 0 < i, (l[i - 1]'(by omega)).Lo ≤ l[i].Lo
  | r :: rest, lo, hi, ⟨a, b, c, d⟩, 0, h => ⟨a, b, c, fun h0 => by omega⟩
  | r :: rest, lo, hi, ⟨a, b, c, d⟩, 1, h => by
    have h' : 0 < rest.length := by simp only [List.length_cons] at h; omega
    obtain ⟨x, y, z, _⟩ := lies_get d 0 h'
    exact ⟨by show lo ≤ rest[0].Lo; omega, y, z, fun _ => x⟩
  | r :: rest, lo, hi, ⟨a, b, c, d⟩, i + 2, h => by
    have h' : i + 1 < rest.length := by simp only [List.length_cons] at h; omega
    obtain ⟨x, y, z, u⟩ := lies_get d (i + 1) h'
    exact ⟨by show lo ≤ rest[i + 1].Lo; omega, y, z, fun _ => u (by omega)⟩
theorem Yield_l3_ok (a : List Run) {hi : Int} (hb : a.length < 1000000) (h0 : 0 < a.length) (hhi : a[0].Hi = hi) (hl : lies 0 hi a) : ∀ (j i : Nat), i ≤ a.length → a.length - i < j → F.law09.TreesYield_l3 a j i = some (.done ())
  | 0, _, _, h => by omega
  | j + 1, i, h1, h2 => by
    simp only [F.law09.TreesYield_l3]
    by_cases hi' : i < a.length
    · obtain ⟨x, y, z, u⟩ := lies_get hl i hi'
      have e0 : at_ a 0 = a[0] := ix_at (i := 0) h0
      have i0 : inR 0 a.length = true := ix_in (i := 0) h0
      have ih := Yield_l3_ok a hb h0 hhi hl j (i + 1) (by omega) (by omega)
      rw [ix_lt hi', if_pos rfl, ix_in hi', if_pos rfl, ix_at hi', if_neg (by simp; omega), if_neg (by simp; omega), i0, if_pos rfl, e0, hhi, if_neg (by simp; omega)]
      by_cases hz : 0 < i
      · have e1 : IntKind.wrap .i64 ((i : Int) - 1) = ((i - 1 : Nat) : Int) := by rw [wrap_i64 (by omega) (by omega)]; omega
        have hlt : i - 1 < a.length := by omega
        have := u hz
        rw [if_pos (by simpa using hz), e1, ix_in hlt, if_pos rfl, ix_at hlt]
        unfold F.law09.TreesYield_j4
        rw [if_neg (by simp; omega), ix_inc (by omega), ih]
      · rw [if_neg (by simpa using hz)]
        unfold F.law09.TreesYield_j4
        rw [if_neg (by simp), ix_inc (by omega), ih]
    · rw [ix_ge hi', if_neg (by simp)]
theorem law_Yield {t : Tree} (_ : okT t) : F.law09.TreesYield 100000 t = some true := by
  unfold F.law09.TreesYield
  rw [heavy_ok (by omega) t, Option.bind_some, alive_K, Option.bind_some]
  by_cases h1 : 1500 < sz t
  · rw [decide_eq_true h1, if_pos rfl]
  · rw [decide_eq_false h1, if_neg (by simp)]
    have hs := sz_eq t
    have hl := len_sz t
    have hys := yts_len t.Kids
    have hdp := dp_le t
    have hdq := dp_eq t
    have hspl := sp_len t 0 false
    have key : F.law09.TreesYield_j1 100000 t = some true := by
      unfold F.law09.TreesYield_j1
      have hp : 0 < (sp t 0 false).length := by omega
      have i0 : inR 0 (sp t 0 false).length = true := ix_in (i := 0) hp
      have e0 : at_ (sp t 0 false) 0 = ⟨0, ((yt t).length : Int)⟩ := by
        have := ix_at (i := 0) hp
        rw [zero_cast] at this
        rw [this]
        simp only [sp_eq, List.getElem_cons_zero, adv]
        simp
      have hlie := sp_lies t 0 false
      have e1 : (sp t 0 false)[0].Hi = (((0 + adv false (yt t).length : Nat)) : Int) := by simp only [sp_eq, List.getElem_cons_zero]
      have hloop := Yield_l3_ok (sp t 0 false) (by omega) hp e1 hlie 100000 0 (by omega) (by omega)
      rw [zero_cast] at hloop
      rw [Size_ok _ _ (by omega) (by omega), Option.bind_some, Spans_ok (by omega) (by omega), Option.bind_some, if_neg (by simp; omega), if_neg (by simp; omega), if_neg (by simp; omega), if_neg (by simp only [beq_iff_eq]; omega), i0,
        if_pos rfl, Yield_ok _ _ (by omega) (by omega), Option.bind_some, e0]
      unfold F.law09.TreesYield_j2
      rw [if_neg (by simp), hloop, alive_K]
      rfl
    by_cases hr : t.Rule = -1
    · rw [if_neg (by simpa using hr)]; exact key
    · have := YieldL_ok (k := 100000) (t := t) (by omega) (by omega) 100000 0 [] (by omega) (by omega) (by rw [List.drop_zero]; simp; omega)
      rw [zero_cast, List.drop_zero] at this
      rw [if_pos (by simpa using hr), this, Option.bind_some, Yield_ok _ _ (by omega) (by omega), Option.bind_some, yt_eq, if_neg hr]
      unfold F.law09.TreesYield_j6
      rw [if_neg (by simp)]
      exact key
end Go.Vc
