/-
  Trees: yields, sizes, spans; the laws TreesTell and TreesYield.
-/
import Derived.Test.YtncbbbjakbaojaaDoorTB
set_option linter.unusedVariables false
set_option linter.unusedSimpArgs false
namespace Go.Vc
open Go
mutual
def dp : Tree → Nat
  | .mk _ _ ks => dps ks + 1
def dps : List Tree → Nat
  | [] => 0
  | t :: r => max (dp t) (dps r)
end
theorem dp_eq (t : Tree) : dp t = dps t.Kids + 1 := by cases t; simp [dp]
mutual
theorem dp_le : ∀ t : Tree, dp t ≤ sz t
  | .mk _ _ ks => by have := dps_le ks; simp only [dp, sz]; omega
theorem dps_le : ∀ ks : List Tree, dps ks ≤ szs ks
  | [] => Nat.le_refl _
  | t :: r => by have := dp_le t; have := dps_le r; simp only [dps, szs]; omega
end
theorem dps_drop {ks : List Tree} {i : Nat} (h : i < ks.length) : dps (ks.drop i) = max (dp ks[i]) (dps (ks.drop (i + 1))) := by
  rw [List.drop_eq_getElem_cons h]; rfl
mutual
def yt : Tree → List Int
  | .mk r b ks => if r = -1 then [b] else yts ks
def yts : List Tree → List Int
  | [] => []
  | t :: r => yt t ++ yts r
end
theorem yt_eq (t : Tree) : yt t = if t.Rule = -1 then [t.Byte] else yts t.Kids := by cases t; simp [yt]
mutual
theorem yt_len : ∀ t : Tree, (yt t).length ≤ sz t
  | .mk r b ks => by
    have := yts_len ks
    simp only [yt, sz]
    split <;> simp <;> omega
theorem yts_len : ∀ ks : List Tree, (yts ks).length ≤ szs ks
  | [] => Nat.le_refl _
  | t :: r => by have := yt_len t; have := yts_len r; simp only [yts, szs, List.length_append]; omega
end
theorem yts_drop {ks : List Tree} {i : Nat} (h : i < ks.length) : yts (ks.drop i) = yt ks[i] ++ yts (ks.drop (i + 1)) := by
  rw [List.drop_eq_getElem_cons h]; rfl
theorem dg1 {a b m : Nat} (h : (a + b) * m ≤ 140737488355328) : decide ((a + b) * m ≤ 140737488355328) = true := decide_eq_true h
theorem zero_cast : ((0 : Nat) : Int) = 0 := rfl
theorem one_cast : ((1 : Nat) : Int) = 1 := rfl

/-! ### sizes -/
theorem refSize_l1_ok {t : Tree} {g : Tree → Option (Int × Int)} (hb : sz t < 1000000) (hg : ∀ u, u ∈ t.Kids → g u = some ((sz u : Int), (dp u : Int))) :
    ∀ (j i n d : Nat), i ≤ t.Kids.length → t.Kids.length - i < j → 1 ≤ d → n + szs (t.Kids.drop i) < 1000001 → F.ref09.Size_l1 t g j n d i = some (((n + szs (t.Kids.drop i) : Nat) : Int), ((max d (dps (t.Kids.drop i) + 1) : Nat) : Int))
  | 0, _, _, _, _, h, _, _ => by omega
  | j + 1, i, n, d, h1, h2, h3, h4 => by
    simp only [F.ref09.Size_l1]
    by_cases hi : i < t.Kids.length
    · have hl := len_sz t
      have hd := dp_le t.Kids[i]
      have hs := sz_kid hi
      rw [szs_drop hi] at h4
      rw [ix_lt hi, if_pos rfl, ix_in hi, if_pos rfl, ix_at hi, hg _ (List.getElem_mem hi), Option.bind_some]
      have e1 : IntKind.wrap .i64 ((n : Int) + (sz t.Kids[i] : Int)) = ((n + sz t.Kids[i] : Nat) : Int) := by rw [wrap_i64 (by omega) (by omega)]; omega
      have e2 : IntKind.wrap .i64 ((dp t.Kids[i] : Int) + 1) = ((dp t.Kids[i] + 1 : Nat) : Int) := by rw [wrap_i64 (by omega) (by omega)]; omega
      simp only [F.ref09.Size_j3, F.ref09.Size_j2, e1, e2, ix_inc (show i < 4611686018427387904 by omega)]
      by_cases hc : d ≤ dp t.Kids[i]
      · rw [if_pos (by simpa using hc), refSize_l1_ok hb hg j (i + 1) _ _ (by omega) (by omega) (by omega) (by omega), szs_drop hi, dps_drop hi]
        congr 3 <;> omega
      · rw [if_neg (by simpa using hc), refSize_l1_ok hb hg j (i + 1) _ _ (by omega) (by omega) (by omega) (by omega), szs_drop hi, dps_drop hi]
        congr 3 <;> omega
    · rw [ix_ge hi, if_neg (by simp), List.drop_eq_nil_of_le (by omega)]
      simp only [szs, dps]
      congr 3 <;> omega
theorem refSize_ok : ∀ (k : Nat) (t : Tree), sz t < k → k ≤ 1000000 → F.ref09.Size k t = some ((sz t : Int), (dp t : Int))
  | 0, _, h, _ => by omega
  | k + 1, t, hk, hB => by
    show F.ref09.Size_B k (F.ref09.Size k) t = _
    have hs := sz_eq t
    have hl := len_sz t
    unfold F.ref09.Size_B
    have := refSize_l1_ok (t := t) (by omega) (g := F.ref09.Size k) (fun u hu => refSize_ok k u (by have := sz_mem hu; omega) (by omega)) k 0 1 1 (by omega) (by omega) (by omega) (by rw [List.drop_zero]; omega)
    rw [zero_cast, one_cast, List.drop_zero] at this
    rw [this, Option.bind_some, dp_eq t]
    simp only
    congr 3 <;> omega
theorem Size_l1_ok {t : Tree} {g : Tree → Option (Int × Int)} (hb : sz t < 1000000) (hg : ∀ u, u ∈ t.Kids → g u = some ((sz u : Int), (dp u : Int))) :
    ∀ (j i n d : Nat), i ≤ t.Kids.length → t.Kids.length - i < j → n + szs (t.Kids.drop i) < 1000001 → F.trees.Size_l1 t g j n d i = some (((n + szs (t.Kids.drop i) : Nat) : Int), ((max d (dps (t.Kids.drop i)) : Nat) : Int))
  | 0, _, _, _, _, h, _ => by omega
  | j + 1, i, n, d, h1, h2, h4 => by
    simp only [F.trees.Size_l1]
    by_cases hi : i < t.Kids.length
    · have hl := len_sz t
      have hs := sz_kid hi
      rw [szs_drop hi] at h4
      rw [ix_lt hi, if_pos rfl, ix_in hi, if_pos rfl, ix_at hi, hg _ (List.getElem_mem hi), Option.bind_some]
      have e1 : IntKind.wrap .i64 ((n : Int) + (sz t.Kids[i] : Int)) = ((n + sz t.Kids[i] : Nat) : Int) := by rw [wrap_i64 (by omega) (by omega)]; omega
      have e2 : gmax (d : Int) (dp t.Kids[i] : Int) = ((max d (dp t.Kids[i]) : Nat) : Int) := by
        unfold gmax; split <;> omega
      simp only [e1, e2, ix_inc (show i < 4611686018427387904 by omega)]
      rw [Size_l1_ok hb hg j (i + 1) _ _ (by omega) (by omega) (by omega), szs_drop hi, dps_drop hi]
      congr 3 <;> omega
    · rw [ix_ge hi, if_neg (by simp), List.drop_eq_nil_of_le (by omega)]
      simp only [szs, dps]
      congr 3 <;> omega
theorem Size_ok : ∀ (k : Nat) (t : Tree), sz t < k → k ≤ 1000000 → F.trees.Size k t = some ((sz t : Int), (dp t : Int))
  | 0, _, h, _ => by omega
  | k + 1, t, hk, hB => by
    show F.trees.Size_B k (F.trees.Size k) t = _
    have hs := sz_eq t
    have hl := len_sz t
    have hd := dps_le t.Kids
    unfold F.trees.Size_B
    have := Size_l1_ok (t := t) (by omega) (g := F.trees.Size k) (fun u hu => Size_ok k u (by have := sz_mem hu; omega) (by omega)) k 0 1 0 (by omega) (by omega) (by rw [List.drop_zero]; omega)
    rw [zero_cast, one_cast, List.drop_zero] at this
    rw [this, Option.bind_some, dp_eq t]
    simp only
    rw [wrap_i64 (by omega) (by omega)]
    congr 3 <;> omega

/-! ### yields -/
theorem Yield_l1_ok {t : Tree} {g : Tree → Option (List Int)} (hb : sz t < 1000000) (hg : ∀ u, u ∈ t.Kids → g u = some (yt u)) :
    ∀ (j i : Nat) (out : List Int), i ≤ t.Kids.length → t.Kids.length - i < j → out.length + (yts (t.Kids.drop i)).length < 1000001 → F.trees.Yield_l1 t g j out i = some (out ++ yts (t.Kids.drop i))
  | 0, _, _, _, h, _ => by omega
  | j + 1, i, out, h1, h2, h4 => by
    simp only [F.trees.Yield_l1]
    by_cases hi : i < t.Kids.length
    · have hl := len_sz t
      rw [yts_drop hi, List.length_append] at h4
      rw [ix_lt hi, if_pos rfl, ix_in hi, if_pos rfl, ix_at hi, hg _ (List.getElem_mem hi), Option.bind_some, if_pos (decide_eq_true (by omega)), if_pos (decide_eq_true (by omega)), ix_inc (by omega),
        Yield_l1_ok hb hg j (i + 1) _ (by omega) (by omega) (by rw [List.length_append]; omega), yts_drop hi, List.append_assoc]
    · rw [ix_ge hi, if_neg (by simp), List.drop_eq_nil_of_le (by omega)]
      simp [yts]
theorem Yield_ok : ∀ (k : Nat) (t : Tree), sz t < k → k ≤ 1000000 → F.trees.Yield k t = some (yt t)
  | 0, _, h, _ => by omega
  | k + 1, t, hk, hB => by
    show F.trees.Yield_B k (F.trees.Yield k) t = _
    have hs := sz_eq t
    have hl := len_sz t
    have hy := yts_len t.Kids
    unfold F.trees.Yield_B
    rw [yt_eq]
    by_cases hr : t.Rule = -1
    · rw [if_pos (by simpa using hr), if_pos hr]
    · have := Yield_l1_ok (t := t) (by omega) (g := F.trees.Yield k) (fun u hu => Yield_ok k u (by have := sz_mem hu; omega) (by omega)) k 0 [] (by omega) (by omega) (by rw [List.drop_zero]; simp; omega)
      rw [zero_cast, List.drop_zero] at this
      rw [if_neg (by simpa using hr), if_neg hr, this]
      rfl
theorem refYield_l1_ok {t : Tree} {g : Tree → Option (List Int)} (hb : sz t < 1000000) (hg : ∀ u, u ∈ t.Kids → g u = some (yt u)) :
    ∀ (j i : Nat) (out : List Int), i ≤ t.Kids.length → t.Kids.length - i < j → out.length + (yts (t.Kids.drop i)).length < 1000001 → F.ref09.Yield_l1 t g j out i = some (out ++ yts (t.Kids.drop i))
  | 0, _, _, _, h, _ => by omega
  | j + 1, i, out, h1, h2, h4 => by
    simp only [F.ref09.Yield_l1]
    by_cases hi : i < t.Kids.length
    · have hl := len_sz t
      rw [yts_drop hi, List.length_append] at h4
      rw [ix_lt hi, if_pos rfl, ix_in hi, if_pos rfl, ix_at hi, hg _ (List.getElem_mem hi), Option.bind_some, if_pos (decide_eq_true (by omega)), if_pos (decide_eq_true (by omega)), ix_inc (by omega),
        refYield_l1_ok hb hg j (i + 1) _ (by omega) (by omega) (by rw [List.length_append]; omega), yts_drop hi, List.append_assoc]
    · rw [ix_ge hi, if_neg (by simp), List.drop_eq_nil_of_le (by omega)]
      simp [yts]
theorem refYield_ok : ∀ (k : Nat) (t : Tree), sz t < k → k ≤ 1000000 → F.ref09.Yield k t = some (yt t)
  | 0, _, h, _ => by omega
  | k + 1, t, hk, hB => by
    show F.ref09.Yield_B k (F.ref09.Yield k) t = _
    have hs := sz_eq t
    have hl := len_sz t
    have hy := yts_len t.Kids
    unfold F.ref09.Yield_B
    rw [yt_eq]
    by_cases hr : t.Rule = -1
    · rw [if_pos (by simpa using hr), if_pos hr, if_pos (by simp), if_pos (by simp)]; rfl
    · have := refYield_l1_ok (t := t) (by omega) (g := F.ref09.Yield k) (fun u hu => refYield_ok k u (by have := sz_mem hu; omega) (by omega)) k 0 [] (by omega) (by omega) (by rw [List.drop_zero]; simp; omega)
      rw [zero_cast, List.drop_zero] at this
      rw [if_neg (by simpa using hr), if_neg hr, this]
      rfl

/-! ### spans -/
def adv (q : Bool) (n : Nat) : Nat := if q then 0 else n
mutual
def sp : Tree → Nat → Bool → List Run
  | .mk r b ks, a, q => ⟨(a : Int), ((a + adv q (yt (.mk r b ks)).length : Nat) : Int)⟩ :: sps ks (if r = -1 then a + adv q 1 else a) (q || (r == -1))
def sps : List Tree → Nat → Bool → List Run
  | [], _, _ => []
  | t :: r, a, q => sp t a q ++ sps r (a + adv q (yt t).length) q
end
theorem sp_eq (t : Tree) (a : Nat) (q : Bool) : sp t a q = ⟨(a : Int), ((a + adv q (yt t).length : Nat) : Int)⟩ :: sps t.Kids (if t.Rule = -1 then a + adv q 1 else a) (q || (t.Rule == -1)) := by cases t; simp only [sp]
mutual
theorem sp_len : ∀ (t : Tree) (a : Nat) (q : Bool), (sp t a q).length = sz t
  | .mk r b ks, a, q => by simp only [sp, sz, List.length_cons, sps_len ks]
theorem sps_len : ∀ (ks : List Tree) (a : Nat) (q : Bool), (sps ks a q).length = szs ks
  | [], _, _ => rfl
  | t :: r, a, q => by simp only [sps, szs, List.length_append, sp_len t, sps_len r]
end
theorem sps_drop {ks : List Tree} {i : Nat} (h : i < ks.length) (a : Nat) (q : Bool) : sps (ks.drop i) a q = sp ks[i] a q ++ sps (ks.drop (i + 1)) (a + adv q (yt ks[i]).length) q := by
  rw [List.drop_eq_getElem_cons h]; rfl
theorem adv_le (q : Bool) (n : Nat) : adv q n ≤ n := by unfold adv; split <;> omega
theorem adv_add (q : Bool) (n m : Nat) : adv q (n + m) = adv q n + adv q m := by unfold adv; split <;> omega

theorem refspans_l4_ok {k : Nat} {t : Tree} {g : Tree → Int → Bool → Option (List Run)} {q : Bool} (hb : sz t < k) (hB : k ≤ 1000000) (hg : ∀ u, u ∈ t.Kids → ∀ a : Nat, a + sz u < 3000000 → g u a q = some (sp u a q)) :
    ∀ (j i a : Nat) (out : List Run), i ≤ t.Kids.length → t.Kids.length - i < j → a + szs (t.Kids.drop i) < 3000000 → out.length + szs (t.Kids.drop i) < 3000000 → F.ref09.spans_l4 k t g q j out a i = some (out ++ sps (t.Kids.drop i) a q)
  | 0, _, _, _, _, h, _, _ => by omega
  | j + 1, i, a, out, h1, h2, h3, h4 => by
    simp only [F.ref09.spans_l4]
    by_cases hi : i < t.Kids.length
    · have hl := len_sz t
      have hs := sz_kid hi
      have hy := yt_len t.Kids[i]
      have hsl := sp_len t.Kids[i] a q
      have had := adv_le q (yt t.Kids[i]).length
      rw [szs_drop hi] at h3 h4
      rw [ix_lt hi, if_pos rfl, ix_in hi, if_pos rfl, ix_at hi, hg _ (List.getElem_mem hi) a (by omega), Option.bind_some, if_pos (decide_eq_true (by omega)), if_pos (decide_eq_true (by omega))]
      have ih := refspans_l4_ok hb hB hg j (i + 1) (a + adv q (yt t.Kids[i]).length) (out ++ sp t.Kids[i] a q) (by omega) (by omega) (by omega) (by rw [List.length_append]; omega)
      rw [sps_drop hi, ← List.append_assoc, ← ih]
      cases q with
      | true => simp [F.ref09.spans_j6, F.ref09.spans_j5, adv, ix_inc (show i < 4611686018427387904 by omega)]
      | false =>
        rw [if_pos (by simp), refYield_ok k _ (by omega) hB, Option.bind_some]
        simp only [F.ref09.spans_j6, F.ref09.spans_j5, adv, ix_inc (show i < 4611686018427387904 by omega)]
        rw [wrap_i64 (by omega) (by omega)]
        simp
    · rw [ix_ge hi, if_neg (by simp), List.drop_eq_nil_of_le (by omega)]
      simp [sps]
theorem refspans_ok : ∀ (k : Nat) (t : Tree) (a : Nat) (q : Bool), sz t + 1 < k → k ≤ 1000000 → a + sz t < 3000000 → F.ref09.spans k t a q = some (sp t a q)
  | 0, _, _, _, h, _, _ => by omega
  | k + 1, t, a, q, hk, hB, ha => by
    show F.ref09.spans_B k (F.ref09.spans k) t a q = _
    have hs := sz_eq t
    have hl := len_sz t
    have hy := yt_len t
    have hloop := fun (q' : Bool) (b : Nat) (r : Run) (hb : b + szs t.Kids < 3000000) => refspans_l4_ok (k := k) (t := t) (q := q') (by omega) (by omega) (g := F.ref09.spans k) (fun u hu a' h' => refspans_ok k u a' q' (by have := sz_mem hu; omega) (by omega) h') k 0 b [r] (by omega) (by omega) (by rw [List.drop_zero]; exact hb) (by rw [List.drop_zero]; simp; omega)
    simp only [zero_cast, List.drop_zero] at hloop
    have key : F.ref09.spans_j1 k a q t (F.ref09.spans k) ((a + adv q (yt t).length : Nat) : Int) = some (sp t a q) := by
      unfold F.ref09.spans_j1
      rw [if_pos (by simp), if_pos (by simp)]
      have had := adv_le q (yt t).length
      have hy1 : t.Rule = -1 → adv q (yt t).length = adv q 1 := fun h => by rw [yt_eq, if_pos h]; rfl
      have e : (if q = true then F.ref09.spans_j2 k t (F.ref09.spans k) a ((a + adv q (yt t).length : Nat) : Int) true else F.ref09.spans_j2 k t (F.ref09.spans k) a ((a + adv q (yt t).length : Nat) : Int) (t.Rule == -1)) = F.ref09.spans_j2 k t (F.ref09.spans k) a ((a + adv q (yt t).length : Nat) : Int) (q || (t.Rule == -1)) := by cases q <;> rfl
      rw [e]
      unfold F.ref09.spans_j2
      rw [sp_eq]
      by_cases hr : t.Rule = -1
      · rw [if_pos (by simpa using hr), if_pos hr]
        unfold F.ref09.spans_j3
        rw [hy1 hr] at had ⊢
        have := adv_le q 1
        rw [List.nil_append, hloop _ _ _ (by omega), Option.bind_some]
        rfl
      · rw [if_neg (by simpa using hr), if_neg hr]
        unfold F.ref09.spans_j3
        rw [List.nil_append, hloop _ _ _ (by omega), Option.bind_some]
        rfl
    unfold F.ref09.spans_B
    cases q with
    | true => rw [if_neg (by simp)]; simpa [adv] using key
    | false =>
      rw [if_pos (by simp), refYield_ok k t (by omega) (by omega), Option.bind_some, wrap_i64 (by omega) (by omega)]
      simpa [adv] using key
theorem refSpans_ok {k : Nat} {t : Tree} (hk : sz t + 1 < k) (hB : k ≤ 1000000) : F.ref09.Spans k t = some (sp t 0 false) := by
  unfold F.ref09.Spans
  have := refspans_ok k t 0 false hk hB (by omega)
  rw [zero_cast] at this
  rw [this]; rfl

theorem spans_l3_ok {t : Tree} {g : Tree → Int → Bool → List Run → Option (List Run × Int)} {none_ : Bool} (hb : sz t < 1000000)
    (hg : ∀ u, u ∈ t.Kids → ∀ (a : Nat) (out : List Run), a + sz u < 3000000 → out.length + sz u < 3000000 → g u a (none_ || (t.Rule == -1)) out = some (out ++ sp u a (none_ || (t.Rule == -1)), ((a + adv (none_ || (t.Rule == -1)) (yt u).length : Nat) : Int))) :
    ∀ (j i a : Nat) (out : List Run), i ≤ t.Kids.length → t.Kids.length - i < j → a + szs (t.Kids.drop i) < 3000000 → out.length + szs (t.Kids.drop i) < 3000000 → F.trees.spans_l3 t none_ g j out a i = some (out ++ sps (t.Kids.drop i) a (none_ || (t.Rule == -1)), ((a + adv (none_ || (t.Rule == -1)) (yts (t.Kids.drop i)).length : Nat) : Int))
  | 0, _, _, _, _, h, _, _ => by omega
  | j + 1, i, a, out, h1, h2, h3, h4 => by
    simp only [F.trees.spans_l3]
    by_cases hi : i < t.Kids.length
    · have hl := len_sz t
      have hs := sz_kid hi
      have hy := yt_len t.Kids[i]
      have hsl := sp_len t.Kids[i] a (none_ || (t.Rule == -1))
      have had := adv_le (none_ || (t.Rule == -1)) (yt t.Kids[i]).length
      rw [szs_drop hi] at h3 h4
      have e : (if none_ = true then (g (at_ t.Kids i) a true out).bind fun v => F.trees.spans_j5 (F.trees.spans_l3 t none_ g j) i v.1 v.2 else (g (at_ t.Kids i) a (t.Rule == -1) out).bind fun v1 => F.trees.spans_j5 (F.trees.spans_l3 t none_ g j) i v1.1 v1.2) = (g (at_ t.Kids i) a (none_ || (t.Rule == -1)) out).bind fun v => F.trees.spans_j5 (F.trees.spans_l3 t none_ g j) i v.1 v.2 := by cases none_ <;> rfl
      rw [ix_lt hi, if_pos rfl, ix_in hi, if_pos rfl, e, ix_at hi, hg _ (List.getElem_mem hi) a out (by omega) (by omega), Option.bind_some]
      simp only [F.trees.spans_j5, F.trees.spans_j4, ix_inc (show i < 4611686018427387904 by omega)]
      rw [spans_l3_ok hb hg j (i + 1) _ _ (by omega) (by omega) (by omega) (by rw [List.length_append]; omega), sps_drop hi, yts_drop hi, List.length_append, adv_add, List.append_assoc, Nat.add_assoc]
    · rw [ix_ge hi, if_neg (by simp), List.drop_eq_nil_of_le (by omega)]
      simp [sps, yts, adv]
theorem spans_ok : ∀ (k : Nat) (t : Tree) (a : Nat) (q : Bool) (out : List Run), sz t < k → k ≤ 1000000 → a + sz t < 3000000 → out.length + sz t < 3000000 → F.trees.spans k t a q out = some (out ++ sp t a q, ((a + adv q (yt t).length : Nat) : Int))
  | 0, _, _, _, _, h, _, _, _ => by omega
  | k + 1, t, a, q, out, hk, hB, ha, ho => by
    show F.trees.spans_B k (F.trees.spans k) t a q out = _
    have hs := sz_eq t
    have hl := len_sz t
    have hy := yt_len t
    have hys := yts_len t.Kids
    have hloop := fun (b : Nat) (r : Run) (hb : b + szs t.Kids < 3000000) => spans_l3_ok (t := t) (none_ := q) (by omega) (g := F.trees.spans k) (fun u hu a' out' h' h'' => spans_ok k u a' _ out' (by have := sz_mem hu; omega) (by omega) h' h'') k 0 b (out ++ [r]) (by omega) (by omega) (by rw [List.drop_zero]; exact hb) (by rw [List.drop_zero, List.length_append]; simp; omega)
    simp only [zero_cast, List.drop_zero] at hloop
    have key : ∀ b : Nat, b + szs t.Kids < 3000000 → b = (if t.Rule = -1 then a + adv q 1 else a) → F.trees.spans_j2 k t q (F.trees.spans k) out a b = some (out ++ sp t a q, ((a + adv q (yt t).length : Nat) : Int)) := by
      intro b hb hbe
      unfold F.trees.spans_j2
      rw [hloop b _ hb, Option.bind_some]
      have hlen : (out ++ [Run.mk (a : Int) a] ++ sps t.Kids b (q || (t.Rule == -1))).length = out.length + 1 + szs t.Kids := by simp [sps_len]; omega
      simp only
      rw [if_pos (by simp only [inR, Bool.and_eq_true, decide_eq_true_eq, hlen]; omega)]
      have hend : b + adv (q || (t.Rule == -1)) (yts t.Kids).length = a + adv q (yt t).length := by
        rw [hbe, yt_eq]
        by_cases hr : t.Rule = -1
        · simp [hr, adv]
        · simp [hr, adv]
      rw [hend, sp_eq, ← hbe]
      have h1 : at_ (out ++ [Run.mk (a : Int) a] ++ sps t.Kids b (q || (t.Rule == -1))) (out.length : Int) = Run.mk (a : Int) a := by simp [at_]
      rw [h1]
      simp [set_, List.set_append]
    unfold F.trees.spans_B
    rw [if_pos (decide_eq_true (by simp; omega)), if_pos (decide_eq_true (by simp; omega))]
    by_cases hr : t.Rule = -1
    · rw [if_pos (by simpa using hr)]
      unfold F.trees.spans_j1
      cases q with
      | true => rw [if_neg (by simp)]; exact key a (by omega) (by rw [if_pos hr]; simp [adv])
      | false =>
        rw [if_pos (by simp), wrap_i64 (by omega) (by omega)]
        exact key (a + 1) (by omega) (by rw [if_pos hr]; simp [adv])
    · rw [if_neg (by simpa using hr)]
      unfold F.trees.spans_j1
      rw [if_neg (by simp)]
      exact key a (by omega) (by rw [if_neg hr])
theorem Spans_ok {k : Nat} {t : Tree} (hk : sz t < k) (hB : k ≤ 1000000) : F.trees.Spans k t = some (sp t 0 false) := by
  unfold F.trees.Spans
  have := spans_ok k t 0 false [] hk hB (by omega) (by simp; omega)
  rw [zero_cast] at this
  rw [this]; simp
end Go.Vc
