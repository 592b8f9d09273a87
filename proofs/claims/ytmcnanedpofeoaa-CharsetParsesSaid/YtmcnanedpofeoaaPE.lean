/-
  CharsetEach.
-/
import Derived.Test.YtmcnanedpofeoaaTT
import Derived.KernelRfl
namespace Go.Vc
open Go
theorem alive_ok : F.law01.alive 300 = some true := by kernel_rfl

theorem allB_sorted (s : S4) : (allB s).Pairwise (· < ·) := by
  unfold allB upTo
  refine List.Pairwise.filter _ ?_
  rw [List.pairwise_map]
  exact (List.pairwise_lt_range (n := 256)).imp (fun h => by simpa using h)

theorem at_get' {α : Type} [Inhabited α] (pre rest : List α) (x : α) : at_ (pre ++ x :: rest) (pre.length : Int) = x := by simp [at_]

theorem Each_run {L : List Int} {m : Int} (hs : L.Pairwise (· < ·)) (hL : L.length ≤ 256) : ∀ (rest pre : List Int), L = pre ++ rest → (pre.length : Int) < m → runR (F.law01.CharsetEach_b3 L m) (pre.length : Int) rest = some (if m ≤ L.length then .brk m else .next (L.length : Int))
  | [], pre, h, hm => by
    simp only [List.append_nil] at h
    subst h
    simp only [runR]
    rw [if_neg (by omega)]
  | x :: rest, pre, h, hm => by
    have hlen : L.length = pre.length + rest.length + 1 := by rw [h]; simp; omega
    obtain ⟨t, h3, ht⟩ := Each_tot (v := L) (m := m) (x := x) (v3 := (pre.length : Int)) (by omega) (by omega)
    have ht' : t = false := ht (by omega) (by rw [h]; exact at_get' _ _ _) (fun hp => by
      have hp' : 0 < pre.length := by omega
      have e1 : at_ L ((pre.length : Int) - 1) = pre[pre.length - 1] := by
        rw [h]
        have : ((pre.length : Int) - 1).toNat = pre.length - 1 := by omega
        simp only [at_, this]
        rw [List.getD_eq_getElem?_getD, List.getElem?_append_left (by omega), List.getElem?_eq_getElem (by omega)]
        rfl
      rw [e1]
      rw [h] at hs
      exact (List.pairwise_append.1 hs).2.2 _ (List.getElem_mem _) x (by simp))
    subst ht'
    simp only [runR, h3, Each_j4 (v3 := (pre.length : Int)) (m := m) (t := false) (by omega) (by omega)]
    by_cases hm1 : (pre.length : Int) + 1 = m
    · simp only [hm1, if_true, Bool.false_eq_true, if_false]
      rw [if_pos (by omega)]
    · simp only [hm1, if_false, Bool.false_eq_true]
      have := Each_run (m := m) hs hL rest (pre ++ [x]) (by rw [h]; simp) (by simp; omega)
      rw [← this]
      simp

theorem Each_j2_ok (s : S4) {m : Int} (h1 : 1 ≤ m) (h2 : m ≤ 256) : F.law01.CharsetEach_j2 300 s m = some true := by
  unfold F.law01.CharsetEach_j2
  have hL := upTo_len s 256
  have hr := Each_run (m := m) (allB_sorted s) hL (allB s) [] rfl (by simp; omega)
  simp only [List.length_nil, Int.ofNat_zero] at hr
  rw [Bytes_eq, Option.bind_some]
  have hr' : runR (F.law01.CharsetEach_b3 (allB s) m) 0 (allB s) = _ := hr
  rw [hr', Option.bind_some]
  by_cases hm : m ≤ (allB s).length
  · rw [if_pos hm]
    simp only [alive_ok, Option.bind_some, if_true, F.law01.CharsetEach_j6, BEq.rfl]
    simp [hm]
  · rw [if_neg hm]
    have hne : ((((allB s).length : Int)) == m) = false := by simp; omega
    simp only [alive_ok, Option.bind_some, if_true, F.law01.CharsetEach_j5, hne, BEq.rfl]
    simp

theorem law_Each (s : S4) (most : Int) : F.law01.CharsetEach 300 s most = some true := by
  unfold F.law01.CharsetEach F.law01.CharsetEach_j1
  by_cases h1 : most < 1
  · simp only [h1, decide_true, if_true]
    exact Each_j2_ok s (by decide) (by decide)
  · by_cases h2 : 256 < most
    · simp only [h1, h2, decide_true, decide_false, if_true, if_false, Bool.false_eq_true]
      exact Each_j2_ok s (by decide) (by decide)
    · simp only [h1, h2, decide_false, if_false, Bool.false_eq_true]
      exact Each_j2_ok s (by omega) (by omega)
end Go.Vc
