/-
  The reference's list of a set's bytes.
-/
import Derived.Test.YtmcnanedpofeoaaPD
namespace Go.Vc
open Go

theorem upTo_step (s : S4) (n : Nat) : upTo s (n + 1) = upTo s n ++ (if hasB s (n : Int) then [(n : Int)] else []) := by
  simp only [upTo, List.range_succ, List.map_append, List.filter_append, List.map_cons, List.map_nil, List.filter_cons, List.filter_nil]
  rfl
theorem refBytes_l1 {s : S4} (hs : okS s) {k : Nat} (hk : 100 ≤ k) (d : Nat) : ∀ (j i : Nat), i + d = 256 → d < j → F.ref01.Bytes_l1 k s j (upTo s i) (i : Int) = some (allB s) := by
  induction d with
  | zero =>
    intro j i hi hj
    cases j with
    | zero => omega
    | succ j =>
      obtain rfl : i = 256 := by omega
      simp only [F.ref01.Bytes_l1]
      rw [if_neg (by decide)]
      rfl
  | succ d ih =>
    intro j i hi hj
    cases j with
    | zero => omega
    | succ j =>
      have hlen := upTo_len s i
      simp only [F.ref01.Bytes_l1]
      rw [if_pos (by rw [decide_eq_true_eq]; omega), refHas_bit hs (by omega) hk, Option.bind_some]
      have h3 : IntKind.wrap .i64 ((i : Int) + 1) = ((i + 1 : Nat) : Int) := by rw [wrap_i64 (by omega) (by omega)]; rfl
      have hb := hasB_bit hs (i := i) (by omega)
      have hst := upTo_step s i
      rw [hb] at hst
      cases hx : bit s i with
      | true =>
        rw [hx] at hst
        rw [if_pos rfl, if_pos (by rw [decide_eq_true_eq]; simp; omega), if_pos (by rw [decide_eq_true_eq]; simp; omega)]
        simp only [F.ref01.Bytes_j3, F.ref01.Bytes_j2, h3]
        rw [wrap_u8 (by omega) (by omega)]
        have := ih j (i + 1) (by omega) (by omega)
        rw [hst] at this
        exact this
      | false =>
        rw [hx] at hst
        rw [if_neg (by simp)]
        simp only [F.ref01.Bytes_j3, F.ref01.Bytes_j2, h3]
        have := ih j (i + 1) (by omega) (by omega)
        rw [hst] at this
        simpa using this
theorem refBytes {s : S4} (hs : okS s) {k : Nat} (hk : 300 ≤ k) : F.ref01.Bytes k s = some (allB s) := by
  unfold F.ref01.Bytes
  have := refBytes_l1 hs (k := k) (by omega) 256 k 0 rfl (by omega)
  have e : upTo s 0 = [] := rfl
  rw [e] at this
  have h2 : F.ref01.Bytes_l1 k s k [] 0 = some (allB s) := this
  rw [h2]; rfl
end Go.Vc
