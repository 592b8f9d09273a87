/-
  Trees: how great they are; which are not too great; equal trees; copies.
-/
import Derived.Test.YtncbbbjakbaojaaDoorA1
set_option linter.unusedVariables false
set_option linter.unusedSimpArgs false
namespace Go.Vc
open Go
theorem wrap_i64 {n : Int} (h1 : -9223372036854775808 ≤ n) (h2 : n < 9223372036854775808) : IntKind.wrap .i64 n = n := by
  simp only [IntKind.wrap, IntKind.bits, IntKind.signed]
  simp
  omega
mutual
def sz : Tree → Nat
  | .mk _ _ ks => szs ks + 1
def szs : List Tree → Nat
  | [] => 0
  | t :: r => sz t + szs r
end
theorem sz_eq (t : Tree) : sz t = szs t.Kids + 1 := by cases t; simp [sz]
theorem sz_pos (t : Tree) : 0 < sz t := by rw [sz_eq]; omega
theorem szs_append : ∀ a b : List Tree, szs (a ++ b) = szs a + szs b
  | [], b => by simp [szs]
  | t :: a, b => by simp only [List.cons_append, szs, szs_append a b]; omega
theorem szs_len : ∀ ks : List Tree, ks.length ≤ szs ks
  | [] => Nat.zero_le _
  | t :: r => by have := szs_len r; have := sz_pos t; simp only [List.length_cons, szs]; omega
theorem sz_mem : ∀ {ks : List Tree} {t : Tree}, t ∈ ks → sz t ≤ szs ks
  | x :: r, t, h => by
    rcases List.mem_cons.1 h with rfl | h
    · simp only [szs]; omega
    · have := sz_mem h; simp only [szs]; omega
theorem sz_kid {t : Tree} {i : Nat} (h : i < t.Kids.length) : sz t.Kids[i] < sz t := by
  have := sz_mem (List.getElem_mem h)
  rw [sz_eq t]; omega
theorem len_sz (t : Tree) : t.Kids.length < sz t := by have := szs_len t.Kids; rw [sz_eq t]; omega
theorem szs_drop {ks : List Tree} {i : Nat} (h : i < ks.length) : szs (ks.drop i) = sz ks[i] + szs (ks.drop (i + 1)) := by
  rw [List.drop_eq_getElem_cons h]; rfl

section
variable {α : Type} {ks : List α} {i : Nat}
theorem ix_lt (h : i < ks.length) : decide ((i : Int) < (ks.length : Int)) = true := by simpa using h
theorem ix_ge (h : ¬ i < ks.length) : decide ((i : Int) < (ks.length : Int)) = false := by simp; omega
theorem ix_in (h : i < ks.length) : inR (i : Int) ks.length = true := by
  simp only [inR, Bool.and_eq_true, decide_eq_true_eq]; omega
theorem ix_at [Inhabited α] (h : i < ks.length) : at_ ks (i : Int) = ks[i] := by simp [at_, h]
end
theorem ix_inc {i : Nat} (h : i < 4611686018427387904) : IntKind.wrap .i64 ((i : Int) + 1) = ((i + 1 : Nat) : Int) := by
  rw [wrap_i64 (by omega) (by omega)]; omega

/-! ### Parts, heavy -/
theorem Parts_l1_ok {t : Tree} {g : Tree → Int → Option Int} {most : Nat} (hm : most < 1000000) (hg : ∀ u, u ∈ t.Kids → ∀ n : Nat, 1 ≤ n → n ≤ most → g u ((most - n : Nat) : Int) = some ((min (sz u) (most - n + 1) : Nat) : Int)) :
    ∀ (j i n : Nat), 1 ≤ n → n ≤ most + 1 → most + 1 - n < j → i < n → F.ref09.Parts_l1 t g most j n i = some ((min (n + szs (t.Kids.drop i)) (most + 1) : Nat) : Int)
  | 0, _, _, _, _, h, _ => by omega
  | j + 1, i, n, h1, h2, h3, h4 => by
    simp only [F.ref09.Parts_l1]
    by_cases hi : i < t.Kids.length
    · rw [ix_lt hi, if_pos rfl]
      unfold F.ref09.Parts_j2
      by_cases hn : n ≤ most
      · have : decide ((n : Int) ≤ (most : Int)) = true := by simpa using hn
        rw [this, if_pos rfl, ix_in hi, if_pos rfl, ix_at hi]
        have e : IntKind.wrap .i64 ((most : Int) - n) = ((most - n : Nat) : Int) := by rw [wrap_i64 (by omega) (by omega)]; omega
        rw [e, hg _ (List.getElem_mem hi) n h1 hn, Option.bind_some]
        have hp := sz_pos t.Kids[i]
        have e2 : IntKind.wrap .i64 ((n : Int) + ((min (sz t.Kids[i]) (most - n + 1) : Nat) : Int)) = ((n + min (sz t.Kids[i]) (most - n + 1) : Nat) : Int) := by rw [wrap_i64 (by omega) (by omega)]; omega
        rw [e2, ix_inc (by omega), Parts_l1_ok hm hg j (i + 1) _ (by omega) (by omega) (by omega) (by omega), szs_drop hi]
        congr 2
        omega
      · have : decide ((n : Int) ≤ (most : Int)) = false := by simp; omega
        rw [this, if_neg (by simp)]
        congr 2
        omega
    · rw [ix_ge hi, if_neg (by simp)]
      unfold F.ref09.Parts_j2
      rw [if_neg (by simp), List.drop_eq_nil_of_le (by omega)]
      simp only [szs]
      congr 2
      omega
theorem Parts_ok : ∀ (k : Nat) (t : Tree) (most : Nat), most < 1000000 → most + 2 ≤ k → F.ref09.Parts k t most = some ((min (sz t) (most + 1) : Nat) : Int)
  | 0, _, _, _, h => by omega
  | k + 1, t, most, hm, hk => by
    show F.ref09.Parts_B k (F.ref09.Parts k) t most = _
    unfold F.ref09.Parts_B
    have := Parts_l1_ok (t := t) (g := F.ref09.Parts k) hm (fun u hu' n h1 h2 => Parts_ok k u (most - n) (by omega) (by omega)) k 0 1 (by omega) (by omega) (by omega) (by omega)
    rw [show ((1 : Nat) : Int) = 1 from rfl, show ((0 : Nat) : Int) = 0 from rfl] at this
    rw [this, sz_eq t, Option.bind_some, List.drop_zero]
    congr 2
    omega
def i64b (n : Int) : Prop := -9223372036854775808 ≤ n ∧ n ≤ 9223372036854775807
def u8b (n : Int) : Prop := 0 ≤ n ∧ n < 256
mutual
def okT : Tree → Prop
  | .mk r b ks => i64b r ∧ u8b b ∧ ks.length ≤ maxLen ∧ okTs ks
def okTs : List Tree → Prop
  | [] => True
  | t :: r => okT t ∧ okTs r
end
theorem okTs_mem : ∀ {ks : List Tree}, okTs ks → ∀ t ∈ ks, okT t
  | [], _, _, h => by cases h
  | x :: r, h, t, ht => by
    rcases List.mem_cons.1 ht with rfl | ht
    · exact h.1
    · exact okTs_mem h.2 t ht
theorem okTs_of : ∀ {ks : List Tree}, (∀ t ∈ ks, okT t) → okTs ks
  | [], _ => trivial
  | x :: r, h => ⟨h x (by simp), okTs_of fun t ht => h t (by simp [ht])⟩
theorem okT_eq (t : Tree) : okT t ↔ i64b t.Rule ∧ u8b t.Byte ∧ t.Kids.length ≤ maxLen ∧ okTs t.Kids := by cases t; rfl
end Go.Vc
