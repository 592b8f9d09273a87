/-
  Words: places; the law WordsPlaces.
-/
import Derived.Test.YthkfffheppfieaaWA
set_option linter.unusedVariables false
set_option linter.unusedSimpArgs false
namespace Go.Vc
open Go
/-- the line of a place, and how far the last line's end ahead of it lies back -/
def lnN (s : List UInt8) (i : Nat) : Nat := 1 + (s.take i).count 10
def colN (s : List UInt8) : Nat → Nat
  | 0 => 1
  | i + 1 => if s.getD i 0 = 10 then 1 else colN s i + 1
theorem colN_le (s : List UInt8) : ∀ i, 1 ≤ colN s i ∧ colN s i ≤ i + 1
  | 0 => by simp [colN]
  | i + 1 => by
    have := colN_le s i
    unfold colN
    split <;> omega
theorem lnN_le (s : List UInt8) (i : Nat) : lnN s i ≤ i + 1 := by
  unfold lnN
  have := List.count_le_length (a := (10 : UInt8)) (l := s.take i)
  rw [List.length_take] at this
  omega
theorem lnN_succ {s : List UInt8} {i : Nat} (h : i < s.length) : lnN s (i + 1) = if s[i] = 10 then lnN s i + 1 else lnN s i := by
  unfold lnN
  rw [List.take_succ_eq_append_getElem h, List.count_append, List.count_singleton]
  by_cases hc : s[i] = 10
  · simp [hc]; omega
  · simp [hc]
theorem sAt_10 {s : List UInt8} {i : Nat} (h : i < s.length) : (sAt s (i : Int) == 10) = decide (s[i] = 10) := by
  rw [sAt_get h]
  by_cases hc : s[i] = 10
  · rw [decide_eq_true hc, hc]; rfl
  · rw [decide_eq_false hc, beq_eq_false_iff_ne]
    intro e
    apply hc
    apply UInt8.toNat_inj.1
    show s[i].toNat = 10
    omega
theorem refPlace_l1_ok {s : List UInt8} {at' : Nat} (hat : at' ≤ s.length) (hb : s.length < 1000000) : ∀ (j i : Nat), i ≤ at' → at' - i < j → F.ref02.Place_l1 (at' : Int) s j (lnN s i) (colN s i) i = some ((lnN s at' : Int), (colN s at' : Int))
  | 0, _, _, h => by omega
  | j + 1, i, h1, h2 => by
    simp only [F.ref02.Place_l1]
    by_cases hi : i < at'
    · have hlt : i < s.length := by omega
      have hc := colN_le s i
      have hl := lnN_le s i
      rw [if_pos (by simp; omega), ix_in hlt, if_pos rfl, sAt_10 hlt]
      unfold F.ref02.Place_j3 F.ref02.Place_j2
      have ih := refPlace_l1_ok hat hb j (i + 1) (by omega) (by omega)
      rw [ix_inc (by omega), ix_inc (by omega), ix_inc (by omega)]
      have hg : s.getD i 0 = s[i] := by simp [hlt]
      rw [lnN_succ hlt, colN, hg] at ih
      by_cases h10 : s[i] = 10
      · rw [if_pos h10, if_pos h10] at ih
        rw [decide_eq_true h10, if_pos rfl]
        exact ih
      · rw [if_neg h10, if_neg h10] at ih
        rw [decide_eq_false h10, if_neg (by simp)]
        exact ih
    · obtain rfl : i = at' := by omega
      rw [if_neg (by simp)]
theorem lastIdx_col {s : List UInt8} : ∀ i : Nat, i ≤ s.length → Lib.lastIdx (bs s) 10 i = (i : Int) - (colN s i : Int)
  | 0, _ => rfl
  | i + 1, h => by
    have hlt : i < s.length := by omega
    unfold Lib.lastIdx colN
    have hg : s.getD i 0 = s[i] := by simp [hlt]
    have hd : (bs s).data[i]! = s[i] := by
      show (⟨s⟩ : Array UInt8)[i]! = s[i]
      simp [hlt]
    rw [hd, hg]
    have ih := lastIdx_col (s := s) i (by omega)
    by_cases h10 : s[i] = 10
    · rw [if_pos (by rw [h10]; rfl), if_pos h10]
      omega
    · rw [if_neg (fun e => h10 (UInt8.toNat_inj.1 (by show s[i].toNat = 10; omega))), if_neg h10, ih]
      omega
theorem lastIdx_take {s : List UInt8} {n : Nat} : ∀ i : Nat, i ≤ n → n ≤ s.length → Lib.lastIdx (bs (s.take n)) 10 i = Lib.lastIdx (bs s) 10 i
  | 0, _, _ => rfl
  | i + 1, h, h2 => by
    unfold Lib.lastIdx
    have hd : (bs s).data[i]! = s[i]'(by omega) := by
      show (⟨s⟩ : Array UInt8)[i]! = _
      simp [show i < s.length by omega]
    have hd2 : (bs (s.take n)).data[i]! = s[i]'(by omega) := by
      show (⟨s.take n⟩ : Array UInt8)[i]! = _
      have hlt : i < (s.take n).length := by rw [List.length_take]; omega
      simp [hlt, show i < n by omega, show i < s.length by omega]
    rw [hd, hd2, lastIdx_take i (by omega) h2]
theorem places_ok {k : Nat} (s : List UInt8) (p : Int) (hs : s.length ≤ 65536) (hk : 70000 ≤ k) : ∃ v, F.words.Place s p = some v ∧ F.ref02.Place k s p = some v := by
  unfold F.words.Place F.ref02.Place
  by_cases h1 : p < 0
  · simp only [decide_eq_true h1, if_true]
    exact ⟨_, rfl, rfl⟩
  by_cases h2 : (s.length : Int) < p
  · simp only [decide_eq_false h1, decide_eq_true h2, Bool.false_eq_true, if_false, if_true]
    exact ⟨_, rfl, rfl⟩
  obtain ⟨n, rfl⟩ : ∃ n : Nat, p = (n : Int) := ⟨p.toNat, by omega⟩
  have hn : n ≤ s.length := by omega
  have hsub : sub s 0 (n : Int) = s.take n := by simp [sub]
  have href := refPlace_l1_ok (s := s) (at' := n) hn (by omega) k 0 (by omega) (by omega)
  have e1 : lnN s 0 = 1 := by simp [lnN]
  have e2 : colN s 0 = 1 := rfl
  rw [e1, e2, zero_cast] at href
  have hcut : okSub 0 (n : Int) s.length = true := by simp [okSub]; omega
  simp only [decide_eq_false h1, decide_eq_false h2, hcut, Bool.false_eq_true, if_false, if_true, hsub]
  show ∃ v, _ = some v ∧ ((F.ref02.Place_l1 (n : Int) s k ((1 : Nat) : Int) ((1 : Nat) : Int) 0).bind _) = some v
  rw [href]
  have hlen : (s.take n).length = n := by rw [List.length_take]; omega
  have hsz : (bs (s.take n)).size = n := hlen
  have hlast : Lib.lastIndexByte (bs (s.take n)) 10 = (n : Int) - (colN s n : Int) := by
    unfold Lib.lastIndexByte
    rw [hsz, lastIdx_take n (Nat.le_refl _) hn, lastIdx_col n hn]
  have hcol := colN_le s n
  have hln := lnN_le s n
  refine ⟨((lnN s n : Int), (colN s n : Int)), ?_, rfl⟩
  unfold F.strings.Count F.strings.LastIndexByte
  rw [if_pos (decide_eq_true (by rw [hsz]; omega)), hlast]
  simp only [Option.bind_some, Lib.countByte]
  rw [wrap_i64 (n := (((s.take n).count 10 : Nat) : Int) + 1) (by unfold lnN at hln; omega) (by unfold lnN at hln; omega), wrap_i64 (by omega) (by omega)]
  congr 2
  · unfold lnN; omega
  · omega
theorem law_Places (s : List UInt8) (p : Int) : F.law02.WordsPlaces 200000 s p = some true := by
  unfold F.law02.WordsPlaces
  by_cases h : 65536 < s.length
  · rw [if_pos (by simp; omega), alive_K]; rfl
  · obtain ⟨v, e1, e2⟩ := places_ok (k := 200000) s p (by omega) (by omega)
    rw [if_neg (by simp; omega), e1, e2, alive_K]
    simp
end Go.Vc
