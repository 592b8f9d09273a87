/-
  A set's text: charset.Print, ref.Print.
-/
import Derived.Test.YtmcnanedpofeoaaPL
import Derived.Test.YtmcnanedpofeoaaPH
namespace Go.Vc
open Go

def sg (b : Nat) : List UInt8 := (F.charset.sign (b : Int)).getD []
theorem sign_all : ∀ b : _root_.Fin 256, F.charset.sign (b.val : Int) = some (sg b.val) ∧ F.ref01.Sign (b.val : Int) = some (sg b.val) ∧ (sg b.val).length ≤ 4 := by decide +kernel
theorem sign_ok {b : Nat} (hb : b < 256) : F.charset.sign (b : Int) = some (sg b) := (sign_all ⟨b, hb⟩).1
theorem Sign_ok {b : Nat} (hb : b < 256) : F.ref01.Sign (b : Int) = some (sg b) := (sign_all ⟨b, hb⟩).2.1
theorem sg_len {b : Nat} (hb : b < 256) : (sg b).length ≤ 4 := (sign_all ⟨b, hb⟩).2.2

/-- a run's text -/
def runT (r : Run) : List UInt8 := sg r.Lo.toNat ++ (if r.Lo + 1 < r.Hi then [45] else []) ++ (if r.Lo < r.Hi then sg r.Hi.toNat else [])
def bodyT (l : List Run) : List UInt8 := l.flatMap runT
def okR (r : Run) : Prop := 0 ≤ r.Lo ∧ r.Lo ≤ r.Hi ∧ r.Hi < 256
theorem runT_len {r : Run} (h : okR r) : (runT r).length ≤ 9 := by
  obtain ⟨h1, h2, h3⟩ := h
  have a := sg_len (b := r.Lo.toNat) (by omega)
  have b := sg_len (b := r.Hi.toNat) (by omega)
  unfold runT
  split <;> split <;> simp <;> omega
theorem bodyT_len : ∀ {l : List Run}, (∀ r ∈ l, okR r) → (bodyT l).length ≤ 9 * l.length
  | [], _ => by simp [bodyT]
  | r :: l, h => by
    have a := runT_len (h r List.mem_cons_self)
    have b := bodyT_len (fun x hx => h x (List.mem_cons_of_mem _ hx))
    simp only [bodyT, List.flatMap_cons, List.length_append, List.length_cons] at *
    omega
theorem Cr_okR {s : S4} : ∀ n, n ≤ 256 → ∀ r ∈ Cr s n, okR r
  | 0, _, r, h => by simp [Cr] at h
  | n + 1, hn, r, h => by
    rw [Cr_succ, List.mem_append] at h
    rcases h with h | h
    · exact Cr_okR n (by omega) r h
    · split at h
      · simp only [List.mem_cons, List.not_mem_nil, or_false] at h
        subst h
        obtain ⟨h1, h2, _⟩ := ext_spec (s := s) 256 n (by omega) (by omega)
        exact ⟨by simp, by simp; omega, by simp; omega⟩
      · simp at h
theorem at_run {l : List Run} {i : Nat} (hi : i < l.length) : at_ l (i : Int) = l[i] := at_nat hi

theorem Print_l1 {l : List Run} (hl : ∀ r ∈ l, okR r) (hlen : l.length ≤ 256) (d : Nat) : ∀ (j i : Nat) (out : List UInt8), i + d = l.length → d < j → out.length ≤ 1 + 9 * i → F.charset.Print_l1 l j out (i : Int) = some (out ++ bodyT (l.drop i)) := by
  induction d with
  | zero =>
    intro j i out hi hj ho
    cases j with
    | zero => omega
    | succ j =>
      simp only [F.charset.Print_l1]
      rw [if_neg (by rw [decide_eq_true_eq]; omega), List.drop_eq_nil_of_le (by omega)]
      simp [bodyT]
  | succ d ih =>
    intro j i out hi hj ho
    cases j with
    | zero => omega
    | succ j =>
      have hlt : i < l.length := by omega
      have hr := hl l[i] (List.getElem_mem hlt)
      have hrl := runT_len hr
      obtain ⟨h1, h2, h3⟩ := hr
      obtain ⟨lo, hlo⟩ : ∃ n : Nat, l[i].Lo = (n : Int) := ⟨l[i].Lo.toNat, by omega⟩
      obtain ⟨hh, hhi⟩ : ∃ n : Nat, l[i].Hi = (n : Int) := ⟨l[i].Hi.toNat, by omega⟩
      have a := sg_len (b := lo) (by omega)
      have b := sg_len (b := hh) (by omega)
      simp only [F.charset.Print_l1, at_run hlt, hlo, hhi, F.charset.Print_j3, F.charset.Print_j4, F.charset.Print_j2]
      rw [List.drop_eq_getElem_cons hlt]
      simp only [bodyT, List.flatMap_cons]
      have hrt : runT l[i] = sg lo ++ (if (lo : Int) + 1 < hh then [45] else []) ++ (if (lo : Int) < hh then sg hh else []) := by
        unfold runT; rw [hlo, hhi]; simp
      rw [hrt] at hrl ⊢
      rw [if_pos (by rw [decide_eq_true_eq]; omega), if_pos (by rw [inR_iff]; omega), wrap_u8 (by omega) (by omega), sign_ok (by omega), wrap_u8 (by omega) (by omega), sign_ok (by omega)]
      simp only [Option.bind_some]
      rw [if_pos (by rw [decide_eq_true_eq]; omega), wrap_i64 (by omega) (by omega), wrap_succ (by omega)]
      by_cases c1 : (lo : Int) + 1 < hh
      · have c2 : (lo : Int) < hh := by omega
        simp only [c1, c2, if_true, decide_true] at hrl ⊢
        simp only [List.length_append, List.length_cons, List.length_nil] at hrl
        rw [if_pos (by rw [decide_eq_true_eq]; simp; omega), if_pos (by rw [decide_eq_true_eq]; simp; omega), ih j (i + 1) _ (by omega) (by omega) (by simp; omega)]
        simp [bodyT]
      · by_cases c2 : (lo : Int) < hh
        · simp only [c1, c2, if_true, if_false, decide_true, decide_false, Bool.false_eq_true] at hrl ⊢
          simp only [List.length_append, List.length_nil] at hrl
          rw [if_pos (by rw [decide_eq_true_eq]; simp; omega), ih j (i + 1) _ (by omega) (by omega) (by simp; omega)]
          simp [bodyT]
        · simp only [c1, c2, if_false, decide_false, Bool.false_eq_true] at hrl ⊢
          rw [ih j (i + 1) _ (by omega) (by omega) (by simp; omega)]
          simp [bodyT]
theorem refPrint_l1 {l : List Run} (hl : ∀ r ∈ l, okR r) (hlen : l.length ≤ 256) (d : Nat) : ∀ (j i : Nat) (out : List UInt8), i + d = l.length → d < j → out.length ≤ 1 + 9 * i → F.ref01.Print_l1 l j out (i : Int) = some (out ++ bodyT (l.drop i)) := by
  induction d with
  | zero =>
    intro j i out hi hj ho
    cases j with
    | zero => omega
    | succ j =>
      simp only [F.ref01.Print_l1]
      rw [if_neg (by rw [decide_eq_true_eq]; omega), List.drop_eq_nil_of_le (by omega)]
      simp [bodyT]
  | succ d ih =>
    intro j i out hi hj ho
    cases j with
    | zero => omega
    | succ j =>
      have hlt : i < l.length := by omega
      have hr := hl l[i] (List.getElem_mem hlt)
      have hrl := runT_len hr
      obtain ⟨h1, h2, h3⟩ := hr
      obtain ⟨lo, hlo⟩ : ∃ n : Nat, l[i].Lo = (n : Int) := ⟨l[i].Lo.toNat, by omega⟩
      obtain ⟨hh, hhi⟩ : ∃ n : Nat, l[i].Hi = (n : Int) := ⟨l[i].Hi.toNat, by omega⟩
      have a := sg_len (b := lo) (by omega)
      have b := sg_len (b := hh) (by omega)
      simp only [F.ref01.Print_l1, at_run hlt, hlo, hhi, F.ref01.Print_j3, F.ref01.Print_j4, F.ref01.Print_j2]
      rw [List.drop_eq_getElem_cons hlt]
      simp only [bodyT, List.flatMap_cons]
      have hrt : runT l[i] = sg lo ++ (if (lo : Int) + 1 < hh then [45] else []) ++ (if (lo : Int) < hh then sg hh else []) := by
        unfold runT; rw [hlo, hhi]; simp
      rw [hrt] at hrl ⊢
      rw [if_pos (by rw [decide_eq_true_eq]; omega), if_pos (by rw [inR_iff]; omega), Sign_ok (by omega), Sign_ok (by omega)]
      simp only [Option.bind_some]
      rw [if_pos (by rw [decide_eq_true_eq]; omega), wrap_i64 (by omega) (by omega), wrap_succ (by omega)]
      by_cases c1 : (lo : Int) + 1 < hh
      · have c2 : (lo : Int) < hh := by omega
        have c3 : (2 : Int) ≤ hh - lo := by omega
        have c4 : ((hh : Int) != lo) = true := by simp; omega
        simp only [c1, c2, c3, c4, if_true, decide_true] at hrl ⊢
        simp only [List.length_append, List.length_cons, List.length_nil] at hrl
        rw [if_pos (by rw [decide_eq_true_eq]; simp; omega), if_pos (by rw [decide_eq_true_eq]; simp; omega), ih j (i + 1) _ (by omega) (by omega) (by simp; omega)]
        simp [bodyT]
      · have c3 : ¬ (2 : Int) ≤ hh - lo := by omega
        by_cases c2 : (lo : Int) < hh
        · have c4 : ((hh : Int) != lo) = true := by simp; omega
          simp only [c1, c2, c3, c4, if_true, if_false, decide_false, Bool.false_eq_true] at hrl ⊢
          simp only [List.length_append, List.length_nil] at hrl
          rw [if_pos (by rw [decide_eq_true_eq]; simp; omega), ih j (i + 1) _ (by omega) (by omega) (by simp; omega)]
          simp [bodyT]
        · have c4 : ((hh : Int) != lo) = false := by simp; omega
          simp only [c1, c2, c3, c4, if_false, decide_false, Bool.false_eq_true] at hrl ⊢
          rw [ih j (i + 1) _ (by omega) (by omega) (by simp; omega)]
          simp [bodyT]
def printT (s : S4) : List UInt8 := 91 :: bodyT (Cr s 256) ++ [93]
theorem printT_len (s : S4) : (printT s).length ≤ 2306 := by
  have h := bodyT_len (Cr_okR (s := s) 256 (Nat.le_refl _))
  have h2 := Cr_len s 256
  unfold printT
  simp
  omega
theorem Print_ok {s : S4} (hs : okS s) {k : Nat} (hk : 300 ≤ k) : F.charset.Print k s = some (printT s) := by
  have hl := Cr_len s 256
  have hb := bodyT_len (Cr_okR (s := s) 256 (Nat.le_refl _))
  have h := Print_l1 (Cr_okR (s := s) 256 (Nat.le_refl _)) hl (Cr s 256).length k 0 [91] (by omega) (by omega) (by simp)
  have h2 : F.charset.Print_l1 (Cr s 256) k [91] 0 = _ := h
  unfold F.charset.Print
  rw [Runs_eq hs, Option.bind_some, h2, Option.bind_some, if_pos (by rw [decide_eq_true_eq]; simp; omega)]
  simp [printT]
theorem refPrint_ok {s : S4} (hs : okS s) {k : Nat} (hk : 300 ≤ k) : F.ref01.Print k s = some (printT s) := by
  have hl := Cr_len s 256
  have hb := bodyT_len (Cr_okR (s := s) 256 (Nat.le_refl _))
  have h := refPrint_l1 (Cr_okR (s := s) 256 (Nat.le_refl _)) hl (Cr s 256).length k 0 [91] (by omega) (by omega) (by simp)
  have h2 : F.ref01.Print_l1 (Cr s 256) k [91] 0 = _ := h
  unfold F.ref01.Print
  rw [refRuns hs hk, Option.bind_some, h2, Option.bind_some, if_pos (by rw [decide_eq_true_eq]; simp; omega)]
  simp [printT]
theorem law_Prints {s : S4} (hs : okS s) : F.law01.CharsetPrints 300 s = some true := by
  unfold F.law01.CharsetPrints
  rw [alive_ok, Print_ok hs (by omega), refPrint_ok hs (by omega)]
  simp
end Go.Vc
