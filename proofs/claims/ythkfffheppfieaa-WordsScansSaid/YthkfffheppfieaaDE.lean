/-
  Words: the document's scanner is the plain one; the law WordsScans.
-/
import Derived.Test.YthkfffheppfieaaDC
import Derived.Test.YthkfffheppfieaaCF
import Derived.Test.YthkfffheppfieaaCP3
import Derived.Test.YthkfffheppfieaaWI
set_option linter.unusedVariables false
set_option linter.unusedSimpArgs false
set_option maxHeartbeats 1000000
namespace Go.Vc
open Go
theorem refParse_psP {t : List UInt8} (h : t.length ≤ 65536) : F.ref01.Parse 200000 t = some (psP t) := by
  rw [Cp.refParse_ok (by omega) (by omega), ← Cp.Parse_ok (by omega) (by omega), (psP_ok h).1]
/-! ### blanks -/
theorem over_l3_ok {s : List UInt8} (hb : s.length < 100000) : ∀ (j i : Nat) (r : List UInt8), D s i r → r.length < j → F.ref02.over_l3 s j (i : Int) = some ((s.length - (rem r).length : Nat) : Int)
  | 0, _, _, _, h => by omega
  | j + 1, i, r, hD, hj => by
    simp only [F.ref02.over_l3]
    cases r with
    | nil =>
      have := D_nil hD
      rw [if_neg (by rw [decide_eq_true_eq]; omega)]
      unfold F.ref02.over_j4
      rw [if_neg (by simp), this]
      rfl
    | cons c r =>
      obtain ⟨d1, d2, d3, d4⟩ := D_cons hD
      have d5 := hD.2
      simp only [List.length_cons] at hj d5
      rw [if_pos (by rw [decide_eq_true_eq]; omega), if_pos d3, d2]
      unfold F.ref02.over_j4 rem
      by_cases hc : c.toNat = 10
      · rw [if_neg (by simp; omega), if_pos hc, show s.length - (c :: r).length = i by simp only [List.length_cons]; omega]
      · rw [if_pos (by simp; omega), if_neg hc, ix_inc (by omega)]
        exact over_l3_ok hb j (i + 1) r d4 (by omega)
def ovO (s : List UInt8) : List UInt8 → LR Int Int
  | [] => .done (s.length : Int)
  | c :: r => .ret ((s.length - (c :: r).length : Nat) : Int)
theorem over_l1_ok {s : List UInt8} (hb : s.length < 100000) : ∀ (j i : Nat) (r : List UInt8), D s i r → r.length < j → F.ref02.over_l1 200000 s j (i : Int) = some (ovO s (skL false r))
  | 0, _, _, _, h => by omega
  | j + 1, i, r, hD, hj => by
    simp only [F.ref02.over_l1]
    cases r with
    | nil =>
      have := D_nil hD
      subst this
      rw [if_neg (by rw [decide_eq_true_eq]; omega)]
      rfl
    | cons c r =>
      obtain ⟨d1, d2, d3, d4⟩ := D_cons hD
      have d5 := hD.2
      simp only [List.length_cons] at hj d5
      rw [if_pos (by rw [decide_eq_true_eq]; omega), if_pos d3, d2]
      simp only [F.ref02.over_j2, F.ref02.over_j5]
      rw [skL_f, ix_inc (show i < 4611686018427387904 by omega)]
      by_cases c35 : c.toNat = 35
      · have hnb : ¬ blank c.toNat := by unfold blank; omega
        rw [if_pos (by simp [c35]), over_l3_ok hb 200000 i (c :: r) hD (by simp only [List.length_cons]; omega), Option.bind_some, if_neg hnb, if_pos c35]
        have hrem : rem (c :: r) = rem r := by rw [rem, if_neg (by omega)]
        obtain ⟨a, _, _⟩ := rem_D (s := s) (c :: r) i hD
        rw [skL_rem, hrem]
        rw [hrem] at a
        have hle := rem_le r
        exact over_l1_ok hb j _ _ a (by omega)
      rw [if_neg (by simp; omega)]
      have ih := over_l1_ok hb j (i + 1) r d4 (by omega)
      by_cases hbl : blank c.toNat
      · rw [if_pos hbl, ih]
        rcases hbl with h | h | h | h
        · rw [if_pos (by simp [h]), if_pos (by simp [h]), if_neg (by simp [h])]; simp
        · rw [if_neg (by simp [h])]; simp
        · rw [if_pos (by simp [h]), if_neg (by simp [h])]; simp
        · rw [if_pos (by simp [h]), if_pos (by simp [h]), if_pos (by simp [h])]; simp [h]
      · have hb2 := hbl
        unfold blank at hb2
        rw [if_neg hbl, if_neg c35, if_pos (by simp; omega), if_pos (by simp; omega), if_pos (by simp; omega), if_pos (by simp; omega)]
        show _ = some (LR.ret ((s.length - (c :: r).length : Nat) : Int))
        rw [show s.length - (c :: r).length = i by simp only [List.length_cons]; omega]
theorem over_ok {s r : List UInt8} {i : Nat} (hb : s.length < 100000) (hD : D s i r) : F.ref02.over 200000 s (i : Int) = some ((s.length - (skL false r).length : Nat) : Int) := by
  unfold F.ref02.over
  have := hD.2
  rw [over_l1_ok hb 200000 i r hD (by omega), Option.bind_some]
  cases skL false r <;> rfl
/-! ### brackets -/
def clO (i : Nat) : Option Nat → LR Unit Int
  | none => .done ()
  | some m => .ret ((i + m : Nat) : Int)
theorem closed_l1_ok {s : List UInt8} (hb : s.length < 100000) : ∀ (j i : Nat) (r : List UInt8), D s i r → r.length + 1 < j → F.ref02.closed_l1 s j (i : Int) = some (clO i (brk r))
  | 0, _, _, _, h => by omega
  | j + 1, i, r, hD, hj => by
    simp only [F.ref02.closed_l1]
    cases r with
    | nil =>
      have := D_nil hD
      rw [if_neg (by rw [decide_eq_true_eq]; omega)]
      rfl
    | cons c r =>
      obtain ⟨d1, d2, d3, d4⟩ := D_cons hD
      have d5 := hD.2
      simp only [List.length_cons] at hj d5
      rw [if_pos (by rw [decide_eq_true_eq]; omega), if_pos d3, d2]
      simp only [F.ref02.closed_j3, F.ref02.closed_j2]
      rw [ix_inc (show i < 4611686018427387904 by omega)]
      by_cases h93 : c.toNat = 93
      · rw [if_pos (by simp [h93]), brk.eq_def]
        simp only
        rw [if_neg (by omega), if_pos h93]
        rfl
      rw [if_neg (by simp; omega)]
      by_cases h92 : c.toNat = 92
      · rw [if_pos (by simp [h92]), ix_inc (show i + 1 < 4611686018427387904 by omega)]
        cases r with
        | nil =>
          have : brk [c] = none := by
            rw [brk.eq_def]
            simp only
            rw [if_pos h92]
          rw [this]
          obtain ⟨j, rfl⟩ : ∃ j', j = j' + 1 := ⟨j - 1, by omega⟩
          simp only [F.ref02.closed_l1]
          rw [if_neg (by rw [decide_eq_true_eq]; simp at d5; omega)]
          rfl
        | cons d r =>
          obtain ⟨_, _, _, d7⟩ := D_cons d4
          simp only [List.length_cons] at hj
          rw [closed_l1_ok hb j (i + 1 + 1) r d7 (by omega), brk, if_pos h92]
          cases brk r with
          | none => rfl
          | some m =>
            simp only [Option.map_some, clO]
            rw [show i + 1 + 1 + m = i + (m + 2) by omega]
      · rw [if_neg (by simp; omega), closed_l1_ok hb j (i + 1) r d4 (by omega)]
        have hbk : brk (c :: r) = (brk r).map (· + 1) := by
          rw [brk.eq_def]
          simp only
          rw [if_neg h92, if_neg h93]
        rw [hbk]
        cases brk r with
        | none => rfl
        | some m =>
          simp only [Option.map_some, clO]
          rw [show i + 1 + m = i + (m + 1) by omega]
theorem closed_ok {s r : List UInt8} {i : Nat} {c : UInt8} (hb : s.length < 100000) (hD : D s i (c :: r)) : F.ref02.closed 200000 s (i : Int) = some (match brk r with | none => 0 | some m => ((i + 1 + m : Nat) : Int)) := by
  obtain ⟨d1, d2, d3, d4⟩ := D_cons hD
  have d5 := d4.2
  unfold F.ref02.closed
  rw [ix_inc (by omega), closed_l1_ok hb 200000 (i + 1) r d4 (by omega), Option.bind_some]
  cases brk r <;> rfl
/-! ### numbers -/
theorem cls3 {n : Nat} (h : cls n = 3) : 48 ≤ n ∧ n ≤ 57 := by
  unfold cls at h
  split at h
  · omega
  split at h
  · omega
  split at h
  · assumption
  · omega
theorem dig_eq (x : Int) {d : Nat} (h : 48 ≤ d ∧ d ≤ 57) : IntKind.wrap .i64 ((IntKind.wrap .i64 ((IntKind.wrap .i64 x) + (IntKind.wrap .i64 (d : Int)))) - 48) = IntKind.wrap .i64 ((IntKind.wrap .i64 x) + (IntKind.wrap .i64 (IntKind.wrap .u8 ((d : Int) - 48)))) := by
  have e1 : IntKind.wrap .u8 ((d : Int) - 48) = (d : Int) - 48 := Cp.wrap_u8 (by omega) (by omega)
  rw [e1, wrap_i64 (n := (d : Int)) (by omega) (by omega), wrap_i64 (n := (d : Int) - 48) (by omega) (by omega)]
  generalize IntKind.wrap .i64 x = y
  simp only [IntKind.wrap, IntKind.bits, IntKind.signed]
  simp
  omega
def nrO (i : Nat) : Option (Nat × Int) → LR (Int × Int) (Int × Int × Int)
  | none => .ret (0, 0, 21)
  | some (m, n) => .done (((i + m : Nat) : Int), n)
theorem refnumber_l1_ok {s : List UInt8} (hb : s.length < 100000) {i : Nat} (hi : i ≤ s.length) : ∀ (j : Nat) (r : List UInt8) (c : Nat) (n : Int), D s (i + c) r → r.length < j → c ≤ 6 → F.ref02.number_l1 s (i : Int) j ((i + c : Nat) : Int) n = some (nrO i (numR c n r))
  | 0, _, _, _, _, h, _ => by omega
  | j + 1, r, c, n, hD, hj, hc6 => by
    have h2 := hD.2
    simp only [F.ref02.number_l1]
    cases r with
    | nil =>
      have := D_nil hD
      rw [if_neg (by rw [decide_eq_true_eq]; omega)]
      unfold F.ref02.number_j2
      rw [if_neg (by simp)]
      rfl
    | cons d r =>
      obtain ⟨d1, d2, d3, d4⟩ := D_cons hD
      simp only [List.length_cons] at hj h2
      have hdl := d.toNat_lt
      rw [if_pos (by rw [decide_eq_true_eq]; omega), if_pos d3, d2, class_ok, Option.bind_some]
      unfold F.ref02.number_j2 numR
      by_cases h3 : cls d.toNat = 3
      · rw [if_pos (by simp [h3]), if_pos h3, ix_inc (show i + c < 4611686018427387904 by omega)]
        rw [wrap_i64 (n := ((i + c + 1 : Nat) : Int) - (i : Int)) (by omega) (by omega), show ((i + c + 1 : Nat) : Int) - (i : Int) = ((c + 1 : Nat) : Int) by omega]
        by_cases h6 : c = 6
        · rw [if_pos (by rw [decide_eq_true_eq]; omega), if_pos h6]
          rfl
        · have e1 : IntKind.wrap .i64 (((i + c + 1 : Nat) : Int) - 1) = ((i + c : Nat) : Int) := by rw [wrap_i64 (by omega) (by omega)]; omega
          rw [if_neg (by rw [decide_eq_true_eq]; omega), if_neg h6, e1, if_pos d3, d2, dig_eq _ (cls3 h3)]
          exact refnumber_l1_ok hb hi j r (c + 1) _ d4 (by omega) (by omega)
      · rw [if_neg (by simp; omega), if_neg h3]
        rfl
theorem refnumber_ok {s r : List UInt8} {i : Nat} {c : UInt8} (hb : s.length < 100000) (hD : D s i (c :: r)) :
    F.ref02.number 200000 s (i : Int) = some (match numR 0 0 (c :: r) with
      | none => (0, 0, 21)
      | some (m, n) => if c.toNat = 48 ∧ 1 < m then (0, 0, 21) else (n, ((i + m : Nat) : Int), 0)) := by
  obtain ⟨d1, d2, d3, d4⟩ := D_cons hD
  have h2 := hD.2
  simp only [List.length_cons] at h2
  unfold F.ref02.number
  have := refnumber_l1_ok hb (i := i) (by omega) 200000 (c :: r) 0 0 hD (by simp only [List.length_cons]; omega) (by omega)
  rw [Nat.add_zero] at this
  rw [this, Option.bind_some]
  cases hn : numR 0 0 (c :: r) with
  | none => rfl
  | some p =>
    obtain ⟨m, n⟩ := p
    obtain ⟨w, r', e1, e2, _⟩ := numR_some _ _ _ _ _ hn
    have hlen : m ≤ (c :: r).length := by rw [e1, List.length_append]; omega
    simp only [List.length_cons] at hlen
    simp only [nrO, LR.fin]
    rw [if_pos d3, d2]
    unfold F.ref02.number_j3
    rw [wrap_i64 (by omega) (by omega), show ((i + m : Nat) : Int) - (i : Int) = (m : Int) by omega]
    by_cases h48 : c.toNat = 48
    · rw [if_pos (by simp [h48])]
      by_cases h1 : 1 < m
      · rw [if_pos (by rw [decide_eq_true_eq]; omega), if_pos ⟨h48, h1⟩]
      · rw [if_neg (by rw [decide_eq_true_eq]; omega), if_neg (by omega)]
    · rw [if_neg (by simp; omega), if_neg (by simp), if_neg (by omega)]
/-! ### signs -/
def sgs : List UInt8 := [61, 124, 46, 59, 62, 63, 42, 43, 123, 125, 40, 41, 95, 47, 44, 45]
theorem word_l3_ok {s : List UInt8} {i : Nat} {c : UInt8} (hs : sAt s (i : Int) = (c.toNat : Int)) (hi : i < 4611686018427387904) : ∀ (j q : Nat), q ≤ sgs.length → sgs.length - q < j → F.ref02.word_l3 s (i : Int) j (q : Int) = some (if c ∈ sgs.drop q then .ret (Word.mk 6 [] [] (S4.mk 0 0 0 0) 0 0 0 0, ((i + 1 : Nat) : Int), Fault.mk 0 0) else .done ())
  | 0, _, _, h => by omega
  | j + 1, q, h1, h2 => by
    simp only [F.ref02.word_l3]
    have hsg : ([61, 124, 46, 59, 62, 63, 42, 43, 123, 125, 40, 41, 95, 47, 44, 45] : List UInt8) = sgs := rfl
    rw [hsg]
    by_cases hq : q < sgs.length
    · rw [ix_lt hq, if_pos rfl, ix_in hq, if_pos rfl, sAt_get hq, hs, List.drop_eq_getElem_cons hq]
      by_cases he : sgs[q] = c
      · rw [if_pos (by rw [he]; simp), if_pos (by rw [he]; exact List.mem_cons_self), ix_inc hi]
      · have hne : sgs[q].toNat ≠ c.toNat := fun h => he (UInt8.toNat_inj.1 h)
        rw [if_neg (by simp; omega), ix_inc (by have : sgs.length = 16 := rfl; omega), word_l3_ok hs hi j (q + 1) (by omega) (by omega)]
        by_cases hm : c ∈ sgs.drop (q + 1)
        · rw [if_pos hm, if_pos (List.mem_cons_of_mem _ hm)]
        · rw [if_neg hm, if_neg (fun h => by
            rcases List.mem_cons.1 h with h | h
            · exact he h.symm
            · exact hm h)]
    · rw [ix_ge hq, if_neg (by simp), List.drop_eq_nil_of_le (by omega), if_neg (by simp)]
theorem sgs_all : ∀ n : _root_.Fin 256, decide (UInt8.ofNat n.val ∈ sgs) = isSign (UInt8.ofNat n.val) := by decide +kernel
theorem sgs_sign (c : UInt8) : (c ∈ sgs) ↔ isSign c = true := by
  have := sgs_all ⟨c.toNat, c.toNat_lt⟩
  have e : UInt8.ofNat c.toNat = c := by simp
  simp only [e] at this
  rw [← this, decide_eq_true_eq]
end Go.Vc
