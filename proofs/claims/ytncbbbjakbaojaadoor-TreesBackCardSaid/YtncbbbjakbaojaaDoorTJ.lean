/-
  Trees: the document's reader is the plain one; the law TreesReads.
-/
import Derived.Test.YtncbbbjakbaojaaDoorTI
set_option linter.unusedVariables false
set_option linter.unusedSimpArgs false
namespace Go.Vc
open Go
def t0 : Tree := ⟨0, 0, []⟩
def on (s : List UInt8) : Rd Tree → Tree × Int × Fault
  | .error (m, c) => (t0, 0, ⟨((s.length - m : Nat) : Int), c⟩)
  | .ok (t, r) => (t, ((s.length - r.length : Nat) : Int), ⟨0, 0⟩)
/-! ### hexadecimal digits -/
def lastH (v : Int) : Nat → Nat → Int → Int
  | 0, _, q => q
  | d + 1, j, q => lastH v d (j + 1) (if sAt hexA (j : Int) = v then (j : Int) else q)
theorem one_l4_ok {s : List UInt8} {i : Int} (hi : inR i s.length = true) : ∀ (d j n : Nat) (q : Int), j + d = 16 → d < n → F.ref09.one_l4 i s n q j = some (lastH (sAt s i) d j q, 16, false)
  | 0, j, n + 1, q, h, _ => by
    obtain rfl : j = 16 := by omega
    simp [F.ref09.one_l4, lastH]
  | d + 1, j, n + 1, q, h, h2 => by
    have e : ([48, 49, 50, 51, 52, 53, 54, 55, 56, 57, 97, 98, 99, 100, 101, 102] : List UInt8) = hexA := rfl
    simp only [F.ref09.one_l4, e]
    rw [if_pos (by simp; omega), if_pos (ix_in (by rw [hexA_len]; omega)), if_pos hi]
    simp only [F.ref09.one_j6, F.ref09.one_j5, ix_inc (show j < 4611686018427387904 by omega)]
    rw [one_l4_ok hi d (j + 1) n _ (by omega) (by omega), one_l4_ok hi d (j + 1) n _ (by omega) (by omega), lastH]
    by_cases hc : sAt hexA (j : Int) = sAt s i
    · rw [if_pos (by simpa using hc), if_pos hc]
    · rw [if_neg (by simpa using hc), if_neg hc]
  | 0, j, 0, _, _, h => by omega
  | d + 1, j, 0, _, _, h => by omega
theorem lastH_all : ∀ n : _root_.Fin 256, lastH ((UInt8.ofNat n.val).toNat : Int) 16 0 16 = (match hexv (UInt8.ofNat n.val) with | none => 16 | some a => (a : Int)) := by decide +kernel
theorem lastH_ok (c : UInt8) : lastH (c.toNat : Int) 16 0 16 = (match hexv c with | none => 16 | some a => (a : Int)) := by
  have := lastH_all ⟨c.toNat, c.toNat_lt⟩
  simpa using this
theorem one_l3_ok {k : Nat} {s r : List UInt8} {i : Nat} (hb : s.length < 100000) (hk : 100 ≤ k) (hD : D s (i + 1) r) : F.ref09.one_l3 k i s k 0 ((i + 1 : Nat) : Int) = some (match hexR r with
    | .error (m, c) => .ret (t0, 0, ⟨((s.length - m : Nat) : Int), c⟩)
    | .ok (a, r1) => (match hexR r1 with
      | .error (m, c) => .ret (t0, 0, ⟨((s.length - m : Nat) : Int), c⟩)
      | .ok (b, _) => .done ((16 * a + b : Nat) : Int))) := by
  obtain ⟨k0, rfl⟩ : ∃ k0, k = k0 + 3 := ⟨k - 3, by omega⟩
  have hlen := hD.2
  have e3 : IntKind.wrap .i64 ((i : Int) + 3) = ((i + 3 : Nat) : Int) := by rw [wrap_i64 (by omega) (by omega)]; omega
  have step : ∀ (q j n : Nat) (rest : List UInt8), D s q rest → q < i + 3 → n < 1000 → q < 100000 + 10 → F.ref09.one_l3 (k0 + 3) i s (j + 1) n q = (match hexR rest with
      | .error (m, c) => some (.ret (t0, 0, ⟨((s.length - m : Nat) : Int), c⟩))
      | .ok (a, _) => F.ref09.one_l3 (k0 + 3) i s j ((16 * n + a : Nat) : Int) ((q + 1 : Nat) : Int)) := by
    intro q j n rest hD' hq hn hq2
    simp only [F.ref09.one_l3, e3]
    rw [if_pos (by simp; omega)]
    cases rest with
    | nil =>
      have := D_nil hD'
      rw [if_pos (by simp; omega)]
      rfl
    | cons c rest =>
      obtain ⟨d1, d2, d3, d4⟩ := D_cons hD'
      have d5 := hD'.2
      simp only [List.length_cons] at d5
      have hl4 := one_l4_ok (s := s) (i := (q : Int)) d3 16 0 (k0 + 3) 16 (by omega) (by omega)
      rw [zero_cast] at hl4
      rw [if_neg (by simp; omega), hl4, Option.bind_some, d2, lastH_ok]
      cases hv : hexv c with
      | none =>
        simp only [hexR, hv]
        rw [if_pos (by simp), show s.length - (rest.length + 1) = q by omega]
        rfl
      | some a =>
        have ha := hexv_lt' hv
        simp only [hexR, hv]
        rw [if_neg (by simp only [beq_iff_eq]; omega), ix_inc (by omega), wrap_i64 (n := 16 * (n : Int)) (by omega) (by omega), wrap_i64 (by omega) (by omega)]
        congr 1
  have s1 := step (i + 1) (k0 + 2) 0 r hD (by omega) (by omega) (by omega)
  rw [zero_cast] at s1
  rw [s1]
  cases he : hexR r with
  | error f => rfl
  | ok a =>
    obtain ⟨a, r1⟩ := a
    have hl := hexR_less r
    rw [he] at hl
    have ha := hexR_lt he
    have hD1 := D_less hD hl
    have hpos : s.length - r1.length = i + 2 := by
      cases r with
      | nil => cases he
      | cons x r0 =>
        simp only [List.length_cons] at hlen
        cases hv : hexv x with
        | none => simp only [hexR, hv] at he; cases he
        | some a0 => simp only [hexR, hv] at he; cases he; omega
    rw [hpos] at hD1
    simp only
    rw [step (i + 2) (k0 + 1) (16 * 0 + a) r1 hD1 (by omega) (by omega) (by have := hD1.2; omega)]
    cases he2 : hexR r1 with
    | error f => rfl
    | ok b =>
      obtain ⟨b, r2⟩ := b
      simp only [F.ref09.one_l3, e3]
      rw [if_neg (by simp; omega)]
      congr 2
      omega
/-! ### numbers -/
def numS : Nat → Nat → List UInt8 → Rd Nat
  | _, n, [] => .ok (n, [])
  | cnt, n, c :: r => if isD c then (if cnt = 6 ∨ (0 < cnt ∧ n = 0) then .error (r.length + 1, 11) else numS (cnt + 1) (10 * n + (c.toNat - 48)) r) else .ok (n, c :: r)
theorem numS_R : ∀ (r : List UInt8) (cnt n : Nat), numR cnt n r = (match numS cnt n r with | .ok (_, []) => .error (0, 14) | x => x)
  | [], _, _ => rfl
  | c :: r, cnt, n => by
    unfold numR numS
    split
    · split
      · rfl
      · exact numS_R r _ _
    · rfl
theorem node_l1_ok {s : List UInt8} {b : Nat} {c0 : UInt8} {r0 : List UInt8} (hb : s.length < 100000) (hb0 : D s b (c0 :: r0)) : ∀ (j i n : Nat) (r : List UInt8), D s i r → b ≤ i → i - b ≤ 6 → n < 10 ^ (i - b) → (b < i → (n = 0 ↔ c0 = 48)) → (b = i → n = 0 ∧ r = c0 :: r0) → r.length < j →
    F.ref09.node_l1 s b j n i = some (match numS (i - b) n r with
      | .error (m, c) => .ret (t0, 0, ⟨((s.length - m : Nat) : Int), c⟩)
      | .ok (m, r') => .done ((m : Int), ((s.length - r'.length : Nat) : Int)))
  | 0, _, _, _, _, _, _, _, _, _, h => by omega
  | j + 1, i, n, r, hD, h1, h2, h3, h7, h8, h4 => by
    simp only [F.ref09.node_l1]
    cases r with
    | nil =>
      have := D_nil hD
      subst this
      rw [if_neg (by simp)]
      unfold F.ref09.node_j2
      rw [if_neg (by simp)]
      rfl
    | cons x r =>
      obtain ⟨d1, d2, d3, d4⟩ := D_cons hD
      have d5 := hD.2
      simp only [List.length_cons] at h4 d5
      have hsub : s.length - (r.length + 1) = i := by omega
      rw [if_pos (by simpa using d1), if_pos d3, d2]
      have etest : (if decide (48 ≤ (x.toNat : Int)) = true then F.ref09.node_j2 i b s (F.ref09.node_l1 s b j) n (decide ((x.toNat : Int) ≤ 57)) else F.ref09.node_j2 i b s (F.ref09.node_l1 s b j) n false) = F.ref09.node_j2 i b s (F.ref09.node_l1 s b j) n (isD x) := by
        unfold isD
        by_cases hx : 48 ≤ x.toNat
        · rw [if_pos (by simp; omega)]
          congr 1
          rw [Bool.eq_iff_iff]
          simp
          omega
        · rw [if_neg (by simp; omega)]
          congr 1
          rw [Bool.eq_iff_iff]
          simp
          omega
      rw [etest]
      unfold numS
      cases hd : isD x with
      | false =>
        unfold F.ref09.node_j2
        simp only [Bool.false_eq_true, if_false, List.length_cons, hsub]
      | true =>
        obtain ⟨x1, x2⟩ := isD_iff.1 hd
        have ew : IntKind.wrap .i64 ((i : Int) - (b : Int)) = ((i - b : Nat) : Int) := by rw [wrap_i64 (by omega) (by omega)]; omega
        unfold F.ref09.node_j2
        rw [ew]
        simp only [if_true, F.ref09.node_j4, F.ref09.node_j3, d3, d2, Bool.false_eq_true, if_false]
        by_cases h6 : i - b = 6
        · rw [if_pos (by simp; omega), if_pos (.inl h6)]
          simp only [hsub]
          rfl
        · rw [if_neg (by simp; omega)]
          have hn5 : n < 100000 := Nat.lt_of_lt_of_le h3 (Nat.le_trans (Nat.pow_le_pow_right (by omega) (show i - b ≤ 5 by omega)) (by decide))
          have e2 : IntKind.wrap .i64 (IntKind.wrap .i64 (IntKind.wrap .i64 (10 * (n : Int)) + IntKind.wrap .i64 (x.toNat : Int)) - 48) = ((10 * n + (x.toNat - 48) : Nat) : Int) := by
            rw [wrap_i64 (n := 10 * (n : Int)) (by omega) (by omega), wrap_i64 (n := (x.toNat : Int)) (by omega) (by omega), wrap_i64 (n := 10 * (n : Int) + (x.toNat : Int)) (by omega) (by omega), wrap_i64 (by omega) (by omega)]
            omega
          have hn' : 10 * n + (x.toNat - 48) < 10 ^ (i - b + 1) := by rw [Nat.pow_succ]; omega
          have ih := fun (g1 : 10 * n + (x.toNat - 48) = 0 ↔ c0 = 48) => node_l1_ok hb hb0 j (i + 1) (10 * n + (x.toNat - 48)) r d4 (by omega) (by omega) (by rw [show i + 1 - b = i - b + 1 by omega]; exact hn') (fun _ => g1) (fun e => by omega) (by omega)
          rw [show i + 1 - b = i - b + 1 by omega] at ih
          rw [e2, ix_inc (by omega)]
          obtain ⟨q1, q2, q3, _⟩ := D_cons hb0
          by_cases hbi : b < i
          · rw [if_pos (by simp; omega), if_pos q3, q2]
            have hz := h7 hbi
            by_cases hn0 : n = 0
            · have hc : c0 = 48 := hz.1 hn0
              subst hc
              rw [if_pos (by decide), if_pos (.inr ⟨by omega, hn0⟩)]
              simp only [hsub]
              rfl
            · have hc : ¬ c0 = 48 := fun e => hn0 (hz.2 e)
              have hc' : ¬ ((c0.toNat : Int) = 48) := fun e => hc ((u8_int (n := 48) (by omega)).1 e)
              rw [if_neg (by simpa using hc'), if_neg (fun hh => by rcases hh with hh | hh; exact h6 hh; exact hn0 hh.2)]
              exact ih ⟨fun e => by omega, fun e => absurd e hc⟩
          · obtain ⟨rfl, hr⟩ := h8 (by omega)
            cases hr
            rw [if_neg (by simp; omega), if_neg (fun hh => by rcases hh with hh | hh; exact h6 hh; omega)]
            refine ih ⟨fun e => ?_, fun e => ?_⟩
            · apply UInt8.toNat_inj.1
              show c0.toNat = 48
              omega
            · subst e
              decide
/-! ### nodes -/
def ln (s : List UInt8) (n : Int) : Rd (List Tree) → Tree × Int × Fault
  | .error (m, c) => (t0, 0, ⟨((s.length - m : Nat) : Int), c⟩)
  | .ok (ks, r) => (⟨n, 0, ks⟩, ((s.length - r.length : Nat) : Int), ⟨0, 0⟩)
theorem node_l5_ok {s : List UInt8} {d1 : Int × Int} {deep : Nat} {g : List UInt8 → Int → Int → Option (Tree × Int × Fault)} {rd : List UInt8 → Rd Tree} (hb : s.length < 100000) (hdp : deep < 1000) (hrd : ∀ r, less r (rd r))
    (hg : ∀ i r, D s i r → g s (i : Int) ((deep + 1 : Nat) : Int) = some (on s (rd r))) :
    ∀ (j j' i : Nat) (r : List UInt8) (acc : List Tree), D s i r → acc ≠ [] → r.length < j → r.length < j' → acc.length + r.length < 1000000 → F.ref09.node_l5 s d1 g deep j i 32 acc = some (.ret (ln s d1.1 (kidsR rd j' r acc)))
  | 0, _, _, _, _, _, _, h, _, _ => by omega
  | j + 1, 0, _, _, _, _, _, _, h, _ => by omega
  | j + 1, j' + 1, i, r, acc, hD, hacc, h1, h2, h3 => by
    simp only [F.ref09.node_l5]
    cases r with
    | nil =>
      have := D_nil hD
      rw [if_pos (by simp; omega)]
      rfl
    | cons c r =>
      obtain ⟨d1', d2, d3, d4⟩ := D_cons hD
      have d5 := hD.2
      simp only [List.length_cons] at h1 h2 h3 d5
      have eL : IntKind.wrap .i64 ((deep : Int) + 1) = ((deep + 1 : Nat) : Int) := ix_inc (by omega)
      have h41 : ((c.toNat : Int) == 41) = decide (c = 41) := by
        by_cases hc : c = 41
        · subst hc; decide
        · rw [decide_eq_false hc]
          have := fun e => hc ((u8_int (n := 41) (by omega)).1 e)
          simpa using this
      have h32 : ((c.toNat : Int) != 32) = !(decide (c = 32)) := by
        by_cases hc : c = 32
        · subst hc; decide
        · rw [decide_eq_false hc]
          have := fun e => hc ((u8_int (n := 32) (by omega)).1 e)
          simpa using this
      rw [if_neg (by simp; omega), if_pos d3, d2, h41]
      unfold kidsR
      by_cases hc : c = 41
      · rw [if_pos hc, decide_eq_true hc, if_pos rfl]
        unfold F.ref09.node_j7
        rw [if_pos (by decide), ix_inc (by omega), show i + 1 = s.length - r.length by omega]
        rfl
      · rw [if_neg hc, decide_eq_false hc, if_neg (by simp), if_neg hacc]
        unfold F.ref09.node_j7
        rw [if_neg (by simp), if_pos d3, d2, h32]
        by_cases hc2 : c = 32
        · rw [if_pos hc2, decide_eq_true hc2, if_neg (by simp), if_neg (by decide)]
          unfold F.ref09.node_j8
          rw [if_neg (by simp), ix_inc (by omega), eL, hg (i + 1) r d4, Option.bind_some]
          have hless := hrd r
          cases he : rd r with
          | error f =>
            obtain ⟨m, e⟩ := f
            rw [he] at hless
            have hne : e ≠ 0 := by rcases hless.2 with h | h | h <;> omega
            have c1 : (e != 0) = true := by simpa using hne
            simp only [on, c1, if_true]
            rfl
          | ok a =>
            obtain ⟨t, r'⟩ := a
            rw [he] at hless
            have hlt := less_len hless
            have hD3 := D_less d4 hless
            have c1 : ((0 : Int) != 0) = false := rfl
            simp only [on, c1, Bool.false_eq_true, if_false]
            rw [if_pos (decide_eq_true (by simp; omega)), if_pos (decide_eq_true (by simp; omega))]
            unfold F.ref09.node_j6
            exact node_l5_ok hb hdp hrd hg j j' _ r' (acc ++ [t]) hD3 (by simp) (by omega) (by omega) (by rw [List.length_append]; simp; omega)
        · rw [if_neg hc2, decide_eq_false hc2, if_pos (by simp)]
          simp only [ln, show s.length - (r.length + 1) = i by omega]
          rfl
theorem one_G_ok {s : List UInt8} (hb : s.length < 90000) : ∀ (L k i : Nat) (r : List UInt8), D s i r → L ≤ 200 → s.length + 2 * L + 110 < k → (F.ref09.one_G k).1 s (i : Int) ((201 - L : Nat) : Int) = some (on s (rdT L r))
  | L, 0, _, _, _, _, h => by omega
  | L, k + 1, i, r, hD, hL, hk => by
    show F.ref09.one_B k ((F.ref09.one_G k).2) s (i : Int) ((201 - L : Nat) : Int) = _
    unfold F.ref09.one_B
    cases r with
    | nil =>
      have := D_nil hD
      rw [if_pos (by simp; omega)]
      cases L <;> rfl
    | cons c r =>
      obtain ⟨d1, d2, d3, d4⟩ := D_cons hD
      have d5 := hD.2
      simp only [List.length_cons] at d5
      have hsub : s.length - (r.length + 1) = i := by omega
      have h120 : ((c.toNat : Int) != 120) = !(decide (c = 120)) := by
        by_cases hc : c = 120
        · subst hc; decide
        · rw [decide_eq_false hc]
          have := fun e => hc ((u8_int (n := 120) (by omega)).1 e)
          simpa using this
      rw [if_neg (by simp; omega), if_pos d3, d2]
      have etest : (if decide (48 ≤ (c.toNat : Int)) = true then F.ref09.one_j1 k i s ((201 - L : Nat) : Int) ((F.ref09.one_G k).2) (decide ((c.toNat : Int) ≤ 57)) else F.ref09.one_j1 k i s ((201 - L : Nat) : Int) ((F.ref09.one_G k).2) false) = F.ref09.one_j1 k i s ((201 - L : Nat) : Int) ((F.ref09.one_G k).2) (isD c) := by
        unfold isD
        by_cases hx : 48 ≤ c.toNat
        · rw [if_pos (by simp; omega)]
          congr 1
          rw [Bool.eq_iff_iff]
          simp
          omega
        · rw [if_neg (by simp; omega)]
          congr 1
          rw [Bool.eq_iff_iff]
          simp
          omega
      rw [etest]
      unfold F.ref09.one_j1 F.ref09.one_j2
      rw [if_pos d3, d2, h120]
      have hfail : ∀ e : Int, on s (.error (r.length + 1, e)) = (t0, 0, ⟨(i : Int), e⟩) := fun e => by simp only [on, hsub]
      cases L with
      | zero =>
        unfold rdT
        have hdeep : decide ((200 : Int) < ((201 - 0 : Nat) : Int)) = true := by decide
        rw [hdeep]
        by_cases hc : c = 120
        · rw [decide_eq_true hc, if_neg (by simp), if_neg (by simp), if_pos rfl, if_pos (.inl hc), hfail]; rfl
        · rw [decide_eq_false hc, if_pos (by simp)]
          cases hd : isD c with
          | true => rw [if_neg (by simp), if_pos rfl, if_pos (.inr rfl), hfail]; rfl
          | false => rw [if_pos (by simp), if_neg (show ¬ (c = 120 ∨ false = true) by simp [hc]), hfail]; rfl
      | succ L =>
        unfold rdT
        have hdeep : decide ((200 : Int) < ((201 - (L + 1) : Nat) : Int)) = false := decide_eq_false (by omega)
        rw [hdeep]
        by_cases hc : c = 120
        · have hdc : isD c = false := by subst hc; decide
          rw [decide_eq_true hc, if_neg (by simp), if_neg (by simp), if_neg (by simp), hdc, if_neg (by simp), if_pos hc, ix_inc (by omega), one_l3_ok (by omega) (by omega) d4, Option.bind_some]
          unfold leafR
          cases he : hexR r with
          | error f => obtain ⟨m, e⟩ := f; rfl
          | ok a =>
            obtain ⟨a, r1⟩ := a
            have ha := hexR_lt he
            simp only
            cases he2 : hexR r1 with
            | error f => obtain ⟨m, e⟩ := f; rfl
            | ok b =>
              obtain ⟨b, r2⟩ := b
              have hb16 := hexR_lt he2
              have hl1 := hexR_less r
              have hl2 := hexR_less r1
              have hpos : s.length - r2.length = i + 3 := by
                cases r with
                | nil => cases he
                | cons x r0 =>
                  simp only [List.length_cons] at d5
                  cases hv : hexv x with
                  | none => simp only [hexR, hv] at he; cases he
                  | some a0 =>
                    simp only [hexR, hv] at he
                    cases he
                    cases r1 with
                    | nil => cases he2
                    | cons y r00 =>
                      simp only [List.length_cons] at d5
                      cases hv2 : hexv y with
                      | none => simp only [hexR, hv2] at he2; cases he2
                      | some b0 => simp only [hexR, hv2] at he2; cases he2; omega
              simp only [LR.fin, on, hpos]
              have e2 : IntKind.wrap .u8 ((16 * a + b : Nat) : Int) = ((16 * a + b : Nat) : Int) := by
                simp only [IntKind.wrap, IntKind.bits, IntKind.signed]
                simp
                omega
              rw [e2, wrap_i64 (by omega) (by omega)]
              rfl
        · rw [decide_eq_false hc, if_pos (by simp), if_neg hc]
          cases hd : isD c with
          | false => rw [if_pos (by simp), if_neg (by simp), hfail]; rfl
          | true =>
            rw [if_neg (by simp), if_neg (by simp), if_pos rfl, if_pos rfl]
            obtain ⟨k', rfl⟩ : ∃ k', k = k' + 1 := ⟨k - 1, by omega⟩
            have key : (F.ref09.one_G (k' + 1)).2 s (i : Int) ((201 - (L + 1) : Nat) : Int) = some (on s (nodeR (rdT L) (c :: r))) := by
              show F.ref09.node_B k' ((F.ref09.one_G k').1) s (i : Int) ((201 - (L + 1) : Nat) : Int) = _
              unfold F.ref09.node_B nodeR
              have hl1 := node_l1_ok (s := s) (b := i) (by omega) hD k' i 0 (c :: r) hD (by omega) (by omega) (by simp) (fun h => by omega) (fun _ => ⟨rfl, rfl⟩) (by simp; omega)
              rw [zero_cast, Nat.sub_self] at hl1
              rw [hl1, Option.bind_some, numS_R]
              have hnl := numR_less (c :: r) 0 0
              rw [numS_R] at hnl
              cases he : numS 0 0 (c :: r) with
              | error f => obtain ⟨m, e⟩ := f; rfl
              | ok a =>
                obtain ⟨n, r'⟩ := a
                rw [he] at hnl
                simp only [LR.fin]
                have hgk : ∀ i' r', D s i' r' → (F.ref09.one_G k').1 s (i' : Int) ((200 - L : Nat) + 1 : Nat) = some (on s (rdT L r')) := by
                  intro i' r' hD'
                  have := one_G_ok hb L k' i' r' hD' (by omega) (by omega)
                  rwa [show 200 - L + 1 = 201 - L by omega]
                obtain ⟨k'', rfl⟩ : ∃ k'', k' = k'' + 1 := ⟨k' - 1, by omega⟩
                have edeep : 201 - (L + 1) = 200 - L := by omega
                rw [edeep]
                cases r' with
                | nil =>
                  simp only [F.ref09.node_l5]
                  rw [if_pos (by simp)]
                  rfl
                | cons x r1 =>
                  rcases hnl with ⟨f, h1, _⟩ | ⟨m, p, r'', h1, h2, h3⟩
                  · cases h1
                  · cases h1
                    have hp := h3 c r rfl hd
                    have hD1 : D s (s.length - (x :: r1).length) (x :: r1) := D_less hD (a := ()) ⟨p, h2, hp⟩
                    obtain ⟨q1, q2, q3, q4⟩ := D_cons hD1
                    have hlen : r1.length + 1 ≤ r.length := by
                      have := congrArg List.length h2
                      have := List.length_pos_iff.2 hp
                      simp only [List.length_cons, List.length_append] at *
                      omega
                    simp only [List.length_cons] at q1 q2 q3 q4 ⊢
                    have hx41 : ((x.toNat : Int) == 41) = decide (x = 41) := by
                      by_cases hc : x = 41
                      · subst hc; decide
                      · rw [decide_eq_false hc]
                        have := fun e => hc ((u8_int (n := 41) (by omega)).1 e)
                        simpa using this
                    have hx40 : ((x.toNat : Int) != 40) = !(decide (x = 40)) := by
                      by_cases hc : x = 40
                      · subst hc; decide
                      · rw [decide_eq_false hc]
                        have := fun e => hc ((u8_int (n := 40) (by omega)).1 e)
                        simpa using this
                    simp only [F.ref09.node_l5]
                    rw [if_neg (by simp; omega), if_pos q3, q2, hx41]
                    have e1 : ∀ g7 : Bool → Option (LR Unit (Tree × Int × Fault)), (if decide (x = 41) = true then g7 ((40 : Int) != 40) else g7 false) = g7 false := by
                      intro g7
                      split <;> rfl
                    rw [e1 (fun b => F.ref09.node_j7 _ _ _ _ _ _ _ _ b)]
                    unfold F.ref09.node_j7
                    rw [if_neg (by simp), if_pos q3, q2, hx40]
                    by_cases hx : x = 40
                    · rw [decide_eq_true hx, if_neg (by simp), if_pos (by decide), if_pos hx, ix_inc (by omega)]
                      unfold kidsR
                      have d6 := q4.2
                      cases r1 with
                      | nil =>
                        have hdn := D_nil q4
                        rw [if_neg (by simp; omega)]
                        unfold F.ref09.node_j8
                        rw [if_neg (by simp), ix_inc (by omega), ix_inc (by omega), hgk _ [] q4, Option.bind_some]
                        cases L <;> rfl
                      | cons y r2 =>
                        have q5 : D s (s.length - (r2.length + 1 + 1) + 1) (y :: r2) := q4
                        obtain ⟨y1, y2, y3, y4⟩ := D_cons q5
                        simp only [List.length_cons] at d6 y1 y2 y3 y4 ⊢
                        have hy41 : ((y.toNat : Int) == 41) = decide (y = 41) := by
                          by_cases hc : y = 41
                          · subst hc; decide
                          · rw [decide_eq_false hc]
                            have := fun e => hc ((u8_int (n := 41) (by omega)).1 e)
                            simpa using this
                        rw [if_pos (by simp; omega), if_pos y3, y2, hy41]
                        unfold F.ref09.node_j8
                        by_cases hy : y = 41
                        · rw [decide_eq_true hy, if_pos rfl, if_pos hy]
                          simp only [Option.bind_some, LR.fin, on]
                          rw [wrap_i64 (by omega) (by omega)]
                          congr 3
                          omega
                        · rw [decide_eq_false hy, if_neg (by simp), if_neg hy, ix_inc (by omega), ix_inc (by omega), hgk _ (y :: r2) q5, Option.bind_some]
                          simp only [if_true]
                          have hless := rdT_less L (y :: r2)
                          cases he3 : rdT L (y :: r2) with
                          | error f =>
                            obtain ⟨m', e⟩ := f
                            rw [he3] at hless
                            have hne : e ≠ 0 := by rcases hless.2 with h | h | h <;> omega
                            have c1 : (e != 0) = true := by simpa using hne
                            simp only [on, c1, if_true]
                            rfl
                          | ok a =>
                            obtain ⟨t, r3⟩ := a
                            rw [he3] at hless
                            have hlt := less_len hless
                            have hD3 := D_less q5 hless
                            simp only [List.length_cons] at hlt
                            have c1 : ((0 : Int) != 0) = false := rfl
                            simp only [on, c1, Bool.false_eq_true, if_false]
                            rw [if_pos (by simp), if_pos (by simp)]
                            unfold F.ref09.node_j6
                            have h5 := node_l5_ok (s := s) (d1 := ((n : Int), ((s.length - (r2.length + 1 + 1) : Nat) : Int))) (deep := 200 - L) (g := (F.ref09.one_G (k'' + 1)).1) (rd := rdT L) (by omega) (by omega) (rdT_less L) hgk k'' (r2.length + 1) _ r3 [t] hD3 (by simp) (by omega) (by omega) (by simp; omega)
                            rw [List.nil_append, h5, Option.bind_some]
                            cases kidsR (rdT L) (r2.length + 1) r3 [t] with
                            | error f => rfl
                            | ok a => rfl
                    · rw [decide_eq_false hx, if_pos (by simp), if_neg hx]
                      simp only [Option.bind_some, LR.fin, on]
                      rfl
            rw [key, Option.bind_some]
end Go.Vc
