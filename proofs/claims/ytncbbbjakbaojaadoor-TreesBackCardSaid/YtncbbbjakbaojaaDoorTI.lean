/-
  Trees: the program's reader is the plain one.
-/
import Derived.Test.YtncbbbjakbaojaaDoorTH
set_option linter.unusedVariables false
set_option linter.unusedSimpArgs false
namespace Go.Vc
open Go
theorem isD_iff {c : UInt8} : isD c = true ↔ 48 ≤ c.toNat ∧ c.toNat ≤ 57 := by simp [isD]
theorem hexR_lt {r r1 : List UInt8} {a : Nat} (h : hexR r = .ok (a, r1)) : a < 16 := by
  cases r with
  | nil => cases h
  | cons x r0 =>
    cases hv : hexv x with
    | none => simp only [hexR, hv] at h; cases h
    | some a0 => simp only [hexR, hv] at h; cases h; exact hexv_lt' hv
theorem number_l3_ok {s : List UInt8} {b : Nat} (hb : s.length < 1000000) : ∀ (j i n : Nat) (c : Int) (r : List UInt8), D s i r → b ≤ i → i - b ≤ 6 → n < 10 ^ (i - b) → r.length < j →
    F.trees.reader_number_l3 (rk s b) j c n i = some (.ret (pn s (fun (n : Nat) j => ((n : Int), rk s j)) (numR (i - b) n r)))
  | 0, _, _, _, _, _, _, _, _, h => by omega
  | j + 1, i, n, c, r, hD, h1, h2, h3, h4 => by
    simp only [F.trees.reader_number_l3]
    show (F.trees.reader_peek (rk s i)).bind _ = _
    cases r with
    | nil => rw [peek_nil hD]; rfl
    | cons x r =>
      obtain ⟨d1, d2, d3, d4⟩ := D_cons hD
      have d5 := hD.2
      simp only [List.length_cons] at h4 d5
      have hsub : s.length - (r.length + 1) = i := by omega
      rw [peek_cons hD, Option.bind_some]
      simp only [Pn.go, numR]
      cases hd : isD x with
      | false =>
        have e : ∀ q : Option (LR Unit (Pn (Int × Trees_reader) Fault)), (if decide ((x.toNat : Int) < 48) = true then some (.ret (.ok ((n : Int), (Trees_reader.mk (rk s b).text i)))) else if decide (57 < (x.toNat : Int)) = true then some (.ret (.ok ((n : Int), (Trees_reader.mk (rk s b).text i)))) else q) = some (.ret (.ok ((n : Int), rk s i))) := by
          intro q
          by_cases hx : x.toNat < 48
          · rw [if_pos (by simp; omega)]; rfl
          · have : ¬ x.toNat ≤ 57 := fun h => by
              have := isD_iff.2 ⟨by omega, h⟩
              rw [hd] at this; cases this
            rw [if_neg (by simp; omega), if_pos (by simp; omega)]; rfl
        rw [e]
        simp only [Bool.false_eq_true, if_false, pn, List.length_cons, hsub]
      | true =>
        obtain ⟨x1, x2⟩ := isD_iff.1 hd
        rw [if_neg (by simp; omega), if_neg (by simp; omega)]
        have ew : IntKind.wrap .i64 ((i : Int) - (rk s b).at_) = ((i - b : Nat) : Int) := by
          show IntKind.wrap .i64 ((i : Int) - (b : Int)) = _
          rw [wrap_i64 (by omega) (by omega)]; omega
        rw [ew]
        simp only [F.trees.reader_number_j5, F.trees.reader_fail, Option.bind_some, Pn.go, F.trees.reader_number_j6, F.trees.reader_number_j4, if_true, Bool.false_eq_true, if_false]
        have hfail : ∀ {α : Type} (f : α → Nat → Int × Trees_reader), (pn s f (.error (r.length + 1, 11) : Rd α)) = .pan ⟨(i : Int), 11⟩ := by
          intro α f
          simp only [pn, hsub]
        by_cases h6 : i - b = 6
        · rw [if_pos (by simp; omega), if_pos (.inl h6), hfail]
        · rw [if_neg (by simp; omega)]
          have hn5 : n < 100000 := Nat.lt_of_lt_of_le h3 (Nat.le_trans (Nat.pow_le_pow_right (by omega) (show i - b ≤ 5 by omega)) (by decide))
          have e1 : IntKind.wrap .u8 ((x.toNat : Int) - 48) = ((x.toNat - 48 : Nat) : Int) := by
            have : ((x.toNat : Int) - 48) = ((x.toNat - 48 : Nat) : Int) := by omega
            rw [this]
            simp only [IntKind.wrap, IntKind.bits, IntKind.signed]
            simp
            omega
          have e2 : IntKind.wrap .i64 (IntKind.wrap .i64 (10 * (n : Int)) + IntKind.wrap .i64 (IntKind.wrap .u8 ((x.toNat : Int) - 48))) = ((10 * n + (x.toNat - 48) : Nat) : Int) := by
            rw [e1, wrap_i64 (n := 10 * (n : Int)) (by omega) (by omega), wrap_i64 (n := ((x.toNat - 48 : Nat) : Int)) (by omega) (by omega), wrap_i64 (by omega) (by omega)]
            omega
          have hn' : 10 * n + (x.toNat - 48) < 10 ^ (i - b + 1) := by rw [Nat.pow_succ]; omega
          have ih := number_l3_ok (b := b) hb j (i + 1) (10 * n + (x.toNat - 48)) (x.toNat : Int) r d4 (by omega) (by omega) (by rw [show i + 1 - b = i - b + 1 by omega]; exact hn') (by omega)
          rw [show i + 1 - b = i - b + 1 by omega] at ih
          rw [e2, ix_inc (by omega), ih]
          by_cases hbi : b < i
          · have c1 : decide ((rk s b).at_ < (i : Int)) = true := by
              show decide ((b : Int) < (i : Int)) = true
              exact decide_eq_true (by omega)
            rw [c1, if_pos rfl]
            by_cases hn0 : n = 0
            · rw [if_pos (by simp [hn0]), if_pos (.inr ⟨by omega, hn0⟩), hfail]
            · rw [if_neg (by simp; omega), if_neg (fun hh => by rcases hh with hh | hh; exact h6 hh; exact hn0 hh.2)]
          · have c1 : decide ((rk s b).at_ < (i : Int)) = false := by
              show decide ((b : Int) < (i : Int)) = false
              exact decide_eq_false (by omega)
            rw [c1, if_neg (by simp), if_neg (fun hh => by rcases hh with hh | hh; exact h6 hh; omega)]
theorem number_ok {s : List UInt8} {i k : Nat} {c : UInt8} {r : List UInt8} (hb : s.length < 1000000) (hD : D s i (c :: r)) (hk : r.length + 1 < k) :
    F.trees.reader_number k (rk s i) = some (pn s (fun (n : Nat) j => ((n : Int), rk s j)) (if isD c then numR 0 0 (c :: r) else .error (r.length + 1, 11))) := by
  have d5 := hD.2
  simp only [List.length_cons] at d5
  unfold F.trees.reader_number
  rw [peek_cons hD, Option.bind_some]
  simp only [Pn.go, F.trees.reader_number_j1, F.trees.reader_fail, Option.bind_some]
  have hfail : (pn s (fun (n : Nat) j => ((n : Int), rk s j)) (.error (r.length + 1, 11) : Rd Nat)) = .pan ⟨(i : Int), 11⟩ := by
    simp only [pn, show s.length - (r.length + 1) = i by omega]
  cases hd : isD c with
  | false =>
    rw [if_neg (by simp : ¬ (false = true)), hfail]
    by_cases hx : c.toNat < 48
    · rw [if_pos (by simp; omega), if_pos trivial]; rfl
    · have : ¬ c.toNat ≤ 57 := fun h => by
        have := isD_iff.2 ⟨by omega, h⟩
        rw [hd] at this; cases this
      rw [if_neg (by simp; omega), if_pos (by simp; omega)]; rfl
  | true =>
    obtain ⟨x1, x2⟩ := isD_iff.1 hd
    rw [if_neg (by simp; omega), if_neg (by simp; omega), if_pos rfl]
    unfold F.trees.reader_number_j2
    have := number_l3_ok (b := i) hb k i 0 (c.toNat : Int) (c :: r) hD (by omega) (by omega) (by simp) (by simp; omega)
    rw [zero_cast, Nat.sub_self] at this
    show (F.trees.reader_number_l3 (rk s i) k (c.toNat : Int) 0 (i : Int)).bind _ = _
    rw [this]
    rfl
def kn (s : List UInt8) : Rd (List Tree) → LR ((List UInt8) × Int × (List Tree)) (Pn (Tree × Trees_reader) Fault)
  | .error (m, c) => .ret (.pan ⟨((s.length - m : Nat) : Int), c⟩)
  | .ok (ks, r) => .done (s, ((s.length - r.length - 1 : Nat) : Int), ks)
theorem kids_l3_ok {s : List UInt8} {L : Nat} {g : Trees_reader → Int → Option (Pn (Tree × Trees_reader) Fault)} {rd : List UInt8 → Rd Tree} (hb : s.length < 1000000) (hL : L < 1000) (hrd : ∀ r, less r (rd r))
    (hg : ∀ i r, D s i r → g (rk s i) (L : Int) = some (pn s (fun t j => (t, rk s j)) (rd r))) :
    ∀ (j j' i : Nat) (r : List UInt8) (acc : List Tree), D s i r → r.length < j → r.length < j' → acc.length + r.length < 1000000 → F.trees.reader_tree_l3 g ((L + 1 : Nat) : Int) j s i acc = some (kn s (kidsR rd j' r acc))
  | 0, _, _, _, _, _, h, _, _ => by omega
  | j + 1, 0, _, _, _, _, _, h, _ => by omega
  | j + 1, j' + 1, i, r, acc, hD, h1, h2, h3 => by
    simp only [F.trees.reader_tree_l3]
    show (F.trees.reader_peek (rk s i)).bind _ = _
    cases r with
    | nil => rw [peek_nil hD]; rfl
    | cons c r =>
      obtain ⟨d1, d2, d3, d4⟩ := D_cons hD
      have d5 := hD.2
      simp only [List.length_cons] at h1 h2 h3 d5
      rw [peek_cons hD, Option.bind_some]
      simp only [Pn.go]
      have eL : IntKind.wrap .i64 (((L + 1 : Nat) : Int) - 1) = (L : Int) := by rw [wrap_i64 (by omega) (by omega)]; omega
      have key : ∀ (i2 : Nat) (r2 : List UInt8), D s i2 r2 → r2.length ≤ r.length + 1 → F.trees.reader_tree_j5 g ((L + 1 : Nat) : Int) acc (F.trees.reader_tree_l3 g ((L + 1 : Nat) : Int) j) s i2 = some (kn s (match rd r2 with
          | .error f => .error f
          | .ok (t, r') => kidsR rd j' r' (acc ++ [t]))) := by
        intro i2 r2 hD2 hl2
        unfold F.trees.reader_tree_j5
        rw [eL]
        show (g (rk s i2) (L : Int)).bind _ = _
        rw [hg i2 r2 hD2, Option.bind_some]
        have hless := hrd r2
        cases he : rd r2 with
        | error f => obtain ⟨m, e⟩ := f; rfl
        | ok a =>
          obtain ⟨t, r'⟩ := a
          rw [he] at hless
          have hlt := less_len hless
          have hD3 := D_less hD2 hless
          simp only [pn, Pn.go, F.trees.reader_tree_j6, F.trees.reader_tree_j4]
          rw [if_pos (decide_eq_true (by simp; omega)), if_pos (decide_eq_true (by simp; omega))]
          exact kids_l3_ok hb hL hrd hg j j' _ r' (acc ++ [t]) hD3 (by omega) (by omega) (by rw [List.length_append]; simp; omega)
      have h41 : ((c.toNat : Int) != 41) = !(decide (c = 41)) := by
        by_cases hc : c = 41
        · subst hc; decide
        · rw [decide_eq_false hc]
          have := fun e => hc ((u8_int (n := 41) (by omega)).1 e)
          simpa using this
      rw [h41]
      unfold kidsR
      by_cases hc : c = 41
      · rw [if_pos hc, decide_eq_true hc, if_neg (by simp)]
        simp only [kn, show s.length - r.length - 1 = i by omega]
      · rw [if_neg hc, decide_eq_false hc, if_pos (by simp)]
        by_cases hacc : acc = []
        · rw [if_pos hacc, if_neg (by simp [hacc]), key i (c :: r) hD (by simp)]
          subst hacc
          rfl
        · have : 0 < acc.length := List.length_pos_iff.2 hacc
          rw [if_neg hacc, if_pos (by simp; omega)]
          show (F.trees.reader_want (rk s i) ((32 : Nat) : Int)).bind _ = _
          rw [want_ok (by omega) hD hb, Option.bind_some]
          have e32 : UInt8.ofNat 32 = 32 := rfl
          rw [e32]
          by_cases h32 : c = 32
          · rw [if_pos h32, if_pos h32]
            exact key (i + 1) r d4 (by omega)
          · rw [if_neg h32, if_neg h32]
            simp only [kn, show s.length - (r.length + 1) = i by omega]
theorem tree_ok {s : List UInt8} (hb : s.length < 100000) : ∀ (L k i : Nat) (r : List UInt8), D s i r → L ≤ 200 → s.length + L + 2 < k → F.trees.reader_tree k (rk s i) (L : Int) = some (pn s (fun t j => (t, rk s j)) (rdT L r))
  | L, 0, _, _, _, _, h => by omega
  | L, k + 1, i, r, hD, hL, hk => by
    show F.trees.reader_tree_B k (F.trees.reader_tree k) (rk s i) (L : Int) = _
    unfold F.trees.reader_tree_B
    cases r with
    | nil => rw [peek_nil hD]; cases L <;> rfl
    | cons c r =>
      obtain ⟨d1, d2, d3, d4⟩ := D_cons hD
      have d5 := hD.2
      simp only [List.length_cons] at d5
      have hsub : s.length - (r.length + 1) = i := by omega
      rw [peek_cons hD, Option.bind_some]
      simp only [Pn.go]
      have h120 : ((c.toNat : Int) == 120) = decide (c = 120) := by
        by_cases hc : c = 120
        · subst hc; decide
        · rw [decide_eq_false hc]
          have := fun e => hc ((u8_int (n := 120) (by omega)).1 e)
          simpa using this
      have hfail : ∀ (e : Int), (pn s (fun (t : Tree) j => (t, rk s j)) (.error (r.length + 1, e) : Rd Tree)) = .pan ⟨(i : Int), e⟩ := by
        intro e
        simp only [pn, hsub]
      have hnd : isD c = false → F.trees.reader_tree_j1 k (rk s i) (c.toNat : Int) (F.trees.reader_tree k) (L : Int) false = (if c = 120 then F.trees.reader_tree_j1 k (rk s i) (c.toNat : Int) (F.trees.reader_tree k) (L : Int) false else some (.pan ⟨(i : Int), 11⟩)) := by
        intro hd
        by_cases hc : c = 120
        · rw [if_pos hc]
        · rw [if_neg hc]
          unfold F.trees.reader_tree_j1 F.trees.reader_tree_j2
          rw [if_neg (by simp), h120, decide_eq_false hc, if_neg (by simp), number_ok (by omega) hD (by omega), hd]
          simp only [Bool.false_eq_true, if_false, Option.bind_some, pn, Pn.go, hsub]
      cases L with
      | zero =>
        rw [if_pos (by simp), h120]
        unfold rdT
        by_cases hc : c = 120
        · rw [decide_eq_true hc, if_pos rfl, if_pos (.inl hc), hfail]
          rfl
        · rw [decide_eq_false hc, if_neg (by simp)]
          cases hd : isD c with
          | true =>
            obtain ⟨x1, x2⟩ := isD_iff.1 hd
            rw [if_pos (by simp; omega), if_pos (.inr rfl), hfail]
            have : decide ((c.toNat : Int) ≤ 57) = true := decide_eq_true (by omega)
            rw [this]
            rfl
          | false =>
            rw [if_neg (show ¬ (c = 120 ∨ false = true) by simp [hc]), hfail]
            have hh := hnd hd
            rw [if_neg hc] at hh
            by_cases h48 : 48 ≤ c.toNat
            · have : ¬ c.toNat ≤ 57 := fun h => by
                have := isD_iff.2 ⟨h48, h⟩
                rw [hd] at this; cases this
              have e : decide ((c.toNat : Int) ≤ 57) = false := decide_eq_false (by omega)
              rw [if_pos (by simp; omega), e]
              exact hh
            · rw [if_neg (by simp; omega)]
              exact hh
      | succ L =>
        rw [if_neg (by simp; omega)]
        unfold rdT
        by_cases hc : c = 120
        · rw [if_pos hc]
          unfold F.trees.reader_tree_j1 F.trees.reader_tree_j2
          rw [if_neg (by simp), h120, decide_eq_true hc, if_pos rfl]
          have e1 : IntKind.wrap .i64 ((rk s i).at_ + 1) = ((i + 1 : Nat) : Int) := ix_inc (by omega)
          rw [e1]
          show (F.trees.reader_digit (rk s (i + 1))).bind _ = _
          rw [digit_ok d4 (by omega), Option.bind_some]
          have hl1 := hexR_less r
          cases he : hexR r with
          | error f => obtain ⟨m, e⟩ := f; simp only [leafR, he]; rfl
          | ok a =>
            obtain ⟨a, r1⟩ := a
            rw [he] at hl1
            have hD1 := D_less d4 hl1
            have ha : a < 16 := hexR_lt he
            simp only [pn, Pn.go]
            rw [digit_ok hD1 (by omega), Option.bind_some]
            cases he2 : hexR r1 with
            | error f => obtain ⟨m, e⟩ := f; simp only [leafR, he, he2]; rfl
            | ok b =>
              obtain ⟨b, r2⟩ := b
              have hb16 : b < 16 := hexR_lt he2
              simp only [leafR, he, he2, pn, Pn.go]
              have e2 : IntKind.wrap .u8 (IntKind.wrap .i64 (IntKind.wrap .i64 (16 * (a : Int)) + (b : Int))) = ((16 * a + b : Nat) : Int) := by
                rw [wrap_i64 (n := 16 * (a : Int)) (by omega) (by omega), wrap_i64 (by omega) (by omega), show (16 * (a : Int) + (b : Int)) = ((16 * a + b : Nat) : Int) by omega]
                simp only [IntKind.wrap, IntKind.bits, IntKind.signed]
                simp
                omega
              rw [e2]
        · rw [if_neg hc]
          cases hd : isD c with
          | false =>
            rw [if_neg (by simp), hfail]
            have hh := hnd hd
            rw [if_neg hc] at hh
            exact hh
          | true =>
            rw [if_pos rfl]
            unfold F.trees.reader_tree_j1 F.trees.reader_tree_j2
            rw [if_neg (by simp), h120, decide_eq_false hc, if_neg (by simp), number_ok (by omega) hD (by omega), hd, if_pos rfl, Option.bind_some]
            unfold nodeR
            rcases numR_less (c :: r) 0 0 with ⟨f, h1, h2, h3⟩ | ⟨m, p, r', h1, h2, h3⟩
            · rw [h1]; obtain ⟨m, e⟩ := f; rfl
            · rw [h1]
              have hp := h3 c r rfl hd
              have hD1 : D s (s.length - r'.length) r' := D_less hD (a := ()) ⟨p, h2, hp⟩
              have hlen : r'.length ≤ r.length := by
                have := congrArg List.length h2
                have := List.length_pos_iff.2 hp
                simp only [List.length_cons, List.length_append] at *
                omega
              simp only [pn, Pn.go]
              cases r' with
              | nil => rw [want_nil hD1]; rfl
              | cons x r1 =>
                simp only [List.length_cons] at hlen
                show (F.trees.reader_want (rk s _) ((40 : Nat) : Int)).bind _ = _
                rw [want_ok (by omega) hD1 (by omega), Option.bind_some]
                have e40 : UInt8.ofNat 40 = 40 := rfl
                rw [e40]
                by_cases hx : x = 40
                · rw [if_pos hx]
                  simp only [if_pos hx, Pn.go]
                  have hD2 := (D_cons hD1).2.2.2
                  have hkids := kids_l3_ok (s := s) (L := L) (g := F.trees.reader_tree k) (rd := rdT L) (by omega) (by omega) (rdT_less L) (fun i' r' hD' => tree_ok hb L k i' r' hD' (by omega) (by omega)) k (r1.length + 1) _ r1 [] hD2 (by omega) (by omega) (by simp; omega)
                  show (F.trees.reader_tree_l3 (F.trees.reader_tree k) ((L + 1 : Nat) : Int) k s ((s.length - (x :: r1).length + 1 : Nat) : Int) []).bind _ = _
                  rw [hkids, Option.bind_some]
                  have hkl := kidsR_less (rdT_less L) (r1.length + 1) r1 []
                  cases hkr : kidsR (rdT L) (r1.length + 1) r1 [] with
                  | error f => obtain ⟨m, e⟩ := f; rfl
                  | ok a =>
                    obtain ⟨ks, r2⟩ := a
                    rw [hkr] at hkl
                    have := less_len hkl
                    have hd2 := hD2.2
                    simp only [kn, LR.fin]
                    rw [ix_inc (by omega), show s.length - r2.length - 1 + 1 = s.length - r2.length by omega]
                    rfl
                · rw [if_neg hx]
                  simp only [if_neg hx, Pn.go, pn, List.length_cons]
end Go.Vc
