/-
  Trees: what is read is what stands there; the laws TreesReads and TreesBack.
-/
import Derived.Test.YtncbbbjakbaojaaDoorTJ
set_option linter.unusedVariables false
set_option linter.unusedSimpArgs false
namespace Go.Vc
open Go
theorem maxLen_eq' : maxLen = 9223372036854775807 := rfl
theorem hexA_v : ∀ n : _root_.Fin 256, (match hexv (UInt8.ofNat n.val) with | none => true | some a => hexA.getD a 0 == UInt8.ofNat n.val) = true := by decide +kernel
theorem hexA_v' {c : UInt8} {a : Nat} (h : hexv c = some a) : hexA.getD a 0 = c := by
  have := hexA_v ⟨c.toNat, c.toNat_lt⟩
  simp only [UInt8.ofNat_toNat, h] at this
  simpa using this
theorem hexv_A : ∀ a : _root_.Fin 16, hexv (hexA.getD a.val 0) = some a.val := by decide +kernel
theorem hexR_sound {r r1 : List UInt8} {a : Nat} (h : hexR r = .ok (a, r1)) : r = hexA.getD a 0 :: r1 ∧ a < 16 := by
  refine ⟨?_, hexR_lt h⟩
  cases r with
  | nil => cases h
  | cons x r0 =>
    cases hv : hexv x with
    | none => simp only [hexR, hv] at h; cases h
    | some a0 => simp only [hexR, hv] at h; cases h; rw [hexA_v' hv]
theorem hexR_complete {a : Nat} (ha : a < 16) (r : List UInt8) : hexR (hexA.getD a 0 :: r) = .ok (a, r) := by
  have := hexv_A ⟨a, ha⟩
  simp only at this
  simp only [hexR, this]
theorem dec_step {n d : Nat} (hn : n ≠ 0) (hd : d < 10) : Lib.decDigits (10 * n + d) = Lib.decDigits n ++ [UInt8.ofNat (48 + d)] := by
  rw [Lib.decDigits, dif_neg (by omega)]
  congr 2
  · omega
  · congr 2; omega
theorem digit_of {c : UInt8} (h : isD c = true) : UInt8.ofNat (48 + (c.toNat - 48)) = c := by
  obtain ⟨h1, h2⟩ := isD_iff.1 h
  rw [show 48 + (c.toNat - 48) = c.toNat by omega]
  simp
theorem numR_sound : ∀ (r r' P : List UInt8) (cnt n m : Nat), cnt = P.length → (0 < cnt → P = Lib.decDigits n) → (cnt = 0 → n = 0) → cnt ≤ 6 → n < 10 ^ cnt → numR cnt n r = .ok (m, r') → ∃ p, r = p ++ r' ∧ (P ++ p ≠ [] → P ++ p = Lib.decDigits m ∧ m ≤ 999999)
  | [], _, _, _, _, _, _, _, _, _, _, h => by cases h
  | c :: r, r', P, cnt, n, m, h1, h2, h3, h4, h5, h => by
    unfold numR at h
    cases hd : isD c with
    | false =>
      rw [hd, if_neg (by simp)] at h
      cases h
      refine ⟨[], rfl, fun hne => ?_⟩
      rw [List.append_nil] at hne ⊢
      have hpos : 0 < cnt := by rw [h1]; exact List.length_pos_iff.2 hne
      refine ⟨h2 hpos, ?_⟩
      have := Nat.pow_le_pow_right (show 10 > 0 by omega) h4
      omega
    | true =>
      rw [hd, if_pos rfl] at h
      split at h
      · cases h
      · rename_i hc
        obtain ⟨x1, x2⟩ := isD_iff.1 hd
        have hP : P ++ [c] = Lib.decDigits (10 * n + (c.toNat - 48)) := by
          by_cases h0 : cnt = 0
          · have hn := h3 h0
            subst hn
            have : P = [] := List.eq_nil_of_length_eq_zero (by omega)
            rw [this, Nat.mul_zero, Nat.zero_add, Lib.decDigits_one (by omega), digit_of hd]
            rfl
          · have hn : n ≠ 0 := fun e => hc (.inr ⟨by omega, e⟩)
            rw [dec_step hn (by omega), ← h2 (by omega), digit_of hd]
        have h5' : 10 * n + (c.toNat - 48) < 10 ^ (cnt + 1) := by rw [Nat.pow_succ]; omega
        obtain ⟨p, e1, e2⟩ := numR_sound r r' (P ++ [c]) (cnt + 1) _ m (by simp [h1]) (fun _ => hP) (fun e => by omega) (by have : ¬ cnt = 6 := fun e => hc (.inl e); omega) h5' h
        refine ⟨c :: p, by rw [e1]; rfl, fun _ => ?_⟩
        have := e2 (by simp)
        simpa using this
theorem numR_complete : ∀ m : Nat, m ≤ 999999 → ∀ rest : List UInt8, numR 0 0 (Lib.decDigits m ++ rest) = numR (Lib.nDigits m) m rest := by
  intro m
  induction m using Nat.strongRecOn with
  | _ m ih =>
    intro hm rest
    have hdig : ∀ d, d < 10 → isD (UInt8.ofNat (48 + d)) = true ∧ (UInt8.ofNat (48 + d)).toNat - 48 = d := by
      intro d hd
      have : (UInt8.ofNat (48 + d)).toNat = 48 + d := by rw [UInt8.toNat_ofNat']; omega
      exact ⟨isD_iff.2 (by omega), by omega⟩
    by_cases h : m < 10
    · obtain ⟨d1, d2⟩ := hdig m h
      rw [Lib.decDigits_one h, Lib.nDigits_small h]
      simp only [List.cons_append, List.nil_append, numR, d1, if_true, d2]
      rw [if_neg (by simp)]
      simp
    · have h9 : m / 10 ≤ 99999 := by omega
      have hn5 : Lib.nDigits (m / 10) ≤ 5 := by
        have := Lib.nDigits_big h
        have h6 := nDigits_le (r := (m : Int)) (by omega) (by omega)
        rw [Int.toNat_natCast] at h6
        omega
      obtain ⟨d1, d2⟩ := hdig (m % 10) (Nat.mod_lt _ (by omega))
      have e := ih (m / 10) (by omega) (by omega) (UInt8.ofNat (48 + m % 10) :: rest)
      rw [Lib.decDigits, dif_neg h, List.append_assoc, List.cons_append, List.nil_append, e, Lib.nDigits_big h]
      have hp := Lib.nDigits_pos (m / 10)
      conv => lhs; unfold numR
      rw [d1, if_pos rfl, if_neg (fun hh => by rcases hh with hh | hh <;> omega), d2, show 10 * (m / 10) + m % 10 = m by omega]
theorem itoa_nat (m : Nat) : Lib.itoa (m : Int) = Lib.decDigits m := by
  unfold Lib.itoa
  rw [if_neg (by omega), Int.toNat_natCast]
/-! ### what is read is what stands there -/
def okR (L : Nat) (t : Tree) : Prop := plainT t = true ∧ dp t ≤ L ∧ okT t
theorem hx_of {a b : Nat} (ha : a < 16) (hb : b < 16) : hx ((16 * a + b : Nat) : Int) = [120, hexA.getD a 0, hexA.getD b 0] := by
  unfold hx
  rw [show (((16 * a + b : Nat) : Int) / 16).toNat = a by omega, show (((16 * a + b : Nat) : Int) % 16).toNat = b by omega]
theorem kidsR_sound {rd : List UInt8 → Rd Tree} {L : Nat} (hrd : ∀ r t r', r.length < 9223372036854775807 → rd r = .ok (t, r') → r = tx t ++ r' ∧ okR L t) : ∀ (j : Nat) (r r' : List UInt8) (acc ks : List Tree), kidsR rd j r acc = .ok (ks, r') → r.length < 9223372036854775807 →
    ∃ new : List Tree, ks = acc ++ new ∧ r = txs (decide (acc = [])) new ++ 41 :: r' ∧ (∀ t ∈ new, okR L t) ∧ new.length ≤ r.length
  | 0, _, _, _, _, h, _ => by cases h
  | _ + 1, [], _, _, _, h, _ => by cases h
  | j + 1, c :: r, r', acc, ks, h, hl => by
    unfold kidsR at h
    simp only [List.length_cons] at hl ⊢
    by_cases hc : c = 41
    · rw [if_pos hc] at h
      cases h
      exact ⟨[], by simp, by simp [txs, hc], (fun t ht => by cases ht), by simp⟩
    rw [if_neg hc] at h
    by_cases ha : acc = []
    · rw [if_pos ha] at h
      cases he : rd (c :: r) with
      | error f => rw [he] at h; cases h
      | ok a =>
        obtain ⟨t, r1⟩ := a
        rw [he] at h
        obtain ⟨e1, e2⟩ := hrd _ _ _ (by simp only [List.length_cons]; omega) he
        have hlen := congrArg List.length e1
        simp only [List.length_cons, List.length_append] at hlen
        have htl : 0 < (tx t).length := by
          rw [tx_eq]
          split
          · simp [hx]
          · simp; omega
        obtain ⟨new, n1, n2, n3, n4⟩ := kidsR_sound hrd j r1 r' [t] ks h (by omega)
        refine ⟨t :: new, by rw [n1, ha]; rfl, ?_, ?_, by simp only [List.length_cons]; omega⟩
        · rw [e1, n2, decide_eq_true ha]
          simp [txs]
        · intro u hu
          rcases List.mem_cons.1 hu with rfl | hu
          · exact e2
          · exact n3 u hu
    · rw [if_neg ha] at h
      by_cases h32 : c = 32
      · rw [if_pos h32] at h
        cases he : rd r with
        | error f => rw [he] at h; cases h
        | ok a =>
          obtain ⟨t, r1⟩ := a
          rw [he] at h
          obtain ⟨e1, e2⟩ := hrd _ _ _ (by omega) he
          have hlen := congrArg List.length e1
          simp only [List.length_append] at hlen
          obtain ⟨new, n1, n2, n3, n4⟩ := kidsR_sound hrd j r1 r' (acc ++ [t]) ks h (by omega)
          have hd : decide (acc ++ [t] = []) = false := decide_eq_false (by simp)
          refine ⟨t :: new, by rw [n1]; simp, ?_, ?_, by simp only [List.length_cons]; omega⟩
          · rw [hd] at n2
            rw [h32, decide_eq_false ha, e1, n2]
            simp [txs]
          · intro u hu
            rcases List.mem_cons.1 hu with rfl | hu
            · exact e2
            · exact n3 u hu
      · rw [if_neg h32] at h
        cases h
theorem plainTs_of : ∀ {ks : List Tree}, (∀ t ∈ ks, plainT t = true) → plainTs ks = true
  | [], _ => rfl
  | t :: r, h => by simp only [plainTs, Bool.and_eq_true]; exact ⟨h t (by simp), plainTs_of fun u hu => h u (by simp [hu])⟩
theorem dps_of {L : Nat} : ∀ {ks : List Tree}, (∀ t ∈ ks, dp t ≤ L) → dps ks ≤ L
  | [], _ => Nat.zero_le _
  | t :: r, h => by have h1 := h t (by simp); have h2 := dps_of (ks := r) fun u hu => h u (by simp [hu]); simp only [dps]; omega
theorem rdT_sound : ∀ (L : Nat) (r r' : List UInt8) (t : Tree), r.length < 9223372036854775807 → rdT L r = .ok (t, r') → r = tx t ++ r' ∧ okR L t
  | L, [], _, _, _, h => by cases L <;> cases h
  | 0, c :: r, r', t, _, h => by
    unfold rdT at h
    split at h <;> cases h
  | L + 1, c :: r, r', t, hl, h => by
    unfold rdT at h
    simp only [List.length_cons] at hl
    by_cases hc : c = 120
    · rw [if_pos hc] at h
      unfold leafR at h
      cases he : hexR r with
      | error f => rw [he] at h; cases h
      | ok a =>
        obtain ⟨a, r1⟩ := a
        rw [he] at h
        simp only at h
        cases he2 : hexR r1 with
        | error f => rw [he2] at h; cases h
        | ok b =>
          obtain ⟨b, r2⟩ := b
          rw [he2] at h
          cases h
          obtain ⟨e1, h1⟩ := hexR_sound he
          obtain ⟨e2, h2⟩ := hexR_sound he2
          refine ⟨?_, ?_, ?_, ?_⟩
          · rw [tx_eq, if_pos rfl, hc, e1, e2]
            show _ = hx ((16 * a + b : Nat) : Int) ++ r'
            rw [hx_of h1 h2]
            rfl
          · rw [plainT_eq, if_pos rfl]; rfl
          · rw [dp_eq]; simp [dps]
          · rw [okT_eq]
            exact ⟨⟨by show (-9223372036854775808 : Int) ≤ -1; omega, by show (-1 : Int) ≤ 9223372036854775807; omega⟩, ⟨by show (0 : Int) ≤ ((16 * a + b : Nat) : Int); omega, by show ((16 * a + b : Nat) : Int) < 256; omega⟩, by simp, trivial⟩
    · rw [if_neg hc] at h
      cases hd : isD c with
      | false => rw [hd, if_neg (by simp)] at h; cases h
      | true =>
        rw [hd, if_pos rfl] at h
        unfold nodeR at h
        cases he : numR 0 0 (c :: r) with
        | error f => rw [he] at h; cases h
        | ok a =>
          obtain ⟨n, r1⟩ := a
          rw [he] at h
          obtain ⟨p, e1, e2⟩ := numR_sound (c :: r) r1 [] 0 0 n rfl (fun hh => by omega) (fun _ => rfl) (by omega) (by simp) he
          cases r1 with
          | nil => cases h
          | cons x r2 =>
            simp only at h
            by_cases hx : x = 40
            · rw [if_pos hx] at h
              cases hk : kidsR (rdT L) (r2.length + 1) r2 [] with
              | error f => rw [hk] at h; cases h
              | ok a =>
                obtain ⟨ks, r3⟩ := a
                rw [hk] at h
                cases h
                have hlen := congrArg List.length e1
                simp only [List.length_cons, List.length_append] at hlen
                have hsome : ∀ r t r', r.length < 9223372036854775807 → rdT L r = .ok (t, r') → r = tx t ++ r' ∧ okR L t := fun r t r' h1 h2 => rdT_sound L r r' t h1 h2
                obtain ⟨new, n1, n2, n3, n4⟩ := kidsR_sound hsome (r2.length + 1) r2 r' [] ks hk (by omega)
                rw [List.nil_append] at n1
                rw [List.nil_append] at e2
                have hp : p ≠ [] := by
                  rintro rfl
                  rw [List.nil_append] at e1
                  cases e1
                  rw [hx] at hd
                  exact absurd hd (by decide)
                obtain ⟨e3, e4⟩ := e2 hp
                subst n1
                refine ⟨?_, ?_, ?_, ?_⟩
                · rw [tx_eq, if_neg (by show ¬ ((n : Int) = -1); omega), e1, n2, hx]
                  show _ = Lib.itoa (n : Int) ++ [40] ++ txs true ks ++ [41] ++ r'
                  rw [itoa_nat, e3]
                  simp
                · rw [plainT_eq, if_neg (by show ¬ ((n : Int) = -1); omega)]
                  have h1 : decide (0 ≤ (n : Int)) = true := decide_eq_true (by omega)
                  have h2 : decide ((n : Int) ≤ 999999) = true := decide_eq_true (by omega)
                  show (((0 : Int) == 0) && decide (0 ≤ (n : Int)) && decide ((n : Int) ≤ 999999) && plainTs ks) = true
                  rw [h1, h2, plainTs_of fun u hu => (n3 u hu).1]
                  rfl
                · rw [dp_eq]
                  have := dps_of (L := L) (ks := ks) fun u hu => (n3 u hu).2.1
                  show dps ks + 1 ≤ L + 1
                  omega
                · rw [okT_eq]
                  refine ⟨⟨by show (-9223372036854775808 : Int) ≤ (n : Int); omega, by show (n : Int) ≤ 9223372036854775807; omega⟩, ⟨by show (0 : Int) ≤ 0; omega, by show (0 : Int) < 256; omega⟩, ?_, okTs_of fun u hu => (n3 u hu).2.2⟩
                  show ks.length ≤ maxLen
                  rw [maxLen_eq']
                  omega
            · rw [if_neg hx] at h; cases h
/-! ### what stands there is read -/
theorem tx_head {t : Tree} (hp : plainT t = true) : ∃ c w, tx t = c :: w ∧ (c = 120 ∨ isD c = true) := by
  rw [tx_eq]
  rw [plainT_eq] at hp
  by_cases hr : t.Rule = -1
  · rw [if_pos hr]; exact ⟨120, _, rfl, .inl rfl⟩
  · rw [if_neg hr] at hp ⊢
    simp only [Bool.and_eq_true, decide_eq_true_eq] at hp
    obtain ⟨m, hm⟩ : ∃ m : Nat, t.Rule = (m : Int) := ⟨t.Rule.toNat, by omega⟩
    have key : ∀ m : Nat, ∃ c w, Lib.decDigits m = c :: w ∧ isD c = true := by
      intro m
      induction m using Nat.strongRecOn with
      | _ m ih =>
        by_cases h : m < 10
        · refine ⟨_, [], Lib.decDigits_one h, isD_iff.2 ?_⟩
          have : (UInt8.ofNat (48 + m)).toNat = 48 + m := by rw [UInt8.toNat_ofNat']; omega
          omega
        · obtain ⟨c, w, e, hc⟩ := ih (m / 10) (by omega)
          rw [Lib.decDigits, dif_neg h, e]
          exact ⟨c, _, rfl, hc⟩
    obtain ⟨c, w, e, hc⟩ := key m
    rw [hm, itoa_nat, e]
    exact ⟨c, _, rfl, .inr hc⟩
theorem kidsR_complete {rd : List UInt8 → Rd Tree} {L : Nat} (hrd : ∀ t r, okR L t → rd (tx t ++ r) = .ok (t, r)) : ∀ (ks : List Tree) (j : Nat) (acc : List Tree) (r : List UInt8), (∀ t ∈ ks, okR L t) → ks.length < j → kidsR rd j (txs (decide (acc = [])) ks ++ 41 :: r) acc = .ok (acc ++ ks, r)
  | _, 0, _, _, _, h => by omega
  | [], j + 1, acc, r, _, _ => by
    simp only [txs, List.nil_append, kidsR]
    rw [if_pos trivial, List.append_nil]
  | t :: ks, j + 1, acc, r, hok, hj => by
    have ht := hok t (by simp)
    obtain ⟨c, w, e, hc⟩ := tx_head ht.1
    have hne : c ≠ 41 := by
      rintro rfl
      rcases hc with hc | hc
      · exact absurd hc (by decide)
      · exact absurd hc (by decide)
    simp only [List.length_cons] at hj
    have hstep := hrd t (txs false ks ++ 41 :: r) ht
    by_cases ha : acc = []
    · subst ha
      have ih := kidsR_complete hrd ks j [t] r (fun u hu => hok u (by simp [hu])) (by omega)
      rw [decide_eq_false (by simp : ¬ ([t] : List Tree) = [])] at ih
      rw [decide_eq_true rfl]
      simp only [txs, if_true, List.nil_append, List.append_assoc]
      rw [e] at hstep ⊢
      rw [List.cons_append] at hstep ⊢
      unfold kidsR
      rw [if_neg hne, if_pos rfl, hstep]
      simpa using ih
    · have ih := kidsR_complete hrd ks j (acc ++ [t]) r (fun u hu => hok u (by simp [hu])) (by omega)
      rw [decide_eq_false (by simp : ¬ acc ++ [t] = [])] at ih
      rw [decide_eq_false ha]
      simp only [txs, Bool.false_eq_true, if_false, List.append_assoc, List.cons_append, List.nil_append]
      unfold kidsR
      rw [if_neg (by decide), if_neg ha, if_pos rfl, hstep]
      simpa using ih
theorem rdT_complete : ∀ (L : Nat) (t : Tree) (r : List UInt8), okR L t → rdT L (tx t ++ r) = .ok (t, r)
  | 0, t, _, ⟨_, h, _⟩ => by rw [dp_eq] at h; omega
  | L + 1, t, r, ⟨hp, hd, hok⟩ => by
    obtain ⟨_, hb8, _, hoks⟩ := (okT_eq t).1 hok
    rw [plainT_eq] at hp
    rw [tx_eq]
    by_cases hr : t.Rule = -1
    · rw [if_pos hr] at hp ⊢
      obtain ⟨b1, b2⟩ := hb8
      unfold hx rdT
      simp only [List.cons_append, List.nil_append]
      rw [if_pos trivial]
      unfold leafR
      rw [hexR_complete (by omega)]
      simp only
      rw [hexR_complete (by omega)]
      simp only
      have hk : t.Kids = [] := by simpa using hp
      have : t = ⟨-1, t.Byte, []⟩ := tree_ext hr rfl hk
      rw [this]
      congr 3
      show ((16 * (t.Byte / 16).toNat + (t.Byte % 16).toNat : Nat) : Int) = t.Byte
      omega
    · rw [if_neg hr] at hp ⊢
      simp only [Bool.and_eq_true, decide_eq_true_eq, beq_iff_eq] at hp
      obtain ⟨m, hm⟩ : ∃ m : Nat, t.Rule = (m : Int) := ⟨t.Rule.toNat, by omega⟩
      obtain ⟨c, w, e, hc⟩ := tx_head (t := t) (by rw [plainT_eq, if_neg hr]; simp only [Bool.and_eq_true, decide_eq_true_eq, beq_iff_eq]; exact hp)
      have hdig : ∃ c w, Lib.decDigits m = c :: w ∧ isD c = true ∧ c ≠ 120 := by
        rw [tx_eq, if_neg hr, hm, itoa_nat] at e
        have hlen := Lib.decDigits_length m
        have hpos := Lib.nDigits_pos m
        cases hdd : Lib.decDigits m with
        | nil => rw [hdd] at hlen; simp at hlen; omega
        | cons c' w' =>
          have hcd := numR_complete m (by omega) []
          refine ⟨c', w', rfl, ?_, ?_⟩
          · have : ∀ u : Nat, ∀ x ∈ Lib.decDigits u, isD x = true := by
              intro u
              induction u using Nat.strongRecOn with
              | _ u ih =>
                intro x hx
                by_cases h : u < 10
                · rw [Lib.decDigits_one h] at hx
                  simp only [List.mem_cons, List.not_mem_nil, or_false] at hx
                  subst hx
                  have : (UInt8.ofNat (48 + u)).toNat = 48 + u := by rw [UInt8.toNat_ofNat']; omega
                  exact isD_iff.2 (by omega)
                · rw [Lib.decDigits, dif_neg h] at hx
                  rcases List.mem_append.1 hx with hx | hx
                  · exact ih (u / 10) (by omega) x hx
                  · simp only [List.mem_cons, List.not_mem_nil, or_false] at hx
                    subst hx
                    have : (UInt8.ofNat (48 + u % 10)).toNat = 48 + u % 10 := by rw [UInt8.toNat_ofNat']; omega
                    exact isD_iff.2 (by omega)
            exact this m c' (by rw [hdd]; simp)
          · rintro rfl
            have : ∀ u : Nat, ∀ x ∈ Lib.decDigits u, x ≠ 120 := by
              intro u
              induction u using Nat.strongRecOn with
              | _ u ih =>
                intro x hx
                by_cases h : u < 10
                · rw [Lib.decDigits_one h] at hx
                  simp only [List.mem_cons, List.not_mem_nil, or_false] at hx
                  subst hx
                  intro hh
                  have h2 := congrArg UInt8.toNat hh
                  rw [UInt8.toNat_ofNat'] at h2
                  have : (120 : UInt8).toNat = 120 := rfl
                  omega
                · rw [Lib.decDigits, dif_neg h] at hx
                  rcases List.mem_append.1 hx with hx | hx
                  · exact ih (u / 10) (by omega) x hx
                  · simp only [List.mem_cons, List.not_mem_nil, or_false] at hx
                    subst hx
                    intro hh
                    have h2 := congrArg UInt8.toNat hh
                    rw [UInt8.toNat_ofNat'] at h2
                    have : (120 : UInt8).toNat = 120 := rfl
                    omega
            exact this m 120 (by rw [hdd]; simp) rfl
      obtain ⟨c1, w1, e1, d1, d2⟩ := hdig
      have hnum := numR_complete m (by omega) (40 :: (txs true t.Kids ++ 41 :: r))
      have h40 : numR (Lib.nDigits m) m (40 :: (txs true t.Kids ++ 41 :: r)) = .ok (m, 40 :: (txs true t.Kids ++ 41 :: r)) := by
        unfold numR
        rw [if_neg (by decide)]
      rw [h40] at hnum
      have htext : Lib.itoa t.Rule ++ [40] ++ txs true t.Kids ++ [41] ++ r = Lib.decDigits m ++ 40 :: (txs true t.Kids ++ 41 :: r) := by
        rw [hm, itoa_nat]; simp
      rw [htext]
      rw [e1] at hnum ⊢
      rw [List.cons_append] at hnum ⊢
      unfold rdT
      rw [if_neg d2, if_pos d1]
      unfold nodeR
      rw [hnum]
      simp only
      rw [if_pos trivial]
      have hd' : dps t.Kids ≤ L := by rw [dp_eq] at hd; omega
      have hall : ∀ u ∈ t.Kids, okR L u := fun u hu => ⟨plainTs_mem hp.2 u hu, by
        have : ∀ (ks : List Tree), u ∈ ks → dp u ≤ dps ks := by
          intro ks
          induction ks with
          | nil => intro h; cases h
          | cons x q ih =>
            intro h
            simp only [dps]
            rcases List.mem_cons.1 h with rfl | h
            · omega
            · have := ih h; omega
        exact Nat.le_trans (this _ hu) hd', okTs_mem hoks u hu⟩
      have hkl : t.Kids.length ≤ (txs true t.Kids).length := by
        have : ∀ (ks : List Tree) (f : Bool), (∀ u ∈ ks, plainT u = true) → ks.length ≤ (txs f ks).length := by
          intro ks
          induction ks with
          | nil => intro f _; exact Nat.zero_le _
          | cons x q ih =>
            intro f h
            obtain ⟨c, w, e, _⟩ := tx_head (h x (by simp))
            have h2 := ih false (fun u hu => h u (by simp [hu]))
            simp only [txs, e, List.length_cons, List.length_append]
            omega
        exact this _ true fun u hu => (hall u hu).1
      have hk := kidsR_complete (rd := rdT L) (fun t r h => rdT_complete L t r h) t.Kids ((txs true t.Kids ++ 41 :: r).length + 1) [] r hall (by simp only [List.length_append, List.length_cons]; omega)
      rw [decide_eq_true rfl] at hk
      rw [hk]
      simp only [List.nil_append]
      have : t = ⟨(m : Int), 0, t.Kids⟩ := tree_ext hm hp.1.1.1 rfl
      rw [this]
end Go.Vc
