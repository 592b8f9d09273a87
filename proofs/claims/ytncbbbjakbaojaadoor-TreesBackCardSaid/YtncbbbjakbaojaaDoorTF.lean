/-
  Trees: how they are written; the law TreesWrites.
-/
import Derived.Test.YtncbbbjakbaojaaDoorTE
set_option linter.unusedVariables false
set_option linter.unusedSimpArgs false
namespace Go.Vc
open Go
/-! ### digits -/
theorem Digits_l1_ok : ∀ (j u : Nat) (out : List UInt8), u < 1000000 → Lib.nDigits u ≤ j → out.length + j < 100000000 → F.ref03.Digits_l1 j u out = some (.ret (Lib.decDigits u ++ out))
  | 0, u, _, _, h, _ => by have := Lib.nDigits_pos u; omega
  | j + 1, u, out, h1, h2, h3 => by
    simp only [F.ref03.Digits_l1]
    have e1 : grem (u : Int) 10 = ((u % 10 : Nat) : Int) := by unfold grem; rw [Int.tmod_eq_emod_of_nonneg (by omega)]; omega
    have e2 : gquo .i64 (u : Int) 10 = ((u / 10 : Nat) : Int) := by unfold gquo; rw [Int.tdiv_eq_ediv_of_nonneg (by omega), wrap_i64 (by omega) (by omega)]; omega
    have e3 : IntKind.wrap .i64 (48 + ((u % 10 : Nat) : Int)) = ((48 + u % 10 : Nat) : Int) := by rw [wrap_i64 (by omega) (by omega)]; omega
    have e4 : IntKind.wrap .u8 ((48 + u % 10 : Nat) : Int) = ((48 + u % 10 : Nat) : Int) := by
      simp only [IntKind.wrap, IntKind.bits, IntKind.signed]
      simp
      omega
    have e5 : toS ([((48 + u % 10 : Nat) : Int)] : List Int) = [UInt8.ofNat (48 + u % 10)] := by simp only [toS, List.map_cons, List.map_nil, Int.toNat_natCast]
    rw [e1, e2, e3, e4, e5, if_pos (decide_eq_true (by simp; omega))]
    by_cases hu : u < 10
    · have : u / 10 = 0 := by omega
      rw [this, if_pos (by simp), Lib.decDigits_one hu, show u % 10 = u by omega]
    · rw [Lib.nDigits_big hu] at h2
      rw [if_neg (by simp only [beq_iff_eq]; omega), Digits_l1_ok j (u / 10) _ (by omega) (by omega) (by simp; omega)]
      conv => rhs; rw [Lib.decDigits, dif_neg hu]
      rw [List.append_assoc]
theorem nDigits_le {r : Int} (h1 : 0 ≤ r) (h2 : r ≤ 999999) : Lib.nDigits r.toNat ≤ 6 := by
  have := itoa_len h1 h2
  unfold Lib.itoa at this
  rw [if_neg (by omega), Lib.decDigits_length] at this
  exact this
theorem Digits_ok {k : Nat} {r : Int} (h1 : 0 ≤ r) (h2 : r ≤ 999999) (hk : 10 ≤ k) (hB : k ≤ 1000000) : F.ref03.Digits k r = some (Lib.itoa r) := by
  unfold F.ref03.Digits
  have hn := nDigits_le h1 h2
  rw [if_neg (by simp; omega)]
  have := Digits_l1_ok k r.toNat [] (by omega) (by omega) (by simp; omega)
  rw [show ((r.toNat : Nat) : Int) = r by omega, List.append_nil] at this
  rw [this, Option.bind_some]
  unfold Lib.itoa
  rw [if_neg (by omega)]
  rfl

/-! ### the document's text -/
theorem hexA_len : hexA.length = 16 := rfl
theorem hx_toS {b : Int} : toS ([120, sAt hexA (b / 16), sAt hexA (b % 16)] : List Int) = hx b := by
  have h : ∀ x : UInt8, UInt8.ofNat (((x.toNat : Nat) : Int)).toNat = x := fun x => by simp
  simp only [toS, hx, sAt, List.map_cons, List.map_nil, h]
  rfl
theorem hexA_in {b : Int} (h : u8b b) : inR (b / 16) hexA.length = true ∧ inR (b % 16) hexA.length = true := by
  obtain ⟨h1, h2⟩ := h
  rw [hexA_len]
  constructor <;> simp only [inR, Bool.and_eq_true, decide_eq_true_eq] <;> omega
theorem text_l1_ok {t : Tree} {g : Tree → Option (List UInt8)} (hb : sz t < 1000000) (hp : plainTs t.Kids = true) (hg : ∀ u, u ∈ t.Kids → g u = some (tx u)) :
    ∀ (j i : Nat) (out : List UInt8), i ≤ t.Kids.length → t.Kids.length - i < j → out.length + 10 * szs (t.Kids.drop i) < 100000000 → F.ref09.text_l1 t g j out i = some (out ++ txs (i == 0) (t.Kids.drop i))
  | 0, _, _, _, h, _ => by omega
  | j + 1, i, out, h1, h2, h4 => by
    simp only [F.ref09.text_l1]
    by_cases hi : i < t.Kids.length
    · have hl := len_sz t
      have hpi := plainTs_mem hp _ (List.getElem_mem hi)
      have htl := tx_len _ hpi
      rw [szs_drop hi] at h4
      have key : ∀ o2 : List UInt8, o2.length ≤ out.length + 1 → F.ref09.text_j3 i t g (F.ref09.text_l1 t g j) o2 = some (o2 ++ tx t.Kids[i] ++ txs false (t.Kids.drop (i + 1))) := by
        intro o2 ho
        unfold F.ref09.text_j3 F.ref09.text_j2
        rw [ix_in hi, if_pos rfl, ix_at hi, hg _ (List.getElem_mem hi), Option.bind_some, if_pos (decide_eq_true (by omega)), ix_inc (by omega),
          text_l1_ok hb hp hg j (i + 1) _ (by omega) (by omega) (by rw [List.length_append]; omega)]
        rfl
      rw [ix_lt hi, if_pos rfl, txs_drop hi]
      by_cases h0 : i = 0
      · rw [if_neg (by simp; omega), key _ (by omega)]
        simp [h0]
      · rw [if_pos (by simp; omega), if_pos (decide_eq_true (by simp; omega)), key _ (by simp)]
        have : (i == 0) = false := by simpa using h0
        rw [this]
        simp
    · rw [ix_ge hi, if_neg (by simp), List.drop_eq_nil_of_le (by omega)]
      simp [txs]
theorem text_ok : ∀ (k : Nat) (t : Tree), sz t + 12 < k → k ≤ 1000000 → okT t → plainT t = true → F.ref09.text k t = some (tx t)
  | 0, _, h, _, _, _ => by omega
  | k + 1, t, hk, hB, hok, hp => by
    show F.ref09.text_B k (F.ref09.text k) t = _
    have hs := sz_eq t
    have hl := len_sz t
    obtain ⟨_, hb8, _, hoks⟩ := (okT_eq t).1 hok
    have hp' := hp
    rw [plainT_eq] at hp'
    unfold F.ref09.text_B
    rw [tx_eq]
    by_cases hr : t.Rule = -1
    · obtain ⟨q1, q2, q3, q4⟩ := quo16 hb8
      obtain ⟨i1, i2⟩ := hexA_in hb8
      show (if (t.Rule == -1) = true then if inR (gquo .i64 (IntKind.wrap .i64 t.Byte) 16) hexA.length = true then if inR (grem (IntKind.wrap .i64 t.Byte) 16) hexA.length = true then some (toS ([120, sAt hexA (gquo .i64 (IntKind.wrap .i64 t.Byte) 16), sAt hexA (grem (IntKind.wrap .i64 t.Byte) 16)] : List Int)) else none else none else _) = _
      rw [if_pos (by simpa using hr), q2, q4, if_pos i1, if_pos i2, if_pos hr, hx_toS]
    · rw [if_neg hr] at hp'
      simp only [Bool.and_eq_true, decide_eq_true_eq] at hp'
      have h6 := itoa_len hp'.1.1.2 hp'.1.2
      have hts := txs_len true t.Kids hp'.2
      have := text_l1_ok (t := t) (by omega) hp'.2 (g := F.ref09.text k) (fun u hu => text_ok k u (by have := sz_mem hu; omega) (by omega) (okTs_mem hoks u hu) (plainTs_mem hp'.2 u hu)) k 0 (Lib.itoa t.Rule ++ [40]) (by omega) (by omega) (by rw [List.drop_zero]; simp; omega)
      rw [zero_cast, List.drop_zero] at this
      rw [if_neg (by simpa using hr), Digits_ok hp'.1.1.2 hp'.1.2 (by omega) (by omega), Option.bind_some, if_pos (decide_eq_true (by simp; omega)), this, Option.bind_some, if_neg hr]
      rw [if_pos (decide_eq_true (by simp; omega))]
      rfl

/-! ### the program's writing -/
def Wr (T : List UInt8) (B : List Int) : Prop := (T.length ≤ 65536 → B = ofS T) ∧ (65536 < T.length → 65536 < B.length) ∧ B.length ≤ T.length
theorem ofS_append (a b : List UInt8) : ofS (a ++ b) = ofS a ++ ofS b := by simp [ofS]
theorem Wr.add {T : List UInt8} {B : List Int} (h : Wr T B) (s : List UInt8) : Wr (T ++ s) (B ++ ofS s) := by
  obtain ⟨h1, h2, h3⟩ := h
  have hl := ofS_length s
  refine ⟨fun hh => ?_, fun hh => ?_, ?_⟩
  · rw [List.length_append] at hh
    rw [h1 (by omega), ofS_append]
  · rw [List.length_append] at hh ⊢
    by_cases h65 : T.length ≤ 65536
    · have e := h1 h65
      have := ofS_length T
      rw [e]
      omega
    · have := h2 (by omega)
      omega
  · simp only [List.length_append]; omega
theorem WB_ok {a : Bool} {B : List Int} {c : Int} (h : B.length < 1000000000) : F.strings.Builder_WriteByte ⟨a, B⟩ c = some ⟨true, B ++ [c]⟩ := by
  unfold F.strings.Builder_WriteByte F.strings.copyCheck
  rw [Option.bind_some]
  rw [if_pos (decide_eq_true (by simp; omega)), if_pos (decide_eq_true (by simp; omega))]
theorem WS_ok {a : Bool} {B : List Int} {s : List UInt8} (h : B.length < 1000000000) (hs : s.length < 1000000) : F.strings.Builder_WriteString ⟨a, B⟩ s = some ((s.length : Int), ⟨true, B ++ ofS s⟩) := by
  unfold F.strings.Builder_WriteString F.strings.copyCheck
  rw [Option.bind_some]
  rw [if_pos (decide_eq_true (by simp; omega)), if_pos (decide_eq_true (by simp; omega))]
theorem Itoa_ok {r : Int} (h1 : 0 ≤ r) (h2 : r ≤ 999999) : F.strconv.Itoa r = some (Lib.itoa r) := by
  unfold F.strconv.Itoa
  rw [if_pos (by simp; omega)]
theorem write_l1_ok {t : Tree} {g : Strings_Builder → Tree → Option Strings_Builder} (hb : sz t < 1000000) (hp : plainTs t.Kids = true)
    (hg : ∀ u, u ∈ t.Kids → ∀ (T : List UInt8) (B : List Int), Wr T B → T.length + (tx u).length < 100000000 → ∃ B', g ⟨true, B⟩ u = some ⟨true, B'⟩ ∧ Wr (T ++ tx u) B') :
    ∀ (j i : Nat) (T : List UInt8) (B : List Int), Wr T B → i ≤ t.Kids.length → t.Kids.length - i < j → T.length + (txs (i == 0) (t.Kids.drop i)).length < 100000000 → ∃ B', F.trees.write_l1 t g j i true B = some (true, B') ∧ Wr (T ++ txs (i == 0) (t.Kids.drop i)) B'
  | 0, _, _, _, _, _, h, _ => by omega
  | j + 1, i, T, B, hW, h1, h2, h4 => by
    simp only [F.trees.write_l1]
    by_cases hi : i < t.Kids.length
    · have hl := len_sz t
      have hpi := plainTs_mem hp _ (List.getElem_mem hi)
      have htl := tx_len _ hpi
      rw [txs_drop hi] at h4
      simp only [List.length_append] at h4
      have key : ∀ (T2 : List UInt8) (B2 : List Int), Wr T2 B2 → T2.length + (tx t.Kids[i]).length + (txs false (t.Kids.drop (i + 1))).length < 100000000 → ∃ B', F.trees.write_j3 g t i (F.trees.write_l1 t g j) true B2 = some (true, B') ∧ Wr (T2 ++ tx t.Kids[i] ++ txs false (t.Kids.drop (i + 1))) B' := by
        intro T2 B2 hW2 hT2
        unfold F.trees.write_j3 F.trees.write_j4 F.trees.write_j2 F.strings.Builder_Len
        rw [Option.bind_some]
        by_cases hc : B2.length ≤ 65536
        · obtain ⟨B3, e3, hW3⟩ := hg _ (List.getElem_mem hi) T2 B2 hW2 (by omega)
          obtain ⟨B4, e4, hW4⟩ := write_l1_ok hb hp hg j (i + 1) _ B3 hW3 (by omega) (by omega) (by rw [List.length_append]; exact hT2)
          refine ⟨B4, ?_, hW4⟩
          rw [if_pos (by simp; omega), ix_at hi, e3, Option.bind_some, ix_inc (by omega)]
          exact e4
        · have hW3 : Wr (T2 ++ tx t.Kids[i]) B2 := by
            obtain ⟨g1, g2, g3⟩ := hW2
            refine ⟨fun hh => ?_, fun _ => by omega, by rw [List.length_append]; omega⟩
            rw [List.length_append] at hh
            omega
          obtain ⟨B4, e4, hW4⟩ := write_l1_ok hb hp hg j (i + 1) _ B2 hW3 (by omega) (by omega) (by rw [List.length_append]; exact hT2)
          refine ⟨B4, ?_, hW4⟩
          rw [if_neg (by simp; omega), ix_inc (by omega)]
          exact e4
      rw [ix_lt hi, if_pos rfl, ix_in hi, if_pos rfl, txs_drop hi]
      by_cases h0 : i = 0
      · obtain ⟨B', e1, e2⟩ := key T B hW (by omega)
        refine ⟨B', ?_, ?_⟩
        · rw [if_neg (by simp; omega)]; exact e1
        · simpa [h0] using e2
      · obtain ⟨B', e1, e2⟩ := key (T ++ [32]) (B ++ [32]) (hW.add [32]) (by have : (if (i == 0) = true then ([] : List UInt8) else [32]).length = 1 := by rw [if_neg (by simpa using h0)]; rfl
                                                                             simp only [List.length_append, List.length_cons, List.length_nil]; omega)
        refine ⟨B', ?_, ?_⟩
        · rw [if_pos (by simp; omega), WB_ok (by have := hW.2.2; omega), Option.bind_some]; exact e1
        · have : (i == 0) = false := by simpa using h0
          rw [this]
          simpa using e2
    · rw [ix_ge hi, if_neg (by simp), List.drop_eq_nil_of_le (by omega)]
      exact ⟨B, rfl, by simpa [txs] using hW⟩
theorem write_ok : ∀ (k : Nat) (t : Tree) (a : Bool) (T : List UInt8) (B : List Int), sz t < k → k ≤ 1000000 → okT t → plainT t = true → Wr T B → T.length + (tx t).length < 100000000 →
    ∃ B', F.trees.write k ⟨a, B⟩ t = some ⟨true, B'⟩ ∧ Wr (T ++ tx t) B'
  | 0, _, _, _, _, h, _, _, _, _, _ => by omega
  | k + 1, t, a, T, B, hk, hB, hok, hp, hW, hT => by
    show ∃ B', F.trees.write_B k (F.trees.write k) ⟨a, B⟩ t = some ⟨true, B'⟩ ∧ _
    have hs := sz_eq t
    have hl := len_sz t
    obtain ⟨_, hb8, _, hoks⟩ := (okT_eq t).1 hok
    have hp' := hp
    have hBl := hW.2.2
    rw [plainT_eq] at hp'
    rw [tx_eq]
    by_cases hr : t.Rule = -1
    · obtain ⟨q1, q2, q3, q4⟩ := quo16 hb8
      obtain ⟨i1, i2⟩ := hexA_in hb8
      refine ⟨B ++ ofS (hx t.Byte), ?_, by rw [if_pos hr]; exact hW.add _⟩
      show (if (t.Rule == -1) = true then (F.strings.Builder_WriteByte ⟨a, B⟩ 120).bind fun v => if inR (gquo .u8 t.Byte 16) hexA.length = true then (F.strings.Builder_WriteByte v (sAt hexA (gquo .u8 t.Byte 16))).bind fun v1 => if inR (grem t.Byte 16) hexA.length = true then (F.strings.Builder_WriteByte v1 (sAt hexA (grem t.Byte 16))).bind fun v2 => some v2 else none else none else _) = _
      rw [if_pos (by simpa using hr), q1, q3, WB_ok (by omega), Option.bind_some, if_pos i1, WB_ok (by simp; omega), Option.bind_some, if_pos i2, WB_ok (by simp; omega), Option.bind_some]
      simp [hx, ofS, sAt]
    · rw [if_neg hr] at hp' ⊢
      simp only [Bool.and_eq_true, decide_eq_true_eq] at hp'
      have h6 := itoa_len hp'.1.1.2 hp'.1.2
      have hts := txs_len true t.Kids hp'.2
      have hW2 : Wr (T ++ Lib.itoa t.Rule ++ [40]) (B ++ ofS (Lib.itoa t.Rule) ++ [40]) := (hW.add _).add [40]
      obtain ⟨B3, e3, hW3⟩ := write_l1_ok (t := t) (by omega) hp'.2 (g := F.trees.write k) (fun u hu T' B' hW' hT' => write_ok k u true T' B' (by have := sz_mem hu; omega) (by omega) (okTs_mem hoks u hu) (plainTs_mem hp'.2 u hu) hW' hT') k 0 _ _ hW2 (by omega) (by omega) (by rw [List.drop_zero]; rw [tx_eq, if_neg hr] at hT; simp only [List.length_append, List.length_cons, List.length_nil, BEq.rfl] at hT ⊢; omega)
      rw [zero_cast] at e3
      rw [List.drop_zero] at hW3
      have hl3 := hW3.2.2
      refine ⟨B3 ++ [41], ?_, ?_⟩
      · unfold F.trees.write_B
        have hol := ofS_length (Lib.itoa t.Rule)
        rw [if_neg (by simpa using hr), Itoa_ok hp'.1.1.2 hp'.1.2, Option.bind_some, WS_ok (by omega) (by omega), Option.bind_some, WB_ok (by simp; omega), Option.bind_some, e3, Option.bind_some, WB_ok ?_, Option.bind_some]
        simp only [List.length_append, List.length_cons, List.length_nil, BEq.rfl] at hl3
        show B3.length < 1000000000
        omega
      · have := hW3.add [41]
        simpa [ofS] using this
theorem toS_ofS (s : List UInt8) : toS (ofS s) = s := by
  have h : ∀ x : UInt8, UInt8.ofNat (((x.toNat : Nat) : Int)).toNat = x := fun x => by simp
  simp only [toS, ofS, List.map_map]
  conv => rhs; rw [← List.map_id s]
  refine List.map_congr_left fun x _ => ?_
  simp [h]
theorem okB_ofS (s : List UInt8) : (ofS s).all okB = true := by
  simp only [ofS, List.all_map, List.all_eq_true]
  intro x _
  have := x.toNat_lt
  simp [okB]
  omega
/-- what writing comes to -/
def prt (t : Tree) : List UInt8 × Int := if plainT t && decide (dp t ≤ 200) then (if 65536 < (tx t).length then ([], 2) else (tx t, 0)) else ([], 90)
theorem Print_ok {k : Nat} {t : Tree} (hk : 4 * sz t + 1 < k) (hB : k ≤ 1000000) (hok : okT t) : F.trees.Print k t = some (prt t) := by
  unfold F.trees.Print prt
  rw [plain_ok hk hB, Option.bind_some]
  cases hp : (plainT t && decide (dp t ≤ 200)) with
  | false => simp
  | true =>
    have hp1 : plainT t = true := by simp at hp; exact hp.1
    have htl := tx_len t hp1
    obtain ⟨B, e, hW⟩ := write_ok k t false [] [] (by omega) hB hok hp1 ⟨fun _ => rfl, fun h => by simp at h, Nat.le_refl _⟩ (by simp; omega)
    rw [List.nil_append] at hW
    rw [if_neg (by simp), e, Option.bind_some]
    unfold F.strings.Builder_Len
    rw [Option.bind_some, if_pos rfl]
    by_cases hc : 65536 < (tx t).length
    · rw [if_pos hc, if_pos (by have := hW.2.1 hc; simp; omega)]
    · have e2 := hW.1 (by omega)
      have := ofS_length (tx t)
      rw [if_neg hc, if_neg (by rw [e2]; simp; omega)]
      unfold F.strings.Builder_String
      rw [e2, if_pos (okB_ofS _), Option.bind_some, toS_ofS]
theorem refPrint_ok {k : Nat} {t : Tree} (hk : sz t + 12 < k) (hB : k ≤ 1000000) (hok : okT t) : F.ref09.Print k t = some (prt t) := by
  unfold F.ref09.Print prt
  rw [refSize_ok k t (by omega) hB, Option.bind_some, refplain_ok k t (by omega) hB, Option.bind_some]
  cases hp : plainT t with
  | false => simp
  | true =>
    by_cases hd : dp t ≤ 200
    · rw [if_neg (by simp), if_neg (by simp; omega), text_ok k t hk hB hok hp, Option.bind_some]
      simp only [hd, Bool.true_and, decide_true, if_true]
      by_cases hc : 65536 < (tx t).length
      · rw [if_pos (by simp; omega), if_pos hc]
      · rw [if_neg (by simp; omega), if_neg hc]
    · rw [if_neg (by simp), if_pos (by simp; omega)]
      simp [hd]
theorem law_Writes {t : Tree} (hok : okT t) : F.law09.TreesWrites 100000 t = some true := by
  unfold F.law09.TreesWrites
  rw [heavy_ok (by omega) t, Option.bind_some, alive_K, Option.bind_some]
  by_cases h1 : 1500 < sz t
  · rw [decide_eq_true h1, if_pos rfl]
  · rw [decide_eq_false h1, if_neg (by simp), Print_ok (by omega) (by omega) hok, Option.bind_some, refPrint_ok (by omega) (by omega) hok, Option.bind_some, Option.bind_some, if_pos rfl, if_pos (by simp)]
    simp
end Go.Vc
