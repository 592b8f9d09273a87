/-
  There and back: Parse of Print; the laws CharsetBack and CharsetApart.
-/
import Derived.Test.YtmcnanedpofeoaaPP
namespace Go.Vc
open Go

def sgB (b : Nat) : Bool := match sg b with
  | [c] => decide (c.toNat = b ∧ c.toNat ≠ 92 ∧ ¬ (c.toNat ≤ 32 ∨ 127 ≤ c.toNat ∨ spec9 c.toNat ≠ 0))
  | [c, d] => decide (c.toNat = 92 ∧ d.toNat ≠ 120 ∧ escv d.toNat = b)
  | [c, d, x, y] => decide (c.toNat = 92 ∧ d.toNat = 120 ∧ hexv x.toNat < 16 ∧ hexv y.toNat < 16 ∧ 16 * hexv x.toNat + hexv y.toNat = b)
  | _ => false
theorem sgB_all : ∀ b : _root_.Fin 256, sgB b.val = true := by decide +kernel
theorem sg_head_all : ∀ b : _root_.Fin 256, (sg b.val).head? ≠ none ∧ (sg b.val).head? ≠ some 93 ∧ (sg b.val).head? ≠ some 45 ∧ (sg b.val).head? ≠ some 94 := by decide +kernel
theorem sg_one {b : Nat} (hb : b < 256) (rest : List UInt8) : oneS (sg b ++ rest) = (b, (sg b).length, 0) := by
  have h := sgB_all ⟨b, hb⟩
  unfold sgB at h
  simp only at h
  split at h
  · rename_i c e
    obtain ⟨h1, h2, h3⟩ := of_decide_eq_true h
    rw [e]
    simp only [List.cons_append, List.nil_append, oneS]
    rw [if_pos h2, if_neg h3, h1]; rfl
  · rename_i c d e
    obtain ⟨h1, h2, h3⟩ := of_decide_eq_true h
    rw [e]
    simp only [List.cons_append, List.nil_append, oneS, escS]
    rw [if_neg (by simp [h1]), if_neg h2, if_pos (by omega), h3]; rfl
  · rename_i c d x y e
    obtain ⟨h1, h2, h3, h4, h5⟩ := of_decide_eq_true h
    rw [e]
    simp only [List.cons_append, List.nil_append, oneS, escS, hexS]
    rw [if_neg (by simp [h1]), if_pos h2, if_pos ⟨h3, h4⟩, h5]; rfl
  · cases h
theorem get_drop {t u : List UInt8} {i : Nat} (h : t.drop i = u) : t[i]? = u.head? := by
  rw [← h, List.head?_drop]
theorem drop_more {t u v : List UInt8} {i : Nat} (h : t.drop i = u ++ v) : t.drop (i + u.length) = v := by
  rw [← List.drop_drop, h]; simp
theorem head_app {u v : List UInt8} (h : u.head? ≠ none) : (u ++ v).head? = u.head? := by
  cases u with
  | nil => simp at h
  | cons a u => rfl
theorem sg_head {b : Nat} (hb : b < 256) (rest : List UInt8) : (sg b ++ rest).head? ≠ some 93 ∧ (sg b ++ rest).head? ≠ some 45 ∧ (sg b ++ rest).head? ≠ some 94 := by
  obtain ⟨h1, h2, h3, h4⟩ := sg_head_all ⟨b, hb⟩
  rw [head_app h1]
  exact ⟨h2, h3, h4⟩
theorem body_head {l : List Run} (hl : ∀ r ∈ l, okR r) : (bodyT l ++ [93]).head? ≠ some 45 ∧ (bodyT l ++ [93]).head? ≠ some 94 := by
  cases l with
  | nil => simp [bodyT]
  | cons r l =>
    have hr := hl r List.mem_cons_self
    unfold okR at hr
    have := sg_head (b := r.Lo.toNat) (by omega) ((if r.Lo + 1 < r.Hi then [45] else []) ++ ((if r.Lo < r.Hi then sg r.Hi.toNat else []) ++ (bodyT l ++ [93])))
    have e : bodyT (r :: l) ++ [93] = sg r.Lo.toNat ++ ((if r.Lo + 1 < r.Hi then [45] else []) ++ ((if r.Lo < r.Hi then sg r.Hi.toNat else []) ++ (bodyT l ++ [93]))) := by
      simp [bodyT, runT]
    rw [e]
    exact this.2
def inRun (l : List Run) (x : Nat) : Bool := l.any fun r => decide (r.Lo ≤ (x : Int)) && decide ((x : Int) ≤ r.Hi)
theorem rngS_rngS {s : S4} {a b c d : Nat} : rngS (rngS s a b) c d = ofP fun x => bit s x || ((decide (a ≤ x) && decide (x ≤ b)) || (decide (c ≤ x) && decide (x ≤ d))) := by
  unfold rngS
  refine ofP_congr (fun x hx => ?_)
  rw [bit_ofP _ hx, Bool.or_assoc]
theorem parse_runs {t : List UInt8} : ∀ (l : List Run) (i j : Nat) (s : S4), (∀ r ∈ l, okR r) → okS s → t.drop i = bodyT l ++ [93] → i ≤ t.length → 2 * l.length < j → parseL t j i s = some (.done (t.length - 1, ofP fun x => bit s x || inRun l x))
  | [], i, j, s, _, hs, hd, hi, hj => by
    cases j with
    | zero => simp at hj
    | succ j =>
      have hd' : t.drop i = [93] := by rw [hd]; rfl
      have hlen : t.length - i = 1 := by rw [← List.length_drop, hd']; rfl
      simp only [parseL]
      rw [if_pos (by rw [get_drop hd']; rfl)]
      have : i = t.length - 1 := by omega
      rw [← this]
      refine congrArg (fun z => some (LR.done (i, z))) (eq_ofP hs (fun x _ => ?_))
      simp [inRun]
  | r :: l, i, j, s, hl, hs, hd, hi, hj => by
    have hr := hl r List.mem_cons_self
    have hl' : ∀ r ∈ l, okR r := fun x hx => hl x (List.mem_cons_of_mem _ hx)
    obtain ⟨h1, h2, h3⟩ := hr
    obtain ⟨lo, hlo⟩ : ∃ n : Nat, r.Lo = (n : Int) := ⟨r.Lo.toNat, by omega⟩
    obtain ⟨hh, hhi⟩ : ∃ n : Nat, r.Hi = (n : Int) := ⟨r.Hi.toNat, by omega⟩
    have hbh := body_head hl'
    simp only [List.length_cons] at hj
    cases j with
    | zero => omega
    | succ j =>
    have e : t.drop i = sg lo ++ ((if (lo : Int) + 1 < hh then [45] else []) ++ ((if (lo : Int) < hh then sg hh else []) ++ (bodyT l ++ [93]))) := by
      rw [hd]; simp [bodyT, runT, hlo, hhi]
    have hone := sg_one (b := lo) (by omega) ((if (lo : Int) + 1 < hh then [45] else []) ++ ((if (lo : Int) < hh then sg hh else []) ++ (bodyT l ++ [93])))
    rw [← e] at hone
    have hd1 := drop_more e
    have hle1 : i + (sg lo).length ≤ t.length := by
      have := congrArg List.length e
      rw [List.length_drop, List.length_append] at this
      omega
    have hu : ∀ u : S4, (∀ x, x < 256 → bit u x = (bit s x || (decide (lo ≤ x) && decide (x ≤ hh)))) → (ofP fun x => bit u x || inRun l x) = ofP fun x => bit s x || inRun (r :: l) x := by
      intro u hu
      refine ofP_congr (fun x hx => ?_)
      rw [hu x hx, Bool.or_assoc]
      congr 1
      simp only [inRun, List.any_cons, hlo, hhi]
      congr 1
      congr 1
      · rw [Bool.eq_iff_iff]; simp
      · rw [Bool.eq_iff_iff]; simp
    simp only [parseL]
    rw [if_neg (by rw [get_drop e]; exact (sg_head (by omega) _).1)]
    by_cases c1 : (lo : Int) + 1 < hh
    · have c2 : (lo : Int) < hh := by omega
      rw [if_pos c1, if_pos c2] at hd1
      have hd2 : t.drop (i + (sg lo).length + 1) = sg hh ++ (bodyT l ++ [93]) := by
        have := drop_more (u := [45]) hd1
        exact this
      have hone2 := sg_one (b := hh) (by omega) (bodyT l ++ [93])
      rw [← hd2] at hone2
      have hd3 := drop_more hd2
      have hle3 : i + (sg lo).length + 1 + (sg hh).length ≤ t.length := by
        have := congrArg List.length hd2
        rw [List.length_drop, List.length_append, List.length_append] at this
        simp only [List.length_cons] at this
        omega
      have hit : itemS t i = .ok lo hh (i + (sg lo).length + 1 + (sg hh).length) := by
        unfold itemS
        simp only [hone]
        rw [if_neg (by simp), if_pos (by rw [get_drop hd1]; rfl), hone2]
        simp only
        rw [if_neg (by simp), if_neg (by omega)]
      rw [hit]
      simp only
      rw [parse_runs l _ j _ hl' (okS_rng _ _ _) hd3 hle3 (by omega)]
      refine congrArg (fun z => some (LR.done (t.length - 1, z))) (hu _ (fun x hx => ?_))
      unfold rngS
      rw [bit_ofP _ hx]
    · rw [if_neg c1, List.nil_append] at hd1
      by_cases c2 : (lo : Int) < hh
      · rw [if_pos c2] at hd1
        have hone2 := sg_one (b := hh) (by omega) (bodyT l ++ [93])
        rw [← hd1] at hone2
        have hd3 := drop_more hd1
        have hle3 : i + (sg lo).length + (sg hh).length ≤ t.length := by
          have := congrArg List.length hd1
          rw [List.length_drop, List.length_append, List.length_append] at this
          simp only [List.length_cons] at this
          omega
        have hit : itemS t i = .ok lo lo (i + (sg lo).length) := by
          unfold itemS
          simp only [hone]
          rw [if_neg (by simp), if_neg (by rw [get_drop hd1]; exact (sg_head (by omega) _).2.1)]
        have hit2 : itemS t (i + (sg lo).length) = .ok hh hh (i + (sg lo).length + (sg hh).length) := by
          unfold itemS
          simp only [hone2]
          rw [if_neg (by simp), if_neg (by rw [get_drop hd3]; exact hbh.1)]
        cases j with
        | zero => omega
        | succ j =>
        rw [hit]
        simp only [parseL]
        rw [if_neg (by rw [get_drop hd1]; exact (sg_head (by omega) _).1), hit2]
        simp only
        rw [parse_runs l _ j _ hl' (okS_rng _ _ _) hd3 hle3 (by omega)]
        refine congrArg (fun z => some (LR.done (t.length - 1, z))) (hu _ (fun x hx => ?_))
        rw [rngS_rngS, bit_ofP _ hx]
        congr 1
        rw [Bool.eq_iff_iff]
        simp
        omega
      · rw [if_neg c2, List.nil_append] at hd1
        have hit : itemS t i = .ok lo lo (i + (sg lo).length) := by
          unfold itemS
          simp only [hone]
          rw [if_neg (by simp), if_neg (by rw [get_drop hd1]; exact hbh.1)]
        rw [hit]
        simp only
        rw [parse_runs l _ j _ hl' (okS_rng _ _ _) hd1 hle1 (by omega)]
        refine congrArg (fun z => some (LR.done (t.length - 1, z))) (hu _ (fun x hx => ?_))
        unfold rngS
        rw [bit_ofP _ hx]
        congr 2
        rw [show hh = lo by omega]
theorem Cr_mem {s : S4} {m : Nat} (h : (bt s (m : Int) && !bt s ((m : Int) - 1)) = true) : ∀ n, m < n → (⟨(m : Int), (ext s 256 m : Int)⟩ : Run) ∈ Cr s n
  | 0, hn => by omega
  | n + 1, hn => by
    rw [Cr_succ, List.mem_append]
    by_cases he : m = n
    · subst he
      right
      rw [if_pos h]
      simp
    · exact .inl (Cr_mem h n (by omega))
theorem Cr_bits {s : S4} : ∀ n, n ≤ 256 → ∀ r ∈ Cr s n, ∀ x : Nat, r.Lo ≤ (x : Int) → (x : Int) ≤ r.Hi → bt s (x : Int) = true
  | 0, _, r, h, _, _, _ => by simp [Cr] at h
  | n + 1, hn, r, h, x, h1, h2 => by
    rw [Cr_succ, List.mem_append] at h
    rcases h with h | h
    · exact Cr_bits n (by omega) r h x h1 h2
    · split at h
      · rename_i hb
        simp only [List.mem_cons, List.not_mem_nil, or_false] at h
        subst h
        obtain ⟨_, _, h3, _⟩ := ext_spec (s := s) 256 n (by omega) (by omega)
        simp only at h1 h2
        rcases Nat.eq_or_lt_of_le (show n ≤ x by omega) with he | he
        · subst he
          rw [Bool.and_eq_true] at hb
          exact hb.1
        · exact h3 x he (by omega)
      · simp at h
theorem run_start {s : S4} (x : Nat) (h : bt s (x : Int) = true) : ∃ m, m ≤ x ∧ (bt s (m : Int) && !bt s ((m : Int) - 1)) = true ∧ ∀ y, m ≤ y → y ≤ x → bt s (y : Int) = true := by
  induction x with
  | zero =>
    refine ⟨0, Nat.le_refl _, ?_, fun y _ h2 => ?_⟩
    · rw [h, bt_out (.inl (by omega))]; rfl
    · obtain rfl : y = 0 := by omega
      exact h
  | succ x ih =>
    cases hp : bt s (x : Int) with
    | true =>
      obtain ⟨m, h1, h2, h3⟩ := ih hp
      refine ⟨m, by omega, h2, fun y g1 g2 => ?_⟩
      rcases Nat.eq_or_lt_of_le g2 with he | he
      · subst he; exact h
      · exact h3 y g1 (by omega)
    | false =>
      refine ⟨x + 1, Nat.le_refl _, ?_, fun y g1 g2 => ?_⟩
      · have e : ((x + 1 : Nat) : Int) - 1 = (x : Int) := by omega
        rw [h, e, hp]; rfl
      · obtain rfl : y = x + 1 := by omega
        exact h
theorem inRun_Cr {s : S4} {x : Nat} (hx : x < 256) : inRun (Cr s 256) x = bit s x := by
  rw [Bool.eq_iff_iff, ← bt_nat hx]
  unfold inRun
  rw [List.any_eq_true]
  constructor
  · rintro ⟨r, hr, h⟩
    simp only [Bool.and_eq_true, decide_eq_true_eq] at h
    exact Cr_bits 256 (Nat.le_refl _) r hr x h.1 h.2
  · intro h
    obtain ⟨m, h1, h2, h3⟩ := run_start x h
    refine ⟨_, Cr_mem h2 256 (by omega), ?_⟩
    obtain ⟨g1, g2, g3, g4⟩ := ext_spec (s := s) 256 m (by omega) (by omega)
    simp only [Bool.and_eq_true, decide_eq_true_eq]
    refine ⟨by omega, ?_⟩
    rcases Nat.lt_or_ge (ext s 256 m) x with hlt | hge
    · have := h3 (ext s 256 m + 1) (by omega) (by omega)
      rw [show ((ext s 256 m + 1 : Nat) : Int) = (ext s 256 m : Int) + 1 from rfl, g4] at this
      cases this
    · omega
theorem parse_print {s : S4} (hs : okS s) {k : Nat} (hk : 90000 ≤ k) : parseT k (printT s) = some (s, ⟨0, 0⟩) := by
  have hlen := printT_len s
  have hok := Cr_okR (s := s) 256 (Nat.le_refl _)
  have hl := Cr_len s 256
  have hd : (printT s).drop 1 = bodyT (Cr s 256) ++ [93] := by simp [printT]
  have h94 : ¬ (printT s)[1]? = some 94 := by rw [get_drop hd]; exact (body_head hok).2
  unfold parseT
  rw [if_neg (by omega), if_neg (by simp [printT]), if_neg h94, parse_runs (Cr s 256) 1 k _ hok okS_none hd (by simp [printT]) (by omega)]
  simp only [Option.map_some]
  rw [if_neg (by omega), if_neg h94]
  refine congrArg (fun z => some (z, (⟨0, 0⟩ : Fault))) (eq_ofP hs (fun x hx => ?_)).symm
  rw [bit_none hx, inRun_Cr hx, Bool.false_or]
theorem print_inj {a b : S4} (ha : okS a) (hb : okS b) (h : printT a = printT b) : a = b := by
  have h1 := parse_print ha (k := 90000) (Nat.le_refl _)
  rw [h, parse_print hb (Nat.le_refl _)] at h1
  simp only [Option.some.injEq, Prod.mk.injEq] at h1
  exact h1.1.symm
theorem law_Back {s : S4} (hs : okS s) : F.law01.CharsetBack 90000 s = some true := by
  have hlen := printT_len s
  unfold F.law01.CharsetBack
  rw [alive_90000, Print_ok hs (by omega)]
  simp only [Option.bind_some]
  rw [Parse_ok (by omega) (by omega), parse_print hs (by omega)]
  simp only [Option.bind_some, Print_ok hs (show 300 ≤ 90000 by omega)]
  simp [S4_eq_self, F.law01.CharsetBack_j1]
theorem law_Apart {a b : S4} (ha : okS a) (hb : okS b) : F.law01.CharsetApart 300 a b = some true := by
  have hk : 5 ≤ 300 := by decide
  unfold F.law01.CharsetApart
  rw [alive_ok, Print_ok ha (by omega), Print_ok hb (by omega), Within_ok ha hb hk, Union_ok ha hb hk, Meet_ok ha hb hk]
  simp only [Option.bind_some, if_true]
  rw [Within_ok (okS_ofP _) ha hk]
  have e1 : (printT a == printT b) = S4.eq a b := by
    rw [Bool.eq_iff_iff, S4_eq_iff, beq_iff_eq]
    exact ⟨print_inj ha hb, fun h => by rw [h]⟩
  have e2 : S4.eq (ofP fun i => bit a i && !bit b i) (ofP fun _ => false) = S4.eq (ofP fun i => bit a i || bit b i) b := by
    rw [Bool.eq_iff_iff, S4_eq_iff, S4_eq_iff]
    constructor
    · intro h
      refine (eq_ofP hb (fun i hi => ?_)).symm
      have := congrArg (fun z => bit z i) h
      rw [bit_ofP _ hi, bit_ofP _ hi] at this
      revert this
      cases bit a i <;> cases bit b i <;> simp
    · intro h
      refine ofP_congr (fun i hi => ?_)
      have := congrArg (fun z => bit z i) h
      rw [bit_ofP _ hi] at this
      revert this
      cases bit a i <;> cases bit b i <;> simp
  have e3 : (ofP fun i => bit (ofP fun i => bit a i && bit b i) i && !bit a i) = ofP fun _ => false := ofP_congr (fun i hi => by rw [bit_ofP _ hi]; cases bit a i <;> cases bit b i <;> rfl)
  rw [e1, e2, e3]
  simp [S4_eq_self, F.law01.CharsetApart_j1]
end Go.Vc
