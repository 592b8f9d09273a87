/-
  Words: the law WordsStand.
-/
import Derived.Test.YthkfffheppfieaaCF
set_option linter.unusedVariables false
set_option linter.unusedSimpArgs false
namespace Go.Vc
open Go
theorem Place_ok {s : List UInt8} {n : Nat} (hb : s.length ≤ 65536) (hn : n ≤ s.length) : F.words.Place s (n : Int) = some ((lnN s n : Int), (colN s n : Int)) := by
  have hsub : sub s 0 (n : Int) = s.take n := by simp [sub]
  have hcut : okSub 0 (n : Int) s.length = true := by simp [okSub]; omega
  have h1 : ¬ ((n : Int) < 0) := by omega
  have h2 : ¬ ((s.length : Int) < (n : Int)) := by omega
  unfold F.words.Place
  simp only [decide_eq_false h1, decide_eq_false h2, hcut, Bool.false_eq_true, if_false, if_true, hsub]
  have hlen : (s.take n).length = n := by rw [List.length_take]; omega
  have hsz : (bs (s.take n)).size = n := hlen
  have hlast : Lib.lastIndexByte (bs (s.take n)) 10 = (n : Int) - (colN s n : Int) := by
    unfold Lib.lastIndexByte
    rw [hsz, lastIdx_take n (Nat.le_refl _) hn, lastIdx_col n hn]
  have hcol := colN_le s n
  have hln := lnN_le s n
  unfold F.strings.Count F.strings.LastIndexByte
  rw [if_pos (decide_eq_true (by rw [hsz]; omega)), hlast]
  simp only [Option.bind_some, Lib.countByte]
  rw [wrap_i64 (n := (((s.take n).count 10 : Nat) : Int) + 1) (by unfold lnN at hln; omega) (by unfold lnN at hln; omega), wrap_i64 (by omega) (by omega)]
  congr 2
  · unfold lnN; omega
  · omega
/-- words that stand where they say, one behind the other -/
inductive Std (s : List UInt8) : Nat → List Word → Prop
  | last {e : Nat} (h : e ≤ s.length) : Std s e [endW s]
  | cons {e i : Nat} {w : List UInt8} {x : Tk} {ws : List Word} (h1 : e ≤ i) (h2 : i + w.length ≤ s.length) (h3 : (s.drop i).take w.length = w) (h4 : w ≠ []) (h5 : x.kind ≠ 7) (h6 : Std s (i + w.length) ws) : Std s e (wd s i w x :: ws)
theorem Std_ne {s : List UInt8} {e : Nat} {ws : List Word} (h : Std s e ws) : ws ≠ [] := by
  cases h <;> simp
theorem scT_std {s : List UInt8} (hb : s.length ≤ 65536) : ∀ (j : Nat) (i : Nat) (r : List UInt8) (l : List (Nat × List UInt8 × Tk)), D s i r → scT j r = .ok l → Std s i (wds s l ++ [endW s])
  | 0, i, r, l, hD, h => by
    cases h
    exact Std.last (by have := hD.2; omega)
  | j + 1, i, r, l, hD, h => by
    have hs := skL_le r false
    have hD2 := skL_D hD false
    have h0 := hD.2
    unfold scT at h
    cases hk : skL false r with
    | nil => rw [hk] at h; cases h; exact Std.last (by omega)
    | cons c t =>
      rw [hk] at h hs hD2
      simp only at h
      cases ht : tok (c :: t) with
      | error p => rw [ht] at h; cases h
      | ok p =>
        obtain ⟨x, n⟩ := p
        obtain ⟨n1, n2, n3, n4, _⟩ := tok_ok (by omega) ht
        rw [ht] at h
        simp only at h
        cases hr : scT j ((c :: t).drop n) with
        | error z => rw [hr] at h; cases h
        | ok l' =>
          rw [hr] at h
          cases h
          have hlen : ((c :: t).take n).length = n := by rw [List.length_take]; omega
          have h2 := hD2.2
          have ih := scT_std hb j _ _ l' (D_drop hD2 n2) hr
          refine Std.cons (x := x) (by omega) (by rw [hlen]; omega) ?_ ?_ n4 (by rw [hlen]; exact ih)
          · rw [hlen, hD2.1]
          · intro e
            have e' : (c :: t).take n = [] := e
            rw [e'] at hlen
            simp at hlen
            omega
theorem Std_l1 {s : List UInt8} {f : Fault} {all : List Word} (hb : s.length ≤ 65536) (hall : all.length < 1000000) : ∀ (j i e : Nat) (ws : List Word), Std s e ws → all.drop i = ws → ws.length < j → F.law02.WordsStand_l1 (all, f) s j (e : Int) (i : Int) = some (.done ())
  | 0, _, _, _, _, _, h => by omega
  | j + 1, i, e, ws, hS, hd, hj => by
    have hne := Std_ne hS
    have hi : i < all.length := by
      rcases Nat.lt_or_ge i all.length with h | h
      · exact h
      · rw [List.drop_eq_nil_of_le h] at hd
        exact absurd hd.symm hne
    have hat : ∀ w ws', ws = w :: ws' → at_ all (i : Int) = w ∧ all.drop (i + 1) = ws' ∧ i + ws'.length + 1 = all.length := by
      intro w ws' hw
      rw [List.drop_eq_getElem_cons hi, hw] at hd
      obtain ⟨a, b⟩ := List.cons.inj hd
      refine ⟨by rw [ix_at hi, a], b, ?_⟩
      rw [← b, List.length_drop]
      omega
    have key : ∀ (i0 : Nat) (w : List UInt8) (x : Tk) (ws' : List Word), ws = wd s i0 w x :: ws' → e ≤ i0 → i0 + w.length ≤ s.length → (s.drop i0).take w.length = w → (w = [] ↔ x.kind = 7) → (x.kind = 7 ↔ ws' = []) → (ws' = [] ∨ Std s (i0 + w.length) ws') → F.law02.WordsStand_l1 (all, f) s (j + 1) (e : Int) (i : Int) = some (.done ()) := by
      intro i0 w x ws' hw g1 g2 g3 g4 g5 g6
      obtain ⟨a1, a2, a3⟩ := hat _ _ hw
      simp only [F.law02.WordsStand_l1]
      have hcol := colN_le s i0
      have d1 : decide ((i : Int) < (all.length : Int)) = true := decide_eq_true (by omega)
      have d2 : inR (i : Int) all.length = true := ix_in hi
      simp only [d1, d2, if_true, a1, wd]
      have e1 : ¬ ((i0 : Int) < (e : Int)) := by omega
      have e2 : ¬ ((s.length : Int) < (i0 : Int)) := by omega
      have e3 : IntKind.wrap .i64 ((s.length : Int) - (i0 : Int)) = ((s.length - i0 : Nat) : Int) := by rw [wrap_i64 (by omega) (by omega)]; omega
      have e4 : ¬ (((s.length - i0 : Nat) : Int) < (w.length : Int)) := by omega
      have e5 : IntKind.wrap .i64 ((i0 : Int) + (w.length : Int)) = ((i0 + w.length : Nat) : Int) := by rw [wrap_i64 (by omega) (by omega)]; omega
      have e6 : okSub (i0 : Int) ((i0 + w.length : Nat) : Int) s.length = true := by rw [okSub_iff]; omega
      have e7 : sub s (i0 : Int) ((i0 + w.length : Nat) : Int) = w := by
        unfold sub
        rw [Int.toNat_natCast, Int.toNat_natCast, show i0 + w.length - i0 = w.length by omega, g3]
      simp only [decide_eq_false e1, decide_eq_false e2, e3, decide_eq_false e4, e5, e6, e7, if_true, Bool.false_eq_true, if_false]
      simp only [F.law02.WordsStand_j2, F.law02.WordsStand_j3, a1, wd, BEq.rfl, Bool.not_true, Bool.false_eq_true, if_false, Place_ok hb (show i0 ≤ s.length by omega), Option.bind_some, bne_self_eq_false]
      have e8 : IntKind.wrap .i64 ((all.length : Int) - 1) = ((all.length - 1 : Nat) : Int) := by rw [wrap_i64 (by omega) (by omega)]; omega
      have b1 : ((w == []) != (x.kind == 7)) = false := by
        rw [bne_eq_false_iff_eq, Bool.eq_iff_iff, beq_iff_eq, beq_iff_eq]
        exact g4
      have b2 : ((x.kind == 7) != ((i : Int) == ((all.length - 1 : Nat) : Int))) = false := by
        rw [bne_eq_false_iff_eq, Bool.eq_iff_iff, beq_iff_eq, beq_iff_eq, g5]
        constructor
        · intro hz; subst hz; simp at a3; omega
        · intro hz
          have : ws'.length = 0 := by omega
          exact List.length_eq_zero_iff.1 this
      simp only [e8, b1, b2, Bool.false_eq_true, if_false, e5, ix_inc (show i < 4611686018427387904 by omega)]
      rcases g6 with hz | hS'
      · subst hz
        obtain ⟨j, rfl⟩ : ∃ j', j = j' + 1 := ⟨j - 1, by rw [hw] at hj; simp at hj; omega⟩
        simp only [F.law02.WordsStand_l1]
        rw [if_neg (by rw [decide_eq_true_eq]; simp at a3; omega)]
      · exact Std_l1 hb hall j (i + 1) _ ws' hS' a2 (by rw [hw] at hj; simp at hj; omega)
    cases hS with
    | last h => exact key s.length [] ⟨7, [], noS, 0⟩ [] rfl h (by simp) rfl (by simp) (by simp) (.inl rfl)
    | cons h1 h2 h3 h4 h5 h6 => exact key _ _ _ _ rfl h1 h2 h3 (by simp [h4, h5]) (by simp [h5, Std_ne h6]) (.inr h6)
theorem law_Stand (s : List UInt8) : F.law02.WordsStand 200000 s = some true := by
  unfold F.law02.WordsStand
  by_cases h : 20000 < s.length
  · rw [if_pos (by rw [decide_eq_true_eq]; omega), alive_K]; rfl
  rw [if_neg (by rw [decide_eq_true_eq]; omega), Scan_ok (by omega), Option.bind_some]
  cases h1 : scT 200000 s with
  | error z =>
    obtain ⟨m, o, e⟩ := z
    obtain ⟨g1, g2, g3, g4⟩ := scT_err _ _ _ _ _ (by omega) h1
    simp only
    rw [if_pos (by simpa using g2), alive_K, Option.bind_some, if_pos rfl, if_pos (by rw [decide_eq_true_eq]; omega)]
    congr 1
    rw [decide_eq_true_eq]
    omega
  | ok l =>
    have hl := scT_len _ _ _ (by omega) h1
    simp only
    have el : (wds s l ++ [endW s]).length = l.length + 1 := by simp [wds]
    have hS := Std_l1 (f := ⟨0, 0⟩) (all := wds s l ++ [endW s]) (by omega) (by rw [el]; omega) 200000 0 0 _ (scT_std (by omega) 200000 0 s l (D_zero s) h1) rfl (by rw [el]; omega)
    rw [zero_cast] at hS
    rw [if_neg (by simp), hS, Option.bind_some]
    simp only [LR.fin]
    rw [alive_K, Option.bind_some, if_pos rfl, el]
    congr 1
    rw [decide_eq_true_eq]
    omega
end Go.Vc
