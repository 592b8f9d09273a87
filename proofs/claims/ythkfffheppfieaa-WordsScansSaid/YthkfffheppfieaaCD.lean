/-
  Words: the program's scanner is the plain one.
-/
import Derived.Test.YthkfffheppfieaaCC
set_option linter.unusedVariables false
set_option linter.unusedSimpArgs false
namespace Go.Vc
open Go
/-! ### what a word is does not depend on what stands behind it -/
/-- what may stand behind a word -/
def stop (k : Int) : List UInt8 → Prop
  | [] => True
  | c :: _ => (k = 1 ∨ k = 2 → al c = false) ∧ (k = 3 → cls c.toNat ≠ 3)
theorem pl_some (r : List UInt8) : (∀ c ∈ r.take (pl r), al c = true) ∧ (∀ c t, r.drop (pl r) = c :: t → al c = false) ∧ ∀ t, (∀ c t', t = c :: t' → al c = false) → pl (r.take (pl r) ++ t) = pl r := by
  induction r with
  | nil =>
    refine ⟨by simp [pl], by simp [pl], fun t ht => ?_⟩
    cases t with
    | nil => rfl
    | cons c t => simp [pl, ht c t rfl]
  | cons c r ih =>
    obtain ⟨h1, h2, h3⟩ := ih
    by_cases hc : al c = true
    · have e : pl (c :: r) = pl r + 1 := by rw [pl_cons, if_pos hc]
      rw [e]
      refine ⟨fun x hx => ?_, fun x t hx => h2 x t hx, fun t ht => ?_⟩
      · rw [List.take_succ_cons] at hx
        rcases List.mem_cons.1 hx with rfl | hx
        · exact hc
        · exact h1 x hx
      · rw [List.take_succ_cons, List.cons_append, pl_cons, if_pos hc, h3 t ht]
    · have e : pl (c :: r) = 0 := by rw [pl_cons, if_neg hc]
      rw [e]
      refine ⟨fun x hx => (by cases hx), fun x t hx => ?_, fun t ht => ?_⟩
      · rw [List.drop_zero] at hx
        cases hx
        exact Bool.eq_false_iff.2 hc
      · cases t with
        | nil => rfl
        | cons d t => rw [List.take_zero, List.nil_append, pl_cons, ht d t rfl]; rfl
theorem al_ne {c : UInt8} (h : al c = true) : c ≠ 10 := fun e => by subst e; revert h; decide
theorem esc_some {l : List UInt8} {b n : Nat} (h : esc l = some (b, n)) : ∃ w r, l = w ++ r ∧ w.length = n ∧ (10 : UInt8) ∉ w.tail ∧ ∀ t, esc (w ++ t) = some (b, n) := by
  match l, h with
  | c :: v :: rest, h =>
    unfold esc at h
    cases hs : sign v.toNat with
    | some b0 =>
      simp only [hs] at h
      cases h
      refine ⟨[c, v], rest, rfl, rfl, ?_, fun t => ?_⟩
      · intro hm
        simp at hm
        rw [← hm, show sign (UInt8.toNat 10) = none by decide] at hs
        cases hs
      · show esc (c :: v :: t) = _
        unfold esc
        simp only [hs]
    | none =>
      simp only [hs] at h
      split at h
      · rename_i h120
        split at h
        · rename_i p q r2
          split at h
          · rename_i a b0 ha hb
            cases h
            refine ⟨[c, v, p, q], r2, rfl, rfl, ?_, fun t => ?_⟩
            · intro hm
              simp at hm
              rcases hm with hm | hm | hm
              · rw [← hm] at h120; revert h120; decide
              · rw [← hm, show hv (UInt8.toNat 10) = none by decide] at ha; cases ha
              · rw [← hm, show hv (UInt8.toNat 10) = none by decide] at hb; cases hb
            · show esc (c :: v :: p :: q :: t) = _
              unfold esc
              simp only [hs, if_pos h120, ha, hb]
          · cases h
        · cases h
      · cases h
theorem quR_some : ∀ (j : Nat) (r : List UInt8) (acc out : List Int) (r' : List UInt8), quR j r acc = .ok (out, r') → ∃ w, r = w ++ r' ∧ 1 ≤ w.length ∧ (10 : UInt8) ∉ w ∧ ∀ t, quR j (w ++ t) acc = .ok (out, t)
  | 0, _, _, _, _, h => by cases h
  | j + 1, [], _, _, _, h => by cases h
  | j + 1, c :: r, acc, out, r', h => by
    unfold quR at h
    split at h
    · rename_i h34
      cases h
      refine ⟨[c], rfl, by simp, ?_, fun t => ?_⟩
      · intro hm
        simp at hm
        rw [← hm] at h34
        revert h34
        decide
      · show quR (j + 1) (c :: t) acc = _
        rw [quR, if_pos h34]
    rename_i h34
    split at h
    · rename_i h92
      split at h
      · cases h
      rename_i b n he
      obtain ⟨w, r2, e1, e2, e3, e4⟩ := esc_some he
      rw [e1, ← e2, List.drop_left] at h
      obtain ⟨w', f1, f2, f3, f4⟩ := quR_some j _ _ _ _ h
      cases w with
      | nil => exact absurd (esc_len he).1 (by simp at e2; omega)
      | cons c0 w =>
        obtain ⟨rfl, e5⟩ := List.cons.inj e1
        refine ⟨c :: w ++ w', by rw [e1, f1, List.append_assoc], by simp, ?_, fun t => ?_⟩
        · intro hm
          rcases List.mem_append.1 hm with hm | hm
          · rcases List.mem_cons.1 hm with hm | hm
            · rw [← hm] at h92; revert h92; decide
            · exact e3 hm
          · exact f3 hm
        · have hx := e4 (w' ++ t)
          rw [List.append_assoc, List.cons_append]
          rw [List.cons_append] at hx
          rw [quR, if_neg h34, if_pos h92, hx]
          simp only
          rw [← List.cons_append, ← e2, List.drop_left]
          exact f4 t
    rename_i h92
    split at h
    · cases h
    rename_i hr
    obtain ⟨w', f1, f2, f3, f4⟩ := quR_some j _ _ _ _ h
    refine ⟨c :: w', by rw [f1]; rfl, by simp, ?_, fun t => ?_⟩
    · intro hm
      rcases List.mem_cons.1 hm with hm | hm
      · rw [← hm] at hr; revert hr; decide
      · exact f3 hm
    · rw [List.cons_append, quR, if_neg h34, if_neg h92, if_neg hr]
      exact f4 t
theorem quR_m : ∀ (j : Nat) (r : List UInt8) (acc : List Int) (m : Nat) (c : Int), quR j r acc = .error (some m, c) → m ≤ r.length
  | 0, _, _, _, _, h => by cases h
  | j + 1, [], _, _, _, h => by cases h
  | j + 1, c :: r, acc, m, e, h => by
    unfold quR at h
    split at h
    · cases h
    split at h
    · split at h
      · cases h; simp
      · rename_i b n he
        have := quR_m j _ _ _ _ h
        rw [List.length_drop] at this
        omega
    split at h
    · cases h; simp
    · have := quR_m j _ _ _ _ h
      simp
      omega
theorem sign_all : ∀ n : _root_.Fin 256, isSign (UInt8.ofNat n.val) = true → n.val ≠ 10 ∧ n.val ≠ 35 ∧ ¬ blank n.val := by decide +kernel
theorem sign_ne {c : UInt8} (h : isSign c = true) : c.toNat ≠ 10 ∧ c.toNat ≠ 35 ∧ ¬ blank c.toNat := sign_all ⟨c.toNat, c.toNat_lt⟩ (by simpa using h)
/-- a word: its text, and what it says; whatever stands behind it -/
theorem tok_ok {r : List UInt8} {x : Tk} {n : Nat} (hl : r.length ≤ 65536) (h : tok r = .ok (x, n)) : 1 ≤ n ∧ n ≤ r.length ∧ (10 : UInt8) ∉ r.take n ∧ x.kind ≠ 7 ∧ stop x.kind (r.drop n) ∧ (∀ t, stop x.kind t → tok (r.take n ++ t) = .ok (x, n)) ∧ ∀ b, skL false (r.take n ++ b) = r.take n ++ b := by
  cases r with
  | nil => cases h
  | cons c r =>
    have hsk : ∀ m b, 1 ≤ m → c.toNat ≠ 35 → ¬ blank c.toNat → skL false ((c :: r).take m ++ b) = (c :: r).take m ++ b := by
      intro m b hm h1 h2
      obtain ⟨m, rfl⟩ : ∃ m', m = m' + 1 := ⟨m - 1, by omega⟩
      rw [List.take_succ_cons, List.cons_append, skL, if_neg h2, if_neg h1]
    have hcl : ∀ k, cls c.toNat = k → 1 ≤ k → c.toNat ≠ 35 ∧ ¬ blank c.toNat := by
      intro k h1 h2
      refine ⟨fun e => ?_, fun e => ?_⟩
      · rw [e] at h1; revert h1; unfold cls; simp; omega
      · rcases e with e | e | e | e <;> (rw [e] at h1; revert h1; unfold cls; simp; omega)
    simp only [tok] at h
    split at h
    · rename_i hc
      split at h
      · cases h
      rename_i h32
      cases h
      obtain ⟨p1, p2, p3⟩ := pl_some (c :: r)
      have hpl : 1 ≤ pl (c :: r) := by
        rw [pl_cons, if_pos]
        · omega
        · unfold al; rw [decide_eq_true_eq]; omega
      refine ⟨hpl, pl_le _, fun hm => al_ne (p1 _ hm) rfl, ?_, ?_, fun t ht => ?_, fun b => hsk _ b hpl ?_ ?_⟩
      · rcases hc with hc | hc <;> simp [hc]
      · unfold stop
        split
        · trivial
        · rename_i d t he
          refine ⟨fun _ => p2 d t he, fun hk => ?_⟩
          simp only at hk
          omega
      · have h1 := p3 t (by
          intro d t' he
          subst he
          exact ht.1 (by rcases hc with hc | hc <;> simp [hc]))
        obtain ⟨m, hm⟩ : ∃ m', pl (c :: r) = m' + 1 := ⟨pl (c :: r) - 1, by omega⟩
        rw [hm, List.take_succ_cons, List.cons_append] at h1 ⊢
        simp only [tok]
        rw [if_pos hc, h1, if_neg (by omega)]
      · rcases hc with hc | hc
        · exact (hcl 1 hc (by omega)).1
        · exact (hcl 2 hc (by omega)).1
      · rcases hc with hc | hc
        · exact (hcl 1 hc (by omega)).2
        · exact (hcl 2 hc (by omega)).2
    rename_i hc
    split at h
    · rename_i h3
      split at h
      · cases h
      rename_i m n' hn
      split at h
      · cases h
      rename_i h48
      cases h
      obtain ⟨w, r', e1, e2, e3, e4, e5⟩ := numR_some _ _ _ _ _ hn
      rw [Nat.zero_add] at e2
      have hw : 1 ≤ w.length := by
        cases w with
        | cons _ _ => simp
        | nil =>
          exfalso
          rw [List.nil_append] at e1
          exact e5 c r e1.symm h3
      have ht : (c :: r).take n = w := by rw [e1, e2, List.take_left]
      have hd : (c :: r).drop n = r' := by rw [e1, e2, List.drop_left]
      refine ⟨by omega, by rw [e1, List.length_append]; omega, by rw [ht]; exact mem10 e3, by simp, ?_, fun t hs => ?_, fun b => hsk _ b (by omega) (hcl 3 h3 (by omega)).1 (hcl 3 h3 (by omega)).2⟩
      · rw [hd]
        unfold stop
        split
        · trivial
        · rename_i d t
          exact ⟨fun hk => by simp at hk, fun _ => e5 d t rfl⟩
      · have h1 := e4 t (by
          intro d t' he
          subst he
          exact hs.2 rfl)
        rw [ht]
        cases w with
        | nil => simp at hw
        | cons c0 w =>
          obtain ⟨rfl, _⟩ := List.cons.inj e1
          rw [List.cons_append] at h1 ⊢
          simp only [tok]
          rw [if_neg hc, if_pos h3, h1]
          simp only
          rw [if_neg h48]
    rename_i h3
    split at h
    · rename_i h34
      split at h
      · cases h
      · cases h
      rename_i out r' hq
      cases h
      obtain ⟨w, e1, e2, e3, e4⟩ := quR_some _ _ _ _ _ hq
      have hlen : r.length + 1 - r'.length = w.length + 1 := by rw [e1, List.length_append]; omega
      rw [hlen]
      have ht : (c :: r).take (w.length + 1) = c :: w := by rw [e1, List.take_succ_cons, List.take_left]
      refine ⟨by omega, by rw [e1]; simp, ?_, by simp, ?_, fun t hs => ?_, fun b => hsk _ b (by omega) (by omega) (by unfold blank; omega)⟩
      · rw [ht]
        intro hm
        rcases List.mem_cons.1 hm with hm | hm
        · rw [← hm] at h34; revert h34; decide
        · exact e3 hm
      · unfold stop
        split
        · trivial
        · exact ⟨fun hk => by simp at hk, fun hk => by simp at hk⟩
      · rw [ht, List.cons_append]
        simp only [tok]
        rw [if_neg hc, if_neg h3, if_pos h34, e4 t]
        simp only
        rw [show (w ++ t).length + 1 - t.length = w.length + 1 by rw [List.length_append]; omega]
    rename_i h34
    split at h
    · rename_i h91
      split at h
      · cases h
      rename_i m hb
      split at h
      · cases h
      rename_i hcode
      cases h
      obtain ⟨b1, b2, b3⟩ := brk_some _ _ hb
      have hlen : ((c :: r).take (m + 1)).length = m + 1 := by rw [List.length_take, List.length_cons]; omega
      obtain ⟨_, p2⟩ := psP_ok (t := (c :: r).take (m + 1)) (by rw [hlen]; simp at hl; omega)
      refine ⟨by omega, by simp; omega, ?_, by simp, ?_, fun t hs => ?_, fun b => hsk _ b (by omega) (by omega) (by unfold blank; omega)⟩
      · rcases p2 with hf | ⟨_, hf⟩
        · exact absurd hf.1 hcode
        · intro hm
          obtain ⟨i, hi⟩ := List.mem_iff_getElem?.1 hm
          exact hf i (by omega) (List.getElem?_eq_some_iff.1 hi).1 hi
      · unfold stop
        split
        · trivial
        · exact ⟨fun hk => by simp at hk, fun hk => by simp at hk⟩
      · rw [List.take_succ_cons, List.cons_append]
        have e : (c :: (r.take m ++ t)).take (m + 1) = (c :: r).take (m + 1) := by
          rw [List.take_succ_cons, List.take_succ_cons, List.take_left' (by rw [List.length_take]; omega)]
        simp only [tok]
        rw [if_neg hc, if_neg h3, if_neg h34, if_pos h91, b3 t]
        simp only
        rw [e, if_neg hcode]
        rfl
    rename_i h91
    split at h
    · rename_i hs
      cases h
      obtain ⟨s1, s2, s3⟩ := sign_ne hs
      refine ⟨by omega, by simp, ?_, by simp, ?_, fun t _ => ?_, fun b => hsk _ b (by omega) s2 s3⟩
      · intro hm
        simp at hm
        rw [← hm] at s1
        exact s1 rfl
      · unfold stop
        split
        · trivial
        · exact ⟨fun hk => by simp at hk, fun hk => by simp at hk⟩
      · show tok (c :: t) = _
        simp only [tok]
        rw [if_neg hc, if_neg h3, if_neg h34, if_neg h91, if_pos hs]
    · cases h
theorem tok_err {r : List UInt8} {o e : Int} (hl : r.length ≤ 65536) (h : tok r = .error (o, e)) : e ≠ 0 ∧ 0 ≤ o ∧ o ≤ r.length := by
  cases r with
  | nil => cases h; decide
  | cons c r =>
    simp only [tok] at h
    split at h
    · split at h
      · cases h; exact ⟨by decide, by decide, by omega⟩
      · cases h
    split at h
    · split at h
      · cases h; exact ⟨by decide, by decide, by omega⟩
      split at h
      · cases h; exact ⟨by decide, by decide, by omega⟩
      · cases h
    split at h
    · split at h
      · cases h; exact ⟨by decide, by decide, by omega⟩
      · rename_i m e' hq
        cases h
        have h1 := quR_err _ _ _ _ _ hq
        have h2 := quR_m _ _ _ _ _ hq
        exact ⟨by omega, by omega, by simp only [List.length_cons]; omega⟩
      · cases h
    split at h
    · split at h
      · cases h; exact ⟨by decide, by decide, by omega⟩
      rename_i m hb
      obtain ⟨b1, b2, b3⟩ := brk_some _ _ hb
      have hlen : ((c :: r).take (m + 1)).length = m + 1 := by rw [List.length_take, List.length_cons]; omega
      obtain ⟨_, p2⟩ := psP_ok (t := (c :: r).take (m + 1)) (by rw [hlen]; simp at hl; omega)
      split at h
      · rename_i hcode
        cases h
        rcases p2 with hf | hf
        · refine ⟨hf.1, hf.2.1, ?_⟩
          have := hf.2.2
          rw [hlen] at this
          simp only [List.length_cons]
          omega
        · exact absurd hf.1 hcode
      · cases h
    split at h
    · cases h
    · cases h; exact ⟨by decide, by decide, by omega⟩
end Go.Vc
