/-
  The program's way to count, plain: what is known stands beside; it comes to the number of trees.
-/
import Derived.Test.YtfhbgelpmbkooaaGJ
set_option linter.unusedVariables false
set_option linter.unusedSimpArgs false
namespace Go.Vc.Ea
variable {R : List Ru}
inductive Qu where
  | c (a i j : Nat)
  | r (q d i j : Nat)
  deriving DecidableEq
abbrev Kn := List (Qu × Nat)
def known (st : Kn) (x : Qu) : Option Nat := (st.find? fun p => p.1 == x).map fun p => p.2
def sumC (g : Qu → Kn → Option (Nat × Kn)) (R : List Ru) (i j : Nat) : List Nat → Nat → Kn → Option (Nat × Kn)
  | [], n, st => some (n, st)
  | q :: qs, n, st => match g (.r q ((R[q]?.map fun r => r.rhs.length).getD 0) i j) st with
    | none => none
    | some (m, st') => sumC g R i j qs (sat (n + m)) st'
def symB (has : Nat → Nat → Nat → Bool) (s : Sy) (m j : Nat) : Bool := match s with
  | .tm p => decide (j = m + 1) && p m
  | .nt a => has a m j
def sumR (g : Qu → Kn → Option (Nat × Kn)) (has : Nat → Nat → Nat → Bool) (s : Sy) (q d i j : Nat) : List Nat → Nat → Kn → Option (Nat × Kn)
  | [], n, st => some (n, st)
  | m :: ms, n, st => if symB has s m j = false then sumR g has s q d i j ms n st else match g (.r q d i m) st with
    | none => none
    | some (left, st1) => if left = 0 then sumR g has s q d i j ms n st1 else match s with
      | .tm _ => sumR g has s q d i j ms (sat (n + sat (left * 1))) st1
      | .nt a => match g (.c a m j) st1 with
        | none => none
        | some (kid, st2) => sumR g has s q d i j ms (sat (n + sat (left * kid))) st2
def ask (R : List Ru) (by_ : Nat → List Nat) (has : Nat → Nat → Nat → Bool) : Nat → Qu → Kn → Option (Nat × Kn)
  | 0, _, _ => none
  | k + 1, .c a i j, st => if has a i j = false then some (0, st) else match known st (.c a i j) with
    | some n => some (n, st)
    | none => match sumC (ask R by_ has k) R i j (by_ a) 0 st with
      | none => none
      | some (n, st') => some (n, (.c a i j, n) :: st')
  | k + 1, .r q d i j, st => if d = 0 then some (if i = j then 1 else 0, st) else match known st (.r q d i j) with
    | some n => some (n, st)
    | none => match R[q]? with
      | none => none
      | some r => match r.rhs[d - 1]? with
        | none => none
        | some s => match sumR (ask R by_ has k) has s q (d - 1) i j (List.range' i (j + 1 - i)) 0 st with
          | none => none
          | some (n, st') => some (n, (.r q d i j, n) :: st')
section
variable (R) (ρ : Nat → Nat) (K : Nat)
def ans : Qu → Nat
  | .c a i j => sat (trees R ρ K a i j).length
  | .r q d i j => sat (rowsL (trees R ρ K) (((R[q]?.map fun r => r.rhs).getD []).take d) i j).length
def KnOk (st : Kn) : Prop := ∀ p ∈ st, p.2 = ans R ρ K p.1
end
theorem known_ok {ρ : Nat → Nat} {K : Nat} {st : Kn} (h : KnOk R ρ K st) {x : Qu} {n : Nat} (e : known st x = some n) : n = ans R ρ K x := by
  unfold known at e
  cases hf : st.find? fun p => p.1 == x with
  | none => rw [hf] at e; cases e
  | some p =>
    rw [hf] at e
    simp only [Option.map_some, Option.some.injEq] at e
    have h1 := List.mem_of_find?_eq_some hf
    have h2 := List.find?_some hf
    simp only [beq_iff_eq] at h2
    rw [← e, h p h1, h2]
def Fits (R : List Ru) (ρ : Nat → Nat) (K W n μ : Nat) : Qu → Prop
  | .c a i j => i ≤ j ∧ j ≤ n ∧ rk ρ K a i j * W + (W - 1) ≤ μ
  | .r q d i j' => ∃ r j, R[q]? = some r ∧ d ≤ r.rhs.length ∧ j ≤ n ∧ Der R (r.rhs.drop d) j' j ∧ i ≤ j ∧ rk ρ K r.lhs i j * W + d ≤ μ
theorem symB_iff {has : Nat → Nat → Nat → Bool} {n : Nat} (hhas : ∀ a i j, j ≤ n → (has a i j = true ↔ DerY R (.nt a) i j)) {s : Sy} {m j : Nat} (hj : j ≤ n) : symB has s m j = false ↔ ¬ DerY R s m j := by
  unfold symB
  cases s with
  | tm p => rw [derY_tm]; simp
  | nt a =>
    have := hhas a m j hj
    rw [← this]
    simp
theorem ask_ok {by_ : Nat → List Nat} {has : Nat → Nat → Nat → Bool} {ρ : Nat → Nat} {K W n : Nat} (hρ : Falls R ρ K) (hby : ∀ a, by_ a = (R.zipIdx.filter fun x => x.1.lhs == a).map fun x => x.2) (hhas : ∀ a i j, j ≤ n → (has a i j = true ↔ DerY R (.nt a) i j)) (hW : ∀ r ∈ R, r.rhs.length + 2 ≤ W) :
    ∀ (k μ : Nat) (x : Qu) (st : Kn), μ < k → Fits R ρ K W n μ x → KnOk R ρ K st → ∃ st', ask R by_ has k x st = some (ans R ρ K x, st') ∧ KnOk R ρ K st' := by
  intro k
  induction k with
  | zero => intro μ x st h; omega
  | succ k ih =>
    intro μ x st hμ hx hst
    cases x with
    | c a i j =>
      obtain ⟨_, hj, hrk⟩ := hx
      unfold ask
      by_cases hh : has a i j = false
      · rw [if_pos hh]
        have : trees R ρ K a i j = [] := Classical.byContradiction fun hn => by
          have := (hhas a i j hj).2 ((trees_some hρ).1 hn)
          rw [hh] at this
          cases this
        refine ⟨st, ?_, hst⟩
        show some (0, st) = some (sat (trees R ρ K a i j).length, st)
        rw [this]
        rfl
      · rw [if_neg hh]
        have hder := (hhas a i j hj).1 (by simpa using hh)
        have hij : i ≤ j := Der.le hder
        cases hk : known st (.c a i j) with
        | some m => exact ⟨st, by rw [known_ok hst hk], hst⟩
        | none =>
          simp only
          have key : ∀ (xs : List (Ru × Nat)) (m : Nat) (st : Kn), (∀ x ∈ xs, x ∈ R.zipIdx ∧ x.1.lhs = a) → KnOk R ρ K st → ∃ st', sumC (ask R by_ has k) R i j (xs.map fun x => x.2) (sat m) st = some (sat (m + (xs.map fun x => (rowsL (trees R ρ K) x.1.rhs i j).length).sum), st') ∧ KnOk R ρ K st' := by
            intro xs
            induction xs with
            | nil => intro m st _ hs; exact ⟨st, by simp [sumC], hs⟩
            | cons x xs ihx =>
              intro m st hxs hs
              obtain ⟨hz, hl⟩ := hxs x List.mem_cons_self
              have hq : R[x.2]? = some x.1 := List.mem_zipIdx_iff_getElem?.1 hz
              have hr : x.1 ∈ R := List.mem_of_getElem? hq
              have hw := hW x.1 hr
              obtain ⟨st1, e1, h1⟩ := ih (rk ρ K a i j * W + x.1.rhs.length) (.r x.2 x.1.rhs.length i j) st (by omega) ⟨x.1, j, hq, Nat.le_refl _, hj, by rw [List.drop_length]; exact .nil j, hij, by rw [hl]; exact Nat.le_refl _⟩ hs
              obtain ⟨st2, e2, h2⟩ := ihx (m + (rowsL (trees R ρ K) x.1.rhs i j).length) st1 (fun y hy => hxs y (List.mem_cons_of_mem _ hy)) h1
              refine ⟨st2, ?_, h2⟩
              rw [List.map_cons, List.map_cons, List.sum_cons]
              unfold sumC
              rw [hq]
              simp only [Option.map_some, Option.getD_some]
              rw [e1]
              simp only [ans, hq, Option.map_some, Option.getD_some, List.take_length]
              rw [sat_add, e2, Nat.add_assoc]
          obtain ⟨st', e, h'⟩ := key (R.zipIdx.filter fun x => x.1.lhs == a) 0 st (fun x hx => by
            rw [List.mem_filter] at hx
            exact ⟨hx.1, by simpa using hx.2⟩) hst
          rw [hby a]
          have e0 : sat 0 = 0 := rfl
          rw [e0] at e
          rw [e]
          have hval : sat (0 + ((R.zipIdx.filter fun x => x.1.lhs == a).map fun x => (rowsL (trees R ρ K) x.1.rhs i j).length).sum) = ans R ρ K (.c a i j) := by
            show _ = sat (trees R ρ K a i j).length
            rw [count_trees hρ, Nat.zero_add]
            congr 1
            generalize R.zipIdx = zs
            induction zs with
            | nil => rfl
            | cons z zs ihz =>
              rw [List.map_cons, List.sum_cons, List.filter_cons]
              by_cases hz : z.1.lhs = a
              · rw [if_pos (by simpa using hz), if_pos hz, List.map_cons, List.sum_cons, ihz]
              · rw [if_neg (by simpa using hz), if_neg hz, ihz, Nat.zero_add]
          rw [hval]
          exact ⟨_, rfl, fun p hp => by
            rcases List.mem_cons.1 hp with rfl | hp
            · rfl
            · exact h' p hp⟩
    | r q d i j' =>
      obtain ⟨r, j, hq, hd, hj, hder, hij, hrk⟩ := hx
      have hr : r ∈ R := List.mem_of_getElem? hq
      have hw := hW r hr
      have hj'j := hder.le
      unfold ask
      by_cases h0 : d = 0
      · rw [if_pos h0]
        refine ⟨st, ?_, hst⟩
        show some (if i = j' then 1 else 0, st) = some (sat (rowsL (trees R ρ K) (((R[q]?.map fun r => r.rhs).getD []).take d) i j').length, st)
        rw [h0, List.take_zero, rowsL_nil]
        split <;> rfl
      · rw [if_neg h0]
        cases hk : known st (.r q d i j') with
        | some m => exact ⟨st, by rw [known_ok hst hk], hst⟩
        | none =>
          obtain ⟨d, rfl⟩ : ∃ d', d = d' + 1 := ⟨d - 1, by omega⟩
          simp only [Nat.add_sub_cancel]
          rw [hq]
          have hdl : d < r.rhs.length := hd
          have hget : r.rhs[d]? = some r.rhs[d] := List.getElem?_eq_getElem hdl
          simp only [hget]
          generalize hs : r.rhs[d] = s at *
          have hdrop : r.rhs.drop d = s :: r.rhs.drop (d + 1) := by rw [List.drop_eq_getElem_cons hdl, hs]
          have key : ∀ (ms : List Nat) (m0 : Nat) (st : Kn), (∀ m ∈ ms, i ≤ m ∧ m ≤ j') → KnOk R ρ K st → ∃ st', sumR (ask R by_ has k) has s q d i j' ms (sat m0) st = some (sat (m0 + (ms.map fun m => (rowsL (trees R ρ K) (r.rhs.take d) i m).length * (symL (trees R ρ K) s m j').length).sum), st') ∧ KnOk R ρ K st' := by
            intro ms
            induction ms with
            | nil => intro m0 st _ hs; exact ⟨st, by simp [sumR], hs⟩
            | cons m ms ihm =>
              intro m0 st hms hst
              obtain ⟨hm1, hm2⟩ := hms m List.mem_cons_self
              have hms' : ∀ x ∈ ms, i ≤ x ∧ x ≤ j' := fun x hx => hms x (List.mem_cons_of_mem _ hx)
              rw [List.map_cons, List.sum_cons]
              unfold sumR
              have hsym := symB_iff hhas (s := s) (m := m) (j := j') (by omega)
              by_cases hy : DerY R s m j'
              · rw [if_neg (fun h => hsym.1 h hy)]
                have hd2 : Der R (r.rhs.drop d) m j := by rw [hdrop]; exact der_cons.2 ⟨j', hy, hder⟩
                obtain ⟨st1, e1, h1⟩ := ih (rk ρ K r.lhs i j * W + d) (.r q d i m) st (by omega) ⟨r, j, hq, by omega, hj, hd2, hij, Nat.le_refl _⟩ hst
                rw [e1]
                simp only [ans, hq, Option.map_some, Option.getD_some]
                by_cases hz : (rowsL (trees R ρ K) (r.rhs.take d) i m).length = 0
                · rw [hz, if_pos (show sat 0 = 0 from rfl), Nat.zero_mul, Nat.zero_add]
                  exact ihm m0 st1 hms' h1
                · rw [if_neg (fun h => hz (sat_zero_iff.1 h))]
                  have hleft : Der R (r.rhs.take d) i m := rowsL_fair (trees_fair ρ K) _ (fun e => hz (by rw [e]; rfl))
                  cases s with
                  | tm p =>
                    simp only
                    obtain ⟨hjm, hp⟩ := derY_tm.1 hy
                    have hone : (symL (trees R ρ K) (.tm p) m j').length = 1 := by
                      unfold symL
                      simp only
                      rw [if_pos ⟨hjm, hp⟩]
                      rfl
                    obtain ⟨st2, e2, h2⟩ := ihm (m0 + (rowsL (trees R ρ K) (r.rhs.take d) i m).length * 1) st1 hms' h1
                    refine ⟨st2, ?_, h2⟩
                    have ea : sat (sat m0 + sat (sat (rowsL (trees R ρ K) (r.rhs.take d) i m).length * 1)) = sat (m0 + (rowsL (trees R ρ K) (r.rhs.take d) i m).length * 1) := by
                      rw [Nat.mul_one, Nat.mul_one, sat_of_le (sat_le _), sat_add]
                    rw [hone, ea, e2, Nat.add_assoc]
                  | nt a =>
                    simp only
                    have hsplit : r.rhs = r.rhs.take d ++ .nt a :: r.rhs.drop (d + 1) := by rw [← hdrop, List.take_append_drop]
                    have hlt := rk_lt hρ hr hsplit hleft hy hder
                    have hmul : (rk ρ K a m j' + 1) * W ≤ rk ρ K r.lhs i j * W := Nat.mul_le_mul_right _ hlt
                    rw [Nat.add_mul] at hmul
                    obtain ⟨st2, e2, h2⟩ := ih (rk ρ K a m j' * W + (W - 1)) (.c a m j') st1 (by omega) ⟨hm2, by omega, Nat.le_refl _⟩ h1
                    rw [e2]
                    simp only [ans]
                    obtain ⟨st3, e3, h3⟩ := ihm (m0 + (rowsL (trees R ρ K) (r.rhs.take d) i m).length * (trees R ρ K a m j').length) st2 hms' h2
                    refine ⟨st3, ?_, h3⟩
                    rw [sat_mul, sat_add, e3, Nat.add_assoc]
                    rfl
              · rw [if_pos (hsym.2 hy), symL_none (trees_fair ρ K) hy, Nat.mul_zero, Nat.zero_add]
                exact ihm m0 st hms' hst
          obtain ⟨st', e, h'⟩ := key (List.range' i (j' + 1 - i)) 0 st (fun m hm => by rw [List.mem_range'_1] at hm; omega) hst
          have e0 : sat 0 = 0 := rfl
          rw [e0] at e
          rw [e]
          have hval : sat (0 + ((List.range' i (j' + 1 - i)).map fun m => (rowsL (trees R ρ K) (r.rhs.take d) i m).length * (symL (trees R ρ K) s m j').length).sum) = ans R ρ K (.r q (d + 1) i j') := by
            show _ = sat (rowsL (trees R ρ K) (((R[q]?.map fun r => r.rhs).getD []).take (d + 1)) i j').length
            rw [hq]
            simp only [Option.map_some, Option.getD_some]
            rw [take_get (show r.rhs[d]? = some s by rw [hget]), count_snoc, Nat.zero_add]
          rw [hval]
          exact ⟨_, rfl, fun p hp => by
            rcases List.mem_cons.1 hp with rfl | hp
            · rfl
            · exact h' p hp⟩
end Go.Vc.Ea
