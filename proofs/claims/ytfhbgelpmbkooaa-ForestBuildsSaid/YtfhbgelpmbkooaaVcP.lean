/-
  Deferred calls that recover; cuts of what reads as data; nil slices that are told apart.
-/
import Derived.Test.YtfhbgelpmbkooaaVcN
import Derived.RecoverIn
set_option linter.unusedVariables false
set_option linter.unusedSimpArgs false
namespace Go.Vc
open Go
section
variable {E : Env} {ops : Array Oper} {os : List Oper} {l : List (Nat × Value)} {H : List HB} {Φ : List (Value × Dc)} {N : SP} {Q : QS}
variable {ty : TypeId} {pos : String} {aft : Array Edge}
theorem pnokF {Xs : List (Nat × SP)} {R : SP} : PnOk ⟨Xs, R, fun _ _ _ => False⟩ := fun _ _ _ _ _ h => h.elim
end
section
variable {E : Env} {ops : Array Oper} {os : List Oper} {l : List (Nat × Value)} {H : List HB} {Φ : List (Value × Dc)} {N : SP} {Q : QS}
variable {ty : TypeId} {pos : String} {aft : Array Edge} {d : Nat}
theorem pure_sub {α : Type} {enc : α → List Dc} {w : World} {X : Nat → Prop} {a : Option Addr} {n c sz : Nat} {xs : List α} {p q : Nat} (h : PureC w X (.slice a n c) (.slice sz (xs.map enc))) (hp : p ≤ q) (hq : q ≤ xs.length) :
    PureC w X (.slice (if c = p then a else a.map (·.add (p * sz))) (q - p) (c - p)) (.slice sz (((xs.drop p).take (q - p)).map enc)) := by
  have hlen2 : (((xs.drop p).take (q - p)).map enc).length = q - p := by simp; omega
  by_cases h0 : q - p = 0
  · have : ((xs.drop p).take (q - p)).map enc = [] := List.eq_nil_of_length_eq_zero (by rw [hlen2]; exact h0)
    rw [h0] at this ⊢
    rw [this]
    exact .nil _ _ _
  · generalize hys : xs.map enc = ys at h
    have hyl : ys.length = xs.length := by rw [← hys]; simp
    cases h with
    | nil => simp only [List.length_nil] at hyl; omega
    | slice b o len cap sz xs' vs hlen hcap hX hb hsz hc he =>
      have hcp : ¬ c = p := by omega
      rw [if_neg hcp, Option.map_some, add_none]
      have hget : ∀ i (hi : i < (((xs.drop p).take (q - p)).map enc).length), (((xs.drop p).take (q - p)).map enc)[i] = ys[p + i]'(by rw [hlen2] at hi; omega) := by
        intro i hi
        subst hys
        simp
      refine .slice b (o + p * sz) (q - p) (c - p) sz _ (fun i j => vs (p + i) j) hlen2 (by omega) hX hb (fun e he' => ?_) (fun i j hi hj => ?_) (fun i j hi hj => ?_)
      · obtain ⟨i, hi, rfl⟩ := List.getElem_of_mem he'
        rw [hget i hi]
        exact hsz _ (List.getElem_mem _)
      · have := hc (p + i) j (by omega) hj
        rw [← this, Nat.add_mul]
        congr 2
        omega
      · have e := hget i hi
        have : ∀ (L : List Dc) (_ : (((xs.drop p).take (q - p)).map enc)[i] = L) (hj' : j < L.length), PureC w X (vs (p + i) j) L[j] → PureC w X (vs (p + i) j) ((((xs.drop p).take (q - p)).map enc)[i][j]) := by
          rintro L rfl hj' hh; exact hh
        exact this _ e (by rw [← e]; exact hj) (he (p + i) j _ _)
theorem o_cutS {α : Type} {enc : α → List Dc} {xs : List α} (j : Nat) {T e : TypeId} {sz bytes : Nat} {x : Operand} {a : Option Addr} {n c : Nat} {lo hi : Option Operand} {vlo vhi : Option Value} {p q : Int} (ht : slT E.P T = some (e, sz, bytes)) (hx : opv l x = some (.slice a n c))
    (hlo : opvO l lo = some vlo) (hhi : opvO l hi = some vhi) (hj : Φ[j]? = some (.slice a n c, .slice sz (xs.map enc))) (h1 : cutLo vlo = some p) (h2 : cutHi xs.length vhi = some q) (hok : okSub p q xs.length = true) (hd : Nat.blt d E.n = true)
    (h : ∀ a n c, WO E ops os ((d, .slice a n c) :: l) H ((.slice a n c, .slice sz ((sub xs p q).map enc)) :: Φ) N Q) : WO E ops (⟨some d, .slice T x lo hi none, ty, pos, aft, none⟩ :: os) l H Φ N Q := by
  refine o_step fun ac w hs => ?_
  obtain ⟨hu, inf, z, g2, g3, g4, g5, g6, g7⟩ := slT_parts ht
  have hp := hs.own.facts _ (List.mem_of_getElem? hj)
  have hn : n = xs.length ∧ n ≤ c := by
    have : ∀ ys, PureC w (fun b => E.X b ∨ b ∈ blks H) (.slice a n c) (.slice sz ys) → n = ys.length ∧ n ≤ c := by
      intro ys hh
      cases hh with
      | nil => exact ⟨rfl, Nat.zero_le _⟩
      | slice b o len cap sz xs' vs hlen hcap => exact ⟨hlen.symm, hcap⟩
    simpa using this _ hp
  obtain ⟨rfl, hnc⟩ := hn
  have hok' := hok
  simp only [okSub, Bool.and_eq_true, decide_eq_true_eq] at hok'
  have hr : (Instr.sliceAt T (.slice a xs.length c) vlo vhi none).run E.P w = .ok (.slice (if c = p.toNat then a else a.map (·.add (p.toNat * sz))) (q.toNat - p.toNat) (c - p.toNat)) w := by
    simp only [Instr.sliceAt, Sem.run_bind, run_underlying' hu, Result.andThen, Instr.slice]
    have hb := run_bounds (P := E.P) (isS := true) (cap := c) h1 h2 hok hnc w
    have hsz := run_sizeOf' (P := E.P) g2 w
    simp [hb, hsz, g4]
  refine ⟨_, w, ?_, h _ _ _ _ _ (St.putT ⟨hs.size, hs.defers, hs.tm, hs.own.addFact (pure_sub hp (by omega : p.toNat ≤ q.toNat) (by omega)), hs.frm, hs.base⟩ (blt_lt hd))⟩
  simp only [execOp, opv_eval hs hx, opvO_eval hs hlo, opvO_eval hs hhi, Option.map_none, Sem.run_bind, hr]
  rfl
end
end Go.Vc
