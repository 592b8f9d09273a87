/-
  Grammars as arguments.
-/
import Derived.Test.YtncbbbjakbaojaaDoorRowT
import Derived.Test.YtncbbbjakbaojaaDoorTG
set_option linter.unusedVariables false
set_option linter.unusedSimpArgs false
set_option maxRecDepth 8000
namespace Go.Proofs.YtncbbbjakbaojaaDoor
open Go.ChangeShapes Go.WideShapes Go.ChangeAt Go.RowKit Go.Vc Go.Proofs
def gramTypes : List TypeId := [24, 22, 52, 50, 90, 88, 86, 3]
theorem gram_closed : closedB Tryd.prog gramTypes = true := by kernel_rfl
theorem okW_wf {m : Int} (h : (Lit.int .u64 m).wf = true) : okW m := by
  have h2 : IntKind.u64.min ≤ m ∧ m ≤ IntKind.u64.max := by simpa [Lit.wf] using h
  have e1 : IntKind.u64.min = 0 := by decide
  have e2 : IntKind.u64.max = 18446744073709551615 := by decide
  rw [e1, e2] at h2
  exact ⟨h2.1, by omega⟩
theorem fits_set {n : Nat} {ds : List Dc} (h : Fits Tryd.prog n 88 ds) : ∃ s : S4, ds = [.int .u64 s.w0, .int .u64 s.w1, .int .u64 s.w2, .int .u64 s.w3] ∧ okS s := by
  cases n with
  | zero => exact h.elim
  | succ n =>
    unfold Fits at h
    rw [Tryd.underlying88] at h
    obtain ⟨parts, rfl, hl, hp⟩ := h
    match parts, hl with
    | [a, b, c, d], _ =>
      obtain ⟨x, rfl, hx⟩ := fits_int Tryd.underlying86 (hp a (by simp))
      obtain ⟨y, rfl, hy⟩ := fits_int Tryd.underlying86 (hp b (by simp))
      obtain ⟨z, rfl, hz⟩ := fits_int Tryd.underlying86 (hp c (by simp))
      obtain ⟨u, rfl, hu⟩ := fits_int Tryd.underlying86 (hp d (by simp))
      exact ⟨⟨x, y, z, u⟩, rfl, okW_wf hx, okW_wf hy, okW_wf hz, okW_wf hu⟩
theorem fits_ksym {n : Nat} (ds : List Dc) (h : Fits Tryd.prog n 90 ds) : ∃ s : KSym, ds = eKSym s ∧ i64b s.Nt ∧ okS s.Set := by
  cases n with
  | zero => exact h.elim
  | succ n =>
    unfold Fits at h
    rw [Tryd.underlying90] at h
    obtain ⟨parts, rfl, hl, hp⟩ := h
    match parts, hl with
    | [a, b], _ =>
      obtain ⟨x, rfl, hx⟩ := fits_int Tryd.underlying3 (hp 0 _ a rfl rfl)
      obtain ⟨s, rfl, hs⟩ := fits_set (hp 1 _ b rfl rfl)
      exact ⟨⟨x, s⟩, rfl, i64_wf hx, hs⟩
theorem cells90 : Tryd.prog.cellsOf 90 = 5 := by kernel_rfl
theorem cells52 : Tryd.prog.cellsOf 52 = 2 := by kernel_rfl
theorem fits_ksyms {n : Nat} {ds : List Dc} (h : Fits Tryd.prog n 50 ds) : ∃ l : List KSym, ds = [.slice 5 (l.map eKSym)] ∧ l.length ≤ maxLen ∧ ∀ s ∈ l, i64b s.Nt ∧ okS s.Set := by
  cases n with
  | zero => exact h.elim
  | succ n =>
    unfold Fits at h
    rw [Tryd.underlying50] at h
    obtain ⟨xs, rfl, hxl, hxs⟩ := h
    obtain ⟨l, rfl, hl⟩ := fits_list (ok := fun s : KSym => i64b s.Nt ∧ okS s.Set) fits_ksym hxs
    refine ⟨l, ?_, by simpa using hxl, hl⟩
    rw [cells90]
theorem fits_rule {n : Nat} (ds : List Dc) (h : Fits Tryd.prog n 52 ds) : ∃ r : Vc.Rule, ds = eRule r ∧ i64b r.Lhs ∧ r.Rhs.length ≤ maxLen ∧ ∀ s ∈ r.Rhs, i64b s.Nt ∧ okS s.Set := by
  cases n with
  | zero => exact h.elim
  | succ n =>
    unfold Fits at h
    rw [Tryd.underlying52] at h
    obtain ⟨parts, rfl, hl, hp⟩ := h
    match parts, hl with
    | [a, b], _ =>
      obtain ⟨x, rfl, hx⟩ := fits_int Tryd.underlying3 (hp 0 _ a rfl rfl)
      obtain ⟨l, rfl, h1, h2⟩ := fits_ksyms (hp 1 _ b rfl rfl)
      exact ⟨⟨x, l⟩, rfl, i64_wf hx, h1, h2⟩
theorem fits_rules {n : Nat} {ds : List Dc} (h : Fits Tryd.prog n 22 ds) : ∃ l : List Vc.Rule, ds = [.slice 2 (l.map eRule)] ∧ l.length ≤ maxLen ∧ ∀ r ∈ l, i64b r.Lhs ∧ r.Rhs.length ≤ maxLen ∧ ∀ s ∈ r.Rhs, i64b s.Nt ∧ okS s.Set := by
  cases n with
  | zero => exact h.elim
  | succ n =>
    unfold Fits at h
    rw [Tryd.underlying22] at h
    obtain ⟨xs, rfl, hxl, hxs⟩ := h
    obtain ⟨l, rfl, hl⟩ := fits_list (ok := fun r : Vc.Rule => i64b r.Lhs ∧ r.Rhs.length ≤ maxLen ∧ ∀ s ∈ r.Rhs, i64b s.Nt ∧ okS s.Set) fits_rule hxs
    refine ⟨l, ?_, by simpa using hxl, hl⟩
    rw [cells52]
theorem fits_gram {n : Nat} {ds : List Dc} (h : Fits Tryd.prog n 24 ds) : ∃ g : Gram, ds = eGram g ∧ okG g := by
  cases n with
  | zero => exact h.elim
  | succ n =>
    unfold Fits at h
    rw [Tryd.underlying24] at h
    obtain ⟨parts, rfl, hl, hp⟩ := h
    match parts, hl with
    | [a, b, c], _ =>
      obtain ⟨x, rfl, hx⟩ := fits_int Tryd.underlying3 (hp 0 _ a rfl rfl)
      obtain ⟨y, rfl, hy⟩ := fits_int Tryd.underlying3 (hp 1 _ b rfl rfl)
      obtain ⟨l, rfl, h1, h2⟩ := fits_rules (hp 2 _ c rfl rfl)
      exact ⟨⟨x, y, l⟩, rfl, i64_wf hx, i64_wf hy, h1, h2⟩
theorem arg_gram {H : Type} {enc : TypeId × Value → H} {w : World} {base : Nat} {v : Value} {d : DataW H} {ps : List MemPlace} (ho : Value.okWide Tryd.prog w .any base 24 v) (h : DataW.Trod enc Tryd.prog w 0 (fun _ => true) true 24 v d ps) :
    ∃ (g : Gram) (a : Option Addr) (n c : Nat), v = .agg #[.int .i64 g.Nts, .int .i64 g.Start, .slice a n c] ∧ okG g ∧ PureC w (fun _ => False) (.slice a n c) (.slice 2 (g.Rules.map eRule)) := by
  obtain ⟨cs, rfl⟩ := agg_struct Tryd.underlying24 ho
  obtain ⟨fuel, ds, hp, hf⟩ := args_ok gram_closed (by decide) h
  obtain ⟨g, rfl, hok⟩ := fits_gram hf
  unfold eGram at hp
  have e : (Value.agg cs).cells.toList = cs.toList := rfl
  rw [e] at hp
  generalize hcs : cs.toList = l at hp
  cases hp with
  | cons h1 hp => cases hp with
    | cons h2 hp => cases hp with
      | cons h3 hp =>
        cases hp
        cases h1; cases h2
        obtain ⟨a, n, c, rfl⟩ := pure_slice h3
        refine ⟨g, a, n, c, ?_, hok, h3⟩
        rw [← hcs]
end Go.Proofs.YtncbbbjakbaojaaDoor
