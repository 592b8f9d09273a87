/-
  What the rows of forests share: arguments.
-/
import Derived.Test.YtfhbgelpmbkooaaRows
import Derived.Test.YtfhbgelpmbkooaaVM
import Derived.Test.YtfhbgelpmbkooaaFV
import Derived.Test.YtfhbgelpmbkooaaFS
set_option linter.unusedVariables false
set_option linter.unusedSimpArgs false
set_option maxRecDepth 8000
namespace Go.Proofs.Ytfhbgelpmbkooaa
open Go.ChangeShapes Go.WideShapes Go.ChangeAt Go.RowKit Go.Vc Go.Proofs
theorem own_knob : ownKnob Try.prog.godebug = none := by kernel_rfl
theorem laid_out : laidOutB Try.prog = true := by kernel_rfl
def argTypes : List TypeId := [24, 22, 50, 48, 47, 45, 43, 25, 5, 3]
theorem arg_closed : closedB Try.prog argTypes = true := by kernel_rfl
theorem fits_int {n : Nat} {t : TypeId} {k : IntKind} {ds : List Dc} (hu : Try.prog.underlying t = some (.int k)) (h : Fits Try.prog n t ds) : ∃ m, ds = [.int k m] ∧ (Lit.int k m).wf = true := by
  cases n with
  | zero => exact h.elim
  | succ n =>
    unfold Fits at h
    rw [hu] at h
    exact h
theorem fits_list {α : Type} {n : Nat} {e : TypeId} {enc : α → List Dc} {ok : α → Prop} (hf : ∀ ds, Fits Try.prog n e ds → ∃ x, ds = enc x ∧ ok x) {xs : List (List Dc)} (h : ∀ x ∈ xs, Fits Try.prog n e x) : ∃ l : List α, xs = l.map enc ∧ ∀ x ∈ l, ok x := by
  induction xs with
  | nil => exact ⟨[], rfl, fun _ h => by cases h⟩
  | cons x xs ih =>
    obtain ⟨l, rfl, hl⟩ := ih (fun y hy => h y (List.mem_cons_of_mem _ hy))
    obtain ⟨m, rfl, hm⟩ := hf _ (h x List.mem_cons_self)
    refine ⟨m :: l, rfl, fun y hy => ?_⟩
    rcases List.mem_cons.1 hy with rfl | hy
    · exact hm
    · exact hl y hy
theorem fits_slice {α : Type} {t e : TypeId} {enc : α → List Dc} {ok : α → Prop} {m b : Nat} (hu : Try.prog.underlying t = some (.slice e)) (hc : Try.prog.cellsOf e = m) (hb : Try.prog.bytesOf e = b) (hf : ∀ n ds, Fits Try.prog n e ds → ∃ x, ds = enc x ∧ ok x) {n : Nat} {ds : List Dc} (h : Fits Try.prog n t ds) :
    ∃ l : List α, ds = [.slice m (l.map enc)] ∧ l.length * b ≤ reachBytes ∧ ∀ x ∈ l, ok x := by
  cases n with
  | zero => exact h.elim
  | succ n =>
    unfold Fits at h
    rw [hu] at h
    obtain ⟨xs, rfl, _, hl, hx⟩ := h
    obtain ⟨l, rfl, hok⟩ := fits_list (hf n) hx
    refine ⟨l, by rw [hc], ?_, hok⟩
    rw [hb] at hl
    simpa using hl
theorem w_wf {m : Int} (h : (Lit.int .u64 m).wf = true) : okW m := by
  have h2 : IntKind.u64.min ≤ m ∧ m ≤ IntKind.u64.max := by simpa [Lit.wf] using h
  have e1 : IntKind.u64.min = 0 := by decide
  have e2 : IntKind.u64.max = 18446744073709551615 := by decide
  rw [e1, e2] at h2
  exact ⟨h2.1, by omega⟩
theorem fits_set {n : Nat} {ds : List Dc} (h : Fits Try.prog n 45 ds) : ∃ s : S4, ds = [.int .u64 s.w0, .int .u64 s.w1, .int .u64 s.w2, .int .u64 s.w3] ∧ okS s := by
  cases n with
  | zero => exact h.elim
  | succ n =>
    unfold Fits at h
    rw [Try.underlying45] at h
    obtain ⟨parts, rfl, hl, hp⟩ := h
    match parts, hl with
    | [a, b, c, d], _ =>
      obtain ⟨x, rfl, hx⟩ := fits_int Try.underlying43 (hp a (by simp))
      obtain ⟨y, rfl, hy⟩ := fits_int Try.underlying43 (hp b (by simp))
      obtain ⟨z, rfl, hz⟩ := fits_int Try.underlying43 (hp c (by simp))
      obtain ⟨u, rfl, hu⟩ := fits_int Try.underlying43 (hp d (by simp))
      exact ⟨⟨x, y, z, u⟩, rfl, w_wf hx, w_wf hy, w_wf hz, w_wf hu⟩
theorem fits_sym (n : Nat) (ds : List Dc) (h : Fits Try.prog n 47 ds) : ∃ s : KSym, ds = eKSym s ∧ okS s.Set := by
  cases n with
  | zero => exact h.elim
  | succ n =>
    unfold Fits at h
    rw [Try.underlying47] at h
    obtain ⟨parts, rfl, hl, hp⟩ := h
    match parts, hl with
    | [a, b], _ =>
      obtain ⟨x, rfl, _⟩ := fits_int Try.underlying3 (hp 0 _ a rfl rfl)
      obtain ⟨z, rfl, hz⟩ := fits_set (hp 1 _ b rfl rfl)
      exact ⟨⟨x, z⟩, rfl, hz⟩
theorem cells47 : Try.prog.cellsOf 47 = 5 := by kernel_rfl
theorem cells50 : Try.prog.cellsOf 50 = 2 := by kernel_rfl
theorem cells5 : Try.prog.cellsOf 5 = 1 := by kernel_rfl
theorem fits_rule (n : Nat) (ds : List Dc) (h : Fits Try.prog n 50 ds) : ∃ r : Rule, ds = eRule r ∧ r.Rhs.length * 40 ≤ reachBytes ∧ ∀ s ∈ r.Rhs, okS s.Set := by
  cases n with
  | zero => exact h.elim
  | succ n =>
    unfold Fits at h
    rw [Try.underlying50] at h
    obtain ⟨parts, rfl, hl, hp⟩ := h
    match parts, hl with
    | [a, b], _ =>
      obtain ⟨x, rfl, _⟩ := fits_int Try.underlying3 (hp 0 _ a rfl rfl)
      obtain ⟨v, rfl, hv, hs⟩ := fits_slice Try.underlying48 cells47 (b := 40) (by kernel_rfl) fits_sym (hp 1 _ b rfl rfl)
      exact ⟨⟨x, v⟩, rfl, hv, hs⟩
theorem i_wf {m : Int} (h : (Lit.int .i64 m).wf = true) : -9223372036854775808 ≤ m := by
  have h2 : IntKind.i64.min ≤ m ∧ m ≤ IntKind.i64.max := by simpa [Lit.wf] using h
  have e1 : IntKind.i64.min = -9223372036854775808 := by decide
  rw [e1] at h2
  exact h2.1
theorem b_wf {m : Int} (h : (Lit.int .u8 m).wf = true) : 0 ≤ m ∧ m < 256 := by
  have h2 : IntKind.u8.min ≤ m ∧ m ≤ IntKind.u8.max := by simpa [Lit.wf] using h
  have e1 : IntKind.u8.min = 0 := by decide
  have e2 : IntKind.u8.max = 255 := by decide
  rw [e1, e2] at h2
  exact ⟨h2.1, by omega⟩
theorem fits_gram {n : Nat} {ds : List Dc} (h : Fits Try.prog n 24 ds) : ∃ g : Gram, ds = eGram g ∧ ReachG g ∧ WordsG g := by
  cases n with
  | zero => exact h.elim
  | succ n =>
    unfold Fits at h
    rw [Try.underlying24] at h
    obtain ⟨parts, rfl, hl, hp⟩ := h
    match parts, hl with
    | [a, b, c], _ =>
      obtain ⟨x, rfl, hx⟩ := fits_int Try.underlying3 (hp 0 _ a rfl rfl)
      obtain ⟨y, rfl, _⟩ := fits_int Try.underlying3 (hp 1 _ b rfl rfl)
      obtain ⟨v, rfl, hv, hr⟩ := fits_slice Try.underlying22 cells50 (b := 32) (by kernel_rfl) fits_rule (hp 2 _ c rfl rfl)
      have er : reachBytes = 140737488351232 := rfl
      exact ⟨⟨x, y, v⟩, rfl, ⟨i_wf hx, by show v.length * 32 ≤ _; omega, fun r hr' => by have := (hr r hr').1; omega⟩, fun r hr' => (hr r hr').2⟩
theorem fits_byte (n : Nat) (ds : List Dc) (h : Fits Try.prog n 5 ds) : ∃ b : Int, ds = eU8 b ∧ (0 ≤ b ∧ b < 256) := by
  obtain ⟨m, rfl, hm⟩ := fits_int Try.underlying5 h
  exact ⟨m, rfl, b_wf hm⟩
theorem agg_struct {P : Program} {w : World} {r : Reach} {base : Nat} {t : TypeId} {v : Value} {fs : Array Field} (hu : P.underlying t = some (.struct fs)) (h : Value.okWide P w r base t v) : ∃ cs, v = .agg cs := by
  unfold Value.okWide at h
  rw [hu] at h
  obtain ⟨cs, rfl, _⟩ := h
  exact ⟨cs, rfl⟩
theorem pure_slice {w : World} {X : Nat → Prop} {v : Value} {sz : Nat} {xs : List (List Dc)} (h : PureC w X v (.slice sz xs)) : ∃ a n c, v = .slice a n c := by
  cases h <;> exact ⟨_, _, _, rfl⟩
theorem pures_one {w : World} {X : Nat → Prop} {cs : List Value} {d : Dc} (h : Pures w X cs [d]) : ∃ v, cs = [v] ∧ PureC w X v d := by
  cases h with
  | cons h1 h =>
    cases h
    exact ⟨_, rfl, h1⟩
theorem sized_at {H : Type} {ts : List TypeId} {ds : List (DataW H)} (h : (DataW.weightsEach Try.prog ts ds).all (· ≤ reachBytes) = true) {j : Nat} {t : TypeId} {d : DataW H} (ht : ts[j]? = some t) (hd : ds[j]? = some d) : ∀ n ∈ d.weights Try.prog t, n ≤ reachBytes := fun n hn => by
  have := List.all_eq_true.1 h n (DataW.weights_mem_each ht hd n hn)
  simpa using this
theorem arg_gram {H : Type} {enc : TypeId × Value → H} {w : World} {base : Nat} {v : Value} {d : DataW H} {ps : List MemPlace} (ho : Value.okWide Try.prog w .any base 24 v) (h : DataW.Trod enc Try.prog w 0 (fun _ => true) true 24 v d ps) (hw : ∀ n ∈ d.weights Try.prog 24, n ≤ reachBytes) :
    ∃ (g : Gram) (a : Option Addr) (n c : Nat), v = .agg #[.int .i64 g.Nts, .int .i64 g.Start, .slice a n c] ∧ (ReachG g ∧ WordsG g) ∧ PureC w (fun _ => False) (.slice a n c) (.slice 2 (g.Rules.map eRule)) := by
  obtain ⟨cs, rfl⟩ := agg_struct Try.underlying24 ho
  obtain ⟨fuel, ds, hp, hf⟩ := args_ok arg_closed (by decide) h hw
  obtain ⟨g, rfl, hg⟩ := fits_gram hf
  unfold eGram at hp
  have e : (Value.agg cs).cells.toList = cs.toList := rfl
  rw [e] at hp
  generalize hcs : cs.toList = l at hp
  cases hp with
  | cons h1 hp => cases hp with
    | cons h2 hp => cases hp with
      | cons h3 hp =>
        cases hp
        cases h1; cases h2
        obtain ⟨a, n, c, rfl⟩ := pure_slice h3
        refine ⟨g, a, n, c, ?_, hg, h3⟩
        rw [← hcs]
theorem arg_bytes {H : Type} {enc : TypeId × Value → H} {w : World} {base : Nat} {v : Value} {d : DataW H} {ps : List MemPlace} (ho : Value.okWide Try.prog w .any base 25 v) (h : DataW.Trod enc Try.prog w 0 (fun _ => true) true 25 v d ps) (hw : ∀ n ∈ d.weights Try.prog 25, n ≤ reachBytes) :
    ∃ (l : List Int) (a : Option Addr) (n c : Nat), v = .slice a n c ∧ Bytes l ∧ PureC w (fun _ => False) (.slice a n c) (.slice 1 (l.map eU8)) := by
  obtain ⟨fuel, ds, hp, hf⟩ := args_ok arg_closed (by decide) h hw
  obtain ⟨a, n0, c, rfl⟩ := okWide_slice Try.underlying25 ho
  obtain ⟨l, rfl, _, hl⟩ := fits_slice Try.underlying25 cells5 (b := 1) (by kernel_rfl) fits_byte hf
  obtain ⟨u, hu, hp⟩ := pures_one hp
  have hv : Value.slice a n0 c = u := by simpa [Value.cells] using hu
  subst hv
  exact ⟨l, _, _, _, rfl, hl, hp⟩
end Go.Proofs.Ytfhbgelpmbkooaa
