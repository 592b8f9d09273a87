/-
  What the rows of trees share: arguments, the table that is laid.
-/
import Derived.Test.YtncbbbjakbaojaaDoorRows
import Derived.Test.YtncbbbjakbaojaaDoorCards
import Derived.Test.YtncbbbjakbaojaaDoorTie
import Derived.Lay
import Derived.LaidSub
import Derived.MakeChecks
import Derived.SevenTiedAt
import Derived.Lib.LaidTab
import Derived.Test.YtncbbbjakbaojaaDoorVcM
import Derived.Test.YtncbbbjakbaojaaDoorW3
import Derived.Test.YtncbbbjakbaojaaDoorTA
set_option linter.unusedVariables false
set_option linter.unusedSimpArgs false
set_option maxRecDepth 8000
namespace Go.Proofs.YtncbbbjakbaojaaDoor
open Go.ChangeShapes Go.WideShapes Go.ChangeAt Go.RowKit Go.Vc Go.Proofs

theorem own_knob : ownKnob Tryd.prog.godebug = none := by kernel_rfl
theorem laid_out : laidOutB Tryd.prog = true := by kernel_rfl

/-- the types that the arguments of the laws lead to -/
def argTypes : List TypeId := [27, 25, 3, 5, 9, 44]
theorem arg_closed : closedB Tryd.prog argTypes = true := by kernel_rfl

theorem fits_int {n : Nat} {t : TypeId} {k : IntKind} {ds : List Dc} (hu : Tryd.prog.underlying t = some (.int k)) (h : Fits Tryd.prog n t ds) : ∃ m, ds = [.int k m] ∧ (Lit.int k m).wf = true := by
  cases n with
  | zero => exact h.elim
  | succ n =>
    unfold Fits at h
    rw [hu] at h
    exact h
theorem i64_wf {m : Int} (h : (Lit.int .i64 m).wf = true) : i64b m := by
  have h2 : IntKind.i64.min ≤ m ∧ m ≤ IntKind.i64.max := by simpa [Lit.wf] using h
  have e1 : IntKind.i64.min = -9223372036854775808 := by decide
  have e2 : IntKind.i64.max = 9223372036854775807 := by decide
  rw [e1, e2] at h2
  exact h2
theorem u8_wf {m : Int} (h : (Lit.int .u8 m).wf = true) : u8b m := by
  have h2 : IntKind.u8.min ≤ m ∧ m ≤ IntKind.u8.max := by simpa [Lit.wf] using h
  have e1 : IntKind.u8.min = 0 := by decide
  have e2 : IntKind.u8.max = 255 := by decide
  rw [e1, e2] at h2
  exact ⟨h2.1, by omega⟩
theorem fits_list {α : Type} {n : Nat} {e : TypeId} {enc : α → List Dc} {ok : α → Prop} (hf : ∀ ds, Fits Tryd.prog n e ds → ∃ x, ds = enc x ∧ ok x) {xs : List (List Dc)} (h : ∀ x ∈ xs, Fits Tryd.prog n e x) : ∃ l : List α, xs = l.map enc ∧ ∀ x ∈ l, ok x := by
  induction xs with
  | nil => exact ⟨[], rfl, fun _ h => by cases h⟩
  | cons x xs ih =>
    obtain ⟨l, rfl, hl⟩ := ih (fun y hy => h y (List.mem_cons_of_mem _ hy))
    obtain ⟨m, rfl, hm⟩ := hf _ (h x List.mem_cons_self)
    refine ⟨m :: l, rfl, fun y hy => ?_⟩
    rcases List.mem_cons.1 hy with rfl | hy
    · exact hm
    · exact hl y hy
theorem cells27 : Tryd.prog.cellsOf 27 = 3 := by kernel_rfl
theorem fits_tree : ∀ (n : Nat) (ds : List Dc), Fits Tryd.prog n 27 ds → ∃ t : Tree, ds = eTree t ∧ okT t
  | 0, ds, h => h.elim
  | 1, ds, h => by
    unfold Fits at h
    rw [Tryd.underlying27] at h
    obtain ⟨parts, rfl, hl, hp⟩ := h
    match parts, hl with
    | [a, b, c], _ => exact (hp 0 _ a rfl rfl).elim
  | n + 2, ds, h => by
    unfold Fits at h
    rw [Tryd.underlying27] at h
    obtain ⟨parts, rfl, hl, hp⟩ := h
    match parts, hl with
    | [a, b, c], _ =>
      obtain ⟨x, rfl, hx⟩ := fits_int Tryd.underlying3 (hp 0 _ a rfl rfl)
      obtain ⟨y, rfl, hy⟩ := fits_int Tryd.underlying5 (hp 1 _ b rfl rfl)
      have hc := hp 2 _ c rfl rfl
      have hc' : Fits Tryd.prog (n + 1) 25 c := hc
      unfold Fits at hc'
      rw [Tryd.underlying25] at hc'
      obtain ⟨xs, rfl, hxl, hxs⟩ := hc'
      obtain ⟨ks, rfl, hks⟩ := fits_list (fits_tree n) hxs
      refine ⟨.mk x y ks, ?_, i64_wf hx, u8_wf hy, by simpa using hxl, okTs_of hks⟩
      rw [eTree_eq, cells27]
      rfl

theorem agg_struct {P : Program} {w : World} {r : Reach} {base : Nat} {t : TypeId} {v : Value} {fs : Array Field} (hu : P.underlying t = some (.struct fs)) (h : Value.okWide P w r base t v) : ∃ cs, v = .agg cs := by
  unfold Value.okWide at h
  rw [hu] at h
  obtain ⟨cs, rfl, _⟩ := h
  exact ⟨cs, rfl⟩
theorem pure_slice {w : World} {X : Nat → Prop} {v : Value} {sz : Nat} {xs : List (List Dc)} (h : PureC w X v (.slice sz xs)) : ∃ a n c, v = .slice a n c := by
  cases h <;> exact ⟨_, _, _, rfl⟩
theorem arg_tree {H : Type} {enc : TypeId × Value → H} {w : World} {base : Nat} {v : Value} {d : DataW H} {ps : List MemPlace} (ho : Value.okWide Tryd.prog w .any base 27 v) (h : DataW.Trod enc Tryd.prog w 0 (fun _ => true) true 27 v d ps) :
    ∃ (t : Tree) (a : Option Addr) (n c : Nat), v = .agg #[.int .i64 t.Rule, .int .u8 t.Byte, .slice a n c] ∧ okT t ∧ PureC w (fun _ => False) (.slice a n c) (.slice 3 (t.Kids.map eTree)) := by
  obtain ⟨cs, rfl⟩ := agg_struct Tryd.underlying27 ho
  obtain ⟨fuel, ds, hp, hf⟩ := args_ok arg_closed (by decide) h
  obtain ⟨t, rfl, hok⟩ := fits_tree _ _ hf
  rw [eTree_eq] at hp
  have e : (Value.agg cs).cells.toList = cs.toList := rfl
  rw [e] at hp
  generalize hcs : cs.toList = l at hp
  cases hp with
  | cons h1 hp => cases hp with
    | cons h2 hp => cases hp with
      | cons h3 hp =>
        cases hp
        cases h1; cases h2
        obtain ⟨a, n, c, rfl⟩ := pure_slice h3
        refine ⟨t, a, n, c, ?_, hok, h3⟩
        rw [← hcs]

theorem tab_fact {w : World} (h : laidMet Tryd.prog [("math/bits.deBruijn32tab", Rows.laid_math_bits_deBruijn32tab), ("math/bits.deBruijn64tab", Rows.laid_math_bits_deBruijn64tab), ("internal/strconv.uint64pow10", Rows.laid_internal_strconv_uint64pow10)] w) :
    PureC w (fun _ => False) (gf10 0).1 (gf10 0).2 := by
  have h1 := h.filter fun x => x.1 == "internal/strconv.uint64pow10"
  have h2 : laidMet Tryd.prog (("internal/strconv.uint64pow10", Lib.tabData .u64 Lib.pow10Tab) :: []) w := h1
  have h3 := Lib.tabIs_of_head (by kernel_rfl : Tryd.prog.globalNamed "internal/strconv.uint64pow10" = some 0) (t := 116) (e := 86) (n := 20) (by kernel_rfl) Tryd.underlying116 (by kernel_rfl) (by kernel_rfl) (by kernel_rfl) h2
  unfold Lib.TabIs World.var? at h3
  rw [show Tryd.prog.globalNamed "internal/strconv.uint64pow10" = some 0 by kernel_rfl] at h3
  simp only [Option.bind_some] at h3
  split at h3
  · rename_i cs T fz hc
    simp only [Option.some.injEq] at h3
    refine .at 0 pow10cells T fz (fun h => h) ?_ ?_
    · exact (Array.getElem?_eq_some_iff.1 hc).1
    · rw [hc, h3]; rfl
  · cases h3
end Go.Proofs.YtncbbbjakbaojaaDoor
