import Derived.Test.YtdbnoblklhgdoaaGreatDoorRows
import Derived.Test.YtdbnoblklhgdoaaGreatDoorCards
import Derived.Test.YtdbnoblklhgdoaaGreatDoorTie
import Derived.Lay
import Derived.LaidSub
import Derived.MakeChecks
import Derived.SevenTiedAt
import Derived.Lib.LaidTab
import Derived.Test.YtdbnoblklhgdoaaGreatDoorVM
import Derived.Test.YtdbnoblklhgdoaaGreatDoorH2
import Derived.Test.YtdbnoblklhgdoaaGreatDoorRP
set_option linter.unusedVariables false
set_option linter.unusedSimpArgs false
set_option maxRecDepth 8000
namespace Go.Proofs.YtdbnoblklhgdoaaGreatDoor
open Go.ChangeShapes Go.WideShapes Go.ChangeAt Go.RowKit Go.Vc Go.Proofs
theorem own_knob : ownKnob Tryz.prog.godebug = none := by kernel_rfl
theorem laid_out : laidOutB Tryz.prog = true := by kernel_rfl
def argTypes : List TypeId := [28, 9, 22, 57, 4, 55, 114, 3, 44, 42, 23, 58, 61, 59, 24, 48, 25, 78, 26, 64, 62, 124]
theorem arg_closed : closedB Tryz.prog argTypes = true := by kernel_rfl
def wB (w : Int) : Prop := 0 <= w /\ w < 18446744073709551616
def sB (s : S4) : Prop := wB s.w0 /\ wB s.w1 /\ wB s.w2 /\ wB s.w3
theorem w_wf {m : Int} (h : (Lit.int .u64 m).wf = true) : wB m := by
 have h2 : IntKind.u64.min <= m /\ m <= IntKind.u64.max := by simpa [Lit.wf] using h
 have e1 : IntKind.u64.min = 0 := by decide
 have e2 : IntKind.u64.max = 18446744073709551615 := by decide
 rw [e1, e2] at h2
 exact ⟨h2.1, by omega⟩
theorem kl {n : Nat} {t : TypeId} {k : IntKind} {ds : List Dc} (hu : Tryz.prog.underlying t = some (.int k)) (h : Fits Tryz.prog n t ds) : ∃ m, ds = [.int k m] /\ (Lit.int k m).wf = true := by
 cases n with
 | zero => exact h.elim
 | succ n =>
  unfold Fits at h
  rw [hu] at h
  exact h
theorem fits_bool {n : Nat} {ds : List Dc} (h : Fits Tryz.prog n 4 ds) : ∃ b, ds = [.bool b] := by
 cases n with
 | zero => exact h.elim
 | succ n =>
  unfold Fits at h
  rw [Tryz.underlying4] at h
  exact h
theorem x8 {n : Nat} {ds : List Dc} (h : Fits Tryz.prog n 9 ds) : ∃ s : List UInt8, ds = [.str s] /\ s.length <= maxLen := by
 cases n with
 | zero => exact h.elim
 | succ n =>
  unfold Fits at h
  rw [Tryz.underlying9] at h
  exact h
theorem fits_list {α : Type} {n : Nat} {e : TypeId} {enc : α -> List Dc} {ok : α -> Prop} (hf : ∀ ds, Fits Tryz.prog n e ds -> ∃ x, ds = enc x /\ ok x) {xs : List (List Dc)} (h : ∀ x ∈ xs, Fits Tryz.prog n e x) : ∃ l : List α, xs = l.map enc /\ ∀ x ∈ l, ok x := by
 induction xs with
 | nil => exact ⟨[], rfl, fun _ h => by cases h⟩
 | cons x xs ih =>
  obtain ⟨l, rfl, hl⟩ := ih (fun y hy => h y (List.mem_cons_of_mem _ hy))
  obtain ⟨m, rfl, hm⟩ := hf _ (h x List.mem_cons_self)
  refine ⟨m :: l, rfl, fun y hy => ?_⟩
  rcases List.mem_cons.1 hy with rfl | hy
  ·exact hm
  ·exact hl y hy
theorem wm {α : Type} {t e : TypeId} {enc : α -> List Dc} {ok : α -> Prop} {m b : Nat} (hu : Tryz.prog.underlying t = some (.slice e)) (hc : Tryz.prog.cellsOf e = m) (hb : Tryz.prog.bytesOf e = b) (hf : ∀ n ds, Fits Tryz.prog n e ds -> ∃ x, ds = enc x /\ ok x) {n : Nat} {ds : List Dc} (h : Fits Tryz.prog n t ds) :
  ∃ l : List α, ds = [.slice m (l.map enc)] /\ l.length * b <= reachBytes /\ ∀ x ∈ l, ok x := by
 cases n with
 | zero => exact h.elim
 | succ n =>
  unfold Fits at h
  rw [hu] at h
  obtain ⟨xs, rfl, _, hl, hx⟩ := h
  obtain ⟨l, rfl, hok⟩ := fits_list (hf n) hx
  refine ⟨l, by rw [hc], ?_, hok⟩
  rw [hb] at hl
  simpa using hl
theorem fits_set {n : Nat} {ds : List Dc} (h : Fits Tryz.prog n 44 ds) : ∃ s : S4, ds = [.int .u64 s.w0, .int .u64 s.w1, .int .u64 s.w2, .int .u64 s.w3] /\ sB s := by
 cases n with
 | zero => exact h.elim
 | succ n =>
  unfold Fits at h
  rw [Tryz.underlying44] at h
  obtain ⟨parts, rfl, hl, hp⟩ := h
  match parts, hl with
  | [a, b, c, d], _ =>
   obtain ⟨x, rfl, hx⟩ := kl Tryz.underlying42 (hp a (by simp))
   obtain ⟨y, rfl, hy⟩ := kl Tryz.underlying42 (hp b (by simp))
   obtain ⟨z, rfl, hz⟩ := kl Tryz.underlying42 (hp c (by simp))
   obtain ⟨u, rfl, hu⟩ := kl Tryz.underlying42 (hp d (by simp))
   exact ⟨⟨x, y, z, u⟩, rfl, w_wf hx, w_wf hy, w_wf hz, w_wf hu⟩
theorem fits_sym (n : Nat) (ds : List Dc) (h : Fits Tryz.prog n 114 ds) : ∃ s : xg, ds = wn s /\ sB s.Set := by
 cases n with
 | zero => exact h.elim
 | succ n =>
  unfold Fits at h
  rw [Tryz.underlying114] at h
  obtain ⟨parts, rfl, hl, hp⟩ := h
  match parts, hl with
  | [a, b, c, d, e], _ =>
   obtain ⟨x, rfl, _⟩ := kl Tryz.underlying3 (hp 0 _ a rfl rfl)
   obtain ⟨y, rfl, _⟩ := x8 (hp 1 _ b rfl rfl)
   obtain ⟨z, rfl, hz⟩ := fits_set (hp 2 _ c rfl rfl)
   obtain ⟨u, rfl, _⟩ := x8 (hp 3 _ d rfl rfl)
   obtain ⟨v, rfl, _⟩ := x8 (hp 4 _ e rfl rfl)
   exact ⟨⟨x, y, z, u, v⟩, rfl, hz⟩
theorem cells114 : Tryz.prog.cellsOf 114 = 8 := by kernel_rfl
theorem cells57 : Tryz.prog.cellsOf 57 = 5 := by kernel_rfl
theorem cells58 : Tryz.prog.cellsOf 58 = 1 := by kernel_rfl
theorem cells61 : Tryz.prog.cellsOf 61 = 2 := by kernel_rfl
theorem cells9 : Tryz.prog.cellsOf 9 = 1 := by kernel_rfl
theorem cells48 : Tryz.prog.cellsOf 48 = 5 := by kernel_rfl
theorem cells78 : Tryz.prog.cellsOf 78 = 2 := by kernel_rfl
theorem cells64 : Tryz.prog.cellsOf 64 = 2 := by kernel_rfl
theorem cells124 : Tryz.prog.cellsOf 124 = 4 := by kernel_rfl
theorem fits_prod (n : Nat) (ds : List Dc) (h : Fits Tryz.prog n 57 ds) : ∃ p : Vc.Prod, ds = yh p /\ p.Syms.length * 88 <= reachBytes /\ ∀ s ∈ p.Syms, sB s.Set := by
 cases n with
 | zero => exact h.elim
 | succ n =>
  unfold Fits at h
  rw [Tryz.underlying57] at h
  obtain ⟨parts, rfl, hl, hp⟩ := h
  match parts, hl with
  | [a, b, c, d, e], _ =>
   obtain ⟨x, rfl⟩ := fits_bool (hp 0 _ a rfl rfl)
   obtain ⟨y, rfl, _⟩ := x8 (hp 1 _ b rfl rfl)
   obtain ⟨z, rfl, _⟩ := x8 (hp 2 _ c rfl rfl)
   obtain ⟨u, rfl⟩ := fits_bool (hp 3 _ d rfl rfl)
   obtain ⟨v, rfl, hv, hs⟩ := wm Tryz.underlying55 cells114 (b := 88) (by kernel_rfl) fits_sym (hp 4 _ e rfl rfl)
   exact ⟨⟨x, y, z, u, v⟩, rfl, hv, hs⟩
theorem fits_name (n : Nat) (ds : List Dc) (h : Fits Tryz.prog n 9 ds) : ∃ s : List UInt8, ds = xn s /\ True := by
 obtain ⟨s, rfl, _⟩ := x8 h
 exact ⟨s, rfl, trivial⟩
theorem fits_group (n : Nat) (ds : List Dc) (h : Fits Tryz.prog n 61 ds) : ∃ g : zw, ds = zD g /\ g.Cons.length * 16 <= reachBytes := by
 cases n with
 | zero => exact h.elim
 | succ n =>
  unfold Fits at h
  rw [Tryz.underlying61] at h
  obtain ⟨parts, rfl, hl, hp⟩ := h
  match parts, hl with
  | [a, b], _ =>
   obtain ⟨x, rfl, _⟩ := kl Tryz.underlying3 (hp 0 _ a rfl rfl)
   obtain ⟨v, rfl, hv, _⟩ := wm Tryz.underlying59 cells9 (b := 16) (by kernel_rfl) fits_name (hp 1 _ b rfl rfl)
   exact ⟨⟨x, v⟩, rfl, hv⟩
theorem fits_chain (n : Nat) (ds : List Dc) (h : Fits Tryz.prog n 58 ds) : ∃ c : List zw, ds = w8 2 zD c /\ c.length * 32 <= reachBytes /\ ∀ g ∈ c, g.Cons.length * 16 <= reachBytes := by
 obtain ⟨v, rfl, hv, hs⟩ := wm Tryz.underlying58 cells61 (b := 32) (by kernel_rfl) fits_group h
 exact ⟨v, rfl, hv, hs⟩
theorem fits_follow (n : Nat) (ds : List Dc) (h : Fits Tryz.prog n 48 ds) : ∃ f : Follow, ds = z7 f /\ sB f.Set := by
 cases n with
 | zero => exact h.elim
 | succ n =>
  unfold Fits at h
  rw [Tryz.underlying48] at h
  obtain ⟨parts, rfl, hl, hp⟩ := h
  match parts, hl with
  | [a, b], _ =>
   obtain ⟨x, rfl, _⟩ := x8 (hp 0 _ a rfl rfl)
   obtain ⟨z, rfl, hz⟩ := fits_set (hp 1 _ b rfl rfl)
   exact ⟨⟨x, z⟩, rfl, hz⟩
theorem fits_reject (n : Nat) (ds : List Dc) (h : Fits Tryz.prog n 78 ds) : ∃ r : zz, ds = z6 r /\ True := by
 cases n with
 | zero => exact h.elim
 | succ n =>
  unfold Fits at h
  rw [Tryz.underlying78] at h
  obtain ⟨parts, rfl, hl, hp⟩ := h
  match parts, hl with
  | [a, b], _ =>
   obtain ⟨x, rfl, _⟩ := x8 (hp 0 _ a rfl rfl)
   obtain ⟨y, rfl, _⟩ := x8 (hp 1 _ b rfl rfl)
   exact ⟨⟨x, y⟩, rfl, trivial⟩
theorem okL_of : ∀ {l : List Vc.Item}, (∀ x ∈ l, okI x) -> okL l
 | [], _ => by rw [okL]; trivial
 | x :: r, h => by rw [okL]; exact ⟨h x (by simp), okL_of (fun y hy => h y (by simp [hy]))⟩
theorem bytes124 : Tryz.prog.bytesOf 124 = 56 := by kernel_rfl
theorem fits_item : ∀ (n : Nat) (ds : List Dc), Fits Tryz.prog n 124 ds -> ∃ x : Vc.Item, ds = zR x /\ okI x
 | 0, ds, h => h.elim
 | 1, ds, h => by
  unfold Fits at h
  rw [Tryz.underlying124] at h
  obtain ⟨parts, rfl, hl, hp⟩ := h
  match parts, hl with
  | [a, b, c, d], _ => exact (hp 0 _ a rfl rfl).elim
 | n + 2, ds, h => by
  unfold Fits at h
  rw [Tryz.underlying124] at h
  obtain ⟨parts, rfl, hl, hp⟩ := h
  match parts, hl with
  | [a, b, c, d], _ =>
   obtain ⟨x, rfl, _⟩ := kl Tryz.underlying3 (hp 0 _ a rfl rfl)
   obtain ⟨y, rfl, _⟩ := x8 (hp 1 _ b rfl rfl)
   obtain ⟨z, rfl, _⟩ := kl Tryz.underlying3 (hp 2 _ c rfl rfl)
   have hc' : Fits Tryz.prog (n + 1) 62 d := hp 3 _ d rfl rfl
   unfold Fits at hc'
   rw [Tryz.underlying62] at hc'
   obtain ⟨xs, rfl, _, hxl, hxs⟩ := hc'
   obtain ⟨ks, rfl, hks⟩ := fits_list (fits_item n) hxs
   refine ⟨.mk x y z ks, ?_, ?_⟩
   ·rw [xD, cells124]
    rfl
   ·rw [okI]
    rw [bytes124] at hxl
    exact ⟨by simpa [reachBytes] using hxl, okL_of hks⟩
theorem fits_item' (n : Nat) (ds : List Dc) (h : Fits Tryz.prog n 124 ds) : ∃ x : Vc.Item, ds = zR x /\ okI x := fits_item n ds h
theorem fits_box (n : Nat) (ds : List Dc) (h : Fits Tryz.prog n 64 ds) : ∃ b : xm, ds = xq b /\ b.Items.length * 56 <= reachBytes /\ okL b.Items := by
 cases n with
 | zero => exact h.elim
 | succ n =>
  unfold Fits at h
  rw [Tryz.underlying64] at h
  obtain ⟨parts, rfl, hl, hp⟩ := h
  match parts, hl with
  | [a, b], _ =>
   obtain ⟨x, rfl, _⟩ := x8 (hp 0 _ a rfl rfl)
   obtain ⟨v, rfl, hv, hs⟩ := wm Tryz.underlying62 cells124 bytes124 fits_item' (hp 1 _ b rfl rfl)
   exact ⟨⟨x, v⟩, rfl, hv, okL_of hs⟩
structure SetsB (d : zY) : Prop where
 syms : ∀ p ∈ d.Prods, ∀ s ∈ p.Syms, sB s.Set
 follows : ∀ f ∈ d.Follows, sB f.Set
theorem fits_def {n : Nat} {ds : List Dc} (h : Fits Tryz.prog n 28 ds) : ∃ d : zY, ds = eDef d /\ OkD d /\ SetsB d := by
 cases n with
 | zero => exact h.elim
 | succ n =>
  unfold Fits at h
  rw [Tryz.underlying28] at h
  obtain ⟨parts, rfl, hl, hp⟩ := h
  match parts, hl with
  | [a, b, c, d, e, f, g], _ =>
   obtain ⟨x, rfl, _⟩ := x8 (hp 0 _ a rfl rfl)
   obtain ⟨y, rfl, _⟩ := x8 (hp 1 _ b rfl rfl)
   obtain ⟨v1, rfl, h1, g1⟩ := wm Tryz.underlying22 cells57 (b := 72) (by kernel_rfl) fits_prod (hp 2 _ c rfl rfl)
   obtain ⟨v2, rfl, h2, g2⟩ := wm Tryz.underlying23 cells58 (b := 24) (by kernel_rfl) fits_chain (hp 3 _ d rfl rfl)
   obtain ⟨v3, rfl, h3, g3⟩ := wm Tryz.underlying24 cells48 (b := 48) (by kernel_rfl) fits_follow (hp 4 _ e rfl rfl)
   obtain ⟨v4, rfl, h4, g4⟩ := wm Tryz.underlying25 cells78 (b := 32) (by kernel_rfl) fits_reject (hp 5 _ f rfl rfl)
   obtain ⟨v5, rfl, h5, g5⟩ := wm Tryz.underlying26 cells64 (b := 40) (by kernel_rfl) fits_box (hp 6 _ g rfl rfl)
   have er : reachBytes = 140737488351232 := rfl
   exact ⟨⟨x, y, v1, v2, v3, v4, v5⟩, rfl, ⟨by show v1.length <= _; omega, fun p hp => by have := (g1 p hp).1; omega, by show v2.length <= _; omega, fun c hc => by have := (g2 c hc).1; omega, fun c hc q hq => by have := (g2 c hc).2 q hq; omega, by show v3.length <= _; omega, by show v4.length <= _; omega, by show v5.length <= _; omega, fun b hb => g5 b hb⟩, fun p hp => (g1 p hp).2, g3⟩
theorem agg_struct {P : Program} {w : World} {r : Reach} {base : Nat} {t : TypeId} {v : Value} {fs : Array Field} (hu : P.underlying t = some (.struct fs)) (h : Value.okWide P w r base t v) : ∃ cs, v = .agg cs := by
 unfold Value.okWide at h
 rw [hu] at h
 obtain ⟨cs, rfl, _⟩ := h
 exact ⟨cs, rfl⟩
theorem kU {w : World} {X : Nat -> Prop} {v : Value} {sz : Nat} {xs : List (List Dc)} (h : yi w X v (.slice sz xs)) : ∃ a n c, v = .slice a n c := by
 cases h <;> exact ⟨_, _, _, rfl⟩
theorem sized_at {H : Type} {ts ts' : List TypeId} {ds ds' : List (DataW H)} (h : (DataW.weightsEach Tryz.prog ts ds).all (· <= reachBytes) = true) {j : Nat} {t : TypeId} {d : DataW H} (ht : ts[j]? = some t) (hd : ds[j]? = some d) : ∀ n ∈ d.weights Tryz.prog t, n <= reachBytes := fun n hn => by
 have := List.all_eq_true.1 h n (DataW.weights_mem_each ht hd n hn)
 simpa using this
theorem arg_def {H : Type} {enc : TypeId × Value -> H} {w : World} {base : Nat} {v : Value} {d : DataW H} {ps : List MemPlace} (ho : Value.okWide Tryz.prog w .any base 28 v) (h : DataW.Trod enc Tryz.prog w 0 (fun _ => true) true 28 v d ps) (hw : ∀ n ∈ d.weights Tryz.prog 28, n <= reachBytes) :
  ∃ (x : zY) (a1 : Option Addr) (n1 c1 : Nat) (a2 : Option Addr) (n2 c2 : Nat) (a3 : Option Addr) (n3 c3 : Nat) (a4 : Option Addr) (n4 c4 : Nat) (a5 : Option Addr) (n5 c5 : Nat), v = .agg #[.string (bs x.Start), .string (bs x.Layout), .slice a1 n1 c1, .slice a2 n2 c2, .slice a3 n3 c3, .slice a4 n4 c4, .slice a5 n5 c5] /\ (OkD x /\ SetsB x) /\
   (yi w (fun _ => False) (.slice a1 n1 c1) (.slice 5 (x.Prods.map yh)) /\ yi w (fun _ => False) (.slice a2 n2 c2) (.slice 1 (x.Chains.map (w8 2 zD))) /\ yi w (fun _ => False) (.slice a3 n3 c3) (.slice 5 (x.Follows.map z7)) /\ yi w (fun _ => False) (.slice a4 n4 c4) (.slice 2 (x.Rejects.map z6)) /\ yi w (fun _ => False) (.slice a5 n5 c5) (.slice 2 (x.Boxes.map xq))) := by
 obtain ⟨cs, rfl⟩ := agg_struct Tryz.underlying28 ho
 obtain ⟨fuel, ds, hp, hf⟩ := args_ok arg_closed (by decide) h hw
 obtain ⟨x, rfl, hok⟩ := fits_def hf
 unfold eDef at hp
 have e : (Value.agg cs).cells.toList = cs.toList := rfl
 rw [e] at hp
 generalize hcs : cs.toList = l at hp
 cases hp with
 | cons h1 hp => cases hp with
  | cons h2 hp => cases hp with
   | cons h3 hp => cases hp with
    | cons h4 hp => cases hp with
     | cons h5 hp => cases hp with
      | cons h6 hp => cases hp with
       | cons h7 hp =>
        cases hp
        cases h1; cases h2
        obtain ⟨a1, n1, c1, rfl⟩ := kU h3
        obtain ⟨a2, n2, c2, rfl⟩ := kU h4
        obtain ⟨a3, n3, c3, rfl⟩ := kU h5
        obtain ⟨a4, n4, c4, rfl⟩ := kU h6
        obtain ⟨a5, n5, c5, rfl⟩ := kU h7
        refine ⟨x, a1, n1, c1, a2, n2, c2, a3, n3, c3, a4, n4, c4, a5, n5, c5, ?_, hok, h3, h4, h5, h6, h7⟩
        rw [<- hcs]
theorem tab_fact {w : World} (h : laidMet Tryz.prog [("math/bits.deBruijn32tab", Rows.laid_math_bits_deBruijn32tab), ("math/bits.deBruijn64tab", Rows.laid_math_bits_deBruijn64tab), ("internal/strconv.uint64pow10", Rows.laid_internal_strconv_uint64pow10)] w) :
  yi w (fun _ => False) (jc 1).1 (jc 1).2 := by
 have h1 := h.filter fun x => x.1 == "internal/strconv.uint64pow10"
 have h2 : laidMet Tryz.prog (("internal/strconv.uint64pow10", Lib.tabData .u64 Lib.pow10Tab) :: []) w := h1
 have h3 := Lib.tabIs_of_head (by kernel_rfl : Tryz.prog.globalNamed "internal/strconv.uint64pow10" = some 1) (t := 193) (e := 42) (n := 20) (by kernel_rfl) Tryz.underlying193 (by kernel_rfl) (by kernel_rfl) (by kernel_rfl) h2
 unfold Lib.TabIs World.var? at h3
 rw [show Tryz.prog.globalNamed "internal/strconv.uint64pow10" = some 1 by kernel_rfl] at h3
 simp only [Option.bind_some] at h3
 split at h3
 ·rename_i cs T fz hc
  simp only [Option.some.injEq] at h3
  refine .at 1 pow10cells T fz (fun h => h) ?_ ?_
  ·exact (Array.getElem?_eq_some_iff.1 hc).1
  ·rw [hc, h3]; rfl
 ·cases h3
end Go.Proofs.YtdbnoblklhgdoaaGreatDoor
