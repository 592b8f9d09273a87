import Derived.Test.YtfhbgelpmbkooaaVcK
import Derived.ProofKit
import Derived.OpenShut
import Derived.SizedLaws
set_option linter.unusedVariables false
set_option linter.unusedSimpArgs false
namespace Go.Vc
open Go
def Fits (P : Program) : Nat → TypeId → List Dc → Prop
  | 0, _, _ => False
  | fuel + 1, t, ds =>
    match P.underlying t with
    | some .bool => ∃ b, ds = [.bool b]
    | some (.int k) => ∃ n, ds = [.int k n] ∧ (Lit.int k n).wf = true
    | some .string => ∃ s : List UInt8, ds = [.str s] ∧ s.length ≤ maxLen
    | some (.slice e) => ∃ xs : List (List Dc), ds = [.slice (P.cellsOf e) xs] ∧ xs.length ≤ maxLen ∧ xs.length * P.bytesOf e ≤ reachBytes ∧ ∀ x ∈ xs, Fits P fuel e x
    | some (.struct fs) => ∃ parts : List (List Dc), ds = parts.flatten ∧ parts.length = fs.toList.length ∧ ∀ (i : Nat) (f : Field) (x : List Dc), fs.toList[i]? = some f → parts[i]? = some x → Fits P fuel f.type x
    | some (.array n e) => ∃ parts : List (List Dc), ds = parts.flatten ∧ parts.length = n ∧ ∀ x ∈ parts, Fits P fuel e x
    | _ => False
def tile (P : Program) : Nat → List Field → Option Nat
  | o, [] => some o
  | o, f :: fs => if f.offset = o then tile P (o + P.cellsOf f.type) fs else none
def closedB (P : Program) (L : List TypeId) : Bool := L.all fun t => match P.underlying t with
  | some .bool => true
  | some (.int _) => true
  | some .string => true
  | some (.slice e) => L.contains e && Nat.blt 0 (P.cellsOf e)
  | some (.struct fs) => fs.toList.all (fun f => L.contains f.type) && (tile P 0 fs.toList == some (P.cellsOf t))
  | some (.array n e) => L.contains e && (n * P.cellsOf e == P.cellsOf t)
  | _ => false
theorem pures_flat {w : World} {X : Nat → Prop} : ∀ (css : List (List Value)) (dss : List (List Dc)), css.length = dss.length → (∀ (i : Nat) (cs : List Value) (ds : List Dc), css[i]? = some cs → dss[i]? = some ds → Pures w X cs ds) → Pures w X css.flatten dss.flatten
  | [], [], _, _ => .nil
  | c :: css, d :: dss, hl, h => by
    simp only [List.flatten_cons]
    exact (h 0 c d rfl rfl).append (pures_flat css dss (by simpa using hl) (fun i cs ds h1 h2 => h (i + 1) cs ds (by simpa using h1) (by simpa using h2)))
  | [], _ :: _, hl, _ => by simp at hl
  | _ :: _, [], hl, _ => by simp at hl
theorem choose_list {α β : Type} {p : α → β → Prop} : ∀ (l : List α), (∀ (i : Nat) (a : α), l[i]? = some a → ∃ b, p a b) → ∃ r : List β, r.length = l.length ∧ ∀ (i : Nat) (a : α) (b : β), l[i]? = some a → r[i]? = some b → p a b
  | [], _ => ⟨[], rfl, fun i a b h => by simp at h⟩
  | a :: l, h => by
    obtain ⟨b, hb⟩ := h 0 a rfl
    obtain ⟨r, h1, h2⟩ := choose_list l (fun i a h' => h (i + 1) a (by simpa using h'))
    refine ⟨b :: r, by simp [h1], fun i a' b' h3 h4 => ?_⟩
    cases i with
    | zero => simp only [List.getElem?_cons_zero, Option.some.injEq] at h3 h4; subst h3; subst h4; exact hb
    | succ i => exact h2 i a' b' (by simpa using h3) (by simpa using h4)
theorem choose_idx {α β : Type} {p : Nat → α → β → Prop} (l : List α) (h : ∀ (i : Nat) (a : α), l[i]? = some a → ∃ b, p i a b) : ∃ r : List β, r.length = l.length ∧ ∀ (i : Nat) (a : α) (b : β), l[i]? = some a → r[i]? = some b → p i a b := by
  obtain ⟨r, h1, h2⟩ := choose_list (p := fun (x : Nat × α) b => p x.1 x.2 b) (l.zipIdx.map fun x => (x.2, x.1)) (fun i x hx => by
    simp only [List.getElem?_map, Option.map_eq_some_iff] at hx
    obtain ⟨y, hy, rfl⟩ := hx
    have := List.getElem?_eq_some_iff.1 hy
    obtain ⟨h3, h4⟩ := this
    simp at h4
    subst h4
    simp only [Nat.zero_add]
    exact h i _ (by simp at h3 ⊢))
  refine ⟨r, by simpa using h1, fun i a b ha hb => ?_⟩
  have := h2 i (i, a) b (by
    simp only [List.getElem?_map, Option.map_eq_some_iff]
    refine ⟨(a, i), ?_, rfl⟩
    have := List.getElem?_eq_some_iff.1 ha
    obtain ⟨h3, h4⟩ := this
    rw [List.getElem?_eq_getElem (by simpa using h3)]
    simp [h4]) hb
  exact this
theorem chunks_arr {cs : List Value} {m : Nat} : ∀ (n o : Nat), cs.length = o + n * m → ((List.range' o n).map fun _ => ()).length = n ∧ (List.range n).flatMap (fun i => ((cs.drop (o + i * m)).take m)) = cs.drop o := by
  intro n
  induction n with
  | zero => intro o h; simp at h ⊢; omega
  | succ n ih =>
    intro o h
    refine ⟨by simp, ?_⟩
    have h' : cs.length = (o + m) + n * m := by rw [h, Nat.add_mul]; omega
    have := (ih (o + m) h').2
    rw [List.range_succ_eq_map, List.flatMap_cons, List.flatMap_map]
    have e : (List.range n).flatMap (fun a => (cs.drop (o + (a + 1) * m)).take m) = cs.drop (o + m) := by
      rw [← this]
      congr 1
      funext i
      rw [Nat.add_mul, Nat.one_mul]
      congr 2
      omega
    simp only [Nat.zero_mul, Nat.add_zero, Nat.succ_eq_add_one]
    rw [e]
    have h3 := List.take_append_drop m (cs.drop o)
    rw [List.drop_drop] at h3
    exact h3
theorem tile_flat {P : Program} {cs : List Value} : ∀ (fs : List Field) (o m : Nat), tile P o fs = some m → cs.length = m → o ≤ cs.length ∧ (fs.map fun f => ((cs.drop f.offset).take (P.cellsOf f.type))).flatten = cs.drop o
  | [], o, m, h, hl => by
    simp only [tile, Option.some.injEq] at h
    subst h
    refine ⟨by omega, ?_⟩
    simp [← hl]
  | f :: fs, o, m, h, hl => by
    simp only [tile] at h
    split at h
    · rename_i ho
      obtain ⟨h1, h2⟩ := tile_flat fs _ _ h hl
      refine ⟨by omega, ?_⟩
      rw [List.map_cons, List.flatten_cons, h2, ho]
      have h3 := List.take_append_drop (P.cellsOf f.type) (cs.drop o)
      rw [List.drop_drop] at h3
      exact h3
    · cases h
theorem weightsAll_mem {H : Type} {P : Program} {e : TypeId} : ∀ {l : List (DataW H)} {y : DataW H}, y ∈ l → ∀ n ∈ y.weights P e, n ∈ DataW.weightsAll P e l
  | [], _, h, _, _ => by cases h
  | d :: r, y, h, n, hn => by
    simp only [DataW.weightsAll, List.mem_append]
    rcases List.mem_cons.1 h with rfl | h
    · exact .inl hn
    · exact .inr (weightsAll_mem h n hn)
theorem trod_pures {H : Type} {enc : TypeId × Value → H} {P : Program} {w : World} {base : Nat} {spare : Nat → Bool} {held : Bool} {L : List TypeId} (hL : closedB P L = true) :
    ∀ (fuel : Nat) (t : TypeId) (cs : List Value) (x : DataW H × List MemPlace), t ∈ L → DataW.trod enc P w base spare held fuel t cs = some x → (∀ n ∈ x.1.weights P t, n ≤ reachBytes) → ∃ ds, Pures w (fun _ => False) cs ds ∧ Fits P fuel t ds
  | 0, t, cs, x, _, h, _ => by simp [DataW.trod] at h
  | fuel + 1, t, cs, x, ht, h, hw => by
    have ih := trod_pures (enc := enc) (w := w) (base := base) (spare := spare) (held := held) hL fuel
    have hc := List.all_eq_true.1 hL t ht
    unfold Fits
    cases hu : P.underlying t with
    | none => rw [hu] at hc; simp at hc
    | some ty =>
      rw [hu] at hc
      cases ty with
      | bool =>
        obtain ⟨b, rfl, _⟩ := DataW.trod_bool hu h
        exact ⟨_, .cons (.bool b) .nil, b, rfl⟩
      | int k =>
        obtain ⟨n, rfl, _, hwf⟩ := DataW.trod_int hu h
        exact ⟨_, .cons (.int k n) .nil, n, rfl, hwf⟩
      | string =>
        obtain ⟨s, rfl, _, hs⟩ := DataW.trod_string hu h
        have e : s = bs s.data.toList := rfl
        refine ⟨[.str s.data.toList], .cons ?_ .nil, _, rfl, hs⟩
        rw [e]
        exact .str _
      | slice e =>
        simp only [Bool.and_eq_true] at hc
        have heL : e ∈ L := by simpa using hc.1
        have hsz : 0 < P.cellsOf e := blt_lt hc.2
        rcases DataW.trod_slice hu h with ⟨rfl, _⟩ | ⟨a, len, cap, elems, rest, n, hn, rfl, hx, hb, hlc, hcm, hlen, hel, _⟩
        · exact ⟨[.slice (P.cellsOf e) []], .cons (.nil _ _ _) .nil, [], rfl, by simp, by simp, fun _ h => by cases h⟩
        · obtain rfl : fuel = n := by omega
          subst hx
          have hwl : (elems.length + rest.length) * P.bytesOf e ≤ reachBytes := by
            refine hw _ ?_
            simp [DataW.weights, hu]
          have hwe : ∀ y ∈ elems, ∀ n ∈ y.1.weights P e, n ≤ reachBytes := fun y hy n hn => by
            refine hw n ?_
            simp only [DataW.weights, hu, List.mem_cons, List.mem_append]
            exact .inr (.inl (weightsAll_mem (List.mem_map_of_mem hy) n hn))
          by_cases h0 : len = 0
          · subst h0
            exact ⟨[.slice (P.cellsOf e) []], .cons (.nil _ _ _) .nil, [], rfl, by simp, by simp, fun _ h => by cases h⟩
          · have hpos : 0 < elems.length := by omega
            obtain ⟨ab, ao, asp⟩ := a
            have hspot : asp = none := by
              have h1 := hel 0 (by omega)
              rw [List.getElem?_eq_getElem hpos] at h1
              obtain ⟨cs, h2, _⟩ := Option.bind_eq_some_iff.1 h1
              obtain ⟨_, h4, h5⟩ := World.cells?_some h2
              have h9 := h5 0 hsz
              obtain ⟨u, hu0⟩ : ∃ u, cs[0]? = some u := ⟨cs[0]'(by omega), by simp⟩
              rw [hu0] at h9
              have e0 : ((⟨ab, ao, asp⟩ : Addr).add (0 * P.cellsOf e)).add 0 = ⟨ab, ao, asp⟩ := by simp [Addr.add]
              rw [e0] at h9
              cases asp with
              | none => rfl
              | some q =>
                exfalso
                simp only [World.cell?, Option.isSome_some, if_true] at h9
                split at h9 <;> cases h9
            subst hspot
            have hget : ∀ (i : Nat) (y : DataW H × List MemPlace), elems[i]? = some y → ∃ ds : List Dc, (ds.length = P.cellsOf e ∧ Fits P fuel e ds) ∧ ab < w.heap.size ∧ (∀ j, j < P.cellsOf e → ∃ u, w.cell? ⟨ab, ao + (i * P.cellsOf e + j), none⟩ = some u ∧ ∀ (hj : j < ds.length), PureC w (fun _ => False) u ds[j]) := by
              intro i y hy
              have hi : i < len := by rw [← hlen]; exact (List.getElem?_eq_some_iff.1 hy).1
              have h1 := hel i hi
              rw [hy] at h1
              obtain ⟨cs, h2, h3⟩ := Option.bind_eq_some_iff.1 h1
              obtain ⟨_, h4, h5⟩ := World.cells?_some h2
              obtain ⟨ds, h6, h7⟩ := ih e cs y heL h3 (hwe y (List.mem_of_getElem? hy))
              have h8 : ds.length = P.cellsOf e := by rw [← h6.length, h4]
              have hlt := World.cells?_block h2 hsz
              rw [add_none] at hlt
              refine ⟨ds, ⟨h8, h7⟩, hlt, fun j hj => ?_⟩
              have h9 := h5 j hj
              obtain ⟨u, hu1, hp⟩ := h6.get j (by omega)
              refine ⟨u, ?_, fun _ => hp⟩
              rw [← hu1, ← h9, add_none, add_none]
              congr 2
              omega
            obtain ⟨xs, hx1, hx2⟩ := choose_idx elems hget
            have hx0 := hx2 0 elems[0] (xs[0]'(by omega)) (by simp) (by simp)
            have hlt := hx0.2.1
            have hxi : ∀ i (hi : i < xs.length), _ := fun i hi => hx2 i (elems[i]'(by omega)) xs[i] (by simp) (by simp)
            refine ⟨[.slice (P.cellsOf e) xs], .cons (.slice ab ao len cap (P.cellsOf e) xs (fun i j => (w.cell? ⟨ab, ao + (i * P.cellsOf e + j), none⟩).getD undef) (by omega) hlc (fun h => h) hlt (fun y hy => ?_) (fun i j hi hj => ?_) (fun i j hi hj => ?_)) .nil, xs, rfl, by omega, ?_, fun y hy => ?_⟩
            · obtain ⟨i, hi, rfl⟩ := List.getElem_of_mem hy
              exact (hxi i hi).1.1
            · obtain ⟨u, hu1, _⟩ := (hxi i (by omega)).2.2 j hj
              simp [hu1]
            · have := (hxi i hi).1.1
              obtain ⟨u, hu1, hp⟩ := (hxi i hi).2.2 j (by omega)
              rw [hu1]
              exact hp hj
            · have : xs.length * P.bytesOf e ≤ (elems.length + rest.length) * P.bytesOf e := Nat.mul_le_mul_right _ (by omega)
              omega
            · obtain ⟨i, hi, rfl⟩ := List.getElem_of_mem hy
              exact (hxi i hi).1.2
      | struct fs =>
        simp only [Bool.and_eq_true, beq_iff_eq] at hc
        obtain ⟨hc1, hc2⟩ := hc
        obtain ⟨xs, n, hn, hx0, hlen, hxl, hx⟩ := DataW.trod_struct hu h
        subst hx0
        obtain rfl : fuel = n := by omega
        obtain ⟨parts, hp1, hp2⟩ := choose_list (p := fun (f : Field) (ds : List Dc) => Pures w (fun _ => False) ((cs.drop f.offset).take (P.cellsOf f.type)) ds ∧ Fits P fuel f.type ds) fs.toList (fun i f hf => by
          have hfm : f ∈ fs.toList := List.mem_of_getElem? hf
          have hfL : f.type ∈ L := by simpa using List.all_eq_true.1 hc1 f hfm
          have h1 := hx i f (by simpa using hf)
          have hi : i < xs.length := by rw [hxl]; simpa using (List.getElem?_eq_some_iff.1 hf).1
          rw [List.getElem?_eq_getElem hi] at h1
          refine ih _ _ _ hfL h1 (fun m hm => hw m ?_)
          simp only [DataW.weights, hu]
          exact DataW.weights_mem_each (j := i) (t := f.type) (d := xs[i].1) (by simp [hf]) (by simp [hi]) m hm)
        refine ⟨parts.flatten, ?_, parts, rfl, hp1, fun i f y hf hy => (hp2 i f y hf hy).2⟩
        have ht2 := (tile_flat fs.toList 0 _ hc2 hlen).2
        simp only [List.drop_zero] at ht2
        rw [← ht2]
        refine pures_flat _ _ (by simp [hp1]) (fun i cs' ds h1 h2 => ?_)
        simp only [List.getElem?_map, Option.map_eq_some_iff] at h1
        obtain ⟨f, hf, rfl⟩ := h1
        exact (hp2 i f ds hf h2).1
      | array n e =>
        simp only [Bool.and_eq_true, beq_iff_eq] at hc
        have heL : e ∈ L := by simpa using hc.1
        obtain ⟨xs, m, hn, hx0, hlen, hxl, hx⟩ := DataW.trod_array hu h
        subst hx0
        obtain rfl : fuel = m := by omega
        obtain ⟨parts, hp1, hp2⟩ := choose_list (p := fun (i : Nat) (ds : List Dc) => Pures w (fun _ => False) ((cs.drop (i * P.cellsOf e)).take (P.cellsOf e)) ds ∧ Fits P fuel e ds) (List.range n) (fun i k hk => by
          have hik := (List.getElem?_eq_some_iff.1 hk)
          have hin : i < n := by simpa using hik.1
          have hki : k = i := by have h9 := hik.2; rw [List.getElem_range] at h9; exact h9.symm
          subst hki
          have h1 := hx k hin
          rw [List.getElem?_eq_getElem (by omega)] at h1
          refine ih _ _ _ heL h1 (fun q hq => hw q ?_)
          simp only [DataW.weights, hu]
          exact weightsAll_mem (List.mem_map_of_mem (List.getElem_mem _)) q hq)
        refine ⟨parts.flatten, ?_, parts, rfl, by simpa using hp1, fun y hy => ?_⟩
        · have hch := (chunks_arr (cs := cs) (m := P.cellsOf e) n 0 (by rw [hlen, ← hc.2]; omega)).2
          simp only [List.drop_zero, Nat.zero_add] at hch
          rw [← hch, List.flatMap_def]
          refine pures_flat _ _ (by simp [hp1]) (fun i cs' ds h1 h2 => ?_)
          simp only [List.getElem?_map, Option.map_eq_some_iff] at h1
          obtain ⟨k, hk, rfl⟩ := h1
          exact (hp2 i k ds hk h2).1
        · obtain ⟨i, hi, rfl⟩ := List.getElem_of_mem hy
          have hin : i < n := by rw [List.length_range] at hp1; omega
          exact (hp2 i i parts[i] (by rw [List.getElem?_range hin]) (by simp)).2
      | _ => simp at hc
end Go.Vc
namespace Go.Vc
open Go Go.RowKit Go.ChangeShapes
theorem below_of_frm {W W' : World} (h : Frm W [] W') : Below W.heap.size W W' := ⟨h.os, h.tape, h.output, h.size, fun k hk => h.block k hk (by simp)⟩
section
variable {H : Type} {enc : TypeId × Value → H} {P : Program}
theorem trodAll_stays (hl : laidOutB P = true) {W W' : World} (hb : Below W.heap.size W W') : ∀ (ts : List TypeId) (vs : List Value) (ds : List (DataW H)) (ps : List MemPlace), (ts.all fun t => P.readableRec t && Nat.blt t P.types.size) = true →
    DataW.TrodAll enc P W 0 (fun _ => true) true ts vs ds ps → (∀ p ∈ ps, p.block < W.heap.size) → DataW.TrodAll enc P W' 0 (fun b => decide (b < W.heap.size)) true ts vs ds ps
  | [], [], [], ps, _, h, _ => h
  | t :: ts, v :: vs, d :: ds, ps, hr, h, hlt => by
    simp only [List.all_cons, Bool.and_eq_true] at hr
    obtain ⟨p, q, h1, h2, rfl⟩ := h
    exact ⟨p, q, Below.trod hl hr.1.1 (blt_lt hr.1.2) h1 hb (fun x hx => hlt x (by simp [hx])), trodAll_stays hl hb ts vs ds q (by simpa using hr.2) h2 (fun x hx => hlt x (by simp [hx])), rfl⟩
  | [], _ :: _, _, _, _, h, _ => by simp [DataW.TrodAll] at h
  | [], [], _ :: _, _, _, h, _ => by simp [DataW.TrodAll] at h
  | _ :: _, [], _, _, _, h, _ => by simp [DataW.TrodAll] at h
  | _ :: _, _ :: _, [], _, _, h, _ => by simp [DataW.TrodAll] at h
theorem post_law {f : Func} {s : ChangeSpec} {apart fresh handsOn : Bool} {W W' : World} {args : Array Value} {ds : List (DataW H)} {before : List MemPlace} {tb : TypeId} (hl : laidOutB P = true) (hr : (f.params.toList.all fun t => P.readableRec t && Nat.blt t P.types.size) = true)
    (hv : s.vars = []) (hres : f.resultTypes = #[tb]) (hub : P.underlying tb = some .bool) (hW : DataW.Whole enc P f.params.toList s.vars apart W args.toList ds [] before)
    (hfn : s.fn H ds = { results := [.lit (.bool true)], args := ds }) (hf : Frm W [] W') : s.post enc P f apart fresh handsOn false W args (.bool true) W' := by
  have hlt := hW.lt
  have hW' := hW
  obtain ⟨p, q, hA, hV, rfl, _, _⟩ := hW
  rw [hv] at hV
  have hq : q = [] := hV
  subst hq
  have hb := below_of_frm hf
  refine ⟨ds, [], _, [], p, [], hW', ?_, ?_, ?_, hb.frame _, fun h => by cases h⟩
  · rw [hres, List.append_nil, hfn]
    exact trodAll_mk1 (shut_bool hub true)
  · rw [List.append_nil, hfn]
    exact trodAll_stays hl hb _ _ _ _ hr hA (fun x hx => hlt x (by simp [hx]))
  · rw [List.append_nil, hfn, hv]
    rfl
def ArgOk (P : Program) (w : World) (fuel : Nat) (t : TypeId) (v : Value) : Prop := ∃ ds, Pures w (fun _ => False) v.cells.toList ds ∧ Fits P fuel t ds
theorem args_ok {w : World} {base : Nat} {spare : Nat → Bool} {held : Bool} {L : List TypeId} (hL : closedB P L = true) {t : TypeId} {v : Value} {d : DataW H} {ps : List MemPlace} (ht : t ∈ L) (h : DataW.Trod enc P w base spare held t v d ps) (hw : ∀ n ∈ d.weights P t, n ≤ reachBytes) : ∃ fuel, ArgOk P w fuel t v := by
  obtain ⟨fuel, h⟩ := h
  exact ⟨fuel, trod_pures hL fuel t _ _ ht h hw⟩
theorem calls_law {f : FuncId} {fn : Func} {s : ChangeSpec} {apart fresh handsOn : Bool} {W : World} {args : Array Value} {ds : List (DataW H)} {before : List MemPlace} {tb : TypeId} {Φp : List (Value × Dc)} (hl : laidOutB P = true) (hr : (fn.params.toList.all fun t => P.readableRec t && Nat.blt t P.types.size) = true)
    (hv : s.vars = []) (hres : fn.resultTypes = #[tb]) (hub : P.underlying tb = some .bool) (hW : DataW.Whole enc P fn.params.toList s.vars apart W args.toList ds [] before)
    (hfn : s.fn H ds = { results := [.lit (.bool true)], args := ds }) (tri : Tri P f args.toList [] Φp (fun o H Φ => o = .ret (.bool true) ∧ H = [] ∧ Φ = [])) (hΦ : ∀ p ∈ Φp, PureC W (fun _ => False) p.1 p.2) :
    Calls P f args W fun e W' => ∃ v, e = .returned v ∧ s.post enc P fn apart fresh handsOn false W args v W' := by
  have hown : Own W (fun _ => False) [] Φp := ⟨fun _ h => h.elim, by simp, by simp, by simp, by simp, fun p hp => (hΦ p hp).weaken (fun b hb => by rcases hb with hb | hb; exact hb; simp at hb)⟩
  have := tri W (fun _ => False) hown
  rw [show args.toList.toArray = args by simp] at this
  refine this.mono ?_
  rintro e W' ⟨out, rfl, H', Φ', ⟨rfl, rfl, rfl⟩, hf, _, _⟩
  exact ⟨_, rfl, post_law hl hr hv hres hub hW hfn hf⟩
end
end Go.Vc
