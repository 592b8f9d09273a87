import Derived.Test.YtdbnoblklhgdoaaGreatDoorVcJ
set_option linter.unusedVariables false
set_option linter.unusedSimpArgs false
namespace Go.Vc
open Go
section
variable {E : wx} {ops : Array Oper} {os : List Oper} {l : List (Nat × Value)} {H : List HB} {Φ : List (Value × Dc)} {N : SP} {Q : QS}
variable {op : Op} {ty : TypeId} {pos : String} {aft : Array Edge} {d : Nat}
theorem o_offU {j : Nat} {want : Bool} {dj : Nat} (hj : (ops[j]?).bind (·.dst) = some dj) (hl : xl dj l = some undef) (hd : Nat.blt d E.n = true)
  (h : WO E ops os ((d, undef) :: l) H Φ N Q) : WO E ops (⟨some d, op, ty, pos, aft, some (j, want)⟩ :: os) l H Φ N Q := by
 intro a w hs
 have hy : yielded ops a.tmps j = none := by
  unfold yielded
  rw [hj]
  simp only [Option.bind_some]
  rw [hs.tm dj _ hl]
  rfl
 have hne : ((none == some want) : Bool) = false := rfl
 simp only [wpL, Region.wanted, hy, hne, Bool.false_eq_true, if_false]
 exact h _ _ (hs.put_same (xe hd))
end
section
variable {E : wx} {ops : Array Oper} {H0 : List HB} {Φ0 : List (Value × Dc)} {fuel : Nat} {listed : Array Bool} {l : List (Nat × Value)} {H : List HB} {Φ : List (Value × Dc)} {N : SP} {Q : QS}
end
def SWs (w0 : World) (X : Nat -> Prop) (M : List Nat) (H : List HB) (Φ : List (Value × Dc)) : World -> Prop := fun w => Own w X H Φ /\ Frm w0 M w /\ ∀ b ∈ zQ H, w0.heap.size <= b \/ b ∈ M
theorem yi.cellsMono {w w' : World} {X : Nat -> Prop} {v : Value} {d : Dc} (h : yi w X v d) (hs : w.heap.size <= w'.heap.size) (hcell : ∀ (b i : Nat) (u : Value), w.cell? ⟨b, i, none⟩ = some u -> w'.cell? ⟨b, i, none⟩ = some u) (hkeep : ∀ (b : Nat) (o : Obj), w.heap[b]? = some o -> o.isCells = true -> w'.heap[b]? = w.heap[b]?) : yi w' X v d := by
 induction h with
 | int => exact .int _ _
 | bool => exact .bool _
 | str => exact .str _
 | own => exact .own _ _ _
 | nil => exact .nil _ _ _
 | slice b o len cap sz xs vs hlen hcap hXb hbb hsz hc he ih => exact .slice b o len cap sz xs vs hlen hcap hXb (Nat.lt_of_lt_of_le hbb hs) hsz (fun i j hi hj => hcell _ _ _ (hc i j hi hj)) ih
 | cl b o cs hXb hbb hc => exact .cl b o cs hXb (Nat.lt_of_lt_of_le hbb hs) (fun j hj => hcell _ _ _ (hc j hj))
 | «at» b cs T fz hXb hbb hc => exact .at b cs T fz hXb (Nat.lt_of_lt_of_le hbb hs) ((hkeep b _ hc rfl).trans hc)
theorem own_cells {w : World} {X : Nat -> Prop} {H : List HB} {Φ : List (Value × Dc)} (ho : Own w X H Φ) (hno : H.all HB.notDfr = true) {b : Nat} (hb : b ∈ zQ H) : ∃ o : Obj, w.heap[b]? = some o /\ o.isCells = true := by
 obtain ⟨h, hm, hbl⟩ := List.mem_filterMap.1 hb
 have hl := ho.live h hm
 cases h with
 | box b' T cs =>
  simp only [HB.blk, Option.some.injEq] at hbl
  subst hbl
  exact ⟨_, hl, rfl⟩
 | itr _ _ _ => exact absurd (List.all_eq_true.1 hno _ hm) (by simp [HB.notDfr])
 | mp _ _ => exact absurd (List.all_eq_true.1 hno _ hm) (by simp [HB.notDfr])
 | dfr D => exact absurd (List.all_eq_true.1 hno _ hm) (by simp [HB.notDfr])
 | row v T sz xs =>
  rcases hl with ⟨rfl, _⟩ | ⟨b', cap, arr, rfl, h1, _⟩
  ·simp [HB.blk] at hbl
  ·simp only [HB.blk, Option.some.injEq] at hbl
   subst hbl
   exact ⟨_, h1, rfl⟩
theorem own_grown {w w' : World} {X : Nat -> Prop} {H : List HB} {Φ : List (Value × Dc)} (ho : Own w X H Φ) (hno : H.all HB.notDfr = true) {row : Option Nat} (hg : w.grownBy w' row) (hr : ∀ r, row = some r -> ∃ o : Obj, w.heap[r]? = some o /\ o.isCells = false) : Own w' X H Φ := by
 have hkeep : ∀ (b : Nat) (o : Obj), w.heap[b]? = some o -> o.isCells = true -> w'.heap[b]? = w.heap[b]? := by
  intro b o hb hc
  refine hg.block b (Array.getElem?_eq_some_iff.1 hb).1 (fun e => ?_)
  obtain ⟨o', h1, h2⟩ := hr b e.symm
  rw [hb] at h1
  cases h1
  rw [hc] at h2
  cases h2
 have hcell : ∀ (b i : Nat) (u : Value), w.cell? ⟨b, i, none⟩ = some u -> w'.cell? ⟨b, i, none⟩ = some u := by
  intro b i u hu
  obtain ⟨o, h1, h2⟩ := cells_of_cell hu
  rw [World.cell?_of_block (w := w) (hkeep b o h1 h2)]
  exact hu
 have hpc : ∀ {Y : Nat -> Prop} {v : Value} {d : Dc}, yi w Y v d -> yi w' Y v d := fun hp => hp.cellsMono hg.size hcell hkeep
 refine ⟨fun b hb => Nat.lt_of_lt_of_le (ho.xin b hb) hg.size, ho.nodup, ho.apart, fun b hb => Nat.lt_of_lt_of_le (ho.inw b hb) hg.size, ?_, fun p hp => hpc (ho.facts p hp)⟩
 intro g hgm
 have hl := ho.live g hgm
 cases g with
 | box b T cs => exact (hkeep b _ hl rfl).trans hl
 | itr _ _ _ => exact absurd (List.all_eq_true.1 hno _ hgm) (by simp [HB.notDfr])
 | mp _ _ => exact absurd (List.all_eq_true.1 hno _ hgm) (by simp [HB.notDfr])
 | dfr D => exact absurd (List.all_eq_true.1 hno _ hgm) (by simp [HB.notDfr])
 | row v T sz xs =>
  rcases hl with hl | ⟨b, cap, arr, rfl, h1, h2, h3, h4, h5, h6⟩
  ·exact .inl hl
  ·refine .inr ⟨b, cap, arr, rfl, (hkeep b _ h1 rfl).trans h1, h2, h3, h4, h5, fun i j hi hj => ?_⟩
   obtain ⟨u, hu, hp⟩ := h6 i j hi hj
   exact ⟨u, hu, hpc hp⟩
theorem sws_own {β : Type} {B : Nat} {w0 : World} {X : Nat -> Prop} {M : List Nat} {H : β -> List HB} {Φ : β -> List (Value × Dc)} (hno : ∀ s, (H s).all HB.notDfr = true) (hB : w0.heap.size <= B) : OwnFrom B (fun (s : β) W => SWs w0 X M (H s) (Φ s) W) := by
 rintro s W W' row ⟨ho, hf, hb⟩ hg hr
 refine ⟨own_grown ho (hno s) hg (fun r e => (hr r e).2), ⟨hg.os.trans hf.os, hg.tape.trans hf.tape, hg.output.trans hf.output, Nat.le_trans hf.size hg.size, fun b hlt hm => ?_⟩, hb⟩
 rw [hg.block b (Nat.lt_of_lt_of_le hlt hf.size) (fun e => by have := (hr b e.symm).1; omega)]
 exact hf.block b hlt hm
theorem qX {B : Nat} {W W' : World} {X : Nat -> Prop} {H : List HB} {Φ : List (Value × Dc)} (ho : Own W X H Φ) (hno : H.all HB.notDfr = true) (hf : Frm W (zQ H) W') : KeepsFrom B W W' := by
 refine ⟨hf.size, fun k o _ hk hc => ?_⟩
 rw [hf.block k (Array.getElem?_eq_some_iff.1 hk).1 (fun hm => ?_)]
 ·exact hk
 ·obtain ⟨o', h1, h2⟩ := own_cells ho hno hm
  rw [hk] at h1
  cases h1
  rw [hc] at h2
  cases h2
theorem qQ {w0 W W' : World} {X : Nat -> Prop} {M : List Nat} {H H' : List HB} {Φ Φ' : List (Value × Dc)} (h : SWs w0 X M H Φ W) (h' : SWs W X (zQ H) H' Φ' W') : SWs w0 X M H' Φ' W' := by
 obtain ⟨ho, hf, hb⟩ := h
 obtain ⟨ho', hf', hb'⟩ := h'
 refine ⟨ho', ⟨hf'.os.trans hf.os, hf'.tape.trans hf.tape, hf'.output.trans hf.output, Nat.le_trans hf.size hf'.size, fun b hlt hm => ?_⟩, fun b hm => ?_⟩
 ·rw [hf'.block b (Nat.lt_of_lt_of_le hlt hf.size) (fun hin => ?_)]
  ·exact hf.block b hlt hm
  ·rcases hb b hin with h1 | h1
   ·omega
   ·exact hm h1
 ·rcases hb' b hm with h1 | h1
  ·exact .inl (Nat.le_trans hf.size h1)
  ·exact hb b h1
inductive RS (V : Type) where
 | next (v : V)
 | brk (v : V)
 | ret (v : V)
def wS {V : Type} (f : Int -> V -> Option (RS V)) : V -> List Int -> Option V
 | v, [] => some v
 | v, x :: xs => match f x v with
  | some (.next v') => wS f v' xs
  | _ => none
def runR {V : Type} (f : Int -> V -> Option (RS V)) : V -> List Int -> Option (RS V)
 | v, [] => some (.next v)
 | v, x :: xs => match f x v with
  | some (.next v') => runR f v' xs
  | some o => some o
  | none => none
section
variable {V : Type} {f : Int -> V -> Option (RS V)}
theorem gE : ∀ {pre : List Int} {v0 v v' : V} {x : Int}, wS f v0 pre = some v -> f x v = some (.next v') -> wS f v0 (pre ++ [x]) = some v'
 | [], v0, v, v', x, h, hx => by
  simp only [wS, Option.some.injEq] at h
  subst h
  simp only [List.nil_append, wS, hx]
 | y :: pre, v0, v, v', x, h, hx => by
  simp only [List.cons_append, wS] at h ⊢
  cases hy : f y v0 with
  | none => simp [hy] at h
  | some o =>
   cases o with
   | next u => simp only [hy] at h ⊢; exact gE h hx
   | brk u => simp [hy] at h
   | ret u => simp [hy] at h
theorem uD : ∀ {L : List Int} {v0 v : V}, wS f v0 L = some v -> runR f v0 L = some (.next v)
 | [], v0, v, h => by simp only [wS, Option.some.injEq] at h; subst h; rfl
 | y :: L, v0, v, h => by
  simp only [wS, runR] at h ⊢
  cases hy : f y v0 with
  | none => simp [hy] at h
  | some o =>
   cases o with
   | next u => simp only [hy] at h ⊢; exact uD h
   | brk u => simp [hy] at h
   | ret u => simp [hy] at h
theorem uC : ∀ {pre L : List Int} {v0 v : V} {x : Int} {o : RS V}, wS f v0 pre = some v -> f x v = some o -> (∀ u, o ≠ .next u) -> (pre ++ [x]) <+: L -> runR f v0 L = some o
 | [], L, v0, v, x, o, h, hx, hn, hp => by
  simp only [wS, Option.some.injEq] at h
  subst h
  obtain ⟨t, rfl⟩ := hp
  simp only [List.nil_append, List.cons_append, runR, hx]
 | y :: pre, L, v0, v, x, o, h, hx, hn, hp => by
  obtain ⟨t, rfl⟩ := hp
  simp only [List.cons_append, wS, runR] at h ⊢
  cases hy : f y v0 with
  | none => simp [hy] at h
  | some o' =>
   cases o' with
   | next u => simp only [hy] at h ⊢; exact uC h hx hn (List.prefix_append _ _)
   | brk u => simp [hy] at h
   | ret u => simp [hy] at h
end
def KpB (b : Nat) (o : Obj) (W W' : World) : Prop := W.heap[b]? = some o -> W'.heap[b]? = some o
section
variable {E : wx} {l : List (Nat × Value)} {H : List HB} {Φ : List (Value × Dc)} {N : SP} {Q : QS}
theorem own_dfr {w : World} {X : Nat -> Prop} {H : List HB} {Φ : List (Value × Dc)} (ho : Own w X H Φ) (hno : H.all HB.notDfr = true) {D : Nat} (hD : w.heap[D]? = some (.deferred (some []))) (hX : ¬ X D) : Own w X (.dfr D :: H) Φ := by
 have hbl : zQ (.dfr D :: H) = zQ H := by simp [xo, HB.blk]
 have hDH : D ∉ zQ H := by
  intro hm
  obtain ⟨o, h1, h2⟩ := own_cells ho hno hm
  rw [hD] at h1
  cases h1
  simp [Obj.isCells] at h2
 refine ⟨ho.xin, by rw [hbl]; exact ho.nodup, by rw [hbl]; exact ho.apart, by rw [hbl]; exact ho.inw, ?_, by rw [hbl]; exact ho.facts⟩
 intro g hg
 rw [hbl]
 rcases List.mem_cons.1 hg with rfl | hg
 ·exact ⟨hD, fun h => h.elim hX hDH⟩
 ·exact ho.live g hg
def wx.inRound (E : wx) (W : World) (H : List HB) (rd : Nat) : wx := ⟨E.P, E.n, W, E.X, zQ H, [], some rd⟩
def wx.after (E : wx) (D : Nat) : wx := ⟨E.P, E.n, E.w0, E.X, E.M, [coll D], E.rd⟩
theorem c_range {V U : Type} (f : Int -> V -> Option (RS V)) (v0 : V) (u0 : U) (L : List Int) (cnt : Nat) (Hs : V -> U -> List HB) (Φs : V -> U -> List (Value × Dc)) (lx : Int -> List (Nat × Value))
  {i p : Nat} {g : Operand} {assign body : Code} {gf : Nat} {lb : Array Value} {b : Nat} {T : TypeId} {cs : List Value} (hrd : E.rd = none) (hds : E.ds = [])
  (hg : xd l g = some (.func (.func gf) #[] lb)) (hc : zr E.P gf) (hp : Nat.blt p E.n = true)
  (hseq : ∀ w : World, w.heap[b]? = some (.cells cs.toArray T (0, 0)) -> SeqStopsK Fence.wide 0 E.P gf lb (fun x : Int => #[.int .u8 x]) (KpB b (.cells cs.toArray T (0, 0))) (· = L) (· <+: L) cnt w)
  (hbox : ∀ v u, HB.box b T cs ∈ Hs v u) (hno : ∀ v u, (Hs v u).all HB.notDfr = true)
  (hin : ∀ a w, St E l H Φ a w -> St E l (Hs v0 u0) (Φs v0 u0) a w)
  (hT : ∀ pre x v, wS f v0 pre = some v -> pre.length < cnt -> ∃ o, f x v = some o)
  (hassign : ∀ W rd x v u, WC (E.inRound W (Hs v u) rd) assign ((p, .int .u8 x) :: l) (Hs v u) (Φs v u) (fun a' W' => St (E.inRound W (Hs v u) rd) (lx x) (Hs v u) (Φs v u) a' W') ⟨[], fun _ _ => False, fun _ _ _ => False⟩)
  (hbody : ∀ W rd x v u o, f x v = some o -> WC (E.inRound W (Hs v u) rd) body (lx x) (Hs v u) (Φs v u)
   (fun _ W' => ∃ v' u', o = .next v' /\ SWs W E.X (zQ (Hs v u)) (Hs v' u') (Φs v' u') W')
   ⟨[(i, fun _ W' => ∃ v' u', o = .brk v' /\ SWs W E.X (zQ (Hs v u)) (Hs v' u') (Φs v' u') W')], fun _ W' => ∃ v' u', o = .ret v' /\ SWs W E.X (zQ (Hs v u)) (Hs v' u') (Φs v' u') W', fun _ _ _ => False⟩)
  (hdone : ∀ D v u, E.w0.heap.size <= D -> runR f v0 L = some (.next v) -> zT (E.after D) l (.dfr D :: Hs v u) (Φs v u) N)
  (hbrk : ∀ D v u, E.w0.heap.size <= D -> runR f v0 L = some (.brk v) -> zT (E.after D) l (.dfr D :: Hs v u) (Φs v u) (lk i Q.Xs))
  (hret : ∀ D v u, E.w0.heap.size <= D -> runR f v0 L = some (.ret v) -> zT (E.after D) l (.dfr D :: Hs v u) (Φs v u) Q.R) :
  WC E (.rangeFunc g #[p] assign body) l H Φ N Q := by
 intro a w hs0
 have hs := hin a w hs0
 have hEF : E.F = Fence.wide := by unfold wx.F; rw [hrd]; rfl
 have hb0 : w.heap[b]? = some (.cells cs.toArray T (0, 0)) := hs.own.live _ (hbox v0 u0)
 have hblt : b < w.heap.size := (Array.getElem?_eq_some_iff.1 hb0).1
 have hlive : ∀ {W : World} {v : V} {u : U} {w1 : World} {M : List Nat}, SWs w1 E.X M (Hs v u) (Φs v u) W -> W.heap[b]? = some (.cells cs.toArray T (0, 0)) := fun h => h.1.live _ (hbox _ _)
 have hpn := xe hp
 let I : List Int -> World -> Prop := fun pre W => ∃ s : V × U, wS f v0 pre = some s.1 /\ SWs E.w0 E.X E.M (Hs s.1 s.2) (Φs s.1 s.2) W
 let Ix : Code -> List Int -> World -> Prop := fun c pre W => ∃ s : V × U, (∃ pre' x v1, pre = pre' ++ [x] /\ wS f v0 pre' = some v1 /\ ((c = .exit i /\ f x v1 = some (.brk s.1)) \/ (c = .ret /\ f x v1 = some (.ret s.1)))) /\ SWs E.w0 E.X E.M (Hs s.1 s.2) (Φs s.1 s.2) W
 have hOwn : OwnFrom w.heap.size (fun (s : V × U) W => SWs E.w0 E.X E.M (Hs s.1 s.2) (Φs s.1 s.2) W) := sws_own (fun s => hno _ _) hs.frm.size
 have hI : OwnFrom w.heap.size I := fun pre W W' row ⟨s, h1, h2⟩ hg' hr => ⟨s, h1, hOwn s W W' row h2 hg' hr⟩
 have hIx : ∀ c, OwnFrom w.heap.size (Ix c) := fun c pre W W' row ⟨s, h1, h2⟩ hg' hr => ⟨s, h1, hOwn s W W' row h2 hg' hr⟩
 rw [hEF]
 refine wpIn_rangeFunc_ownH (F := Fence.wide) (n := 1) rfl (Nat.le_refl 1) (zE hs0 hg) trivial hc (hseq w hb0) (fun h k e => k (h e)) (fun W r o o' hr ho hcl _ e => ?_) (RowKit.Below.refl _ _) (fun _ => rfl)
  I Ix hI hIx ⟨(v0, u0), rfl, hs.own, hs.frm, hs.base⟩ (fun x a' _ => a'.tmps.size = E.n /\ a'.defers = [] /\ ∀ t v, xl t (lx x) = some v -> a'.tmps[t]? = some v) (fun x a' _ _ _ _ h _ _ => h) ?assign ?body ?done ?uz
 ·have hne : r ≠ b := by
   intro e'
   subst e'
   rw [ho] at e
   cases e
   simp [Obj.isCells] at hcl
  rw [World.putObj_heap_other (fun e => hne e.symm)]
  exact e
 case assign =>
  rintro rd pre x W K' ⟨⟨v, u⟩, hst, hsw⟩ hK
  have := hassign W rd x v u { tmps := ((#[p]).zip #[Value.int .u8 x]).foldl (fun t (q, y) => t.setIfInBounds q y) a.tmps, defers := [] } W ?_
  ·refine wpIn_mono (wpIn_n (E := E.inRound W (Hs v u) rd) (m := 0) this) ?_
   intro e a' W' he
   cases e with
   | normal =>
    have hb' : W'.heap[b]? = some (.cells cs.toArray T (0, 0)) := he.own.live _ (hbox _ _)
    exact hK a' W' (qX hsw.1 (hno _ _) he.frm) (fun _ => hb') ⟨(v, u), hst, qQ hsw ⟨he.own, he.frm, he.base⟩⟩ ⟨he.size, he.defers, he.tm⟩
   | exit id => exact he.elim
   | ret => exact he.elim
   | panic ch => obtain ⟨_, _, h⟩ := he; exact h.elim
   | goto _ => exact he.elim
   | outgrown => exact he.elim
  ·have hfold : ((#[p]).zip #[Value.int .u8 x]).foldl (fun t (q, y) => t.setIfInBounds q y) a.tmps = a.tmps.setIfInBounds p (.int .u8 x) := by simp
   rw [hfold]
   refine ⟨?_, rfl, ?_, hsw.1, Frm.refl _ _, fun b hb => .inr hb⟩
   ·show (a.tmps.setIfInBounds p (.int .u8 x)).size = E.n
    simp [hs0.size]
   ·exact qY (a := a) hs0.size hpn hs0.tm
 case body =>
  rintro rd pre x a' W hrd' _ ⟨⟨v, u⟩, hst, hsw⟩ ⟨hz, hdf, htm⟩ hlen
  obtain ⟨o, ho⟩ := hT pre x v hst hlen
  have := hbody W rd x v u o ho a' W ⟨hz, hdf, htm, hsw.1, Frm.refl _ _, fun b hb => .inr hb⟩
  refine wpIn_mono (wpIn_n (E := E.inRound W (Hs v u) rd) (m := 0) this) ?_
  intro e a'' W' he
  cases e with
  | normal =>
   obtain ⟨v', u', rfl, h⟩ := he
   exact ⟨qX hsw.1 (hno _ _) h.2.1, fun _ => hlive h, ⟨(v', u'), gE hst ho, qQ hsw h⟩⟩
  | exit id =>
   simp only [K, lk] at he
   cases hid : Nat.beq id i with
   | false => rw [hid] at he; exact he.elim
   | true =>
    rw [hid] at he
    have := Nat.eq_of_beq_eq_true hid
    subst this
    obtain ⟨v', u', rfl, h⟩ := he
    exact ⟨qX hsw.1 (hno _ _) h.2.1, ⟨(v', u'), ⟨pre, x, v, rfl, hst, .inl ⟨rfl, ho⟩⟩, qQ hsw h⟩⟩
  | ret =>
   obtain ⟨v', u', rfl, h⟩ := he
   exact ⟨qX hsw.1 (hno _ _) h.2.1, ⟨(v', u'), ⟨pre, x, v, rfl, hst, .inr ⟨rfl, ho⟩⟩, qQ hsw h⟩⟩
  | panic ch => obtain ⟨_, _, h⟩ := he; exact h.elim
  | goto _ => exact he.elim
  | outgrown => exact he.elim
 case done =>
  rintro D xs W hD rfl ⟨⟨v, u⟩, hst, hsw⟩ hdf
  have hD0 : E.w0.heap.size <= D := Nat.le_trans hs.frm.size hD
  refine hdone D v u hD0 (uD hst) _ W ⟨hs0.size, ?_, hs0.tm, ?_, hsw.2.1, fun b hb => hsw.2.2 b (by simpa [xo, HB.blk] using hb)⟩
  ·show coll D :: a.defers = _
   rw [hs0.defers, hds]; rfl
  ·exact own_dfr hsw.1 (hno _ _) hdf (fun hx => by have := hs0.own.xin D hx; omega)
 case uz =>
  rintro D c pre W hD hpre ⟨⟨v, u⟩, ⟨pre', x, v1, rfl, hst, hor⟩, hsw⟩ hdf
  have hD0 : E.w0.heap.size <= D := Nat.le_trans hs.frm.size hD
  have hst' : St (E.after D) l (.dfr D :: Hs v u) (Φs v u) { a with defers := { target := .collected D, args := #[] } :: a.defers } W := by
   refine ⟨hs0.size, ?_, hs0.tm, ?_, hsw.2.1, fun b hb => hsw.2.2 b (by simpa [xo, HB.blk] using hb)⟩
   ·show coll D :: a.defers = _
    rw [hs0.defers, hds]; rfl
   ·exact own_dfr hsw.1 (hno _ _) hdf (fun hx => by have := hs0.own.xin D hx; omega)
  rcases hor with ⟨rfl, hf⟩ | ⟨rfl, hf⟩
  ·exact wpIn_exit (hbrk D v u hD0 (uC hst hf (fun _ => by simp) hpre) _ W hst')
  ·exact wpIn_ret (hret D v u hD0 (uC hst hf (fun _ => by simp) hpre) _ W hst')
end
def gS (E : wx) (ops : Array Oper) (Q : Exit -> Act -> World -> Prop) : List Oper -> Act -> World -> Prop
 | [], a, w => Q .normal a w
 | o :: rest, a, w => if Region.wanted o (yielded ops a.tmps) then o.wpIn E.F 1 E.P a w (gS E ops Q rest) Q else gS E ops Q rest (a.put o.dst undef) w
theorem wpLI_at {E E' : wx} {ops : Array Oper} {Q : Exit -> Act -> World -> Prop} (hF : E'.F = E.F) (hP : E'.P = E.P) : ∀ {os : List Oper} {a : Act} {w : World}, gS E' ops Q os a w -> gS E ops Q os a w
 | [], _, _, h => h
 | o :: rest, a, w, h => by
  have e : gS E' ops Q rest = gS E ops Q rest := by
   funext a w
   exact propext ⟨wpLI_at hF hP, wpLI_at hF.symm hP.symm⟩
  simp only [gS, hF, hP, e] at h ⊢
  exact h
def WOI (E : wx) (ops : Array Oper) (os : List Oper) (l : List (Nat × Value)) (H : List HB) (Φ : List (Value × Dc)) (N : SP) (Q : QS) : Prop :=
 ∀ a w, St E l H Φ a w -> gS E ops (K N Q) os a w
theorem uponIn_mono {F : Fence} {n : Nat} {P : Program} {o : Oper} {a : Act} {r : Result Next} {K₁ K₂ : Act -> World -> Prop} {Q : Exit -> Act -> World -> Prop} (h : ∀ a w, K₁ a w -> K₂ a w) (hu : o.uponIn F n P a K₁ Q r) : o.uponIn F n P a K₂ Q r := by
 cases r with
 | ok x w' =>
  cases x <;> simp only [Oper.uponIn] at hu ⊢ <;>
   first
    | exact h _ _ hu
    | exact ⟨hu.1, CallsIn.mono hu.2 (fun e w'' he => by cases e <;> first | exact h _ _ he | exact he)⟩
    | exact ⟨hu.1, RowsIn.mono hu.2 (fun _ _ he => h _ _ he)⟩
    | exact ⟨hu.1, RoundIn.mono hu.2 (fun e w'' he => by cases e <;> first | exact h _ _ he | exact he)⟩
 | halt x w' => cases x <;> simp only [Oper.uponIn] at hu ⊢ <;> exact hu
theorem wpLI_ops {E : wx} {ops : Array Oper} {Q : Exit -> Act -> World -> Prop} : ∀ (n i : Nat) (a : Act) (w : World), i + n = ops.size -> gS E ops Q (ops.toList.drop i) a w -> wpOpsIn E.F 1 E.P ops Q (List.range' i n) a w
 | 0, i, a, w, h, hw => by
  rw [List.drop_eq_nil_of_le (by simp; omega)] at hw
  exact hw
 | n + 1, i, a, w, h, hw => by
  have hi : i < ops.size := by omega
  rw [List.drop_eq_getElem_cons (by simpa using hi)] at hw
  simp only [List.range'_succ, wpOpsIn]
  rw [Array.getElem?_eq_getElem hi]
  simp only [gS, Array.getElem_toList] at hw ⊢
  split
  ·rename_i hg
   rw [if_pos hg] at hw
   exact ⟨hw.1, uponIn_mono (fun a w h' => wpLI_ops n (i + 1) a w (by omega) h') hw.2⟩
  ·rename_i hg
   rw [if_neg hg] at hw
   exact ⟨fun _ _ => trivial, wpLI_ops n (i + 1) _ w (by omega) hw⟩
section
variable {E : wx} {ops : Array Oper} {l : List (Nat × Value)} {H : List HB} {Φ : List (Value × Dc)} {N : SP} {Q : QS}
theorem c_regionI {id : Nat} (h : WOI E ops ops.toList l H Φ N Q) : WC E (.region id ops false) l H Φ N Q := by
 intro a w hs
 refine wpIn_region ?_
 rw [List.range_eq_range']
 exact wpLI_ops ops.size 0 a w (by omega) (h a w hs)
theorem xY {o : Oper} {rest : List Oper} (hrd : E.rd = none) (h : WO E ops [o] l H Φ (fun a w => gS E ops (K N Q) rest a w) Q) : WOI E ops (o :: rest) l H Φ N Q := by
 intro a w hs
 have := h a w hs
 simp only [wpL, gS] at this ⊢
 split
 ·rename_i hg
  rw [if_pos hg] at this
  refine oper_wpIn (.inl hrd) (Oper.wp_Q (fun c a w h => h) (fun ⟨_, _, h⟩ => h.elim) this)
 ·rename_i hg
  rw [if_neg hg] at this
  exact this
theorem xx {rest : List Oper} (h : WOI E ops rest l H Φ N Q) : WO E ops [] l H Φ (fun a w => gS E ops (K N Q) rest a w) Q := h
theorem oi_nil (h : zT E l H Φ N) : WOI E ops [] l H Φ N Q := h
end
section
variable {E : wx} {l : List (Nat × Value)} {H : List HB} {Φ : List (Value × Dc)}
theorem st_sel {H' : List HB} {Φ' : List (Value × Dc)} (js : List Nat) (hH : wN js H = H') (hΦ : ∀ p ∈ Φ', p ∈ Φ) : ∀ a w, St E l H Φ a w -> St E l H' Φ' a w := by
 intro a w hs
 have hp := xL js H
 rw [hH] at hp
 refine ⟨hs.size, hs.defers, hs.tm, (hs.own.perm hp).sub (List.sublist_append_left _ _) hΦ, hs.frm, fun b hb => hs.base b ?_⟩
 refine ((hp.filterMap HB.blk).mem_iff).2 ?_
 rw [List.filterMap_append]
 exact List.mem_append.2 (.inl hb)
theorem sws_of {W : World} {H0 H' : List HB} {Φ' : List (Value × Dc)} {rd : Nat} {l' : List (Nat × Value)} {a : Act} {w : World} (hs : St (E.inRound W H0 rd) l' H' Φ' a w) : SWs W E.X (zQ H0) H' Φ' w := ⟨hs.own, hs.frm, hs.base⟩
end
section
variable {E : wx} {l : List (Nat × Value)} {H : List HB} {Φ : List (Value × Dc)} {ty : TypeId}
end
def Lent (H : List HB) (Φ : List (Value × Dc)) (p : Value × Dc) : Prop := p ∈ Φ \/ ∃ v T sz xs, p = (v, .slice sz xs) /\ HB.row v T sz xs ∈ H
theorem zv {H : List HB} {Φ : List (Value × Dc)} : ∀ p ∈ ([] : List (Value × Dc)), Lent H Φ p := fun _ h => by cases h
theorem zA {H : List HB} {Φ Φp : List (Value × Dc)} {p : Value × Dc} (j : Nat) (hj : Φ[j]? = some p) (h : ∀ q ∈ Φp, Lent H Φ q) : ∀ q ∈ p :: Φp, Lent H Φ q := by
 intro q hq
 rcases List.mem_cons.1 hq with rfl | hq
 ·exact .inl (List.mem_of_getElem? hj)
 ·exact h q hq
theorem lent_r {H : List HB} {Φ Φp : List (Value × Dc)} {v : Value} {T : TypeId} {sz : Nat} {xs : List (List Dc)} (j : Nat) (hj : H[j]? = some (.row v T sz xs)) (h : ∀ q ∈ Φp, Lent H Φ q) : ∀ q ∈ (v, Dc.slice sz xs) :: Φp, Lent H Φ q := by
 intro q hq
 rcases List.mem_cons.1 hq with rfl | hq
 ·exact .inr ⟨v, T, sz, xs, rfl, List.mem_of_getElem? hj⟩
 ·exact h q hq
section
variable {E : wx} {ops : Array Oper} {os : List Oper} {l : List (Nat × Value)} {H : List HB} {Φ : List (Value × Dc)} {N : SP} {Q : QS}
variable {ty : TypeId} {pos : String} {aft : Array Edge} {d : Nat}
theorem zu {f : FuncId} {args : Array Operand} {argTypes : Array TypeId} {vs : List Value} {Φp : List (Value × Dc)} {v : Value}
  (hc : zr E.P f) (ha : hZ l args.toList = some vs) (hΦ : ∀ p ∈ Φp, Lent H Φ p) (tri : xu E.P f vs [] Φp (fun o H Φ => o = .ret v /\ H = [] /\ Φ = [])) (hd : Nat.blt d E.n = true)
  (h : WO E ops os ((d, v) :: l) H Φ N Q) :
  WO E ops (⟨some d, .call ⟨.value (.func f), args, argTypes⟩, ty, pos, aft, none⟩ :: os) l H Φ N Q := by
 intro a w hs
 have hrun := qy (E := E) (dst := some d) (ty := ty) (pos := pos) (aft := aft) (argTypes := argTypes) (x := .func f) (cap := #[]) (w := w) hc rfl (vO hs args.toList vs ha)
 simp only [wpL, Region.wanted, if_true, Oper.wp, hrun, Oper.upon]
 have hown : Own w (fun _ => False) [] Φp := by
  refine ⟨fun _ h => h.elim, by simp, by simp, by simp, by simp, fun p hp => ?_⟩
  rcases hΦ p hp with hp | ⟨v', T, sz, xs, rfl, hm⟩
  ·exact (hs.own.facts p hp).weaken (fun b hb => by rcases hb with hb | hb; exact hb.elim; simp at hb)
  ·exact (hs.own.live _ hm).pure (fun b hb => ⟨fun hx => by rcases hx with hx | hx; exact hx; simp at hx, hs.own.inw b (xa hm hb)⟩) (fun b hb => by rcases hb with hb | hb; exact hb.elim; simp at hb)
 have := tri w (fun _ => False) hown
 simp only [List.append_nil] at this ⊢
 refine this.mono ?_
 rintro e w' ⟨out, rfl, H', Φ', ⟨rfl, rfl, rfl⟩, hf, _, _⟩
 have hold : ∀ b, b < w.heap.size -> w'.heap[b]? = w.heap[b]? := fun b hb => hf.block b hb (by simp)
 have hs' : St E l H Φ a w' := ⟨hs.size, hs.defers, hs.tm, hs.own.grow hf.size hold, ⟨hf.os.trans hs.frm.os, hf.tape.trans hs.frm.tape, hf.output.trans hs.frm.output, Nat.le_trans hs.frm.size hf.size, fun b hlt hm => by rw [hold b (Nat.lt_of_lt_of_le hlt hs.frm.size)]; exact hs.frm.block b hlt hm⟩, hs.base⟩
 exact h _ w' (hs'.put_same (xe hd))
end
def AllL (p : Nat -> Prop) : List Nat -> Prop
 | [] => True
 | i :: r => p i /\ AllL p r
theorem AllL.get {p : Nat -> Prop} : ∀ {l : List Nat}, AllL p l -> ∀ i ∈ l, p i
 | j :: r, h, i, hi => by
  rcases List.mem_cons.1 hi with rfl | hi
  ·exact h.1
  ·exact AllL.get h.2 i hi
section
variable {E : wx} {ops : Array Oper} {H0 : List HB} {Φ0 : List (Value × Dc)} {fuel : Nat} {listed : Array Bool} {l : List (Nat × Value)} {H : List HB} {Φ : List (Value × Dc)} {N : SP} {Q : QS}
theorem wr (is : List Nat) (hr : Region.ready .any ops listed = is) (hne : is ≠ []) (h : AllL (fun i => ∃ o, ops[i]? = some o /\ WO E ops [o] l H Φ (DN E ops H0 Φ0 fuel (listed.setIfInBounds i true) N Q) Q) is) : WA E ops H0 Φ0 (fuel + 1) listed l H Φ N Q := by
 intro a w hst _
 refine wpAnyH_all hr hne ?_
 intro k hk
 obtain ⟨o, ho, hw⟩ := h.get k hk
 exact wpOp_of_WO ho (hw a w hst)
end
end Go.Vc
