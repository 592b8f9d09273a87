import Derived.OrdersHeld
import Derived.Below
import Derived.RangeFuncNested
set_option linter.unusedVariables false
set_option linter.unusedSimpArgs false
namespace Go.Vc
open Go
def bs (l : List UInt8) : ByteArray := ⟨⟨l⟩⟩
inductive Dc where
 | int (k : IntKind) (n : Int)
 | bool (b : Bool)
 | str (s : List UInt8)
 | slice (sz : Nat) (xs : List (List Dc))
 | at (cs : List Value)      -- of a pointer to a block: the block holds just these cells
 | cl (cs : List Value)      -- of a pointer: just these cells lie there
 | own (a : Option Addr) (n c : Nat)      -- just this slice, whatever it holds
inductive yi (w : World) (X : Nat -> Prop) : Value -> Dc -> Prop
 | int (k : IntKind) (n : Int) : yi w X (.int k n) (.int k n)
 | bool (b : Bool) : yi w X (.bool b) (.bool b)
 | str (s : List UInt8) : yi w X (.string (bs s)) (.str s)
 | own (a : Option Addr) (n c : Nat) : yi w X (.slice a n c) (.own a n c)
 | nil (a : Option Addr) (cap sz : Nat) : yi w X (.slice a 0 cap) (.slice sz [])
 | slice (b o len cap sz : Nat) (xs : List (List Dc)) (vs : Nat -> Nat -> Value) (hlen : xs.length = len) (hcap : len <= cap) (hX : ¬ X b) (hb : b < w.heap.size)
   (hsz : ∀ e ∈ xs, e.length = sz)
   (hc : ∀ i j, i < len -> j < sz -> w.cell? ⟨b, o + (i * sz + j), none⟩ = some (vs i j))
   (he : ∀ i j (hi : i < xs.length) (hj : j < xs[i].length), yi w X (vs i j) (xs[i][j])) :
   yi w X (.slice (some ⟨b, o, none⟩) len cap) (.slice sz xs)
 | cl (b o : Nat) (cs : List Value) (hX : ¬ X b) (hb : b < w.heap.size) (hc : ∀ j (hj : j < cs.length), w.cell? ⟨b, o + j, none⟩ = some cs[j]) : yi w X (.pointer (some ⟨b, o, none⟩)) (.cl cs)
 | at (b : Nat) (cs : List Value) (T : TypeId) (fz : Nat × Nat) (hX : ¬ X b) (hb : b < w.heap.size) (hc : w.heap[b]? = some (.cells cs.toArray T fz)) : yi w X (.pointer (some ⟨b, 0, none⟩)) (.at cs)
theorem yi.mono {w w' : World} {X X' : Nat -> Prop} {v : Value} {d : Dc} (h : yi w X v d) (hs : w.heap.size <= w'.heap.size)
  (hb : ∀ b, b < w.heap.size -> ¬ X b -> w'.heap[b]? = w.heap[b]?) (hX : ∀ b, b < w.heap.size -> X' b -> X b) : yi w' X' v d := by
 induction h with
 | int => exact .int _ _
 | bool => exact .bool _
 | str => exact .str _
 | own => exact .own _ _ _
 | nil => exact .nil _ _ _
 | slice b o len cap sz xs vs hlen hcap hXb hbb hsz hc he ih =>
  refine .slice b o len cap sz xs vs hlen hcap (fun h => hXb (hX b hbb h)) (Nat.lt_of_lt_of_le hbb hs) hsz (fun i j hi hj => ?_) ih
  rw [World.cell?_of_block (w := w) (hb b hbb hXb)]
  exact hc i j hi hj
 | cl b o cs hXb hbb hc =>
  refine .cl b o cs (fun h => hXb (hX b hbb h)) (Nat.lt_of_lt_of_le hbb hs) (fun j hj => ?_)
  rw [World.cell?_of_block (w := w) (hb b hbb hXb)]
  exact hc j hj
 | «at» b cs T fz hXb hbb hc => exact .at b cs T fz (fun h => hXb (hX b hbb h)) (Nat.lt_of_lt_of_le hbb hs) ((hb b hbb hXb).trans hc)
theorem yi.weaken {w : World} {X X' : Nat -> Prop} {v : Value} {d : Dc} (h : yi w X v d) (hX : ∀ b, X' b -> X b) : yi w X' v d :=
 h.mono (Nat.le_refl _) (fun _ _ _ => rfl) (fun b _ => hX b)
inductive HB where
 | box (b : Nat) (T : TypeId) (cs : List Value)
 | row (v : Value) (T : TypeId) (sz : Nat) (xs : List (List Dc))
 | itr (b : Nat) (s : List UInt8) (pos : Int)      -- how far a range over a text has come
 | mp (b : Nat) (es : List (Value × Value))      -- a map: its keys, each with what it leads to
 | dfr (D : Nat)      -- where a range over a function keeps the calls that its rounds defer: none
def HB.blk : HB -> Option Nat
 | .box b _ _ => some b
 | .itr b _ _ => some b
 | .mp b _ => some b
 | .dfr _ => none
 | .row (.slice (some a) _ _) _ _ _ => some a.block
 | .row _ _ _ _ => none
def zQ (H : List HB) : List Nat := H.filterMap HB.blk
@[simp] theorem blks_nil : zQ [] = [] := rfl
@[simp] theorem zZ (H₁ H₂ : List HB) : zQ (H₁ ++ H₂) = zQ H₁ ++ zQ H₂ := by simp [zQ]
theorem xo (h : HB) (H : List HB) : zQ (h :: H) = h.blk.toList ++ zQ H := by
 unfold zQ
 cases hb : h.blk <;> simp [hb]
def Live (w : World) (X : Nat -> Prop) : HB -> Prop
 | .box b T cs => w.heap[b]? = some (.cells cs.toArray T (0, 0))
 | .itr b s pos => w.heap[b]? = some (.stringIter (bs s) pos.toNat) /\ 0 <= pos
 | .mp b es => ∃ ents clock, w.heap[b]? = some (.map ents clock) /\ ents.toList.map (fun e => (e.key, e.val)) = es
 | .dfr D => w.heap[D]? = some (.deferred (some [])) /\ ¬ X D
 | .row v T sz xs => (v = .slice none 0 0 /\ xs = []) \/
   ∃ b cap arr, v = .slice (some ⟨b, 0, none⟩) xs.length cap /\ w.heap[b]? = some (.cells arr T (0, 0)) /\ cap <= maxLen /\ arr.size = cap * sz /\
    xs.length <= cap /\ (∀ e ∈ xs, e.length = sz) /\ ∀ i j (hi : i < xs.length) (hj : j < xs[i].length), ∃ u, arr[i * sz + j]? = some u /\ yi w X u xs[i][j]
structure Own (w : World) (X : Nat -> Prop) (H : List HB) (Φ : List (Value × Dc)) : Prop where
 xin : ∀ b, X b -> b < w.heap.size
 nodup : (zQ H).Nodup
 apart : ∀ b ∈ zQ H, ¬ X b
 inw : ∀ b ∈ zQ H, b < w.heap.size
 live : ∀ h ∈ H, Live w (fun b => X b \/ b ∈ zQ H) h
 facts : ∀ p ∈ Φ, yi w (fun b => X b \/ b ∈ zQ H) p.1 p.2
structure Frm (w0 : World) (M : List Nat) (w : World) : Prop where
 os : w.os = w0.os
 tape : w.tape = w0.tape
 output : w.output = w0.output
 size : w0.heap.size <= w.heap.size
 block : ∀ b, b < w0.heap.size -> b ∉ M -> w.heap[b]? = w0.heap[b]?
theorem Frm.refl (w : World) (M : List Nat) : Frm w M w := ⟨rfl, rfl, rfl, Nat.le_refl _, fun _ _ _ => rfl⟩
theorem Live.mono {w w' : World} {X X' : Nat -> Prop} {h : HB} (hl : Live w X h) (hs : w.heap.size <= w'.heap.size) (hown : ∀ b, h.blk = some b -> w'.heap[b]? = w.heap[b]?)
  (hb : ∀ b, b < w.heap.size -> ¬ X b -> w'.heap[b]? = w.heap[b]?) (hX : ∀ b, b < w.heap.size -> X' b -> X b) : Live w' X' h := by
 cases h with
 | box b T cs => simp only [Live] at hl ⊢; rw [hown b rfl]; exact hl
 | itr b s pos => simp only [Live] at hl ⊢; rw [hown b rfl]; exact hl
 | mp b es => simp only [Live] at hl ⊢; rw [hown b rfl]; exact hl
 | dfr D =>
  have hlt : D < w.heap.size := (Array.getElem?_eq_some_iff.1 hl.1).1
  exact ⟨(hb D hlt hl.2).trans hl.1, fun hx => hl.2 (hX D hlt hx)⟩
 | row v T sz xs =>
  rcases hl with hl | ⟨b, cap, arr, rfl, h1, h2, h3, h4, h5, h6⟩
  ·exact .inl hl
  ·refine .inr ⟨b, cap, arr, rfl, ?_, h2, h3, h4, h5, fun i j hi hj => ?_⟩
   ·rw [hown b rfl]; exact h1
   ·obtain ⟨u, hu, hp⟩ := h6 i j hi hj
    exact ⟨u, hu, hp.mono hs hb hX⟩
theorem xa {H : List HB} {h : HB} (hm : h ∈ H) {b : Nat} (hb : h.blk = some b) : b ∈ zQ H := List.mem_filterMap.2 ⟨h, hm, hb⟩
theorem gN {H₁ H₂ : List HB} {h : HB} {b : Nat} (hb : h.blk = some b) : zQ (H₁ ++ h :: H₂) = zQ H₁ ++ b :: zQ H₂ := by
 simp [xo, hb]
theorem Own.replace {w w' : World} {X : Nat -> Prop} {H₁ H₂ : List HB} {h h' : HB} {Φ : List (Value × Dc)} (o : Own w X (H₁ ++ h :: H₂) Φ)
  (hs : w.heap.size <= w'.heap.size) (hold : ∀ b, b < w.heap.size -> h.blk ≠ some b -> w'.heap[b]? = w.heap[b]?)
  (hnew : ∀ b, h'.blk = some b -> (h.blk = some b \/ w.heap.size <= b) /\ b < w'.heap.size)
  (hlive : Live w' (fun b => X b \/ b ∈ zQ (H₁ ++ h' :: H₂)) h') : Own w' X (H₁ ++ h' :: H₂) Φ := by
 have hsub : ∀ b, b ∈ zQ (H₁ ++ h' :: H₂) -> b < w.heap.size -> b ∈ zQ (H₁ ++ h :: H₂) := by
  intro b hb hlt
  simp only [zZ, xo, List.mem_append, Option.mem_toList] at hb ⊢
  rcases hb with hb | hb | hb
  ·exact .inl hb
  ·rcases (hnew b hb).1 with h0 | h0
   ·exact .inr (.inl h0)
   ·omega
  ·exact .inr (.inr hb)
 have hrest : ∀ b, b ∈ zQ H₁ \/ b ∈ zQ H₂ -> h'.blk ≠ some b := by
  intro b hb he
  rcases (hnew b he).1 with h0 | h0
  ·have := o.nodup
   rw [gN h0] at this
   have h2 := List.nodup_append.1 this
   have h3 := List.nodup_cons.1 h2.2.1
   rcases hb with hb | hb
   ·exact h2.2.2 b hb b List.mem_cons_self rfl
   ·exact h3.1 hb
  ·have : b < w.heap.size := o.inw b (by simp only [zZ, xo, List.mem_append]; rcases hb with hb | hb; exact .inl hb; exact .inr (.inr hb))
   omega
 refine ⟨fun b hb => Nat.lt_of_lt_of_le (o.xin b hb) hs, ?_, ?_, ?_, ?_, ?_⟩
 ·have hn := o.nodup
  simp only [zZ, xo] at hn ⊢
  have h1 := List.nodup_append.1 hn
  have h2 := List.nodup_append.1 h1.2.1
  refine List.nodup_append.2 ⟨h1.1, List.nodup_append.2 ⟨?_, h2.2.1, ?_⟩, ?_⟩
  ·cases h'.blk <;> simp
  ·intro b hb c hc he
   subst he
   exact hrest b (.inr hc) (by simpa using hb)
  ·intro b hb c hc he
   subst he
   rcases List.mem_append.1 hc with hc | hc
   ·exact hrest b (.inl hb) (by simpa using hc)
   ·exact h1.2.2 b hb b (List.mem_append.2 (.inr hc)) rfl
 ·intro b hb hx
  exact o.apart b (hsub b hb (o.xin b hx)) hx
 ·intro b hb
  simp only [zZ, xo, List.mem_append, Option.mem_toList] at hb
  rcases hb with hb | hb | hb
  ·exact Nat.lt_of_lt_of_le (o.inw b (by simp [hb])) hs
  ·exact (hnew b hb).2
  ·exact Nat.lt_of_lt_of_le (o.inw b (by simp [xo, hb])) hs
 ·intro g hg
  have hX' : ∀ b, b < w.heap.size -> (X b \/ b ∈ zQ (H₁ ++ h' :: H₂)) -> (X b \/ b ∈ zQ (H₁ ++ h :: H₂)) := fun b hb hx => hx.imp id (fun hm => hsub b hm hb)
  have hother : ∀ g, g ∈ H₁ \/ g ∈ H₂ -> Live w' (fun b => X b \/ b ∈ zQ (H₁ ++ h' :: H₂)) g := by
   intro g hg
   have hgm : g ∈ H₁ ++ h :: H₂ := by rcases hg with hg | hg <;> simp [hg]
   refine (o.live g hgm).mono hs (fun b hb => hold b (o.inw b (xa hgm hb)) ?_) (fun b hb hx => hold b hb ?_) hX'
   ·intro he
    have := o.nodup
    rw [gN he] at this
    have h2 := List.nodup_append.1 this
    have h3 := List.nodup_cons.1 h2.2.1
    rcases hg with hg | hg
    ·exact h2.2.2 b (xa hg hb) b List.mem_cons_self rfl
    ·exact h3.1 (xa hg hb)
   ·intro he
    exact hx (.inr (xa (h := h) (by simp) he))
  rcases List.mem_append.1 hg with hg | hg
  ·exact hother g (.inl hg)
  ·rcases List.mem_cons.1 hg with rfl | hg
   ·exact hlive
   ·exact hother g (.inr hg)
 ·intro p hp
  refine (o.facts p hp).mono hs (fun b hb hx => hold b hb ?_) (fun b hb hx => hx.imp id (fun hm => hsub b hm hb))
  intro he
  exact hx (.inr (xa (h := h) (by simp) he))
theorem Own.insert {w w' : World} {X : Nat -> Prop} {H : List HB} {h' : HB} {Φ : List (Value × Dc)} (o : Own w X H Φ)
  (hs : w.heap.size <= w'.heap.size) (hold : ∀ b, b < w.heap.size -> w'.heap[b]? = w.heap[b]?) (hnew : ∀ b, h'.blk = some b -> w.heap.size <= b /\ b < w'.heap.size)
  (hlive : Live w' (fun b => X b \/ b ∈ zQ (h' :: H)) h') : Own w' X (h' :: H) Φ := by
 have o0 : Own w X ([] ++ HB.row (.slice none 0 0) 0 0 [] :: H) Φ := by
  have e : zQ ([] ++ HB.row (.slice none 0 0) 0 0 [] :: H) = zQ H := by simp [xo, HB.blk]
  refine ⟨o.xin, by rw [e]; exact o.nodup, by rw [e]; exact o.apart, by rw [e]; exact o.inw, ?_, by rw [e]; exact o.facts⟩
  intro g hg
  rw [e]
  rcases List.mem_cons.1 hg with rfl | hg
  ·exact .inl ⟨rfl, rfl⟩
  ·exact o.live g hg
 exact o0.replace (h' := h') hs (fun b hb _ => hold b hb) (fun b hb => ⟨.inr (hnew b hb).1, (hnew b hb).2⟩) hlive
theorem yi.atRec {w w' : World} {X : Nat -> Prop} {v : Value} {d : Dc} (h : yi w X v d) (D : Nat) {o : Obj} (ho : w.heap[D]? = some o) (hc : o.isCells = false) (hs : w'.heap.size = w.heap.size) (hb : ∀ b, b ≠ D -> w'.heap[b]? = w.heap[b]?) : yi w' X v d := by
 have hcell : ∀ (b i : Nat) (u : Value), w.cell? ⟨b, i, none⟩ = some u -> w'.cell? ⟨b, i, none⟩ = some u := by
  intro b i u hu
  have hne : b ≠ D := by
   intro e
   subst e
   simp only [World.cell?, ho] at hu
   cases o <;> simp [Obj.isCells] at hc hu
  rw [World.cell?_of_block (w := w) (hb b hne)]
  exact hu
 induction h with
 | int => exact .int _ _
 | bool => exact .bool _
 | str => exact .str _
 | own => exact .own _ _ _
 | nil => exact .nil _ _ _
 | slice b o len cap sz xs vs hlen hcap hXb hbb hsz hc he ih => exact .slice b o len cap sz xs vs hlen hcap hXb (by rw [hs]; exact hbb) hsz (fun i j hi hj => hcell _ _ _ (hc i j hi hj)) ih
 | cl b o cs hXb hbb hc => exact .cl b o cs hXb (by rw [hs]; exact hbb) (fun j hj => hcell _ _ _ (hc j hj))
 | «at» b cs T fz hXb hbb hb2 =>
  have hne : b ≠ D := by
   intro e
   subst e
   rw [ho] at hb2
   cases hb2
   simp [Obj.isCells] at hc
  exact .at b cs T fz hXb (by rw [hs]; exact hbb) ((hb b hne).trans hb2)
theorem Own.sub {w : World} {X : Nat -> Prop} {H H' : List HB} {Φ Φ' : List (Value × Dc)} (o : Own w X H Φ) (hH : H'.Sublist H) (hΦ : ∀ p ∈ Φ', p ∈ Φ) : Own w X H' Φ' := by
 have hb : (zQ H').Sublist (zQ H) := hH.filterMap _
 have hm : ∀ b, b ∈ zQ H' -> b ∈ zQ H := fun b h => hb.subset h
 exact ⟨o.xin, o.nodup.sublist hb, fun b h => o.apart b (hm b h), fun b h => o.inw b (hm b h),
  fun h hh => (o.live h (hH.subset hh)).mono (Nat.le_refl _) (fun _ _ => rfl) (fun _ _ _ => rfl) (fun b _ hx => hx.imp id (hm b)),
  fun p hp => (o.facts p (hΦ p hp)).weaken (fun b hx => hx.imp id (hm b))⟩
theorem Own.grow {w w' : World} {X : Nat -> Prop} {H : List HB} {Φ : List (Value × Dc)} (o : Own w X H Φ) (hs : w.heap.size <= w'.heap.size) (hold : ∀ b, b < w.heap.size -> w'.heap[b]? = w.heap[b]?) : Own w' X H Φ :=
 ⟨fun b hb => Nat.lt_of_lt_of_le (o.xin b hb) hs, o.nodup, o.apart, fun b h => Nat.lt_of_lt_of_le (o.inw b h) hs,
  fun h hh => (o.live h hh).mono hs (fun b hb => hold b (o.inw b (xa hh hb))) (fun b hb _ => hold b hb) (fun _ _ hx => hx),
  fun p hp => (o.facts p hp).mono hs (fun b hb _ => hold b hb) (fun _ _ hx => hx)⟩
theorem Own.addFact {w : World} {X : Nat -> Prop} {H : List HB} {Φ : List (Value × Dc)} (o : Own w X H Φ) {v : Value} {d : Dc} (h : yi w (fun b => X b \/ b ∈ zQ H) v d) : Own w X H ((v, d) :: Φ) :=
 ⟨o.xin, o.nodup, o.apart, o.inw, o.live, fun p hp => by
  rcases List.mem_cons.1 hp with rfl | hp
  ·exact h
  ·exact o.facts p hp⟩
theorem Live.pure {w : World} {X Y : Nat -> Prop} {v : Value} {T : TypeId} {sz : Nat} {xs : List (List Dc)} (hl : Live w X (.row v T sz xs)) (hb : ∀ b, HB.blk (.row v T sz xs) = some b -> ¬ Y b /\ b < w.heap.size)
  (hY : ∀ b, Y b -> X b) : yi w Y v (.slice sz xs) := by
 rcases hl with ⟨rfl, rfl⟩ | ⟨b, cap, arr, rfl, h1, h2, h3, h4, h5, h6⟩
 ·exact .nil _ _ _
 ·obtain ⟨hYb, hlt⟩ := hb b rfl
  refine .slice b 0 _ cap sz xs (fun i j => (arr[i * sz + j]?).getD undef) rfl h4 hYb hlt h5 (fun i j hi hj => ?_) (fun i j hi hj => ?_)
  ·have hlen : xs[i].length = sz := h5 _ (List.getElem_mem hi)
   obtain ⟨u, hu, _⟩ := h6 i j hi (by rw [hlen]; exact hj)
   simp only [World.cell?, h1, Nat.zero_add, hu, Option.isSome_none, Bool.false_eq_true, if_false, Option.getD_some]
  ·obtain ⟨u, hu, hp⟩ := h6 i j hi hj
   simp only [hu, Option.getD_some]
   exact hp.weaken hY
theorem Own.freeze {w : World} {X : Nat -> Prop} {H₁ H₂ : List HB} {v : Value} {T : TypeId} {sz : Nat} {xs : List (List Dc)} {Φ : List (Value × Dc)} (o : Own w X (H₁ ++ .row v T sz xs :: H₂) Φ) :
  Own w X (H₁ ++ H₂) ((v, .slice sz xs) :: Φ) := by
 have hsub : (H₁ ++ H₂).Sublist (H₁ ++ .row v T sz xs :: H₂) := (List.Sublist.refl H₁).append (List.Sublist.cons _ (List.Sublist.refl H₂))
 refine (o.sub hsub (fun _ h => h)).addFact ?_
 have hm : HB.row v T sz xs ∈ H₁ ++ .row v T sz xs :: H₂ := by simp
 refine (o.live _ hm).pure (fun b hb => ⟨?_, o.inw b (xa hm hb)⟩) (fun b hx => hx.imp id (fun h => (hsub.filterMap _).subset h))
 rintro (hx | hx)
 ·exact o.apart b (xa hm hb) hx
 ·have := o.nodup
  rw [gN hb] at this
  have h2 := List.nodup_append.1 this
  have h3 := List.nodup_cons.1 h2.2.1
  rw [zZ] at hx
  rcases List.mem_append.1 hx with hx | hx
  ·exact h2.2.2 b hx b List.mem_cons_self rfl
  ·exact h3.1 hx
end Go.Vc
