/-
  What memory is worth to a proof: data read out of cells ('PureC'), blocks that the call owns ('Live', 'Own'), and what has not turned ('Frm').
-/
import Derived.OrdersHeld
import Derived.Below
import Derived.RangeFuncNested
set_option linter.unusedVariables false
set_option linter.unusedSimpArgs false
namespace Go.Vc
open Go
def bs (l : List UInt8) : ByteArray := ⟨⟨l⟩⟩
inductive Dc where
  | int (k : IntKind) (n : Int)
  | bool (b : Bool)
  | str (s : List UInt8)
  | slice (sz : Nat) (xs : List (List Dc))
  | at (cs : List Value)      -- of a pointer to a block: the block holds just these cells
  | cl (cs : List Value)      -- of a pointer: just these cells lie there
  | own (a : Option Addr) (n c : Nat)      -- just this slice, whatever it holds
  | mp (b : Nat)      -- just this map
inductive PureC (w : World) (X : Nat → Prop) : Value → Dc → Prop
  | int (k : IntKind) (n : Int) : PureC w X (.int k n) (.int k n)
  | bool (b : Bool) : PureC w X (.bool b) (.bool b)
  | str (s : List UInt8) : PureC w X (.string (bs s)) (.str s)
  | own (a : Option Addr) (n c : Nat) : PureC w X (.slice a n c) (.own a n c)
  | mp (b : Nat) : PureC w X (.map (some b)) (.mp b)
  | nil (a : Option Addr) (cap sz : Nat) : PureC w X (.slice a 0 cap) (.slice sz [])
  | slice (b o len cap sz : Nat) (xs : List (List Dc)) (vs : Nat → Nat → Value) (hlen : xs.length = len) (hcap : len ≤ cap) (hX : ¬ X b) (hb : b < w.heap.size)
      (hsz : ∀ e ∈ xs, e.length = sz)
      (hc : ∀ i j, i < len → j < sz → w.cell? ⟨b, o + (i * sz + j), none⟩ = some (vs i j))
      (he : ∀ i j (hi : i < xs.length) (hj : j < xs[i].length), PureC w X (vs i j) (xs[i][j])) :
      PureC w X (.slice (some ⟨b, o, none⟩) len cap) (.slice sz xs)
  | cl (b o : Nat) (cs : List Value) (hX : ¬ X b) (hb : b < w.heap.size) (hc : ∀ j (hj : j < cs.length), w.cell? ⟨b, o + j, none⟩ = some cs[j]) : PureC w X (.pointer (some ⟨b, o, none⟩)) (.cl cs)
  | at (b : Nat) (cs : List Value) (T : TypeId) (fz : Nat × Nat) (hX : ¬ X b) (hb : b < w.heap.size) (hc : w.heap[b]? = some (.cells cs.toArray T fz)) : PureC w X (.pointer (some ⟨b, 0, none⟩)) (.at cs)
theorem PureC.mono {w w' : World} {X X' : Nat → Prop} {v : Value} {d : Dc} (h : PureC w X v d) (hs : w.heap.size ≤ w'.heap.size)
    (hb : ∀ b, b < w.heap.size → ¬ X b → w'.heap[b]? = w.heap[b]?) (hX : ∀ b, b < w.heap.size → X' b → X b) : PureC w' X' v d := by
  induction h with
  | int => exact .int _ _
  | bool => exact .bool _
  | str => exact .str _
  | own => exact .own _ _ _
  | mp => exact .mp _
  | nil => exact .nil _ _ _
  | slice b o len cap sz xs vs hlen hcap hXb hbb hsz hc he ih =>
    refine .slice b o len cap sz xs vs hlen hcap (fun h => hXb (hX b hbb h)) (Nat.lt_of_lt_of_le hbb hs) hsz (fun i j hi hj => ?_) ih
    rw [World.cell?_of_block (w := w) (hb b hbb hXb)]
    exact hc i j hi hj
  | cl b o cs hXb hbb hc =>
    refine .cl b o cs (fun h => hXb (hX b hbb h)) (Nat.lt_of_lt_of_le hbb hs) (fun j hj => ?_)
    rw [World.cell?_of_block (w := w) (hb b hbb hXb)]
    exact hc j hj
  | «at» b cs T fz hXb hbb hc => exact .at b cs T fz (fun h => hXb (hX b hbb h)) (Nat.lt_of_lt_of_le hbb hs) ((hb b hbb hXb).trans hc)
theorem PureC.weaken {w : World} {X X' : Nat → Prop} {v : Value} {d : Dc} (h : PureC w X v d) (hX : ∀ b, X' b → X b) : PureC w X' v d :=
  h.mono (Nat.le_refl _) (fun _ _ _ => rfl) (fun b _ => hX b)
inductive HB where
  | box (b : Nat) (T : TypeId) (cs : List Value)
  | row (v : Value) (T : TypeId) (sz : Nat) (xs : List (List Dc))
  | itr (b : Nat) (s : List UInt8) (pos : Int)      -- how far a range over a text has come
  | mp (b : Nat) (es : List (Value × Value))      -- a map: its keys, each with what it leads to
  | fam (L : List (Value × TypeId × Nat × List (List Dc)))      -- many rows: the inner rows of a row of rows
  | fmp (L : List (Nat × List (Value × Value)))      -- many maps
  | dfr (D : Nat)      -- where a range over a function keeps the calls that its rounds defer: none
def slB : Value → Option Nat
  | .slice (some a) _ _ => some a.block
  | _ => none
def HB.bks : HB → List Nat
  | .box b _ _ => [b]
  | .itr b _ _ => [b]
  | .mp b _ => [b]
  | .dfr _ => []
  | .row v _ _ _ => (slB v).toList
  | .fam L => L.filterMap fun r => slB r.1
  | .fmp L => L.map (·.1)
def HB.blk : HB → Option Nat
  | .box b _ _ => some b
  | .itr b _ _ => some b
  | .mp b _ => some b
  | .row v _ _ _ => slB v
  | _ => none
theorem HB.bks_of_blk {h : HB} {b : Nat} (hb : h.blk = some b) : b ∈ h.bks := by
  cases h <;> simp_all [HB.blk, HB.bks]
def blks (H : List HB) : List Nat := H.flatMap HB.bks
@[simp] theorem blks_nil : blks [] = [] := rfl
@[simp] theorem blks_append (H₁ H₂ : List HB) : blks (H₁ ++ H₂) = blks H₁ ++ blks H₂ := by simp [blks]
theorem blks_cons (h : HB) (H : List HB) : blks (h :: H) = h.bks ++ blks H := by simp [blks]
theorem sub_blks {H H' : List HB} (h : H'.Sublist H) : (blks H').Sublist (blks H) := by
  induction h with
  | slnil => exact List.Sublist.refl _
  | cons a _ ih => rw [blks_cons]; exact ih.trans (List.sublist_append_right _ _)
  | cons_cons a _ ih => rw [blks_cons, blks_cons]; exact (List.Sublist.refl _).append ih
theorem perm_blks {H H' : List HB} (h : H'.Perm H) : (blks H').Perm (blks H) := h.flatMap_right _
def LiveR (w : World) (X : Nat → Prop) (v : Value) (T : TypeId) (sz : Nat) (xs : List (List Dc)) : Prop := (v = .slice none 0 0 ∧ xs = []) ∨
      ∃ b cap arr, v = .slice (some ⟨b, 0, none⟩) xs.length cap ∧ w.heap[b]? = some (.cells arr T (0, 0)) ∧ cap ≤ maxLen ∧ arr.size = cap * sz ∧
        xs.length ≤ cap ∧ (∀ e ∈ xs, e.length = sz) ∧ ∀ i j (hi : i < xs.length) (hj : j < xs[i].length), ∃ u, arr[i * sz + j]? = some u ∧ PureC w X u xs[i][j]
def LiveM (w : World) (b : Nat) (es : List (Value × Value)) : Prop := ∃ ents clock, w.heap[b]? = some (.map ents clock) ∧ ents.toList.map (fun e => (e.key, e.val)) = es
def Live (w : World) (X : Nat → Prop) : HB → Prop
  | .box b T cs => w.heap[b]? = some (.cells cs.toArray T (0, 0))
  | .itr b s pos => w.heap[b]? = some (.stringIter (bs s) pos.toNat) ∧ 0 ≤ pos
  | .mp b es => ∃ ents clock, w.heap[b]? = some (.map ents clock) ∧ ents.toList.map (fun e => (e.key, e.val)) = es
  | .fam L => ∀ r ∈ L, LiveR w X r.1 r.2.1 r.2.2.1 r.2.2.2
  | .fmp L => ∀ r ∈ L, LiveM w r.1 r.2
  | .dfr D => w.heap[D]? = some (.deferred (some [])) ∧ ¬ X D
  | .row v T sz xs => (v = .slice none 0 0 ∧ xs = []) ∨
      ∃ b cap arr, v = .slice (some ⟨b, 0, none⟩) xs.length cap ∧ w.heap[b]? = some (.cells arr T (0, 0)) ∧ cap ≤ maxLen ∧ arr.size = cap * sz ∧
        xs.length ≤ cap ∧ (∀ e ∈ xs, e.length = sz) ∧ ∀ i j (hi : i < xs.length) (hj : j < xs[i].length), ∃ u, arr[i * sz + j]? = some u ∧ PureC w X u xs[i][j]
structure Own (w : World) (X : Nat → Prop) (H : List HB) (Φ : List (Value × Dc)) : Prop where
  xin : ∀ b, X b → b < w.heap.size
  nodup : (blks H).Nodup
  apart : ∀ b ∈ blks H, ¬ X b
  inw : ∀ b ∈ blks H, b < w.heap.size
  live : ∀ h ∈ H, Live w (fun b => X b ∨ b ∈ blks H) h
  facts : ∀ p ∈ Φ, PureC w (fun b => X b ∨ b ∈ blks H) p.1 p.2
structure Frm (w0 : World) (M : List Nat) (w : World) : Prop where
  os : w.os = w0.os
  tape : w.tape = w0.tape
  output : w.output = w0.output
  size : w0.heap.size ≤ w.heap.size
  block : ∀ b, b < w0.heap.size → b ∉ M → w.heap[b]? = w0.heap[b]?
theorem Frm.refl (w : World) (M : List Nat) : Frm w M w := ⟨rfl, rfl, rfl, Nat.le_refl _, fun _ _ _ => rfl⟩
theorem LiveR.mono {w w' : World} {X X' : Nat → Prop} {v : Value} {T : TypeId} {sz : Nat} {xs : List (List Dc)} (hl : LiveR w X v T sz xs) (hs : w.heap.size ≤ w'.heap.size) (hown : ∀ b, slB v = some b → w'.heap[b]? = w.heap[b]?)
    (hb : ∀ b, b < w.heap.size → ¬ X b → w'.heap[b]? = w.heap[b]?) (hX : ∀ b, b < w.heap.size → X' b → X b) : LiveR w' X' v T sz xs := by
  rcases hl with hl | ⟨b, cap, arr, rfl, h1, h2, h3, h4, h5, h6⟩
  · exact .inl hl
  · refine .inr ⟨b, cap, arr, rfl, ?_, h2, h3, h4, h5, fun i j hi hj => ?_⟩
    · rw [hown b rfl]; exact h1
    · obtain ⟨u, hu, hp⟩ := h6 i j hi hj
      exact ⟨u, hu, hp.mono hs hb hX⟩
theorem Live.mono {w w' : World} {X X' : Nat → Prop} {h : HB} (hl : Live w X h) (hs : w.heap.size ≤ w'.heap.size) (hown : ∀ b, b ∈ h.bks → w'.heap[b]? = w.heap[b]?)
    (hb : ∀ b, b < w.heap.size → ¬ X b → w'.heap[b]? = w.heap[b]?) (hX : ∀ b, b < w.heap.size → X' b → X b) : Live w' X' h := by
  cases h with
  | box b T cs => simp only [Live] at hl ⊢; rw [hown b (by simp [HB.bks])]; exact hl
  | itr b s pos => simp only [Live] at hl ⊢; rw [hown b (by simp [HB.bks])]; exact hl
  | mp b es => simp only [Live] at hl ⊢; rw [hown b (by simp [HB.bks])]; exact hl
  | dfr D =>
    have hlt : D < w.heap.size := (Array.getElem?_eq_some_iff.1 hl.1).1
    exact ⟨(hb D hlt hl.2).trans hl.1, fun hx => hl.2 (hX D hlt hx)⟩
  | row v T sz xs => exact LiveR.mono hl hs (fun b h => hown b (by simp [HB.bks, h])) hb hX
  | fam L => exact fun r hr => (hl r hr).mono hs (fun b h => hown b (List.mem_filterMap.2 ⟨r, hr, h⟩)) hb hX
  | fmp L =>
    intro r hr
    obtain ⟨ents, clock, h1, h2⟩ := hl r hr
    exact ⟨ents, clock, (hown r.1 (List.mem_map.2 ⟨r, hr, rfl⟩)).trans h1, h2⟩
theorem mem_bks {H : List HB} {h : HB} (hm : h ∈ H) {b : Nat} (hb : b ∈ h.bks) : b ∈ blks H := List.mem_flatMap.2 ⟨h, hm, hb⟩
theorem mem_blks {H : List HB} {h : HB} (hm : h ∈ H) {b : Nat} (hb : h.blk = some b) : b ∈ blks H := mem_bks hm (HB.bks_of_blk hb)
theorem Own.replace {w w' : World} {X : Nat → Prop} {H₁ H₂ : List HB} {h h' : HB} {Φ : List (Value × Dc)} (o : Own w X (H₁ ++ h :: H₂) Φ)
    (hs : w.heap.size ≤ w'.heap.size) (hold : ∀ b, b < w.heap.size → b ∉ h.bks → w'.heap[b]? = w.heap[b]?)
    (hnew : ∀ b, b ∈ h'.bks → (b ∈ h.bks ∨ w.heap.size ≤ b) ∧ b < w'.heap.size)
    (hlive : Live w' (fun b => X b ∨ b ∈ blks (H₁ ++ h' :: H₂)) h') (hnd : h'.bks.Nodup) : Own w' X (H₁ ++ h' :: H₂) Φ := by
  have hsub : ∀ b, b ∈ blks (H₁ ++ h' :: H₂) → b < w.heap.size → b ∈ blks (H₁ ++ h :: H₂) := by
    intro b hb hlt
    simp only [blks_append, blks_cons, List.mem_append] at hb ⊢
    rcases hb with hb | hb | hb
    · exact .inl hb
    · rcases (hnew b hb).1 with h0 | h0
      · exact .inr (.inl h0)
      · omega
    · exact .inr (.inr hb)
  have hn := o.nodup
  simp only [blks_append, blks_cons] at hn
  have hn1 := List.nodup_append.1 hn
  have hn2 := List.nodup_append.1 hn1.2.1
  have happ : ∀ b, b ∈ blks H₁ ∨ b ∈ blks H₂ → b ∉ h.bks := by
    intro b hb he
    rcases hb with hb | hb
    · exact hn1.2.2 b hb b (List.mem_append.2 (.inl he)) rfl
    · exact hn2.2.2 b he b hb rfl
  have hrest : ∀ b, b ∈ blks H₁ ∨ b ∈ blks H₂ → b ∉ h'.bks := by
    intro b hb he
    rcases (hnew b he).1 with h0 | h0
    · exact happ b hb h0
    · have : b < w.heap.size := o.inw b (by simp only [blks_append, blks_cons, List.mem_append]; rcases hb with hb | hb; exact .inl hb; exact .inr (.inr hb))
      omega
  refine ⟨fun b hb => Nat.lt_of_lt_of_le (o.xin b hb) hs, ?_, ?_, ?_, ?_, ?_⟩
  · simp only [blks_append, blks_cons]
    refine List.nodup_append.2 ⟨hn1.1, List.nodup_append.2 ⟨hnd, hn2.2.1, ?_⟩, ?_⟩
    · intro b hb c hc he
      subst he
      exact hrest b (.inr hc) hb
    · intro b hb c hc he
      subst he
      rcases List.mem_append.1 hc with hc | hc
      · exact hrest b (.inl hb) hc
      · exact hn1.2.2 b hb b (List.mem_append.2 (.inr hc)) rfl
  · intro b hb hx
    exact o.apart b (hsub b hb (o.xin b hx)) hx
  · intro b hb
    simp only [blks_append, blks_cons, List.mem_append] at hb
    rcases hb with hb | hb | hb
    · exact Nat.lt_of_lt_of_le (o.inw b (by simp [hb])) hs
    · exact (hnew b hb).2
    · exact Nat.lt_of_lt_of_le (o.inw b (by simp [blks_cons, hb])) hs
  · intro g hg
    have hX' : ∀ b, b < w.heap.size → (X b ∨ b ∈ blks (H₁ ++ h' :: H₂)) → (X b ∨ b ∈ blks (H₁ ++ h :: H₂)) := fun b hb hx => hx.imp id (fun hm => hsub b hm hb)
    have hother : ∀ g, g ∈ H₁ ∨ g ∈ H₂ → Live w' (fun b => X b ∨ b ∈ blks (H₁ ++ h' :: H₂)) g := by
      intro g hg
      have hgm : g ∈ H₁ ++ h :: H₂ := by rcases hg with hg | hg <;> simp [hg]
      refine (o.live g hgm).mono hs (fun b hb => hold b (o.inw b (mem_bks hgm hb)) ?_) (fun b hb hx => hold b hb ?_) hX'
      · refine happ b ?_
        rcases hg with hg | hg
        · exact .inl (mem_bks hg hb)
        · exact .inr (mem_bks hg hb)
      · intro he
        exact hx (.inr (mem_bks (h := h) (by simp) he))
    rcases List.mem_append.1 hg with hg | hg
    · exact hother g (.inl hg)
    · rcases List.mem_cons.1 hg with rfl | hg
      · exact hlive
      · exact hother g (.inr hg)
  · intro p hp
    refine (o.facts p hp).mono hs (fun b hb hx => hold b hb ?_) (fun b hb hx => hx.imp id (fun hm => hsub b hm hb))
    intro he
    exact hx (.inr (mem_bks (h := h) (by simp) he))
theorem Own.insert {w w' : World} {X : Nat → Prop} {H : List HB} {h' : HB} {Φ : List (Value × Dc)} (o : Own w X H Φ)
    (hs : w.heap.size ≤ w'.heap.size) (hold : ∀ b, b < w.heap.size → w'.heap[b]? = w.heap[b]?) (hnew : ∀ b, b ∈ h'.bks → w.heap.size ≤ b ∧ b < w'.heap.size)
    (hlive : Live w' (fun b => X b ∨ b ∈ blks (h' :: H)) h') (hnd : h'.bks.Nodup) : Own w' X (h' :: H) Φ := by
  have o0 : Own w X ([] ++ HB.row (.slice none 0 0) 0 0 [] :: H) Φ := by
    have e : blks ([] ++ HB.row (.slice none 0 0) 0 0 [] :: H) = blks H := by simp [blks_cons, HB.bks, slB]
    refine ⟨o.xin, by rw [e]; exact o.nodup, by rw [e]; exact o.apart, by rw [e]; exact o.inw, ?_, by rw [e]; exact o.facts⟩
    intro g hg
    rw [e]
    rcases List.mem_cons.1 hg with rfl | hg
    · exact .inl ⟨rfl, rfl⟩
    · exact o.live g hg
  exact o0.replace (h' := h') hs (fun b hb _ => hold b hb) (fun b hb => ⟨.inr (hnew b hb).1, (hnew b hb).2⟩) hlive hnd
theorem Own.sub {w : World} {X : Nat → Prop} {H H' : List HB} {Φ Φ' : List (Value × Dc)} (o : Own w X H Φ) (hH : H'.Sublist H) (hΦ : ∀ p ∈ Φ', p ∈ Φ) : Own w X H' Φ' := by
  have hb : (blks H').Sublist (blks H) := sub_blks hH
  have hm : ∀ b, b ∈ blks H' → b ∈ blks H := fun b h => hb.subset h
  exact ⟨o.xin, o.nodup.sublist hb, fun b h => o.apart b (hm b h), fun b h => o.inw b (hm b h),
    fun h hh => (o.live h (hH.subset hh)).mono (Nat.le_refl _) (fun _ _ => rfl) (fun _ _ _ => rfl) (fun b _ hx => hx.imp id (hm b)),
    fun p hp => (o.facts p (hΦ p hp)).weaken (fun b hx => hx.imp id (hm b))⟩
theorem Own.grow {w w' : World} {X : Nat → Prop} {H : List HB} {Φ : List (Value × Dc)} (o : Own w X H Φ) (hs : w.heap.size ≤ w'.heap.size) (hold : ∀ b, b < w.heap.size → w'.heap[b]? = w.heap[b]?) : Own w' X H Φ :=
  ⟨fun b hb => Nat.lt_of_lt_of_le (o.xin b hb) hs, o.nodup, o.apart, fun b h => Nat.lt_of_lt_of_le (o.inw b h) hs,
    fun h hh => (o.live h hh).mono hs (fun b hb => hold b (o.inw b (mem_bks hh hb))) (fun b hb _ => hold b hb) (fun _ _ hx => hx),
    fun p hp => (o.facts p hp).mono hs (fun b hb _ => hold b hb) (fun _ _ hx => hx)⟩
theorem Own.addFact {w : World} {X : Nat → Prop} {H : List HB} {Φ : List (Value × Dc)} (o : Own w X H Φ) {v : Value} {d : Dc} (h : PureC w (fun b => X b ∨ b ∈ blks H) v d) : Own w X H ((v, d) :: Φ) :=
  ⟨o.xin, o.nodup, o.apart, o.inw, o.live, fun p hp => by
    rcases List.mem_cons.1 hp with rfl | hp
    · exact h
    · exact o.facts p hp⟩
theorem Live.pure {w : World} {X Y : Nat → Prop} {v : Value} {T : TypeId} {sz : Nat} {xs : List (List Dc)} (hl : Live w X (.row v T sz xs)) (hb : ∀ b, slB v = some b → ¬ Y b ∧ b < w.heap.size)
    (hY : ∀ b, Y b → X b) : PureC w Y v (.slice sz xs) := by
  rcases hl with ⟨rfl, rfl⟩ | ⟨b, cap, arr, rfl, h1, h2, h3, h4, h5, h6⟩
  · exact .nil _ _ _
  · obtain ⟨hYb, hlt⟩ := hb b rfl
    refine .slice b 0 _ cap sz xs (fun i j => (arr[i * sz + j]?).getD undef) rfl h4 hYb hlt h5 (fun i j hi hj => ?_) (fun i j hi hj => ?_)
    · have hlen : xs[i].length = sz := h5 _ (List.getElem_mem hi)
      obtain ⟨u, hu, _⟩ := h6 i j hi (by rw [hlen]; exact hj)
      simp only [World.cell?, h1, Nat.zero_add, hu, Option.isSome_none, Bool.false_eq_true, if_false, Option.getD_some]
    · obtain ⟨u, hu, hp⟩ := h6 i j hi hj
      simp only [hu, Option.getD_some]
      exact hp.weaken hY
theorem Own.freeze {w : World} {X : Nat → Prop} {H₁ H₂ : List HB} {v : Value} {T : TypeId} {sz : Nat} {xs : List (List Dc)} {Φ : List (Value × Dc)} (o : Own w X (H₁ ++ .row v T sz xs :: H₂) Φ) :
    Own w X (H₁ ++ H₂) ((v, .slice sz xs) :: Φ) := by
  have hsub : (H₁ ++ H₂).Sublist (H₁ ++ .row v T sz xs :: H₂) := (List.Sublist.refl H₁).append (List.Sublist.cons _ (List.Sublist.refl H₂))
  refine (o.sub hsub (fun _ h => h)).addFact ?_
  have hm : HB.row v T sz xs ∈ H₁ ++ .row v T sz xs :: H₂ := by simp
  have hk : ∀ b, slB v = some b → b ∈ HB.bks (.row v T sz xs) := fun b hb => by simp [HB.bks, hb]
  refine (o.live _ hm).pure (fun b hb => ⟨?_, o.inw b (mem_bks hm (hk b hb))⟩) (fun b hx => hx.imp id (fun h => (sub_blks hsub).subset h))
  rintro (hx | hx)
  · exact o.apart b (mem_bks hm (hk b hb)) hx
  · have hn := o.nodup
    simp only [blks_append, blks_cons] at hn
    have hn1 := List.nodup_append.1 hn
    have hn2 := List.nodup_append.1 hn1.2.1
    rw [blks_append] at hx
    rcases List.mem_append.1 hx with hx | hx
    · exact hn1.2.2 b hx b (List.mem_append.2 (.inl (hk b hb))) rfl
    · exact hn2.2.2 b (hk b hb) b hx rfl
end Go.Vc
