/-
  Operations that read and write memory.
-/
import Derived.Test.YtfhbgelpmbkooaaVcB
set_option linter.unusedVariables false
set_option linter.unusedSimpArgs false
namespace Go.Vc
open Go
def tyd (P : Program) (t : TypeId) : Option (Bool × Nat) :=
  match P.underlying t, P.info? t with
  | some d, some i => some (match d with | .struct _ => true | .array _ _ => true | _ => false, i.size)
  | _, _ => none
def oneC : Value → Bool
  | .agg _ => false
  | .tuple _ => false
  | _ => true
section runs
variable {P : Program}
theorem tyd_isAgg {t : TypeId} {b : Bool} {n : Nat} (h : tyd P t = some (b, n)) (w : World) : (isAgg t).run P w = .ok b w ∧ (sizeOf t).run P w = .ok n w := by
  unfold tyd at h
  cases hu : P.underlying t with
  | none => simp [hu] at h
  | some d =>
    cases hi : P.info? t with
    | none => simp [hu, hi] at h
    | some i =>
      simp only [hu, hi, Option.some.injEq, Prod.mk.injEq] at h
      obtain ⟨h1, h2⟩ := h
      constructor
      · have e : (underlying t).run P w = .ok d w := by
          simp only [underlying, program, Sem.run_bind, Sem.run, Result.andThen, hu]
          rfl
        simp only [isAgg, Sem.run_bind, e, Result.andThen]
        cases d <;> simp only [] at h1 ⊢ <;> subst h1 <;> rfl
      · have e : (typeInfo t).run P w = .ok i w := by
          simp only [typeInfo, program, Sem.run_bind, Sem.run, Result.andThen, hi]
          rfl
        simp only [sizeOf, Sem.run_bind, e, h2, Result.andThen]
        rfl
theorem add_none (b o n : Nat) : (⟨b, o, none⟩ : Addr).add n = ⟨b, o + n, none⟩ := by
  unfold Addr.add
  split
  · subst_vars; rfl
  · rfl
theorem run_load {w : World} {a : Addr} {v : Value} (h : w.cell? a = some v) : (load a).run P w = .ok v w := by
  simp only [load, Sem.run, h]
theorem run_loadCellsFrom {b o : Nat} {w : World} : ∀ (cs : List Value) (i : Nat) (acc : Array Value), (∀ j (hj : j < cs.length), w.cell? ⟨b, o + (i + j), none⟩ = some cs[j]) →
    (loadCellsFrom ⟨b, o, none⟩ i cs.length acc).run P w = .ok (acc ++ cs.toArray) w
  | [], i, acc, _ => by simp [loadCellsFrom]
  | c :: cs, i, acc, h => by
    have h0 : w.cell? ((⟨b, o, none⟩ : Addr).add i) = some c := by
      rw [add_none]; have := h 0 (by simp); simpa using this
    simp only [loadCellsFrom, List.length_cons, Sem.run_bind, run_load h0, Result.andThen]
    have ih := run_loadCellsFrom cs (i + 1) (acc.push c) (fun j hj => by
      have := h (j + 1) (by simpa using hj)
      rw [show i + 1 + j = i + (j + 1) by omega]; simpa using this)
    rw [ih]
    simp
theorem run_loadCells {b o : Nat} {w : World} (cs : List Value) (h : ∀ j (hj : j < cs.length), w.cell? ⟨b, o + j, none⟩ = some cs[j]) :
    (loadCells ⟨b, o, none⟩ cs.length).run P w = .ok cs.toArray w := by
  have := run_loadCellsFrom (P := P) (b := b) (o := o) (w := w) cs 0 #[] (fun j hj => by simpa using h j hj)
  simpa [loadCells] using this
def asVal : Bool → List Value → Value
  | true, cs => .agg cs.toArray
  | false, cs => cs.headD undef
theorem run_loadVar {t : TypeId} {ag : Bool} {n : Nat} (ht : tyd P t = some (ag, n)) {b o : Nat} {w : World} (cs : List Value) (hn : cs.length = n) (h1 : ag = false → n = 1)
    (h : ∀ j (hj : j < cs.length), w.cell? ⟨b, o + j, none⟩ = some cs[j]) : (loadVar t ⟨b, o, none⟩).run P w = .ok (asVal ag cs) w := by
  obtain ⟨e1, e2⟩ := tyd_isAgg ht w
  cases ag with
  | true =>
    simp only [loadVar, Sem.run_bind, e1, Result.andThen, if_true, e2]
    rw [← hn, run_loadCells cs h]
    rfl
  | false =>
    have := h1 rfl
    subst this
    match cs, hn with
    | [c], _ =>
      simp only [loadVar, Sem.run_bind, e1, Result.andThen, Bool.false_eq_true, if_false]
      have h0 := h 0 (by simp)
      simp only [Nat.add_zero, List.getElem_cons_zero] at h0
      rw [run_load h0]
      rfl
structure Chg (b : Nat) (w w' : World) : Prop where
  os : w'.os = w.os
  tape : w'.tape = w.tape
  output : w'.output = w.output
  size : w'.heap.size = w.heap.size
  block : ∀ c, c ≠ b → w'.heap[c]? = w.heap[c]?
theorem Chg.refl (b : Nat) (w : World) : Chg b w w := ⟨rfl, rfl, rfl, rfl, fun _ _ => rfl⟩
theorem Chg.trans {b : Nat} {w w' w'' : World} (h : Chg b w w') (k : Chg b w' w'') : Chg b w w'' :=
  ⟨k.os.trans h.os, k.tape.trans h.tape, k.output.trans h.output, k.size.trans h.size, fun c hc => (k.block c hc).trans (h.block c hc)⟩
def putL : List Value → Nat → List Value → List Value
  | cs, _, [] => cs
  | cs, o, v :: vs => putL (cs.set o v) (o + 1) vs
theorem putL_length : ∀ (vs cs : List Value) (o : Nat), (putL cs o vs).length = cs.length
  | [], _, _ => rfl
  | v :: vs, cs, o => by rw [putL, putL_length vs]; simp
theorem putL_get : ∀ (vs cs : List Value) (o j : Nat), o + vs.length ≤ cs.length → (putL cs o vs)[j]? = if o ≤ j ∧ j < o + vs.length then vs[j - o]? else cs[j]?
  | [], cs, o, j, _ => by
    rw [if_neg (by simp only [List.length_nil]; omega)]; rfl
  | v :: vs, cs, o, j, h => by
    simp only [List.length_cons] at h
    rw [putL, putL_get vs _ _ _ (by simp; omega)]
    by_cases h1 : o + 1 ≤ j ∧ j < o + 1 + vs.length
    · rw [if_pos h1, if_pos ⟨by omega, by simp; omega⟩, show j - o = (j - (o + 1)) + 1 by omega]; simp
    · rw [if_neg h1]
      by_cases h2 : j = o
      · subst h2
        rw [if_pos ⟨Nat.le_refl _, by simp⟩, List.getElem?_set_self (by omega)]
        simp
      · rw [if_neg (by simp only [List.length_cons]; omega), List.getElem?_set_ne (by omega)]
theorem run_storeCells {b : Nat} {T : TypeId} {fz : Nat × Nat} : ∀ (vs : List Value) (o i : Nat) (cs : List Value) (w : World), w.heap[b]? = some (.cells cs.toArray T fz) → (fz = (0, 0) ∨ cs.length ≤ fz.1) →
    o + i + vs.length ≤ cs.length → vs.all oneC = true → ∃ w', (storeCells ⟨b, o, none⟩ vs i).run P w = .ok () w' ∧ Chg b w w' ∧ w'.heap[b]? = some (.cells (putL cs (o + i) vs).toArray T fz)
  | [], o, i, cs, w, hw, _, _, _ => ⟨w, rfl, .refl _ _, hw⟩
  | v :: vs, o, i, cs, w, hw, hf, hl, hv => by
    simp only [List.length_cons] at hl
    simp only [List.all_cons, Bool.and_eq_true] at hv
    have hc : w.cell? ⟨b, o + i, none⟩ = some cs[o + i] := by
      simp only [World.cell?, hw]
      simp [show o + i < cs.length by omega]
    have hfr : w.frozen? ⟨b, o + i, none⟩ = false := by
      simp only [World.frozen?, hw]
      rcases hf with rfl | hf
      · simp
      · simp; omega
    have hset : (w.setCell ⟨b, o + i, none⟩ v).heap[b]? = some (.cells (cs.set (o + i) v).toArray T fz) := by
      simp only [World.setCell, Array.getElem?_modify, if_true, hw]
      simp
    obtain ⟨w', h1, h2, h3⟩ := run_storeCells vs o (i + 1) (cs.set (o + i) v) (w.setCell ⟨b, o + i, none⟩ v) hset (by simpa using hf) (by simp; omega) hv.2
    have h0 : Chg b w (w.setCell ⟨b, o + i, none⟩ v) := ⟨rfl, rfl, rfl, by simp, fun c hc => by
      simp only [World.setCell, Array.getElem?_modify]
      rw [if_neg (fun e => hc e.symm)]⟩
    refine ⟨w', ?_, h0.trans h2, ?_⟩
    · simp only [storeCells, Sem.run_bind, store, add_none]
      have hs : ∀ k : Sem Unit, Sem.run P (.store .plain ⟨b, o + i, none⟩ v k) w = k.run P (w.setCell ⟨b, o + i, none⟩ v) := by
        intro k
        cases v <;> first | (simp only [Sem.run, hc, hfr]; rfl) | simp [oneC] at hv
      rw [hs]
      simp only [Sem.run, Result.andThen]
      exact h1
    · rw [h3, putL, Nat.add_assoc]
theorem run_storeVar {t : TypeId} {ag : Bool} {n : Nat} (ht : tyd P t = some (ag, n)) {b : Nat} {T : TypeId} {fz : Nat × Nat} {v : Value} (vs : List Value) (hv : v.cells = vs.toArray) (hn : vs.length = n) {o : Nat} {cs : List Value} {w : World}
    (hw : w.heap[b]? = some (.cells cs.toArray T fz)) (hf : fz = (0, 0) ∨ cs.length ≤ fz.1) (hl : o + vs.length ≤ cs.length) (h1 : vs.all oneC = true) :
    ∃ w', (storeVar t ⟨b, o, none⟩ v).run P w = .ok () w' ∧ Chg b w w' ∧ w'.heap[b]? = some (.cells (putL cs o vs).toArray T fz) := by
  obtain ⟨e1, e2⟩ := tyd_isAgg ht w
  obtain ⟨w', h2, h3, h4⟩ := run_storeCells (P := P) vs o 0 cs w hw hf (by simpa using hl) h1
  refine ⟨w', ?_, h3, by simpa using h4⟩
  simp only [storeVar, Sem.run_bind, e2, Result.andThen, hv]
  rw [if_neg (by simp [hn])]
  simpa using h2
end runs
section
variable {E : Env} {ops : Array Oper} {os : List Oper} {l : List (Nat × Value)} {H : List HB} {Φ : List (Value × Dc)} {N : SP} {Q : QS}
variable {ty : TypeId} {pos : String} {aft : Array Edge} {d : Nat}
theorem Chg.frm {E : Env} {b : Nat} {w w' : World} (h : Chg b w w') (hf : Frm E.w0 E.M w) (hb : E.w0.heap.size ≤ b ∨ b ∈ E.M) : Frm E.w0 E.M w' :=
  ⟨h.os.trans hf.os, h.tape.trans hf.tape, h.output.trans hf.output, by rw [h.size]; exact hf.size, fun c hc hm => by
    rw [h.block c (fun e => by subst e; rcases hb with hb | hb; omega; exact hm hb)]; exact hf.block c hc hm⟩
theorem getElem?_split {α : Type} {l : List α} {j : Nat} {x : α} (h : l[j]? = some x) : l = l.take j ++ x :: l.drop (j + 1) := by
  have hj : j < l.length := (List.getElem?_eq_some_iff.1 h).1
  have he := (List.getElem?_eq_some_iff.1 h).2
  rw [← he, ← List.drop_eq_getElem_cons hj, List.take_append_drop]
theorem set_split {α : Type} {l : List α} {j : Nat} {x y : α} (h : l[j]? = some x) : l.set j y = l.take j ++ y :: l.drop (j + 1) := by
  have hj : j < l.length := (List.getElem?_eq_some_iff.1 h).1
  rw [List.set_eq_take_append_cons_drop, if_pos hj]
theorem St.replaceB {a : Act} {w w' : World} {j : Nat} {h h' : HB} (hs : St E l H Φ a w) (hj : H[j]? = some h) (hsz : w.heap.size ≤ w'.heap.size)
    (hold : ∀ b, b < w.heap.size → b ∉ h.bks → w'.heap[b]? = w.heap[b]?) (hnew : ∀ b, b ∈ h'.bks → (b ∈ h.bks ∨ w.heap.size ≤ b) ∧ b < w'.heap.size)
    (hlive : Live w' (fun b => E.X b ∨ b ∈ blks (H.set j h')) h') (hf : Frm E.w0 E.M w') (hnd : h'.bks.Nodup) : St E l (H.set j h') Φ a w' := by
  have hsp := getElem?_split hj
  rw [set_split hj] at hlive ⊢
  have ho := hs.own
  rw [hsp] at ho
  refine ⟨hs.size, hs.defers, hs.tm, ho.replace hsz hold hnew hlive hnd, hf, ?_⟩
  intro b hb
  simp only [blks_append, blks_cons, List.mem_append] at hb
  have hbase := hs.base
  rw [hsp] at hbase
  simp only [blks_append, blks_cons, List.mem_append] at hbase
  rcases hb with hb | hb | hb
  · exact hbase b (.inl hb)
  · rcases (hnew b hb).1 with h0 | h0
    · exact hbase b (.inr (.inl h0))
    · exact .inl (Nat.le_trans hs.frm.size h0)
  · exact hbase b (.inr (.inr hb))
theorem nodup_toList (o : Option Nat) : o.toList.Nodup := by cases o <;> simp
theorem St.replace {a : Act} {w w' : World} {j : Nat} {h h' : HB} (hs : St E l H Φ a w) (hj : H[j]? = some h) (hsz : w.heap.size ≤ w'.heap.size)
    (hold : ∀ b, b < w.heap.size → h.blk ≠ some b → w'.heap[b]? = w.heap[b]?) (hnew : ∀ b, h'.blk = some b → (h.blk = some b ∨ w.heap.size ≤ b) ∧ b < w'.heap.size)
    (hlive : Live w' (fun b => E.X b ∨ b ∈ blks (H.set j h')) h') (hf : Frm E.w0 E.M w') (hat : h.bks = h.blk.toList := by rfl) (hat' : h'.bks = h'.blk.toList := by rfl) : St E l (H.set j h') Φ a w' :=
  hs.replaceB hj hsz (fun b hb hn => hold b hb (fun e => hn (HB.bks_of_blk e))) (fun b hb => by
    rw [hat'] at hb
    rw [hat]
    simp only [Option.mem_toList] at hb ⊢
    exact hnew b hb) hlive hf (by rw [hat']; exact nodup_toList _)
theorem St.insertB {a : Act} {w w' : World} {h' : HB} (hs : St E l H Φ a w) (hsz : w.heap.size ≤ w'.heap.size) (hold : ∀ b, b < w.heap.size → w'.heap[b]? = w.heap[b]?)
    (hnew : ∀ b, b ∈ h'.bks → w.heap.size ≤ b ∧ b < w'.heap.size) (hlive : Live w' (fun b => E.X b ∨ b ∈ blks (h' :: H)) h') (h1 : w'.os = w.os) (h2 : w'.tape = w.tape) (h3 : w'.output = w.output) (hnd : h'.bks.Nodup) : St E l (h' :: H) Φ a w' := by
  refine ⟨hs.size, hs.defers, hs.tm, hs.own.insert hsz hold hnew hlive hnd, ⟨h1.trans hs.frm.os, h2.trans hs.frm.tape, h3.trans hs.frm.output, Nat.le_trans hs.frm.size hsz, fun b hb hm => ?_⟩, ?_⟩
  · rw [hold b (Nat.lt_of_lt_of_le hb hs.frm.size)]; exact hs.frm.block b hb hm
  · intro b hb
    rw [blks_cons] at hb
    rcases List.mem_append.1 hb with hb | hb
    · exact .inl (Nat.le_trans hs.frm.size (hnew b hb).1)
    · exact hs.base b hb
theorem St.insert {a : Act} {w w' : World} {h' : HB} (hs : St E l H Φ a w) (hsz : w.heap.size ≤ w'.heap.size) (hold : ∀ b, b < w.heap.size → w'.heap[b]? = w.heap[b]?)
    (hnew : ∀ b, h'.blk = some b → w.heap.size ≤ b ∧ b < w'.heap.size) (hlive : Live w' (fun b => E.X b ∨ b ∈ blks (h' :: H)) h') (h1 : w'.os = w.os) (h2 : w'.tape = w.tape) (h3 : w'.output = w.output) (hat' : h'.bks = h'.blk.toList := by rfl) : St E l (h' :: H) Φ a w' :=
  hs.insertB hsz hold (fun b hb => hnew b (by rw [hat'] at hb; simpa using hb)) hlive h1 h2 h3 (by rw [hat']; exact nodup_toList _)
theorem St.putT {a : Act} {w : World} {v : Value} (hs : St E l H Φ a w) (hd : d < E.n) : St E ((d, v) :: l) H Φ (a.put (some d) v) w := hs.put_same hd
theorem box_cells {a : Act} {w : World} (hs : St E l H Φ a w) {j b : Nat} {T : TypeId} {cs : List Value} (hj : H[j]? = some (.box b T cs)) : w.heap[b]? = some (.cells cs.toArray T (0, 0)) :=
  hs.own.live _ (List.mem_of_getElem? hj)
theorem box_base {a : Act} {w : World} (hs : St E l H Φ a w) {j : Nat} {h : HB} {b : Nat} (hj : H[j]? = some h) (hb : h.blk = some b) : E.w0.heap.size ≤ b ∨ b ∈ E.M :=
  hs.base b (mem_blks (List.mem_of_getElem? hj) hb)
theorem v_load_box (j : Nat) {t : TypeId} {x : Operand} {b o : Nat} {T : TypeId} {cs : List Value} {ag : Bool} {n : Nat} {v : Value} (ht : tyd E.P t = some (ag, n)) (hx : opv l x = some (.pointer (some ⟨b, o, none⟩)))
    (hj : H[j]? = some (.box b T cs)) (hlen : Nat.ble (o + n) cs.length = true) (h1 : (ag || Nat.beq n 1) = true) (hv : asVal ag ((cs.drop o).take n) = v) : Val E l H Φ (.load t x) ty v := by
  have hle : o + n ≤ cs.length := Nat.le_of_ble_eq_true hlen
  intro a w hs _ _ _ _
  have hb := box_cells hs hj
  have hr := run_loadVar (P := E.P) ht (b := b) (o := o) (w := w) ((cs.drop o).take n) (by simp; omega) (fun e => by subst e; simpa using Nat.eq_of_beq_eq_true (by simpa using h1)) (fun i hi => by
    simp only [World.cell?, hb, Option.isSome_none, Bool.false_eq_true, if_false]
    simp at hi
    simp [show o + i < cs.length by omega])
  simp only [execOp, opv_eval hs hx, Instr.loadAt, Instr.sureAddr, Sem.run_bind]
  simp only [pure, Sem.run, Result.andThen, hr, hv]
theorem o_store_box (j : Nat) {dst : Option Nat} {t : TypeId} {x y : Operand} {b o : Nat} {T : TypeId} {cs vs : List Value} {ag : Bool} {n : Nat} {v : Value} (hdst : dst = none) (ht : tyd E.P t = some (ag, n)) (hx : opv l x = some (.pointer (some ⟨b, o, none⟩)))
    (hy : opv l y = some v) (hv : v.cells.toList = vs) (hj : H[j]? = some (.box b T cs)) (hlen : Nat.ble (o + n) cs.length = true) (hn : Nat.beq vs.length n = true) (h1 : vs.all oneC = true)
    (h : WO E ops os l (H.set j (.box b T (putL cs o vs))) Φ N Q) : WO E ops (⟨dst, .store t x y, ty, pos, aft, none⟩ :: os) l H Φ N Q := by
  subst hdst
  have hle : o + n ≤ cs.length := Nat.le_of_ble_eq_true hlen
  have hn' := Nat.eq_of_beq_eq_true hn
  refine o_step_skip fun a w hs => ?_
  have hb := box_cells hs hj
  obtain ⟨w', h2, h3, h4⟩ := run_storeVar (P := E.P) ht (b := b) (v := v) vs (by rw [← hv]) hn' (o := o) hb (.inl rfl) (by omega) h1
  refine ⟨w', ?_, h a w' (hs.replace hj (by rw [h3.size]; exact Nat.le_refl _) (fun c _ hc => h3.block c (fun e => hc (by rw [e]; rfl))) (fun c hc => ⟨.inl hc, ?_⟩) h4 (h3.frm hs.frm (box_base hs hj rfl)))⟩
  · simp only [execOp, opv_eval hs hx, opv_eval hs hy, Instr.storeAt, Instr.sureAddr, Sem.run_bind]
    simp only [pure, Sem.run, Result.andThen, h2]
  · rw [h3.size]
    exact hs.own.inw c (mem_blks (List.mem_of_getElem? hj) hc)
theorem o_box {T : TypeId} {x : Operand} {v : Value} {cs : List Value} (hx : opv l x = some v) (hv : v.cells.toList = cs) (hd : Nat.blt d E.n = true)
    (h : ∀ b, WO E ops os ((d, .pointer (some ⟨b, 0, none⟩)) :: l) (.box b T cs :: H) Φ N Q) : WO E ops (⟨some d, .box T x, ty, pos, aft, none⟩ :: os) l H Φ N Q := by
  refine o_step fun a w hs => ⟨.pointer (some ⟨w.heap.size, 0, none⟩), { w with heap := w.heap.push (.cells v.cells T (0, 0)) }, ?_, h w.heap.size _ _ (St.putT (St.insert hs ?_ ?_ ?_ ?_ rfl rfl rfl) (blt_lt hd))⟩
  · simp only [execOp, opv_eval hs hx, Instr.box, newVar, newRow, newObj, Sem.run_bind, Sem.run, Result.andThen]
    rfl
  · simp
  · intro b hb; simp only [Array.getElem?_push]; rw [if_neg (by omega)]
  · intro b hb; simp only [HB.blk, Option.some.injEq] at hb; subst hb; simp
  · simp only [Live, ← hv]; simp
theorem o_alloc {T : TypeId} {z : Value} {cs : List Value} (hz : (E.P.info? T).bind (·.zero) = some z) (hv : z.cells.toList = cs) (hd : Nat.blt d E.n = true)
    (h : ∀ b, WO E ops os ((d, .pointer (some ⟨b, 0, none⟩)) :: l) (.box b T cs :: H) Φ N Q) : WO E ops (⟨some d, .alloc T, ty, pos, aft, none⟩ :: os) l H Φ N Q := by
  refine o_step fun a w hs => ⟨.pointer (some ⟨w.heap.size, 0, none⟩), { w with heap := w.heap.push (.cells z.cells T (0, 0)) }, ?_, h w.heap.size _ _ (St.putT (St.insert hs ?_ ?_ ?_ ?_ rfl rfl rfl) (blt_lt hd))⟩
  · cases hi : E.P.info? T with
    | none => simp [hi] at hz
    | some i =>
      simp only [hi, Option.bind_some] at hz
      have e : (typeInfo T).run E.P w = .ok i w := by
        simp only [typeInfo, program, Sem.run_bind, Sem.run, Result.andThen, hi]
        rfl
      have e2 : (zeroValue T).run E.P w = .ok z w := by
        simp only [zeroValue, Sem.run_bind, e, Result.andThen, hz]
        rfl
      simp only [execOp, Instr.alloc, newVar, newRow, newObj, Sem.run_bind, e2, Sem.run, Result.andThen]
      rfl
  · simp
  · intro b hb; simp only [Array.getElem?_push]; rw [if_neg (by omega)]
  · intro b hb; simp only [HB.blk, Option.some.injEq] at hb; subst hb; simp
  · simp only [Live, ← hv]; simp
theorem v_bin {op : BinOp} {T T' : TypeId} {x y : Operand} {k : IntKind} {a b : Int} {v : Value} (hx : opv l x = some (.int k a)) (hy : opv l y = some (.int k b)) (hv : intOp op k a b = some v) : Val E l H Φ (.binOp op T x y T') ty (v) :=
  fun a' w hs dd pp aa gg => by
    simp only [execOp, opv_eval hs hx, opv_eval hs hy, Sem.run_bind]
    cases op <;> simp only [intOp, Option.some.injEq, reduceCtorEq] at hv <;> subst hv <;>
      simp [eqGuard, binOp, Op.intArith, Op.intCmp]
theorem v_un {op : UnOp} {T : TypeId} {x : Operand} {u v : Value} (hx : opv l x = some u) (hr : ∀ w, (Op.unary op u).run E.P w = .ok v w) : Val E l H Φ (.unOp op T x) ty (v) :=
  fun a w hs dd pp aa gg => by simp only [execOp, opv_eval hs hx, Sem.run_bind, hr, Result.andThen]; rfl
theorem v_binr {op : BinOp} {T T' : TypeId} {x y : Operand} {a b : Value} {v : Value} (hx : opv l x = some a) (hy : opv l y = some b) (hr : ∀ w, (do eqGuard op T x y a b; binOp op T a b : Sem Value).run E.P w = .ok v w) : Val E l H Φ (.binOp op T x y T') ty (v) :=
  fun a' w hs dd pp aa gg => by
    have e := hr w
    simp only [execOp, opv_eval hs hx, opv_eval hs hy]
    rw [Sem.run_bind, e]
    rfl
theorem v_convert {S T : TypeId} {x : Operand} {u v : Value} (hx : opv l x = some u) (hr : ∀ w, (convert S T u).run E.P w = .ok v w) : Val E l H Φ (.convert S T x) ty (v) :=
  fun a w hs dd pp aa gg => by simp only [execOp, opv_eval hs hx, Sem.run_bind, hr, Result.andThen]; rfl
theorem v_fieldAddr {T : TypeId} {x : Operand} {i : Nat} {u v : Value} (hx : opv l x = some u) (hr : ∀ w, (Instr.fieldAt T u i).run E.P w = .ok v w) : Val E l H Φ (.fieldAddr T x i) ty (v) :=
  fun a w hs dd pp aa gg => by simp only [execOp, opv_eval hs hx, Sem.run_bind, hr, Result.andThen]; rfl
theorem v_nilCheck {x : Operand} {a0 : Addr} (hx : opv l x = some (.pointer (some a0))) : Val E l H Φ (.nilCheck x) ty (.pointer (some a0)) :=
  fun a w hs dd pp aa gg => by simp only [execOp, opv_eval hs hx]; rfl
theorem v_pick_t {c x y : Operand} {v : Value} (hc : opv l c = some (.bool true)) (hx : opv l x = some v) : Val E l H Φ (.pick c x y) ty (v) :=
  fun a w hs dd pp aa gg => by simp only [execOp, opv_eval hs hc, opv_eval hs hx, asBool]; rfl
theorem v_pick_f {c x y : Operand} {v : Value} (hc : opv l c = some (.bool false)) (hx : opv l y = some v) : Val E l H Φ (.pick c x y) ty (v) :=
  fun a w hs dd pp aa gg => by simp only [execOp, opv_eval hs hc, opv_eval hs hx, asBool]; rfl
theorem v_extract {x : Operand} {vs : Array Value} {i : Nat} {v : Value} (hx : opv l x = some (.tuple vs)) (hi : vs[i]? = some v) : Val E l H Φ (.extract x i) ty (v) :=
  fun a w hs dd pp aa gg => by simp only [execOp, opv_eval hs hx, Instr.extract, hi]; rfl
def opvs (l : List (Nat × Value)) : List (Nat × Operand) → Option (List (Nat × Value))
  | [] => some []
  | p :: r => match opv l p.2, opvs l r with
    | some v, some vs => some ((p.1, v) :: vs)
    | _, _ => none
theorem opvs_eval {a : Act} {w : World} (hs : St E l H Φ a w) : ∀ (ps : List (Nat × Operand)) (vs : List (Nat × Value)), opvs l ps = some vs → ps.map (fun p => (p.1, a.eval p.2)) = vs
  | [], vs, h => by simp only [opvs, Option.some.injEq] at h; subst h; rfl
  | p :: r, vs, h => by
    simp only [opvs] at h
    cases h1 : opv l p.2 with
    | none => simp [h1] at h
    | some v =>
      cases h2 : opvs l r with
      | none => simp [h1, h2] at h
      | some vs' =>
        simp only [h1, h2, Option.some.injEq] at h
        subst h
        simp [opv_eval hs h1, opvs_eval hs r vs' h2]
theorem v_build {t : TypeId} {ps : Array (Nat × Operand)} {vs : List (Nat × Value)} {v : Value} (hp : opvs l ps.toList = some vs) (hr : ∀ w, (Instr.build t vs.toArray).run E.P w = .ok v w) : Val E l H Φ (.build t ps) ty (v) :=
  fun a w hs dd pp aa gg => by
    have e : ps.map (fun (i, x) => (i, a.eval x)) = vs.toArray := by
      rw [← opvs_eval hs _ _ hp, ← List.map_toArray]
    simp only [execOp, e, Sem.run_bind, hr, Result.andThen]; rfl
end
end Go.Vc
