/-
  Maps: made, written, asked.
-/
import Derived.Test.YtfhbgelpmbkooaaVcP
import Derived.Lib.OthersKept
import Derived.Laws.RangeAny
import Derived.MapKept
set_option linter.unusedVariables false
set_option linter.unusedSimpArgs false
namespace Go.Vc
open Go Go.MapKept
structure KT (P : Program) (kt : TypeId) {κ : Type} (eq : κ → κ → Bool) (enc : κ → Value) : Prop where
  chk : ∀ (em : Bool) (a : κ) (w : World), (Instr.checkKey em 10000 kt (enc a)).run P w = .ok () w
  find : ∀ (a : κ) (ks : List κ) (ents : List MapEntry) (w : World), ents.map (·.key) = ks.map enc →
    (Instr.findKey kt (enc a) ents).run P w = .ok ((ks.findIdx? (eq a)).bind fun i => ents[i]?.map fun e => (i, e.val)) w
  same : ∀ a b, eq a b = true → enc b = enc a
  stay : ∀ (a : κ) (w : World), (Instr.keyThatStays (enc a) (enc a)).run P w = .ok (enc a) w
def mget {κ : Type} (eq : κ → κ → Bool) (a : κ) : List (κ × Value) → Option Value
  | [] => none
  | p :: r => if eq a p.1 then some p.2 else mget eq a r
def mput {κ : Type} (eq : κ → κ → Bool) (a : κ) (v : Value) : List (κ × Value) → List (κ × Value)
  | [] => [(a, v)]
  | p :: r => if eq a p.1 then (p.1, v) :: r else p :: mput eq a v r
def mEnc {κ : Type} (enc : κ → Value) (m : List (κ × Value)) : List (Value × Value) := m.map fun p => (enc p.1, p.2)
theorem mget_find {κ : Type} (eq : κ → κ → Bool) (a : κ) : ∀ (m : List (κ × Value)) (ents : List MapEntry) (enc : κ → Value), ents.map (fun e => (e.key, e.val)) = mEnc enc m →
    ((m.map (·.1)).findIdx? (eq a)).bind (fun i => ents[i]?.map fun e => (i, e.val)) = ((m.map (·.1)).findIdx? (eq a)).bind fun i => (mget eq a m).map fun v => (i, v)
  | [], _, _, _ => rfl
  | p :: r, ents, enc, h => by
    cases ents with
    | nil => simp [mEnc] at h
    | cons e es =>
      simp only [mEnc, List.map_cons, List.cons.injEq, Prod.mk.injEq] at h
      obtain ⟨⟨h1, h2⟩, h3⟩ := h
      simp only [List.map_cons, List.findIdx?_cons, mget]
      by_cases hk : eq a p.1 = true
      · simp [hk, h2]
      · have ih := mget_find eq a r es enc h3
        simp only [hk, Bool.false_eq_true, if_false]
        cases hf : (r.map (·.1)).findIdx? (eq a) with
        | none => simp
        | some i =>
          rw [hf] at ih
          simp only [Option.bind_some] at ih
          simp only [Option.map_some, Option.bind_some, List.getElem?_cons_succ]
          cases he : es[i]? with
          | none =>
            rw [he] at ih
            simp only [Option.map_none] at ih ⊢
            cases hm : mget eq a r with
            | none => rfl
            | some v => rw [hm] at ih; cases ih
          | some e' =>
            rw [he] at ih
            simp only [Option.map_some] at ih ⊢
            cases hm : mget eq a r with
            | none => rw [hm] at ih; cases ih
            | some v => rw [hm] at ih; cases ih; rfl
theorem mget_isSome {κ : Type} (eq : κ → κ → Bool) (a : κ) : ∀ (m : List (κ × Value)), (mget eq a m).isSome = ((m.map (·.1)).findIdx? (eq a)).isSome
  | [] => rfl
  | p :: r => by
    simp only [mget, List.map_cons, List.findIdx?_cons]
    by_cases hk : eq a p.1 = true
    · simp [hk]
    · simp [hk, mget_isSome eq a r]
theorem mput_none {κ : Type} (eq : κ → κ → Bool) (a : κ) (v : Value) : ∀ (m : List (κ × Value)), (m.map (·.1)).findIdx? (eq a) = none → mput eq a v m = m ++ [(a, v)]
  | [], _ => rfl
  | p :: r, h => by
    simp only [List.map_cons, List.findIdx?_cons] at h
    by_cases hk : eq a p.1 = true
    · simp [hk] at h
    · simp only [hk, Bool.false_eq_true, if_false, Option.map_eq_none_iff] at h
      simp only [mput, hk, Bool.false_eq_true, if_false, mput_none eq a v r h, List.cons_append]
theorem mput_some {κ : Type} (eq : κ → κ → Bool) (a : κ) (v : Value) : ∀ (m : List (κ × Value)) (i : Nat), (m.map (·.1)).findIdx? (eq a) = some i → mput eq a v m = m.modify i (fun p => (p.1, v)) ∧ ∃ p, m[i]? = some p ∧ eq a p.1 = true
  | [], _, h => by simp at h
  | p :: r, i, h => by
    simp only [List.map_cons, List.findIdx?_cons] at h
    by_cases hk : eq a p.1 = true
    · simp only [hk, if_true, Option.some.injEq] at h
      subst h
      simp [mput, hk]
    · simp only [hk, Bool.false_eq_true, if_false, Option.map_eq_some_iff] at h
      obtain ⟨j, h1, rfl⟩ := h
      obtain ⟨h2, q, h3, h4⟩ := mput_some eq a v r j h1
      refine ⟨?_, q, by simpa using h3, h4⟩
      simp only [mput, hk, Bool.false_eq_true, if_false, h2, List.modify_succ_cons]
section
variable {E : Env} {ops : Array Oper} {os : List Oper} {l : List (Nat × Value)} {H : List HB} {Φ : List (Value × Dc)} {N : SP} {Q : QS}
variable {ty : TypeId} {ps : String} {aft : Array Edge} {d : Nat}
theorem o_makeMap {T : TypeId} (hd : Nat.blt d E.n = true) (h : ∀ b, WO E ops os ((d, .map (some b)) :: l) (.mp b [] :: H) Φ N Q) : WO E ops (⟨some d, .makeMap T none, ty, ps, aft, none⟩ :: os) l H Φ N Q := by
  refine o_step fun a w hs => ⟨.map (some w.heap.size), w.alloc (.map #[] 0), ?_, h w.heap.size _ _ (St.putT (St.insert hs ?_ ?_ ?_ ?_ rfl rfl rfl) (blt_lt hd))⟩
  · simp [execOp, Instr.makeMap, newObj, Sem.run_bind, Sem.run, Result.andThen]
  · simp
  · intro b hb; exact (MapKept.heap_alloc w _).2 b hb
  · intro b hb; simp only [HB.blk, slB, Option.some.injEq] at hb; subst hb; simp
  · exact ⟨#[], 0, (MapKept.heap_alloc w _).1, rfl⟩
theorem v_lookup (j : Nat) {κ : Type} {eq : κ → κ → Bool} {enc : κ → Value} {T kt et : TypeId} {x y : Operand} {b : Nat} {k : κ} {m : List (κ × Value)} {z : Value} (c : Bool)
    (hT : E.P.underlying T = some (.map kt et)) (hk : KT E.P kt eq enc) (hz : (E.P.info? et).bind (·.zero) = some z) (hx : opv l x = some (.map (some b))) (hy : opv l y = some (enc k)) (hj : H[j]? = some (.mp b (mEnc enc m))) :
    Val E l H Φ (.lookup T x y c) ty (if c then .tuple #[(mget eq k m).getD z, .bool (mget eq k m).isSome] else (mget eq k m).getD z) := by
  intro a w hs _ _ _ _
  obtain ⟨ents, clock, hb, he⟩ := hs.own.live _ (List.mem_of_getElem? hj)
  have hkeys : ents.toList.map (·.key) = (m.map (·.1)).map enc := by
    have := congrArg (List.map Prod.fst) he
    simpa [mEnc, Function.comp_def] using this
  have hf := hk.find k (m.map (·.1)) ents.toList w hkeys
  rw [mget_find eq k m ents.toList enc he] at hf
  have e2 : (zeroValue et).run E.P w = .ok z w := by
    cases hi : E.P.info? et with
    | none => simp [hi] at hz
    | some i =>
      simp only [hi, Option.bind_some] at hz
      have e : (typeInfo et).run E.P w = .ok i w := by
        simp only [typeInfo, program, Sem.run_bind, Sem.run, Result.andThen, hi]
        rfl
      simp only [zeroValue, Sem.run_bind, e, Result.andThen, hz]
      rfl
  have hi := mget_isSome eq k m
  simp only [execOp, opv_eval hs hx, opv_eval hs hy, Instr.lookup, Sem.run_bind, run_underlying' hT, Result.andThen, MapKept.run_getObj_map hb, hk.chk, hf]
  cases hq : (m.map (·.1)).findIdx? (eq k) with
  | none =>
    rw [hq] at hi hf
    cases hm : mget eq k m with
    | some v => rw [hm] at hi; cases hi
    | none =>
      rw [Option.bind_none] at hf
      cases c <;> simp [e2, Result.andThen, hf, Sem.run]
  | some i =>
    rw [hq] at hi hf
    cases hm : mget eq k m with
    | none => rw [hm] at hi; cases hi
    | some v =>
      rw [hm, Option.bind_some, Option.map_some] at hf
      cases c <;> simp [Result.andThen, hf, Sem.run]
theorem o_update (j : Nat) {κ : Type} {eq : κ → κ → Bool} {enc : κ → Value} {T kt et : TypeId} {x y z : Operand} {b : Nat} {k : κ} {v : Value} {m : List (κ × Value)}
    (hT : E.P.underlying T = some (.map kt et)) (hk : KT E.P kt eq enc) (hx : opv l x = some (.map (some b))) (hy : opv l y = some (enc k)) (hv : opv l z = some v) (hj : H[j]? = some (.mp b (mEnc enc m)))
    (h : WO E ops os l (H.set j (.mp b (mEnc enc (mput eq k v m)))) Φ N Q) : WO E ops (⟨none, .mapUpdate T x y z, ty, ps, aft, none⟩ :: os) l H Φ N Q := by
  refine o_step_skip fun a w hs => ?_
  obtain ⟨ents, clock, hb, he⟩ := hs.own.live _ (List.mem_of_getElem? hj)
  have hkeys : ents.toList.map (·.key) = (m.map (·.1)).map enc := by
    have := congrArg (List.map Prod.fst) he
    simpa [mEnc, Function.comp_def] using this
  have hlen : ents.size = m.length := by
    have := congrArg List.length he
    simpa [mEnc] using this
  have hf := hk.find k (m.map (·.1)) ents.toList w hkeys
  have key : ∃ ents' clock', (Instr.mapUpdate T (.map (some b)) (enc k) v).run E.P w = .ok () { w with heap := w.heap.setIfInBounds b (.map ents' clock') } ∧ ents'.toList.map (fun e => (e.key, e.val)) = mEnc enc (mput eq k v m) := by
    cases hq : (m.map (·.1)).findIdx? (eq k) with
    | none =>
      rw [hq] at hf
      refine ⟨ents.push { key := enc k, val := v, born := clock }, clock + 1, ?_, ?_⟩
      · simp only [Instr.mapUpdate, Sem.run_bind, run_underlying' hT, Result.andThen, MapKept.run_getObj_map hb, hk.chk, hf]
        simp [MapKept.run_setObj_map _ hb]
      · rw [mput_none eq k v m hq]
        simp [mEnc, he]
    | some i =>
      rw [hq] at hf
      obtain ⟨h1, p, h2, h3⟩ := mput_some eq k v m i hq
      have hi : i < m.length := (List.getElem?_eq_some_iff.1 h2).1
      have hie : i < ents.size := by omega
      have hent : ents.toList[i]? = some ents[i] := by simp [hie]
      have hkk : ents[i].key = enc k := by
        have := congrArg (fun q => q[i]?) he
        simp only [List.getElem?_map, hent, mEnc, h2, Option.map_some, Option.some.injEq, Prod.mk.injEq] at this
        rw [this.1]
        exact hk.same _ _ h3
      have hvv : ents[i].key = enc p.1 := by
        have := congrArg (fun q => q[i]?) he
        simp only [List.getElem?_map, hent, mEnc, h2, Option.map_some, Option.some.injEq, Prod.mk.injEq] at this
        exact this.1
      refine ⟨ents.modify i fun e => { e with key := enc k, val := v }, clock, ?_, ?_⟩
      · rw [Option.bind_some, hent, Option.map_some] at hf
        simp only [Instr.mapUpdate, Sem.run_bind, run_underlying' hT, Result.andThen, MapKept.run_getObj_map hb, hk.chk, hf]
        have e1 : ents[i]? = some ents[i] := by simp [hie]
        simp only [e1, Option.map_some, Option.getD_some, hkk, hk.stay, Result.andThen, MapKept.run_setObj_map _ hb]
      · rw [h1, Array.toList_modify]
        apply List.ext_getElem?
        intro q
        have hq2 := congrArg (fun u => u[q]?) he
        simp only [mEnc, List.getElem?_map, List.getElem?_modify] at hq2 ⊢
        by_cases hqi : i = q
        · subst hqi
          simp only [hent, h2, Option.map_some]
          simp [← hkk, hvv]
        · simp only [if_neg hqi]
          cases he1 : ents.toList[q]? <;> cases he2 : m[q]? <;> simp_all
  obtain ⟨ents', clock', hr, he'⟩ := key
  have hset := heap_set (o' := .map ents' clock') hb
  have hbl : b < w.heap.size := (Array.getElem?_eq_some_iff.1 hb).1
  refine ⟨{ w with heap := w.heap.setIfInBounds b (.map ents' clock') }, ?_, h _ _ (hs.replace hj (by simp) (fun c _ hc => hset.2 c (fun e => hc (by rw [e]; rfl))) (fun c hc => ⟨.inl hc, ?_⟩) ⟨ents', clock', hset.1, he'⟩ ⟨hs.frm.os, hs.frm.tape, hs.frm.output, by simpa using hs.frm.size, fun c hc hm => ?_⟩)⟩
  · simp only [execOp, opv_eval hs hx, opv_eval hs hy, opv_eval hs hv, Sem.run_bind, hr, Result.andThen]
    rfl
  · simp only [HB.blk, slB, Option.some.injEq] at hc
    subst hc
    simpa using hbl
  · rw [hset.2 c (fun e => ?_)]
    · exact hs.frm.block c hc hm
    · have := hs.base b (mem_blks (List.mem_of_getElem? hj) rfl)
      subst e
      rcases this with h0 | h0
      · omega
      · exact hm h0
end
end Go.Vc
