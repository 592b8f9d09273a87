/-
  Slices: what reads as data, and rows of the call's own.
-/
import Derived.Test.YtfhbgelpmbkooaaVcE
import Derived.Laws.BytesArg
import Derived.Lib.AppendStr
set_option linter.unusedVariables false
set_option linter.unusedSimpArgs false
namespace Go.Vc
open Go
abbrev SlV := Option Addr × Nat × Nat
def blkA (a : Option Addr) : Nat := (a.map (·.block)).getD 0
def offA (a : Option Addr) : Nat := (a.map (·.off)).getD 0
def cellsV : List Dc → List SlV → List Value
  | [], _ => []
  | .int k n :: r, vs => .int k n :: cellsV r vs
  | .bool b :: r, vs => .bool b :: cellsV r vs
  | .str s :: r, vs => .string (bs s) :: cellsV r vs
  | .slice _ _ :: r, v :: vs => .slice v.1 v.2.1 v.2.2 :: cellsV r vs
  | .slice _ _ :: r, [] => undef :: cellsV r []
  | .at _ :: r, vs => undef :: cellsV r vs
  | .cl _ :: r, vs => undef :: cellsV r vs
  | .own a n c :: r, vs => .slice a n c :: cellsV r vs
  | .mp b :: r, vs => .map (some b) :: cellsV r vs
def factsV : List Dc → List SlV → List (Value × Dc)
  | [], _ => []
  | .slice sz xs :: r, v :: vs => (.slice v.1 v.2.1 v.2.2, .slice sz xs) :: factsV r vs
  | .slice _ _ :: r, [] => factsV r []
  | .int _ _ :: r, vs => factsV r vs
  | .bool _ :: r, vs => factsV r vs
  | .str _ :: r, vs => factsV r vs
  | .at _ :: r, vs => factsV r vs
  | .cl _ :: r, vs => factsV r vs
  | .own _ _ _ :: r, vs => factsV r vs
  | .mp _ :: r, vs => factsV r vs
def nSl : List Dc → Nat
  | [] => 0
  | .slice _ _ :: r => nSl r + 1
  | .int _ _ :: r => nSl r
  | .bool _ :: r => nSl r
  | .str _ :: r => nSl r
  | .at _ :: r => nSl r
  | .cl _ :: r => nSl r
  | .own _ _ _ :: r => nSl r
  | .mp _ :: r => nSl r
def noAt : List Dc → Bool
  | [] => true
  | .at _ :: _ => false
  | .cl _ :: _ => false
  | .slice _ _ :: r => noAt r
  | .int _ _ :: r => noAt r
  | .bool _ :: r => noAt r
  | .str _ :: r => noAt r
  | .own _ _ _ :: r => noAt r
  | .mp _ :: r => noAt r
def AllSl : Nat → (List SlV → Prop) → Prop
  | 0, p => p []
  | k + 1, p => ∀ a n c, AllSl k (fun vs => p ((a, n, c) :: vs))
theorem AllSl.get {p : List SlV → Prop} : ∀ (k : Nat), AllSl k p → ∀ vs, vs.length = k → p vs
  | 0, h, vs, hv => by rw [List.length_eq_zero_iff.1 hv]; exact h
  | k + 1, h, [], hv => by simp at hv
  | k + 1, h, (a, n, c) :: vs, hv => AllSl.get (p := fun vs => p ((a, n, c) :: vs)) k (h a n c) vs (by simpa using hv)
inductive Pures (w : World) (X : Nat → Prop) : List Value → List Dc → Prop
  | nil : Pures w X [] []
  | cons {v d vs ds} : PureC w X v d → Pures w X vs ds → Pures w X (v :: vs) (d :: ds)
theorem Pures.length {w : World} {X : Nat → Prop} {vs : List Value} {ds : List Dc} (h : Pures w X vs ds) : vs.length = ds.length := by
  induction h with
  | nil => rfl
  | cons _ _ ih => simp [ih]
theorem Pures.get {w : World} {X : Nat → Prop} {vs : List Value} {ds : List Dc} (h : Pures w X vs ds) : ∀ j (hj : j < ds.length), ∃ u, vs[j]? = some u ∧ PureC w X u ds[j] := by
  induction h with
  | nil => intro j hj; simp at hj
  | cons h1 _ ih =>
    intro j hj
    cases j with
    | zero => exact ⟨_, rfl, h1⟩
    | succ j => exact ih j (by simpa using hj)
theorem Pures.of_get {w : World} {X : Nat → Prop} : ∀ (ds : List Dc) (vs : List Value), vs.length = ds.length → (∀ j (hj : j < ds.length), ∃ u, vs[j]? = some u ∧ PureC w X u ds[j]) → Pures w X vs ds
  | [], [], _, _ => .nil
  | d :: ds, v :: vs, hl, h => .cons (by
      obtain ⟨u, h1, h2⟩ := h 0 (by simp)
      simp only [List.getElem?_cons_zero, Option.some.injEq] at h1
      subst h1; exact h2) (Pures.of_get ds vs (by simpa using hl) (fun j hj => by
      obtain ⟨u, h1, h2⟩ := h (j + 1) (by simpa using hj)
      exact ⟨u, by simpa using h1, by simpa using h2⟩))
theorem PureC.oneC {w : World} {X : Nat → Prop} {v : Value} {d : Dc} (h : PureC w X v d) : oneC v = true ∧ v.oneCell' = true := by
  cases h <;> exact ⟨rfl, rfl⟩
theorem Pures.cells {w : World} {X : Nat → Prop} {vs : List Value} {ds : List Dc} (h : Pures w X vs ds) (hna : noAt ds = true) : ∃ sl : List SlV, sl.length = nSl ds ∧ vs = cellsV ds sl ∧ ∀ p ∈ factsV ds sl, PureC w X p.1 p.2 := by
  induction h with
  | nil => exact ⟨[], rfl, rfl, fun p hp => by cases hp⟩
  | cons h1 _ ih =>
    obtain ⟨sl, h2, h3, h4⟩ := ih (by cases h1 <;> first | exact hna | simp [noAt] at hna)
    cases h1 with
    | cl => simp [noAt] at hna
    | «at» => simp [noAt] at hna
    | int k n => exact ⟨sl, h2, by simp [cellsV, h3], h4⟩
    | bool b => exact ⟨sl, h2, by simp [cellsV, h3], h4⟩
    | str s => exact ⟨sl, h2, by simp [cellsV, h3], h4⟩
    | own a n c => exact ⟨sl, h2, by simp [cellsV, h3], h4⟩
    | mp b => exact ⟨sl, h2, by simp [cellsV, h3], h4⟩
    | nil a cap sz => exact ⟨(a, 0, cap) :: sl, by simp [nSl, h2], by simp [cellsV, h3], fun p hp => by
        simp only [factsV, List.mem_cons] at hp
        rcases hp with rfl | hp
        · exact .nil _ _ _
        · exact h4 p hp⟩
    | slice b o len cap sz xs vs hlen hcap hX hb hsz hc he => exact ⟨(some ⟨b, o, none⟩, len, cap) :: sl, by simp [nSl, h2], by simp [cellsV, h3], fun p hp => by
        simp only [factsV, List.mem_cons] at hp
        rcases hp with rfl | hp
        · exact .slice b o len cap sz xs vs hlen hcap hX hb hsz hc he
        · exact h4 p hp⟩
def scal : Dc → Option Value
  | .int k n => some (.int k n)
  | .bool b => some (.bool b)
  | .str s => some (.string (bs s))
  | .slice _ _ => none
  | .at _ => none
  | .cl _ => none
  | .own a n c => some (.slice a n c)
  | .mp b => some (.map (some b))
inductive CP (Φ : List (Value × Dc)) : List Value → List Dc → Prop
  | nil : CP Φ [] []
  | s {v d vs ds} (h : scal d = some v) : CP Φ vs ds → CP Φ (v :: vs) (d :: ds)
  | f {v d vs ds} (j : Nat) (h : Φ[j]? = some (v, d)) : CP Φ vs ds → CP Φ (v :: vs) (d :: ds)
theorem CP.pures {w : World} {X : Nat → Prop} {Φ : List (Value × Dc)} (hf : ∀ p ∈ Φ, PureC w X p.1 p.2) {vs : List Value} {ds : List Dc} (h : CP Φ vs ds) : Pures w X vs ds := by
  induction h with
  | nil => exact .nil
  | s h _ ih =>
    refine .cons ?_ ih
    rename_i v d _ _ _
    cases d <;> simp only [scal, Option.some.injEq, reduceCtorEq] at h <;> subst h <;> constructor
  | f j h _ ih => exact .cons (hf _ (List.mem_of_getElem? h)) ih
def at_ {α : Type} [Inhabited α] (xs : List α) (i : Int) : α := xs.getD i.toNat default
theorem at_get {α : Type} [Inhabited α] {xs : List α} {i : Int} (hi : inR i xs.length = true) : ∃ h : i.toNat < xs.length, at_ xs i = xs[i.toNat] := by
  obtain ⟨h0, h1⟩ := inR_iff.1 hi
  have h : i.toNat < xs.length := by omega
  exact ⟨h, by simp [at_, h]⟩
def slT (P : Program) (T : TypeId) : Option (TypeId × Nat × Nat) :=
  match P.underlying T with
  | some (.slice e) => match P.info? e with
    | some i => match i.zero with
      | some z => if z.cells.size = i.size ∧ 0 < i.size then some (e, i.size, i.bytes) else none
      | none => none
    | none => none
  | _ => none
theorem slT_parts {P : Program} {T e : TypeId} {sz bytes : Nat} (h : slT P T = some (e, sz, bytes)) : P.underlying T = some (.slice e) ∧ ∃ i z, P.info? e = some i ∧ i.zero = some z ∧ i.size = sz ∧ i.bytes = bytes ∧ z.cells.size = sz ∧ 0 < sz := by
  unfold slT at h
  split at h
  · rename_i e' hu
    split at h
    · rename_i i hi
      split at h
      · rename_i z hz
        split at h
        · rename_i hc
          simp only [Option.some.injEq, Prod.mk.injEq] at h
          obtain ⟨rfl, rfl, rfl⟩ := h
          exact ⟨hu, i, z, hi, hz, rfl, rfl, hc.1, hc.2⟩
        · simp at h
      · simp at h
    · simp at h
  · simp at h
structure Seen (w : World) (X : Nat → Prop) (a : Option Addr) (n sz : Nat) (xs : List (List Dc)) : Prop where
  len : n = xs.length
  cells : ∀ i (hi : i < xs.length), xs[i].length = sz ∧ a = some ⟨blkA a, offA a, none⟩ ∧ ∀ j (hj : j < xs[i].length), ∃ u, w.cell? ⟨blkA a, offA a + (i * sz + j), none⟩ = some u ∧ PureC w X u xs[i][j]
theorem PureC.seen {w : World} {X : Nat → Prop} {a : Option Addr} {n c sz : Nat} {xs : List (List Dc)} (h : PureC w X (.slice a n c) (.slice sz xs)) : Seen w X a n sz xs := by
  cases h with
  | nil => exact ⟨rfl, fun i hi => by simp at hi⟩
  | slice b o _ _ _ _ vs hlen hcap hX hb hsz hc he =>
    refine ⟨hlen.symm, fun i hi => ⟨hsz _ (List.getElem_mem hi), rfl, fun j hj => ⟨vs i j, ?_, he i j hi hj⟩⟩⟩
    exact hc i j (by omega) (by rw [← hsz _ (List.getElem_mem hi)]; exact hj)
theorem Live.seen {w : World} {X : Nat → Prop} {a : Option Addr} {n c sz : Nat} {T : TypeId} {xs : List (List Dc)} (h : Live w X (.row (.slice a n c) T sz xs)) : Seen w X a n sz xs := by
  rcases h with ⟨hv, rfl⟩ | ⟨b, cap, arr, hv, h1, h2, h3, h4, h5, h6⟩
  · simp only [Value.slice.injEq] at hv
    exact ⟨by simp [hv.2.1], fun i hi => by simp at hi⟩
  · simp only [Value.slice.injEq] at hv
    obtain ⟨rfl, rfl, rfl⟩ := hv
    refine ⟨rfl, fun i hi => ⟨h5 _ (List.getElem_mem hi), rfl, fun j hj => ?_⟩⟩
    obtain ⟨u, hu, hp⟩ := h6 i j hi hj
    refine ⟨u, ?_, hp⟩
    have e : blkA (some ⟨b, 0, none⟩) = b := rfl
    have e2 : offA (some ⟨b, 0, none⟩) = 0 := rfl
    rw [e, e2]
    simp only [World.cell?, h1, Option.isSome_none, Bool.false_eq_true, if_false, Nat.zero_add]
    exact hu
section
variable {E : Env} {ops : Array Oper} {os : List Oper} {l : List (Nat × Value)} {H : List HB} {Φ : List (Value × Dc)} {N : SP} {Q : QS}
variable {ty : TypeId} {pos : String} {aft : Array Edge} {d : Nat}
inductive Where (H : List HB) (Φ : List (Value × Dc)) (v : Value) (sz : Nat) (xs : List (List Dc)) : Prop
  | f (p : Nat) (h : Φ[p]? = some (v, .slice sz xs))
  | r (j : Nat) (T : TypeId) (h : H[j]? = some (.row v T sz xs))
  | m (j i : Nat) (T : TypeId) {L : List (Value × TypeId × Nat × List (List Dc))} (h : H[j]? = some (.fam L)) (hi : L[i]? = some (v, T, sz, xs))
theorem Where.seen {a : Option Addr} {n c sz : Nat} {xs : List (List Dc)} (h : Where H Φ (.slice a n c) sz xs) {ac : Act} {w : World} (hs : St E l H Φ ac w) : Seen w (fun b => E.X b ∨ b ∈ blks H) a n sz xs := by
  cases h with
  | f p h => exact (hs.own.facts _ (List.mem_of_getElem? h)).seen
  | r j T h => exact (hs.own.live _ (List.mem_of_getElem? h)).seen
  | m j i T h hi => exact Live.seen (T := T) (c := c) (hs.own.live _ (List.mem_of_getElem? h) _ (List.mem_of_getElem? hi))
theorem v_len {T : TypeId} {x : Operand} {a : Option Addr} {n c sz e bytes : Nat} {xs : List (List Dc)} {m : Nat} (ht : slT E.P T = some (e, sz, bytes)) (hx : opv l x = some (.slice a n c)) (hw : Where H Φ (.slice a n c) sz xs) (hm : xs.length = m) : Val E l H Φ (.call ⟨.builtin .len, #[x], #[T]⟩) ty (.int .i64 (m : Int)) :=
  fun ac w hs dd pp aa gg => by
    have hl := (hw.seen hs).len
    simp only [execOp, resolve, List.map_toArray, List.map_cons, List.map_nil, opv_eval hs hx, Sem.run_bind]
    simp only [pure, Sem.run, Result.andThen, invoke, builtin, Builtin.len_]
    simp [run_underlying' (slT_parts ht).1, goInt, hl, hm]
theorem v_indexAddr_s {α : Type} [Inhabited α] {T : TypeId} {x y : Operand} {a : Option Addr} {n c sz e bytes : Nat} {k : IntKind} {i : Int} {xs : List α} {enc : α → List Dc} (ht : slT E.P T = some (e, sz, bytes)) (hx : opv l x = some (.slice a n c)) (hy : opv l y = some (.int k i))
    (hw : Where H Φ (.slice a n c) sz (xs.map enc)) (hi : inR i xs.length = true) : Val E l H Φ (.indexAddr T x y) ty (.pointer (some ⟨blkA a, offA a + (i.toNat * sz + 0), none⟩)) := by
  intro ac w hs _ _ _ _
  obtain ⟨hlt, hget⟩ := at_get hi
  obtain ⟨h0, h1⟩ := inR_iff.1 hi
  have hse := hw.seen hs
  have hc := hse.cells i.toNat (by simpa using hlt)
  obtain ⟨hu, inf, z, h2, h3, h4, h5, h6, h7⟩ := slT_parts ht
  have e1 : (sizeOf e).run E.P w = .ok sz w := by
    have e : (typeInfo e).run E.P w = .ok inf w := by
      simp only [typeInfo, program, Sem.run_bind, Sem.run, Result.andThen, h2]; rfl
    simp only [sizeOf, Sem.run_bind, e, Result.andThen, h4]; rfl
  have hn : n = xs.length := by simpa using hse.len
  simp only [execOp, opv_eval hs hx, opv_eval hs hy, Sem.run_bind]
  have e2 : (Instr.indexAt T (.slice a n c) (.int k i)).run E.P w = .ok (.pointer (some ⟨blkA a, offA a + (i.toNat * sz + 0), none⟩)) w := by
    rw [hc.2.1]
    simp only [Instr.indexAt, asIntOf, Sem.run_bind, run_underlying' hu, Result.andThen]
    simp [hn, h0, h1, e1, add_none, blkA, offA]
  rw [e2]; rfl
theorem o_load_s {α : Type} [Inhabited α] {t : TypeId} {x : Operand} {a : Option Addr} {n c sz : Nat} {i : Int} {j m : Nat} {ag : Bool} {xs : List α} {enc : α → List Dc} {ds : List Dc} (ht : tyd E.P t = some (ag, m)) (hx : opv l x = some (.pointer (some ⟨blkA a, offA a + (i.toNat * sz + j), none⟩)))
    (hw : Where H Φ (.slice a n c) sz (xs.map enc)) (hi : inR i xs.length = true) (hds : ((enc (at_ xs i)).drop j).take m = ds) (hm : Nat.beq ds.length m = true) (h1 : (ag || Nat.beq m 1) = true) (h0 : Nat.blt 0 m = true) (hna : noAt ds = true) (hd : Nat.blt d E.n = true)
    (h : AllSl (nSl ds) fun vs => WO E ops os ((d, asVal ag (cellsV ds vs)) :: l) H (factsV ds vs ++ Φ) N Q) : WO E ops (⟨some d, .load t x, ty, pos, aft, none⟩ :: os) l H Φ N Q := by
  refine o_step fun ac w hs => ?_
  have hm' := Nat.eq_of_beq_eq_true hm
  obtain ⟨hlt, hget⟩ := at_get hi
  have hse := hw.seen hs
  have hc := hse.cells i.toNat (by simpa using hlt)
  have key : ∀ y, xs[i.toNat] = y → (enc y).length = sz ∧ ∀ q (hq : q < (enc y).length), ∃ u, w.cell? ⟨blkA a, offA a + (i.toNat * sz + q), none⟩ = some u ∧ PureC w (fun b => E.X b ∨ b ∈ blks H) u (enc y)[q] := by
    rintro y rfl
    obtain ⟨g1, g2, g3⟩ := hc
    exact ⟨by simpa using g1, by simpa using g3⟩
  obtain ⟨g1, g3⟩ := key _ hget.symm
  have hjm : j + m ≤ (enc (at_ xs i)).length := by
    have := congrArg List.length hds
    simp only [List.length_take, List.length_drop, hm'] at this
    have := blt_lt h0
    omega
  have hcell : ∀ q (hq : q < ds.length), ∃ u, w.cell? ⟨blkA a, offA a + (i.toNat * sz + j) + q, none⟩ = some u ∧ PureC w (fun b => E.X b ∨ b ∈ blks H) u ds[q] := by
    intro q hq
    obtain ⟨u, h2, h3⟩ := g3 (j + q) (by omega)
    refine ⟨u, ?_, ?_⟩
    · rw [← h2]; congr 2; omega
    · subst hds
      simpa using h3
  have hpure : ∃ vs : List Value, vs.length = ds.length ∧ (∀ q (hq : q < vs.length), w.cell? ⟨blkA a, offA a + (i.toNat * sz + j) + q, none⟩ = some vs[q]) ∧ Pures w (fun b => E.X b ∨ b ∈ blks H) vs ds := by
    refine ⟨(List.range ds.length).map fun q => (w.cell? ⟨blkA a, offA a + (i.toNat * sz + j) + q, none⟩).getD undef, by simp, ?_, ?_⟩
    · intro q hq
      obtain ⟨u, h2, _⟩ := hcell q (by simpa using hq)
      simp [h2]
    · refine Pures.of_get _ _ (by simp) fun q hq => ?_
      obtain ⟨u, h2, h3⟩ := hcell q hq
      exact ⟨u, by simp [hq, h2], h3⟩
  obtain ⟨vs, hv1, hv2, hv3⟩ := hpure
  obtain ⟨sl, hs1, hs2, hs3⟩ := hv3.cells hna
  have hr := run_loadVar (P := E.P) ht (b := blkA a) (o := offA a + (i.toNat * sz + j)) (w := w) vs (by omega) (fun e => by subst e; simpa using Nat.eq_of_beq_eq_true (by simpa using h1)) hv2
  refine ⟨asVal ag vs, w, ?_, ?_⟩
  · simp only [execOp, opv_eval hs hx, Instr.loadAt, Instr.sureAddr, Sem.run_bind]
    simp only [pure, Sem.run, Result.andThen, hr]
  · have hk := h.get _ sl hs1
    rw [← hs2] at hk
    refine hk _ _ ?_
    have hown : Own w E.X H (factsV ds sl ++ Φ) := ⟨hs.own.xin, hs.own.nodup, hs.own.apart, hs.own.inw, hs.own.live, fun p hp => by
      rcases List.mem_append.1 hp with hp | hp
      · exact hs3 p hp
      · exact hs.own.facts p hp⟩
    exact hs.put (blt_lt hd) hown hs.frm hs.base
theorem o_st {l' : List (Nat × Value)} {H' : List HB} {Φ' : List (Value × Dc)} (f : ∀ a w, St E l H Φ a w → St E l' H' Φ' a w) (h : WO E ops os l' H' Φ' N Q) : WO E ops os l H Φ N Q := fun a w hs => h a w (f a w hs)
theorem s_st {l' : List (Nat × Value)} {H' : List HB} {Φ' : List (Value × Dc)} (f : ∀ a w, St E l H Φ a w → St E l' H' Φ' a w) (h : Sat E l' H' Φ' N) : Sat E l H Φ N := fun a w hs => h a w (f a w hs)
theorem st_nilrow (T : TypeId) (sz : Nat) : ∀ a w, St E l H Φ a w → St E l (.row (.slice none 0 0) T sz [] :: H) Φ a w := by
  intro a w hs
  exact hs.insert (Nat.le_refl _) (fun _ _ => rfl) (fun b hb => by simp [HB.blk, slB] at hb) (.inl ⟨rfl, rfl⟩) rfl rfl rfl
theorem st_nilfact (sz : Nat) : ∀ a w, St E l H Φ a w → St E l H ((.slice none 0 0, .slice sz []) :: Φ) a w := by
  intro a w hs
  exact ⟨hs.size, hs.defers, hs.tm, hs.own.addFact (.nil _ _ _), hs.frm, hs.base⟩
theorem st_freeze (j : Nat) {v : Value} {T : TypeId} {sz : Nat} {xs : List (List Dc)} (hj : H[j]? = some (.row v T sz xs)) : ∀ a w, St E l H Φ a w → St E l (H.eraseIdx j) ((v, .slice sz xs) :: Φ) a w := by
  intro a w hs
  have hsp := getElem?_split hj
  have ho := hs.own
  rw [hsp] at ho
  have he : H.eraseIdx j = H.take j ++ H.drop (j + 1) := List.eraseIdx_eq_take_drop_succ ..
  rw [he]
  refine ⟨hs.size, hs.defers, hs.tm, ho.freeze, hs.frm, fun b hb => hs.base b ?_⟩
  rw [← he] at hb
  exact (sub_blks (List.eraseIdx_sublist H j)).subset hb
end
end Go.Vc
