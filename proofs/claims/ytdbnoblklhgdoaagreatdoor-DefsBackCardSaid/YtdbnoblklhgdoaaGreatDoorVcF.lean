import Derived.Test.YtdbnoblklhgdoaaGreatDoorVcE
import Derived.Laws.BytesArg
import Derived.Lib.AppendStr
set_option linter.unusedVariables false
set_option linter.unusedSimpArgs false
namespace Go.Vc
open Go
abbrev SlV := Option Addr × Nat × Nat
def yW (a : Option Addr) : Nat := (a.map (·.block)).getD 0
def yZ (a : Option Addr) : Nat := (a.map (·.off)).getD 0
def ww : List Dc -> List SlV -> List Value
 | [], _ => []
 | .int k n :: r, vs => .int k n :: ww r vs
 | .bool b :: r, vs => .bool b :: ww r vs
 | .str s :: r, vs => .string (bs s) :: ww r vs
 | .slice _ _ :: r, v :: vs => .slice v.1 v.2.1 v.2.2 :: ww r vs
 | .slice _ _ :: r, [] => undef :: ww r []
 | .at _ :: r, vs => undef :: ww r vs
 | .cl _ :: r, vs => undef :: ww r vs
 | .own a n c :: r, vs => .slice a n c :: ww r vs
def vu : List Dc -> List SlV -> List (Value × Dc)
 | [], _ => []
 | .slice sz xs :: r, v :: vs => (.slice v.1 v.2.1 v.2.2, .slice sz xs) :: vu r vs
 | .slice _ _ :: r, [] => vu r []
 | .int _ _ :: r, vs => vu r vs
 | .bool _ :: r, vs => vu r vs
 | .str _ :: r, vs => vu r vs
 | .at _ :: r, vs => vu r vs
 | .cl _ :: r, vs => vu r vs
 | .own _ _ _ :: r, vs => vu r vs
def nSl : List Dc -> Nat
 | [] => 0
 | .slice _ _ :: r => nSl r + 1
 | .int _ _ :: r => nSl r
 | .bool _ :: r => nSl r
 | .str _ :: r => nSl r
 | .at _ :: r => nSl r
 | .cl _ :: r => nSl r
 | .own _ _ _ :: r => nSl r
def noAt : List Dc -> Bool
 | [] => true
 | .at _ :: _ => false
 | .cl _ :: _ => false
 | .slice _ _ :: r => noAt r
 | .int _ _ :: r => noAt r
 | .bool _ :: r => noAt r
 | .str _ :: r => noAt r
 | .own _ _ _ :: r => noAt r
def AllSl : Nat -> (List SlV -> Prop) -> Prop
 | 0, p => p []
 | k + 1, p => ∀ a n c, AllSl k (fun vs => p ((a, n, c) :: vs))
theorem AllSl.get {p : List SlV -> Prop} : ∀ (k : Nat), AllSl k p -> ∀ vs, vs.length = k -> p vs
 | 0, h, vs, hv => by rw [List.length_eq_zero_iff.1 hv]; exact h
 | k + 1, h, [], hv => by simp at hv
 | k + 1, h, (a, n, c) :: vs, hv => AllSl.get (p := fun vs => p ((a, n, c) :: vs)) k (h a n c) vs (by simpa using hv)
inductive xc (w : World) (X : Nat -> Prop) : List Value -> List Dc -> Prop
 | nil : xc w X [] []
 | cons {v d vs ds} : yi w X v d -> xc w X vs ds -> xc w X (v :: vs) (d :: ds)
theorem xc.length {w : World} {X : Nat -> Prop} {vs : List Value} {ds : List Dc} (h : xc w X vs ds) : vs.length = ds.length := by
 induction h with
 | nil => rfl
 | cons _ _ ih => simp [ih]
theorem xc.get {w : World} {X : Nat -> Prop} {vs : List Value} {ds : List Dc} (h : xc w X vs ds) : ∀ j (hj : j < ds.length), ∃ u, vs[j]? = some u /\ yi w X u ds[j] := by
 induction h with
 | nil => intro j hj; simp at hj
 | cons h1 _ ih =>
  intro j hj
  cases j with
  | zero => exact ⟨_, rfl, h1⟩
  | succ j => exact ih j (by simpa using hj)
theorem xc.of_get {w : World} {X : Nat -> Prop} : ∀ (ds : List Dc) (vs : List Value), vs.length = ds.length -> (∀ j (hj : j < ds.length), ∃ u, vs[j]? = some u /\ yi w X u ds[j]) -> xc w X vs ds
 | [], [], _, _ => .nil
 | d :: ds, v :: vs, hl, h => .cons (by
   obtain ⟨u, h1, h2⟩ := h 0 (by simp)
   simp only [List.getElem?_cons_zero, Option.some.injEq] at h1
   subst h1; exact h2) (xc.of_get ds vs (by simpa using hl) (fun j hj => by
   obtain ⟨u, h1, h2⟩ := h (j + 1) (by simpa using hj)
   exact ⟨u, by simpa using h1, by simpa using h2⟩))
theorem yi.oneC {w : World} {X : Nat -> Prop} {v : Value} {d : Dc} (h : yi w X v d) : oneC v = true /\ v.oneCell' = true := by
 cases h <;> exact ⟨rfl, rfl⟩
theorem xc.cells {w : World} {X : Nat -> Prop} {vs : List Value} {ds : List Dc} (h : xc w X vs ds) (hna : noAt ds = true) : ∃ sl : List SlV, sl.length = nSl ds /\ vs = ww ds sl /\ ∀ p ∈ vu ds sl, yi w X p.1 p.2 := by
 induction h with
 | nil => exact ⟨[], rfl, rfl, fun p hp => by cases hp⟩
 | cons h1 _ ih =>
  obtain ⟨sl, h2, h3, h4⟩ := ih (by cases h1 <;> first | exact hna | simp [noAt] at hna)
  cases h1 with
  | cl => simp [noAt] at hna
  | «at» => simp [noAt] at hna
  | int k n => exact ⟨sl, h2, by simp [ww, h3], h4⟩
  | bool b => exact ⟨sl, h2, by simp [ww, h3], h4⟩
  | str s => exact ⟨sl, h2, by simp [ww, h3], h4⟩
  | own a n c => exact ⟨sl, h2, by simp [ww, h3], h4⟩
  | nil a cap sz => exact ⟨(a, 0, cap) :: sl, by simp [nSl, h2], by simp [ww, h3], fun p hp => by
    simp only [vu, List.mem_cons] at hp
    rcases hp with rfl | hp
    ·exact .nil _ _ _
    ·exact h4 p hp⟩
  | slice b o len cap sz xs vs hlen hcap hX hb hsz hc he => exact ⟨(some ⟨b, o, none⟩, len, cap) :: sl, by simp [nSl, h2], by simp [ww, h3], fun p hp => by
    simp only [vu, List.mem_cons] at hp
    rcases hp with rfl | hp
    ·exact .slice b o len cap sz xs vs hlen hcap hX hb hsz hc he
    ·exact h4 p hp⟩
def scal : Dc -> Option Value
 | .int k n => some (.int k n)
 | .bool b => some (.bool b)
 | .str s => some (.string (bs s))
 | .slice _ _ => none
 | .at _ => none
 | .cl _ => none
 | .own a n c => some (.slice a n c)
inductive CP (Φ : List (Value × Dc)) : List Value -> List Dc -> Prop
 | nil : CP Φ [] []
 | s {v d vs ds} (h : scal d = some v) : CP Φ vs ds -> CP Φ (v :: vs) (d :: ds)
 | f {v d vs ds} (j : Nat) (h : Φ[j]? = some (v, d)) : CP Φ vs ds -> CP Φ (v :: vs) (d :: ds)
theorem CP.pures {w : World} {X : Nat -> Prop} {Φ : List (Value × Dc)} (hf : ∀ p ∈ Φ, yi w X p.1 p.2) {vs : List Value} {ds : List Dc} (h : CP Φ vs ds) : xc w X vs ds := by
 induction h with
 | nil => exact .nil
 | s h _ ih =>
  refine .cons ?_ ih
  rename_i v d _ _ _
  cases d <;> simp only [scal, Option.some.injEq, reduceCtorEq] at h <;> subst h <;> constructor
 | f j h _ ih => exact .cons (hf _ (List.mem_of_getElem? h)) ih
def at_ {α : Type} [Inhabited α] (xs : List α) (i : Int) : α := xs.getD i.toNat default
theorem at_get {α : Type} [Inhabited α] {xs : List α} {i : Int} (hi : xf i xs.length = true) : ∃ h : i.toNat < xs.length, at_ xs i = xs[i.toNat] := by
 obtain ⟨h0, h1⟩ := yy.1 hi
 have h : i.toNat < xs.length := by omega
 exact ⟨h, by simp [at_, h]⟩
def slT (P : Program) (T : TypeId) : Option (TypeId × Nat × Nat) :=
 match P.underlying T with
 | some (.slice e) => match P.info? e with
  | some i => match i.zero with
   | some z => if z.cells.size = i.size /\ 0 < i.size then some (e, i.size, i.bytes) else none
   | none => none
  | none => none
 | _ => none
theorem kM {P : Program} {T e : TypeId} {sz bytes : Nat} (h : slT P T = some (e, sz, bytes)) : P.underlying T = some (.slice e) /\ ∃ i z, P.info? e = some i /\ i.zero = some z /\ i.size = sz /\ i.bytes = bytes /\ z.cells.size = sz /\ 0 < sz := by
 unfold slT at h
 split at h
 ·rename_i e' hu
  split at h
  ·rename_i i hi
   split at h
   ·rename_i z hz
    split at h
    ·rename_i hc
     simp only [Option.some.injEq, Prod.mk.injEq] at h
     obtain ⟨rfl, rfl, rfl⟩ := h
     exact ⟨hu, i, z, hi, hz, rfl, rfl, hc.1, hc.2⟩
    ·simp at h
   ·simp at h
  ·simp at h
 ·simp at h
structure Seen (w : World) (X : Nat -> Prop) (a : Option Addr) (n sz : Nat) (xs : List (List Dc)) : Prop where
 len : n = xs.length
 cells : ∀ i (hi : i < xs.length), xs[i].length = sz /\ a = some ⟨yW a, yZ a, none⟩ /\ ∀ j (hj : j < xs[i].length), ∃ u, w.cell? ⟨yW a, yZ a + (i * sz + j), none⟩ = some u /\ yi w X u xs[i][j]
theorem yi.seen {w : World} {X : Nat -> Prop} {a : Option Addr} {n c sz : Nat} {xs : List (List Dc)} (h : yi w X (.slice a n c) (.slice sz xs)) : Seen w X a n sz xs := by
 cases h with
 | nil => exact ⟨rfl, fun i hi => by simp at hi⟩
 | slice b o _ _ _ _ vs hlen hcap hX hb hsz hc he =>
  refine ⟨hlen.symm, fun i hi => ⟨hsz _ (List.getElem_mem hi), rfl, fun j hj => ⟨vs i j, ?_, he i j hi hj⟩⟩⟩
  exact hc i j (by omega) (by rw [<- hsz _ (List.getElem_mem hi)]; exact hj)
theorem Live.seen {w : World} {X : Nat -> Prop} {a : Option Addr} {n c sz : Nat} {T : TypeId} {xs : List (List Dc)} (h : Live w X (.row (.slice a n c) T sz xs)) : Seen w X a n sz xs := by
 rcases h with ⟨hv, rfl⟩ | ⟨b, cap, arr, hv, h1, h2, h3, h4, h5, h6⟩
 ·simp only [Value.slice.injEq] at hv
  exact ⟨by simp [hv.2.1], fun i hi => by simp at hi⟩
 ·simp only [Value.slice.injEq] at hv
  obtain ⟨rfl, rfl, rfl⟩ := hv
  refine ⟨rfl, fun i hi => ⟨h5 _ (List.getElem_mem hi), rfl, fun j hj => ?_⟩⟩
  obtain ⟨u, hu, hp⟩ := h6 i j hi hj
  refine ⟨u, ?_, hp⟩
  have e : yW (some ⟨b, 0, none⟩) = b := rfl
  have e2 : yZ (some ⟨b, 0, none⟩) = 0 := rfl
  rw [e, e2]
  simp only [World.cell?, h1, Option.isSome_none, Bool.false_eq_true, if_false, Nat.zero_add]
  exact hu
section
variable {E : wx} {ops : Array Oper} {os : List Oper} {l : List (Nat × Value)} {H : List HB} {Φ : List (Value × Dc)} {N : SP} {Q : QS}
variable {ty : TypeId} {pos : String} {aft : Array Edge} {d : Nat}
inductive ur (H : List HB) (Φ : List (Value × Dc)) (v : Value) (sz : Nat) (xs : List (List Dc)) : Prop
 | f (p : Nat) (h : Φ[p]? = some (v, .slice sz xs))
 | r (j : Nat) (T : TypeId) (h : H[j]? = some (.row v T sz xs))
theorem ur.seen {a : Option Addr} {n c sz : Nat} {xs : List (List Dc)} (h : ur H Φ (.slice a n c) sz xs) {ac : Act} {w : World} (hs : St E l H Φ ac w) : Seen w (fun b => E.X b \/ b ∈ zQ H) a n sz xs := by
 cases h with
 | f p h => exact (hs.own.facts _ (List.mem_of_getElem? h)).seen
 | r j T h => exact (hs.own.live _ (List.mem_of_getElem? h)).seen
theorem v_len {T : TypeId} {x : Operand} {a : Option Addr} {n c sz e bytes : Nat} {xs : List (List Dc)} {m : Nat} (ht : slT E.P T = some (e, sz, bytes)) (hx : xd l x = some (.slice a n c)) (hw : ur H Φ (.slice a n c) sz xs) (hm : xs.length = m) : wQ E l H Φ (.call ⟨.builtin .len, #[x], #[T]⟩) ty (.int .i64 (m : Int)) :=
 fun ac w hs dd pp aa gg => by
  have hl := (hw.seen hs).len
  simp only [execOp, resolve, List.map_toArray, List.map_cons, List.map_nil, zE hs hx, Sem.run_bind]
  simp only [pure, Sem.run, Result.andThen, invoke, builtin, Builtin.len_]
  simp [yA (kM ht).1, goInt, hl, hm]
theorem zi {α : Type} [Inhabited α] {T : TypeId} {x y : Operand} {a : Option Addr} {n c sz e bytes : Nat} {k : IntKind} {i : Int} {xs : List α} {enc : α -> List Dc} (ht : slT E.P T = some (e, sz, bytes)) (hx : xd l x = some (.slice a n c)) (hy : xd l y = some (.int k i))
  (hw : ur H Φ (.slice a n c) sz (xs.map enc)) (hi : xf i xs.length = true) : wQ E l H Φ (.indexAddr T x y) ty (.pointer (some ⟨yW a, yZ a + (i.toNat * sz + 0), none⟩)) := by
 intro ac w hs _ _ _ _
 obtain ⟨hlt, hget⟩ := at_get hi
 obtain ⟨h0, h1⟩ := yy.1 hi
 have hse := hw.seen hs
 have hc := hse.cells i.toNat (by simpa using hlt)
 obtain ⟨hu, inf, z, h2, h3, h4, h5, h6, h7⟩ := kM ht
 have e1 : (sizeOf e).run E.P w = .ok sz w := by
  have e : (typeInfo e).run E.P w = .ok inf w := by
   simp only [typeInfo, program, Sem.run_bind, Sem.run, Result.andThen, h2]; rfl
  simp only [sizeOf, Sem.run_bind, e, Result.andThen, h4]; rfl
 have hn : n = xs.length := by simpa using hse.len
 simp only [execOp, zE hs hx, zE hs hy, Sem.run_bind]
 have e2 : (Instr.indexAt T (.slice a n c) (.int k i)).run E.P w = .ok (.pointer (some ⟨yW a, yZ a + (i.toNat * sz + 0), none⟩)) w := by
  rw [hc.2.1]
  simp only [Instr.indexAt, asIntOf, Sem.run_bind, yA hu, Result.andThen]
  simp [hn, h0, h1, e1, vv, yW, yZ]
 rw [e2]; rfl
theorem yq {α : Type} [Inhabited α] {t : TypeId} {x : Operand} {a : Option Addr} {n c sz : Nat} {i : Int} {j m : Nat} {ag : Bool} {xs : List α} {enc : α -> List Dc} {ds : List Dc} (ht : ka E.P t = some (ag, m)) (hx : xd l x = some (.pointer (some ⟨yW a, yZ a + (i.toNat * sz + j), none⟩)))
  (hw : ur H Φ (.slice a n c) sz (xs.map enc)) (hi : xf i xs.length = true) (hds : ((enc (at_ xs i)).drop j).take m = ds) (hm : Nat.beq ds.length m = true) (h1 : (ag || Nat.beq m 1) = true) (h0 : Nat.blt 0 m = true) (hna : noAt ds = true) (hd : Nat.blt d E.n = true)
  (h : AllSl (nSl ds) fun vs => WO E ops os ((d, uq ag (ww ds vs)) :: l) H (vu ds vs ++ Φ) N Q) : WO E ops (⟨some d, .load t x, ty, pos, aft, none⟩ :: os) l H Φ N Q := by
 refine vr fun ac w hs => ?_
 have hm' := Nat.eq_of_beq_eq_true hm
 obtain ⟨hlt, hget⟩ := at_get hi
 have hse := hw.seen hs
 have hc := hse.cells i.toNat (by simpa using hlt)
 have key : ∀ y, xs[i.toNat] = y -> (enc y).length = sz /\ ∀ q (hq : q < (enc y).length), ∃ u, w.cell? ⟨yW a, yZ a + (i.toNat * sz + q), none⟩ = some u /\ yi w (fun b => E.X b \/ b ∈ zQ H) u (enc y)[q] := by
  rintro y rfl
  obtain ⟨g1, g2, g3⟩ := hc
  exact ⟨by simpa using g1, by simpa using g3⟩
 obtain ⟨g1, g3⟩ := key _ hget.symm
 have hjm : j + m <= (enc (at_ xs i)).length := by
  have := congrArg List.length hds
  simp only [List.length_take, List.length_drop, hm'] at this
  have := xe h0
  omega
 have hcell : ∀ q (hq : q < ds.length), ∃ u, w.cell? ⟨yW a, yZ a + (i.toNat * sz + j) + q, none⟩ = some u /\ yi w (fun b => E.X b \/ b ∈ zQ H) u ds[q] := by
  intro q hq
  obtain ⟨u, h2, h3⟩ := g3 (j + q) (by omega)
  refine ⟨u, ?_, ?_⟩
  ·rw [<- h2]; congr 2; omega
  ·subst hds
   simpa using h3
 have hpure : ∃ vs : List Value, vs.length = ds.length /\ (∀ q (hq : q < vs.length), w.cell? ⟨yW a, yZ a + (i.toNat * sz + j) + q, none⟩ = some vs[q]) /\ xc w (fun b => E.X b \/ b ∈ zQ H) vs ds := by
  refine ⟨(List.range ds.length).map fun q => (w.cell? ⟨yW a, yZ a + (i.toNat * sz + j) + q, none⟩).getD undef, by simp, ?_, ?_⟩
  ·intro q hq
   obtain ⟨u, h2, _⟩ := hcell q (by simpa using hq)
   simp [h2]
  ·refine xc.of_get _ _ (by simp) fun q hq => ?_
   obtain ⟨u, h2, h3⟩ := hcell q hq
   exact ⟨u, by simp [hq, h2], h3⟩
 obtain ⟨vs, hv1, hv2, hv3⟩ := hpure
 obtain ⟨sl, hs1, hs2, hs3⟩ := hv3.cells hna
 have hr := vk (P := E.P) ht (b := yW a) (o := yZ a + (i.toNat * sz + j)) (w := w) vs (by omega) (fun e => by subst e; simpa using Nat.eq_of_beq_eq_true (by simpa using h1)) hv2
 refine ⟨uq ag vs, w, ?_, ?_⟩
 ·simp only [execOp, zE hs hx, Instr.loadAt, Instr.sureAddr, Sem.run_bind]
  simp only [pure, Sem.run, Result.andThen, hr]
 ·have hk := h.get _ sl hs1
  rw [<- hs2] at hk
  refine hk _ _ ?_
  have hown : Own w E.X H (vu ds sl ++ Φ) := ⟨hs.own.xin, hs.own.nodup, hs.own.apart, hs.own.inw, hs.own.live, fun p hp => by
   rcases List.mem_append.1 hp with hp | hp
   ·exact hs3 p hp
   ·exact hs.own.facts p hp⟩
  exact hs.put (xe hd) hown hs.frm hs.base
theorem wj {l' : List (Nat × Value)} {H' : List HB} {Φ' : List (Value × Dc)} (f : ∀ a w, St E l H Φ a w -> St E l' H' Φ' a w) (h : WO E ops os l' H' Φ' N Q) : WO E ops os l H Φ N Q := fun a w hs => h a w (f a w hs)
theorem c_st {c : Code} {l' : List (Nat × Value)} {H' : List HB} {Φ' : List (Value × Dc)} (f : ∀ a w, St E l H Φ a w -> St E l' H' Φ' a w) (h : WC E c l' H' Φ' N Q) : WC E c l H Φ N Q := fun a w hs => h a w (f a w hs)
theorem xP {l' : List (Nat × Value)} {H' : List HB} {Φ' : List (Value × Dc)} (f : ∀ a w, St E l H Φ a w -> St E l' H' Φ' a w) (h : zT E l' H' Φ' N) : zT E l H Φ N := fun a w hs => h a w (f a w hs)
theorem ym (T : TypeId) (sz : Nat) : ∀ a w, St E l H Φ a w -> St E l (.row (.slice none 0 0) T sz [] :: H) Φ a w := by
 intro a w hs
 exact hs.insert (Nat.le_refl _) (fun _ _ => rfl) (fun b hb => by simp [HB.blk] at hb) (.inl ⟨rfl, rfl⟩) rfl rfl rfl
theorem zN (sz : Nat) : ∀ a w, St E l H Φ a w -> St E l H ((.slice none 0 0, .slice sz []) :: Φ) a w := by
 intro a w hs
 exact ⟨hs.size, hs.defers, hs.tm, hs.own.addFact (.nil _ _ _), hs.frm, hs.base⟩
theorem yM (j : Nat) {v : Value} {T : TypeId} {sz : Nat} {xs : List (List Dc)} (hj : H[j]? = some (.row v T sz xs)) : ∀ a w, St E l H Φ a w -> St E l (H.eraseIdx j) ((v, .slice sz xs) :: Φ) a w := by
 intro a w hs
 have hsp := getElem?_split hj
 have ho := hs.own
 rw [hsp] at ho
 have he : H.eraseIdx j = H.take j ++ H.drop (j + 1) := List.eraseIdx_eq_take_drop_succ ..
 rw [he]
 refine ⟨hs.size, hs.defers, hs.tm, ho.freeze, hs.frm, fun b hb => hs.base b ?_⟩
 rw [<- he] at hb
 exact ((List.eraseIdx_sublist H j).filterMap HB.blk).subset hb
end
end Go.Vc
