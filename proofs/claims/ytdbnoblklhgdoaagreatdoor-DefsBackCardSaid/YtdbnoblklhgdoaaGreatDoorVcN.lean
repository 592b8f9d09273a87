import Derived.Test.YtdbnoblklhgdoaaGreatDoorVcK
import Derived.Lib.UnsafeStr
import Derived.Lib.Builder
set_option linter.unusedVariables false
set_option linter.unusedSimpArgs false
namespace Go.Vc
open Go
inductive Pn (α β : Type) where
 | ok (a : α)
 | pan (b : β)
def Pn.go {α β γ : Type} (x : Pn α β) (f : α -> Option γ) (g : β -> Option γ) : Option γ := match x with
 | .ok a => f a
 | .pan b => g b
theorem zU {α β γ : Type} {a : α} {f : α -> Option γ} {g : β -> Option γ} {r : γ} (h : Pn.go (.ok a) f g = some r) : f a = some r := h
theorem zH {α β γ : Type} {b : β} {f : α -> Option γ} {g : β -> Option γ} {r : γ} (h : Pn.go (.pan b) f g = some r) : g b = some r := h
theorem tyd_info {P : Program} {t : TypeId} {ag : Bool} {n : Nat} (h : ka P t = some (ag, n)) : ∃ i, P.info? t = some i /\ i.size = n := by
 unfold ka at h
 split at h
 ·rename_i i _ hi
  simp only [Option.some.injEq, Prod.mk.injEq] at h
  exact ⟨_, hi, h.2⟩
 ·cases h
def wL (b : Nat) : Bool -> Value
 | true => .pointer (some ⟨b, 0, none⟩)
 | false => .pointer none
theorem cp_of {Φ : List (Value × Dc)} {vs : List Value} {ds ds' : List Dc} (h : ds' = ds) (hc : CP Φ vs ds) : CP Φ vs ds' := h ▸ hc
section
variable {E : wx} {ops : Array Oper} {os : List Oper} {l : List (Nat × Value)} {H : List HB} {Φ : List (Value × Dc)} {N : SP} {Q : QS}
variable {ty : TypeId} {pos : String} {aft : Array Edge} {d : Nat}
theorem o_panic {dst : Option Nat} {x : Operand} {t : TypeId} {u : Value} (hx : xd l x = some (.iface t u)) (h : zT E l H Φ (Q.Pn (.iface t u))) : WO E ops (⟨dst, .panic x, ty, pos, aft, none⟩ :: os) l H Φ N Q := by
 intro a w hs
 have hr : (execOp a.eval ⟨dst, .panic x, ty, pos, aft, none⟩).run E.P w = .halt (.panic (.iface t u)) w := by
  simp only [execOp, zE hs hx, Instr.panic]
  rfl
 simp only [wpL, Region.wanted, if_true, Oper.wp, hr, Oper.upon]
 exact ⟨_, rfl, h a w hs⟩
theorem s_pan {fn : Func} {post : vT} {v : Value} (hp : ∀ a w, St E l H Φ a w -> Fin E.w0 E.X E.M post (.pan v) w) (hds : E.ds = [] := by rfl) : zT E l H Φ (PanS E fn post v) := by
 intro a w hs tmps
 have hd : a.defers = [] := by rw [hs.defers, hds]
 rw [hd]
 exact ⟨_, rfl, hp a w hs⟩
theorem v_makeIface {T : TypeId} {x : Operand} {u v : Value} (hx : xd l x = some u) (hr : ∀ w, (Instr.makeInterface T u).run E.P w = .ok v w) : wQ E l H Φ (.makeInterface T x) ty v :=
 fun a w hs dd pp aa gg => by simp only [execOp, zE hs hx, Sem.run_bind, hr, Result.andThen]; rfl
def ve (s : List UInt8) : List Int := s.map fun b => (b.toNat : Int)
theorem ofS_length (s : List UInt8) : (ve s).length = s.length := by simp [ve]
theorem strCells_bs (s : List UInt8) : Lib.strCells (bs s) = (ve s).map fun n => Value.int .u8 n := by
 simp [Lib.strCells, bs, ve]
theorem u6 {w : World} {X : Nat -> Prop} : ∀ (s : List Int), xc w X (s.map fun n => Value.int .u8 n) (s.map xj).flatten
 | [] => .nil
 | n :: s => .cons (.int .u8 n) (u6 s)
theorem run_append_str2 {P : Program} (w : World) (t u ty e : TypeId) (i : TypeInfo) (ht : P.underlying t = some (.slice e)) (hu : P.underlying u = some .string) (hi : P.info? e = some i) (hz : i.zero = some (.int .u8 0))
  (hsize : i.size = 1) (hby : i.bytes = 1) (v : Value) (n : Nat) (xs : List Value) (hown : w.ownsRow 0 e 1 v n xs) (s : ByteArray) (h63 : n + s.size <= maxLen) (hbytes : n + s.size <= 140737488355328) :
  ∃ v' w', (Builtin.append_ #[t, u] ty #[v, .string s]).run P w = .ok v' w' /\ w'.ownsRow 0 e 1 v' (n + s.size) (xs ++ Lib.strCells s) /\ w.grownBy w' v.ownBlock /\
   (∀ b, v'.ownBlock = some b -> v.ownBlock = some b \/ w.heap.size <= b) := by
 have hxl : xs.length = n := by simpa using hown.1
 have hsl := Lib.strCells_length s
 have hlen : (xs ++ Lib.strCells s).length = (n + s.size) * 1 := by rw [List.length_append, hxl, hsl, Nat.mul_one]
 have hsmall : n + s.size <= 9223372036854775807 := by simp only [maxLen] at h63; omega
 have grown : ∀ (old : Nat), old < n + s.size -> ∀ (row : Option Nat),
   (w.drew.alloc (.cells (xs.toArray ++ (Lib.strCells s).toArray ++ Builtin.zeroCells (Value.int .u8 0).cells (grownCap w (n + s.size) old e - (n + s.size))) e)).ownsRow 0 e 1
    (.slice (some ⟨w.heap.size, 0, none⟩) (n + s.size) (grownCap w (n + s.size) old e)) (n + s.size) (xs ++ Lib.strCells s) /\
   w.grownBy (w.drew.alloc (.cells (xs.toArray ++ (Lib.strCells s).toArray ++ Builtin.zeroCells (Value.int .u8 0).cells (grownCap w (n + s.size) old e - (n + s.size))) e)) row := by
  intro old ho row
  have hge := grownCap_ge w (n + s.size) old e
  have hcm : grownCap w (n + s.size) old e <= maxLen := grownCap_le_maxLen w (n + s.size) old e h63
  refine ⟨⟨hlen, .inr ⟨w.heap.size, _, _, rfl, Nat.zero_le _, heap_alloc_new w.drew _, hge, hcm, ?_, ?_⟩⟩, ⟨rfl, rfl, rfl, by simp, fun k hk _ => heap_alloc_old w.drew _ hk⟩⟩
  ·have hz1 : (Value.int IntKind.u8 0).cells.size = 1 := rfl
   simp only [Array.size_append, List.size_toArray, size_zeroCells, hz1, hxl, hsl]
   omega
  ·simp only [Array.toList_append, List.append_assoc]
   rw [<- List.append_assoc, <- hlen]
   exact List.take_left
 rcases hown.2 with ⟨rfl, rfl⟩ | ⟨g, cap, cur, rfl, hbg, hg, hnc, hcm, hcs, htake⟩
 ·have hx : xs = [] := List.eq_nil_of_length_eq_zero hxl
  subst hx
  by_cases hm : s.size = 0
  ·have hn : Lib.strCells s = [] := List.eq_nil_of_length_eq_zero (by rw [hsl]; exact hm)
   refine ⟨.slice none 0 0, w, ?_, by rw [hm, hn]; exact World.ownsRow_nil w 0 e 1, ⟨rfl, rfl, rfl, Nat.le_refl _, fun _ _ _ => rfl⟩, fun b hb => .inl hb⟩
   have hf := Lib.run_firstCells_string (P := P) w 1 s
   rw [hm] at hf
   simp [Builtin.append_, run_underlying ht, run_underlying hu, sizeOf, typeInfo, hi, hsize, Builtin.lenOf, hm, hf]
  ·have hr := run_append_nil_string (P := P) w t u ty e i (.int .u8 0) ht hu hi hz s (by omega) (by omega) (by rw [hby]; omega)
   have hgr := grown 0 (by omega) (Value.ownBlock (.slice none 0 0))
   simp only [Nat.zero_add, List.nil_append, Array.empty_append] at hgr ⊢
   have e1 : (s.data.map fun b => Value.int .u8 b.toNat) = (Lib.strCells s).toArray := by
    apply Array.ext'
    simp [Lib.strCells]
   rw [e1] at hr
   exact ⟨_, _, hr, hgr.1, hgr.2, fun b hb => .inr (by simp only [Value.ownBlock, Option.some.injEq] at hb; omega)⟩
 ·by_cases hroom : n + s.size <= cap
  ·have hcs' : cur.size = cap := by simpa using hcs
   have hr := Lib.run_append_room_string (P := P) w t u ty e i ht hu hi hsize g n cap cur hg s hroom (by omega)
   refine ⟨_, _, hr, ⟨hlen, .inr ⟨g, cap, _, rfl, hbg, setRow_heap w g cur _ e _ hg, hroom, hcm, ?_, ?_⟩⟩, ⟨rfl, rfl, rfl, by simp, fun k _ hk => setRow_other w g k _ (fun e => hk (by simp [Value.ownBlock, e]))⟩, fun b hb => .inl hb⟩
   ·simp only [List.size_toArray, List.length_append, List.length_take, List.length_drop, Array.length_toList, hsl]
    omega
   ·have ht' : cur.toList.take n = xs := by simpa using htake
    rw [ht', <- hlen]
    exact List.take_left
  ·have holds : ∀ j u, xs[j]? = some u -> w.cell? ((⟨g, 0, none⟩ : Addr).add j) = some u := hown.cells (g := g) rfl
   have hr := Lib.run_append_grow_string (P := P) w t u ty e i (.int .u8 0) ht hu hi hz ⟨g, 0, none⟩ n cap xs (by rw [hsize]; simpa using hxl) holds s (by omega) (by omega) (by rw [hby]; exact growslice_fits (by omega) (by omega))
   have hgr := grown cap (by omega) (Value.ownBlock (.slice (some ⟨g, 0, none⟩) n cap))
   exact ⟨_, _, hr, hgr.1, hgr.2, fun b hb => .inr (by simp only [Value.ownBlock, Option.some.injEq] at hb; omega)⟩
def byT (P : Program) (e : TypeId) : Bool := match P.info? e with
 | some i => (match i.zero with | some (.int .u8 0) => true | _ => false) && Nat.beq i.size 1 && Nat.beq i.bytes 1
 | none => false
theorem byT_parts {P : Program} {e : TypeId} (h : byT P e = true) : ∃ i, P.info? e = some i /\ i.zero = some (.int .u8 0) /\ i.size = 1 /\ i.bytes = 1 := by
 unfold byT at h
 split at h
 ·rename_i i hi
  simp only [Bool.and_eq_true] at h
  refine ⟨i, hi, ?_, Nat.eq_of_beq_eq_true h.1.2, Nat.eq_of_beq_eq_true h.2⟩
  have := h.1.1
  split at this
  ·assumption
  ·cases this
 ·cases h
theorem o_append_str {xs : List Int} {s : List UInt8} (j : Nat) {T U e : TypeId} {x y : Operand} {a : Option Addr} {n c : Nat} (ht : E.P.underlying T = some (.slice e)) (hu : E.P.underlying U = some .string) (he : byT E.P e = true) (hx : xd l x = some (.slice a n c)) (hy : xd l y = some (.string (bs s)))
  (hj : H[j]? = some (.row (.slice a n c) e 1 (xs.map xj))) (hc : decide ((xs.length + s.length) * 1 <= 140737488355328) = true) (hc2 : decide (xs.length + s.length <= 9223372036854775807) = true) (hd : Nat.blt d E.n = true)
  (h : ∀ a n c, WO E ops os ((d, .slice a n c) :: l) (H.set j (.row (.slice a n c) e 1 ((xs ++ ve s).map xj))) Φ N Q) : WO E ops (⟨some d, .call ⟨.builtin .append, #[x, y], #[T, U]⟩, ty, pos, aft, none⟩ :: os) l H Φ N Q := by
 refine vr fun ac w hs => ?_
 obtain ⟨inf, h2, h3, h4, h5⟩ := byT_parts he
 have hc' := of_decide_eq_true hc
 have hc2' := of_decide_eq_true hc2
 have hlive := hs.own.live _ (List.mem_of_getElem? hj)
 obtain ⟨cs, ho, hP, hsz⟩ := hlive.owns
 simp only [List.length_map] at ho
 have hss : (bs s).size = s.length := rfl
 have hm : xs.length + (bs s).size <= maxLen := by simp only [maxLen, hss]; omega
 obtain ⟨v', w', hr, ho', hg, hblk⟩ := run_append_str2 (P := E.P) w T U ty e inf ht hu h2 h3 h4 h5 (.slice a n c) xs.length cs ho (bs s) hm (by rw [hss]; omega)
 have hv' : ∃ a' n' c', v' = .slice a' n' c' := by
  rcases ho'.2 with ⟨rfl, _⟩ | ⟨g, cap, cur, rfl, _⟩
  ·exact ⟨_, _, _, rfl⟩
  ·exact ⟨_, _, _, rfl⟩
 obtain ⟨a', n', c', rfl⟩ := hv'
 refine ⟨_, w', ?_, h a' n' c' _ _ (St.putT ?_ (xe hd))⟩
 ·simp only [execOp, resolve, List.map_toArray, List.map_cons, List.map_nil, zE hs hx, zE hs hy, Sem.run_bind]
  simp only [pure, Sem.run, Result.andThen, invoke, builtin]
  have := hr
  simp [this]
 ·refine hs.append hj hg (cs := cs ++ Lib.strCells (bs s)) (xs' := (xs ++ ve s).map xj) (by simpa [ofS_length, hss] using ho') (fun y hy => ?_) (by rw [List.map_append, List.flatten_append, strCells_bs]; exact hP.append (u6 _)) hblk
  obtain ⟨y0, _, rfl⟩ := List.mem_map.1 hy
  rfl
theorem o_sliceData (j : Nat) {x : Operand} {T e : TypeId} {a : Option Addr} {n c sz : Nat} {xs : List (List Dc)} (hu : E.P.underlying ty = some (.pointer e)) (hx : xd l x = some (.slice a n c)) (hj : H[j]? = some (.row (.slice a n c) e sz xs)) (hd : Nat.blt d E.n = true)
  (h : ∀ p, (xs ≠ [] -> p = a) -> WO E ops os ((d, .pointer p) :: l) H Φ N Q) : WO E ops (⟨some d, .call ⟨.builtin .unsafeSliceData, #[x], #[T]⟩, ty, pos, aft, none⟩ :: os) l H Φ N Q := by
 refine vr fun ac w hs => ?_
 have hlive := hs.own.live _ (List.mem_of_getElem? hj)
 have key : ∃ p w', (Builtin.unsafeSliceData_ #[T] ty #[.slice a n c]).run E.P w = .ok (.pointer p) w' /\ (xs ≠ [] -> p = a) /\ St E l H Φ ac w' := by
  rcases hlive with ⟨hv, rfl⟩ | ⟨b, cap, arr, hv, h1, h2, h3, h4, h5, h6⟩
  ·simp only [Value.slice.injEq] at hv
   obtain ⟨rfl, rfl, rfl⟩ := hv
   exact ⟨none, w, Lib.run_unsafeSliceData_nil w _ _ _ _, fun h => absurd rfl h, hs⟩
  ·simp only [Value.slice.injEq] at hv
   obtain ⟨rfl, rfl, rfl⟩ := hv
   by_cases hc : c = 0
   ·subst hc
    refine ⟨_, _, Lib.run_unsafeSliceData_zero w _ ty e hu ⟨b, 0, none⟩ _ (e, arr.size) (by simp [World.shape?, h1]), fun hne => ?_, ?_⟩
    ·exfalso; exact hne (List.eq_nil_of_length_eq_zero (by omega))
    ·have hsz : w.heap.size <= (w.alloc (.view ⟨b, 0, none⟩ e)).heap.size := by simp
     have hold : ∀ q, q < w.heap.size -> (w.alloc (.view ⟨b, 0, none⟩ e)).heap[q]? = w.heap[q]? := fun q hq => heap_alloc_old w _ hq
     exact ⟨hs.size, hs.defers, hs.tm, hs.own.grow hsz hold, ⟨hs.frm.os, hs.frm.tape, hs.frm.output, Nat.le_trans hs.frm.size hsz, fun q hq hm => by rw [hold q (Nat.lt_of_lt_of_le hq hs.frm.size)]; exact hs.frm.block q hq hm⟩, hs.base⟩
   ·exact ⟨_, w, Lib.run_unsafeSliceData_row w _ _ _ _ _ hc, fun _ => rfl, hs⟩
 obtain ⟨p, w', hr, hp, hs'⟩ := key
 refine ⟨_, w', ?_, h p hp _ _ (St.putT hs' (xe hd))⟩
 simp only [execOp, resolve, List.map_toArray, List.map_cons, List.map_nil, zE hs hx, Sem.run_bind]
 simp only [pure, Sem.run, Result.andThen, invoke, builtin]
 simp [hr]
def okB (n : Int) : Bool := decide (0 <= n) && decide (n < 256)
theorem okB_u8 {n : Int} (h : okB n = true) : n = ((UInt8.ofNat n.toNat).toNat : Int) := by
 simp only [okB, Bool.and_eq_true, decide_eq_true_eq] at h
 have : (UInt8.ofNat n.toNat).toNat = n.toNat := by
  rw [UInt8.toNat_ofNat']
  omega
 omega
theorem o_unsafeString (j : Nat) {x y : Operand} {T U e : TypeId} {p a : Option Addr} {n c : Nat} {xs : List Int} (hu : E.P.underlying T = some (.pointer e)) (hce : Nat.beq (E.P.cellsOf e) 1 = true) (hx : xd l x = some (.pointer p)) (hy : xd l y = some (.int .i64 (xs.length : Int))) (hp : xs.map xj ≠ [] -> p = a)
  (hj : H[j]? = some (.row (.slice a n c) e 1 (xs.map xj))) (hok : xs.all okB = true) (hd : Nat.blt d E.n = true)
  (h : WO E ops os ((d, .string (bs (vj xs))) :: l) (H.set j (.row (.slice none 0 0) e 1 [])) Φ N Q) : WO E ops (⟨some d, .call ⟨.builtin .unsafeString, #[x, y], #[T, U]⟩, ty, pos, aft, none⟩ :: os) l H Φ N Q := by
 refine vr fun ac w hs => ?_
 have hlive := hs.own.live _ (List.mem_of_getElem? hj)
 have key : ∃ w', (Builtin.unsafeString_ #[T, U] ty #[.pointer p, .int .i64 (xs.length : Int)]).run E.P w = .ok (.string (bs (vj xs))) w' /\ St E l (H.set j (.row (.slice none 0 0) e 1 [])) Φ ac w' := by
  have hnil : HB.blk (.row (.slice none 0 0) e 1 []) = none := rfl
  by_cases h0 : xs = []
  ·subst h0
   refine ⟨w, Lib.run_unsafeString_none w _ _ _ _, hs.replace hj (Nat.le_refl _) (fun _ _ _ => rfl) (fun b hb => by rw [hnil] at hb; cases hb) (.inl ⟨rfl, rfl⟩) hs.frm⟩
  ·rcases hlive with ⟨hv, hx0⟩ | ⟨b, cap, arr, hv, h1, h2, h3, h4, h5, h6⟩
   ·exact absurd (by simpa using hx0) h0
   ·simp only [Value.slice.injEq] at hv
    obtain ⟨rfl, rfl, rfl⟩ := hv
    have hpa := hp (by simpa using h0)
    subst hpa
    simp only [List.length_map] at h4
    have hlen : (vj xs).length = xs.length := by simp [vj]
    have hcell : ∀ j x, (vj xs)[j]? = some x -> w.cell? ((⟨b, 0, none⟩ : Addr).add j) = some (.int .u8 x.toNat) := by
     intro q x hq
     obtain ⟨hq1, hq2⟩ := List.getElem?_eq_some_iff.1 hq
     have hqx : q < xs.length := by omega
     obtain ⟨u, hu1, hu2⟩ := h6 q 0 (by simpa using hqx) (by simp [xj])
     have he : (xs.map xj)[q]'(by simpa using hqx) = [.int .u8 xs[q]] := by simp [xj]
     have hu3 : yi w (fun b => E.X b \/ b ∈ zQ H) u (.int .u8 xs[q]) := by
      have : ∀ (L : List Dc) (hL : (xs.map xj)[q]'(by simpa using hqx) = L) (h0 : 0 < L.length), yi w (fun b => E.X b \/ b ∈ zQ H) u L[0] := by
       rintro L rfl h0; exact hu2
      exact this _ he (by simp)
     cases hu3
     rw [vv]
     simp only [World.cell?, h1, Option.isSome_none, Bool.false_eq_true, if_false, Nat.zero_add]
     simp only [Nat.mul_one, Nat.add_zero] at hu1
     rw [hu1]
     have hb := List.all_eq_true.1 hok xs[q] (List.getElem_mem hqx)
     have hx' : x = UInt8.ofNat xs[q].toNat := by rw [<- hq2]; simp [vj]
     rw [hx', <- okB_u8 hb]
    have hne : vj xs ≠ [] := by
     intro e0
     have := congrArg List.length e0
     rw [hlen] at this
     exact h0 (List.eq_nil_of_length_eq_zero this)
    have hmax : maxLen = 9223372036854775807 := rfl
    have hr := Lib.run_unsafeString_row (P := E.P) w T U ty e hu (Nat.eq_of_beq_eq_true hce) b arr.size (by simp [World.shape?, h1]) (vj xs) hne (by rw [hlen]; omega) (by rw [hlen]; omega) hcell
    rw [hlen] at hr
    have hfz : (w.freeze ⟨b, 0, none⟩ xs.length).heap.size = w.heap.size /\ (∀ q, q ≠ b -> (w.freeze ⟨b, 0, none⟩ xs.length).heap[q]? = w.heap[q]?) /\ (w.freeze ⟨b, 0, none⟩ xs.length).os = w.os /\ (w.freeze ⟨b, 0, none⟩ xs.length).tape = w.tape /\ (w.freeze ⟨b, 0, none⟩ xs.length).output = w.output := by
     unfold World.freeze
     rw [if_neg (fun e0 => h0 (List.eq_nil_of_length_eq_zero e0))]
     refine ⟨by simp, fun q hq => ?_, rfl, rfl, rfl⟩
     simp only [Array.getElem?_modify]
     rw [if_neg (fun e => hq e.symm)]
    refine ⟨_, hr, hs.replace hj (by rw [hfz.1]; exact Nat.le_refl _) (fun q _ hq => hfz.2.1 q (fun e => hq (by rw [e]; rfl))) (fun q hq => by rw [hnil] at hq; cases hq) (.inl ⟨rfl, rfl⟩) ⟨hfz.2.2.1.trans hs.frm.os, hfz.2.2.2.1.trans hs.frm.tape, hfz.2.2.2.2.trans hs.frm.output, by rw [hfz.1]; exact hs.frm.size, fun q hq hm => ?_⟩⟩
    rw [hfz.2.1 q (fun e => ?_)]
    ·exact hs.frm.block q hq hm
    ·have := un hs hj (b := b) rfl
     rw [e] at hq hm
     rcases this with h0 | h0
     ·omega
     ·exact hm h0
 obtain ⟨w', hr, hs'⟩ := key
 refine ⟨_, w', ?_, h _ _ (St.putT hs' (xe hd))⟩
 simp only [execOp, resolve, List.map_toArray, List.map_cons, List.map_nil, zE hs hx, zE hs hy, Sem.run_bind]
 simp only [pure, Sem.run, Result.andThen, invoke, builtin]
 simp [hr]
theorem v_extern {f : FuncId} {args : Array Operand} {argTypes : Array TypeId} {vs : List Value} {v : Value} (ha : hZ l args.toList = some vs) (hr : ∀ w, (callFunc f vs.toArray).run E.P w = .ok (.value v) w) : wQ E l H Φ (.call ⟨.value (.func f), args, argTypes⟩) ty v :=
 fun a w hs dd pp aa gg => by
  have e : args.map a.eval = vs.toArray := by rw [<- vO hs _ _ ha, <- List.map_toArray]
  simp only [execOp, resolve, e, Act.eval, Deferred.ofValue, Sem.run_bind]
  simp only [pure, Sem.run, Result.andThen, invoke]
  have := hr w
  simpa using this
theorem box_shape {a : Act} {w : World} (hs : St E l H Φ a w) {j b : Nat} {T : TypeId} {cs : List Value} (hj : H[j]? = some (.box b T cs)) : w.shape? b = some (T, cs.length) := by
 have := kO hs hj
 simp [World.shape?, this]
theorem v_toUns (j : Nat) {src dst t T : TypeId} {x : Operand} {b : Nat} {cs : List Value} {inf : TypeInfo} (hs' : E.P.underlying src = some (.pointer t)) (hd : E.P.underlying dst = some .unsafePointer) (hi : E.P.info? t = some inf) (hz : (inf.size != 0) = true)
  (hx : xd l x = some (.pointer (some ⟨b, 0, none⟩))) (hj : H[j]? = some (.box b T cs)) (hc : Nat.blt 0 cs.length = true) : wQ E l H Φ (.convert src dst x) ty (.pointer (some ⟨b, 0, none⟩)) :=
 fun a w hs dd pp aa gg => by
  have hr := Lib.run_to_unsafe (P := E.P) w ⟨b, 0, none⟩ hs' hd hi (by simpa using hz) (box_shape hs hj) (xe hc)
  simp only [execOp, zE hs hx, Sem.run_bind, hr, Result.andThen]; rfl
theorem v_fromUns (j : Nat) {src dst u T : TypeId} {x : Operand} {b : Nat} {cs : List Value} {inf : TypeInfo} (hs' : E.P.underlying src = some .unsafePointer) (hd : E.P.underlying dst = some (.pointer u)) (hi : E.P.info? u = some inf)
  (hx : xd l x = some (.pointer (some ⟨b, 0, none⟩))) (hj : H[j]? = some (.box b T cs)) (hl : liesAt E.P E.P.depth T (cs.length / E.P.cellsOf T) 0 u 1 = true) : wQ E l H Φ (.convert src dst x) ty (.pointer (some ⟨b, 0, none⟩)) :=
 fun a w hs dd pp aa gg => by
  have hr := Lib.run_from_unsafe (P := E.P) w ⟨b, 0, none⟩ hs' hd hi (box_shape hs hj) hl
  simp only [execOp, zE hs hx, Sem.run_bind, hr, Result.andThen]; rfl
theorem v_neself {tp te : TypeId} {T' : TypeId} {x y : Operand} {b : Nat} {inf : TypeInfo} (hp : E.P.underlying tp = some (.pointer te)) (hte : E.P.info? te = some inf) (hx : xd l x = some (.pointer (some ⟨b, 0, none⟩))) (hy : xd l y = some (.pointer (some ⟨b, 0, none⟩))) : wQ E l H Φ (.binOp .neq tp x y T') ty (.bool false) :=
 wV hx hy (fun w => by
  have := Lib.run_neq_ptr_same (P := E.P) w ⟨b, 0, none⟩ hp hte
  simp [eqGuard, this])
theorem v_lenRaw {T : TypeId} {x : Operand} {a : Option Addr} {n c e sz bytes : Nat} (ht : slT E.P T = some (e, sz, bytes)) (hx : xd l x = some (.slice a n c)) : wQ E l H Φ (.call ⟨.builtin .len, #[x], #[T]⟩) ty (.int .i64 (n : Int)) :=
 fun ac w hs dd pp aa gg => by
  simp only [execOp, resolve, List.map_toArray, List.map_cons, List.map_nil, zE hs hx, Sem.run_bind]
  simp only [pure, Sem.run, Result.andThen, invoke, builtin, Builtin.len_]
  simp [yA (kM ht).1, goInt]
theorem c_rowlen {c : Code} (j : Nat) {a : Option Addr} {n cap sz : Nat} {T : TypeId} {xs : List (List Dc)} (hj : H[j]? = some (.row (.slice a n cap) T sz xs)) (h : n = xs.length -> WC E c l H Φ N Q) : WC E c l H Φ N Q := by
 intro ac w hs
 exact h (hs.own.live _ (List.mem_of_getElem? hj)).seen.len ac w hs
end
end Go.Vc
