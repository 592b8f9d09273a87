import Derived.Test.YtdbnoblklhgdoaaGreatDoorVcQ
import Derived.Lib.ConvBytes
import Derived.Laws.AppendOwn
set_option linter.unusedVariables false
set_option linter.unusedSimpArgs false
namespace Go.Vc
open Go
section
variable {E : wx} {ops : Array Oper} {os : List Oper} {l : List (Nat × Value)} {H : List HB} {Φ : List (Value × Dc)} {N : SP} {Q : QS}
variable {ty : TypeId} {ps : String} {aft : Array Edge} {d : Nat}
theorem gI {src dst e : TypeId} {x : Operand} {s : List UInt8} (hs : E.P.underlying src = some .string) (hd' : E.P.underlying dst = some (.slice e)) (he : E.P.underlying e = some (.int .u8)) (hx : xd l x = some (.string (bs s))) (hd : Nat.blt d E.n = true)
  (h : ∀ a n c, WO E ops os ((d, .slice a n c) :: l) H ((.slice a n c, .slice 1 ((ve s).map xj)) :: Φ) N Q) : WO E ops (⟨some d, .convert src dst x, ty, ps, aft, none⟩ :: os) l H Φ N Q := by
 refine vr fun a w hst => ⟨_, Lib.bytesWorld w e (bs s), ?_, h (some ⟨w.heap.size, 0, none⟩) s.length (grownCap w s.length 0 e) _ _ (St.putT ?_ (xe hd))⟩
 ·simp only [execOp, zE hst hx, Sem.run_bind, Lib.run_convert_string_bytes w src dst e (bs s) hs hd' he, Result.andThen]
  rfl
 ·have hsz := Lib.bytesWorld_size w e (bs s)
  have hold := fun q (hq : q < w.heap.size) => Lib.bytesWorld_at_old w e (bs s) q hq
  have ho := hst.own.grow (w' := Lib.bytesWorld w e (bs s)) (by omega) hold
  refine ⟨hst.size, hst.defers, hst.tm, ho.addFact ?_, ⟨hst.frm.os, hst.frm.tape, hst.frm.output, by have := hst.frm.size; omega, fun q hq hm => ?_⟩, hst.base⟩
  ·have hlen : ((ve s).map xj).length = s.length := by simp [ve]
   refine .slice w.heap.size 0 s.length _ 1 _ (fun i _ => .int .u8 ((s.getD i 0).toNat : Int)) hlen ?_ ?_ (by omega) (fun e' he' => ?_) (fun i j hi hj => ?_) (fun i j hi hj => ?_)
   ·exact grownCap_ge w s.length 0 e
   ·rintro (hx' | hx')
    ·exact absurd (hst.own.xin _ hx') (by omega)
    ·exact absurd (hst.own.inw _ hx') (by omega)
   ·obtain ⟨y, _, rfl⟩ := List.mem_map.1 he'
    rfl
   ·have hj0 : j = 0 := by omega
    subst hj0
    have := Lib.bytesWorld_cell w e (bs s) i hi
    simpa [bs] using this
   ·have hi' : i < s.length := by rw [hlen] at hi; exact hi
    simp only [List.getElem_map, xj] at hj ⊢
    have hj0 : j = 0 := by simpa using hj
    subst hj0
    have : s.getD i 0 = s[i] := by simp [hi']
    simp only [this, ve, List.getElem_map]
    exact .int _ _
  ·rw [hold q (Nat.lt_of_lt_of_le hq hst.frm.size)]
   exact hst.frm.block q hq hm
end
section
variable {E : wx} {ops : Array Oper} {os : List Oper} {l : List (Nat × Value)} {H : List HB} {Φ : List (Value × Dc)} {N : SP} {Q : QS}
variable {ty : TypeId} {pos : String} {aft : Array Edge} {d : Nat}
theorem qq {f : FuncId} {first : Array Operand} {vs : List Value} (hv : hZ l first.toList = some vs) : wQ E l H Φ (.makeFunc (.func f) first #[]) ty (.func (.func f) vs.toArray #[]) :=
 fun a w hs dd pp aa gg => by
  have e : first.map a.eval = vs.toArray := by
   rw [<- vO hs _ _ hv, <- List.map_toArray]
  simp only [execOp, e]
  simp [Instr.makeFunc]
theorem run_call_valueF {f : FuncId} {args : Array Operand} {argTypes : Array TypeId} {dst : Option Nat} {a : Act} {w : World} {vs : List Value} {x : Operand} {first cap : Array Value} (hc : zr E.P f) (hx : a.eval x = .func (.func f) first cap) (ha : args.toList.map a.eval = vs) :
  (execOp a.eval ⟨dst, .call ⟨.value x, args, argTypes⟩, ty, pos, aft, none⟩).run E.P w = .ok (.enter f (first.toList ++ vs ++ cap.toList).toArray) w := by
 have e : args.map a.eval = vs.toArray := by rw [<- ha, <- List.map_toArray]
 simp only [execOp, resolve, e, hx, Deferred.ofValue, Sem.run_bind]
 simp only [pure, Sem.run, Result.andThen, invoke]
 have := hc ((first.toList ++ vs ++ cap.toList).toArray) w
 have e2 : first ++ vs.toArray ++ cap = (first.toList ++ vs ++ cap.toList).toArray := by
  apply Array.toList_inj.1; simp
 rw [e2]
 exact this
theorem qU (js : List Nat) {f : FuncId} {args : Array Operand} {argTypes : Array TypeId} {x : Operand} {first cap : Array Value} {vs : List Value} {Hp : List HB} {Φp : List (Value × Dc)} {post : vT}
  (hc : zr E.P f) (hx : xd l x = some (.func (.func f) first cap)) (ha : hZ l args.toList = some vs) (hsel : wN js H = Hp) (hΦ : ∀ p ∈ Φp, p ∈ Φ) (tri : xu E.P f (first.toList ++ vs ++ cap.toList) Hp Φp post) (hd : Nat.blt d E.n = true)
  (h : ∀ out H' Φ', post out H' Φ' -> match out with
   | .ret v => WO E ops os ((d, v) :: l) (H' ++ xM js H) (Φ' ++ Φ) N Q
   | .pan v => zT E l (H' ++ xM js H) (Φ' ++ Φ) (Q.Pn v)) :
  WO E ops (⟨some d, .call ⟨.value x, args, argTypes⟩, ty, pos, aft, none⟩ :: os) l H Φ N Q := by
 intro a w hs
 subst hsel
 simp only [wpL, Region.wanted, if_true, Oper.wp, run_call_valueF (E := E) hc (zE hs hx) (vO hs _ _ ha), Oper.upon]
 have o0 := hs.own.perm (xL js H)
 have o1 := (o0.sub (List.Sublist.refl _) hΦ)
 refine (tri w _ o1.lend).mono ?_
 rintro e w' ⟨out, rfl, H', Φ', hp, hf, ho, hb⟩
 have hbase : ∀ b ∈ zQ (H' ++ xM js H), E.w0.heap.size <= b \/ b ∈ E.M := by
  intro b hbm
  rw [zZ] at hbm
  have hall : ∀ c, c ∈ zQ (wN js H) \/ c ∈ zQ (xM js H) -> E.w0.heap.size <= c \/ c ∈ E.M := fun c hc' =>
   hs.base c (((xL js H).filterMap HB.blk).mem_iff.2 (by
    have : (wN js H ++ xM js H).filterMap HB.blk = zQ (wN js H) ++ zQ (xM js H) := by rw [<- zZ]; rfl
    rw [this, List.mem_append]; exact hc'))
  rcases List.mem_append.1 hbm with h1 | h1
  ·rcases hb b h1 with h2 | h2
   ·exact .inl (Nat.le_trans hs.frm.size h2)
   ·exact hall b (.inl h2)
  ·exact hall b (.inr h1)
 have hfrm : Frm E.w0 E.M w' := by
  refine ⟨hf.os.trans hs.frm.os, hf.tape.trans hs.frm.tape, hf.output.trans hs.frm.output, Nat.le_trans hs.frm.size hf.size, fun b hlt hm => ?_⟩
  rw [hf.block b (Nat.lt_of_lt_of_le hlt hs.frm.size) (fun hin => ?_)]
  ·exact hs.frm.block b hlt hm
  ·have := hs.base b (((xL js H).filterMap HB.blk).mem_iff.2 (by
    have : (wN js H ++ xM js H).filterMap HB.blk = zQ (wN js H) ++ zQ (xM js H) := by rw [<- zZ]; rfl
    rw [this, List.mem_append]; exact .inl hin))
   rcases this with h1 | h1
   ·omega
   ·exact hm h1
 have hown := o0.back hf ho hb
 have hs' : St E l (H' ++ xM js H) (Φ' ++ Φ) a w' := ⟨hs.size, hs.defers, hs.tm, hown, hfrm, hbase⟩
 cases out with
 | ret v => exact h _ H' Φ' hp _ w' (hs'.put_same (xe hd))
 | pan v => exact ⟨v, rfl, h _ H' Φ' hp a w' hs'⟩
theorem v_index_str {T : TypeId} {x y : Operand} {k : IntKind} {i : Int} (xs : List (List UInt8)) {e : TypeId} (hu : E.P.underlying T = some (.array xs.length e)) (he : ka E.P e = some (false, 1)) (hx : xd l x = some (.agg (xs.map fun s => Value.string (bs s)).toArray)) (hy : xd l y = some (.int k i)) (hi : xf i xs.length = true) : wQ E l H Φ (.index T x y) ty (.string (bs (at_ xs i))) :=
 v_index hx hy (fun w => by
  obtain ⟨h0, h1⟩ := yy.1 hi
  obtain ⟨e1, e2⟩ := qP he w
  have hlt : i.toNat < xs.length := by omega
  simp only [Instr.index, asIntOf, Sem.run_bind, yA hu, Result.andThen]
  have h1' : i < xs.length := by omega
  simp [h0, e1, e2, part, h1', at_, hlt])
theorem slice_blk {w : World} {X : Nat -> Prop} {v : Value} {d : Dc} (h : yi w X v d) : ∀ (a : Option Addr) (n c sz : Nat) (ys : List (List Dc)), v = .slice a n c -> d = .slice sz ys -> ys ≠ [] -> ¬ X (yW a) /\ yW a < w.heap.size := by
 cases h with
 | nil a' cap sz' => intro a n c sz ys _ hd hne; cases hd; exact absurd rfl hne
 | slice b o len cap sz' zs vs' hlen hcap hX hb hsz hc' he => intro a n c sz ys hv _ _; cases hv; exact ⟨hX, hb⟩
 | _ => intro _ _ _ _ _ _ hd; cases hd
theorem cl_inv {w : World} {X : Nat -> Prop} {v : Value} {d : Dc} (h : yi w X v d) : ∀ (B O : Nat) (cs : List Value), v = .pointer (some ⟨B, O, none⟩) -> d = .cl cs -> ∀ j (hj : j < cs.length), w.cell? ⟨B, O + j, none⟩ = some cs[j] := by
 cases h with
 | cl b o cs hX hb hc => intro B O cs' hv hd; cases hv; cases hd; exact hc
 | _ => intro _ _ _ _ hd; cases hd
theorem wK {α : Type} [Inhabited α] {code : Code} (p : Nat) {a : Option Addr} {n c sz : Nat} {i : Int} {xs : List α} {enc : α -> List Dc} {ds : List Dc} (hf : Φ[p]? = some (.slice a n c, .slice sz (xs.map enc))) (hi : xf i xs.length = true) (hds : enc (at_ xs i) = ds) (hna : noAt ds = true)
  (h : AllSl (nSl ds) fun vs => WC E code l H ((.pointer (some ⟨yW a, yZ a + (i.toNat * sz + 0), none⟩), .cl (ww ds vs)) :: (vu ds vs ++ Φ)) N Q) : WC E code l H Φ N Q := by
 intro ac w hs
 obtain ⟨hlt, hget⟩ := at_get hi
 have hfact := hs.own.facts _ (List.mem_of_getElem? hf)
 have hse := hfact.seen
 have hc := hse.cells i.toNat (by simpa using hlt)
 subst hds
 have key : ∀ y, xs[i.toNat] = y -> (enc y).length = sz /\ ∀ q (hq : q < (enc y).length), ∃ u, w.cell? ⟨yW a, yZ a + (i.toNat * sz + q), none⟩ = some u /\ yi w (fun b => E.X b \/ b ∈ zQ H) u (enc y)[q] := by
  rintro y rfl
  obtain ⟨g1, g2, g3⟩ := hc
  exact ⟨by simpa using g1, by simpa using g3⟩
 obtain ⟨g1, g3⟩ := key _ hget.symm
 generalize hE : enc (at_ xs i) = ds at *
 have hpure : ∃ vs : List Value, vs.length = ds.length /\ (∀ q (hq : q < vs.length), w.cell? ⟨yW a, yZ a + (i.toNat * sz + 0) + q, none⟩ = some vs[q]) /\ xc w (fun b => E.X b \/ b ∈ zQ H) vs ds := by
  refine ⟨(List.range ds.length).map fun q => (w.cell? ⟨yW a, yZ a + (i.toNat * sz + 0) + q, none⟩).getD undef, by simp, ?_, ?_⟩
  ·intro q hq
   obtain ⟨u, h2, _⟩ := g3 q (by simpa using hq)
   have e : yZ a + (i.toNat * sz + 0) + q = yZ a + (i.toNat * sz + q) := by omega
   simp only [List.getElem_map, List.getElem_range, e, h2, Option.getD_some]
  ·refine xc.of_get _ _ (by simp) fun q hq => ?_
   obtain ⟨u, h2, h3⟩ := g3 q hq
   have e : yZ a + (i.toNat * sz + 0) + q = yZ a + (i.toNat * sz + q) := by omega
   refine ⟨u, ?_, h3⟩
   simp only [List.getElem?_map, List.getElem?_range hq, Option.map_some, e, h2, Option.getD_some]
 obtain ⟨vs, hv1, hv2, hv3⟩ := hpure
 obtain ⟨sl, hs1, hs2, hs3⟩ := hv3.cells hna
 have hk := h.get _ sl hs1
 refine hk ac w ⟨hs.size, hs.defers, hs.tm, ⟨hs.own.xin, hs.own.nodup, hs.own.apart, hs.own.inw, hs.own.live, fun p hp => ?_⟩, hs.frm, hs.base⟩
 rcases List.mem_cons.1 hp with rfl | hp
 ·have hblk : ¬ (E.X (yW a) \/ yW a ∈ zQ H) /\ yW a < w.heap.size := by
   exact slice_blk hfact _ _ _ _ _ rfl rfl (fun h => by have := congrArg List.length h; simp at this; simp [this] at hlt)
  refine .cl _ _ _ hblk.1 hblk.2 (fun j hj => ?_)
  subst hs2
  exact hv2 j hj
 ·rcases List.mem_append.1 hp with hp | hp
  ·exact hs3 p hp
  ·exact hs.own.facts p hp
theorem yS (p : Nat) {t : TypeId} {x : Operand} {B O q j m : Nat} {ag : Bool} {cs : List Value} {v : Value} (ht : ka E.P t = some (ag, m)) (hx : xd l x = some (.pointer (some ⟨B, O + (q + j), none⟩))) (hf : Φ[p]? = some (.pointer (some ⟨B, O + (q + 0), none⟩), .cl cs))
  (hlen : Nat.ble (j + m) cs.length = true) (h1 : (ag || Nat.beq m 1) = true) (hv : uq ag ((cs.drop j).take m) = v) : wQ E l H Φ (.load t x) ty v := by
 intro a w hs _ _ _ _
 have hle : j + m <= cs.length := Nat.le_of_ble_eq_true hlen
 have hfact := hs.own.facts _ (List.mem_of_getElem? hf)
 have hc := cl_inv hfact _ _ _ rfl rfl
 have hr := vk (P := E.P) ht (b := B) (o := O + (q + j)) (w := w) ((cs.drop j).take m) (by simp; omega) (fun e => by subst e; simpa using Nat.eq_of_beq_eq_true (by simpa using h1)) (fun i hi => by
  simp at hi
  have := hc (j + i) (by omega)
  rw [show O + (q + j) + i = O + (q + 0) + (j + i) by omega, this]
  simp)
 simp only [execOp, zE hs hx, Instr.loadAt, Instr.sureAddr, Sem.run_bind]
 simp only [pure, Sem.run, Result.andThen, hr, hv]
end
section
variable {E : wx} {ops : Array Oper} {os : List Oper} {l : List (Nat × Value)} {H H0 : List HB} {Φ Φ0 : List (Value × Dc)} {N : SP} {Q : QS} {fuel : Nat} {listed : Array Bool}
variable {op : Op} {ty : TypeId} {pos : String} {aft : Array Edge} {d : Nat}
theorem dv (i : Nat) {v : Value} (hi : ops[i]? = some ⟨some d, op, ty, pos, aft, none⟩) (hv : wQ E l H0 Φ0 op ty v) (h : WA E ops H0 Φ0 fuel (listed.setIfInBounds i true) ((d, v) :: l) H Φ N Q)
  (hq : PnOk Q := by first | exact uG | exact pnokF) (hs : Region.noSelect ops = true := by kernel_rfl) (hf : Region.free .any ops listed i = true := by kernel_rfl)
  (hr : (Region.ready .any ops listed).contains i = true := by kernel_rfl) (hd : Nat.blt d E.n = true := by rfl) : WA E ops H0 Φ0 (fuel + 1) listed l H Φ N Q := qK i hi hq hs hf hr hd hv h
theorem dw (i : Nat) {j dj : Nat} {want : Bool} {v : Value} (hi : ops[i]? = some ⟨some d, op, ty, pos, aft, some (j, want)⟩) (hj : (ops[j]?).bind (·.dst) = some dj) (hl : xl dj l = some (.bool want))
  (hv : wQ E l H0 Φ0 op ty v) (h : WA E ops H0 Φ0 fuel (listed.setIfInBounds i true) ((d, v) :: l) H Φ N Q)
  (hq : PnOk Q := by first | exact uG | exact pnokF) (hs : Region.noSelect ops = true := by kernel_rfl) (hf : Region.free .any ops listed i = true := by kernel_rfl)
  (hr : (Region.ready .any ops listed).contains i = true := by kernel_rfl) (hd : Nat.blt d E.n = true := by rfl) : WA E ops H0 Φ0 (fuel + 1) listed l H Φ N Q := d_val_on i hi hj hl hq hs hf hr hd hv h
theorem fa {T : TypeId} {x : Operand} {i b o0 : Nat} (o : Nat) (hx : xd l x = some (.pointer (some ⟨b, o0, none⟩))) (hr : ∀ w, (Instr.fieldAt T (.pointer (some ⟨b, o0, none⟩)) i).run E.P w = .ok (.pointer (some ⟨b, o, none⟩)) w := by exact fun _ => by kernel_rfl) :
  wQ E l H Φ (.fieldAddr T x i) ty (.pointer (some ⟨b, o, none⟩)) := zI hx hr
theorem yx (js : List Nat) {f : FuncId} {args : Array Operand} {argTypes : Array TypeId} {vs : List Value} {Hp : List HB} {Φp : List (Value × Dc)} {post : vT}
  (hc : zr E.P f) (ha : hZ l args.toList = some vs) (hsel : wN js H = Hp) (hΦ : ∀ p ∈ Φp, p ∈ Φ) (tri : xu E.P f vs Hp Φp post)
  (h : ∀ out H' Φ', post out H' Φ' -> match out with
   | .ret v => WO E ops os ((d, v) :: l) (H' ++ xM js H) (Φ' ++ Φ) N Q
   | .pan v => zT E l (H' ++ xM js H) (Φ' ++ Φ) (Q.Pn v)) (hd : Nat.blt d E.n = true := by rfl) :
  WO E ops (⟨some d, .call ⟨.value (.func f), args, argTypes⟩, ty, pos, aft, none⟩ :: os) l H Φ N Q :=
 xZ js (cap := #[]) hc rfl ha hsel hΦ (by rw [show (#[] : Array Value).toList = [] from rfl, List.append_nil]; exact tri) hd h
theorem lea {l' : List (Nat × Value)} (h : l'.map (fun p => xl p.1 l) = l'.map fun p => some p.2) : LE l l' := by
 intro p hp
 exact List.map_inj_left.1 h p hp
theorem zy {Φ' : List (Value × Dc)} (is : List Nat) (h : is.map (fun i => Φ[i]?) = Φ'.map some) : ∀ p ∈ Φ', p ∈ Φ := by
 intro p hp
 have : some p ∈ Φ'.map some := List.mem_map.2 ⟨p, hp, rfl⟩
 rw [<- h] at this
 obtain ⟨i, _, hi⟩ := List.mem_map.1 this
 exact List.mem_of_getElem? hi
end
abbrev Tx := List UInt8
section
variable {E : wx} {ops : Array Oper} {os : List Oper} {l : List (Nat × Value)} {H H0 : List HB} {Φ Φ0 : List (Value × Dc)} {N : SP} {Q : QS} {fuel : Nat} {listed : Array Bool}
variable {op : Op} {ty : TypeId} {pos : String} {aft : Array Edge} {d : Nat}
theorem c_noP {c : Code} {Xs : List (Nat × SP)} {R : SP} {Pn : Value -> SP} (h : WC E c l H Φ N ⟨Xs, R, fun _ _ _ => False⟩) : WC E c l H Φ N ⟨Xs, R, Pn⟩ := by
 intro a w hs
 refine wpIn_mono (h a w hs) ?_
 intro e a' w' he
 cases e with
 | panic ch => obtain ⟨_, _, h⟩ := he; exact h.elim
 | normal => exact he
 | ret => exact he
 | exit id => exact he
 | goto _ => exact he
 | outgrown => exact he
theorem v_nn {T : TypeId} {x : Operand} {b : Bool} (hx : xd l x = some (.bool (!b))) : wQ E l H Φ (.unOp .not T x) ty (.bool b) := by
 have := v_not (E := E) (H := H) (Φ := Φ) (ty := ty) (T := T) hx
 rwa [Bool.not_not] at this
theorem cT {c : Code} (R : wx -> List HB -> List (Value × Dc) -> SP -> Prop) (h1 : ∀ N', R E H Φ N' -> WC E c l H Φ N' Q) (h2 : R E H Φ N) : WC E c l H Φ N Q := h1 N h2
theorem cL {c : Code} (J : wx -> List HB -> List (Value × Dc) -> Nat -> SP) (k : Nat) (h : zT E l H Φ (J E H Φ k)) (round : ∀ k, ∀ a w, J E H Φ k a w -> c.wpIn E.F 1 E.P (K (fun a' w' => ∃ j, j < k /\ J E H Φ j a' w') Q) a w) : WC E (.loop c) l H Φ N Q :=
 xG (fun E j => J E H Φ j) k h round
end
end Go.Vc
