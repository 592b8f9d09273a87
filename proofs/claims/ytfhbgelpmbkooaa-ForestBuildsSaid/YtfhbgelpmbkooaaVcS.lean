/-
  A text made into bytes.
-/
import Derived.Test.YtfhbgelpmbkooaaVcQ
import Derived.Lib.ConvBytes
import Derived.Laws.AppendOwn
set_option linter.unusedVariables false
set_option linter.unusedSimpArgs false
namespace Go.Vc
open Go
section
variable {E : Env} {ops : Array Oper} {os : List Oper} {l : List (Nat × Value)} {H : List HB} {Φ : List (Value × Dc)} {N : SP} {Q : QS}
variable {ty : TypeId} {ps : String} {aft : Array Edge} {d : Nat}
end
section
variable {E : Env} {ops : Array Oper} {os : List Oper} {l : List (Nat × Value)} {H : List HB} {Φ : List (Value × Dc)} {N : SP} {Q : QS}
variable {ty : TypeId} {pos : String} {aft : Array Edge} {d : Nat}
theorem slice_blk {w : World} {X : Nat → Prop} {v : Value} {d : Dc} (h : PureC w X v d) : ∀ (a : Option Addr) (n c sz : Nat) (ys : List (List Dc)), v = .slice a n c → d = .slice sz ys → ys ≠ [] → ¬ X (blkA a) ∧ blkA a < w.heap.size := by
  cases h with
  | nil a' cap sz' => intro a n c sz ys _ hd hne; cases hd; exact absurd rfl hne
  | slice b o len cap sz' zs vs' hlen hcap hX hb hsz hc' he => intro a n c sz ys hv _ _; cases hv; exact ⟨hX, hb⟩
  | _ => intro _ _ _ _ _ _ hd; cases hd
theorem cl_inv {w : World} {X : Nat → Prop} {v : Value} {d : Dc} (h : PureC w X v d) : ∀ (B O : Nat) (cs : List Value), v = .pointer (some ⟨B, O, none⟩) → d = .cl cs → ∀ j (hj : j < cs.length), w.cell? ⟨B, O + j, none⟩ = some cs[j] := by
  cases h with
  | cl b o cs hX hb hc => intro B O cs' hv hd; cases hv; cases hd; exact hc
  | _ => intro _ _ _ _ hd; cases hd
theorem c_elem {α : Type} [Inhabited α] {code : Code} (p : Nat) {a : Option Addr} {n c sz : Nat} {i : Int} {xs : List α} {enc : α → List Dc} {ds : List Dc} (hf : Φ[p]? = some (.slice a n c, .slice sz (xs.map enc))) (hi : inR i xs.length = true) (hds : enc (at_ xs i) = ds) (hna : noAt ds = true)
    (h : AllSl (nSl ds) fun vs => WC E code l H ((.pointer (some ⟨blkA a, offA a + (i.toNat * sz + 0), none⟩), .cl (cellsV ds vs)) :: (factsV ds vs ++ Φ)) N Q) : WC E code l H Φ N Q := by
  intro ac w hs
  obtain ⟨hlt, hget⟩ := at_get hi
  have hfact := hs.own.facts _ (List.mem_of_getElem? hf)
  have hse := hfact.seen
  have hc := hse.cells i.toNat (by simpa using hlt)
  subst hds
  have key : ∀ y, xs[i.toNat] = y → (enc y).length = sz ∧ ∀ q (hq : q < (enc y).length), ∃ u, w.cell? ⟨blkA a, offA a + (i.toNat * sz + q), none⟩ = some u ∧ PureC w (fun b => E.X b ∨ b ∈ blks H) u (enc y)[q] := by
    rintro y rfl
    obtain ⟨g1, g2, g3⟩ := hc
    exact ⟨by simpa using g1, by simpa using g3⟩
  obtain ⟨g1, g3⟩ := key _ hget.symm
  generalize hE : enc (at_ xs i) = ds at *
  have hpure : ∃ vs : List Value, vs.length = ds.length ∧ (∀ q (hq : q < vs.length), w.cell? ⟨blkA a, offA a + (i.toNat * sz + 0) + q, none⟩ = some vs[q]) ∧ Pures w (fun b => E.X b ∨ b ∈ blks H) vs ds := by
    refine ⟨(List.range ds.length).map fun q => (w.cell? ⟨blkA a, offA a + (i.toNat * sz + 0) + q, none⟩).getD undef, by simp, ?_, ?_⟩
    · intro q hq
      obtain ⟨u, h2, _⟩ := g3 q (by simpa using hq)
      have e : offA a + (i.toNat * sz + 0) + q = offA a + (i.toNat * sz + q) := by omega
      simp only [List.getElem_map, List.getElem_range, e, h2, Option.getD_some]
    · refine Pures.of_get _ _ (by simp) fun q hq => ?_
      obtain ⟨u, h2, h3⟩ := g3 q hq
      have e : offA a + (i.toNat * sz + 0) + q = offA a + (i.toNat * sz + q) := by omega
      refine ⟨u, ?_, h3⟩
      simp only [List.getElem?_map, List.getElem?_range hq, Option.map_some, e, h2, Option.getD_some]
  obtain ⟨vs, hv1, hv2, hv3⟩ := hpure
  obtain ⟨sl, hs1, hs2, hs3⟩ := hv3.cells hna
  have hk := h.get _ sl hs1
  refine hk ac w ⟨hs.size, hs.defers, hs.tm, ⟨hs.own.xin, hs.own.nodup, hs.own.apart, hs.own.inw, hs.own.live, fun p hp => ?_⟩, hs.frm, hs.base⟩
  rcases List.mem_cons.1 hp with rfl | hp
  · have hblk : ¬ (E.X (blkA a) ∨ blkA a ∈ blks H) ∧ blkA a < w.heap.size := by
      exact slice_blk hfact _ _ _ _ _ rfl rfl (fun h => by have := congrArg List.length h; simp at this; simp [this] at hlt)
    refine .cl _ _ _ hblk.1 hblk.2 (fun j hj => ?_)
    subst hs2
    exact hv2 j hj
  · rcases List.mem_append.1 hp with hp | hp
    · exact hs3 p hp
    · exact hs.own.facts p hp
theorem v_load_cl (p : Nat) {t : TypeId} {x : Operand} {B O q j m : Nat} {ag : Bool} {cs : List Value} {v : Value} (ht : tyd E.P t = some (ag, m)) (hx : opv l x = some (.pointer (some ⟨B, O + (q + j), none⟩))) (hf : Φ[p]? = some (.pointer (some ⟨B, O + (q + 0), none⟩), .cl cs))
    (hlen : Nat.ble (j + m) cs.length = true) (h1 : (ag || Nat.beq m 1) = true) (hv : asVal ag ((cs.drop j).take m) = v) : Val E l H Φ (.load t x) ty v := by
  intro a w hs _ _ _ _
  have hle : j + m ≤ cs.length := Nat.le_of_ble_eq_true hlen
  have hfact := hs.own.facts _ (List.mem_of_getElem? hf)
  have hc := cl_inv hfact _ _ _ rfl rfl
  have hr := run_loadVar (P := E.P) ht (b := B) (o := O + (q + j)) (w := w) ((cs.drop j).take m) (by simp; omega) (fun e => by subst e; simpa using Nat.eq_of_beq_eq_true (by simpa using h1)) (fun i hi => by
    simp at hi
    have := hc (j + i) (by omega)
    rw [show O + (q + j) + i = O + (q + 0) + (j + i) by omega, this]
    simp)
  simp only [execOp, opv_eval hs hx, Instr.loadAt, Instr.sureAddr, Sem.run_bind]
  simp only [pure, Sem.run, Result.andThen, hr, hv]
end
end Go.Vc
