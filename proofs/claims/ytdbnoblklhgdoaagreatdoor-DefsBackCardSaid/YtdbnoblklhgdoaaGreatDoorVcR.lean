import Derived.Test.YtdbnoblklhgdoaaGreatDoorVcP
import Derived.Lib.OthersKept
import Derived.Laws.RangeAny
set_option linter.unusedVariables false
set_option linter.unusedSimpArgs false
namespace Go.Vc
open Go
def wX (s : List UInt8) (i : Int) : Int := ((Utf8.decode (bs s) i.toNat).1 : Int)
def jf (s : List UInt8) (i : Int) : Int := ((Utf8.decode (bs s) i.toNat).2 : Int)
section
variable {E : wx} {ops : Array Oper} {os : List Oper} {l : List (Nat × Value)} {H : List HB} {Φ : List (Value × Dc)} {N : SP} {Q : QS}
variable {ty : TypeId} {ps : String} {aft : Array Edge} {d : Nat}
theorem o_range {T : TypeId} {x : Operand} {s : List UInt8} (hu : E.P.underlying T = some .string) (hx : xd l x = some (.string (bs s))) (hd : Nat.blt d E.n = true)
  (h : ∀ b, WO E ops os ((d, .pointer (some ⟨b, 0, none⟩)) :: l) (.itr b s 0 :: H) Φ N Q) : WO E ops (⟨some d, .range T x, ty, ps, aft, none⟩ :: os) l H Φ N Q := by
 refine vr fun a w hs => ⟨.pointer (some ⟨w.heap.size, 0, none⟩), w.iter (bs s) 0, ?_, h w.heap.size _ _ (St.putT (St.insert hs ?_ ?_ ?_ ?_ rfl rfl rfl) (xe hd))⟩
 ·simp only [execOp, zE hs hx, Sem.run_bind, run_range_string w T (bs s) hu, Result.andThen]
  rfl
 ·show w.heap.size <= (w.heap.push _).size
  simp
 ·intro b hb
  show (w.heap.push _)[b]? = _
  simp only [Array.getElem?_push]; rw [if_neg (by omega)]
 ·intro b hb
  simp only [HB.blk, Option.some.injEq] at hb
  subst hb
  refine ⟨Nat.le_refl _, ?_⟩
  show w.heap.size < (w.heap.push _).size
  simp
 ·exact ⟨World.iter_heap w (bs s) 0, Int.le_refl _⟩
theorem o_next (j : Nat) {x : Operand} {b : Nat} {s : List UInt8} {pos : Int} (hx : xd l x = some (.pointer (some ⟨b, 0, none⟩))) (hj : H[j]? = some (.itr b s pos)) (hd : Nat.blt d E.n = true)
  (h1 : decide (pos < (s.length : Int)) = true -> WO E ops os ((d, .tuple #[.bool true, .int .i64 pos, .int .i32 (wX s pos)]) :: l) (H.set j (.itr b s (pos + jf s pos))) Φ N Q)
  (h2 : decide (pos < (s.length : Int)) = false -> WO E ops os ((d, .tuple #[.bool false]) :: l) H Φ N Q) : WO E ops (⟨some d, .next x true, ty, ps, aft, none⟩ :: os) l H Φ N Q := by
 intro a w hs
 obtain ⟨hk, hp⟩ := hs.own.live _ (List.mem_of_getElem? hj)
 have hsz : (bs s).size = s.length := rfl
 by_cases hlt : pos < (s.length : Int)
 ·have hlt' : pos.toNat < (bs s).size := by rw [hsz]; omega
  have hr := Lib.run_next_any_at (P := E.P) w b (bs s) pos.toNat ty hk hlt'
  rw [show ((pos.toNat : Nat) : Int) = pos by omega] at hr
  have hblt : b < w.heap.size := (Array.getElem?_eq_some_iff.1 hk).1
  refine vr (fun a w' hs' => ?_) a w hs
  obtain ⟨hk', _⟩ := hs'.own.live _ (List.mem_of_getElem? hj)
  have hr' := Lib.run_next_any_at (P := E.P) w' b (bs s) pos.toNat ty hk' hlt'
  rw [show ((pos.toNat : Nat) : Int) = pos by omega] at hr'
  have hblt' : b < w'.heap.size := (Array.getElem?_eq_some_iff.1 hk').1
  refine ⟨_, w'.iterAt b (bs s) (pos.toNat + (Utf8.decode (bs s) pos.toNat).2), ?_, h1 (decide_eq_true hlt) _ _ (St.putT ?_ (xe hd))⟩
  ·simp only [execOp, zE hs' hx, Sem.run_bind, hr', Result.andThen]
   rfl
  ·refine hs'.replace hj (by rw [Lib.iterAt_size]; exact Nat.le_refl _) (fun q _ hq => Lib.iterAt_other w' b q _ _ (fun e => hq (by rw [e]; rfl))) (fun q hq => ?_) ⟨?_, ?_⟩ ⟨hs'.frm.os, hs'.frm.tape, hs'.frm.output, by rw [Lib.iterAt_size]; exact hs'.frm.size, fun q hq hm => ?_⟩
   ·simp only [HB.blk, Option.some.injEq] at hq
    subst hq
    exact ⟨.inl rfl, by rw [Lib.iterAt_size]; exact hblt'⟩
   ·have := Lib.iterAt_heap w' b (bs s) pos.toNat (pos.toNat + (Utf8.decode (bs s) pos.toNat).2) hk'
    rw [this]
    congr 2
    unfold jf
    omega
   ·unfold jf; omega
   ·rw [Lib.iterAt_other w' b q _ _ (fun e => ?_)]
    ·exact hs'.frm.block q hq hm
    ·have := hs'.base b (xa (List.mem_of_getElem? hj) rfl)
     subst e
     rcases this with h0 | h0
     ·omega
     ·exact hm h0
 ·have hlt' : ¬ pos.toNat < (bs s).size := by rw [hsz]; omega
  refine vr (fun a w' hs' => ?_) a w hs
  obtain ⟨hk', _⟩ := hs'.own.live _ (List.mem_of_getElem? hj)
  have hr' := Lib.run_next_end_at (P := E.P) w' b (bs s) pos.toNat ty hk' hlt'
  refine ⟨_, w', ?_, h2 (decide_eq_false hlt) _ _ (St.putT hs' (xe hd))⟩
  simp only [execOp, zE hs' hx, Sem.run_bind, hr', Result.andThen]
  rfl
end
end Go.Vc
