import Derived.Test.YtdbnoblklhgdoaaGreatDoorWA
import Derived.Test.YtdbnoblklhgdoaaGreatDoorTT
import Derived.KernelRfl
set_option linter.unusedVariables false
set_option linter.unusedSimpArgs false
set_option maxHeartbeats 1000000
namespace Go.Vc.Cp
open Go Go.Vc Go.Vc.Rg
theorem wrap_u8 {n : Int} (h1 : 0 <= n) (h2 : n < 256) : IntKind.wrap .u8 n = n := by
 simp only [IntKind.wrap, IntKind.bits, IntKind.signed]
 simp
 omega
theorem wrap_u64 {n : Int} (h1 : 0 <= n) (h2 : n < 18446744073709551616) : IntKind.wrap .u64 n = n := by
 simp only [IntKind.wrap, IntKind.bits, IntKind.signed]
 simp
 omega
def gp (w : Int) : Prop := 0 <= w /\ w < 18446744073709551616
def okS (s : S4) : Prop := gp s.w0 /\ gp s.w1 /\ gp s.w2 /\ gp s.w3
theorem ko {w : Int} (h : gp w) : w.toNat < 2 ^ 64 := by unfold gp at h; omega
theorem jJ {w : Int} (h : gp w) : (BitVec.ofInt 64 w).toNat = w.toNat := by
 rw [BitVec.toNat_ofInt]
 unfold gp at h
 omega
theorem gR {n : Nat} (h : n < 2 ^ 64) : IntKind.wrap .u64 (n : Int) = (n : Int) := wrap_u64 (by omega) (by omega)
theorem kH {n : Nat} (h : n < 2 ^ 64) : gp (n : Int) := ⟨by omega, by omega⟩
theorem gand_nat {a b : Int} (ha : gp a) (hb : gp b) : gand .u64 a b = ((a.toNat &&& b.toNat : Nat) : Int) := by
 have e : (BitVec.ofInt 64 a &&& BitVec.ofInt 64 b).toNat = a.toNat &&& b.toNat := by rw [BitVec.toNat_and, jJ ha, jJ hb]
 show IntKind.wrap .u64 (((BitVec.ofInt 64 a &&& BitVec.ofInt 64 b).toNat : Nat) : Int) = _
 rw [e, gR (Nat.and_lt_two_pow _ (ko hb))]
theorem gor_nat {a b : Int} (ha : gp a) (hb : gp b) : gor .u64 a b = ((a.toNat ||| b.toNat : Nat) : Int) := by
 have e : (BitVec.ofInt 64 a ||| BitVec.ofInt 64 b).toNat = a.toNat ||| b.toNat := by rw [BitVec.toNat_or, jJ ha, jJ hb]
 show IntKind.wrap .u64 (((BitVec.ofInt 64 a ||| BitVec.ofInt 64 b).toNat : Nat) : Int) = _
 rw [e, gR (Nat.or_lt_two_pow (ko ha) (ko hb))]
theorem gxor_nat {a b : Int} (ha : gp a) (hb : gp b) : gxor .u64 a b = ((a.toNat ^^^ b.toNat : Nat) : Int) := by
 have e : (BitVec.ofInt 64 a ^^^ BitVec.ofInt 64 b).toNat = a.toNat ^^^ b.toNat := by rw [BitVec.toNat_xor, jJ ha, jJ hb]
 show IntKind.wrap .u64 (((BitVec.ofInt 64 a ^^^ BitVec.ofInt 64 b).toNat : Nat) : Int) = _
 rw [e, gR (Nat.xor_lt_two_pow (ko ha) (ko hb))]
theorem gnot_bit {a : Int} (ha : gp a) (i : Nat) (hi : i < 64) : gp (gu .u64 a) /\ (gu .u64 a).toNat.testBit i = !a.toNat.testBit i := by
 have hm : gp 18446744073709551615 := ⟨by decide, by decide⟩
 have e : gu .u64 a = ((18446744073709551615 ^^^ a.toNat : Nat) : Int) := by
  have h2 : gu .u64 a = gxor .u64 18446744073709551615 a := by
   show gxor .u64 (if IntKind.signed .u64 then -1 else IntKind.max .u64) a = _
   rfl
  rw [h2, gxor_nat hm ha]
  rfl
 have hlt : 18446744073709551615 ^^^ a.toNat < 2 ^ 64 := Nat.xor_lt_two_pow (by decide) (ko ha)
 rw [e]
 refine ⟨kH hlt, ?_⟩
 rw [Int.toNat_natCast, Nat.testBit_xor]
 have h3 : (18446744073709551615 : Nat).testBit i = true := by
  have := Nat.testBit_two_pow_sub_one 64 i
  simpa [hi] using this
 rw [h3]; simp
theorem gT {a b : Int} (ha : gp a) (hb : gp b) (h : ∀ i, i < 64 -> a.toNat.testBit i = b.toNat.testBit i) : a = b := by
 have : a.toNat = b.toNat := by
  apply Nat.eq_of_testBit_eq
  intro i
  by_cases hi : i < 64
  ·exact h i hi
  ·rw [Nat.testBit_lt_two_pow (Nat.lt_of_lt_of_le (ko ha) (Nat.pow_le_pow_right (by decide) (by omega))), Nat.testBit_lt_two_pow (Nat.lt_of_lt_of_le (ko hb) (Nat.pow_le_pow_right (by decide) (by omega)))]
 unfold gp at ha hb
 omega
def qp (s : S4) (i : Nat) : Bool := (s.get ((i / 64 : Nat) : Int)).toNat.testBit (i % 64)
theorem get_ok {s : S4} (hs : okS s) (j : Int) : gp (s.get j) := by
 obtain ⟨h0, h1, h2, h3⟩ := hs
 unfold S4.get
 split <;> assumption
theorem idx_u8 {i : Nat} (hi : i < 256) : vh .u8 (i : Int) 64 = ((i / 64 : Nat) : Int) /\ jL (i : Int) 64 = ((i % 64 : Nat) : Int) := by
 constructor
 ·show IntKind.wrap .u8 ((i : Int).tdiv 64) = _
  have : (i : Int).tdiv 64 = ((i / 64 : Nat) : Int) := by rw [Int.tdiv_eq_ediv_of_nonneg (by omega)]; omega
  rw [this, wrap_u8 (by omega) (by omega)]
 ·show (i : Int).tmod 64 = _
  rw [Int.tmod_eq_emod_of_nonneg (by omega)]; omega
theorem idx_i64 {i : Nat} (hi : i < 256) : vh .i64 (i : Int) 64 = ((i / 64 : Nat) : Int) := by
 show IntKind.wrap .i64 ((i : Int).tdiv 64) = _
 have : (i : Int).tdiv 64 = ((i / 64 : Nat) : Int) := by rw [Int.tdiv_eq_ediv_of_nonneg (by omega)]; omega
 rw [this, zO (by omega) (by omega)]
theorem gshr_nat {w : Int} (hw : gp w) {b : Nat} (hb : b < 64) : gshr .u64 w (b : Int) = ((w.toNat >>> b : Nat) : Int) := by
 show w.fdiv (2 ^ (min (b : Int).toNat 64)) = _
 have e1 : min (b : Int).toNat 64 = b := by omega
 have e2 : w = ((w.toNat : Nat) : Int) := by unfold gp at hw; omega
 rw [e1, Nat.shiftRight_eq_div_pow]
 conv => lhs; rw [e2]
 have : ((2 : Int) ^ b) = ((2 ^ b : Nat) : Int) := by norm_cast
 rw [this, Int.fdiv_eq_ediv_of_nonneg _ (Int.natCast_nonneg _)]
 norm_cast
theorem shr_lt {n b : Nat} (h : n < 2 ^ 64) : n >>> b < 2 ^ 64 := by
 rw [Nat.shiftRight_eq_div_pow]
 exact Nat.lt_of_le_of_lt (Nat.div_le_self _ _) h
theorem Has_bit {s : S4} (hs : okS s) {i : Nat} (hi : i < 256) : qc.Has s (i : Int) = some (qp s i) := by
 obtain ⟨h1, h2⟩ := idx_u8 hi
 unfold qc.Has
 rw [h1, h2, if_pos (by rw [yy]; omega), if_neg (by rw [decide_eq_true_eq]; omega)]
 have hw := get_ok hs ((i / 64 : Nat) : Int)
 rw [gshr_nat hw (Nat.mod_lt _ (by decide)), gand_nat (kH (shr_lt (ko hw))) ⟨by decide, by decide⟩]
 unfold qp
 rw [Int.toNat_natCast]
 have e : (Int.toNat 1) = 1 := rfl
 rw [e, Nat.and_one_is_mod]
 rw [Nat.testBit_eq_decide_div_mod_eq, Nat.shiftRight_eq_div_pow]
 generalize (s.get ((i / 64 : Nat) : Int)).toNat / 2 ^ (i % 64) % 2 = y
 congr 1
 rw [Bool.eq_iff_iff]
 simp
 omega
theorem hasB_bit {s : S4} (hs : okS s) {i : Nat} (hi : i < 256) : hasB s (i : Int) = qp s i := by
 unfold hasB
 rw [Has_bit hs hi]; rfl
theorem half {w : Int} (hw : gp w) : vh .u64 w 2 = ((w.toNat / 2 : Nat) : Int) /\ gp (vh .u64 w 2) := by
 have h : vh .u64 w 2 = ((w.toNat / 2 : Nat) : Int) := by
  show IntKind.wrap .u64 (w.tdiv 2) = _
  have : w.tdiv 2 = ((w.toNat / 2 : Nat) : Int) := by rw [Int.tdiv_eq_ediv_of_nonneg hw.1]; unfold gp at hw; omega
  rw [this]
  unfold gp at hw
  exact wrap_u64 (by omega) (by omega)
 refine ⟨h, ?_⟩
 rw [h]
 unfold gp at hw ⊢
 omega
theorem upTo_step (s : S4) (n : Nat) : gh s (n + 1) = gh s n ++ (if hasB s (n : Int) then [(n : Int)] else []) := by
 simp only [gh, List.range_succ, List.map_append, List.filter_append, List.map_cons, List.map_nil, List.filter_cons, List.filter_nil]
 rfl
def bt (s : S4) (i : Int) : Bool := if 0 <= i /\ i < 256 then qp s i.toNat else false
theorem bt_nat {s : S4} {i : Nat} (hi : i < 256) : bt s (i : Int) = qp s i := by
 unfold bt
 rw [if_pos (by omega)]
 simp
theorem bt_out {s : S4} {i : Int} (hi : i < 0 \/ 255 < i) : bt s i = false := by
 unfold bt
 rw [if_neg (by omega)]
def ext (s : S4) : Nat -> Nat -> Nat
 | 0, h => h
 | f + 1, h => if bt s ((h : Int) + 1) then ext s f (h + 1) else h
theorem qI {s : S4} (f : Nat) : ∀ h : Nat, h < 256 -> 256 <= h + f -> h <= ext s f h /\ ext s f h < 256 /\ (∀ j : Nat, h < j -> j <= ext s f h -> bt s (j : Int) = true) /\ bt s ((ext s f h : Int) + 1) = false := by
 induction f with
 | zero => intro h h1 h2; omega
 | succ f ih =>
  intro h h1 h2
  simp only [ext]
  cases hb : bt s ((h : Int) + 1) with
  | true =>
   simp only [if_true]
   have hlt : h + 1 < 256 := by
    rcases Nat.lt_or_ge (h + 1) 256 with h3 | h3
    ·exact h3
    ·rw [bt_out (.inr (by omega))] at hb; cases hb
   obtain ⟨g1, g2, g3, g4⟩ := ih (h + 1) hlt (by omega)
   refine ⟨by omega, g2, fun j hj1 hj2 => ?_, g4⟩
   rcases Nat.eq_or_lt_of_le (show h + 1 <= j by omega) with h3 | h3
   ·subst h3; exact hb
   ·exact g3 j h3 hj2
  | false =>
   simp only [Bool.false_eq_true, if_false]
   exact ⟨Nat.le_refl _, h1, fun j a b => by omega, hb⟩
def Cr (s : S4) : Nat -> List vw
 | 0 => []
 | n + 1 => Cr s n ++ (if bt s (n : Int) && !bt s ((n : Int) - 1) then [⟨(n : Int), (ext s 256 n : Int)⟩] else [])
theorem kL (s : S4) (n : Nat) : Cr s (n + 1) = Cr s n ++ (if bt s (n : Int) && !bt s ((n : Int) - 1) then [⟨(n : Int), (ext s 256 n : Int)⟩] else []) := rfl
theorem Cr_len (s : S4) : ∀ n, (Cr s n).length <= n
 | 0 => by simp [Cr]
 | n + 1 => by
  have := Cr_len s n
  simp only [Cr, List.length_append]
  split <;> simp <;> omega
def jA (n : Int) (r : vw) : vw := ⟨r.Lo, min r.Hi (n - 1)⟩
structure Inv (s : S4) (n : Nat) : Prop where
 pos : ∀ r ∈ Cr s n, 0 <= r.Hi /\ r.Hi < 256
 on : bt s ((n : Int) - 1) = true -> ∃ init last, Cr s n = init ++ [last] /\ (n : Int) - 1 <= last.Hi /\ (∀ j : Int, (n : Int) - 1 <= j -> j <= last.Hi -> bt s j = true) /\ bt s (last.Hi + 1) = false /\ ∀ r ∈ init, r.Hi < (n : Int) - 1
 off : bt s ((n : Int) - 1) = false -> ∀ r ∈ Cr s n, r.Hi < (n : Int) - 1
theorem inv (s : S4) : ∀ n : Nat, n <= 256 -> Inv s n
 | 0, _ => ⟨fun r h => by simp [Cr] at h, fun h => (by rw [bt_out (.inl (by omega))] at h; cases h), fun _ r h => by simp [Cr] at h⟩
 | n + 1, hn => by
  have ih := inv s n (by omega)
  have e1 : ((n + 1 : Nat) : Int) - 1 = (n : Int) := by omega
  cases hx : bt s (n : Int) with
  | false =>
   have hC : Cr s (n + 1) = Cr s n := by rw [kL, hx, Bool.false_and, if_neg (by simp), List.append_nil]
   refine ⟨by rw [hC]; exact ih.pos, fun h => (by rw [e1, hx] at h; cases h), fun _ r hr => ?_⟩
   rw [hC] at hr
   rw [e1]
   cases hy : bt s ((n : Int) - 1) with
   | false => have := ih.off hy r hr; omega
   | true =>
    obtain ⟨init, last, h1, h2, h3, h4, h5⟩ := ih.on hy
    rw [h1] at hr
    rcases List.mem_append.1 hr with hr | hr
    ·have := h5 r hr; omega
    ·obtain rfl : r = last := by simpa using hr
     rcases (show r.Hi < n \/ n <= r.Hi by omega) with h6 | h6
     ·exact h6
     ·rw [h3 n (by omega) h6] at hx; cases hx
  | true =>
   cases hy : bt s ((n : Int) - 1) with
   | true =>
    have hC : Cr s (n + 1) = Cr s n := by rw [kL, hx, hy, Bool.not_true, Bool.and_false, if_neg (by simp), List.append_nil]
    refine ⟨by rw [hC]; exact ih.pos, fun _ => ?_, fun h => by rw [e1, hx] at h; cases h⟩
    obtain ⟨init, last, h1, h2, h3, h4, h5⟩ := ih.on hy
    rw [hC, e1]
    have h6 : (n : Int) <= last.Hi := by
     rcases (show last.Hi < n \/ (n : Int) <= last.Hi by omega) with h6 | h6
     ·have : last.Hi + 1 = n := by omega
      rw [this, hx] at h4; cases h4
     ·exact h6
    exact ⟨init, last, h1, h6, fun j hj1 hj2 => h3 j (by omega) hj2, h4, fun r hr => by have := h5 r hr; omega⟩
   | false =>
    have hC : Cr s (n + 1) = Cr s n ++ [⟨(n : Int), (ext s 256 n : Int)⟩] := by rw [kL, hx, hy, Bool.not_false, Bool.and_true, if_pos rfl]
    obtain ⟨g1, g2, g3, g4⟩ := qI (s := s) 256 n (by omega) (by omega)
    refine ⟨fun r hr => ?_, fun _ => ?_, fun h => by rw [e1, hx] at h; cases h⟩
    ·rw [hC] at hr
     rcases List.mem_append.1 hr with hr | hr
     ·exact ih.pos r hr
     ·obtain rfl : r = _ := by simpa using hr
      exact ⟨by simp, by simp; omega⟩
    ·rw [hC, e1]
     refine ⟨_, _, rfl, by simp; omega, fun j hj1 hj2 => ?_, g4, fun r hr => by have := ih.off hy r hr; omega⟩
     simp only at hj2
     rcases (show (n : Int) < j \/ j <= n by omega) with h6 | h6
     ·have := g3 j.toNat (by omega) (by omega)
      rw [show j = ((j.toNat : Nat) : Int) by omega]
      exact this
     ·rw [show j = (n : Int) by omega]; exact hx
theorem at_last {α : Type} [Inhabited α] (l : List α) (x : α) : at_ (l ++ [x]) (((l ++ [x]).length : Int) - 1) = x := by
 have : (((l ++ [x]).length : Int) - 1) = (l.length : Int) := by simp
 rw [this]; exact at_snoc l x
theorem set_last {α : Type} (l : List α) (x y : α) : jG (l ++ [x]) (((l ++ [x]).length : Int) - 1) y = l ++ [y] := by
 have : (((l ++ [x]).length : Int) - 1) = (l.length : Int) := by simp
 rw [this]
 simp [jG]
theorem map_cut {l : List vw} {n : Int} (h : ∀ r ∈ l, r.Hi < n) : l.map (jA (n + 1)) = l.map (jA n) := by
 apply List.map_congr_left
 intro r hr
 have := h r hr
 simp only [jA, vw.mk.injEq, true_and]
 omega
theorem Runs_step {s : S4} {n : Nat} (hn : n < 256) (hx : bt s (n : Int) = true) : qc.Runs_b1 (n : Int) ((Cr s n).map (jA n)) = some (.next ((Cr s (n + 1)).map (jA ((n + 1 : Nat) : Int)))) := by
 have hi := inv s n (by omega)
 have hlen := Cr_len s n
 have hwn : IntKind.wrap .i64 (n : Int) = (n : Int) := zO (by omega) (by omega)
 have ecast : ((n + 1 : Nat) : Int) = (n : Int) + 1 := by omega
 cases hy : bt s ((n : Int) - 1) with
 | true =>
  obtain ⟨init, last, h1, h2, h3, h4, h5⟩ := hi.on hy
  have hC : Cr s (n + 1) = Cr s n := by rw [kL, hx, hy, Bool.not_true, Bool.and_false, if_neg (by simp), List.append_nil]
  have h6 : (n : Int) <= last.Hi := by
   rcases (show last.Hi < n \/ (n : Int) <= last.Hi by omega) with h6 | h6
   ·have : last.Hi + 1 = n := by omega
    rw [this, hx] at h4; cases h4
   ·exact h6
  rw [hC, h1, List.map_append, List.map_append, ecast, map_cut (l := init) (n := n) (fun r hr => by have := h5 r hr; omega)]
  simp only [List.map_cons, List.map_nil]
  generalize hM : init.map (jA (n : Int)) = M
  have hMl : M.length < 256 := by rw [<- hM]; rw [h1] at hlen; simp at hlen ⊢; omega
  have hw : IntKind.wrap .i64 (((M ++ [jA n last]).length : Int) - 1) = ((M ++ [jA n last]).length : Int) - 1 := zO (by omega) (by simp; omega)
  have hc : jA n last = ⟨last.Lo, (n : Int) - 1⟩ := by simp only [jA, vw.mk.injEq, true_and]; omega
  have hc2 : jA ((n : Int) + 1) last = ⟨last.Lo, (n : Int)⟩ := by simp only [jA, vw.mk.injEq, true_and]; omega
  unfold qc.Runs_b1 qc.Runs_j3 qc.Runs_j2
  rw [hw, at_last, set_last, hwn, hc, hc2]
  have hw2 : IntKind.wrap .i64 ((n : Int) - 1 + 1) = (n : Int) := by rw [zO (by omega) (by omega)]; omega
  have hpos : (0 : Int) < ((M ++ [(⟨last.Lo, (n : Int) - 1⟩ : vw)]).length : Int) := by simp <;> omega
  rw [if_pos (by rw [decide_eq_true_eq]; exact hpos), if_pos (by rw [yy]; omega), hw2, if_pos (by simp), if_pos (by rw [yy]; omega)]
 | false =>
  have hC : Cr s (n + 1) = Cr s n ++ [⟨(n : Int), (ext s 256 n : Int)⟩] := by rw [kL, hx, hy, Bool.not_false, Bool.and_true, if_pos rfl]
  have hoff := hi.off hy
  obtain ⟨g1, g2, _, _⟩ := qI (s := s) 256 n (by omega) (by omega)
  have hc2 : jA ((n : Int) + 1) ⟨(n : Int), (ext s 256 n : Int)⟩ = ⟨(n : Int), (n : Int)⟩ := by simp only [jA, vw.mk.injEq, true_and]; omega
  rw [hC, List.map_append, ecast, map_cut (l := Cr s n) (n := n) (fun r hr => by have := hoff r hr; omega)]
  simp only [List.map_cons, List.map_nil, hc2]
  have hall : ∀ r ∈ (Cr s n).map (jA (n : Int)), 0 <= r.Hi /\ r.Hi + 1 < n := by
   intro r hr
   obtain ⟨q, hq, rfl⟩ := List.mem_map.1 hr
   have h1 := hoff q hq
   have h2 := hi.pos q hq
   simp only [jA]
   omega
  have hMl : ((Cr s n).map (jA (n : Int))).length < 256 := by simp; omega
  generalize (Cr s n).map (jA (n : Int)) = M at hall hMl
  have hj : qc.Runs_j3 M (n : Int) false = some (.next (M ++ [⟨(n : Int), (n : Int)⟩])) := by
   unfold qc.Runs_j3 qc.Runs_j2
   rw [if_neg (by simp), hwn, if_pos (by rw [decide_eq_true_eq]; simp; omega), if_pos (by rw [decide_eq_true_eq]; simp; omega)]
  unfold qc.Runs_b1
  rcases List.eq_nil_or_concat M with rfl | ⟨M', last, rfl⟩
  ·rw [if_neg (by simp)]
   exact hj
  ·rw [List.concat_eq_append] at hall hMl hj ⊢
   have hw : IntKind.wrap .i64 (((M' ++ [last]).length : Int) - 1) = ((M' ++ [last]).length : Int) - 1 := zO (by omega) (by omega)
   have hl := hall last (by simp)
   have hpos : (0 : Int) < ((M' ++ [last]).length : Int) := by simp <;> omega
   have hw2 : IntKind.wrap .i64 (last.Hi + 1) = last.Hi + 1 := zO (by omega) (by omega)
   rw [hw, at_last, hwn, hw2, if_pos (by rw [decide_eq_true_eq]; exact hpos), if_pos (by rw [yy]; omega)]
   have hne : (last.Hi + 1 == (n : Int)) = false := by simp; omega
   rw [hne]
   exact hj
theorem Runs_steps {s : S4} (hs : okS s) : ∀ n : Nat, n <= 256 -> wS qc.Runs_b1 [] (gh s n) = some ((Cr s n).map (jA n))
 | 0, _ => rfl
 | n + 1, hn => by
  have ih := Runs_steps hs n (by omega)
  have hb := hasB_bit hs (i := n) (by omega)
  rw [upTo_step, hb, <- bt_nat (by omega)]
  cases hx : bt s (n : Int) with
  | true => exact gE ih (Runs_step (by omega) hx)
  | false =>
   have hC : Cr s (n + 1) = Cr s n := by rw [kL, hx, Bool.false_and, if_neg (by simp), List.append_nil]
   have hi := inv s (n + 1) hn
   have ecast : ((n + 1 : Nat) : Int) = (n : Int) + 1 := by omega
   rw [hC, ecast, map_cut (l := Cr s n) (n := n) (fun r hr => ?_)]
   ·simpa using ih
   ·have := hi.off (by rw [show ((n + 1 : Nat) : Int) - 1 = (n : Int) by omega]; exact hx) r (by rw [hC]; exact hr)
    omega
theorem Runs_eq {s : S4} (hs : okS s) : qc.Runs s = some (Cr s 256) := by
 unfold qc.Runs
 have h := Runs_steps hs 256 (by omega)
 have hc : (Cr s 256).map (jA ((256 : Nat) : Int)) = Cr s 256 := by
  have hi := inv s 256 (by omega)
  conv => rhs; rw [<- List.map_id (Cr s 256)]
  apply List.map_congr_left
  intro r hr
  have := hi.pos r hr
  cases r
  simp only [jA, id, vw.mk.injEq, true_and] at this ⊢
  omega
 rw [hc] at h
 have h2 := uD h
 have h3 : runR qc.Runs_b1 [] (allB s) = some (.next (Cr s 256)) := h2
 rw [h3]; rfl
theorem xR {i : Nat} (hi : i < 1000000) : IntKind.wrap .i64 ((i : Int) + 1) = ((i + 1 : Nat) : Int) := by rw [zO (by omega) (by omega)]; rfl
theorem at_nat {α : Type} [Inhabited α] {b : List α} {i : Nat} (hi : i < b.length) : at_ b (i : Int) = b[i] := by
 unfold at_
 rw [Int.toNat_natCast, List.getD_eq_getElem?_getD, List.getElem?_eq_getElem hi]; rfl
def sg (b : Nat) : List UInt8 := (qc.sign (b : Int)).getD []
theorem hQ : ∀ b : _root_.Fin 256, qc.sign (b.val : Int) = some (sg b.val) /\ (sg b.val).length <= 4 := by decide +kernel
theorem sign_ok {b : Nat} (hb : b < 256) : qc.sign (b : Int) = some (sg b) := (hQ ⟨b, hb⟩).1
theorem sg_len {b : Nat} (hb : b < 256) : (sg b).length <= 4 := (hQ ⟨b, hb⟩).2
def runT (r : vw) : List UInt8 := sg r.Lo.toNat ++ (if r.Lo + 1 < r.Hi then [45] else []) ++ (if r.Lo < r.Hi then sg r.Hi.toNat else [])
def bodyT (l : List vw) : List UInt8 := l.flatMap runT
def okR (r : vw) : Prop := 0 <= r.Lo /\ r.Lo <= r.Hi /\ r.Hi < 256
theorem runT_len {r : vw} (h : okR r) : (runT r).length <= 9 := by
 obtain ⟨h1, h2, h3⟩ := h
 have a := sg_len (b := r.Lo.toNat) (by omega)
 have b := sg_len (b := r.Hi.toNat) (by omega)
 unfold runT
 split <;> split <;> simp <;> omega
theorem uW : ∀ {l : List vw}, (∀ r ∈ l, okR r) -> (bodyT l).length <= 9 * l.length
 | [], _ => by simp [bodyT]
 | r :: l, h => by
  have a := runT_len (h r List.mem_cons_self)
  have b := uW (fun x hx => h x (List.mem_cons_of_mem _ hx))
  simp only [bodyT, List.flatMap_cons, List.length_append, List.length_cons] at *
  omega
theorem Cr_okR {s : S4} : ∀ n, n <= 256 -> ∀ r ∈ Cr s n, okR r
 | 0, _, r, h => by simp [Cr] at h
 | n + 1, hn, r, h => by
  rw [kL, List.mem_append] at h
  rcases h with h | h
  ·exact Cr_okR n (by omega) r h
  ·split at h
   ·simp only [List.mem_cons, List.not_mem_nil, or_false] at h
    subst h
    obtain ⟨h1, h2, _⟩ := qI (s := s) 256 n (by omega) (by omega)
    exact ⟨by simp, by simp; omega, by simp; omega⟩
   ·simp at h
theorem at_run {l : List vw} {i : Nat} (hi : i < l.length) : at_ l (i : Int) = l[i] := at_nat hi
theorem Print_l1 {l : List vw} (hl : ∀ r ∈ l, okR r) (hlen : l.length <= 256) (d : Nat) : ∀ (j i : Nat) (out : List UInt8), i + d = l.length -> d < j -> out.length <= 1 + 9 * i -> qc.Print_l1 l j out (i : Int) = some (out ++ bodyT (l.drop i)) := by
 induction d with
 | zero =>
  intro j i out hi hj ho
  cases j with
  | zero => omega
  | succ j =>
   simp only [qc.Print_l1]
   rw [if_neg (by rw [decide_eq_true_eq]; omega), List.drop_eq_nil_of_le (by omega)]
   simp [bodyT]
 | succ d ih =>
  intro j i out hi hj ho
  cases j with
  | zero => omega
  | succ j =>
   have hlt : i < l.length := by omega
   have hr := hl l[i] (List.getElem_mem hlt)
   have hrl := runT_len hr
   obtain ⟨h1, h2, h3⟩ := hr
   obtain ⟨lo, hlo⟩ : ∃ n : Nat, l[i].Lo = (n : Int) := ⟨l[i].Lo.toNat, by omega⟩
   obtain ⟨hh, hhi⟩ : ∃ n : Nat, l[i].Hi = (n : Int) := ⟨l[i].Hi.toNat, by omega⟩
   have a := sg_len (b := lo) (by omega)
   have b := sg_len (b := hh) (by omega)
   simp only [qc.Print_l1, at_run hlt, hlo, hhi, qc.Print_j3, qc.Print_j4, qc.Print_j2]
   rw [List.drop_eq_getElem_cons hlt]
   simp only [bodyT, List.flatMap_cons]
   have hrt : runT l[i] = sg lo ++ (if (lo : Int) + 1 < hh then [45] else []) ++ (if (lo : Int) < hh then sg hh else []) := by
    unfold runT; rw [hlo, hhi]; simp
   rw [hrt] at hrl ⊢
   rw [if_pos (by rw [decide_eq_true_eq]; omega), if_pos (by rw [yy]; omega), wrap_u8 (by omega) (by omega), sign_ok (by omega), wrap_u8 (by omega) (by omega), sign_ok (by omega)]
   simp only [Option.bind_some]
   rw [if_pos (by rw [decide_eq_true_eq]; omega), zO (by omega) (by omega), xR (by omega)]
   by_cases c1 : (lo : Int) + 1 < hh
   ·have c2 : (lo : Int) < hh := by omega
    simp only [c1, c2, if_true, decide_true] at hrl ⊢
    simp only [List.length_append, List.length_cons, List.length_nil] at hrl
    rw [if_pos (by rw [decide_eq_true_eq]; simp; omega), if_pos (by rw [decide_eq_true_eq]; simp; omega), ih j (i + 1) _ (by omega) (by omega) (by simp; omega)]
    simp [bodyT]
   ·by_cases c2 : (lo : Int) < hh
    ·simp only [c1, c2, if_true, if_false, decide_true, decide_false, Bool.false_eq_true] at hrl ⊢
     simp only [List.length_append, List.length_nil] at hrl
     rw [if_pos (by rw [decide_eq_true_eq]; simp; omega), ih j (i + 1) _ (by omega) (by omega) (by simp; omega)]
     simp [bodyT]
    ·simp only [c1, c2, if_false, decide_false, Bool.false_eq_true] at hrl ⊢
     rw [ih j (i + 1) _ (by omega) (by omega) (by simp; omega)]
     simp [bodyT]
def printT (s : S4) : List UInt8 := 91 :: bodyT (Cr s 256) ++ [93]
theorem printT_len (s : S4) : (printT s).length <= 2306 := by
 have h := uW (Cr_okR (s := s) 256 (Nat.le_refl _))
 have h2 := Cr_len s 256
 unfold printT
 simp
 omega
theorem Print_ok {s : S4} (hs : okS s) {k : Nat} (hk : 300 <= k) : qc.Print k s = some (printT s) := by
 have hl := Cr_len s 256
 have hb := uW (Cr_okR (s := s) 256 (Nat.le_refl _))
 have h := Print_l1 (Cr_okR (s := s) 256 (Nat.le_refl _)) hl (Cr s 256).length k 0 [91] (by omega) (by omega) (by simp)
 have h2 : qc.Print_l1 (Cr s 256) k [91] 0 = _ := h
 unfold qc.Print
 rw [Runs_eq hs, Option.bind_some, h2, Option.bind_some, if_pos (by rw [decide_eq_true_eq]; simp; omega)]
 simp [printT]
end Go.Vc.Cp
