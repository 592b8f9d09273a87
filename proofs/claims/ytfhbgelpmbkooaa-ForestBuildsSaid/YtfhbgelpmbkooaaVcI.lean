/-
  Stores into rows; bytes to text; cuts of slices; what the walk knows of a test.
-/
import Derived.Test.YtfhbgelpmbkooaaVcH
set_option linter.unusedVariables false
set_option linter.unusedSimpArgs false
namespace Go.Vc
open Go
def putD (ys : List Dc) (j : Nat) (ds : List Dc) : List Dc := ys.take j ++ ds ++ ys.drop (j + ds.length)
def eU8 (n : Int) : List Dc := [.int .u8 n]
def set_ {α : Type} (xs : List α) (i : Int) (x : α) : List α := xs.set i.toNat x
section
variable {E : Env} {ops : Array Oper} {os : List Oper} {l : List (Nat × Value)} {H : List HB} {Φ : List (Value × Dc)} {N : SP} {Q : QS}
variable {ty : TypeId} {pos : String} {aft : Array Edge} {d : Nat}
theorem o_store_s {α : Type} [Inhabited α] (jr : Nat) {dst : Option Nat} {t T : TypeId} {x y : Operand} {a : Option Addr} {n c sz : Nat} {i : Int} {j m : Nat} {ag : Bool} {xs : List α} {enc : α → List Dc} {v : Value} {vs : List Value} {ds : List Dc} (x' : α)
    (hdst : dst = none) (ht : tyd E.P t = some (ag, m)) (hx : opv l x = some (.pointer (some ⟨blkA a, offA a + (i.toNat * sz + j), none⟩))) (hy : opv l y = some v) (hv : v.cells.toList = vs)
    (hj : H[jr]? = some (.row (.slice a n c) T sz (xs.map enc))) (hi : inR i xs.length = true) (hcp : CP Φ vs ds) (hm : Nat.beq vs.length m = true) (hjm : Nat.ble (j + m) sz = true) (henc : enc x' = putD (enc (at_ xs i)) j ds)
    (h : WO E ops os l (H.set jr (.row (.slice a n c) T sz ((set_ xs i x').map enc))) Φ N Q) : WO E ops (⟨dst, .store t x y, ty, pos, aft, none⟩ :: os) l H Φ N Q := by
  subst hdst
  refine o_step_skip fun ac w hs => ?_
  have hm' := Nat.eq_of_beq_eq_true hm
  have hjm' := Nat.le_of_ble_eq_true hjm
  obtain ⟨hlt, hget⟩ := at_get hi
  have hlive := hs.own.live _ (List.mem_of_getElem? hj)
  have hP : Pures w (fun b => E.X b ∨ b ∈ blks H) vs ds := hcp.pures hs.own.facts
  rcases hlive with ⟨hv0, h0⟩ | ⟨b, cap, arr, hvv, h1, h2, h3, h4, h5, h6⟩
  · have : xs.length = 0 := by simpa using congrArg List.length h0
    omega
  · simp only [Value.slice.injEq] at hvv
    obtain ⟨rfl, hn, rfl⟩ := hvv
    simp only [List.length_map] at h4 hn
    have hes : (enc (at_ xs i)).length = sz := h5 _ (by rw [hget]; exact List.mem_map_of_mem (List.getElem_mem hlt))
    have hbnd : i.toNat * sz + sz ≤ arr.size := by
      rw [h3]
      calc i.toNat * sz + sz = (i.toNat + 1) * sz := by rw [Nat.add_mul]; omega
        _ ≤ c * sz := Nat.mul_le_mul_right _ (by omega)
    have harr : arr = arr.toList.toArray := by simp
    rw [harr] at h1
    obtain ⟨w', g1, g2, g3⟩ := run_storeVar (P := E.P) ht (b := b) (v := v) vs (by rw [← hv]) hm' (o := 0 + (i.toNat * sz + j)) h1 (.inl rfl) (by simp; omega) hP.one.2
    have hblk : HB.blk (.row (.slice (some ⟨b, 0, none⟩) n c) T sz (xs.map enc)) = some b := rfl
    refine ⟨w', ?_, h ac w' (hs.replace hj (by rw [g2.size]; exact Nat.le_refl _) (fun q _ hq => g2.block q (fun e => hq (by rw [e]; rfl))) (fun q hq => ⟨.inl hq, ?_⟩) ?_ (g2.frm hs.frm (box_base hs hj rfl)))⟩
    · simp only [execOp, opv_eval hs hx, opv_eval hs hy, Instr.storeAt, Instr.sureAddr, Sem.run_bind]
      have e : blkA (some ⟨b, 0, none⟩) = b := rfl
      have e2 : offA (some ⟨b, 0, none⟩) = 0 := rfl
      simp only [pure, Sem.run, Result.andThen, e, e2, g1]
    · rw [g2.size]
      exact hs.own.inw q (mem_blks (List.mem_of_getElem? hj) hq)
    · have hlen2 : ((set_ xs i x').map enc).length = n := by simp [set_, hn]
      refine .inr ⟨b, c, _, by rw [hlen2], g3, h2, ?_, by rw [hlen2, hn]; exact h4, ?_, ?_⟩
      · simp [putL_length, h3]
      · intro e he
        obtain ⟨y0, hy0, rfl⟩ := List.mem_map.1 he
        rcases List.mem_or_eq_of_mem_set hy0 with h7 | rfl
        · exact h5 _ (List.mem_map_of_mem h7)
        · rw [henc]
          simp only [putD, List.length_append, List.length_take, List.length_drop, hP.length.symm]
          omega
      · intro p q hp hq
        have hpx : p < xs.length := by simpa [set_] using hp
        have hdsl : ds.length = m := by rw [← hP.length]; exact hm'
        have hXmono : ∀ {u : Value} {dc : Dc}, PureC w (fun b => E.X b ∨ b ∈ blks H) u dc → PureC w' (fun b' => E.X b' ∨ b' ∈ blks (H.set jr (.row (.slice (some ⟨b, 0, none⟩) n c) T sz ((set_ xs i x').map enc)))) u dc := by
          intro u dc hu
          refine hu.mono (by rw [g2.size]; exact Nat.le_refl _) (fun c hc hx => g2.block c (fun e => hx (.inr (by rw [e]; exact mem_blks (List.mem_of_getElem? hj) rfl)))) (fun c hc hx => hx.imp id (fun hm2 => ?_))
          rw [set_split hj] at hm2
          have hsp := getElem?_split hj
          rw [hsp]
          simp only [blks_append, blks_cons, List.mem_append, HB.bks, slB, Option.mem_toList, HB.blk] at hm2 ⊢
          exact hm2
        have hidx : ((putL arr.toList (0 + (i.toNat * sz + j)) vs).toArray)[p * sz + q]? = if i.toNat * sz + j ≤ p * sz + q ∧ p * sz + q < i.toNat * sz + j + vs.length then vs[p * sz + q - (i.toNat * sz + j)]? else arr[p * sz + q]? := by
          rw [List.getElem?_toArray, putL_get _ _ _ _ (by simp; omega)]
          simp only [Nat.zero_add]
          simp
        rw [hidx]
        by_cases hpi : p = i.toNat
        · subst hpi
          have hel : ((set_ xs i x').map enc)[i.toNat] = enc x' := by simp [set_]
          have hq' : q < (enc x').length := by rw [← hel]; exact hq
          have hgoal : ((set_ xs i x').map enc)[i.toNat][q] = (enc x')[q] := by simp [set_]
          rw [hgoal]
          have hqe : (enc x')[q]? = (putD (enc (at_ xs i)) j ds)[q]? := by rw [henc]
          simp only [putD] at hqe
          have hjs : j ≤ (enc (at_ xs i)).length := by omega
          by_cases hin : j ≤ q ∧ q < j + m
          · rw [if_pos ⟨by omega, by omega⟩, show i.toNat * sz + q - (i.toNat * sz + j) = q - j by omega]
            obtain ⟨u, h8, h9⟩ := hP.get (q - j) (by omega)
            refine ⟨u, h8, ?_⟩
            rw [List.append_assoc, List.getElem?_append_right (by simp; omega), List.getElem?_append_left (by simp; omega)] at hqe
            have e3 : q - (List.take j (enc (at_ xs i))).length = q - j := by simp; omega
            rw [e3, List.getElem?_eq_getElem hq', List.getElem?_eq_getElem (show q - j < ds.length by omega)] at hqe
            rw [Option.some.inj hqe]
            exact hXmono h9
          · rw [if_neg (by omega)]
            have hqs : q < sz := by
              rw [henc] at hq'
              simp only [putD, List.length_append, List.length_take, List.length_drop] at hq'
              omega
            have hold := h6 i.toNat q (by simpa using hlt) (by rw [h5 _ (List.getElem_mem _)]; exact hqs)
            obtain ⟨u, h8, h9⟩ := hold
            refine ⟨u, h8, ?_⟩
            have e4 : (enc x')[q]? = (enc (at_ xs i))[q]? := by
              rw [hqe]
              by_cases hlt2 : q < j
              · rw [List.append_assoc, List.getElem?_append_left (by simp; omega), List.getElem?_take, if_pos hlt2]
              · rw [List.getElem?_append_right (by simp; omega), List.getElem?_drop]
                congr 1
                simp; omega
            have e5 : (xs.map enc)[i.toNat]'(by simpa using hlt) = enc (at_ xs i) := by rw [hget]; simp
            have hq5 : q < (enc (at_ xs i)).length := by omega
            rw [List.getElem?_eq_getElem hq', List.getElem?_eq_getElem hq5] at e4
            rw [Option.some.inj e4]
            have h10 : ∀ (L : List Dc) (hL : (xs.map enc)[i.toNat]'(by simpa using hlt) = L) (hq6 : q < L.length), PureC w (fun b => E.X b ∨ b ∈ blks H) u L[q] := by
              rintro L rfl hq6
              exact h9
            exact hXmono (h10 _ e5 hq5)
        · have hne : ¬ (i.toNat * sz + j ≤ p * sz + q ∧ p * sz + q < i.toNat * sz + j + vs.length) := by
            have hqs : q < sz := by
              have : ((set_ xs i x').map enc)[p].length = sz := by
                have e6 : ((set_ xs i x').map enc)[p] = enc xs[p] := by simp only [set_, List.getElem_map]; rw [List.getElem_set_ne (fun e => hpi e.symm)]
                rw [e6]
                exact h5 _ (List.mem_map_of_mem (List.getElem_mem hpx))
              omega
            rcases Nat.lt_or_gt_of_ne hpi with h7 | h7
            · have : (p + 1) * sz ≤ i.toNat * sz := Nat.mul_le_mul_right _ h7
              rw [Nat.add_mul] at this
              omega
            · have : (i.toNat + 1) * sz ≤ p * sz := Nat.mul_le_mul_right _ h7
              rw [Nat.add_mul] at this
              omega
          rw [if_neg hne]
          have e6 : ((set_ xs i x').map enc)[p] = (xs.map enc)[p]'(by simpa using hpx) := by simp only [set_, List.getElem_map]; rw [List.getElem_set_ne (fun e => hpi e.symm)]
          have hq7 : q < ((xs.map enc)[p]'(by simpa using hpx)).length := by rw [← e6]; exact hq
          obtain ⟨u, h8, h9⟩ := h6 p q (by simpa using hpx) hq7
          refine ⟨u, h8, ?_⟩
          have h10 : ∀ (L : List Dc) (hL : (xs.map enc)[p]'(by simpa using hpx) = L) (hq6 : q < L.length), PureC w (fun b => E.X b ∨ b ∈ blks H) u L[q] := by
            rintro L rfl hq6
            exact h9
          exact hXmono (h10 _ e6.symm hq)
def LE (l l' : List (Nat × Value)) : Prop := ∀ p ∈ l', findT p.1 l = some p.2
theorem st_le {l' : List (Nat × Value)} {H' : List HB} {Φ' : List (Value × Dc)} (js : List Nat) (hl : LE l l') (hH : selS js H = H') (hΦ : ∀ p ∈ Φ', p ∈ Φ) : ∀ a w, St E l H Φ a w → St E l' H' Φ' a w := by
  intro a w hs
  have hp := sel_perm js H
  rw [hH] at hp
  refine ⟨hs.size, hs.defers, fun t v h => hs.tm t v (findT_le hl t v h), (hs.own.perm hp).sub (List.sublist_append_left _ _) hΦ, hs.frm, fun b hb => hs.base b ?_⟩
  refine ((perm_blks hp).mem_iff).2 ?_
  rw [blks_append]
  exact List.mem_append.2 (.inl hb)
theorem c_cut {c : Code} (R : Env → SP → Prop) (h1 : ∀ N', R E N' → WC E c l H Φ N' Q) (h2 : R E N) : WC E c l H Φ N Q := h1 N h2
theorem wc_app {c : Code} {a : Act} {w : World} (hs : St E l H Φ a w) (h : WC E c l H Φ N Q) : c.wpIn E.F 1 E.P (K N Q) a w := h a w hs
theorem c_loopE {c : Code} (J : Env → Nat → SP) (k : Nat) (h : Sat E l H Φ (J E k)) (round : ∀ k, ∀ a w, J E k a w → c.wpIn E.F 1 E.P (K (fun a' w' => ∃ j, j < k ∧ J E j a' w') Q) a w) : WC E (.loop c) l H Φ N Q :=
  c_loop (J E) k h round
theorem ite_some {c : Prop} [Decidable c] {α : Type} {x : Option α} {r : α} {G : Prop} (h : (if c then x else none) = some r) (k : c → x = some r → G) : G := by
  by_cases hc : c
  · exact k hc (by rw [if_pos hc] at h; exact h)
  · rw [if_neg hc] at h; cases h
end
end Go.Vc
