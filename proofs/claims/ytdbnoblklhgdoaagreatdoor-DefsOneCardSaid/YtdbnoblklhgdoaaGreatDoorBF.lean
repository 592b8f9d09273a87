import Derived.Test.YtdbnoblklhgdoaaGreatDoorBC
import Derived.Test.YtdbnoblklhgdoaaGreatDoorRP
set_option linter.unusedVariables false
set_option linter.unusedSimpArgs false
set_option linter.unusedSectionVars false
namespace Go.Vc
open Go
def Aw (d : z7) (s y : Bool) (ws : List zh) : Except Fault z7 := gn ws.length d s y ws
theorem jN {w : zh} {r r' : List zh} {d d' : z7} {s y s' y' : Bool} (hk : w.Kind = 2) (h : wY w d s y r = .ok ((d', s', y'), r')) (hl : r'.length <= r.length) : Aw d s y (w :: r) = Aw d' s' y' r' := by
 unfold Aw
 rw [List.length_cons]
 conv => lhs; unfold gn
 simp only
 rw [if_neg (by omega), if_pos hk, h]
 exact allW_fuel _ _ _ _ _ _ hl (Nat.le_refl _)
theorem Aw_end (d : z7) (s y : Bool) (s0 : List UInt8) : Aw d s y [qQ s0] = .ok d := rfl
section
variable {d : z7} {s y : Bool} {r : List zh}
theorem A_start (a : List UInt8) : Aw d false y ((([jy [115, 116, 97, 114, 116], vP a, xb 59] : List Wd).map oW) ++ r) = Aw (dS d a) true y r :=
 jN (w := oW (jy [115, 116, 97, 114, 116])) (r := oW (vP a) :: oW (xb 59) :: r) rfl rfl (by simp; omega)
theorem A_layout (a : List UInt8) : Aw d s false ((([jy [108, 97, 121, 111, 117, 116], vP a, xb 59] : List Wd).map oW) ++ r) = Aw (dL d a) s true r :=
 jN (w := oW (jy [108, 97, 121, 111, 117, 116])) (r := oW (vP a) :: oW (xb 59) :: r) rfl rfl (by simp; omega)
theorem A_prod {p : Prod} (h : kB p = true) (hd : d.Prods.length < 200) : Aw d s y ((uF p).map oW ++ r) = Aw (dP d (d.Prods ++ [p])) s y r := by
 have e : (uF p).map oW ++ r = oW (wKind p.Lex) :: (oW (vP p.Sort_) :: ((wCons p.Cons).map oW ++ oW (xb 61) :: ((p.Syms.flatMap ju).map oW ++ ((wBr p.Bracket).map oW ++ oW (xb 59) :: r)))) := by
  unfold uF
  simp
 have hr := prod_read h hd (oW (wKind p.Lex)) r
 rw [e]
 refine jN ?_ ?_ ?_
 ·unfold wKind; cases p.Lex <;> rfl
 ·revert hr
  unfold wKind
  cases p.Lex with
  | true =>
   intro hr
   simp only [if_true] at hr
   show (match gM (oW (jy [108, 101, 120])) d.Prods _ with
    | .error e => Except.error e
    | .ok (x, r) => Except.ok ((dP d x, s, y), r)) = _
   rw [hr]
  | false =>
   intro hr
   simp only [Bool.false_eq_true, if_false] at hr
   show (match cfW (oW (jy [99, 102])) d.Prods _ with
    | .error e => Except.error e
    | .ok (x, r) => Except.ok ((dP d x, s, y), r)) = _
   rw [hr]
 ·simp only [List.length_cons, List.length_append]; omega
theorem A_chain {l : List zx} (h : vf l = true) : Aw d s y ((qY l).map oW ++ r) = Aw (dC d (d.Chains ++ [l])) s y r := by
 have e : (qY l).map oW ++ r = oW (jy [112, 114, 105, 111]) :: ((gz l).map oW ++ oW (xb 59) :: r) := by
  unfold qY
  simp
 rw [e]
 refine jN rfl ?_ (by simp only [List.length_cons, List.length_append]; omega)
 show (match j9 _ with
  | .error e => Except.error e
  | .ok (x, r) => Except.ok ((dC d (d.Chains ++ [x]), s, y), r)) = _
 rw [chain_read h]
theorem A_follow (f : Follow) : Aw d s y ((qp f).map oW ++ r) = Aw (jg d (d.Follows ++ [f])) s y r :=
 jN (w := oW (jy [102, 111, 108, 108, 111, 119])) (r := oW (vP f.Sort_) :: oW (tSt f.Set) :: oW (xb 59) :: r) rfl rfl (by simp; omega)
theorem A_reject (x : zz) : Aw d s y ((gx x).map oW ++ r) = Aw (dR d (d.Rejects ++ [x])) s y r :=
 jN (w := oW (jy [114, 101, 106, 101, 99, 116])) (r := oW (vP x.Sort_) :: oW (vP x.By) :: oW (xb 59) :: r) rfl rfl (by simp; omega)
theorem A_box {b : xi} (h : boxP b = true) : Aw d s y ((wBox b).map oW ++ r) = Aw (dB d (d.Boxes ++ [b])) s y r := by
 have e : (wBox b).map oW ++ r = oW (jy [98, 111, 120]) :: oW (vP b.Cons) :: oW (xb 61) :: ((wn b.Items).map oW ++ oW (xb 59) :: r) := by
  unfold wBox
  simp
 obtain ⟨m, hm⟩ := box_read h r
 rw [e]
 refine jN rfl ?_ (by simp only [List.length_cons, List.length_append]; omega)
 show (match uA _ with
  | .error e => Except.error e
  | .ok (x, r) => Except.ok ((dB d (d.Boxes ++ [x.1]), s, y), r)) = _
 rw [hm]
theorem A_prods : ∀ {l : List Prod} {d : z7}, (∀ p ∈ l, kB p = true) -> d.Prods.length + l.length <= 200 -> Aw d s y ((l.flatMap uF).map oW ++ r) = Aw (dP d (d.Prods ++ l)) s y r
 | [], d, _, _ => by
  rw [List.append_nil]
  rfl
 | p :: l, d, h, hl => by
  simp only [List.length_cons] at hl
  rw [List.flatMap_cons, List.map_append, List.append_assoc, A_prod (h p List.mem_cons_self) (by omega), A_prods (fun x hx => h x (List.mem_cons_of_mem _ hx)) (by simp only [dP, List.length_append, List.length_cons, List.length_nil]; omega)]
  simp [dP]
theorem A_all {α : Type} {g : α -> List Wd} {up : z7 -> List α -> z7} (h0 : ∀ d, up d [] = d) (hup : ∀ d a b, up (up d a) b = up d (a ++ b)) : ∀ {l : List α} {d : z7}, (∀ x ∈ l, ∀ d r, Aw d s y ((g x).map oW ++ r) = Aw (up d [x]) s y r) -> Aw d s y ((l.flatMap g).map oW ++ r) = Aw (up d l) s y r
 | [], d, _ => by
  rw [h0]
  rfl
 | p :: l, d, h => by
  rw [List.flatMap_cons, List.map_append, List.append_assoc, h p List.mem_cons_self, A_all h0 hup (fun x hx => h x (List.mem_cons_of_mem _ hx)), hup]
  rfl
end
theorem def_read {d : z7} (h : gT d = true) (r : List zh) : ∃ s' y', Aw d0 false false ((wDef d).map oW ++ r) = Aw d s' y' r := by
 simp only [gT, Bool.and_eq_true, decide_eq_true_eq] at h
 obtain ⟨_, _, h3, h4, h5, _, _, h8⟩ := h
 have e1 : ∀ r, ∃ s', Aw d0 false false ((wStart d.Start).map oW ++ r) = Aw (dS d0 d.Start) s' false r := by
  intro r
  unfold wStart
  split
  ·rename_i hn
   rw [hn]
   exact ⟨false, rfl⟩
  ·exact ⟨true, A_start _⟩
 have e2 : ∀ (d' : z7) s r, d'.Layout = [] -> ∃ y', Aw d' s false ((gy d.Layout).map oW ++ r) = Aw (dL d' d.Layout) s y' r := by
  intro d' s r hd
  unfold gy
  split
  ·rename_i hn
   refine ⟨false, ?_⟩
   rw [hn, <- hd]
   rfl
  ·exact ⟨true, A_layout _⟩
 unfold wDef
 simp only [List.map_append, List.append_assoc]
 obtain ⟨s', e1⟩ := e1 _
 rw [e1]
 obtain ⟨y', e2⟩ := e2 (dS d0 d.Start) s' _ rfl
 refine ⟨s', y', ?_⟩
 rw [e2, A_prods (List.all_eq_true.1 h4) (by simpa [dL, dS, d0] using h3),
  A_all (up := fun d l => dC d (d.Chains ++ l)) (fun d => by simp [dC]) (fun d a b => by simp [dC]) (fun x hx d r => A_chain (List.all_eq_true.1 h5 x hx)),
  A_all (up := fun d l => jg d (d.Follows ++ l)) (fun d => by simp [jg]) (fun d a b => by simp [jg]) (fun x hx d r => A_follow x),
  A_all (up := fun d l => dR d (d.Rejects ++ l)) (fun d => by simp [dR]) (fun d a b => by simp [dR]) (fun x hx d r => A_reject x),
  A_all (up := fun d l => dB d (d.Boxes ++ l)) (fun d => by simp [dB]) (fun d a b => by simp [dB]) (fun x hx d r => A_box (List.all_eq_true.1 h8 x hx))]
 simp [dB, dR, jg, dC, dP, dL, dS, d0]
theorem prsP_of {t : List UInt8} {ws : List Wd} {d : z7} (h : Lx t ws) (hl : t.length <= 65536) (hr : Aw d0 false false (ws.map oW ++ [qQ []]) = .ok d) : prsP t = (d, ⟨0, 0⟩) := by
 obtain ⟨l, h1, h2⟩ := scT_Lx h 400000 (by omega)
 have hlen := Lx_len h
 have hc : ∀ (s' : List UInt8) (l : List (Nat × List UInt8 × Tk)), (wds s' l).map core = (l.map fun p => p.2).map fun q => core (wd [] 0 q.1 q.2) := by
  intro s' l
  simp only [wds, List.map_map]
  rfl
 have hw : Eq' (wds t l ++ [qQ t]) (ws.map oW ++ [qQ []]) := by
  apply er_core
  rw [List.map_append, List.map_append, hc, h2, List.map_map]
  rfl
 have hln : (ws.map oW ++ [qQ []]).length <= 400000 := by
  simp only [List.length_append, List.length_map, List.length_cons, List.length_nil]
  omega
 have hre := allW_er 400000 d0 false false _ _ hw
 have hq : gn 400000 d0 false false (ws.map oW ++ [qQ []]) = .ok d := by
  rw [allW_fuel 400000 _ _ _ _ _ hln (Nat.le_refl _)]
  exact hr
 rw [hq] at hre
 unfold prsP
 rw [h1]
 simp only
 cases h3 : gn 400000 d0 false false (wds t l ++ [qQ t]) with
 | error f => rw [h3] at hre; exact hre.elim
 | ok d' => rw [h3] at hre; obtain rfl : d' = d := hre; rfl
theorem printR_spec (d : z7) : (gT d = true /\ (jS d).length <= 65536 /\ gh d = (jS d, 0)) \/ ∃ e : Int, e ≠ 0 /\ gh d = ([], e) := by
 unfold gh
 by_cases h : gT d = true
 ·rw [if_pos h]
  by_cases hl : (jS d).length <= 65536
  ·rw [if_pos hl]
   exact .inl ⟨h, hl, rfl⟩
  ·rw [if_neg hl]
   exact .inr ⟨2, by decide, rfl⟩
 ·rw [if_neg h]
  exact .inr ⟨3, by decide, rfl⟩
theorem Print_one {k : Nat} {d : z7} (hk : 200000 <= k) (hd : Bd d) (hs : OkSets d) : qd.Print k d = some (gh d) := by
 by_cases hp : gT d = true
 ·exact Print_right hk hd hs hp
 ·have hp' := Bool.eq_false_iff.2 hp
  unfold qd.Print gh
  rw [Right_ok (by omega) hd, hp']
  rfl
end Go.Vc
