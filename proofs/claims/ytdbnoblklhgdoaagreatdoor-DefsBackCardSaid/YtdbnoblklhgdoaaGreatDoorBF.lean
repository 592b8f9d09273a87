import Derived.Test.YtdbnoblklhgdoaaGreatDoorBC
import Derived.Test.YtdbnoblklhgdoaaGreatDoorRP
set_option linter.unusedVariables false
set_option linter.unusedSimpArgs false
set_option linter.unusedSectionVars false
namespace Go.Vc
open Go
def Aw (d : zY) (s y : Bool) (ws : List zg) : Except Fault zY := kw ws.length d s y ws
theorem qe {w : zg} {r r' : List zg} {d d' : zY} {s y s' y' : Bool} (hk : w.Kind = 2) (h : xX w d s y r = .ok ((d', s', y'), r')) (hl : r'.length <= r.length) : Aw d s y (w :: r) = Aw d' s' y' r' := by
 unfold Aw
 rw [List.length_cons]
 conv => lhs; unfold kw
 simp only
 rw [if_neg (by omega), if_pos hk, h]
 exact allW_fuel _ _ _ _ _ _ hl (Nat.le_refl _)
theorem Aw_end (d : zY) (s y : Bool) (s0 : List UInt8) : Aw d s y [jz s0] = .ok d := rfl
section
variable {d : zY} {s y : Bool} {r : List zg}
theorem A_start (a : List UInt8) : Aw d false y ((([jR [115, 116, 97, 114, 116], km a, xh 59] : List Wd).map oW) ++ r) = Aw (dS d a) true y r :=
 qe (w := oW (jR [115, 116, 97, 114, 116])) (r := oW (km a) :: oW (xh 59) :: r) rfl rfl (by simp; omega)
theorem A_layout (a : List UInt8) : Aw d s false ((([jR [108, 97, 121, 111, 117, 116], km a, xh 59] : List Wd).map oW) ++ r) = Aw (dL d a) s true r :=
 qe (w := oW (jR [108, 97, 121, 111, 117, 116])) (r := oW (km a) :: oW (xh 59) :: r) rfl rfl (by simp; omega)
theorem A_prod {p : Prod} (h : kc p = true) (hd : d.Prods.length < 200) : Aw d s y ((u3 p).map oW ++ r) = Aw (dP d (d.Prods ++ [p])) s y r := by
 have e : (u3 p).map oW ++ r = oW (wKind p.Lex) :: (oW (km p.Sort_) :: ((wCons p.Cons).map oW ++ oW (xh 61) :: ((p.Syms.flatMap jO).map oW ++ ((wBr p.Bracket).map oW ++ oW (xh 59) :: r)))) := by
  unfold u3
  simp
 have hr := prod_read h hd (oW (wKind p.Lex)) r
 rw [e]
 refine qe ?_ ?_ ?_
 ·unfold wKind; cases p.Lex <;> rfl
 ·revert hr
  unfold wKind
  cases p.Lex with
  | true =>
   intro hr
   simp only [if_true] at hr
   show (match ql (oW (jR [108, 101, 120])) d.Prods _ with
    | .error e => Except.error e
    | .ok (x, r) => Except.ok ((dP d x, s, y), r)) = _
   rw [hr]
  | false =>
   intro hr
   simp only [Bool.false_eq_true, if_false] at hr
   show (match cfW (oW (jR [99, 102])) d.Prods _ with
    | .error e => Except.error e
    | .ok (x, r) => Except.ok ((dP d x, s, y), r)) = _
   rw [hr]
 ·simp only [List.length_cons, List.length_append]; omega
theorem A_chain {l : List zw} (h : wJ l = true) : Aw d s y ((gB l).map oW ++ r) = Aw (dC d (d.Chains ++ [l])) s y r := by
 have e : (gB l).map oW ++ r = oW (jR [112, 114, 105, 111]) :: ((gZ l).map oW ++ oW (xh 59) :: r) := by
  unfold gB
  simp
 rw [e]
 refine qe rfl ?_ (by simp only [List.length_cons, List.length_append]; omega)
 show (match kV _ with
  | .error e => Except.error e
  | .ok (x, r) => Except.ok ((dC d (d.Chains ++ [x]), s, y), r)) = _
 rw [chain_read h]
theorem A_follow (f : Follow) : Aw d s y ((gY f).map oW ++ r) = Aw (wb d (d.Follows ++ [f])) s y r :=
 qe (w := oW (jR [102, 111, 108, 108, 111, 119])) (r := oW (km f.Sort_) :: oW (tSt f.Set) :: oW (xh 59) :: r) rfl rfl (by simp; omega)
theorem A_reject (x : zz) : Aw d s y ((gW x).map oW ++ r) = Aw (dR d (d.Rejects ++ [x])) s y r :=
 qe (w := oW (jR [114, 101, 106, 101, 99, 116])) (r := oW (km x.Sort_) :: oW (km x.By) :: oW (xh 59) :: r) rfl rfl (by simp; omega)
theorem A_box {b : xm} (h : uV b = true) : Aw d s y ((wBox b).map oW ++ r) = Aw (dB d (d.Boxes ++ [b])) s y r := by
 have e : (wBox b).map oW ++ r = oW (jR [98, 111, 120]) :: oW (km b.Cons) :: oW (xh 61) :: ((wC b.Items).map oW ++ oW (xh 59) :: r) := by
  unfold wBox
  simp
 obtain ⟨m, hm⟩ := box_read h r
 rw [e]
 refine qe rfl ?_ (by simp only [List.length_cons, List.length_append]; omega)
 show (match qo _ with
  | .error e => Except.error e
  | .ok (x, r) => Except.ok ((dB d (d.Boxes ++ [x.1]), s, y), r)) = _
 rw [hm]
theorem A_prods : ∀ {l : List Prod} {d : zY}, (∀ p ∈ l, kc p = true) -> d.Prods.length + l.length <= 200 -> Aw d s y ((l.flatMap u3).map oW ++ r) = Aw (dP d (d.Prods ++ l)) s y r
 | [], d, _, _ => by
  rw [List.append_nil]
  rfl
 | p :: l, d, h, hl => by
  simp only [List.length_cons] at hl
  rw [List.flatMap_cons, List.map_append, List.append_assoc, A_prod (h p List.mem_cons_self) (by omega), A_prods (fun x hx => h x (List.mem_cons_of_mem _ hx)) (by simp only [dP, List.length_append, List.length_cons, List.length_nil]; omega)]
  simp [dP]
theorem A_all {α : Type} {g : α -> List Wd} {up : zY -> List α -> zY} (h0 : ∀ d, up d [] = d) (hup : ∀ d a b, up (up d a) b = up d (a ++ b)) : ∀ {l : List α} {d : zY}, (∀ x ∈ l, ∀ d r, Aw d s y ((g x).map oW ++ r) = Aw (up d [x]) s y r) -> Aw d s y ((l.flatMap g).map oW ++ r) = Aw (up d l) s y r
 | [], d, _ => by
  rw [h0]
  rfl
 | p :: l, d, h => by
  rw [List.flatMap_cons, List.map_append, List.append_assoc, h p List.mem_cons_self, A_all h0 hup (fun x hx => h x (List.mem_cons_of_mem _ hx)), hup]
  rfl
end
theorem def_read {d : zY} (h : qJ d = true) (r : List zg) : ∃ s' y', Aw d0 false false ((wDef d).map oW ++ r) = Aw d s' y' r := by
 simp only [qJ, Bool.and_eq_true, decide_eq_true_eq] at h
 obtain ⟨_, _, h3, h4, h5, _, _, h8⟩ := h
 have e1 : ∀ r, ∃ s', Aw d0 false false ((wStart d.Start).map oW ++ r) = Aw (dS d0 d.Start) s' false r := by
  intro r
  unfold wStart
  split
  ·rename_i hn
   rw [hn]
   exact ⟨false, rfl⟩
  ·exact ⟨true, A_start _⟩
 have e2 : ∀ (d' : zY) s r, d'.Layout = [] -> ∃ y', Aw d' s false ((gX d.Layout).map oW ++ r) = Aw (dL d' d.Layout) s y' r := by
  intro d' s r hd
  unfold gX
  split
  ·rename_i hn
   refine ⟨false, ?_⟩
   rw [hn, <- hd]
   rfl
  ·exact ⟨true, A_layout _⟩
 unfold wDef
 simp only [List.map_append, List.append_assoc]
 obtain ⟨s', e1⟩ := e1 _
 rw [e1]
 obtain ⟨y', e2⟩ := e2 (dS d0 d.Start) s' _ rfl
 refine ⟨s', y', ?_⟩
 rw [e2, A_prods (List.all_eq_true.1 h4) (by simpa [dL, dS, d0] using h3),
  A_all (up := fun d l => dC d (d.Chains ++ l)) (fun d => by simp [dC]) (fun d a b => by simp [dC]) (fun x hx d r => A_chain (List.all_eq_true.1 h5 x hx)),
  A_all (up := fun d l => wb d (d.Follows ++ l)) (fun d => by simp [wb]) (fun d a b => by simp [wb]) (fun x hx d r => A_follow x),
  A_all (up := fun d l => dR d (d.Rejects ++ l)) (fun d => by simp [dR]) (fun d a b => by simp [dR]) (fun x hx d r => A_reject x),
  A_all (up := fun d l => dB d (d.Boxes ++ l)) (fun d => by simp [dB]) (fun d a b => by simp [dB]) (fun x hx d r => A_box (List.all_eq_true.1 h8 x hx))]
 simp [dB, dR, wb, dC, dP, dL, dS, d0]
theorem prsP_of {t : List UInt8} {ws : List Wd} {d : zY} (h : Lx t ws) (hl : t.length <= 65536) (hr : Aw d0 false false (ws.map oW ++ [jz []]) = .ok d) : vz t = (d, ⟨0, 0⟩) := by
 obtain ⟨l, h1, h2⟩ := scT_Lx h 400000 (by omega)
 have hlen := Lx_len h
 have hc : ∀ (s' : List UInt8) (l : List (Nat × List UInt8 × Tk)), (uv s' l).map core = (l.map fun p => p.2).map fun q => core (wd [] 0 q.1 q.2) := by
  intro s' l
  simp only [uv, List.map_map]
  rfl
 have hw : Eq' (uv t l ++ [jz t]) (ws.map oW ++ [jz []]) := by
  apply er_core
  rw [List.map_append, List.map_append, hc, h2, List.map_map]
  rfl
 have hln : (ws.map oW ++ [jz []]).length <= 400000 := by
  simp only [List.length_append, List.length_map, List.length_cons, List.length_nil]
  omega
 have hre := allW_er 400000 d0 false false _ _ hw
 have hq : kw 400000 d0 false false (ws.map oW ++ [jz []]) = .ok d := by
  rw [allW_fuel 400000 _ _ _ _ _ hln (Nat.le_refl _)]
  exact hr
 rw [hq] at hre
 unfold vz
 rw [h1]
 simp only
 cases h3 : kw 400000 d0 false false (uv t l ++ [jz t]) with
 | error f => rw [h3] at hre; exact hre.elim
 | ok d' => rw [h3] at hre; obtain rfl : d' = d := hre; rfl
theorem prsP_text {d : zY} (h : qJ d = true) (ho : gO d) (hl : (jE d).length <= 65536) : vz (jE d) = (d, ⟨0, 0⟩) := by
 have hx := lx_def h ho Lx.nil
 rw [List.append_nil, List.append_nil] at hx
 obtain ⟨s', y', e⟩ := def_read h [jz []]
 exact prsP_of hx hl (by rw [e, Aw_end])
theorem u7 (d : zY) : (qJ d = true /\ (jE d).length <= 65536 /\ jW d = (jE d, 0)) \/ ∃ e : Int, e ≠ 0 /\ jW d = ([], e) := by
 unfold jW
 by_cases h : qJ d = true
 ·rw [if_pos h]
  by_cases hl : (jE d).length <= 65536
  ·rw [if_pos hl]
   exact .inl ⟨h, hl, rfl⟩
  ·rw [if_neg hl]
   exact .inr ⟨2, by decide, rfl⟩
 ·rw [if_neg h]
  exact .inr ⟨3, by decide, rfl⟩
theorem Print_one {k : Nat} {d : zY} (hk : 200000 <= k) (hd : Bd d) (hs : gO d) : qd.Print k d = some (jW d) := by
 by_cases hp : qJ d = true
 ·exact Print_right hk hd hs hp
 ·have hp' := Bool.eq_false_iff.2 hp
  unfold qd.Print jW
  rw [Right_ok (by omega) hd, hp']
  rfl
end Go.Vc
