import Derived.Test.YtdbnoblklhgdoaaGreatDoorBC
import Derived.Test.YtdbnoblklhgdoaaGreatDoorRP
set_option linter.unusedVariables false
set_option linter.unusedSimpArgs false
set_option linter.unusedSectionVars false
namespace Go.Vc
open Go
def Aw (d : Def) (s y : Bool) (ws : List Word) : Except Fault Def := allW ws.length d s y ws
theorem Aw_step {w : Word} {r r' : List Word} {d d' : Def} {s y s' y' : Bool} (hk : w.Kind = 2) (h : stmtW w d s y r = .ok ((d', s', y'), r')) (hl : r'.length ≤ r.length) : Aw d s y (w :: r) = Aw d' s' y' r' := by
  unfold Aw
  rw [List.length_cons]
  conv => lhs; unfold allW
  simp only
  rw [if_neg (by omega), if_pos hk, h]
  exact allW_fuel _ _ _ _ _ _ hl (Nat.le_refl _)
theorem Aw_end (d : Def) (s y : Bool) (s0 : List UInt8) : Aw d s y [endW s0] = .ok d := rfl
section
variable {d : Def} {s y : Bool} {r : List Word}
theorem A_start (a : List UInt8) : Aw d false y ((([tKy [115, 116, 97, 114, 116], tNm a, tSg 59] : List Wd).map oW) ++ r) = Aw (dS d a) true y r :=
  Aw_step (w := oW (tKy [115, 116, 97, 114, 116])) (r := oW (tNm a) :: oW (tSg 59) :: r) rfl rfl (by simp; omega)
theorem A_layout (a : List UInt8) : Aw d s false ((([tKy [108, 97, 121, 111, 117, 116], tNm a, tSg 59] : List Wd).map oW) ++ r) = Aw (dL d a) s true r :=
  Aw_step (w := oW (tKy [108, 97, 121, 111, 117, 116])) (r := oW (tNm a) :: oW (tSg 59) :: r) rfl rfl (by simp; omega)
theorem A_prod {p : Prod} (h : prodP p = true) (hd : d.Prods.length < 200) : Aw d s y ((wProd p).map oW ++ r) = Aw (dP d (d.Prods ++ [p])) s y r := by
  have e : (wProd p).map oW ++ r = oW (wKind p.Lex) :: (oW (tNm p.Sort_) :: ((wCons p.Cons).map oW ++ oW (tSg 61) :: ((p.Syms.flatMap wSym).map oW ++ ((wBr p.Bracket).map oW ++ oW (tSg 59) :: r)))) := by
    unfold wProd
    simp
  have hr := prod_read h hd (oW (wKind p.Lex)) r
  rw [e]
  refine Aw_step ?_ ?_ ?_
  · unfold wKind; cases p.Lex <;> rfl
  · revert hr
    unfold wKind
    cases p.Lex with
    | true =>
      intro hr
      simp only [if_true] at hr
      show (match lexW (oW (tKy [108, 101, 120])) d.Prods _ with
        | .error e => Except.error e
        | .ok (x, r) => Except.ok ((dP d x, s, y), r)) = _
      rw [hr]
    | false =>
      intro hr
      simp only [Bool.false_eq_true, if_false] at hr
      show (match cfW (oW (tKy [99, 102])) d.Prods _ with
        | .error e => Except.error e
        | .ok (x, r) => Except.ok ((dP d x, s, y), r)) = _
      rw [hr]
  · simp only [List.length_cons, List.length_append]; omega
theorem A_chain {l : List Group} (h : chainP l = true) : Aw d s y ((wChain l).map oW ++ r) = Aw (dC d (d.Chains ++ [l])) s y r := by
  have e : (wChain l).map oW ++ r = oW (tKy [112, 114, 105, 111]) :: ((wChainG l).map oW ++ oW (tSg 59) :: r) := by
    unfold wChain
    simp
  rw [e]
  refine Aw_step rfl ?_ (by simp only [List.length_cons, List.length_append]; omega)
  show (match prioW _ with
    | .error e => Except.error e
    | .ok (x, r) => Except.ok ((dC d (d.Chains ++ [x]), s, y), r)) = _
  rw [chain_read h]
theorem A_follow (f : Follow) : Aw d s y ((wFollow f).map oW ++ r) = Aw (dFo d (d.Follows ++ [f])) s y r :=
  Aw_step (w := oW (tKy [102, 111, 108, 108, 111, 119])) (r := oW (tNm f.Sort_) :: oW (tSt f.Set) :: oW (tSg 59) :: r) rfl rfl (by simp; omega)
theorem A_reject (x : Reject) : Aw d s y ((wReject x).map oW ++ r) = Aw (dR d (d.Rejects ++ [x])) s y r :=
  Aw_step (w := oW (tKy [114, 101, 106, 101, 99, 116])) (r := oW (tNm x.Sort_) :: oW (tNm x.By) :: oW (tSg 59) :: r) rfl rfl (by simp; omega)
theorem A_box {b : Box} (h : boxP b = true) : Aw d s y ((wBox b).map oW ++ r) = Aw (dB d (d.Boxes ++ [b])) s y r := by
  have e : (wBox b).map oW ++ r = oW (tKy [98, 111, 120]) :: oW (tNm b.Cons) :: oW (tSg 61) :: ((wIts b.Items).map oW ++ oW (tSg 59) :: r) := by
    unfold wBox
    simp
  obtain ⟨m, hm⟩ := box_read h r
  rw [e]
  refine Aw_step rfl ?_ (by simp only [List.length_cons, List.length_append]; omega)
  show (match boxW _ with
    | .error e => Except.error e
    | .ok (x, r) => Except.ok ((dB d (d.Boxes ++ [x.1]), s, y), r)) = _
  rw [hm]
theorem A_prods : ∀ {l : List Prod} {d : Def}, (∀ p ∈ l, prodP p = true) → d.Prods.length + l.length ≤ 200 → Aw d s y ((l.flatMap wProd).map oW ++ r) = Aw (dP d (d.Prods ++ l)) s y r
  | [], d, _, _ => by
    rw [List.append_nil]
    rfl
  | p :: l, d, h, hl => by
    simp only [List.length_cons] at hl
    rw [List.flatMap_cons, List.map_append, List.append_assoc, A_prod (h p List.mem_cons_self) (by omega), A_prods (fun x hx => h x (List.mem_cons_of_mem _ hx)) (by simp only [dP, List.length_append, List.length_cons, List.length_nil]; omega)]
    simp [dP]
theorem A_all {α : Type} {g : α → List Wd} {up : Def → List α → Def} (h0 : ∀ d, up d [] = d) (hup : ∀ d a b, up (up d a) b = up d (a ++ b)) : ∀ {l : List α} {d : Def}, (∀ x ∈ l, ∀ d r, Aw d s y ((g x).map oW ++ r) = Aw (up d [x]) s y r) → Aw d s y ((l.flatMap g).map oW ++ r) = Aw (up d l) s y r
  | [], d, _ => by
    rw [h0]
    rfl
  | p :: l, d, h => by
    rw [List.flatMap_cons, List.map_append, List.append_assoc, h p List.mem_cons_self, A_all h0 hup (fun x hx => h x (List.mem_cons_of_mem _ hx)), hup]
    rfl
end
theorem def_read {d : Def} (h : defP d = true) (s0 : List UInt8) : Aw d0 false false ((wDef d).map oW ++ [endW s0]) = .ok d := by
  simp only [defP, Bool.and_eq_true, decide_eq_true_eq] at h
  obtain ⟨_, _, h3, h4, h5, _, _, h8⟩ := h
  have e1 : ∀ r, ∃ s', Aw d0 false false ((wStart d.Start).map oW ++ r) = Aw (dS d0 d.Start) s' false r := by
    intro r
    unfold wStart
    split
    · rename_i hn
      rw [hn]
      exact ⟨false, rfl⟩
    · exact ⟨true, A_start _⟩
  have e2 : ∀ (d' : Def) s r, d'.Layout = [] → ∃ y', Aw d' s false ((wLayout d.Layout).map oW ++ r) = Aw (dL d' d.Layout) s y' r := by
    intro d' s r hd
    unfold wLayout
    split
    · rename_i hn
      refine ⟨false, ?_⟩
      rw [hn, ← hd]
      rfl
    · exact ⟨true, A_layout _⟩
  unfold wDef
  simp only [List.map_append, List.append_assoc]
  obtain ⟨s', e1⟩ := e1 _
  rw [e1]
  obtain ⟨y', e2⟩ := e2 (dS d0 d.Start) s' _ rfl
  rw [e2, A_prods (List.all_eq_true.1 h4) (by simpa [dL, dS, d0] using h3),
    A_all (up := fun d l => dC d (d.Chains ++ l)) (fun d => by simp [dC]) (fun d a b => by simp [dC]) (fun x hx d r => A_chain (List.all_eq_true.1 h5 x hx)),
    A_all (up := fun d l => dFo d (d.Follows ++ l)) (fun d => by simp [dFo]) (fun d a b => by simp [dFo]) (fun x hx d r => A_follow x),
    A_all (up := fun d l => dR d (d.Rejects ++ l)) (fun d => by simp [dR]) (fun d a b => by simp [dR]) (fun x hx d r => A_reject x),
    A_all (up := fun d l => dB d (d.Boxes ++ l)) (fun d => by simp [dB]) (fun d a b => by simp [dB]) (fun x hx d r => A_box (List.all_eq_true.1 h8 x hx)),
    Aw_end]
  simp [dB, dR, dFo, dC, dP, dL, dS, d0]
theorem prsP_text {d : Def} (h : defP d = true) (ho : OkSets d) (hl : (textT d).length ≤ 65536) : prsP (textT d) = (d, ⟨0, 0⟩) := by
  obtain ⟨l, h1, h2⟩ := scT_Lx (lx_def h ho) 400000 (by omega)
  have hlen := Lx_len (lx_def h ho)
  have hc : ∀ (s' : List UInt8) (l : List (Nat × List UInt8 × Tk)), (wds s' l).map core = (l.map fun p => p.2).map fun q => core (wd [] 0 q.1 q.2) := by
    intro s' l
    simp only [wds, List.map_map]
    rfl
  have hw : Eq' (wds (textT d) l ++ [endW (textT d)]) ((wDef d).map oW ++ [endW []]) := by
    apply er_core
    rw [List.map_append, List.map_append, hc, h2, List.map_map]
    rfl
  have hln : ((wDef d).map oW ++ [endW []]).length ≤ 400000 := by
    simp only [List.length_append, List.length_map, List.length_cons, List.length_nil]
    omega
  have hr := allW_er 400000 d0 false false _ _ hw
  have hq : allW 400000 d0 false false ((wDef d).map oW ++ [endW []]) = .ok d := by
    rw [allW_fuel 400000 _ _ _ _ _ hln (Nat.le_refl _)]
    exact def_read h []
  rw [hq] at hr
  unfold prsP
  rw [h1]
  simp only
  cases h3 : allW 400000 d0 false false (wds (textT d) l ++ [endW (textT d)]) with
  | error f => rw [h3] at hr; exact hr.elim
  | ok d' => rw [h3] at hr; obtain rfl : d' = d := hr; rfl
theorem printR_spec (d : Def) : (defP d = true ∧ (textT d).length ≤ 65536 ∧ printR d = (textT d, 0)) ∨ ∃ e : Int, e ≠ 0 ∧ printR d = ([], e) := by
  unfold printR
  by_cases h : defP d = true
  · rw [if_pos h]
    by_cases hl : (textT d).length ≤ 65536
    · rw [if_pos hl]
      exact .inl ⟨h, hl, rfl⟩
    · rw [if_neg hl]
      exact .inr ⟨2, by decide, rfl⟩
  · rw [if_neg h]
    exact .inr ⟨3, by decide, rfl⟩
theorem textT_inj {a b : Def} (ha : defP a = true) (hb : defP b = true) (sa : OkSets a) (sb : OkSets b) (hl : (textT a).length ≤ 65536) (h : textT a = textT b) : a = b := by
  have e1 := prsP_text ha sa hl
  have e2 := prsP_text hb sb (h ▸ hl)
  rw [h, e2] at e1
  exact (congrArg (fun x => x.1) e1).symm
theorem Print_one {k : Nat} {d : Def} (hk : 200000 ≤ k) (hd : Bd d) (hs : OkSets d) : F.defs.Print k d = some (printR d) := by
  by_cases hp : defP d = true
  · exact Print_right hk hd hs hp
  · have hp' := Bool.eq_false_iff.2 hp
    unfold F.defs.Print printR
    rw [Right_ok (by omega) hd, hp']
    rfl
theorem law_Apart0 {a b : Def} (ha : OkD a) (hb : OkD b) (sa : OkSets a) (sb : OkSets b) (halive : ∀ m, F.law03.alive (m + 200000) = some true) : ∃ k, F.law03.DefsApart k a b = some true := by
  refine ⟨(4 * dz a.Boxes + 4 * dz b.Boxes) + 200000, ?_⟩
  have hk1 : 200000 + 4 * dz a.Boxes ≤ (4 * dz a.Boxes + 4 * dz b.Boxes) + 200000 := by omega
  have hk2 : 200000 + 4 * dz b.Boxes ≤ (4 * dz a.Boxes + 4 * dz b.Boxes) + 200000 := by omega
  have hal := halive (4 * dz a.Boxes + 4 * dz b.Boxes)
  generalize (4 * dz a.Boxes + 4 * dz b.Boxes) + 200000 = k at *
  obtain ⟨u, e1, p1⟩ := heavy_ok hk1 ha
  obtain ⟨v, e2, p2⟩ := heavy_ok hk2 hb
  unfold F.law03.DefsApart
  rw [e1, e2, hal]
  simp only [Option.bind_some]
  cases u with
  | true => rfl
  | false =>
    cases v with
    | true => rfl
    | false =>
      have da := p1 rfl
      have db := p2 rfl
      simp only [Bool.false_eq_true, if_false, Print_one (show 200000 ≤ k by omega) da sa, Print_one (show 200000 ≤ k by omega) db sb, Option.bind_some]
      unfold F.law03.DefsApart_j1
      rw [hal, Same_ok hk1 da ha.items]
      simp only [Option.bind_some, if_true]
      rcases printR_spec a with ⟨a1, a2, a3⟩ | ⟨x, a1, a2⟩
      · rcases printR_spec b with ⟨b1, b2, b3⟩ | ⟨y, b1, b2⟩
        · rw [a3, b3]
          have e : (textT a == textT b) = ceq a b := by
            rw [Bool.eq_iff_iff, beq_iff_eq, ceq_iff]
            exact ⟨textT_inj a1 b1 sa sb a2, fun h => by rw [h]⟩
          show some ((textT a == textT b) == ceq a b) = some true
          rw [e, BEq.rfl]
        · rw [a3, b2]
          have hy : (y != 0) = true := by simpa using b1
          have hy2 : (y == 0) = false := by simpa using b1
          simp only [hy, hy2]
          rfl
      · have hx : (x != 0) = true := by simpa using a1
        have hx2 : (x == 0) = false := by simpa using a1
        rw [a2]
        simp only [hx, hx2]
        rcases printR_spec b with ⟨b1, b2, b3⟩ | ⟨y, b1, b2⟩
        · rw [b3]; rfl
        · have hy2 : (y == 0) = false := by simpa using b1
          rw [b2]
          simp only [hy2]
          rfl
end Go.Vc
