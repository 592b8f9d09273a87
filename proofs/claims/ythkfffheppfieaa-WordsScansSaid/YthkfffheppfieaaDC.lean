/-
  The law WordsScans, walked.
-/
import Derived.Test.YthkfffheppfieaaDB
set_option linter.unusedVariables false
set_option linter.unusedSimpArgs false
set_option maxRecDepth 8000
set_option maxHeartbeats 2000000
namespace Go.Vc
open Go Go.Proofs
/-! ### words let go -/
theorem Own.retell {w : World} {X : Nat → Prop} {H₁ H₂ : List HB} {v : Value} {T : TypeId} {sz : Nat} {xs xs' : List (List Dc)} {Φ : List (Value × Dc)} (o : Own w X (H₁ ++ .row v T sz xs :: H₂) Φ)
    (hl : xs'.length = xs.length) (hs : ∀ e ∈ xs', e.length = sz)
    (hc : ∀ (Y : Nat → Prop), (∀ p ∈ Φ, PureC w Y p.1 p.2) → ∀ i j (hi : i < xs.length) (hi' : i < xs'.length) (hj : j < xs[i].length) (hj' : j < xs'[i].length) u, PureC w Y u xs[i][j] → PureC w Y u xs'[i][j]) : Own w X (H₁ ++ .row v T sz xs' :: H₂) Φ := by
  have hb : blks (H₁ ++ .row v T sz xs' :: H₂) = blks (H₁ ++ .row v T sz xs :: H₂) := by
    simp only [blks_append, blks_cons]
    have : HB.blk (.row v T sz xs') = HB.blk (.row v T sz xs) := by
      cases v with
      | slice a n c => cases a <;> rfl
      | _ => rfl
    rw [this]
  refine ⟨o.xin, by rw [hb]; exact o.nodup, by rw [hb]; exact o.apart, by rw [hb]; exact o.inw, ?_, by rw [hb]; exact o.facts⟩
  rw [hb]
  intro h hh
  have hold := o.live
  rcases List.mem_append.1 hh with hh | hh
  · exact hold h (by simp [hh])
  · rcases List.mem_cons.1 hh with rfl | hh
    · have := hold (.row v T sz xs) (by simp)
      rcases this with ⟨rfl, rfl⟩ | ⟨b, cap, arr, rfl, h1, h2, h3, h4, h5, h6⟩
      · exact .inl ⟨rfl, List.length_eq_zero_iff.1 (by simpa using hl)⟩
      · refine .inr ⟨b, cap, arr, by rw [hl], h1, h2, h3, by omega, hs, fun i j hi hj => ?_⟩
        have hi0 : i < xs.length := by omega
        have hj0 : j < xs[i].length := by
          rw [h5 _ (List.getElem_mem hi0)]
          rw [hs _ (List.getElem_mem hi)] at hj
          exact hj
        obtain ⟨u, hu, hp⟩ := h6 i j hi0 hj0
        exact ⟨u, hu, hc _ o.facts i j hi0 hi hj0 hj u hp⟩
    · exact hold h (by simp [hh])
def fctW (x : WV) : Value × Dc := (.slice x.a x.n x.c, .slice 1 (x.w.Bytes.map eU8))
theorem Own.letgoWs {w : World} {X : Nat → Prop} : ∀ (ws : List WV) (H₁ H₂ : List HB) (Φ : List (Value × Dc)), Own w X (H₁ ++ (ws.map rwW ++ H₂)) Φ → Own w X (H₁ ++ H₂) (ws.map fctW ++ Φ)
  | [], H₁, H₂, Φ, o => o
  | x :: ws, H₁, H₂, Φ, o => by
    have o1 : Own w X (H₁ ++ (ws.map rwW ++ H₂)) (fctW x :: Φ) := Own.freeze o
    have o2 := Own.letgoWs ws _ _ _ o1
    exact o2.sub (List.Sublist.refl _) (fun p hp => by
      simp only [List.map_cons, List.cons_append, List.mem_cons, List.mem_append] at hp ⊢
      rcases hp with hp | hp | hp
      · exact .inr (.inl hp)
      · exact .inl hp
      · exact .inr (.inr hp))
theorem eWord_own {w : World} {Y : Nat → Prop} {x : WV} (hf : PureC w Y (.slice x.a x.n x.c) (.slice 1 (x.w.Bytes.map eU8))) (j : Nat) (hj : j < (eWV x).length) (hj' : j < (eWord x.w).length) (u : Value) (hp : PureC w Y u (eWV x)[j]) : PureC w Y u (eWord x.w)[j] := by
  have hj2 : j < 11 := hj
  have : j = 0 ∨ j = 1 ∨ j = 3 ∨ j = 4 ∨ j = 5 ∨ j = 6 ∨ j = 7 ∨ j = 8 ∨ j = 9 ∨ j = 10 ∨ j = 2 := by omega
  rcases this with rfl | rfl | rfl | rfl | rfl | rfl | rfl | rfl | rfl | rfl | rfl
  all_goals first | exact hp | skip
  have hp' : PureC w Y u (.own x.a x.n x.c) := hp
  cases hp'
  exact hf
/-- a list of words, with all its bytes, let go -/
theorem Own.letgoL {w : World} {X : Nat → Prop} {v : Value} (ws : List WV) {Hd : List HB} (hHd : Hd.Perm (ws.map rwW)) (H₁ H₂ : List HB) (Φ : List (Value × Dc)) (o : Own w X (H₁ ++ ((.row v 35 11 (ws.map eWV) :: Hd) ++ H₂)) Φ) : Own w X (H₁ ++ H₂) ((v, .slice 11 ((ws.map WV.w).map eWord)) :: Φ) := by
  have o1 : Own w X ((H₁ ++ [.row v 35 11 (ws.map eWV)]) ++ (ws.map rwW ++ H₂)) Φ := by
    refine o.perm ?_
    rw [List.append_assoc]
    exact List.Perm.append_left _ (List.Perm.cons _ (hHd.append_right _))
  have o2 := Own.letgoWs ws _ _ _ o1
  rw [List.append_assoc] at o2
  have o3 := Own.retell (xs' := (ws.map WV.w).map eWord) o2 (by simp) (fun e he => by
    obtain ⟨y, _, rfl⟩ := List.mem_map.1 he
    rfl) (fun Y hY i j hi hi' hj hj' u hp => by
      have hi0 : i < ws.length := by simpa using hi
      have hf := hY (fctW ws[i]) (List.mem_append.2 (.inl (List.mem_map.2 ⟨ws[i], List.getElem_mem hi0, rfl⟩)))
      simp only [List.getElem_map] at hj hj' hp ⊢
      exact eWord_own hf j hj hj' u hp)
  have o4 := Own.freeze o3
  exact o4.sub (List.Sublist.refl _) (fun p hp => by
    rcases List.mem_cons.1 hp with rfl | hp
    · exact List.mem_cons_self
    · exact List.mem_cons_of_mem _ (List.mem_append.2 (.inr hp)))
section
variable {E : Env} {ops : Array Oper} {os : List Oper} {l : List (Nat × Value)} {H : List HB} {Φ : List (Value × Dc)} {N : SP} {Q : QS}
variable {ty : TypeId} {pos : String} {aft : Array Edge} {d : Nat}
/-- a call that is lent some blocks as what they read as, and hands a plain value back -/
theorem o_callP {L Hr : List HB} {Ψ : List (Value × Dc)} {f : FuncId} {args : Array Operand} {argTypes : Array TypeId} {vs : List Value} {Φp : List (Value × Dc)} {v : Value}
    (hlet : ∀ w X, Own w X ([] ++ (L ++ Hr)) Φ → Own w X ([] ++ Hr) (Ψ ++ Φ))
    (hc : Callable E.P f) (ha : opvL l args.toList = some vs) (hperm : H.Perm (L ++ Hr)) (hΦ : ∀ p ∈ Φp, p ∈ Ψ ++ Φ) (tri : Tri E.P f vs [] Φp (fun o H Φ => o = .ret v ∧ H = [] ∧ Φ = [])) (hd : Nat.blt d E.n = true)
    (h : WO E ops os ((d, v) :: l) H Φ N Q) :
    WO E ops (⟨some d, .call ⟨.value (.func f), args, argTypes⟩, ty, pos, aft, none⟩ :: os) l H Φ N Q := by
  intro a w hs
  have ha' : args.toList.map a.eval = vs := opvL_eval hs _ _ ha
  simp only [wpL, Region.wanted, if_true, Oper.wp, run_call_value (E := E) (x := .func f) (cap := #[]) hc rfl ha', Oper.upon]
  have o0 := hs.own.perm hperm
  have o1 : Own w E.X ([] ++ Hr) (Ψ ++ Φ) := hlet w E.X o0
  have o2 := (o1.sub (List.Sublist.refl _) hΦ).lend
  have e0 : (vs ++ (#[] : Array Value).toList).toArray = vs.toArray := by simp
  rw [e0]
  refine (tri w _ o2).mono ?_
  rintro e w' ⟨out, rfl, H', Φ', ⟨rfl, rfl, rfl⟩, hf, ho, hb⟩
  have hsame : ∀ b, b < w.heap.size → w'.heap[b]? = w.heap[b]? := fun b hb => hf.block b hb (by simp)
  have hown : Own w' E.X H Φ := hs.own.grow hf.size hsame
  have hfrm : Frm E.w0 E.M w' := ⟨hf.os.trans hs.frm.os, hf.tape.trans hs.frm.tape, hf.output.trans hs.frm.output, Nat.le_trans hs.frm.size hf.size, fun b hlt hm => by
    rw [hsame b (Nat.lt_of_lt_of_le hlt hs.frm.size)]
    exact hs.frm.block b hlt hm⟩
  exact h _ w' ((⟨hs.size, hs.defers, hs.tm, hown, hfrm, hs.base⟩ : St E l H Φ a w').put_same (blt_lt hd))
theorem c_rowmax {c : Code} (j : Nat) {v : Value} {T : TypeId} {sz : Nat} {xs : List (List Dc)} (hj : H[j]? = some (.row v T sz xs)) (h : xs.length ≤ maxLen → WC E c l H Φ N Q) : WC E c l H Φ N Q := by
  intro ac w hs
  have := hs.own.live _ (List.mem_of_getElem? hj)
  rcases this with ⟨_, h0⟩ | ⟨b, cap, arr, _, _, h2, _, h4, _⟩
  · exact h (by rw [h0]; exact Nat.zero_le _) ac w hs
  · exact h (by omega) ac w hs
end
theorem wrapS {i n : Nat} (h : i < n) (hn : n ≤ maxLen) : IntKind.wrap .i64 ((i : Int) + 1) = ((i + 1 : Nat) : Int) := by
  have : maxLen = 9223372036854775807 := rfl
  simp only [IntKind.wrap, IntKind.bits, IntKind.signed]
  simp
  omega
theorem call13d : Callable Try.prog 13 := callable_of Try.func13 (by kernel_rfl) rfl
def F.law02.WordsScans (k : Nat) (text_ : List UInt8) : Option Bool :=
  if decide (65538 < (text_.length : Int)) then
    (F.law02.alive k).bind fun v =>
    some v
  else
    (F.words.Scan k text_).bind fun v1 =>
    (F.ref02.Scan k text_).bind fun v2 =>
    (F.ref02.SameWords k v1.1 v2.1 true).bind fun v3 =>
    if !v3 then some false
    else
      if !((v1.2.At == v2.2.At) && ((v1.2.Code == v2.2.Code) && true)) then some false
      else
        (F.law02.alive k).bind fun v4 =>
        if v4 then some v3 else some false
theorem tri3 (k : Nat) (text_ : List UInt8) (r : Bool) (hF : F.law02.WordsScans k text_ = some r) :
    Tri Try.prog 3 [.string (bs text_)] [] [] (fun o H Φ => o = .ret (.bool r) ∧ H = [] ∧ Φ = []) := by
  unfold F.law02.WordsScans at hF
  refine tri_intro (n := 72) Try.func3 rfl Try.ntmps3 rfl fun w X => ?_
  refine c_seq ?_
  refine c_region ?_
  refine o_v (v_assign rfl) rfl ?_
  refine o_seq ?_
  refine c_seq ?_
  refine c_seq ?_
  refine c_region ?_
  refine o_v (v_move rfl) rfl ?_
  refine o_v (v_len_str Try.underlying9 rfl) rfl ?_
  refine o_v (v_bin rfl rfl rfl) rfl ?_
  refine o_seq ?_
  refine c_cond rfl (fun h1 => ?_) (fun h1 => ?_)
  · replace hF := ite_t h1 hF
    refine c_seq ?_
    refine c_region ?_
    obtain ⟨v, h2, hF⟩ := bd hF
    refine o_callSB call11 rfl lent_nil (tri11 k v h2) rfl ?_
    refine o_v (v_assign rfl) rfl ?_
    refine o_seq ?_
    refine c_ret ?_
    cases hF
    refine s_ret1 rfl (r_tmp rfl) fun a w hs => ?_
    exact fin_sel hs [] ⟨rfl, rfl, rfl⟩ rfl sub_nil
  · replace hF := ite_f h1 hF
    refine c_skip ?_
    refine sat_wc ?_
    refine c_seq ?_
    refine c_region ?_
    refine o_v (v_move rfl) rfl ?_
    obtain ⟨v1, h3, hF⟩ := bd hF
    refine o_call0 call12 rfl sub_nil (scan_d k text_ v1 h3) rfl ?_
    rintro _ _ _ ⟨ws, sa1, sn1, sc1, hws, rfl, rfl, rfl⟩
    refine o_v (v_move rfl) rfl ?_
    refine o_v (v_extract rfl rfl) rfl ?_
    refine o_v (v_extract rfl rfl) rfl ?_
    refine o_alloc zero26 rfl rfl fun b => ?_
    refine o_v (v_assign rfl) rfl ?_
    refine o_store_box 0 rfl ty26 rfl rfl rfl rfl rfl rfl rfl ?_
    refine o_seq ?_
    refine c_seq ?_
    refine c_region ?_
    refine o_v (v_move rfl) rfl ?_
    obtain ⟨v2, h4, hF⟩ := bd hF
    refine o_call0 call13d rfl sub_nil (tri13 k text_ v2 h4) rfl ?_
    rintro _ _ _ ⟨sa2, sn2, sc2, rfl, rfl, rfl⟩
    refine o_v (v_move rfl) rfl ?_
    refine o_v (v_extract rfl rfl) rfl ?_
    refine o_v (v_extract rfl rfl) rfl ?_
    refine o_alloc zero26 rfl rfl fun b1 => ?_
    refine o_v (v_assign rfl) rfl ?_
    refine o_store_box 0 rfl ty26 rfl rfl rfl rfl rfl rfl rfl ?_
    refine o_st (st_freeze 1 rfl) ?_
    refine o_st (l' := _) (H' := .box b1 26 [.int .i64 v2.2.At, .int .i64 v2.2.Code] :: .box b 26 [.int .i64 v1.2.At, .int .i64 v1.2.Code] :: .row (.slice sa1 sn1 sc1) 35 11 (ws.map eWV) :: ws.map rwW) (Φ' := [(.slice sa2 sn2 sc2, .slice 11 (v2.1.map eWord))]) (fun _ _ hs => by rw [List.append_nil] at hs; exact hs) ?_
    refine o_seq ?_
    refine c_seq ?_
    refine c_seq ?_
    refine c_region ?_
    refine o_v (v_move rfl) rfl ?_
    refine o_v (v_move rfl) rfl ?_
    obtain ⟨v3, h5, hF⟩ := bd hF
    refine o_callP (L := .row (.slice sa1 sn1 sc1) 35 11 (ws.map eWV) :: ws.map rwW) (Hr := [.box b1 26 [.int .i64 v2.2.At, .int .i64 v2.2.Code], .box b 26 [.int .i64 v1.2.At, .int .i64 v1.2.Code]]) (Ψ := [(.slice sa1 sn1 sc1, .slice 11 ((ws.map WV.w).map eWord))]) (fun w X ho => Own.letgoL ws (.refl _) _ _ _ ho) call14 rfl (List.perm_append_comm (l₁ := [_, _])) (sub_cons 0 rfl (sub_cons 1 rfl sub_nil)) (tri14 k (ws.map WV.w) v2.1 true sa1 sn1 sc1 sa2 sn2 sc2 v3 (by rw [hws]; exact h5)) rfl ?_
    refine o_v (v_not rfl) rfl ?_
    refine o_v (v_move rfl) rfl ?_
    refine o_split (t := 29) rfl (fun h6 => ?_) (fun h6 => ?_)
    · replace hF := ite_t h6 hF
      refine o_off rfl rfl (by decide) rfl ?_
      refine o_off rfl rfl (by decide) rfl ?_
      refine o_off rfl rfl (by decide) rfl ?_
      refine o_v (v_pick_t rfl rfl) rfl ?_
      refine o_seq ?_
      refine c_cond rfl (fun _ => ?_) (fun h => Bool.noConfusion h)
      refine c_seq ?_
      refine c_region ?_
      refine o_v (v_assign rfl) rfl ?_
      refine o_seq ?_
      refine c_ret ?_
      cases hF
      refine s_ret1 rfl (r_tmp rfl) fun a w hs => ?_
      exact fin_sel hs [] ⟨rfl, rfl, rfl⟩ rfl sub_nil
    · replace hF := ite_f h6 hF
      refine o_on rfl rfl ?_
      refine o_v (v_load_box 1 ty26 rfl rfl rfl rfl rfl) rfl ?_
      refine o_on rfl rfl ?_
      refine o_v (v_load_box 0 ty26 rfl rfl rfl rfl rfl) rfl ?_
      refine o_on rfl rfl ?_
      refine o_v (v_agne 2 rfl rfl (eq26 v1.2.At v1.2.Code v2.2.At v2.2.Code) rfl guard26) rfl ?_
      refine o_v (v_pick_f rfl rfl) rfl ?_
      refine o_seq ?_
      refine c_cond rfl (fun h7 => ?_) (fun h7 => ?_)
      · replace hF := ite_t h7 hF
        refine c_seq ?_
        refine c_region ?_
        refine o_v (v_assign rfl) rfl ?_
        refine o_seq ?_
        refine c_ret ?_
        cases hF
        refine s_ret1 rfl (r_tmp rfl) fun a w hs => ?_
        exact fin_sel hs [] ⟨rfl, rfl, rfl⟩ rfl sub_nil
      · replace hF := ite_f h7 hF
        obtain ⟨v4, h8, hF⟩ := bd hF
        refine c_skip ?_
        refine sat_wc ?_
        refine c_rowmax 2 rfl fun hmax => ?_
        rw [List.length_map] at hmax
        refine c_seq ?_
        refine c_seq ?_
        refine c_region ?_
        refine o_v (v_assign rfl) rfl ?_
        refine o_seq ?_
        refine c_cut (fun E N' => Sat E [(0, .string (bs text_)), (5, .slice sa2 sn2 sc2)] [] [(.slice sa2 sn2 sc2, .slice 11 (v2.1.map eWord))] N') (fun N1 hN1 => ?_) ?_
        · refine c_block ?_
          refine c_loopE (fun E j a w => ∃ (i : Nat) (us : List WV) (Hd : List HB), i + j = ws.length + 1 ∧ i ≤ ws.length ∧ us.length = ws.length ∧ Hd.Perm (us.map rwW) ∧ St E [(0, .string (bs text_)), (3, .slice sa1 sn1 sc1), (5, .slice sa2 sn2 sc2), (7, .int .i64 (i : Int))] (.row (.slice sa1 sn1 sc1) 35 11 (us.map eWV) :: Hd) [(.slice sa2 sn2 sc2, .slice 11 (v2.1.map eWord))] a w) (ws.length + 1) ?_ ?_
          · intro a w hs
            exact ⟨0, ws, ws.map rwW, by omega, by omega, rfl, .refl _, st_sub (le_cons rfl (le_cons rfl (le_cons rfl (le_cons rfl le_nil)))) (List.Sublist.cons _ (List.Sublist.cons _ (List.Sublist.refl _))) (fun p hp => hp) a w hs⟩
          · rintro j a w ⟨i, us, Hd, hij, hi, hul, hHd, hs⟩
            refine wc_app hs ?_
            refine c_seq ?_
            refine c_seq ?_
            refine c_region ?_
            refine o_v (v_move rfl) rfl ?_
            refine o_v (v_move rfl) rfl ?_
            refine o_v (v_lenS (enc := eWV) us sl23 rfl (.r 0 _ rfl)) rfl ?_
            refine o_v (v_bin rfl rfl rfl) rfl ?_
            refine o_seq ?_
            refine c_cond rfl (fun h9 => ?_) (fun h9 => ?_)
            · have hlt : i < us.length := by simpa using h9
              have hin : inR (i : Int) us.length = true := by rw [inR_iff]; omega
              have hat : at_ us (i : Int) = us[i] := by simp [at_, hlt]
              have hsplit : us = us.take i ++ us[i] :: us.drop (i + 1) := by rw [List.getElem_cons_drop, List.take_append_drop]
              generalize hx : us[i] = x at hat hsplit
              have hset : ∀ y : WV, (set_ us (i : Int) y).map rwW = (us.take i).map rwW ++ rwW y :: (us.drop (i + 1)).map rwW := by
                intro y
                simp only [set_, Int.toNat_natCast]
                rw [List.set_eq_take_append_cons_drop, if_pos hlt, List.map_append, List.map_cons]
              have hperm : Hd.Perm (rwW x :: ((us.take i).map rwW ++ (us.drop (i + 1)).map rwW)) := by
                refine hHd.trans ?_
                conv => lhs; rw [hsplit]
                rw [List.map_append, List.map_cons]
                exact List.perm_middle
              refine c_skip ?_
              refine sat_wc ?_
              refine c_st (st_perm (List.Perm.cons _ hperm)) ?_
              have hset2 : ∀ y : WV, (rwW y :: ((us.take i).map rwW ++ (us.drop (i + 1)).map rwW)).Perm ((set_ us (i : Int) y).map rwW) := fun y => by
                rw [hset]
                exact List.perm_middle.symm
              generalize ((us.take i).map rwW ++ (us.drop (i + 1)).map rwW) = Hd2 at hperm hset2
              refine c_rowmax 1 rfl fun hbmax => ?_
              rw [List.length_map] at hbmax
              refine c_seq ?_
              refine c_block ?_
              refine c_seq ?_
              refine c_seq ?_
              refine c_region ?_
              refine o_v (v_assign rfl) rfl ?_
              refine o_seq ?_
              refine c_cut (fun E N' => ∀ (bytes : List Int), Sat E [(0, .string (bs text_)), (3, .slice sa1 sn1 sc1), (5, .slice sa2 sn2 sc2), (7, .int .i64 (i : Int))] (.row (.slice sa1 sn1 sc1) 35 11 (us.map eWV) :: .row (.slice x.a x.n x.c) 5 1 (bytes.map eU8) :: Hd2) [(.slice sa2 sn2 sc2, .slice 11 (v2.1.map eWord))] N') (fun N2 hN2 => ?_) ?_
              · refine c_block ?_
                refine c_loopE (fun E j a w => ∃ (q : Nat) (bytes : List Int), q + j = x.w.Bytes.length + 1 ∧ q ≤ x.w.Bytes.length ∧ bytes.length = x.w.Bytes.length ∧ St E [(0, .string (bs text_)), (3, .slice sa1 sn1 sc1), (5, .slice sa2 sn2 sc2), (7, .int .i64 (i : Int)), (8, .int .i64 (q : Int))] (.row (.slice sa1 sn1 sc1) 35 11 (us.map eWV) :: .row (.slice x.a x.n x.c) 5 1 (bytes.map eU8) :: Hd2) [(.slice sa2 sn2 sc2, .slice 11 (v2.1.map eWord))] a w) (x.w.Bytes.length + 1) ?_ ?_
                · intro a w hs
                  exact ⟨0, x.w.Bytes, by omega, by omega, rfl, st_sub (le_cons rfl (le_cons rfl (le_cons rfl (le_cons rfl (le_cons rfl le_nil))))) (List.Sublist.refl _) (fun p hp => hp) a w hs⟩
                · rintro j2 a w ⟨q, bytes, hqj, hq, hbl, hs⟩
                  refine wc_app hs ?_
                  refine c_seq ?_
                  refine c_seq ?_
                  refine c_region ?_
                  refine o_v (v_move rfl) rfl ?_
                  refine o_v (v_move rfl) rfl ?_
                  refine o_v (v_move rfl) rfl ?_
                  refine o_v (v_indexAddr_s (xs := us) (enc := eWV) sl23 rfl rfl (.r 0 _ rfl) hin) rfl ?_
                  refine o_v (v_fieldAddr (v := .pointer (some ⟨blkA sa1, offA sa1 + ((i : Int).toNat * 11 + 2), none⟩)) rfl (fun _ => by kernel_rfl)) rfl ?_
                  refine o_load_s (i := (i : Int)) (j := 2) (ds := [.own x.a x.n x.c]) (xs := us) (enc := eWV) ty30 rfl (.r 0 _ rfl) hin (by rw [hat]; rfl) rfl rfl rfl rfl rfl ?_
                  refine o_v (v_lenS (enc := eU8) bytes sl30 rfl (.r 1 _ rfl)) rfl ?_
                  refine o_v (v_bin rfl rfl rfl) rfl ?_
                  refine o_seq ?_
                  refine c_cond rfl (fun h10 => ?_) (fun h10 => ?_)
                  · have hql : q < bytes.length := by simpa using h10
                    have hqin : inR (q : Int) bytes.length = true := by rw [inR_iff]; omega
                    refine c_skip ?_
                    refine sat_wc ?_
                    refine c_seq ?_
                    refine c_block ?_
                    refine c_region ?_
                    refine o_v (v_move rfl) rfl ?_
                    refine o_v (v_move rfl) rfl ?_
                    refine o_v (v_indexAddr_s (xs := us) (enc := eWV) sl23 rfl rfl (.r 0 _ rfl) hin) rfl ?_
                    refine o_v (v_fieldAddr (v := .pointer (some ⟨blkA sa1, offA sa1 + ((i : Int).toNat * 11 + 2), none⟩)) rfl (fun _ => by kernel_rfl)) rfl ?_
                    refine o_load_s (i := (i : Int)) (j := 2) (ds := [.own x.a x.n x.c]) (xs := us) (enc := eWV) ty30 rfl (.r 0 _ rfl) hin (by rw [hat]; rfl) rfl rfl rfl rfl rfl ?_
                    refine o_v (v_move rfl) rfl ?_
                    refine o_v (v_indexAddr_s (xs := bytes) (enc := eU8) sl30 rfl rfl (.r 1 _ rfl) hqin) rfl ?_
                    refine o_store_s (xs := bytes) (enc := eU8) 1 (99 : Int) rfl ty5 rfl rfl rfl rfl hqin (.s (d := .int .u8 99) rfl .nil) rfl rfl rfl ?_
                    refine o_nil ?_
                    refine sat_wc ?_
                    refine c_region ?_
                    refine o_v (v_move rfl) rfl ?_
                    refine o_v (v_bin rfl rfl rfl) rfl ?_
                    refine o_v (v_assign rfl) rfl ?_
                    refine o_nil ?_
                    intro a w hs
                    refine ⟨j2 - 1, by omega, q + 1, set_ bytes (q : Int) 99, by omega, by omega, by simp [set_, hbl], ?_⟩
                    rw [← wrapS (show q < x.w.Bytes.length by omega) hbmax]
                    exact st_sub (le_cons rfl (le_cons rfl (le_cons rfl (le_cons rfl (le_cons rfl le_nil))))) (List.Sublist.refl _) (fun p hp => hp) a w hs
                  · refine c_exit0 ?_
                    refine s_st ?_ (hN2 bytes)
                    exact st_sub (le_cons rfl (le_cons rfl (le_cons rfl (le_cons rfl le_nil)))) (List.Sublist.refl _) (fun p hp => hp)
              · intro bytes
                refine sat_wc ?_
                refine c_region ?_
                refine o_v (v_move rfl) rfl ?_
                refine o_v (v_move rfl) rfl ?_
                refine o_v (v_indexAddr_s (xs := us) (enc := eWV) sl23 rfl rfl (.r 0 _ rfl) hin) rfl ?_
                refine o_v (v_fieldAddr (v := .pointer (some ⟨blkA sa1, offA sa1 + ((i : Int).toNat * 11 + 0), none⟩)) rfl (fun _ => by kernel_rfl)) rfl ?_
                refine o_store_s (i := (i : Int)) (j := 0) (xs := us) (enc := eWV) 0 ⟨⟨0, x.w.Text, bytes, x.w.Set, x.w.N_, x.w.At, x.w.Line, x.w.Col⟩, x.a, x.n, x.c⟩ rfl ty3 rfl rfl rfl rfl hin (.s (d := .int .i64 0) rfl .nil) rfl rfl (by rw [hat]; rfl) ?_
                refine o_nil ?_
                refine sat_wc ?_
                refine c_region ?_
                refine o_v (v_move rfl) rfl ?_
                refine o_v (v_bin rfl rfl rfl) rfl ?_
                refine o_v (v_assign rfl) rfl ?_
                refine o_nil ?_
                intro a w hs
                refine ⟨j - 1, by omega, i + 1, set_ us (i : Int) ⟨⟨0, x.w.Text, bytes, x.w.Set, x.w.N_, x.w.At, x.w.Line, x.w.Col⟩, x.a, x.n, x.c⟩, .row (.slice x.a x.n x.c) 5 1 (bytes.map eU8) :: Hd2, by omega, by omega, by simp [set_, hul], ?_, ?_⟩
                · exact hset2 ⟨⟨0, x.w.Text, bytes, x.w.Set, x.w.N_, x.w.At, x.w.Line, x.w.Col⟩, x.a, x.n, x.c⟩
                · rw [← wrapS (show i < ws.length by omega) hmax]
                  exact st_sub (le_cons rfl (le_cons rfl (le_cons rfl (le_cons rfl le_nil)))) (List.Sublist.refl _) (fun p hp => hp) a w hs
            · refine c_exit0 ?_
              refine s_st ?_ hN1
              exact st_sub (le_cons rfl (le_cons rfl le_nil)) (List.nil_sublist _) (fun p hp => hp)
        · refine sat_wc ?_
          refine c_seq ?_
          refine c_region ?_
          refine o_v (v_move rfl) rfl ?_
          refine o_call0 call12 rfl sub_nil (tri12 k text_ v1 h3) rfl ?_
          rintro _ _ _ ⟨sa3, sn3, sc3, rfl, rfl, rfl⟩
          refine o_v (v_move rfl) rfl ?_
          refine o_v (v_extract rfl rfl) rfl ?_
          refine o_v (v_extract rfl rfl) rfl ?_
          refine o_alloc zero26 rfl rfl fun b2 => ?_
          refine o_v (v_assign rfl) rfl ?_
          refine o_store_box 0 rfl ty26 rfl rfl rfl rfl rfl rfl rfl ?_
          refine o_seq ?_
          refine c_seq ?_
          refine c_region ?_
          refine o_callSB call11 rfl lent_nil (tri11 k v4 h8) rfl ?_
          refine o_v (v_move rfl) rfl ?_
          refine o_split (t := 67) rfl (fun h11 => ?_) (fun h11 => ?_)
          · replace hF := ite_t h11 hF
            refine o_on rfl rfl ?_
            refine o_v (v_move rfl) rfl ?_
            refine o_on rfl rfl ?_
            refine o_v (v_move rfl) rfl ?_
            refine o_on rfl rfl ?_
            refine o_callSB call14 rfl (lent_r 1 rfl (lent_f 0 rfl lent_nil)) (tri14 k v1.1 v2.1 true sa3 sn3 sc3 sa2 sn2 sc2 v3 h5) rfl ?_
            refine o_v (v_pick_t rfl rfl) rfl ?_
            refine o_v (v_assign rfl) rfl ?_
            refine o_seq ?_
            refine c_ret ?_
            cases hF
            refine s_ret1 rfl (r_tmp rfl) fun a w hs => ?_
            exact fin_sel hs [] ⟨rfl, rfl, rfl⟩ rfl sub_nil
          · replace hF := ite_f h11 hF
            refine o_off rfl rfl (by decide) rfl ?_
            refine o_off rfl rfl (by decide) rfl ?_
            refine o_off rfl rfl (by decide) rfl ?_
            refine o_v (v_pick_f rfl rfl) rfl ?_
            refine o_v (v_assign rfl) rfl ?_
            refine o_seq ?_
            refine c_ret ?_
            cases hF
            refine s_ret1 rfl (r_tmp rfl) fun a w hs => ?_
            exact fin_sel hs [] ⟨rfl, rfl, rfl⟩ rfl sub_nil
end Go.Vc
