/-
  The scanner makes words whose bytes are all the call's own.
-/
import Derived.Test.YthkfffheppfieaaDA
set_option linter.unusedVariables false
set_option linter.unusedSimpArgs false
set_option maxRecDepth 8000
set_option maxHeartbeats 2000000
namespace Go.Vc
open Go Go.Proofs
theorem scan_d (k : Nat) (text_ : List UInt8) (r : List Word × Fault) (hF : F.words.Scan k text_ = some r) :
    Tri Try.prog 12 [.string (bs text_)] [] [] (fun o H Φ => ∃ (ws : List WV) (sa7 : Option Addr) (sn7 sc7 : Nat), ws.map WV.w = r.1 ∧ o = .ret (.tuple #[.slice sa7 sn7 sc7, .agg #[.int .i64 r.2.At, .int .i64 r.2.Code]]) ∧ H = .row (.slice sa7 sn7 sc7) 35 11 (ws.map eWV) :: ws.map rwW ∧ Φ = []) := by
  unfold F.words.Scan at hF
  refine tri_intro (n := 42) Try.func12 rfl Try.ntmps12 rfl fun w X => ?_
  refine c_seq ?_
  refine c_region ?_
  refine o_v (v_assign rfl) rfl ?_
  refine o_alloc zero26 rfl rfl fun b => ?_
  refine o_seq ?_
  refine c_seq ?_
  refine c_seq ?_
  refine c_region ?_
  refine o_v (v_move rfl) rfl ?_
  refine o_v (v_len_str Try.underlying9 rfl) rfl ?_
  refine o_v (v_bin rfl rfl rfl) rfl ?_
  refine o_seq ?_
  refine c_cond rfl (fun h1 => ?_) (fun h1 => ?_)
  · replace hF := ite_t h1 hF
    refine c_seq ?_
    refine c_region ?_
    refine o_v (v_build (v := .agg #[.int .i64 0, .int .i64 2]) rfl (fun _ => by kernel_rfl)) rfl ?_
    refine o_v (v_assign rfl) rfl ?_
    refine o_store_box 0 rfl ty26 rfl rfl rfl rfl rfl rfl rfl ?_
    refine o_seq ?_
    refine c_ret ?_
    cases hF
    refine s_st (st_nilrow 35 11) ?_
    refine s_ret2 rfl (r_tmp rfl) (r_cell 1 rfl ty26 rfl rfl rfl rfl) fun a w hs => ?_
    exact fin_sel hs [0] ⟨[], none, 0, 0, rfl, rfl, rfl, rfl⟩ rfl sub_nil
  · replace hF := ite_f h1 hF
    refine c_skip ?_
    refine sat_wc ?_
    refine c_seq ?_
    refine c_region ?_
    refine o_v (v_move rfl) rfl ?_
    refine o_v (v_build (v := .agg #[.string (bs text_), .int .i64 0, .int .i64 1, .int .i64 0, .slice none 0 0]) rfl (fun _ => by kernel_rfl)) rfl ?_
    refine o_box rfl rfl rfl fun b1 => ?_
    refine o_v (v_assign rfl) rfl ?_
    refine o_seq ?_
    refine c_seq ?_
    refine c_seq ?_
    refine c_region ?_
    refine o_v (v_move rfl) rfl ?_
    obtain ⟨v, h2, hF⟩ := bd hF
    refine o_st (st_nilrow 35 11) ?_
    refine o_call [1, 0] call26 rfl rfl rfl sub_nil (cap := #[]) (by rw [show (#[] : Array Value).toList = [] from rfl, List.append_nil]; exact (skip_d k (([] : List WV).map eWV) (Words_scanner.mk text_ 0 1 0 ([] : List Word)) b1 none 0 0 v h2)) rfl ?_
    rintro _ _ _ ⟨sa1, sn1, sc1, hso1, rfl, rfl, rfl⟩
    refine o_seq ?_
    obtain ⟨o1, ho1, hF⟩ := bd hF
    refine c_cut (fun E N' => ∀ (d1 : (List UInt8) × Int × Int × Int × (List Word)) (ws : List WV) (Hd : List HB) (sa3 : Option Addr) (sn3 sc3 : Nat), o1 = .done d1 → ws.map WV.w = d1.2.2.2.2 → Hd.Perm (ws.map rwW) → Sat E [(0, .string (bs text_)), (2, .slice none 0 0), (3, .pointer (some ⟨b, 0, none⟩)), (4, .pointer (some ⟨b1, 0, none⟩))] (.box b1 49 [.string (bs d1.1), .int .i64 d1.2.1, .int .i64 d1.2.2.1, .int .i64 d1.2.2.2.1, .slice sa3 sn3 sc3] :: .box b 26 [.int .i64 0, .int .i64 0] :: .row (.slice sa3 sn3 sc3) 35 11 (ws.map eWV) :: Hd) [] N') (fun N1 hN1 => ?_) ?_
    · refine c_block ?_
      refine c_loopE (fun E j a w => ∃ (text_1 : List UInt8) (at__ : Int) (line_ : Int) (top_ : Int) (out_ : List Word) (ws : List WV) (Hd : List HB) (sa2 : Option Addr) (sn2 sc2 : Nat), F.words.Scan_l1 k text_ j text_1 at__ line_ top_ out_ = some o1 ∧ ws.map WV.w = out_ ∧ Hd.Perm (ws.map rwW) ∧ St E [(0, .string (bs text_)), (2, .slice none 0 0), (3, .pointer (some ⟨b, 0, none⟩)), (4, .pointer (some ⟨b1, 0, none⟩))] (.box b1 49 [.string (bs text_1), .int .i64 at__, .int .i64 line_, .int .i64 top_, .slice sa2 sn2 sc2] :: .box b 26 [.int .i64 0, .int .i64 0] :: .row (.slice sa2 sn2 sc2) 35 11 (ws.map eWV) :: Hd) [] a w) k ?_ ?_
      · intro a w hs
        exact ⟨v.text, v.at_, v.line, v.top, v.out, [], [], sa1, sn1, sc1, ho1, hso1.symm, .refl _, st_le [0, 1, 0] (le_cons rfl (le_cons rfl (le_cons rfl (le_cons rfl le_nil)))) rfl sub_nil a w hs⟩
      · rintro j a w ⟨text_1, at__, line_, top_, out_, ws, Hd, sa2, sn2, sc2, hL1, hws, hHd, hs⟩
        cases j with
        | zero => cases hL1
        | succ j =>
          refine wc_app hs ?_
          unfold F.words.Scan_l1 at hL1
          refine c_seq ?_
          refine c_seq ?_
          refine c_region ?_
          refine o_v (v_move rfl) rfl ?_
          refine o_v (v_nilCheck rfl) rfl ?_
          refine o_v (v_fieldAddr (v := .pointer (some ⟨b1, 1, none⟩)) rfl (fun _ => by kernel_rfl)) rfl ?_
          refine o_v (v_load_box 0 ty3 rfl rfl rfl rfl rfl) rfl ?_
          refine o_v (v_move rfl) rfl ?_
          refine o_v (v_len_str Try.underlying9 rfl) rfl ?_
          refine o_v (v_bin rfl rfl rfl) rfl ?_
          refine o_seq ?_
          refine c_cond rfl (fun h3 => ?_) (fun h3 => ?_)
          · replace hL1 := ite_t h3 hL1
            refine c_skip ?_
            refine sat_wc ?_
            refine c_seq ?_
            refine c_block ?_
            refine c_seq ?_
            refine c_region ?_
            refine o_v (v_move rfl) rfl ?_
            obtain ⟨v1, h4, hL1⟩ := bd hL1
            refine o_call [0, 1] call27 rfl rfl rfl sub_nil (cap := #[]) (by rw [show (#[] : Array Value).toList = [] from rfl, List.append_nil]; exact (next_d k (Words_scanner.mk text_1 at__ line_ top_ out_) ws hws b1 sa2 sn2 sc2 v1 h4)) rfl ?_
            rintro _ _ _ ⟨ws2, new, sa4, sn4, sc4, hw2, ho2, rfl, rfl, rfl⟩
            refine o_st (st_perm (List.Perm.cons _ (List.Perm.cons _ List.perm_middle))) ?_
            refine o_alloc zero26 rfl rfl fun b2 => ?_
            refine o_store_box 0 rfl ty26 rfl rfl rfl rfl rfl rfl rfl ?_
            refine o_seq ?_
            refine c_seq ?_
            refine c_region ?_
            refine o_v (v_fieldAddr (v := .pointer (some ⟨b2, 1, none⟩)) rfl (fun _ => by kernel_rfl)) rfl ?_
            refine o_v (v_load_box 0 ty24 rfl rfl rfl rfl rfl) rfl ?_
            refine o_v (v_bin rfl rfl rfl) rfl ?_
            refine o_seq ?_
            refine c_cond rfl (fun h5 => ?_) (fun h5 => ?_)
            · replace hL1 := ite_t h5 hL1
              refine c_seq ?_
              refine c_draw (n := 3) [0, 0, 0] mixed rfl rfl ?_
              refine d_val 0 rfl pnok (by kernel_rfl) (by kernel_rfl) (by kernel_rfl) rfl (v_load_box 0 ty26 rfl rfl rfl rfl rfl) ?_
              refine d_val 1 rfl pnok (by kernel_rfl) (by kernel_rfl) (by kernel_rfl) rfl (v_assign rfl) ?_
              refine d_one 2 rfl (by kernel_rfl) ?_
              refine o_store_box 3 rfl ty26 rfl rfl rfl rfl rfl rfl rfl ?_
              refine d_next [0, 0, 0] 0 rfl rfl ?_
              refine d_done_seq (by kernel_rfl) ?_
              refine c_ret ?_
              cases hL1
              obtain rfl := lrf_ret hF
              refine s_st (st_nilrow 35 11) ?_
              refine s_ret2 rfl (r_tmp rfl) (r_cell 4 rfl ty26 rfl rfl rfl rfl) fun a w hs => ?_
              exact fin_sel hs [0] ⟨[], none, 0, 0, rfl, rfl, rfl, rfl⟩ rfl sub_nil
            · replace hL1 := ite_f h5 hL1
              refine c_skip ?_
              refine sat_wc ?_
              refine c_region ?_
              refine o_v (v_move rfl) rfl ?_
              obtain ⟨v2, h6, hL1⟩ := bd hL1
              refine o_call [1, 1] call26 rfl rfl rfl sub_nil (cap := #[]) (by rw [show (#[] : Array Value).toList = [] from rfl, List.append_nil]; exact (skip_d k (ws2.map eWV) v1.2 b1 sa4 sn4 sc4 v2 h6)) rfl ?_
              rintro _ _ _ ⟨sa5, sn5, sc5, hso2, rfl, rfl, rfl⟩
              refine o_nil ?_
              intro a w hs
              refine ⟨j, Nat.lt_succ_self j, v2.text, v2.at_, v2.line, v2.top, v2.out, ws2, new.map rwW ++ Hd, sa5, sn5, sc5, hL1, by rw [hso2, ho2], ?_, ?_⟩
              · rw [hw2, List.map_append]
                exact List.perm_append_comm.trans (hHd.append_right _)
              · exact st_sub (le_cons rfl (le_cons rfl (le_cons rfl (le_cons rfl le_nil)))) (List.Sublist.refl _) sub_nil a w (st_perm (List.Perm.cons _ (List.Perm.swap _ _ _)) a w (w_weaken (fun _ _ h => h) (List.Sublist.cons_cons _ (List.Sublist.cons_cons _ (List.Sublist.cons _ (List.Sublist.refl _)))) (fun p hp => hp) hs))
          · replace hL1 := ite_f h3 hL1
            refine c_exit0 ?_
            cases hL1
            refine s_st ?_ (hN1 (text_1, at__, line_, top_, out_) ws Hd sa2 sn2 sc2 rfl hws hHd)
            exact st_sub (le_cons rfl (le_cons rfl (le_cons rfl (le_cons rfl le_nil)))) (List.Sublist.refl _) sub_nil
    · intro d1 ws Hd sa3 sn3 sc3 hd hws hHd
      subst hd
      replace hF := lrf_done hF
      refine sat_wc ?_
      refine c_seq ?_
      refine c_region ?_
      refine o_v (v_move rfl) rfl ?_
      refine o_v (v_build (v := .agg #[.int .i64 7, .string (bs ([] : List UInt8)), .slice none 0 0, .int .u64 0, .int .u64 0, .int .u64 0, .int .u64 0, .int .i64 0, .int .i64 0, .int .i64 0, .int .i64 0]) rfl (fun _ => by kernel_rfl)) rfl ?_
      refine o_v (v_move rfl) rfl ?_
      refine o_v (v_nilCheck rfl) rfl ?_
      refine o_v (v_fieldAddr (v := .pointer (some ⟨b1, 1, none⟩)) rfl (fun _ => by kernel_rfl)) rfl ?_
      refine o_v (v_load_box 0 ty3 rfl rfl rfl rfl rfl) rfl ?_
      obtain ⟨v3, h7, hF⟩ := bd hF
      refine o_call [0, 1] call28 rfl rfl rfl sub_nil (cap := #[]) (by rw [show (#[] : Array Value).toList = [] from rfl, List.append_nil]; exact (put_d (Words_scanner.mk d1.1 d1.2.1 d1.2.2.1 d1.2.2.2.1 d1.2.2.2.2) ws hws (Word.mk 7 ([] : List UInt8) ([] : List Int) (S4.mk 0 0 0 0) 0 0 0 0) d1.2.1 b1 sa3 sn3 sc3 none 0 0 v3 h7)) rfl ?_
      rintro _ _ _ ⟨nw, ws2, sa6, sn6, sc6, hw2, ho2, hb2, rfl, rfl, rfl⟩
      refine o_seq ?_
      refine c_seq ?_
      refine c_region ?_
      refine o_v (v_move rfl) rfl ?_
      refine o_v (v_nilCheck rfl) rfl ?_
      refine o_v (v_fieldAddr (v := .pointer (some ⟨b1, 4, none⟩)) rfl (fun _ => by kernel_rfl)) rfl ?_
      refine o_v (v_load_box 0 ty23 rfl rfl rfl rfl rfl) rfl ?_
      refine o_v (v_build (v := .agg #[.int .i64 0, .int .i64 0]) rfl (fun _ => by kernel_rfl)) rfl ?_
      refine o_v (v_assign rfl) rfl ?_
      refine o_store_box 2 rfl ty26 rfl rfl rfl rfl rfl rfl rfl ?_
      refine o_seq ?_
      refine c_ret ?_
      cases hF
      refine s_ret2 rfl (r_tmp rfl) (r_cell 2 rfl ty26 rfl rfl rfl rfl) fun a w hs => ?_
      refine fin_intro (st_nilrow 5 1 a w hs) (H' := .row (.slice sa6 sn6 sc6) 35 11 (ws2.map eWV) :: ws2.map rwW) (H'' := .row (.slice none 0 0) 5 1 [] :: .row (.slice sa6 sn6 sc6) 35 11 (ws2.map eWV) :: Hd) ⟨ws2, sa6, sn6, sc6, ho2.symm, rfl, rfl, rfl⟩ (List.Sublist.cons_cons _ (List.Sublist.cons _ (List.Sublist.cons_cons _ (List.Sublist.cons _ (List.Sublist.refl _))))) ?_ sub_nil
      refine (List.Perm.swap _ _ _).trans (List.Perm.cons _ ?_)
      rw [hw2, List.map_append, List.map_cons, List.map_nil, rwW_nil hb2]
      exact (List.Perm.cons _ hHd).trans (List.perm_append_singleton _ _).symm

end Go.Vc
