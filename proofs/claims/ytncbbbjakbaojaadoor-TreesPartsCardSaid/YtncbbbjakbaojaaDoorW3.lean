import Derived.Test.YtncbbbjakbaojaaDoorW2
set_option linter.unusedVariables false
set_option linter.unusedSimpArgs false
set_option maxRecDepth 8000
set_option maxHeartbeats 2000000
namespace Go.Vc
open Go Go.Proofs
theorem tri35 (k : Nat) (a_ : List Run) (b : List Run) (sa1 : Option Addr) (sn1 sc1 : Nat) (sa2 : Option Addr) (sn2 sc2 : Nat) (r : Bool) (hF : F.ref01.SameRuns k a_ b = some r) :
    Tri Tryd.prog 35 [.slice sa1 sn1 sc1, .slice sa2 sn2 sc2] [] [(.slice sa1 sn1 sc1, .slice 2 (a_.map eRun)), (.slice sa2 sn2 sc2, .slice 2 (b.map eRun))] (fun o H Φ => o = .ret (.bool r) ∧ H = [] ∧ Φ = []) := by
  unfold F.ref01.SameRuns at hF
  refine tri_intro (n := 26) Tryd.func35 rfl Tryd.ntmps35 rfl fun w X => ?_
  refine c_seq ?_
  refine c_region ?_
  refine o_v (v_assign rfl) rfl ?_
  refine o_seq ?_
  refine c_seq ?_
  refine c_seq ?_
  refine c_region ?_
  refine o_v (v_move rfl) rfl ?_
  refine o_v (v_lenS (enc := eRun) a_ sl56 rfl (.f 0 rfl)) rfl ?_
  refine o_v (v_move rfl) rfl ?_
  refine o_v (v_lenS (enc := eRun) b sl56 rfl (.f 1 rfl)) rfl ?_
  refine o_v (v_bin rfl rfl rfl) rfl ?_
  refine o_seq ?_
  refine c_cond rfl (fun h1 => ?_) (fun h1 => ?_)
  · replace hF := ite_t h1 hF
    refine c_seq ?_
    refine c_region ?_
    refine o_v (v_assign rfl) rfl ?_
    refine o_seq ?_
    refine c_ret ?_
    cases hF
    refine s_ret1 rfl (r_tmp rfl) fun a w hs => ?_
    exact fin_sel hs [] ⟨rfl, rfl, rfl⟩ rfl sub_nil
  · replace hF := ite_f h1 hF
    refine c_skip ?_
    refine sat_wc ?_
    refine c_seq ?_
    refine c_seq ?_
    refine c_region ?_
    refine o_v (v_assign rfl) rfl ?_
    refine o_seq ?_
    obtain ⟨o1, ho1, hF⟩ := bd hF
    refine c_cut (fun E N' => ∀ (d1 : Unit), o1 = .done d1 → Sat E [(0, .slice sa1 sn1 sc1), (1, .slice sa2 sn2 sc2), (4, .bool false)] [] [(.slice sa1 sn1 sc1, .slice 2 (a_.map eRun)), (.slice sa2 sn2 sc2, .slice 2 (b.map eRun))] N') (fun N1 hN1 => ?_) ?_
    · refine c_block ?_
      refine c_loopE (fun E j a w => ∃ (i : Int), F.ref01.SameRuns_l1 a_ b j i = some o1 ∧ St E [(0, .slice sa1 sn1 sc1), (1, .slice sa2 sn2 sc2), (4, .bool false), (5, .int .i64 i)] [] [(.slice sa1 sn1 sc1, .slice 2 (a_.map eRun)), (.slice sa2 sn2 sc2, .slice 2 (b.map eRun))] a w) k ?_ ?_
      · intro a w hs
        exact ⟨0, ho1, st_le [] (le_cons rfl (le_cons rfl (le_cons rfl (le_cons rfl le_nil)))) rfl (sub_cons 0 rfl (sub_cons 1 rfl sub_nil)) a w hs⟩
      · rintro j a w ⟨i, hL1, hs⟩
        cases j with
        | zero => cases hL1
        | succ j =>
          refine wc_app hs ?_
          unfold F.ref01.SameRuns_l1 at hL1
          refine c_seq ?_
          refine c_seq ?_
          refine c_region ?_
          refine o_v (v_move rfl) rfl ?_
          refine o_v (v_move rfl) rfl ?_
          refine o_v (v_lenS (enc := eRun) a_ sl56 rfl (.f 0 rfl)) rfl ?_
          refine o_v (v_bin rfl rfl rfl) rfl ?_
          refine o_seq ?_
          refine c_cond rfl (fun h2 => ?_) (fun h2 => ?_)
          · replace hL1 := ite_t h2 hL1
            refine c_skip ?_
            refine sat_wc ?_
            refine c_seq ?_
            refine c_block ?_
            refine c_seq ?_
            refine c_draw (n := 9) [] mixed rfl rfl ?_
            refine d_val 0 rfl pnok (by kernel_rfl) (by kernel_rfl) (by kernel_rfl) rfl (v_move rfl) ?_
            refine d_val 1 rfl pnok (by kernel_rfl) (by kernel_rfl) (by kernel_rfl) rfl (v_move rfl) ?_
            refine ite_some hL1 fun h3 hL1 => ?_
            refine d_val 2 rfl pnok (by kernel_rfl) (by kernel_rfl) (by kernel_rfl) rfl (v_indexAddr_s (xs := a_) (enc := eRun) sl56 rfl rfl (.f 0 rfl) h3) ?_
            refine d_val 3 rfl pnok (by kernel_rfl) (by kernel_rfl) (by kernel_rfl) rfl (v_load_s (xs := a_) (enc := eRun) ty62 rfl (.f 0 rfl) h3 rfl rfl rfl rfl rfl rfl rfl) ?_
            refine d_val 4 rfl pnok (by kernel_rfl) (by kernel_rfl) (by kernel_rfl) rfl (v_move rfl) ?_
            refine d_val 5 rfl pnok (by kernel_rfl) (by kernel_rfl) (by kernel_rfl) rfl (v_move rfl) ?_
            refine ite_some hL1 fun h4 hL1 => ?_
            refine d_val 6 rfl pnok (by kernel_rfl) (by kernel_rfl) (by kernel_rfl) rfl (v_indexAddr_s (xs := b) (enc := eRun) sl56 rfl rfl (.f 1 rfl) h4) ?_
            refine d_val 7 rfl pnok (by kernel_rfl) (by kernel_rfl) (by kernel_rfl) rfl (v_load_s (xs := b) (enc := eRun) ty62 rfl (.f 1 rfl) h4 rfl rfl rfl rfl rfl rfl rfl) ?_
            refine d_val 8 rfl pnok (by kernel_rfl) (by kernel_rfl) (by kernel_rfl) rfl (v_agne 2 rfl rfl (eq62 ((at_ a_ i).Lo) ((at_ a_ i).Hi) ((at_ b i).Lo) ((at_ b i).Hi)) rfl guard62) ?_
            refine d_done_seq (by kernel_rfl) ?_
            refine c_cond rfl (fun h5 => ?_) (fun h5 => ?_)
            · replace hL1 := ite_t h5 hL1
              refine c_seq ?_
              refine c_region ?_
              refine o_v (v_assign rfl) rfl ?_
              refine o_seq ?_
              refine c_ret ?_
              cases hL1
              obtain rfl := lrf_ret hF
              refine s_ret1 rfl (r_tmp rfl) fun a w hs => ?_
              exact fin_sel hs [] ⟨rfl, rfl, rfl⟩ rfl sub_nil
            · replace hL1 := ite_f h5 hL1
              refine c_skip ?_
              refine sat_wc ?_
              refine c_region ?_
              refine o_v (v_move rfl) rfl ?_
              refine o_v (v_bin rfl rfl rfl) rfl ?_
              refine o_v (v_assign rfl) rfl ?_
              refine o_nil ?_
              intro a w hs
              exact ⟨j, Nat.lt_succ_self j, IntKind.wrap .i64 (i + 1), hL1, st_le [] (le_cons rfl (le_cons rfl (le_cons rfl (le_cons rfl le_nil)))) rfl (sub_cons 0 rfl (sub_cons 1 rfl sub_nil)) a w hs⟩
          · replace hL1 := ite_f h2 hL1
            refine c_exit0 ?_
            cases hL1
            refine s_st ?_ (hN1 () rfl)
            exact st_le [] (le_cons rfl (le_cons rfl (le_cons rfl le_nil))) rfl (sub_cons 0 rfl (sub_cons 1 rfl sub_nil))
    · intro d1 hd
      subst hd
      replace hF := lrf_done hF
      refine sat_wc ?_
      refine c_seq ?_
      refine c_region ?_
      refine o_v (v_assign rfl) rfl ?_
      refine o_seq ?_
      refine c_ret ?_
      cases hF
      refine s_ret1 rfl (r_tmp rfl) fun a w hs => ?_
      exact fin_sel hs [] ⟨rfl, rfl, rfl⟩ rfl sub_nil
theorem tri11 (k : Nat) (t : Tree) (sa1 : Option Addr) (sn1 sc1 : Nat) (r : Bool) (hF : F.law09.TreesTell k t = some r) :
    Tri Tryd.prog 11 [.agg #[.int .i64 t.Rule, .int .u8 t.Byte, .slice sa1 sn1 sc1]] [] [gf10 0, (.slice sa1 sn1 sc1, .slice 3 (t.Kids.map eTree))] (fun o H Φ => o = .ret (.bool r) ∧ H = [] ∧ Φ = []) := by
  unfold F.law09.TreesTell at hF
  refine tri_intro (n := 49) Tryd.func11 rfl Tryd.ntmps11 rfl fun w X => ?_
  refine c_seq ?_
  refine c_region ?_
  refine o_box rfl rfl rfl fun b => ?_
  refine o_v (v_assign rfl) rfl ?_
  refine o_seq ?_
  refine c_seq ?_
  refine c_seq ?_
  refine c_region ?_
  refine o_v (v_load_box 0 ty27 rfl rfl rfl rfl rfl) rfl ?_
  obtain ⟨v, h1, hF⟩ := bd hF
  refine o_callSB call13 rfl (lent_f 1 rfl lent_nil) (tri13 k t sa1 sn1 sc1 v h1) rfl ?_
  refine o_seq ?_
  refine c_cond rfl (fun h2 => ?_) (fun h2 => ?_)
  · replace hF := ite_t h2 hF
    refine c_seq ?_
    refine c_region ?_
    obtain ⟨v1, h3, hF⟩ := bd hF
    refine o_callSB call15 rfl (lent_f 0 rfl lent_nil) (tri15 k v1 h3) rfl ?_
    refine o_v (v_assign rfl) rfl ?_
    refine o_seq ?_
    refine c_ret ?_
    cases hF
    refine s_ret1 rfl (r_tmp rfl) fun a w hs => ?_
    exact fin_sel hs [] ⟨rfl, rfl, rfl⟩ rfl sub_nil
  · replace hF := ite_f h2 hF
    refine c_skip ?_
    refine sat_wc ?_
    refine c_seq ?_
    refine c_region ?_
    refine o_v (v_load_box 0 ty27 rfl rfl rfl rfl rfl) rfl ?_
    obtain ⟨v2, h4, hF⟩ := bd hF
    refine o_callSB call30 rfl (lent_f 1 rfl lent_nil) (tri30 k t sa1 sn1 sc1 v2 h4) rfl ?_
    refine o_v (v_move rfl) rfl ?_
    refine o_v (v_extract rfl rfl) rfl ?_
    refine o_v (v_extract rfl rfl) rfl ?_
    refine o_v (v_assign rfl) rfl ?_
    refine o_v (v_assign rfl) rfl ?_
    refine o_seq ?_
    refine c_seq ?_
    refine c_region ?_
    refine o_v (v_load_box 0 ty27 rfl rfl rfl rfl rfl) rfl ?_
    obtain ⟨v3, h5, hF⟩ := bd hF
    refine o_callSB call31 rfl (lent_f 1 rfl lent_nil) (tri31 k t sa1 sn1 sc1 v3 h5) rfl ?_
    refine o_v (v_move rfl) rfl ?_
    refine o_v (v_extract rfl rfl) rfl ?_
    refine o_v (v_extract rfl rfl) rfl ?_
    refine o_v (v_assign rfl) rfl ?_
    refine o_v (v_assign rfl) rfl ?_
    refine o_seq ?_
    refine c_seq ?_
    refine c_region ?_
    refine o_v (v_load_box 0 ty27 rfl rfl rfl rfl rfl) rfl ?_
    obtain ⟨v4, h6, hF⟩ := bd hF
    refine o_call0 call32 rfl (sub_cons 1 rfl sub_nil) (tri32 k t sa1 sn1 sc1 v4 h6) rfl ?_
    rintro _ _ _ ⟨sa2, sn2, sc2, rfl, rfl, rfl⟩
    refine o_v (v_assign rfl) rfl ?_
    refine o_seq ?_
    refine c_seq ?_
    refine c_cut (fun E N' => ∀ (t2 : Bool), F.law09.TreesTell_j1 t2 = some r → Sat E [(0, .agg #[.int .i64 t.Rule, .int .u8 t.Byte, .slice sa1 sn1 sc1]), (1, .pointer (some ⟨b, 0, none⟩)), (2, .bool t2)] [.box b 27 [.int .i64 t.Rule, .int .u8 t.Byte, .slice sa1 sn1 sc1]] [gf10 0, (.slice sa1 sn1 sc1, .slice 3 (t.Kids.map eTree))] N') (fun N1 hN1 => ?_) ?_
    · refine c_draw (n := 27) [0, 0] mixed rfl rfl ?_
      refine d_one 0 rfl (by kernel_rfl) ?_
      obtain ⟨v5, h7, hF⟩ := bd hF
      refine o_callSB call15 rfl (lent_f 0 rfl lent_nil) (tri15 k v5 h7) rfl ?_
      refine d_next [0, 0] 0 rfl rfl ?_
      refine d_val 1 rfl pnok (by kernel_rfl) (by kernel_rfl) (by kernel_rfl) rfl (v_move rfl) ?_
      refine d_split (t := 24) rfl (fun h8 => ?_) (fun h8 => ?_)
      · replace hF := ite_t h8 hF
        refine d_val_on 2 rfl rfl rfl pnok (by kernel_rfl) (by kernel_rfl) (by kernel_rfl) rfl (v_move rfl) ?_
        refine d_val_on 3 rfl rfl rfl pnok (by kernel_rfl) (by kernel_rfl) (by kernel_rfl) rfl (v_move rfl) ?_
        refine d_val_on 4 rfl rfl rfl pnok (by kernel_rfl) (by kernel_rfl) (by kernel_rfl) rfl (v_bin rfl rfl rfl) ?_
        refine d_val 5 rfl pnok (by kernel_rfl) (by kernel_rfl) (by kernel_rfl) rfl (v_pick_t rfl rfl) ?_
        refine d_val 6 rfl pnok (by kernel_rfl) (by kernel_rfl) (by kernel_rfl) rfl (v_move rfl) ?_
        refine d_split (t := 29) rfl (fun h9 => ?_) (fun h9 => ?_)
        · replace hF := ite_t h9 hF
          refine d_val_on 7 rfl rfl rfl pnok (by kernel_rfl) (by kernel_rfl) (by kernel_rfl) rfl (v_move rfl) ?_
          refine d_val_on 8 rfl rfl rfl pnok (by kernel_rfl) (by kernel_rfl) (by kernel_rfl) rfl (v_move rfl) ?_
          refine d_val_on 9 rfl rfl rfl pnok (by kernel_rfl) (by kernel_rfl) (by kernel_rfl) rfl (v_bin rfl rfl rfl) ?_
          refine d_val 10 rfl pnok (by kernel_rfl) (by kernel_rfl) (by kernel_rfl) rfl (v_pick_t rfl rfl) ?_
          refine d_val 11 rfl pnok (by kernel_rfl) (by kernel_rfl) (by kernel_rfl) rfl (v_move rfl) ?_
          refine d_split (t := 34) rfl (fun h10 => ?_) (fun h10 => ?_)
          · replace hF := ite_t h10 hF
            refine d_val_on 12 rfl rfl rfl pnok (by kernel_rfl) (by kernel_rfl) (by kernel_rfl) rfl (v_load_box 1 ty27 rfl rfl rfl rfl rfl) ?_
            refine d_val_on 15 rfl rfl rfl pnok (by kernel_rfl) (by kernel_rfl) (by kernel_rfl) rfl (v_load_box 1 ty27 rfl rfl rfl rfl rfl) ?_
            refine d_one 13 rfl (by kernel_rfl) ?_
            refine o_on rfl rfl ?_
            obtain ⟨v6, h11, hF⟩ := bd hF
            refine o_call0 call33 rfl (sub_cons 1 rfl sub_nil) (tri33 k t sa1 sn1 sc1 v6 h11) rfl ?_
            rintro _ _ _ ⟨sa3, sn3, sc3, rfl, rfl, rfl⟩
            refine d_next [1, 1] 0 rfl rfl ?_
            refine d_all [14, 16] (by kernel_rfl) (by simp) ⟨⟨_, rfl, ?_⟩, ⟨_, rfl, ?_⟩, trivial⟩
            · refine o_on rfl rfl ?_
              refine o_v (v_bytesStr sl58 Tryd.underlying5 Tryd.underlying9 rfl (.r 0 _ rfl)) rfl ?_
              refine d_next [1, 1] 0 rfl rfl ?_
              refine d_one 16 rfl (by kernel_rfl) ?_
              refine o_on rfl rfl ?_
              obtain ⟨v7, h12, hF⟩ := bd hF
              refine o_call0 call34 rfl (sub_cons 1 rfl sub_nil) (tri34 k t sa1 sn1 sc1 v7 h12) rfl ?_
              rintro _ _ _ ⟨sa4, sn4, sc4, rfl, rfl, rfl⟩
              refine d_next [2, 2] 0 rfl rfl ?_
              refine d_one 17 rfl (by kernel_rfl) ?_
              refine o_on rfl rfl ?_
              refine o_v (v_bytesStr sl58 Tryd.underlying5 Tryd.underlying9 rfl (.r 0 _ rfl)) rfl ?_
              refine d_next [2, 2] 0 rfl rfl ?_
              refine d_val_on 18 rfl rfl rfl pnok (by kernel_rfl) (by kernel_rfl) (by kernel_rfl) rfl (v_streq rfl rfl) ?_
              refine d_val 19 rfl pnok (by kernel_rfl) (by kernel_rfl) (by kernel_rfl) rfl (v_pick_t rfl rfl) ?_
              refine d_val 20 rfl pnok (by kernel_rfl) (by kernel_rfl) (by kernel_rfl) rfl (v_move rfl) ?_
              refine d_split (t := 43) rfl (fun h13 => ?_) (fun h13 => ?_)
              · replace hF := ite_t h13 hF
                refine d_val_on 21 rfl rfl rfl pnok (by kernel_rfl) (by kernel_rfl) (by kernel_rfl) rfl (v_move rfl) ?_
                refine d_val_on 22 rfl rfl rfl pnok (by kernel_rfl) (by kernel_rfl) (by kernel_rfl) rfl (v_load_box 1 ty27 rfl rfl rfl rfl rfl) ?_
                refine d_one 23 rfl (by kernel_rfl) ?_
                refine o_on rfl rfl ?_
                obtain ⟨v8, h14, hF⟩ := bd hF
                refine o_call0 call36 rfl (sub_cons 1 rfl sub_nil) (tri36 k t sa1 sn1 sc1 v8 h14) rfl ?_
                rintro _ _ _ ⟨sa5, sn5, sc5, rfl, rfl, rfl⟩
                refine d_next [3, 3] 0 rfl rfl ?_
                refine d_one 24 rfl (by kernel_rfl) ?_
                refine o_on rfl rfl ?_
                obtain ⟨v9, h15, hF⟩ := bd hF
                refine o_callSB call35 rfl (lent_r 3 rfl (lent_r 0 rfl lent_nil)) (tri35 k v4 v8 sa2 sn2 sc2 sa5 sn5 sc5 v9 h15) rfl ?_
                refine d_next [3, 3] 0 rfl rfl ?_
                refine d_val 25 rfl pnok (by kernel_rfl) (by kernel_rfl) (by kernel_rfl) rfl (v_pick_t rfl rfl) ?_
                refine d_val 26 rfl pnok (by kernel_rfl) (by kernel_rfl) (by kernel_rfl) rfl (v_assign rfl) ?_
                refine d_done (by kernel_rfl) ?_
                refine s_st ?_ (hN1 v9 hF)
                exact st_le [4] (le_cons rfl (le_cons rfl (le_cons rfl le_nil))) rfl (sub_cons 0 rfl (sub_cons 1 rfl sub_nil))
              · replace hF := ite_f h13 hF
                refine d_off 21 rfl rfl rfl (by decide) pnok (by kernel_rfl) (by kernel_rfl) (by kernel_rfl) rfl ?_
                refine d_off 22 rfl rfl rfl (by decide) pnok (by kernel_rfl) (by kernel_rfl) (by kernel_rfl) rfl ?_
                refine d_off 23 rfl rfl rfl (by decide) pnok (by kernel_rfl) (by kernel_rfl) (by kernel_rfl) rfl ?_
                refine d_off 24 rfl rfl rfl (by decide) pnok (by kernel_rfl) (by kernel_rfl) (by kernel_rfl) rfl ?_
                refine d_val 25 rfl pnok (by kernel_rfl) (by kernel_rfl) (by kernel_rfl) rfl (v_pick_f rfl rfl) ?_
                refine d_val 26 rfl pnok (by kernel_rfl) (by kernel_rfl) (by kernel_rfl) rfl (v_assign rfl) ?_
                refine d_done (by kernel_rfl) ?_
                refine s_st ?_ (hN1 false hF)
                exact st_le [3] (le_cons rfl (le_cons rfl (le_cons rfl le_nil))) rfl (sub_cons 0 rfl (sub_cons 1 rfl sub_nil))
            · refine o_on rfl rfl ?_
              obtain ⟨v7, h12, hF⟩ := bd hF
              refine o_call0 call34 rfl (sub_cons 1 rfl sub_nil) (tri34 k t sa1 sn1 sc1 v7 h12) rfl ?_
              rintro _ _ _ ⟨sa4, sn4, sc4, rfl, rfl, rfl⟩
              refine d_next [2, 2] 0 rfl rfl ?_
              refine d_all [14, 17] (by kernel_rfl) (by simp) ⟨⟨_, rfl, ?_⟩, ⟨_, rfl, ?_⟩, trivial⟩
              · refine o_on rfl rfl ?_
                refine o_v (v_bytesStr sl58 Tryd.underlying5 Tryd.underlying9 rfl (.r 1 _ rfl)) rfl ?_
                refine d_next [2, 2] 0 rfl rfl ?_
                refine d_one 17 rfl (by kernel_rfl) ?_
                refine o_on rfl rfl ?_
                refine o_v (v_bytesStr sl58 Tryd.underlying5 Tryd.underlying9 rfl (.r 0 _ rfl)) rfl ?_
                refine d_next [2, 2] 0 rfl rfl ?_
                refine d_val_on 18 rfl rfl rfl pnok (by kernel_rfl) (by kernel_rfl) (by kernel_rfl) rfl (v_streq rfl rfl) ?_
                refine d_val 19 rfl pnok (by kernel_rfl) (by kernel_rfl) (by kernel_rfl) rfl (v_pick_t rfl rfl) ?_
                refine d_val 20 rfl pnok (by kernel_rfl) (by kernel_rfl) (by kernel_rfl) rfl (v_move rfl) ?_
                refine d_split (t := 43) rfl (fun h13 => ?_) (fun h13 => ?_)
                · replace hF := ite_t h13 hF
                  refine d_val_on 21 rfl rfl rfl pnok (by kernel_rfl) (by kernel_rfl) (by kernel_rfl) rfl (v_move rfl) ?_
                  refine d_val_on 22 rfl rfl rfl pnok (by kernel_rfl) (by kernel_rfl) (by kernel_rfl) rfl (v_load_box 1 ty27 rfl rfl rfl rfl rfl) ?_
                  refine d_one 23 rfl (by kernel_rfl) ?_
                  refine o_on rfl rfl ?_
                  obtain ⟨v8, h14, hF⟩ := bd hF
                  refine o_call0 call36 rfl (sub_cons 1 rfl sub_nil) (tri36 k t sa1 sn1 sc1 v8 h14) rfl ?_
                  rintro _ _ _ ⟨sa5, sn5, sc5, rfl, rfl, rfl⟩
                  refine d_next [3, 3] 0 rfl rfl ?_
                  refine d_one 24 rfl (by kernel_rfl) ?_
                  refine o_on rfl rfl ?_
                  obtain ⟨v9, h15, hF⟩ := bd hF
                  refine o_callSB call35 rfl (lent_r 3 rfl (lent_r 0 rfl lent_nil)) (tri35 k v4 v8 sa2 sn2 sc2 sa5 sn5 sc5 v9 h15) rfl ?_
                  refine d_next [3, 3] 0 rfl rfl ?_
                  refine d_val 25 rfl pnok (by kernel_rfl) (by kernel_rfl) (by kernel_rfl) rfl (v_pick_t rfl rfl) ?_
                  refine d_val 26 rfl pnok (by kernel_rfl) (by kernel_rfl) (by kernel_rfl) rfl (v_assign rfl) ?_
                  refine d_done (by kernel_rfl) ?_
                  refine s_st ?_ (hN1 v9 hF)
                  exact st_le [4] (le_cons rfl (le_cons rfl (le_cons rfl le_nil))) rfl (sub_cons 0 rfl (sub_cons 1 rfl sub_nil))
                · replace hF := ite_f h13 hF
                  refine d_off 21 rfl rfl rfl (by decide) pnok (by kernel_rfl) (by kernel_rfl) (by kernel_rfl) rfl ?_
                  refine d_off 22 rfl rfl rfl (by decide) pnok (by kernel_rfl) (by kernel_rfl) (by kernel_rfl) rfl ?_
                  refine d_off 23 rfl rfl rfl (by decide) pnok (by kernel_rfl) (by kernel_rfl) (by kernel_rfl) rfl ?_
                  refine d_off 24 rfl rfl rfl (by decide) pnok (by kernel_rfl) (by kernel_rfl) (by kernel_rfl) rfl ?_
                  refine d_val 25 rfl pnok (by kernel_rfl) (by kernel_rfl) (by kernel_rfl) rfl (v_pick_f rfl rfl) ?_
                  refine d_val 26 rfl pnok (by kernel_rfl) (by kernel_rfl) (by kernel_rfl) rfl (v_assign rfl) ?_
                  refine d_done (by kernel_rfl) ?_
                  refine s_st ?_ (hN1 false hF)
                  exact st_le [3] (le_cons rfl (le_cons rfl (le_cons rfl le_nil))) rfl (sub_cons 0 rfl (sub_cons 1 rfl sub_nil))
              · refine o_on rfl rfl ?_
                refine o_v (v_bytesStr sl58 Tryd.underlying5 Tryd.underlying9 rfl (.r 0 _ rfl)) rfl ?_
                refine d_next [2, 2] 0 rfl rfl ?_
                refine d_one 14 rfl (by kernel_rfl) ?_
                refine o_on rfl rfl ?_
                refine o_v (v_bytesStr sl58 Tryd.underlying5 Tryd.underlying9 rfl (.r 1 _ rfl)) rfl ?_
                refine d_next [2, 2] 0 rfl rfl ?_
                refine d_val_on 18 rfl rfl rfl pnok (by kernel_rfl) (by kernel_rfl) (by kernel_rfl) rfl (v_streq rfl rfl) ?_
                refine d_val 19 rfl pnok (by kernel_rfl) (by kernel_rfl) (by kernel_rfl) rfl (v_pick_t rfl rfl) ?_
                refine d_val 20 rfl pnok (by kernel_rfl) (by kernel_rfl) (by kernel_rfl) rfl (v_move rfl) ?_
                refine d_split (t := 43) rfl (fun h13 => ?_) (fun h13 => ?_)
                · replace hF := ite_t h13 hF
                  refine d_val_on 21 rfl rfl rfl pnok (by kernel_rfl) (by kernel_rfl) (by kernel_rfl) rfl (v_move rfl) ?_
                  refine d_val_on 22 rfl rfl rfl pnok (by kernel_rfl) (by kernel_rfl) (by kernel_rfl) rfl (v_load_box 1 ty27 rfl rfl rfl rfl rfl) ?_
                  refine d_one 23 rfl (by kernel_rfl) ?_
                  refine o_on rfl rfl ?_
                  obtain ⟨v8, h14, hF⟩ := bd hF
                  refine o_call0 call36 rfl (sub_cons 1 rfl sub_nil) (tri36 k t sa1 sn1 sc1 v8 h14) rfl ?_
                  rintro _ _ _ ⟨sa5, sn5, sc5, rfl, rfl, rfl⟩
                  refine d_next [3, 3] 0 rfl rfl ?_
                  refine d_one 24 rfl (by kernel_rfl) ?_
                  refine o_on rfl rfl ?_
                  obtain ⟨v9, h15, hF⟩ := bd hF
                  refine o_callSB call35 rfl (lent_r 3 rfl (lent_r 0 rfl lent_nil)) (tri35 k v4 v8 sa2 sn2 sc2 sa5 sn5 sc5 v9 h15) rfl ?_
                  refine d_next [3, 3] 0 rfl rfl ?_
                  refine d_val 25 rfl pnok (by kernel_rfl) (by kernel_rfl) (by kernel_rfl) rfl (v_pick_t rfl rfl) ?_
                  refine d_val 26 rfl pnok (by kernel_rfl) (by kernel_rfl) (by kernel_rfl) rfl (v_assign rfl) ?_
                  refine d_done (by kernel_rfl) ?_
                  refine s_st ?_ (hN1 v9 hF)
                  exact st_le [4] (le_cons rfl (le_cons rfl (le_cons rfl le_nil))) rfl (sub_cons 0 rfl (sub_cons 1 rfl sub_nil))
                · replace hF := ite_f h13 hF
                  refine d_off 21 rfl rfl rfl (by decide) pnok (by kernel_rfl) (by kernel_rfl) (by kernel_rfl) rfl ?_
                  refine d_off 22 rfl rfl rfl (by decide) pnok (by kernel_rfl) (by kernel_rfl) (by kernel_rfl) rfl ?_
                  refine d_off 23 rfl rfl rfl (by decide) pnok (by kernel_rfl) (by kernel_rfl) (by kernel_rfl) rfl ?_
                  refine d_off 24 rfl rfl rfl (by decide) pnok (by kernel_rfl) (by kernel_rfl) (by kernel_rfl) rfl ?_
                  refine d_val 25 rfl pnok (by kernel_rfl) (by kernel_rfl) (by kernel_rfl) rfl (v_pick_f rfl rfl) ?_
                  refine d_val 26 rfl pnok (by kernel_rfl) (by kernel_rfl) (by kernel_rfl) rfl (v_assign rfl) ?_
                  refine d_done (by kernel_rfl) ?_
                  refine s_st ?_ (hN1 false hF)
                  exact st_le [3] (le_cons rfl (le_cons rfl (le_cons rfl le_nil))) rfl (sub_cons 0 rfl (sub_cons 1 rfl sub_nil))
          · replace hF := ite_f h10 hF
            refine d_off 12 rfl rfl rfl (by decide) pnok (by kernel_rfl) (by kernel_rfl) (by kernel_rfl) rfl ?_
            refine d_off 13 rfl rfl rfl (by decide) pnok (by kernel_rfl) (by kernel_rfl) (by kernel_rfl) rfl ?_
            refine d_off 14 rfl rfl rfl (by decide) pnok (by kernel_rfl) (by kernel_rfl) (by kernel_rfl) rfl ?_
            refine d_off 15 rfl rfl rfl (by decide) pnok (by kernel_rfl) (by kernel_rfl) (by kernel_rfl) rfl ?_
            refine d_off 16 rfl rfl rfl (by decide) pnok (by kernel_rfl) (by kernel_rfl) (by kernel_rfl) rfl ?_
            refine d_off 17 rfl rfl rfl (by decide) pnok (by kernel_rfl) (by kernel_rfl) (by kernel_rfl) rfl ?_
            refine d_off 18 rfl rfl rfl (by decide) pnok (by kernel_rfl) (by kernel_rfl) (by kernel_rfl) rfl ?_
            refine d_val 19 rfl pnok (by kernel_rfl) (by kernel_rfl) (by kernel_rfl) rfl (v_pick_f rfl rfl) ?_
            refine d_val 20 rfl pnok (by kernel_rfl) (by kernel_rfl) (by kernel_rfl) rfl (v_move rfl) ?_
            refine d_off 21 rfl rfl rfl (by decide) pnok (by kernel_rfl) (by kernel_rfl) (by kernel_rfl) rfl ?_
            refine d_off 22 rfl rfl rfl (by decide) pnok (by kernel_rfl) (by kernel_rfl) (by kernel_rfl) rfl ?_
            refine d_off 23 rfl rfl rfl (by decide) pnok (by kernel_rfl) (by kernel_rfl) (by kernel_rfl) rfl ?_
            refine d_off 24 rfl rfl rfl (by decide) pnok (by kernel_rfl) (by kernel_rfl) (by kernel_rfl) rfl ?_
            refine d_val 25 rfl pnok (by kernel_rfl) (by kernel_rfl) (by kernel_rfl) rfl (v_pick_f rfl rfl) ?_
            refine d_val 26 rfl pnok (by kernel_rfl) (by kernel_rfl) (by kernel_rfl) rfl (v_assign rfl) ?_
            refine d_done (by kernel_rfl) ?_
            refine s_st ?_ (hN1 false hF)
            exact st_le [1] (le_cons rfl (le_cons rfl (le_cons rfl le_nil))) rfl (sub_cons 0 rfl (sub_cons 1 rfl sub_nil))
        · replace hF := ite_f h9 hF
          refine d_off 7 rfl rfl rfl (by decide) pnok (by kernel_rfl) (by kernel_rfl) (by kernel_rfl) rfl ?_
          refine d_off 8 rfl rfl rfl (by decide) pnok (by kernel_rfl) (by kernel_rfl) (by kernel_rfl) rfl ?_
          refine d_off 9 rfl rfl rfl (by decide) pnok (by kernel_rfl) (by kernel_rfl) (by kernel_rfl) rfl ?_
          refine d_val 10 rfl pnok (by kernel_rfl) (by kernel_rfl) (by kernel_rfl) rfl (v_pick_f rfl rfl) ?_
          refine d_val 11 rfl pnok (by kernel_rfl) (by kernel_rfl) (by kernel_rfl) rfl (v_move rfl) ?_
          refine d_off 12 rfl rfl rfl (by decide) pnok (by kernel_rfl) (by kernel_rfl) (by kernel_rfl) rfl ?_
          refine d_off 13 rfl rfl rfl (by decide) pnok (by kernel_rfl) (by kernel_rfl) (by kernel_rfl) rfl ?_
          refine d_off 14 rfl rfl rfl (by decide) pnok (by kernel_rfl) (by kernel_rfl) (by kernel_rfl) rfl ?_
          refine d_off 15 rfl rfl rfl (by decide) pnok (by kernel_rfl) (by kernel_rfl) (by kernel_rfl) rfl ?_
          refine d_off 16 rfl rfl rfl (by decide) pnok (by kernel_rfl) (by kernel_rfl) (by kernel_rfl) rfl ?_
          refine d_off 17 rfl rfl rfl (by decide) pnok (by kernel_rfl) (by kernel_rfl) (by kernel_rfl) rfl ?_
          refine d_off 18 rfl rfl rfl (by decide) pnok (by kernel_rfl) (by kernel_rfl) (by kernel_rfl) rfl ?_
          refine d_val 19 rfl pnok (by kernel_rfl) (by kernel_rfl) (by kernel_rfl) rfl (v_pick_f rfl rfl) ?_
          refine d_val 20 rfl pnok (by kernel_rfl) (by kernel_rfl) (by kernel_rfl) rfl (v_move rfl) ?_
          refine d_off 21 rfl rfl rfl (by decide) pnok (by kernel_rfl) (by kernel_rfl) (by kernel_rfl) rfl ?_
          refine d_off 22 rfl rfl rfl (by decide) pnok (by kernel_rfl) (by kernel_rfl) (by kernel_rfl) rfl ?_
          refine d_off 23 rfl rfl rfl (by decide) pnok (by kernel_rfl) (by kernel_rfl) (by kernel_rfl) rfl ?_
          refine d_off 24 rfl rfl rfl (by decide) pnok (by kernel_rfl) (by kernel_rfl) (by kernel_rfl) rfl ?_
          refine d_val 25 rfl pnok (by kernel_rfl) (by kernel_rfl) (by kernel_rfl) rfl (v_pick_f rfl rfl) ?_
          refine d_val 26 rfl pnok (by kernel_rfl) (by kernel_rfl) (by kernel_rfl) rfl (v_assign rfl) ?_
          refine d_done (by kernel_rfl) ?_
          refine s_st ?_ (hN1 false hF)
          exact st_le [1] (le_cons rfl (le_cons rfl (le_cons rfl le_nil))) rfl (sub_cons 0 rfl (sub_cons 1 rfl sub_nil))
      · replace hF := ite_f h8 hF
        refine d_off 2 rfl rfl rfl (by decide) pnok (by kernel_rfl) (by kernel_rfl) (by kernel_rfl) rfl ?_
        refine d_off 3 rfl rfl rfl (by decide) pnok (by kernel_rfl) (by kernel_rfl) (by kernel_rfl) rfl ?_
        refine d_off 4 rfl rfl rfl (by decide) pnok (by kernel_rfl) (by kernel_rfl) (by kernel_rfl) rfl ?_
        refine d_val 5 rfl pnok (by kernel_rfl) (by kernel_rfl) (by kernel_rfl) rfl (v_pick_f rfl rfl) ?_
        refine d_val 6 rfl pnok (by kernel_rfl) (by kernel_rfl) (by kernel_rfl) rfl (v_move rfl) ?_
        refine d_off 7 rfl rfl rfl (by decide) pnok (by kernel_rfl) (by kernel_rfl) (by kernel_rfl) rfl ?_
        refine d_off 8 rfl rfl rfl (by decide) pnok (by kernel_rfl) (by kernel_rfl) (by kernel_rfl) rfl ?_
        refine d_off 9 rfl rfl rfl (by decide) pnok (by kernel_rfl) (by kernel_rfl) (by kernel_rfl) rfl ?_
        refine d_val 10 rfl pnok (by kernel_rfl) (by kernel_rfl) (by kernel_rfl) rfl (v_pick_f rfl rfl) ?_
        refine d_val 11 rfl pnok (by kernel_rfl) (by kernel_rfl) (by kernel_rfl) rfl (v_move rfl) ?_
        refine d_off 12 rfl rfl rfl (by decide) pnok (by kernel_rfl) (by kernel_rfl) (by kernel_rfl) rfl ?_
        refine d_off 13 rfl rfl rfl (by decide) pnok (by kernel_rfl) (by kernel_rfl) (by kernel_rfl) rfl ?_
        refine d_off 14 rfl rfl rfl (by decide) pnok (by kernel_rfl) (by kernel_rfl) (by kernel_rfl) rfl ?_
        refine d_off 15 rfl rfl rfl (by decide) pnok (by kernel_rfl) (by kernel_rfl) (by kernel_rfl) rfl ?_
        refine d_off 16 rfl rfl rfl (by decide) pnok (by kernel_rfl) (by kernel_rfl) (by kernel_rfl) rfl ?_
        refine d_off 17 rfl rfl rfl (by decide) pnok (by kernel_rfl) (by kernel_rfl) (by kernel_rfl) rfl ?_
        refine d_off 18 rfl rfl rfl (by decide) pnok (by kernel_rfl) (by kernel_rfl) (by kernel_rfl) rfl ?_
        refine d_val 19 rfl pnok (by kernel_rfl) (by kernel_rfl) (by kernel_rfl) rfl (v_pick_f rfl rfl) ?_
        refine d_val 20 rfl pnok (by kernel_rfl) (by kernel_rfl) (by kernel_rfl) rfl (v_move rfl) ?_
        refine d_off 21 rfl rfl rfl (by decide) pnok (by kernel_rfl) (by kernel_rfl) (by kernel_rfl) rfl ?_
        refine d_off 22 rfl rfl rfl (by decide) pnok (by kernel_rfl) (by kernel_rfl) (by kernel_rfl) rfl ?_
        refine d_off 23 rfl rfl rfl (by decide) pnok (by kernel_rfl) (by kernel_rfl) (by kernel_rfl) rfl ?_
        refine d_off 24 rfl rfl rfl (by decide) pnok (by kernel_rfl) (by kernel_rfl) (by kernel_rfl) rfl ?_
        refine d_val 25 rfl pnok (by kernel_rfl) (by kernel_rfl) (by kernel_rfl) rfl (v_pick_f rfl rfl) ?_
        refine d_val 26 rfl pnok (by kernel_rfl) (by kernel_rfl) (by kernel_rfl) rfl (v_assign rfl) ?_
        refine d_done (by kernel_rfl) ?_
        refine s_st ?_ (hN1 false hF)
        exact st_le [1] (le_cons rfl (le_cons rfl (le_cons rfl le_nil))) rfl (sub_cons 0 rfl (sub_cons 1 rfl sub_nil))
    · intro t2 hF
      unfold F.law09.TreesTell_j1 at hF
      refine sat_wc ?_
      refine c_ret ?_
      cases hF
      refine s_ret1 rfl (r_tmp rfl) fun a w hs => ?_
      exact fin_sel hs [] ⟨rfl, rfl, rfl⟩ rfl sub_nil
theorem tri12 (k : Nat) (t : Tree) (sa1 : Option Addr) (sn1 sc1 : Nat) (r : Bool) (hF : F.law09.TreesYield k t = some r) :
    Tri Tryd.prog 12 [.agg #[.int .i64 t.Rule, .int .u8 t.Byte, .slice sa1 sn1 sc1]] [] [gf10 0, (.slice sa1 sn1 sc1, .slice 3 (t.Kids.map eTree))] (fun o H Φ => o = .ret (.bool r) ∧ H = [] ∧ Φ = []) := by
  unfold F.law09.TreesYield at hF
  refine tri_intro (n := 127) Tryd.func12 rfl Tryd.ntmps12 rfl fun w X => ?_
  refine c_seq ?_
  refine c_region ?_
  refine o_box rfl rfl rfl fun b => ?_
  refine o_v (v_assign rfl) rfl ?_
  refine o_seq ?_
  refine c_seq ?_
  refine c_seq ?_
  refine c_region ?_
  refine o_v (v_load_box 0 ty27 rfl rfl rfl rfl rfl) rfl ?_
  obtain ⟨v, h1, hF⟩ := bd hF
  refine o_callSB call13 rfl (lent_f 1 rfl lent_nil) (tri13 k t sa1 sn1 sc1 v h1) rfl ?_
  refine o_seq ?_
  refine c_cond rfl (fun h2 => ?_) (fun h2 => ?_)
  · replace hF := ite_t h2 hF
    refine c_seq ?_
    refine c_region ?_
    obtain ⟨v1, h3, hF⟩ := bd hF
    refine o_callSB call15 rfl (lent_f 0 rfl lent_nil) (tri15 k v1 h3) rfl ?_
    refine o_v (v_assign rfl) rfl ?_
    refine o_seq ?_
    refine c_ret ?_
    cases hF
    refine s_ret1 rfl (r_tmp rfl) fun a w hs => ?_
    exact fin_sel hs [] ⟨rfl, rfl, rfl⟩ rfl sub_nil
  · replace hF := ite_f h2 hF
    refine c_skip ?_
    refine sat_wc ?_
    refine c_seq ?_
    refine c_seq ?_
    refine c_region ?_
    refine o_v (v_fieldAddr (v := .pointer (some ⟨b, 0, none⟩)) rfl (fun _ => by kernel_rfl)) rfl ?_
    refine o_v (v_load_box 0 ty3 rfl rfl rfl rfl rfl) rfl ?_
    refine o_v (v_bin rfl rfl rfl) rfl ?_
    refine o_seq ?_
    refine c_cut (fun E N' => F.law09.TreesYield_j1 k t = some r → Sat E [(0, .agg #[.int .i64 t.Rule, .int .u8 t.Byte, .slice sa1 sn1 sc1]), (1, .pointer (some ⟨b, 0, none⟩)), (2, .bool false)] [.box b 27 [.int .i64 t.Rule, .int .u8 t.Byte, .slice sa1 sn1 sc1]] [gf10 0, (.slice sa1 sn1 sc1, .slice 3 (t.Kids.map eTree))] N') (fun N4 hN4 => ?_) ?_
    · refine c_cond rfl (fun h23 => ?_) (fun h23 => ?_)
      · replace hF := ite_t h23 hF
        refine c_seq ?_
        refine c_region ?_
        refine o_v (v_assign rfl) rfl ?_
        refine o_seq ?_
        refine c_seq ?_
        refine c_seq ?_
        refine c_region ?_
        refine o_v (v_assign rfl) rfl ?_
        refine o_seq ?_
        obtain ⟨o5, ho5, hF⟩ := bd hF
        refine c_cut (fun E N' => ∀ (sa5 : Option Addr) (sn5 sc5 : Nat), Sat E [(0, .agg #[.int .i64 t.Rule, .int .u8 t.Byte, .slice sa1 sn1 sc1]), (1, .pointer (some ⟨b, 0, none⟩)), (2, .bool false), (3, .slice sa5 sn5 sc5)] [.box b 27 [.int .i64 t.Rule, .int .u8 t.Byte, .slice sa1 sn1 sc1], .row (.slice sa5 sn5 sc5) 5 1 (o5.map eU8)] [gf10 0, (.slice sa1 sn1 sc1, .slice 3 (t.Kids.map eTree))] N') (fun N5 hN5 => ?_) ?_
        · refine c_block ?_
          refine c_loopE (fun E j a w => ∃ (all_ : List Int) (i1 : Int) (sa4 : Option Addr) (sn4 sc4 : Nat), F.law09.TreesYield_l5 k t j all_ i1 = some o5 ∧ St E [(0, .agg #[.int .i64 t.Rule, .int .u8 t.Byte, .slice sa1 sn1 sc1]), (1, .pointer (some ⟨b, 0, none⟩)), (2, .bool false), (3, .slice sa4 sn4 sc4), (4, .int .i64 i1)] [.box b 27 [.int .i64 t.Rule, .int .u8 t.Byte, .slice sa1 sn1 sc1], .row (.slice sa4 sn4 sc4) 5 1 (all_.map eU8)] [gf10 0, (.slice sa1 sn1 sc1, .slice 3 (t.Kids.map eTree))] a w) k ?_ ?_
          · refine s_st (st_nilrow 5 1) ?_
            intro a w hs
            exact ⟨([] : List Int), 0, none, 0, 0, ho5, st_le [1, 0] (le_cons rfl (le_cons rfl (le_cons rfl (le_cons rfl (le_cons rfl le_nil))))) rfl (sub_cons 0 rfl (sub_cons 1 rfl sub_nil)) a w hs⟩
          · rintro j a w ⟨all_, i1, sa4, sn4, sc4, hL5, hs⟩
            cases j with
            | zero => cases hL5
            | succ j =>
              refine wc_app hs ?_
              unfold F.law09.TreesYield_l5 at hL5
              refine c_seq ?_
              refine c_seq ?_
              refine c_region ?_
              refine o_v (v_move rfl) rfl ?_
              refine o_v (v_fieldAddr (v := .pointer (some ⟨b, 2, none⟩)) rfl (fun _ => by kernel_rfl)) rfl ?_
              refine o_v (v_load_box 0 ty25 rfl rfl rfl rfl rfl) rfl ?_
              refine o_v (v_lenS (enc := eTree) t.Kids sl25 rfl (.f 1 rfl)) rfl ?_
              refine o_v (v_bin rfl rfl rfl) rfl ?_
              refine o_seq ?_
              refine c_cond rfl (fun h24 => ?_) (fun h24 => ?_)
              · replace hL5 := ite_t h24 hL5
                refine c_skip ?_
                refine sat_wc ?_
                refine c_seq ?_
                refine c_block ?_
                refine c_region ?_
                refine o_v (v_move rfl) rfl ?_
                refine o_v (v_fieldAddr (v := .pointer (some ⟨b, 2, none⟩)) rfl (fun _ => by kernel_rfl)) rfl ?_
                refine o_v (v_load_box 0 ty25 rfl rfl rfl rfl rfl) rfl ?_
                refine o_v (v_move rfl) rfl ?_
                refine ite_some hL5 fun h25 hL5 => ?_
                refine o_v (v_indexAddr_s (xs := t.Kids) (enc := eTree) sl25 rfl rfl (.f 1 rfl) h25) rfl ?_
                refine o_load_s (ds := [.int .i64 ((at_ t.Kids i1).Rule), .int .u8 ((at_ t.Kids i1).Byte), .slice 3 (((at_ t.Kids i1).Kids).map eTree)]) (xs := t.Kids) (enc := eTree) ty27 rfl (.f 1 rfl) h25 (by simp only [eTree_eq] <;> rfl) rfl rfl rfl rfl rfl fun sa6 sn6 sc6 => ?_
                obtain ⟨v6, h26, hL5⟩ := bd hL5
                refine o_call0 call33 rfl (sub_cons 0 rfl sub_nil) (tri33 k (at_ t.Kids i1) sa6 sn6 sc6 v6 h26) rfl ?_
                rintro _ _ _ ⟨sa7, sn7, sc7, rfl, rfl, rfl⟩
                refine ite_some hL5 fun h27 hL5 => ?_
                refine ite_some hL5 fun h28 hL5 => ?_
                refine o_append (enc := eU8) (xs := all_) (ys := v6) 2 sl58 rfl rfl rfl (.r 0 _ rfl) h27 h28 rfl fun sa8 sn8 sc8 => ?_
                refine o_v (v_assign rfl) rfl ?_
                refine o_nil ?_
                refine sat_wc ?_
                refine c_region ?_
                refine o_v (v_move rfl) rfl ?_
                refine o_v (v_bin rfl rfl rfl) rfl ?_
                refine o_v (v_assign rfl) rfl ?_
                refine o_nil ?_
                intro a w hs
                exact ⟨j, Nat.lt_succ_self j, (all_ ++ v6), IntKind.wrap .i64 (i1 + 1), sa8, sn8, sc8, hL5, st_le [1, 1] (le_cons rfl (le_cons rfl (le_cons rfl (le_cons rfl (le_cons rfl le_nil))))) rfl (sub_cons 1 rfl (sub_cons 2 rfl sub_nil)) a w hs⟩
              · replace hL5 := ite_f h24 hL5
                refine c_exit0 ?_
                cases hL5
                refine s_st ?_ (hN5 sa4 sn4 sc4)
                exact st_le [0, 0] (le_cons rfl (le_cons rfl (le_cons rfl (le_cons rfl le_nil)))) rfl (sub_cons 0 rfl (sub_cons 1 rfl sub_nil))
        · intro sa5 sn5 sc5
          refine sat_wc ?_
          refine c_seq ?_
          refine c_cut (fun E N' => ∀ (t35 : Bool), F.law09.TreesYield_j6 k t t35 = some r → Sat E [(0, .agg #[.int .i64 t.Rule, .int .u8 t.Byte, .slice sa1 sn1 sc1]), (1, .pointer (some ⟨b, 0, none⟩)), (2, .bool false), (3, .slice sa5 sn5 sc5), (35, .bool t35)] [.box b 27 [.int .i64 t.Rule, .int .u8 t.Byte, .slice sa1 sn1 sc1], .row (.slice sa5 sn5 sc5) 5 1 (o5.map eU8)] [gf10 0, (.slice sa1 sn1 sc1, .slice 3 (t.Kids.map eTree))] N') (fun N6 hN6 => ?_) ?_
          · refine c_draw (n := 6) [0, 0] mixed rfl rfl ?_
            refine d_val 0 rfl pnok (by kernel_rfl) (by kernel_rfl) (by kernel_rfl) rfl (v_move rfl) ?_
            refine d_val 2 rfl pnok (by kernel_rfl) (by kernel_rfl) (by kernel_rfl) rfl (v_load_box 0 ty27 rfl rfl rfl rfl rfl) ?_
            obtain ⟨v7, h30, hF⟩ := bd hF
            refine d_all [1, 3] (by kernel_rfl) (by simp) ⟨⟨_, rfl, ?_⟩, ⟨_, rfl, ?_⟩, trivial⟩
            · refine o_v (v_bytesStr sl58 Tryd.underlying5 Tryd.underlying9 rfl (.r 1 _ rfl)) rfl ?_
              refine d_next [0, 0] 0 rfl rfl ?_
              refine d_one 3 rfl (by kernel_rfl) ?_
              refine o_call0 call33 rfl (sub_cons 1 rfl sub_nil) (tri33 k t sa1 sn1 sc1 v7 h30) rfl ?_
              rintro _ _ _ ⟨sa9, sn9, sc9, rfl, rfl, rfl⟩
              refine d_next [1, 1] 0 rfl rfl ?_
              refine d_one 4 rfl (by kernel_rfl) ?_
              refine o_v (v_bytesStr sl58 Tryd.underlying5 Tryd.underlying9 rfl (.r 0 _ rfl)) rfl ?_
              refine d_next [1, 1] 0 rfl rfl ?_
              refine d_val 5 rfl pnok (by kernel_rfl) (by kernel_rfl) (by kernel_rfl) rfl (v_strne rfl rfl) ?_
              refine d_done (by kernel_rfl) ?_
              refine s_st ?_ (hN6 (!((toS o5) == (toS v7))) hF)
              exact st_le [1, 1] (le_cons rfl (le_cons rfl (le_cons rfl (le_cons rfl (le_cons rfl le_nil))))) rfl (sub_cons 0 rfl (sub_cons 1 rfl sub_nil))
            · refine o_call0 call33 rfl (sub_cons 1 rfl sub_nil) (tri33 k t sa1 sn1 sc1 v7 h30) rfl ?_
              rintro _ _ _ ⟨sa9, sn9, sc9, rfl, rfl, rfl⟩
              refine d_next [1, 1] 0 rfl rfl ?_
              refine d_all [1, 4] (by kernel_rfl) (by simp) ⟨⟨_, rfl, ?_⟩, ⟨_, rfl, ?_⟩, trivial⟩
              · refine o_v (v_bytesStr sl58 Tryd.underlying5 Tryd.underlying9 rfl (.r 2 _ rfl)) rfl ?_
                refine d_next [1, 1] 0 rfl rfl ?_
                refine d_one 4 rfl (by kernel_rfl) ?_
                refine o_v (v_bytesStr sl58 Tryd.underlying5 Tryd.underlying9 rfl (.r 0 _ rfl)) rfl ?_
                refine d_next [1, 1] 0 rfl rfl ?_
                refine d_val 5 rfl pnok (by kernel_rfl) (by kernel_rfl) (by kernel_rfl) rfl (v_strne rfl rfl) ?_
                refine d_done (by kernel_rfl) ?_
                refine s_st ?_ (hN6 (!((toS o5) == (toS v7))) hF)
                exact st_le [1, 1] (le_cons rfl (le_cons rfl (le_cons rfl (le_cons rfl (le_cons rfl le_nil))))) rfl (sub_cons 0 rfl (sub_cons 1 rfl sub_nil))
              · refine o_v (v_bytesStr sl58 Tryd.underlying5 Tryd.underlying9 rfl (.r 0 _ rfl)) rfl ?_
                refine d_next [1, 1] 0 rfl rfl ?_
                refine d_one 1 rfl (by kernel_rfl) ?_
                refine o_v (v_bytesStr sl58 Tryd.underlying5 Tryd.underlying9 rfl (.r 2 _ rfl)) rfl ?_
                refine d_next [1, 1] 0 rfl rfl ?_
                refine d_val 5 rfl pnok (by kernel_rfl) (by kernel_rfl) (by kernel_rfl) rfl (v_strne rfl rfl) ?_
                refine d_done (by kernel_rfl) ?_
                refine s_st ?_ (hN6 (!((toS o5) == (toS v7))) hF)
                exact st_le [1, 1] (le_cons rfl (le_cons rfl (le_cons rfl (le_cons rfl (le_cons rfl le_nil))))) rfl (sub_cons 0 rfl (sub_cons 1 rfl sub_nil))
          · intro t35 hF
            unfold F.law09.TreesYield_j6 at hF
            refine sat_wc ?_
            refine c_cond rfl (fun h29 => ?_) (fun h29 => ?_)
            · replace hF := ite_t h29 hF
              refine c_seq ?_
              refine c_region ?_
              refine o_v (v_assign rfl) rfl ?_
              refine o_seq ?_
              refine c_ret ?_
              cases hF
              refine s_ret1 rfl (r_tmp rfl) fun a w hs => ?_
              exact fin_sel hs [] ⟨rfl, rfl, rfl⟩ rfl sub_nil
            · replace hF := ite_f h29 hF
              refine c_skip ?_
              refine s_st ?_ (hN4 hF)
              exact st_le [0] (le_cons rfl (le_cons rfl (le_cons rfl le_nil))) rfl (sub_cons 0 rfl (sub_cons 1 rfl sub_nil))
      · replace hF := ite_f h23 hF
        refine c_skip ?_
        refine s_st ?_ (hN4 hF)
        exact st_le [0] (le_cons rfl (le_cons rfl (le_cons rfl le_nil))) rfl (sub_cons 0 rfl (sub_cons 1 rfl sub_nil))
    · intro hF
      unfold F.law09.TreesYield_j1 at hF
      refine sat_wc ?_
      refine c_seq ?_
      refine c_region ?_
      refine o_v (v_load_box 0 ty27 rfl rfl rfl rfl rfl) rfl ?_
      obtain ⟨v2, h4, hF⟩ := bd hF
      refine o_callSB call30 rfl (lent_f 1 rfl lent_nil) (tri30 k t sa1 sn1 sc1 v2 h4) rfl ?_
      refine o_v (v_move rfl) rfl ?_
      refine o_v (v_extract rfl rfl) rfl ?_
      refine o_v (v_extract rfl rfl) rfl ?_
      refine o_v (v_assign rfl) rfl ?_
      refine o_v (v_assign rfl) rfl ?_
      refine o_seq ?_
      refine c_seq ?_
      refine c_region ?_
      refine o_v (v_load_box 0 ty27 rfl rfl rfl rfl rfl) rfl ?_
      obtain ⟨v3, h5, hF⟩ := bd hF
      refine o_call0 call32 rfl (sub_cons 1 rfl sub_nil) (tri32 k t sa1 sn1 sc1 v3 h5) rfl ?_
      rintro _ _ _ ⟨sa2, sn2, sc2, rfl, rfl, rfl⟩
      refine o_v (v_assign rfl) rfl ?_
      refine o_seq ?_
      refine c_seq ?_
      refine c_seq ?_
      refine c_cut (fun E N' => ∀ (t70 : Bool), F.law09.TreesYield_j2 k v3 t70 = some r → Sat E [(0, .agg #[.int .i64 t.Rule, .int .u8 t.Byte, .slice sa1 sn1 sc1]), (1, .pointer (some ⟨b, 0, none⟩)), (2, .bool false), (7, .slice sa2 sn2 sc2), (70, .bool t70)] [.box b 27 [.int .i64 t.Rule, .int .u8 t.Byte, .slice sa1 sn1 sc1], .row (.slice sa2 sn2 sc2) 62 2 (v3.map eRun)] [gf10 0, (.slice sa1 sn1 sc1, .slice 3 (t.Kids.map eTree))] N') (fun N4 hN4 => ?_) ?_
      · refine c_draw (n := 28) [0, 0] mixed rfl rfl ?_
        refine d_val 0 rfl pnok (by kernel_rfl) (by kernel_rfl) (by kernel_rfl) rfl (v_move rfl) ?_
        refine d_val 1 rfl pnok (by kernel_rfl) (by kernel_rfl) (by kernel_rfl) rfl (v_lenS (enc := eRun) v3 sl56 rfl (.r 0 _ rfl)) ?_
        refine d_val 2 rfl pnok (by kernel_rfl) (by kernel_rfl) (by kernel_rfl) rfl (v_move rfl) ?_
        refine d_val 3 rfl pnok (by kernel_rfl) (by kernel_rfl) (by kernel_rfl) rfl (v_bin rfl rfl rfl) ?_
        refine d_val 4 rfl pnok (by kernel_rfl) (by kernel_rfl) (by kernel_rfl) rfl (v_move rfl) ?_
        refine d_split (t := 47) rfl (fun h17 => ?_) (fun h17 => ?_)
        · replace hF := ite_t h17 hF
          refine d_off 5 rfl rfl rfl (by decide) pnok (by kernel_rfl) (by kernel_rfl) (by kernel_rfl) rfl ?_
          refine d_off 6 rfl rfl rfl (by decide) pnok (by kernel_rfl) (by kernel_rfl) (by kernel_rfl) rfl ?_
          refine d_val 7 rfl pnok (by kernel_rfl) (by kernel_rfl) (by kernel_rfl) rfl (v_pick_t rfl rfl) ?_
          refine d_val 8 rfl pnok (by kernel_rfl) (by kernel_rfl) (by kernel_rfl) rfl (v_move rfl) ?_
          refine d_off 9 rfl rfl rfl (by decide) pnok (by kernel_rfl) (by kernel_rfl) (by kernel_rfl) rfl ?_
          refine d_off 10 rfl rfl rfl (by decide) pnok (by kernel_rfl) (by kernel_rfl) (by kernel_rfl) rfl ?_
          refine d_off 11 rfl rfl rfl (by decide) pnok (by kernel_rfl) (by kernel_rfl) (by kernel_rfl) rfl ?_
          refine d_val 12 rfl pnok (by kernel_rfl) (by kernel_rfl) (by kernel_rfl) rfl (v_pick_t rfl rfl) ?_
          refine d_val 13 rfl pnok (by kernel_rfl) (by kernel_rfl) (by kernel_rfl) rfl (v_move rfl) ?_
          refine d_off 14 rfl rfl rfl (by decide) pnok (by kernel_rfl) (by kernel_rfl) (by kernel_rfl) rfl ?_
          refine d_off 15 rfl rfl rfl (by decide) pnok (by kernel_rfl) (by kernel_rfl) (by kernel_rfl) rfl ?_
          refine d_off 16 rfl rfl rfl (by decide) pnok (by kernel_rfl) (by kernel_rfl) (by kernel_rfl) rfl ?_
          refine d_val 17 rfl pnok (by kernel_rfl) (by kernel_rfl) (by kernel_rfl) rfl (v_pick_t rfl rfl) ?_
          refine d_val 18 rfl pnok (by kernel_rfl) (by kernel_rfl) (by kernel_rfl) rfl (v_move rfl) ?_
          refine d_off 19 rfl rfl rfl (by decide) pnok (by kernel_rfl) (by kernel_rfl) (by kernel_rfl) rfl ?_
          refine d_off 20 rfl rfl rfl (by decide) pnok (by kernel_rfl) (by kernel_rfl) (by kernel_rfl) rfl ?_
          refine d_off 21 rfl rfl rfl (by decide) pnok (by kernel_rfl) (by kernel_rfl) (by kernel_rfl) rfl ?_
          refine d_off 22 rfl rfl rfl (by decide) pnok (by kernel_rfl) (by kernel_rfl) (by kernel_rfl) rfl ?_
          refine d_off 23 rfl rfl rfl (by decide) pnok (by kernel_rfl) (by kernel_rfl) (by kernel_rfl) rfl ?_
          refine d_off 24 rfl rfl rfl (by decide) pnok (by kernel_rfl) (by kernel_rfl) (by kernel_rfl) rfl ?_
          refine d_off 25 rfl rfl rfl (by decide) pnok (by kernel_rfl) (by kernel_rfl) (by kernel_rfl) rfl ?_
          refine d_off 26 rfl rfl rfl (by decide) pnok (by kernel_rfl) (by kernel_rfl) (by kernel_rfl) rfl ?_
          refine d_val 27 rfl pnok (by kernel_rfl) (by kernel_rfl) (by kernel_rfl) rfl (v_pick_t rfl rfl) ?_
          refine d_done (by kernel_rfl) ?_
          refine s_st ?_ (hN4 true hF)
          exact st_le [1, 0] (le_cons rfl (le_cons rfl (le_cons rfl (le_cons rfl (le_cons rfl le_nil))))) rfl (sub_cons 0 rfl (sub_cons 1 rfl sub_nil))
        · replace hF := ite_f h17 hF
          refine d_val_on 5 rfl rfl rfl pnok (by kernel_rfl) (by kernel_rfl) (by kernel_rfl) rfl (v_move rfl) ?_
          refine d_val_on 6 rfl rfl rfl pnok (by kernel_rfl) (by kernel_rfl) (by kernel_rfl) rfl (v_bin rfl rfl rfl) ?_
          refine d_val 7 rfl pnok (by kernel_rfl) (by kernel_rfl) (by kernel_rfl) rfl (v_pick_f rfl rfl) ?_
          refine d_val 8 rfl pnok (by kernel_rfl) (by kernel_rfl) (by kernel_rfl) rfl (v_move rfl) ?_
          refine d_split (t := 51) rfl (fun h18 => ?_) (fun h18 => ?_)
          · replace hF := ite_t h18 hF
            refine d_off 9 rfl rfl rfl (by decide) pnok (by kernel_rfl) (by kernel_rfl) (by kernel_rfl) rfl ?_
            refine d_off 10 rfl rfl rfl (by decide) pnok (by kernel_rfl) (by kernel_rfl) (by kernel_rfl) rfl ?_
            refine d_off 11 rfl rfl rfl (by decide) pnok (by kernel_rfl) (by kernel_rfl) (by kernel_rfl) rfl ?_
            refine d_val 12 rfl pnok (by kernel_rfl) (by kernel_rfl) (by kernel_rfl) rfl (v_pick_t rfl rfl) ?_
            refine d_val 13 rfl pnok (by kernel_rfl) (by kernel_rfl) (by kernel_rfl) rfl (v_move rfl) ?_
            refine d_off 14 rfl rfl rfl (by decide) pnok (by kernel_rfl) (by kernel_rfl) (by kernel_rfl) rfl ?_
            refine d_off 15 rfl rfl rfl (by decide) pnok (by kernel_rfl) (by kernel_rfl) (by kernel_rfl) rfl ?_
            refine d_off 16 rfl rfl rfl (by decide) pnok (by kernel_rfl) (by kernel_rfl) (by kernel_rfl) rfl ?_
            refine d_val 17 rfl pnok (by kernel_rfl) (by kernel_rfl) (by kernel_rfl) rfl (v_pick_t rfl rfl) ?_
            refine d_val 18 rfl pnok (by kernel_rfl) (by kernel_rfl) (by kernel_rfl) rfl (v_move rfl) ?_
            refine d_off 19 rfl rfl rfl (by decide) pnok (by kernel_rfl) (by kernel_rfl) (by kernel_rfl) rfl ?_
            refine d_off 20 rfl rfl rfl (by decide) pnok (by kernel_rfl) (by kernel_rfl) (by kernel_rfl) rfl ?_
            refine d_off 21 rfl rfl rfl (by decide) pnok (by kernel_rfl) (by kernel_rfl) (by kernel_rfl) rfl ?_
            refine d_off 22 rfl rfl rfl (by decide) pnok (by kernel_rfl) (by kernel_rfl) (by kernel_rfl) rfl ?_
            refine d_off 23 rfl rfl rfl (by decide) pnok (by kernel_rfl) (by kernel_rfl) (by kernel_rfl) rfl ?_
            refine d_off 24 rfl rfl rfl (by decide) pnok (by kernel_rfl) (by kernel_rfl) (by kernel_rfl) rfl ?_
            refine d_off 25 rfl rfl rfl (by decide) pnok (by kernel_rfl) (by kernel_rfl) (by kernel_rfl) rfl ?_
            refine d_off 26 rfl rfl rfl (by decide) pnok (by kernel_rfl) (by kernel_rfl) (by kernel_rfl) rfl ?_
            refine d_val 27 rfl pnok (by kernel_rfl) (by kernel_rfl) (by kernel_rfl) rfl (v_pick_t rfl rfl) ?_
            refine d_done (by kernel_rfl) ?_
            refine s_st ?_ (hN4 true hF)
            exact st_le [1, 0] (le_cons rfl (le_cons rfl (le_cons rfl (le_cons rfl (le_cons rfl le_nil))))) rfl (sub_cons 0 rfl (sub_cons 1 rfl sub_nil))
          · replace hF := ite_f h18 hF
            refine d_val_on 9 rfl rfl rfl pnok (by kernel_rfl) (by kernel_rfl) (by kernel_rfl) rfl (v_move rfl) ?_
            refine d_val_on 10 rfl rfl rfl pnok (by kernel_rfl) (by kernel_rfl) (by kernel_rfl) rfl (v_move rfl) ?_
            refine d_val_on 11 rfl rfl rfl pnok (by kernel_rfl) (by kernel_rfl) (by kernel_rfl) rfl (v_bin rfl rfl rfl) ?_
            refine d_val 12 rfl pnok (by kernel_rfl) (by kernel_rfl) (by kernel_rfl) rfl (v_pick_f rfl rfl) ?_
            refine d_val 13 rfl pnok (by kernel_rfl) (by kernel_rfl) (by kernel_rfl) rfl (v_move rfl) ?_
            refine d_split (t := 56) rfl (fun h19 => ?_) (fun h19 => ?_)
            · replace hF := ite_t h19 hF
              refine d_off 14 rfl rfl rfl (by decide) pnok (by kernel_rfl) (by kernel_rfl) (by kernel_rfl) rfl ?_
              refine d_off 15 rfl rfl rfl (by decide) pnok (by kernel_rfl) (by kernel_rfl) (by kernel_rfl) rfl ?_
              refine d_off 16 rfl rfl rfl (by decide) pnok (by kernel_rfl) (by kernel_rfl) (by kernel_rfl) rfl ?_
              refine d_val 17 rfl pnok (by kernel_rfl) (by kernel_rfl) (by kernel_rfl) rfl (v_pick_t rfl rfl) ?_
              refine d_val 18 rfl pnok (by kernel_rfl) (by kernel_rfl) (by kernel_rfl) rfl (v_move rfl) ?_
              refine d_off 19 rfl rfl rfl (by decide) pnok (by kernel_rfl) (by kernel_rfl) (by kernel_rfl) rfl ?_
              refine d_off 20 rfl rfl rfl (by decide) pnok (by kernel_rfl) (by kernel_rfl) (by kernel_rfl) rfl ?_
              refine d_off 21 rfl rfl rfl (by decide) pnok (by kernel_rfl) (by kernel_rfl) (by kernel_rfl) rfl ?_
              refine d_off 22 rfl rfl rfl (by decide) pnok (by kernel_rfl) (by kernel_rfl) (by kernel_rfl) rfl ?_
              refine d_off 23 rfl rfl rfl (by decide) pnok (by kernel_rfl) (by kernel_rfl) (by kernel_rfl) rfl ?_
              refine d_off 24 rfl rfl rfl (by decide) pnok (by kernel_rfl) (by kernel_rfl) (by kernel_rfl) rfl ?_
              refine d_off 25 rfl rfl rfl (by decide) pnok (by kernel_rfl) (by kernel_rfl) (by kernel_rfl) rfl ?_
              refine d_off 26 rfl rfl rfl (by decide) pnok (by kernel_rfl) (by kernel_rfl) (by kernel_rfl) rfl ?_
              refine d_val 27 rfl pnok (by kernel_rfl) (by kernel_rfl) (by kernel_rfl) rfl (v_pick_t rfl rfl) ?_
              refine d_done (by kernel_rfl) ?_
              refine s_st ?_ (hN4 true hF)
              exact st_le [1, 0] (le_cons rfl (le_cons rfl (le_cons rfl (le_cons rfl (le_cons rfl le_nil))))) rfl (sub_cons 0 rfl (sub_cons 1 rfl sub_nil))
            · replace hF := ite_f h19 hF
              refine d_val_on 14 rfl rfl rfl pnok (by kernel_rfl) (by kernel_rfl) (by kernel_rfl) rfl (v_move rfl) ?_
              refine d_val_on 15 rfl rfl rfl pnok (by kernel_rfl) (by kernel_rfl) (by kernel_rfl) rfl (v_lenS (enc := eRun) v3 sl56 rfl (.r 0 _ rfl)) ?_
              refine d_val_on 16 rfl rfl rfl pnok (by kernel_rfl) (by kernel_rfl) (by kernel_rfl) rfl (v_bin rfl rfl rfl) ?_
              refine d_val 17 rfl pnok (by kernel_rfl) (by kernel_rfl) (by kernel_rfl) rfl (v_pick_f rfl rfl) ?_
              refine d_val 18 rfl pnok (by kernel_rfl) (by kernel_rfl) (by kernel_rfl) rfl (v_move rfl) ?_
              refine d_split (t := 61) rfl (fun h20 => ?_) (fun h20 => ?_)
              · replace hF := ite_t h20 hF
                refine d_off 19 rfl rfl rfl (by decide) pnok (by kernel_rfl) (by kernel_rfl) (by kernel_rfl) rfl ?_
                refine d_off 20 rfl rfl rfl (by decide) pnok (by kernel_rfl) (by kernel_rfl) (by kernel_rfl) rfl ?_
                refine d_off 21 rfl rfl rfl (by decide) pnok (by kernel_rfl) (by kernel_rfl) (by kernel_rfl) rfl ?_
                refine d_off 22 rfl rfl rfl (by decide) pnok (by kernel_rfl) (by kernel_rfl) (by kernel_rfl) rfl ?_
                refine d_off 23 rfl rfl rfl (by decide) pnok (by kernel_rfl) (by kernel_rfl) (by kernel_rfl) rfl ?_
                refine d_off 24 rfl rfl rfl (by decide) pnok (by kernel_rfl) (by kernel_rfl) (by kernel_rfl) rfl ?_
                refine d_off 25 rfl rfl rfl (by decide) pnok (by kernel_rfl) (by kernel_rfl) (by kernel_rfl) rfl ?_
                refine d_off 26 rfl rfl rfl (by decide) pnok (by kernel_rfl) (by kernel_rfl) (by kernel_rfl) rfl ?_
                refine d_val 27 rfl pnok (by kernel_rfl) (by kernel_rfl) (by kernel_rfl) rfl (v_pick_t rfl rfl) ?_
                refine d_done (by kernel_rfl) ?_
                refine s_st ?_ (hN4 true hF)
                exact st_le [1, 0] (le_cons rfl (le_cons rfl (le_cons rfl (le_cons rfl (le_cons rfl le_nil))))) rfl (sub_cons 0 rfl (sub_cons 1 rfl sub_nil))
              · replace hF := ite_f h20 hF
                refine d_val_on 19 rfl rfl rfl pnok (by kernel_rfl) (by kernel_rfl) (by kernel_rfl) rfl (v_move rfl) ?_
                refine ite_some hF fun h21 hF => ?_
                refine d_val_on 20 rfl rfl rfl pnok (by kernel_rfl) (by kernel_rfl) (by kernel_rfl) rfl (v_indexAddr_s (xs := v3) (enc := eRun) sl56 rfl rfl (.r 0 _ rfl) h21) ?_
                refine d_val_on 21 rfl rfl rfl pnok (by kernel_rfl) (by kernel_rfl) (by kernel_rfl) rfl (v_load_s (xs := v3) (enc := eRun) ty62 rfl (.r 0 _ rfl) h21 rfl rfl rfl rfl rfl rfl rfl) ?_
                refine d_val_on 22 rfl rfl rfl pnok (by kernel_rfl) (by kernel_rfl) (by kernel_rfl) rfl (v_load_box 1 ty27 rfl rfl rfl rfl rfl) ?_
                refine d_one 23 rfl (by kernel_rfl) ?_
                refine o_on rfl rfl ?_
                obtain ⟨v5, h22, hF⟩ := bd hF
                refine o_call0 call33 rfl (sub_cons 1 rfl sub_nil) (tri33 k t sa1 sn1 sc1 v5 h22) rfl ?_
                rintro _ _ _ ⟨sa3, sn3, sc3, rfl, rfl, rfl⟩
                refine d_next [1, 1] 0 rfl rfl ?_
                refine d_one 24 rfl (by kernel_rfl) ?_
                refine o_on rfl rfl ?_
                refine o_v (v_lenS (enc := eU8) v5 sl58 rfl (.r 0 _ rfl)) rfl ?_
                refine d_next [1, 1] 0 rfl rfl ?_
                refine d_val_on 25 rfl rfl rfl pnok (by kernel_rfl) (by kernel_rfl) (by kernel_rfl) rfl (v_build (v := .agg #[.int .i64 0, .int .i64 (v5.length : Int)]) rfl (fun _ => by kernel_rfl)) ?_
                refine d_val_on 26 rfl rfl rfl pnok (by kernel_rfl) (by kernel_rfl) (by kernel_rfl) rfl (v_agne 2 rfl rfl (eq62 ((at_ v3 0).Lo) ((at_ v3 0).Hi) 0 (v5.length : Int)) rfl guard62) ?_
                refine d_val 27 rfl pnok (by kernel_rfl) (by kernel_rfl) (by kernel_rfl) rfl (v_pick_f rfl rfl) ?_
                refine d_done (by kernel_rfl) ?_
                refine s_st ?_ (hN4 (!((((at_ v3 0).Lo) == 0) && ((((at_ v3 0).Hi) == (v5.length : Int)) && true))) hF)
                exact st_le [2, 1] (le_cons rfl (le_cons rfl (le_cons rfl (le_cons rfl (le_cons rfl le_nil))))) rfl (sub_cons 0 rfl (sub_cons 1 rfl sub_nil))
      · intro t70 hF
        unfold F.law09.TreesYield_j2 at hF
        refine sat_wc ?_
        refine c_cond rfl (fun h6 => ?_) (fun h6 => ?_)
        · replace hF := ite_t h6 hF
          refine c_seq ?_
          refine c_region ?_
          refine o_v (v_assign rfl) rfl ?_
          refine o_seq ?_
          refine c_ret ?_
          cases hF
          refine s_ret1 rfl (r_tmp rfl) fun a w hs => ?_
          exact fin_sel hs [] ⟨rfl, rfl, rfl⟩ rfl sub_nil
        · replace hF := ite_f h6 hF
          refine c_skip ?_
          refine sat_wc ?_
          refine c_seq ?_
          refine c_seq ?_
          refine c_region ?_
          refine o_v (v_assign rfl) rfl ?_
          refine o_seq ?_
          obtain ⟨o3, ho3, hF⟩ := bd hF
          refine c_cut (fun E N' => ∀ (d3 : Unit), o3 = .done d3 → Sat E [(0, .agg #[.int .i64 t.Rule, .int .u8 t.Byte, .slice sa1 sn1 sc1]), (1, .pointer (some ⟨b, 0, none⟩)), (2, .bool false), (7, .slice sa2 sn2 sc2)] [.box b 27 [.int .i64 t.Rule, .int .u8 t.Byte, .slice sa1 sn1 sc1], .row (.slice sa2 sn2 sc2) 62 2 (v3.map eRun)] [gf10 0, (.slice sa1 sn1 sc1, .slice 3 (t.Kids.map eTree))] N') (fun N3 hN3 => ?_) ?_
          · refine c_block ?_
            refine c_loopE (fun E j a w => ∃ (i : Int), F.law09.TreesYield_l3 v3 j i = some o3 ∧ St E [(0, .agg #[.int .i64 t.Rule, .int .u8 t.Byte, .slice sa1 sn1 sc1]), (1, .pointer (some ⟨b, 0, none⟩)), (2, .bool false), (7, .slice sa2 sn2 sc2), (8, .int .i64 i)] [.box b 27 [.int .i64 t.Rule, .int .u8 t.Byte, .slice sa1 sn1 sc1], .row (.slice sa2 sn2 sc2) 62 2 (v3.map eRun)] [gf10 0, (.slice sa1 sn1 sc1, .slice 3 (t.Kids.map eTree))] a w) k ?_ ?_
            · intro a w hs
              exact ⟨0, ho3, st_le [0, 0] (le_cons rfl (le_cons rfl (le_cons rfl (le_cons rfl (le_cons rfl le_nil))))) rfl (sub_cons 0 rfl (sub_cons 1 rfl sub_nil)) a w hs⟩
            · rintro j a w ⟨i, hL3, hs⟩
              cases j with
              | zero => cases hL3
              | succ j =>
                refine wc_app hs ?_
                unfold F.law09.TreesYield_l3 at hL3
                refine c_seq ?_
                refine c_seq ?_
                refine c_region ?_
                refine o_v (v_move rfl) rfl ?_
                refine o_v (v_move rfl) rfl ?_
                refine o_v (v_lenS (enc := eRun) v3 sl56 rfl (.r 1 _ rfl)) rfl ?_
                refine o_v (v_bin rfl rfl rfl) rfl ?_
                refine o_seq ?_
                refine c_cond rfl (fun h7 => ?_) (fun h7 => ?_)
                · replace hL3 := ite_t h7 hL3
                  refine c_skip ?_
                  refine sat_wc ?_
                  refine c_seq ?_
                  refine c_block ?_
                  refine c_seq ?_
                  refine c_cut (fun E N' => ∀ (t125 : Bool), F.law09.TreesYield_j4 (F.law09.TreesYield_l3 v3 j) i t125 = some o3 → Sat E [(0, .agg #[.int .i64 t.Rule, .int .u8 t.Byte, .slice sa1 sn1 sc1]), (1, .pointer (some ⟨b, 0, none⟩)), (2, .bool false), (7, .slice sa2 sn2 sc2), (8, .int .i64 i), (125, .bool t125)] [.box b 27 [.int .i64 t.Rule, .int .u8 t.Byte, .slice sa1 sn1 sc1], .row (.slice sa2 sn2 sc2) 62 2 (v3.map eRun)] [gf10 0, (.slice sa1 sn1 sc1, .slice 3 (t.Kids.map eTree))] N') (fun N4 hN4 => ?_) ?_
                  · refine c_draw (n := 49) [0, 0] mixed rfl rfl ?_
                    refine d_val 0 rfl pnok (by kernel_rfl) (by kernel_rfl) (by kernel_rfl) rfl (v_move rfl) ?_
                    refine d_val 1 rfl pnok (by kernel_rfl) (by kernel_rfl) (by kernel_rfl) rfl (v_move rfl) ?_
                    refine ite_some hL3 fun h9 hL3 => ?_
                    refine d_val 2 rfl pnok (by kernel_rfl) (by kernel_rfl) (by kernel_rfl) rfl (v_indexAddr_s (xs := v3) (enc := eRun) sl56 rfl rfl (.r 1 _ rfl) h9) ?_
                    refine d_val 3 rfl pnok (by kernel_rfl) (by kernel_rfl) (by kernel_rfl) rfl (v_fieldAddr (v := .pointer (some ⟨blkA sa2, offA sa2 + (Int.toNat i * 2 + 0), none⟩)) rfl (fun _ => by kernel_rfl)) ?_
                    refine d_val 4 rfl pnok (by kernel_rfl) (by kernel_rfl) (by kernel_rfl) rfl (v_load_s (xs := v3) (enc := eRun) ty3 rfl (.r 1 _ rfl) h9 rfl rfl rfl rfl rfl rfl rfl) ?_
                    refine d_val 5 rfl pnok (by kernel_rfl) (by kernel_rfl) (by kernel_rfl) rfl (v_bin rfl rfl rfl) ?_
                    refine d_val 6 rfl pnok (by kernel_rfl) (by kernel_rfl) (by kernel_rfl) rfl (v_move rfl) ?_
                    refine d_split (t := 83) rfl (fun h10 => ?_) (fun h10 => ?_)
                    · replace hL3 := ite_t h10 hL3
                      refine d_off 7 rfl rfl rfl (by decide) pnok (by kernel_rfl) (by kernel_rfl) (by kernel_rfl) rfl ?_
                      refine d_off 8 rfl rfl rfl (by decide) pnok (by kernel_rfl) (by kernel_rfl) (by kernel_rfl) rfl ?_
                      refine d_off 9 rfl rfl rfl (by decide) pnok (by kernel_rfl) (by kernel_rfl) (by kernel_rfl) rfl ?_
                      refine d_off 10 rfl rfl rfl (by decide) pnok (by kernel_rfl) (by kernel_rfl) (by kernel_rfl) rfl ?_
                      refine d_off 11 rfl rfl rfl (by decide) pnok (by kernel_rfl) (by kernel_rfl) (by kernel_rfl) rfl ?_
                      refine d_off 12 rfl rfl rfl (by decide) pnok (by kernel_rfl) (by kernel_rfl) (by kernel_rfl) rfl ?_
                      refine d_off 13 rfl rfl rfl (by decide) pnok (by kernel_rfl) (by kernel_rfl) (by kernel_rfl) rfl ?_
                      refine d_off 14 rfl rfl rfl (by decide) pnok (by kernel_rfl) (by kernel_rfl) (by kernel_rfl) rfl ?_
                      refine d_off 15 rfl rfl rfl (by decide) pnok (by kernel_rfl) (by kernel_rfl) (by kernel_rfl) rfl ?_
                      refine d_off 16 rfl rfl rfl (by decide) pnok (by kernel_rfl) (by kernel_rfl) (by kernel_rfl) rfl ?_
                      refine d_off 17 rfl rfl rfl (by decide) pnok (by kernel_rfl) (by kernel_rfl) (by kernel_rfl) rfl ?_
                      refine d_val 18 rfl pnok (by kernel_rfl) (by kernel_rfl) (by kernel_rfl) rfl (v_pick_t rfl rfl) ?_
                      refine d_val 19 rfl pnok (by kernel_rfl) (by kernel_rfl) (by kernel_rfl) rfl (v_move rfl) ?_
                      refine d_off 20 rfl rfl rfl (by decide) pnok (by kernel_rfl) (by kernel_rfl) (by kernel_rfl) rfl ?_
                      refine d_off 21 rfl rfl rfl (by decide) pnok (by kernel_rfl) (by kernel_rfl) (by kernel_rfl) rfl ?_
                      refine d_off 22 rfl rfl rfl (by decide) pnok (by kernel_rfl) (by kernel_rfl) (by kernel_rfl) rfl ?_
                      refine d_off 23 rfl rfl rfl (by decide) pnok (by kernel_rfl) (by kernel_rfl) (by kernel_rfl) rfl ?_
                      refine d_off 24 rfl rfl rfl (by decide) pnok (by kernel_rfl) (by kernel_rfl) (by kernel_rfl) rfl ?_
                      refine d_off 25 rfl rfl rfl (by decide) pnok (by kernel_rfl) (by kernel_rfl) (by kernel_rfl) rfl ?_
                      refine d_off 26 rfl rfl rfl (by decide) pnok (by kernel_rfl) (by kernel_rfl) (by kernel_rfl) rfl ?_
                      refine d_off 27 rfl rfl rfl (by decide) pnok (by kernel_rfl) (by kernel_rfl) (by kernel_rfl) rfl ?_
                      refine d_off 28 rfl rfl rfl (by decide) pnok (by kernel_rfl) (by kernel_rfl) (by kernel_rfl) rfl ?_
                      refine d_off 29 rfl rfl rfl (by decide) pnok (by kernel_rfl) (by kernel_rfl) (by kernel_rfl) rfl ?_
                      refine d_val 30 rfl pnok (by kernel_rfl) (by kernel_rfl) (by kernel_rfl) rfl (v_pick_t rfl rfl) ?_
                      refine d_val 31 rfl pnok (by kernel_rfl) (by kernel_rfl) (by kernel_rfl) rfl (v_move rfl) ?_
                      refine d_off 32 rfl rfl rfl (by decide) pnok (by kernel_rfl) (by kernel_rfl) (by kernel_rfl) rfl ?_
                      refine d_off 33 rfl rfl rfl (by decide) pnok (by kernel_rfl) (by kernel_rfl) (by kernel_rfl) rfl ?_
                      refine d_off 34 rfl rfl rfl (by decide) pnok (by kernel_rfl) (by kernel_rfl) (by kernel_rfl) rfl ?_
                      refine d_offU 35 rfl rfl rfl pnok (by kernel_rfl) (by kernel_rfl) (by kernel_rfl) rfl ?_
                      refine d_offU 36 rfl rfl rfl pnok (by kernel_rfl) (by kernel_rfl) (by kernel_rfl) rfl ?_
                      refine d_offU 37 rfl rfl rfl pnok (by kernel_rfl) (by kernel_rfl) (by kernel_rfl) rfl ?_
                      refine d_offU 38 rfl rfl rfl pnok (by kernel_rfl) (by kernel_rfl) (by kernel_rfl) rfl ?_
                      refine d_offU 39 rfl rfl rfl pnok (by kernel_rfl) (by kernel_rfl) (by kernel_rfl) rfl ?_
                      refine d_offU 40 rfl rfl rfl pnok (by kernel_rfl) (by kernel_rfl) (by kernel_rfl) rfl ?_
                      refine d_offU 41 rfl rfl rfl pnok (by kernel_rfl) (by kernel_rfl) (by kernel_rfl) rfl ?_
                      refine d_offU 42 rfl rfl rfl pnok (by kernel_rfl) (by kernel_rfl) (by kernel_rfl) rfl ?_
                      refine d_offU 43 rfl rfl rfl pnok (by kernel_rfl) (by kernel_rfl) (by kernel_rfl) rfl ?_
                      refine d_offU 44 rfl rfl rfl pnok (by kernel_rfl) (by kernel_rfl) (by kernel_rfl) rfl ?_
                      refine d_offU 45 rfl rfl rfl pnok (by kernel_rfl) (by kernel_rfl) (by kernel_rfl) rfl ?_
                      refine d_offU 46 rfl rfl rfl pnok (by kernel_rfl) (by kernel_rfl) (by kernel_rfl) rfl ?_
                      refine d_off 47 rfl rfl rfl (by decide) pnok (by kernel_rfl) (by kernel_rfl) (by kernel_rfl) rfl ?_
                      refine d_val 48 rfl pnok (by kernel_rfl) (by kernel_rfl) (by kernel_rfl) rfl (v_pick_t rfl rfl) ?_
                      refine d_done (by kernel_rfl) ?_
                      refine s_st ?_ (hN4 true hL3)
                      exact st_le [0, 0] (le_cons rfl (le_cons rfl (le_cons rfl (le_cons rfl (le_cons rfl (le_cons rfl le_nil)))))) rfl (sub_cons 0 rfl (sub_cons 1 rfl sub_nil))
                    · replace hL3 := ite_f h10 hL3
                      refine d_val_on 7 rfl rfl rfl pnok (by kernel_rfl) (by kernel_rfl) (by kernel_rfl) rfl (v_move rfl) ?_
                      refine d_val_on 8 rfl rfl rfl pnok (by kernel_rfl) (by kernel_rfl) (by kernel_rfl) rfl (v_move rfl) ?_
                      refine d_val_on 9 rfl rfl rfl pnok (by kernel_rfl) (by kernel_rfl) (by kernel_rfl) rfl (v_indexAddr_s (xs := v3) (enc := eRun) sl56 rfl rfl (.r 1 _ rfl) h9) ?_
                      refine d_val_on 10 rfl rfl rfl pnok (by kernel_rfl) (by kernel_rfl) (by kernel_rfl) rfl (v_fieldAddr (v := .pointer (some ⟨blkA sa2, offA sa2 + (Int.toNat i * 2 + 0), none⟩)) rfl (fun _ => by kernel_rfl)) ?_
                      refine d_val_on 11 rfl rfl rfl pnok (by kernel_rfl) (by kernel_rfl) (by kernel_rfl) rfl (v_load_s (xs := v3) (enc := eRun) ty3 rfl (.r 1 _ rfl) h9 rfl rfl rfl rfl rfl rfl rfl) ?_
                      refine d_val_on 12 rfl rfl rfl pnok (by kernel_rfl) (by kernel_rfl) (by kernel_rfl) rfl (v_move rfl) ?_
                      refine d_val_on 13 rfl rfl rfl pnok (by kernel_rfl) (by kernel_rfl) (by kernel_rfl) rfl (v_move rfl) ?_
                      refine d_val_on 14 rfl rfl rfl pnok (by kernel_rfl) (by kernel_rfl) (by kernel_rfl) rfl (v_indexAddr_s (xs := v3) (enc := eRun) sl56 rfl rfl (.r 1 _ rfl) h9) ?_
                      refine d_val_on 15 rfl rfl rfl pnok (by kernel_rfl) (by kernel_rfl) (by kernel_rfl) rfl (v_fieldAddr (v := .pointer (some ⟨blkA sa2, offA sa2 + (Int.toNat i * 2 + 1), none⟩)) rfl (fun _ => by kernel_rfl)) ?_
                      refine d_val_on 16 rfl rfl rfl pnok (by kernel_rfl) (by kernel_rfl) (by kernel_rfl) rfl (v_load_s (xs := v3) (enc := eRun) ty3 rfl (.r 1 _ rfl) h9 rfl rfl rfl rfl rfl rfl rfl) ?_
                      refine d_val_on 17 rfl rfl rfl pnok (by kernel_rfl) (by kernel_rfl) (by kernel_rfl) rfl (v_bin rfl rfl rfl) ?_
                      refine d_val 18 rfl pnok (by kernel_rfl) (by kernel_rfl) (by kernel_rfl) rfl (v_pick_f rfl rfl) ?_
                      refine d_val 19 rfl pnok (by kernel_rfl) (by kernel_rfl) (by kernel_rfl) rfl (v_move rfl) ?_
                      refine d_split (t := 96) rfl (fun h11 => ?_) (fun h11 => ?_)
                      · replace hL3 := ite_t h11 hL3
                        refine d_off 20 rfl rfl rfl (by decide) pnok (by kernel_rfl) (by kernel_rfl) (by kernel_rfl) rfl ?_
                        refine d_off 21 rfl rfl rfl (by decide) pnok (by kernel_rfl) (by kernel_rfl) (by kernel_rfl) rfl ?_
                        refine d_off 22 rfl rfl rfl (by decide) pnok (by kernel_rfl) (by kernel_rfl) (by kernel_rfl) rfl ?_
                        refine d_off 23 rfl rfl rfl (by decide) pnok (by kernel_rfl) (by kernel_rfl) (by kernel_rfl) rfl ?_
                        refine d_off 24 rfl rfl rfl (by decide) pnok (by kernel_rfl) (by kernel_rfl) (by kernel_rfl) rfl ?_
                        refine d_off 25 rfl rfl rfl (by decide) pnok (by kernel_rfl) (by kernel_rfl) (by kernel_rfl) rfl ?_
                        refine d_off 26 rfl rfl rfl (by decide) pnok (by kernel_rfl) (by kernel_rfl) (by kernel_rfl) rfl ?_
                        refine d_off 27 rfl rfl rfl (by decide) pnok (by kernel_rfl) (by kernel_rfl) (by kernel_rfl) rfl ?_
                        refine d_off 28 rfl rfl rfl (by decide) pnok (by kernel_rfl) (by kernel_rfl) (by kernel_rfl) rfl ?_
                        refine d_off 29 rfl rfl rfl (by decide) pnok (by kernel_rfl) (by kernel_rfl) (by kernel_rfl) rfl ?_
                        refine d_val 30 rfl pnok (by kernel_rfl) (by kernel_rfl) (by kernel_rfl) rfl (v_pick_t rfl rfl) ?_
                        refine d_val 31 rfl pnok (by kernel_rfl) (by kernel_rfl) (by kernel_rfl) rfl (v_move rfl) ?_
                        refine d_off 32 rfl rfl rfl (by decide) pnok (by kernel_rfl) (by kernel_rfl) (by kernel_rfl) rfl ?_
                        refine d_off 33 rfl rfl rfl (by decide) pnok (by kernel_rfl) (by kernel_rfl) (by kernel_rfl) rfl ?_
                        refine d_off 34 rfl rfl rfl (by decide) pnok (by kernel_rfl) (by kernel_rfl) (by kernel_rfl) rfl ?_
                        refine d_offU 35 rfl rfl rfl pnok (by kernel_rfl) (by kernel_rfl) (by kernel_rfl) rfl ?_
                        refine d_offU 36 rfl rfl rfl pnok (by kernel_rfl) (by kernel_rfl) (by kernel_rfl) rfl ?_
                        refine d_offU 37 rfl rfl rfl pnok (by kernel_rfl) (by kernel_rfl) (by kernel_rfl) rfl ?_
                        refine d_offU 38 rfl rfl rfl pnok (by kernel_rfl) (by kernel_rfl) (by kernel_rfl) rfl ?_
                        refine d_offU 39 rfl rfl rfl pnok (by kernel_rfl) (by kernel_rfl) (by kernel_rfl) rfl ?_
                        refine d_offU 40 rfl rfl rfl pnok (by kernel_rfl) (by kernel_rfl) (by kernel_rfl) rfl ?_
                        refine d_offU 41 rfl rfl rfl pnok (by kernel_rfl) (by kernel_rfl) (by kernel_rfl) rfl ?_
                        refine d_offU 42 rfl rfl rfl pnok (by kernel_rfl) (by kernel_rfl) (by kernel_rfl) rfl ?_
                        refine d_offU 43 rfl rfl rfl pnok (by kernel_rfl) (by kernel_rfl) (by kernel_rfl) rfl ?_
                        refine d_offU 44 rfl rfl rfl pnok (by kernel_rfl) (by kernel_rfl) (by kernel_rfl) rfl ?_
                        refine d_offU 45 rfl rfl rfl pnok (by kernel_rfl) (by kernel_rfl) (by kernel_rfl) rfl ?_
                        refine d_offU 46 rfl rfl rfl pnok (by kernel_rfl) (by kernel_rfl) (by kernel_rfl) rfl ?_
                        refine d_off 47 rfl rfl rfl (by decide) pnok (by kernel_rfl) (by kernel_rfl) (by kernel_rfl) rfl ?_
                        refine d_val 48 rfl pnok (by kernel_rfl) (by kernel_rfl) (by kernel_rfl) rfl (v_pick_t rfl rfl) ?_
                        refine d_done (by kernel_rfl) ?_
                        refine s_st ?_ (hN4 true hL3)
                        exact st_le [0, 0] (le_cons rfl (le_cons rfl (le_cons rfl (le_cons rfl (le_cons rfl (le_cons rfl le_nil)))))) rfl (sub_cons 0 rfl (sub_cons 1 rfl sub_nil))
                      · replace hL3 := ite_f h11 hL3
                        refine d_val_on 20 rfl rfl rfl pnok (by kernel_rfl) (by kernel_rfl) (by kernel_rfl) rfl (v_move rfl) ?_
                        refine d_val_on 21 rfl rfl rfl pnok (by kernel_rfl) (by kernel_rfl) (by kernel_rfl) rfl (v_move rfl) ?_
                        refine d_val_on 22 rfl rfl rfl pnok (by kernel_rfl) (by kernel_rfl) (by kernel_rfl) rfl (v_indexAddr_s (xs := v3) (enc := eRun) sl56 rfl rfl (.r 1 _ rfl) h9) ?_
                        refine d_val_on 23 rfl rfl rfl pnok (by kernel_rfl) (by kernel_rfl) (by kernel_rfl) rfl (v_fieldAddr (v := .pointer (some ⟨blkA sa2, offA sa2 + (Int.toNat i * 2 + 1), none⟩)) rfl (fun _ => by kernel_rfl)) ?_
                        refine d_val_on 24 rfl rfl rfl pnok (by kernel_rfl) (by kernel_rfl) (by kernel_rfl) rfl (v_load_s (xs := v3) (enc := eRun) ty3 rfl (.r 1 _ rfl) h9 rfl rfl rfl rfl rfl rfl rfl) ?_
                        refine d_val_on 25 rfl rfl rfl pnok (by kernel_rfl) (by kernel_rfl) (by kernel_rfl) rfl (v_move rfl) ?_
                        refine ite_some hL3 fun h12 hL3 => ?_
                        refine d_val_on 26 rfl rfl rfl pnok (by kernel_rfl) (by kernel_rfl) (by kernel_rfl) rfl (v_indexAddr_s (xs := v3) (enc := eRun) sl56 rfl rfl (.r 1 _ rfl) h12) ?_
                        refine d_val_on 27 rfl rfl rfl pnok (by kernel_rfl) (by kernel_rfl) (by kernel_rfl) rfl (v_fieldAddr (v := .pointer (some ⟨blkA sa2, offA sa2 + (Int.toNat 0 * 2 + 1), none⟩)) rfl (fun _ => by kernel_rfl)) ?_
                        refine d_val_on 28 rfl rfl rfl pnok (by kernel_rfl) (by kernel_rfl) (by kernel_rfl) rfl (v_load_s (xs := v3) (enc := eRun) ty3 rfl (.r 1 _ rfl) h12 rfl rfl rfl rfl rfl rfl rfl) ?_
                        refine d_val_on 29 rfl rfl rfl pnok (by kernel_rfl) (by kernel_rfl) (by kernel_rfl) rfl (v_bin rfl rfl rfl) ?_
                        refine d_val 30 rfl pnok (by kernel_rfl) (by kernel_rfl) (by kernel_rfl) rfl (v_pick_f rfl rfl) ?_
                        refine d_val 31 rfl pnok (by kernel_rfl) (by kernel_rfl) (by kernel_rfl) rfl (v_move rfl) ?_
                        refine d_split (t := 108) rfl (fun h13 => ?_) (fun h13 => ?_)
                        · replace hL3 := ite_t h13 hL3
                          refine d_off 32 rfl rfl rfl (by decide) pnok (by kernel_rfl) (by kernel_rfl) (by kernel_rfl) rfl ?_
                          refine d_off 33 rfl rfl rfl (by decide) pnok (by kernel_rfl) (by kernel_rfl) (by kernel_rfl) rfl ?_
                          refine d_off 34 rfl rfl rfl (by decide) pnok (by kernel_rfl) (by kernel_rfl) (by kernel_rfl) rfl ?_
                          refine d_offU 35 rfl rfl rfl pnok (by kernel_rfl) (by kernel_rfl) (by kernel_rfl) rfl ?_
                          refine d_offU 36 rfl rfl rfl pnok (by kernel_rfl) (by kernel_rfl) (by kernel_rfl) rfl ?_
                          refine d_offU 37 rfl rfl rfl pnok (by kernel_rfl) (by kernel_rfl) (by kernel_rfl) rfl ?_
                          refine d_offU 38 rfl rfl rfl pnok (by kernel_rfl) (by kernel_rfl) (by kernel_rfl) rfl ?_
                          refine d_offU 39 rfl rfl rfl pnok (by kernel_rfl) (by kernel_rfl) (by kernel_rfl) rfl ?_
                          refine d_offU 40 rfl rfl rfl pnok (by kernel_rfl) (by kernel_rfl) (by kernel_rfl) rfl ?_
                          refine d_offU 41 rfl rfl rfl pnok (by kernel_rfl) (by kernel_rfl) (by kernel_rfl) rfl ?_
                          refine d_offU 42 rfl rfl rfl pnok (by kernel_rfl) (by kernel_rfl) (by kernel_rfl) rfl ?_
                          refine d_offU 43 rfl rfl rfl pnok (by kernel_rfl) (by kernel_rfl) (by kernel_rfl) rfl ?_
                          refine d_offU 44 rfl rfl rfl pnok (by kernel_rfl) (by kernel_rfl) (by kernel_rfl) rfl ?_
                          refine d_offU 45 rfl rfl rfl pnok (by kernel_rfl) (by kernel_rfl) (by kernel_rfl) rfl ?_
                          refine d_offU 46 rfl rfl rfl pnok (by kernel_rfl) (by kernel_rfl) (by kernel_rfl) rfl ?_
                          refine d_off 47 rfl rfl rfl (by decide) pnok (by kernel_rfl) (by kernel_rfl) (by kernel_rfl) rfl ?_
                          refine d_val 48 rfl pnok (by kernel_rfl) (by kernel_rfl) (by kernel_rfl) rfl (v_pick_t rfl rfl) ?_
                          refine d_done (by kernel_rfl) ?_
                          refine s_st ?_ (hN4 true hL3)
                          exact st_le [0, 0] (le_cons rfl (le_cons rfl (le_cons rfl (le_cons rfl (le_cons rfl (le_cons rfl le_nil)))))) rfl (sub_cons 0 rfl (sub_cons 1 rfl sub_nil))
                        · replace hL3 := ite_f h13 hL3
                          refine d_val_on 32 rfl rfl rfl pnok (by kernel_rfl) (by kernel_rfl) (by kernel_rfl) rfl (v_move rfl) ?_
                          refine d_val_on 33 rfl rfl rfl pnok (by kernel_rfl) (by kernel_rfl) (by kernel_rfl) rfl (v_bin rfl rfl rfl) ?_
                          refine d_val_on 34 rfl rfl rfl pnok (by kernel_rfl) (by kernel_rfl) (by kernel_rfl) rfl (v_move rfl) ?_
                          refine d_split (t := 111) rfl (fun h14 => ?_) (fun h14 => ?_)
                          · replace hL3 := ite_t h14 hL3
                            refine d_val_on 35 rfl rfl rfl pnok (by kernel_rfl) (by kernel_rfl) (by kernel_rfl) rfl (v_move rfl) ?_
                            refine d_val_on 36 rfl rfl rfl pnok (by kernel_rfl) (by kernel_rfl) (by kernel_rfl) rfl (v_move rfl) ?_
                            refine d_val_on 37 rfl rfl rfl pnok (by kernel_rfl) (by kernel_rfl) (by kernel_rfl) rfl (v_indexAddr_s (xs := v3) (enc := eRun) sl56 rfl rfl (.r 1 _ rfl) h9) ?_
                            refine d_val_on 38 rfl rfl rfl pnok (by kernel_rfl) (by kernel_rfl) (by kernel_rfl) rfl (v_fieldAddr (v := .pointer (some ⟨blkA sa2, offA sa2 + (Int.toNat i * 2 + 0), none⟩)) rfl (fun _ => by kernel_rfl)) ?_
                            refine d_val_on 39 rfl rfl rfl pnok (by kernel_rfl) (by kernel_rfl) (by kernel_rfl) rfl (v_load_s (xs := v3) (enc := eRun) ty3 rfl (.r 1 _ rfl) h9 rfl rfl rfl rfl rfl rfl rfl) ?_
                            refine d_val_on 40 rfl rfl rfl pnok (by kernel_rfl) (by kernel_rfl) (by kernel_rfl) rfl (v_move rfl) ?_
                            refine d_val_on 41 rfl rfl rfl pnok (by kernel_rfl) (by kernel_rfl) (by kernel_rfl) rfl (v_move rfl) ?_
                            refine d_val_on 42 rfl rfl rfl pnok (by kernel_rfl) (by kernel_rfl) (by kernel_rfl) rfl (v_bin rfl rfl rfl) ?_
                            refine ite_some hL3 fun h15 hL3 => ?_
                            refine d_val_on 43 rfl rfl rfl pnok (by kernel_rfl) (by kernel_rfl) (by kernel_rfl) rfl (v_indexAddr_s (xs := v3) (enc := eRun) sl56 rfl rfl (.r 1 _ rfl) h15) ?_
                            refine d_val_on 44 rfl rfl rfl pnok (by kernel_rfl) (by kernel_rfl) (by kernel_rfl) rfl (v_fieldAddr (v := .pointer (some ⟨blkA sa2, offA sa2 + (Int.toNat (IntKind.wrap .i64 (i - 1)) * 2 + 0), none⟩)) rfl (fun _ => by kernel_rfl)) ?_
                            refine d_val_on 45 rfl rfl rfl pnok (by kernel_rfl) (by kernel_rfl) (by kernel_rfl) rfl (v_load_s (xs := v3) (enc := eRun) ty3 rfl (.r 1 _ rfl) h15 rfl rfl rfl rfl rfl rfl rfl) ?_
                            refine d_val_on 46 rfl rfl rfl pnok (by kernel_rfl) (by kernel_rfl) (by kernel_rfl) rfl (v_bin rfl rfl rfl) ?_
                            refine d_val_on 47 rfl rfl rfl pnok (by kernel_rfl) (by kernel_rfl) (by kernel_rfl) rfl (v_pick_t rfl rfl) ?_
                            refine d_val 48 rfl pnok (by kernel_rfl) (by kernel_rfl) (by kernel_rfl) rfl (v_pick_f rfl rfl) ?_
                            refine d_done (by kernel_rfl) ?_
                            refine s_st ?_ (hN4 (decide (((at_ v3 i).Lo) < ((at_ v3 (IntKind.wrap .i64 (i - 1))).Lo))) hL3)
                            exact st_le [0, 0] (le_cons rfl (le_cons rfl (le_cons rfl (le_cons rfl (le_cons rfl (le_cons rfl le_nil)))))) rfl (sub_cons 0 rfl (sub_cons 1 rfl sub_nil))
                          · replace hL3 := ite_f h14 hL3
                            refine d_off 35 rfl rfl rfl (by decide) pnok (by kernel_rfl) (by kernel_rfl) (by kernel_rfl) rfl ?_
                            refine d_off 36 rfl rfl rfl (by decide) pnok (by kernel_rfl) (by kernel_rfl) (by kernel_rfl) rfl ?_
                            refine d_off 37 rfl rfl rfl (by decide) pnok (by kernel_rfl) (by kernel_rfl) (by kernel_rfl) rfl ?_
                            refine d_off 38 rfl rfl rfl (by decide) pnok (by kernel_rfl) (by kernel_rfl) (by kernel_rfl) rfl ?_
                            refine d_off 39 rfl rfl rfl (by decide) pnok (by kernel_rfl) (by kernel_rfl) (by kernel_rfl) rfl ?_
                            refine d_off 40 rfl rfl rfl (by decide) pnok (by kernel_rfl) (by kernel_rfl) (by kernel_rfl) rfl ?_
                            refine d_off 41 rfl rfl rfl (by decide) pnok (by kernel_rfl) (by kernel_rfl) (by kernel_rfl) rfl ?_
                            refine d_off 42 rfl rfl rfl (by decide) pnok (by kernel_rfl) (by kernel_rfl) (by kernel_rfl) rfl ?_
                            refine d_off 43 rfl rfl rfl (by decide) pnok (by kernel_rfl) (by kernel_rfl) (by kernel_rfl) rfl ?_
                            refine d_off 44 rfl rfl rfl (by decide) pnok (by kernel_rfl) (by kernel_rfl) (by kernel_rfl) rfl ?_
                            refine d_off 45 rfl rfl rfl (by decide) pnok (by kernel_rfl) (by kernel_rfl) (by kernel_rfl) rfl ?_
                            refine d_off 46 rfl rfl rfl (by decide) pnok (by kernel_rfl) (by kernel_rfl) (by kernel_rfl) rfl ?_
                            refine d_val_on 47 rfl rfl rfl pnok (by kernel_rfl) (by kernel_rfl) (by kernel_rfl) rfl (v_pick_f rfl rfl) ?_
                            refine d_val 48 rfl pnok (by kernel_rfl) (by kernel_rfl) (by kernel_rfl) rfl (v_pick_f rfl rfl) ?_
                            refine d_done (by kernel_rfl) ?_
                            refine s_st ?_ (hN4 false hL3)
                            exact st_le [0, 0] (le_cons rfl (le_cons rfl (le_cons rfl (le_cons rfl (le_cons rfl (le_cons rfl le_nil)))))) rfl (sub_cons 0 rfl (sub_cons 1 rfl sub_nil))
                  · intro t125 hL3
                    unfold F.law09.TreesYield_j4 at hL3
                    refine sat_wc ?_
                    refine c_cond rfl (fun h8 => ?_) (fun h8 => ?_)
                    · replace hL3 := ite_t h8 hL3
                      refine c_seq ?_
                      refine c_region ?_
                      refine o_v (v_assign rfl) rfl ?_
                      refine o_seq ?_
                      refine c_ret ?_
                      cases hL3
                      obtain rfl := lrf_ret hF
                      refine s_ret1 rfl (r_tmp rfl) fun a w hs => ?_
                      exact fin_sel hs [] ⟨rfl, rfl, rfl⟩ rfl sub_nil
                    · replace hL3 := ite_f h8 hL3
                      refine c_skip ?_
                      refine sat_wc ?_
                      refine c_region ?_
                      refine o_v (v_move rfl) rfl ?_
                      refine o_v (v_bin rfl rfl rfl) rfl ?_
                      refine o_v (v_assign rfl) rfl ?_
                      refine o_nil ?_
                      intro a w hs
                      exact ⟨j, Nat.lt_succ_self j, IntKind.wrap .i64 (i + 1), hL3, st_le [0, 0] (le_cons rfl (le_cons rfl (le_cons rfl (le_cons rfl (le_cons rfl le_nil))))) rfl (sub_cons 0 rfl (sub_cons 1 rfl sub_nil)) a w hs⟩
                · replace hL3 := ite_f h7 hL3
                  refine c_exit0 ?_
                  cases hL3
                  refine s_st ?_ (hN3 () rfl)
                  exact st_le [0, 0] (le_cons rfl (le_cons rfl (le_cons rfl (le_cons rfl le_nil)))) rfl (sub_cons 0 rfl (sub_cons 1 rfl sub_nil))
          · intro d3 hd
            subst hd
            replace hF := lrf_done hF
            refine sat_wc ?_
            refine c_seq ?_
            refine c_region ?_
            obtain ⟨v4, h16, hF⟩ := bd hF
            refine o_callSB call15 rfl (lent_f 0 rfl lent_nil) (tri15 k v4 h16) rfl ?_
            refine o_v (v_assign rfl) rfl ?_
            refine o_seq ?_
            refine c_ret ?_
            cases hF
            refine s_ret1 rfl (r_tmp rfl) fun a w hs => ?_
            exact fin_sel hs [] ⟨rfl, rfl, rfl⟩ rfl sub_nil
theorem tri25_B (k : Nat) (g25 : Tree → List Int → Option (Tree × Int))
    (hg25 : ∀ (t : Tree) (path : List Int) (sa1 : Option Addr) (sn1 sc1 : Nat) (sa2 : Option Addr) (sn2 sc2 : Nat) (r : Tree × Int), g25 t path = some r → Tri Tryd.prog 25 [.agg #[.int .i64 t.Rule, .int .u8 t.Byte, .slice sa1 sn1 sc1], .slice sa2 sn2 sc2] [] [(.slice sa1 sn1 sc1, .slice 3 (t.Kids.map eTree)), (.slice sa2 sn2 sc2, .slice 1 (path.map eI64))] (fun o H Φ => ∃ (sa7 : Option Addr) (sn7 sc7 : Nat), o = .ret (.tuple #[.agg #[.int .i64 r.1.Rule, .int .u8 r.1.Byte, .slice sa7 sn7 sc7], .int .i64 r.2]) ∧ H = [] ∧ Φ = [(.slice sa7 sn7 sc7, .slice 3 (r.1.Kids.map eTree))])) (t : Tree) (path : List Int) (sa1 : Option Addr) (sn1 sc1 : Nat) (sa2 : Option Addr) (sn2 sc2 : Nat) (r : Tree × Int) (hF : F.ref09.At_B k g25 t path = some r) :
    Tri Tryd.prog 25 [.agg #[.int .i64 t.Rule, .int .u8 t.Byte, .slice sa1 sn1 sc1], .slice sa2 sn2 sc2] [] [(.slice sa1 sn1 sc1, .slice 3 (t.Kids.map eTree)), (.slice sa2 sn2 sc2, .slice 1 (path.map eI64))] (fun o H Φ => ∃ (sa7 : Option Addr) (sn7 sc7 : Nat), o = .ret (.tuple #[.agg #[.int .i64 r.1.Rule, .int .u8 r.1.Byte, .slice sa7 sn7 sc7], .int .i64 r.2]) ∧ H = [] ∧ Φ = [(.slice sa7 sn7 sc7, .slice 3 (r.1.Kids.map eTree))]) := by
  unfold F.ref09.At_B at hF
  refine tri_intro (n := 37) Tryd.func25 rfl Tryd.ntmps25 rfl fun w X => ?_
  refine c_seq ?_
  refine c_region ?_
  refine o_box rfl rfl rfl fun b => ?_
  refine o_alloc zero27 rfl rfl fun b1 => ?_
  refine o_v (v_assign rfl) rfl ?_
  refine o_seq ?_
  refine c_seq ?_
  refine c_seq ?_
  refine c_region ?_
  refine o_v (v_move rfl) rfl ?_
  refine o_v (v_lenS (enc := eI64) path sl44 rfl (.f 1 rfl)) rfl ?_
  refine o_v (v_bin rfl rfl rfl) rfl ?_
  refine o_seq ?_
  refine c_cond rfl (fun h1 => ?_) (fun h1 => ?_)
  · replace hF := ite_t h1 hF
    refine c_seq ?_
    refine c_region ?_
    refine o_v (v_load_box 1 ty27 rfl rfl rfl rfl rfl) rfl ?_
    obtain ⟨v, h2, hF⟩ := bd hF
    refine o_call0 call16 rfl (sub_cons 0 rfl sub_nil) (tri16 k t sa1 sn1 sc1 v h2) rfl ?_
    rintro _ _ _ ⟨sa3, sn3, sc3, rfl, rfl, rfl⟩
    refine o_store_box 0 rfl ty27 rfl rfl rfl rfl rfl rfl rfl ?_
    refine o_v (v_assign rfl) rfl ?_
    refine o_seq ?_
    refine c_ret ?_
    cases hF
    refine s_ret2 rfl (r_cell 0 rfl ty27 rfl rfl rfl rfl) (r_tmp rfl) fun a w hs => ?_
    exact fin_sel hs [] ⟨sa3, sn3, sc3, rfl, rfl, rfl⟩ rfl (sub_cons 0 rfl sub_nil)
  · replace hF := ite_f h1 hF
    refine c_skip ?_
    refine sat_wc ?_
    refine c_seq ?_
    refine c_seq ?_
    refine c_cut (fun E N' => ∀ (t23 : Bool), F.ref09.At_j1 path t g25 t23 = some r → Sat E [(0, .agg #[.int .i64 t.Rule, .int .u8 t.Byte, .slice sa1 sn1 sc1]), (1, .slice sa2 sn2 sc2), (2, .pointer (some ⟨b, 0, none⟩)), (4, .pointer (some ⟨b1, 0, none⟩)), (5, .int .i64 0), (23, .bool t23)] [.box b1 27 [.int .i64 0, .int .u8 0, .slice none 0 0], .box b 27 [.int .i64 t.Rule, .int .u8 t.Byte, .slice sa1 sn1 sc1]] [(.slice sa1 sn1 sc1, .slice 3 (t.Kids.map eTree)), (.slice sa2 sn2 sc2, .slice 1 (path.map eI64))] N') (fun N1 hN1 => ?_) ?_
    · refine c_draw (n := 13) [0, 0] mixed rfl rfl ?_
      refine d_val 0 rfl pnok (by kernel_rfl) (by kernel_rfl) (by kernel_rfl) rfl (v_move rfl) ?_
      refine ite_some hF fun h8 hF => ?_
      refine d_val 1 rfl pnok (by kernel_rfl) (by kernel_rfl) (by kernel_rfl) rfl (v_indexAddr_s (xs := path) (enc := eI64) sl44 rfl rfl (.f 1 rfl) h8) ?_
      refine d_val 2 rfl pnok (by kernel_rfl) (by kernel_rfl) (by kernel_rfl) rfl (v_load_s (xs := path) (enc := eI64) ty3 rfl (.f 1 rfl) h8 rfl rfl rfl rfl rfl rfl rfl) ?_
      refine d_val 3 rfl pnok (by kernel_rfl) (by kernel_rfl) (by kernel_rfl) rfl (v_bin rfl rfl rfl) ?_
      refine d_val 4 rfl pnok (by kernel_rfl) (by kernel_rfl) (by kernel_rfl) rfl (v_move rfl) ?_
      refine d_split (t := 15) rfl (fun h9 => ?_) (fun h9 => ?_)
      · replace hF := ite_t h9 hF
        refine d_off 5 rfl rfl rfl (by decide) pnok (by kernel_rfl) (by kernel_rfl) (by kernel_rfl) rfl ?_
        refine d_off 6 rfl rfl rfl (by decide) pnok (by kernel_rfl) (by kernel_rfl) (by kernel_rfl) rfl ?_
        refine d_off 7 rfl rfl rfl (by decide) pnok (by kernel_rfl) (by kernel_rfl) (by kernel_rfl) rfl ?_
        refine d_off 8 rfl rfl rfl (by decide) pnok (by kernel_rfl) (by kernel_rfl) (by kernel_rfl) rfl ?_
        refine d_off 9 rfl rfl rfl (by decide) pnok (by kernel_rfl) (by kernel_rfl) (by kernel_rfl) rfl ?_
        refine d_off 10 rfl rfl rfl (by decide) pnok (by kernel_rfl) (by kernel_rfl) (by kernel_rfl) rfl ?_
        refine d_off 11 rfl rfl rfl (by decide) pnok (by kernel_rfl) (by kernel_rfl) (by kernel_rfl) rfl ?_
        refine d_val 12 rfl pnok (by kernel_rfl) (by kernel_rfl) (by kernel_rfl) rfl (v_pick_t rfl rfl) ?_
        refine d_done (by kernel_rfl) ?_
        refine s_st ?_ (hN1 true hF)
        exact st_le [0, 0] (le_cons rfl (le_cons rfl (le_cons rfl (le_cons rfl (le_cons rfl (le_cons rfl le_nil)))))) rfl (sub_cons 0 rfl (sub_cons 1 rfl sub_nil))
      · replace hF := ite_f h9 hF
        refine d_val_on 5 rfl rfl rfl pnok (by kernel_rfl) (by kernel_rfl) (by kernel_rfl) rfl (v_move rfl) ?_
        refine d_val_on 6 rfl rfl rfl pnok (by kernel_rfl) (by kernel_rfl) (by kernel_rfl) rfl (v_indexAddr_s (xs := path) (enc := eI64) sl44 rfl rfl (.f 1 rfl) h8) ?_
        refine d_val_on 7 rfl rfl rfl pnok (by kernel_rfl) (by kernel_rfl) (by kernel_rfl) rfl (v_load_s (xs := path) (enc := eI64) ty3 rfl (.f 1 rfl) h8 rfl rfl rfl rfl rfl rfl rfl) ?_
        refine d_val_on 8 rfl rfl rfl pnok (by kernel_rfl) (by kernel_rfl) (by kernel_rfl) rfl (v_fieldAddr (v := .pointer (some ⟨b, 2, none⟩)) rfl (fun _ => by kernel_rfl)) ?_
        refine d_val_on 9 rfl rfl rfl pnok (by kernel_rfl) (by kernel_rfl) (by kernel_rfl) rfl (v_load_box 1 ty25 rfl rfl rfl rfl rfl) ?_
        refine d_val_on 10 rfl rfl rfl pnok (by kernel_rfl) (by kernel_rfl) (by kernel_rfl) rfl (v_lenS (enc := eTree) t.Kids sl25 rfl (.f 0 rfl)) ?_
        refine d_val_on 11 rfl rfl rfl pnok (by kernel_rfl) (by kernel_rfl) (by kernel_rfl) rfl (v_bin rfl rfl rfl) ?_
        refine d_val 12 rfl pnok (by kernel_rfl) (by kernel_rfl) (by kernel_rfl) rfl (v_pick_f rfl rfl) ?_
        refine d_done (by kernel_rfl) ?_
        refine s_st ?_ (hN1 (decide ((t.Kids.length : Int) ≤ (at_ path 0))) hF)
        exact st_le [0, 0] (le_cons rfl (le_cons rfl (le_cons rfl (le_cons rfl (le_cons rfl (le_cons rfl le_nil)))))) rfl (sub_cons 0 rfl (sub_cons 1 rfl sub_nil))
    · intro t23 hF
      unfold F.ref09.At_j1 at hF
      refine sat_wc ?_
      refine c_cond rfl (fun h3 => ?_) (fun h3 => ?_)
      · replace hF := ite_t h3 hF
        refine c_seq ?_
        refine c_region ?_
        refine o_v (v_build (v := .agg #[.int .i64 0, .int .u8 0, .slice none 0 0]) rfl (fun _ => by kernel_rfl)) rfl ?_
        refine o_store_box 0 rfl ty27 rfl rfl rfl rfl rfl rfl rfl ?_
        refine o_v (v_assign rfl) rfl ?_
        refine o_seq ?_
        refine c_ret ?_
        cases hF
        refine s_st (st_nilfact 3) ?_
        refine s_ret2 rfl (r_cell 0 rfl ty27 rfl rfl rfl rfl) (r_tmp rfl) fun a w hs => ?_
        exact fin_sel hs [] ⟨none, 0, 0, rfl, rfl, rfl⟩ rfl (sub_cons 0 rfl sub_nil)
      · replace hF := ite_f h3 hF
        refine c_skip ?_
        refine sat_wc ?_
        refine c_seq ?_
        refine c_draw (n := 14) [1] mixed rfl rfl ?_
        refine d_val 0 rfl pnok (by kernel_rfl) (by kernel_rfl) (by kernel_rfl) rfl (v_fieldAddr (v := .pointer (some ⟨b, 2, none⟩)) rfl (fun _ => by kernel_rfl)) ?_
        refine d_val 1 rfl pnok (by kernel_rfl) (by kernel_rfl) (by kernel_rfl) rfl (v_load_box 0 ty25 rfl rfl rfl rfl rfl) ?_
        refine d_val 2 rfl pnok (by kernel_rfl) (by kernel_rfl) (by kernel_rfl) rfl (v_move rfl) ?_
        refine ite_some hF fun h4 hF => ?_
        refine d_val 3 rfl pnok (by kernel_rfl) (by kernel_rfl) (by kernel_rfl) rfl (v_indexAddr_s (xs := path) (enc := eI64) sl44 rfl rfl (.f 1 rfl) h4) ?_
        refine d_val 4 rfl pnok (by kernel_rfl) (by kernel_rfl) (by kernel_rfl) rfl (v_load_s (xs := path) (enc := eI64) ty3 rfl (.f 1 rfl) h4 rfl rfl rfl rfl rfl rfl rfl) ?_
        refine ite_some hF fun h5 hF => ?_
        refine d_val 5 rfl pnok (by kernel_rfl) (by kernel_rfl) (by kernel_rfl) rfl (v_indexAddr_s (xs := t.Kids) (enc := eTree) sl25 rfl rfl (.f 0 rfl) h5) ?_
        refine d_val 7 rfl pnok (by kernel_rfl) (by kernel_rfl) (by kernel_rfl) rfl (v_move rfl) ?_
        obtain ⟨v1, h6, hF⟩ := bd hF
        refine d_all [6, 8] (by kernel_rfl) (by simp) ⟨⟨_, rfl, ?_⟩, ⟨_, rfl, ?_⟩, trivial⟩
        · refine o_load_s (ds := [.int .i64 ((at_ t.Kids (at_ path 0)).Rule), .int .u8 ((at_ t.Kids (at_ path 0)).Byte), .slice 3 (((at_ t.Kids (at_ path 0)).Kids).map eTree)]) (xs := t.Kids) (enc := eTree) ty27 rfl (.f 0 rfl) h5 (by simp only [eTree_eq] <;> rfl) rfl rfl rfl rfl rfl fun sa4 sn4 sc4 => ?_
          refine d_next [1] 1 rfl rfl ?_
          refine d_one 8 rfl (by kernel_rfl) ?_
          refine ite_some hF fun h7 hF => ?_
          refine o_cutS (enc := eI64) (xs := path) 2 sl44 rfl rfl rfl rfl rfl rfl h7 rfl fun sa5 sn5 sc5 => ?_
          refine d_next [1] 2 rfl rfl ?_
          refine d_one 9 rfl (by kernel_rfl) ?_
          refine o_call0 call25 rfl (sub_cons 1 rfl (sub_cons 0 rfl sub_nil)) (hg25 (at_ t.Kids (at_ path 0)) (sub path 1 (path.length : Int)) sa4 sn4 sc4 sa5 sn5 sc5 v1 h6) rfl ?_
          rintro _ _ _ ⟨sa6, sn6, sc6, rfl, rfl, rfl⟩
          refine d_next [1] 3 rfl rfl ?_
          refine d_val 10 rfl pnok (by kernel_rfl) (by kernel_rfl) (by kernel_rfl) rfl (v_extract rfl rfl) ?_
          refine d_val 11 rfl pnok (by kernel_rfl) (by kernel_rfl) (by kernel_rfl) rfl (v_extract rfl rfl) ?_
          refine d_one 12 rfl (by kernel_rfl) ?_
          refine o_store_box 0 rfl ty27 rfl rfl rfl rfl rfl rfl rfl ?_
          refine d_next [1] 3 rfl rfl ?_
          refine d_val 13 rfl pnok (by kernel_rfl) (by kernel_rfl) (by kernel_rfl) rfl (v_assign rfl) ?_
          refine d_done_seq (by kernel_rfl) ?_
          refine c_ret ?_
          cases hF
          refine s_ret2 rfl (r_cell 0 rfl ty27 rfl rfl rfl rfl) (r_tmp rfl) fun a w hs => ?_
          exact fin_sel hs [] ⟨sa6, sn6, sc6, rfl, rfl, rfl⟩ rfl (sub_cons 0 rfl sub_nil)
        · refine ite_some hF fun h7 hF => ?_
          refine o_cutS (enc := eI64) (xs := path) 1 sl44 rfl rfl rfl rfl rfl rfl h7 rfl fun sa4 sn4 sc4 => ?_
          refine d_next [1] 1 rfl rfl ?_
          refine d_one 6 rfl (by kernel_rfl) ?_
          refine o_load_s (ds := [.int .i64 ((at_ t.Kids (at_ path 0)).Rule), .int .u8 ((at_ t.Kids (at_ path 0)).Byte), .slice 3 (((at_ t.Kids (at_ path 0)).Kids).map eTree)]) (xs := t.Kids) (enc := eTree) ty27 rfl (.f 1 rfl) h5 (by simp only [eTree_eq] <;> rfl) rfl rfl rfl rfl rfl fun sa5 sn5 sc5 => ?_
          refine d_next [1] 2 rfl rfl ?_
          refine d_one 9 rfl (by kernel_rfl) ?_
          refine o_call0 call25 rfl (sub_cons 0 rfl (sub_cons 1 rfl sub_nil)) (hg25 (at_ t.Kids (at_ path 0)) (sub path 1 (path.length : Int)) sa5 sn5 sc5 sa4 sn4 sc4 v1 h6) rfl ?_
          rintro _ _ _ ⟨sa6, sn6, sc6, rfl, rfl, rfl⟩
          refine d_next [1] 3 rfl rfl ?_
          refine d_val 10 rfl pnok (by kernel_rfl) (by kernel_rfl) (by kernel_rfl) rfl (v_extract rfl rfl) ?_
          refine d_val 11 rfl pnok (by kernel_rfl) (by kernel_rfl) (by kernel_rfl) rfl (v_extract rfl rfl) ?_
          refine d_one 12 rfl (by kernel_rfl) ?_
          refine o_store_box 0 rfl ty27 rfl rfl rfl rfl rfl rfl rfl ?_
          refine d_next [1] 3 rfl rfl ?_
          refine d_val 13 rfl pnok (by kernel_rfl) (by kernel_rfl) (by kernel_rfl) rfl (v_assign rfl) ?_
          refine d_done_seq (by kernel_rfl) ?_
          refine c_ret ?_
          cases hF
          refine s_ret2 rfl (r_cell 0 rfl ty27 rfl rfl rfl rfl) (r_tmp rfl) fun a w hs => ?_
          exact fin_sel hs [] ⟨sa6, sn6, sc6, rfl, rfl, rfl⟩ rfl (sub_cons 0 rfl sub_nil)
theorem tri25 (k : Nat) : (∀ (t : Tree) (path : List Int) (sa1 : Option Addr) (sn1 sc1 : Nat) (sa2 : Option Addr) (sn2 sc2 : Nat) (r : Tree × Int), F.ref09.At k t path = some r → Tri Tryd.prog 25 [.agg #[.int .i64 t.Rule, .int .u8 t.Byte, .slice sa1 sn1 sc1], .slice sa2 sn2 sc2] [] [(.slice sa1 sn1 sc1, .slice 3 (t.Kids.map eTree)), (.slice sa2 sn2 sc2, .slice 1 (path.map eI64))] (fun o H Φ => ∃ (sa7 : Option Addr) (sn7 sc7 : Nat), o = .ret (.tuple #[.agg #[.int .i64 r.1.Rule, .int .u8 r.1.Byte, .slice sa7 sn7 sc7], .int .i64 r.2]) ∧ H = [] ∧ Φ = [(.slice sa7 sn7 sc7, .slice 3 (r.1.Kids.map eTree))])) := by
  induction k with
  | zero => exact fun _ _ _ _ _ _ _ _ _ h => nomatch (show none = some _ from h)
  | succ k ih => exact tri25_B k _ ih
theorem tri27_B (k : Nat) (g27 : Tree → List Int → Tree → Option (Tree × Int))
    (hg27 : ∀ (t : Tree) (path : List Int) (s : Tree) (sa1 : Option Addr) (sn1 sc1 : Nat) (sa2 : Option Addr) (sn2 sc2 : Nat) (sa3 : Option Addr) (sn3 sc3 : Nat) (r : Tree × Int), g27 t path s = some r → Tri Tryd.prog 27 [.agg #[.int .i64 t.Rule, .int .u8 t.Byte, .slice sa1 sn1 sc1], .slice sa2 sn2 sc2, .agg #[.int .i64 s.Rule, .int .u8 s.Byte, .slice sa3 sn3 sc3]] [] [(.slice sa1 sn1 sc1, .slice 3 (t.Kids.map eTree)), (.slice sa2 sn2 sc2, .slice 1 (path.map eI64)), (.slice sa3 sn3 sc3, .slice 3 (s.Kids.map eTree))] (fun o H Φ => ∃ (sa18 : Option Addr) (sn18 sc18 : Nat), o = .ret (.tuple #[.agg #[.int .i64 r.1.Rule, .int .u8 r.1.Byte, .slice sa18 sn18 sc18], .int .i64 r.2]) ∧ H = [] ∧ Φ = [(.slice sa18 sn18 sc18, .slice 3 (r.1.Kids.map eTree))])) (t : Tree) (path : List Int) (s : Tree) (sa1 : Option Addr) (sn1 sc1 : Nat) (sa2 : Option Addr) (sn2 sc2 : Nat) (sa3 : Option Addr) (sn3 sc3 : Nat) (r : Tree × Int) (hF : F.ref09.Put_B k g27 t path s = some r) :
    Tri Tryd.prog 27 [.agg #[.int .i64 t.Rule, .int .u8 t.Byte, .slice sa1 sn1 sc1], .slice sa2 sn2 sc2, .agg #[.int .i64 s.Rule, .int .u8 s.Byte, .slice sa3 sn3 sc3]] [] [(.slice sa1 sn1 sc1, .slice 3 (t.Kids.map eTree)), (.slice sa2 sn2 sc2, .slice 1 (path.map eI64)), (.slice sa3 sn3 sc3, .slice 3 (s.Kids.map eTree))] (fun o H Φ => ∃ (sa18 : Option Addr) (sn18 sc18 : Nat), o = .ret (.tuple #[.agg #[.int .i64 r.1.Rule, .int .u8 r.1.Byte, .slice sa18 sn18 sc18], .int .i64 r.2]) ∧ H = [] ∧ Φ = [(.slice sa18 sn18 sc18, .slice 3 (r.1.Kids.map eTree))]) := by
  unfold F.ref09.Put_B at hF
  refine tri_intro (n := 82) Tryd.func27 rfl Tryd.ntmps27 rfl fun w X => ?_
  refine c_seq ?_
  refine c_region ?_
  refine o_box rfl rfl rfl fun b => ?_
  refine o_box rfl rfl rfl fun b1 => ?_
  refine o_alloc zero27 rfl rfl fun b2 => ?_
  refine o_v (v_assign rfl) rfl ?_
  refine o_seq ?_
  refine c_seq ?_
  refine c_seq ?_
  refine c_region ?_
  refine o_v (v_move rfl) rfl ?_
  refine o_v (v_lenS (enc := eI64) path sl44 rfl (.f 1 rfl)) rfl ?_
  refine o_v (v_bin rfl rfl rfl) rfl ?_
  refine o_seq ?_
  refine c_cond rfl (fun h1 => ?_) (fun h1 => ?_)
  · replace hF := ite_t h1 hF
    refine c_seq ?_
    refine c_region ?_
    refine o_v (v_load_box 1 ty27 rfl rfl rfl rfl rfl) rfl ?_
    obtain ⟨v, h2, hF⟩ := bd hF
    refine o_call0 call16 rfl (sub_cons 2 rfl sub_nil) (tri16 k s sa3 sn3 sc3 v h2) rfl ?_
    rintro _ _ _ ⟨sa4, sn4, sc4, rfl, rfl, rfl⟩
    refine o_store_box 0 rfl ty27 rfl rfl rfl rfl rfl rfl rfl ?_
    refine o_v (v_assign rfl) rfl ?_
    refine o_seq ?_
    refine c_ret ?_
    cases hF
    refine s_ret2 rfl (r_cell 0 rfl ty27 rfl rfl rfl rfl) (r_tmp rfl) fun a w hs => ?_
    exact fin_sel hs [] ⟨sa4, sn4, sc4, rfl, rfl, rfl⟩ rfl (sub_cons 0 rfl sub_nil)
  · replace hF := ite_f h1 hF
    refine c_skip ?_
    refine sat_wc ?_
    refine c_seq ?_
    refine c_seq ?_
    refine c_cut (fun E N' => ∀ (t30 : Bool), F.ref09.Put_j1 k path t g27 s t30 = some r → Sat E [(0, .agg #[.int .i64 t.Rule, .int .u8 t.Byte, .slice sa1 sn1 sc1]), (1, .slice sa2 sn2 sc2), (2, .agg #[.int .i64 s.Rule, .int .u8 s.Byte, .slice sa3 sn3 sc3]), (3, .pointer (some ⟨b, 0, none⟩)), (5, .pointer (some ⟨b1, 0, none⟩)), (6, .pointer (some ⟨b2, 0, none⟩)), (7, .int .i64 0), (30, .bool t30)] [.box b2 27 [.int .i64 0, .int .u8 0, .slice none 0 0], .box b1 27 [.int .i64 s.Rule, .int .u8 s.Byte, .slice sa3 sn3 sc3], .box b 27 [.int .i64 t.Rule, .int .u8 t.Byte, .slice sa1 sn1 sc1]] [(.slice sa1 sn1 sc1, .slice 3 (t.Kids.map eTree)), (.slice sa2 sn2 sc2, .slice 1 (path.map eI64)), (.slice sa3 sn3 sc3, .slice 3 (s.Kids.map eTree))] N') (fun N5 hN5 => ?_) ?_
    · refine c_draw (n := 13) [0, 0, 0] mixed rfl rfl ?_
      refine d_val 0 rfl pnok (by kernel_rfl) (by kernel_rfl) (by kernel_rfl) rfl (v_move rfl) ?_
      refine ite_some hF fun h16 hF => ?_
      refine d_val 1 rfl pnok (by kernel_rfl) (by kernel_rfl) (by kernel_rfl) rfl (v_indexAddr_s (xs := path) (enc := eI64) sl44 rfl rfl (.f 1 rfl) h16) ?_
      refine d_val 2 rfl pnok (by kernel_rfl) (by kernel_rfl) (by kernel_rfl) rfl (v_load_s (xs := path) (enc := eI64) ty3 rfl (.f 1 rfl) h16 rfl rfl rfl rfl rfl rfl rfl) ?_
      refine d_val 3 rfl pnok (by kernel_rfl) (by kernel_rfl) (by kernel_rfl) rfl (v_bin rfl rfl rfl) ?_
      refine d_val 4 rfl pnok (by kernel_rfl) (by kernel_rfl) (by kernel_rfl) rfl (v_move rfl) ?_
      refine d_split (t := 22) rfl (fun h17 => ?_) (fun h17 => ?_)
      · replace hF := ite_t h17 hF
        refine d_off 5 rfl rfl rfl (by decide) pnok (by kernel_rfl) (by kernel_rfl) (by kernel_rfl) rfl ?_
        refine d_off 6 rfl rfl rfl (by decide) pnok (by kernel_rfl) (by kernel_rfl) (by kernel_rfl) rfl ?_
        refine d_off 7 rfl rfl rfl (by decide) pnok (by kernel_rfl) (by kernel_rfl) (by kernel_rfl) rfl ?_
        refine d_off 8 rfl rfl rfl (by decide) pnok (by kernel_rfl) (by kernel_rfl) (by kernel_rfl) rfl ?_
        refine d_off 9 rfl rfl rfl (by decide) pnok (by kernel_rfl) (by kernel_rfl) (by kernel_rfl) rfl ?_
        refine d_off 10 rfl rfl rfl (by decide) pnok (by kernel_rfl) (by kernel_rfl) (by kernel_rfl) rfl ?_
        refine d_off 11 rfl rfl rfl (by decide) pnok (by kernel_rfl) (by kernel_rfl) (by kernel_rfl) rfl ?_
        refine d_val 12 rfl pnok (by kernel_rfl) (by kernel_rfl) (by kernel_rfl) rfl (v_pick_t rfl rfl) ?_
        refine d_done (by kernel_rfl) ?_
        refine s_st ?_ (hN5 true hF)
        exact st_le [0, 0, 0] (le_cons rfl (le_cons rfl (le_cons rfl (le_cons rfl (le_cons rfl (le_cons rfl (le_cons rfl (le_cons rfl le_nil)))))))) rfl (sub_cons 0 rfl (sub_cons 1 rfl (sub_cons 2 rfl sub_nil)))
      · replace hF := ite_f h17 hF
        refine d_val_on 5 rfl rfl rfl pnok (by kernel_rfl) (by kernel_rfl) (by kernel_rfl) rfl (v_move rfl) ?_
        refine d_val_on 6 rfl rfl rfl pnok (by kernel_rfl) (by kernel_rfl) (by kernel_rfl) rfl (v_indexAddr_s (xs := path) (enc := eI64) sl44 rfl rfl (.f 1 rfl) h16) ?_
        refine d_val_on 7 rfl rfl rfl pnok (by kernel_rfl) (by kernel_rfl) (by kernel_rfl) rfl (v_load_s (xs := path) (enc := eI64) ty3 rfl (.f 1 rfl) h16 rfl rfl rfl rfl rfl rfl rfl) ?_
        refine d_val_on 8 rfl rfl rfl pnok (by kernel_rfl) (by kernel_rfl) (by kernel_rfl) rfl (v_fieldAddr (v := .pointer (some ⟨b, 2, none⟩)) rfl (fun _ => by kernel_rfl)) ?_
        refine d_val_on 9 rfl rfl rfl pnok (by kernel_rfl) (by kernel_rfl) (by kernel_rfl) rfl (v_load_box 2 ty25 rfl rfl rfl rfl rfl) ?_
        refine d_val_on 10 rfl rfl rfl pnok (by kernel_rfl) (by kernel_rfl) (by kernel_rfl) rfl (v_lenS (enc := eTree) t.Kids sl25 rfl (.f 0 rfl)) ?_
        refine d_val_on 11 rfl rfl rfl pnok (by kernel_rfl) (by kernel_rfl) (by kernel_rfl) rfl (v_bin rfl rfl rfl) ?_
        refine d_val 12 rfl pnok (by kernel_rfl) (by kernel_rfl) (by kernel_rfl) rfl (v_pick_f rfl rfl) ?_
        refine d_done (by kernel_rfl) ?_
        refine s_st ?_ (hN5 (decide ((t.Kids.length : Int) ≤ (at_ path 0))) hF)
        exact st_le [0, 0, 0] (le_cons rfl (le_cons rfl (le_cons rfl (le_cons rfl (le_cons rfl (le_cons rfl (le_cons rfl (le_cons rfl le_nil)))))))) rfl (sub_cons 0 rfl (sub_cons 1 rfl (sub_cons 2 rfl sub_nil)))
    · intro t30 hF
      unfold F.ref09.Put_j1 at hF
      refine sat_wc ?_
      refine c_cond rfl (fun h3 => ?_) (fun h3 => ?_)
      · replace hF := ite_t h3 hF
        refine c_seq ?_
        refine c_region ?_
        refine o_v (v_build (v := .agg #[.int .i64 0, .int .u8 0, .slice none 0 0]) rfl (fun _ => by kernel_rfl)) rfl ?_
        refine o_store_box 0 rfl ty27 rfl rfl rfl rfl rfl rfl rfl ?_
        refine o_v (v_assign rfl) rfl ?_
        refine o_seq ?_
        refine c_ret ?_
        cases hF
        refine s_st (st_nilfact 3) ?_
        refine s_ret2 rfl (r_cell 0 rfl ty27 rfl rfl rfl rfl) (r_tmp rfl) fun a w hs => ?_
        exact fin_sel hs [] ⟨none, 0, 0, rfl, rfl, rfl⟩ rfl (sub_cons 0 rfl sub_nil)
      · replace hF := ite_f h3 hF
        refine c_skip ?_
        refine sat_wc ?_
        refine c_seq ?_
        refine c_cut (fun E N' => ∀ (Rule_ : Int) (Byte_ : Int) (Kids_ : List Tree) (e_ : Int) (sa5 : Option Addr) (sn5 sc5 : Nat) (b3 : Nat), F.ref09.Put_j2 k t path Rule_ Byte_ Kids_ e_ = some r → Sat E [(0, .agg #[.int .i64 t.Rule, .int .u8 t.Byte, .slice sa1 sn1 sc1]), (1, .slice sa2 sn2 sc2), (2, .agg #[.int .i64 s.Rule, .int .u8 s.Byte, .slice sa3 sn3 sc3]), (3, .pointer (some ⟨b, 0, none⟩)), (5, .pointer (some ⟨b1, 0, none⟩)), (6, .pointer (some ⟨b2, 0, none⟩)), (7, .int .i64 0), (8, .pointer (some ⟨b3, 0, none⟩)), (9, .int .i64 e_)] [.box b2 27 [.int .i64 0, .int .u8 0, .slice none 0 0], .box b1 27 [.int .i64 s.Rule, .int .u8 s.Byte, .slice sa3 sn3 sc3], .box b 27 [.int .i64 t.Rule, .int .u8 t.Byte, .slice sa1 sn1 sc1], .box b3 27 [.int .i64 Rule_, .int .u8 Byte_, .slice sa5 sn5 sc5]] [(.slice sa1 sn1 sc1, .slice 3 (t.Kids.map eTree)), (.slice sa2 sn2 sc2, .slice 1 (path.map eI64)), (.slice sa3 sn3 sc3, .slice 3 (s.Kids.map eTree)), (.slice sa5 sn5 sc5, .slice 3 (Kids_.map eTree))] N') (fun N5 hN5 => ?_) ?_
        · refine c_draw (n := 17) [0, 0, 0] mixed rfl rfl ?_
          refine d_val 0 rfl pnok (by kernel_rfl) (by kernel_rfl) (by kernel_rfl) rfl (v_fieldAddr (v := .pointer (some ⟨b, 2, none⟩)) rfl (fun _ => by kernel_rfl)) ?_
          refine d_val 1 rfl pnok (by kernel_rfl) (by kernel_rfl) (by kernel_rfl) rfl (v_load_box 2 ty25 rfl rfl rfl rfl rfl) ?_
          refine d_val 2 rfl pnok (by kernel_rfl) (by kernel_rfl) (by kernel_rfl) rfl (v_move rfl) ?_
          refine ite_some hF fun h12 hF => ?_
          refine d_val 3 rfl pnok (by kernel_rfl) (by kernel_rfl) (by kernel_rfl) rfl (v_indexAddr_s (xs := path) (enc := eI64) sl44 rfl rfl (.f 1 rfl) h12) ?_
          refine d_val 4 rfl pnok (by kernel_rfl) (by kernel_rfl) (by kernel_rfl) rfl (v_load_s (xs := path) (enc := eI64) ty3 rfl (.f 1 rfl) h12 rfl rfl rfl rfl rfl rfl rfl) ?_
          refine ite_some hF fun h13 hF => ?_
          refine d_val 5 rfl pnok (by kernel_rfl) (by kernel_rfl) (by kernel_rfl) rfl (v_indexAddr_s (xs := t.Kids) (enc := eTree) sl25 rfl rfl (.f 0 rfl) h13) ?_
          refine d_val 7 rfl pnok (by kernel_rfl) (by kernel_rfl) (by kernel_rfl) rfl (v_move rfl) ?_
          refine d_val 9 rfl pnok (by kernel_rfl) (by kernel_rfl) (by kernel_rfl) rfl (v_load_box 1 ty27 rfl rfl rfl rfl rfl) ?_
          obtain ⟨v2, h14, hF⟩ := bd hF
          refine d_all [6, 8, 14] (by kernel_rfl) (by simp) ⟨⟨_, rfl, ?_⟩, ⟨_, rfl, ?_⟩, ⟨_, rfl, ?_⟩, trivial⟩
          · refine o_load_s (ds := [.int .i64 ((at_ t.Kids (at_ path 0)).Rule), .int .u8 ((at_ t.Kids (at_ path 0)).Byte), .slice 3 (((at_ t.Kids (at_ path 0)).Kids).map eTree)]) (xs := t.Kids) (enc := eTree) ty27 rfl (.f 0 rfl) h13 (by simp only [eTree_eq] <;> rfl) rfl rfl rfl rfl rfl fun sa15 sn15 sc15 => ?_
            refine d_next [0, 0, 0] 1 rfl rfl ?_
            refine d_all [8, 14] (by kernel_rfl) (by simp) ⟨⟨_, rfl, ?_⟩, ⟨_, rfl, ?_⟩, trivial⟩
            · refine ite_some hF fun h15 hF => ?_
              refine o_cutS (enc := eI64) (xs := path) 2 sl44 rfl rfl rfl rfl rfl rfl h15 rfl fun sa16 sn16 sc16 => ?_
              refine d_next [0, 0, 0] 2 rfl rfl ?_
              refine d_all [10, 14] (by kernel_rfl) (by simp) ⟨⟨_, rfl, ?_⟩, ⟨_, rfl, ?_⟩, trivial⟩
              · refine o_call0 call27 rfl (sub_cons 1 rfl (sub_cons 0 rfl (sub_cons 4 rfl sub_nil))) (hg27 (at_ t.Kids (at_ path 0)) (sub path 1 (path.length : Int)) s sa15 sn15 sc15 sa16 sn16 sc16 sa3 sn3 sc3 v2 h14) rfl ?_
                rintro _ _ _ ⟨sa17, sn17, sc17, rfl, rfl, rfl⟩
                refine d_next [0, 0, 0] 3 rfl rfl ?_
                refine d_val 11 rfl pnok (by kernel_rfl) (by kernel_rfl) (by kernel_rfl) rfl (v_move rfl) ?_
                refine d_val 12 rfl pnok (by kernel_rfl) (by kernel_rfl) (by kernel_rfl) rfl (v_extract rfl rfl) ?_
                refine d_val 13 rfl pnok (by kernel_rfl) (by kernel_rfl) (by kernel_rfl) rfl (v_extract rfl rfl) ?_
                refine d_one 14 rfl (by kernel_rfl) ?_
                refine o_alloc zero27 rfl rfl fun b7 => ?_
                refine d_next [1, 1, 1] 3 rfl rfl ?_
                refine d_one 15 rfl (by kernel_rfl) ?_
                refine o_store_box 0 rfl ty27 rfl rfl rfl rfl rfl rfl rfl ?_
                refine d_next [1, 1, 1] 3 rfl rfl ?_
                refine d_val 16 rfl pnok (by kernel_rfl) (by kernel_rfl) (by kernel_rfl) rfl (v_assign rfl) ?_
                refine d_done (by kernel_rfl) ?_
                refine s_st ?_ (hN5 v2.1.Rule v2.1.Byte v2.1.Kids v2.2 sa17 sn17 sc17 b7 hF)
                exact st_le [1, 1, 1, 0] (le_cons rfl (le_cons rfl (le_cons rfl (le_cons rfl (le_cons rfl (le_cons rfl (le_cons rfl (le_cons rfl (le_cons rfl le_nil))))))))) rfl (sub_cons 3 rfl (sub_cons 4 rfl (sub_cons 5 rfl (sub_cons 0 rfl sub_nil))))
              · refine o_alloc zero27 rfl rfl fun b7 => ?_
                refine d_next [1, 1, 1] 2 rfl rfl ?_
                refine d_one 10 rfl (by kernel_rfl) ?_
                refine o_call0 call27 rfl (sub_cons 1 rfl (sub_cons 0 rfl (sub_cons 4 rfl sub_nil))) (hg27 (at_ t.Kids (at_ path 0)) (sub path 1 (path.length : Int)) s sa15 sn15 sc15 sa16 sn16 sc16 sa3 sn3 sc3 v2 h14) rfl ?_
                rintro _ _ _ ⟨sa17, sn17, sc17, rfl, rfl, rfl⟩
                refine d_next [1, 1, 1] 3 rfl rfl ?_
                refine d_val 11 rfl pnok (by kernel_rfl) (by kernel_rfl) (by kernel_rfl) rfl (v_move rfl) ?_
                refine d_val 12 rfl pnok (by kernel_rfl) (by kernel_rfl) (by kernel_rfl) rfl (v_extract rfl rfl) ?_
                refine d_val 13 rfl pnok (by kernel_rfl) (by kernel_rfl) (by kernel_rfl) rfl (v_extract rfl rfl) ?_
                refine d_one 15 rfl (by kernel_rfl) ?_
                refine o_store_box 0 rfl ty27 rfl rfl rfl rfl rfl rfl rfl ?_
                refine d_next [1, 1, 1] 3 rfl rfl ?_
                refine d_val 16 rfl pnok (by kernel_rfl) (by kernel_rfl) (by kernel_rfl) rfl (v_assign rfl) ?_
                refine d_done (by kernel_rfl) ?_
                refine s_st ?_ (hN5 v2.1.Rule v2.1.Byte v2.1.Kids v2.2 sa17 sn17 sc17 b7 hF)
                exact st_le [1, 1, 1, 0] (le_cons rfl (le_cons rfl (le_cons rfl (le_cons rfl (le_cons rfl (le_cons rfl (le_cons rfl (le_cons rfl (le_cons rfl le_nil))))))))) rfl (sub_cons 3 rfl (sub_cons 4 rfl (sub_cons 5 rfl (sub_cons 0 rfl sub_nil))))
            · refine o_alloc zero27 rfl rfl fun b7 => ?_
              refine d_next [1, 1, 1] 1 rfl rfl ?_
              refine d_one 8 rfl (by kernel_rfl) ?_
              refine ite_some hF fun h15 hF => ?_
              refine o_cutS (enc := eI64) (xs := path) 2 sl44 rfl rfl rfl rfl rfl rfl h15 rfl fun sa16 sn16 sc16 => ?_
              refine d_next [1, 1, 1] 2 rfl rfl ?_
              refine d_one 10 rfl (by kernel_rfl) ?_
              refine o_call0 call27 rfl (sub_cons 1 rfl (sub_cons 0 rfl (sub_cons 4 rfl sub_nil))) (hg27 (at_ t.Kids (at_ path 0)) (sub path 1 (path.length : Int)) s sa15 sn15 sc15 sa16 sn16 sc16 sa3 sn3 sc3 v2 h14) rfl ?_
              rintro _ _ _ ⟨sa17, sn17, sc17, rfl, rfl, rfl⟩
              refine d_next [1, 1, 1] 3 rfl rfl ?_
              refine d_val 11 rfl pnok (by kernel_rfl) (by kernel_rfl) (by kernel_rfl) rfl (v_move rfl) ?_
              refine d_val 12 rfl pnok (by kernel_rfl) (by kernel_rfl) (by kernel_rfl) rfl (v_extract rfl rfl) ?_
              refine d_val 13 rfl pnok (by kernel_rfl) (by kernel_rfl) (by kernel_rfl) rfl (v_extract rfl rfl) ?_
              refine d_one 15 rfl (by kernel_rfl) ?_
              refine o_store_box 0 rfl ty27 rfl rfl rfl rfl rfl rfl rfl ?_
              refine d_next [1, 1, 1] 3 rfl rfl ?_
              refine d_val 16 rfl pnok (by kernel_rfl) (by kernel_rfl) (by kernel_rfl) rfl (v_assign rfl) ?_
              refine d_done (by kernel_rfl) ?_
              refine s_st ?_ (hN5 v2.1.Rule v2.1.Byte v2.1.Kids v2.2 sa17 sn17 sc17 b7 hF)
              exact st_le [1, 1, 1, 0] (le_cons rfl (le_cons rfl (le_cons rfl (le_cons rfl (le_cons rfl (le_cons rfl (le_cons rfl (le_cons rfl (le_cons rfl le_nil))))))))) rfl (sub_cons 3 rfl (sub_cons 4 rfl (sub_cons 5 rfl (sub_cons 0 rfl sub_nil))))
          · refine ite_some hF fun h15 hF => ?_
            refine o_cutS (enc := eI64) (xs := path) 1 sl44 rfl rfl rfl rfl rfl rfl h15 rfl fun sa15 sn15 sc15 => ?_
            refine d_next [0, 0, 0] 1 rfl rfl ?_
            refine d_all [6, 14] (by kernel_rfl) (by simp) ⟨⟨_, rfl, ?_⟩, ⟨_, rfl, ?_⟩, trivial⟩
            · refine o_load_s (ds := [.int .i64 ((at_ t.Kids (at_ path 0)).Rule), .int .u8 ((at_ t.Kids (at_ path 0)).Byte), .slice 3 (((at_ t.Kids (at_ path 0)).Kids).map eTree)]) (xs := t.Kids) (enc := eTree) ty27 rfl (.f 1 rfl) h13 (by simp only [eTree_eq] <;> rfl) rfl rfl rfl rfl rfl fun sa16 sn16 sc16 => ?_
              refine d_next [0, 0, 0] 2 rfl rfl ?_
              refine d_all [10, 14] (by kernel_rfl) (by simp) ⟨⟨_, rfl, ?_⟩, ⟨_, rfl, ?_⟩, trivial⟩
              · refine o_call0 call27 rfl (sub_cons 0 rfl (sub_cons 1 rfl (sub_cons 4 rfl sub_nil))) (hg27 (at_ t.Kids (at_ path 0)) (sub path 1 (path.length : Int)) s sa16 sn16 sc16 sa15 sn15 sc15 sa3 sn3 sc3 v2 h14) rfl ?_
                rintro _ _ _ ⟨sa17, sn17, sc17, rfl, rfl, rfl⟩
                refine d_next [0, 0, 0] 3 rfl rfl ?_
                refine d_val 11 rfl pnok (by kernel_rfl) (by kernel_rfl) (by kernel_rfl) rfl (v_move rfl) ?_
                refine d_val 12 rfl pnok (by kernel_rfl) (by kernel_rfl) (by kernel_rfl) rfl (v_extract rfl rfl) ?_
                refine d_val 13 rfl pnok (by kernel_rfl) (by kernel_rfl) (by kernel_rfl) rfl (v_extract rfl rfl) ?_
                refine d_one 14 rfl (by kernel_rfl) ?_
                refine o_alloc zero27 rfl rfl fun b7 => ?_
                refine d_next [1, 1, 1] 3 rfl rfl ?_
                refine d_one 15 rfl (by kernel_rfl) ?_
                refine o_store_box 0 rfl ty27 rfl rfl rfl rfl rfl rfl rfl ?_
                refine d_next [1, 1, 1] 3 rfl rfl ?_
                refine d_val 16 rfl pnok (by kernel_rfl) (by kernel_rfl) (by kernel_rfl) rfl (v_assign rfl) ?_
                refine d_done (by kernel_rfl) ?_
                refine s_st ?_ (hN5 v2.1.Rule v2.1.Byte v2.1.Kids v2.2 sa17 sn17 sc17 b7 hF)
                exact st_le [1, 1, 1, 0] (le_cons rfl (le_cons rfl (le_cons rfl (le_cons rfl (le_cons rfl (le_cons rfl (le_cons rfl (le_cons rfl (le_cons rfl le_nil))))))))) rfl (sub_cons 3 rfl (sub_cons 4 rfl (sub_cons 5 rfl (sub_cons 0 rfl sub_nil))))
              · refine o_alloc zero27 rfl rfl fun b7 => ?_
                refine d_next [1, 1, 1] 2 rfl rfl ?_
                refine d_one 10 rfl (by kernel_rfl) ?_
                refine o_call0 call27 rfl (sub_cons 0 rfl (sub_cons 1 rfl (sub_cons 4 rfl sub_nil))) (hg27 (at_ t.Kids (at_ path 0)) (sub path 1 (path.length : Int)) s sa16 sn16 sc16 sa15 sn15 sc15 sa3 sn3 sc3 v2 h14) rfl ?_
                rintro _ _ _ ⟨sa17, sn17, sc17, rfl, rfl, rfl⟩
                refine d_next [1, 1, 1] 3 rfl rfl ?_
                refine d_val 11 rfl pnok (by kernel_rfl) (by kernel_rfl) (by kernel_rfl) rfl (v_move rfl) ?_
                refine d_val 12 rfl pnok (by kernel_rfl) (by kernel_rfl) (by kernel_rfl) rfl (v_extract rfl rfl) ?_
                refine d_val 13 rfl pnok (by kernel_rfl) (by kernel_rfl) (by kernel_rfl) rfl (v_extract rfl rfl) ?_
                refine d_one 15 rfl (by kernel_rfl) ?_
                refine o_store_box 0 rfl ty27 rfl rfl rfl rfl rfl rfl rfl ?_
                refine d_next [1, 1, 1] 3 rfl rfl ?_
                refine d_val 16 rfl pnok (by kernel_rfl) (by kernel_rfl) (by kernel_rfl) rfl (v_assign rfl) ?_
                refine d_done (by kernel_rfl) ?_
                refine s_st ?_ (hN5 v2.1.Rule v2.1.Byte v2.1.Kids v2.2 sa17 sn17 sc17 b7 hF)
                exact st_le [1, 1, 1, 0] (le_cons rfl (le_cons rfl (le_cons rfl (le_cons rfl (le_cons rfl (le_cons rfl (le_cons rfl (le_cons rfl (le_cons rfl le_nil))))))))) rfl (sub_cons 3 rfl (sub_cons 4 rfl (sub_cons 5 rfl (sub_cons 0 rfl sub_nil))))
            · refine o_alloc zero27 rfl rfl fun b7 => ?_
              refine d_next [1, 1, 1] 1 rfl rfl ?_
              refine d_one 6 rfl (by kernel_rfl) ?_
              refine o_load_s (ds := [.int .i64 ((at_ t.Kids (at_ path 0)).Rule), .int .u8 ((at_ t.Kids (at_ path 0)).Byte), .slice 3 (((at_ t.Kids (at_ path 0)).Kids).map eTree)]) (xs := t.Kids) (enc := eTree) ty27 rfl (.f 1 rfl) h13 (by simp only [eTree_eq] <;> rfl) rfl rfl rfl rfl rfl fun sa16 sn16 sc16 => ?_
              refine d_next [1, 1, 1] 2 rfl rfl ?_
              refine d_one 10 rfl (by kernel_rfl) ?_
              refine o_call0 call27 rfl (sub_cons 0 rfl (sub_cons 1 rfl (sub_cons 4 rfl sub_nil))) (hg27 (at_ t.Kids (at_ path 0)) (sub path 1 (path.length : Int)) s sa16 sn16 sc16 sa15 sn15 sc15 sa3 sn3 sc3 v2 h14) rfl ?_
              rintro _ _ _ ⟨sa17, sn17, sc17, rfl, rfl, rfl⟩
              refine d_next [1, 1, 1] 3 rfl rfl ?_
              refine d_val 11 rfl pnok (by kernel_rfl) (by kernel_rfl) (by kernel_rfl) rfl (v_move rfl) ?_
              refine d_val 12 rfl pnok (by kernel_rfl) (by kernel_rfl) (by kernel_rfl) rfl (v_extract rfl rfl) ?_
              refine d_val 13 rfl pnok (by kernel_rfl) (by kernel_rfl) (by kernel_rfl) rfl (v_extract rfl rfl) ?_
              refine d_one 15 rfl (by kernel_rfl) ?_
              refine o_store_box 0 rfl ty27 rfl rfl rfl rfl rfl rfl rfl ?_
              refine d_next [1, 1, 1] 3 rfl rfl ?_
              refine d_val 16 rfl pnok (by kernel_rfl) (by kernel_rfl) (by kernel_rfl) rfl (v_assign rfl) ?_
              refine d_done (by kernel_rfl) ?_
              refine s_st ?_ (hN5 v2.1.Rule v2.1.Byte v2.1.Kids v2.2 sa17 sn17 sc17 b7 hF)
              exact st_le [1, 1, 1, 0] (le_cons rfl (le_cons rfl (le_cons rfl (le_cons rfl (le_cons rfl (le_cons rfl (le_cons rfl (le_cons rfl (le_cons rfl le_nil))))))))) rfl (sub_cons 3 rfl (sub_cons 4 rfl (sub_cons 5 rfl (sub_cons 0 rfl sub_nil))))
          · refine o_alloc zero27 rfl rfl fun b7 => ?_
            refine d_next [1, 1, 1] 0 rfl rfl ?_
            refine d_all [6, 8] (by kernel_rfl) (by simp) ⟨⟨_, rfl, ?_⟩, ⟨_, rfl, ?_⟩, trivial⟩
            · refine o_load_s (ds := [.int .i64 ((at_ t.Kids (at_ path 0)).Rule), .int .u8 ((at_ t.Kids (at_ path 0)).Byte), .slice 3 (((at_ t.Kids (at_ path 0)).Kids).map eTree)]) (xs := t.Kids) (enc := eTree) ty27 rfl (.f 0 rfl) h13 (by simp only [eTree_eq] <;> rfl) rfl rfl rfl rfl rfl fun sa15 sn15 sc15 => ?_
              refine d_next [1, 1, 1] 1 rfl rfl ?_
              refine d_one 8 rfl (by kernel_rfl) ?_
              refine ite_some hF fun h15 hF => ?_
              refine o_cutS (enc := eI64) (xs := path) 2 sl44 rfl rfl rfl rfl rfl rfl h15 rfl fun sa16 sn16 sc16 => ?_
              refine d_next [1, 1, 1] 2 rfl rfl ?_
              refine d_one 10 rfl (by kernel_rfl) ?_
              refine o_call0 call27 rfl (sub_cons 1 rfl (sub_cons 0 rfl (sub_cons 4 rfl sub_nil))) (hg27 (at_ t.Kids (at_ path 0)) (sub path 1 (path.length : Int)) s sa15 sn15 sc15 sa16 sn16 sc16 sa3 sn3 sc3 v2 h14) rfl ?_
              rintro _ _ _ ⟨sa17, sn17, sc17, rfl, rfl, rfl⟩
              refine d_next [1, 1, 1] 3 rfl rfl ?_
              refine d_val 11 rfl pnok (by kernel_rfl) (by kernel_rfl) (by kernel_rfl) rfl (v_move rfl) ?_
              refine d_val 12 rfl pnok (by kernel_rfl) (by kernel_rfl) (by kernel_rfl) rfl (v_extract rfl rfl) ?_
              refine d_val 13 rfl pnok (by kernel_rfl) (by kernel_rfl) (by kernel_rfl) rfl (v_extract rfl rfl) ?_
              refine d_one 15 rfl (by kernel_rfl) ?_
              refine o_store_box 0 rfl ty27 rfl rfl rfl rfl rfl rfl rfl ?_
              refine d_next [1, 1, 1] 3 rfl rfl ?_
              refine d_val 16 rfl pnok (by kernel_rfl) (by kernel_rfl) (by kernel_rfl) rfl (v_assign rfl) ?_
              refine d_done (by kernel_rfl) ?_
              refine s_st ?_ (hN5 v2.1.Rule v2.1.Byte v2.1.Kids v2.2 sa17 sn17 sc17 b7 hF)
              exact st_le [1, 1, 1, 0] (le_cons rfl (le_cons rfl (le_cons rfl (le_cons rfl (le_cons rfl (le_cons rfl (le_cons rfl (le_cons rfl (le_cons rfl le_nil))))))))) rfl (sub_cons 3 rfl (sub_cons 4 rfl (sub_cons 5 rfl (sub_cons 0 rfl sub_nil))))
            · refine ite_some hF fun h15 hF => ?_
              refine o_cutS (enc := eI64) (xs := path) 1 sl44 rfl rfl rfl rfl rfl rfl h15 rfl fun sa15 sn15 sc15 => ?_
              refine d_next [1, 1, 1] 1 rfl rfl ?_
              refine d_one 6 rfl (by kernel_rfl) ?_
              refine o_load_s (ds := [.int .i64 ((at_ t.Kids (at_ path 0)).Rule), .int .u8 ((at_ t.Kids (at_ path 0)).Byte), .slice 3 (((at_ t.Kids (at_ path 0)).Kids).map eTree)]) (xs := t.Kids) (enc := eTree) ty27 rfl (.f 1 rfl) h13 (by simp only [eTree_eq] <;> rfl) rfl rfl rfl rfl rfl fun sa16 sn16 sc16 => ?_
              refine d_next [1, 1, 1] 2 rfl rfl ?_
              refine d_one 10 rfl (by kernel_rfl) ?_
              refine o_call0 call27 rfl (sub_cons 0 rfl (sub_cons 1 rfl (sub_cons 4 rfl sub_nil))) (hg27 (at_ t.Kids (at_ path 0)) (sub path 1 (path.length : Int)) s sa16 sn16 sc16 sa15 sn15 sc15 sa3 sn3 sc3 v2 h14) rfl ?_
              rintro _ _ _ ⟨sa17, sn17, sc17, rfl, rfl, rfl⟩
              refine d_next [1, 1, 1] 3 rfl rfl ?_
              refine d_val 11 rfl pnok (by kernel_rfl) (by kernel_rfl) (by kernel_rfl) rfl (v_move rfl) ?_
              refine d_val 12 rfl pnok (by kernel_rfl) (by kernel_rfl) (by kernel_rfl) rfl (v_extract rfl rfl) ?_
              refine d_val 13 rfl pnok (by kernel_rfl) (by kernel_rfl) (by kernel_rfl) rfl (v_extract rfl rfl) ?_
              refine d_one 15 rfl (by kernel_rfl) ?_
              refine o_store_box 0 rfl ty27 rfl rfl rfl rfl rfl rfl rfl ?_
              refine d_next [1, 1, 1] 3 rfl rfl ?_
              refine d_val 16 rfl pnok (by kernel_rfl) (by kernel_rfl) (by kernel_rfl) rfl (v_assign rfl) ?_
              refine d_done (by kernel_rfl) ?_
              refine s_st ?_ (hN5 v2.1.Rule v2.1.Byte v2.1.Kids v2.2 sa17 sn17 sc17 b7 hF)
              exact st_le [1, 1, 1, 0] (le_cons rfl (le_cons rfl (le_cons rfl (le_cons rfl (le_cons rfl (le_cons rfl (le_cons rfl (le_cons rfl (le_cons rfl le_nil))))))))) rfl (sub_cons 3 rfl (sub_cons 4 rfl (sub_cons 5 rfl (sub_cons 0 rfl sub_nil))))
        · intro Rule_ Byte_ Kids_ e_ sa5 sn5 sc5 b3 hF
          unfold F.ref09.Put_j2 at hF
          refine sat_wc ?_
          refine c_seq ?_
          refine c_seq ?_
          refine c_region ?_
          refine o_v (v_move rfl) rfl ?_
          refine o_v (v_bin rfl rfl rfl) rfl ?_
          refine o_seq ?_
          refine c_cond rfl (fun h4 => ?_) (fun h4 => ?_)
          · replace hF := ite_t h4 hF
            refine c_seq ?_
            refine c_region ?_
            refine o_v (v_build (v := .agg #[.int .i64 0, .int .u8 0, .slice none 0 0]) rfl (fun _ => by kernel_rfl)) rfl ?_
            refine o_v (v_move rfl) rfl ?_
            refine o_store_box 0 rfl ty27 rfl rfl rfl rfl rfl rfl rfl ?_
            refine o_v (v_assign rfl) rfl ?_
            refine o_seq ?_
            refine c_ret ?_
            cases hF
            refine s_st (st_nilfact 3) ?_
            refine s_ret2 rfl (r_cell 0 rfl ty27 rfl rfl rfl rfl) (r_tmp rfl) fun a w hs => ?_
            exact fin_sel hs [] ⟨none, 0, 0, rfl, rfl, rfl⟩ rfl (sub_cons 0 rfl sub_nil)
          · replace hF := ite_f h4 hF
            refine c_skip ?_
            refine sat_wc ?_
            refine c_seq ?_
            refine c_region ?_
            refine o_v (v_fieldAddr (v := .pointer (some ⟨b, 0, none⟩)) rfl (fun _ => by kernel_rfl)) rfl ?_
            refine o_v (v_load_box 2 ty3 rfl rfl rfl rfl rfl) rfl ?_
            refine o_v (v_fieldAddr (v := .pointer (some ⟨b, 1, none⟩)) rfl (fun _ => by kernel_rfl)) rfl ?_
            refine o_v (v_load_box 2 ty5 rfl rfl rfl rfl rfl) rfl ?_
            refine o_v (v_build (v := .agg #[.int .i64 t.Rule, .int .u8 t.Byte, .slice none 0 0]) rfl (fun _ => by kernel_rfl)) rfl ?_
            refine o_alloc zero27 rfl rfl fun b4 => ?_
            refine o_store_box 0 rfl ty27 rfl rfl rfl rfl rfl rfl rfl ?_
            refine o_seq ?_
            refine c_seq ?_
            refine c_seq ?_
            refine c_region ?_
            refine o_v (v_assign rfl) rfl ?_
            refine o_seq ?_
            obtain ⟨o3, ho3, hF⟩ := bd hF
            refine c_cut (fun E N' => ∀ (sa7 : Option Addr) (sn7 sc7 : Nat), Sat E [(0, .agg #[.int .i64 t.Rule, .int .u8 t.Byte, .slice sa1 sn1 sc1]), (1, .slice sa2 sn2 sc2), (2, .agg #[.int .i64 s.Rule, .int .u8 s.Byte, .slice sa3 sn3 sc3]), (3, .pointer (some ⟨b, 0, none⟩)), (5, .pointer (some ⟨b1, 0, none⟩)), (6, .pointer (some ⟨b2, 0, none⟩)), (7, .int .i64 0), (8, .pointer (some ⟨b3, 0, none⟩)), (9, .int .i64 e_), (10, .pointer (some ⟨b4, 0, none⟩))] [.box b4 27 [.int .i64 t.Rule, .int .u8 t.Byte, .slice sa7 sn7 sc7], .box b2 27 [.int .i64 0, .int .u8 0, .slice none 0 0], .box b1 27 [.int .i64 s.Rule, .int .u8 s.Byte, .slice sa3 sn3 sc3], .box b 27 [.int .i64 t.Rule, .int .u8 t.Byte, .slice sa1 sn1 sc1], .box b3 27 [.int .i64 Rule_, .int .u8 Byte_, .slice sa5 sn5 sc5], .row (.slice sa7 sn7 sc7) 27 3 (o3.map eTree)] [(.slice sa1 sn1 sc1, .slice 3 (t.Kids.map eTree)), (.slice sa2 sn2 sc2, .slice 1 (path.map eI64)), (.slice sa3 sn3 sc3, .slice 3 (s.Kids.map eTree)), (.slice sa5 sn5 sc5, .slice 3 (Kids_.map eTree))] N') (fun N3 hN3 => ?_) ?_
            · refine c_block ?_
              refine c_loopE (fun E j a w => ∃ (i : Int) (Kids_1 : List Tree) (sa6 : Option Addr) (sn6 sc6 : Nat), F.ref09.Put_l3 k t path Rule_ Byte_ Kids_ j i Kids_1 = some o3 ∧ St E [(0, .agg #[.int .i64 t.Rule, .int .u8 t.Byte, .slice sa1 sn1 sc1]), (1, .slice sa2 sn2 sc2), (2, .agg #[.int .i64 s.Rule, .int .u8 s.Byte, .slice sa3 sn3 sc3]), (3, .pointer (some ⟨b, 0, none⟩)), (5, .pointer (some ⟨b1, 0, none⟩)), (6, .pointer (some ⟨b2, 0, none⟩)), (7, .int .i64 0), (8, .pointer (some ⟨b3, 0, none⟩)), (9, .int .i64 e_), (10, .pointer (some ⟨b4, 0, none⟩)), (11, .int .i64 i)] [.box b4 27 [.int .i64 t.Rule, .int .u8 t.Byte, .slice sa6 sn6 sc6], .box b2 27 [.int .i64 0, .int .u8 0, .slice none 0 0], .box b1 27 [.int .i64 s.Rule, .int .u8 s.Byte, .slice sa3 sn3 sc3], .box b 27 [.int .i64 t.Rule, .int .u8 t.Byte, .slice sa1 sn1 sc1], .box b3 27 [.int .i64 Rule_, .int .u8 Byte_, .slice sa5 sn5 sc5], .row (.slice sa6 sn6 sc6) 27 3 (Kids_1.map eTree)] [(.slice sa1 sn1 sc1, .slice 3 (t.Kids.map eTree)), (.slice sa2 sn2 sc2, .slice 1 (path.map eI64)), (.slice sa3 sn3 sc3, .slice 3 (s.Kids.map eTree)), (.slice sa5 sn5 sc5, .slice 3 (Kids_.map eTree))] a w) k ?_ ?_
              · refine s_st (st_nilrow 27 3) ?_
                intro a w hs
                exact ⟨0, ([] : List Tree), none, 0, 0, ho3, st_le [1, 1, 1, 1, 1, 0] (le_cons rfl (le_cons rfl (le_cons rfl (le_cons rfl (le_cons rfl (le_cons rfl (le_cons rfl (le_cons rfl (le_cons rfl (le_cons rfl (le_cons rfl le_nil))))))))))) rfl (sub_cons 0 rfl (sub_cons 1 rfl (sub_cons 2 rfl (sub_cons 3 rfl sub_nil)))) a w hs⟩
              · rintro j a w ⟨i, Kids_1, sa6, sn6, sc6, hL3, hs⟩
                cases j with
                | zero => cases hL3
                | succ j =>
                  refine wc_app hs ?_
                  unfold F.ref09.Put_l3 at hL3
                  refine c_seq ?_
                  refine c_seq ?_
                  refine c_region ?_
                  refine o_v (v_move rfl) rfl ?_
                  refine o_v (v_fieldAddr (v := .pointer (some ⟨b, 2, none⟩)) rfl (fun _ => by kernel_rfl)) rfl ?_
                  refine o_v (v_load_box 3 ty25 rfl rfl rfl rfl rfl) rfl ?_
                  refine o_v (v_lenS (enc := eTree) t.Kids sl25 rfl (.f 0 rfl)) rfl ?_
                  refine o_v (v_bin rfl rfl rfl) rfl ?_
                  refine o_seq ?_
                  refine c_cond rfl (fun h5 => ?_) (fun h5 => ?_)
                  · replace hL3 := ite_t h5 hL3
                    refine c_skip ?_
                    refine sat_wc ?_
                    refine c_seq ?_
                    refine c_cut (fun E N' => ∀ (Rule_1 : Int) (Byte_1 : Int) (Kids_2 : List Tree) (Kids_3 : List Tree) (sa8 : Option Addr) (sn8 sc8 : Nat) (sa9 : Option Addr) (sn9 sc9 : Nat) (b5 : Nat), F.ref09.Put_j4 (F.ref09.Put_l3 k t path Rule_ Byte_ Kids_ j) i Rule_1 Byte_1 Kids_2 Kids_3 = some o3 → Sat E [(0, .agg #[.int .i64 t.Rule, .int .u8 t.Byte, .slice sa1 sn1 sc1]), (1, .slice sa2 sn2 sc2), (2, .agg #[.int .i64 s.Rule, .int .u8 s.Byte, .slice sa3 sn3 sc3]), (3, .pointer (some ⟨b, 0, none⟩)), (5, .pointer (some ⟨b1, 0, none⟩)), (6, .pointer (some ⟨b2, 0, none⟩)), (7, .int .i64 0), (8, .pointer (some ⟨b3, 0, none⟩)), (9, .int .i64 e_), (10, .pointer (some ⟨b4, 0, none⟩)), (11, .int .i64 i), (12, .pointer (some ⟨b5, 0, none⟩))] [.box b4 27 [.int .i64 t.Rule, .int .u8 t.Byte, .slice sa9 sn9 sc9], .box b2 27 [.int .i64 0, .int .u8 0, .slice none 0 0], .box b1 27 [.int .i64 s.Rule, .int .u8 s.Byte, .slice sa3 sn3 sc3], .box b 27 [.int .i64 t.Rule, .int .u8 t.Byte, .slice sa1 sn1 sc1], .box b3 27 [.int .i64 Rule_, .int .u8 Byte_, .slice sa5 sn5 sc5], .box b5 27 [.int .i64 Rule_1, .int .u8 Byte_1, .slice sa8 sn8 sc8], .row (.slice sa9 sn9 sc9) 27 3 (Kids_3.map eTree)] [(.slice sa1 sn1 sc1, .slice 3 (t.Kids.map eTree)), (.slice sa2 sn2 sc2, .slice 1 (path.map eI64)), (.slice sa3 sn3 sc3, .slice 3 (s.Kids.map eTree)), (.slice sa5 sn5 sc5, .slice 3 (Kids_.map eTree)), (.slice sa8 sn8 sc8, .slice 3 (Kids_2.map eTree))] N') (fun N4 hN4 => ?_) ?_
                    · refine c_block ?_
                      refine c_seq ?_
                      refine c_region ?_
                      refine o_v (v_load_box 4 ty27 rfl rfl rfl rfl rfl) rfl ?_
                      refine o_alloc zero27 rfl rfl fun b6 => ?_
                      refine o_store_box 0 rfl ty27 rfl rfl rfl rfl rfl rfl rfl ?_
                      refine o_seq ?_
                      refine c_seq ?_
                      refine c_seq ?_
                      refine c_region ?_
                      refine o_v (v_move rfl) rfl ?_
                      refine o_v (v_move rfl) rfl ?_
                      refine ite_some hL3 fun h6 hL3 => ?_
                      refine o_v (v_indexAddr_s (xs := path) (enc := eI64) sl44 rfl rfl (.f 1 rfl) h6) rfl ?_
                      refine o_v (v_load_s (xs := path) (enc := eI64) ty3 rfl (.f 1 rfl) h6 rfl rfl rfl rfl rfl rfl rfl) rfl ?_
                      refine o_v (v_bin rfl rfl rfl) rfl ?_
                      refine o_seq ?_
                      refine c_cut (fun E N' => ∀ (Rule_2 : Int) (Byte_2 : Int) (Kids_4 : List Tree) (sa10 : Option Addr) (sn10 sc10 : Nat), F.ref09.Put_j5 Kids_1 (F.ref09.Put_l3 k t path Rule_ Byte_ Kids_ j) i Rule_2 Byte_2 Kids_4 = some o3 → Sat E [(0, .agg #[.int .i64 t.Rule, .int .u8 t.Byte, .slice sa1 sn1 sc1]), (1, .slice sa2 sn2 sc2), (2, .agg #[.int .i64 s.Rule, .int .u8 s.Byte, .slice sa3 sn3 sc3]), (3, .pointer (some ⟨b, 0, none⟩)), (5, .pointer (some ⟨b1, 0, none⟩)), (6, .pointer (some ⟨b2, 0, none⟩)), (7, .int .i64 0), (8, .pointer (some ⟨b3, 0, none⟩)), (9, .int .i64 e_), (10, .pointer (some ⟨b4, 0, none⟩)), (11, .int .i64 i), (12, .pointer (some ⟨b6, 0, none⟩))] [.box b6 27 [.int .i64 Rule_2, .int .u8 Byte_2, .slice sa10 sn10 sc10], .box b4 27 [.int .i64 t.Rule, .int .u8 t.Byte, .slice sa6 sn6 sc6], .box b2 27 [.int .i64 0, .int .u8 0, .slice none 0 0], .box b1 27 [.int .i64 s.Rule, .int .u8 s.Byte, .slice sa3 sn3 sc3], .box b 27 [.int .i64 t.Rule, .int .u8 t.Byte, .slice sa1 sn1 sc1], .box b3 27 [.int .i64 Rule_, .int .u8 Byte_, .slice sa5 sn5 sc5], .row (.slice sa6 sn6 sc6) 27 3 (Kids_1.map eTree)] [(.slice sa1 sn1 sc1, .slice 3 (t.Kids.map eTree)), (.slice sa2 sn2 sc2, .slice 1 (path.map eI64)), (.slice sa3 sn3 sc3, .slice 3 (s.Kids.map eTree)), (.slice sa10 sn10 sc10, .slice 3 (Kids_4.map eTree)), (.slice sa5 sn5 sc5, .slice 3 (Kids_.map eTree))] N') (fun N5 hN5 => ?_) ?_
                      · refine c_cond rfl (fun h9 => ?_) (fun h9 => ?_)
                        · replace hL3 := ite_t h9 hL3
                          refine c_region ?_
                          refine o_v (v_fieldAddr (v := .pointer (some ⟨b, 2, none⟩)) rfl (fun _ => by kernel_rfl)) rfl ?_
                          refine o_v (v_load_box 4 ty25 rfl rfl rfl rfl rfl) rfl ?_
                          refine o_v (v_move rfl) rfl ?_
                          refine ite_some hL3 fun h10 hL3 => ?_
                          refine o_v (v_indexAddr_s (xs := t.Kids) (enc := eTree) sl25 rfl rfl (.f 0 rfl) h10) rfl ?_
                          refine o_load_s (ds := [.int .i64 ((at_ t.Kids i).Rule), .int .u8 ((at_ t.Kids i).Byte), .slice 3 (((at_ t.Kids i).Kids).map eTree)]) (xs := t.Kids) (enc := eTree) ty27 rfl (.f 0 rfl) h10 (by simp only [eTree_eq] <;> rfl) rfl rfl rfl rfl rfl fun sa13 sn13 sc13 => ?_
                          obtain ⟨v1, h11, hL3⟩ := bd hL3
                          refine o_call0 call16 rfl (sub_cons 0 rfl sub_nil) (tri16 k (at_ t.Kids i) sa13 sn13 sc13 v1 h11) rfl ?_
                          rintro _ _ _ ⟨sa14, sn14, sc14, rfl, rfl, rfl⟩
                          refine o_store_box 0 rfl ty27 rfl rfl rfl rfl rfl rfl rfl ?_
                          refine o_nil ?_
                          refine s_st ?_ (hN5 v1.Rule v1.Byte v1.Kids sa14 sn14 sc14 hL3)
                          exact st_le [0, 0, 0, 0, 0, 0, 0] (le_cons rfl (le_cons rfl (le_cons rfl (le_cons rfl (le_cons rfl (le_cons rfl (le_cons rfl (le_cons rfl (le_cons rfl (le_cons rfl (le_cons rfl (le_cons rfl le_nil)))))))))))) rfl (sub_cons 2 rfl (sub_cons 3 rfl (sub_cons 4 rfl (sub_cons 0 rfl (sub_cons 5 rfl sub_nil)))))
                        · replace hL3 := ite_f h9 hL3
                          refine c_skip ?_
                          refine s_st ?_ (hN5 Rule_ Byte_ Kids_ sa5 sn5 sc5 hL3)
                          exact st_le [0, 0, 0, 0, 0, 0, 0] (le_cons rfl (le_cons rfl (le_cons rfl (le_cons rfl (le_cons rfl (le_cons rfl (le_cons rfl (le_cons rfl (le_cons rfl (le_cons rfl (le_cons rfl (le_cons rfl le_nil)))))))))))) rfl (sub_cons 0 rfl (sub_cons 1 rfl (sub_cons 2 rfl (sub_cons 3 rfl (sub_cons 3 rfl sub_nil)))))
                      · intro Rule_2 Byte_2 Kids_4 sa10 sn10 sc10 hL3
                        unfold F.ref09.Put_j5 at hL3
                        refine sat_wc ?_
                        refine c_region ?_
                        refine o_v (v_fieldAddr (v := .pointer (some ⟨b4, 2, none⟩)) rfl (fun _ => by kernel_rfl)) rfl ?_
                        refine o_v (v_load_box 1 ty25 rfl rfl rfl rfl rfl) rfl ?_
                        refine o_v (v_load_box 0 ty27 rfl rfl rfl rfl rfl) rfl ?_
                        refine o_buildSlice (enc := eTree) ([(Tree.mk Rule_2 Byte_2 Kids_4)] : List Tree) [.int .i64 Rule_2, .int .u8 Byte_2, .slice sa10 sn10 sc10] sl25 rfl (fun _ => by kernel_rfl) rfl rfl (by simp only [List.map, List.all, eTree_eq] <;> rfl) (cp_of (ds := [.int .i64 Rule_2, .int .u8 Byte_2, .slice 3 (Kids_4.map eTree)]) (by simp only [List.map, List.flatten, eTree_eq] <;> rfl) (.s rfl (.s rfl (.f 3 rfl (.nil))))) rfl fun sa11 sn11 sc11 => ?_
                        refine ite_some hL3 fun h7 hL3 => ?_
                        refine ite_some hL3 fun h8 hL3 => ?_
                        refine o_append (enc := eTree) (xs := Kids_1) (ys := ([(Tree.mk Rule_2 Byte_2 Kids_4)] : List Tree)) 7 sl25 rfl rfl rfl (.r 0 _ rfl) h7 h8 rfl fun sa12 sn12 sc12 => ?_
                        refine o_v (v_fieldAddr (v := .pointer (some ⟨b4, 2, none⟩)) rfl (fun _ => by kernel_rfl)) rfl ?_
                        refine o_store_box 2 rfl ty25 rfl rfl rfl rfl rfl rfl rfl ?_
                        refine o_nil ?_
                        refine s_st ?_ (hN4 Rule_2 Byte_2 Kids_4 (Kids_1 ++ ([(Tree.mk Rule_2 Byte_2 Kids_4)] : List Tree)) sa10 sn10 sc10 sa12 sn12 sc12 b6 hL3)
                        exact st_le [2, 2, 2, 2, 2, 1, 1] (le_cons rfl (le_cons rfl (le_cons rfl (le_cons rfl (le_cons rfl (le_cons rfl (le_cons rfl (le_cons rfl (le_cons rfl (le_cons rfl (le_cons rfl (le_cons rfl le_nil)))))))))))) rfl (sub_cons 0 rfl (sub_cons 1 rfl (sub_cons 2 rfl (sub_cons 4 rfl (sub_cons 3 rfl sub_nil)))))
                    · intro Rule_1 Byte_1 Kids_2 Kids_3 sa8 sn8 sc8 sa9 sn9 sc9 b5 hL3
                      unfold F.ref09.Put_j4 at hL3
                      refine sat_wc ?_
                      refine c_region ?_
                      refine o_v (v_move rfl) rfl ?_
                      refine o_v (v_bin rfl rfl rfl) rfl ?_
                      refine o_v (v_assign rfl) rfl ?_
                      refine o_nil ?_
                      intro a w hs
                      exact ⟨j, Nat.lt_succ_self j, IntKind.wrap .i64 (i + 1), Kids_3, sa9, sn9, sc9, hL3, st_le [0, 0, 0, 0, 0, 1] (le_cons rfl (le_cons rfl (le_cons rfl (le_cons rfl (le_cons rfl (le_cons rfl (le_cons rfl (le_cons rfl (le_cons rfl (le_cons rfl (le_cons rfl le_nil))))))))))) rfl (sub_cons 0 rfl (sub_cons 1 rfl (sub_cons 2 rfl (sub_cons 3 rfl sub_nil)))) a w hs⟩
                  · replace hL3 := ite_f h5 hL3
                    refine c_exit0 ?_
                    cases hL3
                    refine s_st ?_ (hN3 sa6 sn6 sc6)
                    exact st_le [0, 0, 0, 0, 0, 0] (le_cons rfl (le_cons rfl (le_cons rfl (le_cons rfl (le_cons rfl (le_cons rfl (le_cons rfl (le_cons rfl (le_cons rfl (le_cons rfl le_nil)))))))))) rfl (sub_cons 0 rfl (sub_cons 1 rfl (sub_cons 2 rfl (sub_cons 3 rfl sub_nil))))
            · intro sa7 sn7 sc7
              refine sat_wc ?_
              refine c_seq ?_
              refine c_region ?_
              refine o_v (v_load_box 0 ty27 rfl rfl rfl rfl rfl) rfl ?_
              refine o_v (v_move rfl) rfl ?_
              refine o_store_box 1 rfl ty27 rfl rfl rfl rfl rfl rfl rfl ?_
              refine o_v (v_assign rfl) rfl ?_
              refine o_seq ?_
              refine c_ret ?_
              cases hF
              refine s_st (st_freeze 5 rfl) ?_
              refine s_ret2 rfl (r_cell 1 rfl ty27 rfl rfl rfl rfl) (r_tmp rfl) fun a w hs => ?_
              exact fin_sel hs [] ⟨sa7, sn7, sc7, rfl, rfl, rfl⟩ rfl (sub_cons 0 rfl sub_nil)
theorem tri27 (k : Nat) : (∀ (t : Tree) (path : List Int) (s : Tree) (sa1 : Option Addr) (sn1 sc1 : Nat) (sa2 : Option Addr) (sn2 sc2 : Nat) (sa3 : Option Addr) (sn3 sc3 : Nat) (r : Tree × Int), F.ref09.Put k t path s = some r → Tri Tryd.prog 27 [.agg #[.int .i64 t.Rule, .int .u8 t.Byte, .slice sa1 sn1 sc1], .slice sa2 sn2 sc2, .agg #[.int .i64 s.Rule, .int .u8 s.Byte, .slice sa3 sn3 sc3]] [] [(.slice sa1 sn1 sc1, .slice 3 (t.Kids.map eTree)), (.slice sa2 sn2 sc2, .slice 1 (path.map eI64)), (.slice sa3 sn3 sc3, .slice 3 (s.Kids.map eTree))] (fun o H Φ => ∃ (sa18 : Option Addr) (sn18 sc18 : Nat), o = .ret (.tuple #[.agg #[.int .i64 r.1.Rule, .int .u8 r.1.Byte, .slice sa18 sn18 sc18], .int .i64 r.2]) ∧ H = [] ∧ Φ = [(.slice sa18 sn18 sc18, .slice 3 (r.1.Kids.map eTree))])) := by
  induction k with
  | zero => exact fun _ _ _ _ _ _ _ _ _ _ _ _ _ h => nomatch (show none = some _ from h)
  | succ k ih => exact tri27_B k _ ih
end Go.Vc
