import Derived.Test.YtmcnanedpofeoaaW1
namespace Go.Vc
open Go Go.Proofs
theorem tri27 (k : Nat) (a_ : List Run) (b : List Run) (sa1 : Option Addr) (sn1 sc1 : Nat) (sa2 : Option Addr) (sn2 sc2 : Nat) (r : Bool) (hF : F.ref01.SameRuns k a_ b = some r) :
    Tri Try.prog 27 [.slice sa1 sn1 sc1, .slice sa2 sn2 sc2] [] [(.slice sa1 sn1 sc1, .slice 2 (a_.map eRun)), (.slice sa2 sn2 sc2, .slice 2 (b.map eRun))] (fun o H Φ => o = .ret (.bool r) ∧ H = [] ∧ Φ = []) := by
  unfold F.ref01.SameRuns at hF
  refine tri_intro (n := 26) Try.func27 rfl Try.ntmps27 rfl fun w X => ?_
  refine c_seq ?_
  refine c_region ?_
  refine o_v (v_assign rfl) rfl ?_
  refine o_seq ?_
  refine c_seq ?_
  refine c_seq ?_
  refine c_region ?_
  refine o_v (v_move rfl) rfl ?_
  refine o_v (v_lenS (enc := eRun) a_ sl43 rfl (.f 0 rfl)) rfl ?_
  refine o_v (v_move rfl) rfl ?_
  refine o_v (v_lenS (enc := eRun) b sl43 rfl (.f 1 rfl)) rfl ?_
  refine o_v (v_bin rfl rfl rfl) rfl ?_
  refine o_seq ?_
  refine c_cond rfl (fun h1 => ?_) (fun h1 => ?_)
  · replace hF := ite_t h1 hF
    refine c_seq ?_
    refine c_region ?_
    refine o_v (v_assign rfl) rfl ?_
    refine o_seq ?_
    refine c_ret ?_
    cases hF
    refine s_ret1 rfl (r_tmp rfl) fun a w hs => ?_
    exact fin_sel hs [] ⟨rfl, rfl, rfl⟩ rfl sub_nil
  · replace hF := ite_f h1 hF
    refine c_skip ?_
    refine sat_wc ?_
    refine c_seq ?_
    refine c_seq ?_
    refine c_region ?_
    refine o_v (v_assign rfl) rfl ?_
    refine o_seq ?_
    obtain ⟨o1, ho1, hF⟩ := bd hF
    refine c_cut (fun E N' => ∀ (d1 : Unit), o1 = .done d1 → Sat E [(0, .slice sa1 sn1 sc1), (1, .slice sa2 sn2 sc2), (4, .bool false), (10, .bool ((a_.length : Int) != (b.length : Int)))] [] [(.slice sa1 sn1 sc1, .slice 2 (a_.map eRun)), (.slice sa2 sn2 sc2, .slice 2 (b.map eRun))] N') (fun N1 hN1 => ?_) ?_
    · refine c_block ?_
      refine c_loopE (fun E j a w => ∃ (i : Int), F.ref01.SameRuns_l1 a_ b j i = some o1 ∧ St E [(0, .slice sa1 sn1 sc1), (1, .slice sa2 sn2 sc2), (4, .bool false), (5, .int .i64 i), (10, .bool ((a_.length : Int) != (b.length : Int)))] [] [(.slice sa1 sn1 sc1, .slice 2 (a_.map eRun)), (.slice sa2 sn2 sc2, .slice 2 (b.map eRun))] a w) k ?_ ?_
      · intro a w hs
        exact ⟨0, ho1, st_le [] (le_cons rfl (le_cons rfl (le_cons rfl (le_cons rfl (le_cons rfl le_nil))))) rfl (sub_cons 0 rfl (sub_cons 1 rfl sub_nil)) a w hs⟩
      · rintro j a w ⟨i, hL1, hs⟩
        cases j with
        | zero => cases hL1
        | succ j =>
          refine wc_app hs ?_
          unfold F.ref01.SameRuns_l1 at hL1
          refine c_seq ?_
          refine c_seq ?_
          refine c_region ?_
          refine o_v (v_move rfl) rfl ?_
          refine o_v (v_move rfl) rfl ?_
          refine o_v (v_lenS (enc := eRun) a_ sl43 rfl (.f 0 rfl)) rfl ?_
          refine o_v (v_bin rfl rfl rfl) rfl ?_
          refine o_seq ?_
          refine c_cond rfl (fun h2 => ?_) (fun h2 => ?_)
          · replace hL1 := ite_t h2 hL1
            refine c_skip ?_
            refine sat_wc ?_
            refine c_seq ?_
            refine c_block ?_
            refine c_seq ?_
            refine c_draw (n := 9) [] mixed rfl rfl ?_
            refine d_val 0 rfl pnok (by kernel_rfl) (by kernel_rfl) (by kernel_rfl) rfl (v_move rfl) ?_
            refine d_val 1 rfl pnok (by kernel_rfl) (by kernel_rfl) (by kernel_rfl) rfl (v_move rfl) ?_
            refine ite_some hL1 fun h3 hL1 => ?_
            refine d_val 2 rfl pnok (by kernel_rfl) (by kernel_rfl) (by kernel_rfl) rfl (v_indexAddr_s (xs := a_) (enc := eRun) sl43 rfl rfl (.f 0 rfl) h3) ?_
            refine d_val 3 rfl pnok (by kernel_rfl) (by kernel_rfl) (by kernel_rfl) rfl (v_load_s (xs := a_) (enc := eRun) ty48 rfl (.f 0 rfl) h3 rfl rfl rfl rfl rfl rfl rfl) ?_
            refine d_val 4 rfl pnok (by kernel_rfl) (by kernel_rfl) (by kernel_rfl) rfl (v_move rfl) ?_
            refine d_val 5 rfl pnok (by kernel_rfl) (by kernel_rfl) (by kernel_rfl) rfl (v_move rfl) ?_
            refine ite_some hL1 fun h4 hL1 => ?_
            refine d_val 6 rfl pnok (by kernel_rfl) (by kernel_rfl) (by kernel_rfl) rfl (v_indexAddr_s (xs := b) (enc := eRun) sl43 rfl rfl (.f 1 rfl) h4) ?_
            refine d_val 7 rfl pnok (by kernel_rfl) (by kernel_rfl) (by kernel_rfl) rfl (v_load_s (xs := b) (enc := eRun) ty48 rfl (.f 1 rfl) h4 rfl rfl rfl rfl rfl rfl rfl) ?_
            refine d_val 8 rfl pnok (by kernel_rfl) (by kernel_rfl) (by kernel_rfl) rfl (v_agne 2 rfl rfl (eq48 ((at_ a_ i).Lo) ((at_ a_ i).Hi) ((at_ b i).Lo) ((at_ b i).Hi)) rfl guard48) ?_
            refine d_done_seq (by kernel_rfl) ?_
            refine c_cond rfl (fun h5 => ?_) (fun h5 => ?_)
            · replace hL1 := ite_t h5 hL1
              refine c_seq ?_
              refine c_region ?_
              refine o_v (v_assign rfl) rfl ?_
              refine o_seq ?_
              refine c_ret ?_
              cases hL1
              obtain rfl := lrf_ret hF
              refine s_ret1 rfl (r_tmp rfl) fun a w hs => ?_
              exact fin_sel hs [] ⟨rfl, rfl, rfl⟩ rfl sub_nil
            · replace hL1 := ite_f h5 hL1
              refine c_skip ?_
              refine sat_wc ?_
              refine c_region ?_
              refine o_v (v_move rfl) rfl ?_
              refine o_v (v_bin rfl rfl rfl) rfl ?_
              refine o_v (v_assign rfl) rfl ?_
              refine o_nil ?_
              intro a w hs
              exact ⟨j, Nat.lt_succ_self j, IntKind.wrap .i64 (i + 1), hL1, st_le [] (le_cons rfl (le_cons rfl (le_cons rfl (le_cons rfl (le_cons rfl le_nil))))) rfl (sub_cons 0 rfl (sub_cons 1 rfl sub_nil)) a w hs⟩
          · replace hL1 := ite_f h2 hL1
            refine c_exit0 ?_
            cases hL1
            refine s_st ?_ (hN1 () rfl)
            exact st_le [] (le_cons rfl (le_cons rfl (le_cons rfl (le_cons rfl le_nil)))) rfl (sub_cons 0 rfl (sub_cons 1 rfl sub_nil))
    · intro d1 hd
      subst hd
      replace hF := lrf_done hF
      refine sat_wc ?_
      refine c_seq ?_
      refine c_region ?_
      refine o_v (v_assign rfl) rfl ?_
      refine o_seq ?_
      refine c_ret ?_
      cases hF
      refine s_ret1 rfl (r_tmp rfl) fun a w hs => ?_
      exact fin_sel hs [] ⟨rfl, rfl, rfl⟩ rfl sub_nil
theorem tri7 (k : Nat) (s : S4) (r : Bool) (hF : F.law01.CharsetLists k s = some r) :
    Tri Try.prog 7 [.agg #[.int .u64 s.w0, .int .u64 s.w1, .int .u64 s.w2, .int .u64 s.w3]] [] [] (fun o H Φ => o = .ret (.bool r) ∧ H = [] ∧ Φ = []) := by
  unfold F.law01.CharsetLists at hF
  refine tri_intro (n := 57) Try.func7 rfl Try.ntmps7 rfl fun w X => ?_
  refine c_seq ?_
  refine c_region ?_
  refine o_box rfl rfl rfl fun b => ?_
  refine o_v (v_assign rfl) rfl ?_
  refine o_seq ?_
  refine c_seq ?_
  refine c_draw (n := 6) [0] mixed rfl rfl ?_
  refine d_val 0 rfl pnok (by kernel_rfl) (by kernel_rfl) (by kernel_rfl) rfl (v_load_box 0 ty26 rfl rfl rfl rfl rfl) ?_
  refine d_val 2 rfl pnok (by kernel_rfl) (by kernel_rfl) (by kernel_rfl) rfl (v_load_box 0 ty26 rfl rfl rfl rfl rfl) ?_
  refine d_one 1 rfl (by kernel_rfl) ?_
  obtain ⟨v, h1, hF⟩ := bd hF
  refine o_call0 call23 rfl sub_nil (tri23 s v h1) rfl ?_
  rintro _ _ _ ⟨sa1, sn1, sc1, rfl, rfl, rfl⟩
  refine d_next [1] 0 rfl rfl ?_
  refine d_one 3 rfl (by kernel_rfl) ?_
  obtain ⟨v1, h2, hF⟩ := bd hF
  refine o_call0 call24 rfl sub_nil (tri24 s v1 h2) rfl ?_
  rintro _ _ _ ⟨sa2, sn2, sc2, rfl, rfl, rfl⟩
  refine d_next [2] 0 rfl rfl ?_
  refine d_val 4 rfl pnok (by kernel_rfl) (by kernel_rfl) (by kernel_rfl) rfl (v_assign rfl) ?_
  refine d_val 5 rfl pnok (by kernel_rfl) (by kernel_rfl) (by kernel_rfl) rfl (v_assign rfl) ?_
  refine d_done_seq (by kernel_rfl) ?_
  refine c_seq ?_
  refine c_seq ?_
  refine c_region ?_
  refine o_v (v_move rfl) rfl ?_
  refine o_v (v_load_box 2 ty26 rfl rfl rfl rfl rfl) rfl ?_
  obtain ⟨v2, h3, hF⟩ := bd hF
  refine o_call0 call26 rfl sub_nil (tri26 k s v2 h3) rfl ?_
  rintro _ _ _ ⟨sa3, sn3, sc3, rfl, rfl, rfl⟩
  obtain ⟨v3, h4, hF⟩ := bd hF
  refine o_callSB call25 rfl (lent_r 2 rfl (lent_r 0 rfl lent_nil)) (tri25 v v2 sa1 sn1 sc1 sa3 sn3 sc3 v3 h4) rfl ?_
  refine o_v (v_not rfl) rfl ?_
  refine o_v (v_move rfl) rfl ?_
  refine o_split (t := 16) rfl (fun h5 => ?_) (fun h5 => ?_)
  · replace hF := ite_t h5 hF
    refine o_off rfl rfl (by decide) rfl ?_
    refine o_off rfl rfl (by decide) rfl ?_
    refine o_off rfl rfl (by decide) rfl ?_
    refine o_off rfl rfl (by decide) rfl ?_
    refine o_off rfl rfl (by decide) rfl ?_
    refine o_v (v_pick_t rfl rfl) rfl ?_
    refine o_seq ?_
    refine c_cond rfl (fun _ => ?_) (fun h => Bool.noConfusion h)
    refine c_seq ?_
    refine c_region ?_
    refine o_v (v_assign rfl) rfl ?_
    refine o_seq ?_
    refine c_ret ?_
    cases hF
    refine s_ret1 rfl (r_tmp rfl) fun a w hs => ?_
    exact fin_sel hs [] ⟨rfl, rfl, rfl⟩ rfl sub_nil
  · replace hF := ite_f h5 hF
    refine o_on rfl rfl ?_
    refine o_v (v_move rfl) rfl ?_
    refine o_on rfl rfl ?_
    refine o_v (v_load_box 3 ty26 rfl rfl rfl rfl rfl) rfl ?_
    refine o_on rfl rfl ?_
    obtain ⟨v4, h6, hF⟩ := bd hF
    refine o_call0 call28 rfl sub_nil (tri28 k s v4 h6) rfl ?_
    rintro _ _ _ ⟨sa4, sn4, sc4, rfl, rfl, rfl⟩
    refine o_on rfl rfl ?_
    obtain ⟨v5, h7, hF⟩ := bd hF
    refine o_callSB call27 rfl (lent_r 2 rfl (lent_r 0 rfl lent_nil)) (tri27 k v1 v4 sa2 sn2 sc2 sa4 sn4 sc4 v5 h7) rfl ?_
    refine o_on rfl rfl ?_
    refine o_v (v_not rfl) rfl ?_
    refine o_v (v_pick_f rfl rfl) rfl ?_
    refine o_seq ?_
    refine c_cond rfl (fun h8 => ?_) (fun h8 => ?_)
    · replace hF := ite_t h8 hF
      refine c_seq ?_
      refine c_region ?_
      refine o_v (v_assign rfl) rfl ?_
      refine o_seq ?_
      refine c_ret ?_
      cases hF
      refine s_ret1 rfl (r_tmp rfl) fun a w hs => ?_
      exact fin_sel hs [] ⟨rfl, rfl, rfl⟩ rfl sub_nil
    · replace hF := ite_f h8 hF
      refine c_skip ?_
      refine sat_wc ?_
      refine c_seq ?_
      refine c_seq ?_
      refine c_region ?_
      refine o_v (v_assign rfl) rfl ?_
      refine o_seq ?_
      obtain ⟨o1, ho1, hF⟩ := bd hF
      refine c_cut (fun E N' => ∀ (sa6 : Option Addr) (sn6 sc6 : Nat), Sat E [(0, .agg #[.int .u64 s.w0, .int .u64 s.w1, .int .u64 s.w2, .int .u64 s.w3]), (1, .pointer (some ⟨b, 0, none⟩)), (2, .bool false), (3, .slice sa6 sn6 sc6), (4, .slice sa2 sn2 sc2), (22, .bool (!v5))] [.box b 26 [.int .u64 s.w0, .int .u64 s.w1, .int .u64 s.w2, .int .u64 s.w3], .row (.slice sa6 sn6 sc6) 5 1 (o1.map eU8), .row (.slice sa2 sn2 sc2) 48 2 (v1.map eRun)] [] N') (fun N1 hN1 => ?_) ?_
      · refine c_block ?_
        refine c_loopE (fun E j a w => ∃ (l_ : List Int) (i : Int) (sa5 : Option Addr) (sn5 sc5 : Nat), F.law01.CharsetLists_l1 j l_ i = some o1 ∧ St E [(0, .agg #[.int .u64 s.w0, .int .u64 s.w1, .int .u64 s.w2, .int .u64 s.w3]), (1, .pointer (some ⟨b, 0, none⟩)), (2, .bool false), (3, .slice sa5 sn5 sc5), (4, .slice sa2 sn2 sc2), (5, .int .i64 i), (22, .bool (!v5))] [.box b 26 [.int .u64 s.w0, .int .u64 s.w1, .int .u64 s.w2, .int .u64 s.w3], .row (.slice sa5 sn5 sc5) 5 1 (l_.map eU8), .row (.slice sa2 sn2 sc2) 48 2 (v1.map eRun)] [] a w) k ?_ ?_
        · intro a w hs
          exact ⟨v, 0, sa1, sn1, sc1, ho1, st_le [4, 3, 2] (le_cons rfl (le_cons rfl (le_cons rfl (le_cons rfl (le_cons rfl (le_cons rfl (le_cons rfl le_nil))))))) rfl sub_nil a w hs⟩
        · rintro j a w ⟨l_, i, sa5, sn5, sc5, hL1, hs⟩
          cases j with
          | zero => cases hL1
          | succ j =>
            refine wc_app hs ?_
            unfold F.law01.CharsetLists_l1 at hL1
            refine c_seq ?_
            refine c_seq ?_
            refine c_region ?_
            refine o_v (v_move rfl) rfl ?_
            refine o_v (v_move rfl) rfl ?_
            refine o_v (v_lenS (enc := eU8) l_ sl22 rfl (.r 1 _ rfl)) rfl ?_
            refine o_v (v_bin rfl rfl rfl) rfl ?_
            refine o_seq ?_
            refine c_cond rfl (fun h9 => ?_) (fun h9 => ?_)
            · replace hL1 := ite_t h9 hL1
              refine c_skip ?_
              refine sat_wc ?_
              refine c_seq ?_
              refine c_block ?_
              refine c_region ?_
              refine o_v (v_move rfl) rfl ?_
              refine o_v (v_move rfl) rfl ?_
              refine ite_some hL1 fun h10 hL1 => ?_
              refine o_v (v_indexAddr_s (xs := l_) (enc := eU8) sl22 rfl rfl (.r 1 _ rfl) h10) rfl ?_
              refine o_store_s (xs := l_) (enc := eU8) 1 7 rfl ty5 rfl rfl rfl rfl h10 (.s rfl (.nil)) rfl rfl rfl ?_
              refine o_nil ?_
              refine sat_wc ?_
              refine c_region ?_
              refine o_v (v_move rfl) rfl ?_
              refine o_v (v_bin rfl rfl rfl) rfl ?_
              refine o_v (v_assign rfl) rfl ?_
              refine o_nil ?_
              intro a w hs
              exact ⟨j, Nat.lt_succ_self j, set_ l_ i 7, IntKind.wrap .i64 (i + 1), sa5, sn5, sc5, hL1, st_le [0, 0, 0] (le_cons rfl (le_cons rfl (le_cons rfl (le_cons rfl (le_cons rfl (le_cons rfl (le_cons rfl le_nil))))))) rfl sub_nil a w hs⟩
            · replace hL1 := ite_f h9 hL1
              refine c_exit0 ?_
              cases hL1
              refine s_st ?_ (hN1 sa5 sn5 sc5)
              exact st_le [0, 0, 0] (le_cons rfl (le_cons rfl (le_cons rfl (le_cons rfl (le_cons rfl (le_cons rfl le_nil)))))) rfl sub_nil
      · intro sa6 sn6 sc6
        refine sat_wc ?_
        refine c_seq ?_
        refine c_seq ?_
        refine c_region ?_
        refine o_v (v_assign rfl) rfl ?_
        refine o_seq ?_
        obtain ⟨o2, ho2, hF⟩ := bd hF
        refine c_cut (fun E N' => ∀ (sa8 : Option Addr) (sn8 sc8 : Nat), Sat E [(0, .agg #[.int .u64 s.w0, .int .u64 s.w1, .int .u64 s.w2, .int .u64 s.w3]), (1, .pointer (some ⟨b, 0, none⟩)), (2, .bool false), (3, .slice sa6 sn6 sc6), (4, .slice sa8 sn8 sc8), (22, .bool (!v5))] [.box b 26 [.int .u64 s.w0, .int .u64 s.w1, .int .u64 s.w2, .int .u64 s.w3], .row (.slice sa6 sn6 sc6) 5 1 (o1.map eU8), .row (.slice sa8 sn8 sc8) 48 2 (o2.map eRun)] [] N') (fun N2 hN2 => ?_) ?_
        · refine c_block ?_
          refine c_loopE (fun E j a w => ∃ (r_ : List Run) (i1 : Int) (sa7 : Option Addr) (sn7 sc7 : Nat), F.law01.CharsetLists_l2 j r_ i1 = some o2 ∧ St E [(0, .agg #[.int .u64 s.w0, .int .u64 s.w1, .int .u64 s.w2, .int .u64 s.w3]), (1, .pointer (some ⟨b, 0, none⟩)), (2, .bool false), (3, .slice sa6 sn6 sc6), (4, .slice sa7 sn7 sc7), (6, .int .i64 i1), (22, .bool (!v5))] [.box b 26 [.int .u64 s.w0, .int .u64 s.w1, .int .u64 s.w2, .int .u64 s.w3], .row (.slice sa6 sn6 sc6) 5 1 (o1.map eU8), .row (.slice sa7 sn7 sc7) 48 2 (r_.map eRun)] [] a w) k ?_ ?_
          · intro a w hs
            exact ⟨v1, 0, sa2, sn2, sc2, ho2, st_le [0, 0, 0] (le_cons rfl (le_cons rfl (le_cons rfl (le_cons rfl (le_cons rfl (le_cons rfl (le_cons rfl le_nil))))))) rfl sub_nil a w hs⟩
          · rintro j a w ⟨r_, i1, sa7, sn7, sc7, hL2, hs⟩
            cases j with
            | zero => cases hL2
            | succ j =>
              refine wc_app hs ?_
              unfold F.law01.CharsetLists_l2 at hL2
              refine c_seq ?_
              refine c_seq ?_
              refine c_region ?_
              refine o_v (v_move rfl) rfl ?_
              refine o_v (v_move rfl) rfl ?_
              refine o_v (v_lenS (enc := eRun) r_ sl43 rfl (.r 2 _ rfl)) rfl ?_
              refine o_v (v_bin rfl rfl rfl) rfl ?_
              refine o_seq ?_
              refine c_cond rfl (fun h11 => ?_) (fun h11 => ?_)
              · replace hL2 := ite_t h11 hL2
                refine c_skip ?_
                refine sat_wc ?_
                refine c_seq ?_
                refine c_block ?_
                refine c_region ?_
                refine o_v (v_move rfl) rfl ?_
                refine o_v (v_move rfl) rfl ?_
                refine ite_some hL2 fun h12 hL2 => ?_
                refine o_v (v_indexAddr_s (xs := r_) (enc := eRun) sl43 rfl rfl (.r 2 _ rfl) h12) rfl ?_
                refine o_v (v_fieldAddr (v := .pointer (some ⟨blkA sa7, offA sa7 + (i1.toNat * 2 + 0), none⟩)) rfl (fun _ => by kernel_rfl)) rfl ?_
                refine o_store_s (xs := r_) (enc := eRun) 2 (Run.mk (-1) ((at_ r_ i1).Hi)) rfl ty3 rfl rfl rfl rfl h12 (.s rfl (.nil)) rfl rfl rfl ?_
                refine o_nil ?_
                refine sat_wc ?_
                refine c_region ?_
                refine o_v (v_move rfl) rfl ?_
                refine o_v (v_bin rfl rfl rfl) rfl ?_
                refine o_v (v_assign rfl) rfl ?_
                refine o_nil ?_
                intro a w hs
                exact ⟨j, Nat.lt_succ_self j, set_ r_ i1 (Run.mk (-1) ((at_ r_ i1).Hi)), IntKind.wrap .i64 (i1 + 1), sa7, sn7, sc7, hL2, st_le [0, 0, 0] (le_cons rfl (le_cons rfl (le_cons rfl (le_cons rfl (le_cons rfl (le_cons rfl (le_cons rfl le_nil))))))) rfl sub_nil a w hs⟩
              · replace hL2 := ite_f h11 hL2
                refine c_exit0 ?_
                cases hL2
                refine s_st ?_ (hN2 sa7 sn7 sc7)
                exact st_le [0, 0, 0] (le_cons rfl (le_cons rfl (le_cons rfl (le_cons rfl (le_cons rfl (le_cons rfl le_nil)))))) rfl sub_nil
        · intro sa8 sn8 sc8
          refine sat_wc ?_
          refine c_seq ?_
          refine c_draw (n := 16) [0, 0, 0] mixed rfl rfl ?_
          refine d_one 0 rfl (by kernel_rfl) ?_
          obtain ⟨v6, h13, hF⟩ := bd hF
          refine o_callSB call12 rfl lent_nil (tri12 k v6 h13) rfl ?_
          refine d_next [0, 0, 0] 0 rfl rfl ?_
          refine d_val 1 rfl pnok (by kernel_rfl) (by kernel_rfl) (by kernel_rfl) rfl (v_move rfl) ?_
          refine d_split (t := 43) rfl (fun h14 => ?_) (fun h14 => ?_)
          · replace hF := ite_t h14 hF
            refine d_val_on 2 rfl rfl rfl pnok (by kernel_rfl) (by kernel_rfl) (by kernel_rfl) rfl (v_load_box 0 ty26 rfl rfl rfl rfl rfl) ?_
            refine d_val_on 4 rfl rfl rfl pnok (by kernel_rfl) (by kernel_rfl) (by kernel_rfl) rfl (v_load_box 0 ty26 rfl rfl rfl rfl rfl) ?_
            refine d_one 3 rfl (by kernel_rfl) ?_
            refine o_on rfl rfl ?_
            refine o_call0 call23 rfl sub_nil (tri23 s v h1) rfl ?_
            rintro _ _ _ ⟨sa9, sn9, sc9, rfl, rfl, rfl⟩
            refine d_next [1, 1, 1] 0 rfl rfl ?_
            refine d_one 5 rfl (by kernel_rfl) ?_
            refine o_on rfl rfl ?_
            refine o_call0 call26 rfl sub_nil (tri26 k s v2 h3) rfl ?_
            rintro _ _ _ ⟨sa10, sn10, sc10, rfl, rfl, rfl⟩
            refine d_next [2, 2, 2] 0 rfl rfl ?_
            refine d_one 6 rfl (by kernel_rfl) ?_
            refine o_on rfl rfl ?_
            refine o_callSB call25 rfl (lent_r 1 rfl (lent_r 0 rfl lent_nil)) (tri25 v v2 sa9 sn9 sc9 sa10 sn10 sc10 v3 h4) rfl ?_
            refine d_next [2, 2, 2] 0 rfl rfl ?_
            refine d_val 7 rfl pnok (by kernel_rfl) (by kernel_rfl) (by kernel_rfl) rfl (v_pick_t rfl rfl) ?_
            refine d_val 8 rfl pnok (by kernel_rfl) (by kernel_rfl) (by kernel_rfl) rfl (v_move rfl) ?_
            refine d_split (t := 50) rfl (fun h15 => ?_) (fun h15 => ?_)
            · replace hF := ite_t h15 hF
              refine d_val_on 9 rfl rfl rfl pnok (by kernel_rfl) (by kernel_rfl) (by kernel_rfl) rfl (v_load_box 0 ty26 rfl rfl rfl rfl rfl) ?_
              refine d_val_on 11 rfl rfl rfl pnok (by kernel_rfl) (by kernel_rfl) (by kernel_rfl) rfl (v_load_box 0 ty26 rfl rfl rfl rfl rfl) ?_
              refine d_one 10 rfl (by kernel_rfl) ?_
              refine o_on rfl rfl ?_
              refine o_call0 call24 rfl sub_nil (tri24 s v1 h2) rfl ?_
              rintro _ _ _ ⟨sa11, sn11, sc11, rfl, rfl, rfl⟩
              refine d_next [3, 3, 3] 0 rfl rfl ?_
              refine d_one 12 rfl (by kernel_rfl) ?_
              refine o_on rfl rfl ?_
              refine o_call0 call28 rfl sub_nil (tri28 k s v4 h6) rfl ?_
              rintro _ _ _ ⟨sa12, sn12, sc12, rfl, rfl, rfl⟩
              refine d_next [4, 4, 4] 0 rfl rfl ?_
              refine d_one 13 rfl (by kernel_rfl) ?_
              refine o_on rfl rfl ?_
              refine o_callSB call27 rfl (lent_r 1 rfl (lent_r 0 rfl lent_nil)) (tri27 k v1 v4 sa11 sn11 sc11 sa12 sn12 sc12 v5 h7) rfl ?_
              refine d_next [4, 4, 4] 0 rfl rfl ?_
              refine d_val 14 rfl pnok (by kernel_rfl) (by kernel_rfl) (by kernel_rfl) rfl (v_pick_t rfl rfl) ?_
              refine d_val 15 rfl pnok (by kernel_rfl) (by kernel_rfl) (by kernel_rfl) rfl (v_assign rfl) ?_
              refine d_done_seq (by kernel_rfl) ?_
              refine c_ret ?_
              cases hF
              refine s_ret1 rfl (r_tmp rfl) fun a w hs => ?_
              exact fin_sel hs [] ⟨rfl, rfl, rfl⟩ rfl sub_nil
            · replace hF := ite_f h15 hF
              refine d_off 9 rfl rfl rfl (by decide) pnok (by kernel_rfl) (by kernel_rfl) (by kernel_rfl) rfl ?_
              refine d_off 10 rfl rfl rfl (by decide) pnok (by kernel_rfl) (by kernel_rfl) (by kernel_rfl) rfl ?_
              refine d_off 11 rfl rfl rfl (by decide) pnok (by kernel_rfl) (by kernel_rfl) (by kernel_rfl) rfl ?_
              refine d_off 12 rfl rfl rfl (by decide) pnok (by kernel_rfl) (by kernel_rfl) (by kernel_rfl) rfl ?_
              refine d_off 13 rfl rfl rfl (by decide) pnok (by kernel_rfl) (by kernel_rfl) (by kernel_rfl) rfl ?_
              refine d_val 14 rfl pnok (by kernel_rfl) (by kernel_rfl) (by kernel_rfl) rfl (v_pick_f rfl rfl) ?_
              refine d_val 15 rfl pnok (by kernel_rfl) (by kernel_rfl) (by kernel_rfl) rfl (v_assign rfl) ?_
              refine d_done_seq (by kernel_rfl) ?_
              refine c_ret ?_
              cases hF
              refine s_ret1 rfl (r_tmp rfl) fun a w hs => ?_
              exact fin_sel hs [] ⟨rfl, rfl, rfl⟩ rfl sub_nil
          · replace hF := ite_f h14 hF
            refine d_off 2 rfl rfl rfl (by decide) pnok (by kernel_rfl) (by kernel_rfl) (by kernel_rfl) rfl ?_
            refine d_off 3 rfl rfl rfl (by decide) pnok (by kernel_rfl) (by kernel_rfl) (by kernel_rfl) rfl ?_
            refine d_off 4 rfl rfl rfl (by decide) pnok (by kernel_rfl) (by kernel_rfl) (by kernel_rfl) rfl ?_
            refine d_off 5 rfl rfl rfl (by decide) pnok (by kernel_rfl) (by kernel_rfl) (by kernel_rfl) rfl ?_
            refine d_off 6 rfl rfl rfl (by decide) pnok (by kernel_rfl) (by kernel_rfl) (by kernel_rfl) rfl ?_
            refine d_val 7 rfl pnok (by kernel_rfl) (by kernel_rfl) (by kernel_rfl) rfl (v_pick_f rfl rfl) ?_
            refine d_val 8 rfl pnok (by kernel_rfl) (by kernel_rfl) (by kernel_rfl) rfl (v_move rfl) ?_
            refine d_off 9 rfl rfl rfl (by decide) pnok (by kernel_rfl) (by kernel_rfl) (by kernel_rfl) rfl ?_
            refine d_off 10 rfl rfl rfl (by decide) pnok (by kernel_rfl) (by kernel_rfl) (by kernel_rfl) rfl ?_
            refine d_off 11 rfl rfl rfl (by decide) pnok (by kernel_rfl) (by kernel_rfl) (by kernel_rfl) rfl ?_
            refine d_off 12 rfl rfl rfl (by decide) pnok (by kernel_rfl) (by kernel_rfl) (by kernel_rfl) rfl ?_
            refine d_off 13 rfl rfl rfl (by decide) pnok (by kernel_rfl) (by kernel_rfl) (by kernel_rfl) rfl ?_
            refine d_val 14 rfl pnok (by kernel_rfl) (by kernel_rfl) (by kernel_rfl) rfl (v_pick_f rfl rfl) ?_
            refine d_val 15 rfl pnok (by kernel_rfl) (by kernel_rfl) (by kernel_rfl) rfl (v_assign rfl) ?_
            refine d_done_seq (by kernel_rfl) ?_
            refine c_ret ?_
            cases hF
            refine s_ret1 rfl (r_tmp rfl) fun a w hs => ?_
            exact fin_sel hs [] ⟨rfl, rfl, rfl⟩ rfl sub_nil
theorem tri8 (k : Nat) (s : S4) (most : Int) (r : Bool) (hF : F.law01.CharsetEach k s most = some r) :
    Tri Try.prog 8 [.agg #[.int .u64 s.w0, .int .u64 s.w1, .int .u64 s.w2, .int .u64 s.w3], .int .i64 most] [] [] (fun o H Φ => o = .ret (.bool r) ∧ H = [] ∧ Φ = []) := by
  unfold F.law01.CharsetEach at hF
  refine tri_intro (n := 71) Try.func8 rfl Try.ntmps8 rfl fun w X => ?_
  refine c_seq ?_
  refine c_region ?_
  refine o_box rfl rfl rfl fun b => ?_
  refine o_box rfl rfl rfl fun b1 => ?_
  refine o_alloc zero4 rfl rfl fun b2 => ?_
  refine o_seq ?_
  refine c_seq ?_
  refine c_seq ?_
  refine c_cut (fun E N' => ∀ (t14 : Bool), F.law01.CharsetEach_j1 k s most t14 = some r → Sat E [(0, .agg #[.int .u64 s.w0, .int .u64 s.w1, .int .u64 s.w2, .int .u64 s.w3]), (1, .int .i64 most), (2, .pointer (some ⟨b, 0, none⟩)), (3, .pointer (some ⟨b1, 0, none⟩)), (4, .pointer (some ⟨b2, 0, none⟩)), (14, .bool t14)] [.box b2 4 [.bool false], .box b1 3 [.int .i64 most], .box b 26 [.int .u64 s.w0, .int .u64 s.w1, .int .u64 s.w2, .int .u64 s.w3]] [] N') (fun N6 hN6 => ?_) ?_
  · refine c_region ?_
    refine o_v (v_load_box 1 ty3 rfl rfl rfl rfl rfl) rfl ?_
    refine o_v (v_bin rfl rfl rfl) rfl ?_
    refine o_v (v_move rfl) rfl ?_
    refine o_split (t := 11) rfl (fun h18 => ?_) (fun h18 => ?_)
    · replace hF := ite_t h18 hF
      refine o_off rfl rfl (by decide) rfl ?_
      refine o_off rfl rfl (by decide) rfl ?_
      refine o_v (v_pick_t rfl rfl) rfl ?_
      refine o_nil ?_
      refine s_st ?_ (hN6 true hF)
      exact st_le [0, 0, 0] (le_cons rfl (le_cons rfl (le_cons rfl (le_cons rfl (le_cons rfl (le_cons rfl le_nil)))))) rfl sub_nil
    · replace hF := ite_f h18 hF
      refine o_on rfl rfl ?_
      refine o_v (v_load_box 1 ty3 rfl rfl rfl rfl rfl) rfl ?_
      refine o_on rfl rfl ?_
      refine o_v (v_bin rfl rfl rfl) rfl ?_
      refine o_v (v_pick_f rfl rfl) rfl ?_
      refine o_nil ?_
      refine s_st ?_ (hN6 (decide (256 < most)) hF)
      exact st_le [0, 0, 0] (le_cons rfl (le_cons rfl (le_cons rfl (le_cons rfl (le_cons rfl (le_cons rfl le_nil)))))) rfl sub_nil
  · intro t14 hF
    unfold F.law01.CharsetEach_j1 at hF
    refine sat_wc ?_
    refine c_cut (fun E N' => ∀ (most1 : Int), F.law01.CharsetEach_j2 k s most1 = some r → Sat E [(0, .agg #[.int .u64 s.w0, .int .u64 s.w1, .int .u64 s.w2, .int .u64 s.w3]), (1, .int .i64 most), (2, .pointer (some ⟨b, 0, none⟩)), (3, .pointer (some ⟨b1, 0, none⟩)), (4, .pointer (some ⟨b2, 0, none⟩))] [.box b2 4 [.bool false], .box b1 3 [.int .i64 most1], .box b 26 [.int .u64 s.w0, .int .u64 s.w1, .int .u64 s.w2, .int .u64 s.w3]] [] N') (fun N6 hN6 => ?_) ?_
    · refine c_cond rfl (fun h17 => ?_) (fun h17 => ?_)
      · replace hF := ite_t h17 hF
        refine c_region ?_
        refine o_store_box 1 rfl ty3 rfl rfl rfl rfl rfl rfl rfl ?_
        refine o_nil ?_
        refine s_st ?_ (hN6 256 hF)
        exact st_le [0, 0, 0] (le_cons rfl (le_cons rfl (le_cons rfl (le_cons rfl (le_cons rfl le_nil))))) rfl sub_nil
      · replace hF := ite_f h17 hF
        refine c_skip ?_
        refine s_st ?_ (hN6 most hF)
        exact st_le [0, 0, 0] (le_cons rfl (le_cons rfl (le_cons rfl (le_cons rfl (le_cons rfl le_nil))))) rfl sub_nil
    · intro most1 hF
      unfold F.law01.CharsetEach_j2 at hF
      refine sat_wc ?_
      refine c_seq ?_
      refine c_region ?_
      refine o_v (v_load_box 2 ty26 rfl rfl rfl rfl rfl) rfl ?_
      obtain ⟨v, h1, hF⟩ := bd hF
      refine o_call0 call23 rfl sub_nil (tri23 s v h1) rfl ?_
      rintro _ _ _ ⟨sa1, sn1, sc1, rfl, rfl, rfl⟩
      refine o_alloc zero22 rfl rfl fun b3 => ?_
      refine o_store_box 0 rfl ty22 rfl rfl rfl rfl rfl rfl rfl ?_
      refine o_seq ?_
      refine c_seq ?_
      refine c_region ?_
      refine o_alloc zero3 rfl rfl fun b4 => ?_
      refine o_store_box 0 rfl ty3 rfl rfl rfl rfl rfl rfl rfl ?_
      refine o_seq ?_
      refine c_seq ?_
      refine c_region ?_
      refine o_v (v_load_box 5 ty26 rfl rfl rfl rfl rfl) rfl ?_
      refine o_call0 call29 rfl sub_nil (tri29 s) rfl ?_
      rintro _ _ _ ⟨b5, rfl, rfl, rfl⟩
      refine o_v (v_assign rfl) rfl ?_
      refine o_seq ?_
      refine c_seq ?_
      refine c_seq ?_
      refine c_region ?_
      refine o_v (v_move rfl) rfl ?_
      refine o_v (v_fnil rfl rfl Try.underlying50) rfl ?_
      refine o_seq ?_
      refine c_cond rfl (fun h => Bool.noConfusion h) (fun _ => ?_)
      refine c_skip ?_
      refine sat_wc ?_
      refine c_seq ?_
      refine c_seq ?_
      refine c_region ?_
      refine o_v (v_move rfl) rfl ?_
      refine o_seq ?_
      refine c_block ?_
      obtain ⟨ob3, hb3, hF⟩ := bd hF
      refine c_range (i := 0) (V := Int) (U := Unit) (F.law01.CharsetEach_b3 v most1) 0 () (allB s) 256 (fun (v3 : Int) (u3 : Unit) => [.box b5 26 [.int .u64 s.w0, .int .u64 s.w1, .int .u64 s.w2, .int .u64 s.w3], .box b4 3 [.int .i64 v3], .box b3 22 [.slice sa1 sn1 sc1], .box b2 4 [.bool false], .box b1 3 [.int .i64 most1], .box b 26 [.int .u64 s.w0, .int .u64 s.w1, .int .u64 s.w2, .int .u64 s.w3], .row (.slice sa1 sn1 sc1) 5 1 (v.map eU8)]) (fun (v3 : Int) (u3 : Unit) => []) (fun (x : Int) => [(0, .agg #[.int .u64 s.w0, .int .u64 s.w1, .int .u64 s.w2, .int .u64 s.w3]), (1, .int .i64 most), (2, .pointer (some ⟨b, 0, none⟩)), (3, .pointer (some ⟨b1, 0, none⟩)), (4, .pointer (some ⟨b2, 0, none⟩)), (5, .pointer (some ⟨b3, 0, none⟩)), (6, .pointer (some ⟨b4, 0, none⟩)), (7, .func (.func 42) #[] #[.pointer (some ⟨b5, 0, none⟩)]), (15, .agg #[.int .u64 s.w0, .int .u64 s.w1, .int .u64 s.w2, .int .u64 s.w3]), (16, .slice sa1 sn1 sc1), (17, .agg #[.int .u64 s.w0, .int .u64 s.w1, .int .u64 s.w2, .int .u64 s.w3]), (18, .func (.func 42) #[] #[.pointer (some ⟨b5, 0, none⟩)]), (19, .func (.func 42) #[] #[.pointer (some ⟨b5, 0, none⟩)]), (20, .bool false), (21, .func (.func 42) #[] #[.pointer (some ⟨b5, 0, none⟩)]), (22, .int .u8 x), (8, .int .u8 x)]) rfl rfl rfl call42 rfl (fun w hb => all_stops s _ w hb) (fun v3 u3 => List.mem_of_getElem? (i := 0) rfl) (fun v3 u3 => rfl) (st_sel [0, 0, 0, 1, 1, 1, 0] rfl sub_nil) (tot_law01_CharsetEach_b3 v most1) ?_ ?_ ?_ ?_ ?_
      · intro W3 rd3 x v3 u3
        refine c_region ?_
        refine o_v (v_assign rfl) rfl ?_
        refine o_nil ?_
        exact st_le [0, 0, 0, 0, 0, 0, 0] (le_cons rfl (le_cons rfl (le_cons rfl (le_cons rfl (le_cons rfl (le_cons rfl (le_cons rfl (le_cons rfl (le_cons rfl (le_cons rfl (le_cons rfl (le_cons rfl (le_cons rfl (le_cons rfl (le_cons rfl (le_cons rfl (le_cons rfl le_nil))))))))))))))))) rfl sub_nil
      · intro W3 rd3 x v3 u3 o3 ho3
        unfold F.law01.CharsetEach_b3 at ho3
        refine c_block ?_
        refine c_seq ?_
        refine c_seq ?_
        refine c_cut (fun E N' => ∀ (t47 : Bool), F.law01.CharsetEach_j4 v3 most1 t47 = some o3 → Sat E [(0, .agg #[.int .u64 s.w0, .int .u64 s.w1, .int .u64 s.w2, .int .u64 s.w3]), (1, .int .i64 most), (2, .pointer (some ⟨b, 0, none⟩)), (3, .pointer (some ⟨b1, 0, none⟩)), (4, .pointer (some ⟨b2, 0, none⟩)), (5, .pointer (some ⟨b3, 0, none⟩)), (6, .pointer (some ⟨b4, 0, none⟩)), (7, .func (.func 42) #[] #[.pointer (some ⟨b5, 0, none⟩)]), (8, .int .u8 x), (20, .bool false), (21, .func (.func 42) #[] #[.pointer (some ⟨b5, 0, none⟩)]), (47, .bool t47)] [.box b5 26 [.int .u64 s.w0, .int .u64 s.w1, .int .u64 s.w2, .int .u64 s.w3], .box b4 3 [.int .i64 v3], .box b3 22 [.slice sa1 sn1 sc1], .box b2 4 [.bool false], .box b1 3 [.int .i64 most1], .box b 26 [.int .u64 s.w0, .int .u64 s.w1, .int .u64 s.w2, .int .u64 s.w3], .row (.slice sa1 sn1 sc1) 5 1 (v.map eU8)] [] N') (fun N4 hN4 => ?_) ?_
        · refine c_region ?_
          refine o_v (v_load_box 1 ty3 rfl rfl rfl rfl rfl) rfl ?_
          refine o_v (v_load_box 2 ty22 rfl rfl rfl rfl rfl) rfl ?_
          refine o_v (v_lenS (enc := eU8) v sl22 rfl (.r 6 _ rfl)) rfl ?_
          refine o_v (v_bin rfl rfl rfl) rfl ?_
          refine o_v (v_move rfl) rfl ?_
          refine o_split (t := 27) rfl (fun h4 => ?_) (fun h4 => ?_)
          · replace ho3 := ite_t h4 ho3
            refine o_off rfl rfl (by decide) rfl ?_
            refine o_off rfl rfl (by decide) rfl ?_
            refine o_off rfl rfl (by decide) rfl ?_
            refine o_off rfl rfl (by decide) rfl ?_
            refine o_off rfl rfl (by decide) rfl ?_
            refine o_off rfl rfl (by decide) rfl ?_
            refine o_v (v_pick_t rfl rfl) rfl ?_
            refine o_v (v_move rfl) rfl ?_
            refine o_off rfl rfl (by decide) rfl ?_
            refine o_off rfl rfl (by decide) rfl ?_
            refine o_off rfl rfl (by decide) rfl ?_
            refine o_offU rfl rfl rfl ?_
            refine o_offU rfl rfl rfl ?_
            refine o_offU rfl rfl rfl ?_
            refine o_offU rfl rfl rfl ?_
            refine o_offU rfl rfl rfl ?_
            refine o_offU rfl rfl rfl ?_
            refine o_offU rfl rfl rfl ?_
            refine o_off rfl rfl (by decide) rfl ?_
            refine o_v (v_pick_t rfl rfl) rfl ?_
            refine o_nil ?_
            refine s_st ?_ (hN4 true ho3)
            exact st_le [0, 0, 0, 0, 0, 0, 0] (le_cons rfl (le_cons rfl (le_cons rfl (le_cons rfl (le_cons rfl (le_cons rfl (le_cons rfl (le_cons rfl (le_cons rfl (le_cons rfl (le_cons rfl (le_cons rfl le_nil)))))))))))) rfl sub_nil
          · replace ho3 := ite_f h4 ho3
            refine o_on rfl rfl ?_
            refine o_v (v_load_box 2 ty22 rfl rfl rfl rfl rfl) rfl ?_
            refine o_on rfl rfl ?_
            refine o_v (v_load_box 1 ty3 rfl rfl rfl rfl rfl) rfl ?_
            refine o_on rfl rfl ?_
            refine ite_some ho3 fun h5 ho3 => ?_
            refine o_v (v_indexAddr_s (xs := v) (enc := eU8) sl22 rfl rfl (.r 6 _ rfl) h5) rfl ?_
            refine o_on rfl rfl ?_
            refine o_v (v_load_s (xs := v) (enc := eU8) ty5 rfl (.r 6 _ rfl) h5 rfl rfl rfl rfl rfl rfl rfl) rfl ?_
            refine o_on rfl rfl ?_
            refine o_v (v_move rfl) rfl ?_
            refine o_on rfl rfl ?_
            refine o_v (v_bin rfl rfl rfl) rfl ?_
            refine o_v (v_pick_f rfl rfl) rfl ?_
            refine o_v (v_move rfl) rfl ?_
            refine o_split (t := 35) rfl (fun h6 => ?_) (fun h6 => ?_)
            · replace ho3 := ite_t h6 ho3
              refine o_off rfl rfl (by decide) rfl ?_
              refine o_off rfl rfl (by decide) rfl ?_
              refine o_off rfl rfl (by decide) rfl ?_
              refine o_offU rfl rfl rfl ?_
              refine o_offU rfl rfl rfl ?_
              refine o_offU rfl rfl rfl ?_
              refine o_offU rfl rfl rfl ?_
              refine o_offU rfl rfl rfl ?_
              refine o_offU rfl rfl rfl ?_
              refine o_offU rfl rfl rfl ?_
              refine o_off rfl rfl (by decide) rfl ?_
              refine o_v (v_pick_t rfl rfl) rfl ?_
              refine o_nil ?_
              refine s_st ?_ (hN4 true ho3)
              exact st_le [0, 0, 0, 0, 0, 0, 0] (le_cons rfl (le_cons rfl (le_cons rfl (le_cons rfl (le_cons rfl (le_cons rfl (le_cons rfl (le_cons rfl (le_cons rfl (le_cons rfl (le_cons rfl (le_cons rfl le_nil)))))))))))) rfl sub_nil
            · replace ho3 := ite_f h6 ho3
              refine o_on rfl rfl ?_
              refine o_v (v_load_box 1 ty3 rfl rfl rfl rfl rfl) rfl ?_
              refine o_on rfl rfl ?_
              refine o_v (v_bin rfl rfl rfl) rfl ?_
              refine o_on rfl rfl ?_
              refine o_v (v_move rfl) rfl ?_
              refine o_split (t := 38) rfl (fun h7 => ?_) (fun h7 => ?_)
              · replace ho3 := ite_t h7 ho3
                refine o_on rfl rfl ?_
                refine o_v (v_load_box 2 ty22 rfl rfl rfl rfl rfl) rfl ?_
                refine o_on rfl rfl ?_
                refine o_v (v_load_box 1 ty3 rfl rfl rfl rfl rfl) rfl ?_
                refine o_on rfl rfl ?_
                refine o_v (v_bin rfl rfl rfl) rfl ?_
                refine o_on rfl rfl ?_
                refine ite_some ho3 fun h8 ho3 => ?_
                refine o_v (v_indexAddr_s (xs := v) (enc := eU8) sl22 rfl rfl (.r 6 _ rfl) h8) rfl ?_
                refine o_on rfl rfl ?_
                refine o_v (v_load_s (xs := v) (enc := eU8) ty5 rfl (.r 6 _ rfl) h8 rfl rfl rfl rfl rfl rfl rfl) rfl ?_
                refine o_on rfl rfl ?_
                refine o_v (v_move rfl) rfl ?_
                refine o_on rfl rfl ?_
                refine o_v (v_bin rfl rfl rfl) rfl ?_
                refine o_on rfl rfl ?_
                refine o_v (v_pick_t rfl rfl) rfl ?_
                refine o_v (v_pick_f rfl rfl) rfl ?_
                refine o_nil ?_
                refine s_st ?_ (hN4 (decide (x ≤ (at_ v (IntKind.wrap .i64 (v3 - 1))))) ho3)
                exact st_le [0, 0, 0, 0, 0, 0, 0] (le_cons rfl (le_cons rfl (le_cons rfl (le_cons rfl (le_cons rfl (le_cons rfl (le_cons rfl (le_cons rfl (le_cons rfl (le_cons rfl (le_cons rfl (le_cons rfl le_nil)))))))))))) rfl sub_nil
              · replace ho3 := ite_f h7 ho3
                refine o_off rfl rfl (by decide) rfl ?_
                refine o_off rfl rfl (by decide) rfl ?_
                refine o_off rfl rfl (by decide) rfl ?_
                refine o_off rfl rfl (by decide) rfl ?_
                refine o_off rfl rfl (by decide) rfl ?_
                refine o_off rfl rfl (by decide) rfl ?_
                refine o_off rfl rfl (by decide) rfl ?_
                refine o_on rfl rfl ?_
                refine o_v (v_pick_f rfl rfl) rfl ?_
                refine o_v (v_pick_f rfl rfl) rfl ?_
                refine o_nil ?_
                refine s_st ?_ (hN4 false ho3)
                exact st_le [0, 0, 0, 0, 0, 0, 0] (le_cons rfl (le_cons rfl (le_cons rfl (le_cons rfl (le_cons rfl (le_cons rfl (le_cons rfl (le_cons rfl (le_cons rfl (le_cons rfl (le_cons rfl (le_cons rfl le_nil)))))))))))) rfl sub_nil
        · intro t47 ho3
          unfold F.law01.CharsetEach_j4 at ho3
          refine sat_wc ?_
          refine c_cond rfl (fun h2 => ?_) (fun h2 => ?_)
          · replace ho3 := ite_t h2 ho3
            refine c_seq ?_
            refine c_region ?_
            refine o_store_box 3 rfl ty4 rfl rfl rfl rfl rfl rfl rfl ?_
            refine o_seq ?_
            refine c_ret ?_
            cases ho3
            intro a w hs
            exact ⟨v3, (), rfl, sws_of (st_le [0, 0, 0, 0, 0, 0, 0] le_nil rfl sub_nil a w hs)⟩
          · replace ho3 := ite_f h2 ho3
            refine c_skip ?_
            refine sat_wc ?_
            refine c_seq ?_
            refine c_region ?_
            refine o_v (v_load_box 1 ty3 rfl rfl rfl rfl rfl) rfl ?_
            refine o_v (v_bin rfl rfl rfl) rfl ?_
            refine o_store_box 1 rfl ty3 rfl rfl rfl rfl rfl rfl rfl ?_
            refine o_seq ?_
            refine c_seq ?_
            refine c_region ?_
            refine o_v (v_load_box 1 ty3 rfl rfl rfl rfl rfl) rfl ?_
            refine o_v (v_load_box 4 ty3 rfl rfl rfl rfl rfl) rfl ?_
            refine o_v (v_bin rfl rfl rfl) rfl ?_
            refine o_seq ?_
            refine c_cond rfl (fun h3 => ?_) (fun h3 => ?_)
            · replace ho3 := ite_t h3 ho3
              refine c_exit1 ?_
              cases ho3
              intro a w hs
              exact ⟨IntKind.wrap .i64 (v3 + 1), (), rfl, sws_of (st_le [0, 0, 0, 0, 0, 0, 0] le_nil rfl sub_nil a w hs)⟩
            · replace ho3 := ite_f h3 ho3
              refine c_skip ?_
              cases ho3
              intro a w hs
              exact ⟨IntKind.wrap .i64 (v3 + 1), (), rfl, sws_of (st_le [0, 0, 0, 0, 0, 0, 0] le_nil rfl sub_nil a w hs)⟩
      · intro D3 v3 u3 hD3 hr3
        have e3 := Option.some.inj (hb3.symm.trans hr3)
        subst e3
        refine sat_wc ?_
        refine c_seq ?_
        refine c_cut (fun E N' => ∀ (v1 : Bool), F.law01.CharsetEach_j5 v1 = some r → Sat E [(0, .agg #[.int .u64 s.w0, .int .u64 s.w1, .int .u64 s.w2, .int .u64 s.w3]), (1, .int .i64 most), (2, .pointer (some ⟨b, 0, none⟩)), (3, .pointer (some ⟨b1, 0, none⟩)), (4, .pointer (some ⟨b2, 0, none⟩)), (5, .pointer (some ⟨b3, 0, none⟩)), (6, .pointer (some ⟨b4, 0, none⟩)), (7, .func (.func 42) #[] #[.pointer (some ⟨b5, 0, none⟩)]), (20, .bool false), (21, .func (.func 42) #[] #[.pointer (some ⟨b5, 0, none⟩)])] [.box b5 26 [.int .u64 s.w0, .int .u64 s.w1, .int .u64 s.w2, .int .u64 s.w3], .box b4 3 [.int .i64 v3], .box b3 22 [.slice sa1 sn1 sc1], .box b2 4 [.bool v1], .box b1 3 [.int .i64 most1], .box b 26 [.int .u64 s.w0, .int .u64 s.w1, .int .u64 s.w2, .int .u64 s.w3], .row (.slice sa1 sn1 sc1) 5 1 (v.map eU8), .dfr D3] [] N') (fun N5 hN5 => ?_) ?_
        · refine c_region ?_
          obtain ⟨v2, h9, hF⟩ := bd hF
          refine o_callSB call12 rfl lent_nil (tri12 k v2 h9) rfl ?_
          refine o_v (v_move rfl) rfl ?_
          refine o_split (t := 54) rfl (fun h10 => ?_) (fun h10 => ?_)
          · replace hF := ite_t h10 hF
            refine o_on rfl rfl ?_
            refine o_v (v_load_box 2 ty3 rfl rfl rfl rfl rfl) rfl ?_
            refine o_on rfl rfl ?_
            refine o_v (v_load_box 5 ty3 rfl rfl rfl rfl rfl) rfl ?_
            refine o_on rfl rfl ?_
            refine o_v (v_bin rfl rfl rfl) rfl ?_
            refine o_on rfl rfl ?_
            refine o_v (v_move rfl) rfl ?_
            refine o_split (t := 58) rfl (fun h11 => ?_) (fun h11 => ?_)
            · replace hF := ite_t h11 hF
              refine o_off rfl rfl (by decide) rfl ?_
              refine o_off rfl rfl (by decide) rfl ?_
              refine o_off rfl rfl (by decide) rfl ?_
              refine o_off rfl rfl (by decide) rfl ?_
              refine o_on rfl rfl ?_
              refine o_v (v_pick_t rfl rfl) rfl ?_
              refine o_v (v_pick_t rfl rfl) rfl ?_
              refine o_v (v_move rfl) rfl ?_
              refine o_on rfl rfl ?_
              refine o_v (v_load_box 2 ty3 rfl rfl rfl rfl rfl) rfl ?_
              refine o_on rfl rfl ?_
              refine o_v (v_load_box 3 ty22 rfl rfl rfl rfl rfl) rfl ?_
              refine o_on rfl rfl ?_
              refine o_v (v_lenS (enc := eU8) v sl22 rfl (.r 7 _ rfl)) rfl ?_
              refine o_on rfl rfl ?_
              refine o_v (v_bin rfl rfl rfl) rfl ?_
              refine o_v (v_pick_t rfl rfl) rfl ?_
              refine o_store_box 4 rfl ty4 rfl rfl rfl rfl rfl rfl rfl ?_
              refine o_nil ?_
              refine s_st ?_ (hN5 (decide (v3 ≤ (v.length : Int))) hF)
              exact st_le [1, 1, 1, 1, 1, 1, 1, 0] (le_cons rfl (le_cons rfl (le_cons rfl (le_cons rfl (le_cons rfl (le_cons rfl (le_cons rfl (le_cons rfl (le_cons rfl (le_cons rfl le_nil)))))))))) rfl sub_nil
            · replace hF := ite_f h11 hF
              refine o_on rfl rfl ?_
              refine o_v (v_load_box 2 ty3 rfl rfl rfl rfl rfl) rfl ?_
              refine o_on rfl rfl ?_
              refine o_v (v_load_box 3 ty22 rfl rfl rfl rfl rfl) rfl ?_
              refine o_on rfl rfl ?_
              refine o_v (v_lenS (enc := eU8) v sl22 rfl (.r 7 _ rfl)) rfl ?_
              refine o_on rfl rfl ?_
              refine o_v (v_bin rfl rfl rfl) rfl ?_
              refine o_on rfl rfl ?_
              refine o_v (v_pick_f rfl rfl) rfl ?_
              refine o_v (v_pick_t rfl rfl) rfl ?_
              refine o_v (v_move rfl) rfl ?_
              refine o_split (t := 65) rfl (fun h12 => ?_) (fun h12 => ?_)
              · replace hF := ite_t h12 hF
                refine o_on rfl rfl ?_
                refine o_v (v_load_box 2 ty3 rfl rfl rfl rfl rfl) rfl ?_
                refine o_on rfl rfl ?_
                refine o_v (v_load_box 3 ty22 rfl rfl rfl rfl rfl) rfl ?_
                refine o_on rfl rfl ?_
                refine o_v (v_lenS (enc := eU8) v sl22 rfl (.r 7 _ rfl)) rfl ?_
                refine o_on rfl rfl ?_
                refine o_v (v_bin rfl rfl rfl) rfl ?_
                refine o_v (v_pick_t rfl rfl) rfl ?_
                refine o_store_box 4 rfl ty4 rfl rfl rfl rfl rfl rfl rfl ?_
                refine o_nil ?_
                refine s_st ?_ (hN5 (decide (v3 ≤ (v.length : Int))) hF)
                exact st_le [1, 1, 1, 1, 1, 1, 1, 0] (le_cons rfl (le_cons rfl (le_cons rfl (le_cons rfl (le_cons rfl (le_cons rfl (le_cons rfl (le_cons rfl (le_cons rfl (le_cons rfl le_nil)))))))))) rfl sub_nil
              · replace hF := ite_f h12 hF
                refine o_off rfl rfl (by decide) rfl ?_
                refine o_off rfl rfl (by decide) rfl ?_
                refine o_off rfl rfl (by decide) rfl ?_
                refine o_off rfl rfl (by decide) rfl ?_
                refine o_v (v_pick_f rfl rfl) rfl ?_
                refine o_store_box 4 rfl ty4 rfl rfl rfl rfl rfl rfl rfl ?_
                refine o_nil ?_
                refine s_st ?_ (hN5 false hF)
                exact st_le [1, 1, 1, 1, 1, 1, 1, 0] (le_cons rfl (le_cons rfl (le_cons rfl (le_cons rfl (le_cons rfl (le_cons rfl (le_cons rfl (le_cons rfl (le_cons rfl (le_cons rfl le_nil)))))))))) rfl sub_nil
          · replace hF := ite_f h10 hF
            refine o_off rfl rfl (by decide) rfl ?_
            refine o_off rfl rfl (by decide) rfl ?_
            refine o_off rfl rfl (by decide) rfl ?_
            refine o_off rfl rfl (by decide) rfl ?_
            refine o_offU rfl rfl rfl ?_
            refine o_offU rfl rfl rfl ?_
            refine o_offU rfl rfl rfl ?_
            refine o_offU rfl rfl rfl ?_
            refine o_off rfl rfl (by decide) rfl ?_
            refine o_v (v_pick_f rfl rfl) rfl ?_
            refine o_v (v_move rfl) rfl ?_
            refine o_off rfl rfl (by decide) rfl ?_
            refine o_off rfl rfl (by decide) rfl ?_
            refine o_off rfl rfl (by decide) rfl ?_
            refine o_off rfl rfl (by decide) rfl ?_
            refine o_v (v_pick_f rfl rfl) rfl ?_
            refine o_store_box 4 rfl ty4 rfl rfl rfl rfl rfl rfl rfl ?_
            refine o_nil ?_
            refine s_st ?_ (hN5 false hF)
            exact st_le [1, 1, 1, 1, 1, 1, 1, 0] (le_cons rfl (le_cons rfl (le_cons rfl (le_cons rfl (le_cons rfl (le_cons rfl (le_cons rfl (le_cons rfl (le_cons rfl (le_cons rfl le_nil)))))))))) rfl sub_nil
        · intro v1 hF
          unfold F.law01.CharsetEach_j5 at hF
          refine sat_wc ?_
          refine c_ret ?_
          cases hF
          refine s_dfr 7 D3 hD3 rfl rfl rfl ?_
          refine s_ret1 rfl (r_cell 3 rfl ty4 rfl rfl rfl rfl) fun a w hs => ?_
          exact fin_sel hs [] ⟨rfl, rfl, rfl⟩ rfl sub_nil
      · intro D3 v3 u3 hD3 hr3
        refine lk0 ?_
        have e3 := Option.some.inj (hb3.symm.trans hr3)
        subst e3
        refine sat_wc ?_
        refine c_seq ?_
        refine c_cut (fun E N' => ∀ (v4 : Bool), F.law01.CharsetEach_j6 v4 = some r → Sat E [(0, .agg #[.int .u64 s.w0, .int .u64 s.w1, .int .u64 s.w2, .int .u64 s.w3]), (1, .int .i64 most), (2, .pointer (some ⟨b, 0, none⟩)), (3, .pointer (some ⟨b1, 0, none⟩)), (4, .pointer (some ⟨b2, 0, none⟩)), (5, .pointer (some ⟨b3, 0, none⟩)), (6, .pointer (some ⟨b4, 0, none⟩)), (7, .func (.func 42) #[] #[.pointer (some ⟨b5, 0, none⟩)]), (20, .bool false), (21, .func (.func 42) #[] #[.pointer (some ⟨b5, 0, none⟩)])] [.box b5 26 [.int .u64 s.w0, .int .u64 s.w1, .int .u64 s.w2, .int .u64 s.w3], .box b4 3 [.int .i64 v3], .box b3 22 [.slice sa1 sn1 sc1], .box b2 4 [.bool v4], .box b1 3 [.int .i64 most1], .box b 26 [.int .u64 s.w0, .int .u64 s.w1, .int .u64 s.w2, .int .u64 s.w3], .row (.slice sa1 sn1 sc1) 5 1 (v.map eU8), .dfr D3] [] N') (fun N6 hN6 => ?_) ?_
        · refine c_region ?_
          obtain ⟨v5, h13, hF⟩ := bd hF
          refine o_callSB call12 rfl lent_nil (tri12 k v5 h13) rfl ?_
          refine o_v (v_move rfl) rfl ?_
          refine o_split (t := 54) rfl (fun h14 => ?_) (fun h14 => ?_)
          · replace hF := ite_t h14 hF
            refine o_on rfl rfl ?_
            refine o_v (v_load_box 2 ty3 rfl rfl rfl rfl rfl) rfl ?_
            refine o_on rfl rfl ?_
            refine o_v (v_load_box 5 ty3 rfl rfl rfl rfl rfl) rfl ?_
            refine o_on rfl rfl ?_
            refine o_v (v_bin rfl rfl rfl) rfl ?_
            refine o_on rfl rfl ?_
            refine o_v (v_move rfl) rfl ?_
            refine o_split (t := 58) rfl (fun h15 => ?_) (fun h15 => ?_)
            · replace hF := ite_t h15 hF
              refine o_off rfl rfl (by decide) rfl ?_
              refine o_off rfl rfl (by decide) rfl ?_
              refine o_off rfl rfl (by decide) rfl ?_
              refine o_off rfl rfl (by decide) rfl ?_
              refine o_on rfl rfl ?_
              refine o_v (v_pick_t rfl rfl) rfl ?_
              refine o_v (v_pick_t rfl rfl) rfl ?_
              refine o_v (v_move rfl) rfl ?_
              refine o_on rfl rfl ?_
              refine o_v (v_load_box 2 ty3 rfl rfl rfl rfl rfl) rfl ?_
              refine o_on rfl rfl ?_
              refine o_v (v_load_box 3 ty22 rfl rfl rfl rfl rfl) rfl ?_
              refine o_on rfl rfl ?_
              refine o_v (v_lenS (enc := eU8) v sl22 rfl (.r 7 _ rfl)) rfl ?_
              refine o_on rfl rfl ?_
              refine o_v (v_bin rfl rfl rfl) rfl ?_
              refine o_v (v_pick_t rfl rfl) rfl ?_
              refine o_store_box 4 rfl ty4 rfl rfl rfl rfl rfl rfl rfl ?_
              refine o_nil ?_
              refine s_st ?_ (hN6 (decide (v3 ≤ (v.length : Int))) hF)
              exact st_le [1, 1, 1, 1, 1, 1, 1, 0] (le_cons rfl (le_cons rfl (le_cons rfl (le_cons rfl (le_cons rfl (le_cons rfl (le_cons rfl (le_cons rfl (le_cons rfl (le_cons rfl le_nil)))))))))) rfl sub_nil
            · replace hF := ite_f h15 hF
              refine o_on rfl rfl ?_
              refine o_v (v_load_box 2 ty3 rfl rfl rfl rfl rfl) rfl ?_
              refine o_on rfl rfl ?_
              refine o_v (v_load_box 3 ty22 rfl rfl rfl rfl rfl) rfl ?_
              refine o_on rfl rfl ?_
              refine o_v (v_lenS (enc := eU8) v sl22 rfl (.r 7 _ rfl)) rfl ?_
              refine o_on rfl rfl ?_
              refine o_v (v_bin rfl rfl rfl) rfl ?_
              refine o_on rfl rfl ?_
              refine o_v (v_pick_f rfl rfl) rfl ?_
              refine o_v (v_pick_t rfl rfl) rfl ?_
              refine o_v (v_move rfl) rfl ?_
              refine o_split (t := 65) rfl (fun h16 => ?_) (fun h16 => ?_)
              · replace hF := ite_t h16 hF
                refine o_on rfl rfl ?_
                refine o_v (v_load_box 2 ty3 rfl rfl rfl rfl rfl) rfl ?_
                refine o_on rfl rfl ?_
                refine o_v (v_load_box 3 ty22 rfl rfl rfl rfl rfl) rfl ?_
                refine o_on rfl rfl ?_
                refine o_v (v_lenS (enc := eU8) v sl22 rfl (.r 7 _ rfl)) rfl ?_
                refine o_on rfl rfl ?_
                refine o_v (v_bin rfl rfl rfl) rfl ?_
                refine o_v (v_pick_t rfl rfl) rfl ?_
                refine o_store_box 4 rfl ty4 rfl rfl rfl rfl rfl rfl rfl ?_
                refine o_nil ?_
                refine s_st ?_ (hN6 (decide (v3 ≤ (v.length : Int))) hF)
                exact st_le [1, 1, 1, 1, 1, 1, 1, 0] (le_cons rfl (le_cons rfl (le_cons rfl (le_cons rfl (le_cons rfl (le_cons rfl (le_cons rfl (le_cons rfl (le_cons rfl (le_cons rfl le_nil)))))))))) rfl sub_nil
              · replace hF := ite_f h16 hF
                refine o_off rfl rfl (by decide) rfl ?_
                refine o_off rfl rfl (by decide) rfl ?_
                refine o_off rfl rfl (by decide) rfl ?_
                refine o_off rfl rfl (by decide) rfl ?_
                refine o_v (v_pick_f rfl rfl) rfl ?_
                refine o_store_box 4 rfl ty4 rfl rfl rfl rfl rfl rfl rfl ?_
                refine o_nil ?_
                refine s_st ?_ (hN6 false hF)
                exact st_le [1, 1, 1, 1, 1, 1, 1, 0] (le_cons rfl (le_cons rfl (le_cons rfl (le_cons rfl (le_cons rfl (le_cons rfl (le_cons rfl (le_cons rfl (le_cons rfl (le_cons rfl le_nil)))))))))) rfl sub_nil
          · replace hF := ite_f h14 hF
            refine o_off rfl rfl (by decide) rfl ?_
            refine o_off rfl rfl (by decide) rfl ?_
            refine o_off rfl rfl (by decide) rfl ?_
            refine o_off rfl rfl (by decide) rfl ?_
            refine o_offU rfl rfl rfl ?_
            refine o_offU rfl rfl rfl ?_
            refine o_offU rfl rfl rfl ?_
            refine o_offU rfl rfl rfl ?_
            refine o_off rfl rfl (by decide) rfl ?_
            refine o_v (v_pick_f rfl rfl) rfl ?_
            refine o_v (v_move rfl) rfl ?_
            refine o_off rfl rfl (by decide) rfl ?_
            refine o_off rfl rfl (by decide) rfl ?_
            refine o_off rfl rfl (by decide) rfl ?_
            refine o_off rfl rfl (by decide) rfl ?_
            refine o_v (v_pick_f rfl rfl) rfl ?_
            refine o_store_box 4 rfl ty4 rfl rfl rfl rfl rfl rfl rfl ?_
            refine o_nil ?_
            refine s_st ?_ (hN6 false hF)
            exact st_le [1, 1, 1, 1, 1, 1, 1, 0] (le_cons rfl (le_cons rfl (le_cons rfl (le_cons rfl (le_cons rfl (le_cons rfl (le_cons rfl (le_cons rfl (le_cons rfl (le_cons rfl le_nil)))))))))) rfl sub_nil
        · intro v4 hF
          unfold F.law01.CharsetEach_j6 at hF
          refine sat_wc ?_
          refine c_ret ?_
          cases hF
          refine s_dfr 7 D3 hD3 rfl rfl rfl ?_
          refine s_ret1 rfl (r_cell 3 rfl ty4 rfl rfl rfl rfl) fun a w hs => ?_
          exact fin_sel hs [] ⟨rfl, rfl, rfl⟩ rfl sub_nil
      · intro D3 v3 u3 hD3 hr3
        have e3 := Option.some.inj (hb3.symm.trans hr3)
        subst e3
        cases hF
        refine s_dfr 0 D3 hD3 rfl rfl rfl ?_
        refine s_ret1 rfl (r_cell 3 rfl ty4 rfl rfl rfl rfl) fun a w hs => ?_
        exact fin_sel hs [] ⟨rfl, rfl, rfl⟩ rfl sub_nil
theorem tri32 (k : Nat) (a_ : S4) (b : S4) (r : S4) (hF : F.charset.Meet k a_ b = some r) :
    Tri Try.prog 32 [.agg #[.int .u64 a_.w0, .int .u64 a_.w1, .int .u64 a_.w2, .int .u64 a_.w3], .agg #[.int .u64 b.w0, .int .u64 b.w1, .int .u64 b.w2, .int .u64 b.w3]] [] [] (fun o H Φ => o = .ret (.agg #[.int .u64 r.w0, .int .u64 r.w1, .int .u64 r.w2, .int .u64 r.w3]) ∧ H = [] ∧ Φ = []) := by
  unfold F.charset.Meet at hF
  refine tri_intro (n := 19) Try.func32 rfl Try.ntmps32 rfl fun w X => ?_
  refine c_seq ?_
  refine c_region ?_
  refine o_box rfl rfl rfl fun b1 => ?_
  refine o_box rfl rfl rfl fun b2 => ?_
  refine o_alloc zero26 rfl rfl fun b3 => ?_
  refine o_seq ?_
  refine c_seq ?_
  refine c_seq ?_
  refine c_region ?_
  refine o_v (v_move rfl) rfl ?_
  refine o_seq ?_
  obtain ⟨o1, ho1, hF⟩ := bd hF
  refine c_cut (fun E N' => Sat E [(0, .agg #[.int .u64 a_.w0, .int .u64 a_.w1, .int .u64 a_.w2, .int .u64 a_.w3]), (1, .agg #[.int .u64 b.w0, .int .u64 b.w1, .int .u64 b.w2, .int .u64 b.w3]), (2, .pointer (some ⟨b1, 0, none⟩)), (4, .pointer (some ⟨b3, 0, none⟩))] [.box b3 26 [.int .u64 0, .int .u64 0, .int .u64 0, .int .u64 0], .box b1 26 [.int .u64 o1.w0, .int .u64 o1.w1, .int .u64 o1.w2, .int .u64 o1.w3]] [] N') (fun N1 hN1 => ?_) ?_
  · refine c_block ?_
    refine c_loopE (fun E j a w => ∃ (t6 : Int) (a_1 : S4), F.charset.Meet_l1 b j t6 a_1 = some o1 ∧ St E [(0, .agg #[.int .u64 a_.w0, .int .u64 a_.w1, .int .u64 a_.w2, .int .u64 a_.w3]), (1, .agg #[.int .u64 b.w0, .int .u64 b.w1, .int .u64 b.w2, .int .u64 b.w3]), (2, .pointer (some ⟨b1, 0, none⟩)), (3, .pointer (some ⟨b2, 0, none⟩)), (4, .pointer (some ⟨b3, 0, none⟩)), (6, .int .i64 t6)] [.box b3 26 [.int .u64 0, .int .u64 0, .int .u64 0, .int .u64 0], .box b2 26 [.int .u64 b.w0, .int .u64 b.w1, .int .u64 b.w2, .int .u64 b.w3], .box b1 26 [.int .u64 a_1.w0, .int .u64 a_1.w1, .int .u64 a_1.w2, .int .u64 a_1.w3]] [] a w) k ?_ ?_
    · intro a w hs
      exact ⟨0, a_, ho1, st_le [0, 0, 0] (le_cons rfl (le_cons rfl (le_cons rfl (le_cons rfl (le_cons rfl (le_cons rfl le_nil)))))) rfl sub_nil a w hs⟩
    · rintro j a w ⟨t6, a_1, hL1, hs⟩
      cases j with
      | zero => cases hL1
      | succ j =>
        refine wc_app hs ?_
        unfold F.charset.Meet_l1 at hL1
        refine c_seq ?_
        refine c_region ?_
        refine o_v (v_bin rfl rfl rfl) rfl ?_
        refine o_seq ?_
        refine c_seq ?_
        refine c_cond rfl (fun h1 => ?_) (fun h1 => ?_)
        · replace hL1 := ite_t h1 hL1
          refine c_skip ?_
          refine sat_wc ?_
          refine c_seq ?_
          refine c_block ?_
          refine c_seq ?_
          refine c_region ?_
          refine o_v (v_move rfl) rfl ?_
          refine o_v (v_assign rfl) rfl ?_
          refine o_seq ?_
          refine c_draw (n := 9) [0, 0] mixed rfl rfl ?_
          refine d_val 0 rfl pnok (by kernel_rfl) (by kernel_rfl) (by kernel_rfl) rfl (v_move rfl) ?_
          refine ite_some hL1 fun h2 hL1 => ?_
          refine d_val 1 rfl pnok (by kernel_rfl) (by kernel_rfl) (by kernel_rfl) rfl (v_indexAddr_a ar26 rfl rfl h2) ?_
          refine d_val 3 rfl pnok (by kernel_rfl) (by kernel_rfl) (by kernel_rfl) rfl (v_move rfl) ?_
          refine d_val 4 rfl pnok (by kernel_rfl) (by kernel_rfl) (by kernel_rfl) rfl (v_indexAddr_a ar26 rfl rfl h2) ?_
          refine d_val 5 rfl pnok (by kernel_rfl) (by kernel_rfl) (by kernel_rfl) rfl (v_load_a 1 b ty24 rfl rfl h2) ?_
          refine d_one 2 rfl (by kernel_rfl) ?_
          refine o_v (v_load_a 2 a_1 ty24 rfl rfl h2) rfl ?_
          refine d_next [0, 0] 0 rfl rfl ?_
          refine d_val 6 rfl pnok (by kernel_rfl) (by kernel_rfl) (by kernel_rfl) rfl (v_bit rfl rfl rfl) ?_
          refine d_val 7 rfl pnok (by kernel_rfl) (by kernel_rfl) (by kernel_rfl) rfl (v_indexAddr_a ar26 rfl rfl h2) ?_
          refine d_one 8 rfl (by kernel_rfl) ?_
          refine o_store_a 2 a_1 rfl ty24 rfl rfl rfl h2 ?_
          refine d_next [0, 0] 0 rfl rfl ?_
          refine d_done (by kernel_rfl) ?_
          refine sat_wc ?_
          refine c_region ?_
          refine o_v (v_bin rfl rfl rfl) rfl ?_
          refine o_v (v_move rfl) rfl ?_
          refine o_nil ?_
          intro a w hs
          exact ⟨j, Nat.lt_succ_self j, IntKind.wrap .i64 (t6 + 1), (S4.set a_1 t6 (gand .u64 (S4.get a_1 t6) (S4.get b t6))), hL1, st_le [0, 0, 0] (le_cons rfl (le_cons rfl (le_cons rfl (le_cons rfl (le_cons rfl (le_cons rfl le_nil)))))) rfl sub_nil a w hs⟩
        · replace hL1 := ite_f h1 hL1
          refine c_exit0 ?_
          cases hL1
          refine s_st ?_ (hN1)
          exact st_le [0, 1] (le_cons rfl (le_cons rfl (le_cons rfl (le_cons rfl le_nil)))) rfl sub_nil
  · refine sat_wc ?_
    refine c_seq ?_
    refine c_region ?_
    refine o_v (v_load_box 1 ty26 rfl rfl rfl rfl rfl) rfl ?_
    refine o_store_box 0 rfl ty26 rfl rfl rfl rfl rfl rfl rfl ?_
    refine o_seq ?_
    refine c_ret ?_
    cases hF
    refine s_ret1 rfl (r_cell 0 rfl ty26 rfl rfl rfl rfl) fun a w hs => ?_
    exact fin_sel hs [] ⟨rfl, rfl, rfl⟩ rfl sub_nil
theorem tri33 (k : Nat) (a_ : S4) (b : S4) (r : S4) (hF : F.charset.Minus k a_ b = some r) :
    Tri Try.prog 33 [.agg #[.int .u64 a_.w0, .int .u64 a_.w1, .int .u64 a_.w2, .int .u64 a_.w3], .agg #[.int .u64 b.w0, .int .u64 b.w1, .int .u64 b.w2, .int .u64 b.w3]] [] [] (fun o H Φ => o = .ret (.agg #[.int .u64 r.w0, .int .u64 r.w1, .int .u64 r.w2, .int .u64 r.w3]) ∧ H = [] ∧ Φ = []) := by
  unfold F.charset.Minus at hF
  refine tri_intro (n := 19) Try.func33 rfl Try.ntmps33 rfl fun w X => ?_
  refine c_seq ?_
  refine c_region ?_
  refine o_box rfl rfl rfl fun b1 => ?_
  refine o_box rfl rfl rfl fun b2 => ?_
  refine o_alloc zero26 rfl rfl fun b3 => ?_
  refine o_seq ?_
  refine c_seq ?_
  refine c_seq ?_
  refine c_region ?_
  refine o_v (v_move rfl) rfl ?_
  refine o_seq ?_
  obtain ⟨o1, ho1, hF⟩ := bd hF
  refine c_cut (fun E N' => Sat E [(0, .agg #[.int .u64 a_.w0, .int .u64 a_.w1, .int .u64 a_.w2, .int .u64 a_.w3]), (1, .agg #[.int .u64 b.w0, .int .u64 b.w1, .int .u64 b.w2, .int .u64 b.w3]), (2, .pointer (some ⟨b1, 0, none⟩)), (4, .pointer (some ⟨b3, 0, none⟩))] [.box b3 26 [.int .u64 0, .int .u64 0, .int .u64 0, .int .u64 0], .box b1 26 [.int .u64 o1.w0, .int .u64 o1.w1, .int .u64 o1.w2, .int .u64 o1.w3]] [] N') (fun N1 hN1 => ?_) ?_
  · refine c_block ?_
    refine c_loopE (fun E j a w => ∃ (t6 : Int) (a_1 : S4), F.charset.Minus_l1 b j t6 a_1 = some o1 ∧ St E [(0, .agg #[.int .u64 a_.w0, .int .u64 a_.w1, .int .u64 a_.w2, .int .u64 a_.w3]), (1, .agg #[.int .u64 b.w0, .int .u64 b.w1, .int .u64 b.w2, .int .u64 b.w3]), (2, .pointer (some ⟨b1, 0, none⟩)), (3, .pointer (some ⟨b2, 0, none⟩)), (4, .pointer (some ⟨b3, 0, none⟩)), (6, .int .i64 t6)] [.box b3 26 [.int .u64 0, .int .u64 0, .int .u64 0, .int .u64 0], .box b2 26 [.int .u64 b.w0, .int .u64 b.w1, .int .u64 b.w2, .int .u64 b.w3], .box b1 26 [.int .u64 a_1.w0, .int .u64 a_1.w1, .int .u64 a_1.w2, .int .u64 a_1.w3]] [] a w) k ?_ ?_
    · intro a w hs
      exact ⟨0, a_, ho1, st_le [0, 0, 0] (le_cons rfl (le_cons rfl (le_cons rfl (le_cons rfl (le_cons rfl (le_cons rfl le_nil)))))) rfl sub_nil a w hs⟩
    · rintro j a w ⟨t6, a_1, hL1, hs⟩
      cases j with
      | zero => cases hL1
      | succ j =>
        refine wc_app hs ?_
        unfold F.charset.Minus_l1 at hL1
        refine c_seq ?_
        refine c_region ?_
        refine o_v (v_bin rfl rfl rfl) rfl ?_
        refine o_seq ?_
        refine c_seq ?_
        refine c_cond rfl (fun h1 => ?_) (fun h1 => ?_)
        · replace hL1 := ite_t h1 hL1
          refine c_skip ?_
          refine sat_wc ?_
          refine c_seq ?_
          refine c_block ?_
          refine c_seq ?_
          refine c_region ?_
          refine o_v (v_move rfl) rfl ?_
          refine o_v (v_assign rfl) rfl ?_
          refine o_seq ?_
          refine c_draw (n := 9) [0, 0] mixed rfl rfl ?_
          refine d_val 0 rfl pnok (by kernel_rfl) (by kernel_rfl) (by kernel_rfl) rfl (v_move rfl) ?_
          refine ite_some hL1 fun h2 hL1 => ?_
          refine d_val 1 rfl pnok (by kernel_rfl) (by kernel_rfl) (by kernel_rfl) rfl (v_indexAddr_a ar26 rfl rfl h2) ?_
          refine d_val 3 rfl pnok (by kernel_rfl) (by kernel_rfl) (by kernel_rfl) rfl (v_move rfl) ?_
          refine d_val 4 rfl pnok (by kernel_rfl) (by kernel_rfl) (by kernel_rfl) rfl (v_indexAddr_a ar26 rfl rfl h2) ?_
          refine d_val 5 rfl pnok (by kernel_rfl) (by kernel_rfl) (by kernel_rfl) rfl (v_load_a 1 b ty24 rfl rfl h2) ?_
          refine d_one 2 rfl (by kernel_rfl) ?_
          refine o_v (v_load_a 2 a_1 ty24 rfl rfl h2) rfl ?_
          refine d_next [0, 0] 0 rfl rfl ?_
          refine d_val 6 rfl pnok (by kernel_rfl) (by kernel_rfl) (by kernel_rfl) rfl (v_bit rfl rfl rfl) ?_
          refine d_val 7 rfl pnok (by kernel_rfl) (by kernel_rfl) (by kernel_rfl) rfl (v_indexAddr_a ar26 rfl rfl h2) ?_
          refine d_one 8 rfl (by kernel_rfl) ?_
          refine o_store_a 2 a_1 rfl ty24 rfl rfl rfl h2 ?_
          refine d_next [0, 0] 0 rfl rfl ?_
          refine d_done (by kernel_rfl) ?_
          refine sat_wc ?_
          refine c_region ?_
          refine o_v (v_bin rfl rfl rfl) rfl ?_
          refine o_v (v_move rfl) rfl ?_
          refine o_nil ?_
          intro a w hs
          exact ⟨j, Nat.lt_succ_self j, IntKind.wrap .i64 (t6 + 1), (S4.set a_1 t6 (gandNot .u64 (S4.get a_1 t6) (S4.get b t6))), hL1, st_le [0, 0, 0] (le_cons rfl (le_cons rfl (le_cons rfl (le_cons rfl (le_cons rfl (le_cons rfl le_nil)))))) rfl sub_nil a w hs⟩
        · replace hL1 := ite_f h1 hL1
          refine c_exit0 ?_
          cases hL1
          refine s_st ?_ (hN1)
          exact st_le [0, 1] (le_cons rfl (le_cons rfl (le_cons rfl (le_cons rfl le_nil)))) rfl sub_nil
  · refine sat_wc ?_
    refine c_seq ?_
    refine c_region ?_
    refine o_v (v_load_box 1 ty26 rfl rfl rfl rfl rfl) rfl ?_
    refine o_store_box 0 rfl ty26 rfl rfl rfl rfl rfl rfl rfl ?_
    refine o_seq ?_
    refine c_ret ?_
    cases hF
    refine s_ret1 rfl (r_cell 0 rfl ty26 rfl rfl rfl rfl) fun a w hs => ?_
    exact fin_sel hs [] ⟨rfl, rfl, rfl⟩ rfl sub_nil
theorem tri9 (k : Nat) (a_ : S4) (b : S4) (c : S4) (r : Bool) (hF : F.law01.CharsetAlgebra k a_ b c = some r) :
    Tri Try.prog 9 [.agg #[.int .u64 a_.w0, .int .u64 a_.w1, .int .u64 a_.w2, .int .u64 a_.w3], .agg #[.int .u64 b.w0, .int .u64 b.w1, .int .u64 b.w2, .int .u64 b.w3], .agg #[.int .u64 c.w0, .int .u64 c.w1, .int .u64 c.w2, .int .u64 c.w3]] [] [] (fun o H Φ => o = .ret (.bool r) ∧ H = [] ∧ Φ = []) := by
  unfold F.law01.CharsetAlgebra at hF
  refine tri_intro (n := 84) Try.func9 rfl Try.ntmps9 rfl fun w X => ?_
  refine c_seq ?_
  refine c_region ?_
  refine o_box rfl rfl rfl fun b1 => ?_
  refine o_box rfl rfl rfl fun b2 => ?_
  refine o_box rfl rfl rfl fun b3 => ?_
  refine o_v (v_assign rfl) rfl ?_
  refine o_seq ?_
  refine c_seq ?_
  refine c_region ?_
  refine o_v (v_load_box 2 ty26 rfl rfl rfl rfl rfl) rfl ?_
  refine o_v (v_load_box 1 ty26 rfl rfl rfl rfl rfl) rfl ?_
  obtain ⟨v, h1, hF⟩ := bd hF
  refine o_callSB call31 rfl lent_nil (tri31 k a_ b v h1) rfl ?_
  obtain ⟨v1, h2, hF⟩ := bd hF
  refine o_callSB call30 rfl lent_nil (tri30 k v v1 h2) rfl ?_
  refine o_alloc zero26 rfl rfl fun b4 => ?_
  refine o_store_box 0 rfl ty26 rfl rfl rfl rfl rfl rfl rfl ?_
  refine o_seq ?_
  refine c_seq ?_
  refine c_cut (fun E N' => ∀ (y : S4) (b5 : Nat), F.law01.CharsetAlgebra_j1 k a_ b v1 v c y = some r → Sat E [(0, .agg #[.int .u64 a_.w0, .int .u64 a_.w1, .int .u64 a_.w2, .int .u64 a_.w3]), (1, .agg #[.int .u64 b.w0, .int .u64 b.w1, .int .u64 b.w2, .int .u64 b.w3]), (2, .agg #[.int .u64 c.w0, .int .u64 c.w1, .int .u64 c.w2, .int .u64 c.w3]), (3, .pointer (some ⟨b1, 0, none⟩)), (4, .pointer (some ⟨b2, 0, none⟩)), (5, .pointer (some ⟨b3, 0, none⟩)), (6, .bool false), (7, .pointer (some ⟨b4, 0, none⟩)), (8, .pointer (some ⟨b5, 0, none⟩))] [.box b4 26 [.int .u64 v1.w0, .int .u64 v1.w1, .int .u64 v1.w2, .int .u64 v1.w3], .box b3 26 [.int .u64 c.w0, .int .u64 c.w1, .int .u64 c.w2, .int .u64 c.w3], .box b2 26 [.int .u64 b.w0, .int .u64 b.w1, .int .u64 b.w2, .int .u64 b.w3], .box b1 26 [.int .u64 a_.w0, .int .u64 a_.w1, .int .u64 a_.w2, .int .u64 a_.w3], .box b5 26 [.int .u64 y.w0, .int .u64 y.w1, .int .u64 y.w2, .int .u64 y.w3]] [] N') (fun N3 hN3 => ?_) ?_
  · refine c_draw (n := 7) [0, 0, 0, 0] mixed rfl rfl ?_
    refine d_val 0 rfl pnok (by kernel_rfl) (by kernel_rfl) (by kernel_rfl) rfl (v_load_box 3 ty26 rfl rfl rfl rfl rfl) ?_
    refine d_val 2 rfl pnok (by kernel_rfl) (by kernel_rfl) (by kernel_rfl) rfl (v_load_box 2 ty26 rfl rfl rfl rfl rfl) ?_
    obtain ⟨v19, h26, hF⟩ := bd hF
    obtain ⟨v20, h27, hF⟩ := bd hF
    obtain ⟨v21, h28, hF⟩ := bd hF
    refine d_all [1, 5] (by kernel_rfl) (by simp) ⟨⟨_, rfl, ?_⟩, ⟨_, rfl, ?_⟩, trivial⟩
    · refine o_callSB call30 rfl lent_nil (tri30 k a_ v19 h26) rfl ?_
      refine d_next [0, 0, 0, 0] 0 rfl rfl ?_
      refine d_all [3, 5] (by kernel_rfl) (by simp) ⟨⟨_, rfl, ?_⟩, ⟨_, rfl, ?_⟩, trivial⟩
      · refine o_callSB call30 rfl lent_nil (tri30 k b v20 h27) rfl ?_
        refine d_next [0, 0, 0, 0] 0 rfl rfl ?_
        refine d_all [4, 5] (by kernel_rfl) (by simp) ⟨⟨_, rfl, ?_⟩, ⟨_, rfl, ?_⟩, trivial⟩
        · refine o_callSB call32 rfl lent_nil (tri32 k v19 v20 v21 h28) rfl ?_
          refine d_next [0, 0, 0, 0] 0 rfl rfl ?_
          refine d_one 5 rfl (by kernel_rfl) ?_
          refine o_alloc zero26 rfl rfl fun b26 => ?_
          refine d_next [1, 1, 1, 1] 0 rfl rfl ?_
          refine d_one 6 rfl (by kernel_rfl) ?_
          refine o_store_box 0 rfl ty26 rfl rfl rfl rfl rfl rfl rfl ?_
          refine d_next [1, 1, 1, 1] 0 rfl rfl ?_
          refine d_done (by kernel_rfl) ?_
          refine s_st ?_ (hN3 v21 b26 hF)
          exact st_le [1, 1, 1, 1, 0] (le_cons rfl (le_cons rfl (le_cons rfl (le_cons rfl (le_cons rfl (le_cons rfl (le_cons rfl (le_cons rfl (le_cons rfl le_nil))))))))) rfl sub_nil
        · refine o_alloc zero26 rfl rfl fun b27 => ?_
          refine d_next [1, 1, 1, 1] 0 rfl rfl ?_
          refine d_one 4 rfl (by kernel_rfl) ?_
          refine o_callSB call32 rfl lent_nil (tri32 k v19 v20 v21 h28) rfl ?_
          refine d_next [1, 1, 1, 1] 0 rfl rfl ?_
          refine d_one 6 rfl (by kernel_rfl) ?_
          refine o_store_box 0 rfl ty26 rfl rfl rfl rfl rfl rfl rfl ?_
          refine d_next [1, 1, 1, 1] 0 rfl rfl ?_
          refine d_done (by kernel_rfl) ?_
          refine s_st ?_ (hN3 v21 b27 hF)
          exact st_le [1, 1, 1, 1, 0] (le_cons rfl (le_cons rfl (le_cons rfl (le_cons rfl (le_cons rfl (le_cons rfl (le_cons rfl (le_cons rfl (le_cons rfl le_nil))))))))) rfl sub_nil
      · refine o_alloc zero26 rfl rfl fun b28 => ?_
        refine d_next [1, 1, 1, 1] 0 rfl rfl ?_
        refine d_one 3 rfl (by kernel_rfl) ?_
        refine o_callSB call30 rfl lent_nil (tri30 k b v20 h27) rfl ?_
        refine d_next [1, 1, 1, 1] 0 rfl rfl ?_
        refine d_one 4 rfl (by kernel_rfl) ?_
        refine o_callSB call32 rfl lent_nil (tri32 k v19 v20 v21 h28) rfl ?_
        refine d_next [1, 1, 1, 1] 0 rfl rfl ?_
        refine d_one 6 rfl (by kernel_rfl) ?_
        refine o_store_box 0 rfl ty26 rfl rfl rfl rfl rfl rfl rfl ?_
        refine d_next [1, 1, 1, 1] 0 rfl rfl ?_
        refine d_done (by kernel_rfl) ?_
        refine s_st ?_ (hN3 v21 b28 hF)
        exact st_le [1, 1, 1, 1, 0] (le_cons rfl (le_cons rfl (le_cons rfl (le_cons rfl (le_cons rfl (le_cons rfl (le_cons rfl (le_cons rfl (le_cons rfl le_nil))))))))) rfl sub_nil
    · refine o_alloc zero26 rfl rfl fun b29 => ?_
      refine d_next [1, 1, 1, 1] 0 rfl rfl ?_
      refine d_one 1 rfl (by kernel_rfl) ?_
      refine o_callSB call30 rfl lent_nil (tri30 k a_ v19 h26) rfl ?_
      refine d_next [1, 1, 1, 1] 0 rfl rfl ?_
      refine d_one 3 rfl (by kernel_rfl) ?_
      refine o_callSB call30 rfl lent_nil (tri30 k b v20 h27) rfl ?_
      refine d_next [1, 1, 1, 1] 0 rfl rfl ?_
      refine d_one 4 rfl (by kernel_rfl) ?_
      refine o_callSB call32 rfl lent_nil (tri32 k v19 v20 v21 h28) rfl ?_
      refine d_next [1, 1, 1, 1] 0 rfl rfl ?_
      refine d_one 6 rfl (by kernel_rfl) ?_
      refine o_store_box 0 rfl ty26 rfl rfl rfl rfl rfl rfl rfl ?_
      refine d_next [1, 1, 1, 1] 0 rfl rfl ?_
      refine d_done (by kernel_rfl) ?_
      refine s_st ?_ (hN3 v21 b29 hF)
      exact st_le [1, 1, 1, 1, 0] (le_cons rfl (le_cons rfl (le_cons rfl (le_cons rfl (le_cons rfl (le_cons rfl (le_cons rfl (le_cons rfl (le_cons rfl le_nil))))))))) rfl sub_nil
  · intro y b5 hF
    unfold F.law01.CharsetAlgebra_j1 at hF
    refine sat_wc ?_
    refine c_seq ?_
    refine c_cut (fun E N' => ∀ (m : S4) (b6 : Nat) (b7 : Nat), F.law01.CharsetAlgebra_j2 k v1 y a_ b v c m = some r → Sat E [(0, .agg #[.int .u64 a_.w0, .int .u64 a_.w1, .int .u64 a_.w2, .int .u64 a_.w3]), (1, .agg #[.int .u64 b.w0, .int .u64 b.w1, .int .u64 b.w2, .int .u64 b.w3]), (2, .agg #[.int .u64 c.w0, .int .u64 c.w1, .int .u64 c.w2, .int .u64 c.w3]), (3, .pointer (some ⟨b1, 0, none⟩)), (4, .pointer (some ⟨b2, 0, none⟩)), (5, .pointer (some ⟨b3, 0, none⟩)), (6, .bool false), (7, .pointer (some ⟨b4, 0, none⟩)), (8, .pointer (some ⟨b5, 0, none⟩)), (9, .pointer (some ⟨b6, 0, none⟩)), (10, .pointer (some ⟨b7, 0, none⟩))] [.box b4 26 [.int .u64 v1.w0, .int .u64 v1.w1, .int .u64 v1.w2, .int .u64 v1.w3], .box b3 26 [.int .u64 c.w0, .int .u64 c.w1, .int .u64 c.w2, .int .u64 c.w3], .box b2 26 [.int .u64 b.w0, .int .u64 b.w1, .int .u64 b.w2, .int .u64 b.w3], .box b1 26 [.int .u64 a_.w0, .int .u64 a_.w1, .int .u64 a_.w2, .int .u64 a_.w3], .box b5 26 [.int .u64 y.w0, .int .u64 y.w1, .int .u64 y.w2, .int .u64 y.w3], .box b6 26 [.int .u64 v.w0, .int .u64 v.w1, .int .u64 v.w2, .int .u64 v.w3], .box b7 26 [.int .u64 m.w0, .int .u64 m.w1, .int .u64 m.w2, .int .u64 m.w3]] [] N') (fun N3 hN3 => ?_) ?_
    · refine c_draw (n := 10) [0, 0, 0, 0, 0] mixed rfl rfl ?_
      refine d_val 0 rfl pnok (by kernel_rfl) (by kernel_rfl) (by kernel_rfl) rfl (v_load_box 3 ty26 rfl rfl rfl rfl rfl) ?_
      refine d_val 1 rfl pnok (by kernel_rfl) (by kernel_rfl) (by kernel_rfl) rfl (v_load_box 2 ty26 rfl rfl rfl rfl rfl) ?_
      refine d_val 3 rfl pnok (by kernel_rfl) (by kernel_rfl) (by kernel_rfl) rfl (v_load_box 3 ty26 rfl rfl rfl rfl rfl) ?_
      refine d_val 4 rfl pnok (by kernel_rfl) (by kernel_rfl) (by kernel_rfl) rfl (v_load_box 2 ty26 rfl rfl rfl rfl rfl) ?_
      obtain ⟨v18, h25, hF⟩ := bd hF
      refine d_all [2, 6, 7] (by kernel_rfl) (by simp) ⟨⟨_, rfl, ?_⟩, ⟨_, rfl, ?_⟩, ⟨_, rfl, ?_⟩, trivial⟩
      · refine o_callSB call31 rfl lent_nil (tri31 k a_ b v h1) rfl ?_
        refine d_next [0, 0, 0, 0, 0] 0 rfl rfl ?_
        refine d_all [5, 6, 7] (by kernel_rfl) (by simp) ⟨⟨_, rfl, ?_⟩, ⟨_, rfl, ?_⟩, ⟨_, rfl, ?_⟩, trivial⟩
        · refine o_callSB call32 rfl lent_nil (tri32 k a_ b v18 h25) rfl ?_
          refine d_next [0, 0, 0, 0, 0] 0 rfl rfl ?_
          refine d_all [6, 7] (by kernel_rfl) (by simp) ⟨⟨_, rfl, ?_⟩, ⟨_, rfl, ?_⟩, trivial⟩
          · refine o_alloc zero26 rfl rfl fun b8 => ?_
            refine d_next [1, 1, 1, 1, 1] 0 rfl rfl ?_
            refine d_one 7 rfl (by kernel_rfl) ?_
            refine o_alloc zero26 rfl rfl fun b9 => ?_
            refine d_next [2, 2, 2, 2, 2] 0 rfl rfl ?_
            refine d_one 8 rfl (by kernel_rfl) ?_
            refine o_store_box 1 rfl ty26 rfl rfl rfl rfl rfl rfl rfl ?_
            refine d_next [2, 2, 2, 2, 2] 0 rfl rfl ?_
            refine d_one 9 rfl (by kernel_rfl) ?_
            refine o_store_box 0 rfl ty26 rfl rfl rfl rfl rfl rfl rfl ?_
            refine d_next [2, 2, 2, 2, 2] 0 rfl rfl ?_
            refine d_done (by kernel_rfl) ?_
            refine s_st ?_ (hN3 v18 b8 b9 hF)
            exact st_le [2, 2, 2, 2, 2, 1, 0] (le_cons rfl (le_cons rfl (le_cons rfl (le_cons rfl (le_cons rfl (le_cons rfl (le_cons rfl (le_cons rfl (le_cons rfl (le_cons rfl (le_cons rfl le_nil))))))))))) rfl sub_nil
          · refine o_alloc zero26 rfl rfl fun b10 => ?_
            refine d_next [1, 1, 1, 1, 1] 0 rfl rfl ?_
            refine d_one 6 rfl (by kernel_rfl) ?_
            refine o_alloc zero26 rfl rfl fun b11 => ?_
            refine d_next [2, 2, 2, 2, 2] 0 rfl rfl ?_
            refine d_one 8 rfl (by kernel_rfl) ?_
            refine o_store_box 0 rfl ty26 rfl rfl rfl rfl rfl rfl rfl ?_
            refine d_next [2, 2, 2, 2, 2] 0 rfl rfl ?_
            refine d_one 9 rfl (by kernel_rfl) ?_
            refine o_store_box 1 rfl ty26 rfl rfl rfl rfl rfl rfl rfl ?_
            refine d_next [2, 2, 2, 2, 2] 0 rfl rfl ?_
            refine d_done (by kernel_rfl) ?_
            refine s_st ?_ (hN3 v18 b11 b10 hF)
            exact st_le [2, 2, 2, 2, 2, 0, 0] (le_cons rfl (le_cons rfl (le_cons rfl (le_cons rfl (le_cons rfl (le_cons rfl (le_cons rfl (le_cons rfl (le_cons rfl (le_cons rfl (le_cons rfl le_nil))))))))))) rfl sub_nil
        · refine o_alloc zero26 rfl rfl fun b12 => ?_
          refine d_next [1, 1, 1, 1, 1] 0 rfl rfl ?_
          refine d_all [5, 7] (by kernel_rfl) (by simp) ⟨⟨_, rfl, ?_⟩, ⟨_, rfl, ?_⟩, trivial⟩
          · refine o_callSB call32 rfl lent_nil (tri32 k a_ b v18 h25) rfl ?_
            refine d_next [1, 1, 1, 1, 1] 0 rfl rfl ?_
            refine d_one 7 rfl (by kernel_rfl) ?_
            refine o_alloc zero26 rfl rfl fun b13 => ?_
            refine d_next [2, 2, 2, 2, 2] 0 rfl rfl ?_
            refine d_one 8 rfl (by kernel_rfl) ?_
            refine o_store_box 1 rfl ty26 rfl rfl rfl rfl rfl rfl rfl ?_
            refine d_next [2, 2, 2, 2, 2] 0 rfl rfl ?_
            refine d_one 9 rfl (by kernel_rfl) ?_
            refine o_store_box 0 rfl ty26 rfl rfl rfl rfl rfl rfl rfl ?_
            refine d_next [2, 2, 2, 2, 2] 0 rfl rfl ?_
            refine d_done (by kernel_rfl) ?_
            refine s_st ?_ (hN3 v18 b12 b13 hF)
            exact st_le [2, 2, 2, 2, 2, 1, 0] (le_cons rfl (le_cons rfl (le_cons rfl (le_cons rfl (le_cons rfl (le_cons rfl (le_cons rfl (le_cons rfl (le_cons rfl (le_cons rfl (le_cons rfl le_nil))))))))))) rfl sub_nil
          · refine o_alloc zero26 rfl rfl fun b14 => ?_
            refine d_next [2, 2, 2, 2, 2] 0 rfl rfl ?_
            refine d_one 5 rfl (by kernel_rfl) ?_
            refine o_callSB call32 rfl lent_nil (tri32 k a_ b v18 h25) rfl ?_
            refine d_next [2, 2, 2, 2, 2] 0 rfl rfl ?_
            refine d_one 8 rfl (by kernel_rfl) ?_
            refine o_store_box 1 rfl ty26 rfl rfl rfl rfl rfl rfl rfl ?_
            refine d_next [2, 2, 2, 2, 2] 0 rfl rfl ?_
            refine d_one 9 rfl (by kernel_rfl) ?_
            refine o_store_box 0 rfl ty26 rfl rfl rfl rfl rfl rfl rfl ?_
            refine d_next [2, 2, 2, 2, 2] 0 rfl rfl ?_
            refine d_done (by kernel_rfl) ?_
            refine s_st ?_ (hN3 v18 b12 b14 hF)
            exact st_le [2, 2, 2, 2, 2, 1, 0] (le_cons rfl (le_cons rfl (le_cons rfl (le_cons rfl (le_cons rfl (le_cons rfl (le_cons rfl (le_cons rfl (le_cons rfl (le_cons rfl (le_cons rfl le_nil))))))))))) rfl sub_nil
        · refine o_alloc zero26 rfl rfl fun b15 => ?_
          refine d_next [1, 1, 1, 1, 1] 0 rfl rfl ?_
          refine d_all [5, 6] (by kernel_rfl) (by simp) ⟨⟨_, rfl, ?_⟩, ⟨_, rfl, ?_⟩, trivial⟩
          · refine o_callSB call32 rfl lent_nil (tri32 k a_ b v18 h25) rfl ?_
            refine d_next [1, 1, 1, 1, 1] 0 rfl rfl ?_
            refine d_one 6 rfl (by kernel_rfl) ?_
            refine o_alloc zero26 rfl rfl fun b16 => ?_
            refine d_next [2, 2, 2, 2, 2] 0 rfl rfl ?_
            refine d_one 8 rfl (by kernel_rfl) ?_
            refine o_store_box 0 rfl ty26 rfl rfl rfl rfl rfl rfl rfl ?_
            refine d_next [2, 2, 2, 2, 2] 0 rfl rfl ?_
            refine d_one 9 rfl (by kernel_rfl) ?_
            refine o_store_box 1 rfl ty26 rfl rfl rfl rfl rfl rfl rfl ?_
            refine d_next [2, 2, 2, 2, 2] 0 rfl rfl ?_
            refine d_done (by kernel_rfl) ?_
            refine s_st ?_ (hN3 v18 b16 b15 hF)
            exact st_le [2, 2, 2, 2, 2, 0, 0] (le_cons rfl (le_cons rfl (le_cons rfl (le_cons rfl (le_cons rfl (le_cons rfl (le_cons rfl (le_cons rfl (le_cons rfl (le_cons rfl (le_cons rfl le_nil))))))))))) rfl sub_nil
          · refine o_alloc zero26 rfl rfl fun b17 => ?_
            refine d_next [2, 2, 2, 2, 2] 0 rfl rfl ?_
            refine d_one 5 rfl (by kernel_rfl) ?_
            refine o_callSB call32 rfl lent_nil (tri32 k a_ b v18 h25) rfl ?_
            refine d_next [2, 2, 2, 2, 2] 0 rfl rfl ?_
            refine d_one 8 rfl (by kernel_rfl) ?_
            refine o_store_box 0 rfl ty26 rfl rfl rfl rfl rfl rfl rfl ?_
            refine d_next [2, 2, 2, 2, 2] 0 rfl rfl ?_
            refine d_one 9 rfl (by kernel_rfl) ?_
            refine o_store_box 1 rfl ty26 rfl rfl rfl rfl rfl rfl rfl ?_
            refine d_next [2, 2, 2, 2, 2] 0 rfl rfl ?_
            refine d_done (by kernel_rfl) ?_
            refine s_st ?_ (hN3 v18 b17 b15 hF)
            exact st_le [2, 2, 2, 2, 2, 0, 0] (le_cons rfl (le_cons rfl (le_cons rfl (le_cons rfl (le_cons rfl (le_cons rfl (le_cons rfl (le_cons rfl (le_cons rfl (le_cons rfl (le_cons rfl le_nil))))))))))) rfl sub_nil
      · refine o_alloc zero26 rfl rfl fun b18 => ?_
        refine d_next [1, 1, 1, 1, 1] 0 rfl rfl ?_
        refine d_all [2, 7] (by kernel_rfl) (by simp) ⟨⟨_, rfl, ?_⟩, ⟨_, rfl, ?_⟩, trivial⟩
        · refine o_callSB call31 rfl lent_nil (tri31 k a_ b v h1) rfl ?_
          refine d_next [1, 1, 1, 1, 1] 0 rfl rfl ?_
          refine d_all [5, 7] (by kernel_rfl) (by simp) ⟨⟨_, rfl, ?_⟩, ⟨_, rfl, ?_⟩, trivial⟩
          · refine o_callSB call32 rfl lent_nil (tri32 k a_ b v18 h25) rfl ?_
            refine d_next [1, 1, 1, 1, 1] 0 rfl rfl ?_
            refine d_one 7 rfl (by kernel_rfl) ?_
            refine o_alloc zero26 rfl rfl fun b19 => ?_
            refine d_next [2, 2, 2, 2, 2] 0 rfl rfl ?_
            refine d_one 8 rfl (by kernel_rfl) ?_
            refine o_store_box 1 rfl ty26 rfl rfl rfl rfl rfl rfl rfl ?_
            refine d_next [2, 2, 2, 2, 2] 0 rfl rfl ?_
            refine d_one 9 rfl (by kernel_rfl) ?_
            refine o_store_box 0 rfl ty26 rfl rfl rfl rfl rfl rfl rfl ?_
            refine d_next [2, 2, 2, 2, 2] 0 rfl rfl ?_
            refine d_done (by kernel_rfl) ?_
            refine s_st ?_ (hN3 v18 b18 b19 hF)
            exact st_le [2, 2, 2, 2, 2, 1, 0] (le_cons rfl (le_cons rfl (le_cons rfl (le_cons rfl (le_cons rfl (le_cons rfl (le_cons rfl (le_cons rfl (le_cons rfl (le_cons rfl (le_cons rfl le_nil))))))))))) rfl sub_nil
          · refine o_alloc zero26 rfl rfl fun b20 => ?_
            refine d_next [2, 2, 2, 2, 2] 0 rfl rfl ?_
            refine d_one 5 rfl (by kernel_rfl) ?_
            refine o_callSB call32 rfl lent_nil (tri32 k a_ b v18 h25) rfl ?_
            refine d_next [2, 2, 2, 2, 2] 0 rfl rfl ?_
            refine d_one 8 rfl (by kernel_rfl) ?_
            refine o_store_box 1 rfl ty26 rfl rfl rfl rfl rfl rfl rfl ?_
            refine d_next [2, 2, 2, 2, 2] 0 rfl rfl ?_
            refine d_one 9 rfl (by kernel_rfl) ?_
            refine o_store_box 0 rfl ty26 rfl rfl rfl rfl rfl rfl rfl ?_
            refine d_next [2, 2, 2, 2, 2] 0 rfl rfl ?_
            refine d_done (by kernel_rfl) ?_
            refine s_st ?_ (hN3 v18 b18 b20 hF)
            exact st_le [2, 2, 2, 2, 2, 1, 0] (le_cons rfl (le_cons rfl (le_cons rfl (le_cons rfl (le_cons rfl (le_cons rfl (le_cons rfl (le_cons rfl (le_cons rfl (le_cons rfl (le_cons rfl le_nil))))))))))) rfl sub_nil
        · refine o_alloc zero26 rfl rfl fun b21 => ?_
          refine d_next [2, 2, 2, 2, 2] 0 rfl rfl ?_
          refine d_one 2 rfl (by kernel_rfl) ?_
          refine o_callSB call31 rfl lent_nil (tri31 k a_ b v h1) rfl ?_
          refine d_next [2, 2, 2, 2, 2] 0 rfl rfl ?_
          refine d_one 5 rfl (by kernel_rfl) ?_
          refine o_callSB call32 rfl lent_nil (tri32 k a_ b v18 h25) rfl ?_
          refine d_next [2, 2, 2, 2, 2] 0 rfl rfl ?_
          refine d_one 8 rfl (by kernel_rfl) ?_
          refine o_store_box 1 rfl ty26 rfl rfl rfl rfl rfl rfl rfl ?_
          refine d_next [2, 2, 2, 2, 2] 0 rfl rfl ?_
          refine d_one 9 rfl (by kernel_rfl) ?_
          refine o_store_box 0 rfl ty26 rfl rfl rfl rfl rfl rfl rfl ?_
          refine d_next [2, 2, 2, 2, 2] 0 rfl rfl ?_
          refine d_done (by kernel_rfl) ?_
          refine s_st ?_ (hN3 v18 b18 b21 hF)
          exact st_le [2, 2, 2, 2, 2, 1, 0] (le_cons rfl (le_cons rfl (le_cons rfl (le_cons rfl (le_cons rfl (le_cons rfl (le_cons rfl (le_cons rfl (le_cons rfl (le_cons rfl (le_cons rfl le_nil))))))))))) rfl sub_nil
      · refine o_alloc zero26 rfl rfl fun b22 => ?_
        refine d_next [1, 1, 1, 1, 1] 0 rfl rfl ?_
        refine d_all [2, 6] (by kernel_rfl) (by simp) ⟨⟨_, rfl, ?_⟩, ⟨_, rfl, ?_⟩, trivial⟩
        · refine o_callSB call31 rfl lent_nil (tri31 k a_ b v h1) rfl ?_
          refine d_next [1, 1, 1, 1, 1] 0 rfl rfl ?_
          refine d_all [5, 6] (by kernel_rfl) (by simp) ⟨⟨_, rfl, ?_⟩, ⟨_, rfl, ?_⟩, trivial⟩
          · refine o_callSB call32 rfl lent_nil (tri32 k a_ b v18 h25) rfl ?_
            refine d_next [1, 1, 1, 1, 1] 0 rfl rfl ?_
            refine d_one 6 rfl (by kernel_rfl) ?_
            refine o_alloc zero26 rfl rfl fun b23 => ?_
            refine d_next [2, 2, 2, 2, 2] 0 rfl rfl ?_
            refine d_one 8 rfl (by kernel_rfl) ?_
            refine o_store_box 0 rfl ty26 rfl rfl rfl rfl rfl rfl rfl ?_
            refine d_next [2, 2, 2, 2, 2] 0 rfl rfl ?_
            refine d_one 9 rfl (by kernel_rfl) ?_
            refine o_store_box 1 rfl ty26 rfl rfl rfl rfl rfl rfl rfl ?_
            refine d_next [2, 2, 2, 2, 2] 0 rfl rfl ?_
            refine d_done (by kernel_rfl) ?_
            refine s_st ?_ (hN3 v18 b23 b22 hF)
            exact st_le [2, 2, 2, 2, 2, 0, 0] (le_cons rfl (le_cons rfl (le_cons rfl (le_cons rfl (le_cons rfl (le_cons rfl (le_cons rfl (le_cons rfl (le_cons rfl (le_cons rfl (le_cons rfl le_nil))))))))))) rfl sub_nil
          · refine o_alloc zero26 rfl rfl fun b24 => ?_
            refine d_next [2, 2, 2, 2, 2] 0 rfl rfl ?_
            refine d_one 5 rfl (by kernel_rfl) ?_
            refine o_callSB call32 rfl lent_nil (tri32 k a_ b v18 h25) rfl ?_
            refine d_next [2, 2, 2, 2, 2] 0 rfl rfl ?_
            refine d_one 8 rfl (by kernel_rfl) ?_
            refine o_store_box 0 rfl ty26 rfl rfl rfl rfl rfl rfl rfl ?_
            refine d_next [2, 2, 2, 2, 2] 0 rfl rfl ?_
            refine d_one 9 rfl (by kernel_rfl) ?_
            refine o_store_box 1 rfl ty26 rfl rfl rfl rfl rfl rfl rfl ?_
            refine d_next [2, 2, 2, 2, 2] 0 rfl rfl ?_
            refine d_done (by kernel_rfl) ?_
            refine s_st ?_ (hN3 v18 b24 b22 hF)
            exact st_le [2, 2, 2, 2, 2, 0, 0] (le_cons rfl (le_cons rfl (le_cons rfl (le_cons rfl (le_cons rfl (le_cons rfl (le_cons rfl (le_cons rfl (le_cons rfl (le_cons rfl (le_cons rfl le_nil))))))))))) rfl sub_nil
        · refine o_alloc zero26 rfl rfl fun b25 => ?_
          refine d_next [2, 2, 2, 2, 2] 0 rfl rfl ?_
          refine d_one 2 rfl (by kernel_rfl) ?_
          refine o_callSB call31 rfl lent_nil (tri31 k a_ b v h1) rfl ?_
          refine d_next [2, 2, 2, 2, 2] 0 rfl rfl ?_
          refine d_one 5 rfl (by kernel_rfl) ?_
          refine o_callSB call32 rfl lent_nil (tri32 k a_ b v18 h25) rfl ?_
          refine d_next [2, 2, 2, 2, 2] 0 rfl rfl ?_
          refine d_one 8 rfl (by kernel_rfl) ?_
          refine o_store_box 0 rfl ty26 rfl rfl rfl rfl rfl rfl rfl ?_
          refine d_next [2, 2, 2, 2, 2] 0 rfl rfl ?_
          refine d_one 9 rfl (by kernel_rfl) ?_
          refine o_store_box 1 rfl ty26 rfl rfl rfl rfl rfl rfl rfl ?_
          refine d_next [2, 2, 2, 2, 2] 0 rfl rfl ?_
          refine d_done (by kernel_rfl) ?_
          refine s_st ?_ (hN3 v18 b25 b22 hF)
          exact st_le [2, 2, 2, 2, 2, 0, 0] (le_cons rfl (le_cons rfl (le_cons rfl (le_cons rfl (le_cons rfl (le_cons rfl (le_cons rfl (le_cons rfl (le_cons rfl (le_cons rfl (le_cons rfl le_nil))))))))))) rfl sub_nil
    · intro m b6 b7 hF
      unfold F.law01.CharsetAlgebra_j2 at hF
      refine sat_wc ?_
      refine c_seq ?_
      refine c_seq ?_
      refine c_draw (n := 26) [0, 0, 0, 0, 0, 0, 0] mixed rfl rfl ?_
      refine d_val 0 rfl pnok (by kernel_rfl) (by kernel_rfl) (by kernel_rfl) rfl (v_load_box 0 ty26 rfl rfl rfl rfl rfl) ?_
      refine d_val 1 rfl pnok (by kernel_rfl) (by kernel_rfl) (by kernel_rfl) rfl (v_load_box 4 ty26 rfl rfl rfl rfl rfl) ?_
      refine d_val 2 rfl pnok (by kernel_rfl) (by kernel_rfl) (by kernel_rfl) rfl (v_agne 2 rfl rfl (eq26 v1.w0 v1.w1 v1.w2 v1.w3 y.w0 y.w1 y.w2 y.w3) rfl guard26) ?_
      refine d_val 3 rfl pnok (by kernel_rfl) (by kernel_rfl) (by kernel_rfl) rfl (v_move rfl) ?_
      refine d_split (t := 29) rfl (fun h3 => ?_) (fun h3 => ?_)
      · replace hF := ite_t h3 hF
        refine d_off 4 rfl rfl rfl (by decide) pnok (by kernel_rfl) (by kernel_rfl) (by kernel_rfl) rfl ?_
        refine d_off 5 rfl rfl rfl (by decide) pnok (by kernel_rfl) (by kernel_rfl) (by kernel_rfl) rfl ?_
        refine d_off 6 rfl rfl rfl (by decide) pnok (by kernel_rfl) (by kernel_rfl) (by kernel_rfl) rfl ?_
        refine d_off 7 rfl rfl rfl (by decide) pnok (by kernel_rfl) (by kernel_rfl) (by kernel_rfl) rfl ?_
        refine d_off 8 rfl rfl rfl (by decide) pnok (by kernel_rfl) (by kernel_rfl) (by kernel_rfl) rfl ?_
        refine d_off 9 rfl rfl rfl (by decide) pnok (by kernel_rfl) (by kernel_rfl) (by kernel_rfl) rfl ?_
        refine d_off 10 rfl rfl rfl (by decide) pnok (by kernel_rfl) (by kernel_rfl) (by kernel_rfl) rfl ?_
        refine d_off 11 rfl rfl rfl (by decide) pnok (by kernel_rfl) (by kernel_rfl) (by kernel_rfl) rfl ?_
        refine d_val 12 rfl pnok (by kernel_rfl) (by kernel_rfl) (by kernel_rfl) rfl (v_pick_t rfl rfl) ?_
        refine d_val 13 rfl pnok (by kernel_rfl) (by kernel_rfl) (by kernel_rfl) rfl (v_move rfl) ?_
        refine d_off 14 rfl rfl rfl (by decide) pnok (by kernel_rfl) (by kernel_rfl) (by kernel_rfl) rfl ?_
        refine d_off 15 rfl rfl rfl (by decide) pnok (by kernel_rfl) (by kernel_rfl) (by kernel_rfl) rfl ?_
        refine d_off 16 rfl rfl rfl (by decide) pnok (by kernel_rfl) (by kernel_rfl) (by kernel_rfl) rfl ?_
        refine d_off 17 rfl rfl rfl (by decide) pnok (by kernel_rfl) (by kernel_rfl) (by kernel_rfl) rfl ?_
        refine d_off 18 rfl rfl rfl (by decide) pnok (by kernel_rfl) (by kernel_rfl) (by kernel_rfl) rfl ?_
        refine d_off 19 rfl rfl rfl (by decide) pnok (by kernel_rfl) (by kernel_rfl) (by kernel_rfl) rfl ?_
        refine d_off 20 rfl rfl rfl (by decide) pnok (by kernel_rfl) (by kernel_rfl) (by kernel_rfl) rfl ?_
        refine d_off 21 rfl rfl rfl (by decide) pnok (by kernel_rfl) (by kernel_rfl) (by kernel_rfl) rfl ?_
        refine d_off 22 rfl rfl rfl (by decide) pnok (by kernel_rfl) (by kernel_rfl) (by kernel_rfl) rfl ?_
        refine d_off 23 rfl rfl rfl (by decide) pnok (by kernel_rfl) (by kernel_rfl) (by kernel_rfl) rfl ?_
        refine d_off 24 rfl rfl rfl (by decide) pnok (by kernel_rfl) (by kernel_rfl) (by kernel_rfl) rfl ?_
        refine d_val 25 rfl pnok (by kernel_rfl) (by kernel_rfl) (by kernel_rfl) rfl (v_pick_t rfl rfl) ?_
        refine d_done_seq (by kernel_rfl) ?_
        refine c_cond rfl (fun _ => ?_) (fun h => Bool.noConfusion h)
        refine c_seq ?_
        refine c_region ?_
        refine o_v (v_assign rfl) rfl ?_
        refine o_seq ?_
        refine c_ret ?_
        cases hF
        refine s_ret1 rfl (r_tmp rfl) fun a w hs => ?_
        exact fin_sel hs [] ⟨rfl, rfl, rfl⟩ rfl sub_nil
      · replace hF := ite_f h3 hF
        refine d_val_on 4 rfl rfl rfl pnok (by kernel_rfl) (by kernel_rfl) (by kernel_rfl) rfl (v_load_box 3 ty26 rfl rfl rfl rfl rfl) ?_
        refine d_val_on 5 rfl rfl rfl pnok (by kernel_rfl) (by kernel_rfl) (by kernel_rfl) rfl (v_load_box 2 ty26 rfl rfl rfl rfl rfl) ?_
        refine d_val_on 7 rfl rfl rfl pnok (by kernel_rfl) (by kernel_rfl) (by kernel_rfl) rfl (v_load_box 3 ty26 rfl rfl rfl rfl rfl) ?_
        refine d_val_on 8 rfl rfl rfl pnok (by kernel_rfl) (by kernel_rfl) (by kernel_rfl) rfl (v_load_box 2 ty26 rfl rfl rfl rfl rfl) ?_
        refine d_one 6 rfl (by kernel_rfl) ?_
        refine o_on rfl rfl ?_
        obtain ⟨v2, h4, hF⟩ := bd hF
        refine o_callSB call33 rfl lent_nil (tri33 k a_ b v2 h4) rfl ?_
        refine d_next [0, 0, 0, 0, 0, 0, 0] 0 rfl rfl ?_
        refine d_one 9 rfl (by kernel_rfl) ?_
        refine o_on rfl rfl ?_
        obtain ⟨v3, h5, hF⟩ := bd hF
        refine o_callSB call30 rfl lent_nil (tri30 k b v3 h5) rfl ?_
        refine d_next [0, 0, 0, 0, 0, 0, 0] 0 rfl rfl ?_
        refine d_one 10 rfl (by kernel_rfl) ?_
        refine o_on rfl rfl ?_
        obtain ⟨v4, h6, hF⟩ := bd hF
        refine o_callSB call32 rfl lent_nil (tri32 k a_ v3 v4 h6) rfl ?_
        refine d_next [0, 0, 0, 0, 0, 0, 0] 0 rfl rfl ?_
        refine d_val_on 11 rfl rfl rfl pnok (by kernel_rfl) (by kernel_rfl) (by kernel_rfl) rfl (v_agne 2 rfl rfl (eq26 v2.w0 v2.w1 v2.w2 v2.w3 v4.w0 v4.w1 v4.w2 v4.w3) rfl guard26) ?_
        refine d_val 12 rfl pnok (by kernel_rfl) (by kernel_rfl) (by kernel_rfl) rfl (v_pick_f rfl rfl) ?_
        refine d_val 13 rfl pnok (by kernel_rfl) (by kernel_rfl) (by kernel_rfl) rfl (v_move rfl) ?_
        refine d_split (t := 39) rfl (fun h7 => ?_) (fun h7 => ?_)
        · replace hF := ite_t h7 hF
          refine d_off 14 rfl rfl rfl (by decide) pnok (by kernel_rfl) (by kernel_rfl) (by kernel_rfl) rfl ?_
          refine d_off 15 rfl rfl rfl (by decide) pnok (by kernel_rfl) (by kernel_rfl) (by kernel_rfl) rfl ?_
          refine d_off 16 rfl rfl rfl (by decide) pnok (by kernel_rfl) (by kernel_rfl) (by kernel_rfl) rfl ?_
          refine d_off 17 rfl rfl rfl (by decide) pnok (by kernel_rfl) (by kernel_rfl) (by kernel_rfl) rfl ?_
          refine d_off 18 rfl rfl rfl (by decide) pnok (by kernel_rfl) (by kernel_rfl) (by kernel_rfl) rfl ?_
          refine d_off 19 rfl rfl rfl (by decide) pnok (by kernel_rfl) (by kernel_rfl) (by kernel_rfl) rfl ?_
          refine d_off 20 rfl rfl rfl (by decide) pnok (by kernel_rfl) (by kernel_rfl) (by kernel_rfl) rfl ?_
          refine d_off 21 rfl rfl rfl (by decide) pnok (by kernel_rfl) (by kernel_rfl) (by kernel_rfl) rfl ?_
          refine d_off 22 rfl rfl rfl (by decide) pnok (by kernel_rfl) (by kernel_rfl) (by kernel_rfl) rfl ?_
          refine d_off 23 rfl rfl rfl (by decide) pnok (by kernel_rfl) (by kernel_rfl) (by kernel_rfl) rfl ?_
          refine d_off 24 rfl rfl rfl (by decide) pnok (by kernel_rfl) (by kernel_rfl) (by kernel_rfl) rfl ?_
          refine d_val 25 rfl pnok (by kernel_rfl) (by kernel_rfl) (by kernel_rfl) rfl (v_pick_t rfl rfl) ?_
          refine d_done_seq (by kernel_rfl) ?_
          refine c_cond rfl (fun _ => ?_) (fun h => Bool.noConfusion h)
          refine c_seq ?_
          refine c_region ?_
          refine o_v (v_assign rfl) rfl ?_
          refine o_seq ?_
          refine c_ret ?_
          cases hF
          refine s_ret1 rfl (r_tmp rfl) fun a w hs => ?_
          exact fin_sel hs [] ⟨rfl, rfl, rfl⟩ rfl sub_nil
        · replace hF := ite_f h7 hF
          refine d_val_on 14 rfl rfl rfl pnok (by kernel_rfl) (by kernel_rfl) (by kernel_rfl) rfl (v_load_box 5 ty26 rfl rfl rfl rfl rfl) ?_
          refine d_val_on 16 rfl rfl rfl pnok (by kernel_rfl) (by kernel_rfl) (by kernel_rfl) rfl (v_load_box 6 ty26 rfl rfl rfl rfl rfl) ?_
          refine d_val_on 19 rfl rfl rfl pnok (by kernel_rfl) (by kernel_rfl) (by kernel_rfl) rfl (v_load_box 3 ty26 rfl rfl rfl rfl rfl) ?_
          refine d_val_on 21 rfl rfl rfl pnok (by kernel_rfl) (by kernel_rfl) (by kernel_rfl) rfl (v_load_box 2 ty26 rfl rfl rfl rfl rfl) ?_
          refine d_one 15 rfl (by kernel_rfl) ?_
          refine o_on rfl rfl ?_
          obtain ⟨v5, h8, hF⟩ := bd hF
          refine o_callSB call34 rfl lent_nil (tri34 k v v5 h8) rfl ?_
          refine d_next [0, 0, 0, 0, 0, 0, 0] 0 rfl rfl ?_
          refine d_one 17 rfl (by kernel_rfl) ?_
          refine o_on rfl rfl ?_
          obtain ⟨v6, h9, hF⟩ := bd hF
          refine o_callSB call34 rfl lent_nil (tri34 k m v6 h9) rfl ?_
          refine d_next [0, 0, 0, 0, 0, 0, 0] 0 rfl rfl ?_
          refine d_val_on 18 rfl rfl rfl pnok (by kernel_rfl) (by kernel_rfl) (by kernel_rfl) rfl (v_bin rfl rfl rfl) ?_
          refine d_one 20 rfl (by kernel_rfl) ?_
          refine o_on rfl rfl ?_
          obtain ⟨v7, h10, hF⟩ := bd hF
          refine o_callSB call34 rfl lent_nil (tri34 k a_ v7 h10) rfl ?_
          refine d_next [0, 0, 0, 0, 0, 0, 0] 0 rfl rfl ?_
          refine d_one 22 rfl (by kernel_rfl) ?_
          refine o_on rfl rfl ?_
          obtain ⟨v8, h11, hF⟩ := bd hF
          refine o_callSB call34 rfl lent_nil (tri34 k b v8 h11) rfl ?_
          refine d_next [0, 0, 0, 0, 0, 0, 0] 0 rfl rfl ?_
          refine d_val_on 23 rfl rfl rfl pnok (by kernel_rfl) (by kernel_rfl) (by kernel_rfl) rfl (v_bin rfl rfl rfl) ?_
          refine d_val_on 24 rfl rfl rfl pnok (by kernel_rfl) (by kernel_rfl) (by kernel_rfl) rfl (v_bin rfl rfl rfl) ?_
          refine d_val 25 rfl pnok (by kernel_rfl) (by kernel_rfl) (by kernel_rfl) rfl (v_pick_f rfl rfl) ?_
          refine d_done_seq (by kernel_rfl) ?_
          refine c_cond rfl (fun h12 => ?_) (fun h12 => ?_)
          · replace hF := ite_t h12 hF
            refine c_seq ?_
            refine c_region ?_
            refine o_v (v_assign rfl) rfl ?_
            refine o_seq ?_
            refine c_ret ?_
            cases hF
            refine s_ret1 rfl (r_tmp rfl) fun a w hs => ?_
            exact fin_sel hs [] ⟨rfl, rfl, rfl⟩ rfl sub_nil
          · replace hF := ite_f h12 hF
            refine c_skip ?_
            refine sat_wc ?_
            refine c_seq ?_
            refine c_cut (fun E N' => ∀ (t6 : Bool), F.law01.CharsetAlgebra_j3 t6 = some r → Sat E [(0, .agg #[.int .u64 a_.w0, .int .u64 a_.w1, .int .u64 a_.w2, .int .u64 a_.w3]), (1, .agg #[.int .u64 b.w0, .int .u64 b.w1, .int .u64 b.w2, .int .u64 b.w3]), (2, .agg #[.int .u64 c.w0, .int .u64 c.w1, .int .u64 c.w2, .int .u64 c.w3]), (3, .pointer (some ⟨b1, 0, none⟩)), (4, .pointer (some ⟨b2, 0, none⟩)), (6, .bool t6), (7, .pointer (some ⟨b4, 0, none⟩)), (8, .pointer (some ⟨b5, 0, none⟩)), (9, .pointer (some ⟨b6, 0, none⟩)), (10, .pointer (some ⟨b7, 0, none⟩)), (51, .bool ((IntKind.wrap .i64 (v5 + v6)) != (IntKind.wrap .i64 (v7 + v8))))] [.box b4 26 [.int .u64 v1.w0, .int .u64 v1.w1, .int .u64 v1.w2, .int .u64 v1.w3], .box b2 26 [.int .u64 b.w0, .int .u64 b.w1, .int .u64 b.w2, .int .u64 b.w3], .box b1 26 [.int .u64 a_.w0, .int .u64 a_.w1, .int .u64 a_.w2, .int .u64 a_.w3], .box b5 26 [.int .u64 y.w0, .int .u64 y.w1, .int .u64 y.w2, .int .u64 y.w3], .box b6 26 [.int .u64 v.w0, .int .u64 v.w1, .int .u64 v.w2, .int .u64 v.w3], .box b7 26 [.int .u64 m.w0, .int .u64 m.w1, .int .u64 m.w2, .int .u64 m.w3]] [] N') (fun N3 hN3 => ?_) ?_
            · refine c_draw (n := 33) [0, 0, 0, 0, 0, 0, 0] mixed rfl rfl ?_
              refine d_one 0 rfl (by kernel_rfl) ?_
              obtain ⟨v9, h13, hF⟩ := bd hF
              refine o_callSB call12 rfl lent_nil (tri12 k v9 h13) rfl ?_
              refine d_next [0, 0, 0, 0, 0, 0, 0] 0 rfl rfl ?_
              refine d_val 1 rfl pnok (by kernel_rfl) (by kernel_rfl) (by kernel_rfl) rfl (v_move rfl) ?_
              refine d_split (t := 53) rfl (fun h14 => ?_) (fun h14 => ?_)
              · replace hF := ite_t h14 hF
                refine d_val_on 2 rfl rfl rfl pnok (by kernel_rfl) (by kernel_rfl) (by kernel_rfl) rfl (v_load_box 3 ty26 rfl rfl rfl rfl rfl) ?_
                refine d_val_on 3 rfl rfl rfl pnok (by kernel_rfl) (by kernel_rfl) (by kernel_rfl) rfl (v_load_box 2 ty26 rfl rfl rfl rfl rfl) ?_
                refine d_val_on 4 rfl rfl rfl pnok (by kernel_rfl) (by kernel_rfl) (by kernel_rfl) rfl (v_load_box 1 ty26 rfl rfl rfl rfl rfl) ?_
                refine d_val_on 7 rfl rfl rfl pnok (by kernel_rfl) (by kernel_rfl) (by kernel_rfl) rfl (v_load_box 3 ty26 rfl rfl rfl rfl rfl) ?_
                refine d_val_on 8 rfl rfl rfl pnok (by kernel_rfl) (by kernel_rfl) (by kernel_rfl) rfl (v_load_box 2 ty26 rfl rfl rfl rfl rfl) ?_
                refine d_val_on 10 rfl rfl rfl pnok (by kernel_rfl) (by kernel_rfl) (by kernel_rfl) rfl (v_load_box 3 ty26 rfl rfl rfl rfl rfl) ?_
                refine d_val_on 11 rfl rfl rfl pnok (by kernel_rfl) (by kernel_rfl) (by kernel_rfl) rfl (v_load_box 1 ty26 rfl rfl rfl rfl rfl) ?_
                refine d_one 5 rfl (by kernel_rfl) ?_
                refine o_on rfl rfl ?_
                obtain ⟨v10, h15, hF⟩ := bd hF
                refine o_callSB call31 rfl lent_nil (tri31 k b c v10 h15) rfl ?_
                refine d_next [0, 0, 0, 0, 0, 0, 0] 0 rfl rfl ?_
                refine d_one 6 rfl (by kernel_rfl) ?_
                refine o_on rfl rfl ?_
                obtain ⟨v11, h16, hF⟩ := bd hF
                refine o_callSB call32 rfl lent_nil (tri32 k a_ v10 v11 h16) rfl ?_
                refine d_next [0, 0, 0, 0, 0, 0, 0] 0 rfl rfl ?_
                refine d_one 9 rfl (by kernel_rfl) ?_
                refine o_on rfl rfl ?_
                obtain ⟨v12, h17, hF⟩ := bd hF
                refine o_callSB call32 rfl lent_nil (tri32 k a_ b v12 h17) rfl ?_
                refine d_next [0, 0, 0, 0, 0, 0, 0] 0 rfl rfl ?_
                refine d_one 12 rfl (by kernel_rfl) ?_
                refine o_on rfl rfl ?_
                obtain ⟨v13, h18, hF⟩ := bd hF
                refine o_callSB call32 rfl lent_nil (tri32 k a_ c v13 h18) rfl ?_
                refine d_next [0, 0, 0, 0, 0, 0, 0] 0 rfl rfl ?_
                refine d_one 13 rfl (by kernel_rfl) ?_
                refine o_on rfl rfl ?_
                obtain ⟨v14, h19, hF⟩ := bd hF
                refine o_callSB call31 rfl lent_nil (tri31 k v12 v13 v14 h19) rfl ?_
                refine d_next [0, 0, 0, 0, 0, 0, 0] 0 rfl rfl ?_
                refine d_val_on 14 rfl rfl rfl pnok (by kernel_rfl) (by kernel_rfl) (by kernel_rfl) rfl (v_ageq 2 rfl rfl (eq26 v11.w0 v11.w1 v11.w2 v11.w3 v14.w0 v14.w1 v14.w2 v14.w3) rfl guard26) ?_
                refine d_val 15 rfl pnok (by kernel_rfl) (by kernel_rfl) (by kernel_rfl) rfl (v_pick_t rfl rfl) ?_
                refine d_val 16 rfl pnok (by kernel_rfl) (by kernel_rfl) (by kernel_rfl) rfl (v_move rfl) ?_
                refine d_split (t := 68) rfl (fun h20 => ?_) (fun h20 => ?_)
                · replace hF := ite_t h20 hF
                  refine d_val_on 17 rfl rfl rfl pnok (by kernel_rfl) (by kernel_rfl) (by kernel_rfl) rfl (v_load_box 3 ty26 rfl rfl rfl rfl rfl) ?_
                  refine d_val_on 20 rfl rfl rfl pnok (by kernel_rfl) (by kernel_rfl) (by kernel_rfl) rfl (v_load_box 3 ty26 rfl rfl rfl rfl rfl) ?_
                  refine d_one 18 rfl (by kernel_rfl) ?_
                  refine o_on rfl rfl ?_
                  obtain ⟨v15, h21, hF⟩ := bd hF
                  refine o_callSB call30 rfl lent_nil (tri30 k a_ v15 h21) rfl ?_
                  refine d_next [0, 0, 0, 0, 0, 0, 0] 0 rfl rfl ?_
                  refine d_one 19 rfl (by kernel_rfl) ?_
                  refine o_on rfl rfl ?_
                  obtain ⟨v16, h22, hF⟩ := bd hF
                  refine o_callSB call30 rfl lent_nil (tri30 k v15 v16 h22) rfl ?_
                  refine d_next [0, 0, 0, 0, 0, 0, 0] 0 rfl rfl ?_
                  refine d_val_on 21 rfl rfl rfl pnok (by kernel_rfl) (by kernel_rfl) (by kernel_rfl) rfl (v_ageq 2 rfl rfl (eq26 v16.w0 v16.w1 v16.w2 v16.w3 a_.w0 a_.w1 a_.w2 a_.w3) rfl guard26) ?_
                  refine d_val 22 rfl pnok (by kernel_rfl) (by kernel_rfl) (by kernel_rfl) rfl (v_pick_t rfl rfl) ?_
                  refine d_val 23 rfl pnok (by kernel_rfl) (by kernel_rfl) (by kernel_rfl) rfl (v_move rfl) ?_
                  refine d_split (t := 75) rfl (fun h23 => ?_) (fun h23 => ?_)
                  · replace hF := ite_t h23 hF
                    refine d_val_on 24 rfl rfl rfl pnok (by kernel_rfl) (by kernel_rfl) (by kernel_rfl) rfl (v_load_box 3 ty26 rfl rfl rfl rfl rfl) ?_
                    refine d_val_on 26 rfl rfl rfl pnok (by kernel_rfl) (by kernel_rfl) (by kernel_rfl) rfl (v_load_box 3 ty26 rfl rfl rfl rfl rfl) ?_
                    refine d_one 25 rfl (by kernel_rfl) ?_
                    refine o_on rfl rfl ?_
                    refine o_callSB call34 rfl lent_nil (tri34 k a_ v7 h10) rfl ?_
                    refine d_next [0, 0, 0, 0, 0, 0, 0] 0 rfl rfl ?_
                    refine d_one 27 rfl (by kernel_rfl) ?_
                    refine o_on rfl rfl ?_
                    refine o_callSB call30 rfl lent_nil (tri30 k a_ v15 h21) rfl ?_
                    refine d_next [0, 0, 0, 0, 0, 0, 0] 0 rfl rfl ?_
                    refine d_one 28 rfl (by kernel_rfl) ?_
                    refine o_on rfl rfl ?_
                    obtain ⟨v17, h24, hF⟩ := bd hF
                    refine o_callSB call34 rfl lent_nil (tri34 k v15 v17 h24) rfl ?_
                    refine d_next [0, 0, 0, 0, 0, 0, 0] 0 rfl rfl ?_
                    refine d_val_on 29 rfl rfl rfl pnok (by kernel_rfl) (by kernel_rfl) (by kernel_rfl) rfl (v_bin rfl rfl rfl) ?_
                    refine d_val_on 30 rfl rfl rfl pnok (by kernel_rfl) (by kernel_rfl) (by kernel_rfl) rfl (v_bin rfl rfl rfl) ?_
                    refine d_val 31 rfl pnok (by kernel_rfl) (by kernel_rfl) (by kernel_rfl) rfl (v_pick_t rfl rfl) ?_
                    refine d_val 32 rfl pnok (by kernel_rfl) (by kernel_rfl) (by kernel_rfl) rfl (v_assign rfl) ?_
                    refine d_done (by kernel_rfl) ?_
                    refine s_st ?_ (hN3 ((IntKind.wrap .i64 (v7 + v17)) == 256) hF)
                    exact st_le [0, 1, 1, 1, 1, 1] (le_cons rfl (le_cons rfl (le_cons rfl (le_cons rfl (le_cons rfl (le_cons rfl (le_cons rfl (le_cons rfl (le_cons rfl (le_cons rfl (le_cons rfl le_nil))))))))))) rfl sub_nil
                  · replace hF := ite_f h23 hF
                    refine d_off 24 rfl rfl rfl (by decide) pnok (by kernel_rfl) (by kernel_rfl) (by kernel_rfl) rfl ?_
                    refine d_off 25 rfl rfl rfl (by decide) pnok (by kernel_rfl) (by kernel_rfl) (by kernel_rfl) rfl ?_
                    refine d_off 26 rfl rfl rfl (by decide) pnok (by kernel_rfl) (by kernel_rfl) (by kernel_rfl) rfl ?_
                    refine d_off 27 rfl rfl rfl (by decide) pnok (by kernel_rfl) (by kernel_rfl) (by kernel_rfl) rfl ?_
                    refine d_off 28 rfl rfl rfl (by decide) pnok (by kernel_rfl) (by kernel_rfl) (by kernel_rfl) rfl ?_
                    refine d_off 29 rfl rfl rfl (by decide) pnok (by kernel_rfl) (by kernel_rfl) (by kernel_rfl) rfl ?_
                    refine d_off 30 rfl rfl rfl (by decide) pnok (by kernel_rfl) (by kernel_rfl) (by kernel_rfl) rfl ?_
                    refine d_val 31 rfl pnok (by kernel_rfl) (by kernel_rfl) (by kernel_rfl) rfl (v_pick_f rfl rfl) ?_
                    refine d_val 32 rfl pnok (by kernel_rfl) (by kernel_rfl) (by kernel_rfl) rfl (v_assign rfl) ?_
                    refine d_done (by kernel_rfl) ?_
                    refine s_st ?_ (hN3 false hF)
                    exact st_le [0, 1, 1, 1, 1, 1] (le_cons rfl (le_cons rfl (le_cons rfl (le_cons rfl (le_cons rfl (le_cons rfl (le_cons rfl (le_cons rfl (le_cons rfl (le_cons rfl (le_cons rfl le_nil))))))))))) rfl sub_nil
                · replace hF := ite_f h20 hF
                  refine d_off 17 rfl rfl rfl (by decide) pnok (by kernel_rfl) (by kernel_rfl) (by kernel_rfl) rfl ?_
                  refine d_off 18 rfl rfl rfl (by decide) pnok (by kernel_rfl) (by kernel_rfl) (by kernel_rfl) rfl ?_
                  refine d_off 19 rfl rfl rfl (by decide) pnok (by kernel_rfl) (by kernel_rfl) (by kernel_rfl) rfl ?_
                  refine d_off 20 rfl rfl rfl (by decide) pnok (by kernel_rfl) (by kernel_rfl) (by kernel_rfl) rfl ?_
                  refine d_off 21 rfl rfl rfl (by decide) pnok (by kernel_rfl) (by kernel_rfl) (by kernel_rfl) rfl ?_
                  refine d_val 22 rfl pnok (by kernel_rfl) (by kernel_rfl) (by kernel_rfl) rfl (v_pick_f rfl rfl) ?_
                  refine d_val 23 rfl pnok (by kernel_rfl) (by kernel_rfl) (by kernel_rfl) rfl (v_move rfl) ?_
                  refine d_off 24 rfl rfl rfl (by decide) pnok (by kernel_rfl) (by kernel_rfl) (by kernel_rfl) rfl ?_
                  refine d_off 25 rfl rfl rfl (by decide) pnok (by kernel_rfl) (by kernel_rfl) (by kernel_rfl) rfl ?_
                  refine d_off 26 rfl rfl rfl (by decide) pnok (by kernel_rfl) (by kernel_rfl) (by kernel_rfl) rfl ?_
                  refine d_off 27 rfl rfl rfl (by decide) pnok (by kernel_rfl) (by kernel_rfl) (by kernel_rfl) rfl ?_
                  refine d_off 28 rfl rfl rfl (by decide) pnok (by kernel_rfl) (by kernel_rfl) (by kernel_rfl) rfl ?_
                  refine d_off 29 rfl rfl rfl (by decide) pnok (by kernel_rfl) (by kernel_rfl) (by kernel_rfl) rfl ?_
                  refine d_off 30 rfl rfl rfl (by decide) pnok (by kernel_rfl) (by kernel_rfl) (by kernel_rfl) rfl ?_
                  refine d_val 31 rfl pnok (by kernel_rfl) (by kernel_rfl) (by kernel_rfl) rfl (v_pick_f rfl rfl) ?_
                  refine d_val 32 rfl pnok (by kernel_rfl) (by kernel_rfl) (by kernel_rfl) rfl (v_assign rfl) ?_
                  refine d_done (by kernel_rfl) ?_
                  refine s_st ?_ (hN3 false hF)
                  exact st_le [0, 1, 1, 1, 1, 1] (le_cons rfl (le_cons rfl (le_cons rfl (le_cons rfl (le_cons rfl (le_cons rfl (le_cons rfl (le_cons rfl (le_cons rfl (le_cons rfl (le_cons rfl le_nil))))))))))) rfl sub_nil
              · replace hF := ite_f h14 hF
                refine d_off 2 rfl rfl rfl (by decide) pnok (by kernel_rfl) (by kernel_rfl) (by kernel_rfl) rfl ?_
                refine d_off 3 rfl rfl rfl (by decide) pnok (by kernel_rfl) (by kernel_rfl) (by kernel_rfl) rfl ?_
                refine d_off 4 rfl rfl rfl (by decide) pnok (by kernel_rfl) (by kernel_rfl) (by kernel_rfl) rfl ?_
                refine d_off 5 rfl rfl rfl (by decide) pnok (by kernel_rfl) (by kernel_rfl) (by kernel_rfl) rfl ?_
                refine d_off 6 rfl rfl rfl (by decide) pnok (by kernel_rfl) (by kernel_rfl) (by kernel_rfl) rfl ?_
                refine d_off 7 rfl rfl rfl (by decide) pnok (by kernel_rfl) (by kernel_rfl) (by kernel_rfl) rfl ?_
                refine d_off 8 rfl rfl rfl (by decide) pnok (by kernel_rfl) (by kernel_rfl) (by kernel_rfl) rfl ?_
                refine d_off 9 rfl rfl rfl (by decide) pnok (by kernel_rfl) (by kernel_rfl) (by kernel_rfl) rfl ?_
                refine d_off 10 rfl rfl rfl (by decide) pnok (by kernel_rfl) (by kernel_rfl) (by kernel_rfl) rfl ?_
                refine d_off 11 rfl rfl rfl (by decide) pnok (by kernel_rfl) (by kernel_rfl) (by kernel_rfl) rfl ?_
                refine d_off 12 rfl rfl rfl (by decide) pnok (by kernel_rfl) (by kernel_rfl) (by kernel_rfl) rfl ?_
                refine d_off 13 rfl rfl rfl (by decide) pnok (by kernel_rfl) (by kernel_rfl) (by kernel_rfl) rfl ?_
                refine d_off 14 rfl rfl rfl (by decide) pnok (by kernel_rfl) (by kernel_rfl) (by kernel_rfl) rfl ?_
                refine d_val 15 rfl pnok (by kernel_rfl) (by kernel_rfl) (by kernel_rfl) rfl (v_pick_f rfl rfl) ?_
                refine d_val 16 rfl pnok (by kernel_rfl) (by kernel_rfl) (by kernel_rfl) rfl (v_move rfl) ?_
                refine d_off 17 rfl rfl rfl (by decide) pnok (by kernel_rfl) (by kernel_rfl) (by kernel_rfl) rfl ?_
                refine d_off 18 rfl rfl rfl (by decide) pnok (by kernel_rfl) (by kernel_rfl) (by kernel_rfl) rfl ?_
                refine d_off 19 rfl rfl rfl (by decide) pnok (by kernel_rfl) (by kernel_rfl) (by kernel_rfl) rfl ?_
                refine d_off 20 rfl rfl rfl (by decide) pnok (by kernel_rfl) (by kernel_rfl) (by kernel_rfl) rfl ?_
                refine d_off 21 rfl rfl rfl (by decide) pnok (by kernel_rfl) (by kernel_rfl) (by kernel_rfl) rfl ?_
                refine d_val 22 rfl pnok (by kernel_rfl) (by kernel_rfl) (by kernel_rfl) rfl (v_pick_f rfl rfl) ?_
                refine d_val 23 rfl pnok (by kernel_rfl) (by kernel_rfl) (by kernel_rfl) rfl (v_move rfl) ?_
                refine d_off 24 rfl rfl rfl (by decide) pnok (by kernel_rfl) (by kernel_rfl) (by kernel_rfl) rfl ?_
                refine d_off 25 rfl rfl rfl (by decide) pnok (by kernel_rfl) (by kernel_rfl) (by kernel_rfl) rfl ?_
                refine d_off 26 rfl rfl rfl (by decide) pnok (by kernel_rfl) (by kernel_rfl) (by kernel_rfl) rfl ?_
                refine d_off 27 rfl rfl rfl (by decide) pnok (by kernel_rfl) (by kernel_rfl) (by kernel_rfl) rfl ?_
                refine d_off 28 rfl rfl rfl (by decide) pnok (by kernel_rfl) (by kernel_rfl) (by kernel_rfl) rfl ?_
                refine d_off 29 rfl rfl rfl (by decide) pnok (by kernel_rfl) (by kernel_rfl) (by kernel_rfl) rfl ?_
                refine d_off 30 rfl rfl rfl (by decide) pnok (by kernel_rfl) (by kernel_rfl) (by kernel_rfl) rfl ?_
                refine d_val 31 rfl pnok (by kernel_rfl) (by kernel_rfl) (by kernel_rfl) rfl (v_pick_f rfl rfl) ?_
                refine d_val 32 rfl pnok (by kernel_rfl) (by kernel_rfl) (by kernel_rfl) rfl (v_assign rfl) ?_
                refine d_done (by kernel_rfl) ?_
                refine s_st ?_ (hN3 false hF)
                exact st_le [0, 1, 1, 1, 1, 1] (le_cons rfl (le_cons rfl (le_cons rfl (le_cons rfl (le_cons rfl (le_cons rfl (le_cons rfl (le_cons rfl (le_cons rfl (le_cons rfl (le_cons rfl le_nil))))))))))) rfl sub_nil
            · intro t6 hF
              unfold F.law01.CharsetAlgebra_j3 at hF
              refine sat_wc ?_
              refine c_ret ?_
              cases hF
              refine s_ret1 rfl (r_tmp rfl) fun a w hs => ?_
              exact fin_sel hs [] ⟨rfl, rfl, rfl⟩ rfl sub_nil
theorem tri36 (k : Nat) (a_ : S4) (b : S4) (r : Bool) (hF : F.charset.Within k a_ b = some r) :
    Tri Try.prog 36 [.agg #[.int .u64 a_.w0, .int .u64 a_.w1, .int .u64 a_.w2, .int .u64 a_.w3], .agg #[.int .u64 b.w0, .int .u64 b.w1, .int .u64 b.w2, .int .u64 b.w3]] [] [] (fun o H Φ => o = .ret (.bool r) ∧ H = [] ∧ Φ = []) := by
  unfold F.charset.Within at hF
  refine tri_intro (n := 10) Try.func36 rfl Try.ntmps36 rfl fun w X => ?_
  refine c_seq ?_
  refine c_region ?_
  refine o_box rfl rfl rfl fun b1 => ?_
  refine o_box rfl rfl rfl fun b2 => ?_
  refine o_v (v_assign rfl) rfl ?_
  refine o_seq ?_
  refine c_seq ?_
  refine c_region ?_
  refine o_v (v_load_box 1 ty26 rfl rfl rfl rfl rfl) rfl ?_
  refine o_v (v_load_box 0 ty26 rfl rfl rfl rfl rfl) rfl ?_
  obtain ⟨v, h1, hF⟩ := bd hF
  refine o_callSB call33 rfl lent_nil (tri33 k a_ b v h1) rfl ?_
  refine o_v (v_build (v := .agg #[.int .u64 0, .int .u64 0, .int .u64 0, .int .u64 0]) rfl (fun _ => by kernel_rfl)) rfl ?_
  refine o_v (v_ageq 2 rfl rfl (eq26 v.w0 v.w1 v.w2 v.w3 0 0 0 0) rfl guard26) rfl ?_
  refine o_v (v_assign rfl) rfl ?_
  refine o_seq ?_
  refine c_ret ?_
  cases hF
  refine s_ret1 rfl (r_tmp rfl) fun a w hs => ?_
  exact fin_sel hs [] ⟨rfl, rfl, rfl⟩ rfl sub_nil
theorem tri10 (k : Nat) (a_ : S4) (b : S4) (r : Bool) (hF : F.law01.CharsetGoes k a_ b = some r) :
    Tri Try.prog 10 [.agg #[.int .u64 a_.w0, .int .u64 a_.w1, .int .u64 a_.w2, .int .u64 a_.w3], .agg #[.int .u64 b.w0, .int .u64 b.w1, .int .u64 b.w2, .int .u64 b.w3]] [] [] (fun o H Φ => o = .ret (.bool r) ∧ H = [] ∧ Φ = []) := by
  unfold F.law01.CharsetGoes at hF
  refine tri_intro (n := 60) Try.func10 rfl Try.ntmps10 rfl fun w X => ?_
  refine c_seq ?_
  refine c_region ?_
  refine o_box rfl rfl rfl fun b1 => ?_
  refine o_box rfl rfl rfl fun b2 => ?_
  refine o_v (v_assign rfl) rfl ?_
  refine o_seq ?_
  refine c_seq ?_
  refine c_cut (fun E N' => ∀ (t4 : Bool), F.law01.CharsetGoes_j1 t4 = some r → Sat E [(0, .agg #[.int .u64 a_.w0, .int .u64 a_.w1, .int .u64 a_.w2, .int .u64 a_.w3]), (1, .agg #[.int .u64 b.w0, .int .u64 b.w1, .int .u64 b.w2, .int .u64 b.w3]), (4, .bool t4)] [] [] N') (fun N1 hN1 => ?_) ?_
  · refine c_draw (n := 56) [0, 0] mixed rfl rfl ?_
    refine d_one 0 rfl (by kernel_rfl) ?_
    obtain ⟨v, h1, hF⟩ := bd hF
    refine o_callSB call12 rfl lent_nil (tri12 k v h1) rfl ?_
    refine d_next [0, 0] 0 rfl rfl ?_
    refine d_val 1 rfl pnok (by kernel_rfl) (by kernel_rfl) (by kernel_rfl) rfl (v_move rfl) ?_
    refine d_split (t := 6) rfl (fun h2 => ?_) (fun h2 => ?_)
    · replace hF := ite_t h2 hF
      refine d_val_on 2 rfl rfl rfl pnok (by kernel_rfl) (by kernel_rfl) (by kernel_rfl) rfl (v_load_box 1 ty26 rfl rfl rfl rfl rfl) ?_
      refine d_val_on 3 rfl rfl rfl pnok (by kernel_rfl) (by kernel_rfl) (by kernel_rfl) rfl (v_load_box 0 ty26 rfl rfl rfl rfl rfl) ?_
      refine d_val_on 5 rfl rfl rfl pnok (by kernel_rfl) (by kernel_rfl) (by kernel_rfl) rfl (v_load_box 1 ty26 rfl rfl rfl rfl rfl) ?_
      refine d_val_on 6 rfl rfl rfl pnok (by kernel_rfl) (by kernel_rfl) (by kernel_rfl) rfl (v_load_box 0 ty26 rfl rfl rfl rfl rfl) ?_
      refine d_one 4 rfl (by kernel_rfl) ?_
      refine o_on rfl rfl ?_
      obtain ⟨v1, h3, hF⟩ := bd hF
      refine o_callSB call31 rfl lent_nil (tri31 k a_ b v1 h3) rfl ?_
      refine d_next [0, 0] 0 rfl rfl ?_
      refine d_one 7 rfl (by kernel_rfl) ?_
      refine o_on rfl rfl ?_
      obtain ⟨v2, h4, hF⟩ := bd hF
      refine o_callSB call35 rfl lent_nil (tri35 k 0 a_ b v2 h4) rfl ?_
      refine d_next [0, 0] 0 rfl rfl ?_
      refine d_val_on 8 rfl rfl rfl pnok (by kernel_rfl) (by kernel_rfl) (by kernel_rfl) rfl (v_ageq 2 rfl rfl (eq26 v1.w0 v1.w1 v1.w2 v1.w3 v2.w0 v2.w1 v2.w2 v2.w3) rfl guard26) ?_
      refine d_val 9 rfl pnok (by kernel_rfl) (by kernel_rfl) (by kernel_rfl) rfl (v_pick_t rfl rfl) ?_
      refine d_val 10 rfl pnok (by kernel_rfl) (by kernel_rfl) (by kernel_rfl) rfl (v_move rfl) ?_
      refine d_split (t := 15) rfl (fun h5 => ?_) (fun h5 => ?_)
      · replace hF := ite_t h5 hF
        refine d_val_on 11 rfl rfl rfl pnok (by kernel_rfl) (by kernel_rfl) (by kernel_rfl) rfl (v_load_box 1 ty26 rfl rfl rfl rfl rfl) ?_
        refine d_val_on 12 rfl rfl rfl pnok (by kernel_rfl) (by kernel_rfl) (by kernel_rfl) rfl (v_load_box 0 ty26 rfl rfl rfl rfl rfl) ?_
        refine d_val_on 14 rfl rfl rfl pnok (by kernel_rfl) (by kernel_rfl) (by kernel_rfl) rfl (v_load_box 1 ty26 rfl rfl rfl rfl rfl) ?_
        refine d_val_on 15 rfl rfl rfl pnok (by kernel_rfl) (by kernel_rfl) (by kernel_rfl) rfl (v_load_box 0 ty26 rfl rfl rfl rfl rfl) ?_
        refine d_one 13 rfl (by kernel_rfl) ?_
        refine o_on rfl rfl ?_
        obtain ⟨v3, h6, hF⟩ := bd hF
        refine o_callSB call32 rfl lent_nil (tri32 k a_ b v3 h6) rfl ?_
        refine d_next [0, 0] 0 rfl rfl ?_
        refine d_one 16 rfl (by kernel_rfl) ?_
        refine o_on rfl rfl ?_
        obtain ⟨v4, h7, hF⟩ := bd hF
        refine o_callSB call35 rfl lent_nil (tri35 k 1 a_ b v4 h7) rfl ?_
        refine d_next [0, 0] 0 rfl rfl ?_
        refine d_val_on 17 rfl rfl rfl pnok (by kernel_rfl) (by kernel_rfl) (by kernel_rfl) rfl (v_ageq 2 rfl rfl (eq26 v3.w0 v3.w1 v3.w2 v3.w3 v4.w0 v4.w1 v4.w2 v4.w3) rfl guard26) ?_
        refine d_val 18 rfl pnok (by kernel_rfl) (by kernel_rfl) (by kernel_rfl) rfl (v_pick_t rfl rfl) ?_
        refine d_val 19 rfl pnok (by kernel_rfl) (by kernel_rfl) (by kernel_rfl) rfl (v_move rfl) ?_
        refine d_split (t := 24) rfl (fun h8 => ?_) (fun h8 => ?_)
        · replace hF := ite_t h8 hF
          refine d_val_on 20 rfl rfl rfl pnok (by kernel_rfl) (by kernel_rfl) (by kernel_rfl) rfl (v_load_box 1 ty26 rfl rfl rfl rfl rfl) ?_
          refine d_val_on 21 rfl rfl rfl pnok (by kernel_rfl) (by kernel_rfl) (by kernel_rfl) rfl (v_load_box 0 ty26 rfl rfl rfl rfl rfl) ?_
          refine d_val_on 23 rfl rfl rfl pnok (by kernel_rfl) (by kernel_rfl) (by kernel_rfl) rfl (v_load_box 1 ty26 rfl rfl rfl rfl rfl) ?_
          refine d_val_on 24 rfl rfl rfl pnok (by kernel_rfl) (by kernel_rfl) (by kernel_rfl) rfl (v_load_box 0 ty26 rfl rfl rfl rfl rfl) ?_
          refine d_one 22 rfl (by kernel_rfl) ?_
          refine o_on rfl rfl ?_
          obtain ⟨v5, h9, hF⟩ := bd hF
          refine o_callSB call33 rfl lent_nil (tri33 k a_ b v5 h9) rfl ?_
          refine d_next [0, 0] 0 rfl rfl ?_
          refine d_one 25 rfl (by kernel_rfl) ?_
          refine o_on rfl rfl ?_
          obtain ⟨v6, h10, hF⟩ := bd hF
          refine o_callSB call35 rfl lent_nil (tri35 k 2 a_ b v6 h10) rfl ?_
          refine d_next [0, 0] 0 rfl rfl ?_
          refine d_val_on 26 rfl rfl rfl pnok (by kernel_rfl) (by kernel_rfl) (by kernel_rfl) rfl (v_ageq 2 rfl rfl (eq26 v5.w0 v5.w1 v5.w2 v5.w3 v6.w0 v6.w1 v6.w2 v6.w3) rfl guard26) ?_
          refine d_val 27 rfl pnok (by kernel_rfl) (by kernel_rfl) (by kernel_rfl) rfl (v_pick_t rfl rfl) ?_
          refine d_val 28 rfl pnok (by kernel_rfl) (by kernel_rfl) (by kernel_rfl) rfl (v_move rfl) ?_
          refine d_split (t := 33) rfl (fun h11 => ?_) (fun h11 => ?_)
          · replace hF := ite_t h11 hF
            refine d_val_on 29 rfl rfl rfl pnok (by kernel_rfl) (by kernel_rfl) (by kernel_rfl) rfl (v_load_box 1 ty26 rfl rfl rfl rfl rfl) ?_
            refine d_val_on 31 rfl rfl rfl pnok (by kernel_rfl) (by kernel_rfl) (by kernel_rfl) rfl (v_load_box 1 ty26 rfl rfl rfl rfl rfl) ?_
            refine d_val_on 32 rfl rfl rfl pnok (by kernel_rfl) (by kernel_rfl) (by kernel_rfl) rfl (v_load_box 0 ty26 rfl rfl rfl rfl rfl) ?_
            refine d_one 30 rfl (by kernel_rfl) ?_
            refine o_on rfl rfl ?_
            obtain ⟨v7, h12, hF⟩ := bd hF
            refine o_callSB call30 rfl lent_nil (tri30 k a_ v7 h12) rfl ?_
            refine d_next [0, 0] 0 rfl rfl ?_
            refine d_one 33 rfl (by kernel_rfl) ?_
            refine o_on rfl rfl ?_
            obtain ⟨v8, h13, hF⟩ := bd hF
            refine o_callSB call35 rfl lent_nil (tri35 k 3 a_ b v8 h13) rfl ?_
            refine d_next [0, 0] 0 rfl rfl ?_
            refine d_val_on 34 rfl rfl rfl pnok (by kernel_rfl) (by kernel_rfl) (by kernel_rfl) rfl (v_ageq 2 rfl rfl (eq26 v7.w0 v7.w1 v7.w2 v7.w3 v8.w0 v8.w1 v8.w2 v8.w3) rfl guard26) ?_
            refine d_val 35 rfl pnok (by kernel_rfl) (by kernel_rfl) (by kernel_rfl) rfl (v_pick_t rfl rfl) ?_
            refine d_val 36 rfl pnok (by kernel_rfl) (by kernel_rfl) (by kernel_rfl) rfl (v_move rfl) ?_
            refine d_split (t := 41) rfl (fun h14 => ?_) (fun h14 => ?_)
            · replace hF := ite_t h14 hF
              refine d_val_on 37 rfl rfl rfl pnok (by kernel_rfl) (by kernel_rfl) (by kernel_rfl) rfl (v_load_box 1 ty26 rfl rfl rfl rfl rfl) ?_
              refine d_val_on 38 rfl rfl rfl pnok (by kernel_rfl) (by kernel_rfl) (by kernel_rfl) rfl (v_load_box 0 ty26 rfl rfl rfl rfl rfl) ?_
              refine d_val_on 40 rfl rfl rfl pnok (by kernel_rfl) (by kernel_rfl) (by kernel_rfl) rfl (v_load_box 1 ty26 rfl rfl rfl rfl rfl) ?_
              refine d_val_on 41 rfl rfl rfl pnok (by kernel_rfl) (by kernel_rfl) (by kernel_rfl) rfl (v_load_box 0 ty26 rfl rfl rfl rfl rfl) ?_
              refine d_val_on 43 rfl rfl rfl pnok (by kernel_rfl) (by kernel_rfl) (by kernel_rfl) rfl (v_build (v := .agg #[.int .u64 0, .int .u64 0, .int .u64 0, .int .u64 0]) rfl (fun _ => by kernel_rfl)) ?_
              refine d_one 39 rfl (by kernel_rfl) ?_
              refine o_on rfl rfl ?_
              obtain ⟨v9, h15, hF⟩ := bd hF
              refine o_callSB call36 rfl lent_nil (tri36 k a_ b v9 h15) rfl ?_
              refine d_next [0, 0] 0 rfl rfl ?_
              refine d_one 42 rfl (by kernel_rfl) ?_
              refine o_on rfl rfl ?_
              refine o_callSB call35 rfl lent_nil (tri35 k 2 a_ b v6 h10) rfl ?_
              refine d_next [0, 0] 0 rfl rfl ?_
              refine d_val_on 44 rfl rfl rfl pnok (by kernel_rfl) (by kernel_rfl) (by kernel_rfl) rfl (v_ageq 2 rfl rfl (eq26 v6.w0 v6.w1 v6.w2 v6.w3 0 0 0 0) rfl guard26) ?_
              refine d_val_on 45 rfl rfl rfl pnok (by kernel_rfl) (by kernel_rfl) (by kernel_rfl) rfl (v_booleq rfl rfl Try.underlying4) ?_
              refine d_val 46 rfl pnok (by kernel_rfl) (by kernel_rfl) (by kernel_rfl) rfl (v_pick_t rfl rfl) ?_
              refine d_val 47 rfl pnok (by kernel_rfl) (by kernel_rfl) (by kernel_rfl) rfl (v_move rfl) ?_
              refine d_split (t := 52) rfl (fun h16 => ?_) (fun h16 => ?_)
              · replace hF := ite_t h16 hF
                refine d_val_on 48 rfl rfl rfl pnok (by kernel_rfl) (by kernel_rfl) (by kernel_rfl) rfl (v_load_box 1 ty26 rfl rfl rfl rfl rfl) ?_
                refine d_val_on 50 rfl rfl rfl pnok (by kernel_rfl) (by kernel_rfl) (by kernel_rfl) rfl (v_load_box 1 ty26 rfl rfl rfl rfl rfl) ?_
                refine d_one 49 rfl (by kernel_rfl) ?_
                refine o_on rfl rfl ?_
                obtain ⟨v10, h17, hF⟩ := bd hF
                refine o_callSB call34 rfl lent_nil (tri34 k a_ v10 h17) rfl ?_
                refine d_next [0, 0] 0 rfl rfl ?_
                refine d_one 51 rfl (by kernel_rfl) ?_
                refine o_on rfl rfl ?_
                obtain ⟨v11, h18, hF⟩ := bd hF
                refine o_call0 call26 rfl sub_nil (tri26 k a_ v11 h18) rfl ?_
                rintro _ _ _ ⟨sa1, sn1, sc1, rfl, rfl, rfl⟩
                refine d_next [1, 1] 0 rfl rfl ?_
                refine d_one 52 rfl (by kernel_rfl) ?_
                refine o_on rfl rfl ?_
                refine o_v (v_lenS (enc := eU8) v11 sl22 rfl (.r 0 _ rfl)) rfl ?_
                refine d_next [1, 1] 0 rfl rfl ?_
                refine d_val_on 53 rfl rfl rfl pnok (by kernel_rfl) (by kernel_rfl) (by kernel_rfl) rfl (v_bin rfl rfl rfl) ?_
                refine d_val 54 rfl pnok (by kernel_rfl) (by kernel_rfl) (by kernel_rfl) rfl (v_pick_t rfl rfl) ?_
                refine d_val 55 rfl pnok (by kernel_rfl) (by kernel_rfl) (by kernel_rfl) rfl (v_assign rfl) ?_
                refine d_done (by kernel_rfl) ?_
                refine s_st ?_ (hN1 (v10 == (v11.length : Int)) hF)
                exact st_le [] (le_cons rfl (le_cons rfl (le_cons rfl le_nil))) rfl sub_nil
              · replace hF := ite_f h16 hF
                refine d_off 48 rfl rfl rfl (by decide) pnok (by kernel_rfl) (by kernel_rfl) (by kernel_rfl) rfl ?_
                refine d_off 49 rfl rfl rfl (by decide) pnok (by kernel_rfl) (by kernel_rfl) (by kernel_rfl) rfl ?_
                refine d_off 50 rfl rfl rfl (by decide) pnok (by kernel_rfl) (by kernel_rfl) (by kernel_rfl) rfl ?_
                refine d_off 51 rfl rfl rfl (by decide) pnok (by kernel_rfl) (by kernel_rfl) (by kernel_rfl) rfl ?_
                refine d_off 52 rfl rfl rfl (by decide) pnok (by kernel_rfl) (by kernel_rfl) (by kernel_rfl) rfl ?_
                refine d_off 53 rfl rfl rfl (by decide) pnok (by kernel_rfl) (by kernel_rfl) (by kernel_rfl) rfl ?_
                refine d_val 54 rfl pnok (by kernel_rfl) (by kernel_rfl) (by kernel_rfl) rfl (v_pick_f rfl rfl) ?_
                refine d_val 55 rfl pnok (by kernel_rfl) (by kernel_rfl) (by kernel_rfl) rfl (v_assign rfl) ?_
                refine d_done (by kernel_rfl) ?_
                refine s_st ?_ (hN1 false hF)
                exact st_le [] (le_cons rfl (le_cons rfl (le_cons rfl le_nil))) rfl sub_nil
            · replace hF := ite_f h14 hF
              refine d_off 37 rfl rfl rfl (by decide) pnok (by kernel_rfl) (by kernel_rfl) (by kernel_rfl) rfl ?_
              refine d_off 38 rfl rfl rfl (by decide) pnok (by kernel_rfl) (by kernel_rfl) (by kernel_rfl) rfl ?_
              refine d_off 39 rfl rfl rfl (by decide) pnok (by kernel_rfl) (by kernel_rfl) (by kernel_rfl) rfl ?_
              refine d_off 40 rfl rfl rfl (by decide) pnok (by kernel_rfl) (by kernel_rfl) (by kernel_rfl) rfl ?_
              refine d_off 41 rfl rfl rfl (by decide) pnok (by kernel_rfl) (by kernel_rfl) (by kernel_rfl) rfl ?_
              refine d_off 42 rfl rfl rfl (by decide) pnok (by kernel_rfl) (by kernel_rfl) (by kernel_rfl) rfl ?_
              refine d_off 43 rfl rfl rfl (by decide) pnok (by kernel_rfl) (by kernel_rfl) (by kernel_rfl) rfl ?_
              refine d_off 44 rfl rfl rfl (by decide) pnok (by kernel_rfl) (by kernel_rfl) (by kernel_rfl) rfl ?_
              refine d_off 45 rfl rfl rfl (by decide) pnok (by kernel_rfl) (by kernel_rfl) (by kernel_rfl) rfl ?_
              refine d_val 46 rfl pnok (by kernel_rfl) (by kernel_rfl) (by kernel_rfl) rfl (v_pick_f rfl rfl) ?_
              refine d_val 47 rfl pnok (by kernel_rfl) (by kernel_rfl) (by kernel_rfl) rfl (v_move rfl) ?_
              refine d_off 48 rfl rfl rfl (by decide) pnok (by kernel_rfl) (by kernel_rfl) (by kernel_rfl) rfl ?_
              refine d_off 49 rfl rfl rfl (by decide) pnok (by kernel_rfl) (by kernel_rfl) (by kernel_rfl) rfl ?_
              refine d_off 50 rfl rfl rfl (by decide) pnok (by kernel_rfl) (by kernel_rfl) (by kernel_rfl) rfl ?_
              refine d_off 51 rfl rfl rfl (by decide) pnok (by kernel_rfl) (by kernel_rfl) (by kernel_rfl) rfl ?_
              refine d_off 52 rfl rfl rfl (by decide) pnok (by kernel_rfl) (by kernel_rfl) (by kernel_rfl) rfl ?_
              refine d_off 53 rfl rfl rfl (by decide) pnok (by kernel_rfl) (by kernel_rfl) (by kernel_rfl) rfl ?_
              refine d_val 54 rfl pnok (by kernel_rfl) (by kernel_rfl) (by kernel_rfl) rfl (v_pick_f rfl rfl) ?_
              refine d_val 55 rfl pnok (by kernel_rfl) (by kernel_rfl) (by kernel_rfl) rfl (v_assign rfl) ?_
              refine d_done (by kernel_rfl) ?_
              refine s_st ?_ (hN1 false hF)
              exact st_le [] (le_cons rfl (le_cons rfl (le_cons rfl le_nil))) rfl sub_nil
          · replace hF := ite_f h11 hF
            refine d_off 29 rfl rfl rfl (by decide) pnok (by kernel_rfl) (by kernel_rfl) (by kernel_rfl) rfl ?_
            refine d_off 30 rfl rfl rfl (by decide) pnok (by kernel_rfl) (by kernel_rfl) (by kernel_rfl) rfl ?_
            refine d_off 31 rfl rfl rfl (by decide) pnok (by kernel_rfl) (by kernel_rfl) (by kernel_rfl) rfl ?_
            refine d_off 32 rfl rfl rfl (by decide) pnok (by kernel_rfl) (by kernel_rfl) (by kernel_rfl) rfl ?_
            refine d_off 33 rfl rfl rfl (by decide) pnok (by kernel_rfl) (by kernel_rfl) (by kernel_rfl) rfl ?_
            refine d_off 34 rfl rfl rfl (by decide) pnok (by kernel_rfl) (by kernel_rfl) (by kernel_rfl) rfl ?_
            refine d_val 35 rfl pnok (by kernel_rfl) (by kernel_rfl) (by kernel_rfl) rfl (v_pick_f rfl rfl) ?_
            refine d_val 36 rfl pnok (by kernel_rfl) (by kernel_rfl) (by kernel_rfl) rfl (v_move rfl) ?_
            refine d_off 37 rfl rfl rfl (by decide) pnok (by kernel_rfl) (by kernel_rfl) (by kernel_rfl) rfl ?_
            refine d_off 38 rfl rfl rfl (by decide) pnok (by kernel_rfl) (by kernel_rfl) (by kernel_rfl) rfl ?_
            refine d_off 39 rfl rfl rfl (by decide) pnok (by kernel_rfl) (by kernel_rfl) (by kernel_rfl) rfl ?_
            refine d_off 40 rfl rfl rfl (by decide) pnok (by kernel_rfl) (by kernel_rfl) (by kernel_rfl) rfl ?_
            refine d_off 41 rfl rfl rfl (by decide) pnok (by kernel_rfl) (by kernel_rfl) (by kernel_rfl) rfl ?_
            refine d_off 42 rfl rfl rfl (by decide) pnok (by kernel_rfl) (by kernel_rfl) (by kernel_rfl) rfl ?_
            refine d_off 43 rfl rfl rfl (by decide) pnok (by kernel_rfl) (by kernel_rfl) (by kernel_rfl) rfl ?_
            refine d_off 44 rfl rfl rfl (by decide) pnok (by kernel_rfl) (by kernel_rfl) (by kernel_rfl) rfl ?_
            refine d_off 45 rfl rfl rfl (by decide) pnok (by kernel_rfl) (by kernel_rfl) (by kernel_rfl) rfl ?_
            refine d_val 46 rfl pnok (by kernel_rfl) (by kernel_rfl) (by kernel_rfl) rfl (v_pick_f rfl rfl) ?_
            refine d_val 47 rfl pnok (by kernel_rfl) (by kernel_rfl) (by kernel_rfl) rfl (v_move rfl) ?_
            refine d_off 48 rfl rfl rfl (by decide) pnok (by kernel_rfl) (by kernel_rfl) (by kernel_rfl) rfl ?_
            refine d_off 49 rfl rfl rfl (by decide) pnok (by kernel_rfl) (by kernel_rfl) (by kernel_rfl) rfl ?_
            refine d_off 50 rfl rfl rfl (by decide) pnok (by kernel_rfl) (by kernel_rfl) (by kernel_rfl) rfl ?_
            refine d_off 51 rfl rfl rfl (by decide) pnok (by kernel_rfl) (by kernel_rfl) (by kernel_rfl) rfl ?_
            refine d_off 52 rfl rfl rfl (by decide) pnok (by kernel_rfl) (by kernel_rfl) (by kernel_rfl) rfl ?_
            refine d_off 53 rfl rfl rfl (by decide) pnok (by kernel_rfl) (by kernel_rfl) (by kernel_rfl) rfl ?_
            refine d_val 54 rfl pnok (by kernel_rfl) (by kernel_rfl) (by kernel_rfl) rfl (v_pick_f rfl rfl) ?_
            refine d_val 55 rfl pnok (by kernel_rfl) (by kernel_rfl) (by kernel_rfl) rfl (v_assign rfl) ?_
            refine d_done (by kernel_rfl) ?_
            refine s_st ?_ (hN1 false hF)
            exact st_le [] (le_cons rfl (le_cons rfl (le_cons rfl le_nil))) rfl sub_nil
        · replace hF := ite_f h8 hF
          refine d_off 20 rfl rfl rfl (by decide) pnok (by kernel_rfl) (by kernel_rfl) (by kernel_rfl) rfl ?_
          refine d_off 21 rfl rfl rfl (by decide) pnok (by kernel_rfl) (by kernel_rfl) (by kernel_rfl) rfl ?_
          refine d_off 22 rfl rfl rfl (by decide) pnok (by kernel_rfl) (by kernel_rfl) (by kernel_rfl) rfl ?_
          refine d_off 23 rfl rfl rfl (by decide) pnok (by kernel_rfl) (by kernel_rfl) (by kernel_rfl) rfl ?_
          refine d_off 24 rfl rfl rfl (by decide) pnok (by kernel_rfl) (by kernel_rfl) (by kernel_rfl) rfl ?_
          refine d_off 25 rfl rfl rfl (by decide) pnok (by kernel_rfl) (by kernel_rfl) (by kernel_rfl) rfl ?_
          refine d_off 26 rfl rfl rfl (by decide) pnok (by kernel_rfl) (by kernel_rfl) (by kernel_rfl) rfl ?_
          refine d_val 27 rfl pnok (by kernel_rfl) (by kernel_rfl) (by kernel_rfl) rfl (v_pick_f rfl rfl) ?_
          refine d_val 28 rfl pnok (by kernel_rfl) (by kernel_rfl) (by kernel_rfl) rfl (v_move rfl) ?_
          refine d_off 29 rfl rfl rfl (by decide) pnok (by kernel_rfl) (by kernel_rfl) (by kernel_rfl) rfl ?_
          refine d_off 30 rfl rfl rfl (by decide) pnok (by kernel_rfl) (by kernel_rfl) (by kernel_rfl) rfl ?_
          refine d_off 31 rfl rfl rfl (by decide) pnok (by kernel_rfl) (by kernel_rfl) (by kernel_rfl) rfl ?_
          refine d_off 32 rfl rfl rfl (by decide) pnok (by kernel_rfl) (by kernel_rfl) (by kernel_rfl) rfl ?_
          refine d_off 33 rfl rfl rfl (by decide) pnok (by kernel_rfl) (by kernel_rfl) (by kernel_rfl) rfl ?_
          refine d_off 34 rfl rfl rfl (by decide) pnok (by kernel_rfl) (by kernel_rfl) (by kernel_rfl) rfl ?_
          refine d_val 35 rfl pnok (by kernel_rfl) (by kernel_rfl) (by kernel_rfl) rfl (v_pick_f rfl rfl) ?_
          refine d_val 36 rfl pnok (by kernel_rfl) (by kernel_rfl) (by kernel_rfl) rfl (v_move rfl) ?_
          refine d_off 37 rfl rfl rfl (by decide) pnok (by kernel_rfl) (by kernel_rfl) (by kernel_rfl) rfl ?_
          refine d_off 38 rfl rfl rfl (by decide) pnok (by kernel_rfl) (by kernel_rfl) (by kernel_rfl) rfl ?_
          refine d_off 39 rfl rfl rfl (by decide) pnok (by kernel_rfl) (by kernel_rfl) (by kernel_rfl) rfl ?_
          refine d_off 40 rfl rfl rfl (by decide) pnok (by kernel_rfl) (by kernel_rfl) (by kernel_rfl) rfl ?_
          refine d_off 41 rfl rfl rfl (by decide) pnok (by kernel_rfl) (by kernel_rfl) (by kernel_rfl) rfl ?_
          refine d_off 42 rfl rfl rfl (by decide) pnok (by kernel_rfl) (by kernel_rfl) (by kernel_rfl) rfl ?_
          refine d_off 43 rfl rfl rfl (by decide) pnok (by kernel_rfl) (by kernel_rfl) (by kernel_rfl) rfl ?_
          refine d_off 44 rfl rfl rfl (by decide) pnok (by kernel_rfl) (by kernel_rfl) (by kernel_rfl) rfl ?_
          refine d_off 45 rfl rfl rfl (by decide) pnok (by kernel_rfl) (by kernel_rfl) (by kernel_rfl) rfl ?_
          refine d_val 46 rfl pnok (by kernel_rfl) (by kernel_rfl) (by kernel_rfl) rfl (v_pick_f rfl rfl) ?_
          refine d_val 47 rfl pnok (by kernel_rfl) (by kernel_rfl) (by kernel_rfl) rfl (v_move rfl) ?_
          refine d_off 48 rfl rfl rfl (by decide) pnok (by kernel_rfl) (by kernel_rfl) (by kernel_rfl) rfl ?_
          refine d_off 49 rfl rfl rfl (by decide) pnok (by kernel_rfl) (by kernel_rfl) (by kernel_rfl) rfl ?_
          refine d_off 50 rfl rfl rfl (by decide) pnok (by kernel_rfl) (by kernel_rfl) (by kernel_rfl) rfl ?_
          refine d_off 51 rfl rfl rfl (by decide) pnok (by kernel_rfl) (by kernel_rfl) (by kernel_rfl) rfl ?_
          refine d_off 52 rfl rfl rfl (by decide) pnok (by kernel_rfl) (by kernel_rfl) (by kernel_rfl) rfl ?_
          refine d_off 53 rfl rfl rfl (by decide) pnok (by kernel_rfl) (by kernel_rfl) (by kernel_rfl) rfl ?_
          refine d_val 54 rfl pnok (by kernel_rfl) (by kernel_rfl) (by kernel_rfl) rfl (v_pick_f rfl rfl) ?_
          refine d_val 55 rfl pnok (by kernel_rfl) (by kernel_rfl) (by kernel_rfl) rfl (v_assign rfl) ?_
          refine d_done (by kernel_rfl) ?_
          refine s_st ?_ (hN1 false hF)
          exact st_le [] (le_cons rfl (le_cons rfl (le_cons rfl le_nil))) rfl sub_nil
      · replace hF := ite_f h5 hF
        refine d_off 11 rfl rfl rfl (by decide) pnok (by kernel_rfl) (by kernel_rfl) (by kernel_rfl) rfl ?_
        refine d_off 12 rfl rfl rfl (by decide) pnok (by kernel_rfl) (by kernel_rfl) (by kernel_rfl) rfl ?_
        refine d_off 13 rfl rfl rfl (by decide) pnok (by kernel_rfl) (by kernel_rfl) (by kernel_rfl) rfl ?_
        refine d_off 14 rfl rfl rfl (by decide) pnok (by kernel_rfl) (by kernel_rfl) (by kernel_rfl) rfl ?_
        refine d_off 15 rfl rfl rfl (by decide) pnok (by kernel_rfl) (by kernel_rfl) (by kernel_rfl) rfl ?_
        refine d_off 16 rfl rfl rfl (by decide) pnok (by kernel_rfl) (by kernel_rfl) (by kernel_rfl) rfl ?_
        refine d_off 17 rfl rfl rfl (by decide) pnok (by kernel_rfl) (by kernel_rfl) (by kernel_rfl) rfl ?_
        refine d_val 18 rfl pnok (by kernel_rfl) (by kernel_rfl) (by kernel_rfl) rfl (v_pick_f rfl rfl) ?_
        refine d_val 19 rfl pnok (by kernel_rfl) (by kernel_rfl) (by kernel_rfl) rfl (v_move rfl) ?_
        refine d_off 20 rfl rfl rfl (by decide) pnok (by kernel_rfl) (by kernel_rfl) (by kernel_rfl) rfl ?_
        refine d_off 21 rfl rfl rfl (by decide) pnok (by kernel_rfl) (by kernel_rfl) (by kernel_rfl) rfl ?_
        refine d_off 22 rfl rfl rfl (by decide) pnok (by kernel_rfl) (by kernel_rfl) (by kernel_rfl) rfl ?_
        refine d_off 23 rfl rfl rfl (by decide) pnok (by kernel_rfl) (by kernel_rfl) (by kernel_rfl) rfl ?_
        refine d_off 24 rfl rfl rfl (by decide) pnok (by kernel_rfl) (by kernel_rfl) (by kernel_rfl) rfl ?_
        refine d_off 25 rfl rfl rfl (by decide) pnok (by kernel_rfl) (by kernel_rfl) (by kernel_rfl) rfl ?_
        refine d_off 26 rfl rfl rfl (by decide) pnok (by kernel_rfl) (by kernel_rfl) (by kernel_rfl) rfl ?_
        refine d_val 27 rfl pnok (by kernel_rfl) (by kernel_rfl) (by kernel_rfl) rfl (v_pick_f rfl rfl) ?_
        refine d_val 28 rfl pnok (by kernel_rfl) (by kernel_rfl) (by kernel_rfl) rfl (v_move rfl) ?_
        refine d_off 29 rfl rfl rfl (by decide) pnok (by kernel_rfl) (by kernel_rfl) (by kernel_rfl) rfl ?_
        refine d_off 30 rfl rfl rfl (by decide) pnok (by kernel_rfl) (by kernel_rfl) (by kernel_rfl) rfl ?_
        refine d_off 31 rfl rfl rfl (by decide) pnok (by kernel_rfl) (by kernel_rfl) (by kernel_rfl) rfl ?_
        refine d_off 32 rfl rfl rfl (by decide) pnok (by kernel_rfl) (by kernel_rfl) (by kernel_rfl) rfl ?_
        refine d_off 33 rfl rfl rfl (by decide) pnok (by kernel_rfl) (by kernel_rfl) (by kernel_rfl) rfl ?_
        refine d_off 34 rfl rfl rfl (by decide) pnok (by kernel_rfl) (by kernel_rfl) (by kernel_rfl) rfl ?_
        refine d_val 35 rfl pnok (by kernel_rfl) (by kernel_rfl) (by kernel_rfl) rfl (v_pick_f rfl rfl) ?_
        refine d_val 36 rfl pnok (by kernel_rfl) (by kernel_rfl) (by kernel_rfl) rfl (v_move rfl) ?_
        refine d_off 37 rfl rfl rfl (by decide) pnok (by kernel_rfl) (by kernel_rfl) (by kernel_rfl) rfl ?_
        refine d_off 38 rfl rfl rfl (by decide) pnok (by kernel_rfl) (by kernel_rfl) (by kernel_rfl) rfl ?_
        refine d_off 39 rfl rfl rfl (by decide) pnok (by kernel_rfl) (by kernel_rfl) (by kernel_rfl) rfl ?_
        refine d_off 40 rfl rfl rfl (by decide) pnok (by kernel_rfl) (by kernel_rfl) (by kernel_rfl) rfl ?_
        refine d_off 41 rfl rfl rfl (by decide) pnok (by kernel_rfl) (by kernel_rfl) (by kernel_rfl) rfl ?_
        refine d_off 42 rfl rfl rfl (by decide) pnok (by kernel_rfl) (by kernel_rfl) (by kernel_rfl) rfl ?_
        refine d_off 43 rfl rfl rfl (by decide) pnok (by kernel_rfl) (by kernel_rfl) (by kernel_rfl) rfl ?_
        refine d_off 44 rfl rfl rfl (by decide) pnok (by kernel_rfl) (by kernel_rfl) (by kernel_rfl) rfl ?_
        refine d_off 45 rfl rfl rfl (by decide) pnok (by kernel_rfl) (by kernel_rfl) (by kernel_rfl) rfl ?_
        refine d_val 46 rfl pnok (by kernel_rfl) (by kernel_rfl) (by kernel_rfl) rfl (v_pick_f rfl rfl) ?_
        refine d_val 47 rfl pnok (by kernel_rfl) (by kernel_rfl) (by kernel_rfl) rfl (v_move rfl) ?_
        refine d_off 48 rfl rfl rfl (by decide) pnok (by kernel_rfl) (by kernel_rfl) (by kernel_rfl) rfl ?_
        refine d_off 49 rfl rfl rfl (by decide) pnok (by kernel_rfl) (by kernel_rfl) (by kernel_rfl) rfl ?_
        refine d_off 50 rfl rfl rfl (by decide) pnok (by kernel_rfl) (by kernel_rfl) (by kernel_rfl) rfl ?_
        refine d_off 51 rfl rfl rfl (by decide) pnok (by kernel_rfl) (by kernel_rfl) (by kernel_rfl) rfl ?_
        refine d_off 52 rfl rfl rfl (by decide) pnok (by kernel_rfl) (by kernel_rfl) (by kernel_rfl) rfl ?_
        refine d_off 53 rfl rfl rfl (by decide) pnok (by kernel_rfl) (by kernel_rfl) (by kernel_rfl) rfl ?_
        refine d_val 54 rfl pnok (by kernel_rfl) (by kernel_rfl) (by kernel_rfl) rfl (v_pick_f rfl rfl) ?_
        refine d_val 55 rfl pnok (by kernel_rfl) (by kernel_rfl) (by kernel_rfl) rfl (v_assign rfl) ?_
        refine d_done (by kernel_rfl) ?_
        refine s_st ?_ (hN1 false hF)
        exact st_le [] (le_cons rfl (le_cons rfl (le_cons rfl le_nil))) rfl sub_nil
    · replace hF := ite_f h2 hF
      refine d_off 2 rfl rfl rfl (by decide) pnok (by kernel_rfl) (by kernel_rfl) (by kernel_rfl) rfl ?_
      refine d_off 3 rfl rfl rfl (by decide) pnok (by kernel_rfl) (by kernel_rfl) (by kernel_rfl) rfl ?_
      refine d_off 4 rfl rfl rfl (by decide) pnok (by kernel_rfl) (by kernel_rfl) (by kernel_rfl) rfl ?_
      refine d_off 5 rfl rfl rfl (by decide) pnok (by kernel_rfl) (by kernel_rfl) (by kernel_rfl) rfl ?_
      refine d_off 6 rfl rfl rfl (by decide) pnok (by kernel_rfl) (by kernel_rfl) (by kernel_rfl) rfl ?_
      refine d_off 7 rfl rfl rfl (by decide) pnok (by kernel_rfl) (by kernel_rfl) (by kernel_rfl) rfl ?_
      refine d_off 8 rfl rfl rfl (by decide) pnok (by kernel_rfl) (by kernel_rfl) (by kernel_rfl) rfl ?_
      refine d_val 9 rfl pnok (by kernel_rfl) (by kernel_rfl) (by kernel_rfl) rfl (v_pick_f rfl rfl) ?_
      refine d_val 10 rfl pnok (by kernel_rfl) (by kernel_rfl) (by kernel_rfl) rfl (v_move rfl) ?_
      refine d_off 11 rfl rfl rfl (by decide) pnok (by kernel_rfl) (by kernel_rfl) (by kernel_rfl) rfl ?_
      refine d_off 12 rfl rfl rfl (by decide) pnok (by kernel_rfl) (by kernel_rfl) (by kernel_rfl) rfl ?_
      refine d_off 13 rfl rfl rfl (by decide) pnok (by kernel_rfl) (by kernel_rfl) (by kernel_rfl) rfl ?_
      refine d_off 14 rfl rfl rfl (by decide) pnok (by kernel_rfl) (by kernel_rfl) (by kernel_rfl) rfl ?_
      refine d_off 15 rfl rfl rfl (by decide) pnok (by kernel_rfl) (by kernel_rfl) (by kernel_rfl) rfl ?_
      refine d_off 16 rfl rfl rfl (by decide) pnok (by kernel_rfl) (by kernel_rfl) (by kernel_rfl) rfl ?_
      refine d_off 17 rfl rfl rfl (by decide) pnok (by kernel_rfl) (by kernel_rfl) (by kernel_rfl) rfl ?_
      refine d_val 18 rfl pnok (by kernel_rfl) (by kernel_rfl) (by kernel_rfl) rfl (v_pick_f rfl rfl) ?_
      refine d_val 19 rfl pnok (by kernel_rfl) (by kernel_rfl) (by kernel_rfl) rfl (v_move rfl) ?_
      refine d_off 20 rfl rfl rfl (by decide) pnok (by kernel_rfl) (by kernel_rfl) (by kernel_rfl) rfl ?_
      refine d_off 21 rfl rfl rfl (by decide) pnok (by kernel_rfl) (by kernel_rfl) (by kernel_rfl) rfl ?_
      refine d_off 22 rfl rfl rfl (by decide) pnok (by kernel_rfl) (by kernel_rfl) (by kernel_rfl) rfl ?_
      refine d_off 23 rfl rfl rfl (by decide) pnok (by kernel_rfl) (by kernel_rfl) (by kernel_rfl) rfl ?_
      refine d_off 24 rfl rfl rfl (by decide) pnok (by kernel_rfl) (by kernel_rfl) (by kernel_rfl) rfl ?_
      refine d_off 25 rfl rfl rfl (by decide) pnok (by kernel_rfl) (by kernel_rfl) (by kernel_rfl) rfl ?_
      refine d_off 26 rfl rfl rfl (by decide) pnok (by kernel_rfl) (by kernel_rfl) (by kernel_rfl) rfl ?_
      refine d_val 27 rfl pnok (by kernel_rfl) (by kernel_rfl) (by kernel_rfl) rfl (v_pick_f rfl rfl) ?_
      refine d_val 28 rfl pnok (by kernel_rfl) (by kernel_rfl) (by kernel_rfl) rfl (v_move rfl) ?_
      refine d_off 29 rfl rfl rfl (by decide) pnok (by kernel_rfl) (by kernel_rfl) (by kernel_rfl) rfl ?_
      refine d_off 30 rfl rfl rfl (by decide) pnok (by kernel_rfl) (by kernel_rfl) (by kernel_rfl) rfl ?_
      refine d_off 31 rfl rfl rfl (by decide) pnok (by kernel_rfl) (by kernel_rfl) (by kernel_rfl) rfl ?_
      refine d_off 32 rfl rfl rfl (by decide) pnok (by kernel_rfl) (by kernel_rfl) (by kernel_rfl) rfl ?_
      refine d_off 33 rfl rfl rfl (by decide) pnok (by kernel_rfl) (by kernel_rfl) (by kernel_rfl) rfl ?_
      refine d_off 34 rfl rfl rfl (by decide) pnok (by kernel_rfl) (by kernel_rfl) (by kernel_rfl) rfl ?_
      refine d_val 35 rfl pnok (by kernel_rfl) (by kernel_rfl) (by kernel_rfl) rfl (v_pick_f rfl rfl) ?_
      refine d_val 36 rfl pnok (by kernel_rfl) (by kernel_rfl) (by kernel_rfl) rfl (v_move rfl) ?_
      refine d_off 37 rfl rfl rfl (by decide) pnok (by kernel_rfl) (by kernel_rfl) (by kernel_rfl) rfl ?_
      refine d_off 38 rfl rfl rfl (by decide) pnok (by kernel_rfl) (by kernel_rfl) (by kernel_rfl) rfl ?_
      refine d_off 39 rfl rfl rfl (by decide) pnok (by kernel_rfl) (by kernel_rfl) (by kernel_rfl) rfl ?_
      refine d_off 40 rfl rfl rfl (by decide) pnok (by kernel_rfl) (by kernel_rfl) (by kernel_rfl) rfl ?_
      refine d_off 41 rfl rfl rfl (by decide) pnok (by kernel_rfl) (by kernel_rfl) (by kernel_rfl) rfl ?_
      refine d_off 42 rfl rfl rfl (by decide) pnok (by kernel_rfl) (by kernel_rfl) (by kernel_rfl) rfl ?_
      refine d_off 43 rfl rfl rfl (by decide) pnok (by kernel_rfl) (by kernel_rfl) (by kernel_rfl) rfl ?_
      refine d_off 44 rfl rfl rfl (by decide) pnok (by kernel_rfl) (by kernel_rfl) (by kernel_rfl) rfl ?_
      refine d_off 45 rfl rfl rfl (by decide) pnok (by kernel_rfl) (by kernel_rfl) (by kernel_rfl) rfl ?_
      refine d_val 46 rfl pnok (by kernel_rfl) (by kernel_rfl) (by kernel_rfl) rfl (v_pick_f rfl rfl) ?_
      refine d_val 47 rfl pnok (by kernel_rfl) (by kernel_rfl) (by kernel_rfl) rfl (v_move rfl) ?_
      refine d_off 48 rfl rfl rfl (by decide) pnok (by kernel_rfl) (by kernel_rfl) (by kernel_rfl) rfl ?_
      refine d_off 49 rfl rfl rfl (by decide) pnok (by kernel_rfl) (by kernel_rfl) (by kernel_rfl) rfl ?_
      refine d_off 50 rfl rfl rfl (by decide) pnok (by kernel_rfl) (by kernel_rfl) (by kernel_rfl) rfl ?_
      refine d_off 51 rfl rfl rfl (by decide) pnok (by kernel_rfl) (by kernel_rfl) (by kernel_rfl) rfl ?_
      refine d_off 52 rfl rfl rfl (by decide) pnok (by kernel_rfl) (by kernel_rfl) (by kernel_rfl) rfl ?_
      refine d_off 53 rfl rfl rfl (by decide) pnok (by kernel_rfl) (by kernel_rfl) (by kernel_rfl) rfl ?_
      refine d_val 54 rfl pnok (by kernel_rfl) (by kernel_rfl) (by kernel_rfl) rfl (v_pick_f rfl rfl) ?_
      refine d_val 55 rfl pnok (by kernel_rfl) (by kernel_rfl) (by kernel_rfl) rfl (v_assign rfl) ?_
      refine d_done (by kernel_rfl) ?_
      refine s_st ?_ (hN1 false hF)
      exact st_le [] (le_cons rfl (le_cons rfl (le_cons rfl le_nil))) rfl sub_nil
  · intro t4 hF
    unfold F.law01.CharsetGoes_j1 at hF
    refine sat_wc ?_
    refine c_ret ?_
    cases hF
    refine s_ret1 rfl (r_tmp rfl) fun a w hs => ?_
    exact fin_sel hs [] ⟨rfl, rfl, rfl⟩ rfl sub_nil
theorem tri11 (k : Nat) (a_ : S4) (b : S4) (r : Bool) (hF : F.law01.CharsetApart k a_ b = some r) :
    Tri Try.prog 11 [.agg #[.int .u64 a_.w0, .int .u64 a_.w1, .int .u64 a_.w2, .int .u64 a_.w3], .agg #[.int .u64 b.w0, .int .u64 b.w1, .int .u64 b.w2, .int .u64 b.w3]] [] [] (fun o H Φ => o = .ret (.bool r) ∧ H = [] ∧ Φ = []) := by
  unfold F.law01.CharsetApart at hF
  refine tri_intro (n := 35) Try.func11 rfl Try.ntmps11 rfl fun w X => ?_
  refine c_seq ?_
  refine c_region ?_
  refine o_box rfl rfl rfl fun b1 => ?_
  refine o_box rfl rfl rfl fun b2 => ?_
  refine o_v (v_assign rfl) rfl ?_
  refine o_seq ?_
  refine c_seq ?_
  refine c_cut (fun E N' => ∀ (t4 : Bool), F.law01.CharsetApart_j1 t4 = some r → Sat E [(0, .agg #[.int .u64 a_.w0, .int .u64 a_.w1, .int .u64 a_.w2, .int .u64 a_.w3]), (1, .agg #[.int .u64 b.w0, .int .u64 b.w1, .int .u64 b.w2, .int .u64 b.w3]), (4, .bool t4)] [] [] N') (fun N1 hN1 => ?_) ?_
  · refine c_draw (n := 31) [0, 0] mixed rfl rfl ?_
    refine d_one 0 rfl (by kernel_rfl) ?_
    obtain ⟨v, h1, hF⟩ := bd hF
    refine o_callSB call12 rfl lent_nil (tri12 k v h1) rfl ?_
    refine d_next [0, 0] 0 rfl rfl ?_
    refine d_val 1 rfl pnok (by kernel_rfl) (by kernel_rfl) (by kernel_rfl) rfl (v_move rfl) ?_
    refine d_split (t := 6) rfl (fun h2 => ?_) (fun h2 => ?_)
    · replace hF := ite_t h2 hF
      refine d_val_on 2 rfl rfl rfl pnok (by kernel_rfl) (by kernel_rfl) (by kernel_rfl) rfl (v_load_box 1 ty26 rfl rfl rfl rfl rfl) ?_
      refine d_val_on 4 rfl rfl rfl pnok (by kernel_rfl) (by kernel_rfl) (by kernel_rfl) rfl (v_load_box 0 ty26 rfl rfl rfl rfl rfl) ?_
      refine d_val_on 7 rfl rfl rfl pnok (by kernel_rfl) (by kernel_rfl) (by kernel_rfl) rfl (v_load_box 1 ty26 rfl rfl rfl rfl rfl) ?_
      refine d_val_on 8 rfl rfl rfl pnok (by kernel_rfl) (by kernel_rfl) (by kernel_rfl) rfl (v_load_box 0 ty26 rfl rfl rfl rfl rfl) ?_
      refine d_val_on 9 rfl rfl rfl pnok (by kernel_rfl) (by kernel_rfl) (by kernel_rfl) rfl (v_ageq 2 rfl rfl (eq26 a_.w0 a_.w1 a_.w2 a_.w3 b.w0 b.w1 b.w2 b.w3) rfl guard26) ?_
      refine d_one 3 rfl (by kernel_rfl) ?_
      refine o_on rfl rfl ?_
      obtain ⟨v1, h3, hF⟩ := bd hF
      refine o_callSB call19 rfl lent_nil (tri19 k a_ v1 h3) rfl ?_
      refine d_next [0, 0] 0 rfl rfl ?_
      refine d_one 5 rfl (by kernel_rfl) ?_
      refine o_on rfl rfl ?_
      obtain ⟨v2, h4, hF⟩ := bd hF
      refine o_callSB call19 rfl lent_nil (tri19 k b v2 h4) rfl ?_
      refine d_next [0, 0] 0 rfl rfl ?_
      refine d_val_on 6 rfl rfl rfl pnok (by kernel_rfl) (by kernel_rfl) (by kernel_rfl) rfl (v_streq rfl rfl) ?_
      refine d_val_on 10 rfl rfl rfl pnok (by kernel_rfl) (by kernel_rfl) (by kernel_rfl) rfl (v_booleq rfl rfl Try.underlying4) ?_
      refine d_val 11 rfl pnok (by kernel_rfl) (by kernel_rfl) (by kernel_rfl) rfl (v_pick_t rfl rfl) ?_
      refine d_val 12 rfl pnok (by kernel_rfl) (by kernel_rfl) (by kernel_rfl) rfl (v_move rfl) ?_
      refine d_split (t := 17) rfl (fun h5 => ?_) (fun h5 => ?_)
      · replace hF := ite_t h5 hF
        refine d_val_on 13 rfl rfl rfl pnok (by kernel_rfl) (by kernel_rfl) (by kernel_rfl) rfl (v_load_box 1 ty26 rfl rfl rfl rfl rfl) ?_
        refine d_val_on 14 rfl rfl rfl pnok (by kernel_rfl) (by kernel_rfl) (by kernel_rfl) rfl (v_load_box 0 ty26 rfl rfl rfl rfl rfl) ?_
        refine d_val_on 16 rfl rfl rfl pnok (by kernel_rfl) (by kernel_rfl) (by kernel_rfl) rfl (v_load_box 1 ty26 rfl rfl rfl rfl rfl) ?_
        refine d_val_on 17 rfl rfl rfl pnok (by kernel_rfl) (by kernel_rfl) (by kernel_rfl) rfl (v_load_box 0 ty26 rfl rfl rfl rfl rfl) ?_
        refine d_val_on 19 rfl rfl rfl pnok (by kernel_rfl) (by kernel_rfl) (by kernel_rfl) rfl (v_load_box 0 ty26 rfl rfl rfl rfl rfl) ?_
        refine d_one 15 rfl (by kernel_rfl) ?_
        refine o_on rfl rfl ?_
        obtain ⟨v3, h6, hF⟩ := bd hF
        refine o_callSB call36 rfl lent_nil (tri36 k a_ b v3 h6) rfl ?_
        refine d_next [0, 0] 0 rfl rfl ?_
        refine d_one 18 rfl (by kernel_rfl) ?_
        refine o_on rfl rfl ?_
        obtain ⟨v4, h7, hF⟩ := bd hF
        refine o_callSB call31 rfl lent_nil (tri31 k a_ b v4 h7) rfl ?_
        refine d_next [0, 0] 0 rfl rfl ?_
        refine d_val_on 20 rfl rfl rfl pnok (by kernel_rfl) (by kernel_rfl) (by kernel_rfl) rfl (v_ageq 2 rfl rfl (eq26 v4.w0 v4.w1 v4.w2 v4.w3 b.w0 b.w1 b.w2 b.w3) rfl guard26) ?_
        refine d_val_on 21 rfl rfl rfl pnok (by kernel_rfl) (by kernel_rfl) (by kernel_rfl) rfl (v_booleq rfl rfl Try.underlying4) ?_
        refine d_val 22 rfl pnok (by kernel_rfl) (by kernel_rfl) (by kernel_rfl) rfl (v_pick_t rfl rfl) ?_
        refine d_val 23 rfl pnok (by kernel_rfl) (by kernel_rfl) (by kernel_rfl) rfl (v_move rfl) ?_
        refine d_split (t := 28) rfl (fun h8 => ?_) (fun h8 => ?_)
        · replace hF := ite_t h8 hF
          refine d_val_on 24 rfl rfl rfl pnok (by kernel_rfl) (by kernel_rfl) (by kernel_rfl) rfl (v_load_box 1 ty26 rfl rfl rfl rfl rfl) ?_
          refine d_val_on 25 rfl rfl rfl pnok (by kernel_rfl) (by kernel_rfl) (by kernel_rfl) rfl (v_load_box 0 ty26 rfl rfl rfl rfl rfl) ?_
          refine d_val_on 27 rfl rfl rfl pnok (by kernel_rfl) (by kernel_rfl) (by kernel_rfl) rfl (v_load_box 1 ty26 rfl rfl rfl rfl rfl) ?_
          refine d_one 26 rfl (by kernel_rfl) ?_
          refine o_on rfl rfl ?_
          obtain ⟨v5, h9, hF⟩ := bd hF
          refine o_callSB call32 rfl lent_nil (tri32 k a_ b v5 h9) rfl ?_
          refine d_next [0, 0] 0 rfl rfl ?_
          refine d_one 28 rfl (by kernel_rfl) ?_
          refine o_on rfl rfl ?_
          obtain ⟨v6, h10, hF⟩ := bd hF
          refine o_callSB call36 rfl lent_nil (tri36 k v5 a_ v6 h10) rfl ?_
          refine d_next [0, 0] 0 rfl rfl ?_
          refine d_val 29 rfl pnok (by kernel_rfl) (by kernel_rfl) (by kernel_rfl) rfl (v_pick_t rfl rfl) ?_
          refine d_val 30 rfl pnok (by kernel_rfl) (by kernel_rfl) (by kernel_rfl) rfl (v_assign rfl) ?_
          refine d_done (by kernel_rfl) ?_
          refine s_st ?_ (hN1 v6 hF)
          exact st_le [] (le_cons rfl (le_cons rfl (le_cons rfl le_nil))) rfl sub_nil
        · replace hF := ite_f h8 hF
          refine d_off 24 rfl rfl rfl (by decide) pnok (by kernel_rfl) (by kernel_rfl) (by kernel_rfl) rfl ?_
          refine d_off 25 rfl rfl rfl (by decide) pnok (by kernel_rfl) (by kernel_rfl) (by kernel_rfl) rfl ?_
          refine d_off 26 rfl rfl rfl (by decide) pnok (by kernel_rfl) (by kernel_rfl) (by kernel_rfl) rfl ?_
          refine d_off 27 rfl rfl rfl (by decide) pnok (by kernel_rfl) (by kernel_rfl) (by kernel_rfl) rfl ?_
          refine d_off 28 rfl rfl rfl (by decide) pnok (by kernel_rfl) (by kernel_rfl) (by kernel_rfl) rfl ?_
          refine d_val 29 rfl pnok (by kernel_rfl) (by kernel_rfl) (by kernel_rfl) rfl (v_pick_f rfl rfl) ?_
          refine d_val 30 rfl pnok (by kernel_rfl) (by kernel_rfl) (by kernel_rfl) rfl (v_assign rfl) ?_
          refine d_done (by kernel_rfl) ?_
          refine s_st ?_ (hN1 false hF)
          exact st_le [] (le_cons rfl (le_cons rfl (le_cons rfl le_nil))) rfl sub_nil
      · replace hF := ite_f h5 hF
        refine d_off 13 rfl rfl rfl (by decide) pnok (by kernel_rfl) (by kernel_rfl) (by kernel_rfl) rfl ?_
        refine d_off 14 rfl rfl rfl (by decide) pnok (by kernel_rfl) (by kernel_rfl) (by kernel_rfl) rfl ?_
        refine d_off 15 rfl rfl rfl (by decide) pnok (by kernel_rfl) (by kernel_rfl) (by kernel_rfl) rfl ?_
        refine d_off 16 rfl rfl rfl (by decide) pnok (by kernel_rfl) (by kernel_rfl) (by kernel_rfl) rfl ?_
        refine d_off 17 rfl rfl rfl (by decide) pnok (by kernel_rfl) (by kernel_rfl) (by kernel_rfl) rfl ?_
        refine d_off 18 rfl rfl rfl (by decide) pnok (by kernel_rfl) (by kernel_rfl) (by kernel_rfl) rfl ?_
        refine d_off 19 rfl rfl rfl (by decide) pnok (by kernel_rfl) (by kernel_rfl) (by kernel_rfl) rfl ?_
        refine d_off 20 rfl rfl rfl (by decide) pnok (by kernel_rfl) (by kernel_rfl) (by kernel_rfl) rfl ?_
        refine d_off 21 rfl rfl rfl (by decide) pnok (by kernel_rfl) (by kernel_rfl) (by kernel_rfl) rfl ?_
        refine d_val 22 rfl pnok (by kernel_rfl) (by kernel_rfl) (by kernel_rfl) rfl (v_pick_f rfl rfl) ?_
        refine d_val 23 rfl pnok (by kernel_rfl) (by kernel_rfl) (by kernel_rfl) rfl (v_move rfl) ?_
        refine d_off 24 rfl rfl rfl (by decide) pnok (by kernel_rfl) (by kernel_rfl) (by kernel_rfl) rfl ?_
        refine d_off 25 rfl rfl rfl (by decide) pnok (by kernel_rfl) (by kernel_rfl) (by kernel_rfl) rfl ?_
        refine d_off 26 rfl rfl rfl (by decide) pnok (by kernel_rfl) (by kernel_rfl) (by kernel_rfl) rfl ?_
        refine d_off 27 rfl rfl rfl (by decide) pnok (by kernel_rfl) (by kernel_rfl) (by kernel_rfl) rfl ?_
        refine d_off 28 rfl rfl rfl (by decide) pnok (by kernel_rfl) (by kernel_rfl) (by kernel_rfl) rfl ?_
        refine d_val 29 rfl pnok (by kernel_rfl) (by kernel_rfl) (by kernel_rfl) rfl (v_pick_f rfl rfl) ?_
        refine d_val 30 rfl pnok (by kernel_rfl) (by kernel_rfl) (by kernel_rfl) rfl (v_assign rfl) ?_
        refine d_done (by kernel_rfl) ?_
        refine s_st ?_ (hN1 false hF)
        exact st_le [] (le_cons rfl (le_cons rfl (le_cons rfl le_nil))) rfl sub_nil
    · replace hF := ite_f h2 hF
      refine d_off 2 rfl rfl rfl (by decide) pnok (by kernel_rfl) (by kernel_rfl) (by kernel_rfl) rfl ?_
      refine d_off 3 rfl rfl rfl (by decide) pnok (by kernel_rfl) (by kernel_rfl) (by kernel_rfl) rfl ?_
      refine d_off 4 rfl rfl rfl (by decide) pnok (by kernel_rfl) (by kernel_rfl) (by kernel_rfl) rfl ?_
      refine d_off 5 rfl rfl rfl (by decide) pnok (by kernel_rfl) (by kernel_rfl) (by kernel_rfl) rfl ?_
      refine d_off 6 rfl rfl rfl (by decide) pnok (by kernel_rfl) (by kernel_rfl) (by kernel_rfl) rfl ?_
      refine d_off 7 rfl rfl rfl (by decide) pnok (by kernel_rfl) (by kernel_rfl) (by kernel_rfl) rfl ?_
      refine d_off 8 rfl rfl rfl (by decide) pnok (by kernel_rfl) (by kernel_rfl) (by kernel_rfl) rfl ?_
      refine d_off 9 rfl rfl rfl (by decide) pnok (by kernel_rfl) (by kernel_rfl) (by kernel_rfl) rfl ?_
      refine d_off 10 rfl rfl rfl (by decide) pnok (by kernel_rfl) (by kernel_rfl) (by kernel_rfl) rfl ?_
      refine d_val 11 rfl pnok (by kernel_rfl) (by kernel_rfl) (by kernel_rfl) rfl (v_pick_f rfl rfl) ?_
      refine d_val 12 rfl pnok (by kernel_rfl) (by kernel_rfl) (by kernel_rfl) rfl (v_move rfl) ?_
      refine d_off 13 rfl rfl rfl (by decide) pnok (by kernel_rfl) (by kernel_rfl) (by kernel_rfl) rfl ?_
      refine d_off 14 rfl rfl rfl (by decide) pnok (by kernel_rfl) (by kernel_rfl) (by kernel_rfl) rfl ?_
      refine d_off 15 rfl rfl rfl (by decide) pnok (by kernel_rfl) (by kernel_rfl) (by kernel_rfl) rfl ?_
      refine d_off 16 rfl rfl rfl (by decide) pnok (by kernel_rfl) (by kernel_rfl) (by kernel_rfl) rfl ?_
      refine d_off 17 rfl rfl rfl (by decide) pnok (by kernel_rfl) (by kernel_rfl) (by kernel_rfl) rfl ?_
      refine d_off 18 rfl rfl rfl (by decide) pnok (by kernel_rfl) (by kernel_rfl) (by kernel_rfl) rfl ?_
      refine d_off 19 rfl rfl rfl (by decide) pnok (by kernel_rfl) (by kernel_rfl) (by kernel_rfl) rfl ?_
      refine d_off 20 rfl rfl rfl (by decide) pnok (by kernel_rfl) (by kernel_rfl) (by kernel_rfl) rfl ?_
      refine d_off 21 rfl rfl rfl (by decide) pnok (by kernel_rfl) (by kernel_rfl) (by kernel_rfl) rfl ?_
      refine d_val 22 rfl pnok (by kernel_rfl) (by kernel_rfl) (by kernel_rfl) rfl (v_pick_f rfl rfl) ?_
      refine d_val 23 rfl pnok (by kernel_rfl) (by kernel_rfl) (by kernel_rfl) rfl (v_move rfl) ?_
      refine d_off 24 rfl rfl rfl (by decide) pnok (by kernel_rfl) (by kernel_rfl) (by kernel_rfl) rfl ?_
      refine d_off 25 rfl rfl rfl (by decide) pnok (by kernel_rfl) (by kernel_rfl) (by kernel_rfl) rfl ?_
      refine d_off 26 rfl rfl rfl (by decide) pnok (by kernel_rfl) (by kernel_rfl) (by kernel_rfl) rfl ?_
      refine d_off 27 rfl rfl rfl (by decide) pnok (by kernel_rfl) (by kernel_rfl) (by kernel_rfl) rfl ?_
      refine d_off 28 rfl rfl rfl (by decide) pnok (by kernel_rfl) (by kernel_rfl) (by kernel_rfl) rfl ?_
      refine d_val 29 rfl pnok (by kernel_rfl) (by kernel_rfl) (by kernel_rfl) rfl (v_pick_f rfl rfl) ?_
      refine d_val 30 rfl pnok (by kernel_rfl) (by kernel_rfl) (by kernel_rfl) rfl (v_assign rfl) ?_
      refine d_done (by kernel_rfl) ?_
      refine s_st ?_ (hN1 false hF)
      exact st_le [] (le_cons rfl (le_cons rfl (le_cons rfl le_nil))) rfl sub_nil
  · intro t4 hF
    unfold F.law01.CharsetApart_j1 at hF
    refine sat_wc ?_
    refine c_ret ?_
    cases hF
    refine s_ret1 rfl (r_tmp rfl) fun a w hs => ?_
    exact fin_sel hs [] ⟨rfl, rfl, rfl⟩ rfl sub_nil
end Go.Vc
