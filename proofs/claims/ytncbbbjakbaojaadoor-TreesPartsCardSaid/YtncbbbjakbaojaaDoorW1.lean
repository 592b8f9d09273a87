import Derived.Test.YtncbbbjakbaojaaDoorW0
set_option linter.unusedVariables false
set_option linter.unusedSimpArgs false
set_option maxRecDepth 8000
set_option maxHeartbeats 2000000
namespace Go.Vc
open Go Go.Proofs
theorem tri40_B (k : Nat) (g40 : Gram → Int → Tree → Option Bool)
    (hg40 : ∀ (g_ : Gram) (nt : Int) (t : Tree) (sa1 : Option Addr) (sn1 sc1 : Nat) (sa2 : Option Addr) (sn2 sc2 : Nat) (r : Bool), g40 g_ nt t = some r → Tri Tryd.prog 40 [.agg #[.int .i64 g_.Nts, .int .i64 g_.Start, .slice sa1 sn1 sc1], .int .i64 nt, .agg #[.int .i64 t.Rule, .int .u8 t.Byte, .slice sa2 sn2 sc2]] [] [(.slice sa1 sn1 sc1, .slice 2 (g_.Rules.map eRule)), (.slice sa2 sn2 sc2, .slice 3 (t.Kids.map eTree))] (fun o H Φ => o = .ret (.bool r) ∧ H = [] ∧ Φ = [])) (g_ : Gram) (nt : Int) (t : Tree) (sa1 : Option Addr) (sn1 sc1 : Nat) (sa2 : Option Addr) (sn2 sc2 : Nat) (r : Bool) (hF : F.trees.fits_B k g40 g_ nt t = some r) :
    Tri Tryd.prog 40 [.agg #[.int .i64 g_.Nts, .int .i64 g_.Start, .slice sa1 sn1 sc1], .int .i64 nt, .agg #[.int .i64 t.Rule, .int .u8 t.Byte, .slice sa2 sn2 sc2]] [] [(.slice sa1 sn1 sc1, .slice 2 (g_.Rules.map eRule)), (.slice sa2 sn2 sc2, .slice 3 (t.Kids.map eTree))] (fun o H Φ => o = .ret (.bool r) ∧ H = [] ∧ Φ = []) := by
  unfold F.trees.fits_B at hF
  refine tri_intro (n := 86) Tryd.func40 rfl Tryd.ntmps40 rfl fun w X => ?_
  refine c_seq ?_
  refine c_region ?_
  refine o_box rfl rfl rfl fun b => ?_
  refine o_box rfl rfl rfl fun b1 => ?_
  refine o_v (v_assign rfl) rfl ?_
  refine o_seq ?_
  refine c_seq ?_
  refine c_seq ?_
  refine c_region ?_
  refine o_v (v_fieldAddr (v := .pointer (some ⟨b1, 0, none⟩)) rfl (fun _ => by kernel_rfl)) rfl ?_
  refine o_v (v_load_box 0 ty3 rfl rfl rfl rfl rfl) rfl ?_
  refine o_v (v_bin rfl rfl rfl) rfl ?_
  refine o_v (v_move rfl) rfl ?_
  refine o_split (t := 14) rfl (fun h1 => ?_) (fun h1 => ?_)
  · replace hF := ite_t h1 hF
    refine o_off rfl rfl (by decide) rfl ?_
    refine o_off rfl rfl (by decide) rfl ?_
    refine o_off rfl rfl (by decide) rfl ?_
    refine o_off rfl rfl (by decide) rfl ?_
    refine o_off rfl rfl (by decide) rfl ?_
    refine o_off rfl rfl (by decide) rfl ?_
    refine o_v (v_pick_t rfl rfl) rfl ?_
    refine o_v (v_move rfl) rfl ?_
    refine o_off rfl rfl (by decide) rfl ?_
    refine o_off rfl rfl (by decide) rfl ?_
    refine o_off rfl rfl (by decide) rfl ?_
    refine o_v (v_pick_t rfl rfl) rfl ?_
    refine o_seq ?_
    refine c_cond rfl (fun _ => ?_) (fun h => Bool.noConfusion h)
    refine c_seq ?_
    refine c_region ?_
    refine o_v (v_assign rfl) rfl ?_
    refine o_seq ?_
    refine c_ret ?_
    cases hF
    refine s_ret1 rfl (r_tmp rfl) fun a w hs => ?_
    exact fin_sel hs [] ⟨rfl, rfl, rfl⟩ rfl sub_nil
  · replace hF := ite_f h1 hF
    refine o_on rfl rfl ?_
    refine o_v (v_fieldAddr (v := .pointer (some ⟨b1, 0, none⟩)) rfl (fun _ => by kernel_rfl)) rfl ?_
    refine o_on rfl rfl ?_
    refine o_v (v_load_box 0 ty3 rfl rfl rfl rfl rfl) rfl ?_
    refine o_on rfl rfl ?_
    refine o_v (v_fieldAddr (v := .pointer (some ⟨b, 2, none⟩)) rfl (fun _ => by kernel_rfl)) rfl ?_
    refine o_on rfl rfl ?_
    refine o_v (v_load_box 1 ty22 rfl rfl rfl rfl rfl) rfl ?_
    refine o_on rfl rfl ?_
    refine o_v (v_lenS (enc := eRule) g_.Rules sl22 rfl (.f 0 rfl)) rfl ?_
    refine o_on rfl rfl ?_
    refine o_v (v_bin rfl rfl rfl) rfl ?_
    refine o_v (v_pick_f rfl rfl) rfl ?_
    refine o_v (v_move rfl) rfl ?_
    refine o_split (t := 22) rfl (fun h2 => ?_) (fun h2 => ?_)
    · replace hF := ite_t h2 hF
      refine o_off rfl rfl (by decide) rfl ?_
      refine o_off rfl rfl (by decide) rfl ?_
      refine o_off rfl rfl (by decide) rfl ?_
      refine o_v (v_pick_t rfl rfl) rfl ?_
      refine o_seq ?_
      refine c_cond rfl (fun _ => ?_) (fun h => Bool.noConfusion h)
      refine c_seq ?_
      refine c_region ?_
      refine o_v (v_assign rfl) rfl ?_
      refine o_seq ?_
      refine c_ret ?_
      cases hF
      refine s_ret1 rfl (r_tmp rfl) fun a w hs => ?_
      exact fin_sel hs [] ⟨rfl, rfl, rfl⟩ rfl sub_nil
    · replace hF := ite_f h2 hF
      refine o_on rfl rfl ?_
      refine o_v (v_fieldAddr (v := .pointer (some ⟨b1, 1, none⟩)) rfl (fun _ => by kernel_rfl)) rfl ?_
      refine o_on rfl rfl ?_
      refine o_v (v_load_box 0 ty5 rfl rfl rfl rfl rfl) rfl ?_
      refine o_on rfl rfl ?_
      refine o_v (v_bin rfl rfl rfl) rfl ?_
      refine o_v (v_pick_f rfl rfl) rfl ?_
      refine o_seq ?_
      refine c_cond rfl (fun h3 => ?_) (fun h3 => ?_)
      · replace hF := ite_t h3 hF
        refine c_seq ?_
        refine c_region ?_
        refine o_v (v_assign rfl) rfl ?_
        refine o_seq ?_
        refine c_ret ?_
        cases hF
        refine s_ret1 rfl (r_tmp rfl) fun a w hs => ?_
        exact fin_sel hs [] ⟨rfl, rfl, rfl⟩ rfl sub_nil
      · replace hF := ite_f h3 hF
        refine c_skip ?_
        refine sat_wc ?_
        refine c_seq ?_
        refine c_region ?_
        refine o_v (v_fieldAddr (v := .pointer (some ⟨b, 2, none⟩)) rfl (fun _ => by kernel_rfl)) rfl ?_
        refine o_v (v_load_box 1 ty22 rfl rfl rfl rfl rfl) rfl ?_
        refine o_v (v_fieldAddr (v := .pointer (some ⟨b1, 0, none⟩)) rfl (fun _ => by kernel_rfl)) rfl ?_
        refine o_v (v_load_box 0 ty3 rfl rfl rfl rfl rfl) rfl ?_
        refine ite_some hF fun h4 hF => ?_
        refine o_v (v_indexAddr_s (xs := g_.Rules) (enc := eRule) sl22 rfl rfl (.f 0 rfl) h4) rfl ?_
        refine o_load_s (xs := g_.Rules) (enc := eRule) ty52 rfl (.f 0 rfl) h4 rfl rfl rfl rfl rfl rfl fun sa3 sn3 sc3 => ?_
        refine o_alloc zero52 rfl rfl fun b2 => ?_
        refine o_store_box 0 rfl ty52 rfl rfl rfl rfl rfl rfl rfl ?_
        refine o_seq ?_
        refine c_seq ?_
        refine c_seq ?_
        refine c_region ?_
        refine o_v (v_fieldAddr (v := .pointer (some ⟨b2, 0, none⟩)) rfl (fun _ => by kernel_rfl)) rfl ?_
        refine o_v (v_load_box 0 ty3 rfl rfl rfl rfl rfl) rfl ?_
        refine o_v (v_move rfl) rfl ?_
        refine o_v (v_bin rfl rfl rfl) rfl ?_
        refine o_v (v_move rfl) rfl ?_
        refine o_split (t := 37) rfl (fun h5 => ?_) (fun h5 => ?_)
        · replace hF := ite_t h5 hF
          refine o_off rfl rfl (by decide) rfl ?_
          refine o_off rfl rfl (by decide) rfl ?_
          refine o_off rfl rfl (by decide) rfl ?_
          refine o_off rfl rfl (by decide) rfl ?_
          refine o_off rfl rfl (by decide) rfl ?_
          refine o_off rfl rfl (by decide) rfl ?_
          refine o_off rfl rfl (by decide) rfl ?_
          refine o_v (v_pick_t rfl rfl) rfl ?_
          refine o_seq ?_
          refine c_cond rfl (fun _ => ?_) (fun h => Bool.noConfusion h)
          refine c_seq ?_
          refine c_region ?_
          refine o_v (v_assign rfl) rfl ?_
          refine o_seq ?_
          refine c_ret ?_
          cases hF
          refine s_ret1 rfl (r_tmp rfl) fun a w hs => ?_
          exact fin_sel hs [] ⟨rfl, rfl, rfl⟩ rfl sub_nil
        · replace hF := ite_f h5 hF
          refine o_on rfl rfl ?_
          refine o_v (v_fieldAddr (v := .pointer (some ⟨b2, 1, none⟩)) rfl (fun _ => by kernel_rfl)) rfl ?_
          refine o_on rfl rfl ?_
          refine o_v (v_load_box 0 ty50 rfl rfl rfl rfl rfl) rfl ?_
          refine o_on rfl rfl ?_
          refine o_v (v_lenS (enc := eKSym) ((at_ g_.Rules t.Rule).Rhs) sl50 rfl (.f 0 rfl)) rfl ?_
          refine o_on rfl rfl ?_
          refine o_v (v_fieldAddr (v := .pointer (some ⟨b1, 2, none⟩)) rfl (fun _ => by kernel_rfl)) rfl ?_
          refine o_on rfl rfl ?_
          refine o_v (v_load_box 1 ty25 rfl rfl rfl rfl rfl) rfl ?_
          refine o_on rfl rfl ?_
          refine o_v (v_lenS (enc := eTree) t.Kids sl25 rfl (.f 2 rfl)) rfl ?_
          refine o_on rfl rfl ?_
          refine o_v (v_bin rfl rfl rfl) rfl ?_
          refine o_v (v_pick_f rfl rfl) rfl ?_
          refine o_seq ?_
          refine c_cond rfl (fun h6 => ?_) (fun h6 => ?_)
          · replace hF := ite_t h6 hF
            refine c_seq ?_
            refine c_region ?_
            refine o_v (v_assign rfl) rfl ?_
            refine o_seq ?_
            refine c_ret ?_
            cases hF
            refine s_ret1 rfl (r_tmp rfl) fun a w hs => ?_
            exact fin_sel hs [] ⟨rfl, rfl, rfl⟩ rfl sub_nil
          · replace hF := ite_f h6 hF
            refine c_skip ?_
            refine sat_wc ?_
            refine c_seq ?_
            refine c_seq ?_
            refine c_region ?_
            refine o_v (v_fieldAddr (v := .pointer (some ⟨b2, 1, none⟩)) rfl (fun _ => by kernel_rfl)) rfl ?_
            refine o_v (v_load_box 0 ty50 rfl rfl rfl rfl rfl) rfl ?_
            refine o_v (v_lenS (enc := eKSym) ((at_ g_.Rules t.Rule).Rhs) sl50 rfl (.f 0 rfl)) rfl ?_
            refine o_v (v_move rfl) rfl ?_
            refine o_seq ?_
            obtain ⟨o1, ho1, hF⟩ := bd hF
            refine c_cut (fun E N' => ∀ (d1 : Unit), o1 = .done d1 → Sat E [(0, .agg #[.int .i64 g_.Nts, .int .i64 g_.Start, .slice sa1 sn1 sc1]), (1, .int .i64 nt), (2, .agg #[.int .i64 t.Rule, .int .u8 t.Byte, .slice sa2 sn2 sc2]), (3, .pointer (some ⟨b, 0, none⟩)), (5, .pointer (some ⟨b1, 0, none⟩)), (6, .bool false), (7, .pointer (some ⟨b2, 0, none⟩)), (47, .slice sa3 sn3 sc3)] [.box b2 52 [.int .i64 ((at_ g_.Rules t.Rule).Lhs), .slice sa3 sn3 sc3], .box b1 27 [.int .i64 t.Rule, .int .u8 t.Byte, .slice sa2 sn2 sc2], .box b 24 [.int .i64 g_.Nts, .int .i64 g_.Start, .slice sa1 sn1 sc1]] [(.slice sa1 sn1 sc1, .slice 2 (g_.Rules.map eRule)), (.slice sa2 sn2 sc2, .slice 3 (t.Kids.map eTree)), (.slice sa3 sn3 sc3, .slice 5 (((at_ g_.Rules t.Rule).Rhs).map eKSym))] N') (fun N1 hN1 => ?_) ?_
            · refine c_block ?_
              refine c_loopE (fun E j a w => ∃ (t49 : Int), F.trees.fits_l1 g_ t g40 j t49 = some o1 ∧ St E [(0, .agg #[.int .i64 g_.Nts, .int .i64 g_.Start, .slice sa1 sn1 sc1]), (1, .int .i64 nt), (2, .agg #[.int .i64 t.Rule, .int .u8 t.Byte, .slice sa2 sn2 sc2]), (3, .pointer (some ⟨b, 0, none⟩)), (5, .pointer (some ⟨b1, 0, none⟩)), (6, .bool false), (7, .pointer (some ⟨b2, 0, none⟩)), (47, .slice sa3 sn3 sc3), (48, .int .i64 (((at_ g_.Rules t.Rule).Rhs).length : Int)), (49, .int .i64 t49)] [.box b2 52 [.int .i64 ((at_ g_.Rules t.Rule).Lhs), .slice sa3 sn3 sc3], .box b1 27 [.int .i64 t.Rule, .int .u8 t.Byte, .slice sa2 sn2 sc2], .box b 24 [.int .i64 g_.Nts, .int .i64 g_.Start, .slice sa1 sn1 sc1]] [(.slice sa1 sn1 sc1, .slice 2 (g_.Rules.map eRule)), (.slice sa2 sn2 sc2, .slice 3 (t.Kids.map eTree)), (.slice sa3 sn3 sc3, .slice 5 (((at_ g_.Rules t.Rule).Rhs).map eKSym))] a w) k ?_ ?_
              · intro a w hs
                exact ⟨0, ho1, st_le [0, 0, 0] (le_cons rfl (le_cons rfl (le_cons rfl (le_cons rfl (le_cons rfl (le_cons rfl (le_cons rfl (le_cons rfl (le_cons rfl (le_cons rfl le_nil)))))))))) rfl (sub_cons 1 rfl (sub_cons 2 rfl (sub_cons 0 rfl sub_nil))) a w hs⟩
              · rintro j a w ⟨t49, hL1, hs⟩
                cases j with
                | zero => cases hL1
                | succ j =>
                  refine wc_app hs ?_
                  unfold F.trees.fits_l1 at hL1
                  refine c_seq ?_
                  refine c_region ?_
                  refine o_v (v_bin rfl rfl rfl) rfl ?_
                  refine o_seq ?_
                  refine c_seq ?_
                  refine c_cond rfl (fun h7 => ?_) (fun h7 => ?_)
                  · replace hL1 := ite_t h7 hL1
                    refine c_skip ?_
                    refine sat_wc ?_
                    refine c_seq ?_
                    refine c_cut (fun E N' => ∀ (sa4 : Option Addr) (sn4 sc4 : Nat) (b3 : Nat) (b4 : Nat), F.trees.fits_j2 (F.trees.fits_l1 g_ t g40 j) t49 = some o1 → Sat E [(0, .agg #[.int .i64 g_.Nts, .int .i64 g_.Start, .slice sa1 sn1 sc1]), (1, .int .i64 nt), (2, .agg #[.int .i64 t.Rule, .int .u8 t.Byte, .slice sa2 sn2 sc2]), (3, .pointer (some ⟨b, 0, none⟩)), (5, .pointer (some ⟨b1, 0, none⟩)), (6, .bool false), (7, .pointer (some ⟨b2, 0, none⟩)), (8, .int .i64 t49), (9, .pointer (some ⟨b3, 0, none⟩)), (10, .pointer (some ⟨b4, 0, none⟩)), (47, .slice sa3 sn3 sc3), (48, .int .i64 (((at_ g_.Rules t.Rule).Rhs).length : Int)), (49, .int .i64 t49)] [.box b2 52 [.int .i64 ((at_ g_.Rules t.Rule).Lhs), .slice sa3 sn3 sc3], .box b1 27 [.int .i64 t.Rule, .int .u8 t.Byte, .slice sa2 sn2 sc2], .box b 24 [.int .i64 g_.Nts, .int .i64 g_.Start, .slice sa1 sn1 sc1], .box b3 90 [.int .i64 ((at_ ((at_ g_.Rules t.Rule).Rhs) t49).Nt), .int .u64 ((at_ ((at_ g_.Rules t.Rule).Rhs) t49).Set.w0), .int .u64 ((at_ ((at_ g_.Rules t.Rule).Rhs) t49).Set.w1), .int .u64 ((at_ ((at_ g_.Rules t.Rule).Rhs) t49).Set.w2), .int .u64 ((at_ ((at_ g_.Rules t.Rule).Rhs) t49).Set.w3)], .box b4 27 [.int .i64 ((at_ t.Kids t49).Rule), .int .u8 ((at_ t.Kids t49).Byte), .slice sa4 sn4 sc4]] [(.slice sa1 sn1 sc1, .slice 2 (g_.Rules.map eRule)), (.slice sa2 sn2 sc2, .slice 3 (t.Kids.map eTree)), (.slice sa3 sn3 sc3, .slice 5 (((at_ g_.Rules t.Rule).Rhs).map eKSym)), (.slice sa4 sn4 sc4, .slice 3 (((at_ t.Kids t49).Kids).map eTree))] N') (fun N2 hN2 => ?_) ?_
                    · refine c_block ?_
                      refine c_seq ?_
                      refine c_region ?_
                      refine o_v (v_move rfl) rfl ?_
                      refine ite_some hL1 fun h8 hL1 => ?_
                      refine o_v (v_indexAddr_s (xs := (at_ g_.Rules t.Rule).Rhs) (enc := eKSym) sl50 rfl rfl (.f 2 rfl) h8) rfl ?_
                      refine o_v (v_load_s (xs := (at_ g_.Rules t.Rule).Rhs) (enc := eKSym) ty90 rfl (.f 2 rfl) h8 rfl rfl rfl rfl rfl rfl rfl) rfl ?_
                      refine o_alloc zero90 rfl rfl fun b5 => ?_
                      refine o_v (v_assign rfl) rfl ?_
                      refine o_store_box 0 rfl ty90 rfl rfl rfl rfl rfl rfl rfl ?_
                      refine o_seq ?_
                      refine c_seq ?_
                      refine c_region ?_
                      refine o_v (v_fieldAddr (v := .pointer (some ⟨b1, 2, none⟩)) rfl (fun _ => by kernel_rfl)) rfl ?_
                      refine o_v (v_load_box 2 ty25 rfl rfl rfl rfl rfl) rfl ?_
                      refine o_v (v_move rfl) rfl ?_
                      refine ite_some hL1 fun h9 hL1 => ?_
                      refine o_v (v_indexAddr_s (xs := t.Kids) (enc := eTree) sl25 rfl rfl (.f 1 rfl) h9) rfl ?_
                      refine o_load_s (ds := [.int .i64 ((at_ t.Kids t49).Rule), .int .u8 ((at_ t.Kids t49).Byte), .slice 3 (((at_ t.Kids t49).Kids).map eTree)]) (xs := t.Kids) (enc := eTree) ty27 rfl (.f 1 rfl) h9 (by simp only [eTree_eq] <;> rfl) rfl rfl rfl rfl rfl fun sa5 sn5 sc5 => ?_
                      refine o_alloc zero27 rfl rfl fun b6 => ?_
                      refine o_store_box 0 rfl ty27 rfl rfl rfl rfl rfl rfl rfl ?_
                      refine o_seq ?_
                      refine c_seq ?_
                      refine c_region ?_
                      refine o_v (v_fieldAddr (v := .pointer (some ⟨b5, 0, none⟩)) rfl (fun _ => by kernel_rfl)) rfl ?_
                      refine o_v (v_load_box 1 ty3 rfl rfl rfl rfl rfl) rfl ?_
                      refine o_v (v_bin rfl rfl rfl) rfl ?_
                      refine o_seq ?_
                      refine c_cut (fun E N' => F.trees.fits_j3 (F.trees.fits_l1 g_ t g40 j) t49 = some o1 → Sat E [(0, .agg #[.int .i64 g_.Nts, .int .i64 g_.Start, .slice sa1 sn1 sc1]), (1, .int .i64 nt), (2, .agg #[.int .i64 t.Rule, .int .u8 t.Byte, .slice sa2 sn2 sc2]), (3, .pointer (some ⟨b, 0, none⟩)), (5, .pointer (some ⟨b1, 0, none⟩)), (6, .bool false), (7, .pointer (some ⟨b2, 0, none⟩)), (8, .int .i64 t49), (9, .pointer (some ⟨b5, 0, none⟩)), (10, .pointer (some ⟨b6, 0, none⟩)), (47, .slice sa3 sn3 sc3), (48, .int .i64 (((at_ g_.Rules t.Rule).Rhs).length : Int)), (49, .int .i64 t49)] [.box b6 27 [.int .i64 ((at_ t.Kids t49).Rule), .int .u8 ((at_ t.Kids t49).Byte), .slice sa5 sn5 sc5], .box b5 90 [.int .i64 ((at_ ((at_ g_.Rules t.Rule).Rhs) t49).Nt), .int .u64 ((at_ ((at_ g_.Rules t.Rule).Rhs) t49).Set.w0), .int .u64 ((at_ ((at_ g_.Rules t.Rule).Rhs) t49).Set.w1), .int .u64 ((at_ ((at_ g_.Rules t.Rule).Rhs) t49).Set.w2), .int .u64 ((at_ ((at_ g_.Rules t.Rule).Rhs) t49).Set.w3)], .box b2 52 [.int .i64 ((at_ g_.Rules t.Rule).Lhs), .slice sa3 sn3 sc3], .box b1 27 [.int .i64 t.Rule, .int .u8 t.Byte, .slice sa2 sn2 sc2], .box b 24 [.int .i64 g_.Nts, .int .i64 g_.Start, .slice sa1 sn1 sc1]] [(.slice sa1 sn1 sc1, .slice 2 (g_.Rules.map eRule)), (.slice sa2 sn2 sc2, .slice 3 (t.Kids.map eTree)), (.slice sa3 sn3 sc3, .slice 5 (((at_ g_.Rules t.Rule).Rhs).map eKSym)), (.slice sa5 sn5 sc5, .slice 3 (((at_ t.Kids t49).Kids).map eTree))] N') (fun N3 hN3 => ?_) ?_
                      · refine c_cond rfl (fun h10 => ?_) (fun h10 => ?_)
                        · replace hL1 := ite_t h10 hL1
                          refine c_seq ?_
                          refine c_region ?_
                          refine o_v (v_load_box 4 ty24 rfl rfl rfl rfl rfl) rfl ?_
                          refine o_v (v_fieldAddr (v := .pointer (some ⟨b5, 0, none⟩)) rfl (fun _ => by kernel_rfl)) rfl ?_
                          refine o_v (v_load_box 1 ty3 rfl rfl rfl rfl rfl) rfl ?_
                          refine o_v (v_load_box 0 ty27 rfl rfl rfl rfl rfl) rfl ?_
                          obtain ⟨v, h11, hL1⟩ := bd hL1
                          refine o_callSB call40 rfl (lent_f 1 rfl (lent_f 0 rfl lent_nil)) (hg40 g_ ((at_ ((at_ g_.Rules t.Rule).Rhs) t49).Nt) (at_ t.Kids t49) sa1 sn1 sc1 sa5 sn5 sc5 v h11) rfl ?_
                          refine o_v (v_not rfl) rfl ?_
                          refine o_seq ?_
                          refine c_cond rfl (fun h12 => ?_) (fun h12 => ?_)
                          · replace hL1 := ite_t h12 hL1
                            refine c_seq ?_
                            refine c_region ?_
                            refine o_v (v_assign rfl) rfl ?_
                            refine o_seq ?_
                            refine c_ret ?_
                            cases hL1
                            obtain rfl := lrf_ret hF
                            refine s_ret1 rfl (r_tmp rfl) fun a w hs => ?_
                            exact fin_sel hs [] ⟨rfl, rfl, rfl⟩ rfl sub_nil
                          · replace hL1 := ite_f h12 hL1
                            refine c_skip ?_
                            refine s_st ?_ (hN3 hL1)
                            exact st_le [0, 0, 0, 0, 0] (le_cons rfl (le_cons rfl (le_cons rfl (le_cons rfl (le_cons rfl (le_cons rfl (le_cons rfl (le_cons rfl (le_cons rfl (le_cons rfl (le_cons rfl (le_cons rfl (le_cons rfl le_nil))))))))))))) rfl (sub_cons 1 rfl (sub_cons 2 rfl (sub_cons 3 rfl (sub_cons 0 rfl sub_nil))))
                        · replace hL1 := ite_f h10 hL1
                          refine c_seq ?_
                          refine c_region ?_
                          refine o_v (v_fieldAddr (v := .pointer (some ⟨b6, 0, none⟩)) rfl (fun _ => by kernel_rfl)) rfl ?_
                          refine o_v (v_load_box 0 ty3 rfl rfl rfl rfl rfl) rfl ?_
                          refine o_v (v_bin rfl rfl rfl) rfl ?_
                          refine o_v (v_move rfl) rfl ?_
                          refine o_split (t := 71) rfl (fun h13 => ?_) (fun h13 => ?_)
                          · replace hL1 := ite_t h13 hL1
                            refine o_off rfl rfl (by decide) rfl ?_
                            refine o_off rfl rfl (by decide) rfl ?_
                            refine o_off rfl rfl (by decide) rfl ?_
                            refine o_off rfl rfl (by decide) rfl ?_
                            refine o_v (v_pick_t rfl rfl) rfl ?_
                            refine o_v (v_move rfl) rfl ?_
                            refine o_off rfl rfl (by decide) rfl ?_
                            refine o_off rfl rfl (by decide) rfl ?_
                            refine o_off rfl rfl (by decide) rfl ?_
                            refine o_off rfl rfl (by decide) rfl ?_
                            refine o_off rfl rfl (by decide) rfl ?_
                            refine o_off rfl rfl (by decide) rfl ?_
                            refine o_v (v_pick_t rfl rfl) rfl ?_
                            refine o_seq ?_
                            refine c_cond rfl (fun _ => ?_) (fun h => Bool.noConfusion h)
                            refine c_seq ?_
                            refine c_region ?_
                            refine o_v (v_assign rfl) rfl ?_
                            refine o_seq ?_
                            refine c_ret ?_
                            cases hL1
                            obtain rfl := lrf_ret hF
                            refine s_ret1 rfl (r_tmp rfl) fun a w hs => ?_
                            exact fin_sel hs [] ⟨rfl, rfl, rfl⟩ rfl sub_nil
                          · replace hL1 := ite_f h13 hL1
                            refine o_on rfl rfl ?_
                            refine o_v (v_fieldAddr (v := .pointer (some ⟨b6, 2, none⟩)) rfl (fun _ => by kernel_rfl)) rfl ?_
                            refine o_on rfl rfl ?_
                            refine o_v (v_load_box 0 ty25 rfl rfl rfl rfl rfl) rfl ?_
                            refine o_on rfl rfl ?_
                            refine o_v (v_lenS (enc := eTree) ((at_ t.Kids t49).Kids) sl25 rfl (.f 0 rfl)) rfl ?_
                            refine o_on rfl rfl ?_
                            refine o_v (v_bin rfl rfl rfl) rfl ?_
                            refine o_v (v_pick_f rfl rfl) rfl ?_
                            refine o_v (v_move rfl) rfl ?_
                            refine o_split (t := 77) rfl (fun h14 => ?_) (fun h14 => ?_)
                            · replace hL1 := ite_t h14 hL1
                              refine o_off rfl rfl (by decide) rfl ?_
                              refine o_off rfl rfl (by decide) rfl ?_
                              refine o_off rfl rfl (by decide) rfl ?_
                              refine o_off rfl rfl (by decide) rfl ?_
                              refine o_off rfl rfl (by decide) rfl ?_
                              refine o_off rfl rfl (by decide) rfl ?_
                              refine o_v (v_pick_t rfl rfl) rfl ?_
                              refine o_seq ?_
                              refine c_cond rfl (fun _ => ?_) (fun h => Bool.noConfusion h)
                              refine c_seq ?_
                              refine c_region ?_
                              refine o_v (v_assign rfl) rfl ?_
                              refine o_seq ?_
                              refine c_ret ?_
                              cases hL1
                              obtain rfl := lrf_ret hF
                              refine s_ret1 rfl (r_tmp rfl) fun a w hs => ?_
                              exact fin_sel hs [] ⟨rfl, rfl, rfl⟩ rfl sub_nil
                            · replace hL1 := ite_f h14 hL1
                              refine o_on rfl rfl ?_
                              refine o_v (v_fieldAddr (v := .pointer (some ⟨b5, 1, none⟩)) rfl (fun _ => by kernel_rfl)) rfl ?_
                              refine o_on rfl rfl ?_
                              refine o_v (v_load_box 1 ty88 rfl rfl rfl rfl rfl) rfl ?_
                              refine o_on rfl rfl ?_
                              refine o_v (v_fieldAddr (v := .pointer (some ⟨b6, 1, none⟩)) rfl (fun _ => by kernel_rfl)) rfl ?_
                              refine o_on rfl rfl ?_
                              refine o_v (v_load_box 0 ty5 rfl rfl rfl rfl rfl) rfl ?_
                              refine o_on rfl rfl ?_
                              obtain ⟨v1, h15, hL1⟩ := bd hL1
                              refine o_callSB call58 rfl lent_nil (tri58 (S4.mk ((at_ ((at_ g_.Rules t.Rule).Rhs) t49).Set.w0) ((at_ ((at_ g_.Rules t.Rule).Rhs) t49).Set.w1) ((at_ ((at_ g_.Rules t.Rule).Rhs) t49).Set.w2) ((at_ ((at_ g_.Rules t.Rule).Rhs) t49).Set.w3)) ((at_ t.Kids t49).Byte) v1 h15) rfl ?_
                              refine o_on rfl rfl ?_
                              refine o_v (v_not rfl) rfl ?_
                              refine o_v (v_pick_f rfl rfl) rfl ?_
                              refine o_seq ?_
                              refine c_cond rfl (fun h16 => ?_) (fun h16 => ?_)
                              · replace hL1 := ite_t h16 hL1
                                refine c_seq ?_
                                refine c_region ?_
                                refine o_v (v_assign rfl) rfl ?_
                                refine o_seq ?_
                                refine c_ret ?_
                                cases hL1
                                obtain rfl := lrf_ret hF
                                refine s_ret1 rfl (r_tmp rfl) fun a w hs => ?_
                                exact fin_sel hs [] ⟨rfl, rfl, rfl⟩ rfl sub_nil
                              · replace hL1 := ite_f h16 hL1
                                refine c_skip ?_
                                refine s_st ?_ (hN3 hL1)
                                exact st_le [0, 0, 0, 0, 0] (le_cons rfl (le_cons rfl (le_cons rfl (le_cons rfl (le_cons rfl (le_cons rfl (le_cons rfl (le_cons rfl (le_cons rfl (le_cons rfl (le_cons rfl (le_cons rfl (le_cons rfl le_nil))))))))))))) rfl (sub_cons 1 rfl (sub_cons 2 rfl (sub_cons 3 rfl (sub_cons 0 rfl sub_nil))))
                      · intro hL1
                        unfold F.trees.fits_j3 at hL1
                        refine s_st ?_ (hN2 sa5 sn5 sc5 b5 b6 hL1)
                        exact st_le [2, 2, 2, 1, 0] (le_cons rfl (le_cons rfl (le_cons rfl (le_cons rfl (le_cons rfl (le_cons rfl (le_cons rfl (le_cons rfl (le_cons rfl (le_cons rfl (le_cons rfl (le_cons rfl (le_cons rfl le_nil))))))))))))) rfl (sub_cons 0 rfl (sub_cons 1 rfl (sub_cons 2 rfl (sub_cons 3 rfl sub_nil))))
                    · intro sa4 sn4 sc4 b3 b4 hL1
                      unfold F.trees.fits_j2 at hL1
                      refine sat_wc ?_
                      refine c_region ?_
                      refine o_v (v_bin rfl rfl rfl) rfl ?_
                      refine o_v (v_move rfl) rfl ?_
                      refine o_nil ?_
                      intro a w hs
                      exact ⟨j, Nat.lt_succ_self j, IntKind.wrap .i64 (t49 + 1), hL1, st_le [0, 0, 0] (le_cons rfl (le_cons rfl (le_cons rfl (le_cons rfl (le_cons rfl (le_cons rfl (le_cons rfl (le_cons rfl (le_cons rfl (le_cons rfl le_nil)))))))))) rfl (sub_cons 0 rfl (sub_cons 1 rfl (sub_cons 2 rfl sub_nil))) a w hs⟩
                  · replace hL1 := ite_f h7 hL1
                    refine c_exit0 ?_
                    cases hL1
                    refine s_st ?_ (hN1 () rfl)
                    exact st_le [0, 0, 0] (le_cons rfl (le_cons rfl (le_cons rfl (le_cons rfl (le_cons rfl (le_cons rfl (le_cons rfl (le_cons rfl le_nil)))))))) rfl (sub_cons 0 rfl (sub_cons 1 rfl (sub_cons 2 rfl sub_nil)))
            · intro d1 hd
              subst hd
              replace hF := lrf_done hF
              refine sat_wc ?_
              refine c_seq ?_
              refine c_region ?_
              refine o_v (v_assign rfl) rfl ?_
              refine o_seq ?_
              refine c_ret ?_
              cases hF
              refine s_ret1 rfl (r_tmp rfl) fun a w hs => ?_
              exact fin_sel hs [] ⟨rfl, rfl, rfl⟩ rfl sub_nil
theorem tri40 (k : Nat) : (∀ (g_ : Gram) (nt : Int) (t : Tree) (sa1 : Option Addr) (sn1 sc1 : Nat) (sa2 : Option Addr) (sn2 sc2 : Nat) (r : Bool), F.trees.fits k g_ nt t = some r → Tri Tryd.prog 40 [.agg #[.int .i64 g_.Nts, .int .i64 g_.Start, .slice sa1 sn1 sc1], .int .i64 nt, .agg #[.int .i64 t.Rule, .int .u8 t.Byte, .slice sa2 sn2 sc2]] [] [(.slice sa1 sn1 sc1, .slice 2 (g_.Rules.map eRule)), (.slice sa2 sn2 sc2, .slice 3 (t.Kids.map eTree))] (fun o H Φ => o = .ret (.bool r) ∧ H = [] ∧ Φ = [])) := by
  induction k with
  | zero => exact fun _ _ _ _ _ _ _ _ _ _ h => nomatch (show none = some _ from h)
  | succ k ih => exact tri40_B k _ ih
theorem tri17 (k : Nat) (g_ : Gram) (nt : Int) (t : Tree) (sa1 : Option Addr) (sn1 sc1 : Nat) (sa2 : Option Addr) (sn2 sc2 : Nat) (r : Int) (hF : F.trees.Right k g_ nt t = some r) :
    Tri Tryd.prog 17 [.agg #[.int .i64 g_.Nts, .int .i64 g_.Start, .slice sa1 sn1 sc1], .int .i64 nt, .agg #[.int .i64 t.Rule, .int .u8 t.Byte, .slice sa2 sn2 sc2]] [] [(.slice sa1 sn1 sc1, .slice 2 (g_.Rules.map eRule)), (.slice sa2 sn2 sc2, .slice 3 (t.Kids.map eTree))] (fun o H Φ => o = .ret (.int .i64 r) ∧ H = [] ∧ Φ = []) := by
  unfold F.trees.Right at hF
  refine tri_intro (n := 26) Tryd.func17 rfl Tryd.ntmps17 rfl fun w X => ?_
  refine c_seq ?_
  refine c_region ?_
  refine o_box rfl rfl rfl fun b => ?_
  refine o_box rfl rfl rfl fun b1 => ?_
  refine o_v (v_assign rfl) rfl ?_
  refine o_seq ?_
  refine c_seq ?_
  refine c_seq ?_
  refine c_region ?_
  refine o_v (v_load_box 1 ty24 rfl rfl rfl rfl rfl) rfl ?_
  obtain ⟨v, h1, hF⟩ := bd hF
  refine o_callSB call39 rfl (lent_f 0 rfl lent_nil) (tri39 k g_ sa1 sn1 sc1 v h1) rfl ?_
  refine o_v (v_assign rfl) rfl ?_
  refine o_seq ?_
  refine c_seq ?_
  refine c_region ?_
  refine o_v (v_move rfl) rfl ?_
  refine o_v (v_bin rfl rfl rfl) rfl ?_
  refine o_seq ?_
  refine c_cond rfl (fun h2 => ?_) (fun h2 => ?_)
  · replace hF := ite_t h2 hF
    refine c_seq ?_
    refine c_region ?_
    refine o_v (v_move rfl) rfl ?_
    refine o_v (v_assign rfl) rfl ?_
    refine o_seq ?_
    refine c_ret ?_
    cases hF
    refine s_ret1 rfl (r_tmp rfl) fun a w hs => ?_
    exact fin_sel hs [] ⟨rfl, rfl, rfl⟩ rfl sub_nil
  · replace hF := ite_f h2 hF
    refine c_skip ?_
    refine sat_wc ?_
    refine c_seq ?_
    refine c_seq ?_
    refine c_region ?_
    refine o_v (v_move rfl) rfl ?_
    refine o_v (v_bin rfl rfl rfl) rfl ?_
    refine o_v (v_move rfl) rfl ?_
    refine o_split (t := 15) rfl (fun h3 => ?_) (fun h3 => ?_)
    · replace hF := ite_t h3 hF
      refine o_off rfl rfl (by decide) rfl ?_
      refine o_off rfl rfl (by decide) rfl ?_
      refine o_off rfl rfl (by decide) rfl ?_
      refine o_off rfl rfl (by decide) rfl ?_
      refine o_v (v_pick_t rfl rfl) rfl ?_
      refine o_seq ?_
      refine c_cond rfl (fun _ => ?_) (fun h => Bool.noConfusion h)
      refine c_seq ?_
      refine c_region ?_
      refine o_v (v_assign rfl) rfl ?_
      refine o_seq ?_
      refine c_ret ?_
      cases hF
      refine s_ret1 rfl (r_tmp rfl) fun a w hs => ?_
      exact fin_sel hs [] ⟨rfl, rfl, rfl⟩ rfl sub_nil
    · replace hF := ite_f h3 hF
      refine o_on rfl rfl ?_
      refine o_v (v_move rfl) rfl ?_
      refine o_on rfl rfl ?_
      refine o_v (v_fieldAddr (v := .pointer (some ⟨b, 0, none⟩)) rfl (fun _ => by kernel_rfl)) rfl ?_
      refine o_on rfl rfl ?_
      refine o_v (v_load_box 1 ty3 rfl rfl rfl rfl rfl) rfl ?_
      refine o_on rfl rfl ?_
      refine o_v (v_bin rfl rfl rfl) rfl ?_
      refine o_v (v_pick_f rfl rfl) rfl ?_
      refine o_seq ?_
      refine c_cond rfl (fun h4 => ?_) (fun h4 => ?_)
      · replace hF := ite_t h4 hF
        refine c_seq ?_
        refine c_region ?_
        refine o_v (v_assign rfl) rfl ?_
        refine o_seq ?_
        refine c_ret ?_
        cases hF
        refine s_ret1 rfl (r_tmp rfl) fun a w hs => ?_
        exact fin_sel hs [] ⟨rfl, rfl, rfl⟩ rfl sub_nil
      · replace hF := ite_f h4 hF
        refine c_skip ?_
        refine sat_wc ?_
        refine c_seq ?_
        refine c_seq ?_
        refine c_region ?_
        refine o_v (v_load_box 1 ty24 rfl rfl rfl rfl rfl) rfl ?_
        refine o_v (v_move rfl) rfl ?_
        refine o_v (v_load_box 0 ty27 rfl rfl rfl rfl rfl) rfl ?_
        obtain ⟨v1, h5, hF⟩ := bd hF
        refine o_callSB call40 rfl (lent_f 0 rfl (lent_f 1 rfl lent_nil)) (tri40 k g_ nt t sa1 sn1 sc1 sa2 sn2 sc2 v1 h5) rfl ?_
        refine o_v (v_not rfl) rfl ?_
        refine o_seq ?_
        refine c_cond rfl (fun h6 => ?_) (fun h6 => ?_)
        · replace hF := ite_t h6 hF
          refine c_seq ?_
          refine c_region ?_
          refine o_v (v_assign rfl) rfl ?_
          refine o_seq ?_
          refine c_ret ?_
          cases hF
          refine s_ret1 rfl (r_tmp rfl) fun a w hs => ?_
          exact fin_sel hs [] ⟨rfl, rfl, rfl⟩ rfl sub_nil
        · replace hF := ite_f h6 hF
          refine c_skip ?_
          refine sat_wc ?_
          refine c_seq ?_
          refine c_region ?_
          refine o_v (v_assign rfl) rfl ?_
          refine o_seq ?_
          refine c_ret ?_
          cases hF
          refine s_ret1 rfl (r_tmp rfl) fun a w hs => ?_
          exact fin_sel hs [] ⟨rfl, rfl, rfl⟩ rfl sub_nil
theorem tri15 (k : Nat) (r : Bool) (hF : F.law09.alive k = some r) :
    Tri Tryd.prog 15 [] [] [gf10 0] (fun o H Φ => o = .ret (.bool r) ∧ H = [] ∧ Φ = []) := by
  unfold F.law09.alive at hF
  refine tri_intro (n := 74) Tryd.func15 rfl Tryd.ntmps15 rfl fun w X => ?_
  refine c_seq ?_
  refine c_region ?_
  refine o_v (v_assign rfl) rfl ?_
  refine o_seq ?_
  refine c_seq ?_
  refine c_region ?_
  obtain ⟨v, h1, hF⟩ := bd hF
  refine o_call0 call38 rfl sub_nil (tri38 v h1) rfl ?_
  rintro _ _ _ ⟨sa1, sn1, sc1, rfl, rfl, rfl⟩
  obtain ⟨v1, h2, hF⟩ := bd hF
  refine o_callSB call20 rfl (lent_f 1 rfl (lent_f 0 rfl lent_nil)) (tri20 k v sa1 sn1 sc1 v1 h2) rfl ?_
  refine o_v (v_move rfl) rfl ?_
  refine o_v (v_extract rfl rfl) rfl ?_
  refine o_v (v_extract rfl rfl) rfl ?_
  refine o_v (v_assign rfl) rfl ?_
  refine o_v (v_assign rfl) rfl ?_
  refine o_seq ?_
  refine c_seq ?_
  refine c_region ?_
  obtain ⟨v2, h3, hF⟩ := bd hF
  refine o_call0 call22 rfl sub_nil (tri22 k ([51, 40, 41] : List UInt8) v2 h3) rfl ?_
  rintro _ _ _ ⟨sa2, sn2, sc2, rfl, rfl, rfl⟩
  refine o_v (v_move rfl) rfl ?_
  refine o_v (v_extract rfl rfl) rfl ?_
  refine o_v (v_extract rfl rfl) rfl ?_
  refine o_alloc zero27 rfl rfl fun b => ?_
  refine o_alloc zero39 rfl rfl fun b1 => ?_
  refine o_store_box 1 rfl ty27 rfl rfl rfl rfl rfl rfl rfl ?_
  refine o_store_box 0 rfl ty39 rfl rfl rfl rfl rfl rfl rfl ?_
  refine o_seq ?_
  refine c_seq ?_
  refine c_region ?_
  refine o_call0 call38 rfl sub_nil (tri38 v h1) rfl ?_
  rintro _ _ _ ⟨sa3, sn3, sc3, rfl, rfl, rfl⟩
  obtain ⟨v3, h4, hF⟩ := bd hF
  refine o_callSB call30 rfl (lent_f 0 rfl lent_nil) (tri30 k v sa3 sn3 sc3 v3 h4) rfl ?_
  refine o_v (v_move rfl) rfl ?_
  refine o_v (v_extract rfl rfl) rfl ?_
  refine o_v (v_extract rfl rfl) rfl ?_
  refine o_v (v_assign rfl) rfl ?_
  refine o_v (v_assign rfl) rfl ?_
  refine o_seq ?_
  refine c_seq ?_
  refine c_region ?_
  refine o_call0 call38 rfl sub_nil (tri38 v h1) rfl ?_
  rintro _ _ _ ⟨sa4, sn4, sc4, rfl, rfl, rfl⟩
  refine o_buildSlice (enc := eI64) ([2, 0] : List Int) [.int .i64 2, .int .i64 0] sl44 rfl (fun _ => by kernel_rfl) rfl rfl rfl (.s rfl (.s rfl (.nil))) rfl fun sa5 sn5 sc5 => ?_
  obtain ⟨v4, h5, hF⟩ := bd hF
  refine o_st (st_freeze 0 rfl) ?_
  refine o_call0 call24 rfl (sub_cons 1 rfl (sub_cons 0 rfl sub_nil)) (tri24 k v ([2, 0] : List Int) sa4 sn4 sc4 sa5 sn5 sc5 v4 h5) rfl ?_
  rintro _ _ _ ⟨sa6, sn6, sc6, rfl, rfl, rfl⟩
  refine o_v (v_move rfl) rfl ?_
  refine o_v (v_extract rfl rfl) rfl ?_
  refine o_v (v_extract rfl rfl) rfl ?_
  refine o_alloc zero27 rfl rfl fun b2 => ?_
  refine o_store_box 0 rfl ty27 rfl rfl rfl rfl rfl rfl rfl ?_
  refine o_v (v_assign rfl) rfl ?_
  refine o_seq ?_
  refine c_seq ?_
  refine c_cut (fun E N' => ∀ (t0 : Bool), F.law09.alive_j1 t0 = some r → Sat E [(0, .bool t0), (3, .pointer (some ⟨b, 0, none⟩)), (4, .pointer (some ⟨b1, 0, none⟩)), (7, .pointer (some ⟨b2, 0, none⟩))] [.box b2 27 [.int .i64 v4.1.Rule, .int .u8 v4.1.Byte, .slice sa6 sn6 sc6], .box b1 39 [.int .i64 v2.2.At, .int .i64 v2.2.Code], .box b 27 [.int .i64 v2.1.Rule, .int .u8 v2.1.Byte, .slice sa2 sn2 sc2]] [gf10 0, (.slice sa6 sn6 sc6, .slice 3 (v4.1.Kids.map eTree)), (.slice sa2 sn2 sc2, .slice 3 (v2.1.Kids.map eTree))] N') (fun N1 hN1 => ?_) ?_
  · refine c_region ?_
    refine o_v (v_move rfl) rfl ?_
    refine o_v (v_bin rfl rfl rfl) rfl ?_
    refine o_v (v_move rfl) rfl ?_
    refine o_split (t := 31) rfl (fun h6 => ?_) (fun h6 => ?_)
    · replace hF := ite_t h6 hF
      refine o_on rfl rfl ?_
      refine o_v (v_move rfl) rfl ?_
      refine o_on rfl rfl ?_
      refine o_v (v_streq rfl rfl) rfl ?_
      refine o_v (v_pick_t rfl rfl) rfl ?_
      refine o_v (v_move rfl) rfl ?_
      refine o_split (t := 35) rfl (fun h7 => ?_) (fun h7 => ?_)
      · replace hF := ite_t h7 hF
        refine o_on rfl rfl ?_
        refine o_v (v_load_box 1 ty39 rfl rfl rfl rfl rfl) rfl ?_
        refine o_on rfl rfl ?_
        refine o_v (v_build (v := .agg #[.int .i64 0, .int .i64 0]) rfl (fun _ => by kernel_rfl)) rfl ?_
        refine o_on rfl rfl ?_
        refine o_v (v_ageq 2 rfl rfl (eq39 v2.2.At v2.2.Code 0 0) rfl guard39) rfl ?_
        refine o_v (v_pick_t rfl rfl) rfl ?_
        refine o_v (v_move rfl) rfl ?_
        refine o_split (t := 40) rfl (fun h8 => ?_) (fun h8 => ?_)
        · replace hF := ite_t h8 hF
          refine o_on rfl rfl ?_
          refine o_v (v_fieldAddr (v := .pointer (some ⟨b, 0, none⟩)) rfl (fun _ => by kernel_rfl)) rfl ?_
          refine o_on rfl rfl ?_
          refine o_v (v_load_box 2 ty3 rfl rfl rfl rfl rfl) rfl ?_
          refine o_on rfl rfl ?_
          refine o_v (v_bin rfl rfl rfl) rfl ?_
          refine o_v (v_pick_t rfl rfl) rfl ?_
          refine o_v (v_move rfl) rfl ?_
          refine o_split (t := 45) rfl (fun h9 => ?_) (fun h9 => ?_)
          · replace hF := ite_t h9 hF
            refine o_on rfl rfl ?_
            refine o_v (v_move rfl) rfl ?_
            refine o_on rfl rfl ?_
            refine o_v (v_bin rfl rfl rfl) rfl ?_
            refine o_v (v_pick_t rfl rfl) rfl ?_
            refine o_v (v_move rfl) rfl ?_
            refine o_split (t := 49) rfl (fun h10 => ?_) (fun h10 => ?_)
            · replace hF := ite_t h10 hF
              refine o_on rfl rfl ?_
              refine o_v (v_move rfl) rfl ?_
              refine o_on rfl rfl ?_
              refine o_v (v_bin rfl rfl rfl) rfl ?_
              refine o_v (v_pick_t rfl rfl) rfl ?_
              refine o_v (v_move rfl) rfl ?_
              refine o_split (t := 53) rfl (fun h11 => ?_) (fun h11 => ?_)
              · replace hF := ite_t h11 hF
                refine o_on rfl rfl ?_
                refine o_v (v_move rfl) rfl ?_
                refine o_on rfl rfl ?_
                refine o_v (v_bin rfl rfl rfl) rfl ?_
                refine o_v (v_pick_t rfl rfl) rfl ?_
                refine o_v (v_move rfl) rfl ?_
                refine o_split (t := 57) rfl (fun h12 => ?_) (fun h12 => ?_)
                · replace hF := ite_t h12 hF
                  refine o_on rfl rfl ?_
                  refine o_v (v_fieldAddr (v := .pointer (some ⟨b2, 1, none⟩)) rfl (fun _ => by kernel_rfl)) rfl ?_
                  refine o_on rfl rfl ?_
                  refine o_v (v_load_box 0 ty5 rfl rfl rfl rfl rfl) rfl ?_
                  refine o_on rfl rfl ?_
                  refine o_v (v_bin rfl rfl rfl) rfl ?_
                  refine o_v (v_pick_t rfl rfl) rfl ?_
                  refine o_v (v_move rfl) rfl ?_
                  refine o_split (t := 62) rfl (fun h13 => ?_) (fun h13 => ?_)
                  · replace hF := ite_t h13 hF
                    refine o_on rfl rfl ?_
                    refine o_call0 call38 rfl sub_nil (tri38 v h1) rfl ?_
                    rintro _ _ _ ⟨sa7, sn7, sc7, rfl, rfl, rfl⟩
                    refine o_on rfl rfl ?_
                    obtain ⟨v5, h14, hF⟩ := bd hF
                    refine o_call0 call33 rfl (sub_cons 0 rfl sub_nil) (tri33 k v sa7 sn7 sc7 v5 h14) rfl ?_
                    rintro _ _ _ ⟨sa8, sn8, sc8, rfl, rfl, rfl⟩
                    refine o_on rfl rfl ?_
                    refine o_v (v_bytesStr sl58 Tryd.underlying5 Tryd.underlying9 rfl (.r 0 _ rfl)) rfl ?_
                    refine o_on rfl rfl ?_
                    refine o_v (v_streq rfl rfl) rfl ?_
                    refine o_v (v_pick_t rfl rfl) rfl ?_
                    refine o_v (v_move rfl) rfl ?_
                    refine o_split (t := 68) rfl (fun h15 => ?_) (fun h15 => ?_)
                    · replace hF := ite_t h15 hF
                      refine o_on rfl rfl ?_
                      refine o_v (v_build (v := .agg #[.int .i64 0, .int .i64 0, .slice none 0 0]) rfl (fun _ => by kernel_rfl)) rfl ?_
                      refine o_on rfl rfl ?_
                      refine o_call0 call38 rfl sub_nil (tri38 v h1) rfl ?_
                      rintro _ _ _ ⟨sa9, sn9, sc9, rfl, rfl, rfl⟩
                      refine o_on rfl rfl ?_
                      obtain ⟨v6, h16, hF⟩ := bd hF
                      refine o_st (st_nilfact 2) ?_
                      refine o_callSB call17 rfl (lent_f 0 rfl (lent_f 1 rfl lent_nil)) (tri17 k (Gram.mk 0 0 ([] : List Rule)) 0 v none 0 0 sa9 sn9 sc9 v6 h16) rfl ?_
                      refine o_on rfl rfl ?_
                      refine o_v (v_bin rfl rfl rfl) rfl ?_
                      refine o_v (v_pick_t rfl rfl) rfl ?_
                      refine o_v (v_assign rfl) rfl ?_
                      refine o_nil ?_
                      refine s_st ?_ (hN1 (v6 == 3) hF)
                      exact st_le [1, 1, 1] (le_cons rfl (le_cons rfl (le_cons rfl (le_cons rfl le_nil)))) rfl (sub_cons 9 rfl (sub_cons 3 rfl (sub_cons 7 rfl sub_nil)))
                    · replace hF := ite_f h15 hF
                      refine o_off rfl rfl (by decide) rfl ?_
                      refine o_off rfl rfl (by decide) rfl ?_
                      refine o_off rfl rfl (by decide) rfl ?_
                      refine o_off rfl rfl (by decide) rfl ?_
                      refine o_v (v_pick_f rfl rfl) rfl ?_
                      refine o_v (v_assign rfl) rfl ?_
                      refine o_nil ?_
                      refine s_st ?_ (hN1 false hF)
                      exact st_le [1, 1, 1] (le_cons rfl (le_cons rfl (le_cons rfl (le_cons rfl le_nil)))) rfl (sub_cons 7 rfl (sub_cons 1 rfl (sub_cons 5 rfl sub_nil)))
                  · replace hF := ite_f h13 hF
                    refine o_off rfl rfl (by decide) rfl ?_
                    refine o_off rfl rfl (by decide) rfl ?_
                    refine o_off rfl rfl (by decide) rfl ?_
                    refine o_off rfl rfl (by decide) rfl ?_
                    refine o_v (v_pick_f rfl rfl) rfl ?_
                    refine o_v (v_move rfl) rfl ?_
                    refine o_off rfl rfl (by decide) rfl ?_
                    refine o_off rfl rfl (by decide) rfl ?_
                    refine o_off rfl rfl (by decide) rfl ?_
                    refine o_off rfl rfl (by decide) rfl ?_
                    refine o_v (v_pick_f rfl rfl) rfl ?_
                    refine o_v (v_assign rfl) rfl ?_
                    refine o_nil ?_
                    refine s_st ?_ (hN1 false hF)
                    exact st_le [0, 0, 0] (le_cons rfl (le_cons rfl (le_cons rfl (le_cons rfl le_nil)))) rfl (sub_cons 6 rfl (sub_cons 0 rfl (sub_cons 4 rfl sub_nil)))
                · replace hF := ite_f h12 hF
                  refine o_off rfl rfl (by decide) rfl ?_
                  refine o_off rfl rfl (by decide) rfl ?_
                  refine o_off rfl rfl (by decide) rfl ?_
                  refine o_v (v_pick_f rfl rfl) rfl ?_
                  refine o_v (v_move rfl) rfl ?_
                  refine o_off rfl rfl (by decide) rfl ?_
                  refine o_off rfl rfl (by decide) rfl ?_
                  refine o_off rfl rfl (by decide) rfl ?_
                  refine o_off rfl rfl (by decide) rfl ?_
                  refine o_v (v_pick_f rfl rfl) rfl ?_
                  refine o_v (v_move rfl) rfl ?_
                  refine o_off rfl rfl (by decide) rfl ?_
                  refine o_off rfl rfl (by decide) rfl ?_
                  refine o_off rfl rfl (by decide) rfl ?_
                  refine o_off rfl rfl (by decide) rfl ?_
                  refine o_v (v_pick_f rfl rfl) rfl ?_
                  refine o_v (v_assign rfl) rfl ?_
                  refine o_nil ?_
                  refine s_st ?_ (hN1 false hF)
                  exact st_le [0, 0, 0] (le_cons rfl (le_cons rfl (le_cons rfl (le_cons rfl le_nil)))) rfl (sub_cons 6 rfl (sub_cons 0 rfl (sub_cons 4 rfl sub_nil)))
              · replace hF := ite_f h11 hF
                refine o_off rfl rfl (by decide) rfl ?_
                refine o_off rfl rfl (by decide) rfl ?_
                refine o_v (v_pick_f rfl rfl) rfl ?_
                refine o_v (v_move rfl) rfl ?_
                refine o_off rfl rfl (by decide) rfl ?_
                refine o_off rfl rfl (by decide) rfl ?_
                refine o_off rfl rfl (by decide) rfl ?_
                refine o_v (v_pick_f rfl rfl) rfl ?_
                refine o_v (v_move rfl) rfl ?_
                refine o_off rfl rfl (by decide) rfl ?_
                refine o_off rfl rfl (by decide) rfl ?_
                refine o_off rfl rfl (by decide) rfl ?_
                refine o_off rfl rfl (by decide) rfl ?_
                refine o_v (v_pick_f rfl rfl) rfl ?_
                refine o_v (v_move rfl) rfl ?_
                refine o_off rfl rfl (by decide) rfl ?_
                refine o_off rfl rfl (by decide) rfl ?_
                refine o_off rfl rfl (by decide) rfl ?_
                refine o_off rfl rfl (by decide) rfl ?_
                refine o_v (v_pick_f rfl rfl) rfl ?_
                refine o_v (v_assign rfl) rfl ?_
                refine o_nil ?_
                refine s_st ?_ (hN1 false hF)
                exact st_le [0, 0, 0] (le_cons rfl (le_cons rfl (le_cons rfl (le_cons rfl le_nil)))) rfl (sub_cons 6 rfl (sub_cons 0 rfl (sub_cons 4 rfl sub_nil)))
            · replace hF := ite_f h10 hF
              refine o_off rfl rfl (by decide) rfl ?_
              refine o_off rfl rfl (by decide) rfl ?_
              refine o_v (v_pick_f rfl rfl) rfl ?_
              refine o_v (v_move rfl) rfl ?_
              refine o_off rfl rfl (by decide) rfl ?_
              refine o_off rfl rfl (by decide) rfl ?_
              refine o_v (v_pick_f rfl rfl) rfl ?_
              refine o_v (v_move rfl) rfl ?_
              refine o_off rfl rfl (by decide) rfl ?_
              refine o_off rfl rfl (by decide) rfl ?_
              refine o_off rfl rfl (by decide) rfl ?_
              refine o_v (v_pick_f rfl rfl) rfl ?_
              refine o_v (v_move rfl) rfl ?_
              refine o_off rfl rfl (by decide) rfl ?_
              refine o_off rfl rfl (by decide) rfl ?_
              refine o_off rfl rfl (by decide) rfl ?_
              refine o_off rfl rfl (by decide) rfl ?_
              refine o_v (v_pick_f rfl rfl) rfl ?_
              refine o_v (v_move rfl) rfl ?_
              refine o_off rfl rfl (by decide) rfl ?_
              refine o_off rfl rfl (by decide) rfl ?_
              refine o_off rfl rfl (by decide) rfl ?_
              refine o_off rfl rfl (by decide) rfl ?_
              refine o_v (v_pick_f rfl rfl) rfl ?_
              refine o_v (v_assign rfl) rfl ?_
              refine o_nil ?_
              refine s_st ?_ (hN1 false hF)
              exact st_le [0, 0, 0] (le_cons rfl (le_cons rfl (le_cons rfl (le_cons rfl le_nil)))) rfl (sub_cons 6 rfl (sub_cons 0 rfl (sub_cons 4 rfl sub_nil)))
          · replace hF := ite_f h9 hF
            refine o_off rfl rfl (by decide) rfl ?_
            refine o_off rfl rfl (by decide) rfl ?_
            refine o_v (v_pick_f rfl rfl) rfl ?_
            refine o_v (v_move rfl) rfl ?_
            refine o_off rfl rfl (by decide) rfl ?_
            refine o_off rfl rfl (by decide) rfl ?_
            refine o_v (v_pick_f rfl rfl) rfl ?_
            refine o_v (v_move rfl) rfl ?_
            refine o_off rfl rfl (by decide) rfl ?_
            refine o_off rfl rfl (by decide) rfl ?_
            refine o_v (v_pick_f rfl rfl) rfl ?_
            refine o_v (v_move rfl) rfl ?_
            refine o_off rfl rfl (by decide) rfl ?_
            refine o_off rfl rfl (by decide) rfl ?_
            refine o_off rfl rfl (by decide) rfl ?_
            refine o_v (v_pick_f rfl rfl) rfl ?_
            refine o_v (v_move rfl) rfl ?_
            refine o_off rfl rfl (by decide) rfl ?_
            refine o_off rfl rfl (by decide) rfl ?_
            refine o_off rfl rfl (by decide) rfl ?_
            refine o_off rfl rfl (by decide) rfl ?_
            refine o_v (v_pick_f rfl rfl) rfl ?_
            refine o_v (v_move rfl) rfl ?_
            refine o_off rfl rfl (by decide) rfl ?_
            refine o_off rfl rfl (by decide) rfl ?_
            refine o_off rfl rfl (by decide) rfl ?_
            refine o_off rfl rfl (by decide) rfl ?_
            refine o_v (v_pick_f rfl rfl) rfl ?_
            refine o_v (v_assign rfl) rfl ?_
            refine o_nil ?_
            refine s_st ?_ (hN1 false hF)
            exact st_le [0, 0, 0] (le_cons rfl (le_cons rfl (le_cons rfl (le_cons rfl le_nil)))) rfl (sub_cons 6 rfl (sub_cons 0 rfl (sub_cons 4 rfl sub_nil)))
        · replace hF := ite_f h8 hF
          refine o_off rfl rfl (by decide) rfl ?_
          refine o_off rfl rfl (by decide) rfl ?_
          refine o_off rfl rfl (by decide) rfl ?_
          refine o_v (v_pick_f rfl rfl) rfl ?_
          refine o_v (v_move rfl) rfl ?_
          refine o_off rfl rfl (by decide) rfl ?_
          refine o_off rfl rfl (by decide) rfl ?_
          refine o_v (v_pick_f rfl rfl) rfl ?_
          refine o_v (v_move rfl) rfl ?_
          refine o_off rfl rfl (by decide) rfl ?_
          refine o_off rfl rfl (by decide) rfl ?_
          refine o_v (v_pick_f rfl rfl) rfl ?_
          refine o_v (v_move rfl) rfl ?_
          refine o_off rfl rfl (by decide) rfl ?_
          refine o_off rfl rfl (by decide) rfl ?_
          refine o_v (v_pick_f rfl rfl) rfl ?_
          refine o_v (v_move rfl) rfl ?_
          refine o_off rfl rfl (by decide) rfl ?_
          refine o_off rfl rfl (by decide) rfl ?_
          refine o_off rfl rfl (by decide) rfl ?_
          refine o_v (v_pick_f rfl rfl) rfl ?_
          refine o_v (v_move rfl) rfl ?_
          refine o_off rfl rfl (by decide) rfl ?_
          refine o_off rfl rfl (by decide) rfl ?_
          refine o_off rfl rfl (by decide) rfl ?_
          refine o_off rfl rfl (by decide) rfl ?_
          refine o_v (v_pick_f rfl rfl) rfl ?_
          refine o_v (v_move rfl) rfl ?_
          refine o_off rfl rfl (by decide) rfl ?_
          refine o_off rfl rfl (by decide) rfl ?_
          refine o_off rfl rfl (by decide) rfl ?_
          refine o_off rfl rfl (by decide) rfl ?_
          refine o_v (v_pick_f rfl rfl) rfl ?_
          refine o_v (v_assign rfl) rfl ?_
          refine o_nil ?_
          refine s_st ?_ (hN1 false hF)
          exact st_le [0, 0, 0] (le_cons rfl (le_cons rfl (le_cons rfl (le_cons rfl le_nil)))) rfl (sub_cons 6 rfl (sub_cons 0 rfl (sub_cons 4 rfl sub_nil)))
      · replace hF := ite_f h7 hF
        refine o_off rfl rfl (by decide) rfl ?_
        refine o_off rfl rfl (by decide) rfl ?_
        refine o_off rfl rfl (by decide) rfl ?_
        refine o_v (v_pick_f rfl rfl) rfl ?_
        refine o_v (v_move rfl) rfl ?_
        refine o_off rfl rfl (by decide) rfl ?_
        refine o_off rfl rfl (by decide) rfl ?_
        refine o_off rfl rfl (by decide) rfl ?_
        refine o_v (v_pick_f rfl rfl) rfl ?_
        refine o_v (v_move rfl) rfl ?_
        refine o_off rfl rfl (by decide) rfl ?_
        refine o_off rfl rfl (by decide) rfl ?_
        refine o_v (v_pick_f rfl rfl) rfl ?_
        refine o_v (v_move rfl) rfl ?_
        refine o_off rfl rfl (by decide) rfl ?_
        refine o_off rfl rfl (by decide) rfl ?_
        refine o_v (v_pick_f rfl rfl) rfl ?_
        refine o_v (v_move rfl) rfl ?_
        refine o_off rfl rfl (by decide) rfl ?_
        refine o_off rfl rfl (by decide) rfl ?_
        refine o_v (v_pick_f rfl rfl) rfl ?_
        refine o_v (v_move rfl) rfl ?_
        refine o_off rfl rfl (by decide) rfl ?_
        refine o_off rfl rfl (by decide) rfl ?_
        refine o_off rfl rfl (by decide) rfl ?_
        refine o_v (v_pick_f rfl rfl) rfl ?_
        refine o_v (v_move rfl) rfl ?_
        refine o_off rfl rfl (by decide) rfl ?_
        refine o_off rfl rfl (by decide) rfl ?_
        refine o_off rfl rfl (by decide) rfl ?_
        refine o_off rfl rfl (by decide) rfl ?_
        refine o_v (v_pick_f rfl rfl) rfl ?_
        refine o_v (v_move rfl) rfl ?_
        refine o_off rfl rfl (by decide) rfl ?_
        refine o_off rfl rfl (by decide) rfl ?_
        refine o_off rfl rfl (by decide) rfl ?_
        refine o_off rfl rfl (by decide) rfl ?_
        refine o_v (v_pick_f rfl rfl) rfl ?_
        refine o_v (v_assign rfl) rfl ?_
        refine o_nil ?_
        refine s_st ?_ (hN1 false hF)
        exact st_le [0, 0, 0] (le_cons rfl (le_cons rfl (le_cons rfl (le_cons rfl le_nil)))) rfl (sub_cons 6 rfl (sub_cons 0 rfl (sub_cons 4 rfl sub_nil)))
    · replace hF := ite_f h6 hF
      refine o_off rfl rfl (by decide) rfl ?_
      refine o_off rfl rfl (by decide) rfl ?_
      refine o_v (v_pick_f rfl rfl) rfl ?_
      refine o_v (v_move rfl) rfl ?_
      refine o_off rfl rfl (by decide) rfl ?_
      refine o_off rfl rfl (by decide) rfl ?_
      refine o_off rfl rfl (by decide) rfl ?_
      refine o_v (v_pick_f rfl rfl) rfl ?_
      refine o_v (v_move rfl) rfl ?_
      refine o_off rfl rfl (by decide) rfl ?_
      refine o_off rfl rfl (by decide) rfl ?_
      refine o_off rfl rfl (by decide) rfl ?_
      refine o_v (v_pick_f rfl rfl) rfl ?_
      refine o_v (v_move rfl) rfl ?_
      refine o_off rfl rfl (by decide) rfl ?_
      refine o_off rfl rfl (by decide) rfl ?_
      refine o_v (v_pick_f rfl rfl) rfl ?_
      refine o_v (v_move rfl) rfl ?_
      refine o_off rfl rfl (by decide) rfl ?_
      refine o_off rfl rfl (by decide) rfl ?_
      refine o_v (v_pick_f rfl rfl) rfl ?_
      refine o_v (v_move rfl) rfl ?_
      refine o_off rfl rfl (by decide) rfl ?_
      refine o_off rfl rfl (by decide) rfl ?_
      refine o_v (v_pick_f rfl rfl) rfl ?_
      refine o_v (v_move rfl) rfl ?_
      refine o_off rfl rfl (by decide) rfl ?_
      refine o_off rfl rfl (by decide) rfl ?_
      refine o_off rfl rfl (by decide) rfl ?_
      refine o_v (v_pick_f rfl rfl) rfl ?_
      refine o_v (v_move rfl) rfl ?_
      refine o_off rfl rfl (by decide) rfl ?_
      refine o_off rfl rfl (by decide) rfl ?_
      refine o_off rfl rfl (by decide) rfl ?_
      refine o_off rfl rfl (by decide) rfl ?_
      refine o_v (v_pick_f rfl rfl) rfl ?_
      refine o_v (v_move rfl) rfl ?_
      refine o_off rfl rfl (by decide) rfl ?_
      refine o_off rfl rfl (by decide) rfl ?_
      refine o_off rfl rfl (by decide) rfl ?_
      refine o_off rfl rfl (by decide) rfl ?_
      refine o_v (v_pick_f rfl rfl) rfl ?_
      refine o_v (v_assign rfl) rfl ?_
      refine o_nil ?_
      refine s_st ?_ (hN1 false hF)
      exact st_le [0, 0, 0] (le_cons rfl (le_cons rfl (le_cons rfl (le_cons rfl le_nil)))) rfl (sub_cons 6 rfl (sub_cons 0 rfl (sub_cons 4 rfl sub_nil)))
  · intro t0 hF
    unfold F.law09.alive_j1 at hF
    refine sat_wc ?_
    refine c_ret ?_
    cases hF
    refine s_ret1 rfl (r_tmp rfl) fun a w hs => ?_
    exact fin_sel hs [] ⟨rfl, rfl, rfl⟩ rfl sub_nil
theorem tri16_B (k : Nat) (g16 : Tree → Option Tree)
    (hg16 : ∀ (t : Tree) (sa1 : Option Addr) (sn1 sc1 : Nat) (r : Tree), g16 t = some r → Tri Tryd.prog 16 [.agg #[.int .i64 t.Rule, .int .u8 t.Byte, .slice sa1 sn1 sc1]] [] [(.slice sa1 sn1 sc1, .slice 3 (t.Kids.map eTree))] (fun o H Φ => ∃ (sa8 : Option Addr) (sn8 sc8 : Nat), o = .ret (.agg #[.int .i64 r.Rule, .int .u8 r.Byte, .slice sa8 sn8 sc8]) ∧ H = [] ∧ Φ = [(.slice sa8 sn8 sc8, .slice 3 (r.Kids.map eTree))])) (t : Tree) (sa1 : Option Addr) (sn1 sc1 : Nat) (r : Tree) (hF : F.ref09.Copy_B k g16 t = some r) :
    Tri Tryd.prog 16 [.agg #[.int .i64 t.Rule, .int .u8 t.Byte, .slice sa1 sn1 sc1]] [] [(.slice sa1 sn1 sc1, .slice 3 (t.Kids.map eTree))] (fun o H Φ => ∃ (sa8 : Option Addr) (sn8 sc8 : Nat), o = .ret (.agg #[.int .i64 r.Rule, .int .u8 r.Byte, .slice sa8 sn8 sc8]) ∧ H = [] ∧ Φ = [(.slice sa8 sn8 sc8, .slice 3 (r.Kids.map eTree))]) := by
  unfold F.ref09.Copy_B at hF
  refine tri_intro (n := 31) Tryd.func16 rfl Tryd.ntmps16 rfl fun w X => ?_
  refine c_seq ?_
  refine c_region ?_
  refine o_box rfl rfl rfl fun b => ?_
  refine o_alloc zero27 rfl rfl fun b1 => ?_
  refine o_seq ?_
  refine c_seq ?_
  refine c_region ?_
  refine o_v (v_fieldAddr (v := .pointer (some ⟨b, 0, none⟩)) rfl (fun _ => by kernel_rfl)) rfl ?_
  refine o_v (v_load_box 1 ty3 rfl rfl rfl rfl rfl) rfl ?_
  refine o_v (v_fieldAddr (v := .pointer (some ⟨b, 1, none⟩)) rfl (fun _ => by kernel_rfl)) rfl ?_
  refine o_v (v_load_box 1 ty5 rfl rfl rfl rfl rfl) rfl ?_
  refine o_v (v_build (v := .agg #[.int .i64 t.Rule, .int .u8 t.Byte, .slice none 0 0]) rfl (fun _ => by kernel_rfl)) rfl ?_
  refine o_alloc zero27 rfl rfl fun b2 => ?_
  refine o_store_box 0 rfl ty27 rfl rfl rfl rfl rfl rfl rfl ?_
  refine o_seq ?_
  refine c_seq ?_
  refine c_seq ?_
  refine c_region ?_
  refine o_v (v_assign rfl) rfl ?_
  refine o_seq ?_
  obtain ⟨o1, ho1, hF⟩ := bd hF
  refine c_cut (fun E N' => ∀ (sa3 : Option Addr) (sn3 sc3 : Nat), Sat E [(0, .agg #[.int .i64 t.Rule, .int .u8 t.Byte, .slice sa1 sn1 sc1]), (1, .pointer (some ⟨b, 0, none⟩)), (2, .pointer (some ⟨b1, 0, none⟩)), (3, .pointer (some ⟨b2, 0, none⟩))] [.box b2 27 [.int .i64 t.Rule, .int .u8 t.Byte, .slice sa3 sn3 sc3], .box b1 27 [.int .i64 0, .int .u8 0, .slice none 0 0], .box b 27 [.int .i64 t.Rule, .int .u8 t.Byte, .slice sa1 sn1 sc1], .row (.slice sa3 sn3 sc3) 27 3 (o1.map eTree)] [(.slice sa1 sn1 sc1, .slice 3 (t.Kids.map eTree))] N') (fun N1 hN1 => ?_) ?_
  · refine c_block ?_
    refine c_loopE (fun E j a w => ∃ (i : Int) (Kids_ : List Tree) (sa2 : Option Addr) (sn2 sc2 : Nat), F.ref09.Copy_l1 t g16 j i Kids_ = some o1 ∧ St E [(0, .agg #[.int .i64 t.Rule, .int .u8 t.Byte, .slice sa1 sn1 sc1]), (1, .pointer (some ⟨b, 0, none⟩)), (2, .pointer (some ⟨b1, 0, none⟩)), (3, .pointer (some ⟨b2, 0, none⟩)), (4, .int .i64 i)] [.box b2 27 [.int .i64 t.Rule, .int .u8 t.Byte, .slice sa2 sn2 sc2], .box b1 27 [.int .i64 0, .int .u8 0, .slice none 0 0], .box b 27 [.int .i64 t.Rule, .int .u8 t.Byte, .slice sa1 sn1 sc1], .row (.slice sa2 sn2 sc2) 27 3 (Kids_.map eTree)] [(.slice sa1 sn1 sc1, .slice 3 (t.Kids.map eTree))] a w) k ?_ ?_
    · refine s_st (st_nilrow 27 3) ?_
      intro a w hs
      exact ⟨0, ([] : List Tree), none, 0, 0, ho1, st_le [1, 1, 1, 0] (le_cons rfl (le_cons rfl (le_cons rfl (le_cons rfl (le_cons rfl le_nil))))) rfl (sub_cons 0 rfl sub_nil) a w hs⟩
    · rintro j a w ⟨i, Kids_, sa2, sn2, sc2, hL1, hs⟩
      cases j with
      | zero => cases hL1
      | succ j =>
        refine wc_app hs ?_
        unfold F.ref09.Copy_l1 at hL1
        refine c_seq ?_
        refine c_seq ?_
        refine c_region ?_
        refine o_v (v_move rfl) rfl ?_
        refine o_v (v_fieldAddr (v := .pointer (some ⟨b, 2, none⟩)) rfl (fun _ => by kernel_rfl)) rfl ?_
        refine o_v (v_load_box 2 ty25 rfl rfl rfl rfl rfl) rfl ?_
        refine o_v (v_lenS (enc := eTree) t.Kids sl25 rfl (.f 0 rfl)) rfl ?_
        refine o_v (v_bin rfl rfl rfl) rfl ?_
        refine o_seq ?_
        refine c_cond rfl (fun h1 => ?_) (fun h1 => ?_)
        · replace hL1 := ite_t h1 hL1
          refine c_skip ?_
          refine sat_wc ?_
          refine c_seq ?_
          refine c_block ?_
          refine c_seq ?_
          refine c_region ?_
          refine o_v (v_fieldAddr (v := .pointer (some ⟨b, 2, none⟩)) rfl (fun _ => by kernel_rfl)) rfl ?_
          refine o_v (v_load_box 2 ty25 rfl rfl rfl rfl rfl) rfl ?_
          refine o_v (v_move rfl) rfl ?_
          refine ite_some hL1 fun h2 hL1 => ?_
          refine o_v (v_indexAddr_s (xs := t.Kids) (enc := eTree) sl25 rfl rfl (.f 0 rfl) h2) rfl ?_
          refine o_load_s (ds := [.int .i64 ((at_ t.Kids i).Rule), .int .u8 ((at_ t.Kids i).Byte), .slice 3 (((at_ t.Kids i).Kids).map eTree)]) (xs := t.Kids) (enc := eTree) ty27 rfl (.f 0 rfl) h2 (by simp only [eTree_eq] <;> rfl) rfl rfl rfl rfl rfl fun sa4 sn4 sc4 => ?_
          obtain ⟨v, h3, hL1⟩ := bd hL1
          refine o_call0 call16 rfl (sub_cons 0 rfl sub_nil) (hg16 (at_ t.Kids i) sa4 sn4 sc4 v h3) rfl ?_
          rintro _ _ _ ⟨sa5, sn5, sc5, rfl, rfl, rfl⟩
          refine o_alloc zero27 rfl rfl fun b3 => ?_
          refine o_store_box 0 rfl ty27 rfl rfl rfl rfl rfl rfl rfl ?_
          refine o_seq ?_
          refine c_region ?_
          refine o_v (v_fieldAddr (v := .pointer (some ⟨b2, 2, none⟩)) rfl (fun _ => by kernel_rfl)) rfl ?_
          refine o_v (v_load_box 1 ty25 rfl rfl rfl rfl rfl) rfl ?_
          refine o_v (v_load_box 0 ty27 rfl rfl rfl rfl rfl) rfl ?_
          refine o_buildSlice (enc := eTree) ([v] : List Tree) [.int .i64 v.Rule, .int .u8 v.Byte, .slice sa5 sn5 sc5] sl25 rfl (fun _ => by kernel_rfl) rfl rfl (by simp only [List.map, List.all, eTree_eq] <;> rfl) (cp_of (ds := [.int .i64 v.Rule, .int .u8 v.Byte, .slice 3 (v.Kids.map eTree)]) (by simp only [List.map, List.flatten, eTree_eq] <;> rfl) (.s rfl (.s rfl (.f 0 rfl (.nil))))) rfl fun sa6 sn6 sc6 => ?_
          refine ite_some hL1 fun h4 hL1 => ?_
          refine ite_some hL1 fun h5 hL1 => ?_
          refine o_append (enc := eTree) (xs := Kids_) (ys := ([v] : List Tree)) 5 sl25 rfl rfl rfl (.r 0 _ rfl) h4 h5 rfl fun sa7 sn7 sc7 => ?_
          refine o_v (v_fieldAddr (v := .pointer (some ⟨b2, 2, none⟩)) rfl (fun _ => by kernel_rfl)) rfl ?_
          refine o_store_box 2 rfl ty25 rfl rfl rfl rfl rfl rfl rfl ?_
          refine o_nil ?_
          refine sat_wc ?_
          refine c_region ?_
          refine o_v (v_move rfl) rfl ?_
          refine o_v (v_bin rfl rfl rfl) rfl ?_
          refine o_v (v_assign rfl) rfl ?_
          refine o_nil ?_
          intro a w hs
          exact ⟨j, Nat.lt_succ_self j, IntKind.wrap .i64 (i + 1), (Kids_ ++ ([v] : List Tree)), sa7, sn7, sc7, hL1, st_le [2, 2, 2, 2] (le_cons rfl (le_cons rfl (le_cons rfl (le_cons rfl (le_cons rfl le_nil))))) rfl (sub_cons 2 rfl sub_nil) a w hs⟩
        · replace hL1 := ite_f h1 hL1
          refine c_exit0 ?_
          cases hL1
          refine s_st ?_ (hN1 sa2 sn2 sc2)
          exact st_le [0, 0, 0, 0] (le_cons rfl (le_cons rfl (le_cons rfl (le_cons rfl le_nil)))) rfl (sub_cons 0 rfl sub_nil)
  · intro sa3 sn3 sc3
    refine sat_wc ?_
    refine c_seq ?_
    refine c_region ?_
    refine o_v (v_load_box 0 ty27 rfl rfl rfl rfl rfl) rfl ?_
    refine o_store_box 1 rfl ty27 rfl rfl rfl rfl rfl rfl rfl ?_
    refine o_seq ?_
    refine c_ret ?_
    cases hF
    refine s_st (st_freeze 3 rfl) ?_
    refine s_ret1 rfl (r_cell 1 rfl ty27 rfl rfl rfl rfl) fun a w hs => ?_
    exact fin_sel hs [] ⟨sa3, sn3, sc3, rfl, rfl, rfl⟩ rfl (sub_cons 0 rfl sub_nil)
theorem tri16 (k : Nat) : (∀ (t : Tree) (sa1 : Option Addr) (sn1 sc1 : Nat) (r : Tree), F.ref09.Copy k t = some r → Tri Tryd.prog 16 [.agg #[.int .i64 t.Rule, .int .u8 t.Byte, .slice sa1 sn1 sc1]] [] [(.slice sa1 sn1 sc1, .slice 3 (t.Kids.map eTree))] (fun o H Φ => ∃ (sa8 : Option Addr) (sn8 sc8 : Nat), o = .ret (.agg #[.int .i64 r.Rule, .int .u8 r.Byte, .slice sa8 sn8 sc8]) ∧ H = [] ∧ Φ = [(.slice sa8 sn8 sc8, .slice 3 (r.Kids.map eTree))])) := by
  induction k with
  | zero => exact fun _ _ _ _ _ h => nomatch (show none = some _ from h)
  | succ k ih => exact tri16_B k _ ih
theorem tri41 (k : Nat) (g_ : Gram) (sa1 : Option Addr) (sn1 sc1 : Nat) (r : Int) (hF : F.ref06.Right k g_ = some r) :
    Tri Tryd.prog 41 [.agg #[.int .i64 g_.Nts, .int .i64 g_.Start, .slice sa1 sn1 sc1]] [] [(.slice sa1 sn1 sc1, .slice 2 (g_.Rules.map eRule))] (fun o H Φ => o = .ret (.int .i64 r) ∧ H = [] ∧ Φ = []) := by
  unfold F.ref06.Right at hF
  refine tri_intro (n := 94) Tryd.func41 rfl Tryd.ntmps41 rfl fun w X => ?_
  refine c_seq ?_
  refine c_region ?_
  refine o_box rfl rfl rfl fun b => ?_
  refine o_v (v_assign rfl) rfl ?_
  refine o_seq ?_
  refine c_seq ?_
  refine c_seq ?_
  refine c_cut (fun E N' => ∀ (t32 : Bool), F.ref06.Right_j1 k g_ t32 = some r → Sat E [(0, .agg #[.int .i64 g_.Nts, .int .i64 g_.Start, .slice sa1 sn1 sc1]), (1, .pointer (some ⟨b, 0, none⟩)), (2, .int .i64 0), (32, .bool t32)] [.box b 24 [.int .i64 g_.Nts, .int .i64 g_.Start, .slice sa1 sn1 sc1]] [(.slice sa1 sn1 sc1, .slice 2 (g_.Rules.map eRule))] N') (fun N4 hN4 => ?_) ?_
  · refine c_region ?_
    refine o_v (v_fieldAddr (v := .pointer (some ⟨b, 0, none⟩)) rfl (fun _ => by kernel_rfl)) rfl ?_
    refine o_v (v_load_box 0 ty3 rfl rfl rfl rfl rfl) rfl ?_
    refine o_v (v_bin rfl rfl rfl) rfl ?_
    refine o_v (v_move rfl) rfl ?_
    refine o_split (t := 10) rfl (fun h13 => ?_) (fun h13 => ?_)
    · replace hF := ite_t h13 hF
      refine o_off rfl rfl (by decide) rfl ?_
      refine o_off rfl rfl (by decide) rfl ?_
      refine o_off rfl rfl (by decide) rfl ?_
      refine o_v (v_pick_t rfl rfl) rfl ?_
      refine o_v (v_move rfl) rfl ?_
      refine o_off rfl rfl (by decide) rfl ?_
      refine o_off rfl rfl (by decide) rfl ?_
      refine o_off rfl rfl (by decide) rfl ?_
      refine o_v (v_pick_t rfl rfl) rfl ?_
      refine o_v (v_move rfl) rfl ?_
      refine o_off rfl rfl (by decide) rfl ?_
      refine o_off rfl rfl (by decide) rfl ?_
      refine o_off rfl rfl (by decide) rfl ?_
      refine o_off rfl rfl (by decide) rfl ?_
      refine o_off rfl rfl (by decide) rfl ?_
      refine o_v (v_pick_t rfl rfl) rfl ?_
      refine o_v (v_move rfl) rfl ?_
      refine o_off rfl rfl (by decide) rfl ?_
      refine o_off rfl rfl (by decide) rfl ?_
      refine o_off rfl rfl (by decide) rfl ?_
      refine o_off rfl rfl (by decide) rfl ?_
      refine o_v (v_pick_t rfl rfl) rfl ?_
      refine o_nil ?_
      refine s_st ?_ (hN4 true hF)
      exact st_le [0] (le_cons rfl (le_cons rfl (le_cons rfl (le_cons rfl le_nil)))) rfl (sub_cons 0 rfl sub_nil)
    · replace hF := ite_f h13 hF
      refine o_on rfl rfl ?_
      refine o_v (v_fieldAddr (v := .pointer (some ⟨b, 0, none⟩)) rfl (fun _ => by kernel_rfl)) rfl ?_
      refine o_on rfl rfl ?_
      refine o_v (v_load_box 0 ty3 rfl rfl rfl rfl rfl) rfl ?_
      refine o_on rfl rfl ?_
      refine o_v (v_bin rfl rfl rfl) rfl ?_
      refine o_v (v_pick_f rfl rfl) rfl ?_
      refine o_v (v_move rfl) rfl ?_
      refine o_split (t := 15) rfl (fun h14 => ?_) (fun h14 => ?_)
      · replace hF := ite_t h14 hF
        refine o_off rfl rfl (by decide) rfl ?_
        refine o_off rfl rfl (by decide) rfl ?_
        refine o_off rfl rfl (by decide) rfl ?_
        refine o_v (v_pick_t rfl rfl) rfl ?_
        refine o_v (v_move rfl) rfl ?_
        refine o_off rfl rfl (by decide) rfl ?_
        refine o_off rfl rfl (by decide) rfl ?_
        refine o_off rfl rfl (by decide) rfl ?_
        refine o_off rfl rfl (by decide) rfl ?_
        refine o_off rfl rfl (by decide) rfl ?_
        refine o_v (v_pick_t rfl rfl) rfl ?_
        refine o_v (v_move rfl) rfl ?_
        refine o_off rfl rfl (by decide) rfl ?_
        refine o_off rfl rfl (by decide) rfl ?_
        refine o_off rfl rfl (by decide) rfl ?_
        refine o_off rfl rfl (by decide) rfl ?_
        refine o_v (v_pick_t rfl rfl) rfl ?_
        refine o_nil ?_
        refine s_st ?_ (hN4 true hF)
        exact st_le [0] (le_cons rfl (le_cons rfl (le_cons rfl (le_cons rfl le_nil)))) rfl (sub_cons 0 rfl sub_nil)
      · replace hF := ite_f h14 hF
        refine o_on rfl rfl ?_
        refine o_v (v_fieldAddr (v := .pointer (some ⟨b, 1, none⟩)) rfl (fun _ => by kernel_rfl)) rfl ?_
        refine o_on rfl rfl ?_
        refine o_v (v_load_box 0 ty3 rfl rfl rfl rfl rfl) rfl ?_
        refine o_on rfl rfl ?_
        refine o_v (v_bin rfl rfl rfl) rfl ?_
        refine o_v (v_pick_f rfl rfl) rfl ?_
        refine o_v (v_move rfl) rfl ?_
        refine o_split (t := 20) rfl (fun h15 => ?_) (fun h15 => ?_)
        · replace hF := ite_t h15 hF
          refine o_off rfl rfl (by decide) rfl ?_
          refine o_off rfl rfl (by decide) rfl ?_
          refine o_off rfl rfl (by decide) rfl ?_
          refine o_off rfl rfl (by decide) rfl ?_
          refine o_off rfl rfl (by decide) rfl ?_
          refine o_v (v_pick_t rfl rfl) rfl ?_
          refine o_v (v_move rfl) rfl ?_
          refine o_off rfl rfl (by decide) rfl ?_
          refine o_off rfl rfl (by decide) rfl ?_
          refine o_off rfl rfl (by decide) rfl ?_
          refine o_off rfl rfl (by decide) rfl ?_
          refine o_v (v_pick_t rfl rfl) rfl ?_
          refine o_nil ?_
          refine s_st ?_ (hN4 true hF)
          exact st_le [0] (le_cons rfl (le_cons rfl (le_cons rfl (le_cons rfl le_nil)))) rfl (sub_cons 0 rfl sub_nil)
        · replace hF := ite_f h15 hF
          refine o_on rfl rfl ?_
          refine o_v (v_fieldAddr (v := .pointer (some ⟨b, 1, none⟩)) rfl (fun _ => by kernel_rfl)) rfl ?_
          refine o_on rfl rfl ?_
          refine o_v (v_load_box 0 ty3 rfl rfl rfl rfl rfl) rfl ?_
          refine o_on rfl rfl ?_
          refine o_v (v_fieldAddr (v := .pointer (some ⟨b, 0, none⟩)) rfl (fun _ => by kernel_rfl)) rfl ?_
          refine o_on rfl rfl ?_
          refine o_v (v_load_box 0 ty3 rfl rfl rfl rfl rfl) rfl ?_
          refine o_on rfl rfl ?_
          refine o_v (v_bin rfl rfl rfl) rfl ?_
          refine o_v (v_pick_f rfl rfl) rfl ?_
          refine o_v (v_move rfl) rfl ?_
          refine o_split (t := 27) rfl (fun h16 => ?_) (fun h16 => ?_)
          · replace hF := ite_t h16 hF
            refine o_off rfl rfl (by decide) rfl ?_
            refine o_off rfl rfl (by decide) rfl ?_
            refine o_off rfl rfl (by decide) rfl ?_
            refine o_off rfl rfl (by decide) rfl ?_
            refine o_v (v_pick_t rfl rfl) rfl ?_
            refine o_nil ?_
            refine s_st ?_ (hN4 true hF)
            exact st_le [0] (le_cons rfl (le_cons rfl (le_cons rfl (le_cons rfl le_nil)))) rfl (sub_cons 0 rfl sub_nil)
          · replace hF := ite_f h16 hF
            refine o_on rfl rfl ?_
            refine o_v (v_fieldAddr (v := .pointer (some ⟨b, 2, none⟩)) rfl (fun _ => by kernel_rfl)) rfl ?_
            refine o_on rfl rfl ?_
            refine o_v (v_load_box 0 ty22 rfl rfl rfl rfl rfl) rfl ?_
            refine o_on rfl rfl ?_
            refine o_v (v_lenS (enc := eRule) g_.Rules sl22 rfl (.f 0 rfl)) rfl ?_
            refine o_on rfl rfl ?_
            refine o_v (v_bin rfl rfl rfl) rfl ?_
            refine o_v (v_pick_f rfl rfl) rfl ?_
            refine o_nil ?_
            refine s_st ?_ (hN4 (decide (8192 < (g_.Rules.length : Int))) hF)
            exact st_le [0] (le_cons rfl (le_cons rfl (le_cons rfl (le_cons rfl le_nil)))) rfl (sub_cons 0 rfl sub_nil)
  · intro t32 hF
    unfold F.ref06.Right_j1 at hF
    refine sat_wc ?_
    refine c_cond rfl (fun h1 => ?_) (fun h1 => ?_)
    · replace hF := ite_t h1 hF
      refine c_seq ?_
      refine c_region ?_
      refine o_v (v_assign rfl) rfl ?_
      refine o_seq ?_
      refine c_ret ?_
      cases hF
      refine s_ret1 rfl (r_tmp rfl) fun a w hs => ?_
      exact fin_sel hs [] ⟨rfl, rfl, rfl⟩ rfl sub_nil
    · replace hF := ite_f h1 hF
      refine c_skip ?_
      refine sat_wc ?_
      refine c_seq ?_
      refine c_seq ?_
      refine c_region ?_
      refine o_v (v_assign rfl) rfl ?_
      refine o_seq ?_
      obtain ⟨o2, ho2, hF⟩ := bd hF
      refine c_cut (fun E N' => ∀ (d2 : Unit), o2 = .done d2 → Sat E [(0, .agg #[.int .i64 g_.Nts, .int .i64 g_.Start, .slice sa1 sn1 sc1]), (1, .pointer (some ⟨b, 0, none⟩)), (2, .int .i64 0)] [.box b 24 [.int .i64 g_.Nts, .int .i64 g_.Start, .slice sa1 sn1 sc1]] [(.slice sa1 sn1 sc1, .slice 2 (g_.Rules.map eRule))] N') (fun N2 hN2 => ?_) ?_
      · refine c_block ?_
        refine c_loopE (fun E j a w => ∃ (i : Int), F.ref06.Right_l2 k g_ j i = some o2 ∧ St E [(0, .agg #[.int .i64 g_.Nts, .int .i64 g_.Start, .slice sa1 sn1 sc1]), (1, .pointer (some ⟨b, 0, none⟩)), (2, .int .i64 0), (3, .int .i64 i)] [.box b 24 [.int .i64 g_.Nts, .int .i64 g_.Start, .slice sa1 sn1 sc1]] [(.slice sa1 sn1 sc1, .slice 2 (g_.Rules.map eRule))] a w) k ?_ ?_
        · intro a w hs
          exact ⟨0, ho2, st_le [0] (le_cons rfl (le_cons rfl (le_cons rfl (le_cons rfl le_nil)))) rfl (sub_cons 0 rfl sub_nil) a w hs⟩
        · rintro j a w ⟨i, hL2, hs⟩
          cases j with
          | zero => cases hL2
          | succ j =>
            refine wc_app hs ?_
            unfold F.ref06.Right_l2 at hL2
            refine c_seq ?_
            refine c_seq ?_
            refine c_region ?_
            refine o_v (v_move rfl) rfl ?_
            refine o_v (v_fieldAddr (v := .pointer (some ⟨b, 2, none⟩)) rfl (fun _ => by kernel_rfl)) rfl ?_
            refine o_v (v_load_box 0 ty22 rfl rfl rfl rfl rfl) rfl ?_
            refine o_v (v_lenS (enc := eRule) g_.Rules sl22 rfl (.f 0 rfl)) rfl ?_
            refine o_v (v_bin rfl rfl rfl) rfl ?_
            refine o_seq ?_
            refine c_cond rfl (fun h2 => ?_) (fun h2 => ?_)
            · replace hL2 := ite_t h2 hL2
              refine c_skip ?_
              refine sat_wc ?_
              refine c_seq ?_
              refine c_block ?_
              refine c_seq ?_
              refine c_region ?_
              refine o_v (v_fieldAddr (v := .pointer (some ⟨b, 2, none⟩)) rfl (fun _ => by kernel_rfl)) rfl ?_
              refine o_v (v_load_box 0 ty22 rfl rfl rfl rfl rfl) rfl ?_
              refine o_v (v_move rfl) rfl ?_
              refine ite_some hL2 fun h3 hL2 => ?_
              refine o_v (v_indexAddr_s (xs := g_.Rules) (enc := eRule) sl22 rfl rfl (.f 0 rfl) h3) rfl ?_
              refine o_load_s (xs := g_.Rules) (enc := eRule) ty52 rfl (.f 0 rfl) h3 rfl rfl rfl rfl rfl rfl fun sa2 sn2 sc2 => ?_
              refine o_alloc zero52 rfl rfl fun b1 => ?_
              refine o_store_box 0 rfl ty52 rfl rfl rfl rfl rfl rfl rfl ?_
              refine o_seq ?_
              refine c_seq ?_
              refine c_seq ?_
              refine c_region ?_
              refine o_v (v_fieldAddr (v := .pointer (some ⟨b1, 0, none⟩)) rfl (fun _ => by kernel_rfl)) rfl ?_
              refine o_v (v_load_box 0 ty3 rfl rfl rfl rfl rfl) rfl ?_
              refine o_v (v_bin rfl rfl rfl) rfl ?_
              refine o_v (v_move rfl) rfl ?_
              refine o_split (t := 48) rfl (fun h4 => ?_) (fun h4 => ?_)
              · replace hL2 := ite_t h4 hL2
                refine o_off rfl rfl (by decide) rfl ?_
                refine o_off rfl rfl (by decide) rfl ?_
                refine o_off rfl rfl (by decide) rfl ?_
                refine o_off rfl rfl (by decide) rfl ?_
                refine o_off rfl rfl (by decide) rfl ?_
                refine o_v (v_pick_t rfl rfl) rfl ?_
                refine o_v (v_move rfl) rfl ?_
                refine o_off rfl rfl (by decide) rfl ?_
                refine o_off rfl rfl (by decide) rfl ?_
                refine o_off rfl rfl (by decide) rfl ?_
                refine o_off rfl rfl (by decide) rfl ?_
                refine o_v (v_pick_t rfl rfl) rfl ?_
                refine o_seq ?_
                refine c_cond rfl (fun _ => ?_) (fun h => Bool.noConfusion h)
                refine c_seq ?_
                refine c_region ?_
                refine o_v (v_assign rfl) rfl ?_
                refine o_seq ?_
                refine c_ret ?_
                cases hL2
                obtain rfl := lrf_ret hF
                refine s_ret1 rfl (r_tmp rfl) fun a w hs => ?_
                exact fin_sel hs [] ⟨rfl, rfl, rfl⟩ rfl sub_nil
              · replace hL2 := ite_f h4 hL2
                refine o_on rfl rfl ?_
                refine o_v (v_fieldAddr (v := .pointer (some ⟨b1, 0, none⟩)) rfl (fun _ => by kernel_rfl)) rfl ?_
                refine o_on rfl rfl ?_
                refine o_v (v_load_box 0 ty3 rfl rfl rfl rfl rfl) rfl ?_
                refine o_on rfl rfl ?_
                refine o_v (v_fieldAddr (v := .pointer (some ⟨b, 0, none⟩)) rfl (fun _ => by kernel_rfl)) rfl ?_
                refine o_on rfl rfl ?_
                refine o_v (v_load_box 1 ty3 rfl rfl rfl rfl rfl) rfl ?_
                refine o_on rfl rfl ?_
                refine o_v (v_bin rfl rfl rfl) rfl ?_
                refine o_v (v_pick_f rfl rfl) rfl ?_
                refine o_v (v_move rfl) rfl ?_
                refine o_split (t := 55) rfl (fun h5 => ?_) (fun h5 => ?_)
                · replace hL2 := ite_t h5 hL2
                  refine o_off rfl rfl (by decide) rfl ?_
                  refine o_off rfl rfl (by decide) rfl ?_
                  refine o_off rfl rfl (by decide) rfl ?_
                  refine o_off rfl rfl (by decide) rfl ?_
                  refine o_v (v_pick_t rfl rfl) rfl ?_
                  refine o_seq ?_
                  refine c_cond rfl (fun _ => ?_) (fun h => Bool.noConfusion h)
                  refine c_seq ?_
                  refine c_region ?_
                  refine o_v (v_assign rfl) rfl ?_
                  refine o_seq ?_
                  refine c_ret ?_
                  cases hL2
                  obtain rfl := lrf_ret hF
                  refine s_ret1 rfl (r_tmp rfl) fun a w hs => ?_
                  exact fin_sel hs [] ⟨rfl, rfl, rfl⟩ rfl sub_nil
                · replace hL2 := ite_f h5 hL2
                  refine o_on rfl rfl ?_
                  refine o_v (v_fieldAddr (v := .pointer (some ⟨b1, 1, none⟩)) rfl (fun _ => by kernel_rfl)) rfl ?_
                  refine o_on rfl rfl ?_
                  refine o_v (v_load_box 0 ty50 rfl rfl rfl rfl rfl) rfl ?_
                  refine o_on rfl rfl ?_
                  refine o_v (v_lenS (enc := eKSym) ((at_ g_.Rules i).Rhs) sl50 rfl (.f 0 rfl)) rfl ?_
                  refine o_on rfl rfl ?_
                  refine o_v (v_bin rfl rfl rfl) rfl ?_
                  refine o_v (v_pick_f rfl rfl) rfl ?_
                  refine o_seq ?_
                  refine c_cond rfl (fun h6 => ?_) (fun h6 => ?_)
                  · replace hL2 := ite_t h6 hL2
                    refine c_seq ?_
                    refine c_region ?_
                    refine o_v (v_assign rfl) rfl ?_
                    refine o_seq ?_
                    refine c_ret ?_
                    cases hL2
                    obtain rfl := lrf_ret hF
                    refine s_ret1 rfl (r_tmp rfl) fun a w hs => ?_
                    exact fin_sel hs [] ⟨rfl, rfl, rfl⟩ rfl sub_nil
                  · replace hL2 := ite_f h6 hL2
                    refine c_skip ?_
                    refine sat_wc ?_
                    refine c_seq ?_
                    refine c_region ?_
                    refine o_v (v_assign rfl) rfl ?_
                    refine o_seq ?_
                    obtain ⟨o3, ho3, hL2⟩ := bd hL2
                    refine c_cut (fun E N' => ∀ (d3 : Int), o3 = .done d3 → Sat E [(0, .agg #[.int .i64 g_.Nts, .int .i64 g_.Start, .slice sa1 sn1 sc1]), (1, .pointer (some ⟨b, 0, none⟩)), (2, .int .i64 0), (3, .int .i64 i), (4, .pointer (some ⟨b1, 0, none⟩)), (5, .int .i64 d3)] [.box b1 52 [.int .i64 ((at_ g_.Rules i).Lhs), .slice sa2 sn2 sc2], .box b 24 [.int .i64 g_.Nts, .int .i64 g_.Start, .slice sa1 sn1 sc1]] [(.slice sa1 sn1 sc1, .slice 2 (g_.Rules.map eRule)), (.slice sa2 sn2 sc2, .slice 5 (((at_ g_.Rules i).Rhs).map eKSym))] N') (fun N3 hN3 => ?_) ?_
                    · refine c_block ?_
                      refine c_loopE (fun E j a w => ∃ (k_ : Int), F.ref06.Right_l3 g_ i j k_ = some o3 ∧ St E [(0, .agg #[.int .i64 g_.Nts, .int .i64 g_.Start, .slice sa1 sn1 sc1]), (1, .pointer (some ⟨b, 0, none⟩)), (2, .int .i64 0), (3, .int .i64 i), (4, .pointer (some ⟨b1, 0, none⟩)), (5, .int .i64 k_)] [.box b1 52 [.int .i64 ((at_ g_.Rules i).Lhs), .slice sa2 sn2 sc2], .box b 24 [.int .i64 g_.Nts, .int .i64 g_.Start, .slice sa1 sn1 sc1]] [(.slice sa1 sn1 sc1, .slice 2 (g_.Rules.map eRule)), (.slice sa2 sn2 sc2, .slice 5 (((at_ g_.Rules i).Rhs).map eKSym))] a w) k ?_ ?_
                      · intro a w hs
                        exact ⟨0, ho3, st_le [0, 0] (le_cons rfl (le_cons rfl (le_cons rfl (le_cons rfl (le_cons rfl (le_cons rfl le_nil)))))) rfl (sub_cons 1 rfl (sub_cons 0 rfl sub_nil)) a w hs⟩
                      · rintro j a w ⟨k_, hL3, hs⟩
                        cases j with
                        | zero => cases hL3
                        | succ j =>
                          refine wc_app hs ?_
                          unfold F.ref06.Right_l3 at hL3
                          refine c_seq ?_
                          refine c_seq ?_
                          refine c_region ?_
                          refine o_v (v_move rfl) rfl ?_
                          refine o_v (v_fieldAddr (v := .pointer (some ⟨b1, 1, none⟩)) rfl (fun _ => by kernel_rfl)) rfl ?_
                          refine o_v (v_load_box 0 ty50 rfl rfl rfl rfl rfl) rfl ?_
                          refine o_v (v_lenS (enc := eKSym) ((at_ g_.Rules i).Rhs) sl50 rfl (.f 1 rfl)) rfl ?_
                          refine o_v (v_bin rfl rfl rfl) rfl ?_
                          refine o_seq ?_
                          refine c_cond rfl (fun h7 => ?_) (fun h7 => ?_)
                          · replace hL3 := ite_t h7 hL3
                            refine c_skip ?_
                            refine sat_wc ?_
                            refine c_seq ?_
                            refine c_block ?_
                            refine c_seq ?_
                            refine c_region ?_
                            refine o_v (v_fieldAddr (v := .pointer (some ⟨b1, 1, none⟩)) rfl (fun _ => by kernel_rfl)) rfl ?_
                            refine o_v (v_load_box 0 ty50 rfl rfl rfl rfl rfl) rfl ?_
                            refine o_v (v_move rfl) rfl ?_
                            refine ite_some hL3 fun h8 hL3 => ?_
                            refine o_v (v_indexAddr_s (xs := (at_ g_.Rules i).Rhs) (enc := eKSym) sl50 rfl rfl (.f 1 rfl) h8) rfl ?_
                            refine o_v (v_load_s (xs := (at_ g_.Rules i).Rhs) (enc := eKSym) ty90 rfl (.f 1 rfl) h8 rfl rfl rfl rfl rfl rfl rfl) rfl ?_
                            refine o_alloc zero90 rfl rfl fun b2 => ?_
                            refine o_store_box 0 rfl ty90 rfl rfl rfl rfl rfl rfl rfl ?_
                            refine o_seq ?_
                            refine c_seq ?_
                            refine c_cut (fun E N' => ∀ (t93 : Bool), F.ref06.Right_j4 (F.ref06.Right_l3 g_ i j) k_ t93 = some o3 → Sat E [(0, .agg #[.int .i64 g_.Nts, .int .i64 g_.Start, .slice sa1 sn1 sc1]), (1, .pointer (some ⟨b, 0, none⟩)), (2, .int .i64 0), (3, .int .i64 i), (4, .pointer (some ⟨b1, 0, none⟩)), (5, .int .i64 k_), (6, .pointer (some ⟨b2, 0, none⟩)), (93, .bool t93)] [.box b2 90 [.int .i64 ((at_ ((at_ g_.Rules i).Rhs) k_).Nt), .int .u64 ((at_ ((at_ g_.Rules i).Rhs) k_).Set.w0), .int .u64 ((at_ ((at_ g_.Rules i).Rhs) k_).Set.w1), .int .u64 ((at_ ((at_ g_.Rules i).Rhs) k_).Set.w2), .int .u64 ((at_ ((at_ g_.Rules i).Rhs) k_).Set.w3)], .box b1 52 [.int .i64 ((at_ g_.Rules i).Lhs), .slice sa2 sn2 sc2], .box b 24 [.int .i64 g_.Nts, .int .i64 g_.Start, .slice sa1 sn1 sc1]] [(.slice sa1 sn1 sc1, .slice 2 (g_.Rules.map eRule)), (.slice sa2 sn2 sc2, .slice 5 (((at_ g_.Rules i).Rhs).map eKSym))] N') (fun N4 hN4 => ?_) ?_
                            · refine c_region ?_
                              refine o_v (v_fieldAddr (v := .pointer (some ⟨b2, 0, none⟩)) rfl (fun _ => by kernel_rfl)) rfl ?_
                              refine o_v (v_load_box 0 ty3 rfl rfl rfl rfl rfl) rfl ?_
                              refine o_v (v_bin rfl rfl rfl) rfl ?_
                              refine o_v (v_move rfl) rfl ?_
                              refine o_split (t := 76) rfl (fun h10 => ?_) (fun h10 => ?_)
                              · replace hL3 := ite_t h10 hL3
                                refine o_on rfl rfl ?_
                                refine o_v (v_fieldAddr (v := .pointer (some ⟨b2, 0, none⟩)) rfl (fun _ => by kernel_rfl)) rfl ?_
                                refine o_on rfl rfl ?_
                                refine o_v (v_load_box 0 ty3 rfl rfl rfl rfl rfl) rfl ?_
                                refine o_on rfl rfl ?_
                                refine o_v (v_bin rfl rfl rfl) rfl ?_
                                refine o_on rfl rfl ?_
                                refine o_v (v_move rfl) rfl ?_
                                refine o_split (t := 80) rfl (fun h11 => ?_) (fun h11 => ?_)
                                · replace hL3 := ite_t h11 hL3
                                  refine o_off rfl rfl (by decide) rfl ?_
                                  refine o_off rfl rfl (by decide) rfl ?_
                                  refine o_off rfl rfl (by decide) rfl ?_
                                  refine o_off rfl rfl (by decide) rfl ?_
                                  refine o_off rfl rfl (by decide) rfl ?_
                                  refine o_on rfl rfl ?_
                                  refine o_v (v_pick_t rfl rfl) rfl ?_
                                  refine o_on rfl rfl ?_
                                  refine o_v (v_move rfl) rfl ?_
                                  refine o_off rfl rfl (by decide) rfl ?_
                                  refine o_off rfl rfl (by decide) rfl ?_
                                  refine o_off rfl rfl (by decide) rfl ?_
                                  refine o_off rfl rfl (by decide) rfl ?_
                                  refine o_on rfl rfl ?_
                                  refine o_v (v_pick_t rfl rfl) rfl ?_
                                  refine o_v (v_pick_t rfl rfl) rfl ?_
                                  refine o_nil ?_
                                  refine s_st ?_ (hN4 true hL3)
                                  exact st_le [0, 0, 0] (le_cons rfl (le_cons rfl (le_cons rfl (le_cons rfl (le_cons rfl (le_cons rfl (le_cons rfl (le_cons rfl le_nil)))))))) rfl (sub_cons 0 rfl (sub_cons 1 rfl sub_nil))
                                · replace hL3 := ite_f h11 hL3
                                  refine o_on rfl rfl ?_
                                  refine o_v (v_fieldAddr (v := .pointer (some ⟨b2, 0, none⟩)) rfl (fun _ => by kernel_rfl)) rfl ?_
                                  refine o_on rfl rfl ?_
                                  refine o_v (v_load_box 0 ty3 rfl rfl rfl rfl rfl) rfl ?_
                                  refine o_on rfl rfl ?_
                                  refine o_v (v_fieldAddr (v := .pointer (some ⟨b, 0, none⟩)) rfl (fun _ => by kernel_rfl)) rfl ?_
                                  refine o_on rfl rfl ?_
                                  refine o_v (v_load_box 2 ty3 rfl rfl rfl rfl rfl) rfl ?_
                                  refine o_on rfl rfl ?_
                                  refine o_v (v_bin rfl rfl rfl) rfl ?_
                                  refine o_on rfl rfl ?_
                                  refine o_v (v_pick_f rfl rfl) rfl ?_
                                  refine o_on rfl rfl ?_
                                  refine o_v (v_move rfl) rfl ?_
                                  refine o_split (t := 87) rfl (fun h12 => ?_) (fun h12 => ?_)
                                  · replace hL3 := ite_t h12 hL3
                                    refine o_off rfl rfl (by decide) rfl ?_
                                    refine o_off rfl rfl (by decide) rfl ?_
                                    refine o_off rfl rfl (by decide) rfl ?_
                                    refine o_off rfl rfl (by decide) rfl ?_
                                    refine o_on rfl rfl ?_
                                    refine o_v (v_pick_t rfl rfl) rfl ?_
                                    refine o_v (v_pick_t rfl rfl) rfl ?_
                                    refine o_nil ?_
                                    refine s_st ?_ (hN4 true hL3)
                                    exact st_le [0, 0, 0] (le_cons rfl (le_cons rfl (le_cons rfl (le_cons rfl (le_cons rfl (le_cons rfl (le_cons rfl (le_cons rfl le_nil)))))))) rfl (sub_cons 0 rfl (sub_cons 1 rfl sub_nil))
                                  · replace hL3 := ite_f h12 hL3
                                    refine o_on rfl rfl ?_
                                    refine o_v (v_fieldAddr (v := .pointer (some ⟨b2, 1, none⟩)) rfl (fun _ => by kernel_rfl)) rfl ?_
                                    refine o_on rfl rfl ?_
                                    refine o_v (v_load_box 0 ty88 rfl rfl rfl rfl rfl) rfl ?_
                                    refine o_on rfl rfl ?_
                                    refine o_v (v_build (v := .agg #[.int .u64 0, .int .u64 0, .int .u64 0, .int .u64 0]) rfl (fun _ => by kernel_rfl)) rfl ?_
                                    refine o_on rfl rfl ?_
                                    refine o_v (v_agne 2 rfl rfl (eq88 ((at_ ((at_ g_.Rules i).Rhs) k_).Set.w0) ((at_ ((at_ g_.Rules i).Rhs) k_).Set.w1) ((at_ ((at_ g_.Rules i).Rhs) k_).Set.w2) ((at_ ((at_ g_.Rules i).Rhs) k_).Set.w3) 0 0 0 0) rfl guard88) rfl ?_
                                    refine o_on rfl rfl ?_
                                    refine o_v (v_pick_f rfl rfl) rfl ?_
                                    refine o_v (v_pick_t rfl rfl) rfl ?_
                                    refine o_nil ?_
                                    refine s_st ?_ (hN4 (!(S4.eq (S4.mk ((at_ ((at_ g_.Rules i).Rhs) k_).Set.w0) ((at_ ((at_ g_.Rules i).Rhs) k_).Set.w1) ((at_ ((at_ g_.Rules i).Rhs) k_).Set.w2) ((at_ ((at_ g_.Rules i).Rhs) k_).Set.w3)) (S4.mk 0 0 0 0))) hL3)
                                    exact st_le [0, 0, 0] (le_cons rfl (le_cons rfl (le_cons rfl (le_cons rfl (le_cons rfl (le_cons rfl (le_cons rfl (le_cons rfl le_nil)))))))) rfl (sub_cons 0 rfl (sub_cons 1 rfl sub_nil))
                              · replace hL3 := ite_f h10 hL3
                                refine o_off rfl rfl (by decide) rfl ?_
                                refine o_off rfl rfl (by decide) rfl ?_
                                refine o_off rfl rfl (by decide) rfl ?_
                                refine o_off rfl rfl (by decide) rfl ?_
                                refine o_offU rfl rfl rfl ?_
                                refine o_offU rfl rfl rfl ?_
                                refine o_offU rfl rfl rfl ?_
                                refine o_offU rfl rfl rfl ?_
                                refine o_offU rfl rfl rfl ?_
                                refine o_off rfl rfl (by decide) rfl ?_
                                refine o_off rfl rfl (by decide) rfl ?_
                                refine o_offU rfl rfl rfl ?_
                                refine o_offU rfl rfl rfl ?_
                                refine o_offU rfl rfl rfl ?_
                                refine o_offU rfl rfl rfl ?_
                                refine o_off rfl rfl (by decide) rfl ?_
                                refine o_v (v_pick_f rfl rfl) rfl ?_
                                refine o_nil ?_
                                refine s_st ?_ (hN4 false hL3)
                                exact st_le [0, 0, 0] (le_cons rfl (le_cons rfl (le_cons rfl (le_cons rfl (le_cons rfl (le_cons rfl (le_cons rfl (le_cons rfl le_nil)))))))) rfl (sub_cons 0 rfl (sub_cons 1 rfl sub_nil))
                            · intro t93 hL3
                              unfold F.ref06.Right_j4 at hL3
                              refine sat_wc ?_
                              refine c_cond rfl (fun h9 => ?_) (fun h9 => ?_)
                              · replace hL3 := ite_t h9 hL3
                                refine c_seq ?_
                                refine c_region ?_
                                refine o_v (v_assign rfl) rfl ?_
                                refine o_seq ?_
                                refine c_ret ?_
                                cases hL3
                                obtain rfl := lr_ret hL2
                                obtain rfl := lrf_ret hF
                                refine s_ret1 rfl (r_tmp rfl) fun a w hs => ?_
                                exact fin_sel hs [] ⟨rfl, rfl, rfl⟩ rfl sub_nil
                              · replace hL3 := ite_f h9 hL3
                                refine c_skip ?_
                                refine sat_wc ?_
                                refine c_region ?_
                                refine o_v (v_move rfl) rfl ?_
                                refine o_v (v_bin rfl rfl rfl) rfl ?_
                                refine o_v (v_assign rfl) rfl ?_
                                refine o_nil ?_
                                intro a w hs
                                exact ⟨j, Nat.lt_succ_self j, IntKind.wrap .i64 (k_ + 1), hL3, st_le [1, 1] (le_cons rfl (le_cons rfl (le_cons rfl (le_cons rfl (le_cons rfl (le_cons rfl le_nil)))))) rfl (sub_cons 0 rfl (sub_cons 1 rfl sub_nil)) a w hs⟩
                          · replace hL3 := ite_f h7 hL3
                            refine c_exit0 ?_
                            cases hL3
                            refine s_st ?_ (hN3 k_ rfl)
                            exact st_le [0, 0] (le_cons rfl (le_cons rfl (le_cons rfl (le_cons rfl (le_cons rfl (le_cons rfl le_nil)))))) rfl (sub_cons 0 rfl (sub_cons 1 rfl sub_nil))
                    · intro d3 hd
                      subst hd
                      replace hL2 := lr_done hL2
                      refine sat_wc ?_
                      refine c_region ?_
                      refine o_v (v_move rfl) rfl ?_
                      refine o_v (v_bin rfl rfl rfl) rfl ?_
                      refine o_v (v_assign rfl) rfl ?_
                      refine o_nil ?_
                      intro a w hs
                      exact ⟨j, Nat.lt_succ_self j, IntKind.wrap .i64 (i + 1), hL2, st_le [1] (le_cons rfl (le_cons rfl (le_cons rfl (le_cons rfl le_nil)))) rfl (sub_cons 0 rfl sub_nil) a w hs⟩
            · replace hL2 := ite_f h2 hL2
              refine c_exit0 ?_
              cases hL2
              refine s_st ?_ (hN2 () rfl)
              exact st_le [0] (le_cons rfl (le_cons rfl (le_cons rfl le_nil))) rfl (sub_cons 0 rfl sub_nil)
      · intro d2 hd
        subst hd
        replace hF := lrf_done hF
        refine sat_wc ?_
        refine c_seq ?_
        refine c_region ?_
        refine o_v (v_assign rfl) rfl ?_
        refine o_seq ?_
        refine c_ret ?_
        cases hF
        refine s_ret1 rfl (r_tmp rfl) fun a w hs => ?_
        exact fin_sel hs [] ⟨rfl, rfl, rfl⟩ rfl sub_nil
theorem tri59 (k : Nat) (s : S4) (n : Int) (r : Bool) (hF : F.ref01.Has k s n = some r) :
    Tri Tryd.prog 59 [.agg #[.int .u64 s.w0, .int .u64 s.w1, .int .u64 s.w2, .int .u64 s.w3], .int .i64 n] [] [] (fun o H Φ => o = .ret (.bool r) ∧ H = [] ∧ Φ = []) := by
  unfold F.ref01.Has at hF
  refine tri_intro (n := 40) Tryd.func59 rfl Tryd.ntmps59 rfl fun w X => ?_
  refine c_seq ?_
  refine c_region ?_
  refine o_box rfl rfl rfl fun b => ?_
  refine o_v (v_assign rfl) rfl ?_
  refine o_seq ?_
  refine c_seq ?_
  refine c_seq ?_
  refine c_region ?_
  refine o_v (v_move rfl) rfl ?_
  refine o_v (v_bin rfl rfl rfl) rfl ?_
  refine o_v (v_move rfl) rfl ?_
  refine o_split (t := 9) rfl (fun h1 => ?_) (fun h1 => ?_)
  · replace hF := ite_t h1 hF
    refine o_off rfl rfl (by decide) rfl ?_
    refine o_off rfl rfl (by decide) rfl ?_
    refine o_v (v_pick_t rfl rfl) rfl ?_
    refine o_seq ?_
    refine c_cond rfl (fun _ => ?_) (fun h => Bool.noConfusion h)
    refine c_seq ?_
    refine c_region ?_
    refine o_v (v_assign rfl) rfl ?_
    refine o_seq ?_
    refine c_ret ?_
    cases hF
    refine s_ret1 rfl (r_tmp rfl) fun a w hs => ?_
    exact fin_sel hs [] ⟨rfl, rfl, rfl⟩ rfl sub_nil
  · replace hF := ite_f h1 hF
    refine o_on rfl rfl ?_
    refine o_v (v_move rfl) rfl ?_
    refine o_on rfl rfl ?_
    refine o_v (v_bin rfl rfl rfl) rfl ?_
    refine o_v (v_pick_f rfl rfl) rfl ?_
    refine o_seq ?_
    refine c_cond rfl (fun h2 => ?_) (fun h2 => ?_)
    · replace hF := ite_t h2 hF
      refine c_seq ?_
      refine c_region ?_
      refine o_v (v_assign rfl) rfl ?_
      refine o_seq ?_
      refine c_ret ?_
      cases hF
      refine s_ret1 rfl (r_tmp rfl) fun a w hs => ?_
      exact fin_sel hs [] ⟨rfl, rfl, rfl⟩ rfl sub_nil
    · replace hF := ite_f h2 hF
      refine c_skip ?_
      refine sat_wc ?_
      refine c_seq ?_
      refine c_region ?_
      refine o_v (v_indexAddr_a ar88 rfl rfl rfl) rfl ?_
      refine o_v (v_load_box 0 ty86 rfl rfl rfl rfl rfl) rfl ?_
      refine o_v (v_assign rfl) rfl ?_
      refine o_seq ?_
      refine c_seq ?_
      refine c_seq ?_
      refine c_region ?_
      refine o_v (v_move rfl) rfl ?_
      refine o_v (v_quo rfl rfl rfl) rfl ?_
      refine o_seq ?_
      refine c_cut (fun E N' => ∀ (w_ : Int), F.ref01.Has_j1 k n w_ = some r → Sat E [(0, .agg #[.int .u64 s.w0, .int .u64 s.w1, .int .u64 s.w2, .int .u64 s.w3]), (1, .int .i64 n), (2, .pointer (some ⟨b, 0, none⟩)), (4, .bool false), (5, .int .u64 w_)] [.box b 88 [.int .u64 s.w0, .int .u64 s.w1, .int .u64 s.w2, .int .u64 s.w3]] [] N') (fun N2 hN2 => ?_) ?_
      · refine c_block ?_
        refine c_seq ?_
        refine c_region ?_
        refine o_v (v_bin rfl rfl rfl) rfl ?_
        refine o_v (v_assign rfl) rfl ?_
        refine o_seq ?_
        refine c_cond rfl (fun h4 => ?_) (fun h4 => ?_)
        · replace hF := ite_t h4 hF
          refine c_region ?_
          refine o_v (v_indexAddr_a ar88 rfl rfl rfl) rfl ?_
          refine o_v (v_load_box 0 ty86 rfl rfl rfl rfl rfl) rfl ?_
          refine o_v (v_assign rfl) rfl ?_
          refine o_nil ?_
          refine s_st ?_ (hN2 s.w1 hF)
          exact st_le [0] (le_cons rfl (le_cons rfl (le_cons rfl (le_cons rfl (le_cons rfl le_nil))))) rfl sub_nil
        · replace hF := ite_f h4 hF
          refine c_seq ?_
          refine c_region ?_
          refine o_v (v_bin rfl rfl rfl) rfl ?_
          refine o_v (v_assign rfl) rfl ?_
          refine o_seq ?_
          refine c_cut (fun E N' => ∀ (w_2 : Int), F.ref01.Has_j3 k n w_2 = some r → Sat E [(0, .agg #[.int .u64 s.w0, .int .u64 s.w1, .int .u64 s.w2, .int .u64 s.w3]), (1, .int .i64 n), (2, .pointer (some ⟨b, 0, none⟩)), (4, .bool false), (5, .int .u64 w_2), (16, .int .i64 (gquo .i64 n 64))] [.box b 88 [.int .u64 s.w0, .int .u64 s.w1, .int .u64 s.w2, .int .u64 s.w3]] [] N') (fun N3 hN3 => ?_) ?_
          · refine c_cond rfl (fun h5 => ?_) (fun h5 => ?_)
            · replace hF := ite_t h5 hF
              refine c_region ?_
              refine o_v (v_indexAddr_a ar88 rfl rfl rfl) rfl ?_
              refine o_v (v_load_box 0 ty86 rfl rfl rfl rfl rfl) rfl ?_
              refine o_v (v_assign rfl) rfl ?_
              refine o_nil ?_
              refine s_st ?_ (hN3 s.w2 hF)
              exact st_le [0] (le_cons rfl (le_cons rfl (le_cons rfl (le_cons rfl (le_cons rfl (le_cons rfl le_nil)))))) rfl sub_nil
            · replace hF := ite_f h5 hF
              refine c_seq ?_
              refine c_region ?_
              refine o_v (v_bin rfl rfl rfl) rfl ?_
              refine o_v (v_assign rfl) rfl ?_
              refine o_seq ?_
              refine c_cond rfl (fun h6 => ?_) (fun h6 => ?_)
              · replace hF := ite_t h6 hF
                refine c_region ?_
                refine o_v (v_indexAddr_a ar88 rfl rfl rfl) rfl ?_
                refine o_v (v_load_box 0 ty86 rfl rfl rfl rfl rfl) rfl ?_
                refine o_v (v_assign rfl) rfl ?_
                refine o_nil ?_
                refine s_st ?_ (hN3 s.w3 hF)
                exact st_le [0] (le_cons rfl (le_cons rfl (le_cons rfl (le_cons rfl (le_cons rfl (le_cons rfl le_nil)))))) rfl sub_nil
              · replace hF := ite_f h6 hF
                refine c_skip ?_
                refine s_st ?_ (hN3 s.w0 hF)
                exact st_le [0] (le_cons rfl (le_cons rfl (le_cons rfl (le_cons rfl (le_cons rfl (le_cons rfl le_nil)))))) rfl sub_nil
          · intro w_2 hF
            unfold F.ref01.Has_j3 at hF
            refine s_st ?_ (hN2 w_2 hF)
            exact st_le [0] (le_cons rfl (le_cons rfl (le_cons rfl (le_cons rfl (le_cons rfl le_nil))))) rfl sub_nil
      · intro w_ hF
        unfold F.ref01.Has_j1 at hF
        refine sat_wc ?_
        refine c_seq ?_
        refine c_seq ?_
        refine c_region ?_
        refine o_v (v_assign rfl) rfl ?_
        refine o_seq ?_
        obtain ⟨o2, ho2, hF⟩ := bd hF
        refine c_cut (fun E N' => Sat E [(0, .agg #[.int .u64 s.w0, .int .u64 s.w1, .int .u64 s.w2, .int .u64 s.w3]), (1, .int .i64 n), (2, .pointer (some ⟨b, 0, none⟩)), (4, .bool false), (5, .int .u64 o2)] [.box b 88 [.int .u64 s.w0, .int .u64 s.w1, .int .u64 s.w2, .int .u64 s.w3]] [] N') (fun N2 hN2 => ?_) ?_
        · refine c_block ?_
          refine c_loopE (fun E j a w => ∃ (w_1 : Int) (i : Int), F.ref01.Has_l2 n j w_1 i = some o2 ∧ St E [(0, .agg #[.int .u64 s.w0, .int .u64 s.w1, .int .u64 s.w2, .int .u64 s.w3]), (1, .int .i64 n), (2, .pointer (some ⟨b, 0, none⟩)), (4, .bool false), (5, .int .u64 w_1), (6, .int .i64 i)] [.box b 88 [.int .u64 s.w0, .int .u64 s.w1, .int .u64 s.w2, .int .u64 s.w3]] [] a w) k ?_ ?_
          · intro a w hs
            exact ⟨w_, 0, ho2, st_le [0] (le_cons rfl (le_cons rfl (le_cons rfl (le_cons rfl (le_cons rfl (le_cons rfl le_nil)))))) rfl sub_nil a w hs⟩
          · rintro j a w ⟨w_1, i, hL2, hs⟩
            cases j with
            | zero => cases hL2
            | succ j =>
              refine wc_app hs ?_
              unfold F.ref01.Has_l2 at hL2
              refine c_seq ?_
              refine c_seq ?_
              refine c_region ?_
              refine o_v (v_move rfl) rfl ?_
              refine o_v (v_move rfl) rfl ?_
              refine o_v (v_rem rfl rfl rfl) rfl ?_
              refine o_v (v_bin rfl rfl rfl) rfl ?_
              refine o_seq ?_
              refine c_cond rfl (fun h3 => ?_) (fun h3 => ?_)
              · replace hL2 := ite_t h3 hL2
                refine c_skip ?_
                refine sat_wc ?_
                refine c_seq ?_
                refine c_block ?_
                refine c_region ?_
                refine o_v (v_move rfl) rfl ?_
                refine o_v (v_quo rfl rfl rfl) rfl ?_
                refine o_v (v_assign rfl) rfl ?_
                refine o_nil ?_
                refine sat_wc ?_
                refine c_region ?_
                refine o_v (v_move rfl) rfl ?_
                refine o_v (v_bin rfl rfl rfl) rfl ?_
                refine o_v (v_assign rfl) rfl ?_
                refine o_nil ?_
                intro a w hs
                exact ⟨j, Nat.lt_succ_self j, gquo .u64 w_1 2, IntKind.wrap .i64 (i + 1), hL2, st_le [0] (le_cons rfl (le_cons rfl (le_cons rfl (le_cons rfl (le_cons rfl (le_cons rfl le_nil)))))) rfl sub_nil a w hs⟩
              · replace hL2 := ite_f h3 hL2
                refine c_exit0 ?_
                cases hL2
                refine s_st ?_ (hN2)
                exact st_le [0] (le_cons rfl (le_cons rfl (le_cons rfl (le_cons rfl (le_cons rfl le_nil))))) rfl sub_nil
        · refine sat_wc ?_
          refine c_seq ?_
          refine c_region ?_
          refine o_v (v_move rfl) rfl ?_
          refine o_v (v_rem rfl rfl rfl) rfl ?_
          refine o_v (v_bin rfl rfl rfl) rfl ?_
          refine o_v (v_assign rfl) rfl ?_
          refine o_seq ?_
          refine c_ret ?_
          cases hF
          refine s_ret1 rfl (r_tmp rfl) fun a w hs => ?_
          exact fin_sel hs [] ⟨rfl, rfl, rfl⟩ rfl sub_nil
theorem tri42_B (k : Nat) (g42 : Gram → Int → Tree → Option Bool)
    (hg42 : ∀ (g_ : Gram) (nt : Int) (t : Tree) (sa1 : Option Addr) (sn1 sc1 : Nat) (sa2 : Option Addr) (sn2 sc2 : Nat) (r : Bool), g42 g_ nt t = some r → Tri Tryd.prog 42 [.agg #[.int .i64 g_.Nts, .int .i64 g_.Start, .slice sa1 sn1 sc1], .int .i64 nt, .agg #[.int .i64 t.Rule, .int .u8 t.Byte, .slice sa2 sn2 sc2]] [] [(.slice sa1 sn1 sc1, .slice 2 (g_.Rules.map eRule)), (.slice sa2 sn2 sc2, .slice 3 (t.Kids.map eTree))] (fun o H Φ => o = .ret (.bool r) ∧ H = [] ∧ Φ = [])) (g_ : Gram) (nt : Int) (t : Tree) (sa1 : Option Addr) (sn1 sc1 : Nat) (sa2 : Option Addr) (sn2 sc2 : Nat) (r : Bool) (hF : F.ref09.Of_B k g42 g_ nt t = some r) :
    Tri Tryd.prog 42 [.agg #[.int .i64 g_.Nts, .int .i64 g_.Start, .slice sa1 sn1 sc1], .int .i64 nt, .agg #[.int .i64 t.Rule, .int .u8 t.Byte, .slice sa2 sn2 sc2]] [] [(.slice sa1 sn1 sc1, .slice 2 (g_.Rules.map eRule)), (.slice sa2 sn2 sc2, .slice 3 (t.Kids.map eTree))] (fun o H Φ => o = .ret (.bool r) ∧ H = [] ∧ Φ = []) := by
  unfold F.ref09.Of_B at hF
  refine tri_intro (n := 121) Tryd.func42 rfl Tryd.ntmps42 rfl fun w X => ?_
  refine c_seq ?_
  refine c_region ?_
  refine o_box rfl rfl rfl fun b => ?_
  refine o_box rfl rfl rfl fun b1 => ?_
  refine o_v (v_assign rfl) rfl ?_
  refine o_seq ?_
  refine c_seq ?_
  refine c_seq ?_
  refine c_cut (fun E N' => ∀ (t50 : Bool), F.ref09.Of_j1 k t g_ g42 t50 = some r → Sat E [(0, .agg #[.int .i64 g_.Nts, .int .i64 g_.Start, .slice sa1 sn1 sc1]), (2, .agg #[.int .i64 t.Rule, .int .u8 t.Byte, .slice sa2 sn2 sc2]), (3, .pointer (some ⟨b, 0, none⟩)), (5, .pointer (some ⟨b1, 0, none⟩)), (6, .bool false), (50, .bool t50)] [.box b1 27 [.int .i64 t.Rule, .int .u8 t.Byte, .slice sa2 sn2 sc2], .box b 24 [.int .i64 g_.Nts, .int .i64 g_.Start, .slice sa1 sn1 sc1]] [(.slice sa1 sn1 sc1, .slice 2 (g_.Rules.map eRule)), (.slice sa2 sn2 sc2, .slice 3 (t.Kids.map eTree))] N') (fun N5 hN5 => ?_) ?_
  · refine c_draw (n := 41) [0, 0] mixed rfl rfl ?_
    refine d_val 0 rfl pnok (by kernel_rfl) (by kernel_rfl) (by kernel_rfl) rfl (v_fieldAddr (v := .pointer (some ⟨b1, 1, none⟩)) rfl (fun _ => by kernel_rfl)) ?_
    refine d_val 1 rfl pnok (by kernel_rfl) (by kernel_rfl) (by kernel_rfl) rfl (v_load_box 0 ty5 rfl rfl rfl rfl rfl) ?_
    refine d_val 2 rfl pnok (by kernel_rfl) (by kernel_rfl) (by kernel_rfl) rfl (v_bin rfl rfl rfl) ?_
    refine d_val 3 rfl pnok (by kernel_rfl) (by kernel_rfl) (by kernel_rfl) rfl (v_move rfl) ?_
    refine d_split (t := 13) rfl (fun h18 => ?_) (fun h18 => ?_)
    · replace hF := ite_t h18 hF
      refine d_off 4 rfl rfl rfl (by decide) pnok (by kernel_rfl) (by kernel_rfl) (by kernel_rfl) rfl ?_
      refine d_off 5 rfl rfl rfl (by decide) pnok (by kernel_rfl) (by kernel_rfl) (by kernel_rfl) rfl ?_
      refine d_off 6 rfl rfl rfl (by decide) pnok (by kernel_rfl) (by kernel_rfl) (by kernel_rfl) rfl ?_
      refine d_val 7 rfl pnok (by kernel_rfl) (by kernel_rfl) (by kernel_rfl) rfl (v_pick_t rfl rfl) ?_
      refine d_val 8 rfl pnok (by kernel_rfl) (by kernel_rfl) (by kernel_rfl) rfl (v_move rfl) ?_
      refine d_off 9 rfl rfl rfl (by decide) pnok (by kernel_rfl) (by kernel_rfl) (by kernel_rfl) rfl ?_
      refine d_off 10 rfl rfl rfl (by decide) pnok (by kernel_rfl) (by kernel_rfl) (by kernel_rfl) rfl ?_
      refine d_off 11 rfl rfl rfl (by decide) pnok (by kernel_rfl) (by kernel_rfl) (by kernel_rfl) rfl ?_
      refine d_off 12 rfl rfl rfl (by decide) pnok (by kernel_rfl) (by kernel_rfl) (by kernel_rfl) rfl ?_
      refine d_off 13 rfl rfl rfl (by decide) pnok (by kernel_rfl) (by kernel_rfl) (by kernel_rfl) rfl ?_
      refine d_off 14 rfl rfl rfl (by decide) pnok (by kernel_rfl) (by kernel_rfl) (by kernel_rfl) rfl ?_
      refine d_val 15 rfl pnok (by kernel_rfl) (by kernel_rfl) (by kernel_rfl) rfl (v_pick_t rfl rfl) ?_
      refine d_val 16 rfl pnok (by kernel_rfl) (by kernel_rfl) (by kernel_rfl) rfl (v_move rfl) ?_
      refine d_off 17 rfl rfl rfl (by decide) pnok (by kernel_rfl) (by kernel_rfl) (by kernel_rfl) rfl ?_
      refine d_off 18 rfl rfl rfl (by decide) pnok (by kernel_rfl) (by kernel_rfl) (by kernel_rfl) rfl ?_
      refine d_off 19 rfl rfl rfl (by decide) pnok (by kernel_rfl) (by kernel_rfl) (by kernel_rfl) rfl ?_
      refine d_off 20 rfl rfl rfl (by decide) pnok (by kernel_rfl) (by kernel_rfl) (by kernel_rfl) rfl ?_
      refine d_off 21 rfl rfl rfl (by decide) pnok (by kernel_rfl) (by kernel_rfl) (by kernel_rfl) rfl ?_
      refine d_off 22 rfl rfl rfl (by decide) pnok (by kernel_rfl) (by kernel_rfl) (by kernel_rfl) rfl ?_
      refine d_off 23 rfl rfl rfl (by decide) pnok (by kernel_rfl) (by kernel_rfl) (by kernel_rfl) rfl ?_
      refine d_off 24 rfl rfl rfl (by decide) pnok (by kernel_rfl) (by kernel_rfl) (by kernel_rfl) rfl ?_
      refine d_off 25 rfl rfl rfl (by decide) pnok (by kernel_rfl) (by kernel_rfl) (by kernel_rfl) rfl ?_
      refine d_val 26 rfl pnok (by kernel_rfl) (by kernel_rfl) (by kernel_rfl) rfl (v_pick_t rfl rfl) ?_
      refine d_val 27 rfl pnok (by kernel_rfl) (by kernel_rfl) (by kernel_rfl) rfl (v_move rfl) ?_
      refine d_off 28 rfl rfl rfl (by decide) pnok (by kernel_rfl) (by kernel_rfl) (by kernel_rfl) rfl ?_
      refine d_off 29 rfl rfl rfl (by decide) pnok (by kernel_rfl) (by kernel_rfl) (by kernel_rfl) rfl ?_
      refine d_off 30 rfl rfl rfl (by decide) pnok (by kernel_rfl) (by kernel_rfl) (by kernel_rfl) rfl ?_
      refine d_off 31 rfl rfl rfl (by decide) pnok (by kernel_rfl) (by kernel_rfl) (by kernel_rfl) rfl ?_
      refine d_off 32 rfl rfl rfl (by decide) pnok (by kernel_rfl) (by kernel_rfl) (by kernel_rfl) rfl ?_
      refine d_off 33 rfl rfl rfl (by decide) pnok (by kernel_rfl) (by kernel_rfl) (by kernel_rfl) rfl ?_
      refine d_off 34 rfl rfl rfl (by decide) pnok (by kernel_rfl) (by kernel_rfl) (by kernel_rfl) rfl ?_
      refine d_off 35 rfl rfl rfl (by decide) pnok (by kernel_rfl) (by kernel_rfl) (by kernel_rfl) rfl ?_
      refine d_off 36 rfl rfl rfl (by decide) pnok (by kernel_rfl) (by kernel_rfl) (by kernel_rfl) rfl ?_
      refine d_off 37 rfl rfl rfl (by decide) pnok (by kernel_rfl) (by kernel_rfl) (by kernel_rfl) rfl ?_
      refine d_off 38 rfl rfl rfl (by decide) pnok (by kernel_rfl) (by kernel_rfl) (by kernel_rfl) rfl ?_
      refine d_off 39 rfl rfl rfl (by decide) pnok (by kernel_rfl) (by kernel_rfl) (by kernel_rfl) rfl ?_
      refine d_val 40 rfl pnok (by kernel_rfl) (by kernel_rfl) (by kernel_rfl) rfl (v_pick_t rfl rfl) ?_
      refine d_done (by kernel_rfl) ?_
      refine s_st ?_ (hN5 true hF)
      exact st_le [0, 0] (le_cons rfl (le_cons rfl (le_cons rfl (le_cons rfl (le_cons rfl (le_cons rfl le_nil)))))) rfl (sub_cons 0 rfl (sub_cons 1 rfl sub_nil))
    · replace hF := ite_f h18 hF
      refine d_val_on 4 rfl rfl rfl pnok (by kernel_rfl) (by kernel_rfl) (by kernel_rfl) rfl (v_fieldAddr (v := .pointer (some ⟨b1, 0, none⟩)) rfl (fun _ => by kernel_rfl)) ?_
      refine d_val_on 5 rfl rfl rfl pnok (by kernel_rfl) (by kernel_rfl) (by kernel_rfl) rfl (v_load_box 0 ty3 rfl rfl rfl rfl rfl) ?_
      refine d_val_on 6 rfl rfl rfl pnok (by kernel_rfl) (by kernel_rfl) (by kernel_rfl) rfl (v_bin rfl rfl rfl) ?_
      refine d_val 7 rfl pnok (by kernel_rfl) (by kernel_rfl) (by kernel_rfl) rfl (v_pick_f rfl rfl) ?_
      refine d_val 8 rfl pnok (by kernel_rfl) (by kernel_rfl) (by kernel_rfl) rfl (v_move rfl) ?_
      refine d_split (t := 18) rfl (fun h19 => ?_) (fun h19 => ?_)
      · replace hF := ite_t h19 hF
        refine d_off 9 rfl rfl rfl (by decide) pnok (by kernel_rfl) (by kernel_rfl) (by kernel_rfl) rfl ?_
        refine d_off 10 rfl rfl rfl (by decide) pnok (by kernel_rfl) (by kernel_rfl) (by kernel_rfl) rfl ?_
        refine d_off 11 rfl rfl rfl (by decide) pnok (by kernel_rfl) (by kernel_rfl) (by kernel_rfl) rfl ?_
        refine d_off 12 rfl rfl rfl (by decide) pnok (by kernel_rfl) (by kernel_rfl) (by kernel_rfl) rfl ?_
        refine d_off 13 rfl rfl rfl (by decide) pnok (by kernel_rfl) (by kernel_rfl) (by kernel_rfl) rfl ?_
        refine d_off 14 rfl rfl rfl (by decide) pnok (by kernel_rfl) (by kernel_rfl) (by kernel_rfl) rfl ?_
        refine d_val 15 rfl pnok (by kernel_rfl) (by kernel_rfl) (by kernel_rfl) rfl (v_pick_t rfl rfl) ?_
        refine d_val 16 rfl pnok (by kernel_rfl) (by kernel_rfl) (by kernel_rfl) rfl (v_move rfl) ?_
        refine d_off 17 rfl rfl rfl (by decide) pnok (by kernel_rfl) (by kernel_rfl) (by kernel_rfl) rfl ?_
        refine d_off 18 rfl rfl rfl (by decide) pnok (by kernel_rfl) (by kernel_rfl) (by kernel_rfl) rfl ?_
        refine d_off 19 rfl rfl rfl (by decide) pnok (by kernel_rfl) (by kernel_rfl) (by kernel_rfl) rfl ?_
        refine d_off 20 rfl rfl rfl (by decide) pnok (by kernel_rfl) (by kernel_rfl) (by kernel_rfl) rfl ?_
        refine d_off 21 rfl rfl rfl (by decide) pnok (by kernel_rfl) (by kernel_rfl) (by kernel_rfl) rfl ?_
        refine d_off 22 rfl rfl rfl (by decide) pnok (by kernel_rfl) (by kernel_rfl) (by kernel_rfl) rfl ?_
        refine d_off 23 rfl rfl rfl (by decide) pnok (by kernel_rfl) (by kernel_rfl) (by kernel_rfl) rfl ?_
        refine d_off 24 rfl rfl rfl (by decide) pnok (by kernel_rfl) (by kernel_rfl) (by kernel_rfl) rfl ?_
        refine d_off 25 rfl rfl rfl (by decide) pnok (by kernel_rfl) (by kernel_rfl) (by kernel_rfl) rfl ?_
        refine d_val 26 rfl pnok (by kernel_rfl) (by kernel_rfl) (by kernel_rfl) rfl (v_pick_t rfl rfl) ?_
        refine d_val 27 rfl pnok (by kernel_rfl) (by kernel_rfl) (by kernel_rfl) rfl (v_move rfl) ?_
        refine d_off 28 rfl rfl rfl (by decide) pnok (by kernel_rfl) (by kernel_rfl) (by kernel_rfl) rfl ?_
        refine d_off 29 rfl rfl rfl (by decide) pnok (by kernel_rfl) (by kernel_rfl) (by kernel_rfl) rfl ?_
        refine d_off 30 rfl rfl rfl (by decide) pnok (by kernel_rfl) (by kernel_rfl) (by kernel_rfl) rfl ?_
        refine d_off 31 rfl rfl rfl (by decide) pnok (by kernel_rfl) (by kernel_rfl) (by kernel_rfl) rfl ?_
        refine d_off 32 rfl rfl rfl (by decide) pnok (by kernel_rfl) (by kernel_rfl) (by kernel_rfl) rfl ?_
        refine d_off 33 rfl rfl rfl (by decide) pnok (by kernel_rfl) (by kernel_rfl) (by kernel_rfl) rfl ?_
        refine d_off 34 rfl rfl rfl (by decide) pnok (by kernel_rfl) (by kernel_rfl) (by kernel_rfl) rfl ?_
        refine d_off 35 rfl rfl rfl (by decide) pnok (by kernel_rfl) (by kernel_rfl) (by kernel_rfl) rfl ?_
        refine d_off 36 rfl rfl rfl (by decide) pnok (by kernel_rfl) (by kernel_rfl) (by kernel_rfl) rfl ?_
        refine d_off 37 rfl rfl rfl (by decide) pnok (by kernel_rfl) (by kernel_rfl) (by kernel_rfl) rfl ?_
        refine d_off 38 rfl rfl rfl (by decide) pnok (by kernel_rfl) (by kernel_rfl) (by kernel_rfl) rfl ?_
        refine d_off 39 rfl rfl rfl (by decide) pnok (by kernel_rfl) (by kernel_rfl) (by kernel_rfl) rfl ?_
        refine d_val 40 rfl pnok (by kernel_rfl) (by kernel_rfl) (by kernel_rfl) rfl (v_pick_t rfl rfl) ?_
        refine d_done (by kernel_rfl) ?_
        refine s_st ?_ (hN5 true hF)
        exact st_le [0, 0] (le_cons rfl (le_cons rfl (le_cons rfl (le_cons rfl (le_cons rfl (le_cons rfl le_nil)))))) rfl (sub_cons 0 rfl (sub_cons 1 rfl sub_nil))
      · replace hF := ite_f h19 hF
        refine d_val_on 9 rfl rfl rfl pnok (by kernel_rfl) (by kernel_rfl) (by kernel_rfl) rfl (v_fieldAddr (v := .pointer (some ⟨b1, 0, none⟩)) rfl (fun _ => by kernel_rfl)) ?_
        refine d_val_on 10 rfl rfl rfl pnok (by kernel_rfl) (by kernel_rfl) (by kernel_rfl) rfl (v_load_box 0 ty3 rfl rfl rfl rfl rfl) ?_
        refine d_val_on 11 rfl rfl rfl pnok (by kernel_rfl) (by kernel_rfl) (by kernel_rfl) rfl (v_fieldAddr (v := .pointer (some ⟨b, 2, none⟩)) rfl (fun _ => by kernel_rfl)) ?_
        refine d_val_on 12 rfl rfl rfl pnok (by kernel_rfl) (by kernel_rfl) (by kernel_rfl) rfl (v_load_box 1 ty22 rfl rfl rfl rfl rfl) ?_
        refine d_val_on 13 rfl rfl rfl pnok (by kernel_rfl) (by kernel_rfl) (by kernel_rfl) rfl (v_lenS (enc := eRule) g_.Rules sl22 rfl (.f 0 rfl)) ?_
        refine d_val_on 14 rfl rfl rfl pnok (by kernel_rfl) (by kernel_rfl) (by kernel_rfl) rfl (v_bin rfl rfl rfl) ?_
        refine d_val 15 rfl pnok (by kernel_rfl) (by kernel_rfl) (by kernel_rfl) rfl (v_pick_f rfl rfl) ?_
        refine d_val 16 rfl pnok (by kernel_rfl) (by kernel_rfl) (by kernel_rfl) rfl (v_move rfl) ?_
        refine d_split (t := 26) rfl (fun h20 => ?_) (fun h20 => ?_)
        · replace hF := ite_t h20 hF
          refine d_off 17 rfl rfl rfl (by decide) pnok (by kernel_rfl) (by kernel_rfl) (by kernel_rfl) rfl ?_
          refine d_off 18 rfl rfl rfl (by decide) pnok (by kernel_rfl) (by kernel_rfl) (by kernel_rfl) rfl ?_
          refine d_off 19 rfl rfl rfl (by decide) pnok (by kernel_rfl) (by kernel_rfl) (by kernel_rfl) rfl ?_
          refine d_off 20 rfl rfl rfl (by decide) pnok (by kernel_rfl) (by kernel_rfl) (by kernel_rfl) rfl ?_
          refine d_off 21 rfl rfl rfl (by decide) pnok (by kernel_rfl) (by kernel_rfl) (by kernel_rfl) rfl ?_
          refine d_off 22 rfl rfl rfl (by decide) pnok (by kernel_rfl) (by kernel_rfl) (by kernel_rfl) rfl ?_
          refine d_off 23 rfl rfl rfl (by decide) pnok (by kernel_rfl) (by kernel_rfl) (by kernel_rfl) rfl ?_
          refine d_off 24 rfl rfl rfl (by decide) pnok (by kernel_rfl) (by kernel_rfl) (by kernel_rfl) rfl ?_
          refine d_off 25 rfl rfl rfl (by decide) pnok (by kernel_rfl) (by kernel_rfl) (by kernel_rfl) rfl ?_
          refine d_val 26 rfl pnok (by kernel_rfl) (by kernel_rfl) (by kernel_rfl) rfl (v_pick_t rfl rfl) ?_
          refine d_val 27 rfl pnok (by kernel_rfl) (by kernel_rfl) (by kernel_rfl) rfl (v_move rfl) ?_
          refine d_off 28 rfl rfl rfl (by decide) pnok (by kernel_rfl) (by kernel_rfl) (by kernel_rfl) rfl ?_
          refine d_off 29 rfl rfl rfl (by decide) pnok (by kernel_rfl) (by kernel_rfl) (by kernel_rfl) rfl ?_
          refine d_off 30 rfl rfl rfl (by decide) pnok (by kernel_rfl) (by kernel_rfl) (by kernel_rfl) rfl ?_
          refine d_off 31 rfl rfl rfl (by decide) pnok (by kernel_rfl) (by kernel_rfl) (by kernel_rfl) rfl ?_
          refine d_off 32 rfl rfl rfl (by decide) pnok (by kernel_rfl) (by kernel_rfl) (by kernel_rfl) rfl ?_
          refine d_off 33 rfl rfl rfl (by decide) pnok (by kernel_rfl) (by kernel_rfl) (by kernel_rfl) rfl ?_
          refine d_off 34 rfl rfl rfl (by decide) pnok (by kernel_rfl) (by kernel_rfl) (by kernel_rfl) rfl ?_
          refine d_off 35 rfl rfl rfl (by decide) pnok (by kernel_rfl) (by kernel_rfl) (by kernel_rfl) rfl ?_
          refine d_off 36 rfl rfl rfl (by decide) pnok (by kernel_rfl) (by kernel_rfl) (by kernel_rfl) rfl ?_
          refine d_off 37 rfl rfl rfl (by decide) pnok (by kernel_rfl) (by kernel_rfl) (by kernel_rfl) rfl ?_
          refine d_off 38 rfl rfl rfl (by decide) pnok (by kernel_rfl) (by kernel_rfl) (by kernel_rfl) rfl ?_
          refine d_off 39 rfl rfl rfl (by decide) pnok (by kernel_rfl) (by kernel_rfl) (by kernel_rfl) rfl ?_
          refine d_val 40 rfl pnok (by kernel_rfl) (by kernel_rfl) (by kernel_rfl) rfl (v_pick_t rfl rfl) ?_
          refine d_done (by kernel_rfl) ?_
          refine s_st ?_ (hN5 true hF)
          exact st_le [0, 0] (le_cons rfl (le_cons rfl (le_cons rfl (le_cons rfl (le_cons rfl (le_cons rfl le_nil)))))) rfl (sub_cons 0 rfl (sub_cons 1 rfl sub_nil))
        · replace hF := ite_f h20 hF
          refine d_val_on 17 rfl rfl rfl pnok (by kernel_rfl) (by kernel_rfl) (by kernel_rfl) rfl (v_fieldAddr (v := .pointer (some ⟨b, 2, none⟩)) rfl (fun _ => by kernel_rfl)) ?_
          refine d_val_on 18 rfl rfl rfl pnok (by kernel_rfl) (by kernel_rfl) (by kernel_rfl) rfl (v_load_box 1 ty22 rfl rfl rfl rfl rfl) ?_
          refine d_val_on 19 rfl rfl rfl pnok (by kernel_rfl) (by kernel_rfl) (by kernel_rfl) rfl (v_fieldAddr (v := .pointer (some ⟨b1, 0, none⟩)) rfl (fun _ => by kernel_rfl)) ?_
          refine d_val_on 20 rfl rfl rfl pnok (by kernel_rfl) (by kernel_rfl) (by kernel_rfl) rfl (v_load_box 0 ty3 rfl rfl rfl rfl rfl) ?_
          refine ite_some hF fun h21 hF => ?_
          refine d_val_on 21 rfl rfl rfl pnok (by kernel_rfl) (by kernel_rfl) (by kernel_rfl) rfl (v_indexAddr_s (xs := g_.Rules) (enc := eRule) sl22 rfl rfl (.f 0 rfl) h21) ?_
          refine d_val_on 22 rfl rfl rfl pnok (by kernel_rfl) (by kernel_rfl) (by kernel_rfl) rfl (v_fieldAddr (v := .pointer (some ⟨blkA sa1, offA sa1 + (Int.toNat t.Rule * 2 + 0), none⟩)) rfl (fun _ => by kernel_rfl)) ?_
          refine d_val_on 23 rfl rfl rfl pnok (by kernel_rfl) (by kernel_rfl) (by kernel_rfl) rfl (v_load_s (xs := g_.Rules) (enc := eRule) ty3 rfl (.f 0 rfl) h21 rfl rfl rfl rfl rfl rfl rfl) ?_
          refine d_val_on 24 rfl rfl rfl pnok (by kernel_rfl) (by kernel_rfl) (by kernel_rfl) rfl (v_move rfl) ?_
          refine d_val_on 25 rfl rfl rfl pnok (by kernel_rfl) (by kernel_rfl) (by kernel_rfl) rfl (v_bin rfl rfl rfl) ?_
          refine d_val 26 rfl pnok (by kernel_rfl) (by kernel_rfl) (by kernel_rfl) rfl (v_pick_f rfl rfl) ?_
          refine d_val 27 rfl pnok (by kernel_rfl) (by kernel_rfl) (by kernel_rfl) rfl (v_move rfl) ?_
          refine d_split (t := 37) rfl (fun h22 => ?_) (fun h22 => ?_)
          · replace hF := ite_t h22 hF
            refine d_off 28 rfl rfl rfl (by decide) pnok (by kernel_rfl) (by kernel_rfl) (by kernel_rfl) rfl ?_
            refine d_off 29 rfl rfl rfl (by decide) pnok (by kernel_rfl) (by kernel_rfl) (by kernel_rfl) rfl ?_
            refine d_off 30 rfl rfl rfl (by decide) pnok (by kernel_rfl) (by kernel_rfl) (by kernel_rfl) rfl ?_
            refine d_off 31 rfl rfl rfl (by decide) pnok (by kernel_rfl) (by kernel_rfl) (by kernel_rfl) rfl ?_
            refine d_off 32 rfl rfl rfl (by decide) pnok (by kernel_rfl) (by kernel_rfl) (by kernel_rfl) rfl ?_
            refine d_off 33 rfl rfl rfl (by decide) pnok (by kernel_rfl) (by kernel_rfl) (by kernel_rfl) rfl ?_
            refine d_off 34 rfl rfl rfl (by decide) pnok (by kernel_rfl) (by kernel_rfl) (by kernel_rfl) rfl ?_
            refine d_off 35 rfl rfl rfl (by decide) pnok (by kernel_rfl) (by kernel_rfl) (by kernel_rfl) rfl ?_
            refine d_off 36 rfl rfl rfl (by decide) pnok (by kernel_rfl) (by kernel_rfl) (by kernel_rfl) rfl ?_
            refine d_off 37 rfl rfl rfl (by decide) pnok (by kernel_rfl) (by kernel_rfl) (by kernel_rfl) rfl ?_
            refine d_off 38 rfl rfl rfl (by decide) pnok (by kernel_rfl) (by kernel_rfl) (by kernel_rfl) rfl ?_
            refine d_off 39 rfl rfl rfl (by decide) pnok (by kernel_rfl) (by kernel_rfl) (by kernel_rfl) rfl ?_
            refine d_val 40 rfl pnok (by kernel_rfl) (by kernel_rfl) (by kernel_rfl) rfl (v_pick_t rfl rfl) ?_
            refine d_done (by kernel_rfl) ?_
            refine s_st ?_ (hN5 true hF)
            exact st_le [0, 0] (le_cons rfl (le_cons rfl (le_cons rfl (le_cons rfl (le_cons rfl (le_cons rfl le_nil)))))) rfl (sub_cons 0 rfl (sub_cons 1 rfl sub_nil))
          · replace hF := ite_f h22 hF
            refine d_val_on 28 rfl rfl rfl pnok (by kernel_rfl) (by kernel_rfl) (by kernel_rfl) rfl (v_fieldAddr (v := .pointer (some ⟨b, 2, none⟩)) rfl (fun _ => by kernel_rfl)) ?_
            refine d_val_on 29 rfl rfl rfl pnok (by kernel_rfl) (by kernel_rfl) (by kernel_rfl) rfl (v_load_box 1 ty22 rfl rfl rfl rfl rfl) ?_
            refine d_val_on 30 rfl rfl rfl pnok (by kernel_rfl) (by kernel_rfl) (by kernel_rfl) rfl (v_fieldAddr (v := .pointer (some ⟨b1, 0, none⟩)) rfl (fun _ => by kernel_rfl)) ?_
            refine d_val_on 31 rfl rfl rfl pnok (by kernel_rfl) (by kernel_rfl) (by kernel_rfl) rfl (v_load_box 0 ty3 rfl rfl rfl rfl rfl) ?_
            refine d_val_on 32 rfl rfl rfl pnok (by kernel_rfl) (by kernel_rfl) (by kernel_rfl) rfl (v_indexAddr_s (xs := g_.Rules) (enc := eRule) sl22 rfl rfl (.f 0 rfl) h21) ?_
            refine d_val_on 33 rfl rfl rfl pnok (by kernel_rfl) (by kernel_rfl) (by kernel_rfl) rfl (v_fieldAddr (v := .pointer (some ⟨blkA sa1, offA sa1 + (Int.toNat t.Rule * 2 + 1), none⟩)) rfl (fun _ => by kernel_rfl)) ?_
            refine d_val_on 36 rfl rfl rfl pnok (by kernel_rfl) (by kernel_rfl) (by kernel_rfl) rfl (v_fieldAddr (v := .pointer (some ⟨b1, 2, none⟩)) rfl (fun _ => by kernel_rfl)) ?_
            refine d_val_on 37 rfl rfl rfl pnok (by kernel_rfl) (by kernel_rfl) (by kernel_rfl) rfl (v_load_box 0 ty25 rfl rfl rfl rfl rfl) ?_
            refine d_val_on 38 rfl rfl rfl pnok (by kernel_rfl) (by kernel_rfl) (by kernel_rfl) rfl (v_lenS (enc := eTree) t.Kids sl25 rfl (.f 1 rfl)) ?_
            refine d_one 34 rfl (by kernel_rfl) ?_
            refine o_on rfl rfl ?_
            refine o_load_s (xs := g_.Rules) (enc := eRule) ty50 rfl (.f 0 rfl) h21 rfl rfl rfl rfl rfl rfl fun sa7 sn7 sc7 => ?_
            refine d_next [0, 0] 1 rfl rfl ?_
            refine d_one 35 rfl (by kernel_rfl) ?_
            refine o_on rfl rfl ?_
            refine o_v (v_lenS (enc := eKSym) ((at_ g_.Rules t.Rule).Rhs) sl50 rfl (.f 0 rfl)) rfl ?_
            refine d_next [0, 0] 1 rfl rfl ?_
            refine d_val_on 39 rfl rfl rfl pnok (by kernel_rfl) (by kernel_rfl) (by kernel_rfl) rfl (v_bin rfl rfl rfl) ?_
            refine d_val 40 rfl pnok (by kernel_rfl) (by kernel_rfl) (by kernel_rfl) rfl (v_pick_f rfl rfl) ?_
            refine d_done (by kernel_rfl) ?_
            refine s_st ?_ (hN5 ((((at_ g_.Rules t.Rule).Rhs).length : Int) != (t.Kids.length : Int)) hF)
            exact st_le [0, 0] (le_cons rfl (le_cons rfl (le_cons rfl (le_cons rfl (le_cons rfl (le_cons rfl le_nil)))))) rfl (sub_cons 1 rfl (sub_cons 2 rfl sub_nil))
  · intro t50 hF
    unfold F.ref09.Of_j1 at hF
    refine sat_wc ?_
    refine c_cond rfl (fun h1 => ?_) (fun h1 => ?_)
    · replace hF := ite_t h1 hF
      refine c_seq ?_
      refine c_region ?_
      refine o_v (v_assign rfl) rfl ?_
      refine o_seq ?_
      refine c_ret ?_
      cases hF
      refine s_ret1 rfl (r_tmp rfl) fun a w hs => ?_
      exact fin_sel hs [] ⟨rfl, rfl, rfl⟩ rfl sub_nil
    · replace hF := ite_f h1 hF
      refine c_skip ?_
      refine sat_wc ?_
      refine c_seq ?_
      refine c_seq ?_
      refine c_region ?_
      refine o_v (v_assign rfl) rfl ?_
      refine o_seq ?_
      obtain ⟨o2, ho2, hF⟩ := bd hF
      refine c_cut (fun E N' => ∀ (d2 : Unit), o2 = .done d2 → Sat E [(0, .agg #[.int .i64 g_.Nts, .int .i64 g_.Start, .slice sa1 sn1 sc1]), (2, .agg #[.int .i64 t.Rule, .int .u8 t.Byte, .slice sa2 sn2 sc2]), (3, .pointer (some ⟨b, 0, none⟩)), (5, .pointer (some ⟨b1, 0, none⟩)), (6, .bool false)] [.box b1 27 [.int .i64 t.Rule, .int .u8 t.Byte, .slice sa2 sn2 sc2], .box b 24 [.int .i64 g_.Nts, .int .i64 g_.Start, .slice sa1 sn1 sc1]] [(.slice sa1 sn1 sc1, .slice 2 (g_.Rules.map eRule)), (.slice sa2 sn2 sc2, .slice 3 (t.Kids.map eTree))] N') (fun N2 hN2 => ?_) ?_
      · refine c_block ?_
        refine c_loopE (fun E j a w => ∃ (i : Int), F.ref09.Of_l2 k t g_ g42 j i = some o2 ∧ St E [(0, .agg #[.int .i64 g_.Nts, .int .i64 g_.Start, .slice sa1 sn1 sc1]), (2, .agg #[.int .i64 t.Rule, .int .u8 t.Byte, .slice sa2 sn2 sc2]), (3, .pointer (some ⟨b, 0, none⟩)), (5, .pointer (some ⟨b1, 0, none⟩)), (6, .bool false), (7, .int .i64 i)] [.box b1 27 [.int .i64 t.Rule, .int .u8 t.Byte, .slice sa2 sn2 sc2], .box b 24 [.int .i64 g_.Nts, .int .i64 g_.Start, .slice sa1 sn1 sc1]] [(.slice sa1 sn1 sc1, .slice 2 (g_.Rules.map eRule)), (.slice sa2 sn2 sc2, .slice 3 (t.Kids.map eTree))] a w) k ?_ ?_
        · intro a w hs
          exact ⟨0, ho2, st_le [0, 0] (le_cons rfl (le_cons rfl (le_cons rfl (le_cons rfl (le_cons rfl (le_cons rfl le_nil)))))) rfl (sub_cons 0 rfl (sub_cons 1 rfl sub_nil)) a w hs⟩
        · rintro j a w ⟨i, hL2, hs⟩
          cases j with
          | zero => cases hL2
          | succ j =>
            refine wc_app hs ?_
            unfold F.ref09.Of_l2 at hL2
            refine c_seq ?_
            refine c_seq ?_
            refine c_region ?_
            refine o_v (v_move rfl) rfl ?_
            refine o_v (v_fieldAddr (v := .pointer (some ⟨b1, 2, none⟩)) rfl (fun _ => by kernel_rfl)) rfl ?_
            refine o_v (v_load_box 0 ty25 rfl rfl rfl rfl rfl) rfl ?_
            refine o_v (v_lenS (enc := eTree) t.Kids sl25 rfl (.f 1 rfl)) rfl ?_
            refine o_v (v_bin rfl rfl rfl) rfl ?_
            refine o_seq ?_
            refine c_cond rfl (fun h2 => ?_) (fun h2 => ?_)
            · replace hL2 := ite_t h2 hL2
              refine c_skip ?_
              refine sat_wc ?_
              refine c_seq ?_
              refine c_cut (fun E N' => ∀ (leaf : Bool) (b2 : Nat), F.ref09.Of_j3 (F.ref09.Of_l2 k t g_ g42 j) i leaf = some o2 → Sat E [(0, .agg #[.int .i64 g_.Nts, .int .i64 g_.Start, .slice sa1 sn1 sc1]), (2, .agg #[.int .i64 t.Rule, .int .u8 t.Byte, .slice sa2 sn2 sc2]), (3, .pointer (some ⟨b, 0, none⟩)), (5, .pointer (some ⟨b1, 0, none⟩)), (6, .bool false), (7, .int .i64 i), (8, .pointer (some ⟨b2, 0, none⟩)), (9, .bool leaf)] [.box b1 27 [.int .i64 t.Rule, .int .u8 t.Byte, .slice sa2 sn2 sc2], .box b 24 [.int .i64 g_.Nts, .int .i64 g_.Start, .slice sa1 sn1 sc1], .box b2 90 [.int .i64 ((at_ ((at_ g_.Rules t.Rule).Rhs) i).Nt), .int .u64 ((at_ ((at_ g_.Rules t.Rule).Rhs) i).Set.w0), .int .u64 ((at_ ((at_ g_.Rules t.Rule).Rhs) i).Set.w1), .int .u64 ((at_ ((at_ g_.Rules t.Rule).Rhs) i).Set.w2), .int .u64 ((at_ ((at_ g_.Rules t.Rule).Rhs) i).Set.w3)]] [(.slice sa1 sn1 sc1, .slice 2 (g_.Rules.map eRule)), (.slice sa2 sn2 sc2, .slice 3 (t.Kids.map eTree))] N') (fun N3 hN3 => ?_) ?_
              · refine c_block ?_
                refine c_seq ?_
                refine c_region ?_
                refine o_v (v_fieldAddr (v := .pointer (some ⟨b, 2, none⟩)) rfl (fun _ => by kernel_rfl)) rfl ?_
                refine o_v (v_load_box 1 ty22 rfl rfl rfl rfl rfl) rfl ?_
                refine o_v (v_fieldAddr (v := .pointer (some ⟨b1, 0, none⟩)) rfl (fun _ => by kernel_rfl)) rfl ?_
                refine o_v (v_load_box 0 ty3 rfl rfl rfl rfl rfl) rfl ?_
                refine ite_some hL2 fun h3 hL2 => ?_
                refine o_v (v_indexAddr_s (xs := g_.Rules) (enc := eRule) sl22 rfl rfl (.f 0 rfl) h3) rfl ?_
                refine o_v (v_fieldAddr (v := .pointer (some ⟨blkA sa1, offA sa1 + (Int.toNat t.Rule * 2 + 1), none⟩)) rfl (fun _ => by kernel_rfl)) rfl ?_
                refine o_load_s (xs := g_.Rules) (enc := eRule) ty50 rfl (.f 0 rfl) h3 rfl rfl rfl rfl rfl rfl fun sa3 sn3 sc3 => ?_
                refine o_v (v_move rfl) rfl ?_
                refine ite_some hL2 fun h4 hL2 => ?_
                refine o_v (v_indexAddr_s (xs := (at_ g_.Rules t.Rule).Rhs) (enc := eKSym) sl50 rfl rfl (.f 0 rfl) h4) rfl ?_
                refine o_v (v_load_s (xs := (at_ g_.Rules t.Rule).Rhs) (enc := eKSym) ty90 rfl (.f 0 rfl) h4 rfl rfl rfl rfl rfl rfl rfl) rfl ?_
                refine o_alloc zero90 rfl rfl fun b3 => ?_
                refine o_store_box 0 rfl ty90 rfl rfl rfl rfl rfl rfl rfl ?_
                refine o_seq ?_
                refine c_seq ?_
                refine c_cut (fun E N' => ∀ (leaf1 : Bool), F.ref09.Of_j4 g_ t i (F.ref09.Of_l2 k t g_ g42 j) g42 leaf1 = some o2 → Sat E [(0, .agg #[.int .i64 g_.Nts, .int .i64 g_.Start, .slice sa1 sn1 sc1]), (2, .agg #[.int .i64 t.Rule, .int .u8 t.Byte, .slice sa2 sn2 sc2]), (3, .pointer (some ⟨b, 0, none⟩)), (5, .pointer (some ⟨b1, 0, none⟩)), (6, .bool false), (7, .int .i64 i), (8, .pointer (some ⟨b3, 0, none⟩)), (9, .bool leaf1)] [.box b3 90 [.int .i64 ((at_ ((at_ g_.Rules t.Rule).Rhs) i).Nt), .int .u64 ((at_ ((at_ g_.Rules t.Rule).Rhs) i).Set.w0), .int .u64 ((at_ ((at_ g_.Rules t.Rule).Rhs) i).Set.w1), .int .u64 ((at_ ((at_ g_.Rules t.Rule).Rhs) i).Set.w2), .int .u64 ((at_ ((at_ g_.Rules t.Rule).Rhs) i).Set.w3)], .box b1 27 [.int .i64 t.Rule, .int .u8 t.Byte, .slice sa2 sn2 sc2], .box b 24 [.int .i64 g_.Nts, .int .i64 g_.Start, .slice sa1 sn1 sc1]] [(.slice sa1 sn1 sc1, .slice 2 (g_.Rules.map eRule)), (.slice sa2 sn2 sc2, .slice 3 (t.Kids.map eTree))] N') (fun N5 hN5 => ?_) ?_
                · refine c_draw (n := 30) [0, 0, 0] mixed rfl rfl ?_
                  refine d_val 0 rfl pnok (by kernel_rfl) (by kernel_rfl) (by kernel_rfl) rfl (v_fieldAddr (v := .pointer (some ⟨b1, 2, none⟩)) rfl (fun _ => by kernel_rfl)) ?_
                  refine d_val 1 rfl pnok (by kernel_rfl) (by kernel_rfl) (by kernel_rfl) rfl (v_load_box 1 ty25 rfl rfl rfl rfl rfl) ?_
                  refine d_val 2 rfl pnok (by kernel_rfl) (by kernel_rfl) (by kernel_rfl) rfl (v_move rfl) ?_
                  refine ite_some hL2 fun h14 hL2 => ?_
                  refine d_val 3 rfl pnok (by kernel_rfl) (by kernel_rfl) (by kernel_rfl) rfl (v_indexAddr_s (xs := t.Kids) (enc := eTree) sl25 rfl rfl (.f 2 rfl) h14) ?_
                  refine d_val 4 rfl pnok (by kernel_rfl) (by kernel_rfl) (by kernel_rfl) rfl (v_fieldAddr (v := .pointer (some ⟨blkA sa2, offA sa2 + (Int.toNat i * 3 + 0), none⟩)) rfl (fun _ => by kernel_rfl)) ?_
                  refine d_val 5 rfl pnok (by kernel_rfl) (by kernel_rfl) (by kernel_rfl) rfl (v_load_s (ds := [.int .i64 ((at_ t.Kids i).Rule)]) (xs := t.Kids) (enc := eTree) ty3 rfl (.f 2 rfl) h14 (by simp only [eTree_eq] <;> rfl) rfl rfl rfl rfl rfl rfl) ?_
                  refine d_val 6 rfl pnok (by kernel_rfl) (by kernel_rfl) (by kernel_rfl) rfl (v_bin rfl rfl rfl) ?_
                  refine d_val 7 rfl pnok (by kernel_rfl) (by kernel_rfl) (by kernel_rfl) rfl (v_move rfl) ?_
                  refine d_split (t := 75) rfl (fun h15 => ?_) (fun h15 => ?_)
                  · replace hL2 := ite_t h15 hL2
                    refine d_val_on 8 rfl rfl rfl pnok (by kernel_rfl) (by kernel_rfl) (by kernel_rfl) rfl (v_fieldAddr (v := .pointer (some ⟨b1, 2, none⟩)) rfl (fun _ => by kernel_rfl)) ?_
                    refine d_val_on 9 rfl rfl rfl pnok (by kernel_rfl) (by kernel_rfl) (by kernel_rfl) rfl (v_load_box 1 ty25 rfl rfl rfl rfl rfl) ?_
                    refine d_val_on 10 rfl rfl rfl pnok (by kernel_rfl) (by kernel_rfl) (by kernel_rfl) rfl (v_move rfl) ?_
                    refine d_val_on 11 rfl rfl rfl pnok (by kernel_rfl) (by kernel_rfl) (by kernel_rfl) rfl (v_indexAddr_s (xs := t.Kids) (enc := eTree) sl25 rfl rfl (.f 2 rfl) h14) ?_
                    refine d_val_on 12 rfl rfl rfl pnok (by kernel_rfl) (by kernel_rfl) (by kernel_rfl) rfl (v_fieldAddr (v := .pointer (some ⟨blkA sa2, offA sa2 + (Int.toNat i * 3 + 2), none⟩)) rfl (fun _ => by kernel_rfl)) ?_
                    refine d_one 13 rfl (by kernel_rfl) ?_
                    refine o_on rfl rfl ?_
                    refine o_load_s (ds := [.slice 3 (((at_ t.Kids i).Kids).map eTree)]) (xs := t.Kids) (enc := eTree) ty25 rfl (.f 2 rfl) h14 (by simp only [eTree_eq] <;> rfl) rfl rfl rfl rfl rfl fun sa6 sn6 sc6 => ?_
                    refine d_next [0, 0, 0] 1 rfl rfl ?_
                    refine d_one 14 rfl (by kernel_rfl) ?_
                    refine o_on rfl rfl ?_
                    refine o_v (v_lenS (enc := eTree) ((at_ t.Kids i).Kids) sl25 rfl (.f 0 rfl)) rfl ?_
                    refine d_next [0, 0, 0] 1 rfl rfl ?_
                    refine d_val_on 15 rfl rfl rfl pnok (by kernel_rfl) (by kernel_rfl) (by kernel_rfl) rfl (v_bin rfl rfl rfl) ?_
                    refine d_val 16 rfl pnok (by kernel_rfl) (by kernel_rfl) (by kernel_rfl) rfl (v_pick_t rfl rfl) ?_
                    refine d_val 17 rfl pnok (by kernel_rfl) (by kernel_rfl) (by kernel_rfl) rfl (v_move rfl) ?_
                    refine d_split (t := 85) rfl (fun h16 => ?_) (fun h16 => ?_)
                    · replace hL2 := ite_t h16 hL2
                      refine d_val_on 18 rfl rfl rfl pnok (by kernel_rfl) (by kernel_rfl) (by kernel_rfl) rfl (v_fieldAddr (v := .pointer (some ⟨b3, 1, none⟩)) rfl (fun _ => by kernel_rfl)) ?_
                      refine d_val_on 19 rfl rfl rfl pnok (by kernel_rfl) (by kernel_rfl) (by kernel_rfl) rfl (v_load_box 0 ty88 rfl rfl rfl rfl rfl) ?_
                      refine d_val_on 20 rfl rfl rfl pnok (by kernel_rfl) (by kernel_rfl) (by kernel_rfl) rfl (v_fieldAddr (v := .pointer (some ⟨b1, 2, none⟩)) rfl (fun _ => by kernel_rfl)) ?_
                      refine d_val_on 21 rfl rfl rfl pnok (by kernel_rfl) (by kernel_rfl) (by kernel_rfl) rfl (v_load_box 1 ty25 rfl rfl rfl rfl rfl) ?_
                      refine d_val_on 22 rfl rfl rfl pnok (by kernel_rfl) (by kernel_rfl) (by kernel_rfl) rfl (v_move rfl) ?_
                      refine d_val_on 23 rfl rfl rfl pnok (by kernel_rfl) (by kernel_rfl) (by kernel_rfl) rfl (v_indexAddr_s (xs := t.Kids) (enc := eTree) sl25 rfl rfl (.f 2 rfl) h14) ?_
                      refine d_val_on 24 rfl rfl rfl pnok (by kernel_rfl) (by kernel_rfl) (by kernel_rfl) rfl (v_fieldAddr (v := .pointer (some ⟨blkA sa2, offA sa2 + (Int.toNat i * 3 + 1), none⟩)) rfl (fun _ => by kernel_rfl)) ?_
                      refine d_val_on 25 rfl rfl rfl pnok (by kernel_rfl) (by kernel_rfl) (by kernel_rfl) rfl (v_load_s (ds := [.int .u8 ((at_ t.Kids i).Byte)]) (xs := t.Kids) (enc := eTree) ty5 rfl (.f 2 rfl) h14 (by simp only [eTree_eq] <;> rfl) rfl rfl rfl rfl rfl rfl) ?_
                      refine d_val_on 26 rfl rfl rfl pnok (by kernel_rfl) (by kernel_rfl) (by kernel_rfl) rfl (v_convert (v := .int .i64 (IntKind.wrap .i64 ((at_ t.Kids i).Byte))) rfl (fun _ => by kernel_rfl)) ?_
                      refine d_one 27 rfl (by kernel_rfl) ?_
                      refine o_on rfl rfl ?_
                      obtain ⟨v2, h17, hL2⟩ := bd hL2
                      refine o_callSB call59 rfl lent_nil (tri59 k (S4.mk ((at_ ((at_ g_.Rules t.Rule).Rhs) i).Set.w0) ((at_ ((at_ g_.Rules t.Rule).Rhs) i).Set.w1) ((at_ ((at_ g_.Rules t.Rule).Rhs) i).Set.w2) ((at_ ((at_ g_.Rules t.Rule).Rhs) i).Set.w3)) (IntKind.wrap .i64 ((at_ t.Kids i).Byte)) v2 h17) rfl ?_
                      refine d_next [0, 0, 0] 1 rfl rfl ?_
                      refine d_val 28 rfl pnok (by kernel_rfl) (by kernel_rfl) (by kernel_rfl) rfl (v_pick_t rfl rfl) ?_
                      refine d_val 29 rfl pnok (by kernel_rfl) (by kernel_rfl) (by kernel_rfl) rfl (v_assign rfl) ?_
                      refine d_done (by kernel_rfl) ?_
                      refine s_st ?_ (hN5 v2 hL2)
                      exact st_le [0, 0, 0] (le_cons rfl (le_cons rfl (le_cons rfl (le_cons rfl (le_cons rfl (le_cons rfl (le_cons rfl (le_cons rfl le_nil)))))))) rfl (sub_cons 2 rfl (sub_cons 3 rfl sub_nil))
                    · replace hL2 := ite_f h16 hL2
                      refine d_off 18 rfl rfl rfl (by decide) pnok (by kernel_rfl) (by kernel_rfl) (by kernel_rfl) rfl ?_
                      refine d_off 19 rfl rfl rfl (by decide) pnok (by kernel_rfl) (by kernel_rfl) (by kernel_rfl) rfl ?_
                      refine d_off 20 rfl rfl rfl (by decide) pnok (by kernel_rfl) (by kernel_rfl) (by kernel_rfl) rfl ?_
                      refine d_off 21 rfl rfl rfl (by decide) pnok (by kernel_rfl) (by kernel_rfl) (by kernel_rfl) rfl ?_
                      refine d_off 22 rfl rfl rfl (by decide) pnok (by kernel_rfl) (by kernel_rfl) (by kernel_rfl) rfl ?_
                      refine d_off 23 rfl rfl rfl (by decide) pnok (by kernel_rfl) (by kernel_rfl) (by kernel_rfl) rfl ?_
                      refine d_off 24 rfl rfl rfl (by decide) pnok (by kernel_rfl) (by kernel_rfl) (by kernel_rfl) rfl ?_
                      refine d_off 25 rfl rfl rfl (by decide) pnok (by kernel_rfl) (by kernel_rfl) (by kernel_rfl) rfl ?_
                      refine d_off 26 rfl rfl rfl (by decide) pnok (by kernel_rfl) (by kernel_rfl) (by kernel_rfl) rfl ?_
                      refine d_off 27 rfl rfl rfl (by decide) pnok (by kernel_rfl) (by kernel_rfl) (by kernel_rfl) rfl ?_
                      refine d_val 28 rfl pnok (by kernel_rfl) (by kernel_rfl) (by kernel_rfl) rfl (v_pick_f rfl rfl) ?_
                      refine d_val 29 rfl pnok (by kernel_rfl) (by kernel_rfl) (by kernel_rfl) rfl (v_assign rfl) ?_
                      refine d_done (by kernel_rfl) ?_
                      refine s_st ?_ (hN5 false hL2)
                      exact st_le [0, 0, 0] (le_cons rfl (le_cons rfl (le_cons rfl (le_cons rfl (le_cons rfl (le_cons rfl (le_cons rfl (le_cons rfl le_nil)))))))) rfl (sub_cons 2 rfl (sub_cons 3 rfl sub_nil))
                  · replace hL2 := ite_f h15 hL2
                    refine d_off 8 rfl rfl rfl (by decide) pnok (by kernel_rfl) (by kernel_rfl) (by kernel_rfl) rfl ?_
                    refine d_off 9 rfl rfl rfl (by decide) pnok (by kernel_rfl) (by kernel_rfl) (by kernel_rfl) rfl ?_
                    refine d_off 10 rfl rfl rfl (by decide) pnok (by kernel_rfl) (by kernel_rfl) (by kernel_rfl) rfl ?_
                    refine d_off 11 rfl rfl rfl (by decide) pnok (by kernel_rfl) (by kernel_rfl) (by kernel_rfl) rfl ?_
                    refine d_off 12 rfl rfl rfl (by decide) pnok (by kernel_rfl) (by kernel_rfl) (by kernel_rfl) rfl ?_
                    refine d_off 13 rfl rfl rfl (by decide) pnok (by kernel_rfl) (by kernel_rfl) (by kernel_rfl) rfl ?_
                    refine d_off 14 rfl rfl rfl (by decide) pnok (by kernel_rfl) (by kernel_rfl) (by kernel_rfl) rfl ?_
                    refine d_off 15 rfl rfl rfl (by decide) pnok (by kernel_rfl) (by kernel_rfl) (by kernel_rfl) rfl ?_
                    refine d_val 16 rfl pnok (by kernel_rfl) (by kernel_rfl) (by kernel_rfl) rfl (v_pick_f rfl rfl) ?_
                    refine d_val 17 rfl pnok (by kernel_rfl) (by kernel_rfl) (by kernel_rfl) rfl (v_move rfl) ?_
                    refine d_off 18 rfl rfl rfl (by decide) pnok (by kernel_rfl) (by kernel_rfl) (by kernel_rfl) rfl ?_
                    refine d_off 19 rfl rfl rfl (by decide) pnok (by kernel_rfl) (by kernel_rfl) (by kernel_rfl) rfl ?_
                    refine d_off 20 rfl rfl rfl (by decide) pnok (by kernel_rfl) (by kernel_rfl) (by kernel_rfl) rfl ?_
                    refine d_off 21 rfl rfl rfl (by decide) pnok (by kernel_rfl) (by kernel_rfl) (by kernel_rfl) rfl ?_
                    refine d_off 22 rfl rfl rfl (by decide) pnok (by kernel_rfl) (by kernel_rfl) (by kernel_rfl) rfl ?_
                    refine d_off 23 rfl rfl rfl (by decide) pnok (by kernel_rfl) (by kernel_rfl) (by kernel_rfl) rfl ?_
                    refine d_off 24 rfl rfl rfl (by decide) pnok (by kernel_rfl) (by kernel_rfl) (by kernel_rfl) rfl ?_
                    refine d_off 25 rfl rfl rfl (by decide) pnok (by kernel_rfl) (by kernel_rfl) (by kernel_rfl) rfl ?_
                    refine d_off 26 rfl rfl rfl (by decide) pnok (by kernel_rfl) (by kernel_rfl) (by kernel_rfl) rfl ?_
                    refine d_off 27 rfl rfl rfl (by decide) pnok (by kernel_rfl) (by kernel_rfl) (by kernel_rfl) rfl ?_
                    refine d_val 28 rfl pnok (by kernel_rfl) (by kernel_rfl) (by kernel_rfl) rfl (v_pick_f rfl rfl) ?_
                    refine d_val 29 rfl pnok (by kernel_rfl) (by kernel_rfl) (by kernel_rfl) rfl (v_assign rfl) ?_
                    refine d_done (by kernel_rfl) ?_
                    refine s_st ?_ (hN5 false hL2)
                    exact st_le [0, 0, 0] (le_cons rfl (le_cons rfl (le_cons rfl (le_cons rfl (le_cons rfl (le_cons rfl (le_cons rfl (le_cons rfl le_nil)))))))) rfl (sub_cons 1 rfl (sub_cons 2 rfl sub_nil))
                · intro leaf1 hL2
                  unfold F.ref09.Of_j4 at hL2
                  refine sat_wc ?_
                  refine c_seq ?_
                  refine c_cut (fun E N' => ∀ (t120 : Bool), F.ref09.Of_j5 (F.ref09.Of_l2 k t g_ g42 j) i leaf1 t120 = some o2 → Sat E [(0, .agg #[.int .i64 g_.Nts, .int .i64 g_.Start, .slice sa1 sn1 sc1]), (2, .agg #[.int .i64 t.Rule, .int .u8 t.Byte, .slice sa2 sn2 sc2]), (3, .pointer (some ⟨b, 0, none⟩)), (5, .pointer (some ⟨b1, 0, none⟩)), (6, .bool false), (7, .int .i64 i), (8, .pointer (some ⟨b3, 0, none⟩)), (9, .bool leaf1), (120, .bool t120)] [.box b3 90 [.int .i64 ((at_ ((at_ g_.Rules t.Rule).Rhs) i).Nt), .int .u64 ((at_ ((at_ g_.Rules t.Rule).Rhs) i).Set.w0), .int .u64 ((at_ ((at_ g_.Rules t.Rule).Rhs) i).Set.w1), .int .u64 ((at_ ((at_ g_.Rules t.Rule).Rhs) i).Set.w2), .int .u64 ((at_ ((at_ g_.Rules t.Rule).Rhs) i).Set.w3)], .box b1 27 [.int .i64 t.Rule, .int .u8 t.Byte, .slice sa2 sn2 sc2], .box b 24 [.int .i64 g_.Nts, .int .i64 g_.Start, .slice sa1 sn1 sc1]] [(.slice sa1 sn1 sc1, .slice 2 (g_.Rules.map eRule)), (.slice sa2 sn2 sc2, .slice 3 (t.Kids.map eTree))] N') (fun N5 hN5 => ?_) ?_
                  · refine c_draw (n := 24) [0, 0, 0] mixed rfl rfl ?_
                    refine d_val 0 rfl pnok (by kernel_rfl) (by kernel_rfl) (by kernel_rfl) rfl (v_fieldAddr (v := .pointer (some ⟨b3, 0, none⟩)) rfl (fun _ => by kernel_rfl)) ?_
                    refine d_val 1 rfl pnok (by kernel_rfl) (by kernel_rfl) (by kernel_rfl) rfl (v_load_box 0 ty3 rfl rfl rfl rfl rfl) ?_
                    refine d_val 2 rfl pnok (by kernel_rfl) (by kernel_rfl) (by kernel_rfl) rfl (v_bin rfl rfl rfl) ?_
                    refine d_val 3 rfl pnok (by kernel_rfl) (by kernel_rfl) (by kernel_rfl) rfl (v_move rfl) ?_
                    refine d_split (t := 100) rfl (fun h6 => ?_) (fun h6 => ?_)
                    · replace hL2 := ite_t h6 hL2
                      refine d_val_on 4 rfl rfl rfl pnok (by kernel_rfl) (by kernel_rfl) (by kernel_rfl) rfl (v_move rfl) ?_
                      refine d_val_on 5 rfl rfl rfl pnok (by kernel_rfl) (by kernel_rfl) (by kernel_rfl) rfl (v_not rfl) ?_
                      refine d_val 6 rfl pnok (by kernel_rfl) (by kernel_rfl) (by kernel_rfl) rfl (v_pick_t rfl rfl) ?_
                      refine d_val 7 rfl pnok (by kernel_rfl) (by kernel_rfl) (by kernel_rfl) rfl (v_move rfl) ?_
                      refine d_split (t := 104) rfl (fun h7 => ?_) (fun h7 => ?_)
                      · replace hL2 := ite_t h7 hL2
                        refine d_off 8 rfl rfl rfl (by decide) pnok (by kernel_rfl) (by kernel_rfl) (by kernel_rfl) rfl ?_
                        refine d_off 9 rfl rfl rfl (by decide) pnok (by kernel_rfl) (by kernel_rfl) (by kernel_rfl) rfl ?_
                        refine d_off 10 rfl rfl rfl (by decide) pnok (by kernel_rfl) (by kernel_rfl) (by kernel_rfl) rfl ?_
                        refine d_off 11 rfl rfl rfl (by decide) pnok (by kernel_rfl) (by kernel_rfl) (by kernel_rfl) rfl ?_
                        refine d_offU 12 rfl rfl rfl pnok (by kernel_rfl) (by kernel_rfl) (by kernel_rfl) rfl ?_
                        refine d_offU 13 rfl rfl rfl pnok (by kernel_rfl) (by kernel_rfl) (by kernel_rfl) rfl ?_
                        refine d_offU 14 rfl rfl rfl pnok (by kernel_rfl) (by kernel_rfl) (by kernel_rfl) rfl ?_
                        refine d_offU 15 rfl rfl rfl pnok (by kernel_rfl) (by kernel_rfl) (by kernel_rfl) rfl ?_
                        refine d_offU 16 rfl rfl rfl pnok (by kernel_rfl) (by kernel_rfl) (by kernel_rfl) rfl ?_
                        refine d_offU 17 rfl rfl rfl pnok (by kernel_rfl) (by kernel_rfl) (by kernel_rfl) rfl ?_
                        refine d_offU 18 rfl rfl rfl pnok (by kernel_rfl) (by kernel_rfl) (by kernel_rfl) rfl ?_
                        refine d_offU 19 rfl rfl rfl pnok (by kernel_rfl) (by kernel_rfl) (by kernel_rfl) rfl ?_
                        refine d_offU 20 rfl rfl rfl pnok (by kernel_rfl) (by kernel_rfl) (by kernel_rfl) rfl ?_
                        refine d_offU 21 rfl rfl rfl pnok (by kernel_rfl) (by kernel_rfl) (by kernel_rfl) rfl ?_
                        refine d_off 22 rfl rfl rfl (by decide) pnok (by kernel_rfl) (by kernel_rfl) (by kernel_rfl) rfl ?_
                        refine d_val 23 rfl pnok (by kernel_rfl) (by kernel_rfl) (by kernel_rfl) rfl (v_pick_t rfl rfl) ?_
                        refine d_done (by kernel_rfl) ?_
                        refine s_st ?_ (hN5 true hL2)
                        exact st_le [0, 0, 0] (le_cons rfl (le_cons rfl (le_cons rfl (le_cons rfl (le_cons rfl (le_cons rfl (le_cons rfl (le_cons rfl (le_cons rfl le_nil))))))))) rfl (sub_cons 0 rfl (sub_cons 1 rfl sub_nil))
                      · replace hL2 := ite_f h7 hL2
                        refine d_val_on 8 rfl rfl rfl pnok (by kernel_rfl) (by kernel_rfl) (by kernel_rfl) rfl (v_fieldAddr (v := .pointer (some ⟨b3, 0, none⟩)) rfl (fun _ => by kernel_rfl)) ?_
                        refine d_val_on 9 rfl rfl rfl pnok (by kernel_rfl) (by kernel_rfl) (by kernel_rfl) rfl (v_load_box 0 ty3 rfl rfl rfl rfl rfl) ?_
                        refine d_val_on 10 rfl rfl rfl pnok (by kernel_rfl) (by kernel_rfl) (by kernel_rfl) rfl (v_bin rfl rfl rfl) ?_
                        refine d_val_on 11 rfl rfl rfl pnok (by kernel_rfl) (by kernel_rfl) (by kernel_rfl) rfl (v_move rfl) ?_
                        refine d_split (t := 108) rfl (fun h8 => ?_) (fun h8 => ?_)
                        · replace hL2 := ite_t h8 hL2
                          refine d_val_on 12 rfl rfl rfl pnok (by kernel_rfl) (by kernel_rfl) (by kernel_rfl) rfl (v_load_box 2 ty24 rfl rfl rfl rfl rfl) ?_
                          refine d_val_on 13 rfl rfl rfl pnok (by kernel_rfl) (by kernel_rfl) (by kernel_rfl) rfl (v_fieldAddr (v := .pointer (some ⟨b3, 0, none⟩)) rfl (fun _ => by kernel_rfl)) ?_
                          refine d_val_on 14 rfl rfl rfl pnok (by kernel_rfl) (by kernel_rfl) (by kernel_rfl) rfl (v_load_box 0 ty3 rfl rfl rfl rfl rfl) ?_
                          refine d_val_on 15 rfl rfl rfl pnok (by kernel_rfl) (by kernel_rfl) (by kernel_rfl) rfl (v_fieldAddr (v := .pointer (some ⟨b1, 2, none⟩)) rfl (fun _ => by kernel_rfl)) ?_
                          refine d_val_on 16 rfl rfl rfl pnok (by kernel_rfl) (by kernel_rfl) (by kernel_rfl) rfl (v_load_box 1 ty25 rfl rfl rfl rfl rfl) ?_
                          refine d_val_on 17 rfl rfl rfl pnok (by kernel_rfl) (by kernel_rfl) (by kernel_rfl) rfl (v_move rfl) ?_
                          refine ite_some hL2 fun h9 hL2 => ?_
                          refine d_val_on 18 rfl rfl rfl pnok (by kernel_rfl) (by kernel_rfl) (by kernel_rfl) rfl (v_indexAddr_s (xs := t.Kids) (enc := eTree) sl25 rfl rfl (.f 1 rfl) h9) ?_
                          refine d_one 19 rfl (by kernel_rfl) ?_
                          refine o_on rfl rfl ?_
                          refine o_load_s (ds := [.int .i64 ((at_ t.Kids i).Rule), .int .u8 ((at_ t.Kids i).Byte), .slice 3 (((at_ t.Kids i).Kids).map eTree)]) (xs := t.Kids) (enc := eTree) ty27 rfl (.f 1 rfl) h9 (by simp only [eTree_eq] <;> rfl) rfl rfl rfl rfl rfl fun sa4 sn4 sc4 => ?_
                          refine d_next [0, 0, 0] 1 rfl rfl ?_
                          refine d_one 20 rfl (by kernel_rfl) ?_
                          refine o_on rfl rfl ?_
                          obtain ⟨v, h10, hL2⟩ := bd hL2
                          refine o_callSB call42 rfl (lent_f 1 rfl (lent_f 0 rfl lent_nil)) (hg42 g_ ((at_ ((at_ g_.Rules t.Rule).Rhs) i).Nt) (at_ t.Kids i) sa1 sn1 sc1 sa4 sn4 sc4 v h10) rfl ?_
                          refine d_next [0, 0, 0] 1 rfl rfl ?_
                          refine d_val_on 21 rfl rfl rfl pnok (by kernel_rfl) (by kernel_rfl) (by kernel_rfl) rfl (v_not rfl) ?_
                          refine d_val_on 22 rfl rfl rfl pnok (by kernel_rfl) (by kernel_rfl) (by kernel_rfl) rfl (v_pick_t rfl rfl) ?_
                          refine d_val 23 rfl pnok (by kernel_rfl) (by kernel_rfl) (by kernel_rfl) rfl (v_pick_f rfl rfl) ?_
                          refine d_done (by kernel_rfl) ?_
                          refine s_st ?_ (hN5 (!v) hL2)
                          exact st_le [0, 0, 0] (le_cons rfl (le_cons rfl (le_cons rfl (le_cons rfl (le_cons rfl (le_cons rfl (le_cons rfl (le_cons rfl (le_cons rfl le_nil))))))))) rfl (sub_cons 1 rfl (sub_cons 2 rfl sub_nil))
                        · replace hL2 := ite_f h8 hL2
                          refine d_off 12 rfl rfl rfl (by decide) pnok (by kernel_rfl) (by kernel_rfl) (by kernel_rfl) rfl ?_
                          refine d_off 13 rfl rfl rfl (by decide) pnok (by kernel_rfl) (by kernel_rfl) (by kernel_rfl) rfl ?_
                          refine d_off 14 rfl rfl rfl (by decide) pnok (by kernel_rfl) (by kernel_rfl) (by kernel_rfl) rfl ?_
                          refine d_off 15 rfl rfl rfl (by decide) pnok (by kernel_rfl) (by kernel_rfl) (by kernel_rfl) rfl ?_
                          refine d_off 16 rfl rfl rfl (by decide) pnok (by kernel_rfl) (by kernel_rfl) (by kernel_rfl) rfl ?_
                          refine d_off 17 rfl rfl rfl (by decide) pnok (by kernel_rfl) (by kernel_rfl) (by kernel_rfl) rfl ?_
                          refine d_off 18 rfl rfl rfl (by decide) pnok (by kernel_rfl) (by kernel_rfl) (by kernel_rfl) rfl ?_
                          refine d_off 19 rfl rfl rfl (by decide) pnok (by kernel_rfl) (by kernel_rfl) (by kernel_rfl) rfl ?_
                          refine d_off 20 rfl rfl rfl (by decide) pnok (by kernel_rfl) (by kernel_rfl) (by kernel_rfl) rfl ?_
                          refine d_off 21 rfl rfl rfl (by decide) pnok (by kernel_rfl) (by kernel_rfl) (by kernel_rfl) rfl ?_
                          refine d_val_on 22 rfl rfl rfl pnok (by kernel_rfl) (by kernel_rfl) (by kernel_rfl) rfl (v_pick_f rfl rfl) ?_
                          refine d_val 23 rfl pnok (by kernel_rfl) (by kernel_rfl) (by kernel_rfl) rfl (v_pick_f rfl rfl) ?_
                          refine d_done (by kernel_rfl) ?_
                          refine s_st ?_ (hN5 false hL2)
                          exact st_le [0, 0, 0] (le_cons rfl (le_cons rfl (le_cons rfl (le_cons rfl (le_cons rfl (le_cons rfl (le_cons rfl (le_cons rfl (le_cons rfl le_nil))))))))) rfl (sub_cons 0 rfl (sub_cons 1 rfl sub_nil))
                    · replace hL2 := ite_f h6 hL2
                      refine d_off 4 rfl rfl rfl (by decide) pnok (by kernel_rfl) (by kernel_rfl) (by kernel_rfl) rfl ?_
                      refine d_off 5 rfl rfl rfl (by decide) pnok (by kernel_rfl) (by kernel_rfl) (by kernel_rfl) rfl ?_
                      refine d_val 6 rfl pnok (by kernel_rfl) (by kernel_rfl) (by kernel_rfl) rfl (v_pick_f rfl rfl) ?_
                      refine d_val 7 rfl pnok (by kernel_rfl) (by kernel_rfl) (by kernel_rfl) rfl (v_move rfl) ?_
                      refine d_val_on 8 rfl rfl rfl pnok (by kernel_rfl) (by kernel_rfl) (by kernel_rfl) rfl (v_fieldAddr (v := .pointer (some ⟨b3, 0, none⟩)) rfl (fun _ => by kernel_rfl)) ?_
                      refine d_val_on 9 rfl rfl rfl pnok (by kernel_rfl) (by kernel_rfl) (by kernel_rfl) rfl (v_load_box 0 ty3 rfl rfl rfl rfl rfl) ?_
                      refine d_val_on 10 rfl rfl rfl pnok (by kernel_rfl) (by kernel_rfl) (by kernel_rfl) rfl (v_bin rfl rfl rfl) ?_
                      refine d_val_on 11 rfl rfl rfl pnok (by kernel_rfl) (by kernel_rfl) (by kernel_rfl) rfl (v_move rfl) ?_
                      refine d_split (t := 108) rfl (fun h11 => ?_) (fun h11 => ?_)
                      · replace hL2 := ite_t h11 hL2
                        refine d_val_on 12 rfl rfl rfl pnok (by kernel_rfl) (by kernel_rfl) (by kernel_rfl) rfl (v_load_box 2 ty24 rfl rfl rfl rfl rfl) ?_
                        refine d_val_on 13 rfl rfl rfl pnok (by kernel_rfl) (by kernel_rfl) (by kernel_rfl) rfl (v_fieldAddr (v := .pointer (some ⟨b3, 0, none⟩)) rfl (fun _ => by kernel_rfl)) ?_
                        refine d_val_on 14 rfl rfl rfl pnok (by kernel_rfl) (by kernel_rfl) (by kernel_rfl) rfl (v_load_box 0 ty3 rfl rfl rfl rfl rfl) ?_
                        refine d_val_on 15 rfl rfl rfl pnok (by kernel_rfl) (by kernel_rfl) (by kernel_rfl) rfl (v_fieldAddr (v := .pointer (some ⟨b1, 2, none⟩)) rfl (fun _ => by kernel_rfl)) ?_
                        refine d_val_on 16 rfl rfl rfl pnok (by kernel_rfl) (by kernel_rfl) (by kernel_rfl) rfl (v_load_box 1 ty25 rfl rfl rfl rfl rfl) ?_
                        refine d_val_on 17 rfl rfl rfl pnok (by kernel_rfl) (by kernel_rfl) (by kernel_rfl) rfl (v_move rfl) ?_
                        refine ite_some hL2 fun h12 hL2 => ?_
                        refine d_val_on 18 rfl rfl rfl pnok (by kernel_rfl) (by kernel_rfl) (by kernel_rfl) rfl (v_indexAddr_s (xs := t.Kids) (enc := eTree) sl25 rfl rfl (.f 1 rfl) h12) ?_
                        refine d_one 19 rfl (by kernel_rfl) ?_
                        refine o_on rfl rfl ?_
                        refine o_load_s (ds := [.int .i64 ((at_ t.Kids i).Rule), .int .u8 ((at_ t.Kids i).Byte), .slice 3 (((at_ t.Kids i).Kids).map eTree)]) (xs := t.Kids) (enc := eTree) ty27 rfl (.f 1 rfl) h12 (by simp only [eTree_eq] <;> rfl) rfl rfl rfl rfl rfl fun sa5 sn5 sc5 => ?_
                        refine d_next [0, 0, 0] 1 rfl rfl ?_
                        refine d_one 20 rfl (by kernel_rfl) ?_
                        refine o_on rfl rfl ?_
                        obtain ⟨v1, h13, hL2⟩ := bd hL2
                        refine o_callSB call42 rfl (lent_f 1 rfl (lent_f 0 rfl lent_nil)) (hg42 g_ ((at_ ((at_ g_.Rules t.Rule).Rhs) i).Nt) (at_ t.Kids i) sa1 sn1 sc1 sa5 sn5 sc5 v1 h13) rfl ?_
                        refine d_next [0, 0, 0] 1 rfl rfl ?_
                        refine d_val_on 21 rfl rfl rfl pnok (by kernel_rfl) (by kernel_rfl) (by kernel_rfl) rfl (v_not rfl) ?_
                        refine d_val_on 22 rfl rfl rfl pnok (by kernel_rfl) (by kernel_rfl) (by kernel_rfl) rfl (v_pick_t rfl rfl) ?_
                        refine d_val 23 rfl pnok (by kernel_rfl) (by kernel_rfl) (by kernel_rfl) rfl (v_pick_f rfl rfl) ?_
                        refine d_done (by kernel_rfl) ?_
                        refine s_st ?_ (hN5 (!v1) hL2)
                        exact st_le [0, 0, 0] (le_cons rfl (le_cons rfl (le_cons rfl (le_cons rfl (le_cons rfl (le_cons rfl (le_cons rfl (le_cons rfl (le_cons rfl le_nil))))))))) rfl (sub_cons 1 rfl (sub_cons 2 rfl sub_nil))
                      · replace hL2 := ite_f h11 hL2
                        refine d_off 12 rfl rfl rfl (by decide) pnok (by kernel_rfl) (by kernel_rfl) (by kernel_rfl) rfl ?_
                        refine d_off 13 rfl rfl rfl (by decide) pnok (by kernel_rfl) (by kernel_rfl) (by kernel_rfl) rfl ?_
                        refine d_off 14 rfl rfl rfl (by decide) pnok (by kernel_rfl) (by kernel_rfl) (by kernel_rfl) rfl ?_
                        refine d_off 15 rfl rfl rfl (by decide) pnok (by kernel_rfl) (by kernel_rfl) (by kernel_rfl) rfl ?_
                        refine d_off 16 rfl rfl rfl (by decide) pnok (by kernel_rfl) (by kernel_rfl) (by kernel_rfl) rfl ?_
                        refine d_off 17 rfl rfl rfl (by decide) pnok (by kernel_rfl) (by kernel_rfl) (by kernel_rfl) rfl ?_
                        refine d_off 18 rfl rfl rfl (by decide) pnok (by kernel_rfl) (by kernel_rfl) (by kernel_rfl) rfl ?_
                        refine d_off 19 rfl rfl rfl (by decide) pnok (by kernel_rfl) (by kernel_rfl) (by kernel_rfl) rfl ?_
                        refine d_off 20 rfl rfl rfl (by decide) pnok (by kernel_rfl) (by kernel_rfl) (by kernel_rfl) rfl ?_
                        refine d_off 21 rfl rfl rfl (by decide) pnok (by kernel_rfl) (by kernel_rfl) (by kernel_rfl) rfl ?_
                        refine d_val_on 22 rfl rfl rfl pnok (by kernel_rfl) (by kernel_rfl) (by kernel_rfl) rfl (v_pick_f rfl rfl) ?_
                        refine d_val 23 rfl pnok (by kernel_rfl) (by kernel_rfl) (by kernel_rfl) rfl (v_pick_f rfl rfl) ?_
                        refine d_done (by kernel_rfl) ?_
                        refine s_st ?_ (hN5 false hL2)
                        exact st_le [0, 0, 0] (le_cons rfl (le_cons rfl (le_cons rfl (le_cons rfl (le_cons rfl (le_cons rfl (le_cons rfl (le_cons rfl (le_cons rfl le_nil))))))))) rfl (sub_cons 0 rfl (sub_cons 1 rfl sub_nil))
                  · intro t120 hL2
                    unfold F.ref09.Of_j5 at hL2
                    refine sat_wc ?_
                    refine c_cond rfl (fun h5 => ?_) (fun h5 => ?_)
                    · replace hL2 := ite_t h5 hL2
                      refine c_seq ?_
                      refine c_region ?_
                      refine o_v (v_assign rfl) rfl ?_
                      refine o_seq ?_
                      refine c_ret ?_
                      cases hL2
                      obtain rfl := lrf_ret hF
                      refine s_ret1 rfl (r_tmp rfl) fun a w hs => ?_
                      exact fin_sel hs [] ⟨rfl, rfl, rfl⟩ rfl sub_nil
                    · replace hL2 := ite_f h5 hL2
                      refine c_skip ?_
                      refine s_st ?_ (hN3 leaf1 b3 hL2)
                      exact st_le [1, 1, 0] (le_cons rfl (le_cons rfl (le_cons rfl (le_cons rfl (le_cons rfl (le_cons rfl (le_cons rfl (le_cons rfl le_nil)))))))) rfl (sub_cons 0 rfl (sub_cons 1 rfl sub_nil))
              · intro leaf b2 hL2
                unfold F.ref09.Of_j3 at hL2
                refine sat_wc ?_
                refine c_region ?_
                refine o_v (v_move rfl) rfl ?_
                refine o_v (v_bin rfl rfl rfl) rfl ?_
                refine o_v (v_assign rfl) rfl ?_
                refine o_nil ?_
                intro a w hs
                exact ⟨j, Nat.lt_succ_self j, IntKind.wrap .i64 (i + 1), hL2, st_le [0, 0] (le_cons rfl (le_cons rfl (le_cons rfl (le_cons rfl (le_cons rfl (le_cons rfl le_nil)))))) rfl (sub_cons 0 rfl (sub_cons 1 rfl sub_nil)) a w hs⟩
            · replace hL2 := ite_f h2 hL2
              refine c_exit0 ?_
              cases hL2
              refine s_st ?_ (hN2 () rfl)
              exact st_le [0, 0] (le_cons rfl (le_cons rfl (le_cons rfl (le_cons rfl (le_cons rfl le_nil))))) rfl (sub_cons 0 rfl (sub_cons 1 rfl sub_nil))
      · intro d2 hd
        subst hd
        replace hF := lrf_done hF
        refine sat_wc ?_
        refine c_seq ?_
        refine c_region ?_
        refine o_v (v_assign rfl) rfl ?_
        refine o_seq ?_
        refine c_ret ?_
        cases hF
        refine s_ret1 rfl (r_tmp rfl) fun a w hs => ?_
        exact fin_sel hs [] ⟨rfl, rfl, rfl⟩ rfl sub_nil
theorem tri42 (k : Nat) : (∀ (g_ : Gram) (nt : Int) (t : Tree) (sa1 : Option Addr) (sn1 sc1 : Nat) (sa2 : Option Addr) (sn2 sc2 : Nat) (r : Bool), F.ref09.Of k g_ nt t = some r → Tri Tryd.prog 42 [.agg #[.int .i64 g_.Nts, .int .i64 g_.Start, .slice sa1 sn1 sc1], .int .i64 nt, .agg #[.int .i64 t.Rule, .int .u8 t.Byte, .slice sa2 sn2 sc2]] [] [(.slice sa1 sn1 sc1, .slice 2 (g_.Rules.map eRule)), (.slice sa2 sn2 sc2, .slice 3 (t.Kids.map eTree))] (fun o H Φ => o = .ret (.bool r) ∧ H = [] ∧ Φ = [])) := by
  induction k with
  | zero => exact fun _ _ _ _ _ _ _ _ _ _ h => nomatch (show none = some _ from h)
  | succ k ih => exact tri42_B k _ ih
theorem tri18 (k : Nat) (g_ : Gram) (nt : Int) (t : Tree) (sa1 : Option Addr) (sn1 sc1 : Nat) (sa2 : Option Addr) (sn2 sc2 : Nat) (r : Int) (hF : F.ref09.Right k g_ nt t = some r) :
    Tri Tryd.prog 18 [.agg #[.int .i64 g_.Nts, .int .i64 g_.Start, .slice sa1 sn1 sc1], .int .i64 nt, .agg #[.int .i64 t.Rule, .int .u8 t.Byte, .slice sa2 sn2 sc2]] [] [(.slice sa1 sn1 sc1, .slice 2 (g_.Rules.map eRule)), (.slice sa2 sn2 sc2, .slice 3 (t.Kids.map eTree))] (fun o H Φ => o = .ret (.int .i64 r) ∧ H = [] ∧ Φ = []) := by
  unfold F.ref09.Right at hF
  refine tri_intro (n := 26) Tryd.func18 rfl Tryd.ntmps18 rfl fun w X => ?_
  refine c_seq ?_
  refine c_region ?_
  refine o_box rfl rfl rfl fun b => ?_
  refine o_box rfl rfl rfl fun b1 => ?_
  refine o_v (v_assign rfl) rfl ?_
  refine o_seq ?_
  refine c_seq ?_
  refine c_region ?_
  refine o_v (v_load_box 1 ty24 rfl rfl rfl rfl rfl) rfl ?_
  obtain ⟨v, h1, hF⟩ := bd hF
  refine o_callSB call41 rfl (lent_f 0 rfl lent_nil) (tri41 k g_ sa1 sn1 sc1 v h1) rfl ?_
  refine o_v (v_assign rfl) rfl ?_
  refine o_seq ?_
  refine c_seq ?_
  refine c_seq ?_
  refine c_region ?_
  refine o_v (v_move rfl) rfl ?_
  refine o_v (v_bin rfl rfl rfl) rfl ?_
  refine o_seq ?_
  refine c_cond rfl (fun h2 => ?_) (fun h2 => ?_)
  · replace hF := ite_t h2 hF
    refine c_seq ?_
    refine c_region ?_
    refine o_v (v_move rfl) rfl ?_
    refine o_v (v_assign rfl) rfl ?_
    refine o_seq ?_
    refine c_ret ?_
    cases hF
    refine s_ret1 rfl (r_tmp rfl) fun a w hs => ?_
    exact fin_sel hs [] ⟨rfl, rfl, rfl⟩ rfl sub_nil
  · replace hF := ite_f h2 hF
    refine c_skip ?_
    refine sat_wc ?_
    refine c_seq ?_
    refine c_seq ?_
    refine c_region ?_
    refine o_v (v_move rfl) rfl ?_
    refine o_v (v_bin rfl rfl rfl) rfl ?_
    refine o_v (v_move rfl) rfl ?_
    refine o_split (t := 15) rfl (fun h3 => ?_) (fun h3 => ?_)
    · replace hF := ite_t h3 hF
      refine o_off rfl rfl (by decide) rfl ?_
      refine o_off rfl rfl (by decide) rfl ?_
      refine o_off rfl rfl (by decide) rfl ?_
      refine o_off rfl rfl (by decide) rfl ?_
      refine o_v (v_pick_t rfl rfl) rfl ?_
      refine o_seq ?_
      refine c_cond rfl (fun _ => ?_) (fun h => Bool.noConfusion h)
      refine c_seq ?_
      refine c_region ?_
      refine o_v (v_assign rfl) rfl ?_
      refine o_seq ?_
      refine c_ret ?_
      cases hF
      refine s_ret1 rfl (r_tmp rfl) fun a w hs => ?_
      exact fin_sel hs [] ⟨rfl, rfl, rfl⟩ rfl sub_nil
    · replace hF := ite_f h3 hF
      refine o_on rfl rfl ?_
      refine o_v (v_move rfl) rfl ?_
      refine o_on rfl rfl ?_
      refine o_v (v_fieldAddr (v := .pointer (some ⟨b, 0, none⟩)) rfl (fun _ => by kernel_rfl)) rfl ?_
      refine o_on rfl rfl ?_
      refine o_v (v_load_box 1 ty3 rfl rfl rfl rfl rfl) rfl ?_
      refine o_on rfl rfl ?_
      refine o_v (v_bin rfl rfl rfl) rfl ?_
      refine o_v (v_pick_f rfl rfl) rfl ?_
      refine o_seq ?_
      refine c_cond rfl (fun h4 => ?_) (fun h4 => ?_)
      · replace hF := ite_t h4 hF
        refine c_seq ?_
        refine c_region ?_
        refine o_v (v_assign rfl) rfl ?_
        refine o_seq ?_
        refine c_ret ?_
        cases hF
        refine s_ret1 rfl (r_tmp rfl) fun a w hs => ?_
        exact fin_sel hs [] ⟨rfl, rfl, rfl⟩ rfl sub_nil
      · replace hF := ite_f h4 hF
        refine c_skip ?_
        refine sat_wc ?_
        refine c_seq ?_
        refine c_seq ?_
        refine c_region ?_
        refine o_v (v_load_box 1 ty24 rfl rfl rfl rfl rfl) rfl ?_
        refine o_v (v_move rfl) rfl ?_
        refine o_v (v_load_box 0 ty27 rfl rfl rfl rfl rfl) rfl ?_
        obtain ⟨v1, h5, hF⟩ := bd hF
        refine o_callSB call42 rfl (lent_f 0 rfl (lent_f 1 rfl lent_nil)) (tri42 k g_ nt t sa1 sn1 sc1 sa2 sn2 sc2 v1 h5) rfl ?_
        refine o_v (v_not rfl) rfl ?_
        refine o_seq ?_
        refine c_cond rfl (fun h6 => ?_) (fun h6 => ?_)
        · replace hF := ite_t h6 hF
          refine c_seq ?_
          refine c_region ?_
          refine o_v (v_assign rfl) rfl ?_
          refine o_seq ?_
          refine c_ret ?_
          cases hF
          refine s_ret1 rfl (r_tmp rfl) fun a w hs => ?_
          exact fin_sel hs [] ⟨rfl, rfl, rfl⟩ rfl sub_nil
        · replace hF := ite_f h6 hF
          refine c_skip ?_
          refine sat_wc ?_
          refine c_seq ?_
          refine c_region ?_
          refine o_v (v_assign rfl) rfl ?_
          refine o_seq ?_
          refine c_ret ?_
          cases hF
          refine s_ret1 rfl (r_tmp rfl) fun a w hs => ?_
          exact fin_sel hs [] ⟨rfl, rfl, rfl⟩ rfl sub_nil
theorem tri43_B (k : Nat) (g43 : Tree → Tree → Option Bool)
    (hg43 : ∀ (a_ : Tree) (b : Tree) (sa1 : Option Addr) (sn1 sc1 : Nat) (sa2 : Option Addr) (sn2 sc2 : Nat) (r : Bool), g43 a_ b = some r → Tri Tryd.prog 43 [.agg #[.int .i64 a_.Rule, .int .u8 a_.Byte, .slice sa1 sn1 sc1], .agg #[.int .i64 b.Rule, .int .u8 b.Byte, .slice sa2 sn2 sc2]] [] [(.slice sa1 sn1 sc1, .slice 3 (a_.Kids.map eTree)), (.slice sa2 sn2 sc2, .slice 3 (b.Kids.map eTree))] (fun o H Φ => o = .ret (.bool r) ∧ H = [] ∧ Φ = [])) (a_ : Tree) (b : Tree) (sa1 : Option Addr) (sn1 sc1 : Nat) (sa2 : Option Addr) (sn2 sc2 : Nat) (r : Bool) (hF : F.ref08.SameTree_B k g43 a_ b = some r) :
    Tri Tryd.prog 43 [.agg #[.int .i64 a_.Rule, .int .u8 a_.Byte, .slice sa1 sn1 sc1], .agg #[.int .i64 b.Rule, .int .u8 b.Byte, .slice sa2 sn2 sc2]] [] [(.slice sa1 sn1 sc1, .slice 3 (a_.Kids.map eTree)), (.slice sa2 sn2 sc2, .slice 3 (b.Kids.map eTree))] (fun o H Φ => o = .ret (.bool r) ∧ H = [] ∧ Φ = []) := by
  unfold F.ref08.SameTree_B at hF
  refine tri_intro (n := 46) Tryd.func43 rfl Tryd.ntmps43 rfl fun w X => ?_
  refine c_seq ?_
  refine c_region ?_
  refine o_box rfl rfl rfl fun b1 => ?_
  refine o_box rfl rfl rfl fun b2 => ?_
  refine o_v (v_assign rfl) rfl ?_
  refine o_seq ?_
  refine c_seq ?_
  refine c_seq ?_
  refine c_region ?_
  refine o_v (v_fieldAddr (v := .pointer (some ⟨b1, 0, none⟩)) rfl (fun _ => by kernel_rfl)) rfl ?_
  refine o_v (v_load_box 1 ty3 rfl rfl rfl rfl rfl) rfl ?_
  refine o_v (v_fieldAddr (v := .pointer (some ⟨b2, 0, none⟩)) rfl (fun _ => by kernel_rfl)) rfl ?_
  refine o_v (v_load_box 0 ty3 rfl rfl rfl rfl rfl) rfl ?_
  refine o_v (v_bin rfl rfl rfl) rfl ?_
  refine o_v (v_move rfl) rfl ?_
  refine o_split (t := 11) rfl (fun h1 => ?_) (fun h1 => ?_)
  · replace hF := ite_t h1 hF
    refine o_off rfl rfl (by decide) rfl ?_
    refine o_off rfl rfl (by decide) rfl ?_
    refine o_off rfl rfl (by decide) rfl ?_
    refine o_off rfl rfl (by decide) rfl ?_
    refine o_off rfl rfl (by decide) rfl ?_
    refine o_v (v_pick_t rfl rfl) rfl ?_
    refine o_v (v_move rfl) rfl ?_
    refine o_off rfl rfl (by decide) rfl ?_
    refine o_off rfl rfl (by decide) rfl ?_
    refine o_off rfl rfl (by decide) rfl ?_
    refine o_off rfl rfl (by decide) rfl ?_
    refine o_off rfl rfl (by decide) rfl ?_
    refine o_off rfl rfl (by decide) rfl ?_
    refine o_off rfl rfl (by decide) rfl ?_
    refine o_v (v_pick_t rfl rfl) rfl ?_
    refine o_seq ?_
    refine c_cond rfl (fun _ => ?_) (fun h => Bool.noConfusion h)
    refine c_seq ?_
    refine c_region ?_
    refine o_v (v_assign rfl) rfl ?_
    refine o_seq ?_
    refine c_ret ?_
    cases hF
    refine s_ret1 rfl (r_tmp rfl) fun a w hs => ?_
    exact fin_sel hs [] ⟨rfl, rfl, rfl⟩ rfl sub_nil
  · replace hF := ite_f h1 hF
    refine o_on rfl rfl ?_
    refine o_v (v_fieldAddr (v := .pointer (some ⟨b1, 1, none⟩)) rfl (fun _ => by kernel_rfl)) rfl ?_
    refine o_on rfl rfl ?_
    refine o_v (v_load_box 1 ty5 rfl rfl rfl rfl rfl) rfl ?_
    refine o_on rfl rfl ?_
    refine o_v (v_fieldAddr (v := .pointer (some ⟨b2, 1, none⟩)) rfl (fun _ => by kernel_rfl)) rfl ?_
    refine o_on rfl rfl ?_
    refine o_v (v_load_box 0 ty5 rfl rfl rfl rfl rfl) rfl ?_
    refine o_on rfl rfl ?_
    refine o_v (v_bin rfl rfl rfl) rfl ?_
    refine o_v (v_pick_f rfl rfl) rfl ?_
    refine o_v (v_move rfl) rfl ?_
    refine o_split (t := 18) rfl (fun h2 => ?_) (fun h2 => ?_)
    · replace hF := ite_t h2 hF
      refine o_off rfl rfl (by decide) rfl ?_
      refine o_off rfl rfl (by decide) rfl ?_
      refine o_off rfl rfl (by decide) rfl ?_
      refine o_off rfl rfl (by decide) rfl ?_
      refine o_off rfl rfl (by decide) rfl ?_
      refine o_off rfl rfl (by decide) rfl ?_
      refine o_off rfl rfl (by decide) rfl ?_
      refine o_v (v_pick_t rfl rfl) rfl ?_
      refine o_seq ?_
      refine c_cond rfl (fun _ => ?_) (fun h => Bool.noConfusion h)
      refine c_seq ?_
      refine c_region ?_
      refine o_v (v_assign rfl) rfl ?_
      refine o_seq ?_
      refine c_ret ?_
      cases hF
      refine s_ret1 rfl (r_tmp rfl) fun a w hs => ?_
      exact fin_sel hs [] ⟨rfl, rfl, rfl⟩ rfl sub_nil
    · replace hF := ite_f h2 hF
      refine o_on rfl rfl ?_
      refine o_v (v_fieldAddr (v := .pointer (some ⟨b1, 2, none⟩)) rfl (fun _ => by kernel_rfl)) rfl ?_
      refine o_on rfl rfl ?_
      refine o_v (v_load_box 1 ty25 rfl rfl rfl rfl rfl) rfl ?_
      refine o_on rfl rfl ?_
      refine o_v (v_lenS (enc := eTree) a_.Kids sl25 rfl (.f 0 rfl)) rfl ?_
      refine o_on rfl rfl ?_
      refine o_v (v_fieldAddr (v := .pointer (some ⟨b2, 2, none⟩)) rfl (fun _ => by kernel_rfl)) rfl ?_
      refine o_on rfl rfl ?_
      refine o_v (v_load_box 0 ty25 rfl rfl rfl rfl rfl) rfl ?_
      refine o_on rfl rfl ?_
      refine o_v (v_lenS (enc := eTree) b.Kids sl25 rfl (.f 1 rfl)) rfl ?_
      refine o_on rfl rfl ?_
      refine o_v (v_bin rfl rfl rfl) rfl ?_
      refine o_v (v_pick_f rfl rfl) rfl ?_
      refine o_seq ?_
      refine c_cond rfl (fun h3 => ?_) (fun h3 => ?_)
      · replace hF := ite_t h3 hF
        refine c_seq ?_
        refine c_region ?_
        refine o_v (v_assign rfl) rfl ?_
        refine o_seq ?_
        refine c_ret ?_
        cases hF
        refine s_ret1 rfl (r_tmp rfl) fun a w hs => ?_
        exact fin_sel hs [] ⟨rfl, rfl, rfl⟩ rfl sub_nil
      · replace hF := ite_f h3 hF
        refine c_skip ?_
        refine sat_wc ?_
        refine c_seq ?_
        refine c_seq ?_
        refine c_region ?_
        refine o_v (v_assign rfl) rfl ?_
        refine o_seq ?_
        obtain ⟨o1, ho1, hF⟩ := bd hF
        refine c_cut (fun E N' => ∀ (d1 : Unit), o1 = .done d1 → Sat E [(0, .agg #[.int .i64 a_.Rule, .int .u8 a_.Byte, .slice sa1 sn1 sc1]), (1, .agg #[.int .i64 b.Rule, .int .u8 b.Byte, .slice sa2 sn2 sc2]), (2, .pointer (some ⟨b1, 0, none⟩)), (3, .pointer (some ⟨b2, 0, none⟩)), (4, .bool false)] [.box b2 27 [.int .i64 b.Rule, .int .u8 b.Byte, .slice sa2 sn2 sc2], .box b1 27 [.int .i64 a_.Rule, .int .u8 a_.Byte, .slice sa1 sn1 sc1]] [(.slice sa1 sn1 sc1, .slice 3 (a_.Kids.map eTree)), (.slice sa2 sn2 sc2, .slice 3 (b.Kids.map eTree))] N') (fun N1 hN1 => ?_) ?_
        · refine c_block ?_
          refine c_loopE (fun E j a w => ∃ (i : Int), F.ref08.SameTree_l1 a_ b g43 j i = some o1 ∧ St E [(0, .agg #[.int .i64 a_.Rule, .int .u8 a_.Byte, .slice sa1 sn1 sc1]), (1, .agg #[.int .i64 b.Rule, .int .u8 b.Byte, .slice sa2 sn2 sc2]), (2, .pointer (some ⟨b1, 0, none⟩)), (3, .pointer (some ⟨b2, 0, none⟩)), (4, .bool false), (5, .int .i64 i)] [.box b2 27 [.int .i64 b.Rule, .int .u8 b.Byte, .slice sa2 sn2 sc2], .box b1 27 [.int .i64 a_.Rule, .int .u8 a_.Byte, .slice sa1 sn1 sc1]] [(.slice sa1 sn1 sc1, .slice 3 (a_.Kids.map eTree)), (.slice sa2 sn2 sc2, .slice 3 (b.Kids.map eTree))] a w) k ?_ ?_
          · intro a w hs
            exact ⟨0, ho1, st_le [0, 0] (le_cons rfl (le_cons rfl (le_cons rfl (le_cons rfl (le_cons rfl (le_cons rfl le_nil)))))) rfl (sub_cons 0 rfl (sub_cons 1 rfl sub_nil)) a w hs⟩
          · rintro j a w ⟨i, hL1, hs⟩
            cases j with
            | zero => cases hL1
            | succ j =>
              refine wc_app hs ?_
              unfold F.ref08.SameTree_l1 at hL1
              refine c_seq ?_
              refine c_seq ?_
              refine c_region ?_
              refine o_v (v_move rfl) rfl ?_
              refine o_v (v_fieldAddr (v := .pointer (some ⟨b1, 2, none⟩)) rfl (fun _ => by kernel_rfl)) rfl ?_
              refine o_v (v_load_box 1 ty25 rfl rfl rfl rfl rfl) rfl ?_
              refine o_v (v_lenS (enc := eTree) a_.Kids sl25 rfl (.f 0 rfl)) rfl ?_
              refine o_v (v_bin rfl rfl rfl) rfl ?_
              refine o_seq ?_
              refine c_cond rfl (fun h4 => ?_) (fun h4 => ?_)
              · replace hL1 := ite_t h4 hL1
                refine c_skip ?_
                refine sat_wc ?_
                refine c_seq ?_
                refine c_cut (fun E N' => F.ref08.SameTree_j2 (F.ref08.SameTree_l1 a_ b g43 j) i = some o1 → Sat E [(0, .agg #[.int .i64 a_.Rule, .int .u8 a_.Byte, .slice sa1 sn1 sc1]), (1, .agg #[.int .i64 b.Rule, .int .u8 b.Byte, .slice sa2 sn2 sc2]), (2, .pointer (some ⟨b1, 0, none⟩)), (3, .pointer (some ⟨b2, 0, none⟩)), (4, .bool false), (5, .int .i64 i)] [.box b2 27 [.int .i64 b.Rule, .int .u8 b.Byte, .slice sa2 sn2 sc2], .box b1 27 [.int .i64 a_.Rule, .int .u8 a_.Byte, .slice sa1 sn1 sc1]] [(.slice sa1 sn1 sc1, .slice 3 (a_.Kids.map eTree)), (.slice sa2 sn2 sc2, .slice 3 (b.Kids.map eTree))] N') (fun N2 hN2 => ?_) ?_
                · refine c_block ?_
                  refine c_seq ?_
                  refine c_cut (fun E N' => ∀ (t45 : Bool), F.ref08.SameTree_j3 (F.ref08.SameTree_l1 a_ b g43 j) i t45 = some o1 → Sat E [(0, .agg #[.int .i64 a_.Rule, .int .u8 a_.Byte, .slice sa1 sn1 sc1]), (1, .agg #[.int .i64 b.Rule, .int .u8 b.Byte, .slice sa2 sn2 sc2]), (2, .pointer (some ⟨b1, 0, none⟩)), (3, .pointer (some ⟨b2, 0, none⟩)), (4, .bool false), (5, .int .i64 i), (45, .bool t45)] [.box b2 27 [.int .i64 b.Rule, .int .u8 b.Byte, .slice sa2 sn2 sc2], .box b1 27 [.int .i64 a_.Rule, .int .u8 a_.Byte, .slice sa1 sn1 sc1]] [(.slice sa1 sn1 sc1, .slice 3 (a_.Kids.map eTree)), (.slice sa2 sn2 sc2, .slice 3 (b.Kids.map eTree))] N') (fun N3 hN3 => ?_) ?_
                  · refine c_draw (n := 12) [0, 0] mixed rfl rfl ?_
                    refine d_val 0 rfl pnok (by kernel_rfl) (by kernel_rfl) (by kernel_rfl) rfl (v_fieldAddr (v := .pointer (some ⟨b1, 2, none⟩)) rfl (fun _ => by kernel_rfl)) ?_
                    refine d_val 1 rfl pnok (by kernel_rfl) (by kernel_rfl) (by kernel_rfl) rfl (v_load_box 1 ty25 rfl rfl rfl rfl rfl) ?_
                    refine d_val 2 rfl pnok (by kernel_rfl) (by kernel_rfl) (by kernel_rfl) rfl (v_move rfl) ?_
                    refine ite_some hL1 fun h6 hL1 => ?_
                    refine d_val 3 rfl pnok (by kernel_rfl) (by kernel_rfl) (by kernel_rfl) rfl (v_indexAddr_s (xs := a_.Kids) (enc := eTree) sl25 rfl rfl (.f 0 rfl) h6) ?_
                    refine d_val 5 rfl pnok (by kernel_rfl) (by kernel_rfl) (by kernel_rfl) rfl (v_fieldAddr (v := .pointer (some ⟨b2, 2, none⟩)) rfl (fun _ => by kernel_rfl)) ?_
                    refine d_val 6 rfl pnok (by kernel_rfl) (by kernel_rfl) (by kernel_rfl) rfl (v_load_box 0 ty25 rfl rfl rfl rfl rfl) ?_
                    refine d_val 7 rfl pnok (by kernel_rfl) (by kernel_rfl) (by kernel_rfl) rfl (v_move rfl) ?_
                    refine ite_some hL1 fun h7 hL1 => ?_
                    refine d_val 8 rfl pnok (by kernel_rfl) (by kernel_rfl) (by kernel_rfl) rfl (v_indexAddr_s (xs := b.Kids) (enc := eTree) sl25 rfl rfl (.f 1 rfl) h7) ?_
                    obtain ⟨v, h8, hL1⟩ := bd hL1
                    refine d_all [4, 9] (by kernel_rfl) (by simp) ⟨⟨_, rfl, ?_⟩, ⟨_, rfl, ?_⟩, trivial⟩
                    · refine o_load_s (ds := [.int .i64 ((at_ a_.Kids i).Rule), .int .u8 ((at_ a_.Kids i).Byte), .slice 3 (((at_ a_.Kids i).Kids).map eTree)]) (xs := a_.Kids) (enc := eTree) ty27 rfl (.f 0 rfl) h6 (by simp only [eTree_eq] <;> rfl) rfl rfl rfl rfl rfl fun sa3 sn3 sc3 => ?_
                      refine d_next [0, 0] 1 rfl rfl ?_
                      refine d_one 9 rfl (by kernel_rfl) ?_
                      refine o_load_s (ds := [.int .i64 ((at_ b.Kids i).Rule), .int .u8 ((at_ b.Kids i).Byte), .slice 3 (((at_ b.Kids i).Kids).map eTree)]) (xs := b.Kids) (enc := eTree) ty27 rfl (.f 2 rfl) h7 (by simp only [eTree_eq] <;> rfl) rfl rfl rfl rfl rfl fun sa4 sn4 sc4 => ?_
                      refine d_next [0, 0] 2 rfl rfl ?_
                      refine d_one 10 rfl (by kernel_rfl) ?_
                      refine o_callSB call43 rfl (lent_f 1 rfl (lent_f 0 rfl lent_nil)) (hg43 (at_ a_.Kids i) (at_ b.Kids i) sa3 sn3 sc3 sa4 sn4 sc4 v h8) rfl ?_
                      refine d_next [0, 0] 2 rfl rfl ?_
                      refine d_val 11 rfl pnok (by kernel_rfl) (by kernel_rfl) (by kernel_rfl) rfl (v_not rfl) ?_
                      refine d_done (by kernel_rfl) ?_
                      refine s_st ?_ (hN3 (!v) hL1)
                      exact st_le [0, 0] (le_cons rfl (le_cons rfl (le_cons rfl (le_cons rfl (le_cons rfl (le_cons rfl (le_cons rfl le_nil))))))) rfl (sub_cons 2 rfl (sub_cons 3 rfl sub_nil))
                    · refine o_load_s (ds := [.int .i64 ((at_ b.Kids i).Rule), .int .u8 ((at_ b.Kids i).Byte), .slice 3 (((at_ b.Kids i).Kids).map eTree)]) (xs := b.Kids) (enc := eTree) ty27 rfl (.f 1 rfl) h7 (by simp only [eTree_eq] <;> rfl) rfl rfl rfl rfl rfl fun sa3 sn3 sc3 => ?_
                      refine d_next [0, 0] 1 rfl rfl ?_
                      refine d_one 4 rfl (by kernel_rfl) ?_
                      refine o_load_s (ds := [.int .i64 ((at_ a_.Kids i).Rule), .int .u8 ((at_ a_.Kids i).Byte), .slice 3 (((at_ a_.Kids i).Kids).map eTree)]) (xs := a_.Kids) (enc := eTree) ty27 rfl (.f 1 rfl) h6 (by simp only [eTree_eq] <;> rfl) rfl rfl rfl rfl rfl fun sa4 sn4 sc4 => ?_
                      refine d_next [0, 0] 2 rfl rfl ?_
                      refine d_one 10 rfl (by kernel_rfl) ?_
                      refine o_callSB call43 rfl (lent_f 0 rfl (lent_f 1 rfl lent_nil)) (hg43 (at_ a_.Kids i) (at_ b.Kids i) sa4 sn4 sc4 sa3 sn3 sc3 v h8) rfl ?_
                      refine d_next [0, 0] 2 rfl rfl ?_
                      refine d_val 11 rfl pnok (by kernel_rfl) (by kernel_rfl) (by kernel_rfl) rfl (v_not rfl) ?_
                      refine d_done (by kernel_rfl) ?_
                      refine s_st ?_ (hN3 (!v) hL1)
                      exact st_le [0, 0] (le_cons rfl (le_cons rfl (le_cons rfl (le_cons rfl (le_cons rfl (le_cons rfl (le_cons rfl le_nil))))))) rfl (sub_cons 2 rfl (sub_cons 3 rfl sub_nil))
                  · intro t45 hL1
                    unfold F.ref08.SameTree_j3 at hL1
                    refine sat_wc ?_
                    refine c_cond rfl (fun h5 => ?_) (fun h5 => ?_)
                    · replace hL1 := ite_t h5 hL1
                      refine c_seq ?_
                      refine c_region ?_
                      refine o_v (v_assign rfl) rfl ?_
                      refine o_seq ?_
                      refine c_ret ?_
                      cases hL1
                      obtain rfl := lrf_ret hF
                      refine s_ret1 rfl (r_tmp rfl) fun a w hs => ?_
                      exact fin_sel hs [] ⟨rfl, rfl, rfl⟩ rfl sub_nil
                    · replace hL1 := ite_f h5 hL1
                      refine c_skip ?_
                      refine s_st ?_ (hN2 hL1)
                      exact st_le [0, 0] (le_cons rfl (le_cons rfl (le_cons rfl (le_cons rfl (le_cons rfl (le_cons rfl le_nil)))))) rfl (sub_cons 0 rfl (sub_cons 1 rfl sub_nil))
                · intro hL1
                  unfold F.ref08.SameTree_j2 at hL1
                  refine sat_wc ?_
                  refine c_region ?_
                  refine o_v (v_move rfl) rfl ?_
                  refine o_v (v_bin rfl rfl rfl) rfl ?_
                  refine o_v (v_assign rfl) rfl ?_
                  refine o_nil ?_
                  intro a w hs
                  exact ⟨j, Nat.lt_succ_self j, IntKind.wrap .i64 (i + 1), hL1, st_le [0, 0] (le_cons rfl (le_cons rfl (le_cons rfl (le_cons rfl (le_cons rfl (le_cons rfl le_nil)))))) rfl (sub_cons 0 rfl (sub_cons 1 rfl sub_nil)) a w hs⟩
              · replace hL1 := ite_f h4 hL1
                refine c_exit0 ?_
                cases hL1
                refine s_st ?_ (hN1 () rfl)
                exact st_le [0, 0] (le_cons rfl (le_cons rfl (le_cons rfl (le_cons rfl (le_cons rfl le_nil))))) rfl (sub_cons 0 rfl (sub_cons 1 rfl sub_nil))
        · intro d1 hd
          subst hd
          replace hF := lrf_done hF
          refine sat_wc ?_
          refine c_seq ?_
          refine c_region ?_
          refine o_v (v_assign rfl) rfl ?_
          refine o_seq ?_
          refine c_ret ?_
          cases hF
          refine s_ret1 rfl (r_tmp rfl) fun a w hs => ?_
          exact fin_sel hs [] ⟨rfl, rfl, rfl⟩ rfl sub_nil
theorem tri43 (k : Nat) : (∀ (a_ : Tree) (b : Tree) (sa1 : Option Addr) (sn1 sc1 : Nat) (sa2 : Option Addr) (sn2 sc2 : Nat) (r : Bool), F.ref08.SameTree k a_ b = some r → Tri Tryd.prog 43 [.agg #[.int .i64 a_.Rule, .int .u8 a_.Byte, .slice sa1 sn1 sc1], .agg #[.int .i64 b.Rule, .int .u8 b.Byte, .slice sa2 sn2 sc2]] [] [(.slice sa1 sn1 sc1, .slice 3 (a_.Kids.map eTree)), (.slice sa2 sn2 sc2, .slice 3 (b.Kids.map eTree))] (fun o H Φ => o = .ret (.bool r) ∧ H = [] ∧ Φ = [])) := by
  induction k with
  | zero => exact fun _ _ _ _ _ _ _ _ _ h => nomatch (show none = some _ from h)
  | succ k ih => exact tri43_B k _ ih
theorem tri19 (k : Nat) (a_ : Tree) (b : Tree) (sa1 : Option Addr) (sn1 sc1 : Nat) (sa2 : Option Addr) (sn2 sc2 : Nat) (r : Bool) (hF : F.ref09.Same k a_ b = some r) :
    Tri Tryd.prog 19 [.agg #[.int .i64 a_.Rule, .int .u8 a_.Byte, .slice sa1 sn1 sc1], .agg #[.int .i64 b.Rule, .int .u8 b.Byte, .slice sa2 sn2 sc2]] [] [(.slice sa1 sn1 sc1, .slice 3 (a_.Kids.map eTree)), (.slice sa2 sn2 sc2, .slice 3 (b.Kids.map eTree))] (fun o H Φ => o = .ret (.bool r) ∧ H = [] ∧ Φ = []) := by
  unfold F.ref09.Same at hF
  refine tri_intro (n := 8) Tryd.func19 rfl Tryd.ntmps19 rfl fun w X => ?_
  refine c_seq ?_
  refine c_region ?_
  refine o_box rfl rfl rfl fun b1 => ?_
  refine o_box rfl rfl rfl fun b2 => ?_
  refine o_v (v_assign rfl) rfl ?_
  refine o_seq ?_
  refine c_seq ?_
  refine c_region ?_
  refine o_v (v_load_box 1 ty27 rfl rfl rfl rfl rfl) rfl ?_
  refine o_v (v_load_box 0 ty27 rfl rfl rfl rfl rfl) rfl ?_
  obtain ⟨v, h1, hF⟩ := bd hF
  refine o_callSB call43 rfl (lent_f 0 rfl (lent_f 1 rfl lent_nil)) (tri43 k a_ b sa1 sn1 sc1 sa2 sn2 sc2 v h1) rfl ?_
  refine o_v (v_assign rfl) rfl ?_
  refine o_seq ?_
  refine c_ret ?_
  cases hF
  refine s_ret1 rfl (r_tmp rfl) fun a w hs => ?_
  exact fin_sel hs [] ⟨rfl, rfl, rfl⟩ rfl sub_nil
theorem tri3 (k : Nat) (g_ : Gram) (nt : Int) (t : Tree) (sa1 : Option Addr) (sn1 sc1 : Nat) (sa2 : Option Addr) (sn2 sc2 : Nat) (r : Bool) (hF : F.law09.TreesRight k g_ nt t = some r) :
    Tri Tryd.prog 3 [.agg #[.int .i64 g_.Nts, .int .i64 g_.Start, .slice sa1 sn1 sc1], .int .i64 nt, .agg #[.int .i64 t.Rule, .int .u8 t.Byte, .slice sa2 sn2 sc2]] [] [gf10 0, (.slice sa1 sn1 sc1, .slice 2 (g_.Rules.map eRule)), (.slice sa2 sn2 sc2, .slice 3 (t.Kids.map eTree))] (fun o H Φ => o = .ret (.bool r) ∧ H = [] ∧ Φ = []) := by
  unfold F.law09.TreesRight at hF
  refine tri_intro (n := 34) Tryd.func3 rfl Tryd.ntmps3 rfl fun w X => ?_
  refine c_seq ?_
  refine c_region ?_
  refine o_box rfl rfl rfl fun b => ?_
  refine o_box rfl rfl rfl fun b1 => ?_
  refine o_v (v_assign rfl) rfl ?_
  refine o_seq ?_
  refine c_seq ?_
  refine c_seq ?_
  refine c_region ?_
  refine o_v (v_load_box 0 ty27 rfl rfl rfl rfl rfl) rfl ?_
  obtain ⟨v, h1, hF⟩ := bd hF
  refine o_callSB call13 rfl (lent_f 2 rfl lent_nil) (tri13 k t sa2 sn2 sc2 v h1) rfl ?_
  refine o_v (v_move rfl) rfl ?_
  refine o_split (t := 10) rfl (fun h2 => ?_) (fun h2 => ?_)
  · replace hF := ite_t h2 hF
    refine o_off rfl rfl (by decide) rfl ?_
    refine o_off rfl rfl (by decide) rfl ?_
    refine o_v (v_pick_t rfl rfl) rfl ?_
    refine o_seq ?_
    refine c_cond rfl (fun _ => ?_) (fun h => Bool.noConfusion h)
    refine c_seq ?_
    refine c_region ?_
    obtain ⟨v1, h3, hF⟩ := bd hF
    refine o_callSB call15 rfl (lent_f 0 rfl lent_nil) (tri15 k v1 h3) rfl ?_
    refine o_v (v_assign rfl) rfl ?_
    refine o_seq ?_
    refine c_ret ?_
    cases hF
    refine s_ret1 rfl (r_tmp rfl) fun a w hs => ?_
    exact fin_sel hs [] ⟨rfl, rfl, rfl⟩ rfl sub_nil
  · replace hF := ite_f h2 hF
    refine o_on rfl rfl ?_
    refine o_v (v_load_box 1 ty24 rfl rfl rfl rfl rfl) rfl ?_
    refine o_on rfl rfl ?_
    obtain ⟨v2, h4, hF⟩ := bd hF
    refine o_callSB call14 rfl (lent_f 1 rfl lent_nil) (tri14 k g_ 500 sa1 sn1 sc1 v2 h4) rfl ?_
    refine o_v (v_pick_f rfl rfl) rfl ?_
    refine o_seq ?_
    refine c_cond rfl (fun h5 => ?_) (fun h5 => ?_)
    · replace hF := ite_t h5 hF
      refine c_seq ?_
      refine c_region ?_
      obtain ⟨v3, h6, hF⟩ := bd hF
      refine o_callSB call15 rfl (lent_f 0 rfl lent_nil) (tri15 k v3 h6) rfl ?_
      refine o_v (v_assign rfl) rfl ?_
      refine o_seq ?_
      refine c_ret ?_
      cases hF
      refine s_ret1 rfl (r_tmp rfl) fun a w hs => ?_
      exact fin_sel hs [] ⟨rfl, rfl, rfl⟩ rfl sub_nil
    · replace hF := ite_f h5 hF
      refine c_skip ?_
      refine sat_wc ?_
      refine c_seq ?_
      refine c_region ?_
      refine o_v (v_load_box 0 ty27 rfl rfl rfl rfl rfl) rfl ?_
      obtain ⟨v4, h7, hF⟩ := bd hF
      refine o_call0 call16 rfl (sub_cons 2 rfl sub_nil) (tri16 k t sa2 sn2 sc2 v4 h7) rfl ?_
      rintro _ _ _ ⟨sa3, sn3, sc3, rfl, rfl, rfl⟩
      refine o_alloc zero27 rfl rfl fun b2 => ?_
      refine o_store_box 0 rfl ty27 rfl rfl rfl rfl rfl rfl rfl ?_
      refine o_seq ?_
      refine c_seq ?_
      refine c_draw (n := 18) [0, 0, 0] mixed rfl rfl ?_
      refine d_one 0 rfl (by kernel_rfl) ?_
      obtain ⟨v5, h8, hF⟩ := bd hF
      refine o_callSB call15 rfl (lent_f 1 rfl lent_nil) (tri15 k v5 h8) rfl ?_
      refine d_next [0, 0, 0] 0 rfl rfl ?_
      refine d_val 1 rfl pnok (by kernel_rfl) (by kernel_rfl) (by kernel_rfl) rfl (v_move rfl) ?_
      refine d_split (t := 18) rfl (fun h9 => ?_) (fun h9 => ?_)
      · replace hF := ite_t h9 hF
        refine d_val_on 2 rfl rfl rfl pnok (by kernel_rfl) (by kernel_rfl) (by kernel_rfl) rfl (v_load_box 2 ty24 rfl rfl rfl rfl rfl) ?_
        refine d_val_on 3 rfl rfl rfl pnok (by kernel_rfl) (by kernel_rfl) (by kernel_rfl) rfl (v_move rfl) ?_
        refine d_val_on 4 rfl rfl rfl pnok (by kernel_rfl) (by kernel_rfl) (by kernel_rfl) rfl (v_load_box 0 ty27 rfl rfl rfl rfl rfl) ?_
        refine d_val_on 6 rfl rfl rfl pnok (by kernel_rfl) (by kernel_rfl) (by kernel_rfl) rfl (v_load_box 2 ty24 rfl rfl rfl rfl rfl) ?_
        refine d_val_on 7 rfl rfl rfl pnok (by kernel_rfl) (by kernel_rfl) (by kernel_rfl) rfl (v_move rfl) ?_
        refine d_val_on 8 rfl rfl rfl pnok (by kernel_rfl) (by kernel_rfl) (by kernel_rfl) rfl (v_load_box 1 ty27 rfl rfl rfl rfl rfl) ?_
        refine d_one 5 rfl (by kernel_rfl) ?_
        refine o_on rfl rfl ?_
        obtain ⟨v6, h10, hF⟩ := bd hF
        refine o_callSB call17 rfl (lent_f 2 rfl (lent_f 0 rfl lent_nil)) (tri17 k g_ nt v4 sa1 sn1 sc1 sa3 sn3 sc3 v6 h10) rfl ?_
        refine d_next [0, 0, 0] 0 rfl rfl ?_
        refine d_one 9 rfl (by kernel_rfl) ?_
        refine o_on rfl rfl ?_
        obtain ⟨v7, h11, hF⟩ := bd hF
        refine o_callSB call18 rfl (lent_f 2 rfl (lent_f 3 rfl lent_nil)) (tri18 k g_ nt t sa1 sn1 sc1 sa2 sn2 sc2 v7 h11) rfl ?_
        refine d_next [0, 0, 0] 0 rfl rfl ?_
        refine d_val_on 10 rfl rfl rfl pnok (by kernel_rfl) (by kernel_rfl) (by kernel_rfl) rfl (v_bin rfl rfl rfl) ?_
        refine d_val 11 rfl pnok (by kernel_rfl) (by kernel_rfl) (by kernel_rfl) rfl (v_pick_t rfl rfl) ?_
        refine d_val 12 rfl pnok (by kernel_rfl) (by kernel_rfl) (by kernel_rfl) rfl (v_move rfl) ?_
        refine d_split (t := 29) rfl (fun h12 => ?_) (fun h12 => ?_)
        · replace hF := ite_t h12 hF
          refine d_val_on 13 rfl rfl rfl pnok (by kernel_rfl) (by kernel_rfl) (by kernel_rfl) rfl (v_load_box 0 ty27 rfl rfl rfl rfl rfl) ?_
          refine d_val_on 14 rfl rfl rfl pnok (by kernel_rfl) (by kernel_rfl) (by kernel_rfl) rfl (v_load_box 1 ty27 rfl rfl rfl rfl rfl) ?_
          refine d_one 15 rfl (by kernel_rfl) ?_
          refine o_on rfl rfl ?_
          obtain ⟨v8, h13, hF⟩ := bd hF
          refine o_callSB call19 rfl (lent_f 0 rfl (lent_f 3 rfl lent_nil)) (tri19 k v4 t sa3 sn3 sc3 sa2 sn2 sc2 v8 h13) rfl ?_
          refine d_next [0, 0, 0] 0 rfl rfl ?_
          refine d_val 16 rfl pnok (by kernel_rfl) (by kernel_rfl) (by kernel_rfl) rfl (v_pick_t rfl rfl) ?_
          refine d_val 17 rfl pnok (by kernel_rfl) (by kernel_rfl) (by kernel_rfl) rfl (v_assign rfl) ?_
          refine d_done_seq (by kernel_rfl) ?_
          refine c_ret ?_
          cases hF
          refine s_ret1 rfl (r_tmp rfl) fun a w hs => ?_
          exact fin_sel hs [] ⟨rfl, rfl, rfl⟩ rfl sub_nil
        · replace hF := ite_f h12 hF
          refine d_off 13 rfl rfl rfl (by decide) pnok (by kernel_rfl) (by kernel_rfl) (by kernel_rfl) rfl ?_
          refine d_off 14 rfl rfl rfl (by decide) pnok (by kernel_rfl) (by kernel_rfl) (by kernel_rfl) rfl ?_
          refine d_off 15 rfl rfl rfl (by decide) pnok (by kernel_rfl) (by kernel_rfl) (by kernel_rfl) rfl ?_
          refine d_val 16 rfl pnok (by kernel_rfl) (by kernel_rfl) (by kernel_rfl) rfl (v_pick_f rfl rfl) ?_
          refine d_val 17 rfl pnok (by kernel_rfl) (by kernel_rfl) (by kernel_rfl) rfl (v_assign rfl) ?_
          refine d_done_seq (by kernel_rfl) ?_
          refine c_ret ?_
          cases hF
          refine s_ret1 rfl (r_tmp rfl) fun a w hs => ?_
          exact fin_sel hs [] ⟨rfl, rfl, rfl⟩ rfl sub_nil
      · replace hF := ite_f h9 hF
        refine d_off 2 rfl rfl rfl (by decide) pnok (by kernel_rfl) (by kernel_rfl) (by kernel_rfl) rfl ?_
        refine d_off 3 rfl rfl rfl (by decide) pnok (by kernel_rfl) (by kernel_rfl) (by kernel_rfl) rfl ?_
        refine d_off 4 rfl rfl rfl (by decide) pnok (by kernel_rfl) (by kernel_rfl) (by kernel_rfl) rfl ?_
        refine d_off 5 rfl rfl rfl (by decide) pnok (by kernel_rfl) (by kernel_rfl) (by kernel_rfl) rfl ?_
        refine d_off 6 rfl rfl rfl (by decide) pnok (by kernel_rfl) (by kernel_rfl) (by kernel_rfl) rfl ?_
        refine d_off 7 rfl rfl rfl (by decide) pnok (by kernel_rfl) (by kernel_rfl) (by kernel_rfl) rfl ?_
        refine d_off 8 rfl rfl rfl (by decide) pnok (by kernel_rfl) (by kernel_rfl) (by kernel_rfl) rfl ?_
        refine d_off 9 rfl rfl rfl (by decide) pnok (by kernel_rfl) (by kernel_rfl) (by kernel_rfl) rfl ?_
        refine d_off 10 rfl rfl rfl (by decide) pnok (by kernel_rfl) (by kernel_rfl) (by kernel_rfl) rfl ?_
        refine d_val 11 rfl pnok (by kernel_rfl) (by kernel_rfl) (by kernel_rfl) rfl (v_pick_f rfl rfl) ?_
        refine d_val 12 rfl pnok (by kernel_rfl) (by kernel_rfl) (by kernel_rfl) rfl (v_move rfl) ?_
        refine d_off 13 rfl rfl rfl (by decide) pnok (by kernel_rfl) (by kernel_rfl) (by kernel_rfl) rfl ?_
        refine d_off 14 rfl rfl rfl (by decide) pnok (by kernel_rfl) (by kernel_rfl) (by kernel_rfl) rfl ?_
        refine d_off 15 rfl rfl rfl (by decide) pnok (by kernel_rfl) (by kernel_rfl) (by kernel_rfl) rfl ?_
        refine d_val 16 rfl pnok (by kernel_rfl) (by kernel_rfl) (by kernel_rfl) rfl (v_pick_f rfl rfl) ?_
        refine d_val 17 rfl pnok (by kernel_rfl) (by kernel_rfl) (by kernel_rfl) rfl (v_assign rfl) ?_
        refine d_done_seq (by kernel_rfl) ?_
        refine c_ret ?_
        cases hF
        refine s_ret1 rfl (r_tmp rfl) fun a w hs => ?_
        exact fin_sel hs [] ⟨rfl, rfl, rfl⟩ rfl sub_nil
theorem tri31_B (k : Nat) (g31 : Tree → Option (Int × Int))
    (hg31 : ∀ (t : Tree) (sa1 : Option Addr) (sn1 sc1 : Nat) (r : Int × Int), g31 t = some r → Tri Tryd.prog 31 [.agg #[.int .i64 t.Rule, .int .u8 t.Byte, .slice sa1 sn1 sc1]] [] [(.slice sa1 sn1 sc1, .slice 3 (t.Kids.map eTree))] (fun o H Φ => o = .ret (.tuple #[.int .i64 r.1, .int .i64 r.2]) ∧ H = [] ∧ Φ = [])) (t : Tree) (sa1 : Option Addr) (sn1 sc1 : Nat) (r : Int × Int) (hF : F.ref09.Size_B k g31 t = some r) :
    Tri Tryd.prog 31 [.agg #[.int .i64 t.Rule, .int .u8 t.Byte, .slice sa1 sn1 sc1]] [] [(.slice sa1 sn1 sc1, .slice 3 (t.Kids.map eTree))] (fun o H Φ => o = .ret (.tuple #[.int .i64 r.1, .int .i64 r.2]) ∧ H = [] ∧ Φ = []) := by
  unfold F.ref09.Size_B at hF
  refine tri_intro (n := 35) Tryd.func31 rfl Tryd.ntmps31 rfl fun w X => ?_
  refine c_seq ?_
  refine c_region ?_
  refine o_box rfl rfl rfl fun b => ?_
  refine o_v (v_assign rfl) rfl ?_
  refine o_v (v_assign rfl) rfl ?_
  refine o_seq ?_
  refine c_seq ?_
  refine c_region ?_
  refine o_v (v_assign rfl) rfl ?_
  refine o_v (v_assign rfl) rfl ?_
  refine o_seq ?_
  refine c_seq ?_
  refine c_seq ?_
  refine c_region ?_
  refine o_v (v_assign rfl) rfl ?_
  refine o_seq ?_
  obtain ⟨o1, ho1, hF⟩ := bd hF
  refine c_cut (fun E N' => Sat E [(0, .agg #[.int .i64 t.Rule, .int .u8 t.Byte, .slice sa1 sn1 sc1]), (2, .int .i64 0), (3, .int .i64 0), (4, .int .i64 o1.1), (5, .int .i64 o1.2)] [] [(.slice sa1 sn1 sc1, .slice 3 (t.Kids.map eTree))] N') (fun N1 hN1 => ?_) ?_
  · refine c_block ?_
    refine c_loopE (fun E j a w => ∃ (n : Int) (deep : Int) (i : Int), F.ref09.Size_l1 t g31 j n deep i = some o1 ∧ St E [(0, .agg #[.int .i64 t.Rule, .int .u8 t.Byte, .slice sa1 sn1 sc1]), (1, .pointer (some ⟨b, 0, none⟩)), (2, .int .i64 0), (3, .int .i64 0), (4, .int .i64 n), (5, .int .i64 deep), (6, .int .i64 i)] [.box b 27 [.int .i64 t.Rule, .int .u8 t.Byte, .slice sa1 sn1 sc1]] [(.slice sa1 sn1 sc1, .slice 3 (t.Kids.map eTree))] a w) k ?_ ?_
    · intro a w hs
      exact ⟨1, 1, 0, ho1, st_le [0] (le_cons rfl (le_cons rfl (le_cons rfl (le_cons rfl (le_cons rfl (le_cons rfl (le_cons rfl le_nil))))))) rfl (sub_cons 0 rfl sub_nil) a w hs⟩
    · rintro j a w ⟨n, deep, i, hL1, hs⟩
      cases j with
      | zero => cases hL1
      | succ j =>
        refine wc_app hs ?_
        unfold F.ref09.Size_l1 at hL1
        refine c_seq ?_
        refine c_seq ?_
        refine c_region ?_
        refine o_v (v_move rfl) rfl ?_
        refine o_v (v_fieldAddr (v := .pointer (some ⟨b, 2, none⟩)) rfl (fun _ => by kernel_rfl)) rfl ?_
        refine o_v (v_load_box 0 ty25 rfl rfl rfl rfl rfl) rfl ?_
        refine o_v (v_lenS (enc := eTree) t.Kids sl25 rfl (.f 0 rfl)) rfl ?_
        refine o_v (v_bin rfl rfl rfl) rfl ?_
        refine o_seq ?_
        refine c_cond rfl (fun h1 => ?_) (fun h1 => ?_)
        · replace hL1 := ite_t h1 hL1
          refine c_skip ?_
          refine sat_wc ?_
          refine c_seq ?_
          refine c_cut (fun E N' => ∀ (n1 : Int) (deep1 : Int) (m : Int) (d_ : Int), F.ref09.Size_j2 (F.ref09.Size_l1 t g31 j) i n1 deep1 m d_ = some o1 → Sat E [(0, .agg #[.int .i64 t.Rule, .int .u8 t.Byte, .slice sa1 sn1 sc1]), (1, .pointer (some ⟨b, 0, none⟩)), (2, .int .i64 0), (3, .int .i64 0), (4, .int .i64 n1), (5, .int .i64 deep1), (6, .int .i64 i), (7, .int .i64 m), (8, .int .i64 d_)] [.box b 27 [.int .i64 t.Rule, .int .u8 t.Byte, .slice sa1 sn1 sc1]] [(.slice sa1 sn1 sc1, .slice 3 (t.Kids.map eTree))] N') (fun N2 hN2 => ?_) ?_
          · refine c_block ?_
            refine c_seq ?_
            refine c_region ?_
            refine o_v (v_fieldAddr (v := .pointer (some ⟨b, 2, none⟩)) rfl (fun _ => by kernel_rfl)) rfl ?_
            refine o_v (v_load_box 0 ty25 rfl rfl rfl rfl rfl) rfl ?_
            refine o_v (v_move rfl) rfl ?_
            refine ite_some hL1 fun h2 hL1 => ?_
            refine o_v (v_indexAddr_s (xs := t.Kids) (enc := eTree) sl25 rfl rfl (.f 0 rfl) h2) rfl ?_
            refine o_load_s (ds := [.int .i64 ((at_ t.Kids i).Rule), .int .u8 ((at_ t.Kids i).Byte), .slice 3 (((at_ t.Kids i).Kids).map eTree)]) (xs := t.Kids) (enc := eTree) ty27 rfl (.f 0 rfl) h2 (by simp only [eTree_eq] <;> rfl) rfl rfl rfl rfl rfl fun sa2 sn2 sc2 => ?_
            obtain ⟨v, h3, hL1⟩ := bd hL1
            refine o_callSB call31 rfl (lent_f 0 rfl lent_nil) (hg31 (at_ t.Kids i) sa2 sn2 sc2 v h3) rfl ?_
            refine o_v (v_move rfl) rfl ?_
            refine o_v (v_extract rfl rfl) rfl ?_
            refine o_v (v_extract rfl rfl) rfl ?_
            refine o_v (v_assign rfl) rfl ?_
            refine o_v (v_assign rfl) rfl ?_
            refine o_seq ?_
            refine c_seq ?_
            refine c_region ?_
            refine o_v (v_move rfl) rfl ?_
            refine o_v (v_move rfl) rfl ?_
            refine o_v (v_bin rfl rfl rfl) rfl ?_
            refine o_v (v_assign rfl) rfl ?_
            refine o_seq ?_
            refine c_seq ?_
            refine c_region ?_
            refine o_v (v_move rfl) rfl ?_
            refine o_v (v_move rfl) rfl ?_
            refine o_v (v_bin rfl rfl rfl) rfl ?_
            refine o_seq ?_
            refine c_cut (fun E N' => ∀ (deep2 : Int), F.ref09.Size_j3 (F.ref09.Size_l1 t g31 j) i n v deep2 = some o1 → Sat E [(0, .agg #[.int .i64 t.Rule, .int .u8 t.Byte, .slice sa1 sn1 sc1]), (1, .pointer (some ⟨b, 0, none⟩)), (2, .int .i64 0), (3, .int .i64 0), (4, .int .i64 (IntKind.wrap .i64 (n + v.1))), (5, .int .i64 deep2), (6, .int .i64 i), (7, .int .i64 v.1), (8, .int .i64 v.2)] [.box b 27 [.int .i64 t.Rule, .int .u8 t.Byte, .slice sa1 sn1 sc1]] [(.slice sa1 sn1 sc1, .slice 3 (t.Kids.map eTree))] N') (fun N3 hN3 => ?_) ?_
            · refine c_cond rfl (fun h4 => ?_) (fun h4 => ?_)
              · replace hL1 := ite_t h4 hL1
                refine c_region ?_
                refine o_v (v_move rfl) rfl ?_
                refine o_v (v_bin rfl rfl rfl) rfl ?_
                refine o_v (v_assign rfl) rfl ?_
                refine o_nil ?_
                refine s_st ?_ (hN3 (IntKind.wrap .i64 (v.2 + 1)) hL1)
                exact st_le [0] (le_cons rfl (le_cons rfl (le_cons rfl (le_cons rfl (le_cons rfl (le_cons rfl (le_cons rfl (le_cons rfl (le_cons rfl le_nil))))))))) rfl (sub_cons 1 rfl sub_nil)
              · replace hL1 := ite_f h4 hL1
                refine c_skip ?_
                refine s_st ?_ (hN3 deep hL1)
                exact st_le [0] (le_cons rfl (le_cons rfl (le_cons rfl (le_cons rfl (le_cons rfl (le_cons rfl (le_cons rfl (le_cons rfl (le_cons rfl le_nil))))))))) rfl (sub_cons 1 rfl sub_nil)
            · intro deep2 hL1
              unfold F.ref09.Size_j3 at hL1
              refine s_st ?_ (hN2 (IntKind.wrap .i64 (n + v.1)) deep2 v.1 v.2 hL1)
              exact st_le [0] (le_cons rfl (le_cons rfl (le_cons rfl (le_cons rfl (le_cons rfl (le_cons rfl (le_cons rfl (le_cons rfl (le_cons rfl le_nil))))))))) rfl (sub_cons 0 rfl sub_nil)
          · intro n1 deep1 m d_ hL1
            unfold F.ref09.Size_j2 at hL1
            refine sat_wc ?_
            refine c_region ?_
            refine o_v (v_move rfl) rfl ?_
            refine o_v (v_bin rfl rfl rfl) rfl ?_
            refine o_v (v_assign rfl) rfl ?_
            refine o_nil ?_
            intro a w hs
            exact ⟨j, Nat.lt_succ_self j, n1, deep1, IntKind.wrap .i64 (i + 1), hL1, st_le [0] (le_cons rfl (le_cons rfl (le_cons rfl (le_cons rfl (le_cons rfl (le_cons rfl (le_cons rfl le_nil))))))) rfl (sub_cons 0 rfl sub_nil) a w hs⟩
        · replace hL1 := ite_f h1 hL1
          refine c_exit0 ?_
          cases hL1
          refine s_st ?_ (hN1)
          exact st_le [] (le_cons rfl (le_cons rfl (le_cons rfl (le_cons rfl (le_cons rfl le_nil))))) rfl (sub_cons 0 rfl sub_nil)
  · refine sat_wc ?_
    refine c_seq ?_
    refine c_region ?_
    refine o_v (v_move rfl) rfl ?_
    refine o_v (v_move rfl) rfl ?_
    refine o_v (v_assign rfl) rfl ?_
    refine o_v (v_assign rfl) rfl ?_
    refine o_seq ?_
    refine c_ret ?_
    cases hF
    refine s_ret2 rfl (r_tmp rfl) (r_tmp rfl) fun a w hs => ?_
    exact fin_sel hs [] ⟨rfl, rfl, rfl⟩ rfl sub_nil
theorem tri31 (k : Nat) : (∀ (t : Tree) (sa1 : Option Addr) (sn1 sc1 : Nat) (r : Int × Int), F.ref09.Size k t = some r → Tri Tryd.prog 31 [.agg #[.int .i64 t.Rule, .int .u8 t.Byte, .slice sa1 sn1 sc1]] [] [(.slice sa1 sn1 sc1, .slice 3 (t.Kids.map eTree))] (fun o H Φ => o = .ret (.tuple #[.int .i64 r.1, .int .i64 r.2]) ∧ H = [] ∧ Φ = [])) := by
  induction k with
  | zero => exact fun _ _ _ _ _ h => nomatch (show none = some _ from h)
  | succ k ih => exact tri31_B k _ ih
theorem tri48_B (k : Nat) (g48 : Tree → Option Bool)
    (hg48 : ∀ (t : Tree) (sa1 : Option Addr) (sn1 sc1 : Nat) (r : Bool), g48 t = some r → Tri Tryd.prog 48 [.agg #[.int .i64 t.Rule, .int .u8 t.Byte, .slice sa1 sn1 sc1]] [] [(.slice sa1 sn1 sc1, .slice 3 (t.Kids.map eTree))] (fun o H Φ => o = .ret (.bool r) ∧ H = [] ∧ Φ = [])) (t : Tree) (sa1 : Option Addr) (sn1 sc1 : Nat) (r : Bool) (hF : F.ref09.plain_B k g48 t = some r) :
    Tri Tryd.prog 48 [.agg #[.int .i64 t.Rule, .int .u8 t.Byte, .slice sa1 sn1 sc1]] [] [(.slice sa1 sn1 sc1, .slice 3 (t.Kids.map eTree))] (fun o H Φ => o = .ret (.bool r) ∧ H = [] ∧ Φ = []) := by
  unfold F.ref09.plain_B at hF
  refine tri_intro (n := 38) Tryd.func48 rfl Tryd.ntmps48 rfl fun w X => ?_
  refine c_seq ?_
  refine c_region ?_
  refine o_box rfl rfl rfl fun b => ?_
  refine o_v (v_assign rfl) rfl ?_
  refine o_seq ?_
  refine c_seq ?_
  refine c_seq ?_
  refine c_region ?_
  refine o_v (v_fieldAddr (v := .pointer (some ⟨b, 0, none⟩)) rfl (fun _ => by kernel_rfl)) rfl ?_
  refine o_v (v_load_box 0 ty3 rfl rfl rfl rfl rfl) rfl ?_
  refine o_v (v_bin rfl rfl rfl) rfl ?_
  refine o_seq ?_
  refine c_cond rfl (fun h1 => ?_) (fun h1 => ?_)
  · replace hF := ite_t h1 hF
    refine c_seq ?_
    refine c_region ?_
    refine o_v (v_fieldAddr (v := .pointer (some ⟨b, 2, none⟩)) rfl (fun _ => by kernel_rfl)) rfl ?_
    refine o_v (v_load_box 0 ty25 rfl rfl rfl rfl rfl) rfl ?_
    refine o_v (v_lenS (enc := eTree) t.Kids sl25 rfl (.f 0 rfl)) rfl ?_
    refine o_v (v_bin rfl rfl rfl) rfl ?_
    refine o_v (v_assign rfl) rfl ?_
    refine o_seq ?_
    refine c_ret ?_
    cases hF
    refine s_ret1 rfl (r_tmp rfl) fun a w hs => ?_
    exact fin_sel hs [] ⟨rfl, rfl, rfl⟩ rfl sub_nil
  · replace hF := ite_f h1 hF
    refine c_skip ?_
    refine sat_wc ?_
    refine c_seq ?_
    refine c_seq ?_
    refine c_region ?_
    refine o_v (v_fieldAddr (v := .pointer (some ⟨b, 1, none⟩)) rfl (fun _ => by kernel_rfl)) rfl ?_
    refine o_v (v_load_box 0 ty5 rfl rfl rfl rfl rfl) rfl ?_
    refine o_v (v_bin rfl rfl rfl) rfl ?_
    refine o_v (v_move rfl) rfl ?_
    refine o_split (t := 14) rfl (fun h2 => ?_) (fun h2 => ?_)
    · replace hF := ite_t h2 hF
      refine o_off rfl rfl (by decide) rfl ?_
      refine o_off rfl rfl (by decide) rfl ?_
      refine o_off rfl rfl (by decide) rfl ?_
      refine o_v (v_pick_t rfl rfl) rfl ?_
      refine o_v (v_move rfl) rfl ?_
      refine o_off rfl rfl (by decide) rfl ?_
      refine o_off rfl rfl (by decide) rfl ?_
      refine o_off rfl rfl (by decide) rfl ?_
      refine o_v (v_pick_t rfl rfl) rfl ?_
      refine o_seq ?_
      refine c_cond rfl (fun _ => ?_) (fun h => Bool.noConfusion h)
      refine c_seq ?_
      refine c_region ?_
      refine o_v (v_assign rfl) rfl ?_
      refine o_seq ?_
      refine c_ret ?_
      cases hF
      refine s_ret1 rfl (r_tmp rfl) fun a w hs => ?_
      exact fin_sel hs [] ⟨rfl, rfl, rfl⟩ rfl sub_nil
    · replace hF := ite_f h2 hF
      refine o_on rfl rfl ?_
      refine o_v (v_fieldAddr (v := .pointer (some ⟨b, 0, none⟩)) rfl (fun _ => by kernel_rfl)) rfl ?_
      refine o_on rfl rfl ?_
      refine o_v (v_load_box 0 ty3 rfl rfl rfl rfl rfl) rfl ?_
      refine o_on rfl rfl ?_
      refine o_v (v_bin rfl rfl rfl) rfl ?_
      refine o_v (v_pick_f rfl rfl) rfl ?_
      refine o_v (v_move rfl) rfl ?_
      refine o_split (t := 19) rfl (fun h3 => ?_) (fun h3 => ?_)
      · replace hF := ite_t h3 hF
        refine o_off rfl rfl (by decide) rfl ?_
        refine o_off rfl rfl (by decide) rfl ?_
        refine o_off rfl rfl (by decide) rfl ?_
        refine o_v (v_pick_t rfl rfl) rfl ?_
        refine o_seq ?_
        refine c_cond rfl (fun _ => ?_) (fun h => Bool.noConfusion h)
        refine c_seq ?_
        refine c_region ?_
        refine o_v (v_assign rfl) rfl ?_
        refine o_seq ?_
        refine c_ret ?_
        cases hF
        refine s_ret1 rfl (r_tmp rfl) fun a w hs => ?_
        exact fin_sel hs [] ⟨rfl, rfl, rfl⟩ rfl sub_nil
      · replace hF := ite_f h3 hF
        refine o_on rfl rfl ?_
        refine o_v (v_fieldAddr (v := .pointer (some ⟨b, 0, none⟩)) rfl (fun _ => by kernel_rfl)) rfl ?_
        refine o_on rfl rfl ?_
        refine o_v (v_load_box 0 ty3 rfl rfl rfl rfl rfl) rfl ?_
        refine o_on rfl rfl ?_
        refine o_v (v_bin rfl rfl rfl) rfl ?_
        refine o_v (v_pick_f rfl rfl) rfl ?_
        refine o_seq ?_
        refine c_cond rfl (fun h4 => ?_) (fun h4 => ?_)
        · replace hF := ite_t h4 hF
          refine c_seq ?_
          refine c_region ?_
          refine o_v (v_assign rfl) rfl ?_
          refine o_seq ?_
          refine c_ret ?_
          cases hF
          refine s_ret1 rfl (r_tmp rfl) fun a w hs => ?_
          exact fin_sel hs [] ⟨rfl, rfl, rfl⟩ rfl sub_nil
        · replace hF := ite_f h4 hF
          refine c_skip ?_
          refine sat_wc ?_
          refine c_seq ?_
          refine c_seq ?_
          refine c_region ?_
          refine o_v (v_assign rfl) rfl ?_
          refine o_seq ?_
          obtain ⟨o1, ho1, hF⟩ := bd hF
          refine c_cut (fun E N' => ∀ (d1 : Unit), o1 = .done d1 → Sat E [(0, .agg #[.int .i64 t.Rule, .int .u8 t.Byte, .slice sa1 sn1 sc1]), (1, .pointer (some ⟨b, 0, none⟩)), (2, .bool false)] [.box b 27 [.int .i64 t.Rule, .int .u8 t.Byte, .slice sa1 sn1 sc1]] [(.slice sa1 sn1 sc1, .slice 3 (t.Kids.map eTree))] N') (fun N1 hN1 => ?_) ?_
          · refine c_block ?_
            refine c_loopE (fun E j a w => ∃ (i : Int), F.ref09.plain_l1 t g48 j i = some o1 ∧ St E [(0, .agg #[.int .i64 t.Rule, .int .u8 t.Byte, .slice sa1 sn1 sc1]), (1, .pointer (some ⟨b, 0, none⟩)), (2, .bool false), (3, .int .i64 i)] [.box b 27 [.int .i64 t.Rule, .int .u8 t.Byte, .slice sa1 sn1 sc1]] [(.slice sa1 sn1 sc1, .slice 3 (t.Kids.map eTree))] a w) k ?_ ?_
            · intro a w hs
              exact ⟨0, ho1, st_le [0] (le_cons rfl (le_cons rfl (le_cons rfl (le_cons rfl le_nil)))) rfl (sub_cons 0 rfl sub_nil) a w hs⟩
            · rintro j a w ⟨i, hL1, hs⟩
              cases j with
              | zero => cases hL1
              | succ j =>
                refine wc_app hs ?_
                unfold F.ref09.plain_l1 at hL1
                refine c_seq ?_
                refine c_seq ?_
                refine c_region ?_
                refine o_v (v_move rfl) rfl ?_
                refine o_v (v_fieldAddr (v := .pointer (some ⟨b, 2, none⟩)) rfl (fun _ => by kernel_rfl)) rfl ?_
                refine o_v (v_load_box 0 ty25 rfl rfl rfl rfl rfl) rfl ?_
                refine o_v (v_lenS (enc := eTree) t.Kids sl25 rfl (.f 0 rfl)) rfl ?_
                refine o_v (v_bin rfl rfl rfl) rfl ?_
                refine o_seq ?_
                refine c_cond rfl (fun h5 => ?_) (fun h5 => ?_)
                · replace hL1 := ite_t h5 hL1
                  refine c_skip ?_
                  refine sat_wc ?_
                  refine c_seq ?_
                  refine c_block ?_
                  refine c_seq ?_
                  refine c_region ?_
                  refine o_v (v_fieldAddr (v := .pointer (some ⟨b, 2, none⟩)) rfl (fun _ => by kernel_rfl)) rfl ?_
                  refine o_v (v_load_box 0 ty25 rfl rfl rfl rfl rfl) rfl ?_
                  refine o_v (v_move rfl) rfl ?_
                  refine ite_some hL1 fun h6 hL1 => ?_
                  refine o_v (v_indexAddr_s (xs := t.Kids) (enc := eTree) sl25 rfl rfl (.f 0 rfl) h6) rfl ?_
                  refine o_load_s (ds := [.int .i64 ((at_ t.Kids i).Rule), .int .u8 ((at_ t.Kids i).Byte), .slice 3 (((at_ t.Kids i).Kids).map eTree)]) (xs := t.Kids) (enc := eTree) ty27 rfl (.f 0 rfl) h6 (by simp only [eTree_eq] <;> rfl) rfl rfl rfl rfl rfl fun sa2 sn2 sc2 => ?_
                  obtain ⟨v, h7, hL1⟩ := bd hL1
                  refine o_callSB call48 rfl (lent_f 0 rfl lent_nil) (hg48 (at_ t.Kids i) sa2 sn2 sc2 v h7) rfl ?_
                  refine o_v (v_not rfl) rfl ?_
                  refine o_seq ?_
                  refine c_cond rfl (fun h8 => ?_) (fun h8 => ?_)
                  · replace hL1 := ite_t h8 hL1
                    refine c_seq ?_
                    refine c_region ?_
                    refine o_v (v_assign rfl) rfl ?_
                    refine o_seq ?_
                    refine c_ret ?_
                    cases hL1
                    obtain rfl := lrf_ret hF
                    refine s_ret1 rfl (r_tmp rfl) fun a w hs => ?_
                    exact fin_sel hs [] ⟨rfl, rfl, rfl⟩ rfl sub_nil
                  · replace hL1 := ite_f h8 hL1
                    refine c_skip ?_
                    refine sat_wc ?_
                    refine c_region ?_
                    refine o_v (v_move rfl) rfl ?_
                    refine o_v (v_bin rfl rfl rfl) rfl ?_
                    refine o_v (v_assign rfl) rfl ?_
                    refine o_nil ?_
                    intro a w hs
                    exact ⟨j, Nat.lt_succ_self j, IntKind.wrap .i64 (i + 1), hL1, st_le [0] (le_cons rfl (le_cons rfl (le_cons rfl (le_cons rfl le_nil)))) rfl (sub_cons 1 rfl sub_nil) a w hs⟩
                · replace hL1 := ite_f h5 hL1
                  refine c_exit0 ?_
                  cases hL1
                  refine s_st ?_ (hN1 () rfl)
                  exact st_le [0] (le_cons rfl (le_cons rfl (le_cons rfl le_nil))) rfl (sub_cons 0 rfl sub_nil)
          · intro d1 hd
            subst hd
            replace hF := lrf_done hF
            refine sat_wc ?_
            refine c_seq ?_
            refine c_region ?_
            refine o_v (v_assign rfl) rfl ?_
            refine o_seq ?_
            refine c_ret ?_
            cases hF
            refine s_ret1 rfl (r_tmp rfl) fun a w hs => ?_
            exact fin_sel hs [] ⟨rfl, rfl, rfl⟩ rfl sub_nil
theorem tri48 (k : Nat) : (∀ (t : Tree) (sa1 : Option Addr) (sn1 sc1 : Nat) (r : Bool), F.ref09.plain k t = some r → Tri Tryd.prog 48 [.agg #[.int .i64 t.Rule, .int .u8 t.Byte, .slice sa1 sn1 sc1]] [] [(.slice sa1 sn1 sc1, .slice 3 (t.Kids.map eTree))] (fun o H Φ => o = .ret (.bool r) ∧ H = [] ∧ Φ = [])) := by
  induction k with
  | zero => exact fun _ _ _ _ _ h => nomatch (show none = some _ from h)
  | succ k ih => exact tri48_B k _ ih
theorem tri65 (k : Nat) (n : Int) (r : List UInt8) (hF : F.ref03.Digits k n = some r) :
    Tri Tryd.prog 65 [.int .i64 n] [] [] (fun o H Φ => o = .ret (.string (bs r)) ∧ H = [] ∧ Φ = []) := by
  unfold F.ref03.Digits at hF
  refine tri_intro (n := 19) Tryd.func65 rfl Tryd.ntmps65 rfl fun w X => ?_
  refine c_seq ?_
  refine c_region ?_
  refine o_v (v_assign rfl) rfl ?_
  refine o_seq ?_
  refine c_seq ?_
  refine c_seq ?_
  refine c_region ?_
  refine o_v (v_move rfl) rfl ?_
  refine o_v (v_bin rfl rfl rfl) rfl ?_
  refine o_seq ?_
  refine c_cond rfl (fun h1 => ?_) (fun h1 => ?_)
  · replace hF := ite_t h1 hF
    refine c_seq ?_
    refine c_region ?_
    refine o_v (v_assign rfl) rfl ?_
    refine o_seq ?_
    refine c_ret ?_
    cases hF
    refine s_ret1 rfl (r_tmp rfl) fun a w hs => ?_
    exact fin_sel hs [] ⟨rfl, rfl, rfl⟩ rfl sub_nil
  · replace hF := ite_f h1 hF
    refine c_skip ?_
    refine sat_wc ?_
    refine c_seq ?_
    refine c_region ?_
    refine o_v (v_assign rfl) rfl ?_
    refine o_seq ?_
    obtain ⟨o1, ho1, hF⟩ := bd hF
    refine c_block ?_
    refine c_loopE (fun E j a w => ∃ (n1 : Int) (out : List UInt8), F.ref03.Digits_l1 j n1 out = some o1 ∧ St E [(0, .int .i64 n1), (2, .string (bs ([] : List UInt8))), (3, .string (bs out))] [] [] a w) k ?_ ?_
    · intro a w hs
      exact ⟨n, ([] : List UInt8), ho1, st_le [] (le_cons rfl (le_cons rfl (le_cons rfl le_nil))) rfl sub_nil a w hs⟩
    · rintro j a w ⟨n1, out, hL1, hs⟩
      cases j with
      | zero => cases hL1
      | succ j =>
        refine wc_app hs ?_
        unfold F.ref03.Digits_l1 at hL1
        refine c_block ?_
        refine c_seq ?_
        refine c_region ?_
        refine o_v (v_move rfl) rfl ?_
        refine o_v (v_rem rfl rfl rfl) rfl ?_
        refine o_v (v_bin rfl rfl rfl) rfl ?_
        refine o_v (v_convert (v := .int .u8 (IntKind.wrap .u8 (IntKind.wrap .i64 (48 + (grem n1 10))))) rfl (fun _ => by kernel_rfl)) rfl ?_
        refine o_buildSlice (enc := eU8) ([IntKind.wrap .u8 (IntKind.wrap .i64 (48 + (grem n1 10)))] : List Int) [.int .u8 (IntKind.wrap .u8 (IntKind.wrap .i64 (48 + (grem n1 10))))] sl58 rfl (fun _ => by kernel_rfl) rfl rfl rfl (.s rfl (.nil)) rfl fun sa1 sn1 sc1 => ?_
        refine o_v (v_bytesStr sl58 Tryd.underlying5 Tryd.underlying9 rfl (.r 0 _ rfl)) rfl ?_
        refine o_v (v_move rfl) rfl ?_
        refine ite_some hL1 fun h2 hL1 => ?_
        refine o_v (v_strcat rfl rfl h2) rfl ?_
        refine o_v (v_assign rfl) rfl ?_
        refine o_seq ?_
        refine c_seq ?_
        refine c_region ?_
        refine o_v (v_move rfl) rfl ?_
        refine o_v (v_quo rfl rfl rfl) rfl ?_
        refine o_v (v_assign rfl) rfl ?_
        refine o_seq ?_
        refine c_seq ?_
        refine c_region ?_
        refine o_v (v_move rfl) rfl ?_
        refine o_v (v_bin rfl rfl rfl) rfl ?_
        refine o_seq ?_
        refine c_cond rfl (fun h3 => ?_) (fun h3 => ?_)
        · replace hL1 := ite_t h3 hL1
          refine c_seq ?_
          refine c_region ?_
          refine o_v (v_move rfl) rfl ?_
          refine o_v (v_assign rfl) rfl ?_
          refine o_seq ?_
          refine c_ret ?_
          cases hL1
          obtain rfl := lrf_ret hF
          refine s_ret1 rfl (r_tmp rfl) fun a w hs => ?_
          exact fin_sel hs [] ⟨rfl, rfl, rfl⟩ rfl sub_nil
        · replace hL1 := ite_f h3 hL1
          refine c_skip ?_
          intro a w hs
          exact ⟨j, Nat.lt_succ_self j, gquo .i64 n1 10, ((toS ([IntKind.wrap .u8 (IntKind.wrap .i64 (48 + (grem n1 10)))] : List Int)) ++ out), hL1, st_le [] (le_cons rfl (le_cons rfl (le_cons rfl le_nil))) rfl sub_nil a w hs⟩
theorem tri49_B (k : Nat) (g49 : Tree → Option (List UInt8))
    (hg49 : ∀ (t : Tree) (sa1 : Option Addr) (sn1 sc1 : Nat) (r : List UInt8), g49 t = some r → Tri Tryd.prog 49 [.agg #[.int .i64 t.Rule, .int .u8 t.Byte, .slice sa1 sn1 sc1]] [] [(.slice sa1 sn1 sc1, .slice 3 (t.Kids.map eTree))] (fun o H Φ => o = .ret (.string (bs r)) ∧ H = [] ∧ Φ = [])) (t : Tree) (sa1 : Option Addr) (sn1 sc1 : Nat) (r : List UInt8) (hF : F.ref09.text_B k g49 t = some r) :
    Tri Tryd.prog 49 [.agg #[.int .i64 t.Rule, .int .u8 t.Byte, .slice sa1 sn1 sc1]] [] [(.slice sa1 sn1 sc1, .slice 3 (t.Kids.map eTree))] (fun o H Φ => o = .ret (.string (bs r)) ∧ H = [] ∧ Φ = []) := by
  unfold F.ref09.text_B at hF
  refine tri_intro (n := 45) Tryd.func49 rfl Tryd.ntmps49 rfl fun w X => ?_
  refine c_seq ?_
  refine c_region ?_
  refine o_box rfl rfl rfl fun b => ?_
  refine o_v (v_assign rfl) rfl ?_
  refine o_seq ?_
  refine c_seq ?_
  refine c_seq ?_
  refine c_region ?_
  refine o_v (v_fieldAddr (v := .pointer (some ⟨b, 0, none⟩)) rfl (fun _ => by kernel_rfl)) rfl ?_
  refine o_v (v_load_box 0 ty3 rfl rfl rfl rfl rfl) rfl ?_
  refine o_v (v_bin rfl rfl rfl) rfl ?_
  refine o_seq ?_
  refine c_cond rfl (fun h1 => ?_) (fun h1 => ?_)
  · replace hF := ite_t h1 hF
    refine c_seq ?_
    refine c_draw (n := 13) [0] mixed rfl rfl ?_
    refine d_val 0 rfl pnok (by kernel_rfl) (by kernel_rfl) (by kernel_rfl) rfl (v_fieldAddr (v := .pointer (some ⟨b, 1, none⟩)) rfl (fun _ => by kernel_rfl)) ?_
    refine d_val 1 rfl pnok (by kernel_rfl) (by kernel_rfl) (by kernel_rfl) rfl (v_load_box 0 ty5 rfl rfl rfl rfl rfl) ?_
    refine d_val 2 rfl pnok (by kernel_rfl) (by kernel_rfl) (by kernel_rfl) rfl (v_convert (v := .int .i64 (IntKind.wrap .i64 t.Byte)) rfl (fun _ => by kernel_rfl)) ?_
    refine d_val 3 rfl pnok (by kernel_rfl) (by kernel_rfl) (by kernel_rfl) rfl (v_quo rfl rfl rfl) ?_
    refine ite_some hF fun h2 hF => ?_
    refine d_val 4 rfl pnok (by kernel_rfl) (by kernel_rfl) (by kernel_rfl) rfl (v_sindex Tryd.underlying9 rfl rfl h2) ?_
    refine d_val 5 rfl pnok (by kernel_rfl) (by kernel_rfl) (by kernel_rfl) rfl (v_fieldAddr (v := .pointer (some ⟨b, 1, none⟩)) rfl (fun _ => by kernel_rfl)) ?_
    refine d_val 6 rfl pnok (by kernel_rfl) (by kernel_rfl) (by kernel_rfl) rfl (v_load_box 0 ty5 rfl rfl rfl rfl rfl) ?_
    refine d_val 7 rfl pnok (by kernel_rfl) (by kernel_rfl) (by kernel_rfl) rfl (v_convert (v := .int .i64 (IntKind.wrap .i64 t.Byte)) rfl (fun _ => by kernel_rfl)) ?_
    refine d_val 8 rfl pnok (by kernel_rfl) (by kernel_rfl) (by kernel_rfl) rfl (v_rem rfl rfl rfl) ?_
    refine ite_some hF fun h3 hF => ?_
    refine d_val 9 rfl pnok (by kernel_rfl) (by kernel_rfl) (by kernel_rfl) rfl (v_sindex Tryd.underlying9 rfl rfl h3) ?_
    refine d_one 10 rfl (by kernel_rfl) ?_
    refine o_buildSlice (enc := eU8) ([120, sAt ([48, 49, 50, 51, 52, 53, 54, 55, 56, 57, 97, 98, 99, 100, 101, 102] : List UInt8) (gquo .i64 (IntKind.wrap .i64 t.Byte) 16), sAt ([48, 49, 50, 51, 52, 53, 54, 55, 56, 57, 97, 98, 99, 100, 101, 102] : List UInt8) (grem (IntKind.wrap .i64 t.Byte) 16)] : List Int) [.int .u8 120, .int .u8 (sAt ([48, 49, 50, 51, 52, 53, 54, 55, 56, 57, 97, 98, 99, 100, 101, 102] : List UInt8) (gquo .i64 (IntKind.wrap .i64 t.Byte) 16)), .int .u8 (sAt ([48, 49, 50, 51, 52, 53, 54, 55, 56, 57, 97, 98, 99, 100, 101, 102] : List UInt8) (grem (IntKind.wrap .i64 t.Byte) 16))] sl58 rfl (fun _ => by kernel_rfl) rfl rfl rfl (.s rfl (.s rfl (.s rfl (.nil)))) rfl fun sa2 sn2 sc2 => ?_
    refine d_next [1] 0 rfl rfl ?_
    refine d_one 11 rfl (by kernel_rfl) ?_
    refine o_v (v_bytesStr sl58 Tryd.underlying5 Tryd.underlying9 rfl (.r 0 _ rfl)) rfl ?_
    refine d_next [1] 0 rfl rfl ?_
    refine d_val 12 rfl pnok (by kernel_rfl) (by kernel_rfl) (by kernel_rfl) rfl (v_assign rfl) ?_
    refine d_done_seq (by kernel_rfl) ?_
    refine c_ret ?_
    cases hF
    refine s_ret1 rfl (r_tmp rfl) fun a w hs => ?_
    exact fin_sel hs [] ⟨rfl, rfl, rfl⟩ rfl sub_nil
  · replace hF := ite_f h1 hF
    refine c_skip ?_
    refine sat_wc ?_
    refine c_seq ?_
    refine c_region ?_
    refine o_v (v_fieldAddr (v := .pointer (some ⟨b, 0, none⟩)) rfl (fun _ => by kernel_rfl)) rfl ?_
    refine o_v (v_load_box 0 ty3 rfl rfl rfl rfl rfl) rfl ?_
    obtain ⟨v, h4, hF⟩ := bd hF
    refine o_callSB call65 rfl lent_nil (tri65 k t.Rule v h4) rfl ?_
    refine ite_some hF fun h5 hF => ?_
    refine o_v (v_strcat rfl rfl h5) rfl ?_
    refine o_v (v_assign rfl) rfl ?_
    refine o_seq ?_
    refine c_seq ?_
    refine c_seq ?_
    refine c_region ?_
    refine o_v (v_assign rfl) rfl ?_
    refine o_seq ?_
    obtain ⟨o1, ho1, hF⟩ := bd hF
    refine c_cut (fun E N' => Sat E [(0, .agg #[.int .i64 t.Rule, .int .u8 t.Byte, .slice sa1 sn1 sc1]), (1, .pointer (some ⟨b, 0, none⟩)), (2, .string (bs ([] : List UInt8))), (3, .string (bs o1))] [.box b 27 [.int .i64 t.Rule, .int .u8 t.Byte, .slice sa1 sn1 sc1]] [(.slice sa1 sn1 sc1, .slice 3 (t.Kids.map eTree))] N') (fun N1 hN1 => ?_) ?_
    · refine c_block ?_
      refine c_loopE (fun E j a w => ∃ (out : List UInt8) (i : Int), F.ref09.text_l1 t g49 j out i = some o1 ∧ St E [(0, .agg #[.int .i64 t.Rule, .int .u8 t.Byte, .slice sa1 sn1 sc1]), (1, .pointer (some ⟨b, 0, none⟩)), (2, .string (bs ([] : List UInt8))), (3, .string (bs out)), (4, .int .i64 i)] [.box b 27 [.int .i64 t.Rule, .int .u8 t.Byte, .slice sa1 sn1 sc1]] [(.slice sa1 sn1 sc1, .slice 3 (t.Kids.map eTree))] a w) k ?_ ?_
      · intro a w hs
        exact ⟨(v ++ ([40] : List UInt8)), 0, ho1, st_le [0] (le_cons rfl (le_cons rfl (le_cons rfl (le_cons rfl (le_cons rfl le_nil))))) rfl (sub_cons 0 rfl sub_nil) a w hs⟩
      · rintro j a w ⟨out, i, hL1, hs⟩
        cases j with
        | zero => cases hL1
        | succ j =>
          refine wc_app hs ?_
          unfold F.ref09.text_l1 at hL1
          refine c_seq ?_
          refine c_seq ?_
          refine c_region ?_
          refine o_v (v_move rfl) rfl ?_
          refine o_v (v_fieldAddr (v := .pointer (some ⟨b, 2, none⟩)) rfl (fun _ => by kernel_rfl)) rfl ?_
          refine o_v (v_load_box 0 ty25 rfl rfl rfl rfl rfl) rfl ?_
          refine o_v (v_lenS (enc := eTree) t.Kids sl25 rfl (.f 0 rfl)) rfl ?_
          refine o_v (v_bin rfl rfl rfl) rfl ?_
          refine o_seq ?_
          refine c_cond rfl (fun h6 => ?_) (fun h6 => ?_)
          · replace hL1 := ite_t h6 hL1
            refine c_skip ?_
            refine sat_wc ?_
            refine c_seq ?_
            refine c_cut (fun E N' => ∀ (out1 : List UInt8), F.ref09.text_j2 (F.ref09.text_l1 t g49 j) i out1 = some o1 → Sat E [(0, .agg #[.int .i64 t.Rule, .int .u8 t.Byte, .slice sa1 sn1 sc1]), (1, .pointer (some ⟨b, 0, none⟩)), (2, .string (bs ([] : List UInt8))), (3, .string (bs out1)), (4, .int .i64 i)] [.box b 27 [.int .i64 t.Rule, .int .u8 t.Byte, .slice sa1 sn1 sc1]] [(.slice sa1 sn1 sc1, .slice 3 (t.Kids.map eTree))] N') (fun N2 hN2 => ?_) ?_
            · refine c_block ?_
              refine c_seq ?_
              refine c_seq ?_
              refine c_region ?_
              refine o_v (v_move rfl) rfl ?_
              refine o_v (v_bin rfl rfl rfl) rfl ?_
              refine o_seq ?_
              refine c_cut (fun E N' => ∀ (out2 : List UInt8), F.ref09.text_j3 i t g49 (F.ref09.text_l1 t g49 j) out2 = some o1 → Sat E [(0, .agg #[.int .i64 t.Rule, .int .u8 t.Byte, .slice sa1 sn1 sc1]), (1, .pointer (some ⟨b, 0, none⟩)), (2, .string (bs ([] : List UInt8))), (3, .string (bs out2)), (4, .int .i64 i)] [.box b 27 [.int .i64 t.Rule, .int .u8 t.Byte, .slice sa1 sn1 sc1]] [(.slice sa1 sn1 sc1, .slice 3 (t.Kids.map eTree))] N') (fun N3 hN3 => ?_) ?_
              · refine c_cond rfl (fun h10 => ?_) (fun h10 => ?_)
                · replace hL1 := ite_t h10 hL1
                  refine c_region ?_
                  refine o_v (v_move rfl) rfl ?_
                  refine ite_some hL1 fun h11 hL1 => ?_
                  refine o_v (v_strcat rfl rfl h11) rfl ?_
                  refine o_v (v_assign rfl) rfl ?_
                  refine o_nil ?_
                  refine s_st ?_ (hN3 (out ++ ([32] : List UInt8)) hL1)
                  exact st_le [0] (le_cons rfl (le_cons rfl (le_cons rfl (le_cons rfl (le_cons rfl le_nil))))) rfl (sub_cons 0 rfl sub_nil)
                · replace hL1 := ite_f h10 hL1
                  refine c_skip ?_
                  refine s_st ?_ (hN3 out hL1)
                  exact st_le [0] (le_cons rfl (le_cons rfl (le_cons rfl (le_cons rfl (le_cons rfl le_nil))))) rfl (sub_cons 0 rfl sub_nil)
              · intro out2 hL1
                unfold F.ref09.text_j3 at hL1
                refine sat_wc ?_
                refine c_region ?_
                refine o_v (v_move rfl) rfl ?_
                refine o_v (v_fieldAddr (v := .pointer (some ⟨b, 2, none⟩)) rfl (fun _ => by kernel_rfl)) rfl ?_
                refine o_v (v_load_box 0 ty25 rfl rfl rfl rfl rfl) rfl ?_
                refine o_v (v_move rfl) rfl ?_
                refine ite_some hL1 fun h7 hL1 => ?_
                refine o_v (v_indexAddr_s (xs := t.Kids) (enc := eTree) sl25 rfl rfl (.f 0 rfl) h7) rfl ?_
                refine o_load_s (ds := [.int .i64 ((at_ t.Kids i).Rule), .int .u8 ((at_ t.Kids i).Byte), .slice 3 (((at_ t.Kids i).Kids).map eTree)]) (xs := t.Kids) (enc := eTree) ty27 rfl (.f 0 rfl) h7 (by simp only [eTree_eq] <;> rfl) rfl rfl rfl rfl rfl fun sa3 sn3 sc3 => ?_
                obtain ⟨v1, h8, hL1⟩ := bd hL1
                refine o_callSB call49 rfl (lent_f 0 rfl lent_nil) (hg49 (at_ t.Kids i) sa3 sn3 sc3 v1 h8) rfl ?_
                refine ite_some hL1 fun h9 hL1 => ?_
                refine o_v (v_strcat rfl rfl h9) rfl ?_
                refine o_v (v_assign rfl) rfl ?_
                refine o_nil ?_
                refine s_st ?_ (hN2 (out2 ++ v1) hL1)
                exact st_le [0] (le_cons rfl (le_cons rfl (le_cons rfl (le_cons rfl (le_cons rfl le_nil))))) rfl (sub_cons 1 rfl sub_nil)
            · intro out1 hL1
              unfold F.ref09.text_j2 at hL1
              refine sat_wc ?_
              refine c_region ?_
              refine o_v (v_move rfl) rfl ?_
              refine o_v (v_bin rfl rfl rfl) rfl ?_
              refine o_v (v_assign rfl) rfl ?_
              refine o_nil ?_
              intro a w hs
              exact ⟨j, Nat.lt_succ_self j, out1, IntKind.wrap .i64 (i + 1), hL1, st_le [0] (le_cons rfl (le_cons rfl (le_cons rfl (le_cons rfl (le_cons rfl le_nil))))) rfl (sub_cons 0 rfl sub_nil) a w hs⟩
          · replace hL1 := ite_f h6 hL1
            refine c_exit0 ?_
            cases hL1
            refine s_st ?_ (hN1)
            exact st_le [0] (le_cons rfl (le_cons rfl (le_cons rfl (le_cons rfl le_nil)))) rfl (sub_cons 0 rfl sub_nil)
    · refine sat_wc ?_
      refine c_seq ?_
      refine c_region ?_
      refine o_v (v_move rfl) rfl ?_
      refine ite_some hF fun h12 hF => ?_
      refine o_v (v_strcat rfl rfl h12) rfl ?_
      refine o_v (v_assign rfl) rfl ?_
      refine o_seq ?_
      refine c_ret ?_
      cases hF
      refine s_ret1 rfl (r_tmp rfl) fun a w hs => ?_
      exact fin_sel hs [] ⟨rfl, rfl, rfl⟩ rfl sub_nil
theorem tri49 (k : Nat) : (∀ (t : Tree) (sa1 : Option Addr) (sn1 sc1 : Nat) (r : List UInt8), F.ref09.text k t = some r → Tri Tryd.prog 49 [.agg #[.int .i64 t.Rule, .int .u8 t.Byte, .slice sa1 sn1 sc1]] [] [(.slice sa1 sn1 sc1, .slice 3 (t.Kids.map eTree))] (fun o H Φ => o = .ret (.string (bs r)) ∧ H = [] ∧ Φ = [])) := by
  induction k with
  | zero => exact fun _ _ _ _ _ h => nomatch (show none = some _ from h)
  | succ k ih => exact tri49_B k _ ih
end Go.Vc
