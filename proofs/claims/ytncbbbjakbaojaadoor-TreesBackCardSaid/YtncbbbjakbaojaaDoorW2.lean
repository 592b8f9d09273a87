import Derived.Test.YtncbbbjakbaojaaDoorW1
set_option linter.unusedVariables false
set_option linter.unusedSimpArgs false
set_option maxRecDepth 8000
namespace Go.Vc
open Go Go.Proofs
theorem tri53_B (k : Nat) (g70 : List UInt8 → Int → Int → Option (Tree × Int × Fault))
    (hg70 : ∀ (s : List UInt8) (at__ : Int) (deep : Int) (r : Tree × Int × Fault), g70 s at__ deep = some r → Tri Tryd.prog 70 [.string (bs s), .int .i64 at__, .int .i64 deep] [] [] (fun o H Φ => ∃ (sa7 : Option Addr) (sn7 sc7 : Nat), o = .ret (.tuple #[.agg #[.int .i64 r.1.Rule, .int .u8 r.1.Byte, .slice sa7 sn7 sc7], .int .i64 r.2.1, .agg #[.int .i64 r.2.2.At, .int .i64 r.2.2.Code]]) ∧ H = [] ∧ Φ = [(.slice sa7 sn7 sc7, .slice 3 (r.1.Kids.map eTree))])) (s : List UInt8) (at__ : Int) (deep : Int) (r : Tree × Int × Fault) (hF : F.ref09.one_B k g70 s at__ deep = some r) :
    Tri Tryd.prog 53 [.string (bs s), .int .i64 at__, .int .i64 deep] [] [] (fun o H Φ => ∃ (sa2 : Option Addr) (sn2 sc2 : Nat), o = .ret (.tuple #[.agg #[.int .i64 r.1.Rule, .int .u8 r.1.Byte, .slice sa2 sn2 sc2], .int .i64 r.2.1, .agg #[.int .i64 r.2.2.At, .int .i64 r.2.2.Code]]) ∧ H = [] ∧ Φ = [(.slice sa2 sn2 sc2, .slice 3 (r.1.Kids.map eTree))]) := by
  unfold F.ref09.one_B at hF
  refine tri_intro (n := 98) Tryd.func53 rfl Tryd.ntmps53 rfl fun w X => ?_
  refine c_seq ?_
  refine c_region ?_
  refine o_alloc zero27 rfl rfl fun b => ?_
  refine o_v (v_assign rfl) rfl ?_
  refine o_alloc zero39 rfl rfl fun b1 => ?_
  refine o_seq ?_
  refine c_seq ?_
  refine c_seq ?_
  refine c_region ?_
  refine o_v (v_move rfl) rfl ?_
  refine o_v (v_move rfl) rfl ?_
  refine o_v (v_len_str Tryd.underlying9 rfl) rfl ?_
  refine o_v (v_bin rfl rfl rfl) rfl ?_
  refine o_seq ?_
  refine c_cond rfl (fun h1 => ?_) (fun h1 => ?_)
  · replace hF := ite_t h1 hF
    refine c_seq ?_
    refine c_region ?_
    refine o_v (v_build (v := .agg #[.int .i64 0, .int .u8 0, .slice none 0 0]) rfl (fun _ => by kernel_rfl)) rfl ?_
    refine o_v (v_move rfl) rfl ?_
    refine o_v (v_len_str Tryd.underlying9 rfl) rfl ?_
    refine o_v (v_build (v := .agg #[.int .i64 (s.length : Int), .int .i64 14]) rfl (fun _ => by kernel_rfl)) rfl ?_
    refine o_store_box 1 rfl ty27 rfl rfl rfl rfl rfl rfl rfl ?_
    refine o_v (v_assign rfl) rfl ?_
    refine o_store_box 0 rfl ty39 rfl rfl rfl rfl rfl rfl rfl ?_
    refine o_seq ?_
    refine c_ret ?_
    cases hF
    refine s_st (st_nilfact 3) ?_
    refine s_ret3 rfl (r_cell 1 rfl ty27 rfl rfl rfl rfl) (r_tmp rfl) (r_cell 0 rfl ty39 rfl rfl rfl rfl) fun a w hs => ?_
    exact fin_sel hs [] ⟨none, 0, 0, rfl, rfl, rfl⟩ rfl (sub_cons 0 rfl sub_nil)
  · replace hF := ite_f h1 hF
    refine c_skip ?_
    refine sat_wc ?_
    refine c_seq ?_
    refine c_cut (fun E N' => ∀ (number : Bool), F.ref09.one_j1 k at__ s deep g70 number = some r → Sat E [(0, .string (bs s)), (1, .int .i64 at__), (2, .int .i64 deep), (6, .pointer (some ⟨b, 0, none⟩)), (7, .int .i64 0), (8, .pointer (some ⟨b1, 0, none⟩)), (9, .bool number), (17, .bool (decide ((s.length : Int) ≤ at__)))] [.box b1 39 [.int .i64 0, .int .i64 0], .box b 27 [.int .i64 0, .int .u8 0, .slice none 0 0]] [] N') (fun N6 hN6 => ?_) ?_
    · refine c_region ?_
      refine o_v (v_move rfl) rfl ?_
      refine o_v (v_move rfl) rfl ?_
      refine ite_some hF fun h15 hF => ?_
      refine o_v (v_sindex Tryd.underlying9 rfl rfl h15) rfl ?_
      refine o_v (v_bin rfl rfl rfl) rfl ?_
      refine o_v (v_move rfl) rfl ?_
      refine o_split (t := 26) rfl (fun h16 => ?_) (fun h16 => ?_)
      · replace hF := ite_t h16 hF
        refine o_on rfl rfl ?_
        refine o_v (v_move rfl) rfl ?_
        refine o_on rfl rfl ?_
        refine o_v (v_move rfl) rfl ?_
        refine o_on rfl rfl ?_
        refine o_v (v_sindex Tryd.underlying9 rfl rfl h15) rfl ?_
        refine o_on rfl rfl ?_
        refine o_v (v_bin rfl rfl rfl) rfl ?_
        refine o_v (v_pick_t rfl rfl) rfl ?_
        refine o_v (v_assign rfl) rfl ?_
        refine o_nil ?_
        refine s_st ?_ (hN6 (decide ((sAt s at__) ≤ 57)) hF)
        exact st_le [0, 0] (le_cons rfl (le_cons rfl (le_cons rfl (le_cons rfl (le_cons rfl (le_cons rfl (le_cons rfl (le_cons rfl le_nil)))))))) rfl sub_nil
      · replace hF := ite_f h16 hF
        refine o_off rfl rfl (by decide) rfl ?_
        refine o_off rfl rfl (by decide) rfl ?_
        refine o_off rfl rfl (by decide) rfl ?_
        refine o_off rfl rfl (by decide) rfl ?_
        refine o_v (v_pick_f rfl rfl) rfl ?_
        refine o_v (v_assign rfl) rfl ?_
        refine o_nil ?_
        refine s_st ?_ (hN6 false hF)
        exact st_le [0, 0] (le_cons rfl (le_cons rfl (le_cons rfl (le_cons rfl (le_cons rfl (le_cons rfl (le_cons rfl (le_cons rfl le_nil)))))))) rfl sub_nil
    · intro number hF
      unfold F.ref09.one_j1 at hF
      refine sat_wc ?_
      refine c_seq ?_
      refine c_seq ?_
      refine c_cut (fun E N' => ∀ (t39 : Bool), F.ref09.one_j2 k at__ deep number g70 s t39 = some r → Sat E [(0, .string (bs s)), (1, .int .i64 at__), (2, .int .i64 deep), (6, .pointer (some ⟨b, 0, none⟩)), (7, .int .i64 0), (8, .pointer (some ⟨b1, 0, none⟩)), (9, .bool number), (17, .bool (decide ((s.length : Int) ≤ at__))), (39, .bool t39)] [.box b1 39 [.int .i64 0, .int .i64 0], .box b 27 [.int .i64 0, .int .u8 0, .slice none 0 0]] [] N') (fun N6 hN6 => ?_) ?_
      · refine c_region ?_
        refine o_v (v_move rfl) rfl ?_
        refine o_v (v_move rfl) rfl ?_
        refine ite_some hF fun h13 hF => ?_
        refine o_v (v_sindex Tryd.underlying9 rfl rfl h13) rfl ?_
        refine o_v (v_bin rfl rfl rfl) rfl ?_
        refine o_v (v_move rfl) rfl ?_
        refine o_split (t := 36) rfl (fun h14 => ?_) (fun h14 => ?_)
        · replace hF := ite_t h14 hF
          refine o_on rfl rfl ?_
          refine o_v (v_move rfl) rfl ?_
          refine o_on rfl rfl ?_
          refine o_v (v_not rfl) rfl ?_
          refine o_v (v_pick_t rfl rfl) rfl ?_
          refine o_nil ?_
          refine s_st ?_ (hN6 (!number) hF)
          exact st_le [0, 0] (le_cons rfl (le_cons rfl (le_cons rfl (le_cons rfl (le_cons rfl (le_cons rfl (le_cons rfl (le_cons rfl (le_cons rfl le_nil))))))))) rfl sub_nil
        · replace hF := ite_f h14 hF
          refine o_off rfl rfl (by decide) rfl ?_
          refine o_off rfl rfl (by decide) rfl ?_
          refine o_v (v_pick_f rfl rfl) rfl ?_
          refine o_nil ?_
          refine s_st ?_ (hN6 false hF)
          exact st_le [0, 0] (le_cons rfl (le_cons rfl (le_cons rfl (le_cons rfl (le_cons rfl (le_cons rfl (le_cons rfl (le_cons rfl (le_cons rfl le_nil))))))))) rfl sub_nil
      · intro t39 hF
        unfold F.ref09.one_j2 at hF
        refine sat_wc ?_
        refine c_cond rfl (fun h2 => ?_) (fun h2 => ?_)
        · replace hF := ite_t h2 hF
          refine c_seq ?_
          refine c_region ?_
          refine o_v (v_build (v := .agg #[.int .i64 0, .int .u8 0, .slice none 0 0]) rfl (fun _ => by kernel_rfl)) rfl ?_
          refine o_v (v_move rfl) rfl ?_
          refine o_v (v_build (v := .agg #[.int .i64 at__, .int .i64 11]) rfl (fun _ => by kernel_rfl)) rfl ?_
          refine o_store_box 1 rfl ty27 rfl rfl rfl rfl rfl rfl rfl ?_
          refine o_v (v_assign rfl) rfl ?_
          refine o_store_box 0 rfl ty39 rfl rfl rfl rfl rfl rfl rfl ?_
          refine o_seq ?_
          refine c_ret ?_
          cases hF
          refine s_st (st_nilfact 3) ?_
          refine s_ret3 rfl (r_cell 1 rfl ty27 rfl rfl rfl rfl) (r_tmp rfl) (r_cell 0 rfl ty39 rfl rfl rfl rfl) fun a w hs => ?_
          exact fin_sel hs [] ⟨none, 0, 0, rfl, rfl, rfl⟩ rfl (sub_cons 0 rfl sub_nil)
        · replace hF := ite_f h2 hF
          refine c_skip ?_
          refine sat_wc ?_
          refine c_seq ?_
          refine c_seq ?_
          refine c_region ?_
          refine o_v (v_move rfl) rfl ?_
          refine o_v (v_bin rfl rfl rfl) rfl ?_
          refine o_seq ?_
          refine c_cond rfl (fun h3 => ?_) (fun h3 => ?_)
          · replace hF := ite_t h3 hF
            refine c_seq ?_
            refine c_region ?_
            refine o_v (v_build (v := .agg #[.int .i64 0, .int .u8 0, .slice none 0 0]) rfl (fun _ => by kernel_rfl)) rfl ?_
            refine o_v (v_move rfl) rfl ?_
            refine o_v (v_build (v := .agg #[.int .i64 at__, .int .i64 2]) rfl (fun _ => by kernel_rfl)) rfl ?_
            refine o_store_box 1 rfl ty27 rfl rfl rfl rfl rfl rfl rfl ?_
            refine o_v (v_assign rfl) rfl ?_
            refine o_store_box 0 rfl ty39 rfl rfl rfl rfl rfl rfl rfl ?_
            refine o_seq ?_
            refine c_ret ?_
            cases hF
            refine s_st (st_nilfact 3) ?_
            refine s_ret3 rfl (r_cell 1 rfl ty27 rfl rfl rfl rfl) (r_tmp rfl) (r_cell 0 rfl ty39 rfl rfl rfl rfl) fun a w hs => ?_
            exact fin_sel hs [] ⟨none, 0, 0, rfl, rfl, rfl⟩ rfl (sub_cons 0 rfl sub_nil)
          · replace hF := ite_f h3 hF
            refine c_skip ?_
            refine sat_wc ?_
            refine c_seq ?_
            refine c_seq ?_
            refine c_region ?_
            refine o_v (v_move rfl) rfl ?_
            refine o_seq ?_
            refine c_cond rfl (fun h4 => ?_) (fun h4 => ?_)
            · replace hF := ite_t h4 hF
              refine c_seq ?_
              refine c_region ?_
              refine o_v (v_move rfl) rfl ?_
              refine o_v (v_move rfl) rfl ?_
              refine o_v (v_move rfl) rfl ?_
              obtain ⟨v, h5, hF⟩ := bd hF
              refine o_call0 call70 rfl sub_nil (hg70 s at__ deep v h5) rfl ?_
              rintro _ _ _ ⟨sa1, sn1, sc1, rfl, rfl, rfl⟩
              refine o_v (v_extract rfl rfl) rfl ?_
              refine o_v (v_extract rfl rfl) rfl ?_
              refine o_v (v_extract rfl rfl) rfl ?_
              refine o_store_box 1 rfl ty27 rfl rfl rfl rfl rfl rfl rfl ?_
              refine o_v (v_assign rfl) rfl ?_
              refine o_store_box 0 rfl ty39 rfl rfl rfl rfl rfl rfl rfl ?_
              refine o_seq ?_
              refine c_ret ?_
              cases hF
              refine s_ret3 rfl (r_cell 1 rfl ty27 rfl rfl rfl rfl) (r_tmp rfl) (r_cell 0 rfl ty39 rfl rfl rfl rfl) fun a w hs => ?_
              exact fin_sel hs [] ⟨sa1, sn1, sc1, rfl, rfl, rfl⟩ rfl (sub_cons 0 rfl sub_nil)
            · replace hF := ite_f h4 hF
              refine c_skip ?_
              refine sat_wc ?_
              refine c_seq ?_
              refine c_region ?_
              refine o_v (v_assign rfl) rfl ?_
              refine o_seq ?_
              refine c_seq ?_
              refine c_seq ?_
              refine c_region ?_
              refine o_v (v_move rfl) rfl ?_
              refine o_v (v_bin rfl rfl rfl) rfl ?_
              refine o_v (v_assign rfl) rfl ?_
              refine o_seq ?_
              obtain ⟨o3, ho3, hF⟩ := bd hF
              refine c_cut (fun E N' => ∀ (d3 : Int), o3 = .done d3 → Sat E [(0, .string (bs s)), (1, .int .i64 at__), (2, .int .i64 deep), (6, .pointer (some ⟨b, 0, none⟩)), (7, .int .i64 0), (8, .pointer (some ⟨b1, 0, none⟩)), (9, .bool number), (10, .int .i64 d3), (17, .bool (decide ((s.length : Int) ≤ at__))), (39, .bool t39), (44, .bool (decide (200 < deep))), (48, .bool number)] [.box b1 39 [.int .i64 0, .int .i64 0], .box b 27 [.int .i64 0, .int .u8 0, .slice none 0 0]] [] N') (fun N3 hN3 => ?_) ?_
              · refine c_block ?_
                refine c_loopE (fun E j a w => ∃ (n : Int) (i : Int), F.ref09.one_l3 k at__ s j n i = some o3 ∧ St E [(0, .string (bs s)), (1, .int .i64 at__), (2, .int .i64 deep), (6, .pointer (some ⟨b, 0, none⟩)), (7, .int .i64 0), (8, .pointer (some ⟨b1, 0, none⟩)), (9, .bool number), (10, .int .i64 n), (11, .int .i64 i), (17, .bool (decide ((s.length : Int) ≤ at__))), (39, .bool t39), (44, .bool (decide (200 < deep))), (48, .bool number)] [.box b1 39 [.int .i64 0, .int .i64 0], .box b 27 [.int .i64 0, .int .u8 0, .slice none 0 0]] [] a w) k ?_ ?_
                · intro a w hs
                  exact ⟨0, IntKind.wrap .i64 (at__ + 1), ho3, st_le [0, 0] (le_cons rfl (le_cons rfl (le_cons rfl (le_cons rfl (le_cons rfl (le_cons rfl (le_cons rfl (le_cons rfl (le_cons rfl (le_cons rfl (le_cons rfl (le_cons rfl (le_cons rfl le_nil))))))))))))) rfl sub_nil a w hs⟩
                · rintro j a w ⟨n, i, hL3, hs⟩
                  cases j with
                  | zero => cases hL3
                  | succ j =>
                    refine wc_app hs ?_
                    unfold F.ref09.one_l3 at hL3
                    refine c_seq ?_
                    refine c_seq ?_
                    refine c_region ?_
                    refine o_v (v_move rfl) rfl ?_
                    refine o_v (v_move rfl) rfl ?_
                    refine o_v (v_bin rfl rfl rfl) rfl ?_
                    refine o_v (v_bin rfl rfl rfl) rfl ?_
                    refine o_seq ?_
                    refine c_cond rfl (fun h6 => ?_) (fun h6 => ?_)
                    · replace hL3 := ite_t h6 hL3
                      refine c_skip ?_
                      refine sat_wc ?_
                      refine c_seq ?_
                      refine c_block ?_
                      refine c_seq ?_
                      refine c_seq ?_
                      refine c_region ?_
                      refine o_v (v_move rfl) rfl ?_
                      refine o_v (v_move rfl) rfl ?_
                      refine o_v (v_len_str Tryd.underlying9 rfl) rfl ?_
                      refine o_v (v_bin rfl rfl rfl) rfl ?_
                      refine o_seq ?_
                      refine c_cond rfl (fun h7 => ?_) (fun h7 => ?_)
                      · replace hL3 := ite_t h7 hL3
                        refine c_seq ?_
                        refine c_region ?_
                        refine o_v (v_build (v := .agg #[.int .i64 0, .int .u8 0, .slice none 0 0]) rfl (fun _ => by kernel_rfl)) rfl ?_
                        refine o_v (v_move rfl) rfl ?_
                        refine o_v (v_len_str Tryd.underlying9 rfl) rfl ?_
                        refine o_v (v_build (v := .agg #[.int .i64 (s.length : Int), .int .i64 14]) rfl (fun _ => by kernel_rfl)) rfl ?_
                        refine o_store_box 1 rfl ty27 rfl rfl rfl rfl rfl rfl rfl ?_
                        refine o_v (v_assign rfl) rfl ?_
                        refine o_store_box 0 rfl ty39 rfl rfl rfl rfl rfl rfl rfl ?_
                        refine o_seq ?_
                        refine c_ret ?_
                        cases hL3
                        obtain rfl := lrf_ret hF
                        refine s_st (st_nilfact 3) ?_
                        refine s_ret3 rfl (r_cell 1 rfl ty27 rfl rfl rfl rfl) (r_tmp rfl) (r_cell 0 rfl ty39 rfl rfl rfl rfl) fun a w hs => ?_
                        exact fin_sel hs [] ⟨none, 0, 0, rfl, rfl, rfl⟩ rfl (sub_cons 0 rfl sub_nil)
                      · replace hL3 := ite_f h7 hL3
                        refine c_skip ?_
                        refine sat_wc ?_
                        refine c_seq ?_
                        refine c_region ?_
                        refine o_v (v_assign rfl) rfl ?_
                        refine o_seq ?_
                        refine c_seq ?_
                        refine c_seq ?_
                        refine c_region ?_
                        refine o_v (v_assign rfl) rfl ?_
                        refine o_seq ?_
                        obtain ⟨o4, ho4, hL3⟩ := bd hL3
                        refine c_cut (fun E N' => Sat E [(0, .string (bs s)), (1, .int .i64 at__), (2, .int .i64 deep), (6, .pointer (some ⟨b, 0, none⟩)), (7, .int .i64 0), (8, .pointer (some ⟨b1, 0, none⟩)), (9, .bool number), (10, .int .i64 n), (11, .int .i64 i), (12, .int .i64 o4.1), (13, .int .i64 o4.2.1), (17, .bool (decide ((s.length : Int) ≤ at__))), (39, .bool t39), (44, .bool (decide (200 < deep))), (48, .bool number), (61, .bool (decide (i < (IntKind.wrap .i64 (at__ + 3))))), (67, .bool (decide ((s.length : Int) ≤ i))), (73, .bool o4.2.2)] [.box b1 39 [.int .i64 0, .int .i64 0], .box b 27 [.int .i64 0, .int .u8 0, .slice none 0 0]] [] N') (fun N4 hN4 => ?_) ?_
                        · refine c_block ?_
                          refine c_loopE (fun E j a w => ∃ (k_ : Int) (j_ : Int), F.ref09.one_l4 i s j k_ j_ = some o4 ∧ St E [(0, .string (bs s)), (1, .int .i64 at__), (2, .int .i64 deep), (6, .pointer (some ⟨b, 0, none⟩)), (7, .int .i64 0), (8, .pointer (some ⟨b1, 0, none⟩)), (9, .bool number), (10, .int .i64 n), (11, .int .i64 i), (12, .int .i64 k_), (13, .int .i64 j_), (17, .bool (decide ((s.length : Int) ≤ at__))), (39, .bool t39), (44, .bool (decide (200 < deep))), (48, .bool number), (61, .bool (decide (i < (IntKind.wrap .i64 (at__ + 3))))), (67, .bool (decide ((s.length : Int) ≤ i)))] [.box b1 39 [.int .i64 0, .int .i64 0], .box b 27 [.int .i64 0, .int .u8 0, .slice none 0 0]] [] a w) k ?_ ?_
                          · intro a w hs
                            exact ⟨16, 0, ho4, st_le [0, 0] (le_cons rfl (le_cons rfl (le_cons rfl (le_cons rfl (le_cons rfl (le_cons rfl (le_cons rfl (le_cons rfl (le_cons rfl (le_cons rfl (le_cons rfl (le_cons rfl (le_cons rfl (le_cons rfl (le_cons rfl (le_cons rfl (le_cons rfl le_nil))))))))))))))))) rfl sub_nil a w hs⟩
                          · rintro j a w ⟨k_, j_, hL4, hs⟩
                            cases j with
                            | zero => cases hL4
                            | succ j =>
                              refine wc_app hs ?_
                              unfold F.ref09.one_l4 at hL4
                              refine c_seq ?_
                              refine c_seq ?_
                              refine c_region ?_
                              refine o_v (v_move rfl) rfl ?_
                              refine o_v (v_bin rfl rfl rfl) rfl ?_
                              refine o_seq ?_
                              refine c_cond rfl (fun h8 => ?_) (fun h8 => ?_)
                              · replace hL4 := ite_t h8 hL4
                                refine c_skip ?_
                                refine sat_wc ?_
                                refine c_seq ?_
                                refine c_cut (fun E N' => ∀ (k_1 : Int), F.ref09.one_j5 (F.ref09.one_l4 i s j) j_ k_1 = some o4 → Sat E [(0, .string (bs s)), (1, .int .i64 at__), (2, .int .i64 deep), (6, .pointer (some ⟨b, 0, none⟩)), (7, .int .i64 0), (8, .pointer (some ⟨b1, 0, none⟩)), (9, .bool number), (10, .int .i64 n), (11, .int .i64 i), (12, .int .i64 k_1), (13, .int .i64 j_), (17, .bool (decide ((s.length : Int) ≤ at__))), (39, .bool t39), (44, .bool (decide (200 < deep))), (48, .bool number), (61, .bool (decide (i < (IntKind.wrap .i64 (at__ + 3))))), (67, .bool (decide ((s.length : Int) ≤ i))), (73, .bool (decide (j_ < 16))), (81, .bool ((sAt ([48, 49, 50, 51, 52, 53, 54, 55, 56, 57, 97, 98, 99, 100, 101, 102] : List UInt8) j_) == (sAt s i)))] [.box b1 39 [.int .i64 0, .int .i64 0], .box b 27 [.int .i64 0, .int .u8 0, .slice none 0 0]] [] N') (fun N5 hN5 => ?_) ?_
                                · refine c_block ?_
                                  refine c_seq ?_
                                  refine c_draw (n := 6) [0, 0] mixed rfl rfl ?_
                                  refine d_val 0 rfl pnok (by kernel_rfl) (by kernel_rfl) (by kernel_rfl) rfl (v_move rfl) ?_
                                  refine ite_some hL4 fun h9 hL4 => ?_
                                  refine d_val 1 rfl pnok (by kernel_rfl) (by kernel_rfl) (by kernel_rfl) rfl (v_sindex Tryd.underlying9 rfl rfl h9) ?_
                                  refine d_val 2 rfl pnok (by kernel_rfl) (by kernel_rfl) (by kernel_rfl) rfl (v_move rfl) ?_
                                  refine d_val 3 rfl pnok (by kernel_rfl) (by kernel_rfl) (by kernel_rfl) rfl (v_move rfl) ?_
                                  refine ite_some hL4 fun h10 hL4 => ?_
                                  refine d_val 4 rfl pnok (by kernel_rfl) (by kernel_rfl) (by kernel_rfl) rfl (v_sindex Tryd.underlying9 rfl rfl h10) ?_
                                  refine d_val 5 rfl pnok (by kernel_rfl) (by kernel_rfl) (by kernel_rfl) rfl (v_bin rfl rfl rfl) ?_
                                  refine d_done_seq (by kernel_rfl) ?_
                                  refine c_cut (fun E N' => ∀ (k_2 : Int), F.ref09.one_j6 (F.ref09.one_l4 i s j) j_ k_2 = some o4 → Sat E [(0, .string (bs s)), (1, .int .i64 at__), (2, .int .i64 deep), (6, .pointer (some ⟨b, 0, none⟩)), (7, .int .i64 0), (8, .pointer (some ⟨b1, 0, none⟩)), (9, .bool number), (10, .int .i64 n), (11, .int .i64 i), (12, .int .i64 k_2), (13, .int .i64 j_), (17, .bool (decide ((s.length : Int) ≤ at__))), (39, .bool t39), (44, .bool (decide (200 < deep))), (48, .bool number), (61, .bool (decide (i < (IntKind.wrap .i64 (at__ + 3))))), (67, .bool (decide ((s.length : Int) ≤ i))), (73, .bool (decide (j_ < 16))), (81, .bool ((sAt ([48, 49, 50, 51, 52, 53, 54, 55, 56, 57, 97, 98, 99, 100, 101, 102] : List UInt8) j_) == (sAt s i)))] [.box b1 39 [.int .i64 0, .int .i64 0], .box b 27 [.int .i64 0, .int .u8 0, .slice none 0 0]] [] N') (fun N6 hN6 => ?_) ?_
                                  · refine c_cond rfl (fun h11 => ?_) (fun h11 => ?_)
                                    · replace hL4 := ite_t h11 hL4
                                      refine c_region ?_
                                      refine o_v (v_move rfl) rfl ?_
                                      refine o_v (v_assign rfl) rfl ?_
                                      refine o_nil ?_
                                      refine s_st ?_ (hN6 j_ hL4)
                                      exact st_le [0, 0] (le_cons rfl (le_cons rfl (le_cons rfl (le_cons rfl (le_cons rfl (le_cons rfl (le_cons rfl (le_cons rfl (le_cons rfl (le_cons rfl (le_cons rfl (le_cons rfl (le_cons rfl (le_cons rfl (le_cons rfl (le_cons rfl (le_cons rfl (le_cons rfl (le_cons rfl le_nil))))))))))))))))))) rfl sub_nil
                                    · replace hL4 := ite_f h11 hL4
                                      refine c_skip ?_
                                      refine s_st ?_ (hN6 k_ hL4)
                                      exact st_le [0, 0] (le_cons rfl (le_cons rfl (le_cons rfl (le_cons rfl (le_cons rfl (le_cons rfl (le_cons rfl (le_cons rfl (le_cons rfl (le_cons rfl (le_cons rfl (le_cons rfl (le_cons rfl (le_cons rfl (le_cons rfl (le_cons rfl (le_cons rfl (le_cons rfl (le_cons rfl le_nil))))))))))))))))))) rfl sub_nil
                                  · intro k_2 hL4
                                    unfold F.ref09.one_j6 at hL4
                                    refine s_st ?_ (hN5 k_2 hL4)
                                    exact st_le [0, 0] (le_cons rfl (le_cons rfl (le_cons rfl (le_cons rfl (le_cons rfl (le_cons rfl (le_cons rfl (le_cons rfl (le_cons rfl (le_cons rfl (le_cons rfl (le_cons rfl (le_cons rfl (le_cons rfl (le_cons rfl (le_cons rfl (le_cons rfl (le_cons rfl (le_cons rfl le_nil))))))))))))))))))) rfl sub_nil
                                · intro k_1 hL4
                                  unfold F.ref09.one_j5 at hL4
                                  refine sat_wc ?_
                                  refine c_region ?_
                                  refine o_v (v_move rfl) rfl ?_
                                  refine o_v (v_bin rfl rfl rfl) rfl ?_
                                  refine o_v (v_assign rfl) rfl ?_
                                  refine o_nil ?_
                                  intro a w hs
                                  exact ⟨j, Nat.lt_succ_self j, k_1, IntKind.wrap .i64 (j_ + 1), hL4, st_le [0, 0] (le_cons rfl (le_cons rfl (le_cons rfl (le_cons rfl (le_cons rfl (le_cons rfl (le_cons rfl (le_cons rfl (le_cons rfl (le_cons rfl (le_cons rfl (le_cons rfl (le_cons rfl (le_cons rfl (le_cons rfl (le_cons rfl (le_cons rfl le_nil))))))))))))))))) rfl sub_nil a w hs⟩
                              · replace hL4 := ite_f h8 hL4
                                refine c_exit0 ?_
                                cases hL4
                                refine s_st ?_ (hN4)
                                exact st_le [0, 0] (le_cons rfl (le_cons rfl (le_cons rfl (le_cons rfl (le_cons rfl (le_cons rfl (le_cons rfl (le_cons rfl (le_cons rfl (le_cons rfl (le_cons rfl (le_cons rfl (le_cons rfl (le_cons rfl (le_cons rfl (le_cons rfl (le_cons rfl (le_cons rfl le_nil)))))))))))))))))) rfl sub_nil
                        · refine sat_wc ?_
                          refine c_seq ?_
                          refine c_seq ?_
                          refine c_region ?_
                          refine o_v (v_move rfl) rfl ?_
                          refine o_v (v_bin rfl rfl rfl) rfl ?_
                          refine o_seq ?_
                          refine c_cond rfl (fun h12 => ?_) (fun h12 => ?_)
                          · replace hL3 := ite_t h12 hL3
                            refine c_seq ?_
                            refine c_region ?_
                            refine o_v (v_build (v := .agg #[.int .i64 0, .int .u8 0, .slice none 0 0]) rfl (fun _ => by kernel_rfl)) rfl ?_
                            refine o_v (v_move rfl) rfl ?_
                            refine o_v (v_build (v := .agg #[.int .i64 i, .int .i64 11]) rfl (fun _ => by kernel_rfl)) rfl ?_
                            refine o_store_box 1 rfl ty27 rfl rfl rfl rfl rfl rfl rfl ?_
                            refine o_v (v_assign rfl) rfl ?_
                            refine o_store_box 0 rfl ty39 rfl rfl rfl rfl rfl rfl rfl ?_
                            refine o_seq ?_
                            refine c_ret ?_
                            cases hL3
                            obtain rfl := lrf_ret hF
                            refine s_st (st_nilfact 3) ?_
                            refine s_ret3 rfl (r_cell 1 rfl ty27 rfl rfl rfl rfl) (r_tmp rfl) (r_cell 0 rfl ty39 rfl rfl rfl rfl) fun a w hs => ?_
                            exact fin_sel hs [] ⟨none, 0, 0, rfl, rfl, rfl⟩ rfl (sub_cons 0 rfl sub_nil)
                          · replace hL3 := ite_f h12 hL3
                            refine c_skip ?_
                            refine sat_wc ?_
                            refine c_region ?_
                            refine o_v (v_move rfl) rfl ?_
                            refine o_v (v_bin rfl rfl rfl) rfl ?_
                            refine o_v (v_move rfl) rfl ?_
                            refine o_v (v_bin rfl rfl rfl) rfl ?_
                            refine o_v (v_assign rfl) rfl ?_
                            refine o_nil ?_
                            refine sat_wc ?_
                            refine c_region ?_
                            refine o_v (v_move rfl) rfl ?_
                            refine o_v (v_bin rfl rfl rfl) rfl ?_
                            refine o_v (v_assign rfl) rfl ?_
                            refine o_nil ?_
                            intro a w hs
                            exact ⟨j, Nat.lt_succ_self j, IntKind.wrap .i64 ((IntKind.wrap .i64 (16 * n)) + o4.1), IntKind.wrap .i64 (i + 1), hL3, st_le [0, 0] (le_cons rfl (le_cons rfl (le_cons rfl (le_cons rfl (le_cons rfl (le_cons rfl (le_cons rfl (le_cons rfl (le_cons rfl (le_cons rfl (le_cons rfl (le_cons rfl (le_cons rfl le_nil))))))))))))) rfl sub_nil a w hs⟩
                    · replace hL3 := ite_f h6 hL3
                      refine c_exit0 ?_
                      cases hL3
                      refine s_st ?_ (hN3 n rfl)
                      exact st_le [0, 0] (le_cons rfl (le_cons rfl (le_cons rfl (le_cons rfl (le_cons rfl (le_cons rfl (le_cons rfl (le_cons rfl (le_cons rfl (le_cons rfl (le_cons rfl (le_cons rfl le_nil)))))))))))) rfl sub_nil
              · intro d3 hd
                subst hd
                replace hF := lrf_done hF
                refine sat_wc ?_
                refine c_seq ?_
                refine c_region ?_
                refine o_v (v_move rfl) rfl ?_
                refine o_v (v_convert (v := .int .u8 (IntKind.wrap .u8 d3)) rfl (fun _ => by kernel_rfl)) rfl ?_
                refine o_v (v_build (v := .agg #[.int .i64 (-1), .int .u8 (IntKind.wrap .u8 d3), .slice none 0 0]) rfl (fun _ => by kernel_rfl)) rfl ?_
                refine o_v (v_move rfl) rfl ?_
                refine o_v (v_bin rfl rfl rfl) rfl ?_
                refine o_v (v_build (v := .agg #[.int .i64 0, .int .i64 0]) rfl (fun _ => by kernel_rfl)) rfl ?_
                refine o_store_box 1 rfl ty27 rfl rfl rfl rfl rfl rfl rfl ?_
                refine o_v (v_assign rfl) rfl ?_
                refine o_store_box 0 rfl ty39 rfl rfl rfl rfl rfl rfl rfl ?_
                refine o_seq ?_
                refine c_ret ?_
                cases hF
                refine s_st (st_nilfact 3) ?_
                refine s_ret3 rfl (r_cell 1 rfl ty27 rfl rfl rfl rfl) (r_tmp rfl) (r_cell 0 rfl ty39 rfl rfl rfl rfl) fun a w hs => ?_
                exact fin_sel hs [] ⟨none, 0, 0, rfl, rfl, rfl⟩ rfl (sub_cons 0 rfl sub_nil)
theorem tri70_B (k : Nat) (g53 : List UInt8 → Int → Int → Option (Tree × Int × Fault))
    (hg53 : ∀ (s : List UInt8) (at__ : Int) (deep : Int) (r : Tree × Int × Fault), g53 s at__ deep = some r → Tri Tryd.prog 53 [.string (bs s), .int .i64 at__, .int .i64 deep] [] [] (fun o H Φ => ∃ (sa2 : Option Addr) (sn2 sc2 : Nat), o = .ret (.tuple #[.agg #[.int .i64 r.1.Rule, .int .u8 r.1.Byte, .slice sa2 sn2 sc2], .int .i64 r.2.1, .agg #[.int .i64 r.2.2.At, .int .i64 r.2.2.Code]]) ∧ H = [] ∧ Φ = [(.slice sa2 sn2 sc2, .slice 3 (r.1.Kids.map eTree))])) (s : List UInt8) (at__ : Int) (deep : Int) (r : Tree × Int × Fault) (hF : F.ref09.node_B k g53 s at__ deep = some r) :
    Tri Tryd.prog 70 [.string (bs s), .int .i64 at__, .int .i64 deep] [] [] (fun o H Φ => ∃ (sa7 : Option Addr) (sn7 sc7 : Nat), o = .ret (.tuple #[.agg #[.int .i64 r.1.Rule, .int .u8 r.1.Byte, .slice sa7 sn7 sc7], .int .i64 r.2.1, .agg #[.int .i64 r.2.2.At, .int .i64 r.2.2.Code]]) ∧ H = [] ∧ Φ = [(.slice sa7 sn7 sc7, .slice 3 (r.1.Kids.map eTree))]) := by
  unfold F.ref09.node_B at hF
  refine tri_intro (n := 133) Tryd.func70 rfl Tryd.ntmps70 rfl fun w X => ?_
  refine c_seq ?_
  refine c_region ?_
  refine o_alloc zero27 rfl rfl fun b => ?_
  refine o_v (v_assign rfl) rfl ?_
  refine o_alloc zero39 rfl rfl fun b1 => ?_
  refine o_seq ?_
  refine c_seq ?_
  refine c_region ?_
  refine o_v (v_move rfl) rfl ?_
  refine o_v (v_assign rfl) rfl ?_
  refine o_v (v_assign rfl) rfl ?_
  refine o_seq ?_
  refine c_seq ?_
  obtain ⟨o1, ho1, hF⟩ := bd hF
  refine c_cut (fun E N' => ∀ (d1 : Int × Int), o1 = .done d1 → Sat E [(0, .string (bs s)), (1, .int .i64 at__), (2, .int .i64 deep), (6, .pointer (some ⟨b, 0, none⟩)), (7, .int .i64 0), (8, .pointer (some ⟨b1, 0, none⟩)), (9, .int .i64 d1.1), (10, .int .i64 d1.2)] [.box b1 39 [.int .i64 0, .int .i64 0], .box b 27 [.int .i64 0, .int .u8 0, .slice none 0 0]] [] N') (fun N1 hN1 => ?_) ?_
  · refine c_block ?_
    refine c_loopE (fun E j a w => ∃ (n : Int) (i : Int), F.ref09.node_l1 s at__ j n i = some o1 ∧ St E [(0, .string (bs s)), (1, .int .i64 at__), (2, .int .i64 deep), (6, .pointer (some ⟨b, 0, none⟩)), (7, .int .i64 0), (8, .pointer (some ⟨b1, 0, none⟩)), (9, .int .i64 n), (10, .int .i64 i)] [.box b1 39 [.int .i64 0, .int .i64 0], .box b 27 [.int .i64 0, .int .u8 0, .slice none 0 0]] [] a w) k ?_ ?_
    · intro a w hs
      exact ⟨0, at__, ho1, st_le [0, 0] (le_cons rfl (le_cons rfl (le_cons rfl (le_cons rfl (le_cons rfl (le_cons rfl (le_cons rfl (le_cons rfl le_nil)))))))) rfl sub_nil a w hs⟩
    · rintro j a w ⟨n, i, hL1, hs⟩
      cases j with
      | zero => cases hL1
      | succ j =>
        refine wc_app hs ?_
        unfold F.ref09.node_l1 at hL1
        refine c_seq ?_
        refine c_seq ?_
        refine c_cut (fun E N' => ∀ (t32 : Bool), F.ref09.node_j2 i at__ s (F.ref09.node_l1 s at__ j) n t32 = some o1 → Sat E [(0, .string (bs s)), (1, .int .i64 at__), (2, .int .i64 deep), (6, .pointer (some ⟨b, 0, none⟩)), (7, .int .i64 0), (8, .pointer (some ⟨b1, 0, none⟩)), (9, .int .i64 n), (10, .int .i64 i), (32, .bool t32)] [.box b1 39 [.int .i64 0, .int .i64 0], .box b 27 [.int .i64 0, .int .u8 0, .slice none 0 0]] [] N') (fun N4 hN4 => ?_) ?_
        · refine c_region ?_
          refine o_v (v_move rfl) rfl ?_
          refine o_v (v_move rfl) rfl ?_
          refine o_v (v_len_str Tryd.underlying9 rfl) rfl ?_
          refine o_v (v_bin rfl rfl rfl) rfl ?_
          refine o_v (v_move rfl) rfl ?_
          refine o_split (t := 21) rfl (fun h7 => ?_) (fun h7 => ?_)
          · replace hL1 := ite_t h7 hL1
            refine o_on rfl rfl ?_
            refine o_v (v_move rfl) rfl ?_
            refine o_on rfl rfl ?_
            refine o_v (v_move rfl) rfl ?_
            refine o_on rfl rfl ?_
            refine ite_some hL1 fun h8 hL1 => ?_
            refine o_v (v_sindex Tryd.underlying9 rfl rfl h8) rfl ?_
            refine o_on rfl rfl ?_
            refine o_v (v_bin rfl rfl rfl) rfl ?_
            refine o_v (v_pick_t rfl rfl) rfl ?_
            refine o_v (v_move rfl) rfl ?_
            refine o_split (t := 27) rfl (fun h9 => ?_) (fun h9 => ?_)
            · replace hL1 := ite_t h9 hL1
              refine o_on rfl rfl ?_
              refine o_v (v_move rfl) rfl ?_
              refine o_on rfl rfl ?_
              refine o_v (v_move rfl) rfl ?_
              refine o_on rfl rfl ?_
              refine o_v (v_sindex Tryd.underlying9 rfl rfl h8) rfl ?_
              refine o_on rfl rfl ?_
              refine o_v (v_bin rfl rfl rfl) rfl ?_
              refine o_v (v_pick_t rfl rfl) rfl ?_
              refine o_nil ?_
              refine s_st ?_ (hN4 (decide ((sAt s i) ≤ 57)) hL1)
              exact st_le [0, 0] (le_cons rfl (le_cons rfl (le_cons rfl (le_cons rfl (le_cons rfl (le_cons rfl (le_cons rfl (le_cons rfl (le_cons rfl le_nil))))))))) rfl sub_nil
            · replace hL1 := ite_f h9 hL1
              refine o_off rfl rfl (by decide) rfl ?_
              refine o_off rfl rfl (by decide) rfl ?_
              refine o_off rfl rfl (by decide) rfl ?_
              refine o_off rfl rfl (by decide) rfl ?_
              refine o_v (v_pick_f rfl rfl) rfl ?_
              refine o_nil ?_
              refine s_st ?_ (hN4 false hL1)
              exact st_le [0, 0] (le_cons rfl (le_cons rfl (le_cons rfl (le_cons rfl (le_cons rfl (le_cons rfl (le_cons rfl (le_cons rfl (le_cons rfl le_nil))))))))) rfl sub_nil
          · replace hL1 := ite_f h7 hL1
            refine o_off rfl rfl (by decide) rfl ?_
            refine o_off rfl rfl (by decide) rfl ?_
            refine o_off rfl rfl (by decide) rfl ?_
            refine o_off rfl rfl (by decide) rfl ?_
            refine o_v (v_pick_f rfl rfl) rfl ?_
            refine o_v (v_move rfl) rfl ?_
            refine o_off rfl rfl (by decide) rfl ?_
            refine o_off rfl rfl (by decide) rfl ?_
            refine o_off rfl rfl (by decide) rfl ?_
            refine o_off rfl rfl (by decide) rfl ?_
            refine o_v (v_pick_f rfl rfl) rfl ?_
            refine o_nil ?_
            refine s_st ?_ (hN4 false hL1)
            exact st_le [0, 0] (le_cons rfl (le_cons rfl (le_cons rfl (le_cons rfl (le_cons rfl (le_cons rfl (le_cons rfl (le_cons rfl (le_cons rfl le_nil))))))))) rfl sub_nil
        · intro t32 hL1
          unfold F.ref09.node_j2 at hL1
          refine sat_wc ?_
          refine c_cond rfl (fun h1 => ?_) (fun h1 => ?_)
          · replace hL1 := ite_t h1 hL1
            refine c_skip ?_
            refine sat_wc ?_
            refine c_cut (fun E N' => ∀ (t47 : Bool), F.ref09.node_j3 (F.ref09.node_l1 s at__ j) n s i t47 = some o1 → Sat E [(0, .string (bs s)), (1, .int .i64 at__), (2, .int .i64 deep), (6, .pointer (some ⟨b, 0, none⟩)), (7, .int .i64 0), (8, .pointer (some ⟨b1, 0, none⟩)), (9, .int .i64 (IntKind.wrap .i64 ((IntKind.wrap .i64 ((IntKind.wrap .i64 (10 * n)) + (IntKind.wrap .i64 (sAt s i)))) - 48))), (10, .int .i64 (IntKind.wrap .i64 (i + 1))), (32, .bool t32), (47, .bool t47)] [.box b1 39 [.int .i64 0, .int .i64 0], .box b 27 [.int .i64 0, .int .u8 0, .slice none 0 0]] [] N') (fun N3 hN3 => ?_) ?_
            · refine c_block ?_
              refine c_seq ?_
              refine c_seq ?_
              refine c_cut (fun E N' => ∀ (t471 : Bool), F.ref09.node_j4 i s (F.ref09.node_l1 s at__ j) n t471 = some o1 → Sat E [(0, .string (bs s)), (1, .int .i64 at__), (2, .int .i64 deep), (6, .pointer (some ⟨b, 0, none⟩)), (7, .int .i64 0), (8, .pointer (some ⟨b1, 0, none⟩)), (9, .int .i64 n), (10, .int .i64 i), (32, .bool t32), (47, .bool t471)] [.box b1 39 [.int .i64 0, .int .i64 0], .box b 27 [.int .i64 0, .int .u8 0, .slice none 0 0]] [] N') (fun N4 hN4 => ?_) ?_
              · refine c_region ?_
                refine o_v (v_move rfl) rfl ?_
                refine o_v (v_move rfl) rfl ?_
                refine o_v (v_bin rfl rfl rfl) rfl ?_
                refine o_v (v_bin rfl rfl rfl) rfl ?_
                refine o_v (v_move rfl) rfl ?_
                refine o_split (t := 37) rfl (fun h4 => ?_) (fun h4 => ?_)
                · replace hL1 := ite_t h4 hL1
                  refine o_off rfl rfl (by decide) rfl ?_
                  refine o_off rfl rfl (by decide) rfl ?_
                  refine o_off rfl rfl (by decide) rfl ?_
                  refine o_off rfl rfl (by decide) rfl ?_
                  refine o_offU rfl rfl rfl ?_
                  refine o_offU rfl rfl rfl ?_
                  refine o_offU rfl rfl rfl ?_
                  refine o_offU rfl rfl rfl ?_
                  refine o_off rfl rfl (by decide) rfl ?_
                  refine o_v (v_pick_t rfl rfl) rfl ?_
                  refine o_nil ?_
                  refine s_st ?_ (hN4 true hL1)
                  exact st_le [0, 0] (le_cons rfl (le_cons rfl (le_cons rfl (le_cons rfl (le_cons rfl (le_cons rfl (le_cons rfl (le_cons rfl (le_cons rfl (le_cons rfl le_nil)))))))))) rfl sub_nil
                · replace hL1 := ite_f h4 hL1
                  refine o_on rfl rfl ?_
                  refine o_v (v_move rfl) rfl ?_
                  refine o_on rfl rfl ?_
                  refine o_v (v_move rfl) rfl ?_
                  refine o_on rfl rfl ?_
                  refine o_v (v_bin rfl rfl rfl) rfl ?_
                  refine o_on rfl rfl ?_
                  refine o_v (v_move rfl) rfl ?_
                  refine o_split (t := 41) rfl (fun h5 => ?_) (fun h5 => ?_)
                  · replace hL1 := ite_t h5 hL1
                    refine o_on rfl rfl ?_
                    refine o_v (v_move rfl) rfl ?_
                    refine o_on rfl rfl ?_
                    refine o_v (v_move rfl) rfl ?_
                    refine o_on rfl rfl ?_
                    refine ite_some hL1 fun h6 hL1 => ?_
                    refine o_v (v_sindex Tryd.underlying9 rfl rfl h6) rfl ?_
                    refine o_on rfl rfl ?_
                    refine o_v (v_bin rfl rfl rfl) rfl ?_
                    refine o_on rfl rfl ?_
                    refine o_v (v_pick_t rfl rfl) rfl ?_
                    refine o_v (v_pick_f rfl rfl) rfl ?_
                    refine o_nil ?_
                    refine s_st ?_ (hN4 ((sAt s at__) == 48) hL1)
                    exact st_le [0, 0] (le_cons rfl (le_cons rfl (le_cons rfl (le_cons rfl (le_cons rfl (le_cons rfl (le_cons rfl (le_cons rfl (le_cons rfl (le_cons rfl le_nil)))))))))) rfl sub_nil
                  · replace hL1 := ite_f h5 hL1
                    refine o_off rfl rfl (by decide) rfl ?_
                    refine o_off rfl rfl (by decide) rfl ?_
                    refine o_off rfl rfl (by decide) rfl ?_
                    refine o_off rfl rfl (by decide) rfl ?_
                    refine o_on rfl rfl ?_
                    refine o_v (v_pick_f rfl rfl) rfl ?_
                    refine o_v (v_pick_f rfl rfl) rfl ?_
                    refine o_nil ?_
                    refine s_st ?_ (hN4 false hL1)
                    exact st_le [0, 0] (le_cons rfl (le_cons rfl (le_cons rfl (le_cons rfl (le_cons rfl (le_cons rfl (le_cons rfl (le_cons rfl (le_cons rfl (le_cons rfl le_nil)))))))))) rfl sub_nil
              · intro t471 hL1
                unfold F.ref09.node_j4 at hL1
                refine sat_wc ?_
                refine c_cond rfl (fun h2 => ?_) (fun h2 => ?_)
                · replace hL1 := ite_t h2 hL1
                  refine c_seq ?_
                  refine c_region ?_
                  refine o_v (v_build (v := .agg #[.int .i64 0, .int .u8 0, .slice none 0 0]) rfl (fun _ => by kernel_rfl)) rfl ?_
                  refine o_v (v_move rfl) rfl ?_
                  refine o_v (v_build (v := .agg #[.int .i64 i, .int .i64 11]) rfl (fun _ => by kernel_rfl)) rfl ?_
                  refine o_store_box 1 rfl ty27 rfl rfl rfl rfl rfl rfl rfl ?_
                  refine o_v (v_assign rfl) rfl ?_
                  refine o_store_box 0 rfl ty39 rfl rfl rfl rfl rfl rfl rfl ?_
                  refine o_seq ?_
                  refine c_ret ?_
                  cases hL1
                  obtain rfl := lrf_ret hF
                  refine s_st (st_nilfact 3) ?_
                  refine s_ret3 rfl (r_cell 1 rfl ty27 rfl rfl rfl rfl) (r_tmp rfl) (r_cell 0 rfl ty39 rfl rfl rfl rfl) fun a w hs => ?_
                  exact fin_sel hs [] ⟨none, 0, 0, rfl, rfl, rfl⟩ rfl (sub_cons 0 rfl sub_nil)
                · replace hL1 := ite_f h2 hL1
                  refine c_skip ?_
                  refine sat_wc ?_
                  refine c_seq ?_
                  refine c_region ?_
                  refine o_v (v_move rfl) rfl ?_
                  refine o_v (v_bin rfl rfl rfl) rfl ?_
                  refine o_v (v_move rfl) rfl ?_
                  refine o_v (v_move rfl) rfl ?_
                  refine ite_some hL1 fun h3 hL1 => ?_
                  refine o_v (v_sindex Tryd.underlying9 rfl rfl h3) rfl ?_
                  refine o_v (v_convert (v := .int .i64 (IntKind.wrap .i64 (sAt s i))) rfl (fun _ => by kernel_rfl)) rfl ?_
                  refine o_v (v_bin rfl rfl rfl) rfl ?_
                  refine o_v (v_bin rfl rfl rfl) rfl ?_
                  refine o_v (v_assign rfl) rfl ?_
                  refine o_seq ?_
                  refine c_region ?_
                  refine o_v (v_move rfl) rfl ?_
                  refine o_v (v_bin rfl rfl rfl) rfl ?_
                  refine o_v (v_assign rfl) rfl ?_
                  refine o_nil ?_
                  refine s_st ?_ (hN3 t471 hL1)
                  exact st_le [0, 0] (le_cons rfl (le_cons rfl (le_cons rfl (le_cons rfl (le_cons rfl (le_cons rfl (le_cons rfl (le_cons rfl (le_cons rfl (le_cons rfl le_nil)))))))))) rfl sub_nil
            · intro t47 hL1
              unfold F.ref09.node_j3 at hL1
              intro a w hs
              exact ⟨j, Nat.lt_succ_self j, IntKind.wrap .i64 ((IntKind.wrap .i64 ((IntKind.wrap .i64 (10 * n)) + (IntKind.wrap .i64 (sAt s i)))) - 48), IntKind.wrap .i64 (i + 1), hL1, st_le [0, 0] (le_cons rfl (le_cons rfl (le_cons rfl (le_cons rfl (le_cons rfl (le_cons rfl (le_cons rfl (le_cons rfl le_nil)))))))) rfl sub_nil a w hs⟩
          · replace hL1 := ite_f h1 hL1
            refine c_exit0 ?_
            cases hL1
            refine s_st ?_ (hN1 (n, i) rfl)
            exact st_le [0, 0] (le_cons rfl (le_cons rfl (le_cons rfl (le_cons rfl (le_cons rfl (le_cons rfl (le_cons rfl (le_cons rfl le_nil)))))))) rfl sub_nil
  · intro d1 hd
    subst hd
    replace hF := lrf_done hF
    refine sat_wc ?_
    refine c_seq ?_
    refine c_region ?_
    refine o_v (v_move rfl) rfl ?_
    refine o_v (v_build (v := .agg #[.int .i64 d1.1, .int .u8 0, .slice none 0 0]) rfl (fun _ => by kernel_rfl)) rfl ?_
    refine o_alloc zero27 rfl rfl fun b2 => ?_
    refine o_store_box 0 rfl ty27 rfl rfl rfl rfl rfl rfl rfl ?_
    refine o_seq ?_
    refine c_seq ?_
    refine c_region ?_
    refine o_v (v_assign rfl) rfl ?_
    refine o_seq ?_
    obtain ⟨o5, ho5, hF⟩ := bd hF
    refine c_block ?_
    refine c_loopE (fun E j a w => ∃ (i1 : Int) (want : Int) (Kids_ : List Tree) (sa1 : Option Addr) (sn1 sc1 : Nat), F.ref09.node_l5 s d1 g53 deep j i1 want Kids_ = some o5 ∧ St E [(0, .string (bs s)), (1, .int .i64 at__), (2, .int .i64 deep), (6, .pointer (some ⟨b, 0, none⟩)), (7, .int .i64 0), (8, .pointer (some ⟨b1, 0, none⟩)), (9, .int .i64 d1.1), (10, .int .i64 i1), (11, .pointer (some ⟨b2, 0, none⟩)), (12, .int .u8 want)] [.box b2 27 [.int .i64 d1.1, .int .u8 0, .slice sa1 sn1 sc1], .box b1 39 [.int .i64 0, .int .i64 0], .box b 27 [.int .i64 0, .int .u8 0, .slice none 0 0], .row (.slice sa1 sn1 sc1) 27 3 (Kids_.map eTree)] [] a w) k ?_ ?_
    · refine s_st (st_nilrow 27 3) ?_
      intro a w hs
      exact ⟨d1.2, 40, ([] : List Tree), none, 0, 0, ho5, st_le [1, 1, 1, 0] (le_cons rfl (le_cons rfl (le_cons rfl (le_cons rfl (le_cons rfl (le_cons rfl (le_cons rfl (le_cons rfl (le_cons rfl (le_cons rfl le_nil)))))))))) rfl sub_nil a w hs⟩
    · rintro j a w ⟨i1, want, Kids_, sa1, sn1, sc1, hL5, hs⟩
      cases j with
      | zero => cases hL5
      | succ j =>
        refine wc_app hs ?_
        unfold F.ref09.node_l5 at hL5
        refine c_cut (fun E N' => ∀ (i2 : Int) (Rule_ : Int) (Byte_ : Int) (Kids_1 : List Tree) (end_ : Int) (At_ : Int) (Code_ : Int) (t78 : Bool) (t106 : Bool) (t123 : Bool) (Kids_2 : List Tree) (sa2 : Option Addr) (sn2 sc2 : Nat) (sa3 : Option Addr) (sn3 sc3 : Nat) (b3 : Nat) (b4 : Nat), F.ref09.node_j6 (F.ref09.node_l5 s d1 g53 deep j) i2 Rule_ Byte_ Kids_1 end_ At_ Code_ t78 t106 t123 Kids_2 = some o5 → Sat E [(0, .string (bs s)), (1, .int .i64 at__), (2, .int .i64 deep), (6, .pointer (some ⟨b, 0, none⟩)), (7, .int .i64 0), (8, .pointer (some ⟨b1, 0, none⟩)), (9, .int .i64 d1.1), (10, .int .i64 i2), (11, .pointer (some ⟨b2, 0, none⟩)), (12, .int .u8 32), (13, .pointer (some ⟨b3, 0, none⟩)), (14, .int .i64 end_), (15, .pointer (some ⟨b4, 0, none⟩)), (66, .bool (decide ((s.length : Int) ≤ i1))), (78, .bool t78), (87, .bool ((sAt s i1) != want)), (106, .bool t106), (123, .bool t123)] [.box b2 27 [.int .i64 d1.1, .int .u8 0, .slice sa3 sn3 sc3], .box b1 39 [.int .i64 0, .int .i64 0], .box b 27 [.int .i64 0, .int .u8 0, .slice none 0 0], .box b3 27 [.int .i64 Rule_, .int .u8 Byte_, .slice sa2 sn2 sc2], .box b4 39 [.int .i64 At_, .int .i64 Code_], .row (.slice sa3 sn3 sc3) 27 3 (Kids_2.map eTree)] [(.slice sa2 sn2 sc2, .slice 3 (Kids_1.map eTree))] N') (fun N6 hN6 => ?_) ?_
        · refine c_block ?_
          refine c_seq ?_
          refine c_seq ?_
          refine c_region ?_
          refine o_v (v_move rfl) rfl ?_
          refine o_v (v_move rfl) rfl ?_
          refine o_v (v_len_str Tryd.underlying9 rfl) rfl ?_
          refine o_v (v_bin rfl rfl rfl) rfl ?_
          refine o_seq ?_
          refine c_cond rfl (fun h10 => ?_) (fun h10 => ?_)
          · replace hL5 := ite_t h10 hL5
            refine c_seq ?_
            refine c_region ?_
            refine o_v (v_build (v := .agg #[.int .i64 0, .int .u8 0, .slice none 0 0]) rfl (fun _ => by kernel_rfl)) rfl ?_
            refine o_v (v_move rfl) rfl ?_
            refine o_v (v_len_str Tryd.underlying9 rfl) rfl ?_
            refine o_v (v_build (v := .agg #[.int .i64 (s.length : Int), .int .i64 14]) rfl (fun _ => by kernel_rfl)) rfl ?_
            refine o_store_box 2 rfl ty27 rfl rfl rfl rfl rfl rfl rfl ?_
            refine o_v (v_assign rfl) rfl ?_
            refine o_store_box 1 rfl ty39 rfl rfl rfl rfl rfl rfl rfl ?_
            refine o_seq ?_
            refine c_ret ?_
            cases hL5
            obtain rfl := lrf_ret hF
            refine s_st (st_nilfact 3) ?_
            refine s_ret3 rfl (r_cell 2 rfl ty27 rfl rfl rfl rfl) (r_tmp rfl) (r_cell 1 rfl ty39 rfl rfl rfl rfl) fun a w hs => ?_
            exact fin_sel hs [] ⟨none, 0, 0, rfl, rfl, rfl⟩ rfl (sub_cons 0 rfl sub_nil)
          · replace hL5 := ite_f h10 hL5
            refine c_skip ?_
            refine sat_wc ?_
            refine c_seq ?_
            refine c_seq ?_
            refine c_cut (fun E N' => ∀ (t781 : Bool), F.ref09.node_j7 d1 Kids_ i1 s want g53 deep (F.ref09.node_l5 s d1 g53 deep j) t781 = some o5 → Sat E [(0, .string (bs s)), (1, .int .i64 at__), (2, .int .i64 deep), (6, .pointer (some ⟨b, 0, none⟩)), (7, .int .i64 0), (8, .pointer (some ⟨b1, 0, none⟩)), (9, .int .i64 d1.1), (10, .int .i64 i1), (11, .pointer (some ⟨b2, 0, none⟩)), (12, .int .u8 want), (66, .bool (decide ((s.length : Int) ≤ i1))), (78, .bool t781)] [.box b2 27 [.int .i64 d1.1, .int .u8 0, .slice sa1 sn1 sc1], .box b1 39 [.int .i64 0, .int .i64 0], .box b 27 [.int .i64 0, .int .u8 0, .slice none 0 0], .row (.slice sa1 sn1 sc1) 27 3 (Kids_.map eTree)] [] N') (fun N8 hN8 => ?_) ?_
            · refine c_region ?_
              refine o_v (v_move rfl) rfl ?_
              refine o_v (v_move rfl) rfl ?_
              refine ite_some hL5 fun h22 hL5 => ?_
              refine o_v (v_sindex Tryd.underlying9 rfl rfl h22) rfl ?_
              refine o_v (v_bin rfl rfl rfl) rfl ?_
              refine o_v (v_move rfl) rfl ?_
              refine o_split (t := 75) rfl (fun h23 => ?_) (fun h23 => ?_)
              · replace hL5 := ite_t h23 hL5
                refine o_on rfl rfl ?_
                refine o_v (v_move rfl) rfl ?_
                refine o_on rfl rfl ?_
                refine o_v (v_bin rfl rfl rfl) rfl ?_
                refine o_v (v_pick_t rfl rfl) rfl ?_
                refine o_nil ?_
                refine s_st ?_ (hN8 (want != 40) hL5)
                exact st_le [0, 0, 0, 0] (le_cons rfl (le_cons rfl (le_cons rfl (le_cons rfl (le_cons rfl (le_cons rfl (le_cons rfl (le_cons rfl (le_cons rfl (le_cons rfl (le_cons rfl (le_cons rfl le_nil)))))))))))) rfl sub_nil
              · replace hL5 := ite_f h23 hL5
                refine o_off rfl rfl (by decide) rfl ?_
                refine o_off rfl rfl (by decide) rfl ?_
                refine o_v (v_pick_f rfl rfl) rfl ?_
                refine o_nil ?_
                refine s_st ?_ (hN8 false hL5)
                exact st_le [0, 0, 0, 0] (le_cons rfl (le_cons rfl (le_cons rfl (le_cons rfl (le_cons rfl (le_cons rfl (le_cons rfl (le_cons rfl (le_cons rfl (le_cons rfl (le_cons rfl (le_cons rfl le_nil)))))))))))) rfl sub_nil
            · intro t781 hL5
              unfold F.ref09.node_j7 at hL5
              refine sat_wc ?_
              refine c_cond rfl (fun h11 => ?_) (fun h11 => ?_)
              · replace hL5 := ite_t h11 hL5
                refine c_seq ?_
                refine c_region ?_
                refine o_v (v_load_box 0 ty27 rfl rfl rfl rfl rfl) rfl ?_
                refine o_v (v_move rfl) rfl ?_
                refine o_v (v_bin rfl rfl rfl) rfl ?_
                refine o_v (v_build (v := .agg #[.int .i64 0, .int .i64 0]) rfl (fun _ => by kernel_rfl)) rfl ?_
                refine o_store_box 2 rfl ty27 rfl rfl rfl rfl rfl rfl rfl ?_
                refine o_v (v_assign rfl) rfl ?_
                refine o_store_box 1 rfl ty39 rfl rfl rfl rfl rfl rfl rfl ?_
                refine o_seq ?_
                refine c_ret ?_
                cases hL5
                obtain rfl := lrf_ret hF
                refine s_st (st_freeze 3 rfl) ?_
                refine s_ret3 rfl (r_cell 2 rfl ty27 rfl rfl rfl rfl) (r_tmp rfl) (r_cell 1 rfl ty39 rfl rfl rfl rfl) fun a w hs => ?_
                exact fin_sel hs [] ⟨sa1, sn1, sc1, rfl, rfl, rfl⟩ rfl (sub_cons 0 rfl sub_nil)
              · replace hL5 := ite_f h11 hL5
                refine c_skip ?_
                refine sat_wc ?_
                refine c_seq ?_
                refine c_seq ?_
                refine c_region ?_
                refine o_v (v_move rfl) rfl ?_
                refine o_v (v_move rfl) rfl ?_
                refine ite_some hL5 fun h12 hL5 => ?_
                refine o_v (v_sindex Tryd.underlying9 rfl rfl h12) rfl ?_
                refine o_v (v_move rfl) rfl ?_
                refine o_v (v_bin rfl rfl rfl) rfl ?_
                refine o_seq ?_
                refine c_cond rfl (fun h13 => ?_) (fun h13 => ?_)
                · replace hL5 := ite_t h13 hL5
                  refine c_seq ?_
                  refine c_region ?_
                  refine o_v (v_build (v := .agg #[.int .i64 0, .int .u8 0, .slice none 0 0]) rfl (fun _ => by kernel_rfl)) rfl ?_
                  refine o_v (v_move rfl) rfl ?_
                  refine o_v (v_build (v := .agg #[.int .i64 i1, .int .i64 11]) rfl (fun _ => by kernel_rfl)) rfl ?_
                  refine o_store_box 2 rfl ty27 rfl rfl rfl rfl rfl rfl rfl ?_
                  refine o_v (v_assign rfl) rfl ?_
                  refine o_store_box 1 rfl ty39 rfl rfl rfl rfl rfl rfl rfl ?_
                  refine o_seq ?_
                  refine c_ret ?_
                  cases hL5
                  obtain rfl := lrf_ret hF
                  refine s_st (st_nilfact 3) ?_
                  refine s_ret3 rfl (r_cell 2 rfl ty27 rfl rfl rfl rfl) (r_tmp rfl) (r_cell 1 rfl ty39 rfl rfl rfl rfl) fun a w hs => ?_
                  exact fin_sel hs [] ⟨none, 0, 0, rfl, rfl, rfl⟩ rfl (sub_cons 0 rfl sub_nil)
                · replace hL5 := ite_f h13 hL5
                  refine c_skip ?_
                  refine sat_wc ?_
                  refine c_seq ?_
                  refine c_seq ?_
                  refine c_cut (fun E N' => ∀ (t1061 : Bool), F.ref09.node_j8 d1 Kids_ i1 g53 s deep (F.ref09.node_l5 s d1 g53 deep j) t781 t1061 = some o5 → Sat E [(0, .string (bs s)), (1, .int .i64 at__), (2, .int .i64 deep), (6, .pointer (some ⟨b, 0, none⟩)), (7, .int .i64 0), (8, .pointer (some ⟨b1, 0, none⟩)), (9, .int .i64 d1.1), (10, .int .i64 i1), (11, .pointer (some ⟨b2, 0, none⟩)), (12, .int .u8 want), (66, .bool (decide ((s.length : Int) ≤ i1))), (78, .bool t781), (87, .bool ((sAt s i1) != want)), (106, .bool t1061)] [.box b2 27 [.int .i64 d1.1, .int .u8 0, .slice sa1 sn1 sc1], .box b1 39 [.int .i64 0, .int .i64 0], .box b 27 [.int .i64 0, .int .u8 0, .slice none 0 0], .row (.slice sa1 sn1 sc1) 27 3 (Kids_.map eTree)] [] N') (fun N8 hN8 => ?_) ?_
                  · refine c_region ?_
                    refine o_v (v_move rfl) rfl ?_
                    refine o_v (v_bin rfl rfl rfl) rfl ?_
                    refine o_v (v_move rfl) rfl ?_
                    refine o_split (t := 93) rfl (fun h19 => ?_) (fun h19 => ?_)
                    · replace hL5 := ite_t h19 hL5
                      refine o_on rfl rfl ?_
                      refine o_v (v_move rfl) rfl ?_
                      refine o_on rfl rfl ?_
                      refine o_v (v_bin rfl rfl rfl) rfl ?_
                      refine o_on rfl rfl ?_
                      refine o_v (v_move rfl) rfl ?_
                      refine o_on rfl rfl ?_
                      refine o_v (v_len_str Tryd.underlying9 rfl) rfl ?_
                      refine o_on rfl rfl ?_
                      refine o_v (v_bin rfl rfl rfl) rfl ?_
                      refine o_v (v_pick_t rfl rfl) rfl ?_
                      refine o_v (v_move rfl) rfl ?_
                      refine o_split (t := 100) rfl (fun h20 => ?_) (fun h20 => ?_)
                      · replace hL5 := ite_t h20 hL5
                        refine o_on rfl rfl ?_
                        refine o_v (v_move rfl) rfl ?_
                        refine o_on rfl rfl ?_
                        refine o_v (v_move rfl) rfl ?_
                        refine o_on rfl rfl ?_
                        refine o_v (v_bin rfl rfl rfl) rfl ?_
                        refine o_on rfl rfl ?_
                        refine ite_some hL5 fun h21 hL5 => ?_
                        refine o_v (v_sindex Tryd.underlying9 rfl rfl h21) rfl ?_
                        refine o_on rfl rfl ?_
                        refine o_v (v_bin rfl rfl rfl) rfl ?_
                        refine o_v (v_pick_t rfl rfl) rfl ?_
                        refine o_nil ?_
                        refine s_st ?_ (hN8 ((sAt s (IntKind.wrap .i64 (i1 + 1))) == 41) hL5)
                        exact st_le [0, 0, 0, 0] (le_cons rfl (le_cons rfl (le_cons rfl (le_cons rfl (le_cons rfl (le_cons rfl (le_cons rfl (le_cons rfl (le_cons rfl (le_cons rfl (le_cons rfl (le_cons rfl (le_cons rfl (le_cons rfl le_nil)))))))))))))) rfl sub_nil
                      · replace hL5 := ite_f h20 hL5
                        refine o_off rfl rfl (by decide) rfl ?_
                        refine o_off rfl rfl (by decide) rfl ?_
                        refine o_off rfl rfl (by decide) rfl ?_
                        refine o_off rfl rfl (by decide) rfl ?_
                        refine o_off rfl rfl (by decide) rfl ?_
                        refine o_v (v_pick_f rfl rfl) rfl ?_
                        refine o_nil ?_
                        refine s_st ?_ (hN8 false hL5)
                        exact st_le [0, 0, 0, 0] (le_cons rfl (le_cons rfl (le_cons rfl (le_cons rfl (le_cons rfl (le_cons rfl (le_cons rfl (le_cons rfl (le_cons rfl (le_cons rfl (le_cons rfl (le_cons rfl (le_cons rfl (le_cons rfl le_nil)))))))))))))) rfl sub_nil
                    · replace hL5 := ite_f h19 hL5
                      refine o_off rfl rfl (by decide) rfl ?_
                      refine o_off rfl rfl (by decide) rfl ?_
                      refine o_off rfl rfl (by decide) rfl ?_
                      refine o_off rfl rfl (by decide) rfl ?_
                      refine o_off rfl rfl (by decide) rfl ?_
                      refine o_v (v_pick_f rfl rfl) rfl ?_
                      refine o_v (v_move rfl) rfl ?_
                      refine o_off rfl rfl (by decide) rfl ?_
                      refine o_off rfl rfl (by decide) rfl ?_
                      refine o_off rfl rfl (by decide) rfl ?_
                      refine o_off rfl rfl (by decide) rfl ?_
                      refine o_off rfl rfl (by decide) rfl ?_
                      refine o_v (v_pick_f rfl rfl) rfl ?_
                      refine o_nil ?_
                      refine s_st ?_ (hN8 false hL5)
                      exact st_le [0, 0, 0, 0] (le_cons rfl (le_cons rfl (le_cons rfl (le_cons rfl (le_cons rfl (le_cons rfl (le_cons rfl (le_cons rfl (le_cons rfl (le_cons rfl (le_cons rfl (le_cons rfl (le_cons rfl (le_cons rfl le_nil)))))))))))))) rfl sub_nil
                  · intro t1061 hL5
                    unfold F.ref09.node_j8 at hL5
                    refine sat_wc ?_
                    refine c_cond rfl (fun h14 => ?_) (fun h14 => ?_)
                    · replace hL5 := ite_t h14 hL5
                      refine c_seq ?_
                      refine c_region ?_
                      refine o_v (v_load_box 0 ty27 rfl rfl rfl rfl rfl) rfl ?_
                      refine o_v (v_move rfl) rfl ?_
                      refine o_v (v_bin rfl rfl rfl) rfl ?_
                      refine o_v (v_build (v := .agg #[.int .i64 0, .int .i64 0]) rfl (fun _ => by kernel_rfl)) rfl ?_
                      refine o_store_box 2 rfl ty27 rfl rfl rfl rfl rfl rfl rfl ?_
                      refine o_v (v_assign rfl) rfl ?_
                      refine o_store_box 1 rfl ty39 rfl rfl rfl rfl rfl rfl rfl ?_
                      refine o_seq ?_
                      refine c_ret ?_
                      cases hL5
                      obtain rfl := lrf_ret hF
                      refine s_st (st_freeze 3 rfl) ?_
                      refine s_ret3 rfl (r_cell 2 rfl ty27 rfl rfl rfl rfl) (r_tmp rfl) (r_cell 1 rfl ty39 rfl rfl rfl rfl) fun a w hs => ?_
                      exact fin_sel hs [] ⟨sa1, sn1, sc1, rfl, rfl, rfl⟩ rfl (sub_cons 0 rfl sub_nil)
                    · replace hL5 := ite_f h14 hL5
                      refine c_skip ?_
                      refine sat_wc ?_
                      refine c_seq ?_
                      refine c_region ?_
                      refine o_v (v_move rfl) rfl ?_
                      refine o_v (v_move rfl) rfl ?_
                      refine o_v (v_bin rfl rfl rfl) rfl ?_
                      refine o_v (v_move rfl) rfl ?_
                      refine o_v (v_bin rfl rfl rfl) rfl ?_
                      obtain ⟨v, h15, hL5⟩ := bd hL5
                      refine o_call0 call53 rfl sub_nil (hg53 s (IntKind.wrap .i64 (i1 + 1)) (IntKind.wrap .i64 (deep + 1)) v h15) rfl ?_
                      rintro _ _ _ ⟨sa4, sn4, sc4, rfl, rfl, rfl⟩
                      refine o_v (v_move rfl) rfl ?_
                      refine o_v (v_extract rfl rfl) rfl ?_
                      refine o_v (v_extract rfl rfl) rfl ?_
                      refine o_v (v_extract rfl rfl) rfl ?_
                      refine o_alloc zero27 rfl rfl fun b5 => ?_
                      refine o_alloc zero39 rfl rfl fun b6 => ?_
                      refine o_store_box 1 rfl ty27 rfl rfl rfl rfl rfl rfl rfl ?_
                      refine o_v (v_assign rfl) rfl ?_
                      refine o_store_box 0 rfl ty39 rfl rfl rfl rfl rfl rfl rfl ?_
                      refine o_seq ?_
                      refine c_seq ?_
                      refine c_seq ?_
                      refine c_region ?_
                      refine o_v (v_fieldAddr (v := .pointer (some ⟨b6, 1, none⟩)) rfl (fun _ => by kernel_rfl)) rfl ?_
                      refine o_v (v_load_box 0 ty32 rfl rfl rfl rfl rfl) rfl ?_
                      refine o_v (v_bin rfl rfl rfl) rfl ?_
                      refine o_seq ?_
                      refine c_cond rfl (fun h16 => ?_) (fun h16 => ?_)
                      · replace hL5 := ite_t h16 hL5
                        refine c_seq ?_
                        refine c_draw (n := 5) [0, 0, 0, 2] mixed rfl rfl ?_
                        refine d_val 0 rfl pnok (by kernel_rfl) (by kernel_rfl) (by kernel_rfl) rfl (v_build (v := .agg #[.int .i64 0, .int .u8 0, .slice none 0 0]) rfl (fun _ => by kernel_rfl)) ?_
                        refine d_val 1 rfl pnok (by kernel_rfl) (by kernel_rfl) (by kernel_rfl) rfl (v_load_box 0 ty39 rfl rfl rfl rfl rfl) ?_
                        refine d_one 2 rfl (by kernel_rfl) ?_
                        refine o_store_box 4 rfl ty27 rfl rfl rfl rfl rfl rfl rfl ?_
                        refine d_next [0, 0, 0, 2] 0 rfl rfl ?_
                        refine d_val 3 rfl pnok (by kernel_rfl) (by kernel_rfl) (by kernel_rfl) rfl (v_assign rfl) ?_
                        refine d_one 4 rfl (by kernel_rfl) ?_
                        refine o_store_box 3 rfl ty39 rfl rfl rfl rfl rfl rfl rfl ?_
                        refine d_next [0, 0, 0, 2] 0 rfl rfl ?_
                        refine d_done_seq (by kernel_rfl) ?_
                        refine c_ret ?_
                        cases hL5
                        obtain rfl := lrf_ret hF
                        refine s_st (st_nilfact 3) ?_
                        refine s_ret3 rfl (r_cell 4 rfl ty27 rfl rfl rfl rfl) (r_tmp rfl) (r_cell 3 rfl ty39 rfl rfl rfl rfl) fun a w hs => ?_
                        exact fin_sel hs [] ⟨none, 0, 0, rfl, rfl, rfl⟩ rfl (sub_cons 0 rfl sub_nil)
                      · replace hL5 := ite_f h16 hL5
                        refine c_skip ?_
                        refine sat_wc ?_
                        refine c_seq ?_
                        refine c_region ?_
                        refine o_v (v_fieldAddr (v := .pointer (some ⟨b2, 2, none⟩)) rfl (fun _ => by kernel_rfl)) rfl ?_
                        refine o_v (v_load_box 2 ty25 rfl rfl rfl rfl rfl) rfl ?_
                        refine o_v (v_load_box 1 ty27 rfl rfl rfl rfl rfl) rfl ?_
                        refine o_buildSlice (enc := eTree) ([v.1] : List Tree) [.int .i64 v.1.Rule, .int .u8 v.1.Byte, .slice sa4 sn4 sc4] sl25 rfl (fun _ => by kernel_rfl) rfl rfl (by simp only [List.map, List.all, eTree_eq] <;> rfl) (cp_of (ds := [.int .i64 v.1.Rule, .int .u8 v.1.Byte, .slice 3 (v.1.Kids.map eTree)]) (by simp only [List.map, List.flatten, eTree_eq] <;> rfl) (.s rfl (.s rfl (.f 0 rfl (.nil))))) rfl fun sa5 sn5 sc5 => ?_
                        refine ite_some hL5 fun h17 hL5 => ?_
                        refine ite_some hL5 fun h18 hL5 => ?_
                        refine o_append (enc := eTree) (xs := Kids_) (ys := ([v.1] : List Tree)) 6 sl25 rfl rfl rfl (.r 0 _ rfl) h17 h18 rfl fun sa6 sn6 sc6 => ?_
                        refine o_v (v_fieldAddr (v := .pointer (some ⟨b2, 2, none⟩)) rfl (fun _ => by kernel_rfl)) rfl ?_
                        refine o_store_box 3 rfl ty25 rfl rfl rfl rfl rfl rfl rfl ?_
                        refine o_seq ?_
                        refine c_region ?_
                        refine o_v (v_move rfl) rfl ?_
                        refine o_v (v_assign rfl) rfl ?_
                        refine o_v (v_assign rfl) rfl ?_
                        refine o_nil ?_
                        refine s_st ?_ (hN6 v.2.1 v.1.Rule v.1.Byte v.1.Kids v.2.1 v.2.2.At v.2.2.Code t781 t1061 (v.2.2.Code != 0) (Kids_ ++ ([v.1] : List Tree)) sa4 sn4 sc4 sa6 sn6 sc6 b5 b6 hL5)
                        exact st_le [3, 3, 3, 2, 1, 1] (le_cons rfl (le_cons rfl (le_cons rfl (le_cons rfl (le_cons rfl (le_cons rfl (le_cons rfl (le_cons rfl (le_cons rfl (le_cons rfl (le_cons rfl (le_cons rfl (le_cons rfl (le_cons rfl (le_cons rfl (le_cons rfl (le_cons rfl (le_cons rfl le_nil)))))))))))))))))) rfl (sub_cons 0 rfl sub_nil)
        · intro i2 Rule_ Byte_ Kids_1 end_ At_ Code_ t78 t106 t123 Kids_2 sa2 sn2 sc2 sa3 sn3 sc3 b3 b4 hL5
          unfold F.ref09.node_j6 at hL5
          intro a w hs
          exact ⟨j, Nat.lt_succ_self j, i2, 32, Kids_2, sa3, sn3, sc3, hL5, st_le [0, 0, 0, 2] (le_cons rfl (le_cons rfl (le_cons rfl (le_cons rfl (le_cons rfl (le_cons rfl (le_cons rfl (le_cons rfl (le_cons rfl (le_cons rfl le_nil)))))))))) rfl sub_nil a w hs⟩
theorem tri53_G (k : Nat) : (∀ (s : List UInt8) (at__ : Int) (deep : Int) (r : Tree × Int × Fault), F.ref09.one k s at__ deep = some r → Tri Tryd.prog 53 [.string (bs s), .int .i64 at__, .int .i64 deep] [] [] (fun o H Φ => ∃ (sa2 : Option Addr) (sn2 sc2 : Nat), o = .ret (.tuple #[.agg #[.int .i64 r.1.Rule, .int .u8 r.1.Byte, .slice sa2 sn2 sc2], .int .i64 r.2.1, .agg #[.int .i64 r.2.2.At, .int .i64 r.2.2.Code]]) ∧ H = [] ∧ Φ = [(.slice sa2 sn2 sc2, .slice 3 (r.1.Kids.map eTree))])) ∧ (∀ (s : List UInt8) (at__ : Int) (deep : Int) (r : Tree × Int × Fault), F.ref09.node k s at__ deep = some r → Tri Tryd.prog 70 [.string (bs s), .int .i64 at__, .int .i64 deep] [] [] (fun o H Φ => ∃ (sa7 : Option Addr) (sn7 sc7 : Nat), o = .ret (.tuple #[.agg #[.int .i64 r.1.Rule, .int .u8 r.1.Byte, .slice sa7 sn7 sc7], .int .i64 r.2.1, .agg #[.int .i64 r.2.2.At, .int .i64 r.2.2.Code]]) ∧ H = [] ∧ Φ = [(.slice sa7 sn7 sc7, .slice 3 (r.1.Kids.map eTree))])) := by
  induction k with
  | zero => exact ⟨(fun _ _ _ _ h => nomatch (show none = some _ from h)), (fun _ _ _ _ h => nomatch (show none = some _ from h))⟩
  | succ k ih => exact ⟨tri53_B k _ ih.2, tri70_B k _ ih.1⟩
theorem tri53 (k : Nat) (s : List UInt8) (at__ : Int) (deep : Int) (r : Tree × Int × Fault) (hF : F.ref09.one k s at__ deep = some r) :
    Tri Tryd.prog 53 [.string (bs s), .int .i64 at__, .int .i64 deep] [] [] (fun o H Φ => ∃ (sa2 : Option Addr) (sn2 sc2 : Nat), o = .ret (.tuple #[.agg #[.int .i64 r.1.Rule, .int .u8 r.1.Byte, .slice sa2 sn2 sc2], .int .i64 r.2.1, .agg #[.int .i64 r.2.2.At, .int .i64 r.2.2.Code]]) ∧ H = [] ∧ Φ = [(.slice sa2 sn2 sc2, .slice 3 (r.1.Kids.map eTree))]) := (tri53_G k).1 s at__ deep r hF
theorem tri70 (k : Nat) (s : List UInt8) (at__ : Int) (deep : Int) (r : Tree × Int × Fault) (hF : F.ref09.node k s at__ deep = some r) :
    Tri Tryd.prog 70 [.string (bs s), .int .i64 at__, .int .i64 deep] [] [] (fun o H Φ => ∃ (sa7 : Option Addr) (sn7 sc7 : Nat), o = .ret (.tuple #[.agg #[.int .i64 r.1.Rule, .int .u8 r.1.Byte, .slice sa7 sn7 sc7], .int .i64 r.2.1, .agg #[.int .i64 r.2.2.At, .int .i64 r.2.2.Code]]) ∧ H = [] ∧ Φ = [(.slice sa7 sn7 sc7, .slice 3 (r.1.Kids.map eTree))]) := (tri53_G k).2 s at__ deep r hF
theorem tri23 (k : Nat) (s : List UInt8) (r : Tree × Fault) (hF : F.ref09.Parse k s = some r) :
    Tri Tryd.prog 23 [.string (bs s)] [] [] (fun o H Φ => ∃ (sa2 : Option Addr) (sn2 sc2 : Nat), o = .ret (.tuple #[.agg #[.int .i64 r.1.Rule, .int .u8 r.1.Byte, .slice sa2 sn2 sc2], .agg #[.int .i64 r.2.At, .int .i64 r.2.Code]]) ∧ H = [] ∧ Φ = [(.slice sa2 sn2 sc2, .slice 3 (r.1.Kids.map eTree))]) := by
  unfold F.ref09.Parse at hF
  refine tri_intro (n := 32) Tryd.func23 rfl Tryd.ntmps23 rfl fun w X => ?_
  refine c_seq ?_
  refine c_region ?_
  refine o_alloc zero27 rfl rfl fun b => ?_
  refine o_alloc zero39 rfl rfl fun b1 => ?_
  refine o_seq ?_
  refine c_seq ?_
  refine c_seq ?_
  refine c_region ?_
  refine o_v (v_move rfl) rfl ?_
  refine o_v (v_len_str Tryd.underlying9 rfl) rfl ?_
  refine o_v (v_bin rfl rfl rfl) rfl ?_
  refine o_seq ?_
  refine c_cond rfl (fun h1 => ?_) (fun h1 => ?_)
  · replace hF := ite_t h1 hF
    refine c_seq ?_
    refine c_region ?_
    refine o_v (v_build (v := .agg #[.int .i64 0, .int .u8 0, .slice none 0 0]) rfl (fun _ => by kernel_rfl)) rfl ?_
    refine o_v (v_build (v := .agg #[.int .i64 0, .int .i64 2]) rfl (fun _ => by kernel_rfl)) rfl ?_
    refine o_store_box 1 rfl ty27 rfl rfl rfl rfl rfl rfl rfl ?_
    refine o_store_box 0 rfl ty39 rfl rfl rfl rfl rfl rfl rfl ?_
    refine o_seq ?_
    refine c_ret ?_
    cases hF
    refine s_st (st_nilfact 3) ?_
    refine s_ret2 rfl (r_cell 1 rfl ty27 rfl rfl rfl rfl) (r_cell 0 rfl ty39 rfl rfl rfl rfl) fun a w hs => ?_
    exact fin_sel hs [] ⟨none, 0, 0, rfl, rfl, rfl⟩ rfl (sub_cons 0 rfl sub_nil)
  · replace hF := ite_f h1 hF
    refine c_skip ?_
    refine sat_wc ?_
    refine c_seq ?_
    refine c_region ?_
    refine o_v (v_move rfl) rfl ?_
    obtain ⟨v, h2, hF⟩ := bd hF
    refine o_call0 call53 rfl sub_nil (tri53 k s 0 1 v h2) rfl ?_
    rintro _ _ _ ⟨sa1, sn1, sc1, rfl, rfl, rfl⟩
    refine o_v (v_move rfl) rfl ?_
    refine o_v (v_extract rfl rfl) rfl ?_
    refine o_v (v_extract rfl rfl) rfl ?_
    refine o_v (v_extract rfl rfl) rfl ?_
    refine o_alloc zero27 rfl rfl fun b2 => ?_
    refine o_alloc zero39 rfl rfl fun b3 => ?_
    refine o_store_box 1 rfl ty27 rfl rfl rfl rfl rfl rfl rfl ?_
    refine o_v (v_assign rfl) rfl ?_
    refine o_store_box 0 rfl ty39 rfl rfl rfl rfl rfl rfl rfl ?_
    refine o_seq ?_
    refine c_seq ?_
    refine c_seq ?_
    refine c_region ?_
    refine o_v (v_fieldAddr (v := .pointer (some ⟨b3, 1, none⟩)) rfl (fun _ => by kernel_rfl)) rfl ?_
    refine o_v (v_load_box 0 ty32 rfl rfl rfl rfl rfl) rfl ?_
    refine o_v (v_bin rfl rfl rfl) rfl ?_
    refine o_seq ?_
    refine c_cond rfl (fun h3 => ?_) (fun h3 => ?_)
    · replace hF := ite_t h3 hF
      refine c_seq ?_
      refine c_draw (n := 4) [0, 0] mixed rfl rfl ?_
      refine d_val 0 rfl pnok (by kernel_rfl) (by kernel_rfl) (by kernel_rfl) rfl (v_build (v := .agg #[.int .i64 0, .int .u8 0, .slice none 0 0]) rfl (fun _ => by kernel_rfl)) ?_
      refine d_val 1 rfl pnok (by kernel_rfl) (by kernel_rfl) (by kernel_rfl) rfl (v_load_box 0 ty39 rfl rfl rfl rfl rfl) ?_
      refine d_one 2 rfl (by kernel_rfl) ?_
      refine o_store_box 3 rfl ty27 rfl rfl rfl rfl rfl rfl rfl ?_
      refine d_next [0, 0] 0 rfl rfl ?_
      refine d_one 3 rfl (by kernel_rfl) ?_
      refine o_store_box 2 rfl ty39 rfl rfl rfl rfl rfl rfl rfl ?_
      refine d_next [0, 0] 0 rfl rfl ?_
      refine d_done_seq (by kernel_rfl) ?_
      refine c_ret ?_
      cases hF
      refine s_st (st_nilfact 3) ?_
      refine s_ret2 rfl (r_cell 3 rfl ty27 rfl rfl rfl rfl) (r_cell 2 rfl ty39 rfl rfl rfl rfl) fun a w hs => ?_
      exact fin_sel hs [] ⟨none, 0, 0, rfl, rfl, rfl⟩ rfl (sub_cons 0 rfl sub_nil)
    · replace hF := ite_f h3 hF
      refine c_skip ?_
      refine sat_wc ?_
      refine c_seq ?_
      refine c_seq ?_
      refine c_region ?_
      refine o_v (v_move rfl) rfl ?_
      refine o_v (v_move rfl) rfl ?_
      refine o_v (v_len_str Tryd.underlying9 rfl) rfl ?_
      refine o_v (v_bin rfl rfl rfl) rfl ?_
      refine o_seq ?_
      refine c_cond rfl (fun h4 => ?_) (fun h4 => ?_)
      · replace hF := ite_t h4 hF
        refine c_seq ?_
        refine c_region ?_
        refine o_v (v_build (v := .agg #[.int .i64 0, .int .u8 0, .slice none 0 0]) rfl (fun _ => by kernel_rfl)) rfl ?_
        refine o_v (v_move rfl) rfl ?_
        refine o_v (v_build (v := .agg #[.int .i64 v.2.1, .int .i64 15]) rfl (fun _ => by kernel_rfl)) rfl ?_
        refine o_store_box 3 rfl ty27 rfl rfl rfl rfl rfl rfl rfl ?_
        refine o_store_box 2 rfl ty39 rfl rfl rfl rfl rfl rfl rfl ?_
        refine o_seq ?_
        refine c_ret ?_
        cases hF
        refine s_st (st_nilfact 3) ?_
        refine s_ret2 rfl (r_cell 3 rfl ty27 rfl rfl rfl rfl) (r_cell 2 rfl ty39 rfl rfl rfl rfl) fun a w hs => ?_
        exact fin_sel hs [] ⟨none, 0, 0, rfl, rfl, rfl⟩ rfl (sub_cons 0 rfl sub_nil)
      · replace hF := ite_f h4 hF
        refine c_skip ?_
        refine sat_wc ?_
        refine c_seq ?_
        refine c_draw (n := 4) [0, 0] mixed rfl rfl ?_
        refine d_val 0 rfl pnok (by kernel_rfl) (by kernel_rfl) (by kernel_rfl) rfl (v_load_box 1 ty27 rfl rfl rfl rfl rfl) ?_
        refine d_val 1 rfl pnok (by kernel_rfl) (by kernel_rfl) (by kernel_rfl) rfl (v_load_box 0 ty39 rfl rfl rfl rfl rfl) ?_
        refine d_one 2 rfl (by kernel_rfl) ?_
        refine o_store_box 3 rfl ty27 rfl rfl rfl rfl rfl rfl rfl ?_
        refine d_next [0, 0] 0 rfl rfl ?_
        refine d_one 3 rfl (by kernel_rfl) ?_
        refine o_store_box 2 rfl ty39 rfl rfl rfl rfl rfl rfl rfl ?_
        refine d_next [0, 0] 0 rfl rfl ?_
        refine d_done_seq (by kernel_rfl) ?_
        refine c_ret ?_
        cases hF
        refine s_ret2 rfl (r_cell 3 rfl ty27 rfl rfl rfl rfl) (r_cell 2 rfl ty39 rfl rfl rfl rfl) fun a w hs => ?_
        exact fin_sel hs [] ⟨sa1, sn1, sc1, rfl, rfl, rfl⟩ rfl (sub_cons 0 rfl sub_nil)
theorem tri25_B (k : Nat) (g25 : Tree → List Int → Option (Tree × Int))
    (hg25 : ∀ (t : Tree) (path : List Int) (sa1 : Option Addr) (sn1 sc1 : Nat) (sa2 : Option Addr) (sn2 sc2 : Nat) (r : Tree × Int), g25 t path = some r → Tri Tryd.prog 25 [.agg #[.int .i64 t.Rule, .int .u8 t.Byte, .slice sa1 sn1 sc1], .slice sa2 sn2 sc2] [] [(.slice sa1 sn1 sc1, .slice 3 (t.Kids.map eTree)), (.slice sa2 sn2 sc2, .slice 1 (path.map eI64))] (fun o H Φ => ∃ (sa7 : Option Addr) (sn7 sc7 : Nat), o = .ret (.tuple #[.agg #[.int .i64 r.1.Rule, .int .u8 r.1.Byte, .slice sa7 sn7 sc7], .int .i64 r.2]) ∧ H = [] ∧ Φ = [(.slice sa7 sn7 sc7, .slice 3 (r.1.Kids.map eTree))])) (t : Tree) (path : List Int) (sa1 : Option Addr) (sn1 sc1 : Nat) (sa2 : Option Addr) (sn2 sc2 : Nat) (r : Tree × Int) (hF : F.ref09.At_B k g25 t path = some r) :
    Tri Tryd.prog 25 [.agg #[.int .i64 t.Rule, .int .u8 t.Byte, .slice sa1 sn1 sc1], .slice sa2 sn2 sc2] [] [(.slice sa1 sn1 sc1, .slice 3 (t.Kids.map eTree)), (.slice sa2 sn2 sc2, .slice 1 (path.map eI64))] (fun o H Φ => ∃ (sa7 : Option Addr) (sn7 sc7 : Nat), o = .ret (.tuple #[.agg #[.int .i64 r.1.Rule, .int .u8 r.1.Byte, .slice sa7 sn7 sc7], .int .i64 r.2]) ∧ H = [] ∧ Φ = [(.slice sa7 sn7 sc7, .slice 3 (r.1.Kids.map eTree))]) := by
  unfold F.ref09.At_B at hF
  refine tri_intro (n := 37) Tryd.func25 rfl Tryd.ntmps25 rfl fun w X => ?_
  refine c_seq ?_
  refine c_region ?_
  refine o_box rfl rfl rfl fun b => ?_
  refine o_alloc zero27 rfl rfl fun b1 => ?_
  refine o_v (v_assign rfl) rfl ?_
  refine o_seq ?_
  refine c_seq ?_
  refine c_seq ?_
  refine c_region ?_
  refine o_v (v_move rfl) rfl ?_
  refine o_v (v_lenS (enc := eI64) path sl44 rfl (.f 1 rfl)) rfl ?_
  refine o_v (v_bin rfl rfl rfl) rfl ?_
  refine o_seq ?_
  refine c_cond rfl (fun h1 => ?_) (fun h1 => ?_)
  · replace hF := ite_t h1 hF
    refine c_seq ?_
    refine c_region ?_
    refine o_v (v_load_box 1 ty27 rfl rfl rfl rfl rfl) rfl ?_
    obtain ⟨v, h2, hF⟩ := bd hF
    refine o_call0 call16 rfl (sub_cons 0 rfl sub_nil) (tri16 k t sa1 sn1 sc1 v h2) rfl ?_
    rintro _ _ _ ⟨sa3, sn3, sc3, rfl, rfl, rfl⟩
    refine o_store_box 0 rfl ty27 rfl rfl rfl rfl rfl rfl rfl ?_
    refine o_v (v_assign rfl) rfl ?_
    refine o_seq ?_
    refine c_ret ?_
    cases hF
    refine s_ret2 rfl (r_cell 0 rfl ty27 rfl rfl rfl rfl) (r_tmp rfl) fun a w hs => ?_
    exact fin_sel hs [] ⟨sa3, sn3, sc3, rfl, rfl, rfl⟩ rfl (sub_cons 0 rfl sub_nil)
  · replace hF := ite_f h1 hF
    refine c_skip ?_
    refine sat_wc ?_
    refine c_seq ?_
    refine c_seq ?_
    refine c_cut (fun E N' => ∀ (t23 : Bool), F.ref09.At_j1 path t g25 t23 = some r → Sat E [(0, .agg #[.int .i64 t.Rule, .int .u8 t.Byte, .slice sa1 sn1 sc1]), (1, .slice sa2 sn2 sc2), (2, .pointer (some ⟨b, 0, none⟩)), (4, .pointer (some ⟨b1, 0, none⟩)), (5, .int .i64 0), (8, .bool ((path.length : Int) == 0)), (23, .bool t23)] [.box b1 27 [.int .i64 0, .int .u8 0, .slice none 0 0], .box b 27 [.int .i64 t.Rule, .int .u8 t.Byte, .slice sa1 sn1 sc1]] [(.slice sa1 sn1 sc1, .slice 3 (t.Kids.map eTree)), (.slice sa2 sn2 sc2, .slice 1 (path.map eI64))] N') (fun N1 hN1 => ?_) ?_
    · refine c_draw (n := 13) [0, 0] mixed rfl rfl ?_
      refine d_val 0 rfl pnok (by kernel_rfl) (by kernel_rfl) (by kernel_rfl) rfl (v_move rfl) ?_
      refine ite_some hF fun h8 hF => ?_
      refine d_val 1 rfl pnok (by kernel_rfl) (by kernel_rfl) (by kernel_rfl) rfl (v_indexAddr_s (xs := path) (enc := eI64) sl44 rfl rfl (.f 1 rfl) h8) ?_
      refine d_val 2 rfl pnok (by kernel_rfl) (by kernel_rfl) (by kernel_rfl) rfl (v_load_s (xs := path) (enc := eI64) ty3 rfl (.f 1 rfl) h8 rfl rfl rfl rfl rfl rfl rfl) ?_
      refine d_val 3 rfl pnok (by kernel_rfl) (by kernel_rfl) (by kernel_rfl) rfl (v_bin rfl rfl rfl) ?_
      refine d_val 4 rfl pnok (by kernel_rfl) (by kernel_rfl) (by kernel_rfl) rfl (v_move rfl) ?_
      refine d_split (t := 15) rfl (fun h9 => ?_) (fun h9 => ?_)
      · replace hF := ite_t h9 hF
        refine d_off 5 rfl rfl rfl (by decide) pnok (by kernel_rfl) (by kernel_rfl) (by kernel_rfl) rfl ?_
        refine d_off 6 rfl rfl rfl (by decide) pnok (by kernel_rfl) (by kernel_rfl) (by kernel_rfl) rfl ?_
        refine d_off 7 rfl rfl rfl (by decide) pnok (by kernel_rfl) (by kernel_rfl) (by kernel_rfl) rfl ?_
        refine d_off 8 rfl rfl rfl (by decide) pnok (by kernel_rfl) (by kernel_rfl) (by kernel_rfl) rfl ?_
        refine d_off 9 rfl rfl rfl (by decide) pnok (by kernel_rfl) (by kernel_rfl) (by kernel_rfl) rfl ?_
        refine d_off 10 rfl rfl rfl (by decide) pnok (by kernel_rfl) (by kernel_rfl) (by kernel_rfl) rfl ?_
        refine d_off 11 rfl rfl rfl (by decide) pnok (by kernel_rfl) (by kernel_rfl) (by kernel_rfl) rfl ?_
        refine d_val 12 rfl pnok (by kernel_rfl) (by kernel_rfl) (by kernel_rfl) rfl (v_pick_t rfl rfl) ?_
        refine d_done (by kernel_rfl) ?_
        refine s_st ?_ (hN1 true hF)
        exact st_le [0, 0] (le_cons rfl (le_cons rfl (le_cons rfl (le_cons rfl (le_cons rfl (le_cons rfl (le_cons rfl le_nil))))))) rfl (sub_cons 0 rfl (sub_cons 1 rfl sub_nil))
      · replace hF := ite_f h9 hF
        refine d_val_on 5 rfl rfl rfl pnok (by kernel_rfl) (by kernel_rfl) (by kernel_rfl) rfl (v_move rfl) ?_
        refine d_val_on 6 rfl rfl rfl pnok (by kernel_rfl) (by kernel_rfl) (by kernel_rfl) rfl (v_indexAddr_s (xs := path) (enc := eI64) sl44 rfl rfl (.f 1 rfl) h8) ?_
        refine d_val_on 7 rfl rfl rfl pnok (by kernel_rfl) (by kernel_rfl) (by kernel_rfl) rfl (v_load_s (xs := path) (enc := eI64) ty3 rfl (.f 1 rfl) h8 rfl rfl rfl rfl rfl rfl rfl) ?_
        refine d_val_on 8 rfl rfl rfl pnok (by kernel_rfl) (by kernel_rfl) (by kernel_rfl) rfl (v_fieldAddr (v := .pointer (some ⟨b, 2, none⟩)) rfl (fun _ => by kernel_rfl)) ?_
        refine d_val_on 9 rfl rfl rfl pnok (by kernel_rfl) (by kernel_rfl) (by kernel_rfl) rfl (v_load_box 1 ty25 rfl rfl rfl rfl rfl) ?_
        refine d_val_on 10 rfl rfl rfl pnok (by kernel_rfl) (by kernel_rfl) (by kernel_rfl) rfl (v_lenS (enc := eTree) t.Kids sl25 rfl (.f 0 rfl)) ?_
        refine d_val_on 11 rfl rfl rfl pnok (by kernel_rfl) (by kernel_rfl) (by kernel_rfl) rfl (v_bin rfl rfl rfl) ?_
        refine d_val 12 rfl pnok (by kernel_rfl) (by kernel_rfl) (by kernel_rfl) rfl (v_pick_f rfl rfl) ?_
        refine d_done (by kernel_rfl) ?_
        refine s_st ?_ (hN1 (decide ((t.Kids.length : Int) ≤ (at_ path 0))) hF)
        exact st_le [0, 0] (le_cons rfl (le_cons rfl (le_cons rfl (le_cons rfl (le_cons rfl (le_cons rfl (le_cons rfl le_nil))))))) rfl (sub_cons 0 rfl (sub_cons 1 rfl sub_nil))
    · intro t23 hF
      unfold F.ref09.At_j1 at hF
      refine sat_wc ?_
      refine c_cond rfl (fun h3 => ?_) (fun h3 => ?_)
      · replace hF := ite_t h3 hF
        refine c_seq ?_
        refine c_region ?_
        refine o_v (v_build (v := .agg #[.int .i64 0, .int .u8 0, .slice none 0 0]) rfl (fun _ => by kernel_rfl)) rfl ?_
        refine o_store_box 0 rfl ty27 rfl rfl rfl rfl rfl rfl rfl ?_
        refine o_v (v_assign rfl) rfl ?_
        refine o_seq ?_
        refine c_ret ?_
        cases hF
        refine s_st (st_nilfact 3) ?_
        refine s_ret2 rfl (r_cell 0 rfl ty27 rfl rfl rfl rfl) (r_tmp rfl) fun a w hs => ?_
        exact fin_sel hs [] ⟨none, 0, 0, rfl, rfl, rfl⟩ rfl (sub_cons 0 rfl sub_nil)
      · replace hF := ite_f h3 hF
        refine c_skip ?_
        refine sat_wc ?_
        refine c_seq ?_
        refine c_draw (n := 14) [1] mixed rfl rfl ?_
        refine d_val 0 rfl pnok (by kernel_rfl) (by kernel_rfl) (by kernel_rfl) rfl (v_fieldAddr (v := .pointer (some ⟨b, 2, none⟩)) rfl (fun _ => by kernel_rfl)) ?_
        refine d_val 1 rfl pnok (by kernel_rfl) (by kernel_rfl) (by kernel_rfl) rfl (v_load_box 0 ty25 rfl rfl rfl rfl rfl) ?_
        refine d_val 2 rfl pnok (by kernel_rfl) (by kernel_rfl) (by kernel_rfl) rfl (v_move rfl) ?_
        refine ite_some hF fun h4 hF => ?_
        refine d_val 3 rfl pnok (by kernel_rfl) (by kernel_rfl) (by kernel_rfl) rfl (v_indexAddr_s (xs := path) (enc := eI64) sl44 rfl rfl (.f 1 rfl) h4) ?_
        refine d_val 4 rfl pnok (by kernel_rfl) (by kernel_rfl) (by kernel_rfl) rfl (v_load_s (xs := path) (enc := eI64) ty3 rfl (.f 1 rfl) h4 rfl rfl rfl rfl rfl rfl rfl) ?_
        refine ite_some hF fun h5 hF => ?_
        refine d_val 5 rfl pnok (by kernel_rfl) (by kernel_rfl) (by kernel_rfl) rfl (v_indexAddr_s (xs := t.Kids) (enc := eTree) sl25 rfl rfl (.f 0 rfl) h5) ?_
        refine d_val 7 rfl pnok (by kernel_rfl) (by kernel_rfl) (by kernel_rfl) rfl (v_move rfl) ?_
        obtain ⟨v1, h6, hF⟩ := bd hF
        refine d_all [6, 8] (by kernel_rfl) (by simp) ⟨⟨_, rfl, ?_⟩, ⟨_, rfl, ?_⟩, trivial⟩
        · refine o_load_s (ds := [.int .i64 ((at_ t.Kids (at_ path 0)).Rule), .int .u8 ((at_ t.Kids (at_ path 0)).Byte), .slice 3 (((at_ t.Kids (at_ path 0)).Kids).map eTree)]) (xs := t.Kids) (enc := eTree) ty27 rfl (.f 0 rfl) h5 (by simp only [eTree_eq] <;> rfl) rfl rfl rfl rfl rfl fun sa4 sn4 sc4 => ?_
          refine d_next [1] 1 rfl rfl ?_
          refine d_one 8 rfl (by kernel_rfl) ?_
          refine ite_some hF fun h7 hF => ?_
          refine o_cutS (enc := eI64) (xs := path) 2 sl44 rfl rfl rfl rfl rfl rfl h7 rfl fun sa5 sn5 sc5 => ?_
          refine d_next [1] 2 rfl rfl ?_
          refine d_one 9 rfl (by kernel_rfl) ?_
          refine o_call0 call25 rfl (sub_cons 1 rfl (sub_cons 0 rfl sub_nil)) (hg25 (at_ t.Kids (at_ path 0)) (sub path 1 (path.length : Int)) sa4 sn4 sc4 sa5 sn5 sc5 v1 h6) rfl ?_
          rintro _ _ _ ⟨sa6, sn6, sc6, rfl, rfl, rfl⟩
          refine d_next [1] 3 rfl rfl ?_
          refine d_val 10 rfl pnok (by kernel_rfl) (by kernel_rfl) (by kernel_rfl) rfl (v_extract rfl rfl) ?_
          refine d_val 11 rfl pnok (by kernel_rfl) (by kernel_rfl) (by kernel_rfl) rfl (v_extract rfl rfl) ?_
          refine d_one 12 rfl (by kernel_rfl) ?_
          refine o_store_box 0 rfl ty27 rfl rfl rfl rfl rfl rfl rfl ?_
          refine d_next [1] 3 rfl rfl ?_
          refine d_val 13 rfl pnok (by kernel_rfl) (by kernel_rfl) (by kernel_rfl) rfl (v_assign rfl) ?_
          refine d_done_seq (by kernel_rfl) ?_
          refine c_ret ?_
          cases hF
          refine s_ret2 rfl (r_cell 0 rfl ty27 rfl rfl rfl rfl) (r_tmp rfl) fun a w hs => ?_
          exact fin_sel hs [] ⟨sa6, sn6, sc6, rfl, rfl, rfl⟩ rfl (sub_cons 0 rfl sub_nil)
        · refine ite_some hF fun h7 hF => ?_
          refine o_cutS (enc := eI64) (xs := path) 1 sl44 rfl rfl rfl rfl rfl rfl h7 rfl fun sa4 sn4 sc4 => ?_
          refine d_next [1] 1 rfl rfl ?_
          refine d_one 6 rfl (by kernel_rfl) ?_
          refine o_load_s (ds := [.int .i64 ((at_ t.Kids (at_ path 0)).Rule), .int .u8 ((at_ t.Kids (at_ path 0)).Byte), .slice 3 (((at_ t.Kids (at_ path 0)).Kids).map eTree)]) (xs := t.Kids) (enc := eTree) ty27 rfl (.f 1 rfl) h5 (by simp only [eTree_eq] <;> rfl) rfl rfl rfl rfl rfl fun sa5 sn5 sc5 => ?_
          refine d_next [1] 2 rfl rfl ?_
          refine d_one 9 rfl (by kernel_rfl) ?_
          refine o_call0 call25 rfl (sub_cons 0 rfl (sub_cons 1 rfl sub_nil)) (hg25 (at_ t.Kids (at_ path 0)) (sub path 1 (path.length : Int)) sa5 sn5 sc5 sa4 sn4 sc4 v1 h6) rfl ?_
          rintro _ _ _ ⟨sa6, sn6, sc6, rfl, rfl, rfl⟩
          refine d_next [1] 3 rfl rfl ?_
          refine d_val 10 rfl pnok (by kernel_rfl) (by kernel_rfl) (by kernel_rfl) rfl (v_extract rfl rfl) ?_
          refine d_val 11 rfl pnok (by kernel_rfl) (by kernel_rfl) (by kernel_rfl) rfl (v_extract rfl rfl) ?_
          refine d_one 12 rfl (by kernel_rfl) ?_
          refine o_store_box 0 rfl ty27 rfl rfl rfl rfl rfl rfl rfl ?_
          refine d_next [1] 3 rfl rfl ?_
          refine d_val 13 rfl pnok (by kernel_rfl) (by kernel_rfl) (by kernel_rfl) rfl (v_assign rfl) ?_
          refine d_done_seq (by kernel_rfl) ?_
          refine c_ret ?_
          cases hF
          refine s_ret2 rfl (r_cell 0 rfl ty27 rfl rfl rfl rfl) (r_tmp rfl) fun a w hs => ?_
          exact fin_sel hs [] ⟨sa6, sn6, sc6, rfl, rfl, rfl⟩ rfl (sub_cons 0 rfl sub_nil)
theorem tri25 (k : Nat) : (∀ (t : Tree) (path : List Int) (sa1 : Option Addr) (sn1 sc1 : Nat) (sa2 : Option Addr) (sn2 sc2 : Nat) (r : Tree × Int), F.ref09.At k t path = some r → Tri Tryd.prog 25 [.agg #[.int .i64 t.Rule, .int .u8 t.Byte, .slice sa1 sn1 sc1], .slice sa2 sn2 sc2] [] [(.slice sa1 sn1 sc1, .slice 3 (t.Kids.map eTree)), (.slice sa2 sn2 sc2, .slice 1 (path.map eI64))] (fun o H Φ => ∃ (sa7 : Option Addr) (sn7 sc7 : Nat), o = .ret (.tuple #[.agg #[.int .i64 r.1.Rule, .int .u8 r.1.Byte, .slice sa7 sn7 sc7], .int .i64 r.2]) ∧ H = [] ∧ Φ = [(.slice sa7 sn7 sc7, .slice 3 (r.1.Kids.map eTree))])) := by
  induction k with
  | zero => exact fun _ _ _ _ _ _ _ _ _ h => nomatch (show none = some _ from h)
  | succ k ih => exact tri25_B k _ ih
theorem tri27_B (k : Nat) (g27 : Tree → List Int → Tree → Option (Tree × Int))
    (hg27 : ∀ (t : Tree) (path : List Int) (s : Tree) (sa1 : Option Addr) (sn1 sc1 : Nat) (sa2 : Option Addr) (sn2 sc2 : Nat) (sa3 : Option Addr) (sn3 sc3 : Nat) (r : Tree × Int), g27 t path s = some r → Tri Tryd.prog 27 [.agg #[.int .i64 t.Rule, .int .u8 t.Byte, .slice sa1 sn1 sc1], .slice sa2 sn2 sc2, .agg #[.int .i64 s.Rule, .int .u8 s.Byte, .slice sa3 sn3 sc3]] [] [(.slice sa1 sn1 sc1, .slice 3 (t.Kids.map eTree)), (.slice sa2 sn2 sc2, .slice 1 (path.map eI64)), (.slice sa3 sn3 sc3, .slice 3 (s.Kids.map eTree))] (fun o H Φ => ∃ (sa18 : Option Addr) (sn18 sc18 : Nat), o = .ret (.tuple #[.agg #[.int .i64 r.1.Rule, .int .u8 r.1.Byte, .slice sa18 sn18 sc18], .int .i64 r.2]) ∧ H = [] ∧ Φ = [(.slice sa18 sn18 sc18, .slice 3 (r.1.Kids.map eTree))])) (t : Tree) (path : List Int) (s : Tree) (sa1 : Option Addr) (sn1 sc1 : Nat) (sa2 : Option Addr) (sn2 sc2 : Nat) (sa3 : Option Addr) (sn3 sc3 : Nat) (r : Tree × Int) (hF : F.ref09.Put_B k g27 t path s = some r) :
    Tri Tryd.prog 27 [.agg #[.int .i64 t.Rule, .int .u8 t.Byte, .slice sa1 sn1 sc1], .slice sa2 sn2 sc2, .agg #[.int .i64 s.Rule, .int .u8 s.Byte, .slice sa3 sn3 sc3]] [] [(.slice sa1 sn1 sc1, .slice 3 (t.Kids.map eTree)), (.slice sa2 sn2 sc2, .slice 1 (path.map eI64)), (.slice sa3 sn3 sc3, .slice 3 (s.Kids.map eTree))] (fun o H Φ => ∃ (sa18 : Option Addr) (sn18 sc18 : Nat), o = .ret (.tuple #[.agg #[.int .i64 r.1.Rule, .int .u8 r.1.Byte, .slice sa18 sn18 sc18], .int .i64 r.2]) ∧ H = [] ∧ Φ = [(.slice sa18 sn18 sc18, .slice 3 (r.1.Kids.map eTree))]) := by
  unfold F.ref09.Put_B at hF
  refine tri_intro (n := 82) Tryd.func27 rfl Tryd.ntmps27 rfl fun w X => ?_
  refine c_seq ?_
  refine c_region ?_
  refine o_box rfl rfl rfl fun b => ?_
  refine o_box rfl rfl rfl fun b1 => ?_
  refine o_alloc zero27 rfl rfl fun b2 => ?_
  refine o_v (v_assign rfl) rfl ?_
  refine o_seq ?_
  refine c_seq ?_
  refine c_seq ?_
  refine c_region ?_
  refine o_v (v_move rfl) rfl ?_
  refine o_v (v_lenS (enc := eI64) path sl44 rfl (.f 1 rfl)) rfl ?_
  refine o_v (v_bin rfl rfl rfl) rfl ?_
  refine o_seq ?_
  refine c_cond rfl (fun h1 => ?_) (fun h1 => ?_)
  · replace hF := ite_t h1 hF
    refine c_seq ?_
    refine c_region ?_
    refine o_v (v_load_box 1 ty27 rfl rfl rfl rfl rfl) rfl ?_
    obtain ⟨v, h2, hF⟩ := bd hF
    refine o_call0 call16 rfl (sub_cons 2 rfl sub_nil) (tri16 k s sa3 sn3 sc3 v h2) rfl ?_
    rintro _ _ _ ⟨sa4, sn4, sc4, rfl, rfl, rfl⟩
    refine o_store_box 0 rfl ty27 rfl rfl rfl rfl rfl rfl rfl ?_
    refine o_v (v_assign rfl) rfl ?_
    refine o_seq ?_
    refine c_ret ?_
    cases hF
    refine s_ret2 rfl (r_cell 0 rfl ty27 rfl rfl rfl rfl) (r_tmp rfl) fun a w hs => ?_
    exact fin_sel hs [] ⟨sa4, sn4, sc4, rfl, rfl, rfl⟩ rfl (sub_cons 0 rfl sub_nil)
  · replace hF := ite_f h1 hF
    refine c_skip ?_
    refine sat_wc ?_
    refine c_seq ?_
    refine c_seq ?_
    refine c_cut (fun E N' => ∀ (t30 : Bool), F.ref09.Put_j1 k path t g27 s t30 = some r → Sat E [(0, .agg #[.int .i64 t.Rule, .int .u8 t.Byte, .slice sa1 sn1 sc1]), (1, .slice sa2 sn2 sc2), (2, .agg #[.int .i64 s.Rule, .int .u8 s.Byte, .slice sa3 sn3 sc3]), (3, .pointer (some ⟨b, 0, none⟩)), (5, .pointer (some ⟨b1, 0, none⟩)), (6, .pointer (some ⟨b2, 0, none⟩)), (7, .int .i64 0), (15, .bool ((path.length : Int) == 0)), (30, .bool t30)] [.box b2 27 [.int .i64 0, .int .u8 0, .slice none 0 0], .box b1 27 [.int .i64 s.Rule, .int .u8 s.Byte, .slice sa3 sn3 sc3], .box b 27 [.int .i64 t.Rule, .int .u8 t.Byte, .slice sa1 sn1 sc1]] [(.slice sa1 sn1 sc1, .slice 3 (t.Kids.map eTree)), (.slice sa2 sn2 sc2, .slice 1 (path.map eI64)), (.slice sa3 sn3 sc3, .slice 3 (s.Kids.map eTree))] N') (fun N5 hN5 => ?_) ?_
    · refine c_draw (n := 13) [0, 0, 0] mixed rfl rfl ?_
      refine d_val 0 rfl pnok (by kernel_rfl) (by kernel_rfl) (by kernel_rfl) rfl (v_move rfl) ?_
      refine ite_some hF fun h16 hF => ?_
      refine d_val 1 rfl pnok (by kernel_rfl) (by kernel_rfl) (by kernel_rfl) rfl (v_indexAddr_s (xs := path) (enc := eI64) sl44 rfl rfl (.f 1 rfl) h16) ?_
      refine d_val 2 rfl pnok (by kernel_rfl) (by kernel_rfl) (by kernel_rfl) rfl (v_load_s (xs := path) (enc := eI64) ty3 rfl (.f 1 rfl) h16 rfl rfl rfl rfl rfl rfl rfl) ?_
      refine d_val 3 rfl pnok (by kernel_rfl) (by kernel_rfl) (by kernel_rfl) rfl (v_bin rfl rfl rfl) ?_
      refine d_val 4 rfl pnok (by kernel_rfl) (by kernel_rfl) (by kernel_rfl) rfl (v_move rfl) ?_
      refine d_split (t := 22) rfl (fun h17 => ?_) (fun h17 => ?_)
      · replace hF := ite_t h17 hF
        refine d_off 5 rfl rfl rfl (by decide) pnok (by kernel_rfl) (by kernel_rfl) (by kernel_rfl) rfl ?_
        refine d_off 6 rfl rfl rfl (by decide) pnok (by kernel_rfl) (by kernel_rfl) (by kernel_rfl) rfl ?_
        refine d_off 7 rfl rfl rfl (by decide) pnok (by kernel_rfl) (by kernel_rfl) (by kernel_rfl) rfl ?_
        refine d_off 8 rfl rfl rfl (by decide) pnok (by kernel_rfl) (by kernel_rfl) (by kernel_rfl) rfl ?_
        refine d_off 9 rfl rfl rfl (by decide) pnok (by kernel_rfl) (by kernel_rfl) (by kernel_rfl) rfl ?_
        refine d_off 10 rfl rfl rfl (by decide) pnok (by kernel_rfl) (by kernel_rfl) (by kernel_rfl) rfl ?_
        refine d_off 11 rfl rfl rfl (by decide) pnok (by kernel_rfl) (by kernel_rfl) (by kernel_rfl) rfl ?_
        refine d_val 12 rfl pnok (by kernel_rfl) (by kernel_rfl) (by kernel_rfl) rfl (v_pick_t rfl rfl) ?_
        refine d_done (by kernel_rfl) ?_
        refine s_st ?_ (hN5 true hF)
        exact st_le [0, 0, 0] (le_cons rfl (le_cons rfl (le_cons rfl (le_cons rfl (le_cons rfl (le_cons rfl (le_cons rfl (le_cons rfl (le_cons rfl le_nil))))))))) rfl (sub_cons 0 rfl (sub_cons 1 rfl (sub_cons 2 rfl sub_nil)))
      · replace hF := ite_f h17 hF
        refine d_val_on 5 rfl rfl rfl pnok (by kernel_rfl) (by kernel_rfl) (by kernel_rfl) rfl (v_move rfl) ?_
        refine d_val_on 6 rfl rfl rfl pnok (by kernel_rfl) (by kernel_rfl) (by kernel_rfl) rfl (v_indexAddr_s (xs := path) (enc := eI64) sl44 rfl rfl (.f 1 rfl) h16) ?_
        refine d_val_on 7 rfl rfl rfl pnok (by kernel_rfl) (by kernel_rfl) (by kernel_rfl) rfl (v_load_s (xs := path) (enc := eI64) ty3 rfl (.f 1 rfl) h16 rfl rfl rfl rfl rfl rfl rfl) ?_
        refine d_val_on 8 rfl rfl rfl pnok (by kernel_rfl) (by kernel_rfl) (by kernel_rfl) rfl (v_fieldAddr (v := .pointer (some ⟨b, 2, none⟩)) rfl (fun _ => by kernel_rfl)) ?_
        refine d_val_on 9 rfl rfl rfl pnok (by kernel_rfl) (by kernel_rfl) (by kernel_rfl) rfl (v_load_box 2 ty25 rfl rfl rfl rfl rfl) ?_
        refine d_val_on 10 rfl rfl rfl pnok (by kernel_rfl) (by kernel_rfl) (by kernel_rfl) rfl (v_lenS (enc := eTree) t.Kids sl25 rfl (.f 0 rfl)) ?_
        refine d_val_on 11 rfl rfl rfl pnok (by kernel_rfl) (by kernel_rfl) (by kernel_rfl) rfl (v_bin rfl rfl rfl) ?_
        refine d_val 12 rfl pnok (by kernel_rfl) (by kernel_rfl) (by kernel_rfl) rfl (v_pick_f rfl rfl) ?_
        refine d_done (by kernel_rfl) ?_
        refine s_st ?_ (hN5 (decide ((t.Kids.length : Int) ≤ (at_ path 0))) hF)
        exact st_le [0, 0, 0] (le_cons rfl (le_cons rfl (le_cons rfl (le_cons rfl (le_cons rfl (le_cons rfl (le_cons rfl (le_cons rfl (le_cons rfl le_nil))))))))) rfl (sub_cons 0 rfl (sub_cons 1 rfl (sub_cons 2 rfl sub_nil)))
    · intro t30 hF
      unfold F.ref09.Put_j1 at hF
      refine sat_wc ?_
      refine c_cond rfl (fun h3 => ?_) (fun h3 => ?_)
      · replace hF := ite_t h3 hF
        refine c_seq ?_
        refine c_region ?_
        refine o_v (v_build (v := .agg #[.int .i64 0, .int .u8 0, .slice none 0 0]) rfl (fun _ => by kernel_rfl)) rfl ?_
        refine o_store_box 0 rfl ty27 rfl rfl rfl rfl rfl rfl rfl ?_
        refine o_v (v_assign rfl) rfl ?_
        refine o_seq ?_
        refine c_ret ?_
        cases hF
        refine s_st (st_nilfact 3) ?_
        refine s_ret2 rfl (r_cell 0 rfl ty27 rfl rfl rfl rfl) (r_tmp rfl) fun a w hs => ?_
        exact fin_sel hs [] ⟨none, 0, 0, rfl, rfl, rfl⟩ rfl (sub_cons 0 rfl sub_nil)
      · replace hF := ite_f h3 hF
        refine c_skip ?_
        refine sat_wc ?_
        refine c_seq ?_
        refine c_cut (fun E N' => ∀ (Rule_ : Int) (Byte_ : Int) (Kids_ : List Tree) (e_ : Int) (sa5 : Option Addr) (sn5 sc5 : Nat) (b3 : Nat), F.ref09.Put_j2 k t path Rule_ Byte_ Kids_ e_ = some r → Sat E [(0, .agg #[.int .i64 t.Rule, .int .u8 t.Byte, .slice sa1 sn1 sc1]), (1, .slice sa2 sn2 sc2), (2, .agg #[.int .i64 s.Rule, .int .u8 s.Byte, .slice sa3 sn3 sc3]), (3, .pointer (some ⟨b, 0, none⟩)), (5, .pointer (some ⟨b1, 0, none⟩)), (6, .pointer (some ⟨b2, 0, none⟩)), (7, .int .i64 0), (8, .pointer (some ⟨b3, 0, none⟩)), (9, .int .i64 e_), (15, .bool ((path.length : Int) == 0)), (30, .bool t30)] [.box b2 27 [.int .i64 0, .int .u8 0, .slice none 0 0], .box b1 27 [.int .i64 s.Rule, .int .u8 s.Byte, .slice sa3 sn3 sc3], .box b 27 [.int .i64 t.Rule, .int .u8 t.Byte, .slice sa1 sn1 sc1], .box b3 27 [.int .i64 Rule_, .int .u8 Byte_, .slice sa5 sn5 sc5]] [(.slice sa1 sn1 sc1, .slice 3 (t.Kids.map eTree)), (.slice sa2 sn2 sc2, .slice 1 (path.map eI64)), (.slice sa3 sn3 sc3, .slice 3 (s.Kids.map eTree)), (.slice sa5 sn5 sc5, .slice 3 (Kids_.map eTree))] N') (fun N5 hN5 => ?_) ?_
        · refine c_draw (n := 17) [0, 0, 0] mixed rfl rfl ?_
          refine d_val 0 rfl pnok (by kernel_rfl) (by kernel_rfl) (by kernel_rfl) rfl (v_fieldAddr (v := .pointer (some ⟨b, 2, none⟩)) rfl (fun _ => by kernel_rfl)) ?_
          refine d_val 1 rfl pnok (by kernel_rfl) (by kernel_rfl) (by kernel_rfl) rfl (v_load_box 2 ty25 rfl rfl rfl rfl rfl) ?_
          refine d_val 2 rfl pnok (by kernel_rfl) (by kernel_rfl) (by kernel_rfl) rfl (v_move rfl) ?_
          refine ite_some hF fun h12 hF => ?_
          refine d_val 3 rfl pnok (by kernel_rfl) (by kernel_rfl) (by kernel_rfl) rfl (v_indexAddr_s (xs := path) (enc := eI64) sl44 rfl rfl (.f 1 rfl) h12) ?_
          refine d_val 4 rfl pnok (by kernel_rfl) (by kernel_rfl) (by kernel_rfl) rfl (v_load_s (xs := path) (enc := eI64) ty3 rfl (.f 1 rfl) h12 rfl rfl rfl rfl rfl rfl rfl) ?_
          refine ite_some hF fun h13 hF => ?_
          refine d_val 5 rfl pnok (by kernel_rfl) (by kernel_rfl) (by kernel_rfl) rfl (v_indexAddr_s (xs := t.Kids) (enc := eTree) sl25 rfl rfl (.f 0 rfl) h13) ?_
          refine d_val 7 rfl pnok (by kernel_rfl) (by kernel_rfl) (by kernel_rfl) rfl (v_move rfl) ?_
          refine d_val 9 rfl pnok (by kernel_rfl) (by kernel_rfl) (by kernel_rfl) rfl (v_load_box 1 ty27 rfl rfl rfl rfl rfl) ?_
          obtain ⟨v2, h14, hF⟩ := bd hF
          refine d_all [6, 8, 14] (by kernel_rfl) (by simp) ⟨⟨_, rfl, ?_⟩, ⟨_, rfl, ?_⟩, ⟨_, rfl, ?_⟩, trivial⟩
          · refine o_load_s (ds := [.int .i64 ((at_ t.Kids (at_ path 0)).Rule), .int .u8 ((at_ t.Kids (at_ path 0)).Byte), .slice 3 (((at_ t.Kids (at_ path 0)).Kids).map eTree)]) (xs := t.Kids) (enc := eTree) ty27 rfl (.f 0 rfl) h13 (by simp only [eTree_eq] <;> rfl) rfl rfl rfl rfl rfl fun sa15 sn15 sc15 => ?_
            refine d_next [0, 0, 0] 1 rfl rfl ?_
            refine d_all [8, 14] (by kernel_rfl) (by simp) ⟨⟨_, rfl, ?_⟩, ⟨_, rfl, ?_⟩, trivial⟩
            · refine ite_some hF fun h15 hF => ?_
              refine o_cutS (enc := eI64) (xs := path) 2 sl44 rfl rfl rfl rfl rfl rfl h15 rfl fun sa16 sn16 sc16 => ?_
              refine d_next [0, 0, 0] 2 rfl rfl ?_
              refine d_all [10, 14] (by kernel_rfl) (by simp) ⟨⟨_, rfl, ?_⟩, ⟨_, rfl, ?_⟩, trivial⟩
              · refine o_call0 call27 rfl (sub_cons 1 rfl (sub_cons 0 rfl (sub_cons 4 rfl sub_nil))) (hg27 (at_ t.Kids (at_ path 0)) (sub path 1 (path.length : Int)) s sa15 sn15 sc15 sa16 sn16 sc16 sa3 sn3 sc3 v2 h14) rfl ?_
                rintro _ _ _ ⟨sa17, sn17, sc17, rfl, rfl, rfl⟩
                refine d_next [0, 0, 0] 3 rfl rfl ?_
                refine d_val 11 rfl pnok (by kernel_rfl) (by kernel_rfl) (by kernel_rfl) rfl (v_move rfl) ?_
                refine d_val 12 rfl pnok (by kernel_rfl) (by kernel_rfl) (by kernel_rfl) rfl (v_extract rfl rfl) ?_
                refine d_val 13 rfl pnok (by kernel_rfl) (by kernel_rfl) (by kernel_rfl) rfl (v_extract rfl rfl) ?_
                refine d_one 14 rfl (by kernel_rfl) ?_
                refine o_alloc zero27 rfl rfl fun b7 => ?_
                refine d_next [1, 1, 1] 3 rfl rfl ?_
                refine d_one 15 rfl (by kernel_rfl) ?_
                refine o_store_box 0 rfl ty27 rfl rfl rfl rfl rfl rfl rfl ?_
                refine d_next [1, 1, 1] 3 rfl rfl ?_
                refine d_val 16 rfl pnok (by kernel_rfl) (by kernel_rfl) (by kernel_rfl) rfl (v_assign rfl) ?_
                refine d_done (by kernel_rfl) ?_
                refine s_st ?_ (hN5 v2.1.Rule v2.1.Byte v2.1.Kids v2.2 sa17 sn17 sc17 b7 hF)
                exact st_le [1, 1, 1, 0] (le_cons rfl (le_cons rfl (le_cons rfl (le_cons rfl (le_cons rfl (le_cons rfl (le_cons rfl (le_cons rfl (le_cons rfl (le_cons rfl (le_cons rfl le_nil))))))))))) rfl (sub_cons 3 rfl (sub_cons 4 rfl (sub_cons 5 rfl (sub_cons 0 rfl sub_nil))))
              · refine o_alloc zero27 rfl rfl fun b7 => ?_
                refine d_next [1, 1, 1] 2 rfl rfl ?_
                refine d_one 10 rfl (by kernel_rfl) ?_
                refine o_call0 call27 rfl (sub_cons 1 rfl (sub_cons 0 rfl (sub_cons 4 rfl sub_nil))) (hg27 (at_ t.Kids (at_ path 0)) (sub path 1 (path.length : Int)) s sa15 sn15 sc15 sa16 sn16 sc16 sa3 sn3 sc3 v2 h14) rfl ?_
                rintro _ _ _ ⟨sa17, sn17, sc17, rfl, rfl, rfl⟩
                refine d_next [1, 1, 1] 3 rfl rfl ?_
                refine d_val 11 rfl pnok (by kernel_rfl) (by kernel_rfl) (by kernel_rfl) rfl (v_move rfl) ?_
                refine d_val 12 rfl pnok (by kernel_rfl) (by kernel_rfl) (by kernel_rfl) rfl (v_extract rfl rfl) ?_
                refine d_val 13 rfl pnok (by kernel_rfl) (by kernel_rfl) (by kernel_rfl) rfl (v_extract rfl rfl) ?_
                refine d_one 15 rfl (by kernel_rfl) ?_
                refine o_store_box 0 rfl ty27 rfl rfl rfl rfl rfl rfl rfl ?_
                refine d_next [1, 1, 1] 3 rfl rfl ?_
                refine d_val 16 rfl pnok (by kernel_rfl) (by kernel_rfl) (by kernel_rfl) rfl (v_assign rfl) ?_
                refine d_done (by kernel_rfl) ?_
                refine s_st ?_ (hN5 v2.1.Rule v2.1.Byte v2.1.Kids v2.2 sa17 sn17 sc17 b7 hF)
                exact st_le [1, 1, 1, 0] (le_cons rfl (le_cons rfl (le_cons rfl (le_cons rfl (le_cons rfl (le_cons rfl (le_cons rfl (le_cons rfl (le_cons rfl (le_cons rfl (le_cons rfl le_nil))))))))))) rfl (sub_cons 3 rfl (sub_cons 4 rfl (sub_cons 5 rfl (sub_cons 0 rfl sub_nil))))
            · refine o_alloc zero27 rfl rfl fun b7 => ?_
              refine d_next [1, 1, 1] 1 rfl rfl ?_
              refine d_one 8 rfl (by kernel_rfl) ?_
              refine ite_some hF fun h15 hF => ?_
              refine o_cutS (enc := eI64) (xs := path) 2 sl44 rfl rfl rfl rfl rfl rfl h15 rfl fun sa16 sn16 sc16 => ?_
              refine d_next [1, 1, 1] 2 rfl rfl ?_
              refine d_one 10 rfl (by kernel_rfl) ?_
              refine o_call0 call27 rfl (sub_cons 1 rfl (sub_cons 0 rfl (sub_cons 4 rfl sub_nil))) (hg27 (at_ t.Kids (at_ path 0)) (sub path 1 (path.length : Int)) s sa15 sn15 sc15 sa16 sn16 sc16 sa3 sn3 sc3 v2 h14) rfl ?_
              rintro _ _ _ ⟨sa17, sn17, sc17, rfl, rfl, rfl⟩
              refine d_next [1, 1, 1] 3 rfl rfl ?_
              refine d_val 11 rfl pnok (by kernel_rfl) (by kernel_rfl) (by kernel_rfl) rfl (v_move rfl) ?_
              refine d_val 12 rfl pnok (by kernel_rfl) (by kernel_rfl) (by kernel_rfl) rfl (v_extract rfl rfl) ?_
              refine d_val 13 rfl pnok (by kernel_rfl) (by kernel_rfl) (by kernel_rfl) rfl (v_extract rfl rfl) ?_
              refine d_one 15 rfl (by kernel_rfl) ?_
              refine o_store_box 0 rfl ty27 rfl rfl rfl rfl rfl rfl rfl ?_
              refine d_next [1, 1, 1] 3 rfl rfl ?_
              refine d_val 16 rfl pnok (by kernel_rfl) (by kernel_rfl) (by kernel_rfl) rfl (v_assign rfl) ?_
              refine d_done (by kernel_rfl) ?_
              refine s_st ?_ (hN5 v2.1.Rule v2.1.Byte v2.1.Kids v2.2 sa17 sn17 sc17 b7 hF)
              exact st_le [1, 1, 1, 0] (le_cons rfl (le_cons rfl (le_cons rfl (le_cons rfl (le_cons rfl (le_cons rfl (le_cons rfl (le_cons rfl (le_cons rfl (le_cons rfl (le_cons rfl le_nil))))))))))) rfl (sub_cons 3 rfl (sub_cons 4 rfl (sub_cons 5 rfl (sub_cons 0 rfl sub_nil))))
          · refine ite_some hF fun h15 hF => ?_
            refine o_cutS (enc := eI64) (xs := path) 1 sl44 rfl rfl rfl rfl rfl rfl h15 rfl fun sa15 sn15 sc15 => ?_
            refine d_next [0, 0, 0] 1 rfl rfl ?_
            refine d_all [6, 14] (by kernel_rfl) (by simp) ⟨⟨_, rfl, ?_⟩, ⟨_, rfl, ?_⟩, trivial⟩
            · refine o_load_s (ds := [.int .i64 ((at_ t.Kids (at_ path 0)).Rule), .int .u8 ((at_ t.Kids (at_ path 0)).Byte), .slice 3 (((at_ t.Kids (at_ path 0)).Kids).map eTree)]) (xs := t.Kids) (enc := eTree) ty27 rfl (.f 1 rfl) h13 (by simp only [eTree_eq] <;> rfl) rfl rfl rfl rfl rfl fun sa16 sn16 sc16 => ?_
              refine d_next [0, 0, 0] 2 rfl rfl ?_
              refine d_all [10, 14] (by kernel_rfl) (by simp) ⟨⟨_, rfl, ?_⟩, ⟨_, rfl, ?_⟩, trivial⟩
              · refine o_call0 call27 rfl (sub_cons 0 rfl (sub_cons 1 rfl (sub_cons 4 rfl sub_nil))) (hg27 (at_ t.Kids (at_ path 0)) (sub path 1 (path.length : Int)) s sa16 sn16 sc16 sa15 sn15 sc15 sa3 sn3 sc3 v2 h14) rfl ?_
                rintro _ _ _ ⟨sa17, sn17, sc17, rfl, rfl, rfl⟩
                refine d_next [0, 0, 0] 3 rfl rfl ?_
                refine d_val 11 rfl pnok (by kernel_rfl) (by kernel_rfl) (by kernel_rfl) rfl (v_move rfl) ?_
                refine d_val 12 rfl pnok (by kernel_rfl) (by kernel_rfl) (by kernel_rfl) rfl (v_extract rfl rfl) ?_
                refine d_val 13 rfl pnok (by kernel_rfl) (by kernel_rfl) (by kernel_rfl) rfl (v_extract rfl rfl) ?_
                refine d_one 14 rfl (by kernel_rfl) ?_
                refine o_alloc zero27 rfl rfl fun b7 => ?_
                refine d_next [1, 1, 1] 3 rfl rfl ?_
                refine d_one 15 rfl (by kernel_rfl) ?_
                refine o_store_box 0 rfl ty27 rfl rfl rfl rfl rfl rfl rfl ?_
                refine d_next [1, 1, 1] 3 rfl rfl ?_
                refine d_val 16 rfl pnok (by kernel_rfl) (by kernel_rfl) (by kernel_rfl) rfl (v_assign rfl) ?_
                refine d_done (by kernel_rfl) ?_
                refine s_st ?_ (hN5 v2.1.Rule v2.1.Byte v2.1.Kids v2.2 sa17 sn17 sc17 b7 hF)
                exact st_le [1, 1, 1, 0] (le_cons rfl (le_cons rfl (le_cons rfl (le_cons rfl (le_cons rfl (le_cons rfl (le_cons rfl (le_cons rfl (le_cons rfl (le_cons rfl (le_cons rfl le_nil))))))))))) rfl (sub_cons 3 rfl (sub_cons 4 rfl (sub_cons 5 rfl (sub_cons 0 rfl sub_nil))))
              · refine o_alloc zero27 rfl rfl fun b7 => ?_
                refine d_next [1, 1, 1] 2 rfl rfl ?_
                refine d_one 10 rfl (by kernel_rfl) ?_
                refine o_call0 call27 rfl (sub_cons 0 rfl (sub_cons 1 rfl (sub_cons 4 rfl sub_nil))) (hg27 (at_ t.Kids (at_ path 0)) (sub path 1 (path.length : Int)) s sa16 sn16 sc16 sa15 sn15 sc15 sa3 sn3 sc3 v2 h14) rfl ?_
                rintro _ _ _ ⟨sa17, sn17, sc17, rfl, rfl, rfl⟩
                refine d_next [1, 1, 1] 3 rfl rfl ?_
                refine d_val 11 rfl pnok (by kernel_rfl) (by kernel_rfl) (by kernel_rfl) rfl (v_move rfl) ?_
                refine d_val 12 rfl pnok (by kernel_rfl) (by kernel_rfl) (by kernel_rfl) rfl (v_extract rfl rfl) ?_
                refine d_val 13 rfl pnok (by kernel_rfl) (by kernel_rfl) (by kernel_rfl) rfl (v_extract rfl rfl) ?_
                refine d_one 15 rfl (by kernel_rfl) ?_
                refine o_store_box 0 rfl ty27 rfl rfl rfl rfl rfl rfl rfl ?_
                refine d_next [1, 1, 1] 3 rfl rfl ?_
                refine d_val 16 rfl pnok (by kernel_rfl) (by kernel_rfl) (by kernel_rfl) rfl (v_assign rfl) ?_
                refine d_done (by kernel_rfl) ?_
                refine s_st ?_ (hN5 v2.1.Rule v2.1.Byte v2.1.Kids v2.2 sa17 sn17 sc17 b7 hF)
                exact st_le [1, 1, 1, 0] (le_cons rfl (le_cons rfl (le_cons rfl (le_cons rfl (le_cons rfl (le_cons rfl (le_cons rfl (le_cons rfl (le_cons rfl (le_cons rfl (le_cons rfl le_nil))))))))))) rfl (sub_cons 3 rfl (sub_cons 4 rfl (sub_cons 5 rfl (sub_cons 0 rfl sub_nil))))
            · refine o_alloc zero27 rfl rfl fun b7 => ?_
              refine d_next [1, 1, 1] 1 rfl rfl ?_
              refine d_one 6 rfl (by kernel_rfl) ?_
              refine o_load_s (ds := [.int .i64 ((at_ t.Kids (at_ path 0)).Rule), .int .u8 ((at_ t.Kids (at_ path 0)).Byte), .slice 3 (((at_ t.Kids (at_ path 0)).Kids).map eTree)]) (xs := t.Kids) (enc := eTree) ty27 rfl (.f 1 rfl) h13 (by simp only [eTree_eq] <;> rfl) rfl rfl rfl rfl rfl fun sa16 sn16 sc16 => ?_
              refine d_next [1, 1, 1] 2 rfl rfl ?_
              refine d_one 10 rfl (by kernel_rfl) ?_
              refine o_call0 call27 rfl (sub_cons 0 rfl (sub_cons 1 rfl (sub_cons 4 rfl sub_nil))) (hg27 (at_ t.Kids (at_ path 0)) (sub path 1 (path.length : Int)) s sa16 sn16 sc16 sa15 sn15 sc15 sa3 sn3 sc3 v2 h14) rfl ?_
              rintro _ _ _ ⟨sa17, sn17, sc17, rfl, rfl, rfl⟩
              refine d_next [1, 1, 1] 3 rfl rfl ?_
              refine d_val 11 rfl pnok (by kernel_rfl) (by kernel_rfl) (by kernel_rfl) rfl (v_move rfl) ?_
              refine d_val 12 rfl pnok (by kernel_rfl) (by kernel_rfl) (by kernel_rfl) rfl (v_extract rfl rfl) ?_
              refine d_val 13 rfl pnok (by kernel_rfl) (by kernel_rfl) (by kernel_rfl) rfl (v_extract rfl rfl) ?_
              refine d_one 15 rfl (by kernel_rfl) ?_
              refine o_store_box 0 rfl ty27 rfl rfl rfl rfl rfl rfl rfl ?_
              refine d_next [1, 1, 1] 3 rfl rfl ?_
              refine d_val 16 rfl pnok (by kernel_rfl) (by kernel_rfl) (by kernel_rfl) rfl (v_assign rfl) ?_
              refine d_done (by kernel_rfl) ?_
              refine s_st ?_ (hN5 v2.1.Rule v2.1.Byte v2.1.Kids v2.2 sa17 sn17 sc17 b7 hF)
              exact st_le [1, 1, 1, 0] (le_cons rfl (le_cons rfl (le_cons rfl (le_cons rfl (le_cons rfl (le_cons rfl (le_cons rfl (le_cons rfl (le_cons rfl (le_cons rfl (le_cons rfl le_nil))))))))))) rfl (sub_cons 3 rfl (sub_cons 4 rfl (sub_cons 5 rfl (sub_cons 0 rfl sub_nil))))
          · refine o_alloc zero27 rfl rfl fun b7 => ?_
            refine d_next [1, 1, 1] 0 rfl rfl ?_
            refine d_all [6, 8] (by kernel_rfl) (by simp) ⟨⟨_, rfl, ?_⟩, ⟨_, rfl, ?_⟩, trivial⟩
            · refine o_load_s (ds := [.int .i64 ((at_ t.Kids (at_ path 0)).Rule), .int .u8 ((at_ t.Kids (at_ path 0)).Byte), .slice 3 (((at_ t.Kids (at_ path 0)).Kids).map eTree)]) (xs := t.Kids) (enc := eTree) ty27 rfl (.f 0 rfl) h13 (by simp only [eTree_eq] <;> rfl) rfl rfl rfl rfl rfl fun sa15 sn15 sc15 => ?_
              refine d_next [1, 1, 1] 1 rfl rfl ?_
              refine d_one 8 rfl (by kernel_rfl) ?_
              refine ite_some hF fun h15 hF => ?_
              refine o_cutS (enc := eI64) (xs := path) 2 sl44 rfl rfl rfl rfl rfl rfl h15 rfl fun sa16 sn16 sc16 => ?_
              refine d_next [1, 1, 1] 2 rfl rfl ?_
              refine d_one 10 rfl (by kernel_rfl) ?_
              refine o_call0 call27 rfl (sub_cons 1 rfl (sub_cons 0 rfl (sub_cons 4 rfl sub_nil))) (hg27 (at_ t.Kids (at_ path 0)) (sub path 1 (path.length : Int)) s sa15 sn15 sc15 sa16 sn16 sc16 sa3 sn3 sc3 v2 h14) rfl ?_
              rintro _ _ _ ⟨sa17, sn17, sc17, rfl, rfl, rfl⟩
              refine d_next [1, 1, 1] 3 rfl rfl ?_
              refine d_val 11 rfl pnok (by kernel_rfl) (by kernel_rfl) (by kernel_rfl) rfl (v_move rfl) ?_
              refine d_val 12 rfl pnok (by kernel_rfl) (by kernel_rfl) (by kernel_rfl) rfl (v_extract rfl rfl) ?_
              refine d_val 13 rfl pnok (by kernel_rfl) (by kernel_rfl) (by kernel_rfl) rfl (v_extract rfl rfl) ?_
              refine d_one 15 rfl (by kernel_rfl) ?_
              refine o_store_box 0 rfl ty27 rfl rfl rfl rfl rfl rfl rfl ?_
              refine d_next [1, 1, 1] 3 rfl rfl ?_
              refine d_val 16 rfl pnok (by kernel_rfl) (by kernel_rfl) (by kernel_rfl) rfl (v_assign rfl) ?_
              refine d_done (by kernel_rfl) ?_
              refine s_st ?_ (hN5 v2.1.Rule v2.1.Byte v2.1.Kids v2.2 sa17 sn17 sc17 b7 hF)
              exact st_le [1, 1, 1, 0] (le_cons rfl (le_cons rfl (le_cons rfl (le_cons rfl (le_cons rfl (le_cons rfl (le_cons rfl (le_cons rfl (le_cons rfl (le_cons rfl (le_cons rfl le_nil))))))))))) rfl (sub_cons 3 rfl (sub_cons 4 rfl (sub_cons 5 rfl (sub_cons 0 rfl sub_nil))))
            · refine ite_some hF fun h15 hF => ?_
              refine o_cutS (enc := eI64) (xs := path) 1 sl44 rfl rfl rfl rfl rfl rfl h15 rfl fun sa15 sn15 sc15 => ?_
              refine d_next [1, 1, 1] 1 rfl rfl ?_
              refine d_one 6 rfl (by kernel_rfl) ?_
              refine o_load_s (ds := [.int .i64 ((at_ t.Kids (at_ path 0)).Rule), .int .u8 ((at_ t.Kids (at_ path 0)).Byte), .slice 3 (((at_ t.Kids (at_ path 0)).Kids).map eTree)]) (xs := t.Kids) (enc := eTree) ty27 rfl (.f 1 rfl) h13 (by simp only [eTree_eq] <;> rfl) rfl rfl rfl rfl rfl fun sa16 sn16 sc16 => ?_
              refine d_next [1, 1, 1] 2 rfl rfl ?_
              refine d_one 10 rfl (by kernel_rfl) ?_
              refine o_call0 call27 rfl (sub_cons 0 rfl (sub_cons 1 rfl (sub_cons 4 rfl sub_nil))) (hg27 (at_ t.Kids (at_ path 0)) (sub path 1 (path.length : Int)) s sa16 sn16 sc16 sa15 sn15 sc15 sa3 sn3 sc3 v2 h14) rfl ?_
              rintro _ _ _ ⟨sa17, sn17, sc17, rfl, rfl, rfl⟩
              refine d_next [1, 1, 1] 3 rfl rfl ?_
              refine d_val 11 rfl pnok (by kernel_rfl) (by kernel_rfl) (by kernel_rfl) rfl (v_move rfl) ?_
              refine d_val 12 rfl pnok (by kernel_rfl) (by kernel_rfl) (by kernel_rfl) rfl (v_extract rfl rfl) ?_
              refine d_val 13 rfl pnok (by kernel_rfl) (by kernel_rfl) (by kernel_rfl) rfl (v_extract rfl rfl) ?_
              refine d_one 15 rfl (by kernel_rfl) ?_
              refine o_store_box 0 rfl ty27 rfl rfl rfl rfl rfl rfl rfl ?_
              refine d_next [1, 1, 1] 3 rfl rfl ?_
              refine d_val 16 rfl pnok (by kernel_rfl) (by kernel_rfl) (by kernel_rfl) rfl (v_assign rfl) ?_
              refine d_done (by kernel_rfl) ?_
              refine s_st ?_ (hN5 v2.1.Rule v2.1.Byte v2.1.Kids v2.2 sa17 sn17 sc17 b7 hF)
              exact st_le [1, 1, 1, 0] (le_cons rfl (le_cons rfl (le_cons rfl (le_cons rfl (le_cons rfl (le_cons rfl (le_cons rfl (le_cons rfl (le_cons rfl (le_cons rfl (le_cons rfl le_nil))))))))))) rfl (sub_cons 3 rfl (sub_cons 4 rfl (sub_cons 5 rfl (sub_cons 0 rfl sub_nil))))
        · intro Rule_ Byte_ Kids_ e_ sa5 sn5 sc5 b3 hF
          unfold F.ref09.Put_j2 at hF
          refine sat_wc ?_
          refine c_seq ?_
          refine c_seq ?_
          refine c_region ?_
          refine o_v (v_move rfl) rfl ?_
          refine o_v (v_bin rfl rfl rfl) rfl ?_
          refine o_seq ?_
          refine c_cond rfl (fun h4 => ?_) (fun h4 => ?_)
          · replace hF := ite_t h4 hF
            refine c_seq ?_
            refine c_region ?_
            refine o_v (v_build (v := .agg #[.int .i64 0, .int .u8 0, .slice none 0 0]) rfl (fun _ => by kernel_rfl)) rfl ?_
            refine o_v (v_move rfl) rfl ?_
            refine o_store_box 0 rfl ty27 rfl rfl rfl rfl rfl rfl rfl ?_
            refine o_v (v_assign rfl) rfl ?_
            refine o_seq ?_
            refine c_ret ?_
            cases hF
            refine s_st (st_nilfact 3) ?_
            refine s_ret2 rfl (r_cell 0 rfl ty27 rfl rfl rfl rfl) (r_tmp rfl) fun a w hs => ?_
            exact fin_sel hs [] ⟨none, 0, 0, rfl, rfl, rfl⟩ rfl (sub_cons 0 rfl sub_nil)
          · replace hF := ite_f h4 hF
            refine c_skip ?_
            refine sat_wc ?_
            refine c_seq ?_
            refine c_region ?_
            refine o_v (v_fieldAddr (v := .pointer (some ⟨b, 0, none⟩)) rfl (fun _ => by kernel_rfl)) rfl ?_
            refine o_v (v_load_box 2 ty3 rfl rfl rfl rfl rfl) rfl ?_
            refine o_v (v_fieldAddr (v := .pointer (some ⟨b, 1, none⟩)) rfl (fun _ => by kernel_rfl)) rfl ?_
            refine o_v (v_load_box 2 ty5 rfl rfl rfl rfl rfl) rfl ?_
            refine o_v (v_build (v := .agg #[.int .i64 t.Rule, .int .u8 t.Byte, .slice none 0 0]) rfl (fun _ => by kernel_rfl)) rfl ?_
            refine o_alloc zero27 rfl rfl fun b4 => ?_
            refine o_store_box 0 rfl ty27 rfl rfl rfl rfl rfl rfl rfl ?_
            refine o_seq ?_
            refine c_seq ?_
            refine c_seq ?_
            refine c_region ?_
            refine o_v (v_assign rfl) rfl ?_
            refine o_seq ?_
            obtain ⟨o3, ho3, hF⟩ := bd hF
            refine c_cut (fun E N' => ∀ (sa7 : Option Addr) (sn7 sc7 : Nat), Sat E [(0, .agg #[.int .i64 t.Rule, .int .u8 t.Byte, .slice sa1 sn1 sc1]), (1, .slice sa2 sn2 sc2), (2, .agg #[.int .i64 s.Rule, .int .u8 s.Byte, .slice sa3 sn3 sc3]), (3, .pointer (some ⟨b, 0, none⟩)), (5, .pointer (some ⟨b1, 0, none⟩)), (6, .pointer (some ⟨b2, 0, none⟩)), (7, .int .i64 0), (8, .pointer (some ⟨b3, 0, none⟩)), (9, .int .i64 e_), (10, .pointer (some ⟨b4, 0, none⟩)), (15, .bool ((path.length : Int) == 0)), (30, .bool t30), (47, .bool (e_ != 0))] [.box b4 27 [.int .i64 t.Rule, .int .u8 t.Byte, .slice sa7 sn7 sc7], .box b2 27 [.int .i64 0, .int .u8 0, .slice none 0 0], .box b1 27 [.int .i64 s.Rule, .int .u8 s.Byte, .slice sa3 sn3 sc3], .box b 27 [.int .i64 t.Rule, .int .u8 t.Byte, .slice sa1 sn1 sc1], .box b3 27 [.int .i64 Rule_, .int .u8 Byte_, .slice sa5 sn5 sc5], .row (.slice sa7 sn7 sc7) 27 3 (o3.map eTree)] [(.slice sa1 sn1 sc1, .slice 3 (t.Kids.map eTree)), (.slice sa2 sn2 sc2, .slice 1 (path.map eI64)), (.slice sa3 sn3 sc3, .slice 3 (s.Kids.map eTree)), (.slice sa5 sn5 sc5, .slice 3 (Kids_.map eTree))] N') (fun N3 hN3 => ?_) ?_
            · refine c_block ?_
              refine c_loopE (fun E j a w => ∃ (i : Int) (Kids_1 : List Tree) (sa6 : Option Addr) (sn6 sc6 : Nat), F.ref09.Put_l3 k t path Rule_ Byte_ Kids_ j i Kids_1 = some o3 ∧ St E [(0, .agg #[.int .i64 t.Rule, .int .u8 t.Byte, .slice sa1 sn1 sc1]), (1, .slice sa2 sn2 sc2), (2, .agg #[.int .i64 s.Rule, .int .u8 s.Byte, .slice sa3 sn3 sc3]), (3, .pointer (some ⟨b, 0, none⟩)), (5, .pointer (some ⟨b1, 0, none⟩)), (6, .pointer (some ⟨b2, 0, none⟩)), (7, .int .i64 0), (8, .pointer (some ⟨b3, 0, none⟩)), (9, .int .i64 e_), (10, .pointer (some ⟨b4, 0, none⟩)), (11, .int .i64 i), (15, .bool ((path.length : Int) == 0)), (30, .bool t30), (47, .bool (e_ != 0))] [.box b4 27 [.int .i64 t.Rule, .int .u8 t.Byte, .slice sa6 sn6 sc6], .box b2 27 [.int .i64 0, .int .u8 0, .slice none 0 0], .box b1 27 [.int .i64 s.Rule, .int .u8 s.Byte, .slice sa3 sn3 sc3], .box b 27 [.int .i64 t.Rule, .int .u8 t.Byte, .slice sa1 sn1 sc1], .box b3 27 [.int .i64 Rule_, .int .u8 Byte_, .slice sa5 sn5 sc5], .row (.slice sa6 sn6 sc6) 27 3 (Kids_1.map eTree)] [(.slice sa1 sn1 sc1, .slice 3 (t.Kids.map eTree)), (.slice sa2 sn2 sc2, .slice 1 (path.map eI64)), (.slice sa3 sn3 sc3, .slice 3 (s.Kids.map eTree)), (.slice sa5 sn5 sc5, .slice 3 (Kids_.map eTree))] a w) k ?_ ?_
              · refine s_st (st_nilrow 27 3) ?_
                intro a w hs
                exact ⟨0, ([] : List Tree), none, 0, 0, ho3, st_le [1, 1, 1, 1, 1, 0] (le_cons rfl (le_cons rfl (le_cons rfl (le_cons rfl (le_cons rfl (le_cons rfl (le_cons rfl (le_cons rfl (le_cons rfl (le_cons rfl (le_cons rfl (le_cons rfl (le_cons rfl (le_cons rfl le_nil)))))))))))))) rfl (sub_cons 0 rfl (sub_cons 1 rfl (sub_cons 2 rfl (sub_cons 3 rfl sub_nil)))) a w hs⟩
              · rintro j a w ⟨i, Kids_1, sa6, sn6, sc6, hL3, hs⟩
                cases j with
                | zero => cases hL3
                | succ j =>
                  refine wc_app hs ?_
                  unfold F.ref09.Put_l3 at hL3
                  refine c_seq ?_
                  refine c_seq ?_
                  refine c_region ?_
                  refine o_v (v_move rfl) rfl ?_
                  refine o_v (v_fieldAddr (v := .pointer (some ⟨b, 2, none⟩)) rfl (fun _ => by kernel_rfl)) rfl ?_
                  refine o_v (v_load_box 3 ty25 rfl rfl rfl rfl rfl) rfl ?_
                  refine o_v (v_lenS (enc := eTree) t.Kids sl25 rfl (.f 0 rfl)) rfl ?_
                  refine o_v (v_bin rfl rfl rfl) rfl ?_
                  refine o_seq ?_
                  refine c_cond rfl (fun h5 => ?_) (fun h5 => ?_)
                  · replace hL3 := ite_t h5 hL3
                    refine c_skip ?_
                    refine sat_wc ?_
                    refine c_seq ?_
                    refine c_cut (fun E N' => ∀ (Rule_1 : Int) (Byte_1 : Int) (Kids_2 : List Tree) (Kids_3 : List Tree) (sa8 : Option Addr) (sn8 sc8 : Nat) (sa9 : Option Addr) (sn9 sc9 : Nat) (b5 : Nat), F.ref09.Put_j4 (F.ref09.Put_l3 k t path Rule_ Byte_ Kids_ j) i Rule_1 Byte_1 Kids_2 Kids_3 = some o3 → Sat E [(0, .agg #[.int .i64 t.Rule, .int .u8 t.Byte, .slice sa1 sn1 sc1]), (1, .slice sa2 sn2 sc2), (2, .agg #[.int .i64 s.Rule, .int .u8 s.Byte, .slice sa3 sn3 sc3]), (3, .pointer (some ⟨b, 0, none⟩)), (5, .pointer (some ⟨b1, 0, none⟩)), (6, .pointer (some ⟨b2, 0, none⟩)), (7, .int .i64 0), (8, .pointer (some ⟨b3, 0, none⟩)), (9, .int .i64 e_), (10, .pointer (some ⟨b4, 0, none⟩)), (11, .int .i64 i), (12, .pointer (some ⟨b5, 0, none⟩)), (15, .bool ((path.length : Int) == 0)), (30, .bool t30), (47, .bool (e_ != 0)), (59, .bool (decide (i < (t.Kids.length : Int)))), (67, .bool (i != (at_ path 0)))] [.box b4 27 [.int .i64 t.Rule, .int .u8 t.Byte, .slice sa9 sn9 sc9], .box b2 27 [.int .i64 0, .int .u8 0, .slice none 0 0], .box b1 27 [.int .i64 s.Rule, .int .u8 s.Byte, .slice sa3 sn3 sc3], .box b 27 [.int .i64 t.Rule, .int .u8 t.Byte, .slice sa1 sn1 sc1], .box b3 27 [.int .i64 Rule_, .int .u8 Byte_, .slice sa5 sn5 sc5], .box b5 27 [.int .i64 Rule_1, .int .u8 Byte_1, .slice sa8 sn8 sc8], .row (.slice sa9 sn9 sc9) 27 3 (Kids_3.map eTree)] [(.slice sa1 sn1 sc1, .slice 3 (t.Kids.map eTree)), (.slice sa2 sn2 sc2, .slice 1 (path.map eI64)), (.slice sa3 sn3 sc3, .slice 3 (s.Kids.map eTree)), (.slice sa5 sn5 sc5, .slice 3 (Kids_.map eTree)), (.slice sa8 sn8 sc8, .slice 3 (Kids_2.map eTree))] N') (fun N4 hN4 => ?_) ?_
                    · refine c_block ?_
                      refine c_seq ?_
                      refine c_region ?_
                      refine o_v (v_load_box 4 ty27 rfl rfl rfl rfl rfl) rfl ?_
                      refine o_alloc zero27 rfl rfl fun b6 => ?_
                      refine o_store_box 0 rfl ty27 rfl rfl rfl rfl rfl rfl rfl ?_
                      refine o_seq ?_
                      refine c_seq ?_
                      refine c_seq ?_
                      refine c_region ?_
                      refine o_v (v_move rfl) rfl ?_
                      refine o_v (v_move rfl) rfl ?_
                      refine ite_some hL3 fun h6 hL3 => ?_
                      refine o_v (v_indexAddr_s (xs := path) (enc := eI64) sl44 rfl rfl (.f 1 rfl) h6) rfl ?_
                      refine o_v (v_load_s (xs := path) (enc := eI64) ty3 rfl (.f 1 rfl) h6 rfl rfl rfl rfl rfl rfl rfl) rfl ?_
                      refine o_v (v_bin rfl rfl rfl) rfl ?_
                      refine o_seq ?_
                      refine c_cut (fun E N' => ∀ (Rule_2 : Int) (Byte_2 : Int) (Kids_4 : List Tree) (sa10 : Option Addr) (sn10 sc10 : Nat), F.ref09.Put_j5 Kids_1 (F.ref09.Put_l3 k t path Rule_ Byte_ Kids_ j) i Rule_2 Byte_2 Kids_4 = some o3 → Sat E [(0, .agg #[.int .i64 t.Rule, .int .u8 t.Byte, .slice sa1 sn1 sc1]), (1, .slice sa2 sn2 sc2), (2, .agg #[.int .i64 s.Rule, .int .u8 s.Byte, .slice sa3 sn3 sc3]), (3, .pointer (some ⟨b, 0, none⟩)), (5, .pointer (some ⟨b1, 0, none⟩)), (6, .pointer (some ⟨b2, 0, none⟩)), (7, .int .i64 0), (8, .pointer (some ⟨b3, 0, none⟩)), (9, .int .i64 e_), (10, .pointer (some ⟨b4, 0, none⟩)), (11, .int .i64 i), (12, .pointer (some ⟨b6, 0, none⟩)), (15, .bool ((path.length : Int) == 0)), (30, .bool t30), (47, .bool (e_ != 0)), (59, .bool (decide (i < (t.Kids.length : Int)))), (67, .bool (i != (at_ path 0)))] [.box b6 27 [.int .i64 Rule_2, .int .u8 Byte_2, .slice sa10 sn10 sc10], .box b4 27 [.int .i64 t.Rule, .int .u8 t.Byte, .slice sa6 sn6 sc6], .box b2 27 [.int .i64 0, .int .u8 0, .slice none 0 0], .box b1 27 [.int .i64 s.Rule, .int .u8 s.Byte, .slice sa3 sn3 sc3], .box b 27 [.int .i64 t.Rule, .int .u8 t.Byte, .slice sa1 sn1 sc1], .box b3 27 [.int .i64 Rule_, .int .u8 Byte_, .slice sa5 sn5 sc5], .row (.slice sa6 sn6 sc6) 27 3 (Kids_1.map eTree)] [(.slice sa1 sn1 sc1, .slice 3 (t.Kids.map eTree)), (.slice sa2 sn2 sc2, .slice 1 (path.map eI64)), (.slice sa3 sn3 sc3, .slice 3 (s.Kids.map eTree)), (.slice sa10 sn10 sc10, .slice 3 (Kids_4.map eTree)), (.slice sa5 sn5 sc5, .slice 3 (Kids_.map eTree))] N') (fun N5 hN5 => ?_) ?_
                      · refine c_cond rfl (fun h9 => ?_) (fun h9 => ?_)
                        · replace hL3 := ite_t h9 hL3
                          refine c_region ?_
                          refine o_v (v_fieldAddr (v := .pointer (some ⟨b, 2, none⟩)) rfl (fun _ => by kernel_rfl)) rfl ?_
                          refine o_v (v_load_box 4 ty25 rfl rfl rfl rfl rfl) rfl ?_
                          refine o_v (v_move rfl) rfl ?_
                          refine ite_some hL3 fun h10 hL3 => ?_
                          refine o_v (v_indexAddr_s (xs := t.Kids) (enc := eTree) sl25 rfl rfl (.f 0 rfl) h10) rfl ?_
                          refine o_load_s (ds := [.int .i64 ((at_ t.Kids i).Rule), .int .u8 ((at_ t.Kids i).Byte), .slice 3 (((at_ t.Kids i).Kids).map eTree)]) (xs := t.Kids) (enc := eTree) ty27 rfl (.f 0 rfl) h10 (by simp only [eTree_eq] <;> rfl) rfl rfl rfl rfl rfl fun sa13 sn13 sc13 => ?_
                          obtain ⟨v1, h11, hL3⟩ := bd hL3
                          refine o_call0 call16 rfl (sub_cons 0 rfl sub_nil) (tri16 k (at_ t.Kids i) sa13 sn13 sc13 v1 h11) rfl ?_
                          rintro _ _ _ ⟨sa14, sn14, sc14, rfl, rfl, rfl⟩
                          refine o_store_box 0 rfl ty27 rfl rfl rfl rfl rfl rfl rfl ?_
                          refine o_nil ?_
                          refine s_st ?_ (hN5 v1.Rule v1.Byte v1.Kids sa14 sn14 sc14 hL3)
                          exact st_le [0, 0, 0, 0, 0, 0, 0] (le_cons rfl (le_cons rfl (le_cons rfl (le_cons rfl (le_cons rfl (le_cons rfl (le_cons rfl (le_cons rfl (le_cons rfl (le_cons rfl (le_cons rfl (le_cons rfl (le_cons rfl (le_cons rfl (le_cons rfl (le_cons rfl (le_cons rfl le_nil))))))))))))))))) rfl (sub_cons 2 rfl (sub_cons 3 rfl (sub_cons 4 rfl (sub_cons 0 rfl (sub_cons 5 rfl sub_nil)))))
                        · replace hL3 := ite_f h9 hL3
                          refine c_skip ?_
                          refine s_st ?_ (hN5 Rule_ Byte_ Kids_ sa5 sn5 sc5 hL3)
                          exact st_le [0, 0, 0, 0, 0, 0, 0] (le_cons rfl (le_cons rfl (le_cons rfl (le_cons rfl (le_cons rfl (le_cons rfl (le_cons rfl (le_cons rfl (le_cons rfl (le_cons rfl (le_cons rfl (le_cons rfl (le_cons rfl (le_cons rfl (le_cons rfl (le_cons rfl (le_cons rfl le_nil))))))))))))))))) rfl (sub_cons 0 rfl (sub_cons 1 rfl (sub_cons 2 rfl (sub_cons 3 rfl (sub_cons 3 rfl sub_nil)))))
                      · intro Rule_2 Byte_2 Kids_4 sa10 sn10 sc10 hL3
                        unfold F.ref09.Put_j5 at hL3
                        refine sat_wc ?_
                        refine c_region ?_
                        refine o_v (v_fieldAddr (v := .pointer (some ⟨b4, 2, none⟩)) rfl (fun _ => by kernel_rfl)) rfl ?_
                        refine o_v (v_load_box 1 ty25 rfl rfl rfl rfl rfl) rfl ?_
                        refine o_v (v_load_box 0 ty27 rfl rfl rfl rfl rfl) rfl ?_
                        refine o_buildSlice (enc := eTree) ([(Tree.mk Rule_2 Byte_2 Kids_4)] : List Tree) [.int .i64 Rule_2, .int .u8 Byte_2, .slice sa10 sn10 sc10] sl25 rfl (fun _ => by kernel_rfl) rfl rfl (by simp only [List.map, List.all, eTree_eq] <;> rfl) (cp_of (ds := [.int .i64 Rule_2, .int .u8 Byte_2, .slice 3 (Kids_4.map eTree)]) (by simp only [List.map, List.flatten, eTree_eq] <;> rfl) (.s rfl (.s rfl (.f 3 rfl (.nil))))) rfl fun sa11 sn11 sc11 => ?_
                        refine ite_some hL3 fun h7 hL3 => ?_
                        refine ite_some hL3 fun h8 hL3 => ?_
                        refine o_append (enc := eTree) (xs := Kids_1) (ys := ([(Tree.mk Rule_2 Byte_2 Kids_4)] : List Tree)) 7 sl25 rfl rfl rfl (.r 0 _ rfl) h7 h8 rfl fun sa12 sn12 sc12 => ?_
                        refine o_v (v_fieldAddr (v := .pointer (some ⟨b4, 2, none⟩)) rfl (fun _ => by kernel_rfl)) rfl ?_
                        refine o_store_box 2 rfl ty25 rfl rfl rfl rfl rfl rfl rfl ?_
                        refine o_nil ?_
                        refine s_st ?_ (hN4 Rule_2 Byte_2 Kids_4 (Kids_1 ++ ([(Tree.mk Rule_2 Byte_2 Kids_4)] : List Tree)) sa10 sn10 sc10 sa12 sn12 sc12 b6 hL3)
                        exact st_le [2, 2, 2, 2, 2, 1, 1] (le_cons rfl (le_cons rfl (le_cons rfl (le_cons rfl (le_cons rfl (le_cons rfl (le_cons rfl (le_cons rfl (le_cons rfl (le_cons rfl (le_cons rfl (le_cons rfl (le_cons rfl (le_cons rfl (le_cons rfl (le_cons rfl (le_cons rfl le_nil))))))))))))))))) rfl (sub_cons 0 rfl (sub_cons 1 rfl (sub_cons 2 rfl (sub_cons 4 rfl (sub_cons 3 rfl sub_nil)))))
                    · intro Rule_1 Byte_1 Kids_2 Kids_3 sa8 sn8 sc8 sa9 sn9 sc9 b5 hL3
                      unfold F.ref09.Put_j4 at hL3
                      refine sat_wc ?_
                      refine c_region ?_
                      refine o_v (v_move rfl) rfl ?_
                      refine o_v (v_bin rfl rfl rfl) rfl ?_
                      refine o_v (v_assign rfl) rfl ?_
                      refine o_nil ?_
                      intro a w hs
                      exact ⟨j, Nat.lt_succ_self j, IntKind.wrap .i64 (i + 1), Kids_3, sa9, sn9, sc9, hL3, st_le [0, 0, 0, 0, 0, 1] (le_cons rfl (le_cons rfl (le_cons rfl (le_cons rfl (le_cons rfl (le_cons rfl (le_cons rfl (le_cons rfl (le_cons rfl (le_cons rfl (le_cons rfl (le_cons rfl (le_cons rfl (le_cons rfl le_nil)))))))))))))) rfl (sub_cons 0 rfl (sub_cons 1 rfl (sub_cons 2 rfl (sub_cons 3 rfl sub_nil)))) a w hs⟩
                  · replace hL3 := ite_f h5 hL3
                    refine c_exit0 ?_
                    cases hL3
                    refine s_st ?_ (hN3 sa6 sn6 sc6)
                    exact st_le [0, 0, 0, 0, 0, 0] (le_cons rfl (le_cons rfl (le_cons rfl (le_cons rfl (le_cons rfl (le_cons rfl (le_cons rfl (le_cons rfl (le_cons rfl (le_cons rfl (le_cons rfl (le_cons rfl (le_cons rfl le_nil))))))))))))) rfl (sub_cons 0 rfl (sub_cons 1 rfl (sub_cons 2 rfl (sub_cons 3 rfl sub_nil))))
            · intro sa7 sn7 sc7
              refine sat_wc ?_
              refine c_seq ?_
              refine c_region ?_
              refine o_v (v_load_box 0 ty27 rfl rfl rfl rfl rfl) rfl ?_
              refine o_v (v_move rfl) rfl ?_
              refine o_store_box 1 rfl ty27 rfl rfl rfl rfl rfl rfl rfl ?_
              refine o_v (v_assign rfl) rfl ?_
              refine o_seq ?_
              refine c_ret ?_
              cases hF
              refine s_st (st_freeze 5 rfl) ?_
              refine s_ret2 rfl (r_cell 1 rfl ty27 rfl rfl rfl rfl) (r_tmp rfl) fun a w hs => ?_
              exact fin_sel hs [] ⟨sa7, sn7, sc7, rfl, rfl, rfl⟩ rfl (sub_cons 0 rfl sub_nil)
theorem tri27 (k : Nat) : (∀ (t : Tree) (path : List Int) (s : Tree) (sa1 : Option Addr) (sn1 sc1 : Nat) (sa2 : Option Addr) (sn2 sc2 : Nat) (sa3 : Option Addr) (sn3 sc3 : Nat) (r : Tree × Int), F.ref09.Put k t path s = some r → Tri Tryd.prog 27 [.agg #[.int .i64 t.Rule, .int .u8 t.Byte, .slice sa1 sn1 sc1], .slice sa2 sn2 sc2, .agg #[.int .i64 s.Rule, .int .u8 s.Byte, .slice sa3 sn3 sc3]] [] [(.slice sa1 sn1 sc1, .slice 3 (t.Kids.map eTree)), (.slice sa2 sn2 sc2, .slice 1 (path.map eI64)), (.slice sa3 sn3 sc3, .slice 3 (s.Kids.map eTree))] (fun o H Φ => ∃ (sa18 : Option Addr) (sn18 sc18 : Nat), o = .ret (.tuple #[.agg #[.int .i64 r.1.Rule, .int .u8 r.1.Byte, .slice sa18 sn18 sc18], .int .i64 r.2]) ∧ H = [] ∧ Φ = [(.slice sa18 sn18 sc18, .slice 3 (r.1.Kids.map eTree))])) := by
  induction k with
  | zero => exact fun _ _ _ _ _ _ _ _ _ _ _ _ _ h => nomatch (show none = some _ from h)
  | succ k ih => exact tri27_B k _ ih
theorem tri56_B (k : Nat) (g56 : Tree → Int → Bool → List Run → Option (List Run × Int))
    (hg56 : ∀ (t : Tree) (from_ : Int) (none_ : Bool) (out : List Run) (sa1 : Option Addr) (sn1 sc1 : Nat) (sa2 : Option Addr) (sn2 sc2 : Nat) (r : List Run × Int), g56 t from_ none_ out = some r → Tri Tryd.prog 56 [.agg #[.int .i64 t.Rule, .int .u8 t.Byte, .slice sa1 sn1 sc1], .int .i64 from_, .bool none_, .slice sa2 sn2 sc2] [.row (.slice sa2 sn2 sc2) 62 2 (out.map eRun)] [(.slice sa1 sn1 sc1, .slice 3 (t.Kids.map eTree))] (fun o H Φ => ∃ (sa13 : Option Addr) (sn13 sc13 : Nat), o = .ret (.tuple #[.slice sa13 sn13 sc13, .int .i64 r.2]) ∧ H = [.row (.slice sa13 sn13 sc13) 62 2 (r.1.map eRun)] ∧ Φ = [])) (t : Tree) (from_ : Int) (none_ : Bool) (out : List Run) (sa1 : Option Addr) (sn1 sc1 : Nat) (sa2 : Option Addr) (sn2 sc2 : Nat) (r : List Run × Int) (hF : F.trees.spans_B k g56 t from_ none_ out = some r) :
    Tri Tryd.prog 56 [.agg #[.int .i64 t.Rule, .int .u8 t.Byte, .slice sa1 sn1 sc1], .int .i64 from_, .bool none_, .slice sa2 sn2 sc2] [.row (.slice sa2 sn2 sc2) 62 2 (out.map eRun)] [(.slice sa1 sn1 sc1, .slice 3 (t.Kids.map eTree))] (fun o H Φ => ∃ (sa13 : Option Addr) (sn13 sc13 : Nat), o = .ret (.tuple #[.slice sa13 sn13 sc13, .int .i64 r.2]) ∧ H = [.row (.slice sa13 sn13 sc13) 62 2 (r.1.map eRun)] ∧ Φ = []) := by
  unfold F.trees.spans_B at hF
  refine tri_intro (n := 60) Tryd.func56 rfl Tryd.ntmps56 rfl fun w X => ?_
  refine c_seq ?_
  refine c_region ?_
  refine o_box rfl rfl rfl fun b => ?_
  refine o_v (v_assign rfl) rfl ?_
  refine o_v (v_assign rfl) rfl ?_
  refine o_seq ?_
  refine c_seq ?_
  refine c_region ?_
  refine o_v (v_move rfl) rfl ?_
  refine o_v (v_lenS (enc := eRun) out sl56 rfl (.r 1 _ rfl)) rfl ?_
  refine o_v (v_assign rfl) rfl ?_
  refine o_seq ?_
  refine c_seq ?_
  refine c_region ?_
  refine o_v (v_move rfl) rfl ?_
  refine o_v (v_move rfl) rfl ?_
  refine o_v (v_move rfl) rfl ?_
  refine o_v (v_build (v := .agg #[.int .i64 from_, .int .i64 from_]) rfl (fun _ => by kernel_rfl)) rfl ?_
  refine o_buildSlice (enc := eRun) ([(Run.mk from_ from_)] : List Run) [.int .i64 from_, .int .i64 from_] sl56 rfl (fun _ => by kernel_rfl) rfl rfl rfl (.s rfl (.s rfl (.nil))) rfl fun sa3 sn3 sc3 => ?_
  refine ite_some hF fun h1 hF => ?_
  refine ite_some hF fun h2 hF => ?_
  refine o_append (enc := eRun) (xs := out) (ys := ([(Run.mk from_ from_)] : List Run)) 2 sl56 rfl rfl rfl (.r 0 _ rfl) h1 h2 rfl fun sa4 sn4 sc4 => ?_
  refine o_v (v_assign rfl) rfl ?_
  refine o_seq ?_
  refine c_seq ?_
  refine c_region ?_
  refine o_v (v_move rfl) rfl ?_
  refine o_v (v_assign rfl) rfl ?_
  refine o_seq ?_
  refine c_seq ?_
  refine c_seq ?_
  refine c_cut (fun E N' => ∀ (t29 : Bool), F.trees.spans_j1 k t none_ g56 out from_ t29 = some r → Sat E [(0, .agg #[.int .i64 t.Rule, .int .u8 t.Byte, .slice sa1 sn1 sc1]), (1, .int .i64 from_), (2, .bool none_), (3, .slice sa4 sn4 sc4), (4, .pointer (some ⟨b, 0, none⟩)), (8, .slice none 0 0), (9, .int .i64 0), (10, .int .i64 (out.length : Int)), (11, .int .i64 from_), (29, .bool t29)] [.box b 27 [.int .i64 t.Rule, .int .u8 t.Byte, .slice sa1 sn1 sc1], .row (.slice sa4 sn4 sc4) 62 2 ((out ++ ([(Run.mk from_ from_)] : List Run)).map eRun)] [(.slice sa1 sn1 sc1, .slice 3 (t.Kids.map eTree))] N') (fun N5 hN5 => ?_) ?_
  · refine c_region ?_
    refine o_v (v_fieldAddr (v := .pointer (some ⟨b, 0, none⟩)) rfl (fun _ => by kernel_rfl)) rfl ?_
    refine o_v (v_load_box 1 ty3 rfl rfl rfl rfl rfl) rfl ?_
    refine o_v (v_bin rfl rfl rfl) rfl ?_
    refine o_v (v_move rfl) rfl ?_
    refine o_split (t := 26) rfl (fun h10 => ?_) (fun h10 => ?_)
    · replace hF := ite_t h10 hF
      refine o_on rfl rfl ?_
      refine o_v (v_move rfl) rfl ?_
      refine o_on rfl rfl ?_
      refine o_v (v_not rfl) rfl ?_
      refine o_v (v_pick_t rfl rfl) rfl ?_
      refine o_nil ?_
      refine s_st ?_ (hN5 (!none_) hF)
      exact st_le [1, 1] (le_cons rfl (le_cons rfl (le_cons rfl (le_cons rfl (le_cons rfl (le_cons rfl (le_cons rfl (le_cons rfl (le_cons rfl (le_cons rfl le_nil)))))))))) rfl (sub_cons 0 rfl sub_nil)
    · replace hF := ite_f h10 hF
      refine o_off rfl rfl (by decide) rfl ?_
      refine o_off rfl rfl (by decide) rfl ?_
      refine o_v (v_pick_f rfl rfl) rfl ?_
      refine o_nil ?_
      refine s_st ?_ (hN5 false hF)
      exact st_le [1, 1] (le_cons rfl (le_cons rfl (le_cons rfl (le_cons rfl (le_cons rfl (le_cons rfl (le_cons rfl (le_cons rfl (le_cons rfl (le_cons rfl le_nil)))))))))) rfl (sub_cons 0 rfl sub_nil)
  · intro t29 hF
    unfold F.trees.spans_j1 at hF
    refine sat_wc ?_
    refine c_cut (fun E N' => ∀ (end_ : Int), F.trees.spans_j2 k t none_ g56 out from_ end_ = some r → Sat E [(0, .agg #[.int .i64 t.Rule, .int .u8 t.Byte, .slice sa1 sn1 sc1]), (1, .int .i64 from_), (2, .bool none_), (3, .slice sa4 sn4 sc4), (4, .pointer (some ⟨b, 0, none⟩)), (8, .slice none 0 0), (9, .int .i64 0), (10, .int .i64 (out.length : Int)), (11, .int .i64 end_)] [.box b 27 [.int .i64 t.Rule, .int .u8 t.Byte, .slice sa1 sn1 sc1], .row (.slice sa4 sn4 sc4) 62 2 ((out ++ ([(Run.mk from_ from_)] : List Run)).map eRun)] [(.slice sa1 sn1 sc1, .slice 3 (t.Kids.map eTree))] N') (fun N5 hN5 => ?_) ?_
    · refine c_cond rfl (fun h9 => ?_) (fun h9 => ?_)
      · replace hF := ite_t h9 hF
        refine c_region ?_
        refine o_v (v_move rfl) rfl ?_
        refine o_v (v_bin rfl rfl rfl) rfl ?_
        refine o_v (v_assign rfl) rfl ?_
        refine o_nil ?_
        refine s_st ?_ (hN5 (IntKind.wrap .i64 (from_ + 1)) hF)
        exact st_le [0, 0] (le_cons rfl (le_cons rfl (le_cons rfl (le_cons rfl (le_cons rfl (le_cons rfl (le_cons rfl (le_cons rfl (le_cons rfl le_nil))))))))) rfl (sub_cons 0 rfl sub_nil)
      · replace hF := ite_f h9 hF
        refine c_skip ?_
        refine s_st ?_ (hN5 from_ hF)
        exact st_le [0, 0] (le_cons rfl (le_cons rfl (le_cons rfl (le_cons rfl (le_cons rfl (le_cons rfl (le_cons rfl (le_cons rfl (le_cons rfl le_nil))))))))) rfl (sub_cons 0 rfl sub_nil)
    · intro end_ hF
      unfold F.trees.spans_j2 at hF
      refine sat_wc ?_
      refine c_seq ?_
      refine c_seq ?_
      refine c_region ?_
      refine o_v (v_fieldAddr (v := .pointer (some ⟨b, 2, none⟩)) rfl (fun _ => by kernel_rfl)) rfl ?_
      refine o_v (v_load_box 0 ty25 rfl rfl rfl rfl rfl) rfl ?_
      refine o_v (v_lenS (enc := eTree) t.Kids sl25 rfl (.f 0 rfl)) rfl ?_
      refine o_v (v_move rfl) rfl ?_
      refine o_seq ?_
      obtain ⟨o3, ho3, hF⟩ := bd hF
      refine c_cut (fun E N' => ∀ (sa6 : Option Addr) (sn6 sc6 : Nat), Sat E [(0, .agg #[.int .i64 t.Rule, .int .u8 t.Byte, .slice sa1 sn1 sc1]), (1, .int .i64 from_), (2, .bool none_), (3, .slice sa6 sn6 sc6), (4, .pointer (some ⟨b, 0, none⟩)), (8, .slice none 0 0), (9, .int .i64 0), (10, .int .i64 (out.length : Int)), (11, .int .i64 o3.2), (33, .slice sa1 sn1 sc1)] [.box b 27 [.int .i64 t.Rule, .int .u8 t.Byte, .slice sa1 sn1 sc1], .row (.slice sa6 sn6 sc6) 62 2 (o3.1.map eRun)] [(.slice sa1 sn1 sc1, .slice 3 (t.Kids.map eTree))] N') (fun N3 hN3 => ?_) ?_
      · refine c_block ?_
        refine c_loopE (fun E j a w => ∃ (out1 : List Run) (end_1 : Int) (t35 : Int) (sa5 : Option Addr) (sn5 sc5 : Nat), F.trees.spans_l3 t none_ g56 j out1 end_1 t35 = some o3 ∧ St E [(0, .agg #[.int .i64 t.Rule, .int .u8 t.Byte, .slice sa1 sn1 sc1]), (1, .int .i64 from_), (2, .bool none_), (3, .slice sa5 sn5 sc5), (4, .pointer (some ⟨b, 0, none⟩)), (8, .slice none 0 0), (9, .int .i64 0), (10, .int .i64 (out.length : Int)), (11, .int .i64 end_1), (33, .slice sa1 sn1 sc1), (34, .int .i64 (t.Kids.length : Int)), (35, .int .i64 t35)] [.box b 27 [.int .i64 t.Rule, .int .u8 t.Byte, .slice sa1 sn1 sc1], .row (.slice sa5 sn5 sc5) 62 2 (out1.map eRun)] [(.slice sa1 sn1 sc1, .slice 3 (t.Kids.map eTree))] a w) k ?_ ?_
        · intro a w hs
          exact ⟨(out ++ ([(Run.mk from_ from_)] : List Run)), end_, 0, sa4, sn4, sc4, ho3, st_le [0, 0] (le_cons rfl (le_cons rfl (le_cons rfl (le_cons rfl (le_cons rfl (le_cons rfl (le_cons rfl (le_cons rfl (le_cons rfl (le_cons rfl (le_cons rfl (le_cons rfl le_nil)))))))))))) rfl (sub_cons 0 rfl sub_nil) a w hs⟩
        · rintro j a w ⟨out1, end_1, t35, sa5, sn5, sc5, hL3, hs⟩
          cases j with
          | zero => cases hL3
          | succ j =>
            refine wc_app hs ?_
            unfold F.trees.spans_l3 at hL3
            refine c_seq ?_
            refine c_region ?_
            refine o_v (v_bin rfl rfl rfl) rfl ?_
            refine o_seq ?_
            refine c_seq ?_
            refine c_cond rfl (fun h3 => ?_) (fun h3 => ?_)
            · replace hL3 := ite_t h3 hL3
              refine c_skip ?_
              refine sat_wc ?_
              refine c_seq ?_
              refine c_cut (fun E N' => ∀ (out2 : List Run) (end_2 : Int) (sa7 : Option Addr) (sn7 sc7 : Nat) (sa8 : Option Addr) (sn8 sc8 : Nat) (b1 : Nat), F.trees.spans_j4 (F.trees.spans_l3 t none_ g56 j) t35 out2 end_2 = some o3 → Sat E [(0, .agg #[.int .i64 t.Rule, .int .u8 t.Byte, .slice sa1 sn1 sc1]), (1, .int .i64 from_), (2, .bool none_), (3, .slice sa7 sn7 sc7), (4, .pointer (some ⟨b, 0, none⟩)), (8, .slice none 0 0), (9, .int .i64 0), (10, .int .i64 (out.length : Int)), (11, .int .i64 end_2), (13, .pointer (some ⟨b1, 0, none⟩)), (33, .slice sa1 sn1 sc1), (34, .int .i64 (t.Kids.length : Int)), (35, .int .i64 t35), (36, .bool (decide (t35 < (t.Kids.length : Int))))] [.box b 27 [.int .i64 t.Rule, .int .u8 t.Byte, .slice sa1 sn1 sc1], .box b1 27 [.int .i64 ((at_ t.Kids t35).Rule), .int .u8 ((at_ t.Kids t35).Byte), .slice sa8 sn8 sc8], .row (.slice sa7 sn7 sc7) 62 2 (out2.map eRun)] [(.slice sa1 sn1 sc1, .slice 3 (t.Kids.map eTree)), (.slice sa8 sn8 sc8, .slice 3 (((at_ t.Kids t35).Kids).map eTree))] N') (fun N4 hN4 => ?_) ?_
              · refine c_block ?_
                refine c_seq ?_
                refine c_region ?_
                refine ite_some hL3 fun h4 hL3 => ?_
                refine o_v (v_indexAddr_s (xs := t.Kids) (enc := eTree) sl25 rfl rfl (.f 0 rfl) h4) rfl ?_
                refine o_load_s (ds := [.int .i64 ((at_ t.Kids t35).Rule), .int .u8 ((at_ t.Kids t35).Byte), .slice 3 (((at_ t.Kids t35).Kids).map eTree)]) (xs := t.Kids) (enc := eTree) ty27 rfl (.f 0 rfl) h4 (by simp only [eTree_eq] <;> rfl) rfl rfl rfl rfl rfl fun sa9 sn9 sc9 => ?_
                refine o_alloc zero27 rfl rfl fun b2 => ?_
                refine o_store_box 0 rfl ty27 rfl rfl rfl rfl rfl rfl rfl ?_
                refine o_seq ?_
                refine c_cut (fun E N' => ∀ (out3 : List Run) (end_3 : Int) (sa10 : Option Addr) (sn10 sc10 : Nat), F.trees.spans_j5 (F.trees.spans_l3 t none_ g56 j) t35 out3 end_3 = some o3 → Sat E [(0, .agg #[.int .i64 t.Rule, .int .u8 t.Byte, .slice sa1 sn1 sc1]), (1, .int .i64 from_), (2, .bool none_), (3, .slice sa10 sn10 sc10), (4, .pointer (some ⟨b, 0, none⟩)), (8, .slice none 0 0), (9, .int .i64 0), (10, .int .i64 (out.length : Int)), (11, .int .i64 end_3), (13, .pointer (some ⟨b2, 0, none⟩)), (33, .slice sa1 sn1 sc1), (34, .int .i64 (t.Kids.length : Int)), (35, .int .i64 t35), (36, .bool (decide (t35 < (t.Kids.length : Int))))] [.box b2 27 [.int .i64 ((at_ t.Kids t35).Rule), .int .u8 ((at_ t.Kids t35).Byte), .slice sa9 sn9 sc9], .box b 27 [.int .i64 t.Rule, .int .u8 t.Byte, .slice sa1 sn1 sc1], .row (.slice sa10 sn10 sc10) 62 2 (out3.map eRun)] [(.slice sa1 sn1 sc1, .slice 3 (t.Kids.map eTree)), (.slice sa9 sn9 sc9, .slice 3 (((at_ t.Kids t35).Kids).map eTree))] N') (fun N5 hN5 => ?_) ?_
                · refine c_region ?_
                  refine o_v (v_load_box 0 ty27 rfl rfl rfl rfl rfl) rfl ?_
                  refine o_v (v_move rfl) rfl ?_
                  refine o_v (v_move rfl) rfl ?_
                  refine o_v (v_move rfl) rfl ?_
                  refine o_split (t := 43) rfl (fun h5 => ?_) (fun h5 => ?_)
                  · replace hL3 := ite_t h5 hL3
                    refine o_off rfl rfl (by decide) rfl ?_
                    refine o_off rfl rfl (by decide) rfl ?_
                    refine o_off rfl rfl (by decide) rfl ?_
                    refine o_v (v_pick_t rfl rfl) rfl ?_
                    refine o_v (v_move rfl) rfl ?_
                    obtain ⟨v, h6, hL3⟩ := bd hL3
                    refine o_call [2] call56 rfl rfl rfl (sub_cons 0 rfl sub_nil) (cap := #[]) (by rw [show (#[] : Array Value).toList = [] from rfl, List.append_nil]; exact (hg56 (at_ t.Kids t35) end_1 true out1 sa9 sn9 sc9 sa5 sn5 sc5 v h6)) rfl ?_
                    rintro _ _ _ ⟨sa11, sn11, sc11, rfl, rfl, rfl⟩
                    refine o_v (v_move rfl) rfl ?_
                    refine o_v (v_extract rfl rfl) rfl ?_
                    refine o_v (v_extract rfl rfl) rfl ?_
                    refine o_v (v_assign rfl) rfl ?_
                    refine o_v (v_assign rfl) rfl ?_
                    refine o_nil ?_
                    refine s_st ?_ (hN5 v.1 v.2 sa11 sn11 sc11 hL3)
                    exact st_le [1, 1, 0] (le_cons rfl (le_cons rfl (le_cons rfl (le_cons rfl (le_cons rfl (le_cons rfl (le_cons rfl (le_cons rfl (le_cons rfl (le_cons rfl (le_cons rfl (le_cons rfl (le_cons rfl (le_cons rfl le_nil)))))))))))))) rfl (sub_cons 1 rfl (sub_cons 0 rfl sub_nil))
                  · replace hL3 := ite_f h5 hL3
                    refine o_on rfl rfl ?_
                    refine o_v (v_fieldAddr (v := .pointer (some ⟨b, 0, none⟩)) rfl (fun _ => by kernel_rfl)) rfl ?_
                    refine o_on rfl rfl ?_
                    refine o_v (v_load_box 1 ty3 rfl rfl rfl rfl rfl) rfl ?_
                    refine o_on rfl rfl ?_
                    refine o_v (v_bin rfl rfl rfl) rfl ?_
                    refine o_v (v_pick_f rfl rfl) rfl ?_
                    refine o_v (v_move rfl) rfl ?_
                    obtain ⟨v1, h7, hL3⟩ := bd hL3
                    refine o_call [2] call56 rfl rfl rfl (sub_cons 0 rfl sub_nil) (cap := #[]) (by rw [show (#[] : Array Value).toList = [] from rfl, List.append_nil]; exact (hg56 (at_ t.Kids t35) end_1 (t.Rule == (-1)) out1 sa9 sn9 sc9 sa5 sn5 sc5 v1 h7)) rfl ?_
                    rintro _ _ _ ⟨sa12, sn12, sc12, rfl, rfl, rfl⟩
                    refine o_v (v_move rfl) rfl ?_
                    refine o_v (v_extract rfl rfl) rfl ?_
                    refine o_v (v_extract rfl rfl) rfl ?_
                    refine o_v (v_assign rfl) rfl ?_
                    refine o_v (v_assign rfl) rfl ?_
                    refine o_nil ?_
                    refine s_st ?_ (hN5 v1.1 v1.2 sa12 sn12 sc12 hL3)
                    exact st_le [1, 1, 0] (le_cons rfl (le_cons rfl (le_cons rfl (le_cons rfl (le_cons rfl (le_cons rfl (le_cons rfl (le_cons rfl (le_cons rfl (le_cons rfl (le_cons rfl (le_cons rfl (le_cons rfl (le_cons rfl le_nil)))))))))))))) rfl (sub_cons 1 rfl (sub_cons 0 rfl sub_nil))
                · intro out3 end_3 sa10 sn10 sc10 hL3
                  unfold F.trees.spans_j5 at hL3
                  refine s_st ?_ (hN4 out3 end_3 sa10 sn10 sc10 sa9 sn9 sc9 b2 hL3)
                  exact st_le [1, 0, 0] (le_cons rfl (le_cons rfl (le_cons rfl (le_cons rfl (le_cons rfl (le_cons rfl (le_cons rfl (le_cons rfl (le_cons rfl (le_cons rfl (le_cons rfl (le_cons rfl (le_cons rfl (le_cons rfl le_nil)))))))))))))) rfl (sub_cons 0 rfl (sub_cons 1 rfl sub_nil))
              · intro out2 end_2 sa7 sn7 sc7 sa8 sn8 sc8 b1 hL3
                unfold F.trees.spans_j4 at hL3
                refine sat_wc ?_
                refine c_region ?_
                refine o_v (v_bin rfl rfl rfl) rfl ?_
                refine o_v (v_move rfl) rfl ?_
                refine o_nil ?_
                intro a w hs
                exact ⟨j, Nat.lt_succ_self j, out2, end_2, IntKind.wrap .i64 (t35 + 1), sa7, sn7, sc7, hL3, st_le [0, 1] (le_cons rfl (le_cons rfl (le_cons rfl (le_cons rfl (le_cons rfl (le_cons rfl (le_cons rfl (le_cons rfl (le_cons rfl (le_cons rfl (le_cons rfl (le_cons rfl le_nil)))))))))))) rfl (sub_cons 0 rfl sub_nil) a w hs⟩
            · replace hL3 := ite_f h3 hL3
              refine c_exit0 ?_
              cases hL3
              refine s_st ?_ (hN3 sa5 sn5 sc5)
              exact st_le [0, 0] (le_cons rfl (le_cons rfl (le_cons rfl (le_cons rfl (le_cons rfl (le_cons rfl (le_cons rfl (le_cons rfl (le_cons rfl (le_cons rfl le_nil)))))))))) rfl (sub_cons 0 rfl sub_nil)
      · intro sa6 sn6 sc6
        refine sat_wc ?_
        refine c_seq ?_
        refine c_region ?_
        refine o_v (v_move rfl) rfl ?_
        refine o_v (v_move rfl) rfl ?_
        refine o_v (v_move rfl) rfl ?_
        refine ite_some hF fun h8 hF => ?_
        refine o_v (v_indexAddr_s (xs := o3.1) (enc := eRun) sl56 rfl rfl (.r 1 _ rfl) h8) rfl ?_
        refine o_v (v_fieldAddr (v := .pointer (some ⟨blkA sa6, offA sa6 + (Int.toNat (out.length : Int) * 2 + 1), none⟩)) rfl (fun _ => by kernel_rfl)) rfl ?_
        refine o_store_s (xs := o3.1) (enc := eRun) 1 (Run.mk ((at_ o3.1 (out.length : Int)).Lo) o3.2) rfl ty3 rfl rfl rfl rfl h8 (.s rfl (.nil)) rfl rfl rfl ?_
        refine o_seq ?_
        refine c_seq ?_
        refine c_region ?_
        refine o_v (v_move rfl) rfl ?_
        refine o_v (v_move rfl) rfl ?_
        refine o_v (v_assign rfl) rfl ?_
        refine o_v (v_assign rfl) rfl ?_
        refine o_seq ?_
        refine c_ret ?_
        cases hF
        refine s_ret2 rfl (r_tmp rfl) (r_tmp rfl) fun a w hs => ?_
        exact fin_sel hs [1] ⟨sa6, sn6, sc6, rfl, rfl, rfl⟩ rfl sub_nil
theorem tri56 (k : Nat) : (∀ (t : Tree) (from_ : Int) (none_ : Bool) (out : List Run) (sa1 : Option Addr) (sn1 sc1 : Nat) (sa2 : Option Addr) (sn2 sc2 : Nat) (r : List Run × Int), F.trees.spans k t from_ none_ out = some r → Tri Tryd.prog 56 [.agg #[.int .i64 t.Rule, .int .u8 t.Byte, .slice sa1 sn1 sc1], .int .i64 from_, .bool none_, .slice sa2 sn2 sc2] [.row (.slice sa2 sn2 sc2) 62 2 (out.map eRun)] [(.slice sa1 sn1 sc1, .slice 3 (t.Kids.map eTree))] (fun o H Φ => ∃ (sa13 : Option Addr) (sn13 sc13 : Nat), o = .ret (.tuple #[.slice sa13 sn13 sc13, .int .i64 r.2]) ∧ H = [.row (.slice sa13 sn13 sc13) 62 2 (r.1.map eRun)] ∧ Φ = [])) := by
  induction k with
  | zero => exact fun _ _ _ _ _ _ _ _ _ _ _ h => nomatch (show none = some _ from h)
  | succ k ih => exact tri56_B k _ ih
theorem tri32 (k : Nat) (t : Tree) (sa1 : Option Addr) (sn1 sc1 : Nat) (r : List Run) (hF : F.trees.Spans k t = some r) :
    Tri Tryd.prog 32 [.agg #[.int .i64 t.Rule, .int .u8 t.Byte, .slice sa1 sn1 sc1]] [] [(.slice sa1 sn1 sc1, .slice 3 (t.Kids.map eTree))] (fun o H Φ => ∃ (sa3 : Option Addr) (sn3 sc3 : Nat), o = .ret (.slice sa3 sn3 sc3) ∧ H = [.row (.slice sa3 sn3 sc3) 62 2 (r.map eRun)] ∧ Φ = []) := by
  unfold F.trees.Spans at hF
  refine tri_intro (n := 11) Tryd.func32 rfl Tryd.ntmps32 rfl fun w X => ?_
  refine c_seq ?_
  refine c_region ?_
  refine o_box rfl rfl rfl fun b => ?_
  refine o_v (v_assign rfl) rfl ?_
  refine o_seq ?_
  refine c_seq ?_
  refine c_region ?_
  refine o_v (v_load_box 0 ty27 rfl rfl rfl rfl rfl) rfl ?_
  obtain ⟨v, h1, hF⟩ := bd hF
  refine o_st (st_nilrow 62 2) ?_
  refine o_call [0] call56 rfl rfl rfl (sub_cons 0 rfl sub_nil) (cap := #[]) (by rw [show (#[] : Array Value).toList = [] from rfl, List.append_nil]; exact (tri56 k t 0 false ([] : List Run) sa1 sn1 sc1 none 0 0 v h1)) rfl ?_
  rintro _ _ _ ⟨sa2, sn2, sc2, rfl, rfl, rfl⟩
  refine o_v (v_move rfl) rfl ?_
  refine o_v (v_extract rfl rfl) rfl ?_
  refine o_v (v_extract rfl rfl) rfl ?_
  refine o_v (v_assign rfl) rfl ?_
  refine o_v (v_assign rfl) rfl ?_
  refine o_seq ?_
  refine c_seq ?_
  refine c_region ?_
  refine o_v (v_move rfl) rfl ?_
  refine o_v (v_assign rfl) rfl ?_
  refine o_seq ?_
  refine c_ret ?_
  cases hF
  refine s_ret1 rfl (r_tmp rfl) fun a w hs => ?_
  exact fin_sel hs [0] ⟨sa2, sn2, sc2, rfl, rfl, rfl⟩ rfl sub_nil
theorem triD50_pan (p0 : Tree) (p1 : Fault) (y : Fault) (b : Nat) (b1 : Nat) (sa1 : Option Addr) (sn1 sc1 : Nat) (r : Tree × Fault) (hF : F.trees.Parse_c1_pan p0 p1 y = some r) :
    TriD Tryd.prog 50 [.pointer (some ⟨b, 0, none⟩), .pointer (some ⟨b1, 0, none⟩)] [.box b 27 [.int .i64 p0.Rule, .int .u8 p0.Byte, .slice sa1 sn1 sc1], .box b1 39 [.int .i64 p1.At, .int .i64 p1.Code]] [(.slice sa1 sn1 sc1, .slice 3 (p0.Kids.map eTree))] (some (.iface 39 (.agg #[.int .i64 y.At, .int .i64 y.Code]))) (fun H Φ => ∃ (sa2 : Option Addr) (sn2 sc2 : Nat), H = [.box b 27 [.int .i64 r.1.Rule, .int .u8 r.1.Byte, .slice sa2 sn2 sc2], .box b1 39 [.int .i64 r.2.At, .int .i64 r.2.Code]] ∧ Φ = [(.slice sa2 sn2 sc2, .slice 3 (r.1.Kids.map eTree))]) := by
  unfold F.trees.Parse_c1_pan at hF
  refine triD_intro (n := 9) Tryd.func50 rfl Tryd.ntmps50 rfl rfl rfl rfl rfl rfl rfl rfl rfl rfl fun w X => ?_
  refine c_seq ?_
  refine c_region ?_
  refine o_v (v_move rfl) rfl ?_
  refine o_v (v_binr (v := .bool true) rfl rfl (fun _ => by kernel_rfl)) rfl ?_
  refine o_seq ?_
  refine c_cond rfl (fun _ => ?_) (fun h => Bool.noConfusion h)
  refine c_draw (n := 5) [] mixed rfl rfl ?_
  refine d_val 0 rfl pnokF (by kernel_rfl) (by kernel_rfl) (by kernel_rfl) rfl (v_build (v := .agg #[.int .i64 0, .int .u8 0, .slice none 0 0]) rfl (fun _ => by kernel_rfl)) ?_
  refine d_val 1 rfl pnokF (by kernel_rfl) (by kernel_rfl) (by kernel_rfl) rfl (v_move rfl) ?_
  refine d_val 2 rfl pnokF (by kernel_rfl) (by kernel_rfl) (by kernel_rfl) rfl (v_typeAssert (v := .agg #[.int .i64 y.At, .int .i64 y.Code]) rfl (fun _ => by kernel_rfl)) ?_
  refine d_one 3 rfl (by kernel_rfl) ?_
  refine o_store_box 0 rfl ty27 rfl rfl rfl rfl rfl rfl rfl ?_
  refine d_next [] 0 rfl rfl ?_
  refine d_one 4 rfl (by kernel_rfl) ?_
  refine o_store_box 1 rfl ty39 rfl rfl rfl rfl rfl rfl rfl ?_
  refine d_next [] 0 rfl rfl ?_
  refine d_done (by kernel_rfl) ?_
  cases hF
  refine s_st (st_nilfact 3) ?_
  exact s_retDs [0, 0] ⟨none, 0, 0, rfl, rfl⟩ rfl (sub_cons 0 rfl sub_nil)
theorem triD50_ret (p0 : Tree) (p1 : Fault) (b : Nat) (b1 : Nat) (sa1 : Option Addr) (sn1 sc1 : Nat) (r : Tree × Fault) (hF : F.trees.Parse_c1_ret p0 p1 = some r) :
    TriD Tryd.prog 50 [.pointer (some ⟨b, 0, none⟩), .pointer (some ⟨b1, 0, none⟩)] [.box b 27 [.int .i64 p0.Rule, .int .u8 p0.Byte, .slice sa1 sn1 sc1], .box b1 39 [.int .i64 p1.At, .int .i64 p1.Code]] [(.slice sa1 sn1 sc1, .slice 3 (p0.Kids.map eTree))] none (fun H Φ => ∃ (sa2 : Option Addr) (sn2 sc2 : Nat), H = [.box b 27 [.int .i64 r.1.Rule, .int .u8 r.1.Byte, .slice sa2 sn2 sc2], .box b1 39 [.int .i64 r.2.At, .int .i64 r.2.Code]] ∧ Φ = [(.slice sa2 sn2 sc2, .slice 3 (r.1.Kids.map eTree))]) := by
  unfold F.trees.Parse_c1_ret at hF
  refine triD_intro (n := 9) Tryd.func50 rfl Tryd.ntmps50 rfl rfl rfl rfl rfl rfl rfl rfl rfl rfl fun w X => ?_
  refine c_seq ?_
  refine c_region ?_
  refine o_v (v_move rfl) rfl ?_
  refine o_v (v_binr (v := .bool false) rfl rfl (fun _ => by kernel_rfl)) rfl ?_
  refine o_seq ?_
  refine c_cond rfl (fun h => Bool.noConfusion h) (fun _ => ?_)
  refine c_skip ?_
  cases hF
  exact s_retDs [0, 0] ⟨sa1, sn1, sc1, rfl, rfl⟩ rfl (sub_cons 0 rfl sub_nil)
theorem tri22 (k : Nat) (text_ : List UInt8) (r : Tree × Fault) (hF : F.trees.Parse k text_ = some r) :
    Tri Tryd.prog 22 [.string (bs text_)] [] [] (fun o H Φ => ∃ (sa5 : Option Addr) (sn5 sc5 : Nat), o = .ret (.tuple #[.agg #[.int .i64 r.1.Rule, .int .u8 r.1.Byte, .slice sa5 sn5 sc5], .agg #[.int .i64 r.2.At, .int .i64 r.2.Code]]) ∧ H = [] ∧ Φ = [(.slice sa5 sn5 sc5, .slice 3 (r.1.Kids.map eTree))]) := by
  unfold F.trees.Parse at hF
  refine tri_introD (n := 27) Tryd.func22 rfl Tryd.ntmps22 rfl fun w X => ?_
  refine c_seq ?_
  refine c_region ?_
  refine o_alloc zero27 rfl rfl fun b => ?_
  refine o_alloc zero39 rfl rfl fun b1 => ?_
  refine o_seq ?_
  refine c_seq ?_
  refine c_seq ?_
  refine c_region ?_
  refine o_v (v_move rfl) rfl ?_
  refine o_v (v_len_str Tryd.underlying9 rfl) rfl ?_
  refine o_v (v_bin rfl rfl rfl) rfl ?_
  refine o_seq ?_
  refine c_cond rfl (fun h1 => ?_) (fun h1 => ?_)
  · replace hF := ite_t h1 hF
    refine c_seq ?_
    refine c_region ?_
    refine o_v (v_build (v := .agg #[.int .i64 0, .int .u8 0, .slice none 0 0]) rfl (fun _ => by kernel_rfl)) rfl ?_
    refine o_v (v_build (v := .agg #[.int .i64 0, .int .i64 2]) rfl (fun _ => by kernel_rfl)) rfl ?_
    refine o_store_box 1 rfl ty27 rfl rfl rfl rfl rfl rfl rfl ?_
    refine o_store_box 0 rfl ty39 rfl rfl rfl rfl rfl rfl rfl ?_
    refine o_seq ?_
    refine c_ret ?_
    cases hF
    refine s_st (st_nilfact 3) ?_
    refine s_ret2 rfl (r_cell 1 rfl ty27 rfl rfl rfl rfl) (r_cell 0 rfl ty39 rfl rfl rfl rfl) fun a w hs => ?_
    exact fin_sel hs [] ⟨none, 0, 0, rfl, rfl, rfl⟩ rfl (sub_cons 0 rfl sub_nil)
  · replace hF := ite_f h1 hF
    refine c_skip ?_
    refine sat_wc ?_
    refine c_seq ?_
    refine c_region ?_
    refine o_v (v_makeFunc (vs := [.pointer (some ⟨b, 0, none⟩), .pointer (some ⟨b1, 0, none⟩)]) rfl) rfl ?_
    refine o_defer rfl ?_
    refine o_seq ?_
    refine c_seq ?_
    refine c_region ?_
    refine o_v (v_move rfl) rfl ?_
    refine o_v (v_build (v := .agg #[.string (bs text_), .int .i64 0]) rfl (fun _ => by kernel_rfl)) rfl ?_
    refine o_box rfl rfl rfl fun b2 => ?_
    refine o_v (v_assign rfl) rfl ?_
    refine o_seq ?_
    refine c_seq ?_
    refine c_region ?_
    refine o_v (v_move rfl) rfl ?_
    obtain ⟨v, h2, hF⟩ := bd hF
    rcases v with x_ | y_
    · replace hF := pn_ok hF
      refine o_call [0] call51 rfl rfl rfl sub_nil (cap := #[]) (by rw [show (#[] : Array Value).toList = [] from rfl, List.append_nil]; exact (tri51 k (Trees_reader.mk text_ 0) 200 b2 (.ok x_) h2)) rfl ?_
      rintro _ _ _ ⟨sa1, sn1, sc1, rfl, rfl, rfl⟩
      refine o_store_box 2 rfl ty27 rfl rfl rfl rfl rfl rfl rfl ?_
      refine o_seq ?_
      refine c_seq ?_
      refine c_seq ?_
      refine c_region ?_
      refine o_v (v_move rfl) rfl ?_
      refine o_v (v_nilCheck rfl) rfl ?_
      refine o_v (v_fieldAddr (v := .pointer (some ⟨b2, 1, none⟩)) rfl (fun _ => by kernel_rfl)) rfl ?_
      refine o_v (v_load_box 0 ty3 rfl rfl rfl rfl rfl) rfl ?_
      refine o_v (v_move rfl) rfl ?_
      refine o_v (v_len_str Tryd.underlying9 rfl) rfl ?_
      refine o_v (v_bin rfl rfl rfl) rfl ?_
      refine o_seq ?_
      refine c_cut (fun E N' => F.trees.Parse_j1 x_ = some r → Sat E [(0, .string (bs text_)), (2, .pointer (some ⟨b, 0, none⟩)), (3, .pointer (some ⟨b1, 0, none⟩)), (4, .pointer (some ⟨b2, 0, none⟩)), (7, .bool (decide (65536 < (text_.length : Int))))] [.box b2 76 [.string (bs x_.2.text), .int .i64 x_.2.at_], .box b1 39 [.int .i64 0, .int .i64 0], .box b 27 [.int .i64 x_.1.Rule, .int .u8 x_.1.Byte, .slice sa1 sn1 sc1]] [(.slice sa1 sn1 sc1, .slice 3 (x_.1.Kids.map eTree))] N') (fun N1 hN1 => ?_) ?_
      · refine c_cond rfl (fun h4 => ?_) (fun h4 => ?_)
        · replace hF := ite_t h4 hF
          refine c_region ?_
          refine o_v (v_move rfl) rfl ?_
          obtain ⟨v2, h5, hF⟩ := bd hF
          rcases v2 with x_1 | y_1
          · replace hF := pn_ok hF
            refine o_call [0] call52 rfl rfl rfl sub_nil (cap := #[]) (by rw [show (#[] : Array Value).toList = [] from rfl, List.append_nil]; exact (tri52 x_.2 15 b2 (.ok x_1) h5)) rfl ?_
            rintro _ _ _ ⟨rfl, rfl, rfl⟩
            refine o_nil ?_
            refine s_st ?_ (hN1 hF)
            exact st_le [0, 0, 0] (le_cons rfl (le_cons rfl (le_cons rfl (le_cons rfl (le_cons rfl le_nil))))) rfl (sub_cons 0 rfl sub_nil)
          · replace hF := pn_pan hF
            refine o_call [0] call52 rfl rfl rfl sub_nil (cap := #[]) (by rw [show (#[] : Array Value).toList = [] from rfl, List.append_nil]; exact (tri52 x_.2 15 b2 (.pan y_1) h5)) rfl ?_
            rintro _ _ _ ⟨rfl, rfl, rfl⟩
            obtain ⟨v3, h6, hF⟩ := bd hF
            refine s_defer [1, 0] (some (.iface 39 (.agg #[.int .i64 y_1.At, .int .i64 y_1.Code]))) rfl call50 rfl (sub_cons 0 rfl sub_nil) (triD50_pan x_.1 (Fault.mk 0 0) y_1 b b1 sa1 sn1 sc1 v3 h6) ?_
            rintro _ _ ⟨sa3, sn3, sc3, rfl, rfl⟩
            cases hF
            refine s_ret2 rfl (r_cell 0 rfl ty27 rfl rfl rfl rfl) (r_cell 1 rfl ty39 rfl rfl rfl rfl) fun a w hs => ?_
            exact fin_sel hs [] ⟨sa3, sn3, sc3, rfl, rfl, rfl⟩ rfl (sub_cons 0 rfl sub_nil)
        · replace hF := ite_f h4 hF
          refine c_skip ?_
          refine s_st ?_ (hN1 hF)
          exact st_le [0, 0, 0] (le_cons rfl (le_cons rfl (le_cons rfl (le_cons rfl (le_cons rfl le_nil))))) rfl (sub_cons 0 rfl sub_nil)
      · intro hF
        unfold F.trees.Parse_j1 at hF
        refine sat_wc ?_
        refine c_seq ?_
        refine c_region ?_
        refine o_v (v_load_box 2 ty27 rfl rfl rfl rfl rfl) rfl ?_
        refine o_v (v_build (v := .agg #[.int .i64 0, .int .i64 0]) rfl (fun _ => by kernel_rfl)) rfl ?_
        refine o_store_box 2 rfl ty27 rfl rfl rfl rfl rfl rfl rfl ?_
        refine o_store_box 1 rfl ty39 rfl rfl rfl rfl rfl rfl rfl ?_
        refine o_seq ?_
        refine c_ret ?_
        obtain ⟨v1, h3, hF⟩ := bd hF
        refine s_defer [2, 1] none rfl call50 rfl (sub_cons 0 rfl sub_nil) (triD50_ret x_.1 (Fault.mk 0 0) b b1 sa1 sn1 sc1 v1 h3) ?_
        rintro _ _ ⟨sa2, sn2, sc2, rfl, rfl⟩
        cases hF
        refine s_ret2 rfl (r_cell 0 rfl ty27 rfl rfl rfl rfl) (r_cell 1 rfl ty39 rfl rfl rfl rfl) fun a w hs => ?_
        exact fin_sel hs [] ⟨sa2, sn2, sc2, rfl, rfl, rfl⟩ rfl (sub_cons 0 rfl sub_nil)
    · replace hF := pn_pan hF
      refine o_call [0] call51 rfl rfl rfl sub_nil (cap := #[]) (by rw [show (#[] : Array Value).toList = [] from rfl, List.append_nil]; exact (tri51 k (Trees_reader.mk text_ 0) 200 b2 (.pan y_) h2)) rfl ?_
      rintro _ _ _ ⟨rfl, rfl, rfl⟩
      refine s_st (st_nilfact 3) ?_
      obtain ⟨v4, h7, hF⟩ := bd hF
      refine s_defer [1, 0] (some (.iface 39 (.agg #[.int .i64 y_.At, .int .i64 y_.Code]))) rfl call50 rfl (sub_cons 0 rfl sub_nil) (triD50_pan (Tree.mk 0 0 ([] : List Tree)) (Fault.mk 0 0) y_ b b1 none 0 0 v4 h7) ?_
      rintro _ _ ⟨sa4, sn4, sc4, rfl, rfl⟩
      cases hF
      refine s_ret2 rfl (r_cell 0 rfl ty27 rfl rfl rfl rfl) (r_cell 1 rfl ty39 rfl rfl rfl rfl) fun a w hs => ?_
      exact fin_sel hs [] ⟨sa4, sn4, sc4, rfl, rfl, rfl⟩ rfl (sub_cons 0 rfl sub_nil)
theorem tri15 (k : Nat) (r : Bool) (hF : F.law09.alive k = some r) :
    Tri Tryd.prog 15 [] [] [gf10 0] (fun o H Φ => o = .ret (.bool r) ∧ H = [] ∧ Φ = []) := by
  unfold F.law09.alive at hF
  refine tri_intro (n := 74) Tryd.func15 rfl Tryd.ntmps15 rfl fun w X => ?_
  refine c_seq ?_
  refine c_region ?_
  refine o_v (v_assign rfl) rfl ?_
  refine o_seq ?_
  refine c_seq ?_
  refine c_region ?_
  obtain ⟨v, h1, hF⟩ := bd hF
  refine o_call0 call38 rfl sub_nil (tri38 v h1) rfl ?_
  rintro _ _ _ ⟨sa1, sn1, sc1, rfl, rfl, rfl⟩
  obtain ⟨v1, h2, hF⟩ := bd hF
  refine o_callSB call20 rfl (lent_f 1 rfl (lent_f 0 rfl lent_nil)) (tri20 k v sa1 sn1 sc1 v1 h2) rfl ?_
  refine o_v (v_move rfl) rfl ?_
  refine o_v (v_extract rfl rfl) rfl ?_
  refine o_v (v_extract rfl rfl) rfl ?_
  refine o_v (v_assign rfl) rfl ?_
  refine o_v (v_assign rfl) rfl ?_
  refine o_seq ?_
  refine c_seq ?_
  refine c_region ?_
  obtain ⟨v2, h3, hF⟩ := bd hF
  refine o_call0 call22 rfl sub_nil (tri22 k ([51, 40, 41] : List UInt8) v2 h3) rfl ?_
  rintro _ _ _ ⟨sa2, sn2, sc2, rfl, rfl, rfl⟩
  refine o_v (v_move rfl) rfl ?_
  refine o_v (v_extract rfl rfl) rfl ?_
  refine o_v (v_extract rfl rfl) rfl ?_
  refine o_alloc zero27 rfl rfl fun b => ?_
  refine o_alloc zero39 rfl rfl fun b1 => ?_
  refine o_store_box 1 rfl ty27 rfl rfl rfl rfl rfl rfl rfl ?_
  refine o_store_box 0 rfl ty39 rfl rfl rfl rfl rfl rfl rfl ?_
  refine o_seq ?_
  refine c_seq ?_
  refine c_region ?_
  refine o_call0 call38 rfl sub_nil (tri38 v h1) rfl ?_
  rintro _ _ _ ⟨sa3, sn3, sc3, rfl, rfl, rfl⟩
  obtain ⟨v3, h4, hF⟩ := bd hF
  refine o_callSB call30 rfl (lent_f 0 rfl lent_nil) (tri30 k v sa3 sn3 sc3 v3 h4) rfl ?_
  refine o_v (v_move rfl) rfl ?_
  refine o_v (v_extract rfl rfl) rfl ?_
  refine o_v (v_extract rfl rfl) rfl ?_
  refine o_v (v_assign rfl) rfl ?_
  refine o_v (v_assign rfl) rfl ?_
  refine o_seq ?_
  refine c_seq ?_
  refine c_region ?_
  refine o_call0 call38 rfl sub_nil (tri38 v h1) rfl ?_
  rintro _ _ _ ⟨sa4, sn4, sc4, rfl, rfl, rfl⟩
  refine o_buildSlice (enc := eI64) ([2, 0] : List Int) [.int .i64 2, .int .i64 0] sl44 rfl (fun _ => by kernel_rfl) rfl rfl rfl (.s rfl (.s rfl (.nil))) rfl fun sa5 sn5 sc5 => ?_
  obtain ⟨v4, h5, hF⟩ := bd hF
  refine o_st (st_freeze 0 rfl) ?_
  refine o_call0 call24 rfl (sub_cons 1 rfl (sub_cons 0 rfl sub_nil)) (tri24 k v ([2, 0] : List Int) sa4 sn4 sc4 sa5 sn5 sc5 v4 h5) rfl ?_
  rintro _ _ _ ⟨sa6, sn6, sc6, rfl, rfl, rfl⟩
  refine o_v (v_move rfl) rfl ?_
  refine o_v (v_extract rfl rfl) rfl ?_
  refine o_v (v_extract rfl rfl) rfl ?_
  refine o_alloc zero27 rfl rfl fun b2 => ?_
  refine o_store_box 0 rfl ty27 rfl rfl rfl rfl rfl rfl rfl ?_
  refine o_v (v_assign rfl) rfl ?_
  refine o_seq ?_
  refine c_seq ?_
  refine c_cut (fun E N' => ∀ (t0 : Bool), F.law09.alive_j1 t0 = some r → Sat E [(0, .bool t0), (3, .pointer (some ⟨b, 0, none⟩)), (4, .pointer (some ⟨b1, 0, none⟩)), (7, .pointer (some ⟨b2, 0, none⟩))] [.box b2 27 [.int .i64 v4.1.Rule, .int .u8 v4.1.Byte, .slice sa6 sn6 sc6], .box b1 39 [.int .i64 v2.2.At, .int .i64 v2.2.Code], .box b 27 [.int .i64 v2.1.Rule, .int .u8 v2.1.Byte, .slice sa2 sn2 sc2]] [gf10 0, (.slice sa6 sn6 sc6, .slice 3 (v4.1.Kids.map eTree)), (.slice sa2 sn2 sc2, .slice 3 (v2.1.Kids.map eTree))] N') (fun N1 hN1 => ?_) ?_
  · refine c_region ?_
    refine o_v (v_move rfl) rfl ?_
    refine o_v (v_bin rfl rfl rfl) rfl ?_
    refine o_v (v_move rfl) rfl ?_
    refine o_split (t := 31) rfl (fun h6 => ?_) (fun h6 => ?_)
    · replace hF := ite_t h6 hF
      refine o_on rfl rfl ?_
      refine o_v (v_move rfl) rfl ?_
      refine o_on rfl rfl ?_
      refine o_v (v_streq rfl rfl) rfl ?_
      refine o_v (v_pick_t rfl rfl) rfl ?_
      refine o_v (v_move rfl) rfl ?_
      refine o_split (t := 35) rfl (fun h7 => ?_) (fun h7 => ?_)
      · replace hF := ite_t h7 hF
        refine o_on rfl rfl ?_
        refine o_v (v_load_box 1 ty39 rfl rfl rfl rfl rfl) rfl ?_
        refine o_on rfl rfl ?_
        refine o_v (v_build (v := .agg #[.int .i64 0, .int .i64 0]) rfl (fun _ => by kernel_rfl)) rfl ?_
        refine o_on rfl rfl ?_
        refine o_v (v_ageq 2 rfl rfl (eq39 v2.2.At v2.2.Code 0 0) rfl guard39) rfl ?_
        refine o_v (v_pick_t rfl rfl) rfl ?_
        refine o_v (v_move rfl) rfl ?_
        refine o_split (t := 40) rfl (fun h8 => ?_) (fun h8 => ?_)
        · replace hF := ite_t h8 hF
          refine o_on rfl rfl ?_
          refine o_v (v_fieldAddr (v := .pointer (some ⟨b, 0, none⟩)) rfl (fun _ => by kernel_rfl)) rfl ?_
          refine o_on rfl rfl ?_
          refine o_v (v_load_box 2 ty3 rfl rfl rfl rfl rfl) rfl ?_
          refine o_on rfl rfl ?_
          refine o_v (v_bin rfl rfl rfl) rfl ?_
          refine o_v (v_pick_t rfl rfl) rfl ?_
          refine o_v (v_move rfl) rfl ?_
          refine o_split (t := 45) rfl (fun h9 => ?_) (fun h9 => ?_)
          · replace hF := ite_t h9 hF
            refine o_on rfl rfl ?_
            refine o_v (v_move rfl) rfl ?_
            refine o_on rfl rfl ?_
            refine o_v (v_bin rfl rfl rfl) rfl ?_
            refine o_v (v_pick_t rfl rfl) rfl ?_
            refine o_v (v_move rfl) rfl ?_
            refine o_split (t := 49) rfl (fun h10 => ?_) (fun h10 => ?_)
            · replace hF := ite_t h10 hF
              refine o_on rfl rfl ?_
              refine o_v (v_move rfl) rfl ?_
              refine o_on rfl rfl ?_
              refine o_v (v_bin rfl rfl rfl) rfl ?_
              refine o_v (v_pick_t rfl rfl) rfl ?_
              refine o_v (v_move rfl) rfl ?_
              refine o_split (t := 53) rfl (fun h11 => ?_) (fun h11 => ?_)
              · replace hF := ite_t h11 hF
                refine o_on rfl rfl ?_
                refine o_v (v_move rfl) rfl ?_
                refine o_on rfl rfl ?_
                refine o_v (v_bin rfl rfl rfl) rfl ?_
                refine o_v (v_pick_t rfl rfl) rfl ?_
                refine o_v (v_move rfl) rfl ?_
                refine o_split (t := 57) rfl (fun h12 => ?_) (fun h12 => ?_)
                · replace hF := ite_t h12 hF
                  refine o_on rfl rfl ?_
                  refine o_v (v_fieldAddr (v := .pointer (some ⟨b2, 1, none⟩)) rfl (fun _ => by kernel_rfl)) rfl ?_
                  refine o_on rfl rfl ?_
                  refine o_v (v_load_box 0 ty5 rfl rfl rfl rfl rfl) rfl ?_
                  refine o_on rfl rfl ?_
                  refine o_v (v_bin rfl rfl rfl) rfl ?_
                  refine o_v (v_pick_t rfl rfl) rfl ?_
                  refine o_v (v_move rfl) rfl ?_
                  refine o_split (t := 62) rfl (fun h13 => ?_) (fun h13 => ?_)
                  · replace hF := ite_t h13 hF
                    refine o_on rfl rfl ?_
                    refine o_call0 call38 rfl sub_nil (tri38 v h1) rfl ?_
                    rintro _ _ _ ⟨sa7, sn7, sc7, rfl, rfl, rfl⟩
                    refine o_on rfl rfl ?_
                    obtain ⟨v5, h14, hF⟩ := bd hF
                    refine o_call0 call33 rfl (sub_cons 0 rfl sub_nil) (tri33 k v sa7 sn7 sc7 v5 h14) rfl ?_
                    rintro _ _ _ ⟨sa8, sn8, sc8, rfl, rfl, rfl⟩
                    refine o_on rfl rfl ?_
                    refine o_v (v_bytesStr sl58 Tryd.underlying5 Tryd.underlying9 rfl (.r 0 _ rfl)) rfl ?_
                    refine o_on rfl rfl ?_
                    refine o_v (v_streq rfl rfl) rfl ?_
                    refine o_v (v_pick_t rfl rfl) rfl ?_
                    refine o_v (v_move rfl) rfl ?_
                    refine o_split (t := 68) rfl (fun h15 => ?_) (fun h15 => ?_)
                    · replace hF := ite_t h15 hF
                      refine o_on rfl rfl ?_
                      refine o_v (v_build (v := .agg #[.int .i64 0, .int .i64 0, .slice none 0 0]) rfl (fun _ => by kernel_rfl)) rfl ?_
                      refine o_on rfl rfl ?_
                      refine o_call0 call38 rfl sub_nil (tri38 v h1) rfl ?_
                      rintro _ _ _ ⟨sa9, sn9, sc9, rfl, rfl, rfl⟩
                      refine o_on rfl rfl ?_
                      obtain ⟨v6, h16, hF⟩ := bd hF
                      refine o_st (st_nilfact 2) ?_
                      refine o_callSB call17 rfl (lent_f 0 rfl (lent_f 1 rfl lent_nil)) (tri17 k (Gram.mk 0 0 ([] : List Rule)) 0 v none 0 0 sa9 sn9 sc9 v6 h16) rfl ?_
                      refine o_on rfl rfl ?_
                      refine o_v (v_bin rfl rfl rfl) rfl ?_
                      refine o_v (v_pick_t rfl rfl) rfl ?_
                      refine o_v (v_assign rfl) rfl ?_
                      refine o_nil ?_
                      refine s_st ?_ (hN1 (v6 == 3) hF)
                      exact st_le [1, 1, 1] (le_cons rfl (le_cons rfl (le_cons rfl (le_cons rfl le_nil)))) rfl (sub_cons 9 rfl (sub_cons 3 rfl (sub_cons 7 rfl sub_nil)))
                    · replace hF := ite_f h15 hF
                      refine o_off rfl rfl (by decide) rfl ?_
                      refine o_off rfl rfl (by decide) rfl ?_
                      refine o_off rfl rfl (by decide) rfl ?_
                      refine o_off rfl rfl (by decide) rfl ?_
                      refine o_v (v_pick_f rfl rfl) rfl ?_
                      refine o_v (v_assign rfl) rfl ?_
                      refine o_nil ?_
                      refine s_st ?_ (hN1 false hF)
                      exact st_le [1, 1, 1] (le_cons rfl (le_cons rfl (le_cons rfl (le_cons rfl le_nil)))) rfl (sub_cons 7 rfl (sub_cons 1 rfl (sub_cons 5 rfl sub_nil)))
                  · replace hF := ite_f h13 hF
                    refine o_off rfl rfl (by decide) rfl ?_
                    refine o_off rfl rfl (by decide) rfl ?_
                    refine o_off rfl rfl (by decide) rfl ?_
                    refine o_off rfl rfl (by decide) rfl ?_
                    refine o_v (v_pick_f rfl rfl) rfl ?_
                    refine o_v (v_move rfl) rfl ?_
                    refine o_off rfl rfl (by decide) rfl ?_
                    refine o_off rfl rfl (by decide) rfl ?_
                    refine o_off rfl rfl (by decide) rfl ?_
                    refine o_off rfl rfl (by decide) rfl ?_
                    refine o_v (v_pick_f rfl rfl) rfl ?_
                    refine o_v (v_assign rfl) rfl ?_
                    refine o_nil ?_
                    refine s_st ?_ (hN1 false hF)
                    exact st_le [0, 0, 0] (le_cons rfl (le_cons rfl (le_cons rfl (le_cons rfl le_nil)))) rfl (sub_cons 6 rfl (sub_cons 0 rfl (sub_cons 4 rfl sub_nil)))
                · replace hF := ite_f h12 hF
                  refine o_off rfl rfl (by decide) rfl ?_
                  refine o_off rfl rfl (by decide) rfl ?_
                  refine o_off rfl rfl (by decide) rfl ?_
                  refine o_v (v_pick_f rfl rfl) rfl ?_
                  refine o_v (v_move rfl) rfl ?_
                  refine o_off rfl rfl (by decide) rfl ?_
                  refine o_off rfl rfl (by decide) rfl ?_
                  refine o_off rfl rfl (by decide) rfl ?_
                  refine o_off rfl rfl (by decide) rfl ?_
                  refine o_v (v_pick_f rfl rfl) rfl ?_
                  refine o_v (v_move rfl) rfl ?_
                  refine o_off rfl rfl (by decide) rfl ?_
                  refine o_off rfl rfl (by decide) rfl ?_
                  refine o_off rfl rfl (by decide) rfl ?_
                  refine o_off rfl rfl (by decide) rfl ?_
                  refine o_v (v_pick_f rfl rfl) rfl ?_
                  refine o_v (v_assign rfl) rfl ?_
                  refine o_nil ?_
                  refine s_st ?_ (hN1 false hF)
                  exact st_le [0, 0, 0] (le_cons rfl (le_cons rfl (le_cons rfl (le_cons rfl le_nil)))) rfl (sub_cons 6 rfl (sub_cons 0 rfl (sub_cons 4 rfl sub_nil)))
              · replace hF := ite_f h11 hF
                refine o_off rfl rfl (by decide) rfl ?_
                refine o_off rfl rfl (by decide) rfl ?_
                refine o_v (v_pick_f rfl rfl) rfl ?_
                refine o_v (v_move rfl) rfl ?_
                refine o_off rfl rfl (by decide) rfl ?_
                refine o_off rfl rfl (by decide) rfl ?_
                refine o_off rfl rfl (by decide) rfl ?_
                refine o_v (v_pick_f rfl rfl) rfl ?_
                refine o_v (v_move rfl) rfl ?_
                refine o_off rfl rfl (by decide) rfl ?_
                refine o_off rfl rfl (by decide) rfl ?_
                refine o_off rfl rfl (by decide) rfl ?_
                refine o_off rfl rfl (by decide) rfl ?_
                refine o_v (v_pick_f rfl rfl) rfl ?_
                refine o_v (v_move rfl) rfl ?_
                refine o_off rfl rfl (by decide) rfl ?_
                refine o_off rfl rfl (by decide) rfl ?_
                refine o_off rfl rfl (by decide) rfl ?_
                refine o_off rfl rfl (by decide) rfl ?_
                refine o_v (v_pick_f rfl rfl) rfl ?_
                refine o_v (v_assign rfl) rfl ?_
                refine o_nil ?_
                refine s_st ?_ (hN1 false hF)
                exact st_le [0, 0, 0] (le_cons rfl (le_cons rfl (le_cons rfl (le_cons rfl le_nil)))) rfl (sub_cons 6 rfl (sub_cons 0 rfl (sub_cons 4 rfl sub_nil)))
            · replace hF := ite_f h10 hF
              refine o_off rfl rfl (by decide) rfl ?_
              refine o_off rfl rfl (by decide) rfl ?_
              refine o_v (v_pick_f rfl rfl) rfl ?_
              refine o_v (v_move rfl) rfl ?_
              refine o_off rfl rfl (by decide) rfl ?_
              refine o_off rfl rfl (by decide) rfl ?_
              refine o_v (v_pick_f rfl rfl) rfl ?_
              refine o_v (v_move rfl) rfl ?_
              refine o_off rfl rfl (by decide) rfl ?_
              refine o_off rfl rfl (by decide) rfl ?_
              refine o_off rfl rfl (by decide) rfl ?_
              refine o_v (v_pick_f rfl rfl) rfl ?_
              refine o_v (v_move rfl) rfl ?_
              refine o_off rfl rfl (by decide) rfl ?_
              refine o_off rfl rfl (by decide) rfl ?_
              refine o_off rfl rfl (by decide) rfl ?_
              refine o_off rfl rfl (by decide) rfl ?_
              refine o_v (v_pick_f rfl rfl) rfl ?_
              refine o_v (v_move rfl) rfl ?_
              refine o_off rfl rfl (by decide) rfl ?_
              refine o_off rfl rfl (by decide) rfl ?_
              refine o_off rfl rfl (by decide) rfl ?_
              refine o_off rfl rfl (by decide) rfl ?_
              refine o_v (v_pick_f rfl rfl) rfl ?_
              refine o_v (v_assign rfl) rfl ?_
              refine o_nil ?_
              refine s_st ?_ (hN1 false hF)
              exact st_le [0, 0, 0] (le_cons rfl (le_cons rfl (le_cons rfl (le_cons rfl le_nil)))) rfl (sub_cons 6 rfl (sub_cons 0 rfl (sub_cons 4 rfl sub_nil)))
          · replace hF := ite_f h9 hF
            refine o_off rfl rfl (by decide) rfl ?_
            refine o_off rfl rfl (by decide) rfl ?_
            refine o_v (v_pick_f rfl rfl) rfl ?_
            refine o_v (v_move rfl) rfl ?_
            refine o_off rfl rfl (by decide) rfl ?_
            refine o_off rfl rfl (by decide) rfl ?_
            refine o_v (v_pick_f rfl rfl) rfl ?_
            refine o_v (v_move rfl) rfl ?_
            refine o_off rfl rfl (by decide) rfl ?_
            refine o_off rfl rfl (by decide) rfl ?_
            refine o_v (v_pick_f rfl rfl) rfl ?_
            refine o_v (v_move rfl) rfl ?_
            refine o_off rfl rfl (by decide) rfl ?_
            refine o_off rfl rfl (by decide) rfl ?_
            refine o_off rfl rfl (by decide) rfl ?_
            refine o_v (v_pick_f rfl rfl) rfl ?_
            refine o_v (v_move rfl) rfl ?_
            refine o_off rfl rfl (by decide) rfl ?_
            refine o_off rfl rfl (by decide) rfl ?_
            refine o_off rfl rfl (by decide) rfl ?_
            refine o_off rfl rfl (by decide) rfl ?_
            refine o_v (v_pick_f rfl rfl) rfl ?_
            refine o_v (v_move rfl) rfl ?_
            refine o_off rfl rfl (by decide) rfl ?_
            refine o_off rfl rfl (by decide) rfl ?_
            refine o_off rfl rfl (by decide) rfl ?_
            refine o_off rfl rfl (by decide) rfl ?_
            refine o_v (v_pick_f rfl rfl) rfl ?_
            refine o_v (v_assign rfl) rfl ?_
            refine o_nil ?_
            refine s_st ?_ (hN1 false hF)
            exact st_le [0, 0, 0] (le_cons rfl (le_cons rfl (le_cons rfl (le_cons rfl le_nil)))) rfl (sub_cons 6 rfl (sub_cons 0 rfl (sub_cons 4 rfl sub_nil)))
        · replace hF := ite_f h8 hF
          refine o_off rfl rfl (by decide) rfl ?_
          refine o_off rfl rfl (by decide) rfl ?_
          refine o_off rfl rfl (by decide) rfl ?_
          refine o_v (v_pick_f rfl rfl) rfl ?_
          refine o_v (v_move rfl) rfl ?_
          refine o_off rfl rfl (by decide) rfl ?_
          refine o_off rfl rfl (by decide) rfl ?_
          refine o_v (v_pick_f rfl rfl) rfl ?_
          refine o_v (v_move rfl) rfl ?_
          refine o_off rfl rfl (by decide) rfl ?_
          refine o_off rfl rfl (by decide) rfl ?_
          refine o_v (v_pick_f rfl rfl) rfl ?_
          refine o_v (v_move rfl) rfl ?_
          refine o_off rfl rfl (by decide) rfl ?_
          refine o_off rfl rfl (by decide) rfl ?_
          refine o_v (v_pick_f rfl rfl) rfl ?_
          refine o_v (v_move rfl) rfl ?_
          refine o_off rfl rfl (by decide) rfl ?_
          refine o_off rfl rfl (by decide) rfl ?_
          refine o_off rfl rfl (by decide) rfl ?_
          refine o_v (v_pick_f rfl rfl) rfl ?_
          refine o_v (v_move rfl) rfl ?_
          refine o_off rfl rfl (by decide) rfl ?_
          refine o_off rfl rfl (by decide) rfl ?_
          refine o_off rfl rfl (by decide) rfl ?_
          refine o_off rfl rfl (by decide) rfl ?_
          refine o_v (v_pick_f rfl rfl) rfl ?_
          refine o_v (v_move rfl) rfl ?_
          refine o_off rfl rfl (by decide) rfl ?_
          refine o_off rfl rfl (by decide) rfl ?_
          refine o_off rfl rfl (by decide) rfl ?_
          refine o_off rfl rfl (by decide) rfl ?_
          refine o_v (v_pick_f rfl rfl) rfl ?_
          refine o_v (v_assign rfl) rfl ?_
          refine o_nil ?_
          refine s_st ?_ (hN1 false hF)
          exact st_le [0, 0, 0] (le_cons rfl (le_cons rfl (le_cons rfl (le_cons rfl le_nil)))) rfl (sub_cons 6 rfl (sub_cons 0 rfl (sub_cons 4 rfl sub_nil)))
      · replace hF := ite_f h7 hF
        refine o_off rfl rfl (by decide) rfl ?_
        refine o_off rfl rfl (by decide) rfl ?_
        refine o_off rfl rfl (by decide) rfl ?_
        refine o_v (v_pick_f rfl rfl) rfl ?_
        refine o_v (v_move rfl) rfl ?_
        refine o_off rfl rfl (by decide) rfl ?_
        refine o_off rfl rfl (by decide) rfl ?_
        refine o_off rfl rfl (by decide) rfl ?_
        refine o_v (v_pick_f rfl rfl) rfl ?_
        refine o_v (v_move rfl) rfl ?_
        refine o_off rfl rfl (by decide) rfl ?_
        refine o_off rfl rfl (by decide) rfl ?_
        refine o_v (v_pick_f rfl rfl) rfl ?_
        refine o_v (v_move rfl) rfl ?_
        refine o_off rfl rfl (by decide) rfl ?_
        refine o_off rfl rfl (by decide) rfl ?_
        refine o_v (v_pick_f rfl rfl) rfl ?_
        refine o_v (v_move rfl) rfl ?_
        refine o_off rfl rfl (by decide) rfl ?_
        refine o_off rfl rfl (by decide) rfl ?_
        refine o_v (v_pick_f rfl rfl) rfl ?_
        refine o_v (v_move rfl) rfl ?_
        refine o_off rfl rfl (by decide) rfl ?_
        refine o_off rfl rfl (by decide) rfl ?_
        refine o_off rfl rfl (by decide) rfl ?_
        refine o_v (v_pick_f rfl rfl) rfl ?_
        refine o_v (v_move rfl) rfl ?_
        refine o_off rfl rfl (by decide) rfl ?_
        refine o_off rfl rfl (by decide) rfl ?_
        refine o_off rfl rfl (by decide) rfl ?_
        refine o_off rfl rfl (by decide) rfl ?_
        refine o_v (v_pick_f rfl rfl) rfl ?_
        refine o_v (v_move rfl) rfl ?_
        refine o_off rfl rfl (by decide) rfl ?_
        refine o_off rfl rfl (by decide) rfl ?_
        refine o_off rfl rfl (by decide) rfl ?_
        refine o_off rfl rfl (by decide) rfl ?_
        refine o_v (v_pick_f rfl rfl) rfl ?_
        refine o_v (v_assign rfl) rfl ?_
        refine o_nil ?_
        refine s_st ?_ (hN1 false hF)
        exact st_le [0, 0, 0] (le_cons rfl (le_cons rfl (le_cons rfl (le_cons rfl le_nil)))) rfl (sub_cons 6 rfl (sub_cons 0 rfl (sub_cons 4 rfl sub_nil)))
    · replace hF := ite_f h6 hF
      refine o_off rfl rfl (by decide) rfl ?_
      refine o_off rfl rfl (by decide) rfl ?_
      refine o_v (v_pick_f rfl rfl) rfl ?_
      refine o_v (v_move rfl) rfl ?_
      refine o_off rfl rfl (by decide) rfl ?_
      refine o_off rfl rfl (by decide) rfl ?_
      refine o_off rfl rfl (by decide) rfl ?_
      refine o_v (v_pick_f rfl rfl) rfl ?_
      refine o_v (v_move rfl) rfl ?_
      refine o_off rfl rfl (by decide) rfl ?_
      refine o_off rfl rfl (by decide) rfl ?_
      refine o_off rfl rfl (by decide) rfl ?_
      refine o_v (v_pick_f rfl rfl) rfl ?_
      refine o_v (v_move rfl) rfl ?_
      refine o_off rfl rfl (by decide) rfl ?_
      refine o_off rfl rfl (by decide) rfl ?_
      refine o_v (v_pick_f rfl rfl) rfl ?_
      refine o_v (v_move rfl) rfl ?_
      refine o_off rfl rfl (by decide) rfl ?_
      refine o_off rfl rfl (by decide) rfl ?_
      refine o_v (v_pick_f rfl rfl) rfl ?_
      refine o_v (v_move rfl) rfl ?_
      refine o_off rfl rfl (by decide) rfl ?_
      refine o_off rfl rfl (by decide) rfl ?_
      refine o_v (v_pick_f rfl rfl) rfl ?_
      refine o_v (v_move rfl) rfl ?_
      refine o_off rfl rfl (by decide) rfl ?_
      refine o_off rfl rfl (by decide) rfl ?_
      refine o_off rfl rfl (by decide) rfl ?_
      refine o_v (v_pick_f rfl rfl) rfl ?_
      refine o_v (v_move rfl) rfl ?_
      refine o_off rfl rfl (by decide) rfl ?_
      refine o_off rfl rfl (by decide) rfl ?_
      refine o_off rfl rfl (by decide) rfl ?_
      refine o_off rfl rfl (by decide) rfl ?_
      refine o_v (v_pick_f rfl rfl) rfl ?_
      refine o_v (v_move rfl) rfl ?_
      refine o_off rfl rfl (by decide) rfl ?_
      refine o_off rfl rfl (by decide) rfl ?_
      refine o_off rfl rfl (by decide) rfl ?_
      refine o_off rfl rfl (by decide) rfl ?_
      refine o_v (v_pick_f rfl rfl) rfl ?_
      refine o_v (v_assign rfl) rfl ?_
      refine o_nil ?_
      refine s_st ?_ (hN1 false hF)
      exact st_le [0, 0, 0] (le_cons rfl (le_cons rfl (le_cons rfl (le_cons rfl le_nil)))) rfl (sub_cons 6 rfl (sub_cons 0 rfl (sub_cons 4 rfl sub_nil)))
  · intro t0 hF
    unfold F.law09.alive_j1 at hF
    refine sat_wc ?_
    refine c_ret ?_
    cases hF
    refine s_ret1 rfl (r_tmp rfl) fun a w hs => ?_
    exact fin_sel hs [] ⟨rfl, rfl, rfl⟩ rfl sub_nil
theorem tri35 (k : Nat) (a_ : List Run) (b : List Run) (sa1 : Option Addr) (sn1 sc1 : Nat) (sa2 : Option Addr) (sn2 sc2 : Nat) (r : Bool) (hF : F.ref01.SameRuns k a_ b = some r) :
    Tri Tryd.prog 35 [.slice sa1 sn1 sc1, .slice sa2 sn2 sc2] [] [(.slice sa1 sn1 sc1, .slice 2 (a_.map eRun)), (.slice sa2 sn2 sc2, .slice 2 (b.map eRun))] (fun o H Φ => o = .ret (.bool r) ∧ H = [] ∧ Φ = []) := by
  unfold F.ref01.SameRuns at hF
  refine tri_intro (n := 26) Tryd.func35 rfl Tryd.ntmps35 rfl fun w X => ?_
  refine c_seq ?_
  refine c_region ?_
  refine o_v (v_assign rfl) rfl ?_
  refine o_seq ?_
  refine c_seq ?_
  refine c_seq ?_
  refine c_region ?_
  refine o_v (v_move rfl) rfl ?_
  refine o_v (v_lenS (enc := eRun) a_ sl56 rfl (.f 0 rfl)) rfl ?_
  refine o_v (v_move rfl) rfl ?_
  refine o_v (v_lenS (enc := eRun) b sl56 rfl (.f 1 rfl)) rfl ?_
  refine o_v (v_bin rfl rfl rfl) rfl ?_
  refine o_seq ?_
  refine c_cond rfl (fun h1 => ?_) (fun h1 => ?_)
  · replace hF := ite_t h1 hF
    refine c_seq ?_
    refine c_region ?_
    refine o_v (v_assign rfl) rfl ?_
    refine o_seq ?_
    refine c_ret ?_
    cases hF
    refine s_ret1 rfl (r_tmp rfl) fun a w hs => ?_
    exact fin_sel hs [] ⟨rfl, rfl, rfl⟩ rfl sub_nil
  · replace hF := ite_f h1 hF
    refine c_skip ?_
    refine sat_wc ?_
    refine c_seq ?_
    refine c_seq ?_
    refine c_region ?_
    refine o_v (v_assign rfl) rfl ?_
    refine o_seq ?_
    obtain ⟨o1, ho1, hF⟩ := bd hF
    refine c_cut (fun E N' => ∀ (d1 : Unit), o1 = .done d1 → Sat E [(0, .slice sa1 sn1 sc1), (1, .slice sa2 sn2 sc2), (4, .bool false), (10, .bool ((a_.length : Int) != (b.length : Int)))] [] [(.slice sa1 sn1 sc1, .slice 2 (a_.map eRun)), (.slice sa2 sn2 sc2, .slice 2 (b.map eRun))] N') (fun N1 hN1 => ?_) ?_
    · refine c_block ?_
      refine c_loopE (fun E j a w => ∃ (i : Int), F.ref01.SameRuns_l1 a_ b j i = some o1 ∧ St E [(0, .slice sa1 sn1 sc1), (1, .slice sa2 sn2 sc2), (4, .bool false), (5, .int .i64 i), (10, .bool ((a_.length : Int) != (b.length : Int)))] [] [(.slice sa1 sn1 sc1, .slice 2 (a_.map eRun)), (.slice sa2 sn2 sc2, .slice 2 (b.map eRun))] a w) k ?_ ?_
      · intro a w hs
        exact ⟨0, ho1, st_le [] (le_cons rfl (le_cons rfl (le_cons rfl (le_cons rfl (le_cons rfl le_nil))))) rfl (sub_cons 0 rfl (sub_cons 1 rfl sub_nil)) a w hs⟩
      · rintro j a w ⟨i, hL1, hs⟩
        cases j with
        | zero => cases hL1
        | succ j =>
          refine wc_app hs ?_
          unfold F.ref01.SameRuns_l1 at hL1
          refine c_seq ?_
          refine c_seq ?_
          refine c_region ?_
          refine o_v (v_move rfl) rfl ?_
          refine o_v (v_move rfl) rfl ?_
          refine o_v (v_lenS (enc := eRun) a_ sl56 rfl (.f 0 rfl)) rfl ?_
          refine o_v (v_bin rfl rfl rfl) rfl ?_
          refine o_seq ?_
          refine c_cond rfl (fun h2 => ?_) (fun h2 => ?_)
          · replace hL1 := ite_t h2 hL1
            refine c_skip ?_
            refine sat_wc ?_
            refine c_seq ?_
            refine c_block ?_
            refine c_seq ?_
            refine c_draw (n := 9) [] mixed rfl rfl ?_
            refine d_val 0 rfl pnok (by kernel_rfl) (by kernel_rfl) (by kernel_rfl) rfl (v_move rfl) ?_
            refine d_val 1 rfl pnok (by kernel_rfl) (by kernel_rfl) (by kernel_rfl) rfl (v_move rfl) ?_
            refine ite_some hL1 fun h3 hL1 => ?_
            refine d_val 2 rfl pnok (by kernel_rfl) (by kernel_rfl) (by kernel_rfl) rfl (v_indexAddr_s (xs := a_) (enc := eRun) sl56 rfl rfl (.f 0 rfl) h3) ?_
            refine d_val 3 rfl pnok (by kernel_rfl) (by kernel_rfl) (by kernel_rfl) rfl (v_load_s (xs := a_) (enc := eRun) ty62 rfl (.f 0 rfl) h3 rfl rfl rfl rfl rfl rfl rfl) ?_
            refine d_val 4 rfl pnok (by kernel_rfl) (by kernel_rfl) (by kernel_rfl) rfl (v_move rfl) ?_
            refine d_val 5 rfl pnok (by kernel_rfl) (by kernel_rfl) (by kernel_rfl) rfl (v_move rfl) ?_
            refine ite_some hL1 fun h4 hL1 => ?_
            refine d_val 6 rfl pnok (by kernel_rfl) (by kernel_rfl) (by kernel_rfl) rfl (v_indexAddr_s (xs := b) (enc := eRun) sl56 rfl rfl (.f 1 rfl) h4) ?_
            refine d_val 7 rfl pnok (by kernel_rfl) (by kernel_rfl) (by kernel_rfl) rfl (v_load_s (xs := b) (enc := eRun) ty62 rfl (.f 1 rfl) h4 rfl rfl rfl rfl rfl rfl rfl) ?_
            refine d_val 8 rfl pnok (by kernel_rfl) (by kernel_rfl) (by kernel_rfl) rfl (v_agne 2 rfl rfl (eq62 ((at_ a_ i).Lo) ((at_ a_ i).Hi) ((at_ b i).Lo) ((at_ b i).Hi)) rfl guard62) ?_
            refine d_done_seq (by kernel_rfl) ?_
            refine c_cond rfl (fun h5 => ?_) (fun h5 => ?_)
            · replace hL1 := ite_t h5 hL1
              refine c_seq ?_
              refine c_region ?_
              refine o_v (v_assign rfl) rfl ?_
              refine o_seq ?_
              refine c_ret ?_
              cases hL1
              obtain rfl := lrf_ret hF
              refine s_ret1 rfl (r_tmp rfl) fun a w hs => ?_
              exact fin_sel hs [] ⟨rfl, rfl, rfl⟩ rfl sub_nil
            · replace hL1 := ite_f h5 hL1
              refine c_skip ?_
              refine sat_wc ?_
              refine c_region ?_
              refine o_v (v_move rfl) rfl ?_
              refine o_v (v_bin rfl rfl rfl) rfl ?_
              refine o_v (v_assign rfl) rfl ?_
              refine o_nil ?_
              intro a w hs
              exact ⟨j, Nat.lt_succ_self j, IntKind.wrap .i64 (i + 1), hL1, st_le [] (le_cons rfl (le_cons rfl (le_cons rfl (le_cons rfl (le_cons rfl le_nil))))) rfl (sub_cons 0 rfl (sub_cons 1 rfl sub_nil)) a w hs⟩
          · replace hL1 := ite_f h2 hL1
            refine c_exit0 ?_
            cases hL1
            refine s_st ?_ (hN1 () rfl)
            exact st_le [] (le_cons rfl (le_cons rfl (le_cons rfl (le_cons rfl le_nil)))) rfl (sub_cons 0 rfl (sub_cons 1 rfl sub_nil))
    · intro d1 hd
      subst hd
      replace hF := lrf_done hF
      refine sat_wc ?_
      refine c_seq ?_
      refine c_region ?_
      refine o_v (v_assign rfl) rfl ?_
      refine o_seq ?_
      refine c_ret ?_
      cases hF
      refine s_ret1 rfl (r_tmp rfl) fun a w hs => ?_
      exact fin_sel hs [] ⟨rfl, rfl, rfl⟩ rfl sub_nil
theorem tri3 (k : Nat) (g_ : Gram) (nt : Int) (t : Tree) (sa1 : Option Addr) (sn1 sc1 : Nat) (sa2 : Option Addr) (sn2 sc2 : Nat) (r : Bool) (hF : F.law09.TreesRight k g_ nt t = some r) :
    Tri Tryd.prog 3 [.agg #[.int .i64 g_.Nts, .int .i64 g_.Start, .slice sa1 sn1 sc1], .int .i64 nt, .agg #[.int .i64 t.Rule, .int .u8 t.Byte, .slice sa2 sn2 sc2]] [] [gf10 0, (.slice sa1 sn1 sc1, .slice 2 (g_.Rules.map eRule)), (.slice sa2 sn2 sc2, .slice 3 (t.Kids.map eTree))] (fun o H Φ => o = .ret (.bool r) ∧ H = [] ∧ Φ = []) := by
  unfold F.law09.TreesRight at hF
  refine tri_intro (n := 34) Tryd.func3 rfl Tryd.ntmps3 rfl fun w X => ?_
  refine c_seq ?_
  refine c_region ?_
  refine o_box rfl rfl rfl fun b => ?_
  refine o_box rfl rfl rfl fun b1 => ?_
  refine o_v (v_assign rfl) rfl ?_
  refine o_seq ?_
  refine c_seq ?_
  refine c_seq ?_
  refine c_region ?_
  refine o_v (v_load_box 0 ty27 rfl rfl rfl rfl rfl) rfl ?_
  obtain ⟨v, h1, hF⟩ := bd hF
  refine o_callSB call13 rfl (lent_f 2 rfl lent_nil) (tri13 k t sa2 sn2 sc2 v h1) rfl ?_
  refine o_v (v_move rfl) rfl ?_
  refine o_split (t := 10) rfl (fun h2 => ?_) (fun h2 => ?_)
  · replace hF := ite_t h2 hF
    refine o_off rfl rfl (by decide) rfl ?_
    refine o_off rfl rfl (by decide) rfl ?_
    refine o_v (v_pick_t rfl rfl) rfl ?_
    refine o_seq ?_
    refine c_cond rfl (fun _ => ?_) (fun h => Bool.noConfusion h)
    refine c_seq ?_
    refine c_region ?_
    obtain ⟨v1, h3, hF⟩ := bd hF
    refine o_callSB call15 rfl (lent_f 0 rfl lent_nil) (tri15 k v1 h3) rfl ?_
    refine o_v (v_assign rfl) rfl ?_
    refine o_seq ?_
    refine c_ret ?_
    cases hF
    refine s_ret1 rfl (r_tmp rfl) fun a w hs => ?_
    exact fin_sel hs [] ⟨rfl, rfl, rfl⟩ rfl sub_nil
  · replace hF := ite_f h2 hF
    refine o_on rfl rfl ?_
    refine o_v (v_load_box 1 ty24 rfl rfl rfl rfl rfl) rfl ?_
    refine o_on rfl rfl ?_
    obtain ⟨v2, h4, hF⟩ := bd hF
    refine o_callSB call14 rfl (lent_f 1 rfl lent_nil) (tri14 k g_ 500 sa1 sn1 sc1 v2 h4) rfl ?_
    refine o_v (v_pick_f rfl rfl) rfl ?_
    refine o_seq ?_
    refine c_cond rfl (fun h5 => ?_) (fun h5 => ?_)
    · replace hF := ite_t h5 hF
      refine c_seq ?_
      refine c_region ?_
      obtain ⟨v3, h6, hF⟩ := bd hF
      refine o_callSB call15 rfl (lent_f 0 rfl lent_nil) (tri15 k v3 h6) rfl ?_
      refine o_v (v_assign rfl) rfl ?_
      refine o_seq ?_
      refine c_ret ?_
      cases hF
      refine s_ret1 rfl (r_tmp rfl) fun a w hs => ?_
      exact fin_sel hs [] ⟨rfl, rfl, rfl⟩ rfl sub_nil
    · replace hF := ite_f h5 hF
      refine c_skip ?_
      refine sat_wc ?_
      refine c_seq ?_
      refine c_region ?_
      refine o_v (v_load_box 0 ty27 rfl rfl rfl rfl rfl) rfl ?_
      obtain ⟨v4, h7, hF⟩ := bd hF
      refine o_call0 call16 rfl (sub_cons 2 rfl sub_nil) (tri16 k t sa2 sn2 sc2 v4 h7) rfl ?_
      rintro _ _ _ ⟨sa3, sn3, sc3, rfl, rfl, rfl⟩
      refine o_alloc zero27 rfl rfl fun b2 => ?_
      refine o_store_box 0 rfl ty27 rfl rfl rfl rfl rfl rfl rfl ?_
      refine o_seq ?_
      refine c_seq ?_
      refine c_draw (n := 18) [0, 0, 0] mixed rfl rfl ?_
      refine d_one 0 rfl (by kernel_rfl) ?_
      obtain ⟨v5, h8, hF⟩ := bd hF
      refine o_callSB call15 rfl (lent_f 1 rfl lent_nil) (tri15 k v5 h8) rfl ?_
      refine d_next [0, 0, 0] 0 rfl rfl ?_
      refine d_val 1 rfl pnok (by kernel_rfl) (by kernel_rfl) (by kernel_rfl) rfl (v_move rfl) ?_
      refine d_split (t := 18) rfl (fun h9 => ?_) (fun h9 => ?_)
      · replace hF := ite_t h9 hF
        refine d_val_on 2 rfl rfl rfl pnok (by kernel_rfl) (by kernel_rfl) (by kernel_rfl) rfl (v_load_box 2 ty24 rfl rfl rfl rfl rfl) ?_
        refine d_val_on 3 rfl rfl rfl pnok (by kernel_rfl) (by kernel_rfl) (by kernel_rfl) rfl (v_move rfl) ?_
        refine d_val_on 4 rfl rfl rfl pnok (by kernel_rfl) (by kernel_rfl) (by kernel_rfl) rfl (v_load_box 0 ty27 rfl rfl rfl rfl rfl) ?_
        refine d_val_on 6 rfl rfl rfl pnok (by kernel_rfl) (by kernel_rfl) (by kernel_rfl) rfl (v_load_box 2 ty24 rfl rfl rfl rfl rfl) ?_
        refine d_val_on 7 rfl rfl rfl pnok (by kernel_rfl) (by kernel_rfl) (by kernel_rfl) rfl (v_move rfl) ?_
        refine d_val_on 8 rfl rfl rfl pnok (by kernel_rfl) (by kernel_rfl) (by kernel_rfl) rfl (v_load_box 1 ty27 rfl rfl rfl rfl rfl) ?_
        refine d_one 5 rfl (by kernel_rfl) ?_
        refine o_on rfl rfl ?_
        obtain ⟨v6, h10, hF⟩ := bd hF
        refine o_callSB call17 rfl (lent_f 2 rfl (lent_f 0 rfl lent_nil)) (tri17 k g_ nt v4 sa1 sn1 sc1 sa3 sn3 sc3 v6 h10) rfl ?_
        refine d_next [0, 0, 0] 0 rfl rfl ?_
        refine d_one 9 rfl (by kernel_rfl) ?_
        refine o_on rfl rfl ?_
        obtain ⟨v7, h11, hF⟩ := bd hF
        refine o_callSB call18 rfl (lent_f 2 rfl (lent_f 3 rfl lent_nil)) (tri18 k g_ nt t sa1 sn1 sc1 sa2 sn2 sc2 v7 h11) rfl ?_
        refine d_next [0, 0, 0] 0 rfl rfl ?_
        refine d_val_on 10 rfl rfl rfl pnok (by kernel_rfl) (by kernel_rfl) (by kernel_rfl) rfl (v_bin rfl rfl rfl) ?_
        refine d_val 11 rfl pnok (by kernel_rfl) (by kernel_rfl) (by kernel_rfl) rfl (v_pick_t rfl rfl) ?_
        refine d_val 12 rfl pnok (by kernel_rfl) (by kernel_rfl) (by kernel_rfl) rfl (v_move rfl) ?_
        refine d_split (t := 29) rfl (fun h12 => ?_) (fun h12 => ?_)
        · replace hF := ite_t h12 hF
          refine d_val_on 13 rfl rfl rfl pnok (by kernel_rfl) (by kernel_rfl) (by kernel_rfl) rfl (v_load_box 0 ty27 rfl rfl rfl rfl rfl) ?_
          refine d_val_on 14 rfl rfl rfl pnok (by kernel_rfl) (by kernel_rfl) (by kernel_rfl) rfl (v_load_box 1 ty27 rfl rfl rfl rfl rfl) ?_
          refine d_one 15 rfl (by kernel_rfl) ?_
          refine o_on rfl rfl ?_
          obtain ⟨v8, h13, hF⟩ := bd hF
          refine o_callSB call19 rfl (lent_f 0 rfl (lent_f 3 rfl lent_nil)) (tri19 k v4 t sa3 sn3 sc3 sa2 sn2 sc2 v8 h13) rfl ?_
          refine d_next [0, 0, 0] 0 rfl rfl ?_
          refine d_val 16 rfl pnok (by kernel_rfl) (by kernel_rfl) (by kernel_rfl) rfl (v_pick_t rfl rfl) ?_
          refine d_val 17 rfl pnok (by kernel_rfl) (by kernel_rfl) (by kernel_rfl) rfl (v_assign rfl) ?_
          refine d_done_seq (by kernel_rfl) ?_
          refine c_ret ?_
          cases hF
          refine s_ret1 rfl (r_tmp rfl) fun a w hs => ?_
          exact fin_sel hs [] ⟨rfl, rfl, rfl⟩ rfl sub_nil
        · replace hF := ite_f h12 hF
          refine d_off 13 rfl rfl rfl (by decide) pnok (by kernel_rfl) (by kernel_rfl) (by kernel_rfl) rfl ?_
          refine d_off 14 rfl rfl rfl (by decide) pnok (by kernel_rfl) (by kernel_rfl) (by kernel_rfl) rfl ?_
          refine d_off 15 rfl rfl rfl (by decide) pnok (by kernel_rfl) (by kernel_rfl) (by kernel_rfl) rfl ?_
          refine d_val 16 rfl pnok (by kernel_rfl) (by kernel_rfl) (by kernel_rfl) rfl (v_pick_f rfl rfl) ?_
          refine d_val 17 rfl pnok (by kernel_rfl) (by kernel_rfl) (by kernel_rfl) rfl (v_assign rfl) ?_
          refine d_done_seq (by kernel_rfl) ?_
          refine c_ret ?_
          cases hF
          refine s_ret1 rfl (r_tmp rfl) fun a w hs => ?_
          exact fin_sel hs [] ⟨rfl, rfl, rfl⟩ rfl sub_nil
      · replace hF := ite_f h9 hF
        refine d_off 2 rfl rfl rfl (by decide) pnok (by kernel_rfl) (by kernel_rfl) (by kernel_rfl) rfl ?_
        refine d_off 3 rfl rfl rfl (by decide) pnok (by kernel_rfl) (by kernel_rfl) (by kernel_rfl) rfl ?_
        refine d_off 4 rfl rfl rfl (by decide) pnok (by kernel_rfl) (by kernel_rfl) (by kernel_rfl) rfl ?_
        refine d_off 5 rfl rfl rfl (by decide) pnok (by kernel_rfl) (by kernel_rfl) (by kernel_rfl) rfl ?_
        refine d_off 6 rfl rfl rfl (by decide) pnok (by kernel_rfl) (by kernel_rfl) (by kernel_rfl) rfl ?_
        refine d_off 7 rfl rfl rfl (by decide) pnok (by kernel_rfl) (by kernel_rfl) (by kernel_rfl) rfl ?_
        refine d_off 8 rfl rfl rfl (by decide) pnok (by kernel_rfl) (by kernel_rfl) (by kernel_rfl) rfl ?_
        refine d_off 9 rfl rfl rfl (by decide) pnok (by kernel_rfl) (by kernel_rfl) (by kernel_rfl) rfl ?_
        refine d_off 10 rfl rfl rfl (by decide) pnok (by kernel_rfl) (by kernel_rfl) (by kernel_rfl) rfl ?_
        refine d_val 11 rfl pnok (by kernel_rfl) (by kernel_rfl) (by kernel_rfl) rfl (v_pick_f rfl rfl) ?_
        refine d_val 12 rfl pnok (by kernel_rfl) (by kernel_rfl) (by kernel_rfl) rfl (v_move rfl) ?_
        refine d_off 13 rfl rfl rfl (by decide) pnok (by kernel_rfl) (by kernel_rfl) (by kernel_rfl) rfl ?_
        refine d_off 14 rfl rfl rfl (by decide) pnok (by kernel_rfl) (by kernel_rfl) (by kernel_rfl) rfl ?_
        refine d_off 15 rfl rfl rfl (by decide) pnok (by kernel_rfl) (by kernel_rfl) (by kernel_rfl) rfl ?_
        refine d_val 16 rfl pnok (by kernel_rfl) (by kernel_rfl) (by kernel_rfl) rfl (v_pick_f rfl rfl) ?_
        refine d_val 17 rfl pnok (by kernel_rfl) (by kernel_rfl) (by kernel_rfl) rfl (v_assign rfl) ?_
        refine d_done_seq (by kernel_rfl) ?_
        refine c_ret ?_
        cases hF
        refine s_ret1 rfl (r_tmp rfl) fun a w hs => ?_
        exact fin_sel hs [] ⟨rfl, rfl, rfl⟩ rfl sub_nil
theorem tri4 (k : Nat) (t : Tree) (sa1 : Option Addr) (sn1 sc1 : Nat) (r : Bool) (hF : F.law09.TreesWrites k t = some r) :
    Tri Tryd.prog 4 [.agg #[.int .i64 t.Rule, .int .u8 t.Byte, .slice sa1 sn1 sc1]] [] [gf10 0, (.slice sa1 sn1 sc1, .slice 3 (t.Kids.map eTree))] (fun o H Φ => o = .ret (.bool r) ∧ H = [] ∧ Φ = []) := by
  unfold F.law09.TreesWrites at hF
  refine tri_intro (n := 31) Tryd.func4 rfl Tryd.ntmps4 rfl fun w X => ?_
  refine c_seq ?_
  refine c_region ?_
  refine o_box rfl rfl rfl fun b => ?_
  refine o_v (v_assign rfl) rfl ?_
  refine o_seq ?_
  refine c_seq ?_
  refine c_seq ?_
  refine c_region ?_
  refine o_v (v_load_box 0 ty27 rfl rfl rfl rfl rfl) rfl ?_
  obtain ⟨v, h1, hF⟩ := bd hF
  refine o_callSB call13 rfl (lent_f 1 rfl lent_nil) (tri13 k t sa1 sn1 sc1 v h1) rfl ?_
  refine o_seq ?_
  refine c_cond rfl (fun h2 => ?_) (fun h2 => ?_)
  · replace hF := ite_t h2 hF
    refine c_seq ?_
    refine c_region ?_
    obtain ⟨v1, h3, hF⟩ := bd hF
    refine o_callSB call15 rfl (lent_f 0 rfl lent_nil) (tri15 k v1 h3) rfl ?_
    refine o_v (v_assign rfl) rfl ?_
    refine o_seq ?_
    refine c_ret ?_
    cases hF
    refine s_ret1 rfl (r_tmp rfl) fun a w hs => ?_
    exact fin_sel hs [] ⟨rfl, rfl, rfl⟩ rfl sub_nil
  · replace hF := ite_f h2 hF
    refine c_skip ?_
    refine sat_wc ?_
    refine c_seq ?_
    refine c_region ?_
    refine o_v (v_load_box 0 ty27 rfl rfl rfl rfl rfl) rfl ?_
    obtain ⟨v2, h4, hF⟩ := bd hF
    refine o_callSB call20 rfl (lent_f 0 rfl (lent_f 1 rfl lent_nil)) (tri20 k t sa1 sn1 sc1 v2 h4) rfl ?_
    refine o_v (v_move rfl) rfl ?_
    refine o_v (v_extract rfl rfl) rfl ?_
    refine o_v (v_extract rfl rfl) rfl ?_
    refine o_v (v_assign rfl) rfl ?_
    refine o_v (v_assign rfl) rfl ?_
    refine o_seq ?_
    refine c_seq ?_
    refine c_region ?_
    refine o_v (v_load_box 0 ty27 rfl rfl rfl rfl rfl) rfl ?_
    obtain ⟨v3, h5, hF⟩ := bd hF
    refine o_callSB call21 rfl (lent_f 1 rfl lent_nil) (tri21 k t sa1 sn1 sc1 v3 h5) rfl ?_
    refine o_v (v_move rfl) rfl ?_
    refine o_v (v_extract rfl rfl) rfl ?_
    refine o_v (v_extract rfl rfl) rfl ?_
    refine o_v (v_assign rfl) rfl ?_
    refine o_v (v_assign rfl) rfl ?_
    refine o_seq ?_
    refine c_seq ?_
    refine c_region ?_
    obtain ⟨v4, h6, hF⟩ := bd hF
    refine o_callSB call15 rfl (lent_f 0 rfl lent_nil) (tri15 k v4 h6) rfl ?_
    refine o_v (v_move rfl) rfl ?_
    refine o_split (t := 21) rfl (fun h7 => ?_) (fun h7 => ?_)
    · replace hF := ite_t h7 hF
      refine o_on rfl rfl ?_
      refine o_v (v_move rfl) rfl ?_
      refine o_on rfl rfl ?_
      refine o_v (v_move rfl) rfl ?_
      refine o_on rfl rfl ?_
      refine o_v (v_streq rfl rfl) rfl ?_
      refine o_v (v_pick_t rfl rfl) rfl ?_
      refine o_v (v_move rfl) rfl ?_
      refine o_split (t := 26) rfl (fun h8 => ?_) (fun h8 => ?_)
      · replace hF := ite_t h8 hF
        refine o_on rfl rfl ?_
        refine o_v (v_move rfl) rfl ?_
        refine o_on rfl rfl ?_
        refine o_v (v_move rfl) rfl ?_
        refine o_on rfl rfl ?_
        refine o_v (v_bin rfl rfl rfl) rfl ?_
        refine o_v (v_pick_t rfl rfl) rfl ?_
        refine o_v (v_assign rfl) rfl ?_
        refine o_seq ?_
        refine c_ret ?_
        cases hF
        refine s_ret1 rfl (r_tmp rfl) fun a w hs => ?_
        exact fin_sel hs [] ⟨rfl, rfl, rfl⟩ rfl sub_nil
      · replace hF := ite_f h8 hF
        refine o_off rfl rfl (by decide) rfl ?_
        refine o_off rfl rfl (by decide) rfl ?_
        refine o_off rfl rfl (by decide) rfl ?_
        refine o_v (v_pick_f rfl rfl) rfl ?_
        refine o_v (v_assign rfl) rfl ?_
        refine o_seq ?_
        refine c_ret ?_
        cases hF
        refine s_ret1 rfl (r_tmp rfl) fun a w hs => ?_
        exact fin_sel hs [] ⟨rfl, rfl, rfl⟩ rfl sub_nil
    · replace hF := ite_f h7 hF
      refine o_off rfl rfl (by decide) rfl ?_
      refine o_off rfl rfl (by decide) rfl ?_
      refine o_off rfl rfl (by decide) rfl ?_
      refine o_v (v_pick_f rfl rfl) rfl ?_
      refine o_v (v_move rfl) rfl ?_
      refine o_off rfl rfl (by decide) rfl ?_
      refine o_off rfl rfl (by decide) rfl ?_
      refine o_off rfl rfl (by decide) rfl ?_
      refine o_v (v_pick_f rfl rfl) rfl ?_
      refine o_v (v_assign rfl) rfl ?_
      refine o_seq ?_
      refine c_ret ?_
      cases hF
      refine s_ret1 rfl (r_tmp rfl) fun a w hs => ?_
      exact fin_sel hs [] ⟨rfl, rfl, rfl⟩ rfl sub_nil
theorem tri5 (k : Nat) (s : List UInt8) (r : Bool) (hF : F.law09.TreesReads k s = some r) :
    Tri Tryd.prog 5 [.string (bs s)] [] [gf10 0] (fun o H Φ => o = .ret (.bool r) ∧ H = [] ∧ Φ = []) := by
  unfold F.law09.TreesReads at hF
  refine tri_intro (n := 37) Tryd.func5 rfl Tryd.ntmps5 rfl fun w X => ?_
  refine c_seq ?_
  refine c_region ?_
  refine o_v (v_assign rfl) rfl ?_
  refine o_seq ?_
  refine c_seq ?_
  refine c_seq ?_
  refine c_cut (fun E N' => ∀ (t14 : Bool), F.law09.TreesReads_j1 k s t14 = some r → Sat E [(0, .string (bs s)), (2, .bool false), (14, .bool t14)] [] [gf10 0] N') (fun N1 hN1 => ?_) ?_
  · refine c_region ?_
    refine o_v (v_move rfl) rfl ?_
    refine o_v (v_len_str Tryd.underlying9 rfl) rfl ?_
    refine o_v (v_bin rfl rfl rfl) rfl ?_
    refine o_v (v_move rfl) rfl ?_
    refine o_split (t := 10) rfl (fun h9 => ?_) (fun h9 => ?_)
    · replace hF := ite_t h9 hF
      refine o_on rfl rfl ?_
      refine o_v (v_move rfl) rfl ?_
      refine o_on rfl rfl ?_
      refine o_v (v_len_str Tryd.underlying9 rfl) rfl ?_
      refine o_on rfl rfl ?_
      refine o_v (v_bin rfl rfl rfl) rfl ?_
      refine o_v (v_pick_t rfl rfl) rfl ?_
      refine o_nil ?_
      refine s_st ?_ (hN1 (decide ((s.length : Int) ≤ 65536)) hF)
      exact st_le [] (le_cons rfl (le_cons rfl (le_cons rfl le_nil))) rfl (sub_cons 0 rfl sub_nil)
    · replace hF := ite_f h9 hF
      refine o_off rfl rfl (by decide) rfl ?_
      refine o_off rfl rfl (by decide) rfl ?_
      refine o_off rfl rfl (by decide) rfl ?_
      refine o_v (v_pick_f rfl rfl) rfl ?_
      refine o_nil ?_
      refine s_st ?_ (hN1 false hF)
      exact st_le [] (le_cons rfl (le_cons rfl (le_cons rfl le_nil))) rfl (sub_cons 0 rfl sub_nil)
  · intro t14 hF
    unfold F.law09.TreesReads_j1 at hF
    refine sat_wc ?_
    refine c_cond rfl (fun h1 => ?_) (fun h1 => ?_)
    · replace hF := ite_t h1 hF
      refine c_seq ?_
      refine c_region ?_
      obtain ⟨v, h2, hF⟩ := bd hF
      refine o_callSB call15 rfl (lent_f 0 rfl lent_nil) (tri15 k v h2) rfl ?_
      refine o_v (v_assign rfl) rfl ?_
      refine o_seq ?_
      refine c_ret ?_
      cases hF
      refine s_ret1 rfl (r_tmp rfl) fun a w hs => ?_
      exact fin_sel hs [] ⟨rfl, rfl, rfl⟩ rfl sub_nil
    · replace hF := ite_f h1 hF
      refine c_skip ?_
      refine sat_wc ?_
      refine c_seq ?_
      refine c_region ?_
      refine o_v (v_move rfl) rfl ?_
      obtain ⟨v1, h3, hF⟩ := bd hF
      refine o_call0 call22 rfl sub_nil (tri22 k s v1 h3) rfl ?_
      rintro _ _ _ ⟨sa1, sn1, sc1, rfl, rfl, rfl⟩
      refine o_v (v_move rfl) rfl ?_
      refine o_v (v_extract rfl rfl) rfl ?_
      refine o_v (v_extract rfl rfl) rfl ?_
      refine o_alloc zero27 rfl rfl fun b => ?_
      refine o_alloc zero39 rfl rfl fun b1 => ?_
      refine o_store_box 1 rfl ty27 rfl rfl rfl rfl rfl rfl rfl ?_
      refine o_store_box 0 rfl ty39 rfl rfl rfl rfl rfl rfl rfl ?_
      refine o_seq ?_
      refine c_seq ?_
      refine c_region ?_
      refine o_v (v_move rfl) rfl ?_
      obtain ⟨v2, h4, hF⟩ := bd hF
      refine o_call0 call23 rfl sub_nil (tri23 k s v2 h4) rfl ?_
      rintro _ _ _ ⟨sa2, sn2, sc2, rfl, rfl, rfl⟩
      refine o_v (v_move rfl) rfl ?_
      refine o_v (v_extract rfl rfl) rfl ?_
      refine o_v (v_extract rfl rfl) rfl ?_
      refine o_alloc zero27 rfl rfl fun b2 => ?_
      refine o_alloc zero39 rfl rfl fun b3 => ?_
      refine o_store_box 1 rfl ty27 rfl rfl rfl rfl rfl rfl rfl ?_
      refine o_store_box 0 rfl ty39 rfl rfl rfl rfl rfl rfl rfl ?_
      refine o_seq ?_
      refine c_seq ?_
      refine c_region ?_
      obtain ⟨v3, h5, hF⟩ := bd hF
      refine o_callSB call15 rfl (lent_f 2 rfl lent_nil) (tri15 k v3 h5) rfl ?_
      refine o_v (v_move rfl) rfl ?_
      refine o_split (t := 27) rfl (fun h6 => ?_) (fun h6 => ?_)
      · replace hF := ite_t h6 hF
        refine o_on rfl rfl ?_
        refine o_v (v_load_box 3 ty27 rfl rfl rfl rfl rfl) rfl ?_
        refine o_on rfl rfl ?_
        refine o_v (v_load_box 1 ty27 rfl rfl rfl rfl rfl) rfl ?_
        refine o_on rfl rfl ?_
        obtain ⟨v4, h7, hF⟩ := bd hF
        refine o_callSB call19 rfl (lent_f 1 rfl (lent_f 0 rfl lent_nil)) (tri19 k v1.1 v2.1 sa1 sn1 sc1 sa2 sn2 sc2 v4 h7) rfl ?_
        refine o_v (v_pick_t rfl rfl) rfl ?_
        refine o_v (v_move rfl) rfl ?_
        refine o_split (t := 32) rfl (fun h8 => ?_) (fun h8 => ?_)
        · replace hF := ite_t h8 hF
          refine o_on rfl rfl ?_
          refine o_v (v_load_box 2 ty39 rfl rfl rfl rfl rfl) rfl ?_
          refine o_on rfl rfl ?_
          refine o_v (v_load_box 0 ty39 rfl rfl rfl rfl rfl) rfl ?_
          refine o_on rfl rfl ?_
          refine o_v (v_ageq 2 rfl rfl (eq39 v1.2.At v1.2.Code v2.2.At v2.2.Code) rfl guard39) rfl ?_
          refine o_v (v_pick_t rfl rfl) rfl ?_
          refine o_v (v_assign rfl) rfl ?_
          refine o_seq ?_
          refine c_ret ?_
          cases hF
          refine s_ret1 rfl (r_tmp rfl) fun a w hs => ?_
          exact fin_sel hs [] ⟨rfl, rfl, rfl⟩ rfl sub_nil
        · replace hF := ite_f h8 hF
          refine o_off rfl rfl (by decide) rfl ?_
          refine o_off rfl rfl (by decide) rfl ?_
          refine o_off rfl rfl (by decide) rfl ?_
          refine o_v (v_pick_f rfl rfl) rfl ?_
          refine o_v (v_assign rfl) rfl ?_
          refine o_seq ?_
          refine c_ret ?_
          cases hF
          refine s_ret1 rfl (r_tmp rfl) fun a w hs => ?_
          exact fin_sel hs [] ⟨rfl, rfl, rfl⟩ rfl sub_nil
      · replace hF := ite_f h6 hF
        refine o_off rfl rfl (by decide) rfl ?_
        refine o_off rfl rfl (by decide) rfl ?_
        refine o_off rfl rfl (by decide) rfl ?_
        refine o_v (v_pick_f rfl rfl) rfl ?_
        refine o_v (v_move rfl) rfl ?_
        refine o_off rfl rfl (by decide) rfl ?_
        refine o_off rfl rfl (by decide) rfl ?_
        refine o_off rfl rfl (by decide) rfl ?_
        refine o_v (v_pick_f rfl rfl) rfl ?_
        refine o_v (v_assign rfl) rfl ?_
        refine o_seq ?_
        refine c_ret ?_
        cases hF
        refine s_ret1 rfl (r_tmp rfl) fun a w hs => ?_
        exact fin_sel hs [] ⟨rfl, rfl, rfl⟩ rfl sub_nil
theorem tri6 (k : Nat) (t : Tree) (s : List UInt8) (sa1 : Option Addr) (sn1 sc1 : Nat) (r : Bool) (hF : F.law09.TreesBack k t s = some r) :
    Tri Tryd.prog 6 [.agg #[.int .i64 t.Rule, .int .u8 t.Byte, .slice sa1 sn1 sc1], .string (bs s)] [] [gf10 0, (.slice sa1 sn1 sc1, .slice 3 (t.Kids.map eTree))] (fun o H Φ => o = .ret (.bool r) ∧ H = [] ∧ Φ = []) := by
  unfold F.law09.TreesBack at hF
  refine tri_intro (n := 82) Tryd.func6 rfl Tryd.ntmps6 rfl fun w X => ?_
  refine c_seq ?_
  refine c_region ?_
  refine o_box rfl rfl rfl fun b => ?_
  refine o_v (v_assign rfl) rfl ?_
  refine o_seq ?_
  refine c_seq ?_
  refine c_seq ?_
  refine c_region ?_
  refine o_v (v_load_box 0 ty27 rfl rfl rfl rfl rfl) rfl ?_
  obtain ⟨v, h1, hF⟩ := bd hF
  refine o_callSB call13 rfl (lent_f 1 rfl lent_nil) (tri13 k t sa1 sn1 sc1 v h1) rfl ?_
  refine o_v (v_move rfl) rfl ?_
  refine o_split (t := 14) rfl (fun h2 => ?_) (fun h2 => ?_)
  · replace hF := ite_t h2 hF
    refine o_off rfl rfl (by decide) rfl ?_
    refine o_off rfl rfl (by decide) rfl ?_
    refine o_off rfl rfl (by decide) rfl ?_
    refine o_v (v_pick_t rfl rfl) rfl ?_
    refine o_seq ?_
    refine c_cond rfl (fun _ => ?_) (fun h => Bool.noConfusion h)
    refine c_seq ?_
    refine c_region ?_
    obtain ⟨v1, h3, hF⟩ := bd hF
    refine o_callSB call15 rfl (lent_f 0 rfl lent_nil) (tri15 k v1 h3) rfl ?_
    refine o_v (v_assign rfl) rfl ?_
    refine o_seq ?_
    refine c_ret ?_
    cases hF
    refine s_ret1 rfl (r_tmp rfl) fun a w hs => ?_
    exact fin_sel hs [] ⟨rfl, rfl, rfl⟩ rfl sub_nil
  · replace hF := ite_f h2 hF
    refine o_on rfl rfl ?_
    refine o_v (v_move rfl) rfl ?_
    refine o_on rfl rfl ?_
    refine o_v (v_len_str Tryd.underlying9 rfl) rfl ?_
    refine o_on rfl rfl ?_
    refine o_v (v_bin rfl rfl rfl) rfl ?_
    refine o_v (v_pick_f rfl rfl) rfl ?_
    refine o_seq ?_
    refine c_cond rfl (fun h4 => ?_) (fun h4 => ?_)
    · replace hF := ite_t h4 hF
      refine c_seq ?_
      refine c_region ?_
      obtain ⟨v2, h5, hF⟩ := bd hF
      refine o_callSB call15 rfl (lent_f 0 rfl lent_nil) (tri15 k v2 h5) rfl ?_
      refine o_v (v_assign rfl) rfl ?_
      refine o_seq ?_
      refine c_ret ?_
      cases hF
      refine s_ret1 rfl (r_tmp rfl) fun a w hs => ?_
      exact fin_sel hs [] ⟨rfl, rfl, rfl⟩ rfl sub_nil
    · replace hF := ite_f h4 hF
      refine c_skip ?_
      refine sat_wc ?_
      refine c_seq ?_
      refine c_region ?_
      refine o_v (v_load_box 0 ty27 rfl rfl rfl rfl rfl) rfl ?_
      obtain ⟨v3, h6, hF⟩ := bd hF
      refine o_callSB call20 rfl (lent_f 0 rfl (lent_f 1 rfl lent_nil)) (tri20 k t sa1 sn1 sc1 v3 h6) rfl ?_
      refine o_v (v_move rfl) rfl ?_
      refine o_v (v_extract rfl rfl) rfl ?_
      refine o_v (v_extract rfl rfl) rfl ?_
      refine o_v (v_assign rfl) rfl ?_
      refine o_v (v_assign rfl) rfl ?_
      refine o_seq ?_
      refine c_seq ?_
      refine c_seq ?_
      refine c_region ?_
      refine o_v (v_move rfl) rfl ?_
      refine o_v (v_bin rfl rfl rfl) rfl ?_
      refine o_seq ?_
      refine c_cut (fun E N' => F.law09.TreesBack_j1 k s = some r → Sat E [(0, .agg #[.int .i64 t.Rule, .int .u8 t.Byte, .slice sa1 sn1 sc1]), (1, .string (bs s)), (2, .pointer (some ⟨b, 0, none⟩)), (4, .bool false), (6, .int .i64 v3.2), (18, .bool (decide (20000 < (s.length : Int))))] [.box b 27 [.int .i64 t.Rule, .int .u8 t.Byte, .slice sa1 sn1 sc1]] [gf10 0, (.slice sa1 sn1 sc1, .slice 3 (t.Kids.map eTree))] N') (fun N2 hN2 => ?_) ?_
      · refine c_cond rfl (fun h18 => ?_) (fun h18 => ?_)
        · replace hF := ite_t h18 hF
          refine c_seq ?_
          refine c_region ?_
          refine o_v (v_move rfl) rfl ?_
          obtain ⟨v9, h19, hF⟩ := bd hF
          refine o_call0 call22 rfl sub_nil (tri22 k v3.1 v9 h19) rfl ?_
          rintro _ _ _ ⟨sa3, sn3, sc3, rfl, rfl, rfl⟩
          refine o_v (v_move rfl) rfl ?_
          refine o_v (v_extract rfl rfl) rfl ?_
          refine o_v (v_extract rfl rfl) rfl ?_
          refine o_alloc zero27 rfl rfl fun b3 => ?_
          refine o_alloc zero39 rfl rfl fun b4 => ?_
          refine o_store_box 1 rfl ty27 rfl rfl rfl rfl rfl rfl rfl ?_
          refine o_store_box 0 rfl ty39 rfl rfl rfl rfl rfl rfl rfl ?_
          refine o_seq ?_
          refine c_seq ?_
          refine c_region ?_
          refine o_v (v_fieldAddr (v := .pointer (some ⟨b4, 1, none⟩)) rfl (fun _ => by kernel_rfl)) rfl ?_
          refine o_v (v_load_box 0 ty32 rfl rfl rfl rfl rfl) rfl ?_
          refine o_v (v_bin rfl rfl rfl) rfl ?_
          refine o_v (v_move rfl) rfl ?_
          refine o_split (t := 35) rfl (fun h20 => ?_) (fun h20 => ?_)
          · replace hF := ite_t h20 hF
            refine o_off rfl rfl (by decide) rfl ?_
            refine o_off rfl rfl (by decide) rfl ?_
            refine o_off rfl rfl (by decide) rfl ?_
            refine o_off rfl rfl (by decide) rfl ?_
            refine o_v (v_pick_t rfl rfl) rfl ?_
            refine o_seq ?_
            refine c_cond rfl (fun _ => ?_) (fun h => Bool.noConfusion h)
            refine c_seq ?_
            refine c_region ?_
            refine o_v (v_assign rfl) rfl ?_
            refine o_seq ?_
            refine c_ret ?_
            cases hF
            refine s_ret1 rfl (r_tmp rfl) fun a w hs => ?_
            exact fin_sel hs [] ⟨rfl, rfl, rfl⟩ rfl sub_nil
          · replace hF := ite_f h20 hF
            refine o_on rfl rfl ?_
            refine o_v (v_load_box 1 ty27 rfl rfl rfl rfl rfl) rfl ?_
            refine o_on rfl rfl ?_
            refine o_v (v_load_box 2 ty27 rfl rfl rfl rfl rfl) rfl ?_
            refine o_on rfl rfl ?_
            obtain ⟨v10, h21, hF⟩ := bd hF
            refine o_callSB call19 rfl (lent_f 0 rfl (lent_f 2 rfl lent_nil)) (tri19 k v9.1 t sa3 sn3 sc3 sa1 sn1 sc1 v10 h21) rfl ?_
            refine o_on rfl rfl ?_
            refine o_v (v_not rfl) rfl ?_
            refine o_v (v_pick_f rfl rfl) rfl ?_
            refine o_seq ?_
            refine c_cond rfl (fun h22 => ?_) (fun h22 => ?_)
            · replace hF := ite_t h22 hF
              refine c_seq ?_
              refine c_region ?_
              refine o_v (v_assign rfl) rfl ?_
              refine o_seq ?_
              refine c_ret ?_
              cases hF
              refine s_ret1 rfl (r_tmp rfl) fun a w hs => ?_
              exact fin_sel hs [] ⟨rfl, rfl, rfl⟩ rfl sub_nil
            · replace hF := ite_f h22 hF
              refine c_skip ?_
              refine s_st ?_ (hN2 hF)
              exact st_le [2] (le_cons rfl (le_cons rfl (le_cons rfl (le_cons rfl (le_cons rfl (le_cons rfl le_nil)))))) rfl (sub_cons 1 rfl (sub_cons 2 rfl sub_nil))
        · replace hF := ite_f h18 hF
          refine c_skip ?_
          refine s_st ?_ (hN2 hF)
          exact st_le [0] (le_cons rfl (le_cons rfl (le_cons rfl (le_cons rfl (le_cons rfl (le_cons rfl le_nil)))))) rfl (sub_cons 0 rfl (sub_cons 1 rfl sub_nil))
      · intro hF
        unfold F.law09.TreesBack_j1 at hF
        refine sat_wc ?_
        refine c_seq ?_
        refine c_region ?_
        refine o_v (v_move rfl) rfl ?_
        obtain ⟨v4, h7, hF⟩ := bd hF
        refine o_call0 call22 rfl sub_nil (tri22 k s v4 h7) rfl ?_
        rintro _ _ _ ⟨sa2, sn2, sc2, rfl, rfl, rfl⟩
        refine o_v (v_move rfl) rfl ?_
        refine o_v (v_extract rfl rfl) rfl ?_
        refine o_v (v_extract rfl rfl) rfl ?_
        refine o_alloc zero27 rfl rfl fun b1 => ?_
        refine o_alloc zero39 rfl rfl fun b2 => ?_
        refine o_store_box 1 rfl ty27 rfl rfl rfl rfl rfl rfl rfl ?_
        refine o_store_box 0 rfl ty39 rfl rfl rfl rfl rfl rfl rfl ?_
        refine o_seq ?_
        refine c_seq ?_
        refine c_seq ?_
        refine c_region ?_
        refine o_v (v_fieldAddr (v := .pointer (some ⟨b2, 1, none⟩)) rfl (fun _ => by kernel_rfl)) rfl ?_
        refine o_v (v_load_box 0 ty32 rfl rfl rfl rfl rfl) rfl ?_
        refine o_v (v_bin rfl rfl rfl) rfl ?_
        refine o_seq ?_
        refine c_cond rfl (fun h8 => ?_) (fun h8 => ?_)
        · replace hF := ite_t h8 hF
          refine c_seq ?_
          refine c_cut (fun E N' => ∀ (t4 : Bool), F.law09.TreesBack_j2 t4 = some r → Sat E [(0, .agg #[.int .i64 t.Rule, .int .u8 t.Byte, .slice sa1 sn1 sc1]), (1, .string (bs s)), (2, .pointer (some ⟨b, 0, none⟩)), (4, .bool t4), (6, .int .i64 v3.2), (9, .pointer (some ⟨b1, 0, none⟩)), (10, .pointer (some ⟨b2, 0, none⟩)), (18, .bool (decide (20000 < (s.length : Int)))), (48, .bool (v4.2.Code != 0))] [.box b2 39 [.int .i64 v4.2.At, .int .i64 v4.2.Code], .box b1 27 [.int .i64 v4.1.Rule, .int .u8 v4.1.Byte, .slice sa2 sn2 sc2], .box b 27 [.int .i64 t.Rule, .int .u8 t.Byte, .slice sa1 sn1 sc1]] [gf10 0, (.slice sa1 sn1 sc1, .slice 3 (t.Kids.map eTree)), (.slice sa2 sn2 sc2, .slice 3 (v4.1.Kids.map eTree))] N') (fun N2 hN2 => ?_) ?_
          · refine c_region ?_
            obtain ⟨v5, h9, hF⟩ := bd hF
            refine o_callSB call15 rfl (lent_f 1 rfl lent_nil) (tri15 k v5 h9) rfl ?_
            refine o_v (v_move rfl) rfl ?_
            refine o_split (t := 50) rfl (fun h10 => ?_) (fun h10 => ?_)
            · replace hF := ite_t h10 hF
              refine o_on rfl rfl ?_
              refine o_v (v_load_box 1 ty27 rfl rfl rfl rfl rfl) rfl ?_
              refine o_on rfl rfl ?_
              refine o_v (v_build (v := .agg #[.int .i64 0, .int .u8 0, .slice none 0 0]) rfl (fun _ => by kernel_rfl)) rfl ?_
              refine o_on rfl rfl ?_
              obtain ⟨v6, h11, hF⟩ := bd hF
              refine o_st (st_nilfact 3) ?_
              refine o_callSB call19 rfl (lent_f 1 rfl (lent_f 0 rfl lent_nil)) (tri19 k v4.1 (Tree.mk 0 0 ([] : List Tree)) sa2 sn2 sc2 none 0 0 v6 h11) rfl ?_
              refine o_v (v_pick_t rfl rfl) rfl ?_
              refine o_v (v_move rfl) rfl ?_
              refine o_split (t := 55) rfl (fun h12 => ?_) (fun h12 => ?_)
              · replace hF := ite_t h12 hF
                refine o_on rfl rfl ?_
                refine o_v (v_fieldAddr (v := .pointer (some ⟨b2, 0, none⟩)) rfl (fun _ => by kernel_rfl)) rfl ?_
                refine o_on rfl rfl ?_
                refine o_v (v_load_box 0 ty3 rfl rfl rfl rfl rfl) rfl ?_
                refine o_on rfl rfl ?_
                refine o_v (v_bin rfl rfl rfl) rfl ?_
                refine o_v (v_pick_t rfl rfl) rfl ?_
                refine o_v (v_move rfl) rfl ?_
                refine o_split (t := 60) rfl (fun h13 => ?_) (fun h13 => ?_)
                · replace hF := ite_t h13 hF
                  refine o_on rfl rfl ?_
                  refine o_v (v_fieldAddr (v := .pointer (some ⟨b2, 0, none⟩)) rfl (fun _ => by kernel_rfl)) rfl ?_
                  refine o_on rfl rfl ?_
                  refine o_v (v_load_box 0 ty3 rfl rfl rfl rfl rfl) rfl ?_
                  refine o_on rfl rfl ?_
                  refine o_v (v_move rfl) rfl ?_
                  refine o_on rfl rfl ?_
                  refine o_v (v_len_str Tryd.underlying9 rfl) rfl ?_
                  refine o_on rfl rfl ?_
                  refine o_v (v_bin rfl rfl rfl) rfl ?_
                  refine o_v (v_pick_t rfl rfl) rfl ?_
                  refine o_v (v_assign rfl) rfl ?_
                  refine o_nil ?_
                  refine s_st ?_ (hN2 (decide (v4.2.At ≤ (s.length : Int))) hF)
                  exact st_le [0, 0, 0] (le_cons rfl (le_cons rfl (le_cons rfl (le_cons rfl (le_cons rfl (le_cons rfl (le_cons rfl (le_cons rfl (le_cons rfl le_nil))))))))) rfl (sub_cons 2 rfl (sub_cons 3 rfl (sub_cons 1 rfl sub_nil)))
                · replace hF := ite_f h13 hF
                  refine o_off rfl rfl (by decide) rfl ?_
                  refine o_off rfl rfl (by decide) rfl ?_
                  refine o_off rfl rfl (by decide) rfl ?_
                  refine o_off rfl rfl (by decide) rfl ?_
                  refine o_off rfl rfl (by decide) rfl ?_
                  refine o_v (v_pick_f rfl rfl) rfl ?_
                  refine o_v (v_assign rfl) rfl ?_
                  refine o_nil ?_
                  refine s_st ?_ (hN2 false hF)
                  exact st_le [0, 0, 0] (le_cons rfl (le_cons rfl (le_cons rfl (le_cons rfl (le_cons rfl (le_cons rfl (le_cons rfl (le_cons rfl (le_cons rfl le_nil))))))))) rfl (sub_cons 2 rfl (sub_cons 3 rfl (sub_cons 1 rfl sub_nil)))
              · replace hF := ite_f h12 hF
                refine o_off rfl rfl (by decide) rfl ?_
                refine o_off rfl rfl (by decide) rfl ?_
                refine o_off rfl rfl (by decide) rfl ?_
                refine o_v (v_pick_f rfl rfl) rfl ?_
                refine o_v (v_move rfl) rfl ?_
                refine o_off rfl rfl (by decide) rfl ?_
                refine o_off rfl rfl (by decide) rfl ?_
                refine o_off rfl rfl (by decide) rfl ?_
                refine o_off rfl rfl (by decide) rfl ?_
                refine o_off rfl rfl (by decide) rfl ?_
                refine o_v (v_pick_f rfl rfl) rfl ?_
                refine o_v (v_assign rfl) rfl ?_
                refine o_nil ?_
                refine s_st ?_ (hN2 false hF)
                exact st_le [0, 0, 0] (le_cons rfl (le_cons rfl (le_cons rfl (le_cons rfl (le_cons rfl (le_cons rfl (le_cons rfl (le_cons rfl (le_cons rfl le_nil))))))))) rfl (sub_cons 2 rfl (sub_cons 3 rfl (sub_cons 1 rfl sub_nil)))
            · replace hF := ite_f h10 hF
              refine o_off rfl rfl (by decide) rfl ?_
              refine o_off rfl rfl (by decide) rfl ?_
              refine o_off rfl rfl (by decide) rfl ?_
              refine o_v (v_pick_f rfl rfl) rfl ?_
              refine o_v (v_move rfl) rfl ?_
              refine o_off rfl rfl (by decide) rfl ?_
              refine o_off rfl rfl (by decide) rfl ?_
              refine o_off rfl rfl (by decide) rfl ?_
              refine o_v (v_pick_f rfl rfl) rfl ?_
              refine o_v (v_move rfl) rfl ?_
              refine o_off rfl rfl (by decide) rfl ?_
              refine o_off rfl rfl (by decide) rfl ?_
              refine o_off rfl rfl (by decide) rfl ?_
              refine o_off rfl rfl (by decide) rfl ?_
              refine o_off rfl rfl (by decide) rfl ?_
              refine o_v (v_pick_f rfl rfl) rfl ?_
              refine o_v (v_assign rfl) rfl ?_
              refine o_nil ?_
              refine s_st ?_ (hN2 false hF)
              exact st_le [0, 0, 0] (le_cons rfl (le_cons rfl (le_cons rfl (le_cons rfl (le_cons rfl (le_cons rfl (le_cons rfl (le_cons rfl (le_cons rfl le_nil))))))))) rfl (sub_cons 1 rfl (sub_cons 2 rfl (sub_cons 0 rfl sub_nil)))
          · intro t4 hF
            unfold F.law09.TreesBack_j2 at hF
            refine sat_wc ?_
            refine c_ret ?_
            cases hF
            refine s_ret1 rfl (r_tmp rfl) fun a w hs => ?_
            exact fin_sel hs [] ⟨rfl, rfl, rfl⟩ rfl sub_nil
        · replace hF := ite_f h8 hF
          refine c_skip ?_
          refine sat_wc ?_
          refine c_seq ?_
          refine c_region ?_
          refine o_v (v_load_box 1 ty27 rfl rfl rfl rfl rfl) rfl ?_
          obtain ⟨v7, h14, hF⟩ := bd hF
          refine o_callSB call20 rfl (lent_f 1 rfl (lent_f 0 rfl lent_nil)) (tri20 k v4.1 sa2 sn2 sc2 v7 h14) rfl ?_
          refine o_v (v_move rfl) rfl ?_
          refine o_v (v_extract rfl rfl) rfl ?_
          refine o_v (v_extract rfl rfl) rfl ?_
          refine o_v (v_assign rfl) rfl ?_
          refine o_v (v_assign rfl) rfl ?_
          refine o_seq ?_
          refine c_seq ?_
          refine c_region ?_
          obtain ⟨v8, h15, hF⟩ := bd hF
          refine o_callSB call15 rfl (lent_f 1 rfl lent_nil) (tri15 k v8 h15) rfl ?_
          refine o_v (v_move rfl) rfl ?_
          refine o_split (t := 73) rfl (fun h16 => ?_) (fun h16 => ?_)
          · replace hF := ite_t h16 hF
            refine o_on rfl rfl ?_
            refine o_v (v_move rfl) rfl ?_
            refine o_on rfl rfl ?_
            refine o_v (v_bin rfl rfl rfl) rfl ?_
            refine o_v (v_pick_t rfl rfl) rfl ?_
            refine o_v (v_move rfl) rfl ?_
            refine o_split (t := 77) rfl (fun h17 => ?_) (fun h17 => ?_)
            · replace hF := ite_t h17 hF
              refine o_on rfl rfl ?_
              refine o_v (v_move rfl) rfl ?_
              refine o_on rfl rfl ?_
              refine o_v (v_move rfl) rfl ?_
              refine o_on rfl rfl ?_
              refine o_v (v_streq rfl rfl) rfl ?_
              refine o_v (v_pick_t rfl rfl) rfl ?_
              refine o_v (v_assign rfl) rfl ?_
              refine o_seq ?_
              refine c_ret ?_
              cases hF
              refine s_ret1 rfl (r_tmp rfl) fun a w hs => ?_
              exact fin_sel hs [] ⟨rfl, rfl, rfl⟩ rfl sub_nil
            · replace hF := ite_f h17 hF
              refine o_off rfl rfl (by decide) rfl ?_
              refine o_off rfl rfl (by decide) rfl ?_
              refine o_off rfl rfl (by decide) rfl ?_
              refine o_v (v_pick_f rfl rfl) rfl ?_
              refine o_v (v_assign rfl) rfl ?_
              refine o_seq ?_
              refine c_ret ?_
              cases hF
              refine s_ret1 rfl (r_tmp rfl) fun a w hs => ?_
              exact fin_sel hs [] ⟨rfl, rfl, rfl⟩ rfl sub_nil
          · replace hF := ite_f h16 hF
            refine o_off rfl rfl (by decide) rfl ?_
            refine o_off rfl rfl (by decide) rfl ?_
            refine o_v (v_pick_f rfl rfl) rfl ?_
            refine o_v (v_move rfl) rfl ?_
            refine o_off rfl rfl (by decide) rfl ?_
            refine o_off rfl rfl (by decide) rfl ?_
            refine o_off rfl rfl (by decide) rfl ?_
            refine o_v (v_pick_f rfl rfl) rfl ?_
            refine o_v (v_assign rfl) rfl ?_
            refine o_seq ?_
            refine c_ret ?_
            cases hF
            refine s_ret1 rfl (r_tmp rfl) fun a w hs => ?_
            exact fin_sel hs [] ⟨rfl, rfl, rfl⟩ rfl sub_nil
end Go.Vc
