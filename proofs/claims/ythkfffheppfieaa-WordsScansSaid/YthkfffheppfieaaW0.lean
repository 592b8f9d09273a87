import Derived.Test.YthkfffheppfieaaH2
set_option linter.unusedVariables false
set_option linter.unusedSimpArgs false
set_option maxRecDepth 8000
set_option maxHeartbeats 2000000
namespace Go.Vc
open Go Go.Proofs
theorem tri26 (k : Nat) (s : Words_scanner) (b : Nat) (sa1 : Option Addr) (sn1 sc1 : Nat) (r : Words_scanner) (hF : F.words.scanner_skip k s = some r) :
    Tri Try.prog 26 [.pointer (some ⟨b, 0, none⟩)] [.box b 49 [.string (bs s.text), .int .i64 s.at_, .int .i64 s.line, .int .i64 s.top, .slice sa1 sn1 sc1], .row (.slice sa1 sn1 sc1) 35 11 (s.out.map eWord)] [] (fun o H Φ => ∃ (sa2 : Option Addr) (sn2 sc2 : Nat), o = .ret (.tuple #[]) ∧ H = [.box b 49 [.string (bs r.text), .int .i64 r.at_, .int .i64 r.line, .int .i64 r.top, .slice sa2 sn2 sc2], .row (.slice sa2 sn2 sc2) 35 11 (r.out.map eWord)] ∧ Φ = []) := by
  unfold F.words.scanner_skip at hF
  refine tri_intro (n := 80) Try.func26 rfl Try.ntmps26 rfl fun w X => ?_
  obtain ⟨o1, ho1, hF⟩ := bd hF
  refine c_cut (fun E N' => ∀ (d1 : Int × Int × Int), o1 = .done d1 → Sat E [] [.box b 49 [.string (bs s.text), .int .i64 d1.1, .int .i64 d1.2.1, .int .i64 d1.2.2, .slice sa1 sn1 sc1], .row (.slice sa1 sn1 sc1) 35 11 (s.out.map eWord)] [] N') (fun N1 hN1 => ?_) ?_
  · refine c_block ?_
    refine c_loopE (fun E j a w => ∃ (at__ : Int) (line_ : Int) (top_ : Int), F.words.scanner_skip_l1 k s j at__ line_ top_ = some o1 ∧ St E [(0, .pointer (some ⟨b, 0, none⟩))] [.box b 49 [.string (bs s.text), .int .i64 at__, .int .i64 line_, .int .i64 top_, .slice sa1 sn1 sc1], .row (.slice sa1 sn1 sc1) 35 11 (s.out.map eWord)] [] a w) k ?_ ?_
    · intro a w hs
      exact ⟨s.at_, s.line, s.top, ho1, st_le [0, 0] (le_cons rfl le_nil) rfl sub_nil a w hs⟩
    · rintro j a w ⟨at__, line_, top_, hL1, hs⟩
      cases j with
      | zero => cases hL1
      | succ j =>
        refine wc_app hs ?_
        unfold F.words.scanner_skip_l1 at hL1
        refine c_seq ?_
        refine c_seq ?_
        refine c_draw (n := 10) [0, 0] mixed rfl rfl ?_
        refine d_val 0 rfl pnok (by kernel_rfl) (by kernel_rfl) (by kernel_rfl) rfl (v_move rfl) ?_
        refine d_val 1 rfl pnok (by kernel_rfl) (by kernel_rfl) (by kernel_rfl) rfl (v_nilCheck rfl) ?_
        refine d_val 2 rfl pnok (by kernel_rfl) (by kernel_rfl) (by kernel_rfl) rfl (v_fieldAddr (v := .pointer (some ⟨b, 1, none⟩)) rfl (fun _ => by kernel_rfl)) ?_
        refine d_val 3 rfl pnok (by kernel_rfl) (by kernel_rfl) (by kernel_rfl) rfl (v_load_box 0 ty3 rfl rfl rfl rfl rfl) ?_
        refine d_val 4 rfl pnok (by kernel_rfl) (by kernel_rfl) (by kernel_rfl) rfl (v_move rfl) ?_
        refine d_val 5 rfl pnok (by kernel_rfl) (by kernel_rfl) (by kernel_rfl) rfl (v_nilCheck rfl) ?_
        refine d_val 6 rfl pnok (by kernel_rfl) (by kernel_rfl) (by kernel_rfl) rfl (v_fieldAddr (v := .pointer (some ⟨b, 0, none⟩)) rfl (fun _ => by kernel_rfl)) ?_
        refine d_val 7 rfl pnok (by kernel_rfl) (by kernel_rfl) (by kernel_rfl) rfl (v_load_box 0 ty9 rfl rfl rfl rfl rfl) ?_
        refine d_val 8 rfl pnok (by kernel_rfl) (by kernel_rfl) (by kernel_rfl) rfl (v_len_str Try.underlying9 rfl) ?_
        refine d_val 9 rfl pnok (by kernel_rfl) (by kernel_rfl) (by kernel_rfl) rfl (v_bin rfl rfl rfl) ?_
        refine d_done_seq (by kernel_rfl) ?_
        refine c_cond rfl (fun h1 => ?_) (fun h1 => ?_)
        · replace hL1 := ite_t h1 hL1
          refine c_skip ?_
          refine sat_wc ?_
          refine c_cut (fun E N' => ∀ (at__1 : Int) (line_1 : Int) (top_1 : Int), F.words.scanner_skip_j2 (F.words.scanner_skip_l1 k s j) at__1 line_1 top_1 = some o1 → Sat E [(0, .pointer (some ⟨b, 0, none⟩)), (20, .int .u8 (sAt s.text at__))] [.box b 49 [.string (bs s.text), .int .i64 at__1, .int .i64 line_1, .int .i64 top_1, .slice sa1 sn1 sc1], .row (.slice sa1 sn1 sc1) 35 11 (s.out.map eWord)] [] N') (fun N2 hN2 => ?_) ?_
          · refine c_block ?_
            refine c_seq ?_
            refine c_seq ?_
            refine c_draw (n := 9) [0, 0] mixed rfl rfl ?_
            refine d_val 0 rfl pnok (by kernel_rfl) (by kernel_rfl) (by kernel_rfl) rfl (v_move rfl) ?_
            refine d_val 1 rfl pnok (by kernel_rfl) (by kernel_rfl) (by kernel_rfl) rfl (v_nilCheck rfl) ?_
            refine d_val 2 rfl pnok (by kernel_rfl) (by kernel_rfl) (by kernel_rfl) rfl (v_fieldAddr (v := .pointer (some ⟨b, 0, none⟩)) rfl (fun _ => by kernel_rfl)) ?_
            refine d_val 3 rfl pnok (by kernel_rfl) (by kernel_rfl) (by kernel_rfl) rfl (v_load_box 0 ty9 rfl rfl rfl rfl rfl) ?_
            refine d_val 4 rfl pnok (by kernel_rfl) (by kernel_rfl) (by kernel_rfl) rfl (v_move rfl) ?_
            refine d_val 5 rfl pnok (by kernel_rfl) (by kernel_rfl) (by kernel_rfl) rfl (v_nilCheck rfl) ?_
            refine d_val 6 rfl pnok (by kernel_rfl) (by kernel_rfl) (by kernel_rfl) rfl (v_fieldAddr (v := .pointer (some ⟨b, 1, none⟩)) rfl (fun _ => by kernel_rfl)) ?_
            refine d_val 7 rfl pnok (by kernel_rfl) (by kernel_rfl) (by kernel_rfl) rfl (v_load_box 0 ty3 rfl rfl rfl rfl rfl) ?_
            refine ite_some hL1 fun h2 hL1 => ?_
            refine d_val 8 rfl pnok (by kernel_rfl) (by kernel_rfl) (by kernel_rfl) rfl (v_sindex Try.underlying9 rfl rfl h2) ?_
            refine d_done_seq (by kernel_rfl) ?_
            refine c_cut (fun E N' => ∀ (line_2 : Int) (top_2 : Int), F.words.scanner_skip_j3 (F.words.scanner_skip_l1 k s j) at__ line_2 top_2 = some o1 → Sat E [(0, .pointer (some ⟨b, 0, none⟩)), (20, .int .u8 (sAt s.text at__))] [.box b 49 [.string (bs s.text), .int .i64 at__, .int .i64 line_2, .int .i64 top_2, .slice sa1 sn1 sc1], .row (.slice sa1 sn1 sc1) 35 11 (s.out.map eWord)] [] N') (fun N3 hN3 => ?_) ?_
            · refine c_block ?_
              refine c_seq ?_
              refine c_region ?_
              refine o_v (v_bin rfl rfl rfl) rfl ?_
              refine o_v (v_assign rfl) rfl ?_
              refine o_seq ?_
              refine c_cut (fun E N' => ∀ (line_3 : Int) (top_3 : Int), F.words.scanner_skip_j4 (F.words.scanner_skip_l1 k s j) at__ line_3 top_3 = some o1 → Sat E [(0, .pointer (some ⟨b, 0, none⟩)), (20, .int .u8 (sAt s.text at__))] [.box b 49 [.string (bs s.text), .int .i64 at__, .int .i64 line_3, .int .i64 top_3, .slice sa1 sn1 sc1], .row (.slice sa1 sn1 sc1) 35 11 (s.out.map eWord)] [] N') (fun N4 hN4 => ?_) ?_
              · refine c_cond rfl (fun h3 => ?_) (fun h3 => ?_)
                · replace hL1 := ite_t h3 hL1
                  refine c_seq ?_
                  refine c_region ?_
                  refine o_v (v_move rfl) rfl ?_
                  refine o_v (v_nilCheck rfl) rfl ?_
                  refine o_v (v_fieldAddr (v := .pointer (some ⟨b, 2, none⟩)) rfl (fun _ => by kernel_rfl)) rfl ?_
                  refine o_v (v_load_box 0 ty3 rfl rfl rfl rfl rfl) rfl ?_
                  refine o_v (v_bin rfl rfl rfl) rfl ?_
                  refine o_v (v_nilCheck rfl) rfl ?_
                  refine o_v (v_fieldAddr (v := .pointer (some ⟨b, 2, none⟩)) rfl (fun _ => by kernel_rfl)) rfl ?_
                  refine o_store_box 0 rfl ty3 rfl rfl rfl rfl rfl rfl rfl ?_
                  refine o_seq ?_
                  refine c_region ?_
                  refine o_v (v_move rfl) rfl ?_
                  refine o_v (v_move rfl) rfl ?_
                  refine o_v (v_nilCheck rfl) rfl ?_
                  refine o_v (v_fieldAddr (v := .pointer (some ⟨b, 1, none⟩)) rfl (fun _ => by kernel_rfl)) rfl ?_
                  refine o_v (v_load_box 0 ty3 rfl rfl rfl rfl rfl) rfl ?_
                  refine o_v (v_bin rfl rfl rfl) rfl ?_
                  refine o_v (v_nilCheck rfl) rfl ?_
                  refine o_v (v_fieldAddr (v := .pointer (some ⟨b, 3, none⟩)) rfl (fun _ => by kernel_rfl)) rfl ?_
                  refine o_store_box 0 rfl ty3 rfl rfl rfl rfl rfl rfl rfl ?_
                  refine o_nil ?_
                  refine s_st ?_ (hN4 (IntKind.wrap .i64 (line_ + 1)) (IntKind.wrap .i64 (at__ + 1)) hL1)
                  exact st_le [0, 0] (le_cons rfl (le_cons rfl le_nil)) rfl sub_nil
                · replace hL1 := ite_f h3 hL1
                  refine c_seq ?_
                  refine c_seq ?_
                  refine c_region ?_
                  refine o_v (v_bin rfl rfl rfl) rfl ?_
                  refine o_v (v_assign rfl) rfl ?_
                  refine o_seq ?_
                  refine c_cut (fun E N' => ∀ (t38 : Bool), F.words.scanner_skip_j5 k (F.words.scanner_skip_l1 k s j) at__ line_ top_ s t38 = some o1 → Sat E [(0, .pointer (some ⟨b, 0, none⟩)), (20, .int .u8 (sAt s.text at__)), (38, .bool t38)] [.box b 49 [.string (bs s.text), .int .i64 at__, .int .i64 line_, .int .i64 top_, .slice sa1 sn1 sc1], .row (.slice sa1 sn1 sc1) 35 11 (s.out.map eWord)] [] N') (fun N7 hN7 => ?_) ?_
                  · refine c_cond rfl (fun h9 => ?_) (fun h9 => ?_)
                    · replace hL1 := ite_t h9 hL1
                      refine c_skip ?_
                      refine s_st ?_ (hN7 ((sAt s.text at__) == 32) hL1)
                      exact st_le [0, 0] (le_cons rfl (le_cons rfl (le_cons rfl le_nil))) rfl sub_nil
                    · replace hL1 := ite_f h9 hL1
                      refine c_seq ?_
                      refine c_region ?_
                      refine o_v (v_bin rfl rfl rfl) rfl ?_
                      refine o_v (v_assign rfl) rfl ?_
                      refine o_seq ?_
                      refine c_cut (fun E N' => ∀ (t381 : Bool), F.words.scanner_skip_j8 k (F.words.scanner_skip_l1 k s j) at__ line_ top_ s t381 = some o1 → Sat E [(0, .pointer (some ⟨b, 0, none⟩)), (20, .int .u8 (sAt s.text at__)), (38, .bool t381)] [.box b 49 [.string (bs s.text), .int .i64 at__, .int .i64 line_, .int .i64 top_, .slice sa1 sn1 sc1], .row (.slice sa1 sn1 sc1) 35 11 (s.out.map eWord)] [] N') (fun N8 hN8 => ?_) ?_
                      · refine c_cond rfl (fun h10 => ?_) (fun h10 => ?_)
                        · replace hL1 := ite_t h10 hL1
                          refine c_skip ?_
                          refine s_st ?_ (hN8 ((sAt s.text at__) == 9) hL1)
                          exact st_le [0, 0] (le_cons rfl (le_cons rfl (le_cons rfl le_nil))) rfl sub_nil
                        · replace hL1 := ite_f h10 hL1
                          refine c_region ?_
                          refine o_v (v_bin rfl rfl rfl) rfl ?_
                          refine o_v (v_assign rfl) rfl ?_
                          refine o_nil ?_
                          refine s_st ?_ (hN8 ((sAt s.text at__) == 13) hL1)
                          exact st_le [0, 0] (le_cons rfl (le_cons rfl (le_cons rfl le_nil))) rfl sub_nil
                      · intro t381 hL1
                        unfold F.words.scanner_skip_j8 at hL1
                        refine s_st ?_ (hN7 t381 hL1)
                        exact st_le [0, 0] (le_cons rfl (le_cons rfl (le_cons rfl le_nil))) rfl sub_nil
                  · intro t38 hL1
                    unfold F.words.scanner_skip_j5 at hL1
                    refine sat_wc ?_
                    refine c_cond rfl (fun h4 => ?_) (fun h4 => ?_)
                    · replace hL1 := ite_t h4 hL1
                      refine c_skip ?_
                      refine s_st ?_ (hN4 line_ top_ hL1)
                      exact st_le [0, 0] (le_cons rfl (le_cons rfl le_nil)) rfl sub_nil
                    · replace hL1 := ite_f h4 hL1
                      refine c_seq ?_
                      refine c_region ?_
                      refine o_v (v_bin rfl rfl rfl) rfl ?_
                      refine o_v (v_assign rfl) rfl ?_
                      refine o_seq ?_
                      refine c_cond rfl (fun h5 => ?_) (fun h5 => ?_)
                      · replace hL1 := ite_t h5 hL1
                        refine c_seq ?_
                        obtain ⟨o6, ho6, hL1⟩ := bd hL1
                        refine c_cut (fun E N' => Sat E [(0, .pointer (some ⟨b, 0, none⟩)), (20, .int .u8 (sAt s.text at__)), (38, .bool t38)] [.box b 49 [.string (bs s.text), .int .i64 o6, .int .i64 line_, .int .i64 top_, .slice sa1 sn1 sc1], .row (.slice sa1 sn1 sc1) 35 11 (s.out.map eWord)] [] N') (fun N6 hN6 => ?_) ?_
                        · refine c_block ?_
                          refine c_loopE (fun E j a w => ∃ (at__2 : Int), F.words.scanner_skip_l6 s j at__2 = some o6 ∧ St E [(0, .pointer (some ⟨b, 0, none⟩)), (20, .int .u8 (sAt s.text at__)), (38, .bool t38)] [.box b 49 [.string (bs s.text), .int .i64 at__2, .int .i64 line_, .int .i64 top_, .slice sa1 sn1 sc1], .row (.slice sa1 sn1 sc1) 35 11 (s.out.map eWord)] [] a w) k ?_ ?_
                          · intro a w hs
                            exact ⟨at__, ho6, st_le [0, 0] (le_cons rfl (le_cons rfl (le_cons rfl le_nil))) rfl sub_nil a w hs⟩
                          · rintro j a w ⟨at__2, hL6, hs⟩
                            cases j with
                            | zero => cases hL6
                            | succ j =>
                              refine wc_app hs ?_
                              unfold F.words.scanner_skip_l6 at hL6
                              refine c_seq ?_
                              refine c_seq ?_
                              refine c_cut (fun E N' => ∀ (t65 : Bool), F.words.scanner_skip_j7 (F.words.scanner_skip_l6 s j) at__2 t65 = some o6 → Sat E [(0, .pointer (some ⟨b, 0, none⟩)), (20, .int .u8 (sAt s.text at__)), (38, .bool t38), (65, .bool t65)] [.box b 49 [.string (bs s.text), .int .i64 at__2, .int .i64 line_, .int .i64 top_, .slice sa1 sn1 sc1], .row (.slice sa1 sn1 sc1) 35 11 (s.out.map eWord)] [] N') (fun N7 hN7 => ?_) ?_
                              · refine c_draw (n := 22) [0, 0] mixed rfl rfl ?_
                                refine d_val 0 rfl pnok (by kernel_rfl) (by kernel_rfl) (by kernel_rfl) rfl (v_move rfl) ?_
                                refine d_val 1 rfl pnok (by kernel_rfl) (by kernel_rfl) (by kernel_rfl) rfl (v_nilCheck rfl) ?_
                                refine d_val 2 rfl pnok (by kernel_rfl) (by kernel_rfl) (by kernel_rfl) rfl (v_fieldAddr (v := .pointer (some ⟨b, 1, none⟩)) rfl (fun _ => by kernel_rfl)) ?_
                                refine d_val 3 rfl pnok (by kernel_rfl) (by kernel_rfl) (by kernel_rfl) rfl (v_load_box 0 ty3 rfl rfl rfl rfl rfl) ?_
                                refine d_val 4 rfl pnok (by kernel_rfl) (by kernel_rfl) (by kernel_rfl) rfl (v_move rfl) ?_
                                refine d_val 5 rfl pnok (by kernel_rfl) (by kernel_rfl) (by kernel_rfl) rfl (v_nilCheck rfl) ?_
                                refine d_val 6 rfl pnok (by kernel_rfl) (by kernel_rfl) (by kernel_rfl) rfl (v_fieldAddr (v := .pointer (some ⟨b, 0, none⟩)) rfl (fun _ => by kernel_rfl)) ?_
                                refine d_val 7 rfl pnok (by kernel_rfl) (by kernel_rfl) (by kernel_rfl) rfl (v_load_box 0 ty9 rfl rfl rfl rfl rfl) ?_
                                refine d_val 8 rfl pnok (by kernel_rfl) (by kernel_rfl) (by kernel_rfl) rfl (v_len_str Try.underlying9 rfl) ?_
                                refine d_val 9 rfl pnok (by kernel_rfl) (by kernel_rfl) (by kernel_rfl) rfl (v_bin rfl rfl rfl) ?_
                                refine d_val 10 rfl pnok (by kernel_rfl) (by kernel_rfl) (by kernel_rfl) rfl (v_move rfl) ?_
                                refine d_split (t := 54) rfl (fun h7 => ?_) (fun h7 => ?_)
                                · replace hL6 := ite_t h7 hL6
                                  refine d_val_on 11 rfl rfl rfl pnok (by kernel_rfl) (by kernel_rfl) (by kernel_rfl) rfl (v_move rfl) ?_
                                  refine d_val_on 12 rfl rfl rfl pnok (by kernel_rfl) (by kernel_rfl) (by kernel_rfl) rfl (v_nilCheck rfl) ?_
                                  refine d_val_on 13 rfl rfl rfl pnok (by kernel_rfl) (by kernel_rfl) (by kernel_rfl) rfl (v_fieldAddr (v := .pointer (some ⟨b, 0, none⟩)) rfl (fun _ => by kernel_rfl)) ?_
                                  refine d_val_on 14 rfl rfl rfl pnok (by kernel_rfl) (by kernel_rfl) (by kernel_rfl) rfl (v_load_box 0 ty9 rfl rfl rfl rfl rfl) ?_
                                  refine d_val_on 15 rfl rfl rfl pnok (by kernel_rfl) (by kernel_rfl) (by kernel_rfl) rfl (v_move rfl) ?_
                                  refine d_val_on 16 rfl rfl rfl pnok (by kernel_rfl) (by kernel_rfl) (by kernel_rfl) rfl (v_nilCheck rfl) ?_
                                  refine d_val_on 17 rfl rfl rfl pnok (by kernel_rfl) (by kernel_rfl) (by kernel_rfl) rfl (v_fieldAddr (v := .pointer (some ⟨b, 1, none⟩)) rfl (fun _ => by kernel_rfl)) ?_
                                  refine d_val_on 18 rfl rfl rfl pnok (by kernel_rfl) (by kernel_rfl) (by kernel_rfl) rfl (v_load_box 0 ty3 rfl rfl rfl rfl rfl) ?_
                                  refine ite_some hL6 fun h8 hL6 => ?_
                                  refine d_val_on 19 rfl rfl rfl pnok (by kernel_rfl) (by kernel_rfl) (by kernel_rfl) rfl (v_sindex Try.underlying9 rfl rfl h8) ?_
                                  refine d_val_on 20 rfl rfl rfl pnok (by kernel_rfl) (by kernel_rfl) (by kernel_rfl) rfl (v_bin rfl rfl rfl) ?_
                                  refine d_val 21 rfl pnok (by kernel_rfl) (by kernel_rfl) (by kernel_rfl) rfl (v_pick_t rfl rfl) ?_
                                  refine d_done (by kernel_rfl) ?_
                                  refine s_st ?_ (hN7 ((sAt s.text at__2) != 10) hL6)
                                  exact st_le [0, 0] (le_cons rfl (le_cons rfl (le_cons rfl (le_cons rfl le_nil)))) rfl sub_nil
                                · replace hL6 := ite_f h7 hL6
                                  refine d_off 11 rfl rfl rfl (by decide) pnok (by kernel_rfl) (by kernel_rfl) (by kernel_rfl) rfl ?_
                                  refine d_off 12 rfl rfl rfl (by decide) pnok (by kernel_rfl) (by kernel_rfl) (by kernel_rfl) rfl ?_
                                  refine d_off 13 rfl rfl rfl (by decide) pnok (by kernel_rfl) (by kernel_rfl) (by kernel_rfl) rfl ?_
                                  refine d_off 14 rfl rfl rfl (by decide) pnok (by kernel_rfl) (by kernel_rfl) (by kernel_rfl) rfl ?_
                                  refine d_off 15 rfl rfl rfl (by decide) pnok (by kernel_rfl) (by kernel_rfl) (by kernel_rfl) rfl ?_
                                  refine d_off 16 rfl rfl rfl (by decide) pnok (by kernel_rfl) (by kernel_rfl) (by kernel_rfl) rfl ?_
                                  refine d_off 17 rfl rfl rfl (by decide) pnok (by kernel_rfl) (by kernel_rfl) (by kernel_rfl) rfl ?_
                                  refine d_off 18 rfl rfl rfl (by decide) pnok (by kernel_rfl) (by kernel_rfl) (by kernel_rfl) rfl ?_
                                  refine d_off 19 rfl rfl rfl (by decide) pnok (by kernel_rfl) (by kernel_rfl) (by kernel_rfl) rfl ?_
                                  refine d_off 20 rfl rfl rfl (by decide) pnok (by kernel_rfl) (by kernel_rfl) (by kernel_rfl) rfl ?_
                                  refine d_val 21 rfl pnok (by kernel_rfl) (by kernel_rfl) (by kernel_rfl) rfl (v_pick_f rfl rfl) ?_
                                  refine d_done (by kernel_rfl) ?_
                                  refine s_st ?_ (hN7 false hL6)
                                  exact st_le [0, 0] (le_cons rfl (le_cons rfl (le_cons rfl (le_cons rfl le_nil)))) rfl sub_nil
                              · intro t65 hL6
                                unfold F.words.scanner_skip_j7 at hL6
                                refine sat_wc ?_
                                refine c_cond rfl (fun h6 => ?_) (fun h6 => ?_)
                                · replace hL6 := ite_t h6 hL6
                                  refine c_skip ?_
                                  refine sat_wc ?_
                                  refine c_block ?_
                                  refine c_region ?_
                                  refine o_v (v_move rfl) rfl ?_
                                  refine o_v (v_nilCheck rfl) rfl ?_
                                  refine o_v (v_fieldAddr (v := .pointer (some ⟨b, 1, none⟩)) rfl (fun _ => by kernel_rfl)) rfl ?_
                                  refine o_v (v_load_box 0 ty3 rfl rfl rfl rfl rfl) rfl ?_
                                  refine o_v (v_bin rfl rfl rfl) rfl ?_
                                  refine o_v (v_nilCheck rfl) rfl ?_
                                  refine o_v (v_fieldAddr (v := .pointer (some ⟨b, 1, none⟩)) rfl (fun _ => by kernel_rfl)) rfl ?_
                                  refine o_store_box 0 rfl ty3 rfl rfl rfl rfl rfl rfl rfl ?_
                                  refine o_nil ?_
                                  intro a w hs
                                  exact ⟨j, Nat.lt_succ_self j, IntKind.wrap .i64 (at__2 + 1), hL6, st_le [0, 0] (le_cons rfl (le_cons rfl (le_cons rfl le_nil))) rfl sub_nil a w hs⟩
                                · replace hL6 := ite_f h6 hL6
                                  refine c_exit0 ?_
                                  cases hL6
                                  refine s_st ?_ (hN6)
                                  exact st_le [0, 0] (le_cons rfl (le_cons rfl (le_cons rfl le_nil))) rfl sub_nil
                        · refine sat_wc ?_
                          refine c_exit1 ?_
                          refine s_st ?_ (hN2 o6 line_ top_ hL1)
                          exact st_le [0, 0] (le_cons rfl (le_cons rfl le_nil)) rfl sub_nil
                      · replace hL1 := ite_f h5 hL1
                        refine c_ret ?_
                        cases hL1
                        obtain rfl := lrf_ret hF
                        refine s_ret0 rfl fun a w hs => ?_
                        exact fin_sel hs [0, 0] ⟨sa1, sn1, sc1, rfl, rfl, rfl⟩ rfl sub_nil
              · intro line_3 top_3 hL1
                unfold F.words.scanner_skip_j4 at hL1
                refine s_st ?_ (hN3 line_3 top_3 hL1)
                exact st_le [0, 0] (le_cons rfl (le_cons rfl le_nil)) rfl sub_nil
            · intro line_2 top_2 hL1
              unfold F.words.scanner_skip_j3 at hL1
              refine sat_wc ?_
              refine c_region ?_
              refine o_v (v_move rfl) rfl ?_
              refine o_v (v_nilCheck rfl) rfl ?_
              refine o_v (v_fieldAddr (v := .pointer (some ⟨b, 1, none⟩)) rfl (fun _ => by kernel_rfl)) rfl ?_
              refine o_v (v_load_box 0 ty3 rfl rfl rfl rfl rfl) rfl ?_
              refine o_v (v_bin rfl rfl rfl) rfl ?_
              refine o_v (v_nilCheck rfl) rfl ?_
              refine o_v (v_fieldAddr (v := .pointer (some ⟨b, 1, none⟩)) rfl (fun _ => by kernel_rfl)) rfl ?_
              refine o_store_box 0 rfl ty3 rfl rfl rfl rfl rfl rfl rfl ?_
              refine o_nil ?_
              refine s_st ?_ (hN2 (IntKind.wrap .i64 (at__ + 1)) line_2 top_2 hL1)
              exact st_le [0, 0] (le_cons rfl (le_cons rfl le_nil)) rfl sub_nil
          · intro at__1 line_1 top_1 hL1
            unfold F.words.scanner_skip_j2 at hL1
            intro a w hs
            exact ⟨j, Nat.lt_succ_self j, at__1, line_1, top_1, hL1, st_le [0, 0] (le_cons rfl le_nil) rfl sub_nil a w hs⟩
        · replace hL1 := ite_f h1 hL1
          refine c_exit0 ?_
          cases hL1
          refine s_st ?_ (hN1 (at__, line_, top_) rfl)
          exact st_le [0, 0] le_nil rfl sub_nil
  · intro d1 hd
    subst hd
    replace hF := lrf_done hF
    cases hF
    refine s_ret0 rfl fun a w hs => ?_
    exact fin_sel hs [0, 0] ⟨sa1, sn1, sc1, rfl, rfl, rfl⟩ rfl sub_nil
theorem tri33 (r_ : Int) (r : Bool) (hF : F.words.great r_ = some r) :
    Tri Try.prog 33 [.int .i32 r_] [] [] (fun o H Φ => o = .ret (.bool r) ∧ H = [] ∧ Φ = []) := by
  unfold F.words.great at hF
  refine tri_intro (n := 9) Try.func33 rfl Try.ntmps33 rfl fun w X => ?_
  refine c_seq ?_
  refine c_region ?_
  refine o_v (v_assign rfl) rfl ?_
  refine o_seq ?_
  refine c_seq ?_
  refine c_region ?_
  refine o_v (v_move rfl) rfl ?_
  refine o_v (v_bin rfl rfl rfl) rfl ?_
  refine o_v (v_move rfl) rfl ?_
  refine o_split (t := 5) rfl (fun h1 => ?_) (fun h1 => ?_)
  · replace hF := ite_t h1 hF
    refine o_on rfl rfl ?_
    refine o_v (v_move rfl) rfl ?_
    refine o_on rfl rfl ?_
    refine o_v (v_bin rfl rfl rfl) rfl ?_
    refine o_v (v_pick_t rfl rfl) rfl ?_
    refine o_v (v_assign rfl) rfl ?_
    refine o_seq ?_
    refine c_ret ?_
    cases hF
    refine s_ret1 rfl (r_tmp rfl) fun a w hs => ?_
    exact fin_sel hs [] ⟨rfl, rfl, rfl⟩ rfl sub_nil
  · replace hF := ite_f h1 hF
    refine o_off rfl rfl (by decide) rfl ?_
    refine o_off rfl rfl (by decide) rfl ?_
    refine o_v (v_pick_f rfl rfl) rfl ?_
    refine o_v (v_assign rfl) rfl ?_
    refine o_seq ?_
    refine c_ret ?_
    cases hF
    refine s_ret1 rfl (r_tmp rfl) fun a w hs => ?_
    exact fin_sel hs [] ⟨rfl, rfl, rfl⟩ rfl sub_nil
theorem tri37 (r_ : Int) (r : Bool) (hF : F.words.small r_ = some r) :
    Tri Try.prog 37 [.int .i32 r_] [] [] (fun o H Φ => o = .ret (.bool r) ∧ H = [] ∧ Φ = []) := by
  unfold F.words.small at hF
  refine tri_intro (n := 9) Try.func37 rfl Try.ntmps37 rfl fun w X => ?_
  refine c_seq ?_
  refine c_region ?_
  refine o_v (v_assign rfl) rfl ?_
  refine o_seq ?_
  refine c_seq ?_
  refine c_region ?_
  refine o_v (v_move rfl) rfl ?_
  refine o_v (v_bin rfl rfl rfl) rfl ?_
  refine o_v (v_move rfl) rfl ?_
  refine o_split (t := 5) rfl (fun h1 => ?_) (fun h1 => ?_)
  · replace hF := ite_t h1 hF
    refine o_on rfl rfl ?_
    refine o_v (v_move rfl) rfl ?_
    refine o_on rfl rfl ?_
    refine o_v (v_bin rfl rfl rfl) rfl ?_
    refine o_v (v_pick_t rfl rfl) rfl ?_
    refine o_v (v_assign rfl) rfl ?_
    refine o_seq ?_
    refine c_ret ?_
    cases hF
    refine s_ret1 rfl (r_tmp rfl) fun a w hs => ?_
    exact fin_sel hs [] ⟨rfl, rfl, rfl⟩ rfl sub_nil
  · replace hF := ite_f h1 hF
    refine o_off rfl rfl (by decide) rfl ?_
    refine o_off rfl rfl (by decide) rfl ?_
    refine o_v (v_pick_f rfl rfl) rfl ?_
    refine o_v (v_assign rfl) rfl ?_
    refine o_seq ?_
    refine c_ret ?_
    cases hF
    refine s_ret1 rfl (r_tmp rfl) fun a w hs => ?_
    exact fin_sel hs [] ⟨rfl, rfl, rfl⟩ rfl sub_nil
theorem tri45 (r_ : Int) (r : Bool) (hF : F.words.digit r_ = some r) :
    Tri Try.prog 45 [.int .i32 r_] [] [] (fun o H Φ => o = .ret (.bool r) ∧ H = [] ∧ Φ = []) := by
  unfold F.words.digit at hF
  refine tri_intro (n := 9) Try.func45 rfl Try.ntmps45 rfl fun w X => ?_
  refine c_seq ?_
  refine c_region ?_
  refine o_v (v_assign rfl) rfl ?_
  refine o_seq ?_
  refine c_seq ?_
  refine c_region ?_
  refine o_v (v_move rfl) rfl ?_
  refine o_v (v_bin rfl rfl rfl) rfl ?_
  refine o_v (v_move rfl) rfl ?_
  refine o_split (t := 5) rfl (fun h1 => ?_) (fun h1 => ?_)
  · replace hF := ite_t h1 hF
    refine o_on rfl rfl ?_
    refine o_v (v_move rfl) rfl ?_
    refine o_on rfl rfl ?_
    refine o_v (v_bin rfl rfl rfl) rfl ?_
    refine o_v (v_pick_t rfl rfl) rfl ?_
    refine o_v (v_assign rfl) rfl ?_
    refine o_seq ?_
    refine c_ret ?_
    cases hF
    refine s_ret1 rfl (r_tmp rfl) fun a w hs => ?_
    exact fin_sel hs [] ⟨rfl, rfl, rfl⟩ rfl sub_nil
  · replace hF := ite_f h1 hF
    refine o_off rfl rfl (by decide) rfl ?_
    refine o_off rfl rfl (by decide) rfl ?_
    refine o_v (v_pick_f rfl rfl) rfl ?_
    refine o_v (v_assign rfl) rfl ?_
    refine o_seq ?_
    refine c_ret ?_
    cases hF
    refine s_ret1 rfl (r_tmp rfl) fun a w hs => ?_
    exact fin_sel hs [] ⟨rfl, rfl, rfl⟩ rfl sub_nil
theorem tri34 (k : Nat) (s : List UInt8) (r : Int) (hF : F.words.run k s = some r) :
    Tri Try.prog 34 [.string (bs s)] [] [] (fun o H Φ => o = .ret (.int .i64 r) ∧ H = [] ∧ Φ = []) := by
  unfold F.words.run at hF
  refine tri_intro (n := 27) Try.func34 rfl Try.ntmps34 rfl fun w X => ?_
  refine c_seq ?_
  refine c_region ?_
  refine o_v (v_assign rfl) rfl ?_
  refine o_seq ?_
  refine c_seq ?_
  refine c_seq ?_
  refine c_region ?_
  refine o_v (v_move rfl) rfl ?_
  refine o_range Try.underlying9 rfl rfl fun b => ?_
  refine o_seq ?_
  obtain ⟨o1, ho1, hF⟩ := bd hF
  refine c_cut (fun E N' => ∀ (d1 : Unit), o1 = .done d1 → Sat E [(0, .string (bs s)), (2, .int .i64 0)] [] [] N') (fun N1 hN1 => ?_) ?_
  · refine c_block ?_
    refine c_loopE (fun E j a w => ∃ (v : Int), F.words.run_l1 s j v = some o1 ∧ St E [(0, .string (bs s)), (2, .int .i64 0), (6, .pointer (some ⟨b, 0, none⟩))] [.itr b s v] [] a w) k ?_ ?_
    · intro a w hs
      exact ⟨0, ho1, st_le [0] (le_cons rfl (le_cons rfl (le_cons rfl le_nil))) rfl sub_nil a w hs⟩
    · rintro j a w ⟨v, hL1, hs⟩
      cases j with
      | zero => cases hL1
      | succ j =>
        refine wc_app hs ?_
        unfold F.words.run_l1 at hL1
        refine c_seq ?_
        refine c_region ?_
        refine o_next 0 rfl rfl rfl (fun h1 => ?_) (fun h1 => ?_)
        · replace hL1 := ite_t h1 hL1
          refine o_v (v_extract rfl rfl) rfl ?_
          refine o_seq ?_
          refine c_seq ?_
          refine c_cond rfl (fun _ => ?_) (fun h => Bool.noConfusion h)
          refine c_skip ?_
          refine sat_wc ?_
          refine c_cut (fun E N' => F.words.run_j2 (F.words.run_l1 s j) v s = some o1 → Sat E [(0, .string (bs s)), (2, .int .i64 0), (3, .int .i64 v), (4, .int .i32 (runeAt s v)), (6, .pointer (some ⟨b, 0, none⟩)), (7, .tuple #[.bool true, .int .i64 v, .int .i32 (runeAt s v)])] [.itr b s (v + runeLen s v)] [] N') (fun N2 hN2 => ?_) ?_
          · refine c_block ?_
            refine c_seq ?_
            refine c_region ?_
            refine o_v (v_extract rfl rfl) rfl ?_
            refine o_v (v_extract rfl rfl) rfl ?_
            refine o_v (v_assign rfl) rfl ?_
            refine o_v (v_assign rfl) rfl ?_
            refine o_seq ?_
            refine c_seq ?_
            refine c_cut (fun E N' => ∀ (t23 : Bool), F.words.run_j3 v (F.words.run_l1 s j) s t23 = some o1 → Sat E [(0, .string (bs s)), (2, .int .i64 0), (3, .int .i64 v), (4, .int .i32 (runeAt s v)), (6, .pointer (some ⟨b, 0, none⟩)), (7, .tuple #[.bool true, .int .i64 v, .int .i32 (runeAt s v)]), (23, .bool t23)] [.itr b s (v + runeLen s v)] [] N') (fun N3 hN3 => ?_) ?_
            · refine c_region ?_
              refine o_v (v_move rfl) rfl ?_
              obtain ⟨v1, h3, hL1⟩ := bd hL1
              refine o_callSB call33 rfl lent_nil (tri33 (runeAt s v) v1 h3) rfl ?_
              refine o_v (v_not rfl) rfl ?_
              refine o_v (v_move rfl) rfl ?_
              refine o_split (t := 14) rfl (fun h4 => ?_) (fun h4 => ?_)
              · replace hL1 := ite_t h4 hL1
                refine o_on rfl rfl ?_
                refine o_v (v_move rfl) rfl ?_
                refine o_on rfl rfl ?_
                obtain ⟨v2, h5, hL1⟩ := bd hL1
                refine o_callSB call37 rfl lent_nil (tri37 (runeAt s v) v2 h5) rfl ?_
                refine o_on rfl rfl ?_
                refine o_v (v_not rfl) rfl ?_
                refine o_v (v_pick_t rfl rfl) rfl ?_
                refine o_v (v_move rfl) rfl ?_
                refine o_split (t := 19) rfl (fun h6 => ?_) (fun h6 => ?_)
                · replace hL1 := ite_t h6 hL1
                  refine o_on rfl rfl ?_
                  refine o_v (v_move rfl) rfl ?_
                  refine o_on rfl rfl ?_
                  obtain ⟨v3, h7, hL1⟩ := bd hL1
                  refine o_callSB call45 rfl lent_nil (tri45 (runeAt s v) v3 h7) rfl ?_
                  refine o_on rfl rfl ?_
                  refine o_v (v_not rfl) rfl ?_
                  refine o_v (v_pick_t rfl rfl) rfl ?_
                  refine o_nil ?_
                  refine s_st ?_ (hN3 (!v3) hL1)
                  exact st_le [0] (le_cons rfl (le_cons rfl (le_cons rfl (le_cons rfl (le_cons rfl (le_cons rfl (le_cons rfl le_nil))))))) rfl sub_nil
                · replace hL1 := ite_f h6 hL1
                  refine o_off rfl rfl (by decide) rfl ?_
                  refine o_off rfl rfl (by decide) rfl ?_
                  refine o_off rfl rfl (by decide) rfl ?_
                  refine o_v (v_pick_f rfl rfl) rfl ?_
                  refine o_nil ?_
                  refine s_st ?_ (hN3 false hL1)
                  exact st_le [0] (le_cons rfl (le_cons rfl (le_cons rfl (le_cons rfl (le_cons rfl (le_cons rfl (le_cons rfl le_nil))))))) rfl sub_nil
              · replace hL1 := ite_f h4 hL1
                refine o_off rfl rfl (by decide) rfl ?_
                refine o_off rfl rfl (by decide) rfl ?_
                refine o_off rfl rfl (by decide) rfl ?_
                refine o_v (v_pick_f rfl rfl) rfl ?_
                refine o_v (v_move rfl) rfl ?_
                refine o_off rfl rfl (by decide) rfl ?_
                refine o_off rfl rfl (by decide) rfl ?_
                refine o_off rfl rfl (by decide) rfl ?_
                refine o_v (v_pick_f rfl rfl) rfl ?_
                refine o_nil ?_
                refine s_st ?_ (hN3 false hL1)
                exact st_le [0] (le_cons rfl (le_cons rfl (le_cons rfl (le_cons rfl (le_cons rfl (le_cons rfl (le_cons rfl le_nil))))))) rfl sub_nil
            · intro t23 hL1
              unfold F.words.run_j3 at hL1
              refine sat_wc ?_
              refine c_cond rfl (fun h2 => ?_) (fun h2 => ?_)
              · replace hL1 := ite_t h2 hL1
                refine c_seq ?_
                refine c_region ?_
                refine o_v (v_move rfl) rfl ?_
                refine o_v (v_assign rfl) rfl ?_
                refine o_seq ?_
                refine c_ret ?_
                cases hL1
                obtain rfl := lrf_ret hF
                refine s_ret1 rfl (r_tmp rfl) fun a w hs => ?_
                exact fin_sel hs [] ⟨rfl, rfl, rfl⟩ rfl sub_nil
              · replace hL1 := ite_f h2 hL1
                refine c_skip ?_
                refine s_st ?_ (hN2 hL1)
                exact st_le [0] (le_cons rfl (le_cons rfl (le_cons rfl (le_cons rfl (le_cons rfl (le_cons rfl le_nil)))))) rfl sub_nil
          · intro hL1
            unfold F.words.run_j2 at hL1
            intro a w hs
            exact ⟨j, Nat.lt_succ_self j, (v + runeLen s v), hL1, st_le [0] (le_cons rfl (le_cons rfl (le_cons rfl le_nil))) rfl sub_nil a w hs⟩
        · replace hL1 := ite_f h1 hL1
          refine o_v (v_extract rfl rfl) rfl ?_
          refine o_seq ?_
          refine c_seq ?_
          refine c_cond rfl (fun h => Bool.noConfusion h) (fun _ => ?_)
          refine c_exit0 ?_
          cases hL1
          refine s_st ?_ (hN1 () rfl)
          exact st_le [] (le_cons rfl (le_cons rfl le_nil)) rfl sub_nil
  · intro d1 hd
    subst hd
    replace hF := lrf_done hF
    refine sat_wc ?_
    refine c_seq ?_
    refine c_region ?_
    refine o_v (v_move rfl) rfl ?_
    refine o_v (v_len_str Try.underlying9 rfl) rfl ?_
    refine o_v (v_assign rfl) rfl ?_
    refine o_seq ?_
    refine c_ret ?_
    cases hF
    refine s_ret1 rfl (r_tmp rfl) fun a w hs => ?_
    exact fin_sel hs [] ⟨rfl, rfl, rfl⟩ rfl sub_nil
theorem tri28 (s : Words_scanner) (w_ : Word) (end_ : Int) (b : Nat) (sa1 : Option Addr) (sn1 sc1 : Nat) (sa2 : Option Addr) (sn2 sc2 : Nat) (r : Words_scanner) (hF : F.words.scanner_put s w_ end_ = some r) :
    Tri Try.prog 28 [.pointer (some ⟨b, 0, none⟩), .agg #[.int .i64 w_.Kind, .string (bs w_.Text), .slice sa2 sn2 sc2, .int .u64 w_.Set.w0, .int .u64 w_.Set.w1, .int .u64 w_.Set.w2, .int .u64 w_.Set.w3, .int .i64 w_.N_, .int .i64 w_.At, .int .i64 w_.Line, .int .i64 w_.Col], .int .i64 end_] [.box b 49 [.string (bs s.text), .int .i64 s.at_, .int .i64 s.line, .int .i64 s.top, .slice sa1 sn1 sc1], .row (.slice sa1 sn1 sc1) 35 11 (s.out.map eWord)] [(.slice sa2 sn2 sc2, .slice 1 (w_.Bytes.map eU8))] (fun o H Φ => ∃ (sa5 : Option Addr) (sn5 sc5 : Nat), o = .ret (.tuple #[]) ∧ H = [.box b 49 [.string (bs r.text), .int .i64 r.at_, .int .i64 r.line, .int .i64 r.top, .slice sa5 sn5 sc5], .row (.slice sa5 sn5 sc5) 35 11 (r.out.map eWord)] ∧ Φ = []) := by
  unfold F.words.scanner_put at hF
  refine tri_intro (n := 52) Try.func28 rfl Try.ntmps28 rfl fun w X => ?_
  refine c_seq ?_
  refine c_region ?_
  refine o_box rfl rfl rfl fun b1 => ?_
  refine o_seq ?_
  refine c_seq ?_
  refine c_draw (n := 36) [1, 1] mixed rfl rfl ?_
  refine d_val 0 rfl pnok (by kernel_rfl) (by kernel_rfl) (by kernel_rfl) rfl (v_move rfl) ?_
  refine d_val 1 rfl pnok (by kernel_rfl) (by kernel_rfl) (by kernel_rfl) rfl (v_nilCheck rfl) ?_
  refine d_val 2 rfl pnok (by kernel_rfl) (by kernel_rfl) (by kernel_rfl) rfl (v_fieldAddr (v := .pointer (some ⟨b, 0, none⟩)) rfl (fun _ => by kernel_rfl)) ?_
  refine d_val 3 rfl pnok (by kernel_rfl) (by kernel_rfl) (by kernel_rfl) rfl (v_load_box 0 ty9 rfl rfl rfl rfl rfl) ?_
  refine d_val 4 rfl pnok (by kernel_rfl) (by kernel_rfl) (by kernel_rfl) rfl (v_move rfl) ?_
  refine d_val 5 rfl pnok (by kernel_rfl) (by kernel_rfl) (by kernel_rfl) rfl (v_nilCheck rfl) ?_
  refine d_val 6 rfl pnok (by kernel_rfl) (by kernel_rfl) (by kernel_rfl) rfl (v_fieldAddr (v := .pointer (some ⟨b, 1, none⟩)) rfl (fun _ => by kernel_rfl)) ?_
  refine d_val 7 rfl pnok (by kernel_rfl) (by kernel_rfl) (by kernel_rfl) rfl (v_load_box 0 ty3 rfl rfl rfl rfl rfl) ?_
  refine d_val 8 rfl pnok (by kernel_rfl) (by kernel_rfl) (by kernel_rfl) rfl (v_move rfl) ?_
  refine ite_some hF fun h1 hF => ?_
  refine d_val 9 rfl pnok (by kernel_rfl) (by kernel_rfl) (by kernel_rfl) rfl (v_strslice Try.underlying9 rfl rfl rfl rfl rfl h1) ?_
  refine d_val 10 rfl pnok (by kernel_rfl) (by kernel_rfl) (by kernel_rfl) rfl (v_move rfl) ?_
  refine d_val 11 rfl pnok (by kernel_rfl) (by kernel_rfl) (by kernel_rfl) rfl (v_nilCheck rfl) ?_
  refine d_val 12 rfl pnok (by kernel_rfl) (by kernel_rfl) (by kernel_rfl) rfl (v_fieldAddr (v := .pointer (some ⟨b, 1, none⟩)) rfl (fun _ => by kernel_rfl)) ?_
  refine d_val 13 rfl pnok (by kernel_rfl) (by kernel_rfl) (by kernel_rfl) rfl (v_load_box 0 ty3 rfl rfl rfl rfl rfl) ?_
  refine d_val 14 rfl pnok (by kernel_rfl) (by kernel_rfl) (by kernel_rfl) rfl (v_move rfl) ?_
  refine d_val 15 rfl pnok (by kernel_rfl) (by kernel_rfl) (by kernel_rfl) rfl (v_nilCheck rfl) ?_
  refine d_val 16 rfl pnok (by kernel_rfl) (by kernel_rfl) (by kernel_rfl) rfl (v_fieldAddr (v := .pointer (some ⟨b, 2, none⟩)) rfl (fun _ => by kernel_rfl)) ?_
  refine d_val 17 rfl pnok (by kernel_rfl) (by kernel_rfl) (by kernel_rfl) rfl (v_load_box 0 ty3 rfl rfl rfl rfl rfl) ?_
  refine d_val 18 rfl pnok (by kernel_rfl) (by kernel_rfl) (by kernel_rfl) rfl (v_move rfl) ?_
  refine d_val 19 rfl pnok (by kernel_rfl) (by kernel_rfl) (by kernel_rfl) rfl (v_nilCheck rfl) ?_
  refine d_val 20 rfl pnok (by kernel_rfl) (by kernel_rfl) (by kernel_rfl) rfl (v_fieldAddr (v := .pointer (some ⟨b, 1, none⟩)) rfl (fun _ => by kernel_rfl)) ?_
  refine d_val 21 rfl pnok (by kernel_rfl) (by kernel_rfl) (by kernel_rfl) rfl (v_load_box 0 ty3 rfl rfl rfl rfl rfl) ?_
  refine d_val 22 rfl pnok (by kernel_rfl) (by kernel_rfl) (by kernel_rfl) rfl (v_move rfl) ?_
  refine d_val 23 rfl pnok (by kernel_rfl) (by kernel_rfl) (by kernel_rfl) rfl (v_nilCheck rfl) ?_
  refine d_val 24 rfl pnok (by kernel_rfl) (by kernel_rfl) (by kernel_rfl) rfl (v_fieldAddr (v := .pointer (some ⟨b, 3, none⟩)) rfl (fun _ => by kernel_rfl)) ?_
  refine d_val 25 rfl pnok (by kernel_rfl) (by kernel_rfl) (by kernel_rfl) rfl (v_load_box 0 ty3 rfl rfl rfl rfl rfl) ?_
  refine d_val 26 rfl pnok (by kernel_rfl) (by kernel_rfl) (by kernel_rfl) rfl (v_bin rfl rfl rfl) ?_
  refine d_val 27 rfl pnok (by kernel_rfl) (by kernel_rfl) (by kernel_rfl) rfl (v_bin rfl rfl rfl) ?_
  refine d_val 28 rfl pnok (by kernel_rfl) (by kernel_rfl) (by kernel_rfl) rfl (v_fieldAddr (v := .pointer (some ⟨b1, 1, none⟩)) rfl (fun _ => by kernel_rfl)) ?_
  refine d_one 29 rfl (by kernel_rfl) ?_
  refine o_store_box 0 rfl ty9 rfl rfl rfl rfl rfl rfl rfl ?_
  refine d_next [1, 1] 0 rfl rfl ?_
  refine d_val 30 rfl pnok (by kernel_rfl) (by kernel_rfl) (by kernel_rfl) rfl (v_fieldAddr (v := .pointer (some ⟨b1, 8, none⟩)) rfl (fun _ => by kernel_rfl)) ?_
  refine d_one 31 rfl (by kernel_rfl) ?_
  refine o_store_box 0 rfl ty3 rfl rfl rfl rfl rfl rfl rfl ?_
  refine d_next [1, 1] 0 rfl rfl ?_
  refine d_val 32 rfl pnok (by kernel_rfl) (by kernel_rfl) (by kernel_rfl) rfl (v_fieldAddr (v := .pointer (some ⟨b1, 9, none⟩)) rfl (fun _ => by kernel_rfl)) ?_
  refine d_one 33 rfl (by kernel_rfl) ?_
  refine o_store_box 0 rfl ty3 rfl rfl rfl rfl rfl rfl rfl ?_
  refine d_next [1, 1] 0 rfl rfl ?_
  refine d_val 34 rfl pnok (by kernel_rfl) (by kernel_rfl) (by kernel_rfl) rfl (v_fieldAddr (v := .pointer (some ⟨b1, 10, none⟩)) rfl (fun _ => by kernel_rfl)) ?_
  refine d_one 35 rfl (by kernel_rfl) ?_
  refine o_store_box 0 rfl ty3 rfl rfl rfl rfl rfl rfl rfl ?_
  refine d_next [1, 1] 0 rfl rfl ?_
  refine d_done_seq (by kernel_rfl) ?_
  refine c_seq ?_
  refine c_draw (n := 11) [0] mixed rfl rfl ?_
  refine d_val 0 rfl pnok (by kernel_rfl) (by kernel_rfl) (by kernel_rfl) rfl (v_move rfl) ?_
  refine d_val 1 rfl pnok (by kernel_rfl) (by kernel_rfl) (by kernel_rfl) rfl (v_move rfl) ?_
  refine d_val 2 rfl pnok (by kernel_rfl) (by kernel_rfl) (by kernel_rfl) rfl (v_nilCheck rfl) ?_
  refine d_val 3 rfl pnok (by kernel_rfl) (by kernel_rfl) (by kernel_rfl) rfl (v_fieldAddr (v := .pointer (some ⟨b, 4, none⟩)) rfl (fun _ => by kernel_rfl)) ?_
  refine d_val 5 rfl pnok (by kernel_rfl) (by kernel_rfl) (by kernel_rfl) rfl (v_load_box 0 ty35 rfl rfl rfl rfl rfl) ?_
  refine d_all [4, 6] (by kernel_rfl) (by simp) ⟨⟨_, rfl, ?_⟩, ⟨_, rfl, ?_⟩, trivial⟩
  · refine o_v (v_load_box 1 ty23 rfl rfl rfl rfl rfl) rfl ?_
    refine d_next [0] 0 rfl rfl ?_
    refine d_one 6 rfl (by kernel_rfl) ?_
    refine o_buildSlice (enc := eWord) ([(Word.mk w_.Kind (sub s.text s.at_ end_) w_.Bytes w_.Set w_.N_ s.at_ s.line (IntKind.wrap .i64 ((IntKind.wrap .i64 (s.at_ - s.top)) + 1)))] : List Word) [.int .i64 w_.Kind, .string (bs (sub s.text s.at_ end_)), .slice sa2 sn2 sc2, .int .u64 w_.Set.w0, .int .u64 w_.Set.w1, .int .u64 w_.Set.w2, .int .u64 w_.Set.w3, .int .i64 w_.N_, .int .i64 s.at_, .int .i64 s.line, .int .i64 (IntKind.wrap .i64 ((IntKind.wrap .i64 (s.at_ - s.top)) + 1))] sl23 rfl (fun _ => by kernel_rfl) rfl rfl rfl (.s rfl (.s rfl (.f 0 rfl (.s rfl (.s rfl (.s rfl (.s rfl (.s rfl (.s rfl (.s rfl (.s rfl (.nil)))))))))))) rfl fun sa3 sn3 sc3 => ?_
    refine d_next [1] 0 rfl rfl ?_
    refine d_one 7 rfl (by kernel_rfl) ?_
    refine ite_some hF fun h2 hF => ?_
    refine ite_some hF fun h3 hF => ?_
    refine o_append (enc := eWord) (xs := s.out) (ys := ([(Word.mk w_.Kind (sub s.text s.at_ end_) w_.Bytes w_.Set w_.N_ s.at_ s.line (IntKind.wrap .i64 ((IntKind.wrap .i64 (s.at_ - s.top)) + 1)))] : List Word)) 3 sl23 rfl rfl rfl (.r 0 _ rfl) h2 h3 rfl fun sa4 sn4 sc4 => ?_
    refine d_next [1] 0 rfl rfl ?_
    refine d_val 8 rfl pnok (by kernel_rfl) (by kernel_rfl) (by kernel_rfl) rfl (v_nilCheck rfl) ?_
    refine d_val 9 rfl pnok (by kernel_rfl) (by kernel_rfl) (by kernel_rfl) rfl (v_fieldAddr (v := .pointer (some ⟨b, 4, none⟩)) rfl (fun _ => by kernel_rfl)) ?_
    refine d_one 10 rfl (by kernel_rfl) ?_
    refine o_store_box 2 rfl ty23 rfl rfl rfl rfl rfl rfl rfl ?_
    refine d_next [1] 0 rfl rfl ?_
    refine d_done_seq (by kernel_rfl) ?_
    refine c_region ?_
    refine o_v (v_move rfl) rfl ?_
    refine o_v (v_move rfl) rfl ?_
    refine o_v (v_nilCheck rfl) rfl ?_
    refine o_v (v_fieldAddr (v := .pointer (some ⟨b, 1, none⟩)) rfl (fun _ => by kernel_rfl)) rfl ?_
    refine o_store_box 2 rfl ty3 rfl rfl rfl rfl rfl rfl rfl ?_
    refine o_nil ?_
    cases hF
    refine s_ret0 rfl fun a w hs => ?_
    exact fin_sel hs [2, 2] ⟨sa4, sn4, sc4, rfl, rfl, rfl⟩ rfl sub_nil
  · refine o_buildSlice (enc := eWord) ([(Word.mk w_.Kind (sub s.text s.at_ end_) w_.Bytes w_.Set w_.N_ s.at_ s.line (IntKind.wrap .i64 ((IntKind.wrap .i64 (s.at_ - s.top)) + 1)))] : List Word) [.int .i64 w_.Kind, .string (bs (sub s.text s.at_ end_)), .slice sa2 sn2 sc2, .int .u64 w_.Set.w0, .int .u64 w_.Set.w1, .int .u64 w_.Set.w2, .int .u64 w_.Set.w3, .int .i64 w_.N_, .int .i64 s.at_, .int .i64 s.line, .int .i64 (IntKind.wrap .i64 ((IntKind.wrap .i64 (s.at_ - s.top)) + 1))] sl23 rfl (fun _ => by kernel_rfl) rfl rfl rfl (.s rfl (.s rfl (.f 0 rfl (.s rfl (.s rfl (.s rfl (.s rfl (.s rfl (.s rfl (.s rfl (.s rfl (.nil)))))))))))) rfl fun sa3 sn3 sc3 => ?_
    refine d_next [1] 0 rfl rfl ?_
    refine d_one 4 rfl (by kernel_rfl) ?_
    refine o_v (v_load_box 2 ty23 rfl rfl rfl rfl rfl) rfl ?_
    refine d_next [1] 0 rfl rfl ?_
    refine d_one 7 rfl (by kernel_rfl) ?_
    refine ite_some hF fun h2 hF => ?_
    refine ite_some hF fun h3 hF => ?_
    refine o_append (enc := eWord) (xs := s.out) (ys := ([(Word.mk w_.Kind (sub s.text s.at_ end_) w_.Bytes w_.Set w_.N_ s.at_ s.line (IntKind.wrap .i64 ((IntKind.wrap .i64 (s.at_ - s.top)) + 1)))] : List Word)) 3 sl23 rfl rfl rfl (.r 0 _ rfl) h2 h3 rfl fun sa4 sn4 sc4 => ?_
    refine d_next [1] 0 rfl rfl ?_
    refine d_val 8 rfl pnok (by kernel_rfl) (by kernel_rfl) (by kernel_rfl) rfl (v_nilCheck rfl) ?_
    refine d_val 9 rfl pnok (by kernel_rfl) (by kernel_rfl) (by kernel_rfl) rfl (v_fieldAddr (v := .pointer (some ⟨b, 4, none⟩)) rfl (fun _ => by kernel_rfl)) ?_
    refine d_one 10 rfl (by kernel_rfl) ?_
    refine o_store_box 2 rfl ty23 rfl rfl rfl rfl rfl rfl rfl ?_
    refine d_next [1] 0 rfl rfl ?_
    refine d_done_seq (by kernel_rfl) ?_
    refine c_region ?_
    refine o_v (v_move rfl) rfl ?_
    refine o_v (v_move rfl) rfl ?_
    refine o_v (v_nilCheck rfl) rfl ?_
    refine o_v (v_fieldAddr (v := .pointer (some ⟨b, 1, none⟩)) rfl (fun _ => by kernel_rfl)) rfl ?_
    refine o_store_box 2 rfl ty3 rfl rfl rfl rfl rfl rfl rfl ?_
    refine o_nil ?_
    cases hF
    refine s_ret0 rfl fun a w hs => ?_
    exact fin_sel hs [2, 2] ⟨sa4, sn4, sc4, rfl, rfl, rfl⟩ rfl sub_nil
theorem tri46 (k : Nat) (s : Words_scanner) (b : Nat) (sa1 : Option Addr) (sn1 sc1 : Nat) (r : Int × Words_scanner) (hF : F.words.scanner_number k s = some r) :
    Tri Try.prog 46 [.pointer (some ⟨b, 0, none⟩)] [.box b 49 [.string (bs s.text), .int .i64 s.at_, .int .i64 s.line, .int .i64 s.top, .slice sa1 sn1 sc1], .row (.slice sa1 sn1 sc1) 35 11 (s.out.map eWord)] [] (fun o H Φ => ∃ (sa3 : Option Addr) (sn3 sc3 : Nat), o = .ret (.int .i64 r.1) ∧ H = [.box b 49 [.string (bs r.2.text), .int .i64 r.2.at_, .int .i64 r.2.line, .int .i64 r.2.top, .slice sa3 sn3 sc3], .row (.slice sa3 sn3 sc3) 35 11 (r.2.out.map eWord)] ∧ Φ = []) := by
  unfold F.words.scanner_number at hF
  refine tri_intro (n := 70) Try.func46 rfl Try.ntmps46 rfl fun w X => ?_
  refine c_seq ?_
  refine c_region ?_
  refine o_v (v_assign rfl) rfl ?_
  refine o_seq ?_
  refine c_seq ?_
  refine c_region ?_
  refine o_v (v_move rfl) rfl ?_
  refine o_v (v_nilCheck rfl) rfl ?_
  refine o_v (v_fieldAddr (v := .pointer (some ⟨b, 1, none⟩)) rfl (fun _ => by kernel_rfl)) rfl ?_
  refine o_v (v_load_box 0 ty3 rfl rfl rfl rfl rfl) rfl ?_
  refine o_v (v_assign rfl) rfl ?_
  refine o_seq ?_
  refine c_seq ?_
  refine c_region ?_
  refine o_v (v_assign rfl) rfl ?_
  refine o_seq ?_
  refine c_seq ?_
  obtain ⟨o1, ho1, hF⟩ := bd hF
  refine c_cut (fun E N' => ∀ (d1 : Int × Int), o1 = .done d1 → Sat E [(0, .pointer (some ⟨b, 0, none⟩)), (2, .int .i64 0), (3, .int .i64 d1.1), (4, .int .i64 d1.2)] [.box b 49 [.string (bs s.text), .int .i64 s.at_, .int .i64 s.line, .int .i64 s.top, .slice sa1 sn1 sc1], .row (.slice sa1 sn1 sc1) 35 11 (s.out.map eWord)] [] N') (fun N1 hN1 => ?_) ?_
  · refine c_block ?_
    refine c_loopE (fun E j a w => ∃ (end_ : Int) (n : Int), F.words.scanner_number_l1 s j end_ n = some o1 ∧ St E [(0, .pointer (some ⟨b, 0, none⟩)), (2, .int .i64 0), (3, .int .i64 end_), (4, .int .i64 n)] [.box b 49 [.string (bs s.text), .int .i64 s.at_, .int .i64 s.line, .int .i64 s.top, .slice sa1 sn1 sc1], .row (.slice sa1 sn1 sc1) 35 11 (s.out.map eWord)] [] a w) k ?_ ?_
    · intro a w hs
      exact ⟨s.at_, 0, ho1, st_le [0, 0] (le_cons rfl (le_cons rfl (le_cons rfl (le_cons rfl le_nil)))) rfl sub_nil a w hs⟩
    · rintro j a w ⟨end_, n, hL1, hs⟩
      cases j with
      | zero => cases hL1
      | succ j =>
        refine wc_app hs ?_
        unfold F.words.scanner_number_l1 at hL1
        refine c_seq ?_
        refine c_seq ?_
        refine c_cut (fun E N' => ∀ (t25 : Bool), F.words.scanner_number_j2 end_ s (F.words.scanner_number_l1 s j) n t25 = some o1 → Sat E [(0, .pointer (some ⟨b, 0, none⟩)), (2, .int .i64 0), (3, .int .i64 end_), (4, .int .i64 n), (25, .bool t25)] [.box b 49 [.string (bs s.text), .int .i64 s.at_, .int .i64 s.line, .int .i64 s.top, .slice sa1 sn1 sc1], .row (.slice sa1 sn1 sc1) 35 11 (s.out.map eWord)] [] N') (fun N2 hN2 => ?_) ?_
        · refine c_region ?_
          refine o_v (v_move rfl) rfl ?_
          refine o_v (v_move rfl) rfl ?_
          refine o_v (v_nilCheck rfl) rfl ?_
          refine o_v (v_fieldAddr (v := .pointer (some ⟨b, 0, none⟩)) rfl (fun _ => by kernel_rfl)) rfl ?_
          refine o_v (v_load_box 0 ty9 rfl rfl rfl rfl rfl) rfl ?_
          refine o_v (v_len_str Try.underlying9 rfl) rfl ?_
          refine o_v (v_bin rfl rfl rfl) rfl ?_
          refine o_v (v_move rfl) rfl ?_
          refine o_split (t := 16) rfl (fun h4 => ?_) (fun h4 => ?_)
          · replace hL1 := ite_t h4 hL1
            refine o_on rfl rfl ?_
            refine o_v (v_move rfl) rfl ?_
            refine o_on rfl rfl ?_
            refine o_v (v_nilCheck rfl) rfl ?_
            refine o_on rfl rfl ?_
            refine o_v (v_fieldAddr (v := .pointer (some ⟨b, 0, none⟩)) rfl (fun _ => by kernel_rfl)) rfl ?_
            refine o_on rfl rfl ?_
            refine o_v (v_load_box 0 ty9 rfl rfl rfl rfl rfl) rfl ?_
            refine o_on rfl rfl ?_
            refine o_v (v_move rfl) rfl ?_
            refine o_on rfl rfl ?_
            refine ite_some hL1 fun h5 hL1 => ?_
            refine o_v (v_sindex Try.underlying9 rfl rfl h5) rfl ?_
            refine o_on rfl rfl ?_
            refine o_v (v_convert (v := .int .i32 (IntKind.wrap .i32 (sAt s.text end_))) rfl (fun _ => by kernel_rfl)) rfl ?_
            refine o_on rfl rfl ?_
            obtain ⟨v, h6, hL1⟩ := bd hL1
            refine o_callSB call45 rfl lent_nil (tri45 (IntKind.wrap .i32 (sAt s.text end_)) v h6) rfl ?_
            refine o_v (v_pick_t rfl rfl) rfl ?_
            refine o_nil ?_
            refine s_st ?_ (hN2 v hL1)
            exact st_le [0, 0] (le_cons rfl (le_cons rfl (le_cons rfl (le_cons rfl (le_cons rfl le_nil))))) rfl sub_nil
          · replace hL1 := ite_f h4 hL1
            refine o_off rfl rfl (by decide) rfl ?_
            refine o_off rfl rfl (by decide) rfl ?_
            refine o_off rfl rfl (by decide) rfl ?_
            refine o_off rfl rfl (by decide) rfl ?_
            refine o_off rfl rfl (by decide) rfl ?_
            refine o_off rfl rfl (by decide) rfl ?_
            refine o_off rfl rfl (by decide) rfl ?_
            refine o_off rfl rfl (by decide) rfl ?_
            refine o_v (v_pick_f rfl rfl) rfl ?_
            refine o_nil ?_
            refine s_st ?_ (hN2 false hL1)
            exact st_le [0, 0] (le_cons rfl (le_cons rfl (le_cons rfl (le_cons rfl (le_cons rfl le_nil))))) rfl sub_nil
        · intro t25 hL1
          unfold F.words.scanner_number_j2 at hL1
          refine sat_wc ?_
          refine c_cond rfl (fun h1 => ?_) (fun h1 => ?_)
          · replace hL1 := ite_t h1 hL1
            refine c_skip ?_
            refine sat_wc ?_
            refine c_block ?_
            refine c_seq ?_
            refine c_seq ?_
            refine c_region ?_
            refine o_v (v_move rfl) rfl ?_
            refine o_v (v_move rfl) rfl ?_
            refine o_v (v_nilCheck rfl) rfl ?_
            refine o_v (v_fieldAddr (v := .pointer (some ⟨b, 1, none⟩)) rfl (fun _ => by kernel_rfl)) rfl ?_
            refine o_v (v_load_box 0 ty3 rfl rfl rfl rfl rfl) rfl ?_
            refine o_v (v_bin rfl rfl rfl) rfl ?_
            refine o_v (v_bin rfl rfl rfl) rfl ?_
            refine o_seq ?_
            refine c_cond rfl (fun h2 => ?_) (fun h2 => ?_)
            · replace hL1 := ite_t h2 hL1
              refine c_seq ?_
              refine c_region ?_
              refine o_v (v_assign rfl) rfl ?_
              refine o_seq ?_
              refine c_ret ?_
              cases hL1
              obtain rfl := lrf_ret hF
              refine s_ret1 rfl (r_tmp rfl) fun a w hs => ?_
              exact fin_sel hs [0, 0] ⟨sa1, sn1, sc1, rfl, rfl, rfl⟩ rfl sub_nil
            · replace hL1 := ite_f h2 hL1
              refine c_skip ?_
              refine sat_wc ?_
              refine c_seq ?_
              refine c_region ?_
              refine o_v (v_move rfl) rfl ?_
              refine o_v (v_bin rfl rfl rfl) rfl ?_
              refine o_v (v_move rfl) rfl ?_
              refine o_v (v_nilCheck rfl) rfl ?_
              refine o_v (v_fieldAddr (v := .pointer (some ⟨b, 0, none⟩)) rfl (fun _ => by kernel_rfl)) rfl ?_
              refine o_v (v_load_box 0 ty9 rfl rfl rfl rfl rfl) rfl ?_
              refine o_v (v_move rfl) rfl ?_
              refine ite_some hL1 fun h3 hL1 => ?_
              refine o_v (v_sindex Try.underlying9 rfl rfl h3) rfl ?_
              refine o_v (v_bin rfl rfl rfl) rfl ?_
              refine o_v (v_convert (v := .int .i64 (IntKind.wrap .i64 (IntKind.wrap .u8 ((sAt s.text end_) - 48)))) rfl (fun _ => by kernel_rfl)) rfl ?_
              refine o_v (v_bin rfl rfl rfl) rfl ?_
              refine o_v (v_assign rfl) rfl ?_
              refine o_seq ?_
              refine c_region ?_
              refine o_v (v_move rfl) rfl ?_
              refine o_v (v_bin rfl rfl rfl) rfl ?_
              refine o_v (v_assign rfl) rfl ?_
              refine o_nil ?_
              intro a w hs
              exact ⟨j, Nat.lt_succ_self j, IntKind.wrap .i64 (end_ + 1), IntKind.wrap .i64 ((IntKind.wrap .i64 (10 * n)) + (IntKind.wrap .i64 (IntKind.wrap .u8 ((sAt s.text end_) - 48)))), hL1, st_le [0, 0] (le_cons rfl (le_cons rfl (le_cons rfl (le_cons rfl le_nil)))) rfl sub_nil a w hs⟩
          · replace hL1 := ite_f h1 hL1
            refine c_exit0 ?_
            cases hL1
            refine s_st ?_ (hN1 (end_, n) rfl)
            exact st_le [0, 0] (le_cons rfl (le_cons rfl (le_cons rfl (le_cons rfl le_nil)))) rfl sub_nil
  · intro d1 hd
    subst hd
    replace hF := lrf_done hF
    refine sat_wc ?_
    refine c_seq ?_
    refine c_seq ?_
    refine c_cut (fun E N' => ∀ (t64 : Bool), F.words.scanner_number_j3 s d1 t64 = some r → Sat E [(0, .pointer (some ⟨b, 0, none⟩)), (2, .int .i64 0), (3, .int .i64 d1.1), (4, .int .i64 d1.2), (64, .bool t64)] [.box b 49 [.string (bs s.text), .int .i64 s.at_, .int .i64 s.line, .int .i64 s.top, .slice sa1 sn1 sc1], .row (.slice sa1 sn1 sc1) 35 11 (s.out.map eWord)] [] N') (fun N3 hN3 => ?_) ?_
    · refine c_draw (n := 19) [0, 0] mixed rfl rfl ?_
      refine d_val 0 rfl pnok (by kernel_rfl) (by kernel_rfl) (by kernel_rfl) rfl (v_move rfl) ?_
      refine d_val 1 rfl pnok (by kernel_rfl) (by kernel_rfl) (by kernel_rfl) rfl (v_nilCheck rfl) ?_
      refine d_val 2 rfl pnok (by kernel_rfl) (by kernel_rfl) (by kernel_rfl) rfl (v_fieldAddr (v := .pointer (some ⟨b, 0, none⟩)) rfl (fun _ => by kernel_rfl)) ?_
      refine d_val 3 rfl pnok (by kernel_rfl) (by kernel_rfl) (by kernel_rfl) rfl (v_load_box 0 ty9 rfl rfl rfl rfl rfl) ?_
      refine d_val 4 rfl pnok (by kernel_rfl) (by kernel_rfl) (by kernel_rfl) rfl (v_move rfl) ?_
      refine d_val 5 rfl pnok (by kernel_rfl) (by kernel_rfl) (by kernel_rfl) rfl (v_nilCheck rfl) ?_
      refine d_val 6 rfl pnok (by kernel_rfl) (by kernel_rfl) (by kernel_rfl) rfl (v_fieldAddr (v := .pointer (some ⟨b, 1, none⟩)) rfl (fun _ => by kernel_rfl)) ?_
      refine d_val 7 rfl pnok (by kernel_rfl) (by kernel_rfl) (by kernel_rfl) rfl (v_load_box 0 ty3 rfl rfl rfl rfl rfl) ?_
      refine ite_some hF fun h9 hF => ?_
      refine d_val 8 rfl pnok (by kernel_rfl) (by kernel_rfl) (by kernel_rfl) rfl (v_sindex Try.underlying9 rfl rfl h9) ?_
      refine d_val 9 rfl pnok (by kernel_rfl) (by kernel_rfl) (by kernel_rfl) rfl (v_bin rfl rfl rfl) ?_
      refine d_val 10 rfl pnok (by kernel_rfl) (by kernel_rfl) (by kernel_rfl) rfl (v_move rfl) ?_
      refine d_split (t := 56) rfl (fun h10 => ?_) (fun h10 => ?_)
      · replace hF := ite_t h10 hF
        refine d_val_on 11 rfl rfl rfl pnok (by kernel_rfl) (by kernel_rfl) (by kernel_rfl) rfl (v_move rfl) ?_
        refine d_val_on 12 rfl rfl rfl pnok (by kernel_rfl) (by kernel_rfl) (by kernel_rfl) rfl (v_move rfl) ?_
        refine d_val_on 13 rfl rfl rfl pnok (by kernel_rfl) (by kernel_rfl) (by kernel_rfl) rfl (v_nilCheck rfl) ?_
        refine d_val_on 14 rfl rfl rfl pnok (by kernel_rfl) (by kernel_rfl) (by kernel_rfl) rfl (v_fieldAddr (v := .pointer (some ⟨b, 1, none⟩)) rfl (fun _ => by kernel_rfl)) ?_
        refine d_val_on 15 rfl rfl rfl pnok (by kernel_rfl) (by kernel_rfl) (by kernel_rfl) rfl (v_load_box 0 ty3 rfl rfl rfl rfl rfl) ?_
        refine d_val_on 16 rfl rfl rfl pnok (by kernel_rfl) (by kernel_rfl) (by kernel_rfl) rfl (v_bin rfl rfl rfl) ?_
        refine d_val_on 17 rfl rfl rfl pnok (by kernel_rfl) (by kernel_rfl) (by kernel_rfl) rfl (v_bin rfl rfl rfl) ?_
        refine d_val 18 rfl pnok (by kernel_rfl) (by kernel_rfl) (by kernel_rfl) rfl (v_pick_t rfl rfl) ?_
        refine d_done (by kernel_rfl) ?_
        refine s_st ?_ (hN3 (decide ((IntKind.wrap .i64 (s.at_ + 1)) < d1.1)) hF)
        exact st_le [0, 0] (le_cons rfl (le_cons rfl (le_cons rfl (le_cons rfl (le_cons rfl le_nil))))) rfl sub_nil
      · replace hF := ite_f h10 hF
        refine d_off 11 rfl rfl rfl (by decide) pnok (by kernel_rfl) (by kernel_rfl) (by kernel_rfl) rfl ?_
        refine d_off 12 rfl rfl rfl (by decide) pnok (by kernel_rfl) (by kernel_rfl) (by kernel_rfl) rfl ?_
        refine d_off 13 rfl rfl rfl (by decide) pnok (by kernel_rfl) (by kernel_rfl) (by kernel_rfl) rfl ?_
        refine d_off 14 rfl rfl rfl (by decide) pnok (by kernel_rfl) (by kernel_rfl) (by kernel_rfl) rfl ?_
        refine d_off 15 rfl rfl rfl (by decide) pnok (by kernel_rfl) (by kernel_rfl) (by kernel_rfl) rfl ?_
        refine d_off 16 rfl rfl rfl (by decide) pnok (by kernel_rfl) (by kernel_rfl) (by kernel_rfl) rfl ?_
        refine d_off 17 rfl rfl rfl (by decide) pnok (by kernel_rfl) (by kernel_rfl) (by kernel_rfl) rfl ?_
        refine d_val 18 rfl pnok (by kernel_rfl) (by kernel_rfl) (by kernel_rfl) rfl (v_pick_f rfl rfl) ?_
        refine d_done (by kernel_rfl) ?_
        refine s_st ?_ (hN3 false hF)
        exact st_le [0, 0] (le_cons rfl (le_cons rfl (le_cons rfl (le_cons rfl (le_cons rfl le_nil))))) rfl sub_nil
    · intro t64 hF
      unfold F.words.scanner_number_j3 at hF
      refine sat_wc ?_
      refine c_cond rfl (fun h7 => ?_) (fun h7 => ?_)
      · replace hF := ite_t h7 hF
        refine c_seq ?_
        refine c_region ?_
        refine o_v (v_assign rfl) rfl ?_
        refine o_seq ?_
        refine c_ret ?_
        cases hF
        refine s_ret1 rfl (r_tmp rfl) fun a w hs => ?_
        exact fin_sel hs [0, 0] ⟨sa1, sn1, sc1, rfl, rfl, rfl⟩ rfl sub_nil
      · replace hF := ite_f h7 hF
        refine c_skip ?_
        refine sat_wc ?_
        refine c_seq ?_
        refine c_region ?_
        refine o_v (v_move rfl) rfl ?_
        refine o_v (v_move rfl) rfl ?_
        refine o_v (v_build (v := .agg #[.int .i64 3, .string (bs ([] : List UInt8)), .slice none 0 0, .int .u64 0, .int .u64 0, .int .u64 0, .int .u64 0, .int .i64 d1.2, .int .i64 0, .int .i64 0, .int .i64 0]) rfl (fun _ => by kernel_rfl)) rfl ?_
        refine o_v (v_move rfl) rfl ?_
        obtain ⟨v1, h8, hF⟩ := bd hF
        refine o_st (st_nilfact 1) ?_
        refine o_call [0, 0] call28 rfl rfl rfl (sub_cons 0 rfl sub_nil) (cap := #[]) (by rw [show (#[] : Array Value).toList = [] from rfl, List.append_nil]; exact (tri28 s (Word.mk 3 ([] : List UInt8) ([] : List Int) (S4.mk 0 0 0 0) d1.2 0 0 0) d1.1 b sa1 sn1 sc1 none 0 0 v1 h8)) rfl ?_
        rintro _ _ _ ⟨sa2, sn2, sc2, rfl, rfl, rfl⟩
        refine o_seq ?_
        refine c_seq ?_
        refine c_region ?_
        refine o_v (v_assign rfl) rfl ?_
        refine o_seq ?_
        refine c_ret ?_
        cases hF
        refine s_ret1 rfl (r_tmp rfl) fun a w hs => ?_
        exact fin_sel hs [0, 0] ⟨sa2, sn2, sc2, rfl, rfl, rfl⟩ rfl sub_nil
theorem tri66 (c : Int) (r : Int) (hF : F.words.value c = some r) :
    Tri Try.prog 66 [.int .u8 c] [] [] (fun o H Φ => o = .ret (.int .i64 r) ∧ H = [] ∧ Φ = []) := by
  unfold F.words.value at hF
  refine tri_intro (n := 35) Try.func66 rfl Try.ntmps66 rfl fun w X => ?_
  refine c_seq ?_
  refine c_region ?_
  refine o_v (v_assign rfl) rfl ?_
  refine o_seq ?_
  refine c_seq ?_
  refine c_cut (fun E N' => F.words.value_j1 = some r → Sat E [(2, .int .i64 0)] [] [] N') (fun N1 hN1 => ?_) ?_
  · refine c_block ?_
    refine c_seq ?_
    refine c_cut (fun E N' => ∀ (t3 : Bool), F.words.value_j2 c t3 = some r → Sat E [(0, .int .u8 c), (2, .int .i64 0), (3, .bool t3)] [] [] N') (fun N5 hN5 => ?_) ?_
    · refine c_region ?_
      refine o_v (v_move rfl) rfl ?_
      refine o_v (v_bin rfl rfl rfl) rfl ?_
      refine o_v (v_move rfl) rfl ?_
      refine o_split (t := 6) rfl (fun h6 => ?_) (fun h6 => ?_)
      · replace hF := ite_t h6 hF
        refine o_on rfl rfl ?_
        refine o_v (v_move rfl) rfl ?_
        refine o_on rfl rfl ?_
        refine o_v (v_bin rfl rfl rfl) rfl ?_
        refine o_v (v_pick_t rfl rfl) rfl ?_
        refine o_v (v_assign rfl) rfl ?_
        refine o_nil ?_
        refine s_st ?_ (hN5 (decide (c ≤ 57)) hF)
        exact st_le [] (le_cons rfl (le_cons rfl (le_cons rfl le_nil))) rfl sub_nil
      · replace hF := ite_f h6 hF
        refine o_off rfl rfl (by decide) rfl ?_
        refine o_off rfl rfl (by decide) rfl ?_
        refine o_v (v_pick_f rfl rfl) rfl ?_
        refine o_v (v_assign rfl) rfl ?_
        refine o_nil ?_
        refine s_st ?_ (hN5 false hF)
        exact st_le [] (le_cons rfl (le_cons rfl (le_cons rfl le_nil))) rfl sub_nil
    · intro t3 hF
      unfold F.words.value_j2 at hF
      refine sat_wc ?_
      refine c_cut (fun E N' => F.words.value_j3 = some r → Sat E [(0, .int .u8 c), (2, .int .i64 0)] [] [] N') (fun N3 hN3 => ?_) ?_
      · refine c_cond rfl (fun h1 => ?_) (fun h1 => ?_)
        · replace hF := ite_t h1 hF
          refine c_seq ?_
          refine c_region ?_
          refine o_v (v_move rfl) rfl ?_
          refine o_v (v_bin rfl rfl rfl) rfl ?_
          refine o_v (v_convert (v := .int .i64 (IntKind.wrap .i64 (IntKind.wrap .u8 (c - 48)))) rfl (fun _ => by kernel_rfl)) rfl ?_
          refine o_v (v_assign rfl) rfl ?_
          refine o_seq ?_
          refine c_ret ?_
          cases hF
          refine s_ret1 rfl (r_tmp rfl) fun a w hs => ?_
          exact fin_sel hs [] ⟨rfl, rfl, rfl⟩ rfl sub_nil
        · replace hF := ite_f h1 hF
          refine c_seq ?_
          refine c_cut (fun E N' => ∀ (t13 : Bool), F.words.value_j4 c t13 = some r → Sat E [(0, .int .u8 c), (2, .int .i64 0), (13, .bool t13)] [] [] N') (fun N5 hN5 => ?_) ?_
          · refine c_region ?_
            refine o_v (v_move rfl) rfl ?_
            refine o_v (v_bin rfl rfl rfl) rfl ?_
            refine o_v (v_move rfl) rfl ?_
            refine o_split (t := 16) rfl (fun h5 => ?_) (fun h5 => ?_)
            · replace hF := ite_t h5 hF
              refine o_on rfl rfl ?_
              refine o_v (v_move rfl) rfl ?_
              refine o_on rfl rfl ?_
              refine o_v (v_bin rfl rfl rfl) rfl ?_
              refine o_v (v_pick_t rfl rfl) rfl ?_
              refine o_v (v_assign rfl) rfl ?_
              refine o_nil ?_
              refine s_st ?_ (hN5 (decide (c ≤ 102)) hF)
              exact st_le [] (le_cons rfl (le_cons rfl (le_cons rfl le_nil))) rfl sub_nil
            · replace hF := ite_f h5 hF
              refine o_off rfl rfl (by decide) rfl ?_
              refine o_off rfl rfl (by decide) rfl ?_
              refine o_v (v_pick_f rfl rfl) rfl ?_
              refine o_v (v_assign rfl) rfl ?_
              refine o_nil ?_
              refine s_st ?_ (hN5 false hF)
              exact st_le [] (le_cons rfl (le_cons rfl (le_cons rfl le_nil))) rfl sub_nil
          · intro t13 hF
            unfold F.words.value_j4 at hF
            refine sat_wc ?_
            refine c_cond rfl (fun h2 => ?_) (fun h2 => ?_)
            · replace hF := ite_t h2 hF
              refine c_seq ?_
              refine c_region ?_
              refine o_v (v_move rfl) rfl ?_
              refine o_v (v_bin rfl rfl rfl) rfl ?_
              refine o_v (v_convert (v := .int .i64 (IntKind.wrap .i64 (IntKind.wrap .u8 (c - 97)))) rfl (fun _ => by kernel_rfl)) rfl ?_
              refine o_v (v_bin rfl rfl rfl) rfl ?_
              refine o_v (v_assign rfl) rfl ?_
              refine o_seq ?_
              refine c_ret ?_
              cases hF
              refine s_ret1 rfl (r_tmp rfl) fun a w hs => ?_
              exact fin_sel hs [] ⟨rfl, rfl, rfl⟩ rfl sub_nil
            · replace hF := ite_f h2 hF
              refine c_seq ?_
              refine c_cut (fun E N' => ∀ (t24 : Bool), F.words.value_j5 c t24 = some r → Sat E [(0, .int .u8 c), (2, .int .i64 0), (24, .bool t24)] [] [] N') (fun N5 hN5 => ?_) ?_
              · refine c_region ?_
                refine o_v (v_move rfl) rfl ?_
                refine o_v (v_bin rfl rfl rfl) rfl ?_
                refine o_v (v_move rfl) rfl ?_
                refine o_split (t := 27) rfl (fun h4 => ?_) (fun h4 => ?_)
                · replace hF := ite_t h4 hF
                  refine o_on rfl rfl ?_
                  refine o_v (v_move rfl) rfl ?_
                  refine o_on rfl rfl ?_
                  refine o_v (v_bin rfl rfl rfl) rfl ?_
                  refine o_v (v_pick_t rfl rfl) rfl ?_
                  refine o_v (v_assign rfl) rfl ?_
                  refine o_nil ?_
                  refine s_st ?_ (hN5 (decide (c ≤ 70)) hF)
                  exact st_le [] (le_cons rfl (le_cons rfl (le_cons rfl le_nil))) rfl sub_nil
                · replace hF := ite_f h4 hF
                  refine o_off rfl rfl (by decide) rfl ?_
                  refine o_off rfl rfl (by decide) rfl ?_
                  refine o_v (v_pick_f rfl rfl) rfl ?_
                  refine o_v (v_assign rfl) rfl ?_
                  refine o_nil ?_
                  refine s_st ?_ (hN5 false hF)
                  exact st_le [] (le_cons rfl (le_cons rfl (le_cons rfl le_nil))) rfl sub_nil
              · intro t24 hF
                unfold F.words.value_j5 at hF
                refine sat_wc ?_
                refine c_cond rfl (fun h3 => ?_) (fun h3 => ?_)
                · replace hF := ite_t h3 hF
                  refine c_seq ?_
                  refine c_region ?_
                  refine o_v (v_move rfl) rfl ?_
                  refine o_v (v_bin rfl rfl rfl) rfl ?_
                  refine o_v (v_convert (v := .int .i64 (IntKind.wrap .i64 (IntKind.wrap .u8 (c - 65)))) rfl (fun _ => by kernel_rfl)) rfl ?_
                  refine o_v (v_bin rfl rfl rfl) rfl ?_
                  refine o_v (v_assign rfl) rfl ?_
                  refine o_seq ?_
                  refine c_ret ?_
                  cases hF
                  refine s_ret1 rfl (r_tmp rfl) fun a w hs => ?_
                  exact fin_sel hs [] ⟨rfl, rfl, rfl⟩ rfl sub_nil
                · replace hF := ite_f h3 hF
                  refine c_skip ?_
                  refine s_st ?_ (hN3 hF)
                  exact st_le [] (le_cons rfl (le_cons rfl le_nil)) rfl sub_nil
      · intro hF
        unfold F.words.value_j3 at hF
        refine s_st ?_ (hN1 hF)
        exact st_le [] (le_cons rfl le_nil) rfl sub_nil
  · intro hF
    unfold F.words.value_j1 at hF
    refine sat_wc ?_
    refine c_seq ?_
    refine c_region ?_
    refine o_v (v_assign rfl) rfl ?_
    refine o_seq ?_
    refine c_ret ?_
    cases hF
    refine s_ret1 rfl (r_tmp rfl) fun a w hs => ?_
    exact fin_sel hs [] ⟨rfl, rfl, rfl⟩ rfl sub_nil
theorem tri57 (s : List UInt8) (r : Int × Int) (hF : F.words.escape s = some r) :
    Tri Try.prog 57 [.string (bs s)] [] [] (fun o H Φ => o = .ret (.tuple #[.int .u8 r.1, .int .i64 r.2]) ∧ H = [] ∧ Φ = []) := by
  unfold F.words.escape at hF
  refine tri_intro (n := 46) Try.func57 rfl Try.ntmps57 rfl fun w X => ?_
  refine c_seq ?_
  refine c_region ?_
  refine o_v (v_assign rfl) rfl ?_
  refine o_v (v_assign rfl) rfl ?_
  refine o_seq ?_
  refine c_seq ?_
  refine c_seq ?_
  refine c_region ?_
  refine o_v (v_move rfl) rfl ?_
  refine o_v (v_len_str Try.underlying9 rfl) rfl ?_
  refine o_v (v_bin rfl rfl rfl) rfl ?_
  refine o_seq ?_
  refine c_cond rfl (fun h1 => ?_) (fun h1 => ?_)
  · replace hF := ite_t h1 hF
    refine c_seq ?_
    refine c_region ?_
    refine o_v (v_assign rfl) rfl ?_
    refine o_v (v_assign rfl) rfl ?_
    refine o_seq ?_
    refine c_ret ?_
    cases hF
    refine s_ret2 rfl (r_tmp rfl) (r_tmp rfl) fun a w hs => ?_
    exact fin_sel hs [] ⟨rfl, rfl, rfl⟩ rfl sub_nil
  · replace hF := ite_f h1 hF
    refine c_skip ?_
    refine sat_wc ?_
    refine c_seq ?_
    refine c_seq ?_
    refine c_region ?_
    refine o_v (v_move rfl) rfl ?_
    refine ite_some hF fun h2 hF => ?_
    refine o_v (v_sindex Try.underlying9 rfl rfl h2) rfl ?_
    refine o_seq ?_
    refine c_block ?_
    refine c_seq ?_
    refine c_seq ?_
    refine c_region ?_
    refine o_v (v_bin rfl rfl rfl) rfl ?_
    refine o_v (v_assign rfl) rfl ?_
    refine o_seq ?_
    refine c_cut (fun E N' => ∀ (t9 : Bool), F.words.escape_j1 s t9 = some r → Sat E [(0, .string (bs s)), (2, .int .u8 0), (3, .int .i64 0), (8, .int .u8 (sAt s 1)), (9, .bool t9)] [] [] N') (fun N4 hN4 => ?_) ?_
    · refine c_cond rfl (fun h19 => ?_) (fun h19 => ?_)
      · replace hF := ite_t h19 hF
        refine c_skip ?_
        refine s_st ?_ (hN4 ((sAt s 1) == 34) hF)
        exact st_le [] (le_cons rfl (le_cons rfl (le_cons rfl (le_cons rfl (le_cons rfl le_nil))))) rfl sub_nil
      · replace hF := ite_f h19 hF
        refine c_region ?_
        refine o_v (v_bin rfl rfl rfl) rfl ?_
        refine o_v (v_assign rfl) rfl ?_
        refine o_nil ?_
        refine s_st ?_ (hN4 ((sAt s 1) == 92) hF)
        exact st_le [] (le_cons rfl (le_cons rfl (le_cons rfl (le_cons rfl (le_cons rfl le_nil))))) rfl sub_nil
    · intro t9 hF
      unfold F.words.escape_j1 at hF
      refine sat_wc ?_
      refine c_cut (fun E N' => F.words.escape_j2 = some r → Sat E [(0, .string (bs s)), (2, .int .u8 0), (3, .int .i64 0), (8, .int .u8 (sAt s 1)), (9, .bool t9)] [] [] N') (fun N2 hN2 => ?_) ?_
      · refine c_cond rfl (fun h3 => ?_) (fun h3 => ?_)
        · replace hF := ite_t h3 hF
          refine c_seq ?_
          refine c_region ?_
          refine o_v (v_move rfl) rfl ?_
          refine o_v (v_sindex Try.underlying9 rfl rfl h2) rfl ?_
          refine o_v (v_assign rfl) rfl ?_
          refine o_v (v_assign rfl) rfl ?_
          refine o_seq ?_
          refine c_ret ?_
          cases hF
          refine s_ret2 rfl (r_tmp rfl) (r_tmp rfl) fun a w hs => ?_
          exact fin_sel hs [] ⟨rfl, rfl, rfl⟩ rfl sub_nil
        · replace hF := ite_f h3 hF
          refine c_seq ?_
          refine c_region ?_
          refine o_v (v_bin rfl rfl rfl) rfl ?_
          refine o_v (v_assign rfl) rfl ?_
          refine o_seq ?_
          refine c_cond rfl (fun h4 => ?_) (fun h4 => ?_)
          · replace hF := ite_t h4 hF
            refine c_seq ?_
            refine c_region ?_
            refine o_v (v_assign rfl) rfl ?_
            refine o_v (v_assign rfl) rfl ?_
            refine o_seq ?_
            refine c_ret ?_
            cases hF
            refine s_ret2 rfl (r_tmp rfl) (r_tmp rfl) fun a w hs => ?_
            exact fin_sel hs [] ⟨rfl, rfl, rfl⟩ rfl sub_nil
          · replace hF := ite_f h4 hF
            refine c_seq ?_
            refine c_region ?_
            refine o_v (v_bin rfl rfl rfl) rfl ?_
            refine o_v (v_assign rfl) rfl ?_
            refine o_seq ?_
            refine c_cond rfl (fun h5 => ?_) (fun h5 => ?_)
            · replace hF := ite_t h5 hF
              refine c_seq ?_
              refine c_region ?_
              refine o_v (v_assign rfl) rfl ?_
              refine o_v (v_assign rfl) rfl ?_
              refine o_seq ?_
              refine c_ret ?_
              cases hF
              refine s_ret2 rfl (r_tmp rfl) (r_tmp rfl) fun a w hs => ?_
              exact fin_sel hs [] ⟨rfl, rfl, rfl⟩ rfl sub_nil
            · replace hF := ite_f h5 hF
              refine c_seq ?_
              refine c_region ?_
              refine o_v (v_bin rfl rfl rfl) rfl ?_
              refine o_v (v_assign rfl) rfl ?_
              refine o_seq ?_
              refine c_cut (fun E N' => F.words.escape_j3 = some r → Sat E [(0, .string (bs s)), (2, .int .u8 0), (3, .int .i64 0), (8, .int .u8 (sAt s 1)), (9, .bool t9)] [] [] N') (fun N3 hN3 => ?_) ?_
              · refine c_cond rfl (fun h6 => ?_) (fun h6 => ?_)
                · replace hF := ite_t h6 hF
                  refine c_seq ?_
                  refine c_region ?_
                  refine o_v (v_assign rfl) rfl ?_
                  refine o_v (v_assign rfl) rfl ?_
                  refine o_seq ?_
                  refine c_ret ?_
                  cases hF
                  refine s_ret2 rfl (r_tmp rfl) (r_tmp rfl) fun a w hs => ?_
                  exact fin_sel hs [] ⟨rfl, rfl, rfl⟩ rfl sub_nil
                · replace hF := ite_f h6 hF
                  refine c_seq ?_
                  refine c_region ?_
                  refine o_v (v_bin rfl rfl rfl) rfl ?_
                  refine o_v (v_assign rfl) rfl ?_
                  refine o_seq ?_
                  refine c_cond rfl (fun h7 => ?_) (fun h7 => ?_)
                  · replace hF := ite_t h7 hF
                    refine c_seq ?_
                    refine c_cut (fun E N' => ∀ (t36 : Bool), F.words.escape_j4 s t36 = some r → Sat E [(0, .string (bs s)), (2, .int .u8 0), (3, .int .i64 0), (8, .int .u8 (sAt s 1)), (9, .bool t9), (36, .bool t36)] [] [] N') (fun N4 hN4 => ?_) ?_
                    · refine c_region ?_
                      refine o_v (v_move rfl) rfl ?_
                      refine o_v (v_len_str Try.underlying9 rfl) rfl ?_
                      refine o_v (v_bin rfl rfl rfl) rfl ?_
                      refine o_v (v_move rfl) rfl ?_
                      refine o_split (t := 25) rfl (fun h13 => ?_) (fun h13 => ?_)
                      · replace hF := ite_t h13 hF
                        refine o_on rfl rfl ?_
                        refine o_v (v_move rfl) rfl ?_
                        refine o_on rfl rfl ?_
                        refine ite_some hF fun h14 hF => ?_
                        refine o_v (v_sindex Try.underlying9 rfl rfl h14) rfl ?_
                        refine o_on rfl rfl ?_
                        obtain ⟨v2, h15, hF⟩ := bd hF
                        refine o_callSB call66 rfl lent_nil (tri66 (sAt s 2) v2 h15) rfl ?_
                        refine o_on rfl rfl ?_
                        refine o_v (v_bin rfl rfl rfl) rfl ?_
                        refine o_v (v_pick_t rfl rfl) rfl ?_
                        refine o_v (v_move rfl) rfl ?_
                        refine o_split (t := 31) rfl (fun h16 => ?_) (fun h16 => ?_)
                        · replace hF := ite_t h16 hF
                          refine o_on rfl rfl ?_
                          refine o_v (v_move rfl) rfl ?_
                          refine o_on rfl rfl ?_
                          refine ite_some hF fun h17 hF => ?_
                          refine o_v (v_sindex Try.underlying9 rfl rfl h17) rfl ?_
                          refine o_on rfl rfl ?_
                          obtain ⟨v3, h18, hF⟩ := bd hF
                          refine o_callSB call66 rfl lent_nil (tri66 (sAt s 3) v3 h18) rfl ?_
                          refine o_on rfl rfl ?_
                          refine o_v (v_bin rfl rfl rfl) rfl ?_
                          refine o_v (v_pick_t rfl rfl) rfl ?_
                          refine o_nil ?_
                          refine s_st ?_ (hN4 (decide (0 ≤ v3)) hF)
                          exact st_le [] (le_cons rfl (le_cons rfl (le_cons rfl (le_cons rfl (le_cons rfl (le_cons rfl le_nil)))))) rfl sub_nil
                        · replace hF := ite_f h16 hF
                          refine o_off rfl rfl (by decide) rfl ?_
                          refine o_off rfl rfl (by decide) rfl ?_
                          refine o_off rfl rfl (by decide) rfl ?_
                          refine o_off rfl rfl (by decide) rfl ?_
                          refine o_v (v_pick_f rfl rfl) rfl ?_
                          refine o_nil ?_
                          refine s_st ?_ (hN4 false hF)
                          exact st_le [] (le_cons rfl (le_cons rfl (le_cons rfl (le_cons rfl (le_cons rfl (le_cons rfl le_nil)))))) rfl sub_nil
                      · replace hF := ite_f h13 hF
                        refine o_off rfl rfl (by decide) rfl ?_
                        refine o_off rfl rfl (by decide) rfl ?_
                        refine o_off rfl rfl (by decide) rfl ?_
                        refine o_off rfl rfl (by decide) rfl ?_
                        refine o_v (v_pick_f rfl rfl) rfl ?_
                        refine o_v (v_move rfl) rfl ?_
                        refine o_off rfl rfl (by decide) rfl ?_
                        refine o_off rfl rfl (by decide) rfl ?_
                        refine o_off rfl rfl (by decide) rfl ?_
                        refine o_off rfl rfl (by decide) rfl ?_
                        refine o_v (v_pick_f rfl rfl) rfl ?_
                        refine o_nil ?_
                        refine s_st ?_ (hN4 false hF)
                        exact st_le [] (le_cons rfl (le_cons rfl (le_cons rfl (le_cons rfl (le_cons rfl (le_cons rfl le_nil)))))) rfl sub_nil
                    · intro t36 hF
                      unfold F.words.escape_j4 at hF
                      refine sat_wc ?_
                      refine c_cond rfl (fun h8 => ?_) (fun h8 => ?_)
                      · replace hF := ite_t h8 hF
                        refine c_seq ?_
                        refine c_draw (n := 11) [] mixed rfl rfl ?_
                        refine d_val 0 rfl pnok (by kernel_rfl) (by kernel_rfl) (by kernel_rfl) rfl (v_move rfl) ?_
                        refine ite_some hF fun h9 hF => ?_
                        refine d_val 1 rfl pnok (by kernel_rfl) (by kernel_rfl) (by kernel_rfl) rfl (v_sindex Try.underlying9 rfl rfl h9) ?_
                        refine d_val 4 rfl pnok (by kernel_rfl) (by kernel_rfl) (by kernel_rfl) rfl (v_move rfl) ?_
                        refine ite_some hF fun h10 hF => ?_
                        refine d_val 5 rfl pnok (by kernel_rfl) (by kernel_rfl) (by kernel_rfl) rfl (v_sindex Try.underlying9 rfl rfl h10) ?_
                        refine d_one 2 rfl (by kernel_rfl) ?_
                        obtain ⟨v, h11, hF⟩ := bd hF
                        refine o_callSB call66 rfl lent_nil (tri66 (sAt s 2) v h11) rfl ?_
                        refine d_next [] 0 rfl rfl ?_
                        refine d_val 3 rfl pnok (by kernel_rfl) (by kernel_rfl) (by kernel_rfl) rfl (v_bin rfl rfl rfl) ?_
                        refine d_one 6 rfl (by kernel_rfl) ?_
                        obtain ⟨v1, h12, hF⟩ := bd hF
                        refine o_callSB call66 rfl lent_nil (tri66 (sAt s 3) v1 h12) rfl ?_
                        refine d_next [] 0 rfl rfl ?_
                        refine d_val 7 rfl pnok (by kernel_rfl) (by kernel_rfl) (by kernel_rfl) rfl (v_bin rfl rfl rfl) ?_
                        refine d_val 8 rfl pnok (by kernel_rfl) (by kernel_rfl) (by kernel_rfl) rfl (v_convert (v := .int .u8 (IntKind.wrap .u8 (IntKind.wrap .i64 ((IntKind.wrap .i64 (16 * v)) + v1)))) rfl (fun _ => by kernel_rfl)) ?_
                        refine d_val 9 rfl pnok (by kernel_rfl) (by kernel_rfl) (by kernel_rfl) rfl (v_assign rfl) ?_
                        refine d_val 10 rfl pnok (by kernel_rfl) (by kernel_rfl) (by kernel_rfl) rfl (v_assign rfl) ?_
                        refine d_done_seq (by kernel_rfl) ?_
                        refine c_ret ?_
                        cases hF
                        refine s_ret2 rfl (r_tmp rfl) (r_tmp rfl) fun a w hs => ?_
                        exact fin_sel hs [] ⟨rfl, rfl, rfl⟩ rfl sub_nil
                      · replace hF := ite_f h8 hF
                        refine c_skip ?_
                        refine s_st ?_ (hN3 hF)
                        exact st_le [] (le_cons rfl (le_cons rfl (le_cons rfl (le_cons rfl (le_cons rfl le_nil))))) rfl sub_nil
                  · replace hF := ite_f h7 hF
                    refine c_skip ?_
                    refine s_st ?_ (hN3 hF)
                    exact st_le [] (le_cons rfl (le_cons rfl (le_cons rfl (le_cons rfl (le_cons rfl le_nil))))) rfl sub_nil
              · intro hF
                unfold F.words.escape_j3 at hF
                refine s_st ?_ (hN2 hF)
                exact st_le [] (le_cons rfl (le_cons rfl (le_cons rfl (le_cons rfl (le_cons rfl le_nil))))) rfl sub_nil
      · intro hF
        unfold F.words.escape_j2 at hF
        refine sat_wc ?_
        refine c_seq ?_
        refine c_region ?_
        refine o_v (v_assign rfl) rfl ?_
        refine o_v (v_assign rfl) rfl ?_
        refine o_seq ?_
        refine c_ret ?_
        cases hF
        refine s_ret2 rfl (r_tmp rfl) (r_tmp rfl) fun a w hs => ?_
        exact fin_sel hs [] ⟨rfl, rfl, rfl⟩ rfl sub_nil
theorem tri42 (k : Nat) (text_ : List UInt8) (at__ : Int) (r : List Int × Int × Fault) (hF : F.words.quoted k text_ at__ = some r) :
    Tri Try.prog 42 [.string (bs text_), .int .i64 at__] [] [] (fun o H Φ => ∃ (sa10 : Option Addr) (sn10 sc10 : Nat), o = .ret (.tuple #[.slice sa10 sn10 sc10, .int .i64 r.2.1, .agg #[.int .i64 r.2.2.At, .int .i64 r.2.2.Code]]) ∧ H = [.row (.slice sa10 sn10 sc10) 5 1 (r.1.map eU8)] ∧ Φ = []) := by
  unfold F.words.quoted at hF
  refine tri_intro (n := 66) Try.func42 rfl Try.ntmps42 rfl fun w X => ?_
  refine c_seq ?_
  refine c_region ?_
  refine o_v (v_assign rfl) rfl ?_
  refine o_v (v_assign rfl) rfl ?_
  refine o_alloc zero26 rfl rfl fun b => ?_
  refine o_seq ?_
  refine c_seq ?_
  refine c_region ?_
  refine o_v (v_assign rfl) rfl ?_
  refine o_seq ?_
  refine c_seq ?_
  refine c_seq ?_
  refine c_region ?_
  refine o_v (v_move rfl) rfl ?_
  refine o_v (v_bin rfl rfl rfl) rfl ?_
  refine o_v (v_assign rfl) rfl ?_
  refine o_seq ?_
  obtain ⟨o1, ho1, hF⟩ := bd hF
  refine c_cut (fun E N' => ∀ (d1 : Unit), o1 = .done d1 → Sat E [(1, .int .i64 at__), (4, .slice none 0 0), (5, .int .i64 0), (6, .pointer (some ⟨b, 0, none⟩))] [.box b 26 [.int .i64 0, .int .i64 0]] [] N') (fun N1 hN1 => ?_) ?_
  · refine c_block ?_
    refine c_loopE (fun E j a w => ∃ (out_ : List Int) (i : Int) (sa1 : Option Addr) (sn1 sc1 : Nat), F.words.quoted_l1 text_ j out_ i = some o1 ∧ St E [(0, .string (bs text_)), (1, .int .i64 at__), (4, .slice none 0 0), (5, .int .i64 0), (6, .pointer (some ⟨b, 0, none⟩)), (7, .slice sa1 sn1 sc1), (8, .int .i64 i)] [.box b 26 [.int .i64 0, .int .i64 0], .row (.slice sa1 sn1 sc1) 5 1 (out_.map eU8)] [] a w) k ?_ ?_
    · refine s_st (st_nilrow 5 1) ?_
      intro a w hs
      exact ⟨([] : List Int), IntKind.wrap .i64 (at__ + 1), none, 0, 0, ho1, st_le [1, 0] (le_cons rfl (le_cons rfl (le_cons rfl (le_cons rfl (le_cons rfl (le_cons rfl (le_cons rfl le_nil))))))) rfl sub_nil a w hs⟩
    · rintro j a w ⟨out_, i, sa1, sn1, sc1, hL1, hs⟩
      cases j with
      | zero => cases hL1
      | succ j =>
        refine wc_app hs ?_
        unfold F.words.quoted_l1 at hL1
        refine c_seq ?_
        refine c_seq ?_
        refine c_region ?_
        refine o_v (v_move rfl) rfl ?_
        refine o_v (v_move rfl) rfl ?_
        refine o_v (v_len_str Try.underlying9 rfl) rfl ?_
        refine o_v (v_bin rfl rfl rfl) rfl ?_
        refine o_seq ?_
        refine c_cond rfl (fun h1 => ?_) (fun h1 => ?_)
        · replace hL1 := ite_t h1 hL1
          refine c_skip ?_
          refine sat_wc ?_
          refine c_cut (fun E N' => ∀ (out_1 : List Int) (i1 : Int) (sa2 : Option Addr) (sn2 sc2 : Nat), F.words.quoted_j2 (F.words.quoted_l1 text_ j) out_1 i1 = some o1 → Sat E [(0, .string (bs text_)), (1, .int .i64 at__), (4, .slice none 0 0), (5, .int .i64 0), (6, .pointer (some ⟨b, 0, none⟩)), (7, .slice sa2 sn2 sc2), (8, .int .i64 i1), (9, .int .u8 (sAt text_ i))] [.box b 26 [.int .i64 0, .int .i64 0], .row (.slice sa2 sn2 sc2) 5 1 (out_1.map eU8)] [] N') (fun N2 hN2 => ?_) ?_
          · refine c_block ?_
            refine c_seq ?_
            refine c_region ?_
            refine o_v (v_move rfl) rfl ?_
            refine o_v (v_move rfl) rfl ?_
            refine ite_some hL1 fun h2 hL1 => ?_
            refine o_v (v_sindex Try.underlying9 rfl rfl h2) rfl ?_
            refine o_v (v_assign rfl) rfl ?_
            refine o_seq ?_
            refine c_cut (fun E N' => ∀ (out_2 : List Int) (i2 : Int) (sa3 : Option Addr) (sn3 sc3 : Nat), F.words.quoted_j3 (F.words.quoted_l1 text_ j) out_2 i2 = some o1 → Sat E [(0, .string (bs text_)), (1, .int .i64 at__), (4, .slice none 0 0), (5, .int .i64 0), (6, .pointer (some ⟨b, 0, none⟩)), (7, .slice sa3 sn3 sc3), (8, .int .i64 i2), (9, .int .u8 (sAt text_ i))] [.box b 26 [.int .i64 0, .int .i64 0], .row (.slice sa3 sn3 sc3) 5 1 (out_2.map eU8)] [] N') (fun N3 hN3 => ?_) ?_
            · refine c_block ?_
              refine c_seq ?_
              refine c_region ?_
              refine o_v (v_move rfl) rfl ?_
              refine o_v (v_bin rfl rfl rfl) rfl ?_
              refine o_v (v_assign rfl) rfl ?_
              refine o_seq ?_
              refine c_cut (fun E N' => ∀ (out_3 : List Int) (i3 : Int) (sa4 : Option Addr) (sn4 sc4 : Nat), F.words.quoted_j4 (F.words.quoted_l1 text_ j) out_3 i3 = some o1 → Sat E [(0, .string (bs text_)), (1, .int .i64 at__), (4, .slice none 0 0), (5, .int .i64 0), (6, .pointer (some ⟨b, 0, none⟩)), (7, .slice sa4 sn4 sc4), (8, .int .i64 i3), (9, .int .u8 (sAt text_ i))] [.box b 26 [.int .i64 0, .int .i64 0], .row (.slice sa4 sn4 sc4) 5 1 (out_3.map eU8)] [] N') (fun N4 hN4 => ?_) ?_
              · refine c_cond rfl (fun h3 => ?_) (fun h3 => ?_)
                · replace hL1 := ite_t h3 hL1
                  refine c_seq ?_
                  refine c_region ?_
                  refine o_v (v_move rfl) rfl ?_
                  refine o_v (v_move rfl) rfl ?_
                  refine o_v (v_bin rfl rfl rfl) rfl ?_
                  refine o_v (v_build (v := .agg #[.int .i64 0, .int .i64 0]) rfl (fun _ => by kernel_rfl)) rfl ?_
                  refine o_v (v_assign rfl) rfl ?_
                  refine o_v (v_assign rfl) rfl ?_
                  refine o_store_box 0 rfl ty26 rfl rfl rfl rfl rfl rfl rfl ?_
                  refine o_seq ?_
                  refine c_ret ?_
                  cases hL1
                  obtain rfl := lrf_ret hF
                  refine s_ret3 rfl (r_tmp rfl) (r_tmp rfl) (r_cell 0 rfl ty26 rfl rfl rfl rfl) fun a w hs => ?_
                  exact fin_sel hs [1] ⟨sa1, sn1, sc1, rfl, rfl, rfl⟩ rfl sub_nil
                · replace hL1 := ite_f h3 hL1
                  refine c_seq ?_
                  refine c_region ?_
                  refine o_v (v_move rfl) rfl ?_
                  refine o_v (v_bin rfl rfl rfl) rfl ?_
                  refine o_v (v_assign rfl) rfl ?_
                  refine o_seq ?_
                  refine c_cut (fun E N' => ∀ (out_4 : List Int) (i4 : Int) (sa5 : Option Addr) (sn5 sc5 : Nat), F.words.quoted_j5 (F.words.quoted_l1 text_ j) out_4 i4 = some o1 → Sat E [(0, .string (bs text_)), (1, .int .i64 at__), (4, .slice none 0 0), (5, .int .i64 0), (6, .pointer (some ⟨b, 0, none⟩)), (7, .slice sa5 sn5 sc5), (8, .int .i64 i4), (9, .int .u8 (sAt text_ i))] [.box b 26 [.int .i64 0, .int .i64 0], .row (.slice sa5 sn5 sc5) 5 1 (out_4.map eU8)] [] N') (fun N5 hN5 => ?_) ?_
                  · refine c_cond rfl (fun h4 => ?_) (fun h4 => ?_)
                    · replace hL1 := ite_t h4 hL1
                      refine c_seq ?_
                      refine c_region ?_
                      refine o_v (v_move rfl) rfl ?_
                      refine o_v (v_move rfl) rfl ?_
                      refine ite_some hL1 fun h5 hL1 => ?_
                      refine o_v (v_strslice Try.underlying9 rfl rfl rfl rfl rfl h5) rfl ?_
                      obtain ⟨v, h6, hL1⟩ := bd hL1
                      refine o_callSB call57 rfl lent_nil (tri57 (sub text_ i (text_.length : Int)) v h6) rfl ?_
                      refine o_v (v_move rfl) rfl ?_
                      refine o_v (v_extract rfl rfl) rfl ?_
                      refine o_v (v_extract rfl rfl) rfl ?_
                      refine o_v (v_assign rfl) rfl ?_
                      refine o_v (v_assign rfl) rfl ?_
                      refine o_seq ?_
                      refine c_seq ?_
                      refine c_seq ?_
                      refine c_region ?_
                      refine o_v (v_move rfl) rfl ?_
                      refine o_v (v_bin rfl rfl rfl) rfl ?_
                      refine o_seq ?_
                      refine c_cond rfl (fun h7 => ?_) (fun h7 => ?_)
                      · replace hL1 := ite_t h7 hL1
                        refine c_seq ?_
                        refine c_region ?_
                        refine o_v (v_move rfl) rfl ?_
                        refine o_v (v_build (v := .agg #[.int .i64 i, .int .i64 12]) rfl (fun _ => by kernel_rfl)) rfl ?_
                        refine o_v (v_assign rfl) rfl ?_
                        refine o_v (v_assign rfl) rfl ?_
                        refine o_store_box 0 rfl ty26 rfl rfl rfl rfl rfl rfl rfl ?_
                        refine o_seq ?_
                        refine c_ret ?_
                        cases hL1
                        obtain rfl := lrf_ret hF
                        refine s_st (st_nilrow 5 1) ?_
                        refine s_ret3 rfl (r_tmp rfl) (r_tmp rfl) (r_cell 1 rfl ty26 rfl rfl rfl rfl) fun a w hs => ?_
                        exact fin_sel hs [0] ⟨none, 0, 0, rfl, rfl, rfl⟩ rfl sub_nil
                      · replace hL1 := ite_f h7 hL1
                        refine c_skip ?_
                        refine sat_wc ?_
                        refine c_seq ?_
                        refine c_region ?_
                        refine o_v (v_move rfl) rfl ?_
                        refine o_v (v_move rfl) rfl ?_
                        refine o_buildSlice (enc := eU8) ([v.1] : List Int) [.int .u8 v.1] sl30 rfl (fun _ => by kernel_rfl) rfl rfl rfl (.s rfl (.nil)) rfl fun sa6 sn6 sc6 => ?_
                        refine ite_some hL1 fun h8 hL1 => ?_
                        refine ite_some hL1 fun h9 hL1 => ?_
                        refine o_append (enc := eU8) (xs := out_) (ys := ([v.1] : List Int)) 2 sl30 rfl rfl rfl (.r 0 _ rfl) h8 h9 rfl fun sa7 sn7 sc7 => ?_
                        refine o_v (v_assign rfl) rfl ?_
                        refine o_seq ?_
                        refine c_region ?_
                        refine o_v (v_move rfl) rfl ?_
                        refine o_v (v_move rfl) rfl ?_
                        refine o_v (v_bin rfl rfl rfl) rfl ?_
                        refine o_v (v_assign rfl) rfl ?_
                        refine o_nil ?_
                        refine s_st ?_ (hN5 (out_ ++ ([v.1] : List Int)) (IntKind.wrap .i64 (i + v.2)) sa7 sn7 sc7 hL1)
                        exact st_le [1, 1] (le_cons rfl (le_cons rfl (le_cons rfl (le_cons rfl (le_cons rfl (le_cons rfl (le_cons rfl (le_cons rfl le_nil)))))))) rfl sub_nil
                    · replace hL1 := ite_f h4 hL1
                      refine c_seq ?_
                      refine c_cut (fun E N' => ∀ (t55 : Bool), F.words.quoted_j6 i out_ text_ (F.words.quoted_l1 text_ j) t55 = some o1 → Sat E [(0, .string (bs text_)), (1, .int .i64 at__), (4, .slice none 0 0), (5, .int .i64 0), (6, .pointer (some ⟨b, 0, none⟩)), (7, .slice sa1 sn1 sc1), (8, .int .i64 i), (9, .int .u8 (sAt text_ i)), (55, .bool t55)] [.box b 26 [.int .i64 0, .int .i64 0], .row (.slice sa1 sn1 sc1) 5 1 (out_.map eU8)] [] N') (fun N6 hN6 => ?_) ?_
                      · refine c_region ?_
                        refine o_v (v_move rfl) rfl ?_
                        refine o_v (v_bin rfl rfl rfl) rfl ?_
                        refine o_v (v_move rfl) rfl ?_
                        refine o_split (t := 58) rfl (fun h13 => ?_) (fun h13 => ?_)
                        · replace hL1 := ite_t h13 hL1
                          refine o_off rfl rfl (by decide) rfl ?_
                          refine o_off rfl rfl (by decide) rfl ?_
                          refine o_v (v_pick_t rfl rfl) rfl ?_
                          refine o_v (v_assign rfl) rfl ?_
                          refine o_nil ?_
                          refine s_st ?_ (hN6 true hL1)
                          exact st_le [0, 0] (le_cons rfl (le_cons rfl (le_cons rfl (le_cons rfl (le_cons rfl (le_cons rfl (le_cons rfl (le_cons rfl (le_cons rfl le_nil))))))))) rfl sub_nil
                        · replace hL1 := ite_f h13 hL1
                          refine o_on rfl rfl ?_
                          refine o_v (v_move rfl) rfl ?_
                          refine o_on rfl rfl ?_
                          refine o_v (v_bin rfl rfl rfl) rfl ?_
                          refine o_v (v_pick_f rfl rfl) rfl ?_
                          refine o_v (v_assign rfl) rfl ?_
                          refine o_nil ?_
                          refine s_st ?_ (hN6 (decide (126 < (sAt text_ i))) hL1)
                          exact st_le [0, 0] (le_cons rfl (le_cons rfl (le_cons rfl (le_cons rfl (le_cons rfl (le_cons rfl (le_cons rfl (le_cons rfl (le_cons rfl le_nil))))))))) rfl sub_nil
                      · intro t55 hL1
                        unfold F.words.quoted_j6 at hL1
                        refine sat_wc ?_
                        refine c_cond rfl (fun h10 => ?_) (fun h10 => ?_)
                        · replace hL1 := ite_t h10 hL1
                          refine c_seq ?_
                          refine c_region ?_
                          refine o_v (v_move rfl) rfl ?_
                          refine o_v (v_build (v := .agg #[.int .i64 i, .int .i64 11]) rfl (fun _ => by kernel_rfl)) rfl ?_
                          refine o_v (v_assign rfl) rfl ?_
                          refine o_v (v_assign rfl) rfl ?_
                          refine o_store_box 0 rfl ty26 rfl rfl rfl rfl rfl rfl rfl ?_
                          refine o_seq ?_
                          refine c_ret ?_
                          cases hL1
                          obtain rfl := lrf_ret hF
                          refine s_st (st_nilrow 5 1) ?_
                          refine s_ret3 rfl (r_tmp rfl) (r_tmp rfl) (r_cell 1 rfl ty26 rfl rfl rfl rfl) fun a w hs => ?_
                          exact fin_sel hs [0] ⟨none, 0, 0, rfl, rfl, rfl⟩ rfl sub_nil
                        · replace hL1 := ite_f h10 hL1
                          refine c_seq ?_
                          refine c_region ?_
                          refine o_v (v_move rfl) rfl ?_
                          refine o_v (v_move rfl) rfl ?_
                          refine o_buildSlice (enc := eU8) ([sAt text_ i] : List Int) [.int .u8 (sAt text_ i)] sl30 rfl (fun _ => by kernel_rfl) rfl rfl rfl (.s rfl (.nil)) rfl fun sa8 sn8 sc8 => ?_
                          refine ite_some hL1 fun h11 hL1 => ?_
                          refine ite_some hL1 fun h12 hL1 => ?_
                          refine o_append (enc := eU8) (xs := out_) (ys := ([sAt text_ i] : List Int)) 2 sl30 rfl rfl rfl (.r 0 _ rfl) h11 h12 rfl fun sa9 sn9 sc9 => ?_
                          refine o_v (v_assign rfl) rfl ?_
                          refine o_seq ?_
                          refine c_region ?_
                          refine o_v (v_move rfl) rfl ?_
                          refine o_v (v_bin rfl rfl rfl) rfl ?_
                          refine o_v (v_assign rfl) rfl ?_
                          refine o_nil ?_
                          refine s_st ?_ (hN5 (out_ ++ ([sAt text_ i] : List Int)) (IntKind.wrap .i64 (i + 1)) sa9 sn9 sc9 hL1)
                          exact st_le [1, 1] (le_cons rfl (le_cons rfl (le_cons rfl (le_cons rfl (le_cons rfl (le_cons rfl (le_cons rfl (le_cons rfl le_nil)))))))) rfl sub_nil
                  · intro out_4 i4 sa5 sn5 sc5 hL1
                    unfold F.words.quoted_j5 at hL1
                    refine s_st ?_ (hN4 out_4 i4 sa5 sn5 sc5 hL1)
                    exact st_le [0, 0] (le_cons rfl (le_cons rfl (le_cons rfl (le_cons rfl (le_cons rfl (le_cons rfl (le_cons rfl (le_cons rfl le_nil)))))))) rfl sub_nil
              · intro out_3 i3 sa4 sn4 sc4 hL1
                unfold F.words.quoted_j4 at hL1
                refine s_st ?_ (hN3 out_3 i3 sa4 sn4 sc4 hL1)
                exact st_le [0, 0] (le_cons rfl (le_cons rfl (le_cons rfl (le_cons rfl (le_cons rfl (le_cons rfl (le_cons rfl (le_cons rfl le_nil)))))))) rfl sub_nil
            · intro out_2 i2 sa3 sn3 sc3 hL1
              unfold F.words.quoted_j3 at hL1
              refine s_st ?_ (hN2 out_2 i2 sa3 sn3 sc3 hL1)
              exact st_le [0, 0] (le_cons rfl (le_cons rfl (le_cons rfl (le_cons rfl (le_cons rfl (le_cons rfl (le_cons rfl (le_cons rfl le_nil)))))))) rfl sub_nil
          · intro out_1 i1 sa2 sn2 sc2 hL1
            unfold F.words.quoted_j2 at hL1
            intro a w hs
            exact ⟨j, Nat.lt_succ_self j, out_1, i1, sa2, sn2, sc2, hL1, st_le [0, 0] (le_cons rfl (le_cons rfl (le_cons rfl (le_cons rfl (le_cons rfl (le_cons rfl (le_cons rfl le_nil))))))) rfl sub_nil a w hs⟩
        · replace hL1 := ite_f h1 hL1
          refine c_exit0 ?_
          cases hL1
          refine s_st ?_ (hN1 () rfl)
          exact st_le [0] (le_cons rfl (le_cons rfl (le_cons rfl (le_cons rfl le_nil)))) rfl sub_nil
  · intro d1 hd
    subst hd
    replace hF := lrf_done hF
    refine sat_wc ?_
    refine c_seq ?_
    refine c_region ?_
    refine o_v (v_move rfl) rfl ?_
    refine o_v (v_build (v := .agg #[.int .i64 at__, .int .i64 13]) rfl (fun _ => by kernel_rfl)) rfl ?_
    refine o_v (v_assign rfl) rfl ?_
    refine o_v (v_assign rfl) rfl ?_
    refine o_store_box 0 rfl ty26 rfl rfl rfl rfl rfl rfl rfl ?_
    refine o_seq ?_
    refine c_ret ?_
    cases hF
    refine s_st (st_nilrow 5 1) ?_
    refine s_ret3 rfl (r_tmp rfl) (r_tmp rfl) (r_cell 1 rfl ty26 rfl rfl rfl rfl) fun a w hs => ?_
    exact fin_sel hs [0] ⟨none, 0, 0, rfl, rfl, rfl⟩ rfl sub_nil
theorem tri80 (c : Int) (r : Int) (hF : F.charset.digit c = some r) :
    Tri Try.prog 80 [.int .u8 c] [] [] (fun o H Φ => o = .ret (.int .i64 r) ∧ H = [] ∧ Φ = []) := by
  unfold F.charset.digit at hF
  refine tri_intro (n := 35) Try.func80 rfl Try.ntmps80 rfl fun w X => ?_
  refine c_seq ?_
  refine c_region ?_
  refine o_v (v_assign rfl) rfl ?_
  refine o_seq ?_
  refine c_seq ?_
  refine c_cut (fun E N' => F.charset.digit_j1 = some r → Sat E [(2, .int .i64 0)] [] [] N') (fun N1 hN1 => ?_) ?_
  · refine c_block ?_
    refine c_seq ?_
    refine c_cut (fun E N' => ∀ (t3 : Bool), F.charset.digit_j2 c t3 = some r → Sat E [(0, .int .u8 c), (2, .int .i64 0), (3, .bool t3)] [] [] N') (fun N5 hN5 => ?_) ?_
    · refine c_region ?_
      refine o_v (v_move rfl) rfl ?_
      refine o_v (v_bin rfl rfl rfl) rfl ?_
      refine o_v (v_move rfl) rfl ?_
      refine o_split (t := 6) rfl (fun h6 => ?_) (fun h6 => ?_)
      · replace hF := ite_t h6 hF
        refine o_on rfl rfl ?_
        refine o_v (v_move rfl) rfl ?_
        refine o_on rfl rfl ?_
        refine o_v (v_bin rfl rfl rfl) rfl ?_
        refine o_v (v_pick_t rfl rfl) rfl ?_
        refine o_v (v_assign rfl) rfl ?_
        refine o_nil ?_
        refine s_st ?_ (hN5 (decide (c ≤ 57)) hF)
        exact st_le [] (le_cons rfl (le_cons rfl (le_cons rfl le_nil))) rfl sub_nil
      · replace hF := ite_f h6 hF
        refine o_off rfl rfl (by decide) rfl ?_
        refine o_off rfl rfl (by decide) rfl ?_
        refine o_v (v_pick_f rfl rfl) rfl ?_
        refine o_v (v_assign rfl) rfl ?_
        refine o_nil ?_
        refine s_st ?_ (hN5 false hF)
        exact st_le [] (le_cons rfl (le_cons rfl (le_cons rfl le_nil))) rfl sub_nil
    · intro t3 hF
      unfold F.charset.digit_j2 at hF
      refine sat_wc ?_
      refine c_cut (fun E N' => F.charset.digit_j3 = some r → Sat E [(0, .int .u8 c), (2, .int .i64 0)] [] [] N') (fun N3 hN3 => ?_) ?_
      · refine c_cond rfl (fun h1 => ?_) (fun h1 => ?_)
        · replace hF := ite_t h1 hF
          refine c_seq ?_
          refine c_region ?_
          refine o_v (v_move rfl) rfl ?_
          refine o_v (v_bin rfl rfl rfl) rfl ?_
          refine o_v (v_convert (v := .int .i64 (IntKind.wrap .i64 (IntKind.wrap .u8 (c - 48)))) rfl (fun _ => by kernel_rfl)) rfl ?_
          refine o_v (v_assign rfl) rfl ?_
          refine o_seq ?_
          refine c_ret ?_
          cases hF
          refine s_ret1 rfl (r_tmp rfl) fun a w hs => ?_
          exact fin_sel hs [] ⟨rfl, rfl, rfl⟩ rfl sub_nil
        · replace hF := ite_f h1 hF
          refine c_seq ?_
          refine c_cut (fun E N' => ∀ (t13 : Bool), F.charset.digit_j4 c t13 = some r → Sat E [(0, .int .u8 c), (2, .int .i64 0), (13, .bool t13)] [] [] N') (fun N5 hN5 => ?_) ?_
          · refine c_region ?_
            refine o_v (v_move rfl) rfl ?_
            refine o_v (v_bin rfl rfl rfl) rfl ?_
            refine o_v (v_move rfl) rfl ?_
            refine o_split (t := 16) rfl (fun h5 => ?_) (fun h5 => ?_)
            · replace hF := ite_t h5 hF
              refine o_on rfl rfl ?_
              refine o_v (v_move rfl) rfl ?_
              refine o_on rfl rfl ?_
              refine o_v (v_bin rfl rfl rfl) rfl ?_
              refine o_v (v_pick_t rfl rfl) rfl ?_
              refine o_v (v_assign rfl) rfl ?_
              refine o_nil ?_
              refine s_st ?_ (hN5 (decide (c ≤ 102)) hF)
              exact st_le [] (le_cons rfl (le_cons rfl (le_cons rfl le_nil))) rfl sub_nil
            · replace hF := ite_f h5 hF
              refine o_off rfl rfl (by decide) rfl ?_
              refine o_off rfl rfl (by decide) rfl ?_
              refine o_v (v_pick_f rfl rfl) rfl ?_
              refine o_v (v_assign rfl) rfl ?_
              refine o_nil ?_
              refine s_st ?_ (hN5 false hF)
              exact st_le [] (le_cons rfl (le_cons rfl (le_cons rfl le_nil))) rfl sub_nil
          · intro t13 hF
            unfold F.charset.digit_j4 at hF
            refine sat_wc ?_
            refine c_cond rfl (fun h2 => ?_) (fun h2 => ?_)
            · replace hF := ite_t h2 hF
              refine c_seq ?_
              refine c_region ?_
              refine o_v (v_move rfl) rfl ?_
              refine o_v (v_bin rfl rfl rfl) rfl ?_
              refine o_v (v_convert (v := .int .i64 (IntKind.wrap .i64 (IntKind.wrap .u8 (c - 97)))) rfl (fun _ => by kernel_rfl)) rfl ?_
              refine o_v (v_bin rfl rfl rfl) rfl ?_
              refine o_v (v_assign rfl) rfl ?_
              refine o_seq ?_
              refine c_ret ?_
              cases hF
              refine s_ret1 rfl (r_tmp rfl) fun a w hs => ?_
              exact fin_sel hs [] ⟨rfl, rfl, rfl⟩ rfl sub_nil
            · replace hF := ite_f h2 hF
              refine c_seq ?_
              refine c_cut (fun E N' => ∀ (t24 : Bool), F.charset.digit_j5 c t24 = some r → Sat E [(0, .int .u8 c), (2, .int .i64 0), (24, .bool t24)] [] [] N') (fun N5 hN5 => ?_) ?_
              · refine c_region ?_
                refine o_v (v_move rfl) rfl ?_
                refine o_v (v_bin rfl rfl rfl) rfl ?_
                refine o_v (v_move rfl) rfl ?_
                refine o_split (t := 27) rfl (fun h4 => ?_) (fun h4 => ?_)
                · replace hF := ite_t h4 hF
                  refine o_on rfl rfl ?_
                  refine o_v (v_move rfl) rfl ?_
                  refine o_on rfl rfl ?_
                  refine o_v (v_bin rfl rfl rfl) rfl ?_
                  refine o_v (v_pick_t rfl rfl) rfl ?_
                  refine o_v (v_assign rfl) rfl ?_
                  refine o_nil ?_
                  refine s_st ?_ (hN5 (decide (c ≤ 70)) hF)
                  exact st_le [] (le_cons rfl (le_cons rfl (le_cons rfl le_nil))) rfl sub_nil
                · replace hF := ite_f h4 hF
                  refine o_off rfl rfl (by decide) rfl ?_
                  refine o_off rfl rfl (by decide) rfl ?_
                  refine o_v (v_pick_f rfl rfl) rfl ?_
                  refine o_v (v_assign rfl) rfl ?_
                  refine o_nil ?_
                  refine s_st ?_ (hN5 false hF)
                  exact st_le [] (le_cons rfl (le_cons rfl (le_cons rfl le_nil))) rfl sub_nil
              · intro t24 hF
                unfold F.charset.digit_j5 at hF
                refine sat_wc ?_
                refine c_cond rfl (fun h3 => ?_) (fun h3 => ?_)
                · replace hF := ite_t h3 hF
                  refine c_seq ?_
                  refine c_region ?_
                  refine o_v (v_move rfl) rfl ?_
                  refine o_v (v_bin rfl rfl rfl) rfl ?_
                  refine o_v (v_convert (v := .int .i64 (IntKind.wrap .i64 (IntKind.wrap .u8 (c - 65)))) rfl (fun _ => by kernel_rfl)) rfl ?_
                  refine o_v (v_bin rfl rfl rfl) rfl ?_
                  refine o_v (v_assign rfl) rfl ?_
                  refine o_seq ?_
                  refine c_ret ?_
                  cases hF
                  refine s_ret1 rfl (r_tmp rfl) fun a w hs => ?_
                  exact fin_sel hs [] ⟨rfl, rfl, rfl⟩ rfl sub_nil
                · replace hF := ite_f h3 hF
                  refine c_skip ?_
                  refine s_st ?_ (hN3 hF)
                  exact st_le [] (le_cons rfl (le_cons rfl le_nil)) rfl sub_nil
      · intro hF
        unfold F.charset.digit_j3 at hF
        refine s_st ?_ (hN1 hF)
        exact st_le [] (le_cons rfl le_nil) rfl sub_nil
  · intro hF
    unfold F.charset.digit_j1 at hF
    refine sat_wc ?_
    refine c_seq ?_
    refine c_region ?_
    refine o_v (v_assign rfl) rfl ?_
    refine o_seq ?_
    refine c_ret ?_
    cases hF
    refine s_ret1 rfl (r_tmp rfl) fun a w hs => ?_
    exact fin_sel hs [] ⟨rfl, rfl, rfl⟩ rfl sub_nil
theorem tri79 (r_ : Charset_reader) (b : Nat) (r : Int × Fault × Charset_reader) (hF : F.charset.reader_escaped r_ = some r) :
    Tri Try.prog 79 [.pointer (some ⟨b, 0, none⟩)] [.box b 89 [.string (bs r_.text), .int .i64 r_.at_]] [] (fun o H Φ => o = .ret (.tuple #[.int .i64 r.1, .agg #[.int .i64 r.2.1.At, .int .i64 r.2.1.Code]]) ∧ H = [.box b 89 [.string (bs r.2.2.text), .int .i64 r.2.2.at_]] ∧ Φ = []) := by
  unfold F.charset.reader_escaped at hF
  refine tri_intro (n := 89) Try.func79 rfl Try.ntmps79 rfl fun w X => ?_
  refine c_seq ?_
  refine c_region ?_
  refine o_v (v_assign rfl) rfl ?_
  refine o_alloc zero26 rfl rfl fun b1 => ?_
  refine o_seq ?_
  refine c_seq ?_
  refine c_region ?_
  refine o_v (v_move rfl) rfl ?_
  refine o_v (v_nilCheck rfl) rfl ?_
  refine o_v (v_fieldAddr (v := .pointer (some ⟨b, 1, none⟩)) rfl (fun _ => by kernel_rfl)) rfl ?_
  refine o_v (v_load_box 1 ty3 rfl rfl rfl rfl rfl) rfl ?_
  refine o_v (v_build (v := .agg #[.int .i64 r_.at_, .int .i64 12]) rfl (fun _ => by kernel_rfl)) rfl ?_
  refine o_alloc zero26 rfl rfl fun b2 => ?_
  refine o_store_box 0 rfl ty26 rfl rfl rfl rfl rfl rfl rfl ?_
  refine o_seq ?_
  refine c_seq ?_
  refine c_draw (n := 11) [0, 0, 0] mixed rfl rfl ?_
  refine d_val 0 rfl pnok (by kernel_rfl) (by kernel_rfl) (by kernel_rfl) rfl (v_move rfl) ?_
  refine d_val 1 rfl pnok (by kernel_rfl) (by kernel_rfl) (by kernel_rfl) rfl (v_nilCheck rfl) ?_
  refine d_val 2 rfl pnok (by kernel_rfl) (by kernel_rfl) (by kernel_rfl) rfl (v_fieldAddr (v := .pointer (some ⟨b, 0, none⟩)) rfl (fun _ => by kernel_rfl)) ?_
  refine d_val 3 rfl pnok (by kernel_rfl) (by kernel_rfl) (by kernel_rfl) rfl (v_load_box 2 ty9 rfl rfl rfl rfl rfl) ?_
  refine d_val 4 rfl pnok (by kernel_rfl) (by kernel_rfl) (by kernel_rfl) rfl (v_move rfl) ?_
  refine d_val 5 rfl pnok (by kernel_rfl) (by kernel_rfl) (by kernel_rfl) rfl (v_nilCheck rfl) ?_
  refine d_val 6 rfl pnok (by kernel_rfl) (by kernel_rfl) (by kernel_rfl) rfl (v_fieldAddr (v := .pointer (some ⟨b, 1, none⟩)) rfl (fun _ => by kernel_rfl)) ?_
  refine d_val 7 rfl pnok (by kernel_rfl) (by kernel_rfl) (by kernel_rfl) rfl (v_load_box 2 ty3 rfl rfl rfl rfl rfl) ?_
  refine d_val 8 rfl pnok (by kernel_rfl) (by kernel_rfl) (by kernel_rfl) rfl (v_bin rfl rfl rfl) ?_
  refine ite_some hF fun h1 hF => ?_
  refine d_val 9 rfl pnok (by kernel_rfl) (by kernel_rfl) (by kernel_rfl) rfl (v_strslice Try.underlying9 rfl rfl rfl rfl rfl h1) ?_
  refine d_val 10 rfl pnok (by kernel_rfl) (by kernel_rfl) (by kernel_rfl) rfl (v_assign rfl) ?_
  refine d_done_seq (by kernel_rfl) ?_
  refine c_seq ?_
  refine c_seq ?_
  refine c_region ?_
  refine o_v (v_move rfl) rfl ?_
  refine o_v (v_streq rfl rfl) rfl ?_
  refine o_seq ?_
  refine c_cond rfl (fun h2 => ?_) (fun h2 => ?_)
  · replace hF := ite_t h2 hF
    refine c_seq ?_
    refine c_draw (n := 3) [0, 1] mixed rfl rfl ?_
    refine d_val 0 rfl pnok (by kernel_rfl) (by kernel_rfl) (by kernel_rfl) rfl (v_load_box 0 ty26 rfl rfl rfl rfl rfl) ?_
    refine d_val 1 rfl pnok (by kernel_rfl) (by kernel_rfl) (by kernel_rfl) rfl (v_assign rfl) ?_
    refine d_one 2 rfl (by kernel_rfl) ?_
    refine o_store_box 1 rfl ty26 rfl rfl rfl rfl rfl rfl rfl ?_
    refine d_next [0, 1] 0 rfl rfl ?_
    refine d_done_seq (by kernel_rfl) ?_
    refine c_ret ?_
    cases hF
    refine s_ret2 rfl (r_tmp rfl) (r_cell 1 rfl ty26 rfl rfl rfl rfl) fun a w hs => ?_
    exact fin_sel hs [2] ⟨rfl, rfl, rfl⟩ rfl sub_nil
  · replace hF := ite_f h2 hF
    refine c_skip ?_
    refine sat_wc ?_
    refine c_seq ?_
    refine c_region ?_
    refine o_v (v_move rfl) rfl ?_
    refine o_v (v_nilCheck rfl) rfl ?_
    refine o_v (v_fieldAddr (v := .pointer (some ⟨b, 1, none⟩)) rfl (fun _ => by kernel_rfl)) rfl ?_
    refine o_v (v_load_box 2 ty3 rfl rfl rfl rfl rfl) rfl ?_
    refine o_v (v_bin rfl rfl rfl) rfl ?_
    refine o_v (v_nilCheck rfl) rfl ?_
    refine o_v (v_fieldAddr (v := .pointer (some ⟨b, 1, none⟩)) rfl (fun _ => by kernel_rfl)) rfl ?_
    refine o_store_box 2 rfl ty3 rfl rfl rfl rfl rfl rfl rfl ?_
    refine o_seq ?_
    refine c_seq ?_
    refine c_seq ?_
    refine c_region ?_
    refine o_v (v_move rfl) rfl ?_
    refine ite_some hF fun h3 hF => ?_
    refine o_v (v_sindex Try.underlying9 rfl rfl h3) rfl ?_
    refine o_seq ?_
    refine c_cut (fun E N' => F.charset.reader_escaped_j1 r_ = some r → Sat E [(0, .pointer (some ⟨b, 0, none⟩)), (2, .int .i64 0), (3, .pointer (some ⟨b1, 0, none⟩)), (4, .pointer (some ⟨b2, 0, none⟩)), (5, .string (bs (sub r_.text (IntKind.wrap .i64 (r_.at_ + 1)) (r_.text.length : Int))))] [.box b2 26 [.int .i64 r_.at_, .int .i64 12], .box b1 26 [.int .i64 0, .int .i64 0], .box b 89 [.string (bs r_.text), .int .i64 (IntKind.wrap .i64 (r_.at_ + 2))]] [] N') (fun N1 hN1 => ?_) ?_
    · refine c_block ?_
      refine c_seq ?_
      refine c_region ?_
      refine o_v (v_bin rfl rfl rfl) rfl ?_
      refine o_v (v_assign rfl) rfl ?_
      refine o_seq ?_
      refine c_cond rfl (fun h4 => ?_) (fun h4 => ?_)
      · replace hF := ite_t h4 hF
        refine c_seq ?_
        refine c_region ?_
        refine o_v (v_build (v := .agg #[.int .i64 0, .int .i64 0]) rfl (fun _ => by kernel_rfl)) rfl ?_
        refine o_v (v_assign rfl) rfl ?_
        refine o_store_box 1 rfl ty26 rfl rfl rfl rfl rfl rfl rfl ?_
        refine o_seq ?_
        refine c_ret ?_
        cases hF
        refine s_ret2 rfl (r_tmp rfl) (r_cell 1 rfl ty26 rfl rfl rfl rfl) fun a w hs => ?_
        exact fin_sel hs [2] ⟨rfl, rfl, rfl⟩ rfl sub_nil
      · replace hF := ite_f h4 hF
        refine c_seq ?_
        refine c_region ?_
        refine o_v (v_bin rfl rfl rfl) rfl ?_
        refine o_v (v_assign rfl) rfl ?_
        refine o_seq ?_
        refine c_cut (fun E N' => F.charset.reader_escaped_j2 r_ = some r → Sat E [(0, .pointer (some ⟨b, 0, none⟩)), (2, .int .i64 0), (3, .pointer (some ⟨b1, 0, none⟩)), (4, .pointer (some ⟨b2, 0, none⟩)), (5, .string (bs (sub r_.text (IntKind.wrap .i64 (r_.at_ + 1)) (r_.text.length : Int)))), (32, .int .u8 (sAt (sub r_.text (IntKind.wrap .i64 (r_.at_ + 1)) (r_.text.length : Int)) 0))] [.box b2 26 [.int .i64 r_.at_, .int .i64 12], .box b1 26 [.int .i64 0, .int .i64 0], .box b 89 [.string (bs r_.text), .int .i64 (IntKind.wrap .i64 (r_.at_ + 2))]] [] N') (fun N2 hN2 => ?_) ?_
        · refine c_cond rfl (fun h5 => ?_) (fun h5 => ?_)
          · replace hF := ite_t h5 hF
            refine c_seq ?_
            refine c_region ?_
            refine o_v (v_build (v := .agg #[.int .i64 0, .int .i64 0]) rfl (fun _ => by kernel_rfl)) rfl ?_
            refine o_v (v_assign rfl) rfl ?_
            refine o_store_box 1 rfl ty26 rfl rfl rfl rfl rfl rfl rfl ?_
            refine o_seq ?_
            refine c_ret ?_
            cases hF
            refine s_ret2 rfl (r_tmp rfl) (r_cell 1 rfl ty26 rfl rfl rfl rfl) fun a w hs => ?_
            exact fin_sel hs [2] ⟨rfl, rfl, rfl⟩ rfl sub_nil
          · replace hF := ite_f h5 hF
            refine c_seq ?_
            refine c_region ?_
            refine o_v (v_bin rfl rfl rfl) rfl ?_
            refine o_v (v_assign rfl) rfl ?_
            refine o_seq ?_
            refine c_cond rfl (fun h6 => ?_) (fun h6 => ?_)
            · replace hF := ite_t h6 hF
              refine c_seq ?_
              refine c_region ?_
              refine o_v (v_build (v := .agg #[.int .i64 0, .int .i64 0]) rfl (fun _ => by kernel_rfl)) rfl ?_
              refine o_v (v_assign rfl) rfl ?_
              refine o_store_box 1 rfl ty26 rfl rfl rfl rfl rfl rfl rfl ?_
              refine o_seq ?_
              refine c_ret ?_
              cases hF
              refine s_ret2 rfl (r_tmp rfl) (r_cell 1 rfl ty26 rfl rfl rfl rfl) fun a w hs => ?_
              exact fin_sel hs [2] ⟨rfl, rfl, rfl⟩ rfl sub_nil
            · replace hF := ite_f h6 hF
              refine c_seq ?_
              refine c_region ?_
              refine o_v (v_bin rfl rfl rfl) rfl ?_
              refine o_v (v_assign rfl) rfl ?_
              refine o_seq ?_
              refine c_cond rfl (fun h7 => ?_) (fun h7 => ?_)
              · replace hF := ite_t h7 hF
                refine c_seq ?_
                refine c_region ?_
                refine o_v (v_build (v := .agg #[.int .i64 0, .int .i64 0]) rfl (fun _ => by kernel_rfl)) rfl ?_
                refine o_v (v_assign rfl) rfl ?_
                refine o_store_box 1 rfl ty26 rfl rfl rfl rfl rfl rfl rfl ?_
                refine o_seq ?_
                refine c_ret ?_
                cases hF
                refine s_ret2 rfl (r_tmp rfl) (r_cell 1 rfl ty26 rfl rfl rfl rfl) fun a w hs => ?_
                exact fin_sel hs [2] ⟨rfl, rfl, rfl⟩ rfl sub_nil
              · replace hF := ite_f h7 hF
                refine c_seq ?_
                refine c_seq ?_
                refine c_region ?_
                refine o_v (v_bin rfl rfl rfl) rfl ?_
                refine o_v (v_assign rfl) rfl ?_
                refine o_seq ?_
                refine c_cut (fun E N' => ∀ (t45 : Bool), F.charset.reader_escaped_j3 r_ t45 = some r → Sat E [(0, .pointer (some ⟨b, 0, none⟩)), (2, .int .i64 0), (3, .pointer (some ⟨b1, 0, none⟩)), (4, .pointer (some ⟨b2, 0, none⟩)), (5, .string (bs (sub r_.text (IntKind.wrap .i64 (r_.at_ + 1)) (r_.text.length : Int)))), (32, .int .u8 (sAt (sub r_.text (IntKind.wrap .i64 (r_.at_ + 1)) (r_.text.length : Int)) 0)), (45, .bool t45)] [.box b2 26 [.int .i64 r_.at_, .int .i64 12], .box b1 26 [.int .i64 0, .int .i64 0], .box b 89 [.string (bs r_.text), .int .i64 (IntKind.wrap .i64 (r_.at_ + 2))]] [] N') (fun N5 hN5 => ?_) ?_
                · refine c_cond rfl (fun h21 => ?_) (fun h21 => ?_)
                  · replace hF := ite_t h21 hF
                    refine c_skip ?_
                    refine s_st ?_ (hN5 ((sAt (sub r_.text (IntKind.wrap .i64 (r_.at_ + 1)) (r_.text.length : Int)) 0) == 91) hF)
                    exact st_le [0, 0, 0] (le_cons rfl (le_cons rfl (le_cons rfl (le_cons rfl (le_cons rfl (le_cons rfl (le_cons rfl le_nil))))))) rfl sub_nil
                  · replace hF := ite_f h21 hF
                    refine c_seq ?_
                    refine c_region ?_
                    refine o_v (v_bin rfl rfl rfl) rfl ?_
                    refine o_v (v_assign rfl) rfl ?_
                    refine o_seq ?_
                    refine c_cond rfl (fun h22 => ?_) (fun h22 => ?_)
                    · replace hF := ite_t h22 hF
                      refine c_skip ?_
                      refine s_st ?_ (hN5 ((sAt (sub r_.text (IntKind.wrap .i64 (r_.at_ + 1)) (r_.text.length : Int)) 0) == 93) hF)
                      exact st_le [0, 0, 0] (le_cons rfl (le_cons rfl (le_cons rfl (le_cons rfl (le_cons rfl (le_cons rfl (le_cons rfl le_nil))))))) rfl sub_nil
                    · replace hF := ite_f h22 hF
                      refine c_seq ?_
                      refine c_region ?_
                      refine o_v (v_bin rfl rfl rfl) rfl ?_
                      refine o_v (v_assign rfl) rfl ?_
                      refine o_seq ?_
                      refine c_cut (fun E N' => ∀ (t451 : Bool), F.charset.reader_escaped_j6 r_ t451 = some r → Sat E [(0, .pointer (some ⟨b, 0, none⟩)), (2, .int .i64 0), (3, .pointer (some ⟨b1, 0, none⟩)), (4, .pointer (some ⟨b2, 0, none⟩)), (5, .string (bs (sub r_.text (IntKind.wrap .i64 (r_.at_ + 1)) (r_.text.length : Int)))), (32, .int .u8 (sAt (sub r_.text (IntKind.wrap .i64 (r_.at_ + 1)) (r_.text.length : Int)) 0)), (45, .bool t451)] [.box b2 26 [.int .i64 r_.at_, .int .i64 12], .box b1 26 [.int .i64 0, .int .i64 0], .box b 89 [.string (bs r_.text), .int .i64 (IntKind.wrap .i64 (r_.at_ + 2))]] [] N') (fun N6 hN6 => ?_) ?_
                      · refine c_cond rfl (fun h23 => ?_) (fun h23 => ?_)
                        · replace hF := ite_t h23 hF
                          refine c_skip ?_
                          refine s_st ?_ (hN6 ((sAt (sub r_.text (IntKind.wrap .i64 (r_.at_ + 1)) (r_.text.length : Int)) 0) == 92) hF)
                          exact st_le [0, 0, 0] (le_cons rfl (le_cons rfl (le_cons rfl (le_cons rfl (le_cons rfl (le_cons rfl (le_cons rfl le_nil))))))) rfl sub_nil
                        · replace hF := ite_f h23 hF
                          refine c_seq ?_
                          refine c_region ?_
                          refine o_v (v_bin rfl rfl rfl) rfl ?_
                          refine o_v (v_assign rfl) rfl ?_
                          refine o_seq ?_
                          refine c_cond rfl (fun h24 => ?_) (fun h24 => ?_)
                          · replace hF := ite_t h24 hF
                            refine c_skip ?_
                            refine s_st ?_ (hN6 ((sAt (sub r_.text (IntKind.wrap .i64 (r_.at_ + 1)) (r_.text.length : Int)) 0) == 45) hF)
                            exact st_le [0, 0, 0] (le_cons rfl (le_cons rfl (le_cons rfl (le_cons rfl (le_cons rfl (le_cons rfl (le_cons rfl le_nil))))))) rfl sub_nil
                          · replace hF := ite_f h24 hF
                            refine c_region ?_
                            refine o_v (v_bin rfl rfl rfl) rfl ?_
                            refine o_v (v_assign rfl) rfl ?_
                            refine o_nil ?_
                            refine s_st ?_ (hN6 ((sAt (sub r_.text (IntKind.wrap .i64 (r_.at_ + 1)) (r_.text.length : Int)) 0) == 94) hF)
                            exact st_le [0, 0, 0] (le_cons rfl (le_cons rfl (le_cons rfl (le_cons rfl (le_cons rfl (le_cons rfl (le_cons rfl le_nil))))))) rfl sub_nil
                      · intro t451 hF
                        unfold F.charset.reader_escaped_j6 at hF
                        refine s_st ?_ (hN5 t451 hF)
                        exact st_le [0, 0, 0] (le_cons rfl (le_cons rfl (le_cons rfl (le_cons rfl (le_cons rfl (le_cons rfl (le_cons rfl le_nil))))))) rfl sub_nil
                · intro t45 hF
                  unfold F.charset.reader_escaped_j3 at hF
                  refine sat_wc ?_
                  refine c_cut (fun E N' => F.charset.reader_escaped_j4 r_ = some r → Sat E [(0, .pointer (some ⟨b, 0, none⟩)), (2, .int .i64 0), (3, .pointer (some ⟨b1, 0, none⟩)), (4, .pointer (some ⟨b2, 0, none⟩)), (5, .string (bs (sub r_.text (IntKind.wrap .i64 (r_.at_ + 1)) (r_.text.length : Int)))), (32, .int .u8 (sAt (sub r_.text (IntKind.wrap .i64 (r_.at_ + 1)) (r_.text.length : Int)) 0)), (45, .bool t45)] [.box b2 26 [.int .i64 r_.at_, .int .i64 12], .box b1 26 [.int .i64 0, .int .i64 0], .box b 89 [.string (bs r_.text), .int .i64 (IntKind.wrap .i64 (r_.at_ + 2))]] [] N') (fun N4 hN4 => ?_) ?_
                  · refine c_cond rfl (fun h8 => ?_) (fun h8 => ?_)
                    · replace hF := ite_t h8 hF
                      refine c_seq ?_
                      refine c_region ?_
                      refine o_v (v_move rfl) rfl ?_
                      refine o_v (v_sindex Try.underlying9 rfl rfl h3) rfl ?_
                      refine o_v (v_convert (v := .int .i64 (IntKind.wrap .i64 (sAt (sub r_.text (IntKind.wrap .i64 (r_.at_ + 1)) (r_.text.length : Int)) 0))) rfl (fun _ => by kernel_rfl)) rfl ?_
                      refine o_v (v_build (v := .agg #[.int .i64 0, .int .i64 0]) rfl (fun _ => by kernel_rfl)) rfl ?_
                      refine o_v (v_assign rfl) rfl ?_
                      refine o_store_box 1 rfl ty26 rfl rfl rfl rfl rfl rfl rfl ?_
                      refine o_seq ?_
                      refine c_ret ?_
                      cases hF
                      refine s_ret2 rfl (r_tmp rfl) (r_cell 1 rfl ty26 rfl rfl rfl rfl) fun a w hs => ?_
                      exact fin_sel hs [2] ⟨rfl, rfl, rfl⟩ rfl sub_nil
                    · replace hF := ite_f h8 hF
                      refine c_seq ?_
                      refine c_region ?_
                      refine o_v (v_bin rfl rfl rfl) rfl ?_
                      refine o_v (v_assign rfl) rfl ?_
                      refine o_seq ?_
                      refine c_cond rfl (fun h9 => ?_) (fun h9 => ?_)
                      · replace hF := ite_t h9 hF
                        refine c_seq ?_
                        refine c_cut (fun E N' => ∀ (t71 : Bool), F.charset.reader_escaped_j5 r_ t71 = some r → Sat E [(0, .pointer (some ⟨b, 0, none⟩)), (2, .int .i64 0), (3, .pointer (some ⟨b1, 0, none⟩)), (4, .pointer (some ⟨b2, 0, none⟩)), (5, .string (bs (sub r_.text (IntKind.wrap .i64 (r_.at_ + 1)) (r_.text.length : Int)))), (32, .int .u8 (sAt (sub r_.text (IntKind.wrap .i64 (r_.at_ + 1)) (r_.text.length : Int)) 0)), (45, .bool t45), (71, .bool t71)] [.box b2 26 [.int .i64 r_.at_, .int .i64 12], .box b1 26 [.int .i64 0, .int .i64 0], .box b 89 [.string (bs r_.text), .int .i64 (IntKind.wrap .i64 (r_.at_ + 2))]] [] N') (fun N5 hN5 => ?_) ?_
                        · refine c_region ?_
                          refine o_v (v_move rfl) rfl ?_
                          refine o_v (v_len_str Try.underlying9 rfl) rfl ?_
                          refine o_v (v_bin rfl rfl rfl) rfl ?_
                          refine o_v (v_move rfl) rfl ?_
                          refine o_split (t := 60) rfl (fun h15 => ?_) (fun h15 => ?_)
                          · replace hF := ite_t h15 hF
                            refine o_on rfl rfl ?_
                            refine o_v (v_move rfl) rfl ?_
                            refine o_on rfl rfl ?_
                            refine ite_some hF fun h16 hF => ?_
                            refine o_v (v_sindex Try.underlying9 rfl rfl h16) rfl ?_
                            refine o_on rfl rfl ?_
                            obtain ⟨v2, h17, hF⟩ := bd hF
                            refine o_callSB call80 rfl lent_nil (tri80 (sAt (sub r_.text (IntKind.wrap .i64 (r_.at_ + 1)) (r_.text.length : Int)) 1) v2 h17) rfl ?_
                            refine o_on rfl rfl ?_
                            refine o_v (v_bin rfl rfl rfl) rfl ?_
                            refine o_v (v_pick_t rfl rfl) rfl ?_
                            refine o_v (v_move rfl) rfl ?_
                            refine o_split (t := 66) rfl (fun h18 => ?_) (fun h18 => ?_)
                            · replace hF := ite_t h18 hF
                              refine o_on rfl rfl ?_
                              refine o_v (v_move rfl) rfl ?_
                              refine o_on rfl rfl ?_
                              refine ite_some hF fun h19 hF => ?_
                              refine o_v (v_sindex Try.underlying9 rfl rfl h19) rfl ?_
                              refine o_on rfl rfl ?_
                              obtain ⟨v3, h20, hF⟩ := bd hF
                              refine o_callSB call80 rfl lent_nil (tri80 (sAt (sub r_.text (IntKind.wrap .i64 (r_.at_ + 1)) (r_.text.length : Int)) 2) v3 h20) rfl ?_
                              refine o_on rfl rfl ?_
                              refine o_v (v_bin rfl rfl rfl) rfl ?_
                              refine o_v (v_pick_t rfl rfl) rfl ?_
                              refine o_nil ?_
                              refine s_st ?_ (hN5 (decide (0 ≤ v3)) hF)
                              exact st_le [0, 0, 0] (le_cons rfl (le_cons rfl (le_cons rfl (le_cons rfl (le_cons rfl (le_cons rfl (le_cons rfl (le_cons rfl le_nil)))))))) rfl sub_nil
                            · replace hF := ite_f h18 hF
                              refine o_off rfl rfl (by decide) rfl ?_
                              refine o_off rfl rfl (by decide) rfl ?_
                              refine o_off rfl rfl (by decide) rfl ?_
                              refine o_off rfl rfl (by decide) rfl ?_
                              refine o_v (v_pick_f rfl rfl) rfl ?_
                              refine o_nil ?_
                              refine s_st ?_ (hN5 false hF)
                              exact st_le [0, 0, 0] (le_cons rfl (le_cons rfl (le_cons rfl (le_cons rfl (le_cons rfl (le_cons rfl (le_cons rfl (le_cons rfl le_nil)))))))) rfl sub_nil
                          · replace hF := ite_f h15 hF
                            refine o_off rfl rfl (by decide) rfl ?_
                            refine o_off rfl rfl (by decide) rfl ?_
                            refine o_off rfl rfl (by decide) rfl ?_
                            refine o_off rfl rfl (by decide) rfl ?_
                            refine o_v (v_pick_f rfl rfl) rfl ?_
                            refine o_v (v_move rfl) rfl ?_
                            refine o_off rfl rfl (by decide) rfl ?_
                            refine o_off rfl rfl (by decide) rfl ?_
                            refine o_off rfl rfl (by decide) rfl ?_
                            refine o_off rfl rfl (by decide) rfl ?_
                            refine o_v (v_pick_f rfl rfl) rfl ?_
                            refine o_nil ?_
                            refine s_st ?_ (hN5 false hF)
                            exact st_le [0, 0, 0] (le_cons rfl (le_cons rfl (le_cons rfl (le_cons rfl (le_cons rfl (le_cons rfl (le_cons rfl (le_cons rfl le_nil)))))))) rfl sub_nil
                        · intro t71 hF
                          unfold F.charset.reader_escaped_j5 at hF
                          refine sat_wc ?_
                          refine c_cond rfl (fun h10 => ?_) (fun h10 => ?_)
                          · replace hF := ite_t h10 hF
                            refine c_seq ?_
                            refine c_region ?_
                            refine o_v (v_move rfl) rfl ?_
                            refine o_v (v_nilCheck rfl) rfl ?_
                            refine o_v (v_fieldAddr (v := .pointer (some ⟨b, 1, none⟩)) rfl (fun _ => by kernel_rfl)) rfl ?_
                            refine o_v (v_load_box 2 ty3 rfl rfl rfl rfl rfl) rfl ?_
                            refine o_v (v_bin rfl rfl rfl) rfl ?_
                            refine o_v (v_nilCheck rfl) rfl ?_
                            refine o_v (v_fieldAddr (v := .pointer (some ⟨b, 1, none⟩)) rfl (fun _ => by kernel_rfl)) rfl ?_
                            refine o_store_box 2 rfl ty3 rfl rfl rfl rfl rfl rfl rfl ?_
                            refine o_seq ?_
                            refine c_seq ?_
                            refine c_draw (n := 11) [0, 1] mixed rfl rfl ?_
                            refine d_val 0 rfl pnok (by kernel_rfl) (by kernel_rfl) (by kernel_rfl) rfl (v_move rfl) ?_
                            refine ite_some hF fun h11 hF => ?_
                            refine d_val 1 rfl pnok (by kernel_rfl) (by kernel_rfl) (by kernel_rfl) rfl (v_sindex Try.underlying9 rfl rfl h11) ?_
                            refine d_val 4 rfl pnok (by kernel_rfl) (by kernel_rfl) (by kernel_rfl) rfl (v_move rfl) ?_
                            refine ite_some hF fun h12 hF => ?_
                            refine d_val 5 rfl pnok (by kernel_rfl) (by kernel_rfl) (by kernel_rfl) rfl (v_sindex Try.underlying9 rfl rfl h12) ?_
                            refine d_val 8 rfl pnok (by kernel_rfl) (by kernel_rfl) (by kernel_rfl) rfl (v_build (v := .agg #[.int .i64 0, .int .i64 0]) rfl (fun _ => by kernel_rfl)) ?_
                            refine d_one 2 rfl (by kernel_rfl) ?_
                            obtain ⟨v, h13, hF⟩ := bd hF
                            refine o_callSB call80 rfl lent_nil (tri80 (sAt (sub r_.text (IntKind.wrap .i64 (r_.at_ + 1)) (r_.text.length : Int)) 1) v h13) rfl ?_
                            refine d_next [0, 1] 0 rfl rfl ?_
                            refine d_val 3 rfl pnok (by kernel_rfl) (by kernel_rfl) (by kernel_rfl) rfl (v_bin rfl rfl rfl) ?_
                            refine d_one 6 rfl (by kernel_rfl) ?_
                            obtain ⟨v1, h14, hF⟩ := bd hF
                            refine o_callSB call80 rfl lent_nil (tri80 (sAt (sub r_.text (IntKind.wrap .i64 (r_.at_ + 1)) (r_.text.length : Int)) 2) v1 h14) rfl ?_
                            refine d_next [0, 1] 0 rfl rfl ?_
                            refine d_val 7 rfl pnok (by kernel_rfl) (by kernel_rfl) (by kernel_rfl) rfl (v_bin rfl rfl rfl) ?_
                            refine d_val 9 rfl pnok (by kernel_rfl) (by kernel_rfl) (by kernel_rfl) rfl (v_assign rfl) ?_
                            refine d_one 10 rfl (by kernel_rfl) ?_
                            refine o_store_box 1 rfl ty26 rfl rfl rfl rfl rfl rfl rfl ?_
                            refine d_next [0, 1] 0 rfl rfl ?_
                            refine d_done_seq (by kernel_rfl) ?_
                            refine c_ret ?_
                            cases hF
                            refine s_ret2 rfl (r_tmp rfl) (r_cell 1 rfl ty26 rfl rfl rfl rfl) fun a w hs => ?_
                            exact fin_sel hs [2] ⟨rfl, rfl, rfl⟩ rfl sub_nil
                          · replace hF := ite_f h10 hF
                            refine c_skip ?_
                            refine s_st ?_ (hN4 hF)
                            exact st_le [0, 0, 0] (le_cons rfl (le_cons rfl (le_cons rfl (le_cons rfl (le_cons rfl (le_cons rfl (le_cons rfl le_nil))))))) rfl sub_nil
                      · replace hF := ite_f h9 hF
                        refine c_skip ?_
                        refine s_st ?_ (hN4 hF)
                        exact st_le [0, 0, 0] (le_cons rfl (le_cons rfl (le_cons rfl (le_cons rfl (le_cons rfl (le_cons rfl (le_cons rfl le_nil))))))) rfl sub_nil
                  · intro hF
                    unfold F.charset.reader_escaped_j4 at hF
                    refine s_st ?_ (hN2 hF)
                    exact st_le [0, 0, 0] (le_cons rfl (le_cons rfl (le_cons rfl (le_cons rfl (le_cons rfl (le_cons rfl le_nil)))))) rfl sub_nil
        · intro hF
          unfold F.charset.reader_escaped_j2 at hF
          refine s_st ?_ (hN1 hF)
          exact st_le [0, 0, 0] (le_cons rfl (le_cons rfl (le_cons rfl (le_cons rfl (le_cons rfl le_nil))))) rfl sub_nil
    · intro hF
      unfold F.charset.reader_escaped_j1 at hF
      refine sat_wc ?_
      refine c_seq ?_
      refine c_draw (n := 3) [0, 1] mixed rfl rfl ?_
      refine d_val 0 rfl pnok (by kernel_rfl) (by kernel_rfl) (by kernel_rfl) rfl (v_load_box 0 ty26 rfl rfl rfl rfl rfl) ?_
      refine d_val 1 rfl pnok (by kernel_rfl) (by kernel_rfl) (by kernel_rfl) rfl (v_assign rfl) ?_
      refine d_one 2 rfl (by kernel_rfl) ?_
      refine o_store_box 1 rfl ty26 rfl rfl rfl rfl rfl rfl rfl ?_
      refine d_next [0, 1] 0 rfl rfl ?_
      refine d_done_seq (by kernel_rfl) ?_
      refine c_ret ?_
      cases hF
      refine s_ret2 rfl (r_tmp rfl) (r_cell 1 rfl ty26 rfl rfl rfl rfl) fun a w hs => ?_
      exact fin_sel hs [2] ⟨rfl, rfl, rfl⟩ rfl sub_nil
theorem tri76 (r_ : Charset_reader) (b : Nat) (r : Int × Fault × Charset_reader) (hF : F.charset.reader_char r_ = some r) :
    Tri Try.prog 76 [.pointer (some ⟨b, 0, none⟩)] [.box b 89 [.string (bs r_.text), .int .i64 r_.at_]] [] (fun o H Φ => o = .ret (.tuple #[.int .i64 r.1, .agg #[.int .i64 r.2.1.At, .int .i64 r.2.1.Code]]) ∧ H = [.box b 89 [.string (bs r.2.2.text), .int .i64 r.2.2.at_]] ∧ Φ = []) := by
  unfold F.charset.reader_char at hF
  refine tri_intro (n := 73) Try.func76 rfl Try.ntmps76 rfl fun w X => ?_
  refine c_seq ?_
  refine c_region ?_
  refine o_v (v_assign rfl) rfl ?_
  refine o_alloc zero26 rfl rfl fun b1 => ?_
  refine o_seq ?_
  refine c_seq ?_
  refine c_seq ?_
  refine c_draw (n := 10) [0, 0] mixed rfl rfl ?_
  refine d_val 0 rfl pnok (by kernel_rfl) (by kernel_rfl) (by kernel_rfl) rfl (v_move rfl) ?_
  refine d_val 1 rfl pnok (by kernel_rfl) (by kernel_rfl) (by kernel_rfl) rfl (v_nilCheck rfl) ?_
  refine d_val 2 rfl pnok (by kernel_rfl) (by kernel_rfl) (by kernel_rfl) rfl (v_fieldAddr (v := .pointer (some ⟨b, 1, none⟩)) rfl (fun _ => by kernel_rfl)) ?_
  refine d_val 3 rfl pnok (by kernel_rfl) (by kernel_rfl) (by kernel_rfl) rfl (v_load_box 1 ty3 rfl rfl rfl rfl rfl) ?_
  refine d_val 4 rfl pnok (by kernel_rfl) (by kernel_rfl) (by kernel_rfl) rfl (v_move rfl) ?_
  refine d_val 5 rfl pnok (by kernel_rfl) (by kernel_rfl) (by kernel_rfl) rfl (v_nilCheck rfl) ?_
  refine d_val 6 rfl pnok (by kernel_rfl) (by kernel_rfl) (by kernel_rfl) rfl (v_fieldAddr (v := .pointer (some ⟨b, 0, none⟩)) rfl (fun _ => by kernel_rfl)) ?_
  refine d_val 7 rfl pnok (by kernel_rfl) (by kernel_rfl) (by kernel_rfl) rfl (v_load_box 1 ty9 rfl rfl rfl rfl rfl) ?_
  refine d_val 8 rfl pnok (by kernel_rfl) (by kernel_rfl) (by kernel_rfl) rfl (v_len_str Try.underlying9 rfl) ?_
  refine d_val 9 rfl pnok (by kernel_rfl) (by kernel_rfl) (by kernel_rfl) rfl (v_bin rfl rfl rfl) ?_
  refine d_done_seq (by kernel_rfl) ?_
  refine c_cond rfl (fun h1 => ?_) (fun h1 => ?_)
  · replace hF := ite_t h1 hF
    refine c_seq ?_
    refine c_draw (n := 8) [1] mixed rfl rfl ?_
    refine d_val 0 rfl pnok (by kernel_rfl) (by kernel_rfl) (by kernel_rfl) rfl (v_move rfl) ?_
    refine d_val 1 rfl pnok (by kernel_rfl) (by kernel_rfl) (by kernel_rfl) rfl (v_nilCheck rfl) ?_
    refine d_val 2 rfl pnok (by kernel_rfl) (by kernel_rfl) (by kernel_rfl) rfl (v_fieldAddr (v := .pointer (some ⟨b, 0, none⟩)) rfl (fun _ => by kernel_rfl)) ?_
    refine d_val 3 rfl pnok (by kernel_rfl) (by kernel_rfl) (by kernel_rfl) rfl (v_load_box 0 ty9 rfl rfl rfl rfl rfl) ?_
    refine d_val 4 rfl pnok (by kernel_rfl) (by kernel_rfl) (by kernel_rfl) rfl (v_len_str Try.underlying9 rfl) ?_
    refine d_val 5 rfl pnok (by kernel_rfl) (by kernel_rfl) (by kernel_rfl) rfl (v_build (v := .agg #[.int .i64 (r_.text.length : Int), .int .i64 14]) rfl (fun _ => by kernel_rfl)) ?_
    refine d_val 6 rfl pnok (by kernel_rfl) (by kernel_rfl) (by kernel_rfl) rfl (v_assign rfl) ?_
    refine d_one 7 rfl (by kernel_rfl) ?_
    refine o_store_box 0 rfl ty26 rfl rfl rfl rfl rfl rfl rfl ?_
    refine d_next [1] 0 rfl rfl ?_
    refine d_done_seq (by kernel_rfl) ?_
    refine c_ret ?_
    cases hF
    refine s_ret2 rfl (r_tmp rfl) (r_cell 0 rfl ty26 rfl rfl rfl rfl) fun a w hs => ?_
    exact fin_sel hs [1] ⟨rfl, rfl, rfl⟩ rfl sub_nil
  · replace hF := ite_f h1 hF
    refine c_skip ?_
    refine sat_wc ?_
    refine c_seq ?_
    refine c_draw (n := 10) [0, 0] mixed rfl rfl ?_
    refine d_val 0 rfl pnok (by kernel_rfl) (by kernel_rfl) (by kernel_rfl) rfl (v_move rfl) ?_
    refine d_val 1 rfl pnok (by kernel_rfl) (by kernel_rfl) (by kernel_rfl) rfl (v_nilCheck rfl) ?_
    refine d_val 2 rfl pnok (by kernel_rfl) (by kernel_rfl) (by kernel_rfl) rfl (v_fieldAddr (v := .pointer (some ⟨b, 0, none⟩)) rfl (fun _ => by kernel_rfl)) ?_
    refine d_val 3 rfl pnok (by kernel_rfl) (by kernel_rfl) (by kernel_rfl) rfl (v_load_box 1 ty9 rfl rfl rfl rfl rfl) ?_
    refine d_val 4 rfl pnok (by kernel_rfl) (by kernel_rfl) (by kernel_rfl) rfl (v_move rfl) ?_
    refine d_val 5 rfl pnok (by kernel_rfl) (by kernel_rfl) (by kernel_rfl) rfl (v_nilCheck rfl) ?_
    refine d_val 6 rfl pnok (by kernel_rfl) (by kernel_rfl) (by kernel_rfl) rfl (v_fieldAddr (v := .pointer (some ⟨b, 1, none⟩)) rfl (fun _ => by kernel_rfl)) ?_
    refine d_val 7 rfl pnok (by kernel_rfl) (by kernel_rfl) (by kernel_rfl) rfl (v_load_box 1 ty3 rfl rfl rfl rfl rfl) ?_
    refine ite_some hF fun h2 hF => ?_
    refine d_val 8 rfl pnok (by kernel_rfl) (by kernel_rfl) (by kernel_rfl) rfl (v_sindex Try.underlying9 rfl rfl h2) ?_
    refine d_val 9 rfl pnok (by kernel_rfl) (by kernel_rfl) (by kernel_rfl) rfl (v_assign rfl) ?_
    refine d_done_seq (by kernel_rfl) ?_
    refine c_seq ?_
    refine c_seq ?_
    refine c_region ?_
    refine o_v (v_move rfl) rfl ?_
    refine o_v (v_bin rfl rfl rfl) rfl ?_
    refine o_seq ?_
    refine c_cond rfl (fun h3 => ?_) (fun h3 => ?_)
    · replace hF := ite_t h3 hF
      refine c_seq ?_
      refine c_region ?_
      refine o_v (v_move rfl) rfl ?_
      obtain ⟨v, h4, hF⟩ := bd hF
      refine o_call [1] call79 rfl rfl rfl sub_nil (cap := #[]) (by rw [show (#[] : Array Value).toList = [] from rfl, List.append_nil]; exact (tri79 r_ b v h4)) rfl ?_
      rintro _ _ _ ⟨rfl, rfl, rfl⟩
      refine o_v (v_extract rfl rfl) rfl ?_
      refine o_v (v_extract rfl rfl) rfl ?_
      refine o_v (v_assign rfl) rfl ?_
      refine o_store_box 1 rfl ty26 rfl rfl rfl rfl rfl rfl rfl ?_
      refine o_seq ?_
      refine c_ret ?_
      cases hF
      refine s_ret2 rfl (r_tmp rfl) (r_cell 1 rfl ty26 rfl rfl rfl rfl) fun a w hs => ?_
      exact fin_sel hs [0] ⟨rfl, rfl, rfl⟩ rfl sub_nil
    · replace hF := ite_f h3 hF
      refine c_skip ?_
      refine sat_wc ?_
      refine c_seq ?_
      refine c_seq ?_
      refine c_cut (fun E N' => ∀ (t57 : Bool), F.charset.reader_char_j1 r_ t57 = some r → Sat E [(0, .pointer (some ⟨b, 0, none⟩)), (2, .int .i64 0), (3, .pointer (some ⟨b1, 0, none⟩)), (4, .int .u8 (sAt r_.text r_.at_)), (57, .bool t57)] [.box b1 26 [.int .i64 0, .int .i64 0], .box b 89 [.string (bs r_.text), .int .i64 r_.at_]] [] N') (fun N1 hN1 => ?_) ?_
      · refine c_region ?_
        refine o_v (v_move rfl) rfl ?_
        refine o_v (v_bin rfl rfl rfl) rfl ?_
        refine o_v (v_move rfl) rfl ?_
        refine o_split (t := 38) rfl (fun h6 => ?_) (fun h6 => ?_)
        · replace hF := ite_t h6 hF
          refine o_off rfl rfl (by decide) rfl ?_
          refine o_off rfl rfl (by decide) rfl ?_
          refine o_v (v_pick_t rfl rfl) rfl ?_
          refine o_v (v_move rfl) rfl ?_
          refine o_off rfl rfl (by decide) rfl ?_
          refine o_off rfl rfl (by decide) rfl ?_
          refine o_v (v_pick_t rfl rfl) rfl ?_
          refine o_v (v_move rfl) rfl ?_
          refine o_off rfl rfl (by decide) rfl ?_
          refine o_off rfl rfl (by decide) rfl ?_
          refine o_v (v_pick_t rfl rfl) rfl ?_
          refine o_v (v_move rfl) rfl ?_
          refine o_off rfl rfl (by decide) rfl ?_
          refine o_off rfl rfl (by decide) rfl ?_
          refine o_v (v_pick_t rfl rfl) rfl ?_
          refine o_v (v_move rfl) rfl ?_
          refine o_off rfl rfl (by decide) rfl ?_
          refine o_off rfl rfl (by decide) rfl ?_
          refine o_v (v_pick_t rfl rfl) rfl ?_
          refine o_nil ?_
          refine s_st ?_ (hN1 true hF)
          exact st_le [0, 0] (le_cons rfl (le_cons rfl (le_cons rfl (le_cons rfl (le_cons rfl le_nil))))) rfl sub_nil
        · replace hF := ite_f h6 hF
          refine o_on rfl rfl ?_
          refine o_v (v_move rfl) rfl ?_
          refine o_on rfl rfl ?_
          refine o_v (v_bin rfl rfl rfl) rfl ?_
          refine o_v (v_pick_f rfl rfl) rfl ?_
          refine o_v (v_move rfl) rfl ?_
          refine o_split (t := 42) rfl (fun h7 => ?_) (fun h7 => ?_)
          · replace hF := ite_t h7 hF
            refine o_off rfl rfl (by decide) rfl ?_
            refine o_off rfl rfl (by decide) rfl ?_
            refine o_v (v_pick_t rfl rfl) rfl ?_
            refine o_v (v_move rfl) rfl ?_
            refine o_off rfl rfl (by decide) rfl ?_
            refine o_off rfl rfl (by decide) rfl ?_
            refine o_v (v_pick_t rfl rfl) rfl ?_
            refine o_v (v_move rfl) rfl ?_
            refine o_off rfl rfl (by decide) rfl ?_
            refine o_off rfl rfl (by decide) rfl ?_
            refine o_v (v_pick_t rfl rfl) rfl ?_
            refine o_v (v_move rfl) rfl ?_
            refine o_off rfl rfl (by decide) rfl ?_
            refine o_off rfl rfl (by decide) rfl ?_
            refine o_v (v_pick_t rfl rfl) rfl ?_
            refine o_nil ?_
            refine s_st ?_ (hN1 true hF)
            exact st_le [0, 0] (le_cons rfl (le_cons rfl (le_cons rfl (le_cons rfl (le_cons rfl le_nil))))) rfl sub_nil
          · replace hF := ite_f h7 hF
            refine o_on rfl rfl ?_
            refine o_v (v_move rfl) rfl ?_
            refine o_on rfl rfl ?_
            refine o_v (v_bin rfl rfl rfl) rfl ?_
            refine o_v (v_pick_f rfl rfl) rfl ?_
            refine o_v (v_move rfl) rfl ?_
            refine o_split (t := 46) rfl (fun h8 => ?_) (fun h8 => ?_)
            · replace hF := ite_t h8 hF
              refine o_off rfl rfl (by decide) rfl ?_
              refine o_off rfl rfl (by decide) rfl ?_
              refine o_v (v_pick_t rfl rfl) rfl ?_
              refine o_v (v_move rfl) rfl ?_
              refine o_off rfl rfl (by decide) rfl ?_
              refine o_off rfl rfl (by decide) rfl ?_
              refine o_v (v_pick_t rfl rfl) rfl ?_
              refine o_v (v_move rfl) rfl ?_
              refine o_off rfl rfl (by decide) rfl ?_
              refine o_off rfl rfl (by decide) rfl ?_
              refine o_v (v_pick_t rfl rfl) rfl ?_
              refine o_nil ?_
              refine s_st ?_ (hN1 true hF)
              exact st_le [0, 0] (le_cons rfl (le_cons rfl (le_cons rfl (le_cons rfl (le_cons rfl le_nil))))) rfl sub_nil
            · replace hF := ite_f h8 hF
              refine o_on rfl rfl ?_
              refine o_v (v_move rfl) rfl ?_
              refine o_on rfl rfl ?_
              refine o_v (v_bin rfl rfl rfl) rfl ?_
              refine o_v (v_pick_f rfl rfl) rfl ?_
              refine o_v (v_move rfl) rfl ?_
              refine o_split (t := 50) rfl (fun h9 => ?_) (fun h9 => ?_)
              · replace hF := ite_t h9 hF
                refine o_off rfl rfl (by decide) rfl ?_
                refine o_off rfl rfl (by decide) rfl ?_
                refine o_v (v_pick_t rfl rfl) rfl ?_
                refine o_v (v_move rfl) rfl ?_
                refine o_off rfl rfl (by decide) rfl ?_
                refine o_off rfl rfl (by decide) rfl ?_
                refine o_v (v_pick_t rfl rfl) rfl ?_
                refine o_nil ?_
                refine s_st ?_ (hN1 true hF)
                exact st_le [0, 0] (le_cons rfl (le_cons rfl (le_cons rfl (le_cons rfl (le_cons rfl le_nil))))) rfl sub_nil
              · replace hF := ite_f h9 hF
                refine o_on rfl rfl ?_
                refine o_v (v_move rfl) rfl ?_
                refine o_on rfl rfl ?_
                refine o_v (v_bin rfl rfl rfl) rfl ?_
                refine o_v (v_pick_f rfl rfl) rfl ?_
                refine o_v (v_move rfl) rfl ?_
                refine o_split (t := 54) rfl (fun h10 => ?_) (fun h10 => ?_)
                · replace hF := ite_t h10 hF
                  refine o_off rfl rfl (by decide) rfl ?_
                  refine o_off rfl rfl (by decide) rfl ?_
                  refine o_v (v_pick_t rfl rfl) rfl ?_
                  refine o_nil ?_
                  refine s_st ?_ (hN1 true hF)
                  exact st_le [0, 0] (le_cons rfl (le_cons rfl (le_cons rfl (le_cons rfl (le_cons rfl le_nil))))) rfl sub_nil
                · replace hF := ite_f h10 hF
                  refine o_on rfl rfl ?_
                  refine o_v (v_move rfl) rfl ?_
                  refine o_on rfl rfl ?_
                  refine o_v (v_bin rfl rfl rfl) rfl ?_
                  refine o_v (v_pick_f rfl rfl) rfl ?_
                  refine o_nil ?_
                  refine s_st ?_ (hN1 ((sAt r_.text r_.at_) == 94) hF)
                  exact st_le [0, 0] (le_cons rfl (le_cons rfl (le_cons rfl (le_cons rfl (le_cons rfl le_nil))))) rfl sub_nil
      · intro t57 hF
        unfold F.charset.reader_char_j1 at hF
        refine sat_wc ?_
        refine c_cond rfl (fun h5 => ?_) (fun h5 => ?_)
        · replace hF := ite_t h5 hF
          refine c_seq ?_
          refine c_draw (n := 7) [1] mixed rfl rfl ?_
          refine d_val 0 rfl pnok (by kernel_rfl) (by kernel_rfl) (by kernel_rfl) rfl (v_move rfl) ?_
          refine d_val 1 rfl pnok (by kernel_rfl) (by kernel_rfl) (by kernel_rfl) rfl (v_nilCheck rfl) ?_
          refine d_val 2 rfl pnok (by kernel_rfl) (by kernel_rfl) (by kernel_rfl) rfl (v_fieldAddr (v := .pointer (some ⟨b, 1, none⟩)) rfl (fun _ => by kernel_rfl)) ?_
          refine d_val 3 rfl pnok (by kernel_rfl) (by kernel_rfl) (by kernel_rfl) rfl (v_load_box 0 ty3 rfl rfl rfl rfl rfl) ?_
          refine d_val 4 rfl pnok (by kernel_rfl) (by kernel_rfl) (by kernel_rfl) rfl (v_build (v := .agg #[.int .i64 r_.at_, .int .i64 11]) rfl (fun _ => by kernel_rfl)) ?_
          refine d_val 5 rfl pnok (by kernel_rfl) (by kernel_rfl) (by kernel_rfl) rfl (v_assign rfl) ?_
          refine d_one 6 rfl (by kernel_rfl) ?_
          refine o_store_box 0 rfl ty26 rfl rfl rfl rfl rfl rfl rfl ?_
          refine d_next [1] 0 rfl rfl ?_
          refine d_done_seq (by kernel_rfl) ?_
          refine c_ret ?_
          cases hF
          refine s_ret2 rfl (r_tmp rfl) (r_cell 0 rfl ty26 rfl rfl rfl rfl) fun a w hs => ?_
          exact fin_sel hs [1] ⟨rfl, rfl, rfl⟩ rfl sub_nil
        · replace hF := ite_f h5 hF
          refine c_skip ?_
          refine sat_wc ?_
          refine c_seq ?_
          refine c_region ?_
          refine o_v (v_move rfl) rfl ?_
          refine o_v (v_nilCheck rfl) rfl ?_
          refine o_v (v_fieldAddr (v := .pointer (some ⟨b, 1, none⟩)) rfl (fun _ => by kernel_rfl)) rfl ?_
          refine o_v (v_load_box 1 ty3 rfl rfl rfl rfl rfl) rfl ?_
          refine o_v (v_bin rfl rfl rfl) rfl ?_
          refine o_v (v_nilCheck rfl) rfl ?_
          refine o_v (v_fieldAddr (v := .pointer (some ⟨b, 1, none⟩)) rfl (fun _ => by kernel_rfl)) rfl ?_
          refine o_store_box 1 rfl ty3 rfl rfl rfl rfl rfl rfl rfl ?_
          refine o_seq ?_
          refine c_seq ?_
          refine c_region ?_
          refine o_v (v_move rfl) rfl ?_
          refine o_v (v_convert (v := .int .i64 (IntKind.wrap .i64 (sAt r_.text r_.at_))) rfl (fun _ => by kernel_rfl)) rfl ?_
          refine o_v (v_build (v := .agg #[.int .i64 0, .int .i64 0]) rfl (fun _ => by kernel_rfl)) rfl ?_
          refine o_v (v_assign rfl) rfl ?_
          refine o_store_box 0 rfl ty26 rfl rfl rfl rfl rfl rfl rfl ?_
          refine o_seq ?_
          refine c_ret ?_
          cases hF
          refine s_ret2 rfl (r_tmp rfl) (r_cell 0 rfl ty26 rfl rfl rfl rfl) fun a w hs => ?_
          exact fin_sel hs [1] ⟨rfl, rfl, rfl⟩ rfl sub_nil
theorem tri77 (k : Nat) (lo : Int) (hi : Int) (r : S4 × Int) (hF : F.charset.Range k lo hi = some r) :
    Tri Try.prog 77 [.int .i64 lo, .int .i64 hi] [] [] (fun o H Φ => o = .ret (.tuple #[.agg #[.int .u64 r.1.w0, .int .u64 r.1.w1, .int .u64 r.1.w2, .int .u64 r.1.w3], .int .i64 r.2]) ∧ H = [] ∧ Φ = []) := by
  unfold F.charset.Range at hF
  refine tri_intro (n := 36) Try.func77 rfl Try.ntmps77 rfl fun w X => ?_
  refine c_seq ?_
  refine c_region ?_
  refine o_alloc zero33 rfl rfl fun b => ?_
  refine o_v (v_assign rfl) rfl ?_
  refine o_seq ?_
  refine c_seq ?_
  refine c_region ?_
  refine o_alloc zero33 rfl rfl fun b1 => ?_
  refine o_seq ?_
  refine c_seq ?_
  refine c_seq ?_
  refine c_region ?_
  refine o_v (v_move rfl) rfl ?_
  refine o_v (v_bin rfl rfl rfl) rfl ?_
  refine o_v (v_move rfl) rfl ?_
  refine o_split (t := 10) rfl (fun h1 => ?_) (fun h1 => ?_)
  · replace hF := ite_t h1 hF
    refine o_off rfl rfl (by decide) rfl ?_
    refine o_off rfl rfl (by decide) rfl ?_
    refine o_v (v_pick_t rfl rfl) rfl ?_
    refine o_v (v_move rfl) rfl ?_
    refine o_off rfl rfl (by decide) rfl ?_
    refine o_off rfl rfl (by decide) rfl ?_
    refine o_off rfl rfl (by decide) rfl ?_
    refine o_v (v_pick_t rfl rfl) rfl ?_
    refine o_seq ?_
    refine c_cond rfl (fun _ => ?_) (fun h => Bool.noConfusion h)
    refine c_seq ?_
    refine c_region ?_
    refine o_v (v_load_box 0 ty33 rfl rfl rfl rfl rfl) rfl ?_
    refine o_store_box 1 rfl ty33 rfl rfl rfl rfl rfl rfl rfl ?_
    refine o_v (v_assign rfl) rfl ?_
    refine o_seq ?_
    refine c_ret ?_
    cases hF
    refine s_ret2 rfl (r_cell 1 rfl ty33 rfl rfl rfl rfl) (r_tmp rfl) fun a w hs => ?_
    exact fin_sel hs [] ⟨rfl, rfl, rfl⟩ rfl sub_nil
  · replace hF := ite_f h1 hF
    refine o_on rfl rfl ?_
    refine o_v (v_move rfl) rfl ?_
    refine o_on rfl rfl ?_
    refine o_v (v_bin rfl rfl rfl) rfl ?_
    refine o_v (v_pick_f rfl rfl) rfl ?_
    refine o_v (v_move rfl) rfl ?_
    refine o_split (t := 14) rfl (fun h2 => ?_) (fun h2 => ?_)
    · replace hF := ite_t h2 hF
      refine o_off rfl rfl (by decide) rfl ?_
      refine o_off rfl rfl (by decide) rfl ?_
      refine o_off rfl rfl (by decide) rfl ?_
      refine o_v (v_pick_t rfl rfl) rfl ?_
      refine o_seq ?_
      refine c_cond rfl (fun _ => ?_) (fun h => Bool.noConfusion h)
      refine c_seq ?_
      refine c_region ?_
      refine o_v (v_load_box 0 ty33 rfl rfl rfl rfl rfl) rfl ?_
      refine o_store_box 1 rfl ty33 rfl rfl rfl rfl rfl rfl rfl ?_
      refine o_v (v_assign rfl) rfl ?_
      refine o_seq ?_
      refine c_ret ?_
      cases hF
      refine s_ret2 rfl (r_cell 1 rfl ty33 rfl rfl rfl rfl) (r_tmp rfl) fun a w hs => ?_
      exact fin_sel hs [] ⟨rfl, rfl, rfl⟩ rfl sub_nil
    · replace hF := ite_f h2 hF
      refine o_on rfl rfl ?_
      refine o_v (v_move rfl) rfl ?_
      refine o_on rfl rfl ?_
      refine o_v (v_move rfl) rfl ?_
      refine o_on rfl rfl ?_
      refine o_v (v_bin rfl rfl rfl) rfl ?_
      refine o_v (v_pick_f rfl rfl) rfl ?_
      refine o_seq ?_
      refine c_cond rfl (fun h3 => ?_) (fun h3 => ?_)
      · replace hF := ite_t h3 hF
        refine c_seq ?_
        refine c_region ?_
        refine o_v (v_load_box 0 ty33 rfl rfl rfl rfl rfl) rfl ?_
        refine o_store_box 1 rfl ty33 rfl rfl rfl rfl rfl rfl rfl ?_
        refine o_v (v_assign rfl) rfl ?_
        refine o_seq ?_
        refine c_ret ?_
        cases hF
        refine s_ret2 rfl (r_cell 1 rfl ty33 rfl rfl rfl rfl) (r_tmp rfl) fun a w hs => ?_
        exact fin_sel hs [] ⟨rfl, rfl, rfl⟩ rfl sub_nil
      · replace hF := ite_f h3 hF
        refine c_skip ?_
        refine sat_wc ?_
        refine c_seq ?_
        refine c_seq ?_
        refine c_region ?_
        refine o_v (v_move rfl) rfl ?_
        refine o_v (v_assign rfl) rfl ?_
        refine o_seq ?_
        obtain ⟨o1, ho1, hF⟩ := bd hF
        refine c_cut (fun E N' => Sat E [(0, .int .i64 lo), (1, .int .i64 hi), (4, .pointer (some ⟨b, 0, none⟩)), (5, .int .i64 0), (6, .pointer (some ⟨b1, 0, none⟩))] [.box b1 33 [.int .u64 o1.w0, .int .u64 o1.w1, .int .u64 o1.w2, .int .u64 o1.w3], .box b 33 [.int .u64 0, .int .u64 0, .int .u64 0, .int .u64 0]] [] N') (fun N1 hN1 => ?_) ?_
        · refine c_block ?_
          refine c_loopE (fun E j a w => ∃ (i : Int) (s : S4), F.charset.Range_l1 hi j i s = some o1 ∧ St E [(0, .int .i64 lo), (1, .int .i64 hi), (4, .pointer (some ⟨b, 0, none⟩)), (5, .int .i64 0), (6, .pointer (some ⟨b1, 0, none⟩)), (7, .int .i64 i)] [.box b1 33 [.int .u64 s.w0, .int .u64 s.w1, .int .u64 s.w2, .int .u64 s.w3], .box b 33 [.int .u64 0, .int .u64 0, .int .u64 0, .int .u64 0]] [] a w) k ?_ ?_
          · intro a w hs
            exact ⟨lo, (S4.mk 0 0 0 0), ho1, st_le [0, 0] (le_cons rfl (le_cons rfl (le_cons rfl (le_cons rfl (le_cons rfl (le_cons rfl le_nil)))))) rfl sub_nil a w hs⟩
          · rintro j a w ⟨i, s, hL1, hs⟩
            cases j with
            | zero => cases hL1
            | succ j =>
              refine wc_app hs ?_
              unfold F.charset.Range_l1 at hL1
              refine c_seq ?_
              refine c_seq ?_
              refine c_region ?_
              refine o_v (v_move rfl) rfl ?_
              refine o_v (v_move rfl) rfl ?_
              refine o_v (v_bin rfl rfl rfl) rfl ?_
              refine o_seq ?_
              refine c_cond rfl (fun h4 => ?_) (fun h4 => ?_)
              · replace hL1 := ite_t h4 hL1
                refine c_skip ?_
                refine sat_wc ?_
                refine c_seq ?_
                refine c_block ?_
                refine c_draw (n := 10) [1] mixed rfl rfl ?_
                refine d_val 0 rfl pnok (by kernel_rfl) (by kernel_rfl) (by kernel_rfl) rfl (v_move rfl) ?_
                refine d_val 1 rfl pnok (by kernel_rfl) (by kernel_rfl) (by kernel_rfl) rfl (v_quo rfl rfl rfl) ?_
                refine ite_some hL1 fun h5 hL1 => ?_
                refine d_val 2 rfl pnok (by kernel_rfl) (by kernel_rfl) (by kernel_rfl) rfl (v_indexAddr_a ar33 rfl rfl h5) ?_
                refine d_val 4 rfl pnok (by kernel_rfl) (by kernel_rfl) (by kernel_rfl) rfl (v_move rfl) ?_
                refine d_val 5 rfl pnok (by kernel_rfl) (by kernel_rfl) (by kernel_rfl) rfl (v_rem rfl rfl rfl) ?_
                refine ite_none hL1 fun h6 hL1 => ?_
                refine d_val 6 rfl pnok (by kernel_rfl) (by kernel_rfl) (by kernel_rfl) rfl (v_shl rfl rfl h6) ?_
                refine d_one 3 rfl (by kernel_rfl) ?_
                refine o_v (v_load_a 0 s ty31 rfl rfl h5) rfl ?_
                refine d_next [1] 0 rfl rfl ?_
                refine d_val 7 rfl pnok (by kernel_rfl) (by kernel_rfl) (by kernel_rfl) rfl (v_bit rfl rfl rfl) ?_
                refine d_val 8 rfl pnok (by kernel_rfl) (by kernel_rfl) (by kernel_rfl) rfl (v_indexAddr_a ar33 rfl rfl h5) ?_
                refine d_one 9 rfl (by kernel_rfl) ?_
                refine o_store_a 0 s rfl ty31 rfl rfl rfl h5 ?_
                refine d_next [1] 0 rfl rfl ?_
                refine d_done (by kernel_rfl) ?_
                refine sat_wc ?_
                refine c_region ?_
                refine o_v (v_move rfl) rfl ?_
                refine o_v (v_bin rfl rfl rfl) rfl ?_
                refine o_v (v_assign rfl) rfl ?_
                refine o_nil ?_
                intro a w hs
                exact ⟨j, Nat.lt_succ_self j, IntKind.wrap .i64 (i + 1), (S4.set s (gquo .i64 i 64) (gor .u64 (S4.get s (gquo .i64 i 64)) (gshl .u64 1 (grem i 64)))), hL1, st_le [0, 0] (le_cons rfl (le_cons rfl (le_cons rfl (le_cons rfl (le_cons rfl (le_cons rfl le_nil)))))) rfl sub_nil a w hs⟩
              · replace hL1 := ite_f h4 hL1
                refine c_exit0 ?_
                cases hL1
                refine s_st ?_ (hN1)
                exact st_le [0, 0] (le_cons rfl (le_cons rfl (le_cons rfl (le_cons rfl (le_cons rfl le_nil))))) rfl sub_nil
        · refine sat_wc ?_
          refine c_seq ?_
          refine c_region ?_
          refine o_v (v_load_box 0 ty33 rfl rfl rfl rfl rfl) rfl ?_
          refine o_store_box 1 rfl ty33 rfl rfl rfl rfl rfl rfl rfl ?_
          refine o_v (v_assign rfl) rfl ?_
          refine o_seq ?_
          refine c_ret ?_
          cases hF
          refine s_ret2 rfl (r_cell 1 rfl ty33 rfl rfl rfl rfl) (r_tmp rfl) fun a w hs => ?_
          exact fin_sel hs [] ⟨rfl, rfl, rfl⟩ rfl sub_nil
theorem tri67 (k : Nat) (r_ : Charset_reader) (b : Nat) (r : S4 × Fault × Charset_reader) (hF : F.charset.reader_item k r_ = some r) :
    Tri Try.prog 67 [.pointer (some ⟨b, 0, none⟩)] [.box b 89 [.string (bs r_.text), .int .i64 r_.at_]] [] (fun o H Φ => o = .ret (.tuple #[.agg #[.int .u64 r.1.w0, .int .u64 r.1.w1, .int .u64 r.1.w2, .int .u64 r.1.w3], .agg #[.int .i64 r.2.1.At, .int .i64 r.2.1.Code]]) ∧ H = [.box b 89 [.string (bs r.2.2.text), .int .i64 r.2.2.at_]] ∧ Φ = []) := by
  unfold F.charset.reader_item at hF
  refine tri_intro (n := 78) Try.func67 rfl Try.ntmps67 rfl fun w X => ?_
  refine c_seq ?_
  refine c_region ?_
  refine o_alloc zero33 rfl rfl fun b1 => ?_
  refine o_alloc zero26 rfl rfl fun b2 => ?_
  refine o_seq ?_
  refine c_seq ?_
  refine c_region ?_
  refine o_v (v_move rfl) rfl ?_
  refine o_v (v_nilCheck rfl) rfl ?_
  refine o_v (v_fieldAddr (v := .pointer (some ⟨b, 1, none⟩)) rfl (fun _ => by kernel_rfl)) rfl ?_
  refine o_v (v_load_box 2 ty3 rfl rfl rfl rfl rfl) rfl ?_
  refine o_v (v_assign rfl) rfl ?_
  refine o_seq ?_
  refine c_seq ?_
  refine c_region ?_
  refine o_v (v_move rfl) rfl ?_
  obtain ⟨v, h1, hF⟩ := bd hF
  refine o_call [2] call76 rfl rfl rfl sub_nil (cap := #[]) (by rw [show (#[] : Array Value).toList = [] from rfl, List.append_nil]; exact (tri76 r_ b v h1)) rfl ?_
  rintro _ _ _ ⟨rfl, rfl, rfl⟩
  refine o_v (v_move rfl) rfl ?_
  refine o_v (v_extract rfl rfl) rfl ?_
  refine o_v (v_extract rfl rfl) rfl ?_
  refine o_alloc zero26 rfl rfl fun b3 => ?_
  refine o_v (v_assign rfl) rfl ?_
  refine o_store_box 0 rfl ty26 rfl rfl rfl rfl rfl rfl rfl ?_
  refine o_seq ?_
  refine c_seq ?_
  refine c_seq ?_
  refine c_region ?_
  refine o_v (v_fieldAddr (v := .pointer (some ⟨b3, 1, none⟩)) rfl (fun _ => by kernel_rfl)) rfl ?_
  refine o_v (v_load_box 0 ty24 rfl rfl rfl rfl rfl) rfl ?_
  refine o_v (v_bin rfl rfl rfl) rfl ?_
  refine o_seq ?_
  refine c_cond rfl (fun h2 => ?_) (fun h2 => ?_)
  · replace hF := ite_t h2 hF
    refine c_seq ?_
    refine c_draw (n := 4) [0, 0] mixed rfl rfl ?_
    refine d_val 0 rfl pnok (by kernel_rfl) (by kernel_rfl) (by kernel_rfl) rfl (v_build (v := .agg #[.int .u64 0, .int .u64 0, .int .u64 0, .int .u64 0]) rfl (fun _ => by kernel_rfl)) ?_
    refine d_val 1 rfl pnok (by kernel_rfl) (by kernel_rfl) (by kernel_rfl) rfl (v_load_box 0 ty26 rfl rfl rfl rfl rfl) ?_
    refine d_one 2 rfl (by kernel_rfl) ?_
    refine o_store_box 3 rfl ty33 rfl rfl rfl rfl rfl rfl rfl ?_
    refine d_next [0, 0] 0 rfl rfl ?_
    refine d_one 3 rfl (by kernel_rfl) ?_
    refine o_store_box 2 rfl ty26 rfl rfl rfl rfl rfl rfl rfl ?_
    refine d_next [0, 0] 0 rfl rfl ?_
    refine d_done_seq (by kernel_rfl) ?_
    refine c_ret ?_
    cases hF
    refine s_ret2 rfl (r_cell 3 rfl ty33 rfl rfl rfl rfl) (r_cell 2 rfl ty26 rfl rfl rfl rfl) fun a w hs => ?_
    exact fin_sel hs [1] ⟨rfl, rfl, rfl⟩ rfl sub_nil
  · replace hF := ite_f h2 hF
    refine c_skip ?_
    refine sat_wc ?_
    refine c_seq ?_
    refine c_region ?_
    refine o_v (v_move rfl) rfl ?_
    refine o_v (v_assign rfl) rfl ?_
    refine o_seq ?_
    refine c_seq ?_
    refine c_seq ?_
    refine c_cut (fun E N' => ∀ (t46 : Bool), F.charset.reader_item_j1 k v r_ t46 = some r → Sat E [(0, .pointer (some ⟨b, 0, none⟩)), (2, .pointer (some ⟨b1, 0, none⟩)), (3, .pointer (some ⟨b2, 0, none⟩)), (4, .int .i64 r_.at_), (5, .int .i64 v.1), (6, .pointer (some ⟨b3, 0, none⟩)), (7, .int .i64 v.1), (46, .bool t46)] [.box b3 26 [.int .i64 v.2.1.At, .int .i64 v.2.1.Code], .box b 89 [.string (bs v.2.2.text), .int .i64 v.2.2.at_], .box b2 26 [.int .i64 0, .int .i64 0], .box b1 33 [.int .u64 0, .int .u64 0, .int .u64 0, .int .u64 0]] [] N') (fun N2 hN2 => ?_) ?_
    · refine c_draw (n := 22) [0, 0, 0, 0] mixed rfl rfl ?_
      refine d_val 0 rfl pnok (by kernel_rfl) (by kernel_rfl) (by kernel_rfl) rfl (v_move rfl) ?_
      refine d_val 1 rfl pnok (by kernel_rfl) (by kernel_rfl) (by kernel_rfl) rfl (v_nilCheck rfl) ?_
      refine d_val 2 rfl pnok (by kernel_rfl) (by kernel_rfl) (by kernel_rfl) rfl (v_fieldAddr (v := .pointer (some ⟨b, 1, none⟩)) rfl (fun _ => by kernel_rfl)) ?_
      refine d_val 3 rfl pnok (by kernel_rfl) (by kernel_rfl) (by kernel_rfl) rfl (v_load_box 1 ty3 rfl rfl rfl rfl rfl) ?_
      refine d_val 4 rfl pnok (by kernel_rfl) (by kernel_rfl) (by kernel_rfl) rfl (v_move rfl) ?_
      refine d_val 5 rfl pnok (by kernel_rfl) (by kernel_rfl) (by kernel_rfl) rfl (v_nilCheck rfl) ?_
      refine d_val 6 rfl pnok (by kernel_rfl) (by kernel_rfl) (by kernel_rfl) rfl (v_fieldAddr (v := .pointer (some ⟨b, 0, none⟩)) rfl (fun _ => by kernel_rfl)) ?_
      refine d_val 7 rfl pnok (by kernel_rfl) (by kernel_rfl) (by kernel_rfl) rfl (v_load_box 1 ty9 rfl rfl rfl rfl rfl) ?_
      refine d_val 8 rfl pnok (by kernel_rfl) (by kernel_rfl) (by kernel_rfl) rfl (v_len_str Try.underlying9 rfl) ?_
      refine d_val 9 rfl pnok (by kernel_rfl) (by kernel_rfl) (by kernel_rfl) rfl (v_bin rfl rfl rfl) ?_
      refine d_val 10 rfl pnok (by kernel_rfl) (by kernel_rfl) (by kernel_rfl) rfl (v_move rfl) ?_
      refine d_split (t := 35) rfl (fun h8 => ?_) (fun h8 => ?_)
      · replace hF := ite_t h8 hF
        refine d_val_on 11 rfl rfl rfl pnok (by kernel_rfl) (by kernel_rfl) (by kernel_rfl) rfl (v_move rfl) ?_
        refine d_val_on 12 rfl rfl rfl pnok (by kernel_rfl) (by kernel_rfl) (by kernel_rfl) rfl (v_nilCheck rfl) ?_
        refine d_val_on 13 rfl rfl rfl pnok (by kernel_rfl) (by kernel_rfl) (by kernel_rfl) rfl (v_fieldAddr (v := .pointer (some ⟨b, 0, none⟩)) rfl (fun _ => by kernel_rfl)) ?_
        refine d_val_on 14 rfl rfl rfl pnok (by kernel_rfl) (by kernel_rfl) (by kernel_rfl) rfl (v_load_box 1 ty9 rfl rfl rfl rfl rfl) ?_
        refine d_val_on 15 rfl rfl rfl pnok (by kernel_rfl) (by kernel_rfl) (by kernel_rfl) rfl (v_move rfl) ?_
        refine d_val_on 16 rfl rfl rfl pnok (by kernel_rfl) (by kernel_rfl) (by kernel_rfl) rfl (v_nilCheck rfl) ?_
        refine d_val_on 17 rfl rfl rfl pnok (by kernel_rfl) (by kernel_rfl) (by kernel_rfl) rfl (v_fieldAddr (v := .pointer (some ⟨b, 1, none⟩)) rfl (fun _ => by kernel_rfl)) ?_
        refine d_val_on 18 rfl rfl rfl pnok (by kernel_rfl) (by kernel_rfl) (by kernel_rfl) rfl (v_load_box 1 ty3 rfl rfl rfl rfl rfl) ?_
        refine ite_some hF fun h9 hF => ?_
        refine d_val_on 19 rfl rfl rfl pnok (by kernel_rfl) (by kernel_rfl) (by kernel_rfl) rfl (v_sindex Try.underlying9 rfl rfl h9) ?_
        refine d_val_on 20 rfl rfl rfl pnok (by kernel_rfl) (by kernel_rfl) (by kernel_rfl) rfl (v_bin rfl rfl rfl) ?_
        refine d_val 21 rfl pnok (by kernel_rfl) (by kernel_rfl) (by kernel_rfl) rfl (v_pick_t rfl rfl) ?_
        refine d_done (by kernel_rfl) ?_
        refine s_st ?_ (hN2 ((sAt v.2.2.text v.2.2.at_) == 45) hF)
        exact st_le [0, 0, 0, 0] (le_cons rfl (le_cons rfl (le_cons rfl (le_cons rfl (le_cons rfl (le_cons rfl (le_cons rfl (le_cons rfl le_nil)))))))) rfl sub_nil
      · replace hF := ite_f h8 hF
        refine d_off 11 rfl rfl rfl (by decide) pnok (by kernel_rfl) (by kernel_rfl) (by kernel_rfl) rfl ?_
        refine d_off 12 rfl rfl rfl (by decide) pnok (by kernel_rfl) (by kernel_rfl) (by kernel_rfl) rfl ?_
        refine d_off 13 rfl rfl rfl (by decide) pnok (by kernel_rfl) (by kernel_rfl) (by kernel_rfl) rfl ?_
        refine d_off 14 rfl rfl rfl (by decide) pnok (by kernel_rfl) (by kernel_rfl) (by kernel_rfl) rfl ?_
        refine d_off 15 rfl rfl rfl (by decide) pnok (by kernel_rfl) (by kernel_rfl) (by kernel_rfl) rfl ?_
        refine d_off 16 rfl rfl rfl (by decide) pnok (by kernel_rfl) (by kernel_rfl) (by kernel_rfl) rfl ?_
        refine d_off 17 rfl rfl rfl (by decide) pnok (by kernel_rfl) (by kernel_rfl) (by kernel_rfl) rfl ?_
        refine d_off 18 rfl rfl rfl (by decide) pnok (by kernel_rfl) (by kernel_rfl) (by kernel_rfl) rfl ?_
        refine d_off 19 rfl rfl rfl (by decide) pnok (by kernel_rfl) (by kernel_rfl) (by kernel_rfl) rfl ?_
        refine d_off 20 rfl rfl rfl (by decide) pnok (by kernel_rfl) (by kernel_rfl) (by kernel_rfl) rfl ?_
        refine d_val 21 rfl pnok (by kernel_rfl) (by kernel_rfl) (by kernel_rfl) rfl (v_pick_f rfl rfl) ?_
        refine d_done (by kernel_rfl) ?_
        refine s_st ?_ (hN2 false hF)
        exact st_le [0, 0, 0, 0] (le_cons rfl (le_cons rfl (le_cons rfl (le_cons rfl (le_cons rfl (le_cons rfl (le_cons rfl (le_cons rfl le_nil)))))))) rfl sub_nil
    · intro t46 hF
      unfold F.charset.reader_item_j1 at hF
      refine sat_wc ?_
      refine c_cut (fun E N' => ∀ (hi : Int) (text_ : List UInt8) (at__ : Int) (At_ : Int) (Code_ : Int), F.charset.reader_item_j2 k v r_ hi text_ at__ At_ Code_ = some r → Sat E [(0, .pointer (some ⟨b, 0, none⟩)), (2, .pointer (some ⟨b1, 0, none⟩)), (3, .pointer (some ⟨b2, 0, none⟩)), (4, .int .i64 r_.at_), (5, .int .i64 v.1), (6, .pointer (some ⟨b3, 0, none⟩)), (7, .int .i64 hi)] [.box b 89 [.string (bs text_), .int .i64 at__], .box b3 26 [.int .i64 At_, .int .i64 Code_], .box b2 26 [.int .i64 0, .int .i64 0], .box b1 33 [.int .u64 0, .int .u64 0, .int .u64 0, .int .u64 0]] [] N') (fun N2 hN2 => ?_) ?_
      · refine c_cond rfl (fun h5 => ?_) (fun h5 => ?_)
        · replace hF := ite_t h5 hF
          refine c_seq ?_
          refine c_region ?_
          refine o_v (v_move rfl) rfl ?_
          refine o_v (v_nilCheck rfl) rfl ?_
          refine o_v (v_fieldAddr (v := .pointer (some ⟨b, 1, none⟩)) rfl (fun _ => by kernel_rfl)) rfl ?_
          refine o_v (v_load_box 1 ty3 rfl rfl rfl rfl rfl) rfl ?_
          refine o_v (v_bin rfl rfl rfl) rfl ?_
          refine o_v (v_nilCheck rfl) rfl ?_
          refine o_v (v_fieldAddr (v := .pointer (some ⟨b, 1, none⟩)) rfl (fun _ => by kernel_rfl)) rfl ?_
          refine o_store_box 1 rfl ty3 rfl rfl rfl rfl rfl rfl rfl ?_
          refine o_seq ?_
          refine c_seq ?_
          refine c_region ?_
          refine o_v (v_move rfl) rfl ?_
          obtain ⟨v2, h6, hF⟩ := bd hF
          refine o_call [1] call76 rfl rfl rfl sub_nil (cap := #[]) (by rw [show (#[] : Array Value).toList = [] from rfl, List.append_nil]; exact (tri76 (Charset_reader.mk v.2.2.text (IntKind.wrap .i64 (v.2.2.at_ + 1))) b v2 h6)) rfl ?_
          rintro _ _ _ ⟨rfl, rfl, rfl⟩
          refine o_v (v_move rfl) rfl ?_
          refine o_v (v_extract rfl rfl) rfl ?_
          refine o_v (v_extract rfl rfl) rfl ?_
          refine o_v (v_assign rfl) rfl ?_
          refine o_store_box 1 rfl ty26 rfl rfl rfl rfl rfl rfl rfl ?_
          refine o_seq ?_
          refine c_seq ?_
          refine c_region ?_
          refine o_v (v_fieldAddr (v := .pointer (some ⟨b3, 1, none⟩)) rfl (fun _ => by kernel_rfl)) rfl ?_
          refine o_v (v_load_box 1 ty24 rfl rfl rfl rfl rfl) rfl ?_
          refine o_v (v_bin rfl rfl rfl) rfl ?_
          refine o_seq ?_
          refine c_cond rfl (fun h7 => ?_) (fun h7 => ?_)
          · replace hF := ite_t h7 hF
            refine c_seq ?_
            refine c_draw (n := 4) [0, 0] mixed rfl rfl ?_
            refine d_val 0 rfl pnok (by kernel_rfl) (by kernel_rfl) (by kernel_rfl) rfl (v_build (v := .agg #[.int .u64 0, .int .u64 0, .int .u64 0, .int .u64 0]) rfl (fun _ => by kernel_rfl)) ?_
            refine d_val 1 rfl pnok (by kernel_rfl) (by kernel_rfl) (by kernel_rfl) rfl (v_load_box 1 ty26 rfl rfl rfl rfl rfl) ?_
            refine d_one 2 rfl (by kernel_rfl) ?_
            refine o_store_box 3 rfl ty33 rfl rfl rfl rfl rfl rfl rfl ?_
            refine d_next [0, 0] 0 rfl rfl ?_
            refine d_one 3 rfl (by kernel_rfl) ?_
            refine o_store_box 2 rfl ty26 rfl rfl rfl rfl rfl rfl rfl ?_
            refine d_next [0, 0] 0 rfl rfl ?_
            refine d_done_seq (by kernel_rfl) ?_
            refine c_ret ?_
            cases hF
            refine s_ret2 rfl (r_cell 3 rfl ty33 rfl rfl rfl rfl) (r_cell 2 rfl ty26 rfl rfl rfl rfl) fun a w hs => ?_
            exact fin_sel hs [0] ⟨rfl, rfl, rfl⟩ rfl sub_nil
          · replace hF := ite_f h7 hF
            refine c_skip ?_
            refine s_st ?_ (hN2 v2.1 v2.2.2.text v2.2.2.at_ v2.2.1.At v2.2.1.Code hF)
            exact st_le [0, 0, 0, 0] (le_cons rfl (le_cons rfl (le_cons rfl (le_cons rfl (le_cons rfl (le_cons rfl (le_cons rfl le_nil))))))) rfl sub_nil
        · replace hF := ite_f h5 hF
          refine c_skip ?_
          refine s_st ?_ (hN2 v.1 v.2.2.text v.2.2.at_ v.2.1.At v.2.1.Code hF)
          exact st_le [1, 0, 0, 0] (le_cons rfl (le_cons rfl (le_cons rfl (le_cons rfl (le_cons rfl (le_cons rfl (le_cons rfl le_nil))))))) rfl sub_nil
      · intro hi text_ at__ At_ Code_ hF
        unfold F.charset.reader_item_j2 at hF
        refine sat_wc ?_
        refine c_seq ?_
        refine c_region ?_
        refine o_v (v_move rfl) rfl ?_
        refine o_v (v_move rfl) rfl ?_
        obtain ⟨v1, h3, hF⟩ := bd hF
        refine o_callSB call77 rfl lent_nil (tri77 k v.1 hi v1 h3) rfl ?_
        refine o_v (v_move rfl) rfl ?_
        refine o_v (v_extract rfl rfl) rfl ?_
        refine o_v (v_extract rfl rfl) rfl ?_
        refine o_alloc zero33 rfl rfl fun b4 => ?_
        refine o_store_box 0 rfl ty33 rfl rfl rfl rfl rfl rfl rfl ?_
        refine o_v (v_assign rfl) rfl ?_
        refine o_seq ?_
        refine c_seq ?_
        refine c_seq ?_
        refine c_region ?_
        refine o_v (v_move rfl) rfl ?_
        refine o_v (v_bin rfl rfl rfl) rfl ?_
        refine o_seq ?_
        refine c_cond rfl (fun h4 => ?_) (fun h4 => ?_)
        · replace hF := ite_t h4 hF
          refine c_seq ?_
          refine c_region ?_
          refine o_v (v_build (v := .agg #[.int .u64 0, .int .u64 0, .int .u64 0, .int .u64 0]) rfl (fun _ => by kernel_rfl)) rfl ?_
          refine o_v (v_move rfl) rfl ?_
          refine o_v (v_move rfl) rfl ?_
          refine o_v (v_build (v := .agg #[.int .i64 r_.at_, .int .i64 v1.2]) rfl (fun _ => by kernel_rfl)) rfl ?_
          refine o_store_box 4 rfl ty33 rfl rfl rfl rfl rfl rfl rfl ?_
          refine o_store_box 3 rfl ty26 rfl rfl rfl rfl rfl rfl rfl ?_
          refine o_seq ?_
          refine c_ret ?_
          cases hF
          refine s_ret2 rfl (r_cell 4 rfl ty33 rfl rfl rfl rfl) (r_cell 3 rfl ty26 rfl rfl rfl rfl) fun a w hs => ?_
          exact fin_sel hs [1] ⟨rfl, rfl, rfl⟩ rfl sub_nil
        · replace hF := ite_f h4 hF
          refine c_skip ?_
          refine sat_wc ?_
          refine c_seq ?_
          refine c_region ?_
          refine o_v (v_load_box 0 ty33 rfl rfl rfl rfl rfl) rfl ?_
          refine o_v (v_build (v := .agg #[.int .i64 0, .int .i64 0]) rfl (fun _ => by kernel_rfl)) rfl ?_
          refine o_store_box 4 rfl ty33 rfl rfl rfl rfl rfl rfl rfl ?_
          refine o_store_box 3 rfl ty26 rfl rfl rfl rfl rfl rfl rfl ?_
          refine o_seq ?_
          refine c_ret ?_
          cases hF
          refine s_ret2 rfl (r_cell 4 rfl ty33 rfl rfl rfl rfl) (r_cell 3 rfl ty26 rfl rfl rfl rfl) fun a w hs => ?_
          exact fin_sel hs [1] ⟨rfl, rfl, rfl⟩ rfl sub_nil
theorem tri68 (k : Nat) (a_ : S4) (b : S4) (r : S4) (hF : F.charset.Union k a_ b = some r) :
    Tri Try.prog 68 [.agg #[.int .u64 a_.w0, .int .u64 a_.w1, .int .u64 a_.w2, .int .u64 a_.w3], .agg #[.int .u64 b.w0, .int .u64 b.w1, .int .u64 b.w2, .int .u64 b.w3]] [] [] (fun o H Φ => o = .ret (.agg #[.int .u64 r.w0, .int .u64 r.w1, .int .u64 r.w2, .int .u64 r.w3]) ∧ H = [] ∧ Φ = []) := by
  unfold F.charset.Union at hF
  refine tri_intro (n := 19) Try.func68 rfl Try.ntmps68 rfl fun w X => ?_
  refine c_seq ?_
  refine c_region ?_
  refine o_box rfl rfl rfl fun b1 => ?_
  refine o_box rfl rfl rfl fun b2 => ?_
  refine o_alloc zero33 rfl rfl fun b3 => ?_
  refine o_seq ?_
  refine c_seq ?_
  refine c_seq ?_
  refine c_region ?_
  refine o_v (v_move rfl) rfl ?_
  refine o_seq ?_
  obtain ⟨o1, ho1, hF⟩ := bd hF
  refine c_cut (fun E N' => Sat E [(0, .agg #[.int .u64 a_.w0, .int .u64 a_.w1, .int .u64 a_.w2, .int .u64 a_.w3]), (1, .agg #[.int .u64 b.w0, .int .u64 b.w1, .int .u64 b.w2, .int .u64 b.w3]), (2, .pointer (some ⟨b1, 0, none⟩)), (4, .pointer (some ⟨b3, 0, none⟩))] [.box b3 33 [.int .u64 0, .int .u64 0, .int .u64 0, .int .u64 0], .box b1 33 [.int .u64 o1.w0, .int .u64 o1.w1, .int .u64 o1.w2, .int .u64 o1.w3]] [] N') (fun N1 hN1 => ?_) ?_
  · refine c_block ?_
    refine c_loopE (fun E j a w => ∃ (t6 : Int) (a_1 : S4), F.charset.Union_l1 b j t6 a_1 = some o1 ∧ St E [(0, .agg #[.int .u64 a_.w0, .int .u64 a_.w1, .int .u64 a_.w2, .int .u64 a_.w3]), (1, .agg #[.int .u64 b.w0, .int .u64 b.w1, .int .u64 b.w2, .int .u64 b.w3]), (2, .pointer (some ⟨b1, 0, none⟩)), (3, .pointer (some ⟨b2, 0, none⟩)), (4, .pointer (some ⟨b3, 0, none⟩)), (6, .int .i64 t6)] [.box b3 33 [.int .u64 0, .int .u64 0, .int .u64 0, .int .u64 0], .box b2 33 [.int .u64 b.w0, .int .u64 b.w1, .int .u64 b.w2, .int .u64 b.w3], .box b1 33 [.int .u64 a_1.w0, .int .u64 a_1.w1, .int .u64 a_1.w2, .int .u64 a_1.w3]] [] a w) k ?_ ?_
    · intro a w hs
      exact ⟨0, a_, ho1, st_le [0, 0, 0] (le_cons rfl (le_cons rfl (le_cons rfl (le_cons rfl (le_cons rfl (le_cons rfl le_nil)))))) rfl sub_nil a w hs⟩
    · rintro j a w ⟨t6, a_1, hL1, hs⟩
      cases j with
      | zero => cases hL1
      | succ j =>
        refine wc_app hs ?_
        unfold F.charset.Union_l1 at hL1
        refine c_seq ?_
        refine c_region ?_
        refine o_v (v_bin rfl rfl rfl) rfl ?_
        refine o_seq ?_
        refine c_seq ?_
        refine c_cond rfl (fun h1 => ?_) (fun h1 => ?_)
        · replace hL1 := ite_t h1 hL1
          refine c_skip ?_
          refine sat_wc ?_
          refine c_seq ?_
          refine c_block ?_
          refine c_seq ?_
          refine c_region ?_
          refine o_v (v_move rfl) rfl ?_
          refine o_v (v_assign rfl) rfl ?_
          refine o_seq ?_
          refine c_draw (n := 9) [0, 0] mixed rfl rfl ?_
          refine d_val 0 rfl pnok (by kernel_rfl) (by kernel_rfl) (by kernel_rfl) rfl (v_move rfl) ?_
          refine ite_some hL1 fun h2 hL1 => ?_
          refine d_val 1 rfl pnok (by kernel_rfl) (by kernel_rfl) (by kernel_rfl) rfl (v_indexAddr_a ar33 rfl rfl h2) ?_
          refine d_val 3 rfl pnok (by kernel_rfl) (by kernel_rfl) (by kernel_rfl) rfl (v_move rfl) ?_
          refine d_val 4 rfl pnok (by kernel_rfl) (by kernel_rfl) (by kernel_rfl) rfl (v_indexAddr_a ar33 rfl rfl h2) ?_
          refine d_val 5 rfl pnok (by kernel_rfl) (by kernel_rfl) (by kernel_rfl) rfl (v_load_a 1 b ty31 rfl rfl h2) ?_
          refine d_one 2 rfl (by kernel_rfl) ?_
          refine o_v (v_load_a 2 a_1 ty31 rfl rfl h2) rfl ?_
          refine d_next [0, 0] 0 rfl rfl ?_
          refine d_val 6 rfl pnok (by kernel_rfl) (by kernel_rfl) (by kernel_rfl) rfl (v_bit rfl rfl rfl) ?_
          refine d_val 7 rfl pnok (by kernel_rfl) (by kernel_rfl) (by kernel_rfl) rfl (v_indexAddr_a ar33 rfl rfl h2) ?_
          refine d_one 8 rfl (by kernel_rfl) ?_
          refine o_store_a 2 a_1 rfl ty31 rfl rfl rfl h2 ?_
          refine d_next [0, 0] 0 rfl rfl ?_
          refine d_done (by kernel_rfl) ?_
          refine sat_wc ?_
          refine c_region ?_
          refine o_v (v_bin rfl rfl rfl) rfl ?_
          refine o_v (v_move rfl) rfl ?_
          refine o_nil ?_
          intro a w hs
          exact ⟨j, Nat.lt_succ_self j, IntKind.wrap .i64 (t6 + 1), (S4.set a_1 t6 (gor .u64 (S4.get a_1 t6) (S4.get b t6))), hL1, st_le [0, 0, 0] (le_cons rfl (le_cons rfl (le_cons rfl (le_cons rfl (le_cons rfl (le_cons rfl le_nil)))))) rfl sub_nil a w hs⟩
        · replace hL1 := ite_f h1 hL1
          refine c_exit0 ?_
          cases hL1
          refine s_st ?_ (hN1)
          exact st_le [0, 1] (le_cons rfl (le_cons rfl (le_cons rfl (le_cons rfl le_nil)))) rfl sub_nil
  · refine sat_wc ?_
    refine c_seq ?_
    refine c_region ?_
    refine o_v (v_load_box 1 ty33 rfl rfl rfl rfl rfl) rfl ?_
    refine o_store_box 0 rfl ty33 rfl rfl rfl rfl rfl rfl rfl ?_
    refine o_seq ?_
    refine c_ret ?_
    cases hF
    refine s_ret1 rfl (r_cell 0 rfl ty33 rfl rfl rfl rfl) fun a w hs => ?_
    exact fin_sel hs [] ⟨rfl, rfl, rfl⟩ rfl sub_nil
theorem tri69 (k : Nat) (a_ : S4) (r : S4) (hF : F.charset.Not k a_ = some r) :
    Tri Try.prog 69 [.agg #[.int .u64 a_.w0, .int .u64 a_.w1, .int .u64 a_.w2, .int .u64 a_.w3]] [] [] (fun o H Φ => o = .ret (.agg #[.int .u64 r.w0, .int .u64 r.w1, .int .u64 r.w2, .int .u64 r.w3]) ∧ H = [] ∧ Φ = []) := by
  unfold F.charset.Not at hF
  refine tri_intro (n := 15) Try.func69 rfl Try.ntmps69 rfl fun w X => ?_
  refine c_seq ?_
  refine c_region ?_
  refine o_box rfl rfl rfl fun b => ?_
  refine o_alloc zero33 rfl rfl fun b1 => ?_
  refine o_seq ?_
  refine c_seq ?_
  refine c_seq ?_
  refine c_region ?_
  refine o_v (v_move rfl) rfl ?_
  refine o_seq ?_
  obtain ⟨o1, ho1, hF⟩ := bd hF
  refine c_cut (fun E N' => Sat E [(0, .agg #[.int .u64 a_.w0, .int .u64 a_.w1, .int .u64 a_.w2, .int .u64 a_.w3]), (1, .pointer (some ⟨b, 0, none⟩)), (2, .pointer (some ⟨b1, 0, none⟩))] [.box b1 33 [.int .u64 0, .int .u64 0, .int .u64 0, .int .u64 0], .box b 33 [.int .u64 o1.w0, .int .u64 o1.w1, .int .u64 o1.w2, .int .u64 o1.w3]] [] N') (fun N1 hN1 => ?_) ?_
  · refine c_block ?_
    refine c_loopE (fun E j a w => ∃ (t4 : Int) (a_1 : S4), F.charset.Not_l1 j t4 a_1 = some o1 ∧ St E [(0, .agg #[.int .u64 a_.w0, .int .u64 a_.w1, .int .u64 a_.w2, .int .u64 a_.w3]), (1, .pointer (some ⟨b, 0, none⟩)), (2, .pointer (some ⟨b1, 0, none⟩)), (4, .int .i64 t4)] [.box b1 33 [.int .u64 0, .int .u64 0, .int .u64 0, .int .u64 0], .box b 33 [.int .u64 a_1.w0, .int .u64 a_1.w1, .int .u64 a_1.w2, .int .u64 a_1.w3]] [] a w) k ?_ ?_
    · intro a w hs
      exact ⟨0, a_, ho1, st_le [0, 0] (le_cons rfl (le_cons rfl (le_cons rfl (le_cons rfl le_nil)))) rfl sub_nil a w hs⟩
    · rintro j a w ⟨t4, a_1, hL1, hs⟩
      cases j with
      | zero => cases hL1
      | succ j =>
        refine wc_app hs ?_
        unfold F.charset.Not_l1 at hL1
        refine c_seq ?_
        refine c_region ?_
        refine o_v (v_bin rfl rfl rfl) rfl ?_
        refine o_seq ?_
        refine c_seq ?_
        refine c_cond rfl (fun h1 => ?_) (fun h1 => ?_)
        · replace hL1 := ite_t h1 hL1
          refine c_skip ?_
          refine sat_wc ?_
          refine c_seq ?_
          refine c_block ?_
          refine c_seq ?_
          refine c_region ?_
          refine o_v (v_move rfl) rfl ?_
          refine o_v (v_assign rfl) rfl ?_
          refine o_seq ?_
          refine c_region ?_
          refine o_v (v_move rfl) rfl ?_
          refine o_v (v_move rfl) rfl ?_
          refine ite_some hL1 fun h2 hL1 => ?_
          refine o_v (v_indexAddr_a ar33 rfl rfl h2) rfl ?_
          refine o_v (v_load_a 1 a_1 ty31 rfl rfl h2) rfl ?_
          refine o_v (v_un (v := .int .u64 (gnot .u64 (S4.get a_1 t4))) rfl (fun _ => by kernel_rfl)) rfl ?_
          refine o_v (v_indexAddr_a ar33 rfl rfl h2) rfl ?_
          refine o_store_a 1 a_1 rfl ty31 rfl rfl rfl h2 ?_
          refine o_nil ?_
          refine sat_wc ?_
          refine c_region ?_
          refine o_v (v_bin rfl rfl rfl) rfl ?_
          refine o_v (v_move rfl) rfl ?_
          refine o_nil ?_
          intro a w hs
          exact ⟨j, Nat.lt_succ_self j, IntKind.wrap .i64 (t4 + 1), (S4.set a_1 t4 (gnot .u64 (S4.get a_1 t4))), hL1, st_le [0, 0] (le_cons rfl (le_cons rfl (le_cons rfl (le_cons rfl le_nil)))) rfl sub_nil a w hs⟩
        · replace hL1 := ite_f h1 hL1
          refine c_exit0 ?_
          cases hL1
          refine s_st ?_ (hN1)
          exact st_le [0, 0] (le_cons rfl (le_cons rfl (le_cons rfl le_nil))) rfl sub_nil
  · refine sat_wc ?_
    refine c_seq ?_
    refine c_region ?_
    refine o_v (v_load_box 1 ty33 rfl rfl rfl rfl rfl) rfl ?_
    refine o_store_box 0 rfl ty33 rfl rfl rfl rfl rfl rfl rfl ?_
    refine o_seq ?_
    refine c_ret ?_
    cases hF
    refine s_ret1 rfl (r_cell 0 rfl ty33 rfl rfl rfl rfl) fun a w hs => ?_
    exact fin_sel hs [] ⟨rfl, rfl, rfl⟩ rfl sub_nil
theorem tri59 (k : Nat) (text_ : List UInt8) (r : S4 × Fault) (hF : F.charset.Parse k text_ = some r) :
    Tri Try.prog 59 [.string (bs text_)] [] [] (fun o H Φ => o = .ret (.tuple #[.agg #[.int .u64 r.1.w0, .int .u64 r.1.w1, .int .u64 r.1.w2, .int .u64 r.1.w3], .agg #[.int .i64 r.2.At, .int .i64 r.2.Code]]) ∧ H = [] ∧ Φ = []) := by
  unfold F.charset.Parse at hF
  refine tri_intro (n := 87) Try.func59 rfl Try.ntmps59 rfl fun w X => ?_
  refine c_seq ?_
  refine c_region ?_
  refine o_alloc zero33 rfl rfl fun b => ?_
  refine o_alloc zero26 rfl rfl fun b1 => ?_
  refine o_seq ?_
  refine c_seq ?_
  refine c_seq ?_
  refine c_region ?_
  refine o_v (v_move rfl) rfl ?_
  refine o_v (v_len_str Try.underlying9 rfl) rfl ?_
  refine o_v (v_bin rfl rfl rfl) rfl ?_
  refine o_seq ?_
  refine c_cond rfl (fun h1 => ?_) (fun h1 => ?_)
  · replace hF := ite_t h1 hF
    refine c_seq ?_
    refine c_region ?_
    refine o_v (v_build (v := .agg #[.int .u64 0, .int .u64 0, .int .u64 0, .int .u64 0]) rfl (fun _ => by kernel_rfl)) rfl ?_
    refine o_v (v_build (v := .agg #[.int .i64 0, .int .i64 2]) rfl (fun _ => by kernel_rfl)) rfl ?_
    refine o_store_box 1 rfl ty33 rfl rfl rfl rfl rfl rfl rfl ?_
    refine o_store_box 0 rfl ty26 rfl rfl rfl rfl rfl rfl rfl ?_
    refine o_seq ?_
    refine c_ret ?_
    cases hF
    refine s_ret2 rfl (r_cell 1 rfl ty33 rfl rfl rfl rfl) (r_cell 0 rfl ty26 rfl rfl rfl rfl) fun a w hs => ?_
    exact fin_sel hs [] ⟨rfl, rfl, rfl⟩ rfl sub_nil
  · replace hF := ite_f h1 hF
    refine c_skip ?_
    refine sat_wc ?_
    refine c_seq ?_
    refine c_seq ?_
    refine c_cut (fun E N' => ∀ (t20 : Bool), F.charset.Parse_j1 k text_ t20 = some r → Sat E [(0, .string (bs text_)), (2, .pointer (some ⟨b, 0, none⟩)), (3, .pointer (some ⟨b1, 0, none⟩)), (20, .bool t20)] [.box b1 26 [.int .i64 0, .int .i64 0], .box b 33 [.int .u64 0, .int .u64 0, .int .u64 0, .int .u64 0]] [] N') (fun N5 hN5 => ?_) ?_
    · refine c_region ?_
      refine o_v (v_move rfl) rfl ?_
      refine o_v (v_streq rfl rfl) rfl ?_
      refine o_v (v_move rfl) rfl ?_
      refine o_split (t := 16) rfl (fun h15 => ?_) (fun h15 => ?_)
      · replace hF := ite_t h15 hF
        refine o_off rfl rfl (by decide) rfl ?_
        refine o_off rfl rfl (by decide) rfl ?_
        refine o_off rfl rfl (by decide) rfl ?_
        refine o_v (v_pick_t rfl rfl) rfl ?_
        refine o_nil ?_
        refine s_st ?_ (hN5 true hF)
        exact st_le [0, 0] (le_cons rfl (le_cons rfl (le_cons rfl (le_cons rfl le_nil)))) rfl sub_nil
      · replace hF := ite_f h15 hF
        refine o_on rfl rfl ?_
        refine o_v (v_move rfl) rfl ?_
        refine o_on rfl rfl ?_
        refine ite_some hF fun h16 hF => ?_
        refine o_v (v_sindex Try.underlying9 rfl rfl h16) rfl ?_
        refine o_on rfl rfl ?_
        refine o_v (v_bin rfl rfl rfl) rfl ?_
        refine o_v (v_pick_f rfl rfl) rfl ?_
        refine o_nil ?_
        refine s_st ?_ (hN5 ((sAt text_ 0) != 91) hF)
        exact st_le [0, 0] (le_cons rfl (le_cons rfl (le_cons rfl (le_cons rfl le_nil)))) rfl sub_nil
    · intro t20 hF
      unfold F.charset.Parse_j1 at hF
      refine sat_wc ?_
      refine c_cond rfl (fun h2 => ?_) (fun h2 => ?_)
      · replace hF := ite_t h2 hF
        refine c_seq ?_
        refine c_region ?_
        refine o_v (v_build (v := .agg #[.int .u64 0, .int .u64 0, .int .u64 0, .int .u64 0]) rfl (fun _ => by kernel_rfl)) rfl ?_
        refine o_v (v_build (v := .agg #[.int .i64 0, .int .i64 13]) rfl (fun _ => by kernel_rfl)) rfl ?_
        refine o_store_box 1 rfl ty33 rfl rfl rfl rfl rfl rfl rfl ?_
        refine o_store_box 0 rfl ty26 rfl rfl rfl rfl rfl rfl rfl ?_
        refine o_seq ?_
        refine c_ret ?_
        cases hF
        refine s_ret2 rfl (r_cell 1 rfl ty33 rfl rfl rfl rfl) (r_cell 0 rfl ty26 rfl rfl rfl rfl) fun a w hs => ?_
        exact fin_sel hs [] ⟨rfl, rfl, rfl⟩ rfl sub_nil
      · replace hF := ite_f h2 hF
        refine c_skip ?_
        refine sat_wc ?_
        refine c_seq ?_
        refine c_region ?_
        refine o_v (v_move rfl) rfl ?_
        refine o_v (v_build (v := .agg #[.string (bs text_), .int .i64 1]) rfl (fun _ => by kernel_rfl)) rfl ?_
        refine o_box rfl rfl rfl fun b2 => ?_
        refine o_v (v_assign rfl) rfl ?_
        refine o_seq ?_
        refine c_seq ?_
        refine c_cut (fun E N' => ∀ (not : Bool), F.charset.Parse_j2 k text_ not = some r → Sat E [(0, .string (bs text_)), (2, .pointer (some ⟨b, 0, none⟩)), (3, .pointer (some ⟨b1, 0, none⟩)), (4, .pointer (some ⟨b2, 0, none⟩)), (5, .bool not)] [.box b2 89 [.string (bs text_), .int .i64 1], .box b1 26 [.int .i64 0, .int .i64 0], .box b 33 [.int .u64 0, .int .u64 0, .int .u64 0, .int .u64 0]] [] N') (fun N5 hN5 => ?_) ?_
        · refine c_region ?_
          refine o_v (v_move rfl) rfl ?_
          refine o_v (v_len_str Try.underlying9 rfl) rfl ?_
          refine o_v (v_bin rfl rfl rfl) rfl ?_
          refine o_v (v_move rfl) rfl ?_
          refine o_split (t := 29) rfl (fun h13 => ?_) (fun h13 => ?_)
          · replace hF := ite_t h13 hF
            refine o_on rfl rfl ?_
            refine o_v (v_move rfl) rfl ?_
            refine o_on rfl rfl ?_
            refine ite_some hF fun h14 hF => ?_
            refine o_v (v_sindex Try.underlying9 rfl rfl h14) rfl ?_
            refine o_on rfl rfl ?_
            refine o_v (v_bin rfl rfl rfl) rfl ?_
            refine o_v (v_pick_t rfl rfl) rfl ?_
            refine o_v (v_assign rfl) rfl ?_
            refine o_nil ?_
            refine s_st ?_ (hN5 ((sAt text_ 1) == 94) hF)
            exact st_le [0, 0, 0] (le_cons rfl (le_cons rfl (le_cons rfl (le_cons rfl (le_cons rfl le_nil))))) rfl sub_nil
          · replace hF := ite_f h13 hF
            refine o_off rfl rfl (by decide) rfl ?_
            refine o_off rfl rfl (by decide) rfl ?_
            refine o_off rfl rfl (by decide) rfl ?_
            refine o_v (v_pick_f rfl rfl) rfl ?_
            refine o_v (v_assign rfl) rfl ?_
            refine o_nil ?_
            refine s_st ?_ (hN5 false hF)
            exact st_le [0, 0, 0] (le_cons rfl (le_cons rfl (le_cons rfl (le_cons rfl (le_cons rfl le_nil))))) rfl sub_nil
        · intro not hF
          unfold F.charset.Parse_j2 at hF
          refine sat_wc ?_
          refine c_seq ?_
          refine c_seq ?_
          refine c_region ?_
          refine o_v (v_move rfl) rfl ?_
          refine o_seq ?_
          refine c_cut (fun E N' => ∀ (at__ : Int), F.charset.Parse_j3 k text_ not at__ = some r → Sat E [(0, .string (bs text_)), (2, .pointer (some ⟨b, 0, none⟩)), (3, .pointer (some ⟨b1, 0, none⟩)), (4, .pointer (some ⟨b2, 0, none⟩)), (5, .bool not)] [.box b2 89 [.string (bs text_), .int .i64 at__], .box b1 26 [.int .i64 0, .int .i64 0], .box b 33 [.int .u64 0, .int .u64 0, .int .u64 0, .int .u64 0]] [] N') (fun N5 hN5 => ?_) ?_
          · refine c_cond rfl (fun h12 => ?_) (fun h12 => ?_)
            · replace hF := ite_t h12 hF
              refine c_region ?_
              refine o_v (v_move rfl) rfl ?_
              refine o_v (v_nilCheck rfl) rfl ?_
              refine o_v (v_fieldAddr (v := .pointer (some ⟨b2, 1, none⟩)) rfl (fun _ => by kernel_rfl)) rfl ?_
              refine o_store_box 0 rfl ty3 rfl rfl rfl rfl rfl rfl rfl ?_
              refine o_nil ?_
              refine s_st ?_ (hN5 2 hF)
              exact st_le [0, 0, 0] (le_cons rfl (le_cons rfl (le_cons rfl (le_cons rfl (le_cons rfl le_nil))))) rfl sub_nil
            · replace hF := ite_f h12 hF
              refine c_skip ?_
              refine s_st ?_ (hN5 1 hF)
              exact st_le [0, 0, 0] (le_cons rfl (le_cons rfl (le_cons rfl (le_cons rfl (le_cons rfl le_nil))))) rfl sub_nil
          · intro at__ hF
            unfold F.charset.Parse_j3 at hF
            refine sat_wc ?_
            refine c_seq ?_
            refine c_region ?_
            refine o_alloc zero33 rfl rfl fun b3 => ?_
            refine o_seq ?_
            refine c_seq ?_
            obtain ⟨o4, ho4, hF⟩ := bd hF
            refine c_cut (fun E N' => ∀ (d4 : S4 × (List UInt8) × Int), o4 = .done d4 → Sat E [(0, .string (bs text_)), (2, .pointer (some ⟨b, 0, none⟩)), (3, .pointer (some ⟨b1, 0, none⟩)), (4, .pointer (some ⟨b2, 0, none⟩)), (5, .bool not), (6, .pointer (some ⟨b3, 0, none⟩))] [.box b3 33 [.int .u64 d4.1.w0, .int .u64 d4.1.w1, .int .u64 d4.1.w2, .int .u64 d4.1.w3], .box b2 89 [.string (bs d4.2.1), .int .i64 d4.2.2], .box b1 26 [.int .i64 0, .int .i64 0], .box b 33 [.int .u64 0, .int .u64 0, .int .u64 0, .int .u64 0]] [] N') (fun N4 hN4 => ?_) ?_
            · refine c_block ?_
              refine c_loopE (fun E j a w => ∃ (out_ : S4) (text_1 : List UInt8) (at__1 : Int), F.charset.Parse_l4 k text_ j out_ text_1 at__1 = some o4 ∧ St E [(0, .string (bs text_)), (2, .pointer (some ⟨b, 0, none⟩)), (3, .pointer (some ⟨b1, 0, none⟩)), (4, .pointer (some ⟨b2, 0, none⟩)), (5, .bool not), (6, .pointer (some ⟨b3, 0, none⟩))] [.box b3 33 [.int .u64 out_.w0, .int .u64 out_.w1, .int .u64 out_.w2, .int .u64 out_.w3], .box b2 89 [.string (bs text_1), .int .i64 at__1], .box b1 26 [.int .i64 0, .int .i64 0], .box b 33 [.int .u64 0, .int .u64 0, .int .u64 0, .int .u64 0]] [] a w) k ?_ ?_
              · intro a w hs
                exact ⟨(S4.mk 0 0 0 0), text_, at__, ho4, st_le [0, 0, 0, 0] (le_cons rfl (le_cons rfl (le_cons rfl (le_cons rfl (le_cons rfl (le_cons rfl le_nil)))))) rfl sub_nil a w hs⟩
              · rintro j a w ⟨out_, text_1, at__1, hL4, hs⟩
                cases j with
                | zero => cases hL4
                | succ j =>
                  refine wc_app hs ?_
                  unfold F.charset.Parse_l4 at hL4
                  refine c_seq ?_
                  refine c_seq ?_
                  refine c_cut (fun E N' => ∀ (t53 : Bool), F.charset.Parse_j5 k text_1 at__1 out_ (F.charset.Parse_l4 k text_ j) t53 = some o4 → Sat E [(0, .string (bs text_)), (2, .pointer (some ⟨b, 0, none⟩)), (3, .pointer (some ⟨b1, 0, none⟩)), (4, .pointer (some ⟨b2, 0, none⟩)), (5, .bool not), (6, .pointer (some ⟨b3, 0, none⟩)), (53, .bool t53)] [.box b3 33 [.int .u64 out_.w0, .int .u64 out_.w1, .int .u64 out_.w2, .int .u64 out_.w3], .box b2 89 [.string (bs text_1), .int .i64 at__1], .box b1 26 [.int .i64 0, .int .i64 0], .box b 33 [.int .u64 0, .int .u64 0, .int .u64 0, .int .u64 0]] [] N') (fun N5 hN5 => ?_) ?_
                  · refine c_region ?_
                    refine o_v (v_move rfl) rfl ?_
                    refine o_v (v_nilCheck rfl) rfl ?_
                    refine o_v (v_fieldAddr (v := .pointer (some ⟨b2, 1, none⟩)) rfl (fun _ => by kernel_rfl)) rfl ?_
                    refine o_v (v_load_box 1 ty3 rfl rfl rfl rfl rfl) rfl ?_
                    refine o_v (v_move rfl) rfl ?_
                    refine o_v (v_len_str Try.underlying9 rfl) rfl ?_
                    refine o_v (v_bin rfl rfl rfl) rfl ?_
                    refine o_v (v_move rfl) rfl ?_
                    refine o_split (t := 45) rfl (fun h7 => ?_) (fun h7 => ?_)
                    · replace hL4 := ite_t h7 hL4
                      refine o_off rfl rfl (by decide) rfl ?_
                      refine o_off rfl rfl (by decide) rfl ?_
                      refine o_off rfl rfl (by decide) rfl ?_
                      refine o_off rfl rfl (by decide) rfl ?_
                      refine o_off rfl rfl (by decide) rfl ?_
                      refine o_off rfl rfl (by decide) rfl ?_
                      refine o_off rfl rfl (by decide) rfl ?_
                      refine o_v (v_pick_t rfl rfl) rfl ?_
                      refine o_nil ?_
                      refine s_st ?_ (hN5 true hL4)
                      exact st_le [0, 0, 0, 0] (le_cons rfl (le_cons rfl (le_cons rfl (le_cons rfl (le_cons rfl (le_cons rfl (le_cons rfl le_nil))))))) rfl sub_nil
                    · replace hL4 := ite_f h7 hL4
                      refine o_on rfl rfl ?_
                      refine o_v (v_move rfl) rfl ?_
                      refine o_on rfl rfl ?_
                      refine o_v (v_move rfl) rfl ?_
                      refine o_on rfl rfl ?_
                      refine o_v (v_nilCheck rfl) rfl ?_
                      refine o_on rfl rfl ?_
                      refine o_v (v_fieldAddr (v := .pointer (some ⟨b2, 1, none⟩)) rfl (fun _ => by kernel_rfl)) rfl ?_
                      refine o_on rfl rfl ?_
                      refine o_v (v_load_box 1 ty3 rfl rfl rfl rfl rfl) rfl ?_
                      refine o_on rfl rfl ?_
                      refine ite_some hL4 fun h8 hL4 => ?_
                      refine o_v (v_sindex Try.underlying9 rfl rfl h8) rfl ?_
                      refine o_on rfl rfl ?_
                      refine o_v (v_bin rfl rfl rfl) rfl ?_
                      refine o_v (v_pick_f rfl rfl) rfl ?_
                      refine o_nil ?_
                      refine s_st ?_ (hN5 ((sAt text_ at__1) != 93) hL4)
                      exact st_le [0, 0, 0, 0] (le_cons rfl (le_cons rfl (le_cons rfl (le_cons rfl (le_cons rfl (le_cons rfl (le_cons rfl le_nil))))))) rfl sub_nil
                  · intro t53 hL4
                    unfold F.charset.Parse_j5 at hL4
                    refine sat_wc ?_
                    refine c_cond rfl (fun h3 => ?_) (fun h3 => ?_)
                    · replace hL4 := ite_t h3 hL4
                      refine c_skip ?_
                      refine sat_wc ?_
                      refine c_block ?_
                      refine c_seq ?_
                      refine c_region ?_
                      refine o_v (v_move rfl) rfl ?_
                      obtain ⟨v, h4, hL4⟩ := bd hL4
                      refine o_call [1] call67 rfl rfl rfl sub_nil (cap := #[]) (by rw [show (#[] : Array Value).toList = [] from rfl, List.append_nil]; exact (tri67 k (Charset_reader.mk text_1 at__1) b2 v h4)) rfl ?_
                      rintro _ _ _ ⟨rfl, rfl, rfl⟩
                      refine o_v (v_move rfl) rfl ?_
                      refine o_v (v_extract rfl rfl) rfl ?_
                      refine o_v (v_extract rfl rfl) rfl ?_
                      refine o_alloc zero33 rfl rfl fun b4 => ?_
                      refine o_alloc zero26 rfl rfl fun b5 => ?_
                      refine o_store_box 1 rfl ty33 rfl rfl rfl rfl rfl rfl rfl ?_
                      refine o_store_box 0 rfl ty26 rfl rfl rfl rfl rfl rfl rfl ?_
                      refine o_seq ?_
                      refine c_seq ?_
                      refine c_seq ?_
                      refine c_region ?_
                      refine o_v (v_fieldAddr (v := .pointer (some ⟨b5, 1, none⟩)) rfl (fun _ => by kernel_rfl)) rfl ?_
                      refine o_v (v_load_box 0 ty24 rfl rfl rfl rfl rfl) rfl ?_
                      refine o_v (v_bin rfl rfl rfl) rfl ?_
                      refine o_seq ?_
                      refine c_cond rfl (fun h5 => ?_) (fun h5 => ?_)
                      · replace hL4 := ite_t h5 hL4
                        refine c_seq ?_
                        refine c_draw (n := 4) [0, 0, 0, 0] mixed rfl rfl ?_
                        refine d_val 0 rfl pnok (by kernel_rfl) (by kernel_rfl) (by kernel_rfl) rfl (v_build (v := .agg #[.int .u64 0, .int .u64 0, .int .u64 0, .int .u64 0]) rfl (fun _ => by kernel_rfl)) ?_
                        refine d_val 1 rfl pnok (by kernel_rfl) (by kernel_rfl) (by kernel_rfl) rfl (v_load_box 0 ty26 rfl rfl rfl rfl rfl) ?_
                        refine d_one 2 rfl (by kernel_rfl) ?_
                        refine o_store_box 5 rfl ty33 rfl rfl rfl rfl rfl rfl rfl ?_
                        refine d_next [0, 0, 0, 0] 0 rfl rfl ?_
                        refine d_one 3 rfl (by kernel_rfl) ?_
                        refine o_store_box 4 rfl ty26 rfl rfl rfl rfl rfl rfl rfl ?_
                        refine d_next [0, 0, 0, 0] 0 rfl rfl ?_
                        refine d_done_seq (by kernel_rfl) ?_
                        refine c_ret ?_
                        cases hL4
                        obtain rfl := lrf_ret hF
                        refine s_ret2 rfl (r_cell 5 rfl ty33 rfl rfl rfl rfl) (r_cell 4 rfl ty26 rfl rfl rfl rfl) fun a w hs => ?_
                        exact fin_sel hs [] ⟨rfl, rfl, rfl⟩ rfl sub_nil
                      · replace hL4 := ite_f h5 hL4
                        refine c_skip ?_
                        refine sat_wc ?_
                        refine c_region ?_
                        refine o_v (v_load_box 3 ty33 rfl rfl rfl rfl rfl) rfl ?_
                        refine o_v (v_load_box 1 ty33 rfl rfl rfl rfl rfl) rfl ?_
                        obtain ⟨v1, h6, hL4⟩ := bd hL4
                        refine o_callSB call68 rfl lent_nil (tri68 k out_ v.1 v1 h6) rfl ?_
                        refine o_store_box 3 rfl ty33 rfl rfl rfl rfl rfl rfl rfl ?_
                        refine o_nil ?_
                        intro a w hs
                        exact ⟨j, Nat.lt_succ_self j, v1, v.2.2.text, v.2.2.at_, hL4, st_le [3, 2, 2, 2] (le_cons rfl (le_cons rfl (le_cons rfl (le_cons rfl (le_cons rfl (le_cons rfl le_nil)))))) rfl sub_nil a w hs⟩
                    · replace hL4 := ite_f h3 hL4
                      refine c_exit0 ?_
                      cases hL4
                      refine s_st ?_ (hN4 (out_, text_1, at__1) rfl)
                      exact st_le [0, 0, 0, 0] (le_cons rfl (le_cons rfl (le_cons rfl (le_cons rfl (le_cons rfl (le_cons rfl le_nil)))))) rfl sub_nil
            · intro d4 hd
              subst hd
              replace hF := lrf_done hF
              refine sat_wc ?_
              refine c_seq ?_
              refine c_seq ?_
              refine c_region ?_
              refine o_v (v_move rfl) rfl ?_
              refine o_v (v_nilCheck rfl) rfl ?_
              refine o_v (v_fieldAddr (v := .pointer (some ⟨b2, 1, none⟩)) rfl (fun _ => by kernel_rfl)) rfl ?_
              refine o_v (v_load_box 1 ty3 rfl rfl rfl rfl rfl) rfl ?_
              refine o_v (v_bin rfl rfl rfl) rfl ?_
              refine o_v (v_move rfl) rfl ?_
              refine o_v (v_len_str Try.underlying9 rfl) rfl ?_
              refine o_v (v_bin rfl rfl rfl) rfl ?_
              refine o_seq ?_
              refine c_cond rfl (fun h9 => ?_) (fun h9 => ?_)
              · replace hF := ite_t h9 hF
                refine c_seq ?_
                refine c_draw (n := 9) [0, 0] mixed rfl rfl ?_
                refine d_val 0 rfl pnok (by kernel_rfl) (by kernel_rfl) (by kernel_rfl) rfl (v_build (v := .agg #[.int .u64 0, .int .u64 0, .int .u64 0, .int .u64 0]) rfl (fun _ => by kernel_rfl)) ?_
                refine d_val 1 rfl pnok (by kernel_rfl) (by kernel_rfl) (by kernel_rfl) rfl (v_move rfl) ?_
                refine d_val 2 rfl pnok (by kernel_rfl) (by kernel_rfl) (by kernel_rfl) rfl (v_nilCheck rfl) ?_
                refine d_val 3 rfl pnok (by kernel_rfl) (by kernel_rfl) (by kernel_rfl) rfl (v_fieldAddr (v := .pointer (some ⟨b2, 1, none⟩)) rfl (fun _ => by kernel_rfl)) ?_
                refine d_val 4 rfl pnok (by kernel_rfl) (by kernel_rfl) (by kernel_rfl) rfl (v_load_box 1 ty3 rfl rfl rfl rfl rfl) ?_
                refine d_val 5 rfl pnok (by kernel_rfl) (by kernel_rfl) (by kernel_rfl) rfl (v_bin rfl rfl rfl) ?_
                refine d_val 6 rfl pnok (by kernel_rfl) (by kernel_rfl) (by kernel_rfl) rfl (v_build (v := .agg #[.int .i64 (IntKind.wrap .i64 (d4.2.2 + 1)), .int .i64 15]) rfl (fun _ => by kernel_rfl)) ?_
                refine d_one 7 rfl (by kernel_rfl) ?_
                refine o_store_box 3 rfl ty33 rfl rfl rfl rfl rfl rfl rfl ?_
                refine d_next [0, 0] 0 rfl rfl ?_
                refine d_one 8 rfl (by kernel_rfl) ?_
                refine o_store_box 2 rfl ty26 rfl rfl rfl rfl rfl rfl rfl ?_
                refine d_next [0, 0] 0 rfl rfl ?_
                refine d_done_seq (by kernel_rfl) ?_
                refine c_ret ?_
                cases hF
                refine s_ret2 rfl (r_cell 3 rfl ty33 rfl rfl rfl rfl) (r_cell 2 rfl ty26 rfl rfl rfl rfl) fun a w hs => ?_
                exact fin_sel hs [] ⟨rfl, rfl, rfl⟩ rfl sub_nil
              · replace hF := ite_f h9 hF
                refine c_skip ?_
                refine sat_wc ?_
                refine c_seq ?_
                refine c_seq ?_
                refine c_region ?_
                refine o_v (v_move rfl) rfl ?_
                refine o_seq ?_
                refine c_cond rfl (fun h10 => ?_) (fun h10 => ?_)
                · replace hF := ite_t h10 hF
                  refine c_region ?_
                  refine o_v (v_load_box 0 ty33 rfl rfl rfl rfl rfl) rfl ?_
                  obtain ⟨v2, h11, hF⟩ := bd hF
                  refine o_callSB call69 rfl lent_nil (tri69 k d4.1 v2 h11) rfl ?_
                  refine o_store_box 0 rfl ty33 rfl rfl rfl rfl rfl rfl rfl ?_
                  refine o_seq ?_
                  refine c_seq ?_
                  refine c_region ?_
                  refine o_v (v_load_box 0 ty33 rfl rfl rfl rfl rfl) rfl ?_
                  refine o_v (v_build (v := .agg #[.int .i64 0, .int .i64 0]) rfl (fun _ => by kernel_rfl)) rfl ?_
                  refine o_store_box 3 rfl ty33 rfl rfl rfl rfl rfl rfl rfl ?_
                  refine o_store_box 2 rfl ty26 rfl rfl rfl rfl rfl rfl rfl ?_
                  refine o_seq ?_
                  refine c_ret ?_
                  cases hF
                  refine s_ret2 rfl (r_cell 3 rfl ty33 rfl rfl rfl rfl) (r_cell 2 rfl ty26 rfl rfl rfl rfl) fun a w hs => ?_
                  exact fin_sel hs [] ⟨rfl, rfl, rfl⟩ rfl sub_nil
                · replace hF := ite_f h10 hF
                  refine c_skip ?_
                  refine sat_wc ?_
                  refine c_seq ?_
                  refine c_region ?_
                  refine o_v (v_load_box 0 ty33 rfl rfl rfl rfl rfl) rfl ?_
                  refine o_v (v_build (v := .agg #[.int .i64 0, .int .i64 0]) rfl (fun _ => by kernel_rfl)) rfl ?_
                  refine o_store_box 3 rfl ty33 rfl rfl rfl rfl rfl rfl rfl ?_
                  refine o_store_box 2 rfl ty26 rfl rfl rfl rfl rfl rfl rfl ?_
                  refine o_seq ?_
                  refine c_ret ?_
                  cases hF
                  refine s_ret2 rfl (r_cell 3 rfl ty33 rfl rfl rfl rfl) (r_cell 2 rfl ty26 rfl rfl rfl rfl) fun a w hs => ?_
                  exact fin_sel hs [] ⟨rfl, rfl, rfl⟩ rfl sub_nil
theorem tri47 (k : Nat) (text_ : List UInt8) (at__ : Int) (r : S4 × Int × Fault) (hF : F.words.bracketed k text_ at__ = some r) :
    Tri Try.prog 47 [.string (bs text_), .int .i64 at__] [] [] (fun o H Φ => o = .ret (.tuple #[.agg #[.int .u64 r.1.w0, .int .u64 r.1.w1, .int .u64 r.1.w2, .int .u64 r.1.w3], .int .i64 r.2.1, .agg #[.int .i64 r.2.2.At, .int .i64 r.2.2.Code]]) ∧ H = [] ∧ Φ = []) := by
  unfold F.words.bracketed at hF
  refine tri_intro (n := 51) Try.func47 rfl Try.ntmps47 rfl fun w X => ?_
  refine c_seq ?_
  refine c_region ?_
  refine o_alloc zero33 rfl rfl fun b => ?_
  refine o_v (v_assign rfl) rfl ?_
  refine o_alloc zero26 rfl rfl fun b1 => ?_
  refine o_seq ?_
  refine c_seq ?_
  refine c_seq ?_
  refine c_region ?_
  refine o_v (v_move rfl) rfl ?_
  refine o_v (v_bin rfl rfl rfl) rfl ?_
  refine o_v (v_assign rfl) rfl ?_
  refine o_seq ?_
  obtain ⟨o1, ho1, hF⟩ := bd hF
  refine c_cut (fun E N' => ∀ (d1 : Unit), o1 = .done d1 → Sat E [(1, .int .i64 at__), (4, .pointer (some ⟨b, 0, none⟩)), (5, .int .i64 0), (6, .pointer (some ⟨b1, 0, none⟩))] [.box b1 26 [.int .i64 0, .int .i64 0], .box b 33 [.int .u64 0, .int .u64 0, .int .u64 0, .int .u64 0]] [] N') (fun N1 hN1 => ?_) ?_
  · refine c_block ?_
    refine c_loopE (fun E j a w => ∃ (i : Int), F.words.bracketed_l1 k text_ at__ j i = some o1 ∧ St E [(0, .string (bs text_)), (1, .int .i64 at__), (4, .pointer (some ⟨b, 0, none⟩)), (5, .int .i64 0), (6, .pointer (some ⟨b1, 0, none⟩)), (7, .int .i64 i)] [.box b1 26 [.int .i64 0, .int .i64 0], .box b 33 [.int .u64 0, .int .u64 0, .int .u64 0, .int .u64 0]] [] a w) k ?_ ?_
    · intro a w hs
      exact ⟨IntKind.wrap .i64 (at__ + 1), ho1, st_le [0, 0] (le_cons rfl (le_cons rfl (le_cons rfl (le_cons rfl (le_cons rfl (le_cons rfl le_nil)))))) rfl sub_nil a w hs⟩
    · rintro j a w ⟨i, hL1, hs⟩
      cases j with
      | zero => cases hL1
      | succ j =>
        refine wc_app hs ?_
        unfold F.words.bracketed_l1 at hL1
        refine c_seq ?_
        refine c_seq ?_
        refine c_region ?_
        refine o_v (v_move rfl) rfl ?_
        refine o_v (v_move rfl) rfl ?_
        refine o_v (v_len_str Try.underlying9 rfl) rfl ?_
        refine o_v (v_bin rfl rfl rfl) rfl ?_
        refine o_seq ?_
        refine c_cond rfl (fun h1 => ?_) (fun h1 => ?_)
        · replace hL1 := ite_t h1 hL1
          refine c_skip ?_
          refine sat_wc ?_
          refine c_seq ?_
          refine c_cut (fun E N' => ∀ (i1 : Int), F.words.bracketed_j2 (F.words.bracketed_l1 k text_ at__ j) i1 = some o1 → Sat E [(0, .string (bs text_)), (1, .int .i64 at__), (4, .pointer (some ⟨b, 0, none⟩)), (5, .int .i64 0), (6, .pointer (some ⟨b1, 0, none⟩)), (7, .int .i64 i1), (20, .int .u8 (sAt text_ i))] [.box b1 26 [.int .i64 0, .int .i64 0], .box b 33 [.int .u64 0, .int .u64 0, .int .u64 0, .int .u64 0]] [] N') (fun N2 hN2 => ?_) ?_
          · refine c_block ?_
            refine c_seq ?_
            refine c_region ?_
            refine o_v (v_move rfl) rfl ?_
            refine o_v (v_move rfl) rfl ?_
            refine ite_some hL1 fun h2 hL1 => ?_
            refine o_v (v_sindex Try.underlying9 rfl rfl h2) rfl ?_
            refine o_seq ?_
            refine c_cut (fun E N' => ∀ (i2 : Int), F.words.bracketed_j3 (F.words.bracketed_l1 k text_ at__ j) i2 = some o1 → Sat E [(0, .string (bs text_)), (1, .int .i64 at__), (4, .pointer (some ⟨b, 0, none⟩)), (5, .int .i64 0), (6, .pointer (some ⟨b1, 0, none⟩)), (7, .int .i64 i2), (20, .int .u8 (sAt text_ i))] [.box b1 26 [.int .i64 0, .int .i64 0], .box b 33 [.int .u64 0, .int .u64 0, .int .u64 0, .int .u64 0]] [] N') (fun N3 hN3 => ?_) ?_
            · refine c_block ?_
              refine c_seq ?_
              refine c_region ?_
              refine o_v (v_bin rfl rfl rfl) rfl ?_
              refine o_v (v_assign rfl) rfl ?_
              refine o_seq ?_
              refine c_cut (fun E N' => ∀ (i3 : Int), F.words.bracketed_j4 (F.words.bracketed_l1 k text_ at__ j) i3 = some o1 → Sat E [(0, .string (bs text_)), (1, .int .i64 at__), (4, .pointer (some ⟨b, 0, none⟩)), (5, .int .i64 0), (6, .pointer (some ⟨b1, 0, none⟩)), (7, .int .i64 i3), (20, .int .u8 (sAt text_ i))] [.box b1 26 [.int .i64 0, .int .i64 0], .box b 33 [.int .u64 0, .int .u64 0, .int .u64 0, .int .u64 0]] [] N') (fun N4 hN4 => ?_) ?_
              · refine c_cond rfl (fun h3 => ?_) (fun h3 => ?_)
                · replace hL1 := ite_t h3 hL1
                  refine c_region ?_
                  refine o_v (v_move rfl) rfl ?_
                  refine o_v (v_bin rfl rfl rfl) rfl ?_
                  refine o_v (v_assign rfl) rfl ?_
                  refine o_nil ?_
                  refine s_st ?_ (hN4 (IntKind.wrap .i64 (i + 1)) hL1)
                  exact st_le [0, 0] (le_cons rfl (le_cons rfl (le_cons rfl (le_cons rfl (le_cons rfl (le_cons rfl (le_cons rfl le_nil))))))) rfl sub_nil
                · replace hL1 := ite_f h3 hL1
                  refine c_seq ?_
                  refine c_region ?_
                  refine o_v (v_bin rfl rfl rfl) rfl ?_
                  refine o_v (v_assign rfl) rfl ?_
                  refine o_seq ?_
                  refine c_cond rfl (fun h4 => ?_) (fun h4 => ?_)
                  · replace hL1 := ite_t h4 hL1
                    refine c_seq ?_
                    refine c_region ?_
                    refine o_v (v_move rfl) rfl ?_
                    refine o_v (v_move rfl) rfl ?_
                    refine o_v (v_move rfl) rfl ?_
                    refine o_v (v_bin rfl rfl rfl) rfl ?_
                    refine ite_some hL1 fun h5 hL1 => ?_
                    refine o_v (v_strslice Try.underlying9 rfl rfl rfl rfl rfl h5) rfl ?_
                    obtain ⟨v, h6, hL1⟩ := bd hL1
                    refine o_callSB call59 rfl lent_nil (tri59 k (sub text_ at__ (IntKind.wrap .i64 (i + 1))) v h6) rfl ?_
                    refine o_v (v_move rfl) rfl ?_
                    refine o_v (v_extract rfl rfl) rfl ?_
                    refine o_v (v_extract rfl rfl) rfl ?_
                    refine o_alloc zero33 rfl rfl fun b2 => ?_
                    refine o_alloc zero26 rfl rfl fun b3 => ?_
                    refine o_store_box 1 rfl ty33 rfl rfl rfl rfl rfl rfl rfl ?_
                    refine o_store_box 0 rfl ty26 rfl rfl rfl rfl rfl rfl rfl ?_
                    refine o_seq ?_
                    refine c_seq ?_
                    refine c_seq ?_
                    refine c_region ?_
                    refine o_v (v_fieldAddr (v := .pointer (some ⟨b3, 1, none⟩)) rfl (fun _ => by kernel_rfl)) rfl ?_
                    refine o_v (v_load_box 0 ty24 rfl rfl rfl rfl rfl) rfl ?_
                    refine o_v (v_bin rfl rfl rfl) rfl ?_
                    refine o_seq ?_
                    refine c_cut (fun E N' => ∀ (At_ : Int), F.words.bracketed_j5 v i At_ = some o1 → Sat E [(0, .string (bs text_)), (1, .int .i64 at__), (4, .pointer (some ⟨b, 0, none⟩)), (5, .int .i64 0), (6, .pointer (some ⟨b1, 0, none⟩)), (7, .int .i64 i), (8, .pointer (some ⟨b2, 0, none⟩)), (9, .pointer (some ⟨b3, 0, none⟩)), (20, .int .u8 (sAt text_ i))] [.box b3 26 [.int .i64 At_, .int .i64 v.2.Code], .box b2 33 [.int .u64 v.1.w0, .int .u64 v.1.w1, .int .u64 v.1.w2, .int .u64 v.1.w3], .box b1 26 [.int .i64 0, .int .i64 0], .box b 33 [.int .u64 0, .int .u64 0, .int .u64 0, .int .u64 0]] [] N') (fun N5 hN5 => ?_) ?_
                    · refine c_cond rfl (fun h7 => ?_) (fun h7 => ?_)
                      · replace hL1 := ite_t h7 hL1
                        refine c_region ?_
                        refine o_v (v_fieldAddr (v := .pointer (some ⟨b3, 0, none⟩)) rfl (fun _ => by kernel_rfl)) rfl ?_
                        refine o_v (v_load_box 0 ty3 rfl rfl rfl rfl rfl) rfl ?_
                        refine o_v (v_move rfl) rfl ?_
                        refine o_v (v_bin rfl rfl rfl) rfl ?_
                        refine o_v (v_fieldAddr (v := .pointer (some ⟨b3, 0, none⟩)) rfl (fun _ => by kernel_rfl)) rfl ?_
                        refine o_store_box 0 rfl ty3 rfl rfl rfl rfl rfl rfl rfl ?_
                        refine o_nil ?_
                        refine s_st ?_ (hN5 (IntKind.wrap .i64 (v.2.At + at__)) hL1)
                        exact st_le [0, 0, 0, 0] (le_cons rfl (le_cons rfl (le_cons rfl (le_cons rfl (le_cons rfl (le_cons rfl (le_cons rfl (le_cons rfl (le_cons rfl le_nil))))))))) rfl sub_nil
                      · replace hL1 := ite_f h7 hL1
                        refine c_skip ?_
                        refine s_st ?_ (hN5 v.2.At hL1)
                        exact st_le [0, 0, 0, 0] (le_cons rfl (le_cons rfl (le_cons rfl (le_cons rfl (le_cons rfl (le_cons rfl (le_cons rfl (le_cons rfl (le_cons rfl le_nil))))))))) rfl sub_nil
                    · intro At_ hL1
                      unfold F.words.bracketed_j5 at hL1
                      refine sat_wc ?_
                      refine c_seq ?_
                      refine c_draw (n := 7) [0, 0] mixed rfl rfl ?_
                      refine d_val 0 rfl pnok (by kernel_rfl) (by kernel_rfl) (by kernel_rfl) rfl (v_load_box 1 ty33 rfl rfl rfl rfl rfl) ?_
                      refine d_val 1 rfl pnok (by kernel_rfl) (by kernel_rfl) (by kernel_rfl) rfl (v_move rfl) ?_
                      refine d_val 2 rfl pnok (by kernel_rfl) (by kernel_rfl) (by kernel_rfl) rfl (v_bin rfl rfl rfl) ?_
                      refine d_val 3 rfl pnok (by kernel_rfl) (by kernel_rfl) (by kernel_rfl) rfl (v_load_box 0 ty26 rfl rfl rfl rfl rfl) ?_
                      refine d_one 4 rfl (by kernel_rfl) ?_
                      refine o_store_box 3 rfl ty33 rfl rfl rfl rfl rfl rfl rfl ?_
                      refine d_next [0, 0] 0 rfl rfl ?_
                      refine d_val 5 rfl pnok (by kernel_rfl) (by kernel_rfl) (by kernel_rfl) rfl (v_assign rfl) ?_
                      refine d_one 6 rfl (by kernel_rfl) ?_
                      refine o_store_box 2 rfl ty26 rfl rfl rfl rfl rfl rfl rfl ?_
                      refine d_next [0, 0] 0 rfl rfl ?_
                      refine d_done_seq (by kernel_rfl) ?_
                      refine c_ret ?_
                      cases hL1
                      obtain rfl := lrf_ret hF
                      refine s_ret3 rfl (r_cell 3 rfl ty33 rfl rfl rfl rfl) (r_tmp rfl) (r_cell 2 rfl ty26 rfl rfl rfl rfl) fun a w hs => ?_
                      exact fin_sel hs [] ⟨rfl, rfl, rfl⟩ rfl sub_nil
                  · replace hL1 := ite_f h4 hL1
                    refine c_skip ?_
                    refine s_st ?_ (hN4 i hL1)
                    exact st_le [0, 0] (le_cons rfl (le_cons rfl (le_cons rfl (le_cons rfl (le_cons rfl (le_cons rfl (le_cons rfl le_nil))))))) rfl sub_nil
              · intro i3 hL1
                unfold F.words.bracketed_j4 at hL1
                refine s_st ?_ (hN3 i3 hL1)
                exact st_le [0, 0] (le_cons rfl (le_cons rfl (le_cons rfl (le_cons rfl (le_cons rfl (le_cons rfl (le_cons rfl le_nil))))))) rfl sub_nil
            · intro i2 hL1
              unfold F.words.bracketed_j3 at hL1
              refine s_st ?_ (hN2 i2 hL1)
              exact st_le [0, 0] (le_cons rfl (le_cons rfl (le_cons rfl (le_cons rfl (le_cons rfl (le_cons rfl (le_cons rfl le_nil))))))) rfl sub_nil
          · intro i1 hL1
            unfold F.words.bracketed_j2 at hL1
            refine sat_wc ?_
            refine c_region ?_
            refine o_v (v_move rfl) rfl ?_
            refine o_v (v_bin rfl rfl rfl) rfl ?_
            refine o_v (v_assign rfl) rfl ?_
            refine o_nil ?_
            intro a w hs
            exact ⟨j, Nat.lt_succ_self j, IntKind.wrap .i64 (i1 + 1), hL1, st_le [0, 0] (le_cons rfl (le_cons rfl (le_cons rfl (le_cons rfl (le_cons rfl (le_cons rfl le_nil)))))) rfl sub_nil a w hs⟩
        · replace hL1 := ite_f h1 hL1
          refine c_exit0 ?_
          cases hL1
          refine s_st ?_ (hN1 () rfl)
          exact st_le [0, 0] (le_cons rfl (le_cons rfl (le_cons rfl (le_cons rfl le_nil)))) rfl sub_nil
  · intro d1 hd
    subst hd
    replace hF := lrf_done hF
    refine sat_wc ?_
    refine c_seq ?_
    refine c_region ?_
    refine o_v (v_build (v := .agg #[.int .u64 0, .int .u64 0, .int .u64 0, .int .u64 0]) rfl (fun _ => by kernel_rfl)) rfl ?_
    refine o_v (v_move rfl) rfl ?_
    refine o_v (v_build (v := .agg #[.int .i64 at__, .int .i64 13]) rfl (fun _ => by kernel_rfl)) rfl ?_
    refine o_store_box 1 rfl ty33 rfl rfl rfl rfl rfl rfl rfl ?_
    refine o_v (v_assign rfl) rfl ?_
    refine o_store_box 0 rfl ty26 rfl rfl rfl rfl rfl rfl rfl ?_
    refine o_seq ?_
    refine c_ret ?_
    cases hF
    refine s_ret3 rfl (r_cell 1 rfl ty33 rfl rfl rfl rfl) (r_tmp rfl) (r_cell 0 rfl ty26 rfl rfl rfl rfl) fun a w hs => ?_
    exact fin_sel hs [] ⟨rfl, rfl, rfl⟩ rfl sub_nil
end Go.Vc
