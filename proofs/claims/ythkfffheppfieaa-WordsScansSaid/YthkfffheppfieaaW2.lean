import Derived.Test.YthkfffheppfieaaW1
set_option linter.unusedVariables false
set_option linter.unusedSimpArgs false
set_option maxRecDepth 8000
set_option maxHeartbeats 2000000
namespace Go.Vc
open Go Go.Proofs
theorem tri63 (k : Nat) (kind : Int) (a_ : S4) (b : S4) (r : S4) (hF : F.ref01.Op k kind a_ b = some r) :
    Tri Try.prog 63 [.int .i64 kind, .agg #[.int .u64 a_.w0, .int .u64 a_.w1, .int .u64 a_.w2, .int .u64 a_.w3], .agg #[.int .u64 b.w0, .int .u64 b.w1, .int .u64 b.w2, .int .u64 b.w3]] [] [] (fun o H Φ => o = .ret (.agg #[.int .u64 r.w0, .int .u64 r.w1, .int .u64 r.w2, .int .u64 r.w3]) ∧ H = [] ∧ Φ = []) := by
  unfold F.ref01.Op at hF
  refine tri_intro (n := 62) Try.func63 rfl Try.ntmps63 rfl fun w X => ?_
  refine c_seq ?_
  refine c_region ?_
  refine o_box rfl rfl rfl fun b1 => ?_
  refine o_box rfl rfl rfl fun b2 => ?_
  refine o_alloc zero33 rfl rfl fun b3 => ?_
  refine o_seq ?_
  refine c_seq ?_
  refine c_region ?_
  refine o_alloc zero33 rfl rfl fun b4 => ?_
  refine o_seq ?_
  refine c_seq ?_
  refine c_seq ?_
  refine c_region ?_
  refine o_v (v_assign rfl) rfl ?_
  refine o_seq ?_
  obtain ⟨o1, ho1, hF⟩ := bd hF
  refine c_cut (fun E N' => Sat E [(1, .agg #[.int .u64 a_.w0, .int .u64 a_.w1, .int .u64 a_.w2, .int .u64 a_.w3]), (2, .agg #[.int .u64 b.w0, .int .u64 b.w1, .int .u64 b.w2, .int .u64 b.w3]), (6, .pointer (some ⟨b3, 0, none⟩)), (7, .pointer (some ⟨b4, 0, none⟩))] [.box b4 33 [.int .u64 o1.w0, .int .u64 o1.w1, .int .u64 o1.w2, .int .u64 o1.w3], .box b3 33 [.int .u64 0, .int .u64 0, .int .u64 0, .int .u64 0]] [] N') (fun N1 hN1 => ?_) ?_
  · refine c_block ?_
    refine c_loopE (fun E j a w => ∃ (i : Int) (s : S4), F.ref01.Op_l1 k a_ b kind j i s = some o1 ∧ St E [(0, .int .i64 kind), (1, .agg #[.int .u64 a_.w0, .int .u64 a_.w1, .int .u64 a_.w2, .int .u64 a_.w3]), (2, .agg #[.int .u64 b.w0, .int .u64 b.w1, .int .u64 b.w2, .int .u64 b.w3]), (4, .pointer (some ⟨b1, 0, none⟩)), (5, .pointer (some ⟨b2, 0, none⟩)), (6, .pointer (some ⟨b3, 0, none⟩)), (7, .pointer (some ⟨b4, 0, none⟩)), (8, .int .i64 i)] [.box b4 33 [.int .u64 s.w0, .int .u64 s.w1, .int .u64 s.w2, .int .u64 s.w3], .box b3 33 [.int .u64 0, .int .u64 0, .int .u64 0, .int .u64 0], .box b2 33 [.int .u64 b.w0, .int .u64 b.w1, .int .u64 b.w2, .int .u64 b.w3], .box b1 33 [.int .u64 a_.w0, .int .u64 a_.w1, .int .u64 a_.w2, .int .u64 a_.w3]] [] a w) k ?_ ?_
    · intro a w hs
      exact ⟨0, (S4.mk 0 0 0 0), ho1, st_le [0, 0, 0, 0] (le_cons rfl (le_cons rfl (le_cons rfl (le_cons rfl (le_cons rfl (le_cons rfl (le_cons rfl (le_cons rfl le_nil)))))))) rfl sub_nil a w hs⟩
    · rintro j a w ⟨i, s, hL1, hs⟩
      cases j with
      | zero => cases hL1
      | succ j =>
        refine wc_app hs ?_
        unfold F.ref01.Op_l1 at hL1
        refine c_seq ?_
        refine c_seq ?_
        refine c_region ?_
        refine o_v (v_move rfl) rfl ?_
        refine o_v (v_bin rfl rfl rfl) rfl ?_
        refine o_seq ?_
        refine c_cond rfl (fun h1 => ?_) (fun h1 => ?_)
        · replace hL1 := ite_t h1 hL1
          refine c_skip ?_
          refine sat_wc ?_
          refine c_seq ?_
          refine c_cut (fun E N' => ∀ (x_ : Bool) (y_ : Bool) (s1 : S4), F.ref01.Op_j2 (F.ref01.Op_l1 k a_ b kind j) i x_ y_ s1 = some o1 → Sat E [(0, .int .i64 kind), (1, .agg #[.int .u64 a_.w0, .int .u64 a_.w1, .int .u64 a_.w2, .int .u64 a_.w3]), (2, .agg #[.int .u64 b.w0, .int .u64 b.w1, .int .u64 b.w2, .int .u64 b.w3]), (4, .pointer (some ⟨b1, 0, none⟩)), (5, .pointer (some ⟨b2, 0, none⟩)), (6, .pointer (some ⟨b3, 0, none⟩)), (7, .pointer (some ⟨b4, 0, none⟩)), (8, .int .i64 i), (9, .bool x_), (10, .bool y_)] [.box b4 33 [.int .u64 s1.w0, .int .u64 s1.w1, .int .u64 s1.w2, .int .u64 s1.w3], .box b3 33 [.int .u64 0, .int .u64 0, .int .u64 0, .int .u64 0], .box b2 33 [.int .u64 b.w0, .int .u64 b.w1, .int .u64 b.w2, .int .u64 b.w3], .box b1 33 [.int .u64 a_.w0, .int .u64 a_.w1, .int .u64 a_.w2, .int .u64 a_.w3]] [] N') (fun N2 hN2 => ?_) ?_
          · refine c_block ?_
            refine c_seq ?_
            refine c_draw (n := 8) [0, 0, 0, 0] mixed rfl rfl ?_
            refine d_val 0 rfl pnok (by kernel_rfl) (by kernel_rfl) (by kernel_rfl) rfl (v_load_box 3 ty33 rfl rfl rfl rfl rfl) ?_
            refine d_val 1 rfl pnok (by kernel_rfl) (by kernel_rfl) (by kernel_rfl) rfl (v_move rfl) ?_
            refine d_val 3 rfl pnok (by kernel_rfl) (by kernel_rfl) (by kernel_rfl) rfl (v_load_box 2 ty33 rfl rfl rfl rfl rfl) ?_
            refine d_val 4 rfl pnok (by kernel_rfl) (by kernel_rfl) (by kernel_rfl) rfl (v_move rfl) ?_
            refine d_one 2 rfl (by kernel_rfl) ?_
            obtain ⟨v, h2, hL1⟩ := bd hL1
            refine o_callSB call72 rfl lent_nil (tri72 k a_ i v h2) rfl ?_
            refine d_next [0, 0, 0, 0] 0 rfl rfl ?_
            refine d_one 5 rfl (by kernel_rfl) ?_
            obtain ⟨v1, h3, hL1⟩ := bd hL1
            refine o_callSB call72 rfl lent_nil (tri72 k b i v1 h3) rfl ?_
            refine d_next [0, 0, 0, 0] 0 rfl rfl ?_
            refine d_val 6 rfl pnok (by kernel_rfl) (by kernel_rfl) (by kernel_rfl) rfl (v_assign rfl) ?_
            refine d_val 7 rfl pnok (by kernel_rfl) (by kernel_rfl) (by kernel_rfl) rfl (v_assign rfl) ?_
            refine d_done_seq (by kernel_rfl) ?_
            refine c_seq ?_
            refine c_cut (fun E N' => ∀ (t57 : Bool), F.ref01.Op_j3 k s i (F.ref01.Op_l1 k a_ b kind j) v v1 t57 = some o1 → Sat E [(0, .int .i64 kind), (1, .agg #[.int .u64 a_.w0, .int .u64 a_.w1, .int .u64 a_.w2, .int .u64 a_.w3]), (2, .agg #[.int .u64 b.w0, .int .u64 b.w1, .int .u64 b.w2, .int .u64 b.w3]), (4, .pointer (some ⟨b1, 0, none⟩)), (5, .pointer (some ⟨b2, 0, none⟩)), (6, .pointer (some ⟨b3, 0, none⟩)), (7, .pointer (some ⟨b4, 0, none⟩)), (8, .int .i64 i), (9, .bool v), (10, .bool v1), (57, .bool t57)] [.box b4 33 [.int .u64 s.w0, .int .u64 s.w1, .int .u64 s.w2, .int .u64 s.w3], .box b3 33 [.int .u64 0, .int .u64 0, .int .u64 0, .int .u64 0], .box b2 33 [.int .u64 b.w0, .int .u64 b.w1, .int .u64 b.w2, .int .u64 b.w3], .box b1 33 [.int .u64 a_.w0, .int .u64 a_.w1, .int .u64 a_.w2, .int .u64 a_.w3]] [] N') (fun N4 hN4 => ?_) ?_
            · refine c_region ?_
              refine o_v (v_move rfl) rfl ?_
              refine o_v (v_bin rfl rfl rfl) rfl ?_
              refine o_v (v_move rfl) rfl ?_
              refine o_split (t := 23) rfl (fun h6 => ?_) (fun h6 => ?_)
              · replace hL1 := ite_t h6 hL1
                refine o_on rfl rfl ?_
                refine o_v (v_move rfl) rfl ?_
                refine o_on rfl rfl ?_
                refine o_v (v_move rfl) rfl ?_
                refine o_split (t := 25) rfl (fun h7 => ?_) (fun h7 => ?_)
                · replace hL1 := ite_t h7 hL1
                  refine o_off rfl rfl (by decide) rfl ?_
                  refine o_on rfl rfl ?_
                  refine o_v (v_pick_t rfl rfl) rfl ?_
                  refine o_v (v_pick_t rfl rfl) rfl ?_
                  refine o_v (v_move rfl) rfl ?_
                  refine o_off rfl rfl (by decide) rfl ?_
                  refine o_off rfl rfl (by decide) rfl ?_
                  refine o_off rfl rfl (by decide) rfl ?_
                  refine o_offU rfl rfl rfl ?_
                  refine o_off rfl rfl (by decide) rfl ?_
                  refine o_off rfl rfl (by decide) rfl ?_
                  refine o_offU rfl rfl rfl ?_
                  refine o_off rfl rfl (by decide) rfl ?_
                  refine o_v (v_pick_t rfl rfl) rfl ?_
                  refine o_v (v_move rfl) rfl ?_
                  refine o_off rfl rfl (by decide) rfl ?_
                  refine o_off rfl rfl (by decide) rfl ?_
                  refine o_off rfl rfl (by decide) rfl ?_
                  refine o_offU rfl rfl rfl ?_
                  refine o_off rfl rfl (by decide) rfl ?_
                  refine o_off rfl rfl (by decide) rfl ?_
                  refine o_offU rfl rfl rfl ?_
                  refine o_offU rfl rfl rfl ?_
                  refine o_off rfl rfl (by decide) rfl ?_
                  refine o_v (v_pick_t rfl rfl) rfl ?_
                  refine o_v (v_move rfl) rfl ?_
                  refine o_off rfl rfl (by decide) rfl ?_
                  refine o_off rfl rfl (by decide) rfl ?_
                  refine o_off rfl rfl (by decide) rfl ?_
                  refine o_offU rfl rfl rfl ?_
                  refine o_offU rfl rfl rfl ?_
                  refine o_off rfl rfl (by decide) rfl ?_
                  refine o_v (v_pick_t rfl rfl) rfl ?_
                  refine o_nil ?_
                  refine s_st ?_ (hN4 true hL1)
                  exact st_le [0, 0, 0, 0] (le_cons rfl (le_cons rfl (le_cons rfl (le_cons rfl (le_cons rfl (le_cons rfl (le_cons rfl (le_cons rfl (le_cons rfl (le_cons rfl (le_cons rfl le_nil))))))))))) rfl sub_nil
                · replace hL1 := ite_f h7 hL1
                  refine o_on rfl rfl ?_
                  refine o_v (v_move rfl) rfl ?_
                  refine o_on rfl rfl ?_
                  refine o_v (v_pick_f rfl rfl) rfl ?_
                  refine o_v (v_pick_t rfl rfl) rfl ?_
                  refine o_v (v_move rfl) rfl ?_
                  refine o_split (t := 29) rfl (fun h8 => ?_) (fun h8 => ?_)
                  · replace hL1 := ite_t h8 hL1
                    refine o_off rfl rfl (by decide) rfl ?_
                    refine o_off rfl rfl (by decide) rfl ?_
                    refine o_off rfl rfl (by decide) rfl ?_
                    refine o_offU rfl rfl rfl ?_
                    refine o_off rfl rfl (by decide) rfl ?_
                    refine o_off rfl rfl (by decide) rfl ?_
                    refine o_offU rfl rfl rfl ?_
                    refine o_off rfl rfl (by decide) rfl ?_
                    refine o_v (v_pick_t rfl rfl) rfl ?_
                    refine o_v (v_move rfl) rfl ?_
                    refine o_off rfl rfl (by decide) rfl ?_
                    refine o_off rfl rfl (by decide) rfl ?_
                    refine o_off rfl rfl (by decide) rfl ?_
                    refine o_offU rfl rfl rfl ?_
                    refine o_off rfl rfl (by decide) rfl ?_
                    refine o_off rfl rfl (by decide) rfl ?_
                    refine o_offU rfl rfl rfl ?_
                    refine o_offU rfl rfl rfl ?_
                    refine o_off rfl rfl (by decide) rfl ?_
                    refine o_v (v_pick_t rfl rfl) rfl ?_
                    refine o_v (v_move rfl) rfl ?_
                    refine o_off rfl rfl (by decide) rfl ?_
                    refine o_off rfl rfl (by decide) rfl ?_
                    refine o_off rfl rfl (by decide) rfl ?_
                    refine o_offU rfl rfl rfl ?_
                    refine o_offU rfl rfl rfl ?_
                    refine o_off rfl rfl (by decide) rfl ?_
                    refine o_v (v_pick_t rfl rfl) rfl ?_
                    refine o_nil ?_
                    refine s_st ?_ (hN4 true hL1)
                    exact st_le [0, 0, 0, 0] (le_cons rfl (le_cons rfl (le_cons rfl (le_cons rfl (le_cons rfl (le_cons rfl (le_cons rfl (le_cons rfl (le_cons rfl (le_cons rfl (le_cons rfl le_nil))))))))))) rfl sub_nil
                  · replace hL1 := ite_f h8 hL1
                    refine o_on rfl rfl ?_
                    refine o_v (v_move rfl) rfl ?_
                    refine o_on rfl rfl ?_
                    refine o_v (v_bin rfl rfl rfl) rfl ?_
                    refine o_on rfl rfl ?_
                    refine o_v (v_move rfl) rfl ?_
                    refine o_split (t := 32) rfl (fun h9 => ?_) (fun h9 => ?_)
                    · replace hL1 := ite_t h9 hL1
                      refine o_on rfl rfl ?_
                      refine o_v (v_move rfl) rfl ?_
                      refine o_on rfl rfl ?_
                      refine o_v (v_pick_t rfl rfl) rfl ?_
                      refine o_on rfl rfl ?_
                      refine o_v (v_move rfl) rfl ?_
                      refine o_know (t := 35) rfl h7 ?_
                      refine o_off rfl rfl (by decide) rfl ?_
                      refine o_on rfl rfl ?_
                      refine o_v (v_pick_f rfl rfl) rfl ?_
                      refine o_v (v_pick_f rfl rfl) rfl ?_
                      refine o_v (v_move rfl) rfl ?_
                      refine o_on rfl rfl ?_
                      refine o_v (v_move rfl) rfl ?_
                      refine o_on rfl rfl ?_
                      refine o_v (v_bin rfl rfl rfl) rfl ?_
                      refine o_on rfl rfl ?_
                      refine o_v (v_move rfl) rfl ?_
                      refine o_split (t := 42) rfl (fun h10 => ?_) (fun h10 => ?_)
                      · replace hL1 := ite_t h10 hL1
                        refine o_on rfl rfl ?_
                        refine o_v (v_move rfl) rfl ?_
                        refine o_on rfl rfl ?_
                        refine o_v (v_pick_t rfl rfl) rfl ?_
                        refine o_on rfl rfl ?_
                        refine o_v (v_move rfl) rfl ?_
                        refine o_know (t := 45) rfl h7 ?_
                        refine o_off rfl rfl (by decide) rfl ?_
                        refine o_off rfl rfl (by decide) rfl ?_
                        refine o_on rfl rfl ?_
                        refine o_v (v_pick_f rfl rfl) rfl ?_
                        refine o_v (v_pick_f rfl rfl) rfl ?_
                        refine o_v (v_move rfl) rfl ?_
                        refine o_on rfl rfl ?_
                        refine o_v (v_move rfl) rfl ?_
                        refine o_on rfl rfl ?_
                        refine o_v (v_bin rfl rfl rfl) rfl ?_
                        refine o_on rfl rfl ?_
                        refine o_v (v_move rfl) rfl ?_
                        refine o_split (t := 53) rfl (fun h11 => ?_) (fun h11 => ?_)
                        · replace hL1 := ite_t h11 hL1
                          refine o_on rfl rfl ?_
                          refine o_v (v_move rfl) rfl ?_
                          refine o_on rfl rfl ?_
                          refine o_v (v_not rfl) rfl ?_
                          refine o_on rfl rfl ?_
                          refine o_v (v_pick_t rfl rfl) rfl ?_
                          refine o_v (v_pick_f rfl rfl) rfl ?_
                          refine o_nil ?_
                          refine s_st ?_ (hN4 (!v) hL1)
                          exact st_le [0, 0, 0, 0] (le_cons rfl (le_cons rfl (le_cons rfl (le_cons rfl (le_cons rfl (le_cons rfl (le_cons rfl (le_cons rfl (le_cons rfl (le_cons rfl (le_cons rfl le_nil))))))))))) rfl sub_nil
                        · replace hL1 := ite_f h11 hL1
                          refine o_off rfl rfl (by decide) rfl ?_
                          refine o_off rfl rfl (by decide) rfl ?_
                          refine o_on rfl rfl ?_
                          refine o_v (v_pick_f rfl rfl) rfl ?_
                          refine o_v (v_pick_f rfl rfl) rfl ?_
                          refine o_nil ?_
                          refine s_st ?_ (hN4 false hL1)
                          exact st_le [0, 0, 0, 0] (le_cons rfl (le_cons rfl (le_cons rfl (le_cons rfl (le_cons rfl (le_cons rfl (le_cons rfl (le_cons rfl (le_cons rfl (le_cons rfl (le_cons rfl le_nil))))))))))) rfl sub_nil
                      · replace hL1 := ite_f h10 hL1
                        refine o_off rfl rfl (by decide) rfl ?_
                        refine o_on rfl rfl ?_
                        refine o_v (v_pick_f rfl rfl) rfl ?_
                        refine o_on rfl rfl ?_
                        refine o_v (v_move rfl) rfl ?_
                        refine o_off rfl rfl (by decide) rfl ?_
                        refine o_off rfl rfl (by decide) rfl ?_
                        refine o_on rfl rfl ?_
                        refine o_v (v_pick_f rfl rfl) rfl ?_
                        refine o_v (v_pick_f rfl rfl) rfl ?_
                        refine o_v (v_move rfl) rfl ?_
                        refine o_on rfl rfl ?_
                        refine o_v (v_move rfl) rfl ?_
                        refine o_on rfl rfl ?_
                        refine o_v (v_bin rfl rfl rfl) rfl ?_
                        refine o_on rfl rfl ?_
                        refine o_v (v_move rfl) rfl ?_
                        refine o_split (t := 53) rfl (fun h12 => ?_) (fun h12 => ?_)
                        · replace hL1 := ite_t h12 hL1
                          refine o_on rfl rfl ?_
                          refine o_v (v_move rfl) rfl ?_
                          refine o_on rfl rfl ?_
                          refine o_v (v_not rfl) rfl ?_
                          refine o_on rfl rfl ?_
                          refine o_v (v_pick_t rfl rfl) rfl ?_
                          refine o_v (v_pick_f rfl rfl) rfl ?_
                          refine o_nil ?_
                          refine s_st ?_ (hN4 (!v) hL1)
                          exact st_le [0, 0, 0, 0] (le_cons rfl (le_cons rfl (le_cons rfl (le_cons rfl (le_cons rfl (le_cons rfl (le_cons rfl (le_cons rfl (le_cons rfl (le_cons rfl (le_cons rfl le_nil))))))))))) rfl sub_nil
                        · replace hL1 := ite_f h12 hL1
                          refine o_off rfl rfl (by decide) rfl ?_
                          refine o_off rfl rfl (by decide) rfl ?_
                          refine o_on rfl rfl ?_
                          refine o_v (v_pick_f rfl rfl) rfl ?_
                          refine o_v (v_pick_f rfl rfl) rfl ?_
                          refine o_nil ?_
                          refine s_st ?_ (hN4 false hL1)
                          exact st_le [0, 0, 0, 0] (le_cons rfl (le_cons rfl (le_cons rfl (le_cons rfl (le_cons rfl (le_cons rfl (le_cons rfl (le_cons rfl (le_cons rfl (le_cons rfl (le_cons rfl le_nil))))))))))) rfl sub_nil
                    · replace hL1 := ite_f h9 hL1
                      refine o_off rfl rfl (by decide) rfl ?_
                      refine o_on rfl rfl ?_
                      refine o_v (v_pick_f rfl rfl) rfl ?_
                      refine o_on rfl rfl ?_
                      refine o_v (v_move rfl) rfl ?_
                      refine o_off rfl rfl (by decide) rfl ?_
                      refine o_on rfl rfl ?_
                      refine o_v (v_pick_f rfl rfl) rfl ?_
                      refine o_v (v_pick_f rfl rfl) rfl ?_
                      refine o_v (v_move rfl) rfl ?_
                      refine o_on rfl rfl ?_
                      refine o_v (v_move rfl) rfl ?_
                      refine o_on rfl rfl ?_
                      refine o_v (v_bin rfl rfl rfl) rfl ?_
                      refine o_on rfl rfl ?_
                      refine o_v (v_move rfl) rfl ?_
                      refine o_split (t := 42) rfl (fun h13 => ?_) (fun h13 => ?_)
                      · replace hL1 := ite_t h13 hL1
                        refine o_on rfl rfl ?_
                        refine o_v (v_move rfl) rfl ?_
                        refine o_on rfl rfl ?_
                        refine o_v (v_pick_t rfl rfl) rfl ?_
                        refine o_on rfl rfl ?_
                        refine o_v (v_move rfl) rfl ?_
                        refine o_know (t := 45) rfl h7 ?_
                        refine o_off rfl rfl (by decide) rfl ?_
                        refine o_off rfl rfl (by decide) rfl ?_
                        refine o_on rfl rfl ?_
                        refine o_v (v_pick_f rfl rfl) rfl ?_
                        refine o_v (v_pick_f rfl rfl) rfl ?_
                        refine o_v (v_move rfl) rfl ?_
                        refine o_on rfl rfl ?_
                        refine o_v (v_move rfl) rfl ?_
                        refine o_on rfl rfl ?_
                        refine o_v (v_bin rfl rfl rfl) rfl ?_
                        refine o_on rfl rfl ?_
                        refine o_v (v_move rfl) rfl ?_
                        refine o_split (t := 53) rfl (fun h14 => ?_) (fun h14 => ?_)
                        · replace hL1 := ite_t h14 hL1
                          refine o_on rfl rfl ?_
                          refine o_v (v_move rfl) rfl ?_
                          refine o_on rfl rfl ?_
                          refine o_v (v_not rfl) rfl ?_
                          refine o_on rfl rfl ?_
                          refine o_v (v_pick_t rfl rfl) rfl ?_
                          refine o_v (v_pick_f rfl rfl) rfl ?_
                          refine o_nil ?_
                          refine s_st ?_ (hN4 (!v) hL1)
                          exact st_le [0, 0, 0, 0] (le_cons rfl (le_cons rfl (le_cons rfl (le_cons rfl (le_cons rfl (le_cons rfl (le_cons rfl (le_cons rfl (le_cons rfl (le_cons rfl (le_cons rfl le_nil))))))))))) rfl sub_nil
                        · replace hL1 := ite_f h14 hL1
                          refine o_off rfl rfl (by decide) rfl ?_
                          refine o_off rfl rfl (by decide) rfl ?_
                          refine o_on rfl rfl ?_
                          refine o_v (v_pick_f rfl rfl) rfl ?_
                          refine o_v (v_pick_f rfl rfl) rfl ?_
                          refine o_nil ?_
                          refine s_st ?_ (hN4 false hL1)
                          exact st_le [0, 0, 0, 0] (le_cons rfl (le_cons rfl (le_cons rfl (le_cons rfl (le_cons rfl (le_cons rfl (le_cons rfl (le_cons rfl (le_cons rfl (le_cons rfl (le_cons rfl le_nil))))))))))) rfl sub_nil
                      · replace hL1 := ite_f h13 hL1
                        refine o_off rfl rfl (by decide) rfl ?_
                        refine o_on rfl rfl ?_
                        refine o_v (v_pick_f rfl rfl) rfl ?_
                        refine o_on rfl rfl ?_
                        refine o_v (v_move rfl) rfl ?_
                        refine o_off rfl rfl (by decide) rfl ?_
                        refine o_off rfl rfl (by decide) rfl ?_
                        refine o_on rfl rfl ?_
                        refine o_v (v_pick_f rfl rfl) rfl ?_
                        refine o_v (v_pick_f rfl rfl) rfl ?_
                        refine o_v (v_move rfl) rfl ?_
                        refine o_on rfl rfl ?_
                        refine o_v (v_move rfl) rfl ?_
                        refine o_on rfl rfl ?_
                        refine o_v (v_bin rfl rfl rfl) rfl ?_
                        refine o_on rfl rfl ?_
                        refine o_v (v_move rfl) rfl ?_
                        refine o_split (t := 53) rfl (fun h15 => ?_) (fun h15 => ?_)
                        · replace hL1 := ite_t h15 hL1
                          refine o_on rfl rfl ?_
                          refine o_v (v_move rfl) rfl ?_
                          refine o_on rfl rfl ?_
                          refine o_v (v_not rfl) rfl ?_
                          refine o_on rfl rfl ?_
                          refine o_v (v_pick_t rfl rfl) rfl ?_
                          refine o_v (v_pick_f rfl rfl) rfl ?_
                          refine o_nil ?_
                          refine s_st ?_ (hN4 (!v) hL1)
                          exact st_le [0, 0, 0, 0] (le_cons rfl (le_cons rfl (le_cons rfl (le_cons rfl (le_cons rfl (le_cons rfl (le_cons rfl (le_cons rfl (le_cons rfl (le_cons rfl (le_cons rfl le_nil))))))))))) rfl sub_nil
                        · replace hL1 := ite_f h15 hL1
                          refine o_off rfl rfl (by decide) rfl ?_
                          refine o_off rfl rfl (by decide) rfl ?_
                          refine o_on rfl rfl ?_
                          refine o_v (v_pick_f rfl rfl) rfl ?_
                          refine o_v (v_pick_f rfl rfl) rfl ?_
                          refine o_nil ?_
                          refine s_st ?_ (hN4 false hL1)
                          exact st_le [0, 0, 0, 0] (le_cons rfl (le_cons rfl (le_cons rfl (le_cons rfl (le_cons rfl (le_cons rfl (le_cons rfl (le_cons rfl (le_cons rfl (le_cons rfl (le_cons rfl le_nil))))))))))) rfl sub_nil
              · replace hL1 := ite_f h6 hL1
                refine o_off rfl rfl (by decide) rfl ?_
                refine o_off rfl rfl (by decide) rfl ?_
                refine o_offU rfl rfl rfl ?_
                refine o_off rfl rfl (by decide) rfl ?_
                refine o_v (v_pick_f rfl rfl) rfl ?_
                refine o_v (v_move rfl) rfl ?_
                refine o_on rfl rfl ?_
                refine o_v (v_move rfl) rfl ?_
                refine o_on rfl rfl ?_
                refine o_v (v_bin rfl rfl rfl) rfl ?_
                refine o_on rfl rfl ?_
                refine o_v (v_move rfl) rfl ?_
                refine o_split (t := 32) rfl (fun h16 => ?_) (fun h16 => ?_)
                · replace hL1 := ite_t h16 hL1
                  refine o_on rfl rfl ?_
                  refine o_v (v_move rfl) rfl ?_
                  refine o_on rfl rfl ?_
                  refine o_v (v_pick_t rfl rfl) rfl ?_
                  refine o_on rfl rfl ?_
                  refine o_v (v_move rfl) rfl ?_
                  refine o_split (t := 35) rfl (fun h17 => ?_) (fun h17 => ?_)
                  · replace hL1 := ite_t h17 hL1
                    refine o_on rfl rfl ?_
                    refine o_v (v_move rfl) rfl ?_
                    refine o_on rfl rfl ?_
                    refine o_v (v_pick_t rfl rfl) rfl ?_
                    refine o_v (v_pick_f rfl rfl) rfl ?_
                    refine o_v (v_move rfl) rfl ?_
                    refine o_split (t := 39) rfl (fun h18 => ?_) (fun h18 => ?_)
                    · replace hL1 := ite_t h18 hL1
                      refine o_off rfl rfl (by decide) rfl ?_
                      refine o_off rfl rfl (by decide) rfl ?_
                      refine o_off rfl rfl (by decide) rfl ?_
                      refine o_offU rfl rfl rfl ?_
                      refine o_off rfl rfl (by decide) rfl ?_
                      refine o_off rfl rfl (by decide) rfl ?_
                      refine o_offU rfl rfl rfl ?_
                      refine o_offU rfl rfl rfl ?_
                      refine o_off rfl rfl (by decide) rfl ?_
                      refine o_v (v_pick_t rfl rfl) rfl ?_
                      refine o_v (v_move rfl) rfl ?_
                      refine o_off rfl rfl (by decide) rfl ?_
                      refine o_off rfl rfl (by decide) rfl ?_
                      refine o_off rfl rfl (by decide) rfl ?_
                      refine o_offU rfl rfl rfl ?_
                      refine o_offU rfl rfl rfl ?_
                      refine o_off rfl rfl (by decide) rfl ?_
                      refine o_v (v_pick_t rfl rfl) rfl ?_
                      refine o_nil ?_
                      refine s_st ?_ (hN4 true hL1)
                      exact st_le [0, 0, 0, 0] (le_cons rfl (le_cons rfl (le_cons rfl (le_cons rfl (le_cons rfl (le_cons rfl (le_cons rfl (le_cons rfl (le_cons rfl (le_cons rfl (le_cons rfl le_nil))))))))))) rfl sub_nil
                    · replace hL1 := ite_f h18 hL1
                      refine o_on rfl rfl ?_
                      refine o_v (v_move rfl) rfl ?_
                      refine o_on rfl rfl ?_
                      refine o_v (v_bin rfl rfl rfl) rfl ?_
                      refine o_on rfl rfl ?_
                      refine o_v (v_move rfl) rfl ?_
                      refine o_split (t := 42) rfl (fun h19 => ?_) (fun h19 => ?_)
                      · replace hL1 := ite_t h19 hL1
                        refine o_on rfl rfl ?_
                        refine o_v (v_move rfl) rfl ?_
                        refine o_on rfl rfl ?_
                        refine o_v (v_pick_t rfl rfl) rfl ?_
                        refine o_on rfl rfl ?_
                        refine o_v (v_move rfl) rfl ?_
                        refine o_know (t := 45) rfl h17 ?_
                        refine o_on rfl rfl ?_
                        refine o_v (v_move rfl) rfl ?_
                        refine o_on rfl rfl ?_
                        refine o_v (v_not rfl) rfl ?_
                        refine o_on rfl rfl ?_
                        refine o_v (v_pick_t rfl rfl) rfl ?_
                        refine o_v (v_pick_f rfl rfl) rfl ?_
                        refine o_v (v_move rfl) rfl ?_
                        refine o_split (t := 50) rfl (fun h20 => ?_) (fun h20 => ?_)
                        · replace hL1 := ite_t h20 hL1
                          refine o_off rfl rfl (by decide) rfl ?_
                          refine o_off rfl rfl (by decide) rfl ?_
                          refine o_off rfl rfl (by decide) rfl ?_
                          refine o_offU rfl rfl rfl ?_
                          refine o_offU rfl rfl rfl ?_
                          refine o_off rfl rfl (by decide) rfl ?_
                          refine o_v (v_pick_t rfl rfl) rfl ?_
                          refine o_nil ?_
                          refine s_st ?_ (hN4 true hL1)
                          exact st_le [0, 0, 0, 0] (le_cons rfl (le_cons rfl (le_cons rfl (le_cons rfl (le_cons rfl (le_cons rfl (le_cons rfl (le_cons rfl (le_cons rfl (le_cons rfl (le_cons rfl le_nil))))))))))) rfl sub_nil
                        · replace hL1 := ite_f h20 hL1
                          refine o_on rfl rfl ?_
                          refine o_v (v_move rfl) rfl ?_
                          refine o_on rfl rfl ?_
                          refine o_v (v_bin rfl rfl rfl) rfl ?_
                          refine o_on rfl rfl ?_
                          refine o_v (v_move rfl) rfl ?_
                          refine o_split (t := 53) rfl (fun h21 => ?_) (fun h21 => ?_)
                          · replace hL1 := ite_t h21 hL1
                            refine o_on rfl rfl ?_
                            refine o_v (v_move rfl) rfl ?_
                            refine o_on rfl rfl ?_
                            refine o_v (v_not rfl) rfl ?_
                            refine o_on rfl rfl ?_
                            refine o_v (v_pick_t rfl rfl) rfl ?_
                            refine o_v (v_pick_f rfl rfl) rfl ?_
                            refine o_nil ?_
                            refine s_st ?_ (hN4 (!v) hL1)
                            exact st_le [0, 0, 0, 0] (le_cons rfl (le_cons rfl (le_cons rfl (le_cons rfl (le_cons rfl (le_cons rfl (le_cons rfl (le_cons rfl (le_cons rfl (le_cons rfl (le_cons rfl le_nil))))))))))) rfl sub_nil
                          · replace hL1 := ite_f h21 hL1
                            refine o_off rfl rfl (by decide) rfl ?_
                            refine o_off rfl rfl (by decide) rfl ?_
                            refine o_on rfl rfl ?_
                            refine o_v (v_pick_f rfl rfl) rfl ?_
                            refine o_v (v_pick_f rfl rfl) rfl ?_
                            refine o_nil ?_
                            refine s_st ?_ (hN4 false hL1)
                            exact st_le [0, 0, 0, 0] (le_cons rfl (le_cons rfl (le_cons rfl (le_cons rfl (le_cons rfl (le_cons rfl (le_cons rfl (le_cons rfl (le_cons rfl (le_cons rfl (le_cons rfl le_nil))))))))))) rfl sub_nil
                      · replace hL1 := ite_f h19 hL1
                        refine o_off rfl rfl (by decide) rfl ?_
                        refine o_on rfl rfl ?_
                        refine o_v (v_pick_f rfl rfl) rfl ?_
                        refine o_on rfl rfl ?_
                        refine o_v (v_move rfl) rfl ?_
                        refine o_off rfl rfl (by decide) rfl ?_
                        refine o_off rfl rfl (by decide) rfl ?_
                        refine o_on rfl rfl ?_
                        refine o_v (v_pick_f rfl rfl) rfl ?_
                        refine o_v (v_pick_f rfl rfl) rfl ?_
                        refine o_v (v_move rfl) rfl ?_
                        refine o_on rfl rfl ?_
                        refine o_v (v_move rfl) rfl ?_
                        refine o_on rfl rfl ?_
                        refine o_v (v_bin rfl rfl rfl) rfl ?_
                        refine o_on rfl rfl ?_
                        refine o_v (v_move rfl) rfl ?_
                        refine o_split (t := 53) rfl (fun h22 => ?_) (fun h22 => ?_)
                        · replace hL1 := ite_t h22 hL1
                          refine o_on rfl rfl ?_
                          refine o_v (v_move rfl) rfl ?_
                          refine o_on rfl rfl ?_
                          refine o_v (v_not rfl) rfl ?_
                          refine o_on rfl rfl ?_
                          refine o_v (v_pick_t rfl rfl) rfl ?_
                          refine o_v (v_pick_f rfl rfl) rfl ?_
                          refine o_nil ?_
                          refine s_st ?_ (hN4 (!v) hL1)
                          exact st_le [0, 0, 0, 0] (le_cons rfl (le_cons rfl (le_cons rfl (le_cons rfl (le_cons rfl (le_cons rfl (le_cons rfl (le_cons rfl (le_cons rfl (le_cons rfl (le_cons rfl le_nil))))))))))) rfl sub_nil
                        · replace hL1 := ite_f h22 hL1
                          refine o_off rfl rfl (by decide) rfl ?_
                          refine o_off rfl rfl (by decide) rfl ?_
                          refine o_on rfl rfl ?_
                          refine o_v (v_pick_f rfl rfl) rfl ?_
                          refine o_v (v_pick_f rfl rfl) rfl ?_
                          refine o_nil ?_
                          refine s_st ?_ (hN4 false hL1)
                          exact st_le [0, 0, 0, 0] (le_cons rfl (le_cons rfl (le_cons rfl (le_cons rfl (le_cons rfl (le_cons rfl (le_cons rfl (le_cons rfl (le_cons rfl (le_cons rfl (le_cons rfl le_nil))))))))))) rfl sub_nil
                  · replace hL1 := ite_f h17 hL1
                    refine o_off rfl rfl (by decide) rfl ?_
                    refine o_on rfl rfl ?_
                    refine o_v (v_pick_f rfl rfl) rfl ?_
                    refine o_v (v_pick_f rfl rfl) rfl ?_
                    refine o_v (v_move rfl) rfl ?_
                    refine o_on rfl rfl ?_
                    refine o_v (v_move rfl) rfl ?_
                    refine o_on rfl rfl ?_
                    refine o_v (v_bin rfl rfl rfl) rfl ?_
                    refine o_on rfl rfl ?_
                    refine o_v (v_move rfl) rfl ?_
                    refine o_split (t := 42) rfl (fun h23 => ?_) (fun h23 => ?_)
                    · replace hL1 := ite_t h23 hL1
                      refine o_on rfl rfl ?_
                      refine o_v (v_move rfl) rfl ?_
                      refine o_on rfl rfl ?_
                      refine o_v (v_pick_t rfl rfl) rfl ?_
                      refine o_on rfl rfl ?_
                      refine o_v (v_move rfl) rfl ?_
                      refine o_know (t := 45) rfl h17 ?_
                      refine o_off rfl rfl (by decide) rfl ?_
                      refine o_off rfl rfl (by decide) rfl ?_
                      refine o_on rfl rfl ?_
                      refine o_v (v_pick_f rfl rfl) rfl ?_
                      refine o_v (v_pick_f rfl rfl) rfl ?_
                      refine o_v (v_move rfl) rfl ?_
                      refine o_on rfl rfl ?_
                      refine o_v (v_move rfl) rfl ?_
                      refine o_on rfl rfl ?_
                      refine o_v (v_bin rfl rfl rfl) rfl ?_
                      refine o_on rfl rfl ?_
                      refine o_v (v_move rfl) rfl ?_
                      refine o_split (t := 53) rfl (fun h24 => ?_) (fun h24 => ?_)
                      · replace hL1 := ite_t h24 hL1
                        refine o_on rfl rfl ?_
                        refine o_v (v_move rfl) rfl ?_
                        refine o_on rfl rfl ?_
                        refine o_v (v_not rfl) rfl ?_
                        refine o_on rfl rfl ?_
                        refine o_v (v_pick_t rfl rfl) rfl ?_
                        refine o_v (v_pick_f rfl rfl) rfl ?_
                        refine o_nil ?_
                        refine s_st ?_ (hN4 (!v) hL1)
                        exact st_le [0, 0, 0, 0] (le_cons rfl (le_cons rfl (le_cons rfl (le_cons rfl (le_cons rfl (le_cons rfl (le_cons rfl (le_cons rfl (le_cons rfl (le_cons rfl (le_cons rfl le_nil))))))))))) rfl sub_nil
                      · replace hL1 := ite_f h24 hL1
                        refine o_off rfl rfl (by decide) rfl ?_
                        refine o_off rfl rfl (by decide) rfl ?_
                        refine o_on rfl rfl ?_
                        refine o_v (v_pick_f rfl rfl) rfl ?_
                        refine o_v (v_pick_f rfl rfl) rfl ?_
                        refine o_nil ?_
                        refine s_st ?_ (hN4 false hL1)
                        exact st_le [0, 0, 0, 0] (le_cons rfl (le_cons rfl (le_cons rfl (le_cons rfl (le_cons rfl (le_cons rfl (le_cons rfl (le_cons rfl (le_cons rfl (le_cons rfl (le_cons rfl le_nil))))))))))) rfl sub_nil
                    · replace hL1 := ite_f h23 hL1
                      refine o_off rfl rfl (by decide) rfl ?_
                      refine o_on rfl rfl ?_
                      refine o_v (v_pick_f rfl rfl) rfl ?_
                      refine o_on rfl rfl ?_
                      refine o_v (v_move rfl) rfl ?_
                      refine o_off rfl rfl (by decide) rfl ?_
                      refine o_off rfl rfl (by decide) rfl ?_
                      refine o_on rfl rfl ?_
                      refine o_v (v_pick_f rfl rfl) rfl ?_
                      refine o_v (v_pick_f rfl rfl) rfl ?_
                      refine o_v (v_move rfl) rfl ?_
                      refine o_on rfl rfl ?_
                      refine o_v (v_move rfl) rfl ?_
                      refine o_on rfl rfl ?_
                      refine o_v (v_bin rfl rfl rfl) rfl ?_
                      refine o_on rfl rfl ?_
                      refine o_v (v_move rfl) rfl ?_
                      refine o_split (t := 53) rfl (fun h25 => ?_) (fun h25 => ?_)
                      · replace hL1 := ite_t h25 hL1
                        refine o_on rfl rfl ?_
                        refine o_v (v_move rfl) rfl ?_
                        refine o_on rfl rfl ?_
                        refine o_v (v_not rfl) rfl ?_
                        refine o_on rfl rfl ?_
                        refine o_v (v_pick_t rfl rfl) rfl ?_
                        refine o_v (v_pick_f rfl rfl) rfl ?_
                        refine o_nil ?_
                        refine s_st ?_ (hN4 (!v) hL1)
                        exact st_le [0, 0, 0, 0] (le_cons rfl (le_cons rfl (le_cons rfl (le_cons rfl (le_cons rfl (le_cons rfl (le_cons rfl (le_cons rfl (le_cons rfl (le_cons rfl (le_cons rfl le_nil))))))))))) rfl sub_nil
                      · replace hL1 := ite_f h25 hL1
                        refine o_off rfl rfl (by decide) rfl ?_
                        refine o_off rfl rfl (by decide) rfl ?_
                        refine o_on rfl rfl ?_
                        refine o_v (v_pick_f rfl rfl) rfl ?_
                        refine o_v (v_pick_f rfl rfl) rfl ?_
                        refine o_nil ?_
                        refine s_st ?_ (hN4 false hL1)
                        exact st_le [0, 0, 0, 0] (le_cons rfl (le_cons rfl (le_cons rfl (le_cons rfl (le_cons rfl (le_cons rfl (le_cons rfl (le_cons rfl (le_cons rfl (le_cons rfl (le_cons rfl le_nil))))))))))) rfl sub_nil
                · replace hL1 := ite_f h16 hL1
                  refine o_off rfl rfl (by decide) rfl ?_
                  refine o_on rfl rfl ?_
                  refine o_v (v_pick_f rfl rfl) rfl ?_
                  refine o_on rfl rfl ?_
                  refine o_v (v_move rfl) rfl ?_
                  refine o_off rfl rfl (by decide) rfl ?_
                  refine o_on rfl rfl ?_
                  refine o_v (v_pick_f rfl rfl) rfl ?_
                  refine o_v (v_pick_f rfl rfl) rfl ?_
                  refine o_v (v_move rfl) rfl ?_
                  refine o_on rfl rfl ?_
                  refine o_v (v_move rfl) rfl ?_
                  refine o_on rfl rfl ?_
                  refine o_v (v_bin rfl rfl rfl) rfl ?_
                  refine o_on rfl rfl ?_
                  refine o_v (v_move rfl) rfl ?_
                  refine o_split (t := 42) rfl (fun h26 => ?_) (fun h26 => ?_)
                  · replace hL1 := ite_t h26 hL1
                    refine o_on rfl rfl ?_
                    refine o_v (v_move rfl) rfl ?_
                    refine o_on rfl rfl ?_
                    refine o_v (v_pick_t rfl rfl) rfl ?_
                    refine o_on rfl rfl ?_
                    refine o_v (v_move rfl) rfl ?_
                    refine o_split (t := 45) rfl (fun h27 => ?_) (fun h27 => ?_)
                    · replace hL1 := ite_t h27 hL1
                      refine o_on rfl rfl ?_
                      refine o_v (v_move rfl) rfl ?_
                      refine o_on rfl rfl ?_
                      refine o_v (v_not rfl) rfl ?_
                      refine o_on rfl rfl ?_
                      refine o_v (v_pick_t rfl rfl) rfl ?_
                      refine o_v (v_pick_f rfl rfl) rfl ?_
                      refine o_v (v_move rfl) rfl ?_
                      refine o_split (t := 50) rfl (fun h28 => ?_) (fun h28 => ?_)
                      · replace hL1 := ite_t h28 hL1
                        refine o_off rfl rfl (by decide) rfl ?_
                        refine o_off rfl rfl (by decide) rfl ?_
                        refine o_off rfl rfl (by decide) rfl ?_
                        refine o_offU rfl rfl rfl ?_
                        refine o_offU rfl rfl rfl ?_
                        refine o_off rfl rfl (by decide) rfl ?_
                        refine o_v (v_pick_t rfl rfl) rfl ?_
                        refine o_nil ?_
                        refine s_st ?_ (hN4 true hL1)
                        exact st_le [0, 0, 0, 0] (le_cons rfl (le_cons rfl (le_cons rfl (le_cons rfl (le_cons rfl (le_cons rfl (le_cons rfl (le_cons rfl (le_cons rfl (le_cons rfl (le_cons rfl le_nil))))))))))) rfl sub_nil
                      · replace hL1 := ite_f h28 hL1
                        refine o_on rfl rfl ?_
                        refine o_v (v_move rfl) rfl ?_
                        refine o_on rfl rfl ?_
                        refine o_v (v_bin rfl rfl rfl) rfl ?_
                        refine o_on rfl rfl ?_
                        refine o_v (v_move rfl) rfl ?_
                        refine o_split (t := 53) rfl (fun h29 => ?_) (fun h29 => ?_)
                        · replace hL1 := ite_t h29 hL1
                          refine o_on rfl rfl ?_
                          refine o_v (v_move rfl) rfl ?_
                          refine o_on rfl rfl ?_
                          refine o_v (v_not rfl) rfl ?_
                          refine o_on rfl rfl ?_
                          refine o_v (v_pick_t rfl rfl) rfl ?_
                          refine o_v (v_pick_f rfl rfl) rfl ?_
                          refine o_nil ?_
                          refine s_st ?_ (hN4 (!v) hL1)
                          exact st_le [0, 0, 0, 0] (le_cons rfl (le_cons rfl (le_cons rfl (le_cons rfl (le_cons rfl (le_cons rfl (le_cons rfl (le_cons rfl (le_cons rfl (le_cons rfl (le_cons rfl le_nil))))))))))) rfl sub_nil
                        · replace hL1 := ite_f h29 hL1
                          refine o_off rfl rfl (by decide) rfl ?_
                          refine o_off rfl rfl (by decide) rfl ?_
                          refine o_on rfl rfl ?_
                          refine o_v (v_pick_f rfl rfl) rfl ?_
                          refine o_v (v_pick_f rfl rfl) rfl ?_
                          refine o_nil ?_
                          refine s_st ?_ (hN4 false hL1)
                          exact st_le [0, 0, 0, 0] (le_cons rfl (le_cons rfl (le_cons rfl (le_cons rfl (le_cons rfl (le_cons rfl (le_cons rfl (le_cons rfl (le_cons rfl (le_cons rfl (le_cons rfl le_nil))))))))))) rfl sub_nil
                    · replace hL1 := ite_f h27 hL1
                      refine o_off rfl rfl (by decide) rfl ?_
                      refine o_off rfl rfl (by decide) rfl ?_
                      refine o_on rfl rfl ?_
                      refine o_v (v_pick_f rfl rfl) rfl ?_
                      refine o_v (v_pick_f rfl rfl) rfl ?_
                      refine o_v (v_move rfl) rfl ?_
                      refine o_on rfl rfl ?_
                      refine o_v (v_move rfl) rfl ?_
                      refine o_on rfl rfl ?_
                      refine o_v (v_bin rfl rfl rfl) rfl ?_
                      refine o_on rfl rfl ?_
                      refine o_v (v_move rfl) rfl ?_
                      refine o_split (t := 53) rfl (fun h30 => ?_) (fun h30 => ?_)
                      · replace hL1 := ite_t h30 hL1
                        refine o_on rfl rfl ?_
                        refine o_v (v_move rfl) rfl ?_
                        refine o_on rfl rfl ?_
                        refine o_v (v_not rfl) rfl ?_
                        refine o_on rfl rfl ?_
                        refine o_v (v_pick_t rfl rfl) rfl ?_
                        refine o_v (v_pick_f rfl rfl) rfl ?_
                        refine o_nil ?_
                        refine s_st ?_ (hN4 (!v) hL1)
                        exact st_le [0, 0, 0, 0] (le_cons rfl (le_cons rfl (le_cons rfl (le_cons rfl (le_cons rfl (le_cons rfl (le_cons rfl (le_cons rfl (le_cons rfl (le_cons rfl (le_cons rfl le_nil))))))))))) rfl sub_nil
                      · replace hL1 := ite_f h30 hL1
                        refine o_off rfl rfl (by decide) rfl ?_
                        refine o_off rfl rfl (by decide) rfl ?_
                        refine o_on rfl rfl ?_
                        refine o_v (v_pick_f rfl rfl) rfl ?_
                        refine o_v (v_pick_f rfl rfl) rfl ?_
                        refine o_nil ?_
                        refine s_st ?_ (hN4 false hL1)
                        exact st_le [0, 0, 0, 0] (le_cons rfl (le_cons rfl (le_cons rfl (le_cons rfl (le_cons rfl (le_cons rfl (le_cons rfl (le_cons rfl (le_cons rfl (le_cons rfl (le_cons rfl le_nil))))))))))) rfl sub_nil
                  · replace hL1 := ite_f h26 hL1
                    refine o_off rfl rfl (by decide) rfl ?_
                    refine o_on rfl rfl ?_
                    refine o_v (v_pick_f rfl rfl) rfl ?_
                    refine o_on rfl rfl ?_
                    refine o_v (v_move rfl) rfl ?_
                    refine o_off rfl rfl (by decide) rfl ?_
                    refine o_off rfl rfl (by decide) rfl ?_
                    refine o_on rfl rfl ?_
                    refine o_v (v_pick_f rfl rfl) rfl ?_
                    refine o_v (v_pick_f rfl rfl) rfl ?_
                    refine o_v (v_move rfl) rfl ?_
                    refine o_on rfl rfl ?_
                    refine o_v (v_move rfl) rfl ?_
                    refine o_on rfl rfl ?_
                    refine o_v (v_bin rfl rfl rfl) rfl ?_
                    refine o_on rfl rfl ?_
                    refine o_v (v_move rfl) rfl ?_
                    refine o_split (t := 53) rfl (fun h31 => ?_) (fun h31 => ?_)
                    · replace hL1 := ite_t h31 hL1
                      refine o_on rfl rfl ?_
                      refine o_v (v_move rfl) rfl ?_
                      refine o_on rfl rfl ?_
                      refine o_v (v_not rfl) rfl ?_
                      refine o_on rfl rfl ?_
                      refine o_v (v_pick_t rfl rfl) rfl ?_
                      refine o_v (v_pick_f rfl rfl) rfl ?_
                      refine o_nil ?_
                      refine s_st ?_ (hN4 (!v) hL1)
                      exact st_le [0, 0, 0, 0] (le_cons rfl (le_cons rfl (le_cons rfl (le_cons rfl (le_cons rfl (le_cons rfl (le_cons rfl (le_cons rfl (le_cons rfl (le_cons rfl (le_cons rfl le_nil))))))))))) rfl sub_nil
                    · replace hL1 := ite_f h31 hL1
                      refine o_off rfl rfl (by decide) rfl ?_
                      refine o_off rfl rfl (by decide) rfl ?_
                      refine o_on rfl rfl ?_
                      refine o_v (v_pick_f rfl rfl) rfl ?_
                      refine o_v (v_pick_f rfl rfl) rfl ?_
                      refine o_nil ?_
                      refine s_st ?_ (hN4 false hL1)
                      exact st_le [0, 0, 0, 0] (le_cons rfl (le_cons rfl (le_cons rfl (le_cons rfl (le_cons rfl (le_cons rfl (le_cons rfl (le_cons rfl (le_cons rfl (le_cons rfl (le_cons rfl le_nil))))))))))) rfl sub_nil
            · intro t57 hL1
              unfold F.ref01.Op_j3 at hL1
              refine sat_wc ?_
              refine c_cut (fun E N' => ∀ (s2 : S4), F.ref01.Op_j4 (F.ref01.Op_l1 k a_ b kind j) i v v1 s2 = some o1 → Sat E [(0, .int .i64 kind), (1, .agg #[.int .u64 a_.w0, .int .u64 a_.w1, .int .u64 a_.w2, .int .u64 a_.w3]), (2, .agg #[.int .u64 b.w0, .int .u64 b.w1, .int .u64 b.w2, .int .u64 b.w3]), (4, .pointer (some ⟨b1, 0, none⟩)), (5, .pointer (some ⟨b2, 0, none⟩)), (6, .pointer (some ⟨b3, 0, none⟩)), (7, .pointer (some ⟨b4, 0, none⟩)), (8, .int .i64 i), (9, .bool v), (10, .bool v1)] [.box b4 33 [.int .u64 s2.w0, .int .u64 s2.w1, .int .u64 s2.w2, .int .u64 s2.w3], .box b3 33 [.int .u64 0, .int .u64 0, .int .u64 0, .int .u64 0], .box b2 33 [.int .u64 b.w0, .int .u64 b.w1, .int .u64 b.w2, .int .u64 b.w3], .box b1 33 [.int .u64 a_.w0, .int .u64 a_.w1, .int .u64 a_.w2, .int .u64 a_.w3]] [] N') (fun N4 hN4 => ?_) ?_
              · refine c_cond rfl (fun h4 => ?_) (fun h4 => ?_)
                · replace hL1 := ite_t h4 hL1
                  refine c_region ?_
                  refine o_v (v_load_box 0 ty33 rfl rfl rfl rfl rfl) rfl ?_
                  refine o_v (v_move rfl) rfl ?_
                  obtain ⟨v2, h5, hL1⟩ := bd hL1
                  refine o_callSB call62 rfl lent_nil (tri62 k s i v2 h5) rfl ?_
                  refine o_store_box 0 rfl ty33 rfl rfl rfl rfl rfl rfl rfl ?_
                  refine o_nil ?_
                  refine s_st ?_ (hN4 v2 hL1)
                  exact st_le [0, 0, 0, 0] (le_cons rfl (le_cons rfl (le_cons rfl (le_cons rfl (le_cons rfl (le_cons rfl (le_cons rfl (le_cons rfl (le_cons rfl (le_cons rfl le_nil)))))))))) rfl sub_nil
                · replace hL1 := ite_f h4 hL1
                  refine c_skip ?_
                  refine s_st ?_ (hN4 s hL1)
                  exact st_le [0, 0, 0, 0] (le_cons rfl (le_cons rfl (le_cons rfl (le_cons rfl (le_cons rfl (le_cons rfl (le_cons rfl (le_cons rfl (le_cons rfl (le_cons rfl le_nil)))))))))) rfl sub_nil
              · intro s2 hL1
                unfold F.ref01.Op_j4 at hL1
                refine s_st ?_ (hN2 v v1 s2 hL1)
                exact st_le [0, 0, 0, 0] (le_cons rfl (le_cons rfl (le_cons rfl (le_cons rfl (le_cons rfl (le_cons rfl (le_cons rfl (le_cons rfl (le_cons rfl (le_cons rfl le_nil)))))))))) rfl sub_nil
          · intro x_ y_ s1 hL1
            unfold F.ref01.Op_j2 at hL1
            refine sat_wc ?_
            refine c_region ?_
            refine o_v (v_move rfl) rfl ?_
            refine o_v (v_bin rfl rfl rfl) rfl ?_
            refine o_v (v_assign rfl) rfl ?_
            refine o_nil ?_
            intro a w hs
            exact ⟨j, Nat.lt_succ_self j, IntKind.wrap .i64 (i + 1), s1, hL1, st_le [0, 0, 0, 0] (le_cons rfl (le_cons rfl (le_cons rfl (le_cons rfl (le_cons rfl (le_cons rfl (le_cons rfl (le_cons rfl le_nil)))))))) rfl sub_nil a w hs⟩
        · replace hL1 := ite_f h1 hL1
          refine c_exit0 ?_
          cases hL1
          refine s_st ?_ (hN1)
          exact st_le [0, 0] (le_cons rfl (le_cons rfl (le_cons rfl (le_cons rfl le_nil)))) rfl sub_nil
  · refine sat_wc ?_
    refine c_seq ?_
    refine c_region ?_
    refine o_v (v_load_box 0 ty33 rfl rfl rfl rfl rfl) rfl ?_
    refine o_store_box 1 rfl ty33 rfl rfl rfl rfl rfl rfl rfl ?_
    refine o_seq ?_
    refine c_ret ?_
    cases hF
    refine s_ret1 rfl (r_cell 1 rfl ty33 rfl rfl rfl rfl) fun a w hs => ?_
    exact fin_sel hs [] ⟨rfl, rfl, rfl⟩ rfl sub_nil
theorem tri51 (k : Nat) (text_ : List UInt8) (r : S4 × Fault) (hF : F.ref01.Parse k text_ = some r) :
    Tri Try.prog 51 [.string (bs text_)] [] [] (fun o H Φ => o = .ret (.tuple #[.agg #[.int .u64 r.1.w0, .int .u64 r.1.w1, .int .u64 r.1.w2, .int .u64 r.1.w3], .agg #[.int .i64 r.2.At, .int .i64 r.2.Code]]) ∧ H = [] ∧ Φ = []) := by
  unfold F.ref01.Parse at hF
  refine tri_intro (n := 129) Try.func51 rfl Try.ntmps51 rfl fun w X => ?_
  refine c_seq ?_
  refine c_region ?_
  refine o_alloc zero33 rfl rfl fun b => ?_
  refine o_alloc zero26 rfl rfl fun b1 => ?_
  refine o_seq ?_
  refine c_seq ?_
  refine c_region ?_
  refine o_alloc zero33 rfl rfl fun b2 => ?_
  refine o_alloc zero33 rfl rfl fun b3 => ?_
  refine o_seq ?_
  refine c_seq ?_
  refine c_seq ?_
  refine c_region ?_
  refine o_v (v_move rfl) rfl ?_
  refine o_v (v_len_str Try.underlying9 rfl) rfl ?_
  refine o_v (v_bin rfl rfl rfl) rfl ?_
  refine o_seq ?_
  refine c_cond rfl (fun h1 => ?_) (fun h1 => ?_)
  · replace hF := ite_t h1 hF
    refine c_seq ?_
    refine c_region ?_
    refine o_v (v_load_box 1 ty33 rfl rfl rfl rfl rfl) rfl ?_
    refine o_v (v_build (v := .agg #[.int .i64 0, .int .i64 2]) rfl (fun _ => by kernel_rfl)) rfl ?_
    refine o_store_box 3 rfl ty33 rfl rfl rfl rfl rfl rfl rfl ?_
    refine o_store_box 2 rfl ty26 rfl rfl rfl rfl rfl rfl rfl ?_
    refine o_seq ?_
    refine c_ret ?_
    cases hF
    refine s_ret2 rfl (r_cell 3 rfl ty33 rfl rfl rfl rfl) (r_cell 2 rfl ty26 rfl rfl rfl rfl) fun a w hs => ?_
    exact fin_sel hs [] ⟨rfl, rfl, rfl⟩ rfl sub_nil
  · replace hF := ite_f h1 hF
    refine c_skip ?_
    refine sat_wc ?_
    refine c_seq ?_
    refine c_seq ?_
    refine c_cut (fun E N' => ∀ (t29 : Bool), F.ref01.Parse_j1 k text_ t29 = some r → Sat E [(0, .string (bs text_)), (2, .pointer (some ⟨b, 0, none⟩)), (3, .pointer (some ⟨b1, 0, none⟩)), (4, .pointer (some ⟨b2, 0, none⟩)), (5, .pointer (some ⟨b3, 0, none⟩)), (29, .bool t29)] [.box b3 33 [.int .u64 0, .int .u64 0, .int .u64 0, .int .u64 0], .box b2 33 [.int .u64 0, .int .u64 0, .int .u64 0, .int .u64 0], .box b1 26 [.int .i64 0, .int .i64 0], .box b 33 [.int .u64 0, .int .u64 0, .int .u64 0, .int .u64 0]] [] N') (fun N9 hN9 => ?_) ?_
    · refine c_region ?_
      refine o_v (v_move rfl) rfl ?_
      refine o_v (v_len_str Try.underlying9 rfl) rfl ?_
      refine o_v (v_bin rfl rfl rfl) rfl ?_
      refine o_v (v_move rfl) rfl ?_
      refine o_split (t := 25) rfl (fun h22 => ?_) (fun h22 => ?_)
      · replace hF := ite_t h22 hF
        refine o_off rfl rfl (by decide) rfl ?_
        refine o_off rfl rfl (by decide) rfl ?_
        refine o_off rfl rfl (by decide) rfl ?_
        refine o_v (v_pick_t rfl rfl) rfl ?_
        refine o_nil ?_
        refine s_st ?_ (hN9 true hF)
        exact st_le [0, 0, 0, 0] (le_cons rfl (le_cons rfl (le_cons rfl (le_cons rfl (le_cons rfl (le_cons rfl le_nil)))))) rfl sub_nil
      · replace hF := ite_f h22 hF
        refine o_on rfl rfl ?_
        refine o_v (v_move rfl) rfl ?_
        refine o_on rfl rfl ?_
        refine ite_some hF fun h23 hF => ?_
        refine o_v (v_sindex Try.underlying9 rfl rfl h23) rfl ?_
        refine o_on rfl rfl ?_
        refine o_v (v_bin rfl rfl rfl) rfl ?_
        refine o_v (v_pick_f rfl rfl) rfl ?_
        refine o_nil ?_
        refine s_st ?_ (hN9 ((sAt text_ 0) != 91) hF)
        exact st_le [0, 0, 0, 0] (le_cons rfl (le_cons rfl (le_cons rfl (le_cons rfl (le_cons rfl (le_cons rfl le_nil)))))) rfl sub_nil
    · intro t29 hF
      unfold F.ref01.Parse_j1 at hF
      refine sat_wc ?_
      refine c_cond rfl (fun h2 => ?_) (fun h2 => ?_)
      · replace hF := ite_t h2 hF
        refine c_seq ?_
        refine c_region ?_
        refine o_v (v_load_box 1 ty33 rfl rfl rfl rfl rfl) rfl ?_
        refine o_v (v_build (v := .agg #[.int .i64 0, .int .i64 13]) rfl (fun _ => by kernel_rfl)) rfl ?_
        refine o_store_box 3 rfl ty33 rfl rfl rfl rfl rfl rfl rfl ?_
        refine o_store_box 2 rfl ty26 rfl rfl rfl rfl rfl rfl rfl ?_
        refine o_seq ?_
        refine c_ret ?_
        cases hF
        refine s_ret2 rfl (r_cell 3 rfl ty33 rfl rfl rfl rfl) (r_cell 2 rfl ty26 rfl rfl rfl rfl) fun a w hs => ?_
        exact fin_sel hs [] ⟨rfl, rfl, rfl⟩ rfl sub_nil
      · replace hF := ite_f h2 hF
        refine c_skip ?_
        refine sat_wc ?_
        refine c_seq ?_
        refine c_region ?_
        refine o_v (v_assign rfl) rfl ?_
        refine o_seq ?_
        refine c_seq ?_
        refine c_cut (fun E N' => ∀ (turned : Bool), F.ref01.Parse_j2 k text_ turned = some r → Sat E [(0, .string (bs text_)), (2, .pointer (some ⟨b, 0, none⟩)), (3, .pointer (some ⟨b1, 0, none⟩)), (4, .pointer (some ⟨b2, 0, none⟩)), (5, .pointer (some ⟨b3, 0, none⟩)), (6, .int .i64 1), (7, .bool turned)] [.box b3 33 [.int .u64 0, .int .u64 0, .int .u64 0, .int .u64 0], .box b2 33 [.int .u64 0, .int .u64 0, .int .u64 0, .int .u64 0], .box b1 26 [.int .i64 0, .int .i64 0], .box b 33 [.int .u64 0, .int .u64 0, .int .u64 0, .int .u64 0]] [] N') (fun N9 hN9 => ?_) ?_
        · refine c_region ?_
          refine o_v (v_move rfl) rfl ?_
          refine o_v (v_len_str Try.underlying9 rfl) rfl ?_
          refine o_v (v_bin rfl rfl rfl) rfl ?_
          refine o_v (v_move rfl) rfl ?_
          refine o_split (t := 35) rfl (fun h20 => ?_) (fun h20 => ?_)
          · replace hF := ite_t h20 hF
            refine o_on rfl rfl ?_
            refine o_v (v_move rfl) rfl ?_
            refine o_on rfl rfl ?_
            refine ite_some hF fun h21 hF => ?_
            refine o_v (v_sindex Try.underlying9 rfl rfl h21) rfl ?_
            refine o_on rfl rfl ?_
            refine o_v (v_bin rfl rfl rfl) rfl ?_
            refine o_v (v_pick_t rfl rfl) rfl ?_
            refine o_v (v_assign rfl) rfl ?_
            refine o_nil ?_
            refine s_st ?_ (hN9 ((sAt text_ 1) == 94) hF)
            exact st_le [0, 0, 0, 0] (le_cons rfl (le_cons rfl (le_cons rfl (le_cons rfl (le_cons rfl (le_cons rfl (le_cons rfl le_nil))))))) rfl sub_nil
          · replace hF := ite_f h20 hF
            refine o_off rfl rfl (by decide) rfl ?_
            refine o_off rfl rfl (by decide) rfl ?_
            refine o_off rfl rfl (by decide) rfl ?_
            refine o_v (v_pick_f rfl rfl) rfl ?_
            refine o_v (v_assign rfl) rfl ?_
            refine o_nil ?_
            refine s_st ?_ (hN9 false hF)
            exact st_le [0, 0, 0, 0] (le_cons rfl (le_cons rfl (le_cons rfl (le_cons rfl (le_cons rfl (le_cons rfl (le_cons rfl le_nil))))))) rfl sub_nil
        · intro turned hF
          unfold F.ref01.Parse_j2 at hF
          refine sat_wc ?_
          refine c_seq ?_
          refine c_seq ?_
          refine c_region ?_
          refine o_v (v_move rfl) rfl ?_
          refine o_seq ?_
          refine c_cut (fun E N' => ∀ (at__ : Int), F.ref01.Parse_j3 k text_ turned at__ = some r → Sat E [(0, .string (bs text_)), (2, .pointer (some ⟨b, 0, none⟩)), (3, .pointer (some ⟨b1, 0, none⟩)), (4, .pointer (some ⟨b2, 0, none⟩)), (5, .pointer (some ⟨b3, 0, none⟩)), (6, .int .i64 at__), (7, .bool turned)] [.box b3 33 [.int .u64 0, .int .u64 0, .int .u64 0, .int .u64 0], .box b2 33 [.int .u64 0, .int .u64 0, .int .u64 0, .int .u64 0], .box b1 26 [.int .i64 0, .int .i64 0], .box b 33 [.int .u64 0, .int .u64 0, .int .u64 0, .int .u64 0]] [] N') (fun N9 hN9 => ?_) ?_
          · refine c_cond rfl (fun h19 => ?_) (fun h19 => ?_)
            · replace hF := ite_t h19 hF
              refine c_region ?_
              refine o_v (v_assign rfl) rfl ?_
              refine o_nil ?_
              refine s_st ?_ (hN9 2 hF)
              exact st_le [0, 0, 0, 0] (le_cons rfl (le_cons rfl (le_cons rfl (le_cons rfl (le_cons rfl (le_cons rfl (le_cons rfl le_nil))))))) rfl sub_nil
            · replace hF := ite_f h19 hF
              refine c_skip ?_
              refine s_st ?_ (hN9 1 hF)
              exact st_le [0, 0, 0, 0] (le_cons rfl (le_cons rfl (le_cons rfl (le_cons rfl (le_cons rfl (le_cons rfl (le_cons rfl le_nil))))))) rfl sub_nil
          · intro at__ hF
            unfold F.ref01.Parse_j3 at hF
            refine sat_wc ?_
            refine c_seq ?_
            obtain ⟨o4, ho4, hF⟩ := bd hF
            refine c_cut (fun E N' => ∀ (d4 : Int × S4), o4 = .done d4 → Sat E [(0, .string (bs text_)), (2, .pointer (some ⟨b, 0, none⟩)), (3, .pointer (some ⟨b1, 0, none⟩)), (4, .pointer (some ⟨b2, 0, none⟩)), (5, .pointer (some ⟨b3, 0, none⟩)), (6, .int .i64 d4.1), (7, .bool turned)] [.box b3 33 [.int .u64 d4.2.w0, .int .u64 d4.2.w1, .int .u64 d4.2.w2, .int .u64 d4.2.w3], .box b2 33 [.int .u64 0, .int .u64 0, .int .u64 0, .int .u64 0], .box b1 26 [.int .i64 0, .int .i64 0], .box b 33 [.int .u64 0, .int .u64 0, .int .u64 0, .int .u64 0]] [] N') (fun N4 hN4 => ?_) ?_
            · refine c_block ?_
              refine c_loopE (fun E j a w => ∃ (at__1 : Int) (s : S4), F.ref01.Parse_l4 k text_ j at__1 s = some o4 ∧ St E [(0, .string (bs text_)), (2, .pointer (some ⟨b, 0, none⟩)), (3, .pointer (some ⟨b1, 0, none⟩)), (4, .pointer (some ⟨b2, 0, none⟩)), (5, .pointer (some ⟨b3, 0, none⟩)), (6, .int .i64 at__1), (7, .bool turned)] [.box b3 33 [.int .u64 s.w0, .int .u64 s.w1, .int .u64 s.w2, .int .u64 s.w3], .box b2 33 [.int .u64 0, .int .u64 0, .int .u64 0, .int .u64 0], .box b1 26 [.int .i64 0, .int .i64 0], .box b 33 [.int .u64 0, .int .u64 0, .int .u64 0, .int .u64 0]] [] a w) k ?_ ?_
              · intro a w hs
                exact ⟨at__, (S4.mk 0 0 0 0), ho4, st_le [0, 0, 0, 0] (le_cons rfl (le_cons rfl (le_cons rfl (le_cons rfl (le_cons rfl (le_cons rfl (le_cons rfl le_nil))))))) rfl sub_nil a w hs⟩
              · rintro j a w ⟨at__1, s, hL4, hs⟩
                cases j with
                | zero => cases hL4
                | succ j =>
                  refine wc_app hs ?_
                  unfold F.ref01.Parse_l4 at hL4
                  refine c_seq ?_
                  refine c_seq ?_
                  refine c_cut (fun E N' => ∀ (t50 : Bool), F.ref01.Parse_j5 k text_ at__1 s (F.ref01.Parse_l4 k text_ j) t50 = some o4 → Sat E [(0, .string (bs text_)), (2, .pointer (some ⟨b, 0, none⟩)), (3, .pointer (some ⟨b1, 0, none⟩)), (4, .pointer (some ⟨b2, 0, none⟩)), (5, .pointer (some ⟨b3, 0, none⟩)), (6, .int .i64 at__1), (7, .bool turned), (50, .bool t50)] [.box b3 33 [.int .u64 s.w0, .int .u64 s.w1, .int .u64 s.w2, .int .u64 s.w3], .box b2 33 [.int .u64 0, .int .u64 0, .int .u64 0, .int .u64 0], .box b1 26 [.int .i64 0, .int .i64 0], .box b 33 [.int .u64 0, .int .u64 0, .int .u64 0, .int .u64 0]] [] N') (fun N9 hN9 => ?_) ?_
                  · refine c_region ?_
                    refine o_v (v_move rfl) rfl ?_
                    refine o_v (v_move rfl) rfl ?_
                    refine o_v (v_len_str Try.underlying9 rfl) rfl ?_
                    refine o_v (v_bin rfl rfl rfl) rfl ?_
                    refine o_v (v_move rfl) rfl ?_
                    refine o_split (t := 45) rfl (fun h14 => ?_) (fun h14 => ?_)
                    · replace hL4 := ite_t h14 hL4
                      refine o_off rfl rfl (by decide) rfl ?_
                      refine o_off rfl rfl (by decide) rfl ?_
                      refine o_off rfl rfl (by decide) rfl ?_
                      refine o_off rfl rfl (by decide) rfl ?_
                      refine o_v (v_pick_t rfl rfl) rfl ?_
                      refine o_nil ?_
                      refine s_st ?_ (hN9 true hL4)
                      exact st_le [0, 0, 0, 0] (le_cons rfl (le_cons rfl (le_cons rfl (le_cons rfl (le_cons rfl (le_cons rfl (le_cons rfl (le_cons rfl le_nil)))))))) rfl sub_nil
                    · replace hL4 := ite_f h14 hL4
                      refine o_on rfl rfl ?_
                      refine o_v (v_move rfl) rfl ?_
                      refine o_on rfl rfl ?_
                      refine o_v (v_move rfl) rfl ?_
                      refine o_on rfl rfl ?_
                      refine ite_some hL4 fun h15 hL4 => ?_
                      refine o_v (v_sindex Try.underlying9 rfl rfl h15) rfl ?_
                      refine o_on rfl rfl ?_
                      refine o_v (v_bin rfl rfl rfl) rfl ?_
                      refine o_v (v_pick_f rfl rfl) rfl ?_
                      refine o_nil ?_
                      refine s_st ?_ (hN9 ((sAt text_ at__1) != 93) hL4)
                      exact st_le [0, 0, 0, 0] (le_cons rfl (le_cons rfl (le_cons rfl (le_cons rfl (le_cons rfl (le_cons rfl (le_cons rfl (le_cons rfl le_nil)))))))) rfl sub_nil
                  · intro t50 hL4
                    unfold F.ref01.Parse_j5 at hL4
                    refine sat_wc ?_
                    refine c_cond rfl (fun h3 => ?_) (fun h3 => ?_)
                    · replace hL4 := ite_t h3 hL4
                      refine c_skip ?_
                      refine sat_wc ?_
                      refine c_cut (fun E N' => ∀ (at__2 : Int) (lo : Int) (n : Int) (e_ : Int) (hi : Int) (next_ : Int) (i : Int) (s1 : S4), F.ref01.Parse_j6 (F.ref01.Parse_l4 k text_ j) at__2 lo n e_ hi next_ i s1 = some o4 → Sat E [(0, .string (bs text_)), (2, .pointer (some ⟨b, 0, none⟩)), (3, .pointer (some ⟨b1, 0, none⟩)), (4, .pointer (some ⟨b2, 0, none⟩)), (5, .pointer (some ⟨b3, 0, none⟩)), (6, .int .i64 at__2), (7, .bool turned), (8, .int .i64 lo), (9, .int .i64 n), (10, .int .i64 e_), (11, .int .i64 hi), (12, .int .i64 next_), (16, .int .i64 i)] [.box b3 33 [.int .u64 s1.w0, .int .u64 s1.w1, .int .u64 s1.w2, .int .u64 s1.w3], .box b2 33 [.int .u64 0, .int .u64 0, .int .u64 0, .int .u64 0], .box b1 26 [.int .i64 0, .int .i64 0], .box b 33 [.int .u64 0, .int .u64 0, .int .u64 0, .int .u64 0]] [] N') (fun N6 hN6 => ?_) ?_
                      · refine c_block ?_
                        refine c_seq ?_
                        refine c_region ?_
                        refine o_v (v_move rfl) rfl ?_
                        refine o_v (v_move rfl) rfl ?_
                        obtain ⟨v, h4, hL4⟩ := bd hL4
                        refine o_callSB call61 rfl lent_nil (tri61 k text_ at__1 v h4) rfl ?_
                        refine o_v (v_move rfl) rfl ?_
                        refine o_v (v_extract rfl rfl) rfl ?_
                        refine o_v (v_extract rfl rfl) rfl ?_
                        refine o_v (v_extract rfl rfl) rfl ?_
                        refine o_v (v_assign rfl) rfl ?_
                        refine o_v (v_assign rfl) rfl ?_
                        refine o_v (v_assign rfl) rfl ?_
                        refine o_seq ?_
                        refine c_seq ?_
                        refine c_seq ?_
                        refine c_region ?_
                        refine o_v (v_move rfl) rfl ?_
                        refine o_v (v_bin rfl rfl rfl) rfl ?_
                        refine o_seq ?_
                        refine c_cond rfl (fun h5 => ?_) (fun h5 => ?_)
                        · replace hL4 := ite_t h5 hL4
                          refine c_seq ?_
                          refine c_region ?_
                          refine o_v (v_load_box 1 ty33 rfl rfl rfl rfl rfl) rfl ?_
                          refine o_v (v_move rfl) rfl ?_
                          refine o_v (v_move rfl) rfl ?_
                          refine o_v (v_build (v := .agg #[.int .i64 at__1, .int .i64 v.2.2]) rfl (fun _ => by kernel_rfl)) rfl ?_
                          refine o_store_box 3 rfl ty33 rfl rfl rfl rfl rfl rfl rfl ?_
                          refine o_store_box 2 rfl ty26 rfl rfl rfl rfl rfl rfl rfl ?_
                          refine o_seq ?_
                          refine c_ret ?_
                          cases hL4
                          obtain rfl := lrf_ret hF
                          refine s_ret2 rfl (r_cell 3 rfl ty33 rfl rfl rfl rfl) (r_cell 2 rfl ty26 rfl rfl rfl rfl) fun a w hs => ?_
                          exact fin_sel hs [] ⟨rfl, rfl, rfl⟩ rfl sub_nil
                        · replace hL4 := ite_f h5 hL4
                          refine c_skip ?_
                          refine sat_wc ?_
                          refine c_seq ?_
                          refine c_region ?_
                          refine o_v (v_move rfl) rfl ?_
                          refine o_v (v_move rfl) rfl ?_
                          refine o_v (v_move rfl) rfl ?_
                          refine o_v (v_bin rfl rfl rfl) rfl ?_
                          refine o_v (v_assign rfl) rfl ?_
                          refine o_v (v_assign rfl) rfl ?_
                          refine o_seq ?_
                          refine c_seq ?_
                          refine c_seq ?_
                          refine c_cut (fun E N' => ∀ (t77 : Bool), F.ref01.Parse_j7 k text_ at__1 v s (F.ref01.Parse_l4 k text_ j) t77 = some o4 → Sat E [(0, .string (bs text_)), (2, .pointer (some ⟨b, 0, none⟩)), (3, .pointer (some ⟨b1, 0, none⟩)), (4, .pointer (some ⟨b2, 0, none⟩)), (5, .pointer (some ⟨b3, 0, none⟩)), (6, .int .i64 at__1), (7, .bool turned), (8, .int .i64 v.1), (9, .int .i64 v.2.1), (10, .int .i64 v.2.2), (11, .int .i64 v.1), (12, .int .i64 (IntKind.wrap .i64 (at__1 + v.2.1))), (77, .bool t77)] [.box b3 33 [.int .u64 s.w0, .int .u64 s.w1, .int .u64 s.w2, .int .u64 s.w3], .box b2 33 [.int .u64 0, .int .u64 0, .int .u64 0, .int .u64 0], .box b1 26 [.int .i64 0, .int .i64 0], .box b 33 [.int .u64 0, .int .u64 0, .int .u64 0, .int .u64 0]] [] N') (fun N9 hN9 => ?_) ?_
                          · refine c_region ?_
                            refine o_v (v_move rfl) rfl ?_
                            refine o_v (v_move rfl) rfl ?_
                            refine o_v (v_len_str Try.underlying9 rfl) rfl ?_
                            refine o_v (v_bin rfl rfl rfl) rfl ?_
                            refine o_v (v_move rfl) rfl ?_
                            refine o_split (t := 72) rfl (fun h12 => ?_) (fun h12 => ?_)
                            · replace hL4 := ite_t h12 hL4
                              refine o_on rfl rfl ?_
                              refine o_v (v_move rfl) rfl ?_
                              refine o_on rfl rfl ?_
                              refine o_v (v_move rfl) rfl ?_
                              refine o_on rfl rfl ?_
                              refine ite_some hL4 fun h13 hL4 => ?_
                              refine o_v (v_sindex Try.underlying9 rfl rfl h13) rfl ?_
                              refine o_on rfl rfl ?_
                              refine o_v (v_bin rfl rfl rfl) rfl ?_
                              refine o_v (v_pick_t rfl rfl) rfl ?_
                              refine o_nil ?_
                              refine s_st ?_ (hN9 ((sAt text_ (IntKind.wrap .i64 (at__1 + v.2.1))) == 45) hL4)
                              exact st_le [0, 0, 0, 0] (le_cons rfl (le_cons rfl (le_cons rfl (le_cons rfl (le_cons rfl (le_cons rfl (le_cons rfl (le_cons rfl (le_cons rfl (le_cons rfl (le_cons rfl (le_cons rfl (le_cons rfl le_nil))))))))))))) rfl sub_nil
                            · replace hL4 := ite_f h12 hL4
                              refine o_off rfl rfl (by decide) rfl ?_
                              refine o_off rfl rfl (by decide) rfl ?_
                              refine o_off rfl rfl (by decide) rfl ?_
                              refine o_off rfl rfl (by decide) rfl ?_
                              refine o_v (v_pick_f rfl rfl) rfl ?_
                              refine o_nil ?_
                              refine s_st ?_ (hN9 false hL4)
                              exact st_le [0, 0, 0, 0] (le_cons rfl (le_cons rfl (le_cons rfl (le_cons rfl (le_cons rfl (le_cons rfl (le_cons rfl (le_cons rfl (le_cons rfl (le_cons rfl (le_cons rfl (le_cons rfl (le_cons rfl le_nil))))))))))))) rfl sub_nil
                          · intro t77 hL4
                            unfold F.ref01.Parse_j7 at hL4
                            refine sat_wc ?_
                            refine c_cut (fun E N' => ∀ (hi1 : Int) (next_1 : Int), F.ref01.Parse_j8 k v at__1 s (F.ref01.Parse_l4 k text_ j) hi1 next_1 = some o4 → Sat E [(0, .string (bs text_)), (2, .pointer (some ⟨b, 0, none⟩)), (3, .pointer (some ⟨b1, 0, none⟩)), (4, .pointer (some ⟨b2, 0, none⟩)), (5, .pointer (some ⟨b3, 0, none⟩)), (6, .int .i64 at__1), (7, .bool turned), (8, .int .i64 v.1), (9, .int .i64 v.2.1), (10, .int .i64 v.2.2), (11, .int .i64 hi1), (12, .int .i64 next_1)] [.box b3 33 [.int .u64 s.w0, .int .u64 s.w1, .int .u64 s.w2, .int .u64 s.w3], .box b2 33 [.int .u64 0, .int .u64 0, .int .u64 0, .int .u64 0], .box b1 26 [.int .i64 0, .int .i64 0], .box b 33 [.int .u64 0, .int .u64 0, .int .u64 0, .int .u64 0]] [] N') (fun N9 hN9 => ?_) ?_
                            · refine c_cond rfl (fun h9 => ?_) (fun h9 => ?_)
                              · replace hL4 := ite_t h9 hL4
                                refine c_seq ?_
                                refine c_region ?_
                                refine o_v (v_move rfl) rfl ?_
                                refine o_v (v_move rfl) rfl ?_
                                refine o_v (v_bin rfl rfl rfl) rfl ?_
                                obtain ⟨v2, h10, hL4⟩ := bd hL4
                                refine o_callSB call61 rfl lent_nil (tri61 k text_ (IntKind.wrap .i64 ((IntKind.wrap .i64 (at__1 + v.2.1)) + 1)) v2 h10) rfl ?_
                                refine o_v (v_move rfl) rfl ?_
                                refine o_v (v_extract rfl rfl) rfl ?_
                                refine o_v (v_extract rfl rfl) rfl ?_
                                refine o_v (v_extract rfl rfl) rfl ?_
                                refine o_v (v_assign rfl) rfl ?_
                                refine o_v (v_assign rfl) rfl ?_
                                refine o_v (v_assign rfl) rfl ?_
                                refine o_seq ?_
                                refine c_seq ?_
                                refine c_seq ?_
                                refine c_region ?_
                                refine o_v (v_move rfl) rfl ?_
                                refine o_v (v_bin rfl rfl rfl) rfl ?_
                                refine o_seq ?_
                                refine c_cond rfl (fun h11 => ?_) (fun h11 => ?_)
                                · replace hL4 := ite_t h11 hL4
                                  refine c_seq ?_
                                  refine c_region ?_
                                  refine o_v (v_load_box 1 ty33 rfl rfl rfl rfl rfl) rfl ?_
                                  refine o_v (v_move rfl) rfl ?_
                                  refine o_v (v_bin rfl rfl rfl) rfl ?_
                                  refine o_v (v_move rfl) rfl ?_
                                  refine o_v (v_build (v := .agg #[.int .i64 (IntKind.wrap .i64 ((IntKind.wrap .i64 (at__1 + v.2.1)) + 1)), .int .i64 v2.2.2]) rfl (fun _ => by kernel_rfl)) rfl ?_
                                  refine o_store_box 3 rfl ty33 rfl rfl rfl rfl rfl rfl rfl ?_
                                  refine o_store_box 2 rfl ty26 rfl rfl rfl rfl rfl rfl rfl ?_
                                  refine o_seq ?_
                                  refine c_ret ?_
                                  cases hL4
                                  obtain rfl := lrf_ret hF
                                  refine s_ret2 rfl (r_cell 3 rfl ty33 rfl rfl rfl rfl) (r_cell 2 rfl ty26 rfl rfl rfl rfl) fun a w hs => ?_
                                  exact fin_sel hs [] ⟨rfl, rfl, rfl⟩ rfl sub_nil
                                · replace hL4 := ite_f h11 hL4
                                  refine c_skip ?_
                                  refine sat_wc ?_
                                  refine c_region ?_
                                  refine o_v (v_move rfl) rfl ?_
                                  refine o_v (v_move rfl) rfl ?_
                                  refine o_v (v_bin rfl rfl rfl) rfl ?_
                                  refine o_v (v_move rfl) rfl ?_
                                  refine o_v (v_bin rfl rfl rfl) rfl ?_
                                  refine o_v (v_assign rfl) rfl ?_
                                  refine o_v (v_assign rfl) rfl ?_
                                  refine o_nil ?_
                                  refine s_st ?_ (hN9 v2.1 (IntKind.wrap .i64 ((IntKind.wrap .i64 ((IntKind.wrap .i64 (at__1 + v.2.1)) + 1)) + v2.2.1)) hL4)
                                  exact st_le [0, 0, 0, 0] (le_cons rfl (le_cons rfl (le_cons rfl (le_cons rfl (le_cons rfl (le_cons rfl (le_cons rfl (le_cons rfl (le_cons rfl (le_cons rfl (le_cons rfl (le_cons rfl le_nil)))))))))))) rfl sub_nil
                              · replace hL4 := ite_f h9 hL4
                                refine c_skip ?_
                                refine s_st ?_ (hN9 v.1 (IntKind.wrap .i64 (at__1 + v.2.1)) hL4)
                                exact st_le [0, 0, 0, 0] (le_cons rfl (le_cons rfl (le_cons rfl (le_cons rfl (le_cons rfl (le_cons rfl (le_cons rfl (le_cons rfl (le_cons rfl (le_cons rfl (le_cons rfl (le_cons rfl le_nil)))))))))))) rfl sub_nil
                            · intro hi1 next_1 hL4
                              unfold F.ref01.Parse_j8 at hL4
                              refine sat_wc ?_
                              refine c_seq ?_
                              refine c_seq ?_
                              refine c_region ?_
                              refine o_v (v_move rfl) rfl ?_
                              refine o_v (v_move rfl) rfl ?_
                              refine o_v (v_bin rfl rfl rfl) rfl ?_
                              refine o_seq ?_
                              refine c_cond rfl (fun h6 => ?_) (fun h6 => ?_)
                              · replace hL4 := ite_t h6 hL4
                                refine c_seq ?_
                                refine c_region ?_
                                refine o_v (v_load_box 1 ty33 rfl rfl rfl rfl rfl) rfl ?_
                                refine o_v (v_move rfl) rfl ?_
                                refine o_v (v_build (v := .agg #[.int .i64 at__1, .int .i64 10]) rfl (fun _ => by kernel_rfl)) rfl ?_
                                refine o_store_box 3 rfl ty33 rfl rfl rfl rfl rfl rfl rfl ?_
                                refine o_store_box 2 rfl ty26 rfl rfl rfl rfl rfl rfl rfl ?_
                                refine o_seq ?_
                                refine c_ret ?_
                                cases hL4
                                obtain rfl := lrf_ret hF
                                refine s_ret2 rfl (r_cell 3 rfl ty33 rfl rfl rfl rfl) (r_cell 2 rfl ty26 rfl rfl rfl rfl) fun a w hs => ?_
                                exact fin_sel hs [] ⟨rfl, rfl, rfl⟩ rfl sub_nil
                              · replace hL4 := ite_f h6 hL4
                                refine c_skip ?_
                                refine sat_wc ?_
                                refine c_seq ?_
                                refine c_seq ?_
                                refine c_region ?_
                                refine o_v (v_move rfl) rfl ?_
                                refine o_v (v_assign rfl) rfl ?_
                                refine o_seq ?_
                                obtain ⟨o9, ho9, hL4⟩ := bd hL4
                                refine c_cut (fun E N' => Sat E [(0, .string (bs text_)), (2, .pointer (some ⟨b, 0, none⟩)), (3, .pointer (some ⟨b1, 0, none⟩)), (4, .pointer (some ⟨b2, 0, none⟩)), (5, .pointer (some ⟨b3, 0, none⟩)), (6, .int .i64 at__1), (7, .bool turned), (8, .int .i64 v.1), (9, .int .i64 v.2.1), (10, .int .i64 v.2.2), (11, .int .i64 hi1), (12, .int .i64 next_1), (16, .int .i64 o9.1)] [.box b3 33 [.int .u64 o9.2.w0, .int .u64 o9.2.w1, .int .u64 o9.2.w2, .int .u64 o9.2.w3], .box b2 33 [.int .u64 0, .int .u64 0, .int .u64 0, .int .u64 0], .box b1 26 [.int .i64 0, .int .i64 0], .box b 33 [.int .u64 0, .int .u64 0, .int .u64 0, .int .u64 0]] [] N') (fun N9 hN9 => ?_) ?_
                                · refine c_block ?_
                                  refine c_loopE (fun E j a w => ∃ (i1 : Int) (s2 : S4), F.ref01.Parse_l9 k hi1 j i1 s2 = some o9 ∧ St E [(0, .string (bs text_)), (2, .pointer (some ⟨b, 0, none⟩)), (3, .pointer (some ⟨b1, 0, none⟩)), (4, .pointer (some ⟨b2, 0, none⟩)), (5, .pointer (some ⟨b3, 0, none⟩)), (6, .int .i64 at__1), (7, .bool turned), (8, .int .i64 v.1), (9, .int .i64 v.2.1), (10, .int .i64 v.2.2), (11, .int .i64 hi1), (12, .int .i64 next_1), (16, .int .i64 i1)] [.box b3 33 [.int .u64 s2.w0, .int .u64 s2.w1, .int .u64 s2.w2, .int .u64 s2.w3], .box b2 33 [.int .u64 0, .int .u64 0, .int .u64 0, .int .u64 0], .box b1 26 [.int .i64 0, .int .i64 0], .box b 33 [.int .u64 0, .int .u64 0, .int .u64 0, .int .u64 0]] [] a w) k ?_ ?_
                                  · intro a w hs
                                    exact ⟨v.1, s, ho9, st_le [0, 0, 0, 0] (le_cons rfl (le_cons rfl (le_cons rfl (le_cons rfl (le_cons rfl (le_cons rfl (le_cons rfl (le_cons rfl (le_cons rfl (le_cons rfl (le_cons rfl (le_cons rfl (le_cons rfl le_nil))))))))))))) rfl sub_nil a w hs⟩
                                  · rintro j a w ⟨i1, s2, hL9, hs⟩
                                    cases j with
                                    | zero => cases hL9
                                    | succ j =>
                                      refine wc_app hs ?_
                                      unfold F.ref01.Parse_l9 at hL9
                                      refine c_seq ?_
                                      refine c_seq ?_
                                      refine c_region ?_
                                      refine o_v (v_move rfl) rfl ?_
                                      refine o_v (v_move rfl) rfl ?_
                                      refine o_v (v_bin rfl rfl rfl) rfl ?_
                                      refine o_seq ?_
                                      refine c_cond rfl (fun h7 => ?_) (fun h7 => ?_)
                                      · replace hL9 := ite_t h7 hL9
                                        refine c_skip ?_
                                        refine sat_wc ?_
                                        refine c_seq ?_
                                        refine c_block ?_
                                        refine c_region ?_
                                        refine o_v (v_load_box 0 ty33 rfl rfl rfl rfl rfl) rfl ?_
                                        refine o_v (v_move rfl) rfl ?_
                                        obtain ⟨v1, h8, hL9⟩ := bd hL9
                                        refine o_callSB call62 rfl lent_nil (tri62 k s2 i1 v1 h8) rfl ?_
                                        refine o_store_box 0 rfl ty33 rfl rfl rfl rfl rfl rfl rfl ?_
                                        refine o_nil ?_
                                        refine sat_wc ?_
                                        refine c_region ?_
                                        refine o_v (v_move rfl) rfl ?_
                                        refine o_v (v_bin rfl rfl rfl) rfl ?_
                                        refine o_v (v_assign rfl) rfl ?_
                                        refine o_nil ?_
                                        intro a w hs
                                        exact ⟨j, Nat.lt_succ_self j, IntKind.wrap .i64 (i1 + 1), v1, hL9, st_le [0, 0, 0, 0] (le_cons rfl (le_cons rfl (le_cons rfl (le_cons rfl (le_cons rfl (le_cons rfl (le_cons rfl (le_cons rfl (le_cons rfl (le_cons rfl (le_cons rfl (le_cons rfl (le_cons rfl le_nil))))))))))))) rfl sub_nil a w hs⟩
                                      · replace hL9 := ite_f h7 hL9
                                        refine c_exit0 ?_
                                        cases hL9
                                        refine s_st ?_ (hN9)
                                        exact st_le [0, 0, 0, 0] (le_cons rfl (le_cons rfl (le_cons rfl (le_cons rfl (le_cons rfl (le_cons rfl (le_cons rfl (le_cons rfl (le_cons rfl (le_cons rfl (le_cons rfl (le_cons rfl (le_cons rfl le_nil))))))))))))) rfl sub_nil
                                · refine sat_wc ?_
                                  refine c_region ?_
                                  refine o_v (v_move rfl) rfl ?_
                                  refine o_v (v_assign rfl) rfl ?_
                                  refine o_nil ?_
                                  refine s_st ?_ (hN6 next_1 v.1 v.2.1 v.2.2 hi1 next_1 o9.1 o9.2 hL4)
                                  exact st_le [0, 0, 0, 0] (le_cons rfl (le_cons rfl (le_cons rfl (le_cons rfl (le_cons rfl (le_cons rfl (le_cons rfl (le_cons rfl (le_cons rfl (le_cons rfl (le_cons rfl (le_cons rfl (le_cons rfl le_nil))))))))))))) rfl sub_nil
                      · intro at__2 lo n e_ hi next_ i s1 hL4
                        unfold F.ref01.Parse_j6 at hL4
                        intro a w hs
                        exact ⟨j, Nat.lt_succ_self j, at__2, s1, hL4, st_le [0, 0, 0, 0] (le_cons rfl (le_cons rfl (le_cons rfl (le_cons rfl (le_cons rfl (le_cons rfl (le_cons rfl le_nil))))))) rfl sub_nil a w hs⟩
                    · replace hL4 := ite_f h3 hL4
                      refine c_exit0 ?_
                      cases hL4
                      refine s_st ?_ (hN4 (at__1, s) rfl)
                      exact st_le [0, 0, 0, 0] (le_cons rfl (le_cons rfl (le_cons rfl (le_cons rfl (le_cons rfl (le_cons rfl (le_cons rfl le_nil))))))) rfl sub_nil
            · intro d4 hd
              subst hd
              replace hF := lrf_done hF
              refine sat_wc ?_
              refine c_seq ?_
              refine c_seq ?_
              refine c_region ?_
              refine o_v (v_move rfl) rfl ?_
              refine o_v (v_bin rfl rfl rfl) rfl ?_
              refine o_v (v_move rfl) rfl ?_
              refine o_v (v_len_str Try.underlying9 rfl) rfl ?_
              refine o_v (v_bin rfl rfl rfl) rfl ?_
              refine o_seq ?_
              refine c_cond rfl (fun h16 => ?_) (fun h16 => ?_)
              · replace hF := ite_t h16 hF
                refine c_seq ?_
                refine c_region ?_
                refine o_v (v_load_box 1 ty33 rfl rfl rfl rfl rfl) rfl ?_
                refine o_v (v_move rfl) rfl ?_
                refine o_v (v_bin rfl rfl rfl) rfl ?_
                refine o_v (v_build (v := .agg #[.int .i64 (IntKind.wrap .i64 (d4.1 + 1)), .int .i64 15]) rfl (fun _ => by kernel_rfl)) rfl ?_
                refine o_store_box 3 rfl ty33 rfl rfl rfl rfl rfl rfl rfl ?_
                refine o_store_box 2 rfl ty26 rfl rfl rfl rfl rfl rfl rfl ?_
                refine o_seq ?_
                refine c_ret ?_
                cases hF
                refine s_ret2 rfl (r_cell 3 rfl ty33 rfl rfl rfl rfl) (r_cell 2 rfl ty26 rfl rfl rfl rfl) fun a w hs => ?_
                exact fin_sel hs [] ⟨rfl, rfl, rfl⟩ rfl sub_nil
              · replace hF := ite_f h16 hF
                refine c_skip ?_
                refine sat_wc ?_
                refine c_seq ?_
                refine c_seq ?_
                refine c_region ?_
                refine o_v (v_move rfl) rfl ?_
                refine o_seq ?_
                refine c_cond rfl (fun h17 => ?_) (fun h17 => ?_)
                · replace hF := ite_t h17 hF
                  refine c_region ?_
                  refine o_v (v_load_box 0 ty33 rfl rfl rfl rfl rfl) rfl ?_
                  refine o_v (v_load_box 0 ty33 rfl rfl rfl rfl rfl) rfl ?_
                  obtain ⟨v3, h18, hF⟩ := bd hF
                  refine o_callSB call63 rfl lent_nil (tri63 k 3 d4.2 d4.2 v3 h18) rfl ?_
                  refine o_store_box 0 rfl ty33 rfl rfl rfl rfl rfl rfl rfl ?_
                  refine o_seq ?_
                  refine c_seq ?_
                  refine c_region ?_
                  refine o_v (v_load_box 0 ty33 rfl rfl rfl rfl rfl) rfl ?_
                  refine o_v (v_build (v := .agg #[.int .i64 0, .int .i64 0]) rfl (fun _ => by kernel_rfl)) rfl ?_
                  refine o_store_box 3 rfl ty33 rfl rfl rfl rfl rfl rfl rfl ?_
                  refine o_store_box 2 rfl ty26 rfl rfl rfl rfl rfl rfl rfl ?_
                  refine o_seq ?_
                  refine c_ret ?_
                  cases hF
                  refine s_ret2 rfl (r_cell 3 rfl ty33 rfl rfl rfl rfl) (r_cell 2 rfl ty26 rfl rfl rfl rfl) fun a w hs => ?_
                  exact fin_sel hs [] ⟨rfl, rfl, rfl⟩ rfl sub_nil
                · replace hF := ite_f h17 hF
                  refine c_skip ?_
                  refine sat_wc ?_
                  refine c_seq ?_
                  refine c_region ?_
                  refine o_v (v_load_box 0 ty33 rfl rfl rfl rfl rfl) rfl ?_
                  refine o_v (v_build (v := .agg #[.int .i64 0, .int .i64 0]) rfl (fun _ => by kernel_rfl)) rfl ?_
                  refine o_store_box 3 rfl ty33 rfl rfl rfl rfl rfl rfl rfl ?_
                  refine o_store_box 2 rfl ty26 rfl rfl rfl rfl rfl rfl rfl ?_
                  refine o_seq ?_
                  refine c_ret ?_
                  cases hF
                  refine s_ret2 rfl (r_cell 3 rfl ty33 rfl rfl rfl rfl) (r_cell 2 rfl ty26 rfl rfl rfl rfl) fun a w hs => ?_
                  exact fin_sel hs [] ⟨rfl, rfl, rfl⟩ rfl sub_nil
theorem tri30 (k : Nat) (text_ : List UInt8) (at__ : Int) (r : Word × Int × Fault) (hF : F.ref02.word k text_ at__ = some r) :
    Tri Try.prog 30 [.string (bs text_), .int .i64 at__] [] [] (fun o H Φ => ∃ (sa2 : Option Addr) (sn2 sc2 : Nat), o = .ret (.tuple #[.agg #[.int .i64 r.1.Kind, .string (bs r.1.Text), .slice sa2 sn2 sc2, .int .u64 r.1.Set.w0, .int .u64 r.1.Set.w1, .int .u64 r.1.Set.w2, .int .u64 r.1.Set.w3, .int .i64 r.1.N_, .int .i64 r.1.At, .int .i64 r.1.Line, .int .i64 r.1.Col], .int .i64 r.2.1, .agg #[.int .i64 r.2.2.At, .int .i64 r.2.2.Code]]) ∧ H = [] ∧ Φ = [(.slice sa2 sn2 sc2, .slice 1 (r.1.Bytes.map eU8))]) := by
  unfold F.ref02.word at hF
  refine tri_intro (n := 140) Try.func30 rfl Try.ntmps30 rfl fun w X => ?_
  refine c_seq ?_
  refine c_region ?_
  refine o_alloc zero35 rfl rfl fun b => ?_
  refine o_v (v_assign rfl) rfl ?_
  refine o_alloc zero26 rfl rfl fun b1 => ?_
  refine o_seq ?_
  refine c_seq ?_
  refine c_region ?_
  refine o_v (v_build (v := .agg #[.int .i64 0, .string (bs ([] : List UInt8)), .slice none 0 0, .int .u64 0, .int .u64 0, .int .u64 0, .int .u64 0, .int .i64 0, .int .i64 0, .int .i64 0, .int .i64 0]) rfl (fun _ => by kernel_rfl)) rfl ?_
  refine o_alloc zero35 rfl rfl fun b2 => ?_
  refine o_store_box 0 rfl ty35 rfl rfl rfl rfl rfl rfl rfl ?_
  refine o_seq ?_
  refine c_seq ?_
  refine c_region ?_
  refine o_v (v_move rfl) rfl ?_
  refine o_v (v_move rfl) rfl ?_
  refine ite_some hF fun h1 hF => ?_
  refine o_v (v_sindex Try.underlying9 rfl rfl h1) rfl ?_
  refine o_v (v_assign rfl) rfl ?_
  refine o_seq ?_
  refine c_seq ?_
  refine c_region ?_
  refine o_v (v_move rfl) rfl ?_
  obtain ⟨v, h2, hF⟩ := bd hF
  refine o_callSB call35 rfl lent_nil (tri35 (sAt text_ at__) v h2) rfl ?_
  refine o_v (v_assign rfl) rfl ?_
  refine o_seq ?_
  refine c_seq ?_
  refine c_block ?_
  refine c_seq ?_
  refine c_cut (fun E N' => ∀ (t28 : Bool), F.ref02.word_j1 k text_ at__ v t28 = some r → Sat E [(0, .string (bs text_)), (1, .int .i64 at__), (4, .pointer (some ⟨b, 0, none⟩)), (5, .int .i64 0), (6, .pointer (some ⟨b1, 0, none⟩)), (7, .pointer (some ⟨b2, 0, none⟩)), (8, .int .u8 (sAt text_ at__)), (9, .int .i64 v), (28, .bool t28)] [.box b2 35 [.int .i64 0, .string (bs ([] : List UInt8)), .slice none 0 0, .int .u64 0, .int .u64 0, .int .u64 0, .int .u64 0, .int .i64 0, .int .i64 0, .int .i64 0, .int .i64 0], .box b1 26 [.int .i64 0, .int .i64 0], .box b 35 [.int .i64 0, .string (bs ([] : List UInt8)), .slice none 0 0, .int .u64 0, .int .u64 0, .int .u64 0, .int .u64 0, .int .i64 0, .int .i64 0, .int .i64 0, .int .i64 0]] [] N') (fun N3 hN3 => ?_) ?_
  · refine c_region ?_
    refine o_v (v_move rfl) rfl ?_
    refine o_v (v_bin rfl rfl rfl) rfl ?_
    refine o_v (v_move rfl) rfl ?_
    refine o_split (t := 31) rfl (fun h20 => ?_) (fun h20 => ?_)
    · replace hF := ite_t h20 hF
      refine o_off rfl rfl (by decide) rfl ?_
      refine o_off rfl rfl (by decide) rfl ?_
      refine o_v (v_pick_t rfl rfl) rfl ?_
      refine o_v (v_assign rfl) rfl ?_
      refine o_nil ?_
      refine s_st ?_ (hN3 true hF)
      exact st_le [0, 0, 0] (le_cons rfl (le_cons rfl (le_cons rfl (le_cons rfl (le_cons rfl (le_cons rfl (le_cons rfl (le_cons rfl (le_cons rfl le_nil))))))))) rfl sub_nil
    · replace hF := ite_f h20 hF
      refine o_on rfl rfl ?_
      refine o_v (v_move rfl) rfl ?_
      refine o_on rfl rfl ?_
      refine o_v (v_bin rfl rfl rfl) rfl ?_
      refine o_v (v_pick_f rfl rfl) rfl ?_
      refine o_v (v_assign rfl) rfl ?_
      refine o_nil ?_
      refine s_st ?_ (hN3 (v == 2) hF)
      exact st_le [0, 0, 0] (le_cons rfl (le_cons rfl (le_cons rfl (le_cons rfl (le_cons rfl (le_cons rfl (le_cons rfl (le_cons rfl (le_cons rfl le_nil))))))))) rfl sub_nil
  · intro t28 hF
    unfold F.ref02.word_j1 at hF
    refine sat_wc ?_
    refine c_cond rfl (fun h3 => ?_) (fun h3 => ?_)
    · replace hF := ite_t h3 hF
      refine c_seq ?_
      refine c_region ?_
      refine o_v (v_move rfl) rfl ?_
      refine o_v (v_move rfl) rfl ?_
      obtain ⟨v1, h4, hF⟩ := bd hF
      refine o_callSB call36 rfl lent_nil (tri36 k text_ at__ v1 h4) rfl ?_
      refine o_v (v_assign rfl) rfl ?_
      refine o_seq ?_
      refine c_seq ?_
      refine c_seq ?_
      refine c_region ?_
      refine o_v (v_move rfl) rfl ?_
      refine o_v (v_move rfl) rfl ?_
      refine o_v (v_bin rfl rfl rfl) rfl ?_
      refine o_v (v_bin rfl rfl rfl) rfl ?_
      refine o_seq ?_
      refine c_cond rfl (fun h5 => ?_) (fun h5 => ?_)
      · replace hF := ite_t h5 hF
        refine c_seq ?_
        refine c_region ?_
        refine o_v (v_load_box 0 ty35 rfl rfl rfl rfl rfl) rfl ?_
        refine o_v (v_move rfl) rfl ?_
        refine o_v (v_build (v := .agg #[.int .i64 at__, .int .i64 20]) rfl (fun _ => by kernel_rfl)) rfl ?_
        refine o_store_box 2 rfl ty35 rfl rfl rfl rfl rfl rfl rfl ?_
        refine o_v (v_assign rfl) rfl ?_
        refine o_store_box 1 rfl ty26 rfl rfl rfl rfl rfl rfl rfl ?_
        refine o_seq ?_
        refine c_ret ?_
        cases hF
        refine s_st (st_nilfact 1) ?_
        refine s_ret3 rfl (r_cell 2 rfl ty35 rfl rfl rfl rfl) (r_tmp rfl) (r_cell 1 rfl ty26 rfl rfl rfl rfl) fun a w hs => ?_
        exact fin_sel hs [] ⟨none, 0, 0, rfl, rfl, rfl⟩ rfl (sub_cons 0 rfl sub_nil)
      · replace hF := ite_f h5 hF
        refine c_skip ?_
        refine sat_wc ?_
        refine c_seq ?_
        refine c_region ?_
        refine o_v (v_move rfl) rfl ?_
        refine o_v (v_fieldAddr (v := .pointer (some ⟨b2, 0, none⟩)) rfl (fun _ => by kernel_rfl)) rfl ?_
        refine o_store_box 0 rfl ty3 rfl rfl rfl rfl rfl rfl rfl ?_
        refine o_seq ?_
        refine c_seq ?_
        refine c_region ?_
        refine o_v (v_load_box 0 ty35 rfl rfl rfl rfl rfl) rfl ?_
        refine o_v (v_move rfl) rfl ?_
        refine o_v (v_build (v := .agg #[.int .i64 0, .int .i64 0]) rfl (fun _ => by kernel_rfl)) rfl ?_
        refine o_store_box 2 rfl ty35 rfl rfl rfl rfl rfl rfl rfl ?_
        refine o_v (v_assign rfl) rfl ?_
        refine o_store_box 1 rfl ty26 rfl rfl rfl rfl rfl rfl rfl ?_
        refine o_seq ?_
        refine c_ret ?_
        cases hF
        refine s_st (st_nilfact 1) ?_
        refine s_ret3 rfl (r_cell 2 rfl ty35 rfl rfl rfl rfl) (r_tmp rfl) (r_cell 1 rfl ty26 rfl rfl rfl rfl) fun a w hs => ?_
        exact fin_sel hs [] ⟨none, 0, 0, rfl, rfl, rfl⟩ rfl (sub_cons 0 rfl sub_nil)
    · replace hF := ite_f h3 hF
      refine c_seq ?_
      refine c_region ?_
      refine o_v (v_move rfl) rfl ?_
      refine o_v (v_bin rfl rfl rfl) rfl ?_
      refine o_v (v_assign rfl) rfl ?_
      refine o_seq ?_
      refine c_cond rfl (fun h6 => ?_) (fun h6 => ?_)
      · replace hF := ite_t h6 hF
        refine c_seq ?_
        refine c_region ?_
        refine o_v (v_move rfl) rfl ?_
        refine o_v (v_move rfl) rfl ?_
        obtain ⟨v2, h7, hF⟩ := bd hF
        refine o_callSB call49 rfl lent_nil (tri49 k text_ at__ v2 h7) rfl ?_
        refine o_v (v_move rfl) rfl ?_
        refine o_v (v_extract rfl rfl) rfl ?_
        refine o_v (v_extract rfl rfl) rfl ?_
        refine o_v (v_extract rfl rfl) rfl ?_
        refine o_v (v_assign rfl) rfl ?_
        refine o_v (v_assign rfl) rfl ?_
        refine o_v (v_assign rfl) rfl ?_
        refine o_seq ?_
        refine c_seq ?_
        refine c_seq ?_
        refine c_region ?_
        refine o_v (v_move rfl) rfl ?_
        refine o_v (v_bin rfl rfl rfl) rfl ?_
        refine o_seq ?_
        refine c_cond rfl (fun h8 => ?_) (fun h8 => ?_)
        · replace hF := ite_t h8 hF
          refine c_seq ?_
          refine c_region ?_
          refine o_v (v_load_box 0 ty35 rfl rfl rfl rfl rfl) rfl ?_
          refine o_v (v_move rfl) rfl ?_
          refine o_v (v_move rfl) rfl ?_
          refine o_v (v_build (v := .agg #[.int .i64 at__, .int .i64 v2.2.2]) rfl (fun _ => by kernel_rfl)) rfl ?_
          refine o_store_box 2 rfl ty35 rfl rfl rfl rfl rfl rfl rfl ?_
          refine o_v (v_assign rfl) rfl ?_
          refine o_store_box 1 rfl ty26 rfl rfl rfl rfl rfl rfl rfl ?_
          refine o_seq ?_
          refine c_ret ?_
          cases hF
          refine s_st (st_nilfact 1) ?_
          refine s_ret3 rfl (r_cell 2 rfl ty35 rfl rfl rfl rfl) (r_tmp rfl) (r_cell 1 rfl ty26 rfl rfl rfl rfl) fun a w hs => ?_
          exact fin_sel hs [] ⟨none, 0, 0, rfl, rfl, rfl⟩ rfl (sub_cons 0 rfl sub_nil)
        · replace hF := ite_f h8 hF
          refine c_skip ?_
          refine sat_wc ?_
          refine c_seq ?_
          refine c_region ?_
          refine o_v (v_move rfl) rfl ?_
          refine o_v (v_fieldAddr (v := .pointer (some ⟨b2, 0, none⟩)) rfl (fun _ => by kernel_rfl)) rfl ?_
          refine o_store_box 0 rfl ty3 rfl rfl rfl rfl rfl rfl rfl ?_
          refine o_v (v_fieldAddr (v := .pointer (some ⟨b2, 7, none⟩)) rfl (fun _ => by kernel_rfl)) rfl ?_
          refine o_store_box 0 rfl ty3 rfl rfl rfl rfl rfl rfl rfl ?_
          refine o_seq ?_
          refine c_seq ?_
          refine c_region ?_
          refine o_v (v_load_box 0 ty35 rfl rfl rfl rfl rfl) rfl ?_
          refine o_v (v_move rfl) rfl ?_
          refine o_v (v_build (v := .agg #[.int .i64 0, .int .i64 0]) rfl (fun _ => by kernel_rfl)) rfl ?_
          refine o_store_box 2 rfl ty35 rfl rfl rfl rfl rfl rfl rfl ?_
          refine o_v (v_assign rfl) rfl ?_
          refine o_store_box 1 rfl ty26 rfl rfl rfl rfl rfl rfl rfl ?_
          refine o_seq ?_
          refine c_ret ?_
          cases hF
          refine s_st (st_nilfact 1) ?_
          refine s_ret3 rfl (r_cell 2 rfl ty35 rfl rfl rfl rfl) (r_tmp rfl) (r_cell 1 rfl ty26 rfl rfl rfl rfl) fun a w hs => ?_
          exact fin_sel hs [] ⟨none, 0, 0, rfl, rfl, rfl⟩ rfl (sub_cons 0 rfl sub_nil)
      · replace hF := ite_f h6 hF
        refine c_seq ?_
        refine c_region ?_
        refine o_v (v_move rfl) rfl ?_
        refine o_v (v_bin rfl rfl rfl) rfl ?_
        refine o_v (v_assign rfl) rfl ?_
        refine o_seq ?_
        refine c_cond rfl (fun h9 => ?_) (fun h9 => ?_)
        · replace hF := ite_t h9 hF
          refine c_seq ?_
          refine c_region ?_
          refine o_v (v_move rfl) rfl ?_
          refine o_v (v_move rfl) rfl ?_
          obtain ⟨v3, h10, hF⟩ := bd hF
          refine o_call0 call43 rfl sub_nil (tri43 k text_ at__ v3 h10) rfl ?_
          rintro _ _ _ ⟨sa1, sn1, sc1, rfl, rfl, rfl⟩
          refine o_v (v_move rfl) rfl ?_
          refine o_v (v_extract rfl rfl) rfl ?_
          refine o_v (v_extract rfl rfl) rfl ?_
          refine o_v (v_extract rfl rfl) rfl ?_
          refine o_alloc zero26 rfl rfl fun b3 => ?_
          refine o_v (v_assign rfl) rfl ?_
          refine o_v (v_assign rfl) rfl ?_
          refine o_store_box 0 rfl ty26 rfl rfl rfl rfl rfl rfl rfl ?_
          refine o_seq ?_
          refine c_seq ?_
          refine c_region ?_
          refine o_v (v_move rfl) rfl ?_
          refine o_v (v_fieldAddr (v := .pointer (some ⟨b2, 0, none⟩)) rfl (fun _ => by kernel_rfl)) rfl ?_
          refine o_store_box 2 rfl ty3 rfl rfl rfl rfl rfl rfl rfl ?_
          refine o_v (v_fieldAddr (v := .pointer (some ⟨b2, 2, none⟩)) rfl (fun _ => by kernel_rfl)) rfl ?_
          refine o_store_box 2 rfl ty30 rfl rfl rfl rfl rfl rfl rfl ?_
          refine o_seq ?_
          refine c_seq ?_
          refine c_draw (n := 6) [0, 0, 0] mixed rfl rfl ?_
          refine d_val 0 rfl pnok (by kernel_rfl) (by kernel_rfl) (by kernel_rfl) rfl (v_load_box 2 ty35 rfl rfl rfl rfl rfl) ?_
          refine d_val 1 rfl pnok (by kernel_rfl) (by kernel_rfl) (by kernel_rfl) rfl (v_move rfl) ?_
          refine d_val 2 rfl pnok (by kernel_rfl) (by kernel_rfl) (by kernel_rfl) rfl (v_load_box 0 ty26 rfl rfl rfl rfl rfl) ?_
          refine d_one 3 rfl (by kernel_rfl) ?_
          refine o_store_box 4 rfl ty35 rfl rfl rfl rfl rfl rfl rfl ?_
          refine d_next [0, 0, 0] 0 rfl rfl ?_
          refine d_val 4 rfl pnok (by kernel_rfl) (by kernel_rfl) (by kernel_rfl) rfl (v_assign rfl) ?_
          refine d_one 5 rfl (by kernel_rfl) ?_
          refine o_store_box 3 rfl ty26 rfl rfl rfl rfl rfl rfl rfl ?_
          refine d_next [0, 0, 0] 0 rfl rfl ?_
          refine d_done_seq (by kernel_rfl) ?_
          refine c_ret ?_
          cases hF
          refine s_st (st_freeze 1 rfl) ?_
          refine s_ret3 rfl (r_cell 3 rfl ty35 rfl rfl rfl rfl) (r_tmp rfl) (r_cell 2 rfl ty26 rfl rfl rfl rfl) fun a w hs => ?_
          exact fin_sel hs [] ⟨sa1, sn1, sc1, rfl, rfl, rfl⟩ rfl (sub_cons 0 rfl sub_nil)
        · replace hF := ite_f h9 hF
          refine c_seq ?_
          refine c_region ?_
          refine o_v (v_move rfl) rfl ?_
          refine o_v (v_bin rfl rfl rfl) rfl ?_
          refine o_v (v_assign rfl) rfl ?_
          refine o_seq ?_
          refine c_cond rfl (fun h11 => ?_) (fun h11 => ?_)
          · replace hF := ite_t h11 hF
            refine c_seq ?_
            refine c_region ?_
            refine o_v (v_move rfl) rfl ?_
            refine o_v (v_move rfl) rfl ?_
            obtain ⟨v4, h12, hF⟩ := bd hF
            refine o_callSB call50 rfl lent_nil (tri50 k text_ at__ v4 h12) rfl ?_
            refine o_v (v_assign rfl) rfl ?_
            refine o_seq ?_
            refine c_seq ?_
            refine c_seq ?_
            refine c_region ?_
            refine o_v (v_move rfl) rfl ?_
            refine o_v (v_bin rfl rfl rfl) rfl ?_
            refine o_seq ?_
            refine c_cond rfl (fun h13 => ?_) (fun h13 => ?_)
            · replace hF := ite_t h13 hF
              refine c_seq ?_
              refine c_region ?_
              refine o_v (v_load_box 0 ty35 rfl rfl rfl rfl rfl) rfl ?_
              refine o_v (v_move rfl) rfl ?_
              refine o_v (v_build (v := .agg #[.int .i64 at__, .int .i64 13]) rfl (fun _ => by kernel_rfl)) rfl ?_
              refine o_store_box 2 rfl ty35 rfl rfl rfl rfl rfl rfl rfl ?_
              refine o_v (v_assign rfl) rfl ?_
              refine o_store_box 1 rfl ty26 rfl rfl rfl rfl rfl rfl rfl ?_
              refine o_seq ?_
              refine c_ret ?_
              cases hF
              refine s_st (st_nilfact 1) ?_
              refine s_ret3 rfl (r_cell 2 rfl ty35 rfl rfl rfl rfl) (r_tmp rfl) (r_cell 1 rfl ty26 rfl rfl rfl rfl) fun a w hs => ?_
              exact fin_sel hs [] ⟨none, 0, 0, rfl, rfl, rfl⟩ rfl (sub_cons 0 rfl sub_nil)
            · replace hF := ite_f h13 hF
              refine c_skip ?_
              refine sat_wc ?_
              refine c_seq ?_
              refine c_region ?_
              refine o_v (v_move rfl) rfl ?_
              refine o_v (v_move rfl) rfl ?_
              refine o_v (v_move rfl) rfl ?_
              refine ite_some hF fun h14 hF => ?_
              refine o_v (v_strslice Try.underlying9 rfl rfl rfl rfl rfl h14) rfl ?_
              obtain ⟨v5, h15, hF⟩ := bd hF
              refine o_callSB call51 rfl lent_nil (tri51 k (sub text_ at__ v4) v5 h15) rfl ?_
              refine o_v (v_move rfl) rfl ?_
              refine o_v (v_extract rfl rfl) rfl ?_
              refine o_v (v_extract rfl rfl) rfl ?_
              refine o_alloc zero33 rfl rfl fun b4 => ?_
              refine o_alloc zero26 rfl rfl fun b5 => ?_
              refine o_store_box 1 rfl ty33 rfl rfl rfl rfl rfl rfl rfl ?_
              refine o_store_box 0 rfl ty26 rfl rfl rfl rfl rfl rfl rfl ?_
              refine o_seq ?_
              refine c_seq ?_
              refine c_seq ?_
              refine c_region ?_
              refine o_v (v_fieldAddr (v := .pointer (some ⟨b5, 1, none⟩)) rfl (fun _ => by kernel_rfl)) rfl ?_
              refine o_v (v_load_box 0 ty24 rfl rfl rfl rfl rfl) rfl ?_
              refine o_v (v_bin rfl rfl rfl) rfl ?_
              refine o_seq ?_
              refine c_cut (fun E N' => ∀ (At_ : Int), F.ref02.word_j2 v5 v4 At_ = some r → Sat E [(0, .string (bs text_)), (1, .int .i64 at__), (4, .pointer (some ⟨b, 0, none⟩)), (5, .int .i64 0), (6, .pointer (some ⟨b1, 0, none⟩)), (7, .pointer (some ⟨b2, 0, none⟩)), (8, .int .u8 (sAt text_ at__)), (9, .int .i64 v), (17, .int .i64 v4), (18, .pointer (some ⟨b4, 0, none⟩)), (19, .pointer (some ⟨b5, 0, none⟩))] [.box b5 26 [.int .i64 At_, .int .i64 v5.2.Code], .box b4 33 [.int .u64 v5.1.w0, .int .u64 v5.1.w1, .int .u64 v5.1.w2, .int .u64 v5.1.w3], .box b2 35 [.int .i64 0, .string (bs ([] : List UInt8)), .slice none 0 0, .int .u64 0, .int .u64 0, .int .u64 0, .int .u64 0, .int .i64 0, .int .i64 0, .int .i64 0, .int .i64 0], .box b1 26 [.int .i64 0, .int .i64 0], .box b 35 [.int .i64 0, .string (bs ([] : List UInt8)), .slice none 0 0, .int .u64 0, .int .u64 0, .int .u64 0, .int .u64 0, .int .i64 0, .int .i64 0, .int .i64 0, .int .i64 0]] [] N') (fun N2 hN2 => ?_) ?_
              · refine c_cond rfl (fun h16 => ?_) (fun h16 => ?_)
                · replace hF := ite_t h16 hF
                  refine c_region ?_
                  refine o_v (v_fieldAddr (v := .pointer (some ⟨b5, 0, none⟩)) rfl (fun _ => by kernel_rfl)) rfl ?_
                  refine o_v (v_load_box 0 ty3 rfl rfl rfl rfl rfl) rfl ?_
                  refine o_v (v_move rfl) rfl ?_
                  refine o_v (v_bin rfl rfl rfl) rfl ?_
                  refine o_v (v_fieldAddr (v := .pointer (some ⟨b5, 0, none⟩)) rfl (fun _ => by kernel_rfl)) rfl ?_
                  refine o_store_box 0 rfl ty3 rfl rfl rfl rfl rfl rfl rfl ?_
                  refine o_nil ?_
                  refine s_st ?_ (hN2 (IntKind.wrap .i64 (v5.2.At + at__)) hF)
                  exact st_le [0, 0, 0, 0, 0] (le_cons rfl (le_cons rfl (le_cons rfl (le_cons rfl (le_cons rfl (le_cons rfl (le_cons rfl (le_cons rfl (le_cons rfl (le_cons rfl (le_cons rfl le_nil))))))))))) rfl sub_nil
                · replace hF := ite_f h16 hF
                  refine c_skip ?_
                  refine s_st ?_ (hN2 v5.2.At hF)
                  exact st_le [0, 0, 0, 0, 0] (le_cons rfl (le_cons rfl (le_cons rfl (le_cons rfl (le_cons rfl (le_cons rfl (le_cons rfl (le_cons rfl (le_cons rfl (le_cons rfl (le_cons rfl le_nil))))))))))) rfl sub_nil
              · intro At_ hF
                unfold F.ref02.word_j2 at hF
                refine sat_wc ?_
                refine c_seq ?_
                refine c_draw (n := 5) [0, 0, 1, 1] mixed rfl rfl ?_
                refine d_val 0 rfl pnok (by kernel_rfl) (by kernel_rfl) (by kernel_rfl) rfl (v_load_box 1 ty33 rfl rfl rfl rfl rfl) ?_
                refine d_val 1 rfl pnok (by kernel_rfl) (by kernel_rfl) (by kernel_rfl) rfl (v_fieldAddr (v := .pointer (some ⟨b2, 0, none⟩)) rfl (fun _ => by kernel_rfl)) ?_
                refine d_one 2 rfl (by kernel_rfl) ?_
                refine o_store_box 2 rfl ty3 rfl rfl rfl rfl rfl rfl rfl ?_
                refine d_next [0, 0, 1, 1] 0 rfl rfl ?_
                refine d_val 3 rfl pnok (by kernel_rfl) (by kernel_rfl) (by kernel_rfl) rfl (v_fieldAddr (v := .pointer (some ⟨b2, 3, none⟩)) rfl (fun _ => by kernel_rfl)) ?_
                refine d_one 4 rfl (by kernel_rfl) ?_
                refine o_store_box 2 rfl ty33 rfl rfl rfl rfl rfl rfl rfl ?_
                refine d_next [0, 0, 1, 1] 0 rfl rfl ?_
                refine d_done_seq (by kernel_rfl) ?_
                refine c_seq ?_
                refine c_draw (n := 6) [0, 0, 0] mixed rfl rfl ?_
                refine d_val 0 rfl pnok (by kernel_rfl) (by kernel_rfl) (by kernel_rfl) rfl (v_load_box 2 ty35 rfl rfl rfl rfl rfl) ?_
                refine d_val 1 rfl pnok (by kernel_rfl) (by kernel_rfl) (by kernel_rfl) rfl (v_move rfl) ?_
                refine d_val 2 rfl pnok (by kernel_rfl) (by kernel_rfl) (by kernel_rfl) rfl (v_load_box 0 ty26 rfl rfl rfl rfl rfl) ?_
                refine d_one 3 rfl (by kernel_rfl) ?_
                refine o_store_box 4 rfl ty35 rfl rfl rfl rfl rfl rfl rfl ?_
                refine d_next [0, 0, 0] 0 rfl rfl ?_
                refine d_val 4 rfl pnok (by kernel_rfl) (by kernel_rfl) (by kernel_rfl) rfl (v_assign rfl) ?_
                refine d_one 5 rfl (by kernel_rfl) ?_
                refine o_store_box 3 rfl ty26 rfl rfl rfl rfl rfl rfl rfl ?_
                refine d_next [0, 0, 0] 0 rfl rfl ?_
                refine d_done_seq (by kernel_rfl) ?_
                refine c_ret ?_
                cases hF
                refine s_st (st_nilfact 1) ?_
                refine s_ret3 rfl (r_cell 4 rfl ty35 rfl rfl rfl rfl) (r_tmp rfl) (r_cell 3 rfl ty26 rfl rfl rfl rfl) fun a w hs => ?_
                exact fin_sel hs [] ⟨none, 0, 0, rfl, rfl, rfl⟩ rfl (sub_cons 0 rfl sub_nil)
          · replace hF := ite_f h11 hF
            refine c_skip ?_
            refine sat_wc ?_
            refine c_seq ?_
            refine c_region ?_
            refine o_v (v_assign rfl) rfl ?_
            refine o_seq ?_
            refine c_seq ?_
            refine c_seq ?_
            refine c_region ?_
            refine o_v (v_assign rfl) rfl ?_
            refine o_seq ?_
            obtain ⟨o3, ho3, hF⟩ := bd hF
            refine c_cut (fun E N' => ∀ (d3 : Unit), o3 = .done d3 → Sat E [(0, .string (bs text_)), (1, .int .i64 at__), (4, .pointer (some ⟨b, 0, none⟩)), (5, .int .i64 0), (6, .pointer (some ⟨b1, 0, none⟩)), (7, .pointer (some ⟨b2, 0, none⟩)), (8, .int .u8 (sAt text_ at__)), (9, .int .i64 v)] [.box b2 35 [.int .i64 0, .string (bs ([] : List UInt8)), .slice none 0 0, .int .u64 0, .int .u64 0, .int .u64 0, .int .u64 0, .int .i64 0, .int .i64 0, .int .i64 0, .int .i64 0], .box b1 26 [.int .i64 0, .int .i64 0], .box b 35 [.int .i64 0, .string (bs ([] : List UInt8)), .slice none 0 0, .int .u64 0, .int .u64 0, .int .u64 0, .int .u64 0, .int .i64 0, .int .i64 0, .int .i64 0, .int .i64 0]] [] N') (fun N3 hN3 => ?_) ?_
            · refine c_block ?_
              refine c_loopE (fun E j a w => ∃ (i : Int), F.ref02.word_l3 text_ at__ j i = some o3 ∧ St E [(0, .string (bs text_)), (1, .int .i64 at__), (4, .pointer (some ⟨b, 0, none⟩)), (5, .int .i64 0), (6, .pointer (some ⟨b1, 0, none⟩)), (7, .pointer (some ⟨b2, 0, none⟩)), (8, .int .u8 (sAt text_ at__)), (9, .int .i64 v), (20, .string (bs ([61, 124, 46, 59, 62, 63, 42, 43, 123, 125, 40, 41, 95, 47, 44, 45] : List UInt8))), (21, .int .i64 i)] [.box b2 35 [.int .i64 0, .string (bs ([] : List UInt8)), .slice none 0 0, .int .u64 0, .int .u64 0, .int .u64 0, .int .u64 0, .int .i64 0, .int .i64 0, .int .i64 0, .int .i64 0], .box b1 26 [.int .i64 0, .int .i64 0], .box b 35 [.int .i64 0, .string (bs ([] : List UInt8)), .slice none 0 0, .int .u64 0, .int .u64 0, .int .u64 0, .int .u64 0, .int .i64 0, .int .i64 0, .int .i64 0, .int .i64 0]] [] a w) k ?_ ?_
              · intro a w hs
                exact ⟨0, ho3, st_le [0, 0, 0] (le_cons rfl (le_cons rfl (le_cons rfl (le_cons rfl (le_cons rfl (le_cons rfl (le_cons rfl (le_cons rfl (le_cons rfl (le_cons rfl le_nil)))))))))) rfl sub_nil a w hs⟩
              · rintro j a w ⟨i, hL3, hs⟩
                cases j with
                | zero => cases hL3
                | succ j =>
                  refine wc_app hs ?_
                  unfold F.ref02.word_l3 at hL3
                  refine c_seq ?_
                  refine c_seq ?_
                  refine c_region ?_
                  refine o_v (v_move rfl) rfl ?_
                  refine o_v (v_move rfl) rfl ?_
                  refine o_v (v_len_str Try.underlying9 rfl) rfl ?_
                  refine o_v (v_bin rfl rfl rfl) rfl ?_
                  refine o_seq ?_
                  refine c_cond rfl (fun h17 => ?_) (fun h17 => ?_)
                  · replace hL3 := ite_t h17 hL3
                    refine c_skip ?_
                    refine sat_wc ?_
                    refine c_seq ?_
                    refine c_block ?_
                    refine c_seq ?_
                    refine c_region ?_
                    refine o_v (v_move rfl) rfl ?_
                    refine o_v (v_move rfl) rfl ?_
                    refine ite_some hL3 fun h18 hL3 => ?_
                    refine o_v (v_sindex Try.underlying9 rfl rfl h18) rfl ?_
                    refine o_v (v_move rfl) rfl ?_
                    refine o_v (v_bin rfl rfl rfl) rfl ?_
                    refine o_seq ?_
                    refine c_cond rfl (fun h19 => ?_) (fun h19 => ?_)
                    · replace hL3 := ite_t h19 hL3
                      refine c_seq ?_
                      refine c_region ?_
                      refine o_v (v_fieldAddr (v := .pointer (some ⟨b2, 0, none⟩)) rfl (fun _ => by kernel_rfl)) rfl ?_
                      refine o_store_box 0 rfl ty3 rfl rfl rfl rfl rfl rfl rfl ?_
                      refine o_seq ?_
                      refine c_seq ?_
                      refine c_region ?_
                      refine o_v (v_load_box 0 ty35 rfl rfl rfl rfl rfl) rfl ?_
                      refine o_v (v_move rfl) rfl ?_
                      refine o_v (v_bin rfl rfl rfl) rfl ?_
                      refine o_v (v_build (v := .agg #[.int .i64 0, .int .i64 0]) rfl (fun _ => by kernel_rfl)) rfl ?_
                      refine o_store_box 2 rfl ty35 rfl rfl rfl rfl rfl rfl rfl ?_
                      refine o_v (v_assign rfl) rfl ?_
                      refine o_store_box 1 rfl ty26 rfl rfl rfl rfl rfl rfl rfl ?_
                      refine o_seq ?_
                      refine c_ret ?_
                      cases hL3
                      obtain rfl := lrf_ret hF
                      refine s_st (st_nilfact 1) ?_
                      refine s_ret3 rfl (r_cell 2 rfl ty35 rfl rfl rfl rfl) (r_tmp rfl) (r_cell 1 rfl ty26 rfl rfl rfl rfl) fun a w hs => ?_
                      exact fin_sel hs [] ⟨none, 0, 0, rfl, rfl, rfl⟩ rfl (sub_cons 0 rfl sub_nil)
                    · replace hL3 := ite_f h19 hL3
                      refine c_skip ?_
                      refine sat_wc ?_
                      refine c_region ?_
                      refine o_v (v_move rfl) rfl ?_
                      refine o_v (v_bin rfl rfl rfl) rfl ?_
                      refine o_v (v_assign rfl) rfl ?_
                      refine o_nil ?_
                      intro a w hs
                      exact ⟨j, Nat.lt_succ_self j, IntKind.wrap .i64 (i + 1), hL3, st_le [0, 0, 0] (le_cons rfl (le_cons rfl (le_cons rfl (le_cons rfl (le_cons rfl (le_cons rfl (le_cons rfl (le_cons rfl (le_cons rfl (le_cons rfl le_nil)))))))))) rfl sub_nil a w hs⟩
                  · replace hL3 := ite_f h17 hL3
                    refine c_exit0 ?_
                    cases hL3
                    refine s_st ?_ (hN3 () rfl)
                    exact st_le [0, 0, 0] (le_cons rfl (le_cons rfl (le_cons rfl (le_cons rfl (le_cons rfl (le_cons rfl (le_cons rfl (le_cons rfl le_nil)))))))) rfl sub_nil
            · intro d3 hd
              subst hd
              replace hF := lrf_done hF
              refine sat_wc ?_
              refine c_seq ?_
              refine c_region ?_
              refine o_v (v_load_box 0 ty35 rfl rfl rfl rfl rfl) rfl ?_
              refine o_v (v_move rfl) rfl ?_
              refine o_v (v_build (v := .agg #[.int .i64 at__, .int .i64 11]) rfl (fun _ => by kernel_rfl)) rfl ?_
              refine o_store_box 2 rfl ty35 rfl rfl rfl rfl rfl rfl rfl ?_
              refine o_v (v_assign rfl) rfl ?_
              refine o_store_box 1 rfl ty26 rfl rfl rfl rfl rfl rfl rfl ?_
              refine o_seq ?_
              refine c_ret ?_
              cases hF
              refine s_st (st_nilfact 1) ?_
              refine s_ret3 rfl (r_cell 2 rfl ty35 rfl rfl rfl rfl) (r_tmp rfl) (r_cell 1 rfl ty26 rfl rfl rfl rfl) fun a w hs => ?_
              exact fin_sel hs [] ⟨none, 0, 0, rfl, rfl, rfl⟩ rfl (sub_cons 0 rfl sub_nil)
theorem tri13 (k : Nat) (text_ : List UInt8) (r : List Word × Fault) (hF : F.ref02.Scan k text_ = some r) :
    Tri Try.prog 13 [.string (bs text_)] [] [] (fun o H Φ => ∃ (sa7 : Option Addr) (sn7 sc7 : Nat), o = .ret (.tuple #[.slice sa7 sn7 sc7, .agg #[.int .i64 r.2.At, .int .i64 r.2.Code]]) ∧ H = [.row (.slice sa7 sn7 sc7) 35 11 (r.1.map eWord)] ∧ Φ = []) := by
  unfold F.ref02.Scan at hF
  refine tri_intro (n := 79) Try.func13 rfl Try.ntmps13 rfl fun w X => ?_
  refine c_seq ?_
  refine c_region ?_
  refine o_v (v_assign rfl) rfl ?_
  refine o_alloc zero26 rfl rfl fun b => ?_
  refine o_seq ?_
  refine c_seq ?_
  refine c_seq ?_
  refine c_region ?_
  refine o_v (v_move rfl) rfl ?_
  refine o_v (v_len_str Try.underlying9 rfl) rfl ?_
  refine o_v (v_bin rfl rfl rfl) rfl ?_
  refine o_seq ?_
  refine c_cond rfl (fun h1 => ?_) (fun h1 => ?_)
  · replace hF := ite_t h1 hF
    refine c_seq ?_
    refine c_region ?_
    refine o_v (v_build (v := .agg #[.int .i64 0, .int .i64 2]) rfl (fun _ => by kernel_rfl)) rfl ?_
    refine o_v (v_assign rfl) rfl ?_
    refine o_store_box 0 rfl ty26 rfl rfl rfl rfl rfl rfl rfl ?_
    refine o_seq ?_
    refine c_ret ?_
    cases hF
    refine s_st (st_nilrow 35 11) ?_
    refine s_ret2 rfl (r_tmp rfl) (r_cell 1 rfl ty26 rfl rfl rfl rfl) fun a w hs => ?_
    exact fin_sel hs [0] ⟨none, 0, 0, rfl, rfl, rfl⟩ rfl sub_nil
  · replace hF := ite_f h1 hF
    refine c_skip ?_
    refine sat_wc ?_
    refine c_seq ?_
    refine c_region ?_
    refine o_v (v_assign rfl) rfl ?_
    refine o_seq ?_
    refine c_seq ?_
    refine c_region ?_
    refine o_v (v_assign rfl) rfl ?_
    refine o_v (v_assign rfl) rfl ?_
    refine o_v (v_assign rfl) rfl ?_
    refine o_seq ?_
    refine c_seq ?_
    refine c_region ?_
    refine o_v (v_move rfl) rfl ?_
    obtain ⟨v, h2, hF⟩ := bd hF
    refine o_callSB call29 rfl lent_nil (tri29 k text_ 0 v h2) rfl ?_
    refine o_v (v_assign rfl) rfl ?_
    refine o_seq ?_
    obtain ⟨o1, ho1, hF⟩ := bd hF
    refine c_block ?_
    refine c_loopE (fun E j a w => ∃ (out_ : List Word) (line_ : Int) (top_ : Int) (from_ : Int) (at__ : Int) (sa1 : Option Addr) (sn1 sc1 : Nat), F.ref02.Scan_l1 k text_ j out_ line_ top_ from_ at__ = some o1 ∧ St E [(0, .string (bs text_)), (2, .slice none 0 0), (3, .pointer (some ⟨b, 0, none⟩)), (4, .slice sa1 sn1 sc1), (5, .int .i64 line_), (6, .int .i64 top_), (7, .int .i64 from_), (8, .int .i64 at__)] [.box b 26 [.int .i64 0, .int .i64 0], .row (.slice sa1 sn1 sc1) 35 11 (out_.map eWord)] [] a w) k ?_ ?_
    · refine s_st (st_nilrow 35 11) ?_
      intro a w hs
      exact ⟨([] : List Word), 1, 0, 0, v, none, 0, 0, ho1, st_le [1, 0] (le_cons rfl (le_cons rfl (le_cons rfl (le_cons rfl (le_cons rfl (le_cons rfl (le_cons rfl (le_cons rfl le_nil)))))))) rfl sub_nil a w hs⟩
    · rintro j a w ⟨out_, line_, top_, from_, at__, sa1, sn1, sc1, hL1, hs⟩
      cases j with
      | zero => cases hL1
      | succ j =>
        refine wc_app hs ?_
        unfold F.ref02.Scan_l1 at hL1
        refine c_block ?_
        refine c_seq ?_
        obtain ⟨o2, ho2, hL1⟩ := bd hL1
        refine c_cut (fun E N' => Sat E [(0, .string (bs text_)), (2, .slice none 0 0), (3, .pointer (some ⟨b, 0, none⟩)), (4, .slice sa1 sn1 sc1), (5, .int .i64 o2.1), (6, .int .i64 o2.2.1), (7, .int .i64 o2.2.2), (8, .int .i64 at__)] [.box b 26 [.int .i64 0, .int .i64 0], .row (.slice sa1 sn1 sc1) 35 11 (out_.map eWord)] [] N') (fun N2 hN2 => ?_) ?_
        · refine c_block ?_
          refine c_loopE (fun E j a w => ∃ (line_1 : Int) (top_1 : Int) (from_1 : Int), F.ref02.Scan_l2 at__ text_ j line_1 top_1 from_1 = some o2 ∧ St E [(0, .string (bs text_)), (2, .slice none 0 0), (3, .pointer (some ⟨b, 0, none⟩)), (4, .slice sa1 sn1 sc1), (5, .int .i64 line_1), (6, .int .i64 top_1), (7, .int .i64 from_1), (8, .int .i64 at__)] [.box b 26 [.int .i64 0, .int .i64 0], .row (.slice sa1 sn1 sc1) 35 11 (out_.map eWord)] [] a w) k ?_ ?_
          · intro a w hs
            exact ⟨line_, top_, from_, ho2, st_le [0, 0] (le_cons rfl (le_cons rfl (le_cons rfl (le_cons rfl (le_cons rfl (le_cons rfl (le_cons rfl (le_cons rfl le_nil)))))))) rfl sub_nil a w hs⟩
          · rintro j a w ⟨line_1, top_1, from_1, hL2, hs⟩
            cases j with
            | zero => cases hL2
            | succ j =>
              refine wc_app hs ?_
              unfold F.ref02.Scan_l2 at hL2
              refine c_seq ?_
              refine c_seq ?_
              refine c_region ?_
              refine o_v (v_move rfl) rfl ?_
              refine o_v (v_move rfl) rfl ?_
              refine o_v (v_bin rfl rfl rfl) rfl ?_
              refine o_seq ?_
              refine c_cond rfl (fun h3 => ?_) (fun h3 => ?_)
              · replace hL2 := ite_t h3 hL2
                refine c_skip ?_
                refine sat_wc ?_
                refine c_cut (fun E N' => ∀ (line_2 : Int) (top_2 : Int), F.ref02.Scan_j3 (F.ref02.Scan_l2 at__ text_ j) from_1 line_2 top_2 = some o2 → Sat E [(0, .string (bs text_)), (2, .slice none 0 0), (3, .pointer (some ⟨b, 0, none⟩)), (4, .slice sa1 sn1 sc1), (5, .int .i64 line_2), (6, .int .i64 top_2), (7, .int .i64 (IntKind.wrap .i64 (from_1 + 1))), (8, .int .i64 at__)] [.box b 26 [.int .i64 0, .int .i64 0], .row (.slice sa1 sn1 sc1) 35 11 (out_.map eWord)] [] N') (fun N3 hN3 => ?_) ?_
                · refine c_block ?_
                  refine c_seq ?_
                  refine c_seq ?_
                  refine c_region ?_
                  refine o_v (v_move rfl) rfl ?_
                  refine o_v (v_move rfl) rfl ?_
                  refine ite_some hL2 fun h4 hL2 => ?_
                  refine o_v (v_sindex Try.underlying9 rfl rfl h4) rfl ?_
                  refine o_v (v_bin rfl rfl rfl) rfl ?_
                  refine o_seq ?_
                  refine c_cut (fun E N' => ∀ (line_3 : Int) (top_3 : Int), F.ref02.Scan_j4 (F.ref02.Scan_l2 at__ text_ j) from_1 line_3 top_3 = some o2 → Sat E [(0, .string (bs text_)), (2, .slice none 0 0), (3, .pointer (some ⟨b, 0, none⟩)), (4, .slice sa1 sn1 sc1), (5, .int .i64 line_3), (6, .int .i64 top_3), (7, .int .i64 from_1), (8, .int .i64 at__)] [.box b 26 [.int .i64 0, .int .i64 0], .row (.slice sa1 sn1 sc1) 35 11 (out_.map eWord)] [] N') (fun N4 hN4 => ?_) ?_
                  · refine c_cond rfl (fun h5 => ?_) (fun h5 => ?_)
                    · replace hL2 := ite_t h5 hL2
                      refine c_region ?_
                      refine o_v (v_move rfl) rfl ?_
                      refine o_v (v_bin rfl rfl rfl) rfl ?_
                      refine o_v (v_move rfl) rfl ?_
                      refine o_v (v_bin rfl rfl rfl) rfl ?_
                      refine o_v (v_assign rfl) rfl ?_
                      refine o_v (v_assign rfl) rfl ?_
                      refine o_nil ?_
                      refine s_st ?_ (hN4 (IntKind.wrap .i64 (line_1 + 1)) (IntKind.wrap .i64 (from_1 + 1)) hL2)
                      exact st_le [0, 0] (le_cons rfl (le_cons rfl (le_cons rfl (le_cons rfl (le_cons rfl (le_cons rfl (le_cons rfl (le_cons rfl le_nil)))))))) rfl sub_nil
                    · replace hL2 := ite_f h5 hL2
                      refine c_skip ?_
                      refine s_st ?_ (hN4 line_1 top_1 hL2)
                      exact st_le [0, 0] (le_cons rfl (le_cons rfl (le_cons rfl (le_cons rfl (le_cons rfl (le_cons rfl (le_cons rfl (le_cons rfl le_nil)))))))) rfl sub_nil
                  · intro line_3 top_3 hL2
                    unfold F.ref02.Scan_j4 at hL2
                    refine sat_wc ?_
                    refine c_region ?_
                    refine o_v (v_move rfl) rfl ?_
                    refine o_v (v_bin rfl rfl rfl) rfl ?_
                    refine o_v (v_assign rfl) rfl ?_
                    refine o_nil ?_
                    refine s_st ?_ (hN3 line_3 top_3 hL2)
                    exact st_le [0, 0] (le_cons rfl (le_cons rfl (le_cons rfl (le_cons rfl (le_cons rfl (le_cons rfl (le_cons rfl (le_cons rfl le_nil)))))))) rfl sub_nil
                · intro line_2 top_2 hL2
                  unfold F.ref02.Scan_j3 at hL2
                  intro a w hs
                  exact ⟨j, Nat.lt_succ_self j, line_2, top_2, IntKind.wrap .i64 (from_1 + 1), hL2, st_le [0, 0] (le_cons rfl (le_cons rfl (le_cons rfl (le_cons rfl (le_cons rfl (le_cons rfl (le_cons rfl (le_cons rfl le_nil)))))))) rfl sub_nil a w hs⟩
              · replace hL2 := ite_f h3 hL2
                refine c_exit0 ?_
                cases hL2
                refine s_st ?_ (hN2)
                exact st_le [0, 0] (le_cons rfl (le_cons rfl (le_cons rfl (le_cons rfl (le_cons rfl (le_cons rfl (le_cons rfl (le_cons rfl le_nil)))))))) rfl sub_nil
        · refine sat_wc ?_
          refine c_seq ?_
          refine c_seq ?_
          refine c_region ?_
          refine o_v (v_move rfl) rfl ?_
          refine o_v (v_move rfl) rfl ?_
          refine o_v (v_len_str Try.underlying9 rfl) rfl ?_
          refine o_v (v_bin rfl rfl rfl) rfl ?_
          refine o_seq ?_
          refine c_cond rfl (fun h6 => ?_) (fun h6 => ?_)
          · replace hL1 := ite_t h6 hL1
            refine c_seq ?_
            refine c_region ?_
            refine o_v (v_move rfl) rfl ?_
            refine o_v (v_move rfl) rfl ?_
            refine o_v (v_move rfl) rfl ?_
            refine o_v (v_move rfl) rfl ?_
            refine o_v (v_move rfl) rfl ?_
            refine o_v (v_bin rfl rfl rfl) rfl ?_
            refine o_v (v_bin rfl rfl rfl) rfl ?_
            refine o_v (v_build (v := .agg #[.int .i64 7, .string (bs ([] : List UInt8)), .slice none 0 0, .int .u64 0, .int .u64 0, .int .u64 0, .int .u64 0, .int .i64 0, .int .i64 at__, .int .i64 o2.1, .int .i64 (IntKind.wrap .i64 ((IntKind.wrap .i64 (at__ - o2.2.1)) + 1))]) rfl (fun _ => by kernel_rfl)) rfl ?_
            refine o_st (st_nilfact 1) ?_
            refine o_buildSlice (enc := eWord) ([(Word.mk 7 ([] : List UInt8) ([] : List Int) (S4.mk 0 0 0 0) 0 at__ o2.1 (IntKind.wrap .i64 ((IntKind.wrap .i64 (at__ - o2.2.1)) + 1)))] : List Word) [.int .i64 7, .string (bs ([] : List UInt8)), .slice none 0 0, .int .u64 0, .int .u64 0, .int .u64 0, .int .u64 0, .int .i64 0, .int .i64 at__, .int .i64 o2.1, .int .i64 (IntKind.wrap .i64 ((IntKind.wrap .i64 (at__ - o2.2.1)) + 1))] sl23 rfl (fun _ => by kernel_rfl) rfl rfl rfl (.s rfl (.s rfl (.f 0 rfl (.s rfl (.s rfl (.s rfl (.s rfl (.s rfl (.s rfl (.s rfl (.s rfl (.nil)))))))))))) rfl fun sa2 sn2 sc2 => ?_
            refine ite_some hL1 fun h7 hL1 => ?_
            refine ite_some hL1 fun h8 hL1 => ?_
            refine o_append (enc := eWord) (xs := out_) (ys := ([(Word.mk 7 ([] : List UInt8) ([] : List Int) (S4.mk 0 0 0 0) 0 at__ o2.1 (IntKind.wrap .i64 ((IntKind.wrap .i64 (at__ - o2.2.1)) + 1)))] : List Word)) 2 sl23 rfl rfl rfl (.r 0 _ rfl) h7 h8 rfl fun sa3 sn3 sc3 => ?_
            refine o_v (v_assign rfl) rfl ?_
            refine o_seq ?_
            refine c_seq ?_
            refine c_region ?_
            refine o_v (v_move rfl) rfl ?_
            refine o_v (v_build (v := .agg #[.int .i64 0, .int .i64 0]) rfl (fun _ => by kernel_rfl)) rfl ?_
            refine o_v (v_assign rfl) rfl ?_
            refine o_store_box 1 rfl ty26 rfl rfl rfl rfl rfl rfl rfl ?_
            refine o_seq ?_
            refine c_ret ?_
            cases hL1
            obtain rfl := lrf_ret hF
            refine s_ret2 rfl (r_tmp rfl) (r_cell 1 rfl ty26 rfl rfl rfl rfl) fun a w hs => ?_
            exact fin_sel hs [2] ⟨sa3, sn3, sc3, rfl, rfl, rfl⟩ rfl sub_nil
          · replace hL1 := ite_f h6 hL1
            refine c_skip ?_
            refine sat_wc ?_
            refine c_seq ?_
            refine c_region ?_
            refine o_v (v_move rfl) rfl ?_
            refine o_v (v_move rfl) rfl ?_
            obtain ⟨v1, h9, hL1⟩ := bd hL1
            refine o_call0 call30 rfl sub_nil (tri30 k text_ at__ v1 h9) rfl ?_
            rintro _ _ _ ⟨sa4, sn4, sc4, rfl, rfl, rfl⟩
            refine o_v (v_move rfl) rfl ?_
            refine o_v (v_extract rfl rfl) rfl ?_
            refine o_v (v_extract rfl rfl) rfl ?_
            refine o_v (v_extract rfl rfl) rfl ?_
            refine o_alloc zero35 rfl rfl fun b1 => ?_
            refine o_alloc zero26 rfl rfl fun b2 => ?_
            refine o_store_box 1 rfl ty35 rfl rfl rfl rfl rfl rfl rfl ?_
            refine o_v (v_assign rfl) rfl ?_
            refine o_store_box 0 rfl ty26 rfl rfl rfl rfl rfl rfl rfl ?_
            refine o_seq ?_
            refine c_seq ?_
            refine c_seq ?_
            refine c_region ?_
            refine o_v (v_fieldAddr (v := .pointer (some ⟨b2, 1, none⟩)) rfl (fun _ => by kernel_rfl)) rfl ?_
            refine o_v (v_load_box 0 ty24 rfl rfl rfl rfl rfl) rfl ?_
            refine o_v (v_bin rfl rfl rfl) rfl ?_
            refine o_seq ?_
            refine c_cond rfl (fun h10 => ?_) (fun h10 => ?_)
            · replace hL1 := ite_t h10 hL1
              refine c_seq ?_
              refine c_draw (n := 3) [0, 0, 1] mixed rfl rfl ?_
              refine d_val 0 rfl pnok (by kernel_rfl) (by kernel_rfl) (by kernel_rfl) rfl (v_load_box 0 ty26 rfl rfl rfl rfl rfl) ?_
              refine d_val 1 rfl pnok (by kernel_rfl) (by kernel_rfl) (by kernel_rfl) rfl (v_assign rfl) ?_
              refine d_one 2 rfl (by kernel_rfl) ?_
              refine o_store_box 2 rfl ty26 rfl rfl rfl rfl rfl rfl rfl ?_
              refine d_next [0, 0, 1] 0 rfl rfl ?_
              refine d_done_seq (by kernel_rfl) ?_
              refine c_ret ?_
              cases hL1
              obtain rfl := lrf_ret hF
              refine s_st (st_nilrow 35 11) ?_
              refine s_ret2 rfl (r_tmp rfl) (r_cell 3 rfl ty26 rfl rfl rfl rfl) fun a w hs => ?_
              exact fin_sel hs [0] ⟨none, 0, 0, rfl, rfl, rfl⟩ rfl sub_nil
            · replace hL1 := ite_f h10 hL1
              refine c_skip ?_
              refine sat_wc ?_
              refine c_seq ?_
              refine c_region ?_
              refine o_v (v_move rfl) rfl ?_
              refine o_v (v_move rfl) rfl ?_
              refine o_v (v_move rfl) rfl ?_
              refine ite_some hL1 fun h11 hL1 => ?_
              refine o_v (v_strslice Try.underlying9 rfl rfl rfl rfl rfl h11) rfl ?_
              refine o_v (v_move rfl) rfl ?_
              refine o_v (v_move rfl) rfl ?_
              refine o_v (v_move rfl) rfl ?_
              refine o_v (v_move rfl) rfl ?_
              refine o_v (v_bin rfl rfl rfl) rfl ?_
              refine o_v (v_bin rfl rfl rfl) rfl ?_
              refine o_v (v_fieldAddr (v := .pointer (some ⟨b1, 1, none⟩)) rfl (fun _ => by kernel_rfl)) rfl ?_
              refine o_store_box 1 rfl ty9 rfl rfl rfl rfl rfl rfl rfl ?_
              refine o_v (v_fieldAddr (v := .pointer (some ⟨b1, 8, none⟩)) rfl (fun _ => by kernel_rfl)) rfl ?_
              refine o_store_box 1 rfl ty3 rfl rfl rfl rfl rfl rfl rfl ?_
              refine o_v (v_fieldAddr (v := .pointer (some ⟨b1, 9, none⟩)) rfl (fun _ => by kernel_rfl)) rfl ?_
              refine o_store_box 1 rfl ty3 rfl rfl rfl rfl rfl rfl rfl ?_
              refine o_v (v_fieldAddr (v := .pointer (some ⟨b1, 10, none⟩)) rfl (fun _ => by kernel_rfl)) rfl ?_
              refine o_store_box 1 rfl ty3 rfl rfl rfl rfl rfl rfl rfl ?_
              refine o_seq ?_
              refine c_seq ?_
              refine c_region ?_
              refine o_v (v_move rfl) rfl ?_
              refine o_v (v_load_box 1 ty35 rfl rfl rfl rfl rfl) rfl ?_
              refine o_buildSlice (enc := eWord) ([(Word.mk v1.1.Kind (sub text_ at__ v1.2.1) v1.1.Bytes v1.1.Set v1.1.N_ at__ o2.1 (IntKind.wrap .i64 ((IntKind.wrap .i64 (at__ - o2.2.1)) + 1)))] : List Word) [.int .i64 v1.1.Kind, .string (bs (sub text_ at__ v1.2.1)), .slice sa4 sn4 sc4, .int .u64 v1.1.Set.w0, .int .u64 v1.1.Set.w1, .int .u64 v1.1.Set.w2, .int .u64 v1.1.Set.w3, .int .i64 v1.1.N_, .int .i64 at__, .int .i64 o2.1, .int .i64 (IntKind.wrap .i64 ((IntKind.wrap .i64 (at__ - o2.2.1)) + 1))] sl23 rfl (fun _ => by kernel_rfl) rfl rfl rfl (.s rfl (.s rfl (.f 0 rfl (.s rfl (.s rfl (.s rfl (.s rfl (.s rfl (.s rfl (.s rfl (.s rfl (.nil)))))))))))) rfl fun sa5 sn5 sc5 => ?_
              refine ite_some hL1 fun h12 hL1 => ?_
              refine ite_some hL1 fun h13 hL1 => ?_
              refine o_append (enc := eWord) (xs := out_) (ys := ([(Word.mk v1.1.Kind (sub text_ at__ v1.2.1) v1.1.Bytes v1.1.Set v1.1.N_ at__ o2.1 (IntKind.wrap .i64 ((IntKind.wrap .i64 (at__ - o2.2.1)) + 1)))] : List Word)) 4 sl23 rfl rfl rfl (.r 0 _ rfl) h12 h13 rfl fun sa6 sn6 sc6 => ?_
              refine o_v (v_assign rfl) rfl ?_
              refine o_seq ?_
              refine c_region ?_
              refine o_v (v_move rfl) rfl ?_
              refine o_v (v_move rfl) rfl ?_
              obtain ⟨v2, h14, hL1⟩ := bd hL1
              refine o_callSB call29 rfl lent_nil (tri29 k text_ v1.2.1 v2 h14) rfl ?_
              refine o_v (v_assign rfl) rfl ?_
              refine o_nil ?_
              intro a w hs
              exact ⟨j, Nat.lt_succ_self j, (out_ ++ ([(Word.mk v1.1.Kind (sub text_ at__ v1.2.1) v1.1.Bytes v1.1.Set v1.1.N_ at__ o2.1 (IntKind.wrap .i64 ((IntKind.wrap .i64 (at__ - o2.2.1)) + 1)))] : List Word)), o2.1, o2.2.1, o2.2.2, v2, sa6, sn6, sc6, hL1, st_le [3, 3] (le_cons rfl (le_cons rfl (le_cons rfl (le_cons rfl (le_cons rfl (le_cons rfl (le_cons rfl (le_cons rfl le_nil)))))))) rfl sub_nil a w hs⟩
theorem tri14 (k : Nat) (a_ : List Word) (b : List Word) (places : Bool) (sa1 : Option Addr) (sn1 sc1 : Nat) (sa2 : Option Addr) (sn2 sc2 : Nat) (r : Bool) (hF : F.ref02.SameWords k a_ b places = some r) :
    Tri Try.prog 14 [.slice sa1 sn1 sc1, .slice sa2 sn2 sc2, .bool places] [] [(.slice sa1 sn1 sc1, .slice 11 (a_.map eWord)), (.slice sa2 sn2 sc2, .slice 11 (b.map eWord))] (fun o H Φ => o = .ret (.bool r) ∧ H = [] ∧ Φ = []) := by
  unfold F.ref02.SameWords at hF
  refine tri_intro (n := 86) Try.func14 rfl Try.ntmps14 rfl fun w X => ?_
  refine c_seq ?_
  refine c_region ?_
  refine o_v (v_assign rfl) rfl ?_
  refine o_seq ?_
  refine c_seq ?_
  refine c_seq ?_
  refine c_region ?_
  refine o_v (v_move rfl) rfl ?_
  refine o_v (v_lenS (enc := eWord) a_ sl23 rfl (.f 0 rfl)) rfl ?_
  refine o_v (v_move rfl) rfl ?_
  refine o_v (v_lenS (enc := eWord) b sl23 rfl (.f 1 rfl)) rfl ?_
  refine o_v (v_bin rfl rfl rfl) rfl ?_
  refine o_seq ?_
  refine c_cond rfl (fun h1 => ?_) (fun h1 => ?_)
  · replace hF := ite_t h1 hF
    refine c_seq ?_
    refine c_region ?_
    refine o_v (v_assign rfl) rfl ?_
    refine o_seq ?_
    refine c_ret ?_
    cases hF
    refine s_ret1 rfl (r_tmp rfl) fun a w hs => ?_
    exact fin_sel hs [] ⟨rfl, rfl, rfl⟩ rfl sub_nil
  · replace hF := ite_f h1 hF
    refine c_skip ?_
    refine sat_wc ?_
    refine c_seq ?_
    refine c_seq ?_
    refine c_region ?_
    refine o_v (v_assign rfl) rfl ?_
    refine o_seq ?_
    obtain ⟨o1, ho1, hF⟩ := bd hF
    refine c_cut (fun E N' => ∀ (d1 : Unit), o1 = .done d1 → Sat E [(0, .slice sa1 sn1 sc1), (1, .slice sa2 sn2 sc2), (6, .bool false)] [] [(.slice sa1 sn1 sc1, .slice 11 (a_.map eWord)), (.slice sa2 sn2 sc2, .slice 11 (b.map eWord))] N') (fun N1 hN1 => ?_) ?_
    · refine c_block ?_
      refine c_loopE (fun E j a w => ∃ (i : Int), F.ref02.SameWords_l1 a_ b places j i = some o1 ∧ St E [(0, .slice sa1 sn1 sc1), (1, .slice sa2 sn2 sc2), (2, .bool places), (6, .bool false), (7, .int .i64 i)] [] [(.slice sa1 sn1 sc1, .slice 11 (a_.map eWord)), (.slice sa2 sn2 sc2, .slice 11 (b.map eWord))] a w) k ?_ ?_
      · intro a w hs
        exact ⟨0, ho1, st_le [] (le_cons rfl (le_cons rfl (le_cons rfl (le_cons rfl (le_cons rfl le_nil))))) rfl (sub_cons 0 rfl (sub_cons 1 rfl sub_nil)) a w hs⟩
      · rintro j a w ⟨i, hL1, hs⟩
        cases j with
        | zero => cases hL1
        | succ j =>
          refine wc_app hs ?_
          unfold F.ref02.SameWords_l1 at hL1
          refine c_seq ?_
          refine c_seq ?_
          refine c_region ?_
          refine o_v (v_move rfl) rfl ?_
          refine o_v (v_move rfl) rfl ?_
          refine o_v (v_lenS (enc := eWord) a_ sl23 rfl (.f 0 rfl)) rfl ?_
          refine o_v (v_bin rfl rfl rfl) rfl ?_
          refine o_seq ?_
          refine c_cond rfl (fun h2 => ?_) (fun h2 => ?_)
          · replace hL1 := ite_t h2 hL1
            refine c_skip ?_
            refine sat_wc ?_
            refine c_seq ?_
            refine c_cut (fun E N' => ∀ (sa3 : Option Addr) (sn3 sc3 : Nat) (sa4 : Option Addr) (sn4 sc4 : Nat) (b1 : Nat) (b2 : Nat), F.ref02.SameWords_j2 (F.ref02.SameWords_l1 a_ b places j) i = some o1 → Sat E [(0, .slice sa1 sn1 sc1), (1, .slice sa2 sn2 sc2), (2, .bool places), (6, .bool false), (7, .int .i64 i), (8, .pointer (some ⟨b1, 0, none⟩)), (9, .pointer (some ⟨b2, 0, none⟩))] [.box b1 35 [.int .i64 ((at_ a_ i).Kind), .string (bs ((at_ a_ i).Text)), .slice sa3 sn3 sc3, .int .u64 ((at_ a_ i).Set.w0), .int .u64 ((at_ a_ i).Set.w1), .int .u64 ((at_ a_ i).Set.w2), .int .u64 ((at_ a_ i).Set.w3), .int .i64 ((at_ a_ i).N_), .int .i64 ((at_ a_ i).At), .int .i64 ((at_ a_ i).Line), .int .i64 ((at_ a_ i).Col)], .box b2 35 [.int .i64 ((at_ b i).Kind), .string (bs ((at_ b i).Text)), .slice sa4 sn4 sc4, .int .u64 ((at_ b i).Set.w0), .int .u64 ((at_ b i).Set.w1), .int .u64 ((at_ b i).Set.w2), .int .u64 ((at_ b i).Set.w3), .int .i64 ((at_ b i).N_), .int .i64 ((at_ b i).At), .int .i64 ((at_ b i).Line), .int .i64 ((at_ b i).Col)]] [(.slice sa1 sn1 sc1, .slice 11 (a_.map eWord)), (.slice sa2 sn2 sc2, .slice 11 (b.map eWord)), (.slice sa3 sn3 sc3, .slice 1 (((at_ a_ i).Bytes).map eU8)), (.slice sa4 sn4 sc4, .slice 1 (((at_ b i).Bytes).map eU8))] N') (fun N2 hN2 => ?_) ?_
            · refine c_block ?_
              refine c_seq ?_
              refine c_cut (fun E N' => ∀ (sa5 : Option Addr) (sn5 sc5 : Nat) (sa6 : Option Addr) (sn6 sc6 : Nat) (b3 : Nat) (b4 : Nat), F.ref02.SameWords_j3 a_ i b places (F.ref02.SameWords_l1 a_ b places j) = some o1 → Sat E [(0, .slice sa1 sn1 sc1), (1, .slice sa2 sn2 sc2), (2, .bool places), (6, .bool false), (7, .int .i64 i), (8, .pointer (some ⟨b3, 0, none⟩)), (9, .pointer (some ⟨b4, 0, none⟩))] [.box b3 35 [.int .i64 ((at_ a_ i).Kind), .string (bs ((at_ a_ i).Text)), .slice sa5 sn5 sc5, .int .u64 ((at_ a_ i).Set.w0), .int .u64 ((at_ a_ i).Set.w1), .int .u64 ((at_ a_ i).Set.w2), .int .u64 ((at_ a_ i).Set.w3), .int .i64 ((at_ a_ i).N_), .int .i64 ((at_ a_ i).At), .int .i64 ((at_ a_ i).Line), .int .i64 ((at_ a_ i).Col)], .box b4 35 [.int .i64 ((at_ b i).Kind), .string (bs ((at_ b i).Text)), .slice sa6 sn6 sc6, .int .u64 ((at_ b i).Set.w0), .int .u64 ((at_ b i).Set.w1), .int .u64 ((at_ b i).Set.w2), .int .u64 ((at_ b i).Set.w3), .int .i64 ((at_ b i).N_), .int .i64 ((at_ b i).At), .int .i64 ((at_ b i).Line), .int .i64 ((at_ b i).Col)]] [(.slice sa1 sn1 sc1, .slice 11 (a_.map eWord)), (.slice sa2 sn2 sc2, .slice 11 (b.map eWord)), (.slice sa5 sn5 sc5, .slice 1 (((at_ a_ i).Bytes).map eU8)), (.slice sa6 sn6 sc6, .slice 1 (((at_ b i).Bytes).map eU8))] N') (fun N5 hN5 => ?_) ?_
              · refine c_draw (n := 12) [] mixed rfl rfl ?_
                refine d_val 0 rfl pnok (by kernel_rfl) (by kernel_rfl) (by kernel_rfl) rfl (v_move rfl) ?_
                refine d_val 1 rfl pnok (by kernel_rfl) (by kernel_rfl) (by kernel_rfl) rfl (v_move rfl) ?_
                refine ite_some hL1 fun h12 hL1 => ?_
                refine d_val 2 rfl pnok (by kernel_rfl) (by kernel_rfl) (by kernel_rfl) rfl (v_indexAddr_s (xs := a_) (enc := eWord) sl23 rfl rfl (.f 0 rfl) h12) ?_
                refine d_val 4 rfl pnok (by kernel_rfl) (by kernel_rfl) (by kernel_rfl) rfl (v_move rfl) ?_
                refine d_val 5 rfl pnok (by kernel_rfl) (by kernel_rfl) (by kernel_rfl) rfl (v_move rfl) ?_
                refine ite_some hL1 fun h13 hL1 => ?_
                refine d_val 6 rfl pnok (by kernel_rfl) (by kernel_rfl) (by kernel_rfl) rfl (v_indexAddr_s (xs := b) (enc := eWord) sl23 rfl rfl (.f 1 rfl) h13) ?_
                refine d_all [3, 7, 8, 9] (by kernel_rfl) (by simp) ⟨⟨_, rfl, ?_⟩, ⟨_, rfl, ?_⟩, ⟨_, rfl, ?_⟩, ⟨_, rfl, ?_⟩, trivial⟩
                · refine o_load_s (xs := a_) (enc := eWord) ty35 rfl (.f 0 rfl) h12 rfl rfl rfl rfl rfl rfl fun sa7 sn7 sc7 => ?_
                  refine d_next [] 1 rfl rfl ?_
                  refine d_all [7, 8, 9] (by kernel_rfl) (by simp) ⟨⟨_, rfl, ?_⟩, ⟨_, rfl, ?_⟩, ⟨_, rfl, ?_⟩, trivial⟩
                  · refine o_load_s (xs := b) (enc := eWord) ty35 rfl (.f 2 rfl) h13 rfl rfl rfl rfl rfl rfl fun sa8 sn8 sc8 => ?_
                    refine d_next [] 2 rfl rfl ?_
                    refine d_all [8, 9] (by kernel_rfl) (by simp) ⟨⟨_, rfl, ?_⟩, ⟨_, rfl, ?_⟩, trivial⟩
                    · refine o_alloc zero35 rfl rfl fun b5 => ?_
                      refine d_next [] 2 rfl rfl ?_
                      refine d_one 9 rfl (by kernel_rfl) ?_
                      refine o_alloc zero35 rfl rfl fun b6 => ?_
                      refine d_next [] 2 rfl rfl ?_
                      refine d_one 10 rfl (by kernel_rfl) ?_
                      refine o_store_box 1 rfl ty35 rfl rfl rfl rfl rfl rfl rfl ?_
                      refine d_next [] 2 rfl rfl ?_
                      refine d_one 11 rfl (by kernel_rfl) ?_
                      refine o_store_box 0 rfl ty35 rfl rfl rfl rfl rfl rfl rfl ?_
                      refine d_next [] 2 rfl rfl ?_
                      refine d_done (by kernel_rfl) ?_
                      refine s_st ?_ (hN5 sa7 sn7 sc7 sa8 sn8 sc8 b5 b6 hL1)
                      exact st_le [1, 0] (le_cons rfl (le_cons rfl (le_cons rfl (le_cons rfl (le_cons rfl (le_cons rfl (le_cons rfl le_nil))))))) rfl (sub_cons 2 rfl (sub_cons 3 rfl (sub_cons 1 rfl (sub_cons 0 rfl sub_nil))))
                    · refine o_alloc zero35 rfl rfl fun b5 => ?_
                      refine d_next [] 2 rfl rfl ?_
                      refine d_one 8 rfl (by kernel_rfl) ?_
                      refine o_alloc zero35 rfl rfl fun b6 => ?_
                      refine d_next [] 2 rfl rfl ?_
                      refine d_one 10 rfl (by kernel_rfl) ?_
                      refine o_store_box 0 rfl ty35 rfl rfl rfl rfl rfl rfl rfl ?_
                      refine d_next [] 2 rfl rfl ?_
                      refine d_one 11 rfl (by kernel_rfl) ?_
                      refine o_store_box 1 rfl ty35 rfl rfl rfl rfl rfl rfl rfl ?_
                      refine d_next [] 2 rfl rfl ?_
                      refine d_done (by kernel_rfl) ?_
                      refine s_st ?_ (hN5 sa7 sn7 sc7 sa8 sn8 sc8 b6 b5 hL1)
                      exact st_le [0, 0] (le_cons rfl (le_cons rfl (le_cons rfl (le_cons rfl (le_cons rfl (le_cons rfl (le_cons rfl le_nil))))))) rfl (sub_cons 2 rfl (sub_cons 3 rfl (sub_cons 1 rfl (sub_cons 0 rfl sub_nil))))
                  · refine o_alloc zero35 rfl rfl fun b5 => ?_
                    refine d_next [] 1 rfl rfl ?_
                    refine d_all [7, 9] (by kernel_rfl) (by simp) ⟨⟨_, rfl, ?_⟩, ⟨_, rfl, ?_⟩, trivial⟩
                    · refine o_load_s (xs := b) (enc := eWord) ty35 rfl (.f 2 rfl) h13 rfl rfl rfl rfl rfl rfl fun sa8 sn8 sc8 => ?_
                      refine d_next [] 2 rfl rfl ?_
                      refine d_one 9 rfl (by kernel_rfl) ?_
                      refine o_alloc zero35 rfl rfl fun b6 => ?_
                      refine d_next [] 2 rfl rfl ?_
                      refine d_one 10 rfl (by kernel_rfl) ?_
                      refine o_store_box 1 rfl ty35 rfl rfl rfl rfl rfl rfl rfl ?_
                      refine d_next [] 2 rfl rfl ?_
                      refine d_one 11 rfl (by kernel_rfl) ?_
                      refine o_store_box 0 rfl ty35 rfl rfl rfl rfl rfl rfl rfl ?_
                      refine d_next [] 2 rfl rfl ?_
                      refine d_done (by kernel_rfl) ?_
                      refine s_st ?_ (hN5 sa7 sn7 sc7 sa8 sn8 sc8 b5 b6 hL1)
                      exact st_le [1, 0] (le_cons rfl (le_cons rfl (le_cons rfl (le_cons rfl (le_cons rfl (le_cons rfl (le_cons rfl le_nil))))))) rfl (sub_cons 2 rfl (sub_cons 3 rfl (sub_cons 1 rfl (sub_cons 0 rfl sub_nil))))
                    · refine o_alloc zero35 rfl rfl fun b6 => ?_
                      refine d_next [] 1 rfl rfl ?_
                      refine d_all [7, 10] (by kernel_rfl) (by simp) ⟨⟨_, rfl, ?_⟩, ⟨_, rfl, ?_⟩, trivial⟩
                      · refine o_load_s (xs := b) (enc := eWord) ty35 rfl (.f 2 rfl) h13 rfl rfl rfl rfl rfl rfl fun sa8 sn8 sc8 => ?_
                        refine d_next [] 2 rfl rfl ?_
                        refine d_one 10 rfl (by kernel_rfl) ?_
                        refine o_store_box 1 rfl ty35 rfl rfl rfl rfl rfl rfl rfl ?_
                        refine d_next [] 2 rfl rfl ?_
                        refine d_one 11 rfl (by kernel_rfl) ?_
                        refine o_store_box 0 rfl ty35 rfl rfl rfl rfl rfl rfl rfl ?_
                        refine d_next [] 2 rfl rfl ?_
                        refine d_done (by kernel_rfl) ?_
                        refine s_st ?_ (hN5 sa7 sn7 sc7 sa8 sn8 sc8 b5 b6 hL1)
                        exact st_le [1, 0] (le_cons rfl (le_cons rfl (le_cons rfl (le_cons rfl (le_cons rfl (le_cons rfl (le_cons rfl le_nil))))))) rfl (sub_cons 2 rfl (sub_cons 3 rfl (sub_cons 1 rfl (sub_cons 0 rfl sub_nil))))
                      · refine o_store_box 1 rfl ty35 rfl rfl rfl rfl rfl rfl rfl ?_
                        refine d_next [] 1 rfl rfl ?_
                        refine d_one 7 rfl (by kernel_rfl) ?_
                        refine o_load_s (xs := b) (enc := eWord) ty35 rfl (.f 2 rfl) h13 rfl rfl rfl rfl rfl rfl fun sa8 sn8 sc8 => ?_
                        refine d_next [] 2 rfl rfl ?_
                        refine d_one 11 rfl (by kernel_rfl) ?_
                        refine o_store_box 0 rfl ty35 rfl rfl rfl rfl rfl rfl rfl ?_
                        refine d_next [] 2 rfl rfl ?_
                        refine d_done (by kernel_rfl) ?_
                        refine s_st ?_ (hN5 sa7 sn7 sc7 sa8 sn8 sc8 b5 b6 hL1)
                        exact st_le [1, 0] (le_cons rfl (le_cons rfl (le_cons rfl (le_cons rfl (le_cons rfl (le_cons rfl (le_cons rfl le_nil))))))) rfl (sub_cons 2 rfl (sub_cons 3 rfl (sub_cons 1 rfl (sub_cons 0 rfl sub_nil))))
                  · refine o_alloc zero35 rfl rfl fun b5 => ?_
                    refine d_next [] 1 rfl rfl ?_
                    refine d_all [7, 8] (by kernel_rfl) (by simp) ⟨⟨_, rfl, ?_⟩, ⟨_, rfl, ?_⟩, trivial⟩
                    · refine o_load_s (xs := b) (enc := eWord) ty35 rfl (.f 2 rfl) h13 rfl rfl rfl rfl rfl rfl fun sa8 sn8 sc8 => ?_
                      refine d_next [] 2 rfl rfl ?_
                      refine d_one 8 rfl (by kernel_rfl) ?_
                      refine o_alloc zero35 rfl rfl fun b6 => ?_
                      refine d_next [] 2 rfl rfl ?_
                      refine d_one 10 rfl (by kernel_rfl) ?_
                      refine o_store_box 0 rfl ty35 rfl rfl rfl rfl rfl rfl rfl ?_
                      refine d_next [] 2 rfl rfl ?_
                      refine d_one 11 rfl (by kernel_rfl) ?_
                      refine o_store_box 1 rfl ty35 rfl rfl rfl rfl rfl rfl rfl ?_
                      refine d_next [] 2 rfl rfl ?_
                      refine d_done (by kernel_rfl) ?_
                      refine s_st ?_ (hN5 sa7 sn7 sc7 sa8 sn8 sc8 b6 b5 hL1)
                      exact st_le [0, 0] (le_cons rfl (le_cons rfl (le_cons rfl (le_cons rfl (le_cons rfl (le_cons rfl (le_cons rfl le_nil))))))) rfl (sub_cons 2 rfl (sub_cons 3 rfl (sub_cons 1 rfl (sub_cons 0 rfl sub_nil))))
                    · refine o_alloc zero35 rfl rfl fun b6 => ?_
                      refine d_next [] 1 rfl rfl ?_
                      refine d_all [7, 10] (by kernel_rfl) (by simp) ⟨⟨_, rfl, ?_⟩, ⟨_, rfl, ?_⟩, trivial⟩
                      · refine o_load_s (xs := b) (enc := eWord) ty35 rfl (.f 2 rfl) h13 rfl rfl rfl rfl rfl rfl fun sa8 sn8 sc8 => ?_
                        refine d_next [] 2 rfl rfl ?_
                        refine d_one 10 rfl (by kernel_rfl) ?_
                        refine o_store_box 0 rfl ty35 rfl rfl rfl rfl rfl rfl rfl ?_
                        refine d_next [] 2 rfl rfl ?_
                        refine d_one 11 rfl (by kernel_rfl) ?_
                        refine o_store_box 1 rfl ty35 rfl rfl rfl rfl rfl rfl rfl ?_
                        refine d_next [] 2 rfl rfl ?_
                        refine d_done (by kernel_rfl) ?_
                        refine s_st ?_ (hN5 sa7 sn7 sc7 sa8 sn8 sc8 b6 b5 hL1)
                        exact st_le [0, 0] (le_cons rfl (le_cons rfl (le_cons rfl (le_cons rfl (le_cons rfl (le_cons rfl (le_cons rfl le_nil))))))) rfl (sub_cons 2 rfl (sub_cons 3 rfl (sub_cons 1 rfl (sub_cons 0 rfl sub_nil))))
                      · refine o_store_box 0 rfl ty35 rfl rfl rfl rfl rfl rfl rfl ?_
                        refine d_next [] 1 rfl rfl ?_
                        refine d_one 7 rfl (by kernel_rfl) ?_
                        refine o_load_s (xs := b) (enc := eWord) ty35 rfl (.f 2 rfl) h13 rfl rfl rfl rfl rfl rfl fun sa8 sn8 sc8 => ?_
                        refine d_next [] 2 rfl rfl ?_
                        refine d_one 11 rfl (by kernel_rfl) ?_
                        refine o_store_box 1 rfl ty35 rfl rfl rfl rfl rfl rfl rfl ?_
                        refine d_next [] 2 rfl rfl ?_
                        refine d_done (by kernel_rfl) ?_
                        refine s_st ?_ (hN5 sa7 sn7 sc7 sa8 sn8 sc8 b6 b5 hL1)
                        exact st_le [0, 0] (le_cons rfl (le_cons rfl (le_cons rfl (le_cons rfl (le_cons rfl (le_cons rfl (le_cons rfl le_nil))))))) rfl (sub_cons 2 rfl (sub_cons 3 rfl (sub_cons 1 rfl (sub_cons 0 rfl sub_nil))))
                · refine o_load_s (xs := b) (enc := eWord) ty35 rfl (.f 1 rfl) h13 rfl rfl rfl rfl rfl rfl fun sa7 sn7 sc7 => ?_
                  refine d_next [] 1 rfl rfl ?_
                  refine d_all [3, 8, 9] (by kernel_rfl) (by simp) ⟨⟨_, rfl, ?_⟩, ⟨_, rfl, ?_⟩, ⟨_, rfl, ?_⟩, trivial⟩
                  · refine o_load_s (xs := a_) (enc := eWord) ty35 rfl (.f 1 rfl) h12 rfl rfl rfl rfl rfl rfl fun sa8 sn8 sc8 => ?_
                    refine d_next [] 2 rfl rfl ?_
                    refine d_all [8, 9] (by kernel_rfl) (by simp) ⟨⟨_, rfl, ?_⟩, ⟨_, rfl, ?_⟩, trivial⟩
                    · refine o_alloc zero35 rfl rfl fun b5 => ?_
                      refine d_next [] 2 rfl rfl ?_
                      refine d_one 9 rfl (by kernel_rfl) ?_
                      refine o_alloc zero35 rfl rfl fun b6 => ?_
                      refine d_next [] 2 rfl rfl ?_
                      refine d_one 10 rfl (by kernel_rfl) ?_
                      refine o_store_box 1 rfl ty35 rfl rfl rfl rfl rfl rfl rfl ?_
                      refine d_next [] 2 rfl rfl ?_
                      refine d_one 11 rfl (by kernel_rfl) ?_
                      refine o_store_box 0 rfl ty35 rfl rfl rfl rfl rfl rfl rfl ?_
                      refine d_next [] 2 rfl rfl ?_
                      refine d_done (by kernel_rfl) ?_
                      refine s_st ?_ (hN5 sa8 sn8 sc8 sa7 sn7 sc7 b5 b6 hL1)
                      exact st_le [1, 0] (le_cons rfl (le_cons rfl (le_cons rfl (le_cons rfl (le_cons rfl (le_cons rfl (le_cons rfl le_nil))))))) rfl (sub_cons 2 rfl (sub_cons 3 rfl (sub_cons 0 rfl (sub_cons 1 rfl sub_nil))))
                    · refine o_alloc zero35 rfl rfl fun b5 => ?_
                      refine d_next [] 2 rfl rfl ?_
                      refine d_one 8 rfl (by kernel_rfl) ?_
                      refine o_alloc zero35 rfl rfl fun b6 => ?_
                      refine d_next [] 2 rfl rfl ?_
                      refine d_one 10 rfl (by kernel_rfl) ?_
                      refine o_store_box 0 rfl ty35 rfl rfl rfl rfl rfl rfl rfl ?_
                      refine d_next [] 2 rfl rfl ?_
                      refine d_one 11 rfl (by kernel_rfl) ?_
                      refine o_store_box 1 rfl ty35 rfl rfl rfl rfl rfl rfl rfl ?_
                      refine d_next [] 2 rfl rfl ?_
                      refine d_done (by kernel_rfl) ?_
                      refine s_st ?_ (hN5 sa8 sn8 sc8 sa7 sn7 sc7 b6 b5 hL1)
                      exact st_le [0, 0] (le_cons rfl (le_cons rfl (le_cons rfl (le_cons rfl (le_cons rfl (le_cons rfl (le_cons rfl le_nil))))))) rfl (sub_cons 2 rfl (sub_cons 3 rfl (sub_cons 0 rfl (sub_cons 1 rfl sub_nil))))
                  · refine o_alloc zero35 rfl rfl fun b5 => ?_
                    refine d_next [] 1 rfl rfl ?_
                    refine d_all [3, 9] (by kernel_rfl) (by simp) ⟨⟨_, rfl, ?_⟩, ⟨_, rfl, ?_⟩, trivial⟩
                    · refine o_load_s (xs := a_) (enc := eWord) ty35 rfl (.f 1 rfl) h12 rfl rfl rfl rfl rfl rfl fun sa8 sn8 sc8 => ?_
                      refine d_next [] 2 rfl rfl ?_
                      refine d_one 9 rfl (by kernel_rfl) ?_
                      refine o_alloc zero35 rfl rfl fun b6 => ?_
                      refine d_next [] 2 rfl rfl ?_
                      refine d_one 10 rfl (by kernel_rfl) ?_
                      refine o_store_box 1 rfl ty35 rfl rfl rfl rfl rfl rfl rfl ?_
                      refine d_next [] 2 rfl rfl ?_
                      refine d_one 11 rfl (by kernel_rfl) ?_
                      refine o_store_box 0 rfl ty35 rfl rfl rfl rfl rfl rfl rfl ?_
                      refine d_next [] 2 rfl rfl ?_
                      refine d_done (by kernel_rfl) ?_
                      refine s_st ?_ (hN5 sa8 sn8 sc8 sa7 sn7 sc7 b5 b6 hL1)
                      exact st_le [1, 0] (le_cons rfl (le_cons rfl (le_cons rfl (le_cons rfl (le_cons rfl (le_cons rfl (le_cons rfl le_nil))))))) rfl (sub_cons 2 rfl (sub_cons 3 rfl (sub_cons 0 rfl (sub_cons 1 rfl sub_nil))))
                    · refine o_alloc zero35 rfl rfl fun b6 => ?_
                      refine d_next [] 1 rfl rfl ?_
                      refine d_one 3 rfl (by kernel_rfl) ?_
                      refine o_load_s (xs := a_) (enc := eWord) ty35 rfl (.f 1 rfl) h12 rfl rfl rfl rfl rfl rfl fun sa8 sn8 sc8 => ?_
                      refine d_next [] 2 rfl rfl ?_
                      refine d_one 10 rfl (by kernel_rfl) ?_
                      refine o_store_box 1 rfl ty35 rfl rfl rfl rfl rfl rfl rfl ?_
                      refine d_next [] 2 rfl rfl ?_
                      refine d_one 11 rfl (by kernel_rfl) ?_
                      refine o_store_box 0 rfl ty35 rfl rfl rfl rfl rfl rfl rfl ?_
                      refine d_next [] 2 rfl rfl ?_
                      refine d_done (by kernel_rfl) ?_
                      refine s_st ?_ (hN5 sa8 sn8 sc8 sa7 sn7 sc7 b5 b6 hL1)
                      exact st_le [1, 0] (le_cons rfl (le_cons rfl (le_cons rfl (le_cons rfl (le_cons rfl (le_cons rfl (le_cons rfl le_nil))))))) rfl (sub_cons 2 rfl (sub_cons 3 rfl (sub_cons 0 rfl (sub_cons 1 rfl sub_nil))))
                  · refine o_alloc zero35 rfl rfl fun b5 => ?_
                    refine d_next [] 1 rfl rfl ?_
                    refine d_all [3, 8] (by kernel_rfl) (by simp) ⟨⟨_, rfl, ?_⟩, ⟨_, rfl, ?_⟩, trivial⟩
                    · refine o_load_s (xs := a_) (enc := eWord) ty35 rfl (.f 1 rfl) h12 rfl rfl rfl rfl rfl rfl fun sa8 sn8 sc8 => ?_
                      refine d_next [] 2 rfl rfl ?_
                      refine d_one 8 rfl (by kernel_rfl) ?_
                      refine o_alloc zero35 rfl rfl fun b6 => ?_
                      refine d_next [] 2 rfl rfl ?_
                      refine d_one 10 rfl (by kernel_rfl) ?_
                      refine o_store_box 0 rfl ty35 rfl rfl rfl rfl rfl rfl rfl ?_
                      refine d_next [] 2 rfl rfl ?_
                      refine d_one 11 rfl (by kernel_rfl) ?_
                      refine o_store_box 1 rfl ty35 rfl rfl rfl rfl rfl rfl rfl ?_
                      refine d_next [] 2 rfl rfl ?_
                      refine d_done (by kernel_rfl) ?_
                      refine s_st ?_ (hN5 sa8 sn8 sc8 sa7 sn7 sc7 b6 b5 hL1)
                      exact st_le [0, 0] (le_cons rfl (le_cons rfl (le_cons rfl (le_cons rfl (le_cons rfl (le_cons rfl (le_cons rfl le_nil))))))) rfl (sub_cons 2 rfl (sub_cons 3 rfl (sub_cons 0 rfl (sub_cons 1 rfl sub_nil))))
                    · refine o_alloc zero35 rfl rfl fun b6 => ?_
                      refine d_next [] 1 rfl rfl ?_
                      refine d_one 3 rfl (by kernel_rfl) ?_
                      refine o_load_s (xs := a_) (enc := eWord) ty35 rfl (.f 1 rfl) h12 rfl rfl rfl rfl rfl rfl fun sa8 sn8 sc8 => ?_
                      refine d_next [] 2 rfl rfl ?_
                      refine d_one 10 rfl (by kernel_rfl) ?_
                      refine o_store_box 0 rfl ty35 rfl rfl rfl rfl rfl rfl rfl ?_
                      refine d_next [] 2 rfl rfl ?_
                      refine d_one 11 rfl (by kernel_rfl) ?_
                      refine o_store_box 1 rfl ty35 rfl rfl rfl rfl rfl rfl rfl ?_
                      refine d_next [] 2 rfl rfl ?_
                      refine d_done (by kernel_rfl) ?_
                      refine s_st ?_ (hN5 sa8 sn8 sc8 sa7 sn7 sc7 b6 b5 hL1)
                      exact st_le [0, 0] (le_cons rfl (le_cons rfl (le_cons rfl (le_cons rfl (le_cons rfl (le_cons rfl (le_cons rfl le_nil))))))) rfl (sub_cons 2 rfl (sub_cons 3 rfl (sub_cons 0 rfl (sub_cons 1 rfl sub_nil))))
                · refine o_alloc zero35 rfl rfl fun b5 => ?_
                  refine d_next [] 0 rfl rfl ?_
                  refine d_all [3, 7, 9] (by kernel_rfl) (by simp) ⟨⟨_, rfl, ?_⟩, ⟨_, rfl, ?_⟩, ⟨_, rfl, ?_⟩, trivial⟩
                  · refine o_load_s (xs := a_) (enc := eWord) ty35 rfl (.f 0 rfl) h12 rfl rfl rfl rfl rfl rfl fun sa7 sn7 sc7 => ?_
                    refine d_next [] 1 rfl rfl ?_
                    refine d_all [7, 9] (by kernel_rfl) (by simp) ⟨⟨_, rfl, ?_⟩, ⟨_, rfl, ?_⟩, trivial⟩
                    · refine o_load_s (xs := b) (enc := eWord) ty35 rfl (.f 2 rfl) h13 rfl rfl rfl rfl rfl rfl fun sa8 sn8 sc8 => ?_
                      refine d_next [] 2 rfl rfl ?_
                      refine d_one 9 rfl (by kernel_rfl) ?_
                      refine o_alloc zero35 rfl rfl fun b6 => ?_
                      refine d_next [] 2 rfl rfl ?_
                      refine d_one 10 rfl (by kernel_rfl) ?_
                      refine o_store_box 1 rfl ty35 rfl rfl rfl rfl rfl rfl rfl ?_
                      refine d_next [] 2 rfl rfl ?_
                      refine d_one 11 rfl (by kernel_rfl) ?_
                      refine o_store_box 0 rfl ty35 rfl rfl rfl rfl rfl rfl rfl ?_
                      refine d_next [] 2 rfl rfl ?_
                      refine d_done (by kernel_rfl) ?_
                      refine s_st ?_ (hN5 sa7 sn7 sc7 sa8 sn8 sc8 b5 b6 hL1)
                      exact st_le [1, 0] (le_cons rfl (le_cons rfl (le_cons rfl (le_cons rfl (le_cons rfl (le_cons rfl (le_cons rfl le_nil))))))) rfl (sub_cons 2 rfl (sub_cons 3 rfl (sub_cons 1 rfl (sub_cons 0 rfl sub_nil))))
                    · refine o_alloc zero35 rfl rfl fun b6 => ?_
                      refine d_next [] 1 rfl rfl ?_
                      refine d_all [7, 10] (by kernel_rfl) (by simp) ⟨⟨_, rfl, ?_⟩, ⟨_, rfl, ?_⟩, trivial⟩
                      · refine o_load_s (xs := b) (enc := eWord) ty35 rfl (.f 2 rfl) h13 rfl rfl rfl rfl rfl rfl fun sa8 sn8 sc8 => ?_
                        refine d_next [] 2 rfl rfl ?_
                        refine d_one 10 rfl (by kernel_rfl) ?_
                        refine o_store_box 1 rfl ty35 rfl rfl rfl rfl rfl rfl rfl ?_
                        refine d_next [] 2 rfl rfl ?_
                        refine d_one 11 rfl (by kernel_rfl) ?_
                        refine o_store_box 0 rfl ty35 rfl rfl rfl rfl rfl rfl rfl ?_
                        refine d_next [] 2 rfl rfl ?_
                        refine d_done (by kernel_rfl) ?_
                        refine s_st ?_ (hN5 sa7 sn7 sc7 sa8 sn8 sc8 b5 b6 hL1)
                        exact st_le [1, 0] (le_cons rfl (le_cons rfl (le_cons rfl (le_cons rfl (le_cons rfl (le_cons rfl (le_cons rfl le_nil))))))) rfl (sub_cons 2 rfl (sub_cons 3 rfl (sub_cons 1 rfl (sub_cons 0 rfl sub_nil))))
                      · refine o_store_box 1 rfl ty35 rfl rfl rfl rfl rfl rfl rfl ?_
                        refine d_next [] 1 rfl rfl ?_
                        refine d_one 7 rfl (by kernel_rfl) ?_
                        refine o_load_s (xs := b) (enc := eWord) ty35 rfl (.f 2 rfl) h13 rfl rfl rfl rfl rfl rfl fun sa8 sn8 sc8 => ?_
                        refine d_next [] 2 rfl rfl ?_
                        refine d_one 11 rfl (by kernel_rfl) ?_
                        refine o_store_box 0 rfl ty35 rfl rfl rfl rfl rfl rfl rfl ?_
                        refine d_next [] 2 rfl rfl ?_
                        refine d_done (by kernel_rfl) ?_
                        refine s_st ?_ (hN5 sa7 sn7 sc7 sa8 sn8 sc8 b5 b6 hL1)
                        exact st_le [1, 0] (le_cons rfl (le_cons rfl (le_cons rfl (le_cons rfl (le_cons rfl (le_cons rfl (le_cons rfl le_nil))))))) rfl (sub_cons 2 rfl (sub_cons 3 rfl (sub_cons 1 rfl (sub_cons 0 rfl sub_nil))))
                  · refine o_load_s (xs := b) (enc := eWord) ty35 rfl (.f 1 rfl) h13 rfl rfl rfl rfl rfl rfl fun sa7 sn7 sc7 => ?_
                    refine d_next [] 1 rfl rfl ?_
                    refine d_all [3, 9] (by kernel_rfl) (by simp) ⟨⟨_, rfl, ?_⟩, ⟨_, rfl, ?_⟩, trivial⟩
                    · refine o_load_s (xs := a_) (enc := eWord) ty35 rfl (.f 1 rfl) h12 rfl rfl rfl rfl rfl rfl fun sa8 sn8 sc8 => ?_
                      refine d_next [] 2 rfl rfl ?_
                      refine d_one 9 rfl (by kernel_rfl) ?_
                      refine o_alloc zero35 rfl rfl fun b6 => ?_
                      refine d_next [] 2 rfl rfl ?_
                      refine d_one 10 rfl (by kernel_rfl) ?_
                      refine o_store_box 1 rfl ty35 rfl rfl rfl rfl rfl rfl rfl ?_
                      refine d_next [] 2 rfl rfl ?_
                      refine d_one 11 rfl (by kernel_rfl) ?_
                      refine o_store_box 0 rfl ty35 rfl rfl rfl rfl rfl rfl rfl ?_
                      refine d_next [] 2 rfl rfl ?_
                      refine d_done (by kernel_rfl) ?_
                      refine s_st ?_ (hN5 sa8 sn8 sc8 sa7 sn7 sc7 b5 b6 hL1)
                      exact st_le [1, 0] (le_cons rfl (le_cons rfl (le_cons rfl (le_cons rfl (le_cons rfl (le_cons rfl (le_cons rfl le_nil))))))) rfl (sub_cons 2 rfl (sub_cons 3 rfl (sub_cons 0 rfl (sub_cons 1 rfl sub_nil))))
                    · refine o_alloc zero35 rfl rfl fun b6 => ?_
                      refine d_next [] 1 rfl rfl ?_
                      refine d_one 3 rfl (by kernel_rfl) ?_
                      refine o_load_s (xs := a_) (enc := eWord) ty35 rfl (.f 1 rfl) h12 rfl rfl rfl rfl rfl rfl fun sa8 sn8 sc8 => ?_
                      refine d_next [] 2 rfl rfl ?_
                      refine d_one 10 rfl (by kernel_rfl) ?_
                      refine o_store_box 1 rfl ty35 rfl rfl rfl rfl rfl rfl rfl ?_
                      refine d_next [] 2 rfl rfl ?_
                      refine d_one 11 rfl (by kernel_rfl) ?_
                      refine o_store_box 0 rfl ty35 rfl rfl rfl rfl rfl rfl rfl ?_
                      refine d_next [] 2 rfl rfl ?_
                      refine d_done (by kernel_rfl) ?_
                      refine s_st ?_ (hN5 sa8 sn8 sc8 sa7 sn7 sc7 b5 b6 hL1)
                      exact st_le [1, 0] (le_cons rfl (le_cons rfl (le_cons rfl (le_cons rfl (le_cons rfl (le_cons rfl (le_cons rfl le_nil))))))) rfl (sub_cons 2 rfl (sub_cons 3 rfl (sub_cons 0 rfl (sub_cons 1 rfl sub_nil))))
                  · refine o_alloc zero35 rfl rfl fun b6 => ?_
                    refine d_next [] 0 rfl rfl ?_
                    refine d_all [3, 7] (by kernel_rfl) (by simp) ⟨⟨_, rfl, ?_⟩, ⟨_, rfl, ?_⟩, trivial⟩
                    · refine o_load_s (xs := a_) (enc := eWord) ty35 rfl (.f 0 rfl) h12 rfl rfl rfl rfl rfl rfl fun sa7 sn7 sc7 => ?_
                      refine d_next [] 1 rfl rfl ?_
                      refine d_all [7, 10] (by kernel_rfl) (by simp) ⟨⟨_, rfl, ?_⟩, ⟨_, rfl, ?_⟩, trivial⟩
                      · refine o_load_s (xs := b) (enc := eWord) ty35 rfl (.f 2 rfl) h13 rfl rfl rfl rfl rfl rfl fun sa8 sn8 sc8 => ?_
                        refine d_next [] 2 rfl rfl ?_
                        refine d_one 10 rfl (by kernel_rfl) ?_
                        refine o_store_box 1 rfl ty35 rfl rfl rfl rfl rfl rfl rfl ?_
                        refine d_next [] 2 rfl rfl ?_
                        refine d_one 11 rfl (by kernel_rfl) ?_
                        refine o_store_box 0 rfl ty35 rfl rfl rfl rfl rfl rfl rfl ?_
                        refine d_next [] 2 rfl rfl ?_
                        refine d_done (by kernel_rfl) ?_
                        refine s_st ?_ (hN5 sa7 sn7 sc7 sa8 sn8 sc8 b5 b6 hL1)
                        exact st_le [1, 0] (le_cons rfl (le_cons rfl (le_cons rfl (le_cons rfl (le_cons rfl (le_cons rfl (le_cons rfl le_nil))))))) rfl (sub_cons 2 rfl (sub_cons 3 rfl (sub_cons 1 rfl (sub_cons 0 rfl sub_nil))))
                      · refine o_store_box 1 rfl ty35 rfl rfl rfl rfl rfl rfl rfl ?_
                        refine d_next [] 1 rfl rfl ?_
                        refine d_one 7 rfl (by kernel_rfl) ?_
                        refine o_load_s (xs := b) (enc := eWord) ty35 rfl (.f 2 rfl) h13 rfl rfl rfl rfl rfl rfl fun sa8 sn8 sc8 => ?_
                        refine d_next [] 2 rfl rfl ?_
                        refine d_one 11 rfl (by kernel_rfl) ?_
                        refine o_store_box 0 rfl ty35 rfl rfl rfl rfl rfl rfl rfl ?_
                        refine d_next [] 2 rfl rfl ?_
                        refine d_done (by kernel_rfl) ?_
                        refine s_st ?_ (hN5 sa7 sn7 sc7 sa8 sn8 sc8 b5 b6 hL1)
                        exact st_le [1, 0] (le_cons rfl (le_cons rfl (le_cons rfl (le_cons rfl (le_cons rfl (le_cons rfl (le_cons rfl le_nil))))))) rfl (sub_cons 2 rfl (sub_cons 3 rfl (sub_cons 1 rfl (sub_cons 0 rfl sub_nil))))
                    · refine o_load_s (xs := b) (enc := eWord) ty35 rfl (.f 1 rfl) h13 rfl rfl rfl rfl rfl rfl fun sa7 sn7 sc7 => ?_
                      refine d_next [] 1 rfl rfl ?_
                      refine d_one 3 rfl (by kernel_rfl) ?_
                      refine o_load_s (xs := a_) (enc := eWord) ty35 rfl (.f 1 rfl) h12 rfl rfl rfl rfl rfl rfl fun sa8 sn8 sc8 => ?_
                      refine d_next [] 2 rfl rfl ?_
                      refine d_one 10 rfl (by kernel_rfl) ?_
                      refine o_store_box 1 rfl ty35 rfl rfl rfl rfl rfl rfl rfl ?_
                      refine d_next [] 2 rfl rfl ?_
                      refine d_one 11 rfl (by kernel_rfl) ?_
                      refine o_store_box 0 rfl ty35 rfl rfl rfl rfl rfl rfl rfl ?_
                      refine d_next [] 2 rfl rfl ?_
                      refine d_done (by kernel_rfl) ?_
                      refine s_st ?_ (hN5 sa8 sn8 sc8 sa7 sn7 sc7 b5 b6 hL1)
                      exact st_le [1, 0] (le_cons rfl (le_cons rfl (le_cons rfl (le_cons rfl (le_cons rfl (le_cons rfl (le_cons rfl le_nil))))))) rfl (sub_cons 2 rfl (sub_cons 3 rfl (sub_cons 0 rfl (sub_cons 1 rfl sub_nil))))
                · refine o_alloc zero35 rfl rfl fun b5 => ?_
                  refine d_next [] 0 rfl rfl ?_
                  refine d_all [3, 7, 8] (by kernel_rfl) (by simp) ⟨⟨_, rfl, ?_⟩, ⟨_, rfl, ?_⟩, ⟨_, rfl, ?_⟩, trivial⟩
                  · refine o_load_s (xs := a_) (enc := eWord) ty35 rfl (.f 0 rfl) h12 rfl rfl rfl rfl rfl rfl fun sa7 sn7 sc7 => ?_
                    refine d_next [] 1 rfl rfl ?_
                    refine d_all [7, 8] (by kernel_rfl) (by simp) ⟨⟨_, rfl, ?_⟩, ⟨_, rfl, ?_⟩, trivial⟩
                    · refine o_load_s (xs := b) (enc := eWord) ty35 rfl (.f 2 rfl) h13 rfl rfl rfl rfl rfl rfl fun sa8 sn8 sc8 => ?_
                      refine d_next [] 2 rfl rfl ?_
                      refine d_one 8 rfl (by kernel_rfl) ?_
                      refine o_alloc zero35 rfl rfl fun b6 => ?_
                      refine d_next [] 2 rfl rfl ?_
                      refine d_one 10 rfl (by kernel_rfl) ?_
                      refine o_store_box 0 rfl ty35 rfl rfl rfl rfl rfl rfl rfl ?_
                      refine d_next [] 2 rfl rfl ?_
                      refine d_one 11 rfl (by kernel_rfl) ?_
                      refine o_store_box 1 rfl ty35 rfl rfl rfl rfl rfl rfl rfl ?_
                      refine d_next [] 2 rfl rfl ?_
                      refine d_done (by kernel_rfl) ?_
                      refine s_st ?_ (hN5 sa7 sn7 sc7 sa8 sn8 sc8 b6 b5 hL1)
                      exact st_le [0, 0] (le_cons rfl (le_cons rfl (le_cons rfl (le_cons rfl (le_cons rfl (le_cons rfl (le_cons rfl le_nil))))))) rfl (sub_cons 2 rfl (sub_cons 3 rfl (sub_cons 1 rfl (sub_cons 0 rfl sub_nil))))
                    · refine o_alloc zero35 rfl rfl fun b6 => ?_
                      refine d_next [] 1 rfl rfl ?_
                      refine d_all [7, 10] (by kernel_rfl) (by simp) ⟨⟨_, rfl, ?_⟩, ⟨_, rfl, ?_⟩, trivial⟩
                      · refine o_load_s (xs := b) (enc := eWord) ty35 rfl (.f 2 rfl) h13 rfl rfl rfl rfl rfl rfl fun sa8 sn8 sc8 => ?_
                        refine d_next [] 2 rfl rfl ?_
                        refine d_one 10 rfl (by kernel_rfl) ?_
                        refine o_store_box 0 rfl ty35 rfl rfl rfl rfl rfl rfl rfl ?_
                        refine d_next [] 2 rfl rfl ?_
                        refine d_one 11 rfl (by kernel_rfl) ?_
                        refine o_store_box 1 rfl ty35 rfl rfl rfl rfl rfl rfl rfl ?_
                        refine d_next [] 2 rfl rfl ?_
                        refine d_done (by kernel_rfl) ?_
                        refine s_st ?_ (hN5 sa7 sn7 sc7 sa8 sn8 sc8 b6 b5 hL1)
                        exact st_le [0, 0] (le_cons rfl (le_cons rfl (le_cons rfl (le_cons rfl (le_cons rfl (le_cons rfl (le_cons rfl le_nil))))))) rfl (sub_cons 2 rfl (sub_cons 3 rfl (sub_cons 1 rfl (sub_cons 0 rfl sub_nil))))
                      · refine o_store_box 0 rfl ty35 rfl rfl rfl rfl rfl rfl rfl ?_
                        refine d_next [] 1 rfl rfl ?_
                        refine d_one 7 rfl (by kernel_rfl) ?_
                        refine o_load_s (xs := b) (enc := eWord) ty35 rfl (.f 2 rfl) h13 rfl rfl rfl rfl rfl rfl fun sa8 sn8 sc8 => ?_
                        refine d_next [] 2 rfl rfl ?_
                        refine d_one 11 rfl (by kernel_rfl) ?_
                        refine o_store_box 1 rfl ty35 rfl rfl rfl rfl rfl rfl rfl ?_
                        refine d_next [] 2 rfl rfl ?_
                        refine d_done (by kernel_rfl) ?_
                        refine s_st ?_ (hN5 sa7 sn7 sc7 sa8 sn8 sc8 b6 b5 hL1)
                        exact st_le [0, 0] (le_cons rfl (le_cons rfl (le_cons rfl (le_cons rfl (le_cons rfl (le_cons rfl (le_cons rfl le_nil))))))) rfl (sub_cons 2 rfl (sub_cons 3 rfl (sub_cons 1 rfl (sub_cons 0 rfl sub_nil))))
                  · refine o_load_s (xs := b) (enc := eWord) ty35 rfl (.f 1 rfl) h13 rfl rfl rfl rfl rfl rfl fun sa7 sn7 sc7 => ?_
                    refine d_next [] 1 rfl rfl ?_
                    refine d_all [3, 8] (by kernel_rfl) (by simp) ⟨⟨_, rfl, ?_⟩, ⟨_, rfl, ?_⟩, trivial⟩
                    · refine o_load_s (xs := a_) (enc := eWord) ty35 rfl (.f 1 rfl) h12 rfl rfl rfl rfl rfl rfl fun sa8 sn8 sc8 => ?_
                      refine d_next [] 2 rfl rfl ?_
                      refine d_one 8 rfl (by kernel_rfl) ?_
                      refine o_alloc zero35 rfl rfl fun b6 => ?_
                      refine d_next [] 2 rfl rfl ?_
                      refine d_one 10 rfl (by kernel_rfl) ?_
                      refine o_store_box 0 rfl ty35 rfl rfl rfl rfl rfl rfl rfl ?_
                      refine d_next [] 2 rfl rfl ?_
                      refine d_one 11 rfl (by kernel_rfl) ?_
                      refine o_store_box 1 rfl ty35 rfl rfl rfl rfl rfl rfl rfl ?_
                      refine d_next [] 2 rfl rfl ?_
                      refine d_done (by kernel_rfl) ?_
                      refine s_st ?_ (hN5 sa8 sn8 sc8 sa7 sn7 sc7 b6 b5 hL1)
                      exact st_le [0, 0] (le_cons rfl (le_cons rfl (le_cons rfl (le_cons rfl (le_cons rfl (le_cons rfl (le_cons rfl le_nil))))))) rfl (sub_cons 2 rfl (sub_cons 3 rfl (sub_cons 0 rfl (sub_cons 1 rfl sub_nil))))
                    · refine o_alloc zero35 rfl rfl fun b6 => ?_
                      refine d_next [] 1 rfl rfl ?_
                      refine d_one 3 rfl (by kernel_rfl) ?_
                      refine o_load_s (xs := a_) (enc := eWord) ty35 rfl (.f 1 rfl) h12 rfl rfl rfl rfl rfl rfl fun sa8 sn8 sc8 => ?_
                      refine d_next [] 2 rfl rfl ?_
                      refine d_one 10 rfl (by kernel_rfl) ?_
                      refine o_store_box 0 rfl ty35 rfl rfl rfl rfl rfl rfl rfl ?_
                      refine d_next [] 2 rfl rfl ?_
                      refine d_one 11 rfl (by kernel_rfl) ?_
                      refine o_store_box 1 rfl ty35 rfl rfl rfl rfl rfl rfl rfl ?_
                      refine d_next [] 2 rfl rfl ?_
                      refine d_done (by kernel_rfl) ?_
                      refine s_st ?_ (hN5 sa8 sn8 sc8 sa7 sn7 sc7 b6 b5 hL1)
                      exact st_le [0, 0] (le_cons rfl (le_cons rfl (le_cons rfl (le_cons rfl (le_cons rfl (le_cons rfl (le_cons rfl le_nil))))))) rfl (sub_cons 2 rfl (sub_cons 3 rfl (sub_cons 0 rfl (sub_cons 1 rfl sub_nil))))
                  · refine o_alloc zero35 rfl rfl fun b6 => ?_
                    refine d_next [] 0 rfl rfl ?_
                    refine d_all [3, 7] (by kernel_rfl) (by simp) ⟨⟨_, rfl, ?_⟩, ⟨_, rfl, ?_⟩, trivial⟩
                    · refine o_load_s (xs := a_) (enc := eWord) ty35 rfl (.f 0 rfl) h12 rfl rfl rfl rfl rfl rfl fun sa7 sn7 sc7 => ?_
                      refine d_next [] 1 rfl rfl ?_
                      refine d_all [7, 10] (by kernel_rfl) (by simp) ⟨⟨_, rfl, ?_⟩, ⟨_, rfl, ?_⟩, trivial⟩
                      · refine o_load_s (xs := b) (enc := eWord) ty35 rfl (.f 2 rfl) h13 rfl rfl rfl rfl rfl rfl fun sa8 sn8 sc8 => ?_
                        refine d_next [] 2 rfl rfl ?_
                        refine d_one 10 rfl (by kernel_rfl) ?_
                        refine o_store_box 0 rfl ty35 rfl rfl rfl rfl rfl rfl rfl ?_
                        refine d_next [] 2 rfl rfl ?_
                        refine d_one 11 rfl (by kernel_rfl) ?_
                        refine o_store_box 1 rfl ty35 rfl rfl rfl rfl rfl rfl rfl ?_
                        refine d_next [] 2 rfl rfl ?_
                        refine d_done (by kernel_rfl) ?_
                        refine s_st ?_ (hN5 sa7 sn7 sc7 sa8 sn8 sc8 b6 b5 hL1)
                        exact st_le [0, 0] (le_cons rfl (le_cons rfl (le_cons rfl (le_cons rfl (le_cons rfl (le_cons rfl (le_cons rfl le_nil))))))) rfl (sub_cons 2 rfl (sub_cons 3 rfl (sub_cons 1 rfl (sub_cons 0 rfl sub_nil))))
                      · refine o_store_box 0 rfl ty35 rfl rfl rfl rfl rfl rfl rfl ?_
                        refine d_next [] 1 rfl rfl ?_
                        refine d_one 7 rfl (by kernel_rfl) ?_
                        refine o_load_s (xs := b) (enc := eWord) ty35 rfl (.f 2 rfl) h13 rfl rfl rfl rfl rfl rfl fun sa8 sn8 sc8 => ?_
                        refine d_next [] 2 rfl rfl ?_
                        refine d_one 11 rfl (by kernel_rfl) ?_
                        refine o_store_box 1 rfl ty35 rfl rfl rfl rfl rfl rfl rfl ?_
                        refine d_next [] 2 rfl rfl ?_
                        refine d_done (by kernel_rfl) ?_
                        refine s_st ?_ (hN5 sa7 sn7 sc7 sa8 sn8 sc8 b6 b5 hL1)
                        exact st_le [0, 0] (le_cons rfl (le_cons rfl (le_cons rfl (le_cons rfl (le_cons rfl (le_cons rfl (le_cons rfl le_nil))))))) rfl (sub_cons 2 rfl (sub_cons 3 rfl (sub_cons 1 rfl (sub_cons 0 rfl sub_nil))))
                    · refine o_load_s (xs := b) (enc := eWord) ty35 rfl (.f 1 rfl) h13 rfl rfl rfl rfl rfl rfl fun sa7 sn7 sc7 => ?_
                      refine d_next [] 1 rfl rfl ?_
                      refine d_one 3 rfl (by kernel_rfl) ?_
                      refine o_load_s (xs := a_) (enc := eWord) ty35 rfl (.f 1 rfl) h12 rfl rfl rfl rfl rfl rfl fun sa8 sn8 sc8 => ?_
                      refine d_next [] 2 rfl rfl ?_
                      refine d_one 10 rfl (by kernel_rfl) ?_
                      refine o_store_box 0 rfl ty35 rfl rfl rfl rfl rfl rfl rfl ?_
                      refine d_next [] 2 rfl rfl ?_
                      refine d_one 11 rfl (by kernel_rfl) ?_
                      refine o_store_box 1 rfl ty35 rfl rfl rfl rfl rfl rfl rfl ?_
                      refine d_next [] 2 rfl rfl ?_
                      refine d_done (by kernel_rfl) ?_
                      refine s_st ?_ (hN5 sa8 sn8 sc8 sa7 sn7 sc7 b6 b5 hL1)
                      exact st_le [0, 0] (le_cons rfl (le_cons rfl (le_cons rfl (le_cons rfl (le_cons rfl (le_cons rfl (le_cons rfl le_nil))))))) rfl (sub_cons 2 rfl (sub_cons 3 rfl (sub_cons 0 rfl (sub_cons 1 rfl sub_nil))))
              · intro sa5 sn5 sc5 sa6 sn6 sc6 b3 b4 hL1
                unfold F.ref02.SameWords_j3 at hL1
                refine sat_wc ?_
                refine c_seq ?_
                refine c_seq ?_
                refine c_cut (fun E N' => ∀ (t63 : Bool), F.ref02.SameWords_j4 places a_ i b (F.ref02.SameWords_l1 a_ b places j) t63 = some o1 → Sat E [(0, .slice sa1 sn1 sc1), (1, .slice sa2 sn2 sc2), (2, .bool places), (6, .bool false), (7, .int .i64 i), (8, .pointer (some ⟨b3, 0, none⟩)), (9, .pointer (some ⟨b4, 0, none⟩)), (63, .bool t63)] [.box b3 35 [.int .i64 ((at_ a_ i).Kind), .string (bs ((at_ a_ i).Text)), .slice sa5 sn5 sc5, .int .u64 ((at_ a_ i).Set.w0), .int .u64 ((at_ a_ i).Set.w1), .int .u64 ((at_ a_ i).Set.w2), .int .u64 ((at_ a_ i).Set.w3), .int .i64 ((at_ a_ i).N_), .int .i64 ((at_ a_ i).At), .int .i64 ((at_ a_ i).Line), .int .i64 ((at_ a_ i).Col)], .box b4 35 [.int .i64 ((at_ b i).Kind), .string (bs ((at_ b i).Text)), .slice sa6 sn6 sc6, .int .u64 ((at_ b i).Set.w0), .int .u64 ((at_ b i).Set.w1), .int .u64 ((at_ b i).Set.w2), .int .u64 ((at_ b i).Set.w3), .int .i64 ((at_ b i).N_), .int .i64 ((at_ b i).At), .int .i64 ((at_ b i).Line), .int .i64 ((at_ b i).Col)]] [(.slice sa1 sn1 sc1, .slice 11 (a_.map eWord)), (.slice sa2 sn2 sc2, .slice 11 (b.map eWord)), (.slice sa5 sn5 sc5, .slice 1 (((at_ a_ i).Bytes).map eU8)), (.slice sa6 sn6 sc6, .slice 1 (((at_ b i).Bytes).map eU8))] N') (fun N5 hN5 => ?_) ?_
                · refine c_region ?_
                  refine o_v (v_fieldAddr (v := .pointer (some ⟨b3, 0, none⟩)) rfl (fun _ => by kernel_rfl)) rfl ?_
                  refine o_v (v_load_box 0 ty3 rfl rfl rfl rfl rfl) rfl ?_
                  refine o_v (v_fieldAddr (v := .pointer (some ⟨b4, 0, none⟩)) rfl (fun _ => by kernel_rfl)) rfl ?_
                  refine o_v (v_load_box 1 ty3 rfl rfl rfl rfl rfl) rfl ?_
                  refine o_v (v_bin rfl rfl rfl) rfl ?_
                  refine o_v (v_move rfl) rfl ?_
                  refine o_split (t := 34) rfl (fun h8 => ?_) (fun h8 => ?_)
                  · replace hL1 := ite_t h8 hL1
                    refine o_off rfl rfl (by decide) rfl ?_
                    refine o_off rfl rfl (by decide) rfl ?_
                    refine o_off rfl rfl (by decide) rfl ?_
                    refine o_off rfl rfl (by decide) rfl ?_
                    refine o_off rfl rfl (by decide) rfl ?_
                    refine o_v (v_pick_t rfl rfl) rfl ?_
                    refine o_v (v_move rfl) rfl ?_
                    refine o_off rfl rfl (by decide) rfl ?_
                    refine o_off rfl rfl (by decide) rfl ?_
                    refine o_off rfl rfl (by decide) rfl ?_
                    refine o_off rfl rfl (by decide) rfl ?_
                    refine o_off rfl rfl (by decide) rfl ?_
                    refine o_off rfl rfl (by decide) rfl ?_
                    refine o_off rfl rfl (by decide) rfl ?_
                    refine o_v (v_pick_t rfl rfl) rfl ?_
                    refine o_v (v_move rfl) rfl ?_
                    refine o_off rfl rfl (by decide) rfl ?_
                    refine o_off rfl rfl (by decide) rfl ?_
                    refine o_off rfl rfl (by decide) rfl ?_
                    refine o_off rfl rfl (by decide) rfl ?_
                    refine o_off rfl rfl (by decide) rfl ?_
                    refine o_v (v_pick_t rfl rfl) rfl ?_
                    refine o_v (v_move rfl) rfl ?_
                    refine o_off rfl rfl (by decide) rfl ?_
                    refine o_off rfl rfl (by decide) rfl ?_
                    refine o_off rfl rfl (by decide) rfl ?_
                    refine o_off rfl rfl (by decide) rfl ?_
                    refine o_off rfl rfl (by decide) rfl ?_
                    refine o_v (v_pick_t rfl rfl) rfl ?_
                    refine o_nil ?_
                    refine s_st ?_ (hN5 true hL1)
                    exact st_le [0, 0] (le_cons rfl (le_cons rfl (le_cons rfl (le_cons rfl (le_cons rfl (le_cons rfl (le_cons rfl (le_cons rfl le_nil)))))))) rfl (sub_cons 0 rfl (sub_cons 1 rfl (sub_cons 2 rfl (sub_cons 3 rfl sub_nil))))
                  · replace hL1 := ite_f h8 hL1
                    refine o_on rfl rfl ?_
                    refine o_v (v_fieldAddr (v := .pointer (some ⟨b3, 1, none⟩)) rfl (fun _ => by kernel_rfl)) rfl ?_
                    refine o_on rfl rfl ?_
                    refine o_v (v_load_box 0 ty9 rfl rfl rfl rfl rfl) rfl ?_
                    refine o_on rfl rfl ?_
                    refine o_v (v_fieldAddr (v := .pointer (some ⟨b4, 1, none⟩)) rfl (fun _ => by kernel_rfl)) rfl ?_
                    refine o_on rfl rfl ?_
                    refine o_v (v_load_box 1 ty9 rfl rfl rfl rfl rfl) rfl ?_
                    refine o_on rfl rfl ?_
                    refine o_v (v_strne rfl rfl) rfl ?_
                    refine o_v (v_pick_f rfl rfl) rfl ?_
                    refine o_v (v_move rfl) rfl ?_
                    refine o_split (t := 41) rfl (fun h9 => ?_) (fun h9 => ?_)
                    · replace hL1 := ite_t h9 hL1
                      refine o_off rfl rfl (by decide) rfl ?_
                      refine o_off rfl rfl (by decide) rfl ?_
                      refine o_off rfl rfl (by decide) rfl ?_
                      refine o_off rfl rfl (by decide) rfl ?_
                      refine o_off rfl rfl (by decide) rfl ?_
                      refine o_off rfl rfl (by decide) rfl ?_
                      refine o_off rfl rfl (by decide) rfl ?_
                      refine o_v (v_pick_t rfl rfl) rfl ?_
                      refine o_v (v_move rfl) rfl ?_
                      refine o_off rfl rfl (by decide) rfl ?_
                      refine o_off rfl rfl (by decide) rfl ?_
                      refine o_off rfl rfl (by decide) rfl ?_
                      refine o_off rfl rfl (by decide) rfl ?_
                      refine o_off rfl rfl (by decide) rfl ?_
                      refine o_v (v_pick_t rfl rfl) rfl ?_
                      refine o_v (v_move rfl) rfl ?_
                      refine o_off rfl rfl (by decide) rfl ?_
                      refine o_off rfl rfl (by decide) rfl ?_
                      refine o_off rfl rfl (by decide) rfl ?_
                      refine o_off rfl rfl (by decide) rfl ?_
                      refine o_off rfl rfl (by decide) rfl ?_
                      refine o_v (v_pick_t rfl rfl) rfl ?_
                      refine o_nil ?_
                      refine s_st ?_ (hN5 true hL1)
                      exact st_le [0, 0] (le_cons rfl (le_cons rfl (le_cons rfl (le_cons rfl (le_cons rfl (le_cons rfl (le_cons rfl (le_cons rfl le_nil)))))))) rfl (sub_cons 0 rfl (sub_cons 1 rfl (sub_cons 2 rfl (sub_cons 3 rfl sub_nil))))
                    · replace hL1 := ite_f h9 hL1
                      refine o_on rfl rfl ?_
                      refine o_v (v_fieldAddr (v := .pointer (some ⟨b3, 2, none⟩)) rfl (fun _ => by kernel_rfl)) rfl ?_
                      refine o_on rfl rfl ?_
                      refine o_v (v_load_box 0 ty30 rfl rfl rfl rfl rfl) rfl ?_
                      refine o_on rfl rfl ?_
                      refine o_v (v_bytesStr sl30 Try.underlying5 Try.underlying9 rfl (.f 2 rfl)) rfl ?_
                      refine o_on rfl rfl ?_
                      refine o_v (v_fieldAddr (v := .pointer (some ⟨b4, 2, none⟩)) rfl (fun _ => by kernel_rfl)) rfl ?_
                      refine o_on rfl rfl ?_
                      refine o_v (v_load_box 1 ty30 rfl rfl rfl rfl rfl) rfl ?_
                      refine o_on rfl rfl ?_
                      refine o_v (v_bytesStr sl30 Try.underlying5 Try.underlying9 rfl (.f 3 rfl)) rfl ?_
                      refine o_on rfl rfl ?_
                      refine o_v (v_strne rfl rfl) rfl ?_
                      refine o_v (v_pick_f rfl rfl) rfl ?_
                      refine o_v (v_move rfl) rfl ?_
                      refine o_split (t := 50) rfl (fun h10 => ?_) (fun h10 => ?_)
                      · replace hL1 := ite_t h10 hL1
                        refine o_off rfl rfl (by decide) rfl ?_
                        refine o_off rfl rfl (by decide) rfl ?_
                        refine o_off rfl rfl (by decide) rfl ?_
                        refine o_off rfl rfl (by decide) rfl ?_
                        refine o_off rfl rfl (by decide) rfl ?_
                        refine o_v (v_pick_t rfl rfl) rfl ?_
                        refine o_v (v_move rfl) rfl ?_
                        refine o_off rfl rfl (by decide) rfl ?_
                        refine o_off rfl rfl (by decide) rfl ?_
                        refine o_off rfl rfl (by decide) rfl ?_
                        refine o_off rfl rfl (by decide) rfl ?_
                        refine o_off rfl rfl (by decide) rfl ?_
                        refine o_v (v_pick_t rfl rfl) rfl ?_
                        refine o_nil ?_
                        refine s_st ?_ (hN5 true hL1)
                        exact st_le [0, 0] (le_cons rfl (le_cons rfl (le_cons rfl (le_cons rfl (le_cons rfl (le_cons rfl (le_cons rfl (le_cons rfl le_nil)))))))) rfl (sub_cons 0 rfl (sub_cons 1 rfl (sub_cons 2 rfl (sub_cons 3 rfl sub_nil))))
                      · replace hL1 := ite_f h10 hL1
                        refine o_on rfl rfl ?_
                        refine o_v (v_fieldAddr (v := .pointer (some ⟨b3, 3, none⟩)) rfl (fun _ => by kernel_rfl)) rfl ?_
                        refine o_on rfl rfl ?_
                        refine o_v (v_load_box 0 ty33 rfl rfl rfl rfl rfl) rfl ?_
                        refine o_on rfl rfl ?_
                        refine o_v (v_fieldAddr (v := .pointer (some ⟨b4, 3, none⟩)) rfl (fun _ => by kernel_rfl)) rfl ?_
                        refine o_on rfl rfl ?_
                        refine o_v (v_load_box 1 ty33 rfl rfl rfl rfl rfl) rfl ?_
                        refine o_on rfl rfl ?_
                        refine o_v (v_agne 2 rfl rfl (eq33 ((at_ a_ i).Set.w0) ((at_ a_ i).Set.w1) ((at_ a_ i).Set.w2) ((at_ a_ i).Set.w3) ((at_ b i).Set.w0) ((at_ b i).Set.w1) ((at_ b i).Set.w2) ((at_ b i).Set.w3)) rfl guard33) rfl ?_
                        refine o_v (v_pick_f rfl rfl) rfl ?_
                        refine o_v (v_move rfl) rfl ?_
                        refine o_split (t := 57) rfl (fun h11 => ?_) (fun h11 => ?_)
                        · replace hL1 := ite_t h11 hL1
                          refine o_off rfl rfl (by decide) rfl ?_
                          refine o_off rfl rfl (by decide) rfl ?_
                          refine o_off rfl rfl (by decide) rfl ?_
                          refine o_off rfl rfl (by decide) rfl ?_
                          refine o_off rfl rfl (by decide) rfl ?_
                          refine o_v (v_pick_t rfl rfl) rfl ?_
                          refine o_nil ?_
                          refine s_st ?_ (hN5 true hL1)
                          exact st_le [0, 0] (le_cons rfl (le_cons rfl (le_cons rfl (le_cons rfl (le_cons rfl (le_cons rfl (le_cons rfl (le_cons rfl le_nil)))))))) rfl (sub_cons 0 rfl (sub_cons 1 rfl (sub_cons 2 rfl (sub_cons 3 rfl sub_nil))))
                        · replace hL1 := ite_f h11 hL1
                          refine o_on rfl rfl ?_
                          refine o_v (v_fieldAddr (v := .pointer (some ⟨b3, 7, none⟩)) rfl (fun _ => by kernel_rfl)) rfl ?_
                          refine o_on rfl rfl ?_
                          refine o_v (v_load_box 0 ty3 rfl rfl rfl rfl rfl) rfl ?_
                          refine o_on rfl rfl ?_
                          refine o_v (v_fieldAddr (v := .pointer (some ⟨b4, 7, none⟩)) rfl (fun _ => by kernel_rfl)) rfl ?_
                          refine o_on rfl rfl ?_
                          refine o_v (v_load_box 1 ty3 rfl rfl rfl rfl rfl) rfl ?_
                          refine o_on rfl rfl ?_
                          refine o_v (v_bin rfl rfl rfl) rfl ?_
                          refine o_v (v_pick_f rfl rfl) rfl ?_
                          refine o_nil ?_
                          refine s_st ?_ (hN5 (((at_ a_ i).N_) != ((at_ b i).N_)) hL1)
                          exact st_le [0, 0] (le_cons rfl (le_cons rfl (le_cons rfl (le_cons rfl (le_cons rfl (le_cons rfl (le_cons rfl (le_cons rfl le_nil)))))))) rfl (sub_cons 0 rfl (sub_cons 1 rfl (sub_cons 2 rfl (sub_cons 3 rfl sub_nil))))
                · intro t63 hL1
                  unfold F.ref02.SameWords_j4 at hL1
                  refine sat_wc ?_
                  refine c_cond rfl (fun h3 => ?_) (fun h3 => ?_)
                  · replace hL1 := ite_t h3 hL1
                    refine c_seq ?_
                    refine c_region ?_
                    refine o_v (v_assign rfl) rfl ?_
                    refine o_seq ?_
                    refine c_ret ?_
                    cases hL1
                    obtain rfl := lrf_ret hF
                    refine s_ret1 rfl (r_tmp rfl) fun a w hs => ?_
                    exact fin_sel hs [] ⟨rfl, rfl, rfl⟩ rfl sub_nil
                  · replace hL1 := ite_f h3 hL1
                    refine c_skip ?_
                    refine sat_wc ?_
                    refine c_seq ?_
                    refine c_cut (fun E N' => ∀ (t85 : Bool), F.ref02.SameWords_j5 (F.ref02.SameWords_l1 a_ b places j) i t85 = some o1 → Sat E [(0, .slice sa1 sn1 sc1), (1, .slice sa2 sn2 sc2), (2, .bool places), (6, .bool false), (7, .int .i64 i), (8, .pointer (some ⟨b3, 0, none⟩)), (9, .pointer (some ⟨b4, 0, none⟩)), (85, .bool t85)] [.box b3 35 [.int .i64 ((at_ a_ i).Kind), .string (bs ((at_ a_ i).Text)), .slice sa5 sn5 sc5, .int .u64 ((at_ a_ i).Set.w0), .int .u64 ((at_ a_ i).Set.w1), .int .u64 ((at_ a_ i).Set.w2), .int .u64 ((at_ a_ i).Set.w3), .int .i64 ((at_ a_ i).N_), .int .i64 ((at_ a_ i).At), .int .i64 ((at_ a_ i).Line), .int .i64 ((at_ a_ i).Col)], .box b4 35 [.int .i64 ((at_ b i).Kind), .string (bs ((at_ b i).Text)), .slice sa6 sn6 sc6, .int .u64 ((at_ b i).Set.w0), .int .u64 ((at_ b i).Set.w1), .int .u64 ((at_ b i).Set.w2), .int .u64 ((at_ b i).Set.w3), .int .i64 ((at_ b i).N_), .int .i64 ((at_ b i).At), .int .i64 ((at_ b i).Line), .int .i64 ((at_ b i).Col)]] [(.slice sa1 sn1 sc1, .slice 11 (a_.map eWord)), (.slice sa2 sn2 sc2, .slice 11 (b.map eWord)), (.slice sa5 sn5 sc5, .slice 1 (((at_ a_ i).Bytes).map eU8)), (.slice sa6 sn6 sc6, .slice 1 (((at_ b i).Bytes).map eU8))] N') (fun N5 hN5 => ?_) ?_
                    · refine c_region ?_
                      refine o_v (v_move rfl) rfl ?_
                      refine o_v (v_move rfl) rfl ?_
                      refine o_split (t := 65) rfl (fun h5 => ?_) (fun h5 => ?_)
                      · replace hL1 := ite_t h5 hL1
                        refine o_on rfl rfl ?_
                        refine o_v (v_fieldAddr (v := .pointer (some ⟨b3, 8, none⟩)) rfl (fun _ => by kernel_rfl)) rfl ?_
                        refine o_on rfl rfl ?_
                        refine o_v (v_load_box 0 ty3 rfl rfl rfl rfl rfl) rfl ?_
                        refine o_on rfl rfl ?_
                        refine o_v (v_fieldAddr (v := .pointer (some ⟨b4, 8, none⟩)) rfl (fun _ => by kernel_rfl)) rfl ?_
                        refine o_on rfl rfl ?_
                        refine o_v (v_load_box 1 ty3 rfl rfl rfl rfl rfl) rfl ?_
                        refine o_on rfl rfl ?_
                        refine o_v (v_bin rfl rfl rfl) rfl ?_
                        refine o_on rfl rfl ?_
                        refine o_v (v_move rfl) rfl ?_
                        refine o_split (t := 71) rfl (fun h6 => ?_) (fun h6 => ?_)
                        · replace hL1 := ite_t h6 hL1
                          refine o_off rfl rfl (by decide) rfl ?_
                          refine o_off rfl rfl (by decide) rfl ?_
                          refine o_off rfl rfl (by decide) rfl ?_
                          refine o_off rfl rfl (by decide) rfl ?_
                          refine o_off rfl rfl (by decide) rfl ?_
                          refine o_on rfl rfl ?_
                          refine o_v (v_pick_t rfl rfl) rfl ?_
                          refine o_on rfl rfl ?_
                          refine o_v (v_move rfl) rfl ?_
                          refine o_off rfl rfl (by decide) rfl ?_
                          refine o_off rfl rfl (by decide) rfl ?_
                          refine o_off rfl rfl (by decide) rfl ?_
                          refine o_off rfl rfl (by decide) rfl ?_
                          refine o_off rfl rfl (by decide) rfl ?_
                          refine o_on rfl rfl ?_
                          refine o_v (v_pick_t rfl rfl) rfl ?_
                          refine o_v (v_pick_t rfl rfl) rfl ?_
                          refine o_nil ?_
                          refine s_st ?_ (hN5 true hL1)
                          exact st_le [0, 0] (le_cons rfl (le_cons rfl (le_cons rfl (le_cons rfl (le_cons rfl (le_cons rfl (le_cons rfl (le_cons rfl le_nil)))))))) rfl (sub_cons 0 rfl (sub_cons 1 rfl (sub_cons 2 rfl (sub_cons 3 rfl sub_nil))))
                        · replace hL1 := ite_f h6 hL1
                          refine o_on rfl rfl ?_
                          refine o_v (v_fieldAddr (v := .pointer (some ⟨b3, 9, none⟩)) rfl (fun _ => by kernel_rfl)) rfl ?_
                          refine o_on rfl rfl ?_
                          refine o_v (v_load_box 0 ty3 rfl rfl rfl rfl rfl) rfl ?_
                          refine o_on rfl rfl ?_
                          refine o_v (v_fieldAddr (v := .pointer (some ⟨b4, 9, none⟩)) rfl (fun _ => by kernel_rfl)) rfl ?_
                          refine o_on rfl rfl ?_
                          refine o_v (v_load_box 1 ty3 rfl rfl rfl rfl rfl) rfl ?_
                          refine o_on rfl rfl ?_
                          refine o_v (v_bin rfl rfl rfl) rfl ?_
                          refine o_on rfl rfl ?_
                          refine o_v (v_pick_f rfl rfl) rfl ?_
                          refine o_on rfl rfl ?_
                          refine o_v (v_move rfl) rfl ?_
                          refine o_split (t := 78) rfl (fun h7 => ?_) (fun h7 => ?_)
                          · replace hL1 := ite_t h7 hL1
                            refine o_off rfl rfl (by decide) rfl ?_
                            refine o_off rfl rfl (by decide) rfl ?_
                            refine o_off rfl rfl (by decide) rfl ?_
                            refine o_off rfl rfl (by decide) rfl ?_
                            refine o_off rfl rfl (by decide) rfl ?_
                            refine o_on rfl rfl ?_
                            refine o_v (v_pick_t rfl rfl) rfl ?_
                            refine o_v (v_pick_t rfl rfl) rfl ?_
                            refine o_nil ?_
                            refine s_st ?_ (hN5 true hL1)
                            exact st_le [0, 0] (le_cons rfl (le_cons rfl (le_cons rfl (le_cons rfl (le_cons rfl (le_cons rfl (le_cons rfl (le_cons rfl le_nil)))))))) rfl (sub_cons 0 rfl (sub_cons 1 rfl (sub_cons 2 rfl (sub_cons 3 rfl sub_nil))))
                          · replace hL1 := ite_f h7 hL1
                            refine o_on rfl rfl ?_
                            refine o_v (v_fieldAddr (v := .pointer (some ⟨b3, 10, none⟩)) rfl (fun _ => by kernel_rfl)) rfl ?_
                            refine o_on rfl rfl ?_
                            refine o_v (v_load_box 0 ty3 rfl rfl rfl rfl rfl) rfl ?_
                            refine o_on rfl rfl ?_
                            refine o_v (v_fieldAddr (v := .pointer (some ⟨b4, 10, none⟩)) rfl (fun _ => by kernel_rfl)) rfl ?_
                            refine o_on rfl rfl ?_
                            refine o_v (v_load_box 1 ty3 rfl rfl rfl rfl rfl) rfl ?_
                            refine o_on rfl rfl ?_
                            refine o_v (v_bin rfl rfl rfl) rfl ?_
                            refine o_on rfl rfl ?_
                            refine o_v (v_pick_f rfl rfl) rfl ?_
                            refine o_v (v_pick_t rfl rfl) rfl ?_
                            refine o_nil ?_
                            refine s_st ?_ (hN5 (((at_ a_ i).Col) != ((at_ b i).Col)) hL1)
                            exact st_le [0, 0] (le_cons rfl (le_cons rfl (le_cons rfl (le_cons rfl (le_cons rfl (le_cons rfl (le_cons rfl (le_cons rfl le_nil)))))))) rfl (sub_cons 0 rfl (sub_cons 1 rfl (sub_cons 2 rfl (sub_cons 3 rfl sub_nil))))
                      · replace hL1 := ite_f h5 hL1
                        refine o_off rfl rfl (by decide) rfl ?_
                        refine o_off rfl rfl (by decide) rfl ?_
                        refine o_off rfl rfl (by decide) rfl ?_
                        refine o_off rfl rfl (by decide) rfl ?_
                        refine o_off rfl rfl (by decide) rfl ?_
                        refine o_off rfl rfl (by decide) rfl ?_
                        refine o_offU rfl rfl rfl ?_
                        refine o_offU rfl rfl rfl ?_
                        refine o_offU rfl rfl rfl ?_
                        refine o_offU rfl rfl rfl ?_
                        refine o_offU rfl rfl rfl ?_
                        refine o_off rfl rfl (by decide) rfl ?_
                        refine o_off rfl rfl (by decide) rfl ?_
                        refine o_offU rfl rfl rfl ?_
                        refine o_offU rfl rfl rfl ?_
                        refine o_offU rfl rfl rfl ?_
                        refine o_offU rfl rfl rfl ?_
                        refine o_offU rfl rfl rfl ?_
                        refine o_off rfl rfl (by decide) rfl ?_
                        refine o_v (v_pick_f rfl rfl) rfl ?_
                        refine o_nil ?_
                        refine s_st ?_ (hN5 false hL1)
                        exact st_le [0, 0] (le_cons rfl (le_cons rfl (le_cons rfl (le_cons rfl (le_cons rfl (le_cons rfl (le_cons rfl (le_cons rfl le_nil)))))))) rfl (sub_cons 0 rfl (sub_cons 1 rfl (sub_cons 2 rfl (sub_cons 3 rfl sub_nil))))
                    · intro t85 hL1
                      unfold F.ref02.SameWords_j5 at hL1
                      refine sat_wc ?_
                      refine c_cond rfl (fun h4 => ?_) (fun h4 => ?_)
                      · replace hL1 := ite_t h4 hL1
                        refine c_seq ?_
                        refine c_region ?_
                        refine o_v (v_assign rfl) rfl ?_
                        refine o_seq ?_
                        refine c_ret ?_
                        cases hL1
                        obtain rfl := lrf_ret hF
                        refine s_ret1 rfl (r_tmp rfl) fun a w hs => ?_
                        exact fin_sel hs [] ⟨rfl, rfl, rfl⟩ rfl sub_nil
                      · replace hL1 := ite_f h4 hL1
                        refine c_skip ?_
                        refine s_st ?_ (hN2 sa5 sn5 sc5 sa6 sn6 sc6 b3 b4 hL1)
                        exact st_le [0, 0] (le_cons rfl (le_cons rfl (le_cons rfl (le_cons rfl (le_cons rfl (le_cons rfl (le_cons rfl le_nil))))))) rfl (sub_cons 0 rfl (sub_cons 1 rfl (sub_cons 2 rfl (sub_cons 3 rfl sub_nil))))
            · intro sa3 sn3 sc3 sa4 sn4 sc4 b1 b2 hL1
              unfold F.ref02.SameWords_j2 at hL1
              refine sat_wc ?_
              refine c_region ?_
              refine o_v (v_move rfl) rfl ?_
              refine o_v (v_bin rfl rfl rfl) rfl ?_
              refine o_v (v_assign rfl) rfl ?_
              refine o_nil ?_
              intro a w hs
              exact ⟨j, Nat.lt_succ_self j, IntKind.wrap .i64 (i + 1), hL1, st_le [] (le_cons rfl (le_cons rfl (le_cons rfl (le_cons rfl (le_cons rfl le_nil))))) rfl (sub_cons 0 rfl (sub_cons 1 rfl sub_nil)) a w hs⟩
          · replace hL1 := ite_f h2 hL1
            refine c_exit0 ?_
            cases hL1
            refine s_st ?_ (hN1 () rfl)
            exact st_le [] (le_cons rfl (le_cons rfl (le_cons rfl le_nil))) rfl (sub_cons 0 rfl (sub_cons 1 rfl sub_nil))
    · intro d1 hd
      subst hd
      replace hF := lrf_done hF
      refine sat_wc ?_
      refine c_seq ?_
      refine c_region ?_
      refine o_v (v_assign rfl) rfl ?_
      refine o_seq ?_
      refine c_ret ?_
      cases hF
      refine s_ret1 rfl (r_tmp rfl) fun a w hs => ?_
      exact fin_sel hs [] ⟨rfl, rfl, rfl⟩ rfl sub_nil

end Go.Vc
