import Derived.Test.YthkfffheppfieaaW2
set_option linter.unusedVariables false
set_option linter.unusedSimpArgs false
set_option maxRecDepth 8000
set_option maxHeartbeats 2000000
namespace Go.Vc
open Go Go.Proofs
theorem tri25 (k : Nat) (b : List Int) (sa1 : Option Addr) (sn1 sc1 : Nat) (r : List UInt8) (hF : F.ref02.Quote k b = some r) :
    Tri Try.prog 25 [.slice sa1 sn1 sc1] [] [(.slice sa1 sn1 sc1, .slice 1 (b.map eU8))] (fun o H Φ => o = .ret (.string (bs r)) ∧ H = [] ∧ Φ = []) := by
  unfold F.ref02.Quote at hF
  refine tri_intro (n := 54) Try.func25 rfl Try.ntmps25 rfl fun w X => ?_
  refine c_seq ?_
  refine c_region ?_
  refine o_v (v_assign rfl) rfl ?_
  refine o_seq ?_
  refine c_seq ?_
  refine c_region ?_
  refine o_v (v_assign rfl) rfl ?_
  refine o_seq ?_
  refine c_seq ?_
  refine c_region ?_
  refine o_v (v_move rfl) rfl ?_
  refine o_buildSlice (enc := eU8) ([34] : List Int) [.int .u8 34] sl30 rfl (fun _ => by kernel_rfl) rfl rfl rfl (.s rfl (.nil)) rfl fun sa2 sn2 sc2 => ?_
  refine ite_some hF fun h1 hF => ?_
  refine ite_some hF fun h2 hF => ?_
  refine o_st (st_nilrow 5 1) ?_
  refine o_append (enc := eU8) (xs := ([] : List Int)) (ys := ([34] : List Int)) 0 sl30 rfl rfl rfl (.r 1 _ rfl) h1 h2 rfl fun sa3 sn3 sc3 => ?_
  refine o_v (v_assign rfl) rfl ?_
  refine o_seq ?_
  refine c_seq ?_
  refine c_seq ?_
  refine c_region ?_
  refine o_v (v_assign rfl) rfl ?_
  refine o_seq ?_
  obtain ⟨o1, ho1, hF⟩ := bd hF
  refine c_cut (fun E N' => ∀ (sa5 : Option Addr) (sn5 sc5 : Nat), Sat E [(2, .string (bs ([] : List UInt8))), (3, .slice sa5 sn5 sc5)] [.row (.slice sa5 sn5 sc5) 5 1 (o1.map eU8)] [] N') (fun N1 hN1 => ?_) ?_
  · refine c_block ?_
    refine c_loopE (fun E j a w => ∃ (out_ : List Int) (i : Int) (sa4 : Option Addr) (sn4 sc4 : Nat), F.ref02.Quote_l1 b j out_ i = some o1 ∧ St E [(0, .slice sa1 sn1 sc1), (2, .string (bs ([] : List UInt8))), (3, .slice sa4 sn4 sc4), (4, .int .i64 i)] [.row (.slice sa4 sn4 sc4) 5 1 (out_.map eU8)] [(.slice sa1 sn1 sc1, .slice 1 (b.map eU8))] a w) k ?_ ?_
    · intro a w hs
      exact ⟨(([] : List Int) ++ ([34] : List Int)), 0, sa3, sn3, sc3, ho1, st_le [0] (le_cons rfl (le_cons rfl (le_cons rfl (le_cons rfl le_nil)))) rfl (sub_cons 0 rfl sub_nil) a w hs⟩
    · rintro j a w ⟨out_, i, sa4, sn4, sc4, hL1, hs⟩
      cases j with
      | zero => cases hL1
      | succ j =>
        refine wc_app hs ?_
        unfold F.ref02.Quote_l1 at hL1
        refine c_seq ?_
        refine c_seq ?_
        refine c_region ?_
        refine o_v (v_move rfl) rfl ?_
        refine o_v (v_move rfl) rfl ?_
        refine o_v (v_lenS (enc := eU8) b sl30 rfl (.f 0 rfl)) rfl ?_
        refine o_v (v_bin rfl rfl rfl) rfl ?_
        refine o_seq ?_
        refine c_cond rfl (fun h3 => ?_) (fun h3 => ?_)
        · replace hL1 := ite_t h3 hL1
          refine c_skip ?_
          refine sat_wc ?_
          refine c_seq ?_
          refine c_cut (fun E N' => ∀ (out_1 : List Int) (k_ : Int) (sa6 : Option Addr) (sn6 sc6 : Nat), F.ref02.Quote_j2 (F.ref02.Quote_l1 b j) i out_1 k_ = some o1 → Sat E [(0, .slice sa1 sn1 sc1), (2, .string (bs ([] : List UInt8))), (3, .slice sa6 sn6 sc6), (4, .int .i64 i), (5, .int .u8 (at_ b i)), (6, .int .u8 k_)] [.row (.slice sa6 sn6 sc6) 5 1 (out_1.map eU8)] [(.slice sa1 sn1 sc1, .slice 1 (b.map eU8))] N') (fun N2 hN2 => ?_) ?_
          · refine c_block ?_
            refine c_seq ?_
            refine c_region ?_
            refine o_v (v_move rfl) rfl ?_
            refine o_v (v_move rfl) rfl ?_
            refine ite_some hL1 fun h4 hL1 => ?_
            refine o_v (v_indexAddr_s (xs := b) (enc := eU8) sl30 rfl rfl (.f 0 rfl) h4) rfl ?_
            refine o_v (v_load_s (xs := b) (enc := eU8) ty5 rfl (.f 0 rfl) h4 rfl rfl rfl rfl rfl rfl rfl) rfl ?_
            refine o_v (v_assign rfl) rfl ?_
            refine o_seq ?_
            refine c_seq ?_
            refine c_region ?_
            refine o_v (v_move rfl) rfl ?_
            obtain ⟨v, h5, hL1⟩ := bd hL1
            refine o_callSB call44 rfl lent_nil (tri44 (at_ b i) v h5) rfl ?_
            refine o_v (v_assign rfl) rfl ?_
            refine o_seq ?_
            refine c_seq ?_
            refine c_region ?_
            refine o_v (v_move rfl) rfl ?_
            refine o_v (v_bin rfl rfl rfl) rfl ?_
            refine o_seq ?_
            refine c_cut (fun E N' => ∀ (out_2 : List Int) (sa7 : Option Addr) (sn7 sc7 : Nat), F.ref02.Quote_j3 (F.ref02.Quote_l1 b j) i v out_2 = some o1 → Sat E [(0, .slice sa1 sn1 sc1), (2, .string (bs ([] : List UInt8))), (3, .slice sa7 sn7 sc7), (4, .int .i64 i), (5, .int .u8 (at_ b i)), (6, .int .u8 v)] [.row (.slice sa7 sn7 sc7) 5 1 (out_2.map eU8)] [(.slice sa1 sn1 sc1, .slice 1 (b.map eU8))] N') (fun N3 hN3 => ?_) ?_
            · refine c_cond rfl (fun h6 => ?_) (fun h6 => ?_)
              · replace hL1 := ite_t h6 hL1
                refine c_region ?_
                refine o_v (v_move rfl) rfl ?_
                refine o_v (v_move rfl) rfl ?_
                refine o_buildSlice (enc := eU8) ([92, v] : List Int) [.int .u8 92, .int .u8 v] sl30 rfl (fun _ => by kernel_rfl) rfl rfl rfl (.s rfl (.s rfl (.nil))) rfl fun sa8 sn8 sc8 => ?_
                refine ite_some hL1 fun h7 hL1 => ?_
                refine ite_some hL1 fun h8 hL1 => ?_
                refine o_append (enc := eU8) (xs := out_) (ys := ([92, v] : List Int)) 1 sl30 rfl rfl rfl (.r 0 _ rfl) h7 h8 rfl fun sa9 sn9 sc9 => ?_
                refine o_v (v_assign rfl) rfl ?_
                refine o_nil ?_
                refine s_st ?_ (hN3 (out_ ++ ([92, v] : List Int)) sa9 sn9 sc9 hL1)
                exact st_le [1] (le_cons rfl (le_cons rfl (le_cons rfl (le_cons rfl (le_cons rfl (le_cons rfl le_nil)))))) rfl (sub_cons 0 rfl sub_nil)
              · replace hL1 := ite_f h6 hL1
                refine c_seq ?_
                refine c_cut (fun E N' => ∀ (t33 : Bool), F.ref02.Quote_j4 out_ b i (F.ref02.Quote_l1 b j) v t33 = some o1 → Sat E [(0, .slice sa1 sn1 sc1), (2, .string (bs ([] : List UInt8))), (3, .slice sa4 sn4 sc4), (4, .int .i64 i), (5, .int .u8 (at_ b i)), (6, .int .u8 v), (33, .bool t33)] [.row (.slice sa4 sn4 sc4) 5 1 (out_.map eU8)] [(.slice sa1 sn1 sc1, .slice 1 (b.map eU8))] N') (fun N5 hN5 => ?_) ?_
                · refine c_region ?_
                  refine o_v (v_move rfl) rfl ?_
                  refine o_v (v_bin rfl rfl rfl) rfl ?_
                  refine o_v (v_move rfl) rfl ?_
                  refine o_split (t := 30) rfl (fun h16 => ?_) (fun h16 => ?_)
                  · replace hL1 := ite_t h16 hL1
                    refine o_on rfl rfl ?_
                    refine o_v (v_move rfl) rfl ?_
                    refine o_on rfl rfl ?_
                    refine o_v (v_bin rfl rfl rfl) rfl ?_
                    refine o_v (v_pick_t rfl rfl) rfl ?_
                    refine o_nil ?_
                    refine s_st ?_ (hN5 (decide ((at_ b i) ≤ 126)) hL1)
                    exact st_le [0] (le_cons rfl (le_cons rfl (le_cons rfl (le_cons rfl (le_cons rfl (le_cons rfl (le_cons rfl le_nil))))))) rfl (sub_cons 0 rfl sub_nil)
                  · replace hL1 := ite_f h16 hL1
                    refine o_off rfl rfl (by decide) rfl ?_
                    refine o_off rfl rfl (by decide) rfl ?_
                    refine o_v (v_pick_f rfl rfl) rfl ?_
                    refine o_nil ?_
                    refine s_st ?_ (hN5 false hL1)
                    exact st_le [0] (le_cons rfl (le_cons rfl (le_cons rfl (le_cons rfl (le_cons rfl (le_cons rfl (le_cons rfl le_nil))))))) rfl (sub_cons 0 rfl sub_nil)
                · intro t33 hL1
                  unfold F.ref02.Quote_j4 at hL1
                  refine sat_wc ?_
                  refine c_cut (fun E N' => ∀ (out_3 : List Int) (sa10 : Option Addr) (sn10 sc10 : Nat), F.ref02.Quote_j5 (F.ref02.Quote_l1 b j) i v out_3 = some o1 → Sat E [(0, .slice sa1 sn1 sc1), (2, .string (bs ([] : List UInt8))), (3, .slice sa10 sn10 sc10), (4, .int .i64 i), (5, .int .u8 (at_ b i)), (6, .int .u8 v)] [.row (.slice sa10 sn10 sc10) 5 1 (out_3.map eU8)] [(.slice sa1 sn1 sc1, .slice 1 (b.map eU8))] N') (fun N5 hN5 => ?_) ?_
                  · refine c_cond rfl (fun h9 => ?_) (fun h9 => ?_)
                    · replace hL1 := ite_t h9 hL1
                      refine c_region ?_
                      refine o_v (v_move rfl) rfl ?_
                      refine o_v (v_move rfl) rfl ?_
                      refine o_buildSlice (enc := eU8) ([at_ b i] : List Int) [.int .u8 (at_ b i)] sl30 rfl (fun _ => by kernel_rfl) rfl rfl rfl (.s rfl (.nil)) rfl fun sa11 sn11 sc11 => ?_
                      refine ite_some hL1 fun h10 hL1 => ?_
                      refine ite_some hL1 fun h11 hL1 => ?_
                      refine o_append (enc := eU8) (xs := out_) (ys := ([at_ b i] : List Int)) 1 sl30 rfl rfl rfl (.r 0 _ rfl) h10 h11 rfl fun sa12 sn12 sc12 => ?_
                      refine o_v (v_assign rfl) rfl ?_
                      refine o_nil ?_
                      refine s_st ?_ (hN5 (out_ ++ ([at_ b i] : List Int)) sa12 sn12 sc12 hL1)
                      exact st_le [1] (le_cons rfl (le_cons rfl (le_cons rfl (le_cons rfl (le_cons rfl (le_cons rfl le_nil)))))) rfl (sub_cons 0 rfl sub_nil)
                    · replace hL1 := ite_f h9 hL1
                      refine c_draw (n := 12) [] mixed rfl rfl ?_
                      refine d_val 0 rfl pnok (by kernel_rfl) (by kernel_rfl) (by kernel_rfl) rfl (v_move rfl) ?_
                      refine d_val 1 rfl pnok (by kernel_rfl) (by kernel_rfl) (by kernel_rfl) rfl (v_move rfl) ?_
                      refine d_val 2 rfl pnok (by kernel_rfl) (by kernel_rfl) (by kernel_rfl) rfl (v_convert (v := .int .i64 (IntKind.wrap .i64 (at_ b i))) rfl (fun _ => by kernel_rfl)) ?_
                      refine d_val 3 rfl pnok (by kernel_rfl) (by kernel_rfl) (by kernel_rfl) rfl (v_quo rfl rfl rfl) ?_
                      refine ite_some hL1 fun h12 hL1 => ?_
                      refine d_val 4 rfl pnok (by kernel_rfl) (by kernel_rfl) (by kernel_rfl) rfl (v_sindex Try.underlying9 rfl rfl h12) ?_
                      refine d_val 5 rfl pnok (by kernel_rfl) (by kernel_rfl) (by kernel_rfl) rfl (v_move rfl) ?_
                      refine d_val 6 rfl pnok (by kernel_rfl) (by kernel_rfl) (by kernel_rfl) rfl (v_convert (v := .int .i64 (IntKind.wrap .i64 (at_ b i))) rfl (fun _ => by kernel_rfl)) ?_
                      refine d_val 7 rfl pnok (by kernel_rfl) (by kernel_rfl) (by kernel_rfl) rfl (v_rem rfl rfl rfl) ?_
                      refine ite_some hL1 fun h13 hL1 => ?_
                      refine d_val 8 rfl pnok (by kernel_rfl) (by kernel_rfl) (by kernel_rfl) rfl (v_sindex Try.underlying9 rfl rfl h13) ?_
                      refine d_one 9 rfl (by kernel_rfl) ?_
                      refine o_buildSlice (enc := eU8) ([92, 120, sAt ([48, 49, 50, 51, 52, 53, 54, 55, 56, 57, 97, 98, 99, 100, 101, 102] : List UInt8) (gquo .i64 (IntKind.wrap .i64 (at_ b i)) 16), sAt ([48, 49, 50, 51, 52, 53, 54, 55, 56, 57, 97, 98, 99, 100, 101, 102] : List UInt8) (grem (IntKind.wrap .i64 (at_ b i)) 16)] : List Int) [.int .u8 92, .int .u8 120, .int .u8 (sAt ([48, 49, 50, 51, 52, 53, 54, 55, 56, 57, 97, 98, 99, 100, 101, 102] : List UInt8) (gquo .i64 (IntKind.wrap .i64 (at_ b i)) 16)), .int .u8 (sAt ([48, 49, 50, 51, 52, 53, 54, 55, 56, 57, 97, 98, 99, 100, 101, 102] : List UInt8) (grem (IntKind.wrap .i64 (at_ b i)) 16))] sl30 rfl (fun _ => by kernel_rfl) rfl rfl rfl (.s rfl (.s rfl (.s rfl (.s rfl (.nil))))) rfl fun sa13 sn13 sc13 => ?_
                      refine d_next [] 0 rfl rfl ?_
                      refine d_one 10 rfl (by kernel_rfl) ?_
                      refine ite_some hL1 fun h14 hL1 => ?_
                      refine ite_some hL1 fun h15 hL1 => ?_
                      refine o_append (enc := eU8) (xs := out_) (ys := ([92, 120, sAt ([48, 49, 50, 51, 52, 53, 54, 55, 56, 57, 97, 98, 99, 100, 101, 102] : List UInt8) (gquo .i64 (IntKind.wrap .i64 (at_ b i)) 16), sAt ([48, 49, 50, 51, 52, 53, 54, 55, 56, 57, 97, 98, 99, 100, 101, 102] : List UInt8) (grem (IntKind.wrap .i64 (at_ b i)) 16)] : List Int)) 1 sl30 rfl rfl rfl (.r 0 _ rfl) h14 h15 rfl fun sa14 sn14 sc14 => ?_
                      refine d_next [] 0 rfl rfl ?_
                      refine d_val 11 rfl pnok (by kernel_rfl) (by kernel_rfl) (by kernel_rfl) rfl (v_assign rfl) ?_
                      refine d_done (by kernel_rfl) ?_
                      refine s_st ?_ (hN5 (out_ ++ ([92, 120, sAt ([48, 49, 50, 51, 52, 53, 54, 55, 56, 57, 97, 98, 99, 100, 101, 102] : List UInt8) (gquo .i64 (IntKind.wrap .i64 (at_ b i)) 16), sAt ([48, 49, 50, 51, 52, 53, 54, 55, 56, 57, 97, 98, 99, 100, 101, 102] : List UInt8) (grem (IntKind.wrap .i64 (at_ b i)) 16)] : List Int)) sa14 sn14 sc14 hL1)
                      exact st_le [1] (le_cons rfl (le_cons rfl (le_cons rfl (le_cons rfl (le_cons rfl (le_cons rfl le_nil)))))) rfl (sub_cons 0 rfl sub_nil)
                  · intro out_3 sa10 sn10 sc10 hL1
                    unfold F.ref02.Quote_j5 at hL1
                    refine s_st ?_ (hN3 out_3 sa10 sn10 sc10 hL1)
                    exact st_le [0] (le_cons rfl (le_cons rfl (le_cons rfl (le_cons rfl (le_cons rfl (le_cons rfl le_nil)))))) rfl (sub_cons 0 rfl sub_nil)
            · intro out_2 sa7 sn7 sc7 hL1
              unfold F.ref02.Quote_j3 at hL1
              refine s_st ?_ (hN2 out_2 v sa7 sn7 sc7 hL1)
              exact st_le [0] (le_cons rfl (le_cons rfl (le_cons rfl (le_cons rfl (le_cons rfl (le_cons rfl le_nil)))))) rfl (sub_cons 0 rfl sub_nil)
          · intro out_1 k_ sa6 sn6 sc6 hL1
            unfold F.ref02.Quote_j2 at hL1
            refine sat_wc ?_
            refine c_region ?_
            refine o_v (v_move rfl) rfl ?_
            refine o_v (v_bin rfl rfl rfl) rfl ?_
            refine o_v (v_assign rfl) rfl ?_
            refine o_nil ?_
            intro a w hs
            exact ⟨j, Nat.lt_succ_self j, out_1, IntKind.wrap .i64 (i + 1), sa6, sn6, sc6, hL1, st_le [0] (le_cons rfl (le_cons rfl (le_cons rfl (le_cons rfl le_nil)))) rfl (sub_cons 0 rfl sub_nil) a w hs⟩
        · replace hL1 := ite_f h3 hL1
          refine c_exit0 ?_
          cases hL1
          refine s_st ?_ (hN1 sa4 sn4 sc4)
          exact st_le [0] (le_cons rfl (le_cons rfl le_nil)) rfl sub_nil
  · intro sa5 sn5 sc5
    refine sat_wc ?_
    refine c_seq ?_
    refine c_region ?_
    refine o_v (v_move rfl) rfl ?_
    refine o_buildSlice (enc := eU8) ([34] : List Int) [.int .u8 34] sl30 rfl (fun _ => by kernel_rfl) rfl rfl rfl (.s rfl (.nil)) rfl fun sa15 sn15 sc15 => ?_
    refine ite_some hF fun h17 hF => ?_
    refine ite_some hF fun h18 hF => ?_
    refine o_append (enc := eU8) (xs := o1) (ys := ([34] : List Int)) 1 sl30 rfl rfl rfl (.r 0 _ rfl) h17 h18 rfl fun sa16 sn16 sc16 => ?_
    refine o_v (v_assign rfl) rfl ?_
    refine o_seq ?_
    refine c_seq ?_
    refine c_region ?_
    refine o_v (v_move rfl) rfl ?_
    refine o_v (v_bytesStr sl30 Try.underlying5 Try.underlying9 rfl (.r 1 _ rfl)) rfl ?_
    refine o_v (v_assign rfl) rfl ?_
    refine o_seq ?_
    refine c_ret ?_
    cases hF
    refine s_ret1 rfl (r_tmp rfl) fun a w hs => ?_
    exact fin_sel hs [] ⟨rfl, rfl, rfl⟩ rfl sub_nil
theorem tri22 (k : Nat) (text_ : List UInt8) (r : List Int × Fault) (hF : F.words.Unquote k text_ = some r) :
    Tri Try.prog 22 [.string (bs text_)] [] [] (fun o H Φ => ∃ (sa2 : Option Addr) (sn2 sc2 : Nat), o = .ret (.tuple #[.slice sa2 sn2 sc2, .agg #[.int .i64 r.2.At, .int .i64 r.2.Code]]) ∧ H = [.row (.slice sa2 sn2 sc2) 5 1 (r.1.map eU8)] ∧ Φ = []) := by
  unfold F.words.Unquote at hF
  refine tri_intro (n := 38) Try.func22 rfl Try.ntmps22 rfl fun w X => ?_
  refine c_seq ?_
  refine c_region ?_
  refine o_v (v_assign rfl) rfl ?_
  refine o_alloc zero26 rfl rfl fun b => ?_
  refine o_seq ?_
  refine c_seq ?_
  refine c_seq ?_
  refine c_region ?_
  refine o_v (v_move rfl) rfl ?_
  refine o_v (v_len_str Try.underlying9 rfl) rfl ?_
  refine o_v (v_bin rfl rfl rfl) rfl ?_
  refine o_seq ?_
  refine c_cond rfl (fun h1 => ?_) (fun h1 => ?_)
  · replace hF := ite_t h1 hF
    refine c_seq ?_
    refine c_region ?_
    refine o_v (v_build (v := .agg #[.int .i64 0, .int .i64 2]) rfl (fun _ => by kernel_rfl)) rfl ?_
    refine o_v (v_assign rfl) rfl ?_
    refine o_store_box 0 rfl ty26 rfl rfl rfl rfl rfl rfl rfl ?_
    refine o_seq ?_
    refine c_ret ?_
    cases hF
    refine s_st (st_nilrow 5 1) ?_
    refine s_ret2 rfl (r_tmp rfl) (r_cell 1 rfl ty26 rfl rfl rfl rfl) fun a w hs => ?_
    exact fin_sel hs [0] ⟨none, 0, 0, rfl, rfl, rfl⟩ rfl sub_nil
  · replace hF := ite_f h1 hF
    refine c_skip ?_
    refine sat_wc ?_
    refine c_seq ?_
    refine c_seq ?_
    refine c_cut (fun E N' => ∀ (t17 : Bool), F.words.Unquote_j1 k text_ t17 = some r → Sat E [(0, .string (bs text_)), (2, .slice none 0 0), (3, .pointer (some ⟨b, 0, none⟩)), (17, .bool t17)] [.box b 26 [.int .i64 0, .int .i64 0]] [] N') (fun N2 hN2 => ?_) ?_
    · refine c_region ?_
      refine o_v (v_move rfl) rfl ?_
      refine o_v (v_streq rfl rfl) rfl ?_
      refine o_v (v_move rfl) rfl ?_
      refine o_split (t := 13) rfl (fun h6 => ?_) (fun h6 => ?_)
      · replace hF := ite_t h6 hF
        refine o_off rfl rfl (by decide) rfl ?_
        refine o_off rfl rfl (by decide) rfl ?_
        refine o_off rfl rfl (by decide) rfl ?_
        refine o_v (v_pick_t rfl rfl) rfl ?_
        refine o_nil ?_
        refine s_st ?_ (hN2 true hF)
        exact st_le [0] (le_cons rfl (le_cons rfl (le_cons rfl (le_cons rfl le_nil)))) rfl sub_nil
      · replace hF := ite_f h6 hF
        refine o_on rfl rfl ?_
        refine o_v (v_move rfl) rfl ?_
        refine o_on rfl rfl ?_
        refine ite_some hF fun h7 hF => ?_
        refine o_v (v_sindex Try.underlying9 rfl rfl h7) rfl ?_
        refine o_on rfl rfl ?_
        refine o_v (v_bin rfl rfl rfl) rfl ?_
        refine o_v (v_pick_f rfl rfl) rfl ?_
        refine o_nil ?_
        refine s_st ?_ (hN2 ((sAt text_ 0) != 34) hF)
        exact st_le [0] (le_cons rfl (le_cons rfl (le_cons rfl (le_cons rfl le_nil)))) rfl sub_nil
    · intro t17 hF
      unfold F.words.Unquote_j1 at hF
      refine sat_wc ?_
      refine c_cond rfl (fun h2 => ?_) (fun h2 => ?_)
      · replace hF := ite_t h2 hF
        refine c_seq ?_
        refine c_region ?_
        refine o_v (v_build (v := .agg #[.int .i64 0, .int .i64 13]) rfl (fun _ => by kernel_rfl)) rfl ?_
        refine o_v (v_assign rfl) rfl ?_
        refine o_store_box 0 rfl ty26 rfl rfl rfl rfl rfl rfl rfl ?_
        refine o_seq ?_
        refine c_ret ?_
        cases hF
        refine s_st (st_nilrow 5 1) ?_
        refine s_ret2 rfl (r_tmp rfl) (r_cell 1 rfl ty26 rfl rfl rfl rfl) fun a w hs => ?_
        exact fin_sel hs [0] ⟨none, 0, 0, rfl, rfl, rfl⟩ rfl sub_nil
      · replace hF := ite_f h2 hF
        refine c_skip ?_
        refine sat_wc ?_
        refine c_seq ?_
        refine c_region ?_
        refine o_v (v_move rfl) rfl ?_
        obtain ⟨v, h3, hF⟩ := bd hF
        refine o_call0 call42 rfl sub_nil (tri42 k text_ 0 v h3) rfl ?_
        rintro _ _ _ ⟨sa1, sn1, sc1, rfl, rfl, rfl⟩
        refine o_v (v_move rfl) rfl ?_
        refine o_v (v_extract rfl rfl) rfl ?_
        refine o_v (v_extract rfl rfl) rfl ?_
        refine o_v (v_extract rfl rfl) rfl ?_
        refine o_alloc zero26 rfl rfl fun b1 => ?_
        refine o_v (v_assign rfl) rfl ?_
        refine o_v (v_assign rfl) rfl ?_
        refine o_store_box 0 rfl ty26 rfl rfl rfl rfl rfl rfl rfl ?_
        refine o_seq ?_
        refine c_seq ?_
        refine c_seq ?_
        refine c_cut (fun E N' => ∀ (t33 : Bool), F.words.Unquote_j2 v t33 = some r → Sat E [(0, .string (bs text_)), (2, .slice none 0 0), (3, .pointer (some ⟨b, 0, none⟩)), (4, .slice sa1 sn1 sc1), (5, .int .i64 v.2.1), (6, .pointer (some ⟨b1, 0, none⟩)), (33, .bool t33)] [.box b1 26 [.int .i64 v.2.2.At, .int .i64 v.2.2.Code], .box b 26 [.int .i64 0, .int .i64 0], .row (.slice sa1 sn1 sc1) 5 1 (v.1.map eU8)] [] N') (fun N2 hN2 => ?_) ?_
        · refine c_region ?_
          refine o_v (v_fieldAddr (v := .pointer (some ⟨b1, 1, none⟩)) rfl (fun _ => by kernel_rfl)) rfl ?_
          refine o_v (v_load_box 0 ty24 rfl rfl rfl rfl rfl) rfl ?_
          refine o_v (v_bin rfl rfl rfl) rfl ?_
          refine o_v (v_move rfl) rfl ?_
          refine o_split (t := 28) rfl (fun h5 => ?_) (fun h5 => ?_)
          · replace hF := ite_t h5 hF
            refine o_on rfl rfl ?_
            refine o_v (v_move rfl) rfl ?_
            refine o_on rfl rfl ?_
            refine o_v (v_move rfl) rfl ?_
            refine o_on rfl rfl ?_
            refine o_v (v_len_str Try.underlying9 rfl) rfl ?_
            refine o_on rfl rfl ?_
            refine o_v (v_bin rfl rfl rfl) rfl ?_
            refine o_v (v_pick_t rfl rfl) rfl ?_
            refine o_nil ?_
            refine s_st ?_ (hN2 (decide (v.2.1 < (text_.length : Int))) hF)
            exact st_le [0, 1, 0] (le_cons rfl (le_cons rfl (le_cons rfl (le_cons rfl (le_cons rfl (le_cons rfl (le_cons rfl le_nil))))))) rfl sub_nil
          · replace hF := ite_f h5 hF
            refine o_off rfl rfl (by decide) rfl ?_
            refine o_off rfl rfl (by decide) rfl ?_
            refine o_off rfl rfl (by decide) rfl ?_
            refine o_off rfl rfl (by decide) rfl ?_
            refine o_v (v_pick_f rfl rfl) rfl ?_
            refine o_nil ?_
            refine s_st ?_ (hN2 false hF)
            exact st_le [0, 1, 0] (le_cons rfl (le_cons rfl (le_cons rfl (le_cons rfl (le_cons rfl (le_cons rfl (le_cons rfl le_nil))))))) rfl sub_nil
        · intro t33 hF
          unfold F.words.Unquote_j2 at hF
          refine sat_wc ?_
          refine c_cond rfl (fun h4 => ?_) (fun h4 => ?_)
          · replace hF := ite_t h4 hF
            refine c_seq ?_
            refine c_region ?_
            refine o_v (v_move rfl) rfl ?_
            refine o_v (v_build (v := .agg #[.int .i64 v.2.1, .int .i64 15]) rfl (fun _ => by kernel_rfl)) rfl ?_
            refine o_v (v_assign rfl) rfl ?_
            refine o_store_box 1 rfl ty26 rfl rfl rfl rfl rfl rfl rfl ?_
            refine o_seq ?_
            refine c_ret ?_
            cases hF
            refine s_st (st_nilrow 5 1) ?_
            refine s_ret2 rfl (r_tmp rfl) (r_cell 2 rfl ty26 rfl rfl rfl rfl) fun a w hs => ?_
            exact fin_sel hs [0] ⟨none, 0, 0, rfl, rfl, rfl⟩ rfl sub_nil
          · replace hF := ite_f h4 hF
            refine c_skip ?_
            refine sat_wc ?_
            refine c_seq ?_
            refine c_draw (n := 4) [0, 1] mixed rfl rfl ?_
            refine d_val 0 rfl pnok (by kernel_rfl) (by kernel_rfl) (by kernel_rfl) rfl (v_move rfl) ?_
            refine d_val 1 rfl pnok (by kernel_rfl) (by kernel_rfl) (by kernel_rfl) rfl (v_load_box 0 ty26 rfl rfl rfl rfl rfl) ?_
            refine d_val 2 rfl pnok (by kernel_rfl) (by kernel_rfl) (by kernel_rfl) rfl (v_assign rfl) ?_
            refine d_one 3 rfl (by kernel_rfl) ?_
            refine o_store_box 1 rfl ty26 rfl rfl rfl rfl rfl rfl rfl ?_
            refine d_next [0, 1] 0 rfl rfl ?_
            refine d_done_seq (by kernel_rfl) ?_
            refine c_ret ?_
            cases hF
            refine s_ret2 rfl (r_tmp rfl) (r_cell 1 rfl ty26 rfl rfl rfl rfl) fun a w hs => ?_
            exact fin_sel hs [2] ⟨sa1, sn1, sc1, rfl, rfl, rfl⟩ rfl sub_nil
theorem tri17 (k : Nat) (s : List UInt8) (r : Bool) (hF : F.words.IsName k s = some r) :
    Tri Try.prog 17 [.string (bs s)] [] [] (fun o H Φ => o = .ret (.bool r) ∧ H = [] ∧ Φ = []) := by
  unfold F.words.IsName at hF
  refine tri_intro (n := 23) Try.func17 rfl Try.ntmps17 rfl fun w X => ?_
  refine c_seq ?_
  refine c_region ?_
  refine o_v (v_assign rfl) rfl ?_
  refine o_seq ?_
  refine c_seq ?_
  refine c_cut (fun E N' => ∀ (t2 : Bool), F.words.IsName_j1 t2 = some r → Sat E [(2, .bool t2)] [] [] N') (fun N1 hN1 => ?_) ?_
  · refine c_region ?_
    refine o_v (v_move rfl) rfl ?_
    refine o_v (v_strne rfl rfl) rfl ?_
    refine o_v (v_move rfl) rfl ?_
    refine o_split (t := 5) rfl (fun h1 => ?_) (fun h1 => ?_)
    · replace hF := ite_t h1 hF
      refine o_on rfl rfl ?_
      refine o_v (v_move rfl) rfl ?_
      refine o_on rfl rfl ?_
      refine o_v (v_len_str Try.underlying9 rfl) rfl ?_
      refine o_on rfl rfl ?_
      refine o_v (v_bin rfl rfl rfl) rfl ?_
      refine o_v (v_pick_t rfl rfl) rfl ?_
      refine o_v (v_move rfl) rfl ?_
      refine o_split (t := 10) rfl (fun h2 => ?_) (fun h2 => ?_)
      · replace hF := ite_t h2 hF
        refine o_on rfl rfl ?_
        refine o_v (v_move rfl) rfl ?_
        refine o_on rfl rfl ?_
        refine ite_some hF fun h3 hF => ?_
        refine o_v (v_sindex Try.underlying9 rfl rfl h3) rfl ?_
        refine o_on rfl rfl ?_
        refine o_v (v_convert (v := .int .i32 (IntKind.wrap .i32 (sAt s 0))) rfl (fun _ => by kernel_rfl)) rfl ?_
        refine o_on rfl rfl ?_
        obtain ⟨v, h4, hF⟩ := bd hF
        refine o_callSB call33 rfl lent_nil (tri33 (IntKind.wrap .i32 (sAt s 0)) v h4) rfl ?_
        refine o_v (v_pick_t rfl rfl) rfl ?_
        refine o_v (v_move rfl) rfl ?_
        refine o_split (t := 16) rfl (fun h5 => ?_) (fun h5 => ?_)
        · replace hF := ite_t h5 hF
          refine o_on rfl rfl ?_
          refine o_v (v_move rfl) rfl ?_
          refine o_on rfl rfl ?_
          obtain ⟨v1, h6, hF⟩ := bd hF
          refine o_callSB call34 rfl lent_nil (tri34 k s v1 h6) rfl ?_
          refine o_on rfl rfl ?_
          refine o_v (v_move rfl) rfl ?_
          refine o_on rfl rfl ?_
          refine o_v (v_len_str Try.underlying9 rfl) rfl ?_
          refine o_on rfl rfl ?_
          refine o_v (v_bin rfl rfl rfl) rfl ?_
          refine o_v (v_pick_t rfl rfl) rfl ?_
          refine o_v (v_assign rfl) rfl ?_
          refine o_nil ?_
          refine s_st ?_ (hN1 (v1 == (s.length : Int)) hF)
          exact st_le [] (le_cons rfl le_nil) rfl sub_nil
        · replace hF := ite_f h5 hF
          refine o_off rfl rfl (by decide) rfl ?_
          refine o_off rfl rfl (by decide) rfl ?_
          refine o_off rfl rfl (by decide) rfl ?_
          refine o_off rfl rfl (by decide) rfl ?_
          refine o_off rfl rfl (by decide) rfl ?_
          refine o_v (v_pick_f rfl rfl) rfl ?_
          refine o_v (v_assign rfl) rfl ?_
          refine o_nil ?_
          refine s_st ?_ (hN1 false hF)
          exact st_le [] (le_cons rfl le_nil) rfl sub_nil
      · replace hF := ite_f h2 hF
        refine o_off rfl rfl (by decide) rfl ?_
        refine o_off rfl rfl (by decide) rfl ?_
        refine o_off rfl rfl (by decide) rfl ?_
        refine o_off rfl rfl (by decide) rfl ?_
        refine o_v (v_pick_f rfl rfl) rfl ?_
        refine o_v (v_move rfl) rfl ?_
        refine o_off rfl rfl (by decide) rfl ?_
        refine o_off rfl rfl (by decide) rfl ?_
        refine o_off rfl rfl (by decide) rfl ?_
        refine o_off rfl rfl (by decide) rfl ?_
        refine o_off rfl rfl (by decide) rfl ?_
        refine o_v (v_pick_f rfl rfl) rfl ?_
        refine o_v (v_assign rfl) rfl ?_
        refine o_nil ?_
        refine s_st ?_ (hN1 false hF)
        exact st_le [] (le_cons rfl le_nil) rfl sub_nil
    · replace hF := ite_f h1 hF
      refine o_off rfl rfl (by decide) rfl ?_
      refine o_off rfl rfl (by decide) rfl ?_
      refine o_off rfl rfl (by decide) rfl ?_
      refine o_v (v_pick_f rfl rfl) rfl ?_
      refine o_v (v_move rfl) rfl ?_
      refine o_off rfl rfl (by decide) rfl ?_
      refine o_off rfl rfl (by decide) rfl ?_
      refine o_off rfl rfl (by decide) rfl ?_
      refine o_off rfl rfl (by decide) rfl ?_
      refine o_v (v_pick_f rfl rfl) rfl ?_
      refine o_v (v_move rfl) rfl ?_
      refine o_off rfl rfl (by decide) rfl ?_
      refine o_off rfl rfl (by decide) rfl ?_
      refine o_off rfl rfl (by decide) rfl ?_
      refine o_off rfl rfl (by decide) rfl ?_
      refine o_off rfl rfl (by decide) rfl ?_
      refine o_v (v_pick_f rfl rfl) rfl ?_
      refine o_v (v_assign rfl) rfl ?_
      refine o_nil ?_
      refine s_st ?_ (hN1 false hF)
      exact st_le [] (le_cons rfl le_nil) rfl sub_nil
  · intro t2 hF
    unfold F.words.IsName_j1 at hF
    refine sat_wc ?_
    refine c_ret ?_
    cases hF
    refine s_ret1 rfl (r_tmp rfl) fun a w hs => ?_
    exact fin_sel hs [] ⟨rfl, rfl, rfl⟩ rfl sub_nil
theorem tri19 (k : Nat) (s : List UInt8) (r : Bool) (hF : F.words.IsKey k s = some r) :
    Tri Try.prog 19 [.string (bs s)] [] [] (fun o H Φ => o = .ret (.bool r) ∧ H = [] ∧ Φ = []) := by
  unfold F.words.IsKey at hF
  refine tri_intro (n := 23) Try.func19 rfl Try.ntmps19 rfl fun w X => ?_
  refine c_seq ?_
  refine c_region ?_
  refine o_v (v_assign rfl) rfl ?_
  refine o_seq ?_
  refine c_seq ?_
  refine c_cut (fun E N' => ∀ (t2 : Bool), F.words.IsKey_j1 t2 = some r → Sat E [(2, .bool t2)] [] [] N') (fun N1 hN1 => ?_) ?_
  · refine c_region ?_
    refine o_v (v_move rfl) rfl ?_
    refine o_v (v_strne rfl rfl) rfl ?_
    refine o_v (v_move rfl) rfl ?_
    refine o_split (t := 5) rfl (fun h1 => ?_) (fun h1 => ?_)
    · replace hF := ite_t h1 hF
      refine o_on rfl rfl ?_
      refine o_v (v_move rfl) rfl ?_
      refine o_on rfl rfl ?_
      refine o_v (v_len_str Try.underlying9 rfl) rfl ?_
      refine o_on rfl rfl ?_
      refine o_v (v_bin rfl rfl rfl) rfl ?_
      refine o_v (v_pick_t rfl rfl) rfl ?_
      refine o_v (v_move rfl) rfl ?_
      refine o_split (t := 10) rfl (fun h2 => ?_) (fun h2 => ?_)
      · replace hF := ite_t h2 hF
        refine o_on rfl rfl ?_
        refine o_v (v_move rfl) rfl ?_
        refine o_on rfl rfl ?_
        refine ite_some hF fun h3 hF => ?_
        refine o_v (v_sindex Try.underlying9 rfl rfl h3) rfl ?_
        refine o_on rfl rfl ?_
        refine o_v (v_convert (v := .int .i32 (IntKind.wrap .i32 (sAt s 0))) rfl (fun _ => by kernel_rfl)) rfl ?_
        refine o_on rfl rfl ?_
        obtain ⟨v, h4, hF⟩ := bd hF
        refine o_callSB call37 rfl lent_nil (tri37 (IntKind.wrap .i32 (sAt s 0)) v h4) rfl ?_
        refine o_v (v_pick_t rfl rfl) rfl ?_
        refine o_v (v_move rfl) rfl ?_
        refine o_split (t := 16) rfl (fun h5 => ?_) (fun h5 => ?_)
        · replace hF := ite_t h5 hF
          refine o_on rfl rfl ?_
          refine o_v (v_move rfl) rfl ?_
          refine o_on rfl rfl ?_
          obtain ⟨v1, h6, hF⟩ := bd hF
          refine o_callSB call34 rfl lent_nil (tri34 k s v1 h6) rfl ?_
          refine o_on rfl rfl ?_
          refine o_v (v_move rfl) rfl ?_
          refine o_on rfl rfl ?_
          refine o_v (v_len_str Try.underlying9 rfl) rfl ?_
          refine o_on rfl rfl ?_
          refine o_v (v_bin rfl rfl rfl) rfl ?_
          refine o_v (v_pick_t rfl rfl) rfl ?_
          refine o_v (v_assign rfl) rfl ?_
          refine o_nil ?_
          refine s_st ?_ (hN1 (v1 == (s.length : Int)) hF)
          exact st_le [] (le_cons rfl le_nil) rfl sub_nil
        · replace hF := ite_f h5 hF
          refine o_off rfl rfl (by decide) rfl ?_
          refine o_off rfl rfl (by decide) rfl ?_
          refine o_off rfl rfl (by decide) rfl ?_
          refine o_off rfl rfl (by decide) rfl ?_
          refine o_off rfl rfl (by decide) rfl ?_
          refine o_v (v_pick_f rfl rfl) rfl ?_
          refine o_v (v_assign rfl) rfl ?_
          refine o_nil ?_
          refine s_st ?_ (hN1 false hF)
          exact st_le [] (le_cons rfl le_nil) rfl sub_nil
      · replace hF := ite_f h2 hF
        refine o_off rfl rfl (by decide) rfl ?_
        refine o_off rfl rfl (by decide) rfl ?_
        refine o_off rfl rfl (by decide) rfl ?_
        refine o_off rfl rfl (by decide) rfl ?_
        refine o_v (v_pick_f rfl rfl) rfl ?_
        refine o_v (v_move rfl) rfl ?_
        refine o_off rfl rfl (by decide) rfl ?_
        refine o_off rfl rfl (by decide) rfl ?_
        refine o_off rfl rfl (by decide) rfl ?_
        refine o_off rfl rfl (by decide) rfl ?_
        refine o_off rfl rfl (by decide) rfl ?_
        refine o_v (v_pick_f rfl rfl) rfl ?_
        refine o_v (v_assign rfl) rfl ?_
        refine o_nil ?_
        refine s_st ?_ (hN1 false hF)
        exact st_le [] (le_cons rfl le_nil) rfl sub_nil
    · replace hF := ite_f h1 hF
      refine o_off rfl rfl (by decide) rfl ?_
      refine o_off rfl rfl (by decide) rfl ?_
      refine o_off rfl rfl (by decide) rfl ?_
      refine o_v (v_pick_f rfl rfl) rfl ?_
      refine o_v (v_move rfl) rfl ?_
      refine o_off rfl rfl (by decide) rfl ?_
      refine o_off rfl rfl (by decide) rfl ?_
      refine o_off rfl rfl (by decide) rfl ?_
      refine o_off rfl rfl (by decide) rfl ?_
      refine o_v (v_pick_f rfl rfl) rfl ?_
      refine o_v (v_move rfl) rfl ?_
      refine o_off rfl rfl (by decide) rfl ?_
      refine o_off rfl rfl (by decide) rfl ?_
      refine o_off rfl rfl (by decide) rfl ?_
      refine o_off rfl rfl (by decide) rfl ?_
      refine o_off rfl rfl (by decide) rfl ?_
      refine o_v (v_pick_f rfl rfl) rfl ?_
      refine o_v (v_assign rfl) rfl ?_
      refine o_nil ?_
      refine s_st ?_ (hN1 false hF)
      exact st_le [] (le_cons rfl le_nil) rfl sub_nil
  · intro t2 hF
    unfold F.words.IsKey_j1 at hF
    refine sat_wc ?_
    refine c_ret ?_
    cases hF
    refine s_ret1 rfl (r_tmp rfl) fun a w hs => ?_
    exact fin_sel hs [] ⟨rfl, rfl, rfl⟩ rfl sub_nil
theorem tri39 (b : Strings_Builder) (c : Int) (b1 : Nat) (sa1 : Option Addr) (sn1 sc1 : Nat) (r : Strings_Builder) (hF : F.strings.Builder_WriteByte b c = some r) :
    Tri Try.prog 39 [.pointer (some ⟨b1, 0, none⟩), .int .u8 c] [.box b1 62 [bptr b1 b.addr, .slice sa1 sn1 sc1], .row (.slice sa1 sn1 sc1) 5 1 (b.buf.map eU8)] [] (fun o H Φ => ∃ (sa5 : Option Addr) (sn5 sc5 : Nat), o = .ret (.nilIface) ∧ H = [.box b1 62 [bptr b1 r.addr, .slice sa5 sn5 sc5], .row (.slice sa5 sn5 sc5) 5 1 (r.buf.map eU8)] ∧ Φ = []) := by
  unfold F.strings.Builder_WriteByte at hF
  refine tri_intro (n := 17) Try.func39 rfl Try.ntmps39 rfl fun w X => ?_
  refine c_seq ?_
  refine c_region ?_
  refine o_v (v_assign rfl) rfl ?_
  refine o_seq ?_
  refine c_seq ?_
  refine c_region ?_
  refine o_v (v_move rfl) rfl ?_
  obtain ⟨v, h1, hF⟩ := bd hF
  refine o_call [0, 0] call56 rfl rfl rfl sub_nil (cap := #[]) (by rw [show (#[] : Array Value).toList = [] from rfl, List.append_nil]; exact (tri56 b b1 sa1 sn1 sc1 v h1)) rfl ?_
  rintro _ _ _ ⟨sa2, sn2, sc2, rfl, rfl, rfl⟩
  refine o_seq ?_
  refine c_seq ?_
  refine c_region ?_
  refine o_v (v_move rfl) rfl ?_
  refine o_v (v_move rfl) rfl ?_
  refine o_v (v_nilCheck rfl) rfl ?_
  refine o_v (v_fieldAddr (v := .pointer (some ⟨b1, 1, none⟩)) rfl (fun _ => by kernel_rfl)) rfl ?_
  refine o_v (v_load_box 0 ty30 rfl rfl rfl rfl rfl) rfl ?_
  refine o_v (v_move rfl) rfl ?_
  refine o_buildSlice (enc := eU8) ([c] : List Int) [.int .u8 c] sl30 rfl (fun _ => by kernel_rfl) rfl rfl rfl (.s rfl (.nil)) rfl fun sa3 sn3 sc3 => ?_
  refine ite_some hF fun h2 hF => ?_
  refine ite_some hF fun h3 hF => ?_
  refine o_append (enc := eU8) (xs := v.buf) (ys := ([c] : List Int)) 2 sl30 rfl rfl rfl (.r 0 _ rfl) h2 h3 rfl fun sa4 sn4 sc4 => ?_
  refine o_v (v_nilCheck rfl) rfl ?_
  refine o_v (v_fieldAddr (v := .pointer (some ⟨b1, 1, none⟩)) rfl (fun _ => by kernel_rfl)) rfl ?_
  refine o_store_box 1 rfl ty30 rfl rfl rfl rfl rfl rfl rfl ?_
  refine o_seq ?_
  refine c_seq ?_
  refine c_region ?_
  refine o_v (v_assign rfl) rfl ?_
  refine o_seq ?_
  refine c_ret ?_
  cases hF
  refine s_ret1 rfl (r_tmp rfl) fun a w hs => ?_
  exact fin_sel hs [1, 1] ⟨sa4, sn4, sc4, rfl, rfl, rfl⟩ rfl sub_nil
theorem tri40 (b : Strings_Builder) (s : List UInt8) (b1 : Nat) (sa1 : Option Addr) (sn1 sc1 : Nat) (r : Int × Strings_Builder) (hF : F.strings.Builder_WriteString b s = some r) :
    Tri Try.prog 40 [.pointer (some ⟨b1, 0, none⟩), .string (bs s)] [.box b1 62 [bptr b1 b.addr, .slice sa1 sn1 sc1], .row (.slice sa1 sn1 sc1) 5 1 (b.buf.map eU8)] [] (fun o H Φ => ∃ (sa4 : Option Addr) (sn4 sc4 : Nat), o = .ret (.tuple #[.int .i64 r.1, .nilIface]) ∧ H = [.box b1 62 [bptr b1 r.2.addr, .slice sa4 sn4 sc4], .row (.slice sa4 sn4 sc4) 5 1 (r.2.buf.map eU8)] ∧ Φ = []) := by
  unfold F.strings.Builder_WriteString at hF
  refine tri_intro (n := 19) Try.func40 rfl Try.ntmps40 rfl fun w X => ?_
  refine c_seq ?_
  refine c_region ?_
  refine o_v (v_assign rfl) rfl ?_
  refine o_v (v_assign rfl) rfl ?_
  refine o_seq ?_
  refine c_seq ?_
  refine c_region ?_
  refine o_v (v_move rfl) rfl ?_
  obtain ⟨v, h1, hF⟩ := bd hF
  refine o_call [0, 0] call56 rfl rfl rfl sub_nil (cap := #[]) (by rw [show (#[] : Array Value).toList = [] from rfl, List.append_nil]; exact (tri56 b b1 sa1 sn1 sc1 v h1)) rfl ?_
  rintro _ _ _ ⟨sa2, sn2, sc2, rfl, rfl, rfl⟩
  refine o_seq ?_
  refine c_seq ?_
  refine c_region ?_
  refine o_v (v_move rfl) rfl ?_
  refine o_v (v_move rfl) rfl ?_
  refine o_v (v_nilCheck rfl) rfl ?_
  refine o_v (v_fieldAddr (v := .pointer (some ⟨b1, 1, none⟩)) rfl (fun _ => by kernel_rfl)) rfl ?_
  refine o_v (v_load_box 0 ty30 rfl rfl rfl rfl rfl) rfl ?_
  refine o_v (v_move rfl) rfl ?_
  refine ite_some hF fun h2 hF => ?_
  refine ite_some hF fun h3 hF => ?_
  refine o_append_str (xs := v.buf) (s := s) 1 (slT_parts sl30).1 Try.underlying9 byt5 rfl rfl rfl h2 h3 rfl fun sa3 sn3 sc3 => ?_
  refine o_v (v_nilCheck rfl) rfl ?_
  refine o_v (v_fieldAddr (v := .pointer (some ⟨b1, 1, none⟩)) rfl (fun _ => by kernel_rfl)) rfl ?_
  refine o_store_box 0 rfl ty30 rfl rfl rfl rfl rfl rfl rfl ?_
  refine o_seq ?_
  refine c_seq ?_
  refine c_region ?_
  refine o_v (v_move rfl) rfl ?_
  refine o_v (v_len_str Try.underlying9 rfl) rfl ?_
  refine o_v (v_assign rfl) rfl ?_
  refine o_v (v_assign rfl) rfl ?_
  refine o_seq ?_
  refine c_ret ?_
  cases hF
  refine s_ret2 rfl (r_tmp rfl) (r_tmp rfl) fun a w hs => ?_
  exact fin_sel hs [0, 0] ⟨sa3, sn3, sc3, rfl, rfl, rfl⟩ rfl sub_nil
theorem tri24 (k : Nat) (b : List Int) (sa1 : Option Addr) (sn1 sc1 : Nat) (r : List UInt8) (hF : F.words.Quote k b = some r) :
    Tri Try.prog 24 [.slice sa1 sn1 sc1] [] [(.slice sa1 sn1 sc1, .slice 1 (b.map eU8))] (fun o H Φ => o = .ret (.string (bs r)) ∧ H = [] ∧ Φ = []) := by
  unfold F.words.Quote at hF
  refine tri_intro (n := 56) Try.func24 rfl Try.ntmps24 rfl fun w X => ?_
  refine c_seq ?_
  refine c_region ?_
  refine o_v (v_assign rfl) rfl ?_
  refine o_seq ?_
  refine c_seq ?_
  refine c_region ?_
  refine o_alloc zero62 rfl rfl fun b1 => ?_
  refine o_seq ?_
  refine c_seq ?_
  refine c_region ?_
  obtain ⟨v, h1, hF⟩ := bd hF
  refine o_st (st_nilrow 5 1) ?_
  refine o_call [1, 0] call39 rfl rfl rfl sub_nil (cap := #[]) (by rw [show (#[] : Array Value).toList = [] from rfl, List.append_nil]; exact (tri39 (Strings_Builder.mk false ([] : List Int)) 34 b1 none 0 0 v h1)) rfl ?_
  rintro _ _ _ ⟨sa2, sn2, sc2, rfl, rfl, rfl⟩
  refine o_seq ?_
  refine c_seq ?_
  refine c_seq ?_
  refine c_region ?_
  refine o_v (v_move rfl) rfl ?_
  refine o_v (v_lenS (enc := eU8) b sl30 rfl (.f 0 rfl)) rfl ?_
  refine o_v (v_move rfl) rfl ?_
  refine o_seq ?_
  obtain ⟨o1, ho1, hF⟩ := bd hF
  refine c_cut (fun E N' => ∀ (sa4 : Option Addr) (sn4 sc4 : Nat), Sat E [(0, .slice sa1 sn1 sc1), (2, .string (bs ([] : List UInt8))), (3, .pointer (some ⟨b1, 0, none⟩)), (7, .slice sa1 sn1 sc1)] [.box b1 62 [bptr b1 o1.1, .slice sa4 sn4 sc4], .row (.slice sa4 sn4 sc4) 5 1 (o1.2.map eU8)] [(.slice sa1 sn1 sc1, .slice 1 (b.map eU8))] N') (fun N1 hN1 => ?_) ?_
  · refine c_block ?_
    refine c_loopE (fun E j a w => ∃ (t9 : Int) (addr_ : Bool) (buf_ : List Int) (sa3 : Option Addr) (sn3 sc3 : Nat), F.words.Quote_l1 b j t9 addr_ buf_ = some o1 ∧ St E [(0, .slice sa1 sn1 sc1), (2, .string (bs ([] : List UInt8))), (3, .pointer (some ⟨b1, 0, none⟩)), (7, .slice sa1 sn1 sc1), (8, .int .i64 (b.length : Int)), (9, .int .i64 t9)] [.box b1 62 [bptr b1 addr_, .slice sa3 sn3 sc3], .row (.slice sa3 sn3 sc3) 5 1 (buf_.map eU8)] [(.slice sa1 sn1 sc1, .slice 1 (b.map eU8))] a w) k ?_ ?_
    · intro a w hs
      exact ⟨0, v.addr, v.buf, sa2, sn2, sc2, ho1, st_le [0, 0] (le_cons rfl (le_cons rfl (le_cons rfl (le_cons rfl (le_cons rfl (le_cons rfl le_nil)))))) rfl (sub_cons 0 rfl sub_nil) a w hs⟩
    · rintro j a w ⟨t9, addr_, buf_, sa3, sn3, sc3, hL1, hs⟩
      cases j with
      | zero => cases hL1
      | succ j =>
        refine wc_app hs ?_
        unfold F.words.Quote_l1 at hL1
        refine c_seq ?_
        refine c_region ?_
        refine o_v (v_bin rfl rfl rfl) rfl ?_
        refine o_seq ?_
        refine c_seq ?_
        refine c_cond rfl (fun h2 => ?_) (fun h2 => ?_)
        · replace hL1 := ite_t h2 hL1
          refine c_skip ?_
          refine sat_wc ?_
          refine c_seq ?_
          refine c_cut (fun E N' => ∀ (addr_1 : Bool) (buf_1 : List Int) (sa5 : Option Addr) (sn5 sc5 : Nat), F.words.Quote_j2 (F.words.Quote_l1 b j) t9 addr_1 buf_1 = some o1 → Sat E [(0, .slice sa1 sn1 sc1), (2, .string (bs ([] : List UInt8))), (3, .pointer (some ⟨b1, 0, none⟩)), (5, .int .u8 (at_ b t9)), (7, .slice sa1 sn1 sc1), (8, .int .i64 (b.length : Int)), (9, .int .i64 t9)] [.box b1 62 [bptr b1 addr_1, .slice sa5 sn5 sc5], .row (.slice sa5 sn5 sc5) 5 1 (buf_1.map eU8)] [(.slice sa1 sn1 sc1, .slice 1 (b.map eU8))] N') (fun N2 hN2 => ?_) ?_
          · refine c_block ?_
            refine c_seq ?_
            refine c_region ?_
            refine ite_some hL1 fun h3 hL1 => ?_
            refine o_v (v_indexAddr_s (xs := b) (enc := eU8) sl30 rfl rfl (.f 0 rfl) h3) rfl ?_
            refine o_v (v_load_s (xs := b) (enc := eU8) ty5 rfl (.f 0 rfl) h3 rfl rfl rfl rfl rfl rfl rfl) rfl ?_
            refine o_v (v_assign rfl) rfl ?_
            refine o_seq ?_
            refine c_cut (fun E N' => ∀ (addr_2 : Bool) (buf_2 : List Int) (sa6 : Option Addr) (sn6 sc6 : Nat), F.words.Quote_j3 (F.words.Quote_l1 b j) t9 addr_2 buf_2 = some o1 → Sat E [(0, .slice sa1 sn1 sc1), (2, .string (bs ([] : List UInt8))), (3, .pointer (some ⟨b1, 0, none⟩)), (5, .int .u8 (at_ b t9)), (7, .slice sa1 sn1 sc1), (8, .int .i64 (b.length : Int)), (9, .int .i64 t9)] [.box b1 62 [bptr b1 addr_2, .slice sa6 sn6 sc6], .row (.slice sa6 sn6 sc6) 5 1 (buf_2.map eU8)] [(.slice sa1 sn1 sc1, .slice 1 (b.map eU8))] N') (fun N3 hN3 => ?_) ?_
            · refine c_block ?_
              refine c_seq ?_
              refine c_cut (fun E N' => ∀ (t15 : Bool), F.words.Quote_j4 addr_ buf_ b t9 (F.words.Quote_l1 b j) t15 = some o1 → Sat E [(0, .slice sa1 sn1 sc1), (2, .string (bs ([] : List UInt8))), (3, .pointer (some ⟨b1, 0, none⟩)), (5, .int .u8 (at_ b t9)), (7, .slice sa1 sn1 sc1), (8, .int .i64 (b.length : Int)), (9, .int .i64 t9), (15, .bool t15)] [.box b1 62 [bptr b1 addr_, .slice sa3 sn3 sc3], .row (.slice sa3 sn3 sc3) 5 1 (buf_.map eU8)] [(.slice sa1 sn1 sc1, .slice 1 (b.map eU8))] N') (fun N10 hN10 => ?_) ?_
              · refine c_region ?_
                refine o_v (v_move rfl) rfl ?_
                refine o_v (v_bin rfl rfl rfl) rfl ?_
                refine o_v (v_move rfl) rfl ?_
                refine o_split (t := 18) rfl (fun h21 => ?_) (fun h21 => ?_)
                · replace hL1 := ite_t h21 hL1
                  refine o_off rfl rfl (by decide) rfl ?_
                  refine o_off rfl rfl (by decide) rfl ?_
                  refine o_v (v_pick_t rfl rfl) rfl ?_
                  refine o_v (v_assign rfl) rfl ?_
                  refine o_nil ?_
                  refine s_st ?_ (hN10 true hL1)
                  exact st_le [0, 0] (le_cons rfl (le_cons rfl (le_cons rfl (le_cons rfl (le_cons rfl (le_cons rfl (le_cons rfl (le_cons rfl le_nil)))))))) rfl (sub_cons 0 rfl sub_nil)
                · replace hL1 := ite_f h21 hL1
                  refine o_on rfl rfl ?_
                  refine o_v (v_move rfl) rfl ?_
                  refine o_on rfl rfl ?_
                  refine o_v (v_bin rfl rfl rfl) rfl ?_
                  refine o_v (v_pick_f rfl rfl) rfl ?_
                  refine o_v (v_assign rfl) rfl ?_
                  refine o_nil ?_
                  refine s_st ?_ (hN10 ((at_ b t9) == 92) hL1)
                  exact st_le [0, 0] (le_cons rfl (le_cons rfl (le_cons rfl (le_cons rfl (le_cons rfl (le_cons rfl (le_cons rfl (le_cons rfl le_nil)))))))) rfl (sub_cons 0 rfl sub_nil)
              · intro t15 hL1
                unfold F.words.Quote_j4 at hL1
                refine sat_wc ?_
                refine c_cut (fun E N' => ∀ (addr_3 : Bool) (buf_3 : List Int) (sa7 : Option Addr) (sn7 sc7 : Nat), F.words.Quote_j5 (F.words.Quote_l1 b j) t9 addr_3 buf_3 = some o1 → Sat E [(0, .slice sa1 sn1 sc1), (2, .string (bs ([] : List UInt8))), (3, .pointer (some ⟨b1, 0, none⟩)), (5, .int .u8 (at_ b t9)), (7, .slice sa1 sn1 sc1), (8, .int .i64 (b.length : Int)), (9, .int .i64 t9)] [.box b1 62 [bptr b1 addr_3, .slice sa7 sn7 sc7], .row (.slice sa7 sn7 sc7) 5 1 (buf_3.map eU8)] [(.slice sa1 sn1 sc1, .slice 1 (b.map eU8))] N') (fun N5 hN5 => ?_) ?_
                · refine c_cond rfl (fun h4 => ?_) (fun h4 => ?_)
                  · replace hL1 := ite_t h4 hL1
                    refine c_seq ?_
                    refine c_region ?_
                    obtain ⟨v1, h5, hL1⟩ := bd hL1
                    refine o_call [0, 0] call39 rfl rfl rfl sub_nil (cap := #[]) (by rw [show (#[] : Array Value).toList = [] from rfl, List.append_nil]; exact (tri39 (Strings_Builder.mk addr_ buf_) 92 b1 sa3 sn3 sc3 v1 h5)) rfl ?_
                    rintro _ _ _ ⟨sa8, sn8, sc8, rfl, rfl, rfl⟩
                    refine o_seq ?_
                    refine c_region ?_
                    refine o_v (v_move rfl) rfl ?_
                    obtain ⟨v2, h6, hL1⟩ := bd hL1
                    refine o_call [0, 0] call39 rfl rfl rfl sub_nil (cap := #[]) (by rw [show (#[] : Array Value).toList = [] from rfl, List.append_nil]; exact (tri39 v1 (at_ b t9) b1 sa8 sn8 sc8 v2 h6)) rfl ?_
                    rintro _ _ _ ⟨sa9, sn9, sc9, rfl, rfl, rfl⟩
                    refine o_nil ?_
                    refine s_st ?_ (hN5 v2.addr v2.buf sa9 sn9 sc9 hL1)
                    exact st_le [0, 0] (le_cons rfl (le_cons rfl (le_cons rfl (le_cons rfl (le_cons rfl (le_cons rfl (le_cons rfl le_nil))))))) rfl (sub_cons 0 rfl sub_nil)
                  · replace hL1 := ite_f h4 hL1
                    refine c_seq ?_
                    refine c_region ?_
                    refine o_v (v_move rfl) rfl ?_
                    refine o_v (v_bin rfl rfl rfl) rfl ?_
                    refine o_v (v_assign rfl) rfl ?_
                    refine o_seq ?_
                    refine c_cut (fun E N' => ∀ (addr_4 : Bool) (buf_4 : List Int) (sa10 : Option Addr) (sn10 sc10 : Nat), F.words.Quote_j6 (F.words.Quote_l1 b j) t9 addr_4 buf_4 = some o1 → Sat E [(0, .slice sa1 sn1 sc1), (2, .string (bs ([] : List UInt8))), (3, .pointer (some ⟨b1, 0, none⟩)), (5, .int .u8 (at_ b t9)), (7, .slice sa1 sn1 sc1), (8, .int .i64 (b.length : Int)), (9, .int .i64 t9)] [.box b1 62 [bptr b1 addr_4, .slice sa10 sn10 sc10], .row (.slice sa10 sn10 sc10) 5 1 (buf_4.map eU8)] [(.slice sa1 sn1 sc1, .slice 1 (b.map eU8))] N') (fun N6 hN6 => ?_) ?_
                    · refine c_cond rfl (fun h7 => ?_) (fun h7 => ?_)
                      · replace hL1 := ite_t h7 hL1
                        refine c_region ?_
                        obtain ⟨v3, h8, hL1⟩ := bd hL1
                        refine o_call [0, 0] call40 rfl rfl rfl sub_nil (cap := #[]) (by rw [show (#[] : Array Value).toList = [] from rfl, List.append_nil]; exact (tri40 (Strings_Builder.mk addr_ buf_) ([92, 110] : List UInt8) b1 sa3 sn3 sc3 v3 h8)) rfl ?_
                        rintro _ _ _ ⟨sa11, sn11, sc11, rfl, rfl, rfl⟩
                        refine o_nil ?_
                        refine s_st ?_ (hN6 v3.2.addr v3.2.buf sa11 sn11 sc11 hL1)
                        exact st_le [0, 0] (le_cons rfl (le_cons rfl (le_cons rfl (le_cons rfl (le_cons rfl (le_cons rfl (le_cons rfl le_nil))))))) rfl (sub_cons 0 rfl sub_nil)
                      · replace hL1 := ite_f h7 hL1
                        refine c_seq ?_
                        refine c_region ?_
                        refine o_v (v_move rfl) rfl ?_
                        refine o_v (v_bin rfl rfl rfl) rfl ?_
                        refine o_v (v_assign rfl) rfl ?_
                        refine o_seq ?_
                        refine c_cut (fun E N' => ∀ (addr_5 : Bool) (buf_5 : List Int) (sa12 : Option Addr) (sn12 sc12 : Nat), F.words.Quote_j7 (F.words.Quote_l1 b j) t9 addr_5 buf_5 = some o1 → Sat E [(0, .slice sa1 sn1 sc1), (2, .string (bs ([] : List UInt8))), (3, .pointer (some ⟨b1, 0, none⟩)), (5, .int .u8 (at_ b t9)), (7, .slice sa1 sn1 sc1), (8, .int .i64 (b.length : Int)), (9, .int .i64 t9)] [.box b1 62 [bptr b1 addr_5, .slice sa12 sn12 sc12], .row (.slice sa12 sn12 sc12) 5 1 (buf_5.map eU8)] [(.slice sa1 sn1 sc1, .slice 1 (b.map eU8))] N') (fun N7 hN7 => ?_) ?_
                        · refine c_cond rfl (fun h9 => ?_) (fun h9 => ?_)
                          · replace hL1 := ite_t h9 hL1
                            refine c_region ?_
                            obtain ⟨v4, h10, hL1⟩ := bd hL1
                            refine o_call [0, 0] call40 rfl rfl rfl sub_nil (cap := #[]) (by rw [show (#[] : Array Value).toList = [] from rfl, List.append_nil]; exact (tri40 (Strings_Builder.mk addr_ buf_) ([92, 116] : List UInt8) b1 sa3 sn3 sc3 v4 h10)) rfl ?_
                            rintro _ _ _ ⟨sa13, sn13, sc13, rfl, rfl, rfl⟩
                            refine o_nil ?_
                            refine s_st ?_ (hN7 v4.2.addr v4.2.buf sa13 sn13 sc13 hL1)
                            exact st_le [0, 0] (le_cons rfl (le_cons rfl (le_cons rfl (le_cons rfl (le_cons rfl (le_cons rfl (le_cons rfl le_nil))))))) rfl (sub_cons 0 rfl sub_nil)
                          · replace hL1 := ite_f h9 hL1
                            refine c_seq ?_
                            refine c_region ?_
                            refine o_v (v_move rfl) rfl ?_
                            refine o_v (v_bin rfl rfl rfl) rfl ?_
                            refine o_v (v_assign rfl) rfl ?_
                            refine o_seq ?_
                            refine c_cut (fun E N' => ∀ (addr_6 : Bool) (buf_6 : List Int) (sa14 : Option Addr) (sn14 sc14 : Nat), F.words.Quote_j8 (F.words.Quote_l1 b j) t9 addr_6 buf_6 = some o1 → Sat E [(0, .slice sa1 sn1 sc1), (2, .string (bs ([] : List UInt8))), (3, .pointer (some ⟨b1, 0, none⟩)), (5, .int .u8 (at_ b t9)), (7, .slice sa1 sn1 sc1), (8, .int .i64 (b.length : Int)), (9, .int .i64 t9)] [.box b1 62 [bptr b1 addr_6, .slice sa14 sn14 sc14], .row (.slice sa14 sn14 sc14) 5 1 (buf_6.map eU8)] [(.slice sa1 sn1 sc1, .slice 1 (b.map eU8))] N') (fun N8 hN8 => ?_) ?_
                            · refine c_cond rfl (fun h11 => ?_) (fun h11 => ?_)
                              · replace hL1 := ite_t h11 hL1
                                refine c_region ?_
                                obtain ⟨v5, h12, hL1⟩ := bd hL1
                                refine o_call [0, 0] call40 rfl rfl rfl sub_nil (cap := #[]) (by rw [show (#[] : Array Value).toList = [] from rfl, List.append_nil]; exact (tri40 (Strings_Builder.mk addr_ buf_) ([92, 114] : List UInt8) b1 sa3 sn3 sc3 v5 h12)) rfl ?_
                                rintro _ _ _ ⟨sa15, sn15, sc15, rfl, rfl, rfl⟩
                                refine o_nil ?_
                                refine s_st ?_ (hN8 v5.2.addr v5.2.buf sa15 sn15 sc15 hL1)
                                exact st_le [0, 0] (le_cons rfl (le_cons rfl (le_cons rfl (le_cons rfl (le_cons rfl (le_cons rfl (le_cons rfl le_nil))))))) rfl (sub_cons 0 rfl sub_nil)
                              · replace hL1 := ite_f h11 hL1
                                refine c_seq ?_
                                refine c_cut (fun E N' => ∀ (t37 : Bool), F.words.Quote_j9 addr_ buf_ b t9 (F.words.Quote_l1 b j) t37 = some o1 → Sat E [(0, .slice sa1 sn1 sc1), (2, .string (bs ([] : List UInt8))), (3, .pointer (some ⟨b1, 0, none⟩)), (5, .int .u8 (at_ b t9)), (7, .slice sa1 sn1 sc1), (8, .int .i64 (b.length : Int)), (9, .int .i64 t9), (37, .bool t37)] [.box b1 62 [bptr b1 addr_, .slice sa3 sn3 sc3], .row (.slice sa3 sn3 sc3) 5 1 (buf_.map eU8)] [(.slice sa1 sn1 sc1, .slice 1 (b.map eU8))] N') (fun N10 hN10 => ?_) ?_
                                · refine c_region ?_
                                  refine o_v (v_move rfl) rfl ?_
                                  refine o_v (v_bin rfl rfl rfl) rfl ?_
                                  refine o_v (v_move rfl) rfl ?_
                                  refine o_split (t := 40) rfl (fun h20 => ?_) (fun h20 => ?_)
                                  · replace hL1 := ite_t h20 hL1
                                    refine o_off rfl rfl (by decide) rfl ?_
                                    refine o_off rfl rfl (by decide) rfl ?_
                                    refine o_v (v_pick_t rfl rfl) rfl ?_
                                    refine o_v (v_assign rfl) rfl ?_
                                    refine o_nil ?_
                                    refine s_st ?_ (hN10 true hL1)
                                    exact st_le [0, 0] (le_cons rfl (le_cons rfl (le_cons rfl (le_cons rfl (le_cons rfl (le_cons rfl (le_cons rfl (le_cons rfl le_nil)))))))) rfl (sub_cons 0 rfl sub_nil)
                                  · replace hL1 := ite_f h20 hL1
                                    refine o_on rfl rfl ?_
                                    refine o_v (v_move rfl) rfl ?_
                                    refine o_on rfl rfl ?_
                                    refine o_v (v_bin rfl rfl rfl) rfl ?_
                                    refine o_v (v_pick_f rfl rfl) rfl ?_
                                    refine o_v (v_assign rfl) rfl ?_
                                    refine o_nil ?_
                                    refine s_st ?_ (hN10 (decide (126 < (at_ b t9))) hL1)
                                    exact st_le [0, 0] (le_cons rfl (le_cons rfl (le_cons rfl (le_cons rfl (le_cons rfl (le_cons rfl (le_cons rfl (le_cons rfl le_nil)))))))) rfl (sub_cons 0 rfl sub_nil)
                                · intro t37 hL1
                                  unfold F.words.Quote_j9 at hL1
                                  refine sat_wc ?_
                                  refine c_cut (fun E N' => ∀ (addr_7 : Bool) (buf_7 : List Int) (sa16 : Option Addr) (sn16 sc16 : Nat), F.words.Quote_j10 (F.words.Quote_l1 b j) t9 addr_7 buf_7 = some o1 → Sat E [(0, .slice sa1 sn1 sc1), (2, .string (bs ([] : List UInt8))), (3, .pointer (some ⟨b1, 0, none⟩)), (5, .int .u8 (at_ b t9)), (7, .slice sa1 sn1 sc1), (8, .int .i64 (b.length : Int)), (9, .int .i64 t9)] [.box b1 62 [bptr b1 addr_7, .slice sa16 sn16 sc16], .row (.slice sa16 sn16 sc16) 5 1 (buf_7.map eU8)] [(.slice sa1 sn1 sc1, .slice 1 (b.map eU8))] N') (fun N10 hN10 => ?_) ?_
                                  · refine c_cond rfl (fun h13 => ?_) (fun h13 => ?_)
                                    · replace hL1 := ite_t h13 hL1
                                      refine c_seq ?_
                                      refine c_region ?_
                                      obtain ⟨v6, h14, hL1⟩ := bd hL1
                                      refine o_call [0, 0] call40 rfl rfl rfl sub_nil (cap := #[]) (by rw [show (#[] : Array Value).toList = [] from rfl, List.append_nil]; exact (tri40 (Strings_Builder.mk addr_ buf_) ([92, 120] : List UInt8) b1 sa3 sn3 sc3 v6 h14)) rfl ?_
                                      rintro _ _ _ ⟨sa17, sn17, sc17, rfl, rfl, rfl⟩
                                      refine o_seq ?_
                                      refine c_seq ?_
                                      refine c_region ?_
                                      refine o_v (v_move rfl) rfl ?_
                                      refine o_v (v_quo rfl rfl rfl) rfl ?_
                                      refine ite_some hL1 fun h15 hL1 => ?_
                                      refine o_v (v_sindex Try.underlying9 rfl rfl h15) rfl ?_
                                      obtain ⟨v7, h16, hL1⟩ := bd hL1
                                      refine o_call [0, 0] call39 rfl rfl rfl sub_nil (cap := #[]) (by rw [show (#[] : Array Value).toList = [] from rfl, List.append_nil]; exact (tri39 v6.2 (sAt ([48, 49, 50, 51, 52, 53, 54, 55, 56, 57, 97, 98, 99, 100, 101, 102] : List UInt8) (gquo .u8 (at_ b t9) 16)) b1 sa17 sn17 sc17 v7 h16)) rfl ?_
                                      rintro _ _ _ ⟨sa18, sn18, sc18, rfl, rfl, rfl⟩
                                      refine o_seq ?_
                                      refine c_region ?_
                                      refine o_v (v_move rfl) rfl ?_
                                      refine o_v (v_rem rfl rfl rfl) rfl ?_
                                      refine ite_some hL1 fun h17 hL1 => ?_
                                      refine o_v (v_sindex Try.underlying9 rfl rfl h17) rfl ?_
                                      obtain ⟨v8, h18, hL1⟩ := bd hL1
                                      refine o_call [0, 0] call39 rfl rfl rfl sub_nil (cap := #[]) (by rw [show (#[] : Array Value).toList = [] from rfl, List.append_nil]; exact (tri39 v7 (sAt ([48, 49, 50, 51, 52, 53, 54, 55, 56, 57, 97, 98, 99, 100, 101, 102] : List UInt8) (grem (at_ b t9) 16)) b1 sa18 sn18 sc18 v8 h18)) rfl ?_
                                      rintro _ _ _ ⟨sa19, sn19, sc19, rfl, rfl, rfl⟩
                                      refine o_nil ?_
                                      refine s_st ?_ (hN10 v8.addr v8.buf sa19 sn19 sc19 hL1)
                                      exact st_le [0, 0] (le_cons rfl (le_cons rfl (le_cons rfl (le_cons rfl (le_cons rfl (le_cons rfl (le_cons rfl le_nil))))))) rfl (sub_cons 0 rfl sub_nil)
                                    · replace hL1 := ite_f h13 hL1
                                      refine c_region ?_
                                      refine o_v (v_move rfl) rfl ?_
                                      obtain ⟨v9, h19, hL1⟩ := bd hL1
                                      refine o_call [0, 0] call39 rfl rfl rfl sub_nil (cap := #[]) (by rw [show (#[] : Array Value).toList = [] from rfl, List.append_nil]; exact (tri39 (Strings_Builder.mk addr_ buf_) (at_ b t9) b1 sa3 sn3 sc3 v9 h19)) rfl ?_
                                      rintro _ _ _ ⟨sa20, sn20, sc20, rfl, rfl, rfl⟩
                                      refine o_nil ?_
                                      refine s_st ?_ (hN10 v9.addr v9.buf sa20 sn20 sc20 hL1)
                                      exact st_le [0, 0] (le_cons rfl (le_cons rfl (le_cons rfl (le_cons rfl (le_cons rfl (le_cons rfl (le_cons rfl le_nil))))))) rfl (sub_cons 0 rfl sub_nil)
                                  · intro addr_7 buf_7 sa16 sn16 sc16 hL1
                                    unfold F.words.Quote_j10 at hL1
                                    refine s_st ?_ (hN8 addr_7 buf_7 sa16 sn16 sc16 hL1)
                                    exact st_le [0, 0] (le_cons rfl (le_cons rfl (le_cons rfl (le_cons rfl (le_cons rfl (le_cons rfl (le_cons rfl le_nil))))))) rfl (sub_cons 0 rfl sub_nil)
                            · intro addr_6 buf_6 sa14 sn14 sc14 hL1
                              unfold F.words.Quote_j8 at hL1
                              refine s_st ?_ (hN7 addr_6 buf_6 sa14 sn14 sc14 hL1)
                              exact st_le [0, 0] (le_cons rfl (le_cons rfl (le_cons rfl (le_cons rfl (le_cons rfl (le_cons rfl (le_cons rfl le_nil))))))) rfl (sub_cons 0 rfl sub_nil)
                        · intro addr_5 buf_5 sa12 sn12 sc12 hL1
                          unfold F.words.Quote_j7 at hL1
                          refine s_st ?_ (hN6 addr_5 buf_5 sa12 sn12 sc12 hL1)
                          exact st_le [0, 0] (le_cons rfl (le_cons rfl (le_cons rfl (le_cons rfl (le_cons rfl (le_cons rfl (le_cons rfl le_nil))))))) rfl (sub_cons 0 rfl sub_nil)
                    · intro addr_4 buf_4 sa10 sn10 sc10 hL1
                      unfold F.words.Quote_j6 at hL1
                      refine s_st ?_ (hN5 addr_4 buf_4 sa10 sn10 sc10 hL1)
                      exact st_le [0, 0] (le_cons rfl (le_cons rfl (le_cons rfl (le_cons rfl (le_cons rfl (le_cons rfl (le_cons rfl le_nil))))))) rfl (sub_cons 0 rfl sub_nil)
                · intro addr_3 buf_3 sa7 sn7 sc7 hL1
                  unfold F.words.Quote_j5 at hL1
                  refine s_st ?_ (hN3 addr_3 buf_3 sa7 sn7 sc7 hL1)
                  exact st_le [0, 0] (le_cons rfl (le_cons rfl (le_cons rfl (le_cons rfl (le_cons rfl (le_cons rfl (le_cons rfl le_nil))))))) rfl (sub_cons 0 rfl sub_nil)
            · intro addr_2 buf_2 sa6 sn6 sc6 hL1
              unfold F.words.Quote_j3 at hL1
              refine s_st ?_ (hN2 addr_2 buf_2 sa6 sn6 sc6 hL1)
              exact st_le [0, 0] (le_cons rfl (le_cons rfl (le_cons rfl (le_cons rfl (le_cons rfl (le_cons rfl (le_cons rfl le_nil))))))) rfl (sub_cons 0 rfl sub_nil)
          · intro addr_1 buf_1 sa5 sn5 sc5 hL1
            unfold F.words.Quote_j2 at hL1
            refine sat_wc ?_
            refine c_region ?_
            refine o_v (v_bin rfl rfl rfl) rfl ?_
            refine o_v (v_move rfl) rfl ?_
            refine o_nil ?_
            intro a w hs
            exact ⟨j, Nat.lt_succ_self j, IntKind.wrap .i64 (t9 + 1), addr_1, buf_1, sa5, sn5, sc5, hL1, st_le [0, 0] (le_cons rfl (le_cons rfl (le_cons rfl (le_cons rfl (le_cons rfl (le_cons rfl le_nil)))))) rfl (sub_cons 0 rfl sub_nil) a w hs⟩
        · replace hL1 := ite_f h2 hL1
          refine c_exit0 ?_
          cases hL1
          refine s_st ?_ (hN1 sa3 sn3 sc3)
          exact st_le [0, 0] (le_cons rfl (le_cons rfl (le_cons rfl (le_cons rfl le_nil)))) rfl (sub_cons 0 rfl sub_nil)
  · intro sa4 sn4 sc4
    refine sat_wc ?_
    refine c_seq ?_
    refine c_region ?_
    obtain ⟨v10, h22, hF⟩ := bd hF
    refine o_call [0, 0] call39 rfl rfl rfl sub_nil (cap := #[]) (by rw [show (#[] : Array Value).toList = [] from rfl, List.append_nil]; exact (tri39 (Strings_Builder.mk o1.1 o1.2) 34 b1 sa4 sn4 sc4 v10 h22)) rfl ?_
    rintro _ _ _ ⟨sa21, sn21, sc21, rfl, rfl, rfl⟩
    refine o_seq ?_
    refine c_seq ?_
    refine c_region ?_
    obtain ⟨v11, h23, hF⟩ := bd hF
    refine o_call [0, 0] call41 rfl rfl rfl sub_nil (cap := #[]) (by rw [show (#[] : Array Value).toList = [] from rfl, List.append_nil]; exact (tri41 v10 b1 sa21 sn21 sc21 v11 h23)) rfl ?_
    rintro _ _ _ ⟨rfl, rfl, rfl⟩
    refine o_v (v_assign rfl) rfl ?_
    refine o_seq ?_
    refine c_ret ?_
    cases hF
    refine s_ret1 rfl (r_tmp rfl) fun a w hs => ?_
    exact fin_sel hs [] ⟨rfl, rfl, rfl⟩ rfl sub_nil
theorem tri38 (b : Strings_Builder) (b1 : Nat) (sa1 : Option Addr) (sn1 sc1 : Nat) (r : Int) (hF : F.strings.Builder_Len b = some r) :
    Tri Try.prog 38 [.pointer (some ⟨b1, 0, none⟩)] [.box b1 62 [bptr b1 b.addr, .slice sa1 sn1 sc1], .row (.slice sa1 sn1 sc1) 5 1 (b.buf.map eU8)] [] (fun o H Φ => o = .ret (.int .i64 r) ∧ H = [.box b1 62 [bptr b1 b.addr, .slice sa1 sn1 sc1], .row (.slice sa1 sn1 sc1) 5 1 (b.buf.map eU8)] ∧ Φ = []) := by
  unfold F.strings.Builder_Len at hF
  refine tri_intro (n := 8) Try.func38 rfl Try.ntmps38 rfl fun w X => ?_
  refine c_seq ?_
  refine c_region ?_
  refine o_v (v_assign rfl) rfl ?_
  refine o_seq ?_
  refine c_seq ?_
  refine c_region ?_
  refine o_v (v_move rfl) rfl ?_
  refine o_v (v_nilCheck rfl) rfl ?_
  refine o_v (v_fieldAddr (v := .pointer (some ⟨b1, 1, none⟩)) rfl (fun _ => by kernel_rfl)) rfl ?_
  refine o_v (v_load_box 0 ty30 rfl rfl rfl rfl rfl) rfl ?_
  refine o_v (v_lenS (enc := eU8) b.buf sl30 rfl (.r 1 _ rfl)) rfl ?_
  refine o_v (v_assign rfl) rfl ?_
  refine o_seq ?_
  refine c_ret ?_
  cases hF
  refine s_ret1 rfl (r_tmp rfl) fun a w hs => ?_
  exact fin_sel hs [0, 0] ⟨rfl, rfl, rfl⟩ rfl sub_nil
theorem tri21 (k : Nat) (l_ : List Word) (sa1 : Option Addr) (sn1 sc1 : Nat) (r : List UInt8) (hF : F.words.Join k l_ = some r) :
    Tri Try.prog 21 [.slice sa1 sn1 sc1] [] [(.slice sa1 sn1 sc1, .slice 11 (l_.map eWord))] (fun o H Φ => o = .ret (.string (bs r)) ∧ H = [] ∧ Φ = []) := by
  unfold F.words.Join at hF
  refine tri_intro (n := 23) Try.func21 rfl Try.ntmps21 rfl fun w X => ?_
  refine c_seq ?_
  refine c_region ?_
  refine o_v (v_assign rfl) rfl ?_
  refine o_seq ?_
  refine c_seq ?_
  refine c_region ?_
  refine o_alloc zero62 rfl rfl fun b => ?_
  refine o_seq ?_
  refine c_seq ?_
  refine c_seq ?_
  refine c_region ?_
  refine o_v (v_move rfl) rfl ?_
  refine o_v (v_lenS (enc := eWord) l_ sl23 rfl (.f 0 rfl)) rfl ?_
  refine o_v (v_move rfl) rfl ?_
  refine o_seq ?_
  obtain ⟨o1, ho1, hF⟩ := bd hF
  refine c_cut (fun E N' => ∀ (sa3 : Option Addr) (sn3 sc3 : Nat), Sat E [(0, .slice sa1 sn1 sc1), (2, .string (bs ([] : List UInt8))), (3, .pointer (some ⟨b, 0, none⟩)), (6, .slice sa1 sn1 sc1)] [.box b 62 [bptr b o1.1, .slice sa3 sn3 sc3], .row (.slice sa3 sn3 sc3) 5 1 (o1.2.map eU8)] [(.slice sa1 sn1 sc1, .slice 11 (l_.map eWord))] N') (fun N1 hN1 => ?_) ?_
  · refine c_block ?_
    refine c_loopE (fun E j a w => ∃ (t8 : Int) (addr_ : Bool) (buf_ : List Int) (sa2 : Option Addr) (sn2 sc2 : Nat), F.words.Join_l1 l_ j t8 addr_ buf_ = some o1 ∧ St E [(0, .slice sa1 sn1 sc1), (2, .string (bs ([] : List UInt8))), (3, .pointer (some ⟨b, 0, none⟩)), (6, .slice sa1 sn1 sc1), (7, .int .i64 (l_.length : Int)), (8, .int .i64 t8)] [.box b 62 [bptr b addr_, .slice sa2 sn2 sc2], .row (.slice sa2 sn2 sc2) 5 1 (buf_.map eU8)] [(.slice sa1 sn1 sc1, .slice 11 (l_.map eWord))] a w) k ?_ ?_
    · refine s_st (st_nilrow 5 1) ?_
      intro a w hs
      exact ⟨0, false, ([] : List Int), none, 0, 0, ho1, st_le [1, 0] (le_cons rfl (le_cons rfl (le_cons rfl (le_cons rfl (le_cons rfl (le_cons rfl le_nil)))))) rfl (sub_cons 0 rfl sub_nil) a w hs⟩
    · rintro j a w ⟨t8, addr_, buf_, sa2, sn2, sc2, hL1, hs⟩
      cases j with
      | zero => cases hL1
      | succ j =>
        refine wc_app hs ?_
        unfold F.words.Join_l1 at hL1
        refine c_seq ?_
        refine c_region ?_
        refine o_v (v_bin rfl rfl rfl) rfl ?_
        refine o_seq ?_
        refine c_seq ?_
        refine c_cond rfl (fun h1 => ?_) (fun h1 => ?_)
        · replace hL1 := ite_t h1 hL1
          refine c_skip ?_
          refine sat_wc ?_
          refine c_seq ?_
          refine c_cut (fun E N' => ∀ (addr_1 : Bool) (buf_1 : List Int) (sa4 : Option Addr) (sn4 sc4 : Nat) (sa5 : Option Addr) (sn5 sc5 : Nat) (b1 : Nat), F.words.Join_j2 (F.words.Join_l1 l_ j) t8 addr_1 buf_1 = some o1 → Sat E [(0, .slice sa1 sn1 sc1), (2, .string (bs ([] : List UInt8))), (3, .pointer (some ⟨b, 0, none⟩)), (5, .pointer (some ⟨b1, 0, none⟩)), (6, .slice sa1 sn1 sc1), (7, .int .i64 (l_.length : Int)), (8, .int .i64 t8)] [.box b 62 [bptr b addr_1, .slice sa5 sn5 sc5], .box b1 35 [.int .i64 ((at_ l_ t8).Kind), .string (bs ((at_ l_ t8).Text)), .slice sa4 sn4 sc4, .int .u64 ((at_ l_ t8).Set.w0), .int .u64 ((at_ l_ t8).Set.w1), .int .u64 ((at_ l_ t8).Set.w2), .int .u64 ((at_ l_ t8).Set.w3), .int .i64 ((at_ l_ t8).N_), .int .i64 ((at_ l_ t8).At), .int .i64 ((at_ l_ t8).Line), .int .i64 ((at_ l_ t8).Col)], .row (.slice sa5 sn5 sc5) 5 1 (buf_1.map eU8)] [(.slice sa1 sn1 sc1, .slice 11 (l_.map eWord)), (.slice sa4 sn4 sc4, .slice 1 (((at_ l_ t8).Bytes).map eU8))] N') (fun N2 hN2 => ?_) ?_
          · refine c_block ?_
            refine c_seq ?_
            refine c_region ?_
            refine ite_some hL1 fun h2 hL1 => ?_
            refine o_v (v_indexAddr_s (xs := l_) (enc := eWord) sl23 rfl rfl (.f 0 rfl) h2) rfl ?_
            refine o_load_s (xs := l_) (enc := eWord) ty35 rfl (.f 0 rfl) h2 rfl rfl rfl rfl rfl rfl fun sa6 sn6 sc6 => ?_
            refine o_alloc zero35 rfl rfl fun b2 => ?_
            refine o_store_box 0 rfl ty35 rfl rfl rfl rfl rfl rfl rfl ?_
            refine o_seq ?_
            refine c_seq ?_
            refine c_seq ?_
            refine c_region ?_
            refine o_v (v_fieldAddr (v := .pointer (some ⟨b2, 0, none⟩)) rfl (fun _ => by kernel_rfl)) rfl ?_
            refine o_v (v_load_box 0 ty3 rfl rfl rfl rfl rfl) rfl ?_
            refine o_v (v_bin rfl rfl rfl) rfl ?_
            refine o_seq ?_
            refine c_cond rfl (fun h3 => ?_) (fun h3 => ?_)
            · replace hL1 := ite_t h3 hL1
              refine c_exit0 ?_
              refine s_st ?_ (hN2 addr_ buf_ sa6 sn6 sc6 sa2 sn2 sc2 b2 hL1)
              exact st_le [1, 0, 0] (le_cons rfl (le_cons rfl (le_cons rfl (le_cons rfl (le_cons rfl (le_cons rfl (le_cons rfl le_nil))))))) rfl (sub_cons 1 rfl (sub_cons 0 rfl sub_nil))
            · replace hL1 := ite_f h3 hL1
              refine c_skip ?_
              refine sat_wc ?_
              refine c_seq ?_
              refine c_seq ?_
              refine c_region ?_
              obtain ⟨v, h4, hL1⟩ := bd hL1
              refine o_call [1, 1] call38 rfl rfl rfl sub_nil (cap := #[]) (by rw [show (#[] : Array Value).toList = [] from rfl, List.append_nil]; exact (tri38 (Strings_Builder.mk addr_ buf_) b sa2 sn2 sc2 v h4)) rfl ?_
              rintro _ _ _ ⟨rfl, rfl, rfl⟩
              refine o_v (v_bin rfl rfl rfl) rfl ?_
              refine o_seq ?_
              refine c_cut (fun E N' => ∀ (addr_2 : Bool) (buf_2 : List Int) (sa7 : Option Addr) (sn7 sc7 : Nat), F.words.Join_j3 l_ t8 (F.words.Join_l1 l_ j) addr_2 buf_2 = some o1 → Sat E [(0, .slice sa1 sn1 sc1), (2, .string (bs ([] : List UInt8))), (3, .pointer (some ⟨b, 0, none⟩)), (5, .pointer (some ⟨b2, 0, none⟩)), (6, .slice sa1 sn1 sc1), (7, .int .i64 (l_.length : Int)), (8, .int .i64 t8)] [.box b 62 [bptr b addr_2, .slice sa7 sn7 sc7], .box b2 35 [.int .i64 ((at_ l_ t8).Kind), .string (bs ((at_ l_ t8).Text)), .slice sa6 sn6 sc6, .int .u64 ((at_ l_ t8).Set.w0), .int .u64 ((at_ l_ t8).Set.w1), .int .u64 ((at_ l_ t8).Set.w2), .int .u64 ((at_ l_ t8).Set.w3), .int .i64 ((at_ l_ t8).N_), .int .i64 ((at_ l_ t8).At), .int .i64 ((at_ l_ t8).Line), .int .i64 ((at_ l_ t8).Col)], .row (.slice sa7 sn7 sc7) 5 1 (buf_2.map eU8)] [(.slice sa1 sn1 sc1, .slice 11 (l_.map eWord)), (.slice sa6 sn6 sc6, .slice 1 (((at_ l_ t8).Bytes).map eU8))] N') (fun N3 hN3 => ?_) ?_
              · refine c_cond rfl (fun h6 => ?_) (fun h6 => ?_)
                · replace hL1 := ite_t h6 hL1
                  refine c_region ?_
                  obtain ⟨v2, h7, hL1⟩ := bd hL1
                  refine o_call [0, 0] call39 rfl rfl rfl sub_nil (cap := #[]) (by rw [show (#[] : Array Value).toList = [] from rfl, List.append_nil]; exact (tri39 (Strings_Builder.mk addr_ buf_) 32 b sa2 sn2 sc2 v2 h7)) rfl ?_
                  rintro _ _ _ ⟨sa9, sn9, sc9, rfl, rfl, rfl⟩
                  refine o_nil ?_
                  refine s_st ?_ (hN3 v2.addr v2.buf sa9 sn9 sc9 hL1)
                  exact st_le [0, 1, 0] (le_cons rfl (le_cons rfl (le_cons rfl (le_cons rfl (le_cons rfl (le_cons rfl (le_cons rfl le_nil))))))) rfl (sub_cons 1 rfl (sub_cons 0 rfl sub_nil))
                · replace hL1 := ite_f h6 hL1
                  refine c_skip ?_
                  refine s_st ?_ (hN3 addr_ buf_ sa2 sn2 sc2 hL1)
                  exact st_le [0, 1, 0] (le_cons rfl (le_cons rfl (le_cons rfl (le_cons rfl (le_cons rfl (le_cons rfl (le_cons rfl le_nil))))))) rfl (sub_cons 1 rfl (sub_cons 0 rfl sub_nil))
              · intro addr_2 buf_2 sa7 sn7 sc7 hL1
                unfold F.words.Join_j3 at hL1
                refine sat_wc ?_
                refine c_region ?_
                refine o_v (v_fieldAddr (v := .pointer (some ⟨b2, 1, none⟩)) rfl (fun _ => by kernel_rfl)) rfl ?_
                refine o_v (v_load_box 1 ty9 rfl rfl rfl rfl rfl) rfl ?_
                obtain ⟨v1, h5, hL1⟩ := bd hL1
                refine o_call [0, 1] call40 rfl rfl rfl sub_nil (cap := #[]) (by rw [show (#[] : Array Value).toList = [] from rfl, List.append_nil]; exact (tri40 (Strings_Builder.mk addr_2 buf_2) ((at_ l_ t8).Text) b sa7 sn7 sc7 v1 h5)) rfl ?_
                rintro _ _ _ ⟨sa8, sn8, sc8, rfl, rfl, rfl⟩
                refine o_nil ?_
                refine s_st ?_ (hN2 v1.2.addr v1.2.buf sa6 sn6 sc6 sa8 sn8 sc8 b2 hL1)
                exact st_le [0, 1, 0] (le_cons rfl (le_cons rfl (le_cons rfl (le_cons rfl (le_cons rfl (le_cons rfl (le_cons rfl le_nil))))))) rfl (sub_cons 0 rfl (sub_cons 1 rfl sub_nil))
          · intro addr_1 buf_1 sa4 sn4 sc4 sa5 sn5 sc5 b1 hL1
            unfold F.words.Join_j2 at hL1
            refine sat_wc ?_
            refine c_region ?_
            refine o_v (v_bin rfl rfl rfl) rfl ?_
            refine o_v (v_move rfl) rfl ?_
            refine o_nil ?_
            intro a w hs
            exact ⟨j, Nat.lt_succ_self j, IntKind.wrap .i64 (t8 + 1), addr_1, buf_1, sa5, sn5, sc5, hL1, st_le [0, 1] (le_cons rfl (le_cons rfl (le_cons rfl (le_cons rfl (le_cons rfl (le_cons rfl le_nil)))))) rfl (sub_cons 0 rfl sub_nil) a w hs⟩
        · replace hL1 := ite_f h1 hL1
          refine c_exit0 ?_
          cases hL1
          refine s_st ?_ (hN1 sa2 sn2 sc2)
          exact st_le [0, 0] (le_cons rfl (le_cons rfl (le_cons rfl (le_cons rfl le_nil)))) rfl (sub_cons 0 rfl sub_nil)
  · intro sa3 sn3 sc3
    refine sat_wc ?_
    refine c_seq ?_
    refine c_region ?_
    obtain ⟨v3, h8, hF⟩ := bd hF
    refine o_call [0, 0] call41 rfl rfl rfl sub_nil (cap := #[]) (by rw [show (#[] : Array Value).toList = [] from rfl, List.append_nil]; exact (tri41 (Strings_Builder.mk o1.1 o1.2) b sa3 sn3 sc3 v3 h8)) rfl ?_
    rintro _ _ _ ⟨rfl, rfl, rfl⟩
    refine o_v (v_assign rfl) rfl ?_
    refine o_seq ?_
    refine c_ret ?_
    cases hF
    refine s_ret1 rfl (r_tmp rfl) fun a w hs => ?_
    exact fin_sel hs [] ⟨rfl, rfl, rfl⟩ rfl sub_nil
theorem tri15 (text_ : List UInt8) (at__ : Int) (r : Int × Int) (hF : F.words.Place text_ at__ = some r) :
    Tri Try.prog 15 [.string (bs text_), .int .i64 at__] [] [] (fun o H Φ => o = .ret (.tuple #[.int .i64 r.1, .int .i64 r.2]) ∧ H = [] ∧ Φ = []) := by
  unfold F.words.Place at hF
  refine tri_intro (n := 25) Try.func15 rfl Try.ntmps15 rfl fun w X => ?_
  refine c_seq ?_
  refine c_region ?_
  refine o_v (v_assign rfl) rfl ?_
  refine o_v (v_assign rfl) rfl ?_
  refine o_seq ?_
  refine c_seq ?_
  refine c_seq ?_
  refine c_region ?_
  refine o_v (v_move rfl) rfl ?_
  refine o_v (v_bin rfl rfl rfl) rfl ?_
  refine o_v (v_move rfl) rfl ?_
  refine o_split (t := 9) rfl (fun h1 => ?_) (fun h1 => ?_)
  · replace hF := ite_t h1 hF
    refine o_off rfl rfl (by decide) rfl ?_
    refine o_off rfl rfl (by decide) rfl ?_
    refine o_off rfl rfl (by decide) rfl ?_
    refine o_off rfl rfl (by decide) rfl ?_
    refine o_v (v_pick_t rfl rfl) rfl ?_
    refine o_seq ?_
    refine c_cond rfl (fun _ => ?_) (fun h => Bool.noConfusion h)
    refine c_seq ?_
    refine c_region ?_
    refine o_v (v_assign rfl) rfl ?_
    refine o_v (v_assign rfl) rfl ?_
    refine o_seq ?_
    refine c_ret ?_
    cases hF
    refine s_ret2 rfl (r_tmp rfl) (r_tmp rfl) fun a w hs => ?_
    exact fin_sel hs [] ⟨rfl, rfl, rfl⟩ rfl sub_nil
  · replace hF := ite_f h1 hF
    refine o_on rfl rfl ?_
    refine o_v (v_move rfl) rfl ?_
    refine o_on rfl rfl ?_
    refine o_v (v_move rfl) rfl ?_
    refine o_on rfl rfl ?_
    refine o_v (v_len_str Try.underlying9 rfl) rfl ?_
    refine o_on rfl rfl ?_
    refine o_v (v_bin rfl rfl rfl) rfl ?_
    refine o_v (v_pick_f rfl rfl) rfl ?_
    refine o_seq ?_
    refine c_cond rfl (fun h2 => ?_) (fun h2 => ?_)
    · replace hF := ite_t h2 hF
      refine c_seq ?_
      refine c_region ?_
      refine o_v (v_assign rfl) rfl ?_
      refine o_v (v_assign rfl) rfl ?_
      refine o_seq ?_
      refine c_ret ?_
      cases hF
      refine s_ret2 rfl (r_tmp rfl) (r_tmp rfl) fun a w hs => ?_
      exact fin_sel hs [] ⟨rfl, rfl, rfl⟩ rfl sub_nil
    · replace hF := ite_f h2 hF
      refine c_skip ?_
      refine sat_wc ?_
      refine c_seq ?_
      refine c_region ?_
      refine o_v (v_move rfl) rfl ?_
      refine o_v (v_move rfl) rfl ?_
      refine ite_some hF fun h3 hF => ?_
      refine o_v (v_strslice Try.underlying9 rfl rfl rfl rfl rfl h3) rfl ?_
      refine o_v (v_assign rfl) rfl ?_
      refine o_seq ?_
      refine c_seq ?_
      refine c_region ?_
      refine o_v (v_move rfl) rfl ?_
      obtain ⟨v, h4, hF⟩ := bd hF
      refine o_callSB call31 rfl lent_nil (tri31 (sub text_ 0 at__) ([10] : List UInt8) v h4) rfl ?_
      refine o_v (v_bin rfl rfl rfl) rfl ?_
      refine o_v (v_move rfl) rfl ?_
      refine o_v (v_move rfl) rfl ?_
      obtain ⟨v1, h5, hF⟩ := bd hF
      refine o_callSB call32 rfl lent_nil (tri32 (sub text_ 0 at__) 10 v1 h5) rfl ?_
      refine o_v (v_bin rfl rfl rfl) rfl ?_
      refine o_v (v_assign rfl) rfl ?_
      refine o_v (v_assign rfl) rfl ?_
      refine o_seq ?_
      refine c_ret ?_
      cases hF
      refine s_ret2 rfl (r_tmp rfl) (r_tmp rfl) fun a w hs => ?_
      exact fin_sel hs [] ⟨rfl, rfl, rfl⟩ rfl sub_nil
theorem tri11 (k : Nat) (r : Bool) (hF : F.law02.alive k = some r) :
    Tri Try.prog 11 [] [] [] (fun o H Φ => o = .ret (.bool r) ∧ H = [] ∧ Φ = []) := by
  unfold F.law02.alive at hF
  refine tri_intro (n := 52) Try.func11 rfl Try.ntmps11 rfl fun w X => ?_
  refine c_seq ?_
  refine c_region ?_
  refine o_v (v_assign rfl) rfl ?_
  refine o_seq ?_
  refine c_seq ?_
  refine c_region ?_
  obtain ⟨v, h1, hF⟩ := bd hF
  refine o_call0 call12 rfl sub_nil (tri12 k ([99, 102, 32, 69, 46, 65, 32, 61, 32, 69, 32, 34, 43, 34, 32, 69, 59, 32, 35, 32, 120] : List UInt8) v h1) rfl ?_
  rintro _ _ _ ⟨sa1, sn1, sc1, rfl, rfl, rfl⟩
  refine o_v (v_move rfl) rfl ?_
  refine o_v (v_extract rfl rfl) rfl ?_
  refine o_v (v_extract rfl rfl) rfl ?_
  refine o_alloc zero26 rfl rfl fun b => ?_
  refine o_v (v_assign rfl) rfl ?_
  refine o_store_box 0 rfl ty26 rfl rfl rfl rfl rfl rfl rfl ?_
  refine o_seq ?_
  refine c_seq ?_
  refine c_region ?_
  obtain ⟨v1, h2, hF⟩ := bd hF
  refine o_call0 call22 rfl sub_nil (tri22 k ([34, 92, 120, 52, 65, 34] : List UInt8) v1 h2) rfl ?_
  rintro _ _ _ ⟨sa2, sn2, sc2, rfl, rfl, rfl⟩
  refine o_v (v_move rfl) rfl ?_
  refine o_v (v_extract rfl rfl) rfl ?_
  refine o_v (v_extract rfl rfl) rfl ?_
  refine o_alloc zero26 rfl rfl fun b1 => ?_
  refine o_v (v_assign rfl) rfl ?_
  refine o_store_box 0 rfl ty26 rfl rfl rfl rfl rfl rfl rfl ?_
  refine o_seq ?_
  refine c_seq ?_
  refine c_region ?_
  obtain ⟨v2, h3, hF⟩ := bd hF
  refine o_callSB call15 rfl lent_nil (tri15 ([97, 10, 98, 99] : List UInt8) 3 v2 h3) rfl ?_
  refine o_v (v_move rfl) rfl ?_
  refine o_v (v_extract rfl rfl) rfl ?_
  refine o_v (v_extract rfl rfl) rfl ?_
  refine o_v (v_assign rfl) rfl ?_
  refine o_v (v_assign rfl) rfl ?_
  refine o_seq ?_
  refine c_seq ?_
  refine c_cut (fun E N' => ∀ (t0 : Bool), F.law02.alive_j1 t0 = some r → Sat E [(0, .bool t0), (2, .pointer (some ⟨b, 0, none⟩)), (4, .pointer (some ⟨b1, 0, none⟩))] [.box b1 26 [.int .i64 v1.2.At, .int .i64 v1.2.Code], .box b 26 [.int .i64 v.2.At, .int .i64 v.2.Code]] [] N') (fun N1 hN1 => ?_) ?_
  · refine c_region ?_
    refine o_v (v_load_box 2 ty26 rfl rfl rfl rfl rfl) rfl ?_
    refine o_v (v_build (v := .agg #[.int .i64 0, .int .i64 0]) rfl (fun _ => by kernel_rfl)) rfl ?_
    refine o_v (v_ageq 2 rfl rfl (eq26 v.2.At v.2.Code 0 0) rfl guard26) rfl ?_
    refine o_v (v_move rfl) rfl ?_
    refine o_split (t := 22) rfl (fun h4 => ?_) (fun h4 => ?_)
    · replace hF := ite_t h4 hF
      refine o_on rfl rfl ?_
      refine o_v (v_move rfl) rfl ?_
      refine o_on rfl rfl ?_
      refine o_v (v_lenS (enc := eWord) v.1 sl23 rfl (.r 3 _ rfl)) rfl ?_
      refine o_on rfl rfl ?_
      refine o_v (v_bin rfl rfl rfl) rfl ?_
      refine o_v (v_pick_t rfl rfl) rfl ?_
      refine o_v (v_move rfl) rfl ?_
      refine o_split (t := 27) rfl (fun h5 => ?_) (fun h5 => ?_)
      · replace hF := ite_t h5 hF
        refine o_on rfl rfl ?_
        refine o_v (v_move rfl) rfl ?_
        refine o_on rfl rfl ?_
        refine ite_some hF fun h6 hF => ?_
        refine o_v (v_indexAddr_s (xs := v.1) (enc := eWord) sl23 rfl rfl (.r 3 _ rfl) h6) rfl ?_
        refine o_on rfl rfl ?_
        refine o_v (v_fieldAddr (v := .pointer (some ⟨blkA sa1, offA sa1 + (Int.toNat 9 * 11 + 0), none⟩)) rfl (fun _ => by kernel_rfl)) rfl ?_
        refine o_on rfl rfl ?_
        refine o_v (v_load_s (xs := v.1) (enc := eWord) ty3 rfl (.r 3 _ rfl) h6 rfl rfl rfl rfl rfl rfl rfl) rfl ?_
        refine o_on rfl rfl ?_
        refine o_v (v_bin rfl rfl rfl) rfl ?_
        refine o_v (v_pick_t rfl rfl) rfl ?_
        refine o_v (v_move rfl) rfl ?_
        refine o_split (t := 34) rfl (fun h7 => ?_) (fun h7 => ?_)
        · replace hF := ite_t h7 hF
          refine o_on rfl rfl ?_
          refine o_v (v_load_box 0 ty26 rfl rfl rfl rfl rfl) rfl ?_
          refine o_on rfl rfl ?_
          refine o_v (v_build (v := .agg #[.int .i64 0, .int .i64 0]) rfl (fun _ => by kernel_rfl)) rfl ?_
          refine o_on rfl rfl ?_
          refine o_v (v_ageq 2 rfl rfl (eq26 v1.2.At v1.2.Code 0 0) rfl guard26) rfl ?_
          refine o_v (v_pick_t rfl rfl) rfl ?_
          refine o_v (v_move rfl) rfl ?_
          refine o_split (t := 39) rfl (fun h8 => ?_) (fun h8 => ?_)
          · replace hF := ite_t h8 hF
            refine o_on rfl rfl ?_
            refine o_v (v_move rfl) rfl ?_
            refine o_on rfl rfl ?_
            refine o_v (v_bytesStr sl30 Try.underlying5 Try.underlying9 rfl (.r 1 _ rfl)) rfl ?_
            refine o_on rfl rfl ?_
            refine o_v (v_streq rfl rfl) rfl ?_
            refine o_v (v_pick_t rfl rfl) rfl ?_
            refine o_v (v_move rfl) rfl ?_
            refine o_split (t := 44) rfl (fun h9 => ?_) (fun h9 => ?_)
            · replace hF := ite_t h9 hF
              refine o_on rfl rfl ?_
              refine o_v (v_move rfl) rfl ?_
              refine o_on rfl rfl ?_
              refine o_v (v_bin rfl rfl rfl) rfl ?_
              refine o_v (v_pick_t rfl rfl) rfl ?_
              refine o_v (v_move rfl) rfl ?_
              refine o_split (t := 48) rfl (fun h10 => ?_) (fun h10 => ?_)
              · replace hF := ite_t h10 hF
                refine o_on rfl rfl ?_
                refine o_v (v_move rfl) rfl ?_
                refine o_on rfl rfl ?_
                refine o_v (v_bin rfl rfl rfl) rfl ?_
                refine o_v (v_pick_t rfl rfl) rfl ?_
                refine o_v (v_assign rfl) rfl ?_
                refine o_nil ?_
                refine s_st ?_ (hN1 (v2.2 == 2) hF)
                exact st_le [0, 1] (le_cons rfl (le_cons rfl (le_cons rfl le_nil))) rfl sub_nil
              · replace hF := ite_f h10 hF
                refine o_off rfl rfl (by decide) rfl ?_
                refine o_off rfl rfl (by decide) rfl ?_
                refine o_v (v_pick_f rfl rfl) rfl ?_
                refine o_v (v_assign rfl) rfl ?_
                refine o_nil ?_
                refine s_st ?_ (hN1 false hF)
                exact st_le [0, 1] (le_cons rfl (le_cons rfl (le_cons rfl le_nil))) rfl sub_nil
            · replace hF := ite_f h9 hF
              refine o_off rfl rfl (by decide) rfl ?_
              refine o_off rfl rfl (by decide) rfl ?_
              refine o_v (v_pick_f rfl rfl) rfl ?_
              refine o_v (v_move rfl) rfl ?_
              refine o_off rfl rfl (by decide) rfl ?_
              refine o_off rfl rfl (by decide) rfl ?_
              refine o_v (v_pick_f rfl rfl) rfl ?_
              refine o_v (v_assign rfl) rfl ?_
              refine o_nil ?_
              refine s_st ?_ (hN1 false hF)
              exact st_le [0, 1] (le_cons rfl (le_cons rfl (le_cons rfl le_nil))) rfl sub_nil
          · replace hF := ite_f h8 hF
            refine o_off rfl rfl (by decide) rfl ?_
            refine o_off rfl rfl (by decide) rfl ?_
            refine o_off rfl rfl (by decide) rfl ?_
            refine o_v (v_pick_f rfl rfl) rfl ?_
            refine o_v (v_move rfl) rfl ?_
            refine o_off rfl rfl (by decide) rfl ?_
            refine o_off rfl rfl (by decide) rfl ?_
            refine o_v (v_pick_f rfl rfl) rfl ?_
            refine o_v (v_move rfl) rfl ?_
            refine o_off rfl rfl (by decide) rfl ?_
            refine o_off rfl rfl (by decide) rfl ?_
            refine o_v (v_pick_f rfl rfl) rfl ?_
            refine o_v (v_assign rfl) rfl ?_
            refine o_nil ?_
            refine s_st ?_ (hN1 false hF)
            exact st_le [0, 1] (le_cons rfl (le_cons rfl (le_cons rfl le_nil))) rfl sub_nil
        · replace hF := ite_f h7 hF
          refine o_off rfl rfl (by decide) rfl ?_
          refine o_off rfl rfl (by decide) rfl ?_
          refine o_off rfl rfl (by decide) rfl ?_
          refine o_v (v_pick_f rfl rfl) rfl ?_
          refine o_v (v_move rfl) rfl ?_
          refine o_off rfl rfl (by decide) rfl ?_
          refine o_off rfl rfl (by decide) rfl ?_
          refine o_off rfl rfl (by decide) rfl ?_
          refine o_v (v_pick_f rfl rfl) rfl ?_
          refine o_v (v_move rfl) rfl ?_
          refine o_off rfl rfl (by decide) rfl ?_
          refine o_off rfl rfl (by decide) rfl ?_
          refine o_v (v_pick_f rfl rfl) rfl ?_
          refine o_v (v_move rfl) rfl ?_
          refine o_off rfl rfl (by decide) rfl ?_
          refine o_off rfl rfl (by decide) rfl ?_
          refine o_v (v_pick_f rfl rfl) rfl ?_
          refine o_v (v_assign rfl) rfl ?_
          refine o_nil ?_
          refine s_st ?_ (hN1 false hF)
          exact st_le [0, 1] (le_cons rfl (le_cons rfl (le_cons rfl le_nil))) rfl sub_nil
      · replace hF := ite_f h5 hF
        refine o_off rfl rfl (by decide) rfl ?_
        refine o_off rfl rfl (by decide) rfl ?_
        refine o_off rfl rfl (by decide) rfl ?_
        refine o_off rfl rfl (by decide) rfl ?_
        refine o_off rfl rfl (by decide) rfl ?_
        refine o_v (v_pick_f rfl rfl) rfl ?_
        refine o_v (v_move rfl) rfl ?_
        refine o_off rfl rfl (by decide) rfl ?_
        refine o_off rfl rfl (by decide) rfl ?_
        refine o_off rfl rfl (by decide) rfl ?_
        refine o_v (v_pick_f rfl rfl) rfl ?_
        refine o_v (v_move rfl) rfl ?_
        refine o_off rfl rfl (by decide) rfl ?_
        refine o_off rfl rfl (by decide) rfl ?_
        refine o_off rfl rfl (by decide) rfl ?_
        refine o_v (v_pick_f rfl rfl) rfl ?_
        refine o_v (v_move rfl) rfl ?_
        refine o_off rfl rfl (by decide) rfl ?_
        refine o_off rfl rfl (by decide) rfl ?_
        refine o_v (v_pick_f rfl rfl) rfl ?_
        refine o_v (v_move rfl) rfl ?_
        refine o_off rfl rfl (by decide) rfl ?_
        refine o_off rfl rfl (by decide) rfl ?_
        refine o_v (v_pick_f rfl rfl) rfl ?_
        refine o_v (v_assign rfl) rfl ?_
        refine o_nil ?_
        refine s_st ?_ (hN1 false hF)
        exact st_le [0, 1] (le_cons rfl (le_cons rfl (le_cons rfl le_nil))) rfl sub_nil
    · replace hF := ite_f h4 hF
      refine o_off rfl rfl (by decide) rfl ?_
      refine o_off rfl rfl (by decide) rfl ?_
      refine o_off rfl rfl (by decide) rfl ?_
      refine o_v (v_pick_f rfl rfl) rfl ?_
      refine o_v (v_move rfl) rfl ?_
      refine o_off rfl rfl (by decide) rfl ?_
      refine o_off rfl rfl (by decide) rfl ?_
      refine o_off rfl rfl (by decide) rfl ?_
      refine o_off rfl rfl (by decide) rfl ?_
      refine o_off rfl rfl (by decide) rfl ?_
      refine o_v (v_pick_f rfl rfl) rfl ?_
      refine o_v (v_move rfl) rfl ?_
      refine o_off rfl rfl (by decide) rfl ?_
      refine o_off rfl rfl (by decide) rfl ?_
      refine o_off rfl rfl (by decide) rfl ?_
      refine o_v (v_pick_f rfl rfl) rfl ?_
      refine o_v (v_move rfl) rfl ?_
      refine o_off rfl rfl (by decide) rfl ?_
      refine o_off rfl rfl (by decide) rfl ?_
      refine o_off rfl rfl (by decide) rfl ?_
      refine o_v (v_pick_f rfl rfl) rfl ?_
      refine o_v (v_move rfl) rfl ?_
      refine o_off rfl rfl (by decide) rfl ?_
      refine o_off rfl rfl (by decide) rfl ?_
      refine o_v (v_pick_f rfl rfl) rfl ?_
      refine o_v (v_move rfl) rfl ?_
      refine o_off rfl rfl (by decide) rfl ?_
      refine o_off rfl rfl (by decide) rfl ?_
      refine o_v (v_pick_f rfl rfl) rfl ?_
      refine o_v (v_assign rfl) rfl ?_
      refine o_nil ?_
      refine s_st ?_ (hN1 false hF)
      exact st_le [0, 1] (le_cons rfl (le_cons rfl (le_cons rfl le_nil))) rfl sub_nil
  · intro t0 hF
    unfold F.law02.alive_j1 at hF
    refine sat_wc ?_
    refine c_ret ?_
    cases hF
    refine s_ret1 rfl (r_tmp rfl) fun a w hs => ?_
    exact fin_sel hs [] ⟨rfl, rfl, rfl⟩ rfl sub_nil
theorem tri4 (k : Nat) (text_ : List UInt8) (at__ : Int) (r : Bool) (hF : F.law02.WordsPlaces k text_ at__ = some r) :
    Tri Try.prog 4 [.string (bs text_), .int .i64 at__] [] [] (fun o H Φ => o = .ret (.bool r) ∧ H = [] ∧ Φ = []) := by
  unfold F.law02.WordsPlaces at hF
  refine tri_intro (n := 36) Try.func4 rfl Try.ntmps4 rfl fun w X => ?_
  refine c_seq ?_
  refine c_region ?_
  refine o_v (v_assign rfl) rfl ?_
  refine o_seq ?_
  refine c_seq ?_
  refine c_seq ?_
  refine c_region ?_
  refine o_v (v_move rfl) rfl ?_
  refine o_v (v_len_str Try.underlying9 rfl) rfl ?_
  refine o_v (v_bin rfl rfl rfl) rfl ?_
  refine o_seq ?_
  refine c_cond rfl (fun h1 => ?_) (fun h1 => ?_)
  · replace hF := ite_t h1 hF
    refine c_seq ?_
    refine c_region ?_
    obtain ⟨v, h2, hF⟩ := bd hF
    refine o_callSB call11 rfl lent_nil (tri11 k v h2) rfl ?_
    refine o_v (v_assign rfl) rfl ?_
    refine o_seq ?_
    refine c_ret ?_
    cases hF
    refine s_ret1 rfl (r_tmp rfl) fun a w hs => ?_
    exact fin_sel hs [] ⟨rfl, rfl, rfl⟩ rfl sub_nil
  · replace hF := ite_f h1 hF
    refine c_skip ?_
    refine sat_wc ?_
    refine c_seq ?_
    refine c_region ?_
    refine o_v (v_move rfl) rfl ?_
    refine o_v (v_move rfl) rfl ?_
    obtain ⟨v1, h3, hF⟩ := bd hF
    refine o_callSB call15 rfl lent_nil (tri15 text_ at__ v1 h3) rfl ?_
    refine o_v (v_move rfl) rfl ?_
    refine o_v (v_extract rfl rfl) rfl ?_
    refine o_v (v_extract rfl rfl) rfl ?_
    refine o_v (v_assign rfl) rfl ?_
    refine o_v (v_assign rfl) rfl ?_
    refine o_seq ?_
    refine c_seq ?_
    refine c_region ?_
    refine o_v (v_move rfl) rfl ?_
    refine o_v (v_move rfl) rfl ?_
    obtain ⟨v2, h4, hF⟩ := bd hF
    refine o_callSB call16 rfl lent_nil (tri16 k text_ at__ v2 h4) rfl ?_
    refine o_v (v_move rfl) rfl ?_
    refine o_v (v_extract rfl rfl) rfl ?_
    refine o_v (v_extract rfl rfl) rfl ?_
    refine o_v (v_assign rfl) rfl ?_
    refine o_v (v_assign rfl) rfl ?_
    refine o_seq ?_
    refine c_seq ?_
    refine c_region ?_
    obtain ⟨v3, h5, hF⟩ := bd hF
    refine o_callSB call11 rfl lent_nil (tri11 k v3 h5) rfl ?_
    refine o_v (v_move rfl) rfl ?_
    refine o_split (t := 26) rfl (fun h6 => ?_) (fun h6 => ?_)
    · replace hF := ite_t h6 hF
      refine o_on rfl rfl ?_
      refine o_v (v_move rfl) rfl ?_
      refine o_on rfl rfl ?_
      refine o_v (v_move rfl) rfl ?_
      refine o_on rfl rfl ?_
      refine o_v (v_bin rfl rfl rfl) rfl ?_
      refine o_v (v_pick_t rfl rfl) rfl ?_
      refine o_v (v_move rfl) rfl ?_
      refine o_split (t := 31) rfl (fun h7 => ?_) (fun h7 => ?_)
      · replace hF := ite_t h7 hF
        refine o_on rfl rfl ?_
        refine o_v (v_move rfl) rfl ?_
        refine o_on rfl rfl ?_
        refine o_v (v_move rfl) rfl ?_
        refine o_on rfl rfl ?_
        refine o_v (v_bin rfl rfl rfl) rfl ?_
        refine o_v (v_pick_t rfl rfl) rfl ?_
        refine o_v (v_assign rfl) rfl ?_
        refine o_seq ?_
        refine c_ret ?_
        cases hF
        refine s_ret1 rfl (r_tmp rfl) fun a w hs => ?_
        exact fin_sel hs [] ⟨rfl, rfl, rfl⟩ rfl sub_nil
      · replace hF := ite_f h7 hF
        refine o_off rfl rfl (by decide) rfl ?_
        refine o_off rfl rfl (by decide) rfl ?_
        refine o_off rfl rfl (by decide) rfl ?_
        refine o_v (v_pick_f rfl rfl) rfl ?_
        refine o_v (v_assign rfl) rfl ?_
        refine o_seq ?_
        refine c_ret ?_
        cases hF
        refine s_ret1 rfl (r_tmp rfl) fun a w hs => ?_
        exact fin_sel hs [] ⟨rfl, rfl, rfl⟩ rfl sub_nil
    · replace hF := ite_f h6 hF
      refine o_off rfl rfl (by decide) rfl ?_
      refine o_off rfl rfl (by decide) rfl ?_
      refine o_off rfl rfl (by decide) rfl ?_
      refine o_v (v_pick_f rfl rfl) rfl ?_
      refine o_v (v_move rfl) rfl ?_
      refine o_off rfl rfl (by decide) rfl ?_
      refine o_off rfl rfl (by decide) rfl ?_
      refine o_off rfl rfl (by decide) rfl ?_
      refine o_v (v_pick_f rfl rfl) rfl ?_
      refine o_v (v_assign rfl) rfl ?_
      refine o_seq ?_
      refine c_ret ?_
      cases hF
      refine s_ret1 rfl (r_tmp rfl) fun a w hs => ?_
      exact fin_sel hs [] ⟨rfl, rfl, rfl⟩ rfl sub_nil
theorem tri5 (k : Nat) (a_ : List UInt8) (b : List UInt8) (r : Bool) (hF : F.law02.WordsTwo k a_ b = some r) :
    Tri Try.prog 5 [.string (bs a_), .string (bs b)] [] [] (fun o H Φ => o = .ret (.bool r) ∧ H = [] ∧ Φ = []) := by
  unfold F.law02.WordsTwo at hF
  refine tri_intro (n := 94) Try.func5 rfl Try.ntmps5 rfl fun w X => ?_
  refine c_seq ?_
  refine c_region ?_
  refine o_v (v_assign rfl) rfl ?_
  refine o_seq ?_
  refine c_seq ?_
  refine c_seq ?_
  refine c_region ?_
  refine o_v (v_move rfl) rfl ?_
  refine o_v (v_len_str Try.underlying9 rfl) rfl ?_
  refine o_v (v_move rfl) rfl ?_
  refine o_v (v_len_str Try.underlying9 rfl) rfl ?_
  refine o_v (v_bin rfl rfl rfl) rfl ?_
  refine o_v (v_bin rfl rfl rfl) rfl ?_
  refine o_seq ?_
  refine c_cond rfl (fun h1 => ?_) (fun h1 => ?_)
  · replace hF := ite_t h1 hF
    refine c_seq ?_
    refine c_region ?_
    obtain ⟨v, h2, hF⟩ := bd hF
    refine o_callSB call11 rfl lent_nil (tri11 k v h2) rfl ?_
    refine o_v (v_assign rfl) rfl ?_
    refine o_seq ?_
    refine c_ret ?_
    cases hF
    refine s_ret1 rfl (r_tmp rfl) fun a w hs => ?_
    exact fin_sel hs [] ⟨rfl, rfl, rfl⟩ rfl sub_nil
  · replace hF := ite_f h1 hF
    refine c_skip ?_
    refine sat_wc ?_
    refine c_seq ?_
    refine c_region ?_
    refine o_v (v_move rfl) rfl ?_
    obtain ⟨v1, h3, hF⟩ := bd hF
    refine o_call0 call12 rfl sub_nil (tri12 k a_ v1 h3) rfl ?_
    rintro _ _ _ ⟨sa1, sn1, sc1, rfl, rfl, rfl⟩
    refine o_v (v_move rfl) rfl ?_
    refine o_v (v_extract rfl rfl) rfl ?_
    refine o_v (v_extract rfl rfl) rfl ?_
    refine o_alloc zero26 rfl rfl fun b1 => ?_
    refine o_v (v_assign rfl) rfl ?_
    refine o_store_box 0 rfl ty26 rfl rfl rfl rfl rfl rfl rfl ?_
    refine o_seq ?_
    refine c_seq ?_
    refine c_region ?_
    refine o_v (v_move rfl) rfl ?_
    obtain ⟨v2, h4, hF⟩ := bd hF
    refine o_call0 call12 rfl sub_nil (tri12 k b v2 h4) rfl ?_
    rintro _ _ _ ⟨sa2, sn2, sc2, rfl, rfl, rfl⟩
    refine o_v (v_move rfl) rfl ?_
    refine o_v (v_extract rfl rfl) rfl ?_
    refine o_v (v_extract rfl rfl) rfl ?_
    refine o_alloc zero26 rfl rfl fun b2 => ?_
    refine o_v (v_assign rfl) rfl ?_
    refine o_store_box 0 rfl ty26 rfl rfl rfl rfl rfl rfl rfl ?_
    refine o_seq ?_
    refine c_seq ?_
    refine c_seq ?_
    refine c_cut (fun E N' => ∀ (t36 : Bool), F.law02.WordsTwo_j1 k v1 a_ b v2 t36 = some r → Sat E [(0, .string (bs a_)), (1, .string (bs b)), (4, .bool false), (5, .slice sa1 sn1 sc1), (6, .pointer (some ⟨b1, 0, none⟩)), (7, .slice sa2 sn2 sc2), (8, .pointer (some ⟨b2, 0, none⟩)), (36, .bool t36)] [.box b2 26 [.int .i64 v2.2.At, .int .i64 v2.2.Code], .box b1 26 [.int .i64 v1.2.At, .int .i64 v1.2.Code], .row (.slice sa1 sn1 sc1) 35 11 (v1.1.map eWord), .row (.slice sa2 sn2 sc2) 35 11 (v2.1.map eWord)] [] N') (fun N1 hN1 => ?_) ?_
    · refine c_region ?_
      refine o_v (v_fieldAddr (v := .pointer (some ⟨b1, 1, none⟩)) rfl (fun _ => by kernel_rfl)) rfl ?_
      refine o_v (v_load_box 2 ty24 rfl rfl rfl rfl rfl) rfl ?_
      refine o_v (v_bin rfl rfl rfl) rfl ?_
      refine o_v (v_move rfl) rfl ?_
      refine o_split (t := 32) rfl (fun h24 => ?_) (fun h24 => ?_)
      · replace hF := ite_t h24 hF
        refine o_off rfl rfl (by decide) rfl ?_
        refine o_off rfl rfl (by decide) rfl ?_
        refine o_off rfl rfl (by decide) rfl ?_
        refine o_v (v_pick_t rfl rfl) rfl ?_
        refine o_nil ?_
        refine s_st ?_ (hN1 true hF)
        exact st_le [0, 1, 1, 0] (le_cons rfl (le_cons rfl (le_cons rfl (le_cons rfl (le_cons rfl (le_cons rfl (le_cons rfl (le_cons rfl le_nil)))))))) rfl sub_nil
      · replace hF := ite_f h24 hF
        refine o_on rfl rfl ?_
        refine o_v (v_move rfl) rfl ?_
        refine o_on rfl rfl ?_
        refine o_v (v_lenS (enc := eWord) v1.1 sl23 rfl (.r 3 _ rfl)) rfl ?_
        refine o_on rfl rfl ?_
        refine o_v (v_bin rfl rfl rfl) rfl ?_
        refine o_v (v_pick_f rfl rfl) rfl ?_
        refine o_nil ?_
        refine s_st ?_ (hN1 ((v1.1.length : Int) == 0) hF)
        exact st_le [0, 1, 1, 0] (le_cons rfl (le_cons rfl (le_cons rfl (le_cons rfl (le_cons rfl (le_cons rfl (le_cons rfl (le_cons rfl le_nil)))))))) rfl sub_nil
    · intro t36 hF
      unfold F.law02.WordsTwo_j1 at hF
      refine sat_wc ?_
      refine c_cond rfl (fun h5 => ?_) (fun h5 => ?_)
      · replace hF := ite_t h5 hF
        refine c_seq ?_
        refine c_region ?_
        obtain ⟨v3, h6, hF⟩ := bd hF
        refine o_callSB call11 rfl lent_nil (tri11 k v3 h6) rfl ?_
        refine o_v (v_move rfl) rfl ?_
        refine o_split (t := 38) rfl (fun h7 => ?_) (fun h7 => ?_)
        · replace hF := ite_t h7 hF
          refine o_on rfl rfl ?_
          refine o_v (v_fieldAddr (v := .pointer (some ⟨b1, 1, none⟩)) rfl (fun _ => by kernel_rfl)) rfl ?_
          refine o_on rfl rfl ?_
          refine o_v (v_load_box 1 ty24 rfl rfl rfl rfl rfl) rfl ?_
          refine o_on rfl rfl ?_
          refine o_v (v_bin rfl rfl rfl) rfl ?_
          refine o_v (v_pick_t rfl rfl) rfl ?_
          refine o_v (v_assign rfl) rfl ?_
          refine o_seq ?_
          refine c_ret ?_
          cases hF
          refine s_ret1 rfl (r_tmp rfl) fun a w hs => ?_
          exact fin_sel hs [] ⟨rfl, rfl, rfl⟩ rfl sub_nil
        · replace hF := ite_f h7 hF
          refine o_off rfl rfl (by decide) rfl ?_
          refine o_off rfl rfl (by decide) rfl ?_
          refine o_off rfl rfl (by decide) rfl ?_
          refine o_v (v_pick_f rfl rfl) rfl ?_
          refine o_v (v_assign rfl) rfl ?_
          refine o_seq ?_
          refine c_ret ?_
          cases hF
          refine s_ret1 rfl (r_tmp rfl) fun a w hs => ?_
          exact fin_sel hs [] ⟨rfl, rfl, rfl⟩ rfl sub_nil
      · replace hF := ite_f h5 hF
        refine c_skip ?_
        refine sat_wc ?_
        refine c_seq ?_
        refine c_region ?_
        refine o_v (v_move rfl) rfl ?_
        refine ite_some hF fun h8 hF => ?_
        refine o_v (v_strcat rfl rfl h8) rfl ?_
        refine o_v (v_move rfl) rfl ?_
        refine ite_some hF fun h9 hF => ?_
        refine o_v (v_strcat rfl rfl h9) rfl ?_
        obtain ⟨v4, h10, hF⟩ := bd hF
        refine o_call0 call12 rfl sub_nil (tri12 k ((a_ ++ ([10] : List UInt8)) ++ b) v4 h10) rfl ?_
        rintro _ _ _ ⟨sa3, sn3, sc3, rfl, rfl, rfl⟩
        refine o_v (v_move rfl) rfl ?_
        refine o_v (v_extract rfl rfl) rfl ?_
        refine o_v (v_extract rfl rfl) rfl ?_
        refine o_alloc zero26 rfl rfl fun b3 => ?_
        refine o_v (v_assign rfl) rfl ?_
        refine o_store_box 0 rfl ty26 rfl rfl rfl rfl rfl rfl rfl ?_
        refine o_seq ?_
        refine c_seq ?_
        refine c_seq ?_
        refine c_region ?_
        refine o_v (v_fieldAddr (v := .pointer (some ⟨b2, 1, none⟩)) rfl (fun _ => by kernel_rfl)) rfl ?_
        refine o_v (v_load_box 2 ty24 rfl rfl rfl rfl rfl) rfl ?_
        refine o_v (v_bin rfl rfl rfl) rfl ?_
        refine o_seq ?_
        refine c_cond rfl (fun h11 => ?_) (fun h11 => ?_)
        · replace hF := ite_t h11 hF
          refine c_seq ?_
          refine c_region ?_
          obtain ⟨v5, h12, hF⟩ := bd hF
          refine o_callSB call11 rfl lent_nil (tri11 k v5 h12) rfl ?_
          refine o_v (v_move rfl) rfl ?_
          refine o_split (t := 55) rfl (fun h13 => ?_) (fun h13 => ?_)
          · replace hF := ite_t h13 hF
            refine o_on rfl rfl ?_
            refine o_v (v_fieldAddr (v := .pointer (some ⟨b3, 1, none⟩)) rfl (fun _ => by kernel_rfl)) rfl ?_
            refine o_on rfl rfl ?_
            refine o_v (v_load_box 0 ty24 rfl rfl rfl rfl rfl) rfl ?_
            refine o_on rfl rfl ?_
            refine o_v (v_fieldAddr (v := .pointer (some ⟨b2, 1, none⟩)) rfl (fun _ => by kernel_rfl)) rfl ?_
            refine o_on rfl rfl ?_
            refine o_v (v_load_box 2 ty24 rfl rfl rfl rfl rfl) rfl ?_
            refine o_on rfl rfl ?_
            refine o_v (v_bin rfl rfl rfl) rfl ?_
            refine o_v (v_pick_t rfl rfl) rfl ?_
            refine o_v (v_move rfl) rfl ?_
            refine o_split (t := 62) rfl (fun h14 => ?_) (fun h14 => ?_)
            · replace hF := ite_t h14 hF
              refine o_on rfl rfl ?_
              refine o_v (v_fieldAddr (v := .pointer (some ⟨b3, 0, none⟩)) rfl (fun _ => by kernel_rfl)) rfl ?_
              refine o_on rfl rfl ?_
              refine o_v (v_load_box 0 ty3 rfl rfl rfl rfl rfl) rfl ?_
              refine o_on rfl rfl ?_
              refine o_v (v_fieldAddr (v := .pointer (some ⟨b2, 0, none⟩)) rfl (fun _ => by kernel_rfl)) rfl ?_
              refine o_on rfl rfl ?_
              refine o_v (v_load_box 2 ty3 rfl rfl rfl rfl rfl) rfl ?_
              refine o_on rfl rfl ?_
              refine o_v (v_move rfl) rfl ?_
              refine o_on rfl rfl ?_
              refine o_v (v_len_str Try.underlying9 rfl) rfl ?_
              refine o_on rfl rfl ?_
              refine o_v (v_bin rfl rfl rfl) rfl ?_
              refine o_on rfl rfl ?_
              refine o_v (v_bin rfl rfl rfl) rfl ?_
              refine o_on rfl rfl ?_
              refine o_v (v_bin rfl rfl rfl) rfl ?_
              refine o_v (v_pick_t rfl rfl) rfl ?_
              refine o_v (v_assign rfl) rfl ?_
              refine o_seq ?_
              refine c_ret ?_
              cases hF
              refine s_ret1 rfl (r_tmp rfl) fun a w hs => ?_
              exact fin_sel hs [] ⟨rfl, rfl, rfl⟩ rfl sub_nil
            · replace hF := ite_f h14 hF
              refine o_off rfl rfl (by decide) rfl ?_
              refine o_off rfl rfl (by decide) rfl ?_
              refine o_off rfl rfl (by decide) rfl ?_
              refine o_off rfl rfl (by decide) rfl ?_
              refine o_off rfl rfl (by decide) rfl ?_
              refine o_off rfl rfl (by decide) rfl ?_
              refine o_off rfl rfl (by decide) rfl ?_
              refine o_off rfl rfl (by decide) rfl ?_
              refine o_off rfl rfl (by decide) rfl ?_
              refine o_v (v_pick_f rfl rfl) rfl ?_
              refine o_v (v_assign rfl) rfl ?_
              refine o_seq ?_
              refine c_ret ?_
              cases hF
              refine s_ret1 rfl (r_tmp rfl) fun a w hs => ?_
              exact fin_sel hs [] ⟨rfl, rfl, rfl⟩ rfl sub_nil
          · replace hF := ite_f h13 hF
            refine o_off rfl rfl (by decide) rfl ?_
            refine o_off rfl rfl (by decide) rfl ?_
            refine o_off rfl rfl (by decide) rfl ?_
            refine o_off rfl rfl (by decide) rfl ?_
            refine o_off rfl rfl (by decide) rfl ?_
            refine o_v (v_pick_f rfl rfl) rfl ?_
            refine o_v (v_move rfl) rfl ?_
            refine o_off rfl rfl (by decide) rfl ?_
            refine o_off rfl rfl (by decide) rfl ?_
            refine o_off rfl rfl (by decide) rfl ?_
            refine o_off rfl rfl (by decide) rfl ?_
            refine o_off rfl rfl (by decide) rfl ?_
            refine o_off rfl rfl (by decide) rfl ?_
            refine o_off rfl rfl (by decide) rfl ?_
            refine o_off rfl rfl (by decide) rfl ?_
            refine o_off rfl rfl (by decide) rfl ?_
            refine o_v (v_pick_f rfl rfl) rfl ?_
            refine o_v (v_assign rfl) rfl ?_
            refine o_seq ?_
            refine c_ret ?_
            cases hF
            refine s_ret1 rfl (r_tmp rfl) fun a w hs => ?_
            exact fin_sel hs [] ⟨rfl, rfl, rfl⟩ rfl sub_nil
        · replace hF := ite_f h11 hF
          refine c_skip ?_
          refine sat_wc ?_
          refine c_seq ?_
          refine c_region ?_
          refine o_v (v_assign rfl) rfl ?_
          refine o_seq ?_
          refine c_seq ?_
          refine c_region ?_
          refine o_v (v_move rfl) rfl ?_
          refine o_v (v_move rfl) rfl ?_
          refine o_v (v_move rfl) rfl ?_
          refine o_v (v_lenS (enc := eWord) v1.1 sl23 rfl (.r 4 _ rfl)) rfl ?_
          refine o_v (v_bin rfl rfl rfl) rfl ?_
          refine ite_some hF fun h15 hF => ?_
          refine o_st (st_freeze 4 rfl) ?_
          refine o_cutS (enc := eWord) (xs := v1.1) 0 sl23 rfl rfl rfl rfl rfl rfl h15 rfl fun sa4 sn4 sc4 => ?_
          refine ite_some hF fun h16 hF => ?_
          refine ite_some hF fun h17 hF => ?_
          refine o_st (st_nilrow 35 11) ?_
          refine o_append (enc := eWord) (xs := ([] : List Word)) (ys := (sub v1.1 0 (IntKind.wrap .i64 ((v1.1.length : Int) - 1)))) 0 sl23 rfl rfl rfl (.f 0 rfl) h16 h17 rfl fun sa5 sn5 sc5 => ?_
          refine o_v (v_assign rfl) rfl ?_
          refine o_seq ?_
          refine c_seq ?_
          refine c_region ?_
          refine o_v (v_move rfl) rfl ?_
          refine o_v (v_move rfl) rfl ?_
          refine ite_some hF fun h18 hF => ?_
          refine ite_some hF fun h19 hF => ?_
          refine o_append (enc := eWord) (xs := (([] : List Word) ++ (sub v1.1 0 (IntKind.wrap .i64 ((v1.1.length : Int) - 1))))) (ys := v2.1) 0 sl23 rfl rfl rfl (.r 5 _ rfl) h18 h19 rfl fun sa6 sn6 sc6 => ?_
          refine o_v (v_assign rfl) rfl ?_
          refine o_seq ?_
          refine c_seq ?_
          refine c_region ?_
          obtain ⟨v6, h20, hF⟩ := bd hF
          refine o_callSB call11 rfl lent_nil (tri11 k v6 h20) rfl ?_
          refine o_v (v_move rfl) rfl ?_
          refine o_split (t := 84) rfl (fun h21 => ?_) (fun h21 => ?_)
          · replace hF := ite_t h21 hF
            refine o_on rfl rfl ?_
            refine o_v (v_load_box 1 ty26 rfl rfl rfl rfl rfl) rfl ?_
            refine o_on rfl rfl ?_
            refine o_v (v_build (v := .agg #[.int .i64 0, .int .i64 0]) rfl (fun _ => by kernel_rfl)) rfl ?_
            refine o_on rfl rfl ?_
            refine o_v (v_ageq 2 rfl rfl (eq26 v4.2.At v4.2.Code 0 0) rfl guard26) rfl ?_
            refine o_v (v_pick_t rfl rfl) rfl ?_
            refine o_v (v_move rfl) rfl ?_
            refine o_split (t := 89) rfl (fun h22 => ?_) (fun h22 => ?_)
            · replace hF := ite_t h22 hF
              refine o_on rfl rfl ?_
              refine o_v (v_move rfl) rfl ?_
              refine o_on rfl rfl ?_
              refine o_v (v_move rfl) rfl ?_
              refine o_on rfl rfl ?_
              obtain ⟨v7, h23, hF⟩ := bd hF
              refine o_callSB call14 rfl (lent_r 2 rfl (lent_r 0 rfl lent_nil)) (tri14 k v4.1 ((([] : List Word) ++ (sub v1.1 0 (IntKind.wrap .i64 ((v1.1.length : Int) - 1)))) ++ v2.1) false sa3 sn3 sc3 sa6 sn6 sc6 v7 h23) rfl ?_
              refine o_v (v_pick_t rfl rfl) rfl ?_
              refine o_v (v_assign rfl) rfl ?_
              refine o_seq ?_
              refine c_ret ?_
              cases hF
              refine s_ret1 rfl (r_tmp rfl) fun a w hs => ?_
              exact fin_sel hs [] ⟨rfl, rfl, rfl⟩ rfl sub_nil
            · replace hF := ite_f h22 hF
              refine o_off rfl rfl (by decide) rfl ?_
              refine o_off rfl rfl (by decide) rfl ?_
              refine o_off rfl rfl (by decide) rfl ?_
              refine o_v (v_pick_f rfl rfl) rfl ?_
              refine o_v (v_assign rfl) rfl ?_
              refine o_seq ?_
              refine c_ret ?_
              cases hF
              refine s_ret1 rfl (r_tmp rfl) fun a w hs => ?_
              exact fin_sel hs [] ⟨rfl, rfl, rfl⟩ rfl sub_nil
          · replace hF := ite_f h21 hF
            refine o_off rfl rfl (by decide) rfl ?_
            refine o_off rfl rfl (by decide) rfl ?_
            refine o_off rfl rfl (by decide) rfl ?_
            refine o_v (v_pick_f rfl rfl) rfl ?_
            refine o_v (v_move rfl) rfl ?_
            refine o_off rfl rfl (by decide) rfl ?_
            refine o_off rfl rfl (by decide) rfl ?_
            refine o_off rfl rfl (by decide) rfl ?_
            refine o_v (v_pick_f rfl rfl) rfl ?_
            refine o_v (v_assign rfl) rfl ?_
            refine o_seq ?_
            refine c_ret ?_
            cases hF
            refine s_ret1 rfl (r_tmp rfl) fun a w hs => ?_
            exact fin_sel hs [] ⟨rfl, rfl, rfl⟩ rfl sub_nil
theorem tri6 (k : Nat) (text_ : List UInt8) (r : Bool) (hF : F.law02.WordsStand k text_ = some r) :
    Tri Try.prog 6 [.string (bs text_)] [] [] (fun o H Φ => o = .ret (.bool r) ∧ H = [] ∧ Φ = []) := by
  unfold F.law02.WordsStand at hF
  refine tri_intro (n := 131) Try.func6 rfl Try.ntmps6 rfl fun w X => ?_
  refine c_seq ?_
  refine c_region ?_
  refine o_v (v_assign rfl) rfl ?_
  refine o_seq ?_
  refine c_seq ?_
  refine c_seq ?_
  refine c_region ?_
  refine o_v (v_move rfl) rfl ?_
  refine o_v (v_len_str Try.underlying9 rfl) rfl ?_
  refine o_v (v_bin rfl rfl rfl) rfl ?_
  refine o_seq ?_
  refine c_cond rfl (fun h1 => ?_) (fun h1 => ?_)
  · replace hF := ite_t h1 hF
    refine c_seq ?_
    refine c_region ?_
    obtain ⟨v, h2, hF⟩ := bd hF
    refine o_callSB call11 rfl lent_nil (tri11 k v h2) rfl ?_
    refine o_v (v_assign rfl) rfl ?_
    refine o_seq ?_
    refine c_ret ?_
    cases hF
    refine s_ret1 rfl (r_tmp rfl) fun a w hs => ?_
    exact fin_sel hs [] ⟨rfl, rfl, rfl⟩ rfl sub_nil
  · replace hF := ite_f h1 hF
    refine c_skip ?_
    refine sat_wc ?_
    refine c_seq ?_
    refine c_region ?_
    refine o_v (v_move rfl) rfl ?_
    obtain ⟨v1, h3, hF⟩ := bd hF
    refine o_call0 call12 rfl sub_nil (tri12 k text_ v1 h3) rfl ?_
    rintro _ _ _ ⟨sa1, sn1, sc1, rfl, rfl, rfl⟩
    refine o_v (v_move rfl) rfl ?_
    refine o_v (v_extract rfl rfl) rfl ?_
    refine o_v (v_extract rfl rfl) rfl ?_
    refine o_alloc zero26 rfl rfl fun b => ?_
    refine o_v (v_assign rfl) rfl ?_
    refine o_store_box 0 rfl ty26 rfl rfl rfl rfl rfl rfl rfl ?_
    refine o_seq ?_
    refine c_seq ?_
    refine c_seq ?_
    refine c_region ?_
    refine o_v (v_fieldAddr (v := .pointer (some ⟨b, 1, none⟩)) rfl (fun _ => by kernel_rfl)) rfl ?_
    refine o_v (v_load_box 0 ty24 rfl rfl rfl rfl rfl) rfl ?_
    refine o_v (v_bin rfl rfl rfl) rfl ?_
    refine o_seq ?_
    refine c_cond rfl (fun h4 => ?_) (fun h4 => ?_)
    · replace hF := ite_t h4 hF
      refine c_seq ?_
      refine c_region ?_
      obtain ⟨v2, h5, hF⟩ := bd hF
      refine o_callSB call11 rfl lent_nil (tri11 k v2 h5) rfl ?_
      refine o_v (v_move rfl) rfl ?_
      refine o_split (t := 23) rfl (fun h6 => ?_) (fun h6 => ?_)
      · replace hF := ite_t h6 hF
        refine o_on rfl rfl ?_
        refine o_v (v_fieldAddr (v := .pointer (some ⟨b, 0, none⟩)) rfl (fun _ => by kernel_rfl)) rfl ?_
        refine o_on rfl rfl ?_
        refine o_v (v_load_box 0 ty3 rfl rfl rfl rfl rfl) rfl ?_
        refine o_on rfl rfl ?_
        refine o_v (v_bin rfl rfl rfl) rfl ?_
        refine o_v (v_pick_t rfl rfl) rfl ?_
        refine o_v (v_move rfl) rfl ?_
        refine o_split (t := 28) rfl (fun h7 => ?_) (fun h7 => ?_)
        · replace hF := ite_t h7 hF
          refine o_on rfl rfl ?_
          refine o_v (v_fieldAddr (v := .pointer (some ⟨b, 0, none⟩)) rfl (fun _ => by kernel_rfl)) rfl ?_
          refine o_on rfl rfl ?_
          refine o_v (v_load_box 0 ty3 rfl rfl rfl rfl rfl) rfl ?_
          refine o_on rfl rfl ?_
          refine o_v (v_move rfl) rfl ?_
          refine o_on rfl rfl ?_
          refine o_v (v_len_str Try.underlying9 rfl) rfl ?_
          refine o_on rfl rfl ?_
          refine o_v (v_bin rfl rfl rfl) rfl ?_
          refine o_v (v_pick_t rfl rfl) rfl ?_
          refine o_v (v_assign rfl) rfl ?_
          refine o_seq ?_
          refine c_ret ?_
          cases hF
          refine s_ret1 rfl (r_tmp rfl) fun a w hs => ?_
          exact fin_sel hs [] ⟨rfl, rfl, rfl⟩ rfl sub_nil
        · replace hF := ite_f h7 hF
          refine o_off rfl rfl (by decide) rfl ?_
          refine o_off rfl rfl (by decide) rfl ?_
          refine o_off rfl rfl (by decide) rfl ?_
          refine o_off rfl rfl (by decide) rfl ?_
          refine o_off rfl rfl (by decide) rfl ?_
          refine o_v (v_pick_f rfl rfl) rfl ?_
          refine o_v (v_assign rfl) rfl ?_
          refine o_seq ?_
          refine c_ret ?_
          cases hF
          refine s_ret1 rfl (r_tmp rfl) fun a w hs => ?_
          exact fin_sel hs [] ⟨rfl, rfl, rfl⟩ rfl sub_nil
      · replace hF := ite_f h6 hF
        refine o_off rfl rfl (by decide) rfl ?_
        refine o_off rfl rfl (by decide) rfl ?_
        refine o_off rfl rfl (by decide) rfl ?_
        refine o_v (v_pick_f rfl rfl) rfl ?_
        refine o_v (v_move rfl) rfl ?_
        refine o_off rfl rfl (by decide) rfl ?_
        refine o_off rfl rfl (by decide) rfl ?_
        refine o_off rfl rfl (by decide) rfl ?_
        refine o_off rfl rfl (by decide) rfl ?_
        refine o_off rfl rfl (by decide) rfl ?_
        refine o_v (v_pick_f rfl rfl) rfl ?_
        refine o_v (v_assign rfl) rfl ?_
        refine o_seq ?_
        refine c_ret ?_
        cases hF
        refine s_ret1 rfl (r_tmp rfl) fun a w hs => ?_
        exact fin_sel hs [] ⟨rfl, rfl, rfl⟩ rfl sub_nil
    · replace hF := ite_f h4 hF
      refine c_skip ?_
      refine sat_wc ?_
      refine c_seq ?_
      refine c_region ?_
      refine o_v (v_assign rfl) rfl ?_
      refine o_seq ?_
      refine c_seq ?_
      refine c_seq ?_
      refine c_region ?_
      refine o_v (v_assign rfl) rfl ?_
      refine o_seq ?_
      obtain ⟨o1, ho1, hF⟩ := bd hF
      refine c_cut (fun E N' => ∀ (d1 : Unit), o1 = .done d1 → Sat E [(0, .string (bs text_)), (2, .bool false), (3, .slice sa1 sn1 sc1), (4, .pointer (some ⟨b, 0, none⟩))] [.box b 26 [.int .i64 v1.2.At, .int .i64 v1.2.Code], .row (.slice sa1 sn1 sc1) 35 11 (v1.1.map eWord)] [] N') (fun N1 hN1 => ?_) ?_
      · refine c_block ?_
        refine c_loopE (fun E j a w => ∃ (end_ : Int) (i : Int), F.law02.WordsStand_l1 v1 text_ j end_ i = some o1 ∧ St E [(0, .string (bs text_)), (2, .bool false), (3, .slice sa1 sn1 sc1), (4, .pointer (some ⟨b, 0, none⟩)), (5, .int .i64 end_), (6, .int .i64 i)] [.box b 26 [.int .i64 v1.2.At, .int .i64 v1.2.Code], .row (.slice sa1 sn1 sc1) 35 11 (v1.1.map eWord)] [] a w) k ?_ ?_
        · intro a w hs
          exact ⟨0, 0, ho1, st_le [0, 0] (le_cons rfl (le_cons rfl (le_cons rfl (le_cons rfl (le_cons rfl (le_cons rfl le_nil)))))) rfl sub_nil a w hs⟩
        · rintro j a w ⟨end_, i, hL1, hs⟩
          cases j with
          | zero => cases hL1
          | succ j =>
            refine wc_app hs ?_
            unfold F.law02.WordsStand_l1 at hL1
            refine c_seq ?_
            refine c_seq ?_
            refine c_region ?_
            refine o_v (v_move rfl) rfl ?_
            refine o_v (v_move rfl) rfl ?_
            refine o_v (v_lenS (enc := eWord) v1.1 sl23 rfl (.r 1 _ rfl)) rfl ?_
            refine o_v (v_bin rfl rfl rfl) rfl ?_
            refine o_seq ?_
            refine c_cond rfl (fun h8 => ?_) (fun h8 => ?_)
            · replace hL1 := ite_t h8 hL1
              refine c_skip ?_
              refine sat_wc ?_
              refine c_seq ?_
              refine c_block ?_
              refine c_seq ?_
              refine c_region ?_
              refine o_v (v_move rfl) rfl ?_
              refine o_v (v_move rfl) rfl ?_
              refine ite_some hL1 fun h9 hL1 => ?_
              refine o_v (v_indexAddr_s (xs := v1.1) (enc := eWord) sl23 rfl rfl (.r 1 _ rfl) h9) rfl ?_
              refine o_load_s (xs := v1.1) (enc := eWord) ty35 rfl (.r 1 _ rfl) h9 rfl rfl rfl rfl rfl rfl fun sa2 sn2 sc2 => ?_
              refine o_alloc zero35 rfl rfl fun b1 => ?_
              refine o_store_box 0 rfl ty35 rfl rfl rfl rfl rfl rfl rfl ?_
              refine o_seq ?_
              refine c_seq ?_
              refine c_seq ?_
              refine c_cut (fun E N' => ∀ (t81 : Bool), F.law02.WordsStand_j2 text_ v1 i (F.law02.WordsStand_l1 v1 text_ j) t81 = some o1 → Sat E [(0, .string (bs text_)), (2, .bool false), (3, .slice sa1 sn1 sc1), (4, .pointer (some ⟨b, 0, none⟩)), (5, .int .i64 end_), (6, .int .i64 i), (7, .pointer (some ⟨b1, 0, none⟩)), (81, .bool t81)] [.box b1 35 [.int .i64 ((at_ v1.1 i).Kind), .string (bs ((at_ v1.1 i).Text)), .slice sa2 sn2 sc2, .int .u64 ((at_ v1.1 i).Set.w0), .int .u64 ((at_ v1.1 i).Set.w1), .int .u64 ((at_ v1.1 i).Set.w2), .int .u64 ((at_ v1.1 i).Set.w3), .int .i64 ((at_ v1.1 i).N_), .int .i64 ((at_ v1.1 i).At), .int .i64 ((at_ v1.1 i).Line), .int .i64 ((at_ v1.1 i).Col)], .box b 26 [.int .i64 v1.2.At, .int .i64 v1.2.Code], .row (.slice sa1 sn1 sc1) 35 11 (v1.1.map eWord)] [(.slice sa2 sn2 sc2, .slice 1 (((at_ v1.1 i).Bytes).map eU8))] N') (fun N3 hN3 => ?_) ?_
              · refine c_draw (n := 37) [0, 0, 0] mixed rfl rfl ?_
                refine d_val 0 rfl pnok (by kernel_rfl) (by kernel_rfl) (by kernel_rfl) rfl (v_fieldAddr (v := .pointer (some ⟨b1, 8, none⟩)) rfl (fun _ => by kernel_rfl)) ?_
                refine d_val 1 rfl pnok (by kernel_rfl) (by kernel_rfl) (by kernel_rfl) rfl (v_load_box 0 ty3 rfl rfl rfl rfl rfl) ?_
                refine d_val 2 rfl pnok (by kernel_rfl) (by kernel_rfl) (by kernel_rfl) rfl (v_move rfl) ?_
                refine d_val 3 rfl pnok (by kernel_rfl) (by kernel_rfl) (by kernel_rfl) rfl (v_bin rfl rfl rfl) ?_
                refine d_val 4 rfl pnok (by kernel_rfl) (by kernel_rfl) (by kernel_rfl) rfl (v_move rfl) ?_
                refine d_split (t := 49) rfl (fun h16 => ?_) (fun h16 => ?_)
                · replace hL1 := ite_t h16 hL1
                  refine d_off 5 rfl rfl rfl (by decide) pnok (by kernel_rfl) (by kernel_rfl) (by kernel_rfl) rfl ?_
                  refine d_off 6 rfl rfl rfl (by decide) pnok (by kernel_rfl) (by kernel_rfl) (by kernel_rfl) rfl ?_
                  refine d_off 7 rfl rfl rfl (by decide) pnok (by kernel_rfl) (by kernel_rfl) (by kernel_rfl) rfl ?_
                  refine d_off 8 rfl rfl rfl (by decide) pnok (by kernel_rfl) (by kernel_rfl) (by kernel_rfl) rfl ?_
                  refine d_off 9 rfl rfl rfl (by decide) pnok (by kernel_rfl) (by kernel_rfl) (by kernel_rfl) rfl ?_
                  refine d_val 10 rfl pnok (by kernel_rfl) (by kernel_rfl) (by kernel_rfl) rfl (v_pick_t rfl rfl) ?_
                  refine d_val 11 rfl pnok (by kernel_rfl) (by kernel_rfl) (by kernel_rfl) rfl (v_move rfl) ?_
                  refine d_off 12 rfl rfl rfl (by decide) pnok (by kernel_rfl) (by kernel_rfl) (by kernel_rfl) rfl ?_
                  refine d_off 13 rfl rfl rfl (by decide) pnok (by kernel_rfl) (by kernel_rfl) (by kernel_rfl) rfl ?_
                  refine d_off 14 rfl rfl rfl (by decide) pnok (by kernel_rfl) (by kernel_rfl) (by kernel_rfl) rfl ?_
                  refine d_off 15 rfl rfl rfl (by decide) pnok (by kernel_rfl) (by kernel_rfl) (by kernel_rfl) rfl ?_
                  refine d_off 16 rfl rfl rfl (by decide) pnok (by kernel_rfl) (by kernel_rfl) (by kernel_rfl) rfl ?_
                  refine d_off 17 rfl rfl rfl (by decide) pnok (by kernel_rfl) (by kernel_rfl) (by kernel_rfl) rfl ?_
                  refine d_off 18 rfl rfl rfl (by decide) pnok (by kernel_rfl) (by kernel_rfl) (by kernel_rfl) rfl ?_
                  refine d_off 19 rfl rfl rfl (by decide) pnok (by kernel_rfl) (by kernel_rfl) (by kernel_rfl) rfl ?_
                  refine d_off 20 rfl rfl rfl (by decide) pnok (by kernel_rfl) (by kernel_rfl) (by kernel_rfl) rfl ?_
                  refine d_val 21 rfl pnok (by kernel_rfl) (by kernel_rfl) (by kernel_rfl) rfl (v_pick_t rfl rfl) ?_
                  refine d_val 22 rfl pnok (by kernel_rfl) (by kernel_rfl) (by kernel_rfl) rfl (v_move rfl) ?_
                  refine d_off 23 rfl rfl rfl (by decide) pnok (by kernel_rfl) (by kernel_rfl) (by kernel_rfl) rfl ?_
                  refine d_off 24 rfl rfl rfl (by decide) pnok (by kernel_rfl) (by kernel_rfl) (by kernel_rfl) rfl ?_
                  refine d_off 25 rfl rfl rfl (by decide) pnok (by kernel_rfl) (by kernel_rfl) (by kernel_rfl) rfl ?_
                  refine d_off 26 rfl rfl rfl (by decide) pnok (by kernel_rfl) (by kernel_rfl) (by kernel_rfl) rfl ?_
                  refine d_off 27 rfl rfl rfl (by decide) pnok (by kernel_rfl) (by kernel_rfl) (by kernel_rfl) rfl ?_
                  refine d_off 28 rfl rfl rfl (by decide) pnok (by kernel_rfl) (by kernel_rfl) (by kernel_rfl) rfl ?_
                  refine d_off 29 rfl rfl rfl (by decide) pnok (by kernel_rfl) (by kernel_rfl) (by kernel_rfl) rfl ?_
                  refine d_off 30 rfl rfl rfl (by decide) pnok (by kernel_rfl) (by kernel_rfl) (by kernel_rfl) rfl ?_
                  refine d_off 31 rfl rfl rfl (by decide) pnok (by kernel_rfl) (by kernel_rfl) (by kernel_rfl) rfl ?_
                  refine d_off 32 rfl rfl rfl (by decide) pnok (by kernel_rfl) (by kernel_rfl) (by kernel_rfl) rfl ?_
                  refine d_off 33 rfl rfl rfl (by decide) pnok (by kernel_rfl) (by kernel_rfl) (by kernel_rfl) rfl ?_
                  refine d_off 34 rfl rfl rfl (by decide) pnok (by kernel_rfl) (by kernel_rfl) (by kernel_rfl) rfl ?_
                  refine d_off 35 rfl rfl rfl (by decide) pnok (by kernel_rfl) (by kernel_rfl) (by kernel_rfl) rfl ?_
                  refine d_val 36 rfl pnok (by kernel_rfl) (by kernel_rfl) (by kernel_rfl) rfl (v_pick_t rfl rfl) ?_
                  refine d_done (by kernel_rfl) ?_
                  refine s_st ?_ (hN3 true hL1)
                  exact st_le [0, 0, 0] (le_cons rfl (le_cons rfl (le_cons rfl (le_cons rfl (le_cons rfl (le_cons rfl (le_cons rfl (le_cons rfl le_nil)))))))) rfl (sub_cons 0 rfl sub_nil)
                · replace hL1 := ite_f h16 hL1
                  refine d_val_on 5 rfl rfl rfl pnok (by kernel_rfl) (by kernel_rfl) (by kernel_rfl) rfl (v_fieldAddr (v := .pointer (some ⟨b1, 8, none⟩)) rfl (fun _ => by kernel_rfl)) ?_
                  refine d_val_on 6 rfl rfl rfl pnok (by kernel_rfl) (by kernel_rfl) (by kernel_rfl) rfl (v_load_box 0 ty3 rfl rfl rfl rfl rfl) ?_
                  refine d_val_on 7 rfl rfl rfl pnok (by kernel_rfl) (by kernel_rfl) (by kernel_rfl) rfl (v_move rfl) ?_
                  refine d_val_on 8 rfl rfl rfl pnok (by kernel_rfl) (by kernel_rfl) (by kernel_rfl) rfl (v_len_str Try.underlying9 rfl) ?_
                  refine d_val_on 9 rfl rfl rfl pnok (by kernel_rfl) (by kernel_rfl) (by kernel_rfl) rfl (v_bin rfl rfl rfl) ?_
                  refine d_val 10 rfl pnok (by kernel_rfl) (by kernel_rfl) (by kernel_rfl) rfl (v_pick_f rfl rfl) ?_
                  refine d_val 11 rfl pnok (by kernel_rfl) (by kernel_rfl) (by kernel_rfl) rfl (v_move rfl) ?_
                  refine d_split (t := 56) rfl (fun h17 => ?_) (fun h17 => ?_)
                  · replace hL1 := ite_t h17 hL1
                    refine d_off 12 rfl rfl rfl (by decide) pnok (by kernel_rfl) (by kernel_rfl) (by kernel_rfl) rfl ?_
                    refine d_off 13 rfl rfl rfl (by decide) pnok (by kernel_rfl) (by kernel_rfl) (by kernel_rfl) rfl ?_
                    refine d_off 14 rfl rfl rfl (by decide) pnok (by kernel_rfl) (by kernel_rfl) (by kernel_rfl) rfl ?_
                    refine d_off 15 rfl rfl rfl (by decide) pnok (by kernel_rfl) (by kernel_rfl) (by kernel_rfl) rfl ?_
                    refine d_off 16 rfl rfl rfl (by decide) pnok (by kernel_rfl) (by kernel_rfl) (by kernel_rfl) rfl ?_
                    refine d_off 17 rfl rfl rfl (by decide) pnok (by kernel_rfl) (by kernel_rfl) (by kernel_rfl) rfl ?_
                    refine d_off 18 rfl rfl rfl (by decide) pnok (by kernel_rfl) (by kernel_rfl) (by kernel_rfl) rfl ?_
                    refine d_off 19 rfl rfl rfl (by decide) pnok (by kernel_rfl) (by kernel_rfl) (by kernel_rfl) rfl ?_
                    refine d_off 20 rfl rfl rfl (by decide) pnok (by kernel_rfl) (by kernel_rfl) (by kernel_rfl) rfl ?_
                    refine d_val 21 rfl pnok (by kernel_rfl) (by kernel_rfl) (by kernel_rfl) rfl (v_pick_t rfl rfl) ?_
                    refine d_val 22 rfl pnok (by kernel_rfl) (by kernel_rfl) (by kernel_rfl) rfl (v_move rfl) ?_
                    refine d_off 23 rfl rfl rfl (by decide) pnok (by kernel_rfl) (by kernel_rfl) (by kernel_rfl) rfl ?_
                    refine d_off 24 rfl rfl rfl (by decide) pnok (by kernel_rfl) (by kernel_rfl) (by kernel_rfl) rfl ?_
                    refine d_off 25 rfl rfl rfl (by decide) pnok (by kernel_rfl) (by kernel_rfl) (by kernel_rfl) rfl ?_
                    refine d_off 26 rfl rfl rfl (by decide) pnok (by kernel_rfl) (by kernel_rfl) (by kernel_rfl) rfl ?_
                    refine d_off 27 rfl rfl rfl (by decide) pnok (by kernel_rfl) (by kernel_rfl) (by kernel_rfl) rfl ?_
                    refine d_off 28 rfl rfl rfl (by decide) pnok (by kernel_rfl) (by kernel_rfl) (by kernel_rfl) rfl ?_
                    refine d_off 29 rfl rfl rfl (by decide) pnok (by kernel_rfl) (by kernel_rfl) (by kernel_rfl) rfl ?_
                    refine d_off 30 rfl rfl rfl (by decide) pnok (by kernel_rfl) (by kernel_rfl) (by kernel_rfl) rfl ?_
                    refine d_off 31 rfl rfl rfl (by decide) pnok (by kernel_rfl) (by kernel_rfl) (by kernel_rfl) rfl ?_
                    refine d_off 32 rfl rfl rfl (by decide) pnok (by kernel_rfl) (by kernel_rfl) (by kernel_rfl) rfl ?_
                    refine d_off 33 rfl rfl rfl (by decide) pnok (by kernel_rfl) (by kernel_rfl) (by kernel_rfl) rfl ?_
                    refine d_off 34 rfl rfl rfl (by decide) pnok (by kernel_rfl) (by kernel_rfl) (by kernel_rfl) rfl ?_
                    refine d_off 35 rfl rfl rfl (by decide) pnok (by kernel_rfl) (by kernel_rfl) (by kernel_rfl) rfl ?_
                    refine d_val 36 rfl pnok (by kernel_rfl) (by kernel_rfl) (by kernel_rfl) rfl (v_pick_t rfl rfl) ?_
                    refine d_done (by kernel_rfl) ?_
                    refine s_st ?_ (hN3 true hL1)
                    exact st_le [0, 0, 0] (le_cons rfl (le_cons rfl (le_cons rfl (le_cons rfl (le_cons rfl (le_cons rfl (le_cons rfl (le_cons rfl le_nil)))))))) rfl (sub_cons 0 rfl sub_nil)
                  · replace hL1 := ite_f h17 hL1
                    refine d_val_on 12 rfl rfl rfl pnok (by kernel_rfl) (by kernel_rfl) (by kernel_rfl) rfl (v_fieldAddr (v := .pointer (some ⟨b1, 1, none⟩)) rfl (fun _ => by kernel_rfl)) ?_
                    refine d_val_on 13 rfl rfl rfl pnok (by kernel_rfl) (by kernel_rfl) (by kernel_rfl) rfl (v_load_box 0 ty9 rfl rfl rfl rfl rfl) ?_
                    refine d_val_on 14 rfl rfl rfl pnok (by kernel_rfl) (by kernel_rfl) (by kernel_rfl) rfl (v_len_str Try.underlying9 rfl) ?_
                    refine d_val_on 15 rfl rfl rfl pnok (by kernel_rfl) (by kernel_rfl) (by kernel_rfl) rfl (v_move rfl) ?_
                    refine d_val_on 16 rfl rfl rfl pnok (by kernel_rfl) (by kernel_rfl) (by kernel_rfl) rfl (v_len_str Try.underlying9 rfl) ?_
                    refine d_val_on 17 rfl rfl rfl pnok (by kernel_rfl) (by kernel_rfl) (by kernel_rfl) rfl (v_fieldAddr (v := .pointer (some ⟨b1, 8, none⟩)) rfl (fun _ => by kernel_rfl)) ?_
                    refine d_val_on 18 rfl rfl rfl pnok (by kernel_rfl) (by kernel_rfl) (by kernel_rfl) rfl (v_load_box 0 ty3 rfl rfl rfl rfl rfl) ?_
                    refine d_val_on 19 rfl rfl rfl pnok (by kernel_rfl) (by kernel_rfl) (by kernel_rfl) rfl (v_bin rfl rfl rfl) ?_
                    refine d_val_on 20 rfl rfl rfl pnok (by kernel_rfl) (by kernel_rfl) (by kernel_rfl) rfl (v_bin rfl rfl rfl) ?_
                    refine d_val 21 rfl pnok (by kernel_rfl) (by kernel_rfl) (by kernel_rfl) rfl (v_pick_f rfl rfl) ?_
                    refine d_val 22 rfl pnok (by kernel_rfl) (by kernel_rfl) (by kernel_rfl) rfl (v_move rfl) ?_
                    refine d_split (t := 67) rfl (fun h18 => ?_) (fun h18 => ?_)
                    · replace hL1 := ite_t h18 hL1
                      refine d_off 23 rfl rfl rfl (by decide) pnok (by kernel_rfl) (by kernel_rfl) (by kernel_rfl) rfl ?_
                      refine d_off 24 rfl rfl rfl (by decide) pnok (by kernel_rfl) (by kernel_rfl) (by kernel_rfl) rfl ?_
                      refine d_off 25 rfl rfl rfl (by decide) pnok (by kernel_rfl) (by kernel_rfl) (by kernel_rfl) rfl ?_
                      refine d_off 26 rfl rfl rfl (by decide) pnok (by kernel_rfl) (by kernel_rfl) (by kernel_rfl) rfl ?_
                      refine d_off 27 rfl rfl rfl (by decide) pnok (by kernel_rfl) (by kernel_rfl) (by kernel_rfl) rfl ?_
                      refine d_off 28 rfl rfl rfl (by decide) pnok (by kernel_rfl) (by kernel_rfl) (by kernel_rfl) rfl ?_
                      refine d_off 29 rfl rfl rfl (by decide) pnok (by kernel_rfl) (by kernel_rfl) (by kernel_rfl) rfl ?_
                      refine d_off 30 rfl rfl rfl (by decide) pnok (by kernel_rfl) (by kernel_rfl) (by kernel_rfl) rfl ?_
                      refine d_off 31 rfl rfl rfl (by decide) pnok (by kernel_rfl) (by kernel_rfl) (by kernel_rfl) rfl ?_
                      refine d_off 32 rfl rfl rfl (by decide) pnok (by kernel_rfl) (by kernel_rfl) (by kernel_rfl) rfl ?_
                      refine d_off 33 rfl rfl rfl (by decide) pnok (by kernel_rfl) (by kernel_rfl) (by kernel_rfl) rfl ?_
                      refine d_off 34 rfl rfl rfl (by decide) pnok (by kernel_rfl) (by kernel_rfl) (by kernel_rfl) rfl ?_
                      refine d_off 35 rfl rfl rfl (by decide) pnok (by kernel_rfl) (by kernel_rfl) (by kernel_rfl) rfl ?_
                      refine d_val 36 rfl pnok (by kernel_rfl) (by kernel_rfl) (by kernel_rfl) rfl (v_pick_t rfl rfl) ?_
                      refine d_done (by kernel_rfl) ?_
                      refine s_st ?_ (hN3 true hL1)
                      exact st_le [0, 0, 0] (le_cons rfl (le_cons rfl (le_cons rfl (le_cons rfl (le_cons rfl (le_cons rfl (le_cons rfl (le_cons rfl le_nil)))))))) rfl (sub_cons 0 rfl sub_nil)
                    · replace hL1 := ite_f h18 hL1
                      refine d_val_on 23 rfl rfl rfl pnok (by kernel_rfl) (by kernel_rfl) (by kernel_rfl) rfl (v_move rfl) ?_
                      refine d_val_on 24 rfl rfl rfl pnok (by kernel_rfl) (by kernel_rfl) (by kernel_rfl) rfl (v_fieldAddr (v := .pointer (some ⟨b1, 8, none⟩)) rfl (fun _ => by kernel_rfl)) ?_
                      refine d_val_on 25 rfl rfl rfl pnok (by kernel_rfl) (by kernel_rfl) (by kernel_rfl) rfl (v_load_box 0 ty3 rfl rfl rfl rfl rfl) ?_
                      refine d_val_on 26 rfl rfl rfl pnok (by kernel_rfl) (by kernel_rfl) (by kernel_rfl) rfl (v_fieldAddr (v := .pointer (some ⟨b1, 8, none⟩)) rfl (fun _ => by kernel_rfl)) ?_
                      refine d_val_on 27 rfl rfl rfl pnok (by kernel_rfl) (by kernel_rfl) (by kernel_rfl) rfl (v_load_box 0 ty3 rfl rfl rfl rfl rfl) ?_
                      refine d_val_on 28 rfl rfl rfl pnok (by kernel_rfl) (by kernel_rfl) (by kernel_rfl) rfl (v_fieldAddr (v := .pointer (some ⟨b1, 1, none⟩)) rfl (fun _ => by kernel_rfl)) ?_
                      refine d_val_on 29 rfl rfl rfl pnok (by kernel_rfl) (by kernel_rfl) (by kernel_rfl) rfl (v_load_box 0 ty9 rfl rfl rfl rfl rfl) ?_
                      refine d_val_on 30 rfl rfl rfl pnok (by kernel_rfl) (by kernel_rfl) (by kernel_rfl) rfl (v_len_str Try.underlying9 rfl) ?_
                      refine d_val_on 31 rfl rfl rfl pnok (by kernel_rfl) (by kernel_rfl) (by kernel_rfl) rfl (v_bin rfl rfl rfl) ?_
                      refine ite_some hL1 fun h19 hL1 => ?_
                      refine d_val_on 32 rfl rfl rfl pnok (by kernel_rfl) (by kernel_rfl) (by kernel_rfl) rfl (v_strslice Try.underlying9 rfl rfl rfl rfl rfl h19) ?_
                      refine d_val_on 33 rfl rfl rfl pnok (by kernel_rfl) (by kernel_rfl) (by kernel_rfl) rfl (v_fieldAddr (v := .pointer (some ⟨b1, 1, none⟩)) rfl (fun _ => by kernel_rfl)) ?_
                      refine d_val_on 34 rfl rfl rfl pnok (by kernel_rfl) (by kernel_rfl) (by kernel_rfl) rfl (v_load_box 0 ty9 rfl rfl rfl rfl rfl) ?_
                      refine d_val_on 35 rfl rfl rfl pnok (by kernel_rfl) (by kernel_rfl) (by kernel_rfl) rfl (v_strne rfl rfl) ?_
                      refine d_val 36 rfl pnok (by kernel_rfl) (by kernel_rfl) (by kernel_rfl) rfl (v_pick_f rfl rfl) ?_
                      refine d_done (by kernel_rfl) ?_
                      refine s_st ?_ (hN3 (!((sub text_ ((at_ v1.1 i).At) (IntKind.wrap .i64 (((at_ v1.1 i).At) + (((at_ v1.1 i).Text).length : Int)))) == ((at_ v1.1 i).Text))) hL1)
                      exact st_le [0, 0, 0] (le_cons rfl (le_cons rfl (le_cons rfl (le_cons rfl (le_cons rfl (le_cons rfl (le_cons rfl (le_cons rfl le_nil)))))))) rfl (sub_cons 0 rfl sub_nil)
              · intro t81 hL1
                unfold F.law02.WordsStand_j2 at hL1
                refine sat_wc ?_
                refine c_cond rfl (fun h10 => ?_) (fun h10 => ?_)
                · replace hL1 := ite_t h10 hL1
                  refine c_seq ?_
                  refine c_region ?_
                  refine o_v (v_assign rfl) rfl ?_
                  refine o_seq ?_
                  refine c_ret ?_
                  cases hL1
                  obtain rfl := lrf_ret hF
                  refine s_ret1 rfl (r_tmp rfl) fun a w hs => ?_
                  exact fin_sel hs [] ⟨rfl, rfl, rfl⟩ rfl sub_nil
                · replace hL1 := ite_f h10 hL1
                  refine c_skip ?_
                  refine sat_wc ?_
                  refine c_seq ?_
                  refine c_region ?_
                  refine o_v (v_move rfl) rfl ?_
                  refine o_v (v_fieldAddr (v := .pointer (some ⟨b1, 8, none⟩)) rfl (fun _ => by kernel_rfl)) rfl ?_
                  refine o_v (v_load_box 0 ty3 rfl rfl rfl rfl rfl) rfl ?_
                  obtain ⟨v3, h11, hL1⟩ := bd hL1
                  refine o_callSB call15 rfl lent_nil (tri15 text_ ((at_ v1.1 i).At) v3 h11) rfl ?_
                  refine o_v (v_move rfl) rfl ?_
                  refine o_v (v_extract rfl rfl) rfl ?_
                  refine o_v (v_extract rfl rfl) rfl ?_
                  refine o_v (v_assign rfl) rfl ?_
                  refine o_v (v_assign rfl) rfl ?_
                  refine o_seq ?_
                  refine c_seq ?_
                  refine c_seq ?_
                  refine c_cut (fun E N' => ∀ (t118 : Bool), F.law02.WordsStand_j3 (F.law02.WordsStand_l1 v1 text_ j) v1 i t118 = some o1 → Sat E [(0, .string (bs text_)), (2, .bool false), (3, .slice sa1 sn1 sc1), (4, .pointer (some ⟨b, 0, none⟩)), (5, .int .i64 end_), (6, .int .i64 i), (7, .pointer (some ⟨b1, 0, none⟩)), (8, .int .i64 v3.1), (9, .int .i64 v3.2), (118, .bool t118)] [.box b1 35 [.int .i64 ((at_ v1.1 i).Kind), .string (bs ((at_ v1.1 i).Text)), .slice sa2 sn2 sc2, .int .u64 ((at_ v1.1 i).Set.w0), .int .u64 ((at_ v1.1 i).Set.w1), .int .u64 ((at_ v1.1 i).Set.w2), .int .u64 ((at_ v1.1 i).Set.w3), .int .i64 ((at_ v1.1 i).N_), .int .i64 ((at_ v1.1 i).At), .int .i64 ((at_ v1.1 i).Line), .int .i64 ((at_ v1.1 i).Col)], .box b 26 [.int .i64 v1.2.At, .int .i64 v1.2.Code], .row (.slice sa1 sn1 sc1) 35 11 (v1.1.map eWord)] [(.slice sa2 sn2 sc2, .slice 1 (((at_ v1.1 i).Bytes).map eU8))] N') (fun N3 hN3 => ?_) ?_
                  · refine c_region ?_
                    refine o_v (v_move rfl) rfl ?_
                    refine o_v (v_fieldAddr (v := .pointer (some ⟨b1, 9, none⟩)) rfl (fun _ => by kernel_rfl)) rfl ?_
                    refine o_v (v_load_box 0 ty3 rfl rfl rfl rfl rfl) rfl ?_
                    refine o_v (v_bin rfl rfl rfl) rfl ?_
                    refine o_v (v_move rfl) rfl ?_
                    refine o_split (t := 93) rfl (fun h13 => ?_) (fun h13 => ?_)
                    · replace hL1 := ite_t h13 hL1
                      refine o_off rfl rfl (by decide) rfl ?_
                      refine o_off rfl rfl (by decide) rfl ?_
                      refine o_off rfl rfl (by decide) rfl ?_
                      refine o_off rfl rfl (by decide) rfl ?_
                      refine o_v (v_pick_t rfl rfl) rfl ?_
                      refine o_v (v_move rfl) rfl ?_
                      refine o_off rfl rfl (by decide) rfl ?_
                      refine o_off rfl rfl (by decide) rfl ?_
                      refine o_off rfl rfl (by decide) rfl ?_
                      refine o_off rfl rfl (by decide) rfl ?_
                      refine o_off rfl rfl (by decide) rfl ?_
                      refine o_off rfl rfl (by decide) rfl ?_
                      refine o_off rfl rfl (by decide) rfl ?_
                      refine o_v (v_pick_t rfl rfl) rfl ?_
                      refine o_v (v_move rfl) rfl ?_
                      refine o_off rfl rfl (by decide) rfl ?_
                      refine o_off rfl rfl (by decide) rfl ?_
                      refine o_off rfl rfl (by decide) rfl ?_
                      refine o_off rfl rfl (by decide) rfl ?_
                      refine o_off rfl rfl (by decide) rfl ?_
                      refine o_off rfl rfl (by decide) rfl ?_
                      refine o_off rfl rfl (by decide) rfl ?_
                      refine o_off rfl rfl (by decide) rfl ?_
                      refine o_off rfl rfl (by decide) rfl ?_
                      refine o_v (v_pick_t rfl rfl) rfl ?_
                      refine o_nil ?_
                      refine s_st ?_ (hN3 true hL1)
                      exact st_le [0, 0, 0] (le_cons rfl (le_cons rfl (le_cons rfl (le_cons rfl (le_cons rfl (le_cons rfl (le_cons rfl (le_cons rfl (le_cons rfl (le_cons rfl le_nil)))))))))) rfl (sub_cons 0 rfl sub_nil)
                    · replace hL1 := ite_f h13 hL1
                      refine o_on rfl rfl ?_
                      refine o_v (v_move rfl) rfl ?_
                      refine o_on rfl rfl ?_
                      refine o_v (v_fieldAddr (v := .pointer (some ⟨b1, 10, none⟩)) rfl (fun _ => by kernel_rfl)) rfl ?_
                      refine o_on rfl rfl ?_
                      refine o_v (v_load_box 0 ty3 rfl rfl rfl rfl rfl) rfl ?_
                      refine o_on rfl rfl ?_
                      refine o_v (v_bin rfl rfl rfl) rfl ?_
                      refine o_v (v_pick_f rfl rfl) rfl ?_
                      refine o_v (v_move rfl) rfl ?_
                      refine o_split (t := 99) rfl (fun h14 => ?_) (fun h14 => ?_)
                      · replace hL1 := ite_t h14 hL1
                        refine o_off rfl rfl (by decide) rfl ?_
                        refine o_off rfl rfl (by decide) rfl ?_
                        refine o_off rfl rfl (by decide) rfl ?_
                        refine o_off rfl rfl (by decide) rfl ?_
                        refine o_off rfl rfl (by decide) rfl ?_
                        refine o_off rfl rfl (by decide) rfl ?_
                        refine o_off rfl rfl (by decide) rfl ?_
                        refine o_v (v_pick_t rfl rfl) rfl ?_
                        refine o_v (v_move rfl) rfl ?_
                        refine o_off rfl rfl (by decide) rfl ?_
                        refine o_off rfl rfl (by decide) rfl ?_
                        refine o_off rfl rfl (by decide) rfl ?_
                        refine o_off rfl rfl (by decide) rfl ?_
                        refine o_off rfl rfl (by decide) rfl ?_
                        refine o_off rfl rfl (by decide) rfl ?_
                        refine o_off rfl rfl (by decide) rfl ?_
                        refine o_off rfl rfl (by decide) rfl ?_
                        refine o_off rfl rfl (by decide) rfl ?_
                        refine o_v (v_pick_t rfl rfl) rfl ?_
                        refine o_nil ?_
                        refine s_st ?_ (hN3 true hL1)
                        exact st_le [0, 0, 0] (le_cons rfl (le_cons rfl (le_cons rfl (le_cons rfl (le_cons rfl (le_cons rfl (le_cons rfl (le_cons rfl (le_cons rfl (le_cons rfl le_nil)))))))))) rfl (sub_cons 0 rfl sub_nil)
                      · replace hL1 := ite_f h14 hL1
                        refine o_on rfl rfl ?_
                        refine o_v (v_fieldAddr (v := .pointer (some ⟨b1, 1, none⟩)) rfl (fun _ => by kernel_rfl)) rfl ?_
                        refine o_on rfl rfl ?_
                        refine o_v (v_load_box 0 ty9 rfl rfl rfl rfl rfl) rfl ?_
                        refine o_on rfl rfl ?_
                        refine o_v (v_streq rfl rfl) rfl ?_
                        refine o_on rfl rfl ?_
                        refine o_v (v_fieldAddr (v := .pointer (some ⟨b1, 0, none⟩)) rfl (fun _ => by kernel_rfl)) rfl ?_
                        refine o_on rfl rfl ?_
                        refine o_v (v_load_box 0 ty3 rfl rfl rfl rfl rfl) rfl ?_
                        refine o_on rfl rfl ?_
                        refine o_v (v_bin rfl rfl rfl) rfl ?_
                        refine o_on rfl rfl ?_
                        refine o_v (v_boolne rfl rfl Try.underlying4) rfl ?_
                        refine o_v (v_pick_f rfl rfl) rfl ?_
                        refine o_v (v_move rfl) rfl ?_
                        refine o_split (t := 108) rfl (fun h15 => ?_) (fun h15 => ?_)
                        · replace hL1 := ite_t h15 hL1
                          refine o_off rfl rfl (by decide) rfl ?_
                          refine o_off rfl rfl (by decide) rfl ?_
                          refine o_off rfl rfl (by decide) rfl ?_
                          refine o_off rfl rfl (by decide) rfl ?_
                          refine o_off rfl rfl (by decide) rfl ?_
                          refine o_off rfl rfl (by decide) rfl ?_
                          refine o_off rfl rfl (by decide) rfl ?_
                          refine o_off rfl rfl (by decide) rfl ?_
                          refine o_off rfl rfl (by decide) rfl ?_
                          refine o_v (v_pick_t rfl rfl) rfl ?_
                          refine o_nil ?_
                          refine s_st ?_ (hN3 true hL1)
                          exact st_le [0, 0, 0] (le_cons rfl (le_cons rfl (le_cons rfl (le_cons rfl (le_cons rfl (le_cons rfl (le_cons rfl (le_cons rfl (le_cons rfl (le_cons rfl le_nil)))))))))) rfl (sub_cons 0 rfl sub_nil)
                        · replace hL1 := ite_f h15 hL1
                          refine o_on rfl rfl ?_
                          refine o_v (v_fieldAddr (v := .pointer (some ⟨b1, 0, none⟩)) rfl (fun _ => by kernel_rfl)) rfl ?_
                          refine o_on rfl rfl ?_
                          refine o_v (v_load_box 0 ty3 rfl rfl rfl rfl rfl) rfl ?_
                          refine o_on rfl rfl ?_
                          refine o_v (v_bin rfl rfl rfl) rfl ?_
                          refine o_on rfl rfl ?_
                          refine o_v (v_move rfl) rfl ?_
                          refine o_on rfl rfl ?_
                          refine o_v (v_move rfl) rfl ?_
                          refine o_on rfl rfl ?_
                          refine o_v (v_lenS (enc := eWord) v1.1 sl23 rfl (.r 2 _ rfl)) rfl ?_
                          refine o_on rfl rfl ?_
                          refine o_v (v_bin rfl rfl rfl) rfl ?_
                          refine o_on rfl rfl ?_
                          refine o_v (v_bin rfl rfl rfl) rfl ?_
                          refine o_on rfl rfl ?_
                          refine o_v (v_boolne rfl rfl Try.underlying4) rfl ?_
                          refine o_v (v_pick_f rfl rfl) rfl ?_
                          refine o_nil ?_
                          refine s_st ?_ (hN3 ((((at_ v1.1 i).Kind) == 7) != (i == (IntKind.wrap .i64 ((v1.1.length : Int) - 1)))) hL1)
                          exact st_le [0, 0, 0] (le_cons rfl (le_cons rfl (le_cons rfl (le_cons rfl (le_cons rfl (le_cons rfl (le_cons rfl (le_cons rfl (le_cons rfl (le_cons rfl le_nil)))))))))) rfl (sub_cons 0 rfl sub_nil)
                  · intro t118 hL1
                    unfold F.law02.WordsStand_j3 at hL1
                    refine sat_wc ?_
                    refine c_cond rfl (fun h12 => ?_) (fun h12 => ?_)
                    · replace hL1 := ite_t h12 hL1
                      refine c_seq ?_
                      refine c_region ?_
                      refine o_v (v_assign rfl) rfl ?_
                      refine o_seq ?_
                      refine c_ret ?_
                      cases hL1
                      obtain rfl := lrf_ret hF
                      refine s_ret1 rfl (r_tmp rfl) fun a w hs => ?_
                      exact fin_sel hs [] ⟨rfl, rfl, rfl⟩ rfl sub_nil
                    · replace hL1 := ite_f h12 hL1
                      refine c_skip ?_
                      refine sat_wc ?_
                      refine c_region ?_
                      refine o_v (v_fieldAddr (v := .pointer (some ⟨b1, 8, none⟩)) rfl (fun _ => by kernel_rfl)) rfl ?_
                      refine o_v (v_load_box 0 ty3 rfl rfl rfl rfl rfl) rfl ?_
                      refine o_v (v_fieldAddr (v := .pointer (some ⟨b1, 1, none⟩)) rfl (fun _ => by kernel_rfl)) rfl ?_
                      refine o_v (v_load_box 0 ty9 rfl rfl rfl rfl rfl) rfl ?_
                      refine o_v (v_len_str Try.underlying9 rfl) rfl ?_
                      refine o_v (v_bin rfl rfl rfl) rfl ?_
                      refine o_v (v_assign rfl) rfl ?_
                      refine o_nil ?_
                      refine sat_wc ?_
                      refine c_region ?_
                      refine o_v (v_move rfl) rfl ?_
                      refine o_v (v_bin rfl rfl rfl) rfl ?_
                      refine o_v (v_assign rfl) rfl ?_
                      refine o_nil ?_
                      intro a w hs
                      exact ⟨j, Nat.lt_succ_self j, IntKind.wrap .i64 (((at_ v1.1 i).At) + (((at_ v1.1 i).Text).length : Int)), IntKind.wrap .i64 (i + 1), hL1, st_le [1, 1] (le_cons rfl (le_cons rfl (le_cons rfl (le_cons rfl (le_cons rfl (le_cons rfl le_nil)))))) rfl sub_nil a w hs⟩
            · replace hL1 := ite_f h8 hL1
              refine c_exit0 ?_
              cases hL1
              refine s_st ?_ (hN1 () rfl)
              exact st_le [0, 0] (le_cons rfl (le_cons rfl (le_cons rfl (le_cons rfl le_nil)))) rfl sub_nil
      · intro d1 hd
        subst hd
        replace hF := lrf_done hF
        refine sat_wc ?_
        refine c_seq ?_
        refine c_region ?_
        obtain ⟨v4, h20, hF⟩ := bd hF
        refine o_callSB call11 rfl lent_nil (tri11 k v4 h20) rfl ?_
        refine o_v (v_move rfl) rfl ?_
        refine o_split (t := 126) rfl (fun h21 => ?_) (fun h21 => ?_)
        · replace hF := ite_t h21 hF
          refine o_on rfl rfl ?_
          refine o_v (v_move rfl) rfl ?_
          refine o_on rfl rfl ?_
          refine o_v (v_lenS (enc := eWord) v1.1 sl23 rfl (.r 1 _ rfl)) rfl ?_
          refine o_on rfl rfl ?_
          refine o_v (v_bin rfl rfl rfl) rfl ?_
          refine o_v (v_pick_t rfl rfl) rfl ?_
          refine o_v (v_assign rfl) rfl ?_
          refine o_seq ?_
          refine c_ret ?_
          cases hF
          refine s_ret1 rfl (r_tmp rfl) fun a w hs => ?_
          exact fin_sel hs [] ⟨rfl, rfl, rfl⟩ rfl sub_nil
        · replace hF := ite_f h21 hF
          refine o_off rfl rfl (by decide) rfl ?_
          refine o_off rfl rfl (by decide) rfl ?_
          refine o_off rfl rfl (by decide) rfl ?_
          refine o_v (v_pick_f rfl rfl) rfl ?_
          refine o_v (v_assign rfl) rfl ?_
          refine o_seq ?_
          refine c_ret ?_
          cases hF
          refine s_ret1 rfl (r_tmp rfl) fun a w hs => ?_
          exact fin_sel hs [] ⟨rfl, rfl, rfl⟩ rfl sub_nil
theorem tri7 (k : Nat) (s : List UInt8) (r : Bool) (hF : F.law02.WordsNames k s = some r) :
    Tri Try.prog 7 [.string (bs s)] [] [] (fun o H Φ => o = .ret (.bool r) ∧ H = [] ∧ Φ = []) := by
  unfold F.law02.WordsNames at hF
  refine tri_intro (n := 18) Try.func7 rfl Try.ntmps7 rfl fun w X => ?_
  refine c_seq ?_
  refine c_region ?_
  refine o_v (v_assign rfl) rfl ?_
  refine o_seq ?_
  refine c_seq ?_
  refine c_region ?_
  obtain ⟨v, h1, hF⟩ := bd hF
  refine o_callSB call11 rfl lent_nil (tri11 k v h1) rfl ?_
  refine o_v (v_move rfl) rfl ?_
  refine o_split (t := 4) rfl (fun h2 => ?_) (fun h2 => ?_)
  · replace hF := ite_t h2 hF
    refine o_on rfl rfl ?_
    refine o_v (v_move rfl) rfl ?_
    refine o_on rfl rfl ?_
    obtain ⟨v1, h3, hF⟩ := bd hF
    refine o_callSB call17 rfl lent_nil (tri17 k s v1 h3) rfl ?_
    refine o_on rfl rfl ?_
    refine o_v (v_move rfl) rfl ?_
    refine o_on rfl rfl ?_
    obtain ⟨v2, h4, hF⟩ := bd hF
    refine o_callSB call18 rfl lent_nil (tri18 k s v2 h4) rfl ?_
    refine o_on rfl rfl ?_
    refine o_v (v_booleq rfl rfl Try.underlying4) rfl ?_
    refine o_v (v_pick_t rfl rfl) rfl ?_
    refine o_v (v_move rfl) rfl ?_
    refine o_split (t := 11) rfl (fun h5 => ?_) (fun h5 => ?_)
    · replace hF := ite_t h5 hF
      refine o_on rfl rfl ?_
      refine o_v (v_move rfl) rfl ?_
      refine o_on rfl rfl ?_
      obtain ⟨v3, h6, hF⟩ := bd hF
      refine o_callSB call19 rfl lent_nil (tri19 k s v3 h6) rfl ?_
      refine o_on rfl rfl ?_
      refine o_v (v_move rfl) rfl ?_
      refine o_on rfl rfl ?_
      obtain ⟨v4, h7, hF⟩ := bd hF
      refine o_callSB call20 rfl lent_nil (tri20 k s v4 h7) rfl ?_
      refine o_on rfl rfl ?_
      refine o_v (v_booleq rfl rfl Try.underlying4) rfl ?_
      refine o_v (v_pick_t rfl rfl) rfl ?_
      refine o_v (v_assign rfl) rfl ?_
      refine o_seq ?_
      refine c_ret ?_
      cases hF
      refine s_ret1 rfl (r_tmp rfl) fun a w hs => ?_
      exact fin_sel hs [] ⟨rfl, rfl, rfl⟩ rfl sub_nil
    · replace hF := ite_f h5 hF
      refine o_off rfl rfl (by decide) rfl ?_
      refine o_off rfl rfl (by decide) rfl ?_
      refine o_off rfl rfl (by decide) rfl ?_
      refine o_off rfl rfl (by decide) rfl ?_
      refine o_off rfl rfl (by decide) rfl ?_
      refine o_v (v_pick_f rfl rfl) rfl ?_
      refine o_v (v_assign rfl) rfl ?_
      refine o_seq ?_
      refine c_ret ?_
      cases hF
      refine s_ret1 rfl (r_tmp rfl) fun a w hs => ?_
      exact fin_sel hs [] ⟨rfl, rfl, rfl⟩ rfl sub_nil
  · replace hF := ite_f h2 hF
    refine o_off rfl rfl (by decide) rfl ?_
    refine o_off rfl rfl (by decide) rfl ?_
    refine o_off rfl rfl (by decide) rfl ?_
    refine o_off rfl rfl (by decide) rfl ?_
    refine o_off rfl rfl (by decide) rfl ?_
    refine o_v (v_pick_f rfl rfl) rfl ?_
    refine o_v (v_move rfl) rfl ?_
    refine o_off rfl rfl (by decide) rfl ?_
    refine o_off rfl rfl (by decide) rfl ?_
    refine o_off rfl rfl (by decide) rfl ?_
    refine o_off rfl rfl (by decide) rfl ?_
    refine o_off rfl rfl (by decide) rfl ?_
    refine o_v (v_pick_f rfl rfl) rfl ?_
    refine o_v (v_assign rfl) rfl ?_
    refine o_seq ?_
    refine c_ret ?_
    cases hF
    refine s_ret1 rfl (r_tmp rfl) fun a w hs => ?_
    exact fin_sel hs [] ⟨rfl, rfl, rfl⟩ rfl sub_nil
theorem tri8 (k : Nat) (text_ : List UInt8) (r : Bool) (hF : F.law02.WordsAgain k text_ = some r) :
    Tri Try.prog 8 [.string (bs text_)] [] [] (fun o H Φ => o = .ret (.bool r) ∧ H = [] ∧ Φ = []) := by
  unfold F.law02.WordsAgain at hF
  refine tri_intro (n := 42) Try.func8 rfl Try.ntmps8 rfl fun w X => ?_
  refine c_seq ?_
  refine c_region ?_
  refine o_v (v_assign rfl) rfl ?_
  refine o_seq ?_
  refine c_seq ?_
  refine c_seq ?_
  refine c_region ?_
  refine o_v (v_move rfl) rfl ?_
  refine o_v (v_len_str Try.underlying9 rfl) rfl ?_
  refine o_v (v_bin rfl rfl rfl) rfl ?_
  refine o_seq ?_
  refine c_cond rfl (fun h1 => ?_) (fun h1 => ?_)
  · replace hF := ite_t h1 hF
    refine c_seq ?_
    refine c_region ?_
    obtain ⟨v, h2, hF⟩ := bd hF
    refine o_callSB call11 rfl lent_nil (tri11 k v h2) rfl ?_
    refine o_v (v_assign rfl) rfl ?_
    refine o_seq ?_
    refine c_ret ?_
    cases hF
    refine s_ret1 rfl (r_tmp rfl) fun a w hs => ?_
    exact fin_sel hs [] ⟨rfl, rfl, rfl⟩ rfl sub_nil
  · replace hF := ite_f h1 hF
    refine c_skip ?_
    refine sat_wc ?_
    refine c_seq ?_
    refine c_region ?_
    refine o_v (v_move rfl) rfl ?_
    obtain ⟨v1, h3, hF⟩ := bd hF
    refine o_call0 call12 rfl sub_nil (tri12 k text_ v1 h3) rfl ?_
    rintro _ _ _ ⟨sa1, sn1, sc1, rfl, rfl, rfl⟩
    refine o_v (v_move rfl) rfl ?_
    refine o_v (v_extract rfl rfl) rfl ?_
    refine o_v (v_extract rfl rfl) rfl ?_
    refine o_alloc zero26 rfl rfl fun b => ?_
    refine o_v (v_assign rfl) rfl ?_
    refine o_store_box 0 rfl ty26 rfl rfl rfl rfl rfl rfl rfl ?_
    refine o_seq ?_
    refine c_seq ?_
    refine c_seq ?_
    refine c_region ?_
    refine o_v (v_fieldAddr (v := .pointer (some ⟨b, 1, none⟩)) rfl (fun _ => by kernel_rfl)) rfl ?_
    refine o_v (v_load_box 0 ty24 rfl rfl rfl rfl rfl) rfl ?_
    refine o_v (v_bin rfl rfl rfl) rfl ?_
    refine o_seq ?_
    refine c_cond rfl (fun h4 => ?_) (fun h4 => ?_)
    · replace hF := ite_t h4 hF
      refine c_seq ?_
      refine c_region ?_
      obtain ⟨v2, h5, hF⟩ := bd hF
      refine o_callSB call11 rfl lent_nil (tri11 k v2 h5) rfl ?_
      refine o_v (v_move rfl) rfl ?_
      refine o_split (t := 20) rfl (fun h6 => ?_) (fun h6 => ?_)
      · replace hF := ite_t h6 hF
        refine o_on rfl rfl ?_
        refine o_v (v_move rfl) rfl ?_
        refine o_on rfl rfl ?_
        refine o_v (v_lenS (enc := eWord) v1.1 sl23 rfl (.r 1 _ rfl)) rfl ?_
        refine o_on rfl rfl ?_
        refine o_v (v_bin rfl rfl rfl) rfl ?_
        refine o_v (v_pick_t rfl rfl) rfl ?_
        refine o_v (v_assign rfl) rfl ?_
        refine o_seq ?_
        refine c_ret ?_
        cases hF
        refine s_ret1 rfl (r_tmp rfl) fun a w hs => ?_
        exact fin_sel hs [] ⟨rfl, rfl, rfl⟩ rfl sub_nil
      · replace hF := ite_f h6 hF
        refine o_off rfl rfl (by decide) rfl ?_
        refine o_off rfl rfl (by decide) rfl ?_
        refine o_off rfl rfl (by decide) rfl ?_
        refine o_v (v_pick_f rfl rfl) rfl ?_
        refine o_v (v_assign rfl) rfl ?_
        refine o_seq ?_
        refine c_ret ?_
        cases hF
        refine s_ret1 rfl (r_tmp rfl) fun a w hs => ?_
        exact fin_sel hs [] ⟨rfl, rfl, rfl⟩ rfl sub_nil
    · replace hF := ite_f h4 hF
      refine c_skip ?_
      refine sat_wc ?_
      refine c_seq ?_
      refine c_region ?_
      refine o_v (v_move rfl) rfl ?_
      obtain ⟨v3, h7, hF⟩ := bd hF
      refine o_callSB call21 rfl (lent_r 1 rfl lent_nil) (tri21 k v1.1 sa1 sn1 sc1 v3 h7) rfl ?_
      obtain ⟨v4, h8, hF⟩ := bd hF
      refine o_call0 call12 rfl sub_nil (tri12 k v3 v4 h8) rfl ?_
      rintro _ _ _ ⟨sa2, sn2, sc2, rfl, rfl, rfl⟩
      refine o_v (v_move rfl) rfl ?_
      refine o_v (v_extract rfl rfl) rfl ?_
      refine o_v (v_extract rfl rfl) rfl ?_
      refine o_alloc zero26 rfl rfl fun b1 => ?_
      refine o_v (v_assign rfl) rfl ?_
      refine o_store_box 0 rfl ty26 rfl rfl rfl rfl rfl rfl rfl ?_
      refine o_seq ?_
      refine c_seq ?_
      refine c_region ?_
      obtain ⟨v5, h9, hF⟩ := bd hF
      refine o_callSB call11 rfl lent_nil (tri11 k v5 h9) rfl ?_
      refine o_v (v_move rfl) rfl ?_
      refine o_split (t := 32) rfl (fun h10 => ?_) (fun h10 => ?_)
      · replace hF := ite_t h10 hF
        refine o_on rfl rfl ?_
        refine o_v (v_load_box 0 ty26 rfl rfl rfl rfl rfl) rfl ?_
        refine o_on rfl rfl ?_
        refine o_v (v_build (v := .agg #[.int .i64 0, .int .i64 0]) rfl (fun _ => by kernel_rfl)) rfl ?_
        refine o_on rfl rfl ?_
        refine o_v (v_ageq 2 rfl rfl (eq26 v4.2.At v4.2.Code 0 0) rfl guard26) rfl ?_
        refine o_v (v_pick_t rfl rfl) rfl ?_
        refine o_v (v_move rfl) rfl ?_
        refine o_split (t := 37) rfl (fun h11 => ?_) (fun h11 => ?_)
        · replace hF := ite_t h11 hF
          refine o_on rfl rfl ?_
          refine o_v (v_move rfl) rfl ?_
          refine o_on rfl rfl ?_
          refine o_v (v_move rfl) rfl ?_
          refine o_on rfl rfl ?_
          obtain ⟨v6, h12, hF⟩ := bd hF
          refine o_callSB call14 rfl (lent_r 3 rfl (lent_r 1 rfl lent_nil)) (tri14 k v1.1 v4.1 false sa1 sn1 sc1 sa2 sn2 sc2 v6 h12) rfl ?_
          refine o_v (v_pick_t rfl rfl) rfl ?_
          refine o_v (v_assign rfl) rfl ?_
          refine o_seq ?_
          refine c_ret ?_
          cases hF
          refine s_ret1 rfl (r_tmp rfl) fun a w hs => ?_
          exact fin_sel hs [] ⟨rfl, rfl, rfl⟩ rfl sub_nil
        · replace hF := ite_f h11 hF
          refine o_off rfl rfl (by decide) rfl ?_
          refine o_off rfl rfl (by decide) rfl ?_
          refine o_off rfl rfl (by decide) rfl ?_
          refine o_v (v_pick_f rfl rfl) rfl ?_
          refine o_v (v_assign rfl) rfl ?_
          refine o_seq ?_
          refine c_ret ?_
          cases hF
          refine s_ret1 rfl (r_tmp rfl) fun a w hs => ?_
          exact fin_sel hs [] ⟨rfl, rfl, rfl⟩ rfl sub_nil
      · replace hF := ite_f h10 hF
        refine o_off rfl rfl (by decide) rfl ?_
        refine o_off rfl rfl (by decide) rfl ?_
        refine o_off rfl rfl (by decide) rfl ?_
        refine o_v (v_pick_f rfl rfl) rfl ?_
        refine o_v (v_move rfl) rfl ?_
        refine o_off rfl rfl (by decide) rfl ?_
        refine o_off rfl rfl (by decide) rfl ?_
        refine o_off rfl rfl (by decide) rfl ?_
        refine o_v (v_pick_f rfl rfl) rfl ?_
        refine o_v (v_assign rfl) rfl ?_
        refine o_seq ?_
        refine c_ret ?_
        cases hF
        refine s_ret1 rfl (r_tmp rfl) fun a w hs => ?_
        exact fin_sel hs [] ⟨rfl, rfl, rfl⟩ rfl sub_nil
theorem tri9 (k : Nat) (b : List Int) (text_ : List UInt8) (sa1 : Option Addr) (sn1 sc1 : Nat) (r : Bool) (hF : F.law02.WordsQuotes k b text_ = some r) :
    Tri Try.prog 9 [.slice sa1 sn1 sc1, .string (bs text_)] [] [(.slice sa1 sn1 sc1, .slice 1 (b.map eU8))] (fun o H Φ => o = .ret (.bool r) ∧ H = [] ∧ Φ = []) := by
  unfold F.law02.WordsQuotes at hF
  refine tri_intro (n := 59) Try.func9 rfl Try.ntmps9 rfl fun w X => ?_
  refine c_seq ?_
  refine c_region ?_
  refine o_v (v_assign rfl) rfl ?_
  refine o_seq ?_
  refine c_seq ?_
  refine c_seq ?_
  refine c_region ?_
  refine o_v (v_move rfl) rfl ?_
  refine o_v (v_lenS (enc := eU8) b sl30 rfl (.f 0 rfl)) rfl ?_
  refine o_v (v_bin rfl rfl rfl) rfl ?_
  refine o_v (v_move rfl) rfl ?_
  refine o_split (t := 13) rfl (fun h1 => ?_) (fun h1 => ?_)
  · replace hF := ite_t h1 hF
    refine o_off rfl rfl (by decide) rfl ?_
    refine o_off rfl rfl (by decide) rfl ?_
    refine o_off rfl rfl (by decide) rfl ?_
    refine o_v (v_pick_t rfl rfl) rfl ?_
    refine o_seq ?_
    refine c_cond rfl (fun _ => ?_) (fun h => Bool.noConfusion h)
    refine c_seq ?_
    refine c_region ?_
    obtain ⟨v, h2, hF⟩ := bd hF
    refine o_callSB call11 rfl lent_nil (tri11 k v h2) rfl ?_
    refine o_v (v_assign rfl) rfl ?_
    refine o_seq ?_
    refine c_ret ?_
    cases hF
    refine s_ret1 rfl (r_tmp rfl) fun a w hs => ?_
    exact fin_sel hs [] ⟨rfl, rfl, rfl⟩ rfl sub_nil
  · replace hF := ite_f h1 hF
    refine o_on rfl rfl ?_
    refine o_v (v_move rfl) rfl ?_
    refine o_on rfl rfl ?_
    refine o_v (v_len_str Try.underlying9 rfl) rfl ?_
    refine o_on rfl rfl ?_
    refine o_v (v_bin rfl rfl rfl) rfl ?_
    refine o_v (v_pick_f rfl rfl) rfl ?_
    refine o_seq ?_
    refine c_cond rfl (fun h3 => ?_) (fun h3 => ?_)
    · replace hF := ite_t h3 hF
      refine c_seq ?_
      refine c_region ?_
      obtain ⟨v1, h4, hF⟩ := bd hF
      refine o_callSB call11 rfl lent_nil (tri11 k v1 h4) rfl ?_
      refine o_v (v_assign rfl) rfl ?_
      refine o_seq ?_
      refine c_ret ?_
      cases hF
      refine s_ret1 rfl (r_tmp rfl) fun a w hs => ?_
      exact fin_sel hs [] ⟨rfl, rfl, rfl⟩ rfl sub_nil
    · replace hF := ite_f h3 hF
      refine c_skip ?_
      refine sat_wc ?_
      refine c_seq ?_
      refine c_region ?_
      refine o_v (v_assign rfl) rfl ?_
      refine o_seq ?_
      refine c_seq ?_
      refine c_region ?_
      refine o_v (v_move rfl) rfl ?_
      refine o_v (v_move rfl) rfl ?_
      refine ite_some hF fun h5 hF => ?_
      refine ite_some hF fun h6 hF => ?_
      refine o_st (st_nilrow 5 1) ?_
      refine o_append (enc := eU8) (xs := ([] : List Int)) (ys := b) 0 sl30 rfl rfl rfl (.f 0 rfl) h5 h6 rfl fun sa2 sn2 sc2 => ?_
      refine o_v (v_assign rfl) rfl ?_
      refine o_seq ?_
      refine c_seq ?_
      refine c_region ?_
      refine o_v (v_move rfl) rfl ?_
      obtain ⟨v2, h7, hF⟩ := bd hF
      refine o_call0 call22 rfl sub_nil (tri22 k text_ v2 h7) rfl ?_
      rintro _ _ _ ⟨sa3, sn3, sc3, rfl, rfl, rfl⟩
      refine o_v (v_move rfl) rfl ?_
      refine o_v (v_extract rfl rfl) rfl ?_
      refine o_v (v_extract rfl rfl) rfl ?_
      refine o_alloc zero26 rfl rfl fun b1 => ?_
      refine o_v (v_assign rfl) rfl ?_
      refine o_store_box 0 rfl ty26 rfl rfl rfl rfl rfl rfl rfl ?_
      refine o_seq ?_
      refine c_seq ?_
      refine c_region ?_
      refine o_v (v_move rfl) rfl ?_
      obtain ⟨v3, h8, hF⟩ := bd hF
      refine o_call0 call23 rfl sub_nil (tri23 k text_ v3 h8) rfl ?_
      rintro _ _ _ ⟨sa4, sn4, sc4, rfl, rfl, rfl⟩
      refine o_v (v_move rfl) rfl ?_
      refine o_v (v_extract rfl rfl) rfl ?_
      refine o_v (v_extract rfl rfl) rfl ?_
      refine o_alloc zero26 rfl rfl fun b2 => ?_
      refine o_v (v_assign rfl) rfl ?_
      refine o_store_box 0 rfl ty26 rfl rfl rfl rfl rfl rfl rfl ?_
      refine o_seq ?_
      refine c_seq ?_
      refine c_cut (fun E N' => ∀ (t4 : Bool), F.law02.WordsQuotes_j1 t4 = some r → Sat E [(0, .slice sa1 sn1 sc1), (1, .string (bs text_)), (4, .bool t4), (5, .slice sa2 sn2 sc2), (7, .pointer (some ⟨b1, 0, none⟩)), (9, .pointer (some ⟨b2, 0, none⟩))] [.box b2 26 [.int .i64 v3.2.At, .int .i64 v3.2.Code], .box b1 26 [.int .i64 v2.2.At, .int .i64 v2.2.Code], .row (.slice sa2 sn2 sc2) 5 1 ((([] : List Int) ++ b).map eU8)] [(.slice sa1 sn1 sc1, .slice 1 (b.map eU8))] N') (fun N1 hN1 => ?_) ?_
      · refine c_region ?_
        obtain ⟨v4, h9, hF⟩ := bd hF
        refine o_callSB call11 rfl lent_nil (tri11 k v4 h9) rfl ?_
        refine o_v (v_move rfl) rfl ?_
        refine o_split (t := 33) rfl (fun h10 => ?_) (fun h10 => ?_)
        · replace hF := ite_t h10 hF
          refine o_on rfl rfl ?_
          refine o_v (v_move rfl) rfl ?_
          refine o_on rfl rfl ?_
          obtain ⟨v5, h11, hF⟩ := bd hF
          refine o_callSB call24 rfl (lent_r 4 rfl lent_nil) (tri24 k (([] : List Int) ++ b) sa2 sn2 sc2 v5 h11) rfl ?_
          refine o_on rfl rfl ?_
          refine o_v (v_move rfl) rfl ?_
          refine o_on rfl rfl ?_
          obtain ⟨v6, h12, hF⟩ := bd hF
          refine o_callSB call25 rfl (lent_f 0 rfl lent_nil) (tri25 k b sa1 sn1 sc1 v6 h12) rfl ?_
          refine o_on rfl rfl ?_
          refine o_v (v_streq rfl rfl) rfl ?_
          refine o_v (v_pick_t rfl rfl) rfl ?_
          refine o_v (v_move rfl) rfl ?_
          refine o_split (t := 40) rfl (fun h13 => ?_) (fun h13 => ?_)
          · replace hF := ite_t h13 hF
            refine o_on rfl rfl ?_
            refine o_v (v_move rfl) rfl ?_
            refine o_on rfl rfl ?_
            refine o_v (v_bytesStr sl30 Try.underlying5 Try.underlying9 rfl (.r 4 _ rfl)) rfl ?_
            refine o_on rfl rfl ?_
            refine o_v (v_move rfl) rfl ?_
            refine o_on rfl rfl ?_
            refine o_v (v_bytesStr sl30 Try.underlying5 Try.underlying9 rfl (.f 0 rfl)) rfl ?_
            refine o_on rfl rfl ?_
            refine o_v (v_streq rfl rfl) rfl ?_
            refine o_v (v_pick_t rfl rfl) rfl ?_
            refine o_v (v_move rfl) rfl ?_
            refine o_split (t := 47) rfl (fun h14 => ?_) (fun h14 => ?_)
            · replace hF := ite_t h14 hF
              refine o_on rfl rfl ?_
              refine o_v (v_move rfl) rfl ?_
              refine o_on rfl rfl ?_
              refine o_v (v_bytesStr sl30 Try.underlying5 Try.underlying9 rfl (.r 3 _ rfl)) rfl ?_
              refine o_on rfl rfl ?_
              refine o_v (v_move rfl) rfl ?_
              refine o_on rfl rfl ?_
              refine o_v (v_bytesStr sl30 Try.underlying5 Try.underlying9 rfl (.r 1 _ rfl)) rfl ?_
              refine o_on rfl rfl ?_
              refine o_v (v_streq rfl rfl) rfl ?_
              refine o_v (v_pick_t rfl rfl) rfl ?_
              refine o_v (v_move rfl) rfl ?_
              refine o_split (t := 54) rfl (fun h15 => ?_) (fun h15 => ?_)
              · replace hF := ite_t h15 hF
                refine o_on rfl rfl ?_
                refine o_v (v_load_box 2 ty26 rfl rfl rfl rfl rfl) rfl ?_
                refine o_on rfl rfl ?_
                refine o_v (v_load_box 0 ty26 rfl rfl rfl rfl rfl) rfl ?_
                refine o_on rfl rfl ?_
                refine o_v (v_ageq 2 rfl rfl (eq26 v2.2.At v2.2.Code v3.2.At v3.2.Code) rfl guard26) rfl ?_
                refine o_v (v_pick_t rfl rfl) rfl ?_
                refine o_v (v_assign rfl) rfl ?_
                refine o_nil ?_
                refine s_st ?_ (hN1 ((v2.2.At == v3.2.At) && ((v2.2.Code == v3.2.Code) && true)) hF)
                exact st_le [0, 1, 2] (le_cons rfl (le_cons rfl (le_cons rfl (le_cons rfl (le_cons rfl (le_cons rfl le_nil)))))) rfl (sub_cons 0 rfl sub_nil)
              · replace hF := ite_f h15 hF
                refine o_off rfl rfl (by decide) rfl ?_
                refine o_off rfl rfl (by decide) rfl ?_
                refine o_off rfl rfl (by decide) rfl ?_
                refine o_v (v_pick_f rfl rfl) rfl ?_
                refine o_v (v_assign rfl) rfl ?_
                refine o_nil ?_
                refine s_st ?_ (hN1 false hF)
                exact st_le [0, 1, 2] (le_cons rfl (le_cons rfl (le_cons rfl (le_cons rfl (le_cons rfl (le_cons rfl le_nil)))))) rfl (sub_cons 0 rfl sub_nil)
            · replace hF := ite_f h14 hF
              refine o_off rfl rfl (by decide) rfl ?_
              refine o_off rfl rfl (by decide) rfl ?_
              refine o_off rfl rfl (by decide) rfl ?_
              refine o_off rfl rfl (by decide) rfl ?_
              refine o_off rfl rfl (by decide) rfl ?_
              refine o_v (v_pick_f rfl rfl) rfl ?_
              refine o_v (v_move rfl) rfl ?_
              refine o_off rfl rfl (by decide) rfl ?_
              refine o_off rfl rfl (by decide) rfl ?_
              refine o_off rfl rfl (by decide) rfl ?_
              refine o_v (v_pick_f rfl rfl) rfl ?_
              refine o_v (v_assign rfl) rfl ?_
              refine o_nil ?_
              refine s_st ?_ (hN1 false hF)
              exact st_le [0, 1, 2] (le_cons rfl (le_cons rfl (le_cons rfl (le_cons rfl (le_cons rfl (le_cons rfl le_nil)))))) rfl (sub_cons 0 rfl sub_nil)
          · replace hF := ite_f h13 hF
            refine o_off rfl rfl (by decide) rfl ?_
            refine o_off rfl rfl (by decide) rfl ?_
            refine o_off rfl rfl (by decide) rfl ?_
            refine o_off rfl rfl (by decide) rfl ?_
            refine o_off rfl rfl (by decide) rfl ?_
            refine o_v (v_pick_f rfl rfl) rfl ?_
            refine o_v (v_move rfl) rfl ?_
            refine o_off rfl rfl (by decide) rfl ?_
            refine o_off rfl rfl (by decide) rfl ?_
            refine o_off rfl rfl (by decide) rfl ?_
            refine o_off rfl rfl (by decide) rfl ?_
            refine o_off rfl rfl (by decide) rfl ?_
            refine o_v (v_pick_f rfl rfl) rfl ?_
            refine o_v (v_move rfl) rfl ?_
            refine o_off rfl rfl (by decide) rfl ?_
            refine o_off rfl rfl (by decide) rfl ?_
            refine o_off rfl rfl (by decide) rfl ?_
            refine o_v (v_pick_f rfl rfl) rfl ?_
            refine o_v (v_assign rfl) rfl ?_
            refine o_nil ?_
            refine s_st ?_ (hN1 false hF)
            exact st_le [0, 1, 2] (le_cons rfl (le_cons rfl (le_cons rfl (le_cons rfl (le_cons rfl (le_cons rfl le_nil)))))) rfl (sub_cons 0 rfl sub_nil)
        · replace hF := ite_f h10 hF
          refine o_off rfl rfl (by decide) rfl ?_
          refine o_off rfl rfl (by decide) rfl ?_
          refine o_off rfl rfl (by decide) rfl ?_
          refine o_off rfl rfl (by decide) rfl ?_
          refine o_off rfl rfl (by decide) rfl ?_
          refine o_v (v_pick_f rfl rfl) rfl ?_
          refine o_v (v_move rfl) rfl ?_
          refine o_off rfl rfl (by decide) rfl ?_
          refine o_off rfl rfl (by decide) rfl ?_
          refine o_off rfl rfl (by decide) rfl ?_
          refine o_off rfl rfl (by decide) rfl ?_
          refine o_off rfl rfl (by decide) rfl ?_
          refine o_v (v_pick_f rfl rfl) rfl ?_
          refine o_v (v_move rfl) rfl ?_
          refine o_off rfl rfl (by decide) rfl ?_
          refine o_off rfl rfl (by decide) rfl ?_
          refine o_off rfl rfl (by decide) rfl ?_
          refine o_off rfl rfl (by decide) rfl ?_
          refine o_off rfl rfl (by decide) rfl ?_
          refine o_v (v_pick_f rfl rfl) rfl ?_
          refine o_v (v_move rfl) rfl ?_
          refine o_off rfl rfl (by decide) rfl ?_
          refine o_off rfl rfl (by decide) rfl ?_
          refine o_off rfl rfl (by decide) rfl ?_
          refine o_v (v_pick_f rfl rfl) rfl ?_
          refine o_v (v_assign rfl) rfl ?_
          refine o_nil ?_
          refine s_st ?_ (hN1 false hF)
          exact st_le [0, 1, 2] (le_cons rfl (le_cons rfl (le_cons rfl (le_cons rfl (le_cons rfl (le_cons rfl le_nil)))))) rfl (sub_cons 0 rfl sub_nil)
      · intro t4 hF
        unfold F.law02.WordsQuotes_j1 at hF
        refine sat_wc ?_
        refine c_ret ?_
        cases hF
        refine s_ret1 rfl (r_tmp rfl) fun a w hs => ?_
        exact fin_sel hs [] ⟨rfl, rfl, rfl⟩ rfl sub_nil
theorem tri10 (k : Nat) (a_ : List Int) (b : List Int) (sa1 : Option Addr) (sn1 sc1 : Nat) (sa2 : Option Addr) (sn2 sc2 : Nat) (r : Bool) (hF : F.law02.WordsBack k a_ b = some r) :
    Tri Try.prog 10 [.slice sa1 sn1 sc1, .slice sa2 sn2 sc2] [] [(.slice sa1 sn1 sc1, .slice 1 (a_.map eU8)), (.slice sa2 sn2 sc2, .slice 1 (b.map eU8))] (fun o H Φ => o = .ret (.bool r) ∧ H = [] ∧ Φ = []) := by
  unfold F.law02.WordsBack at hF
  refine tri_intro (n := 48) Try.func10 rfl Try.ntmps10 rfl fun w X => ?_
  refine c_seq ?_
  refine c_region ?_
  refine o_v (v_assign rfl) rfl ?_
  refine o_seq ?_
  refine c_seq ?_
  refine c_seq ?_
  refine c_region ?_
  refine o_v (v_move rfl) rfl ?_
  refine o_v (v_lenS (enc := eU8) a_ sl30 rfl (.f 0 rfl)) rfl ?_
  refine o_v (v_bin rfl rfl rfl) rfl ?_
  refine o_v (v_move rfl) rfl ?_
  refine o_split (t := 10) rfl (fun h1 => ?_) (fun h1 => ?_)
  · replace hF := ite_t h1 hF
    refine o_off rfl rfl (by decide) rfl ?_
    refine o_off rfl rfl (by decide) rfl ?_
    refine o_off rfl rfl (by decide) rfl ?_
    refine o_v (v_pick_t rfl rfl) rfl ?_
    refine o_seq ?_
    refine c_cond rfl (fun _ => ?_) (fun h => Bool.noConfusion h)
    refine c_seq ?_
    refine c_region ?_
    obtain ⟨v, h2, hF⟩ := bd hF
    refine o_callSB call11 rfl lent_nil (tri11 k v h2) rfl ?_
    refine o_v (v_assign rfl) rfl ?_
    refine o_seq ?_
    refine c_ret ?_
    cases hF
    refine s_ret1 rfl (r_tmp rfl) fun a w hs => ?_
    exact fin_sel hs [] ⟨rfl, rfl, rfl⟩ rfl sub_nil
  · replace hF := ite_f h1 hF
    refine o_on rfl rfl ?_
    refine o_v (v_move rfl) rfl ?_
    refine o_on rfl rfl ?_
    refine o_v (v_lenS (enc := eU8) b sl30 rfl (.f 1 rfl)) rfl ?_
    refine o_on rfl rfl ?_
    refine o_v (v_bin rfl rfl rfl) rfl ?_
    refine o_v (v_pick_f rfl rfl) rfl ?_
    refine o_seq ?_
    refine c_cond rfl (fun h3 => ?_) (fun h3 => ?_)
    · replace hF := ite_t h3 hF
      refine c_seq ?_
      refine c_region ?_
      obtain ⟨v1, h4, hF⟩ := bd hF
      refine o_callSB call11 rfl lent_nil (tri11 k v1 h4) rfl ?_
      refine o_v (v_assign rfl) rfl ?_
      refine o_seq ?_
      refine c_ret ?_
      cases hF
      refine s_ret1 rfl (r_tmp rfl) fun a w hs => ?_
      exact fin_sel hs [] ⟨rfl, rfl, rfl⟩ rfl sub_nil
    · replace hF := ite_f h3 hF
      refine c_skip ?_
      refine sat_wc ?_
      refine c_seq ?_
      refine c_region ?_
      refine o_v (v_move rfl) rfl ?_
      obtain ⟨v2, h5, hF⟩ := bd hF
      refine o_callSB call24 rfl (lent_f 0 rfl lent_nil) (tri24 k a_ sa1 sn1 sc1 v2 h5) rfl ?_
      obtain ⟨v3, h6, hF⟩ := bd hF
      refine o_call0 call22 rfl sub_nil (tri22 k v2 v3 h6) rfl ?_
      rintro _ _ _ ⟨sa3, sn3, sc3, rfl, rfl, rfl⟩
      refine o_v (v_move rfl) rfl ?_
      refine o_v (v_extract rfl rfl) rfl ?_
      refine o_v (v_extract rfl rfl) rfl ?_
      refine o_alloc zero26 rfl rfl fun b1 => ?_
      refine o_v (v_assign rfl) rfl ?_
      refine o_store_box 0 rfl ty26 rfl rfl rfl rfl rfl rfl rfl ?_
      refine o_seq ?_
      refine c_seq ?_
      refine c_cut (fun E N' => ∀ (t4 : Bool), F.law02.WordsBack_j1 t4 = some r → Sat E [(0, .slice sa1 sn1 sc1), (1, .slice sa2 sn2 sc2), (4, .bool t4), (6, .pointer (some ⟨b1, 0, none⟩))] [.box b1 26 [.int .i64 v3.2.At, .int .i64 v3.2.Code]] [(.slice sa1 sn1 sc1, .slice 1 (a_.map eU8)), (.slice sa2 sn2 sc2, .slice 1 (b.map eU8))] N') (fun N1 hN1 => ?_) ?_
      · refine c_draw (n := 27) [0, 0] mixed rfl rfl ?_
        refine d_one 0 rfl (by kernel_rfl) ?_
        obtain ⟨v4, h7, hF⟩ := bd hF
        refine o_callSB call11 rfl lent_nil (tri11 k v4 h7) rfl ?_
        refine d_next [0, 0] 0 rfl rfl ?_
        refine d_val 1 rfl pnok (by kernel_rfl) (by kernel_rfl) (by kernel_rfl) rfl (v_move rfl) ?_
        refine d_split (t := 23) rfl (fun h8 => ?_) (fun h8 => ?_)
        · replace hF := ite_t h8 hF
          refine d_val_on 2 rfl rfl rfl pnok (by kernel_rfl) (by kernel_rfl) (by kernel_rfl) rfl (v_load_box 0 ty26 rfl rfl rfl rfl rfl) ?_
          refine d_val_on 3 rfl rfl rfl pnok (by kernel_rfl) (by kernel_rfl) (by kernel_rfl) rfl (v_build (v := .agg #[.int .i64 0, .int .i64 0]) rfl (fun _ => by kernel_rfl)) ?_
          refine d_val_on 4 rfl rfl rfl pnok (by kernel_rfl) (by kernel_rfl) (by kernel_rfl) rfl (v_ageq 2 rfl rfl (eq26 v3.2.At v3.2.Code 0 0) rfl guard26) ?_
          refine d_val 5 rfl pnok (by kernel_rfl) (by kernel_rfl) (by kernel_rfl) rfl (v_pick_t rfl rfl) ?_
          refine d_val 6 rfl pnok (by kernel_rfl) (by kernel_rfl) (by kernel_rfl) rfl (v_move rfl) ?_
          refine d_split (t := 28) rfl (fun h9 => ?_) (fun h9 => ?_)
          · replace hF := ite_t h9 hF
            refine d_val_on 7 rfl rfl rfl pnok (by kernel_rfl) (by kernel_rfl) (by kernel_rfl) rfl (v_move rfl) ?_
            refine d_val_on 9 rfl rfl rfl pnok (by kernel_rfl) (by kernel_rfl) (by kernel_rfl) rfl (v_move rfl) ?_
            refine d_all [8, 10] (by kernel_rfl) (by simp) ⟨⟨_, rfl, ?_⟩, ⟨_, rfl, ?_⟩, trivial⟩
            · refine o_on rfl rfl ?_
              refine o_v (v_bytesStr sl30 Try.underlying5 Try.underlying9 rfl (.r 1 _ rfl)) rfl ?_
              refine d_next [0, 0] 0 rfl rfl ?_
              refine d_one 10 rfl (by kernel_rfl) ?_
              refine o_on rfl rfl ?_
              refine o_v (v_bytesStr sl30 Try.underlying5 Try.underlying9 rfl (.f 0 rfl)) rfl ?_
              refine d_next [0, 0] 0 rfl rfl ?_
              refine d_val_on 11 rfl rfl rfl pnok (by kernel_rfl) (by kernel_rfl) (by kernel_rfl) rfl (v_streq rfl rfl) ?_
              refine d_val 12 rfl pnok (by kernel_rfl) (by kernel_rfl) (by kernel_rfl) rfl (v_pick_t rfl rfl) ?_
              refine d_val 13 rfl pnok (by kernel_rfl) (by kernel_rfl) (by kernel_rfl) rfl (v_move rfl) ?_
              refine d_split (t := 35) rfl (fun h10 => ?_) (fun h10 => ?_)
              · replace hF := ite_t h10 hF
                refine d_val_on 14 rfl rfl rfl pnok (by kernel_rfl) (by kernel_rfl) (by kernel_rfl) rfl (v_move rfl) ?_
                refine d_val_on 16 rfl rfl rfl pnok (by kernel_rfl) (by kernel_rfl) (by kernel_rfl) rfl (v_move rfl) ?_
                refine d_val_on 19 rfl rfl rfl pnok (by kernel_rfl) (by kernel_rfl) (by kernel_rfl) rfl (v_move rfl) ?_
                refine d_val_on 21 rfl rfl rfl pnok (by kernel_rfl) (by kernel_rfl) (by kernel_rfl) rfl (v_move rfl) ?_
                obtain ⟨v5, h11, hF⟩ := bd hF
                refine d_all [15, 20, 22] (by kernel_rfl) (by simp) ⟨⟨_, rfl, ?_⟩, ⟨_, rfl, ?_⟩, ⟨_, rfl, ?_⟩, trivial⟩
                · refine o_on rfl rfl ?_
                  refine o_callSB call24 rfl (lent_f 0 rfl lent_nil) (tri24 k a_ sa1 sn1 sc1 v2 h5) rfl ?_
                  refine d_next [0, 0] 0 rfl rfl ?_
                  refine d_all [17, 20, 22] (by kernel_rfl) (by simp) ⟨⟨_, rfl, ?_⟩, ⟨_, rfl, ?_⟩, ⟨_, rfl, ?_⟩, trivial⟩
                  · refine o_on rfl rfl ?_
                    refine o_callSB call24 rfl (lent_f 1 rfl lent_nil) (tri24 k b sa2 sn2 sc2 v5 h11) rfl ?_
                    refine d_next [0, 0] 0 rfl rfl ?_
                    refine d_val_on 18 rfl rfl rfl pnok (by kernel_rfl) (by kernel_rfl) (by kernel_rfl) rfl (v_streq rfl rfl) ?_
                    refine d_all [20, 22] (by kernel_rfl) (by simp) ⟨⟨_, rfl, ?_⟩, ⟨_, rfl, ?_⟩, trivial⟩
                    · refine o_on rfl rfl ?_
                      refine o_v (v_bytesStr sl30 Try.underlying5 Try.underlying9 rfl (.f 0 rfl)) rfl ?_
                      refine d_next [0, 0] 0 rfl rfl ?_
                      refine d_one 22 rfl (by kernel_rfl) ?_
                      refine o_on rfl rfl ?_
                      refine o_v (v_bytesStr sl30 Try.underlying5 Try.underlying9 rfl (.f 1 rfl)) rfl ?_
                      refine d_next [0, 0] 0 rfl rfl ?_
                      refine d_val_on 23 rfl rfl rfl pnok (by kernel_rfl) (by kernel_rfl) (by kernel_rfl) rfl (v_streq rfl rfl) ?_
                      refine d_val_on 24 rfl rfl rfl pnok (by kernel_rfl) (by kernel_rfl) (by kernel_rfl) rfl (v_booleq rfl rfl Try.underlying4) ?_
                      refine d_val 25 rfl pnok (by kernel_rfl) (by kernel_rfl) (by kernel_rfl) rfl (v_pick_t rfl rfl) ?_
                      refine d_val 26 rfl pnok (by kernel_rfl) (by kernel_rfl) (by kernel_rfl) rfl (v_assign rfl) ?_
                      refine d_done (by kernel_rfl) ?_
                      refine s_st ?_ (hN1 ((v2 == v5) == ((toS a_) == (toS b))) hF)
                      exact st_le [0] (le_cons rfl (le_cons rfl (le_cons rfl (le_cons rfl le_nil)))) rfl (sub_cons 0 rfl (sub_cons 1 rfl sub_nil))
                    · refine o_on rfl rfl ?_
                      refine o_v (v_bytesStr sl30 Try.underlying5 Try.underlying9 rfl (.f 1 rfl)) rfl ?_
                      refine d_next [0, 0] 0 rfl rfl ?_
                      refine d_one 20 rfl (by kernel_rfl) ?_
                      refine o_on rfl rfl ?_
                      refine o_v (v_bytesStr sl30 Try.underlying5 Try.underlying9 rfl (.f 0 rfl)) rfl ?_
                      refine d_next [0, 0] 0 rfl rfl ?_
                      refine d_val_on 23 rfl rfl rfl pnok (by kernel_rfl) (by kernel_rfl) (by kernel_rfl) rfl (v_streq rfl rfl) ?_
                      refine d_val_on 24 rfl rfl rfl pnok (by kernel_rfl) (by kernel_rfl) (by kernel_rfl) rfl (v_booleq rfl rfl Try.underlying4) ?_
                      refine d_val 25 rfl pnok (by kernel_rfl) (by kernel_rfl) (by kernel_rfl) rfl (v_pick_t rfl rfl) ?_
                      refine d_val 26 rfl pnok (by kernel_rfl) (by kernel_rfl) (by kernel_rfl) rfl (v_assign rfl) ?_
                      refine d_done (by kernel_rfl) ?_
                      refine s_st ?_ (hN1 ((v2 == v5) == ((toS a_) == (toS b))) hF)
                      exact st_le [0] (le_cons rfl (le_cons rfl (le_cons rfl (le_cons rfl le_nil)))) rfl (sub_cons 0 rfl (sub_cons 1 rfl sub_nil))
                  · refine o_on rfl rfl ?_
                    refine o_v (v_bytesStr sl30 Try.underlying5 Try.underlying9 rfl (.f 0 rfl)) rfl ?_
                    refine d_next [0, 0] 0 rfl rfl ?_
                    refine d_all [17, 22] (by kernel_rfl) (by simp) ⟨⟨_, rfl, ?_⟩, ⟨_, rfl, ?_⟩, trivial⟩
                    · refine o_on rfl rfl ?_
                      refine o_callSB call24 rfl (lent_f 1 rfl lent_nil) (tri24 k b sa2 sn2 sc2 v5 h11) rfl ?_
                      refine d_next [0, 0] 0 rfl rfl ?_
                      refine d_val_on 18 rfl rfl rfl pnok (by kernel_rfl) (by kernel_rfl) (by kernel_rfl) rfl (v_streq rfl rfl) ?_
                      refine d_one 22 rfl (by kernel_rfl) ?_
                      refine o_on rfl rfl ?_
                      refine o_v (v_bytesStr sl30 Try.underlying5 Try.underlying9 rfl (.f 1 rfl)) rfl ?_
                      refine d_next [0, 0] 0 rfl rfl ?_
                      refine d_val_on 23 rfl rfl rfl pnok (by kernel_rfl) (by kernel_rfl) (by kernel_rfl) rfl (v_streq rfl rfl) ?_
                      refine d_val_on 24 rfl rfl rfl pnok (by kernel_rfl) (by kernel_rfl) (by kernel_rfl) rfl (v_booleq rfl rfl Try.underlying4) ?_
                      refine d_val 25 rfl pnok (by kernel_rfl) (by kernel_rfl) (by kernel_rfl) rfl (v_pick_t rfl rfl) ?_
                      refine d_val 26 rfl pnok (by kernel_rfl) (by kernel_rfl) (by kernel_rfl) rfl (v_assign rfl) ?_
                      refine d_done (by kernel_rfl) ?_
                      refine s_st ?_ (hN1 ((v2 == v5) == ((toS a_) == (toS b))) hF)
                      exact st_le [0] (le_cons rfl (le_cons rfl (le_cons rfl (le_cons rfl le_nil)))) rfl (sub_cons 0 rfl (sub_cons 1 rfl sub_nil))
                    · refine o_on rfl rfl ?_
                      refine o_v (v_bytesStr sl30 Try.underlying5 Try.underlying9 rfl (.f 1 rfl)) rfl ?_
                      refine d_next [0, 0] 0 rfl rfl ?_
                      refine d_val_on 23 rfl rfl rfl pnok (by kernel_rfl) (by kernel_rfl) (by kernel_rfl) rfl (v_streq rfl rfl) ?_
                      refine d_one 17 rfl (by kernel_rfl) ?_
                      refine o_on rfl rfl ?_
                      refine o_callSB call24 rfl (lent_f 1 rfl lent_nil) (tri24 k b sa2 sn2 sc2 v5 h11) rfl ?_
                      refine d_next [0, 0] 0 rfl rfl ?_
                      refine d_val_on 18 rfl rfl rfl pnok (by kernel_rfl) (by kernel_rfl) (by kernel_rfl) rfl (v_streq rfl rfl) ?_
                      refine d_val_on 24 rfl rfl rfl pnok (by kernel_rfl) (by kernel_rfl) (by kernel_rfl) rfl (v_booleq rfl rfl Try.underlying4) ?_
                      refine d_val 25 rfl pnok (by kernel_rfl) (by kernel_rfl) (by kernel_rfl) rfl (v_pick_t rfl rfl) ?_
                      refine d_val 26 rfl pnok (by kernel_rfl) (by kernel_rfl) (by kernel_rfl) rfl (v_assign rfl) ?_
                      refine d_done (by kernel_rfl) ?_
                      refine s_st ?_ (hN1 ((v2 == v5) == ((toS a_) == (toS b))) hF)
                      exact st_le [0] (le_cons rfl (le_cons rfl (le_cons rfl (le_cons rfl le_nil)))) rfl (sub_cons 0 rfl (sub_cons 1 rfl sub_nil))
                  · refine o_on rfl rfl ?_
                    refine o_v (v_bytesStr sl30 Try.underlying5 Try.underlying9 rfl (.f 1 rfl)) rfl ?_
                    refine d_next [0, 0] 0 rfl rfl ?_
                    refine d_all [17, 20] (by kernel_rfl) (by simp) ⟨⟨_, rfl, ?_⟩, ⟨_, rfl, ?_⟩, trivial⟩
                    · refine o_on rfl rfl ?_
                      refine o_callSB call24 rfl (lent_f 1 rfl lent_nil) (tri24 k b sa2 sn2 sc2 v5 h11) rfl ?_
                      refine d_next [0, 0] 0 rfl rfl ?_
                      refine d_val_on 18 rfl rfl rfl pnok (by kernel_rfl) (by kernel_rfl) (by kernel_rfl) rfl (v_streq rfl rfl) ?_
                      refine d_one 20 rfl (by kernel_rfl) ?_
                      refine o_on rfl rfl ?_
                      refine o_v (v_bytesStr sl30 Try.underlying5 Try.underlying9 rfl (.f 0 rfl)) rfl ?_
                      refine d_next [0, 0] 0 rfl rfl ?_
                      refine d_val_on 23 rfl rfl rfl pnok (by kernel_rfl) (by kernel_rfl) (by kernel_rfl) rfl (v_streq rfl rfl) ?_
                      refine d_val_on 24 rfl rfl rfl pnok (by kernel_rfl) (by kernel_rfl) (by kernel_rfl) rfl (v_booleq rfl rfl Try.underlying4) ?_
                      refine d_val 25 rfl pnok (by kernel_rfl) (by kernel_rfl) (by kernel_rfl) rfl (v_pick_t rfl rfl) ?_
                      refine d_val 26 rfl pnok (by kernel_rfl) (by kernel_rfl) (by kernel_rfl) rfl (v_assign rfl) ?_
                      refine d_done (by kernel_rfl) ?_
                      refine s_st ?_ (hN1 ((v2 == v5) == ((toS a_) == (toS b))) hF)
                      exact st_le [0] (le_cons rfl (le_cons rfl (le_cons rfl (le_cons rfl le_nil)))) rfl (sub_cons 0 rfl (sub_cons 1 rfl sub_nil))
                    · refine o_on rfl rfl ?_
                      refine o_v (v_bytesStr sl30 Try.underlying5 Try.underlying9 rfl (.f 0 rfl)) rfl ?_
                      refine d_next [0, 0] 0 rfl rfl ?_
                      refine d_val_on 23 rfl rfl rfl pnok (by kernel_rfl) (by kernel_rfl) (by kernel_rfl) rfl (v_streq rfl rfl) ?_
                      refine d_one 17 rfl (by kernel_rfl) ?_
                      refine o_on rfl rfl ?_
                      refine o_callSB call24 rfl (lent_f 1 rfl lent_nil) (tri24 k b sa2 sn2 sc2 v5 h11) rfl ?_
                      refine d_next [0, 0] 0 rfl rfl ?_
                      refine d_val_on 18 rfl rfl rfl pnok (by kernel_rfl) (by kernel_rfl) (by kernel_rfl) rfl (v_streq rfl rfl) ?_
                      refine d_val_on 24 rfl rfl rfl pnok (by kernel_rfl) (by kernel_rfl) (by kernel_rfl) rfl (v_booleq rfl rfl Try.underlying4) ?_
                      refine d_val 25 rfl pnok (by kernel_rfl) (by kernel_rfl) (by kernel_rfl) rfl (v_pick_t rfl rfl) ?_
                      refine d_val 26 rfl pnok (by kernel_rfl) (by kernel_rfl) (by kernel_rfl) rfl (v_assign rfl) ?_
                      refine d_done (by kernel_rfl) ?_
                      refine s_st ?_ (hN1 ((v2 == v5) == ((toS a_) == (toS b))) hF)
                      exact st_le [0] (le_cons rfl (le_cons rfl (le_cons rfl (le_cons rfl le_nil)))) rfl (sub_cons 0 rfl (sub_cons 1 rfl sub_nil))
                · refine o_on rfl rfl ?_
                  refine o_v (v_bytesStr sl30 Try.underlying5 Try.underlying9 rfl (.f 0 rfl)) rfl ?_
                  refine d_next [0, 0] 0 rfl rfl ?_
                  refine d_all [15, 22] (by kernel_rfl) (by simp) ⟨⟨_, rfl, ?_⟩, ⟨_, rfl, ?_⟩, trivial⟩
                  · refine o_on rfl rfl ?_
                    refine o_callSB call24 rfl (lent_f 0 rfl lent_nil) (tri24 k a_ sa1 sn1 sc1 v2 h5) rfl ?_
                    refine d_next [0, 0] 0 rfl rfl ?_
                    refine d_all [17, 22] (by kernel_rfl) (by simp) ⟨⟨_, rfl, ?_⟩, ⟨_, rfl, ?_⟩, trivial⟩
                    · refine o_on rfl rfl ?_
                      refine o_callSB call24 rfl (lent_f 1 rfl lent_nil) (tri24 k b sa2 sn2 sc2 v5 h11) rfl ?_
                      refine d_next [0, 0] 0 rfl rfl ?_
                      refine d_val_on 18 rfl rfl rfl pnok (by kernel_rfl) (by kernel_rfl) (by kernel_rfl) rfl (v_streq rfl rfl) ?_
                      refine d_one 22 rfl (by kernel_rfl) ?_
                      refine o_on rfl rfl ?_
                      refine o_v (v_bytesStr sl30 Try.underlying5 Try.underlying9 rfl (.f 1 rfl)) rfl ?_
                      refine d_next [0, 0] 0 rfl rfl ?_
                      refine d_val_on 23 rfl rfl rfl pnok (by kernel_rfl) (by kernel_rfl) (by kernel_rfl) rfl (v_streq rfl rfl) ?_
                      refine d_val_on 24 rfl rfl rfl pnok (by kernel_rfl) (by kernel_rfl) (by kernel_rfl) rfl (v_booleq rfl rfl Try.underlying4) ?_
                      refine d_val 25 rfl pnok (by kernel_rfl) (by kernel_rfl) (by kernel_rfl) rfl (v_pick_t rfl rfl) ?_
                      refine d_val 26 rfl pnok (by kernel_rfl) (by kernel_rfl) (by kernel_rfl) rfl (v_assign rfl) ?_
                      refine d_done (by kernel_rfl) ?_
                      refine s_st ?_ (hN1 ((v2 == v5) == ((toS a_) == (toS b))) hF)
                      exact st_le [0] (le_cons rfl (le_cons rfl (le_cons rfl (le_cons rfl le_nil)))) rfl (sub_cons 0 rfl (sub_cons 1 rfl sub_nil))
                    · refine o_on rfl rfl ?_
                      refine o_v (v_bytesStr sl30 Try.underlying5 Try.underlying9 rfl (.f 1 rfl)) rfl ?_
                      refine d_next [0, 0] 0 rfl rfl ?_
                      refine d_val_on 23 rfl rfl rfl pnok (by kernel_rfl) (by kernel_rfl) (by kernel_rfl) rfl (v_streq rfl rfl) ?_
                      refine d_one 17 rfl (by kernel_rfl) ?_
                      refine o_on rfl rfl ?_
                      refine o_callSB call24 rfl (lent_f 1 rfl lent_nil) (tri24 k b sa2 sn2 sc2 v5 h11) rfl ?_
                      refine d_next [0, 0] 0 rfl rfl ?_
                      refine d_val_on 18 rfl rfl rfl pnok (by kernel_rfl) (by kernel_rfl) (by kernel_rfl) rfl (v_streq rfl rfl) ?_
                      refine d_val_on 24 rfl rfl rfl pnok (by kernel_rfl) (by kernel_rfl) (by kernel_rfl) rfl (v_booleq rfl rfl Try.underlying4) ?_
                      refine d_val 25 rfl pnok (by kernel_rfl) (by kernel_rfl) (by kernel_rfl) rfl (v_pick_t rfl rfl) ?_
                      refine d_val 26 rfl pnok (by kernel_rfl) (by kernel_rfl) (by kernel_rfl) rfl (v_assign rfl) ?_
                      refine d_done (by kernel_rfl) ?_
                      refine s_st ?_ (hN1 ((v2 == v5) == ((toS a_) == (toS b))) hF)
                      exact st_le [0] (le_cons rfl (le_cons rfl (le_cons rfl (le_cons rfl le_nil)))) rfl (sub_cons 0 rfl (sub_cons 1 rfl sub_nil))
                  · refine o_on rfl rfl ?_
                    refine o_v (v_bytesStr sl30 Try.underlying5 Try.underlying9 rfl (.f 1 rfl)) rfl ?_
                    refine d_next [0, 0] 0 rfl rfl ?_
                    refine d_val_on 23 rfl rfl rfl pnok (by kernel_rfl) (by kernel_rfl) (by kernel_rfl) rfl (v_streq rfl rfl) ?_
                    refine d_one 15 rfl (by kernel_rfl) ?_
                    refine o_on rfl rfl ?_
                    refine o_callSB call24 rfl (lent_f 0 rfl lent_nil) (tri24 k a_ sa1 sn1 sc1 v2 h5) rfl ?_
                    refine d_next [0, 0] 0 rfl rfl ?_
                    refine d_one 17 rfl (by kernel_rfl) ?_
                    refine o_on rfl rfl ?_
                    refine o_callSB call24 rfl (lent_f 1 rfl lent_nil) (tri24 k b sa2 sn2 sc2 v5 h11) rfl ?_
                    refine d_next [0, 0] 0 rfl rfl ?_
                    refine d_val_on 18 rfl rfl rfl pnok (by kernel_rfl) (by kernel_rfl) (by kernel_rfl) rfl (v_streq rfl rfl) ?_
                    refine d_val_on 24 rfl rfl rfl pnok (by kernel_rfl) (by kernel_rfl) (by kernel_rfl) rfl (v_booleq rfl rfl Try.underlying4) ?_
                    refine d_val 25 rfl pnok (by kernel_rfl) (by kernel_rfl) (by kernel_rfl) rfl (v_pick_t rfl rfl) ?_
                    refine d_val 26 rfl pnok (by kernel_rfl) (by kernel_rfl) (by kernel_rfl) rfl (v_assign rfl) ?_
                    refine d_done (by kernel_rfl) ?_
                    refine s_st ?_ (hN1 ((v2 == v5) == ((toS a_) == (toS b))) hF)
                    exact st_le [0] (le_cons rfl (le_cons rfl (le_cons rfl (le_cons rfl le_nil)))) rfl (sub_cons 0 rfl (sub_cons 1 rfl sub_nil))
                · refine o_on rfl rfl ?_
                  refine o_v (v_bytesStr sl30 Try.underlying5 Try.underlying9 rfl (.f 1 rfl)) rfl ?_
                  refine d_next [0, 0] 0 rfl rfl ?_
                  refine d_all [15, 20] (by kernel_rfl) (by simp) ⟨⟨_, rfl, ?_⟩, ⟨_, rfl, ?_⟩, trivial⟩
                  · refine o_on rfl rfl ?_
                    refine o_callSB call24 rfl (lent_f 0 rfl lent_nil) (tri24 k a_ sa1 sn1 sc1 v2 h5) rfl ?_
                    refine d_next [0, 0] 0 rfl rfl ?_
                    refine d_all [17, 20] (by kernel_rfl) (by simp) ⟨⟨_, rfl, ?_⟩, ⟨_, rfl, ?_⟩, trivial⟩
                    · refine o_on rfl rfl ?_
                      refine o_callSB call24 rfl (lent_f 1 rfl lent_nil) (tri24 k b sa2 sn2 sc2 v5 h11) rfl ?_
                      refine d_next [0, 0] 0 rfl rfl ?_
                      refine d_val_on 18 rfl rfl rfl pnok (by kernel_rfl) (by kernel_rfl) (by kernel_rfl) rfl (v_streq rfl rfl) ?_
                      refine d_one 20 rfl (by kernel_rfl) ?_
                      refine o_on rfl rfl ?_
                      refine o_v (v_bytesStr sl30 Try.underlying5 Try.underlying9 rfl (.f 0 rfl)) rfl ?_
                      refine d_next [0, 0] 0 rfl rfl ?_
                      refine d_val_on 23 rfl rfl rfl pnok (by kernel_rfl) (by kernel_rfl) (by kernel_rfl) rfl (v_streq rfl rfl) ?_
                      refine d_val_on 24 rfl rfl rfl pnok (by kernel_rfl) (by kernel_rfl) (by kernel_rfl) rfl (v_booleq rfl rfl Try.underlying4) ?_
                      refine d_val 25 rfl pnok (by kernel_rfl) (by kernel_rfl) (by kernel_rfl) rfl (v_pick_t rfl rfl) ?_
                      refine d_val 26 rfl pnok (by kernel_rfl) (by kernel_rfl) (by kernel_rfl) rfl (v_assign rfl) ?_
                      refine d_done (by kernel_rfl) ?_
                      refine s_st ?_ (hN1 ((v2 == v5) == ((toS a_) == (toS b))) hF)
                      exact st_le [0] (le_cons rfl (le_cons rfl (le_cons rfl (le_cons rfl le_nil)))) rfl (sub_cons 0 rfl (sub_cons 1 rfl sub_nil))
                    · refine o_on rfl rfl ?_
                      refine o_v (v_bytesStr sl30 Try.underlying5 Try.underlying9 rfl (.f 0 rfl)) rfl ?_
                      refine d_next [0, 0] 0 rfl rfl ?_
                      refine d_val_on 23 rfl rfl rfl pnok (by kernel_rfl) (by kernel_rfl) (by kernel_rfl) rfl (v_streq rfl rfl) ?_
                      refine d_one 17 rfl (by kernel_rfl) ?_
                      refine o_on rfl rfl ?_
                      refine o_callSB call24 rfl (lent_f 1 rfl lent_nil) (tri24 k b sa2 sn2 sc2 v5 h11) rfl ?_
                      refine d_next [0, 0] 0 rfl rfl ?_
                      refine d_val_on 18 rfl rfl rfl pnok (by kernel_rfl) (by kernel_rfl) (by kernel_rfl) rfl (v_streq rfl rfl) ?_
                      refine d_val_on 24 rfl rfl rfl pnok (by kernel_rfl) (by kernel_rfl) (by kernel_rfl) rfl (v_booleq rfl rfl Try.underlying4) ?_
                      refine d_val 25 rfl pnok (by kernel_rfl) (by kernel_rfl) (by kernel_rfl) rfl (v_pick_t rfl rfl) ?_
                      refine d_val 26 rfl pnok (by kernel_rfl) (by kernel_rfl) (by kernel_rfl) rfl (v_assign rfl) ?_
                      refine d_done (by kernel_rfl) ?_
                      refine s_st ?_ (hN1 ((v2 == v5) == ((toS a_) == (toS b))) hF)
                      exact st_le [0] (le_cons rfl (le_cons rfl (le_cons rfl (le_cons rfl le_nil)))) rfl (sub_cons 0 rfl (sub_cons 1 rfl sub_nil))
                  · refine o_on rfl rfl ?_
                    refine o_v (v_bytesStr sl30 Try.underlying5 Try.underlying9 rfl (.f 0 rfl)) rfl ?_
                    refine d_next [0, 0] 0 rfl rfl ?_
                    refine d_val_on 23 rfl rfl rfl pnok (by kernel_rfl) (by kernel_rfl) (by kernel_rfl) rfl (v_streq rfl rfl) ?_
                    refine d_one 15 rfl (by kernel_rfl) ?_
                    refine o_on rfl rfl ?_
                    refine o_callSB call24 rfl (lent_f 0 rfl lent_nil) (tri24 k a_ sa1 sn1 sc1 v2 h5) rfl ?_
                    refine d_next [0, 0] 0 rfl rfl ?_
                    refine d_one 17 rfl (by kernel_rfl) ?_
                    refine o_on rfl rfl ?_
                    refine o_callSB call24 rfl (lent_f 1 rfl lent_nil) (tri24 k b sa2 sn2 sc2 v5 h11) rfl ?_
                    refine d_next [0, 0] 0 rfl rfl ?_
                    refine d_val_on 18 rfl rfl rfl pnok (by kernel_rfl) (by kernel_rfl) (by kernel_rfl) rfl (v_streq rfl rfl) ?_
                    refine d_val_on 24 rfl rfl rfl pnok (by kernel_rfl) (by kernel_rfl) (by kernel_rfl) rfl (v_booleq rfl rfl Try.underlying4) ?_
                    refine d_val 25 rfl pnok (by kernel_rfl) (by kernel_rfl) (by kernel_rfl) rfl (v_pick_t rfl rfl) ?_
                    refine d_val 26 rfl pnok (by kernel_rfl) (by kernel_rfl) (by kernel_rfl) rfl (v_assign rfl) ?_
                    refine d_done (by kernel_rfl) ?_
                    refine s_st ?_ (hN1 ((v2 == v5) == ((toS a_) == (toS b))) hF)
                    exact st_le [0] (le_cons rfl (le_cons rfl (le_cons rfl (le_cons rfl le_nil)))) rfl (sub_cons 0 rfl (sub_cons 1 rfl sub_nil))
              · replace hF := ite_f h10 hF
                refine d_off 14 rfl rfl rfl (by decide) pnok (by kernel_rfl) (by kernel_rfl) (by kernel_rfl) rfl ?_
                refine d_off 15 rfl rfl rfl (by decide) pnok (by kernel_rfl) (by kernel_rfl) (by kernel_rfl) rfl ?_
                refine d_off 16 rfl rfl rfl (by decide) pnok (by kernel_rfl) (by kernel_rfl) (by kernel_rfl) rfl ?_
                refine d_off 17 rfl rfl rfl (by decide) pnok (by kernel_rfl) (by kernel_rfl) (by kernel_rfl) rfl ?_
                refine d_off 18 rfl rfl rfl (by decide) pnok (by kernel_rfl) (by kernel_rfl) (by kernel_rfl) rfl ?_
                refine d_off 19 rfl rfl rfl (by decide) pnok (by kernel_rfl) (by kernel_rfl) (by kernel_rfl) rfl ?_
                refine d_off 20 rfl rfl rfl (by decide) pnok (by kernel_rfl) (by kernel_rfl) (by kernel_rfl) rfl ?_
                refine d_off 21 rfl rfl rfl (by decide) pnok (by kernel_rfl) (by kernel_rfl) (by kernel_rfl) rfl ?_
                refine d_off 22 rfl rfl rfl (by decide) pnok (by kernel_rfl) (by kernel_rfl) (by kernel_rfl) rfl ?_
                refine d_off 23 rfl rfl rfl (by decide) pnok (by kernel_rfl) (by kernel_rfl) (by kernel_rfl) rfl ?_
                refine d_off 24 rfl rfl rfl (by decide) pnok (by kernel_rfl) (by kernel_rfl) (by kernel_rfl) rfl ?_
                refine d_val 25 rfl pnok (by kernel_rfl) (by kernel_rfl) (by kernel_rfl) rfl (v_pick_f rfl rfl) ?_
                refine d_val 26 rfl pnok (by kernel_rfl) (by kernel_rfl) (by kernel_rfl) rfl (v_assign rfl) ?_
                refine d_done (by kernel_rfl) ?_
                refine s_st ?_ (hN1 false hF)
                exact st_le [0] (le_cons rfl (le_cons rfl (le_cons rfl (le_cons rfl le_nil)))) rfl (sub_cons 0 rfl (sub_cons 1 rfl sub_nil))
            · refine o_on rfl rfl ?_
              refine o_v (v_bytesStr sl30 Try.underlying5 Try.underlying9 rfl (.f 0 rfl)) rfl ?_
              refine d_next [0, 0] 0 rfl rfl ?_
              refine d_one 8 rfl (by kernel_rfl) ?_
              refine o_on rfl rfl ?_
              refine o_v (v_bytesStr sl30 Try.underlying5 Try.underlying9 rfl (.r 1 _ rfl)) rfl ?_
              refine d_next [0, 0] 0 rfl rfl ?_
              refine d_val_on 11 rfl rfl rfl pnok (by kernel_rfl) (by kernel_rfl) (by kernel_rfl) rfl (v_streq rfl rfl) ?_
              refine d_val 12 rfl pnok (by kernel_rfl) (by kernel_rfl) (by kernel_rfl) rfl (v_pick_t rfl rfl) ?_
              refine d_val 13 rfl pnok (by kernel_rfl) (by kernel_rfl) (by kernel_rfl) rfl (v_move rfl) ?_
              refine d_split (t := 35) rfl (fun h10 => ?_) (fun h10 => ?_)
              · replace hF := ite_t h10 hF
                refine d_val_on 14 rfl rfl rfl pnok (by kernel_rfl) (by kernel_rfl) (by kernel_rfl) rfl (v_move rfl) ?_
                refine d_val_on 16 rfl rfl rfl pnok (by kernel_rfl) (by kernel_rfl) (by kernel_rfl) rfl (v_move rfl) ?_
                refine d_val_on 19 rfl rfl rfl pnok (by kernel_rfl) (by kernel_rfl) (by kernel_rfl) rfl (v_move rfl) ?_
                refine d_val_on 21 rfl rfl rfl pnok (by kernel_rfl) (by kernel_rfl) (by kernel_rfl) rfl (v_move rfl) ?_
                obtain ⟨v5, h11, hF⟩ := bd hF
                refine d_all [15, 20, 22] (by kernel_rfl) (by simp) ⟨⟨_, rfl, ?_⟩, ⟨_, rfl, ?_⟩, ⟨_, rfl, ?_⟩, trivial⟩
                · refine o_on rfl rfl ?_
                  refine o_callSB call24 rfl (lent_f 0 rfl lent_nil) (tri24 k a_ sa1 sn1 sc1 v2 h5) rfl ?_
                  refine d_next [0, 0] 0 rfl rfl ?_
                  refine d_all [17, 20, 22] (by kernel_rfl) (by simp) ⟨⟨_, rfl, ?_⟩, ⟨_, rfl, ?_⟩, ⟨_, rfl, ?_⟩, trivial⟩
                  · refine o_on rfl rfl ?_
                    refine o_callSB call24 rfl (lent_f 1 rfl lent_nil) (tri24 k b sa2 sn2 sc2 v5 h11) rfl ?_
                    refine d_next [0, 0] 0 rfl rfl ?_
                    refine d_val_on 18 rfl rfl rfl pnok (by kernel_rfl) (by kernel_rfl) (by kernel_rfl) rfl (v_streq rfl rfl) ?_
                    refine d_all [20, 22] (by kernel_rfl) (by simp) ⟨⟨_, rfl, ?_⟩, ⟨_, rfl, ?_⟩, trivial⟩
                    · refine o_on rfl rfl ?_
                      refine o_v (v_bytesStr sl30 Try.underlying5 Try.underlying9 rfl (.f 0 rfl)) rfl ?_
                      refine d_next [0, 0] 0 rfl rfl ?_
                      refine d_one 22 rfl (by kernel_rfl) ?_
                      refine o_on rfl rfl ?_
                      refine o_v (v_bytesStr sl30 Try.underlying5 Try.underlying9 rfl (.f 1 rfl)) rfl ?_
                      refine d_next [0, 0] 0 rfl rfl ?_
                      refine d_val_on 23 rfl rfl rfl pnok (by kernel_rfl) (by kernel_rfl) (by kernel_rfl) rfl (v_streq rfl rfl) ?_
                      refine d_val_on 24 rfl rfl rfl pnok (by kernel_rfl) (by kernel_rfl) (by kernel_rfl) rfl (v_booleq rfl rfl Try.underlying4) ?_
                      refine d_val 25 rfl pnok (by kernel_rfl) (by kernel_rfl) (by kernel_rfl) rfl (v_pick_t rfl rfl) ?_
                      refine d_val 26 rfl pnok (by kernel_rfl) (by kernel_rfl) (by kernel_rfl) rfl (v_assign rfl) ?_
                      refine d_done (by kernel_rfl) ?_
                      refine s_st ?_ (hN1 ((v2 == v5) == ((toS a_) == (toS b))) hF)
                      exact st_le [0] (le_cons rfl (le_cons rfl (le_cons rfl (le_cons rfl le_nil)))) rfl (sub_cons 0 rfl (sub_cons 1 rfl sub_nil))
                    · refine o_on rfl rfl ?_
                      refine o_v (v_bytesStr sl30 Try.underlying5 Try.underlying9 rfl (.f 1 rfl)) rfl ?_
                      refine d_next [0, 0] 0 rfl rfl ?_
                      refine d_one 20 rfl (by kernel_rfl) ?_
                      refine o_on rfl rfl ?_
                      refine o_v (v_bytesStr sl30 Try.underlying5 Try.underlying9 rfl (.f 0 rfl)) rfl ?_
                      refine d_next [0, 0] 0 rfl rfl ?_
                      refine d_val_on 23 rfl rfl rfl pnok (by kernel_rfl) (by kernel_rfl) (by kernel_rfl) rfl (v_streq rfl rfl) ?_
                      refine d_val_on 24 rfl rfl rfl pnok (by kernel_rfl) (by kernel_rfl) (by kernel_rfl) rfl (v_booleq rfl rfl Try.underlying4) ?_
                      refine d_val 25 rfl pnok (by kernel_rfl) (by kernel_rfl) (by kernel_rfl) rfl (v_pick_t rfl rfl) ?_
                      refine d_val 26 rfl pnok (by kernel_rfl) (by kernel_rfl) (by kernel_rfl) rfl (v_assign rfl) ?_
                      refine d_done (by kernel_rfl) ?_
                      refine s_st ?_ (hN1 ((v2 == v5) == ((toS a_) == (toS b))) hF)
                      exact st_le [0] (le_cons rfl (le_cons rfl (le_cons rfl (le_cons rfl le_nil)))) rfl (sub_cons 0 rfl (sub_cons 1 rfl sub_nil))
                  · refine o_on rfl rfl ?_
                    refine o_v (v_bytesStr sl30 Try.underlying5 Try.underlying9 rfl (.f 0 rfl)) rfl ?_
                    refine d_next [0, 0] 0 rfl rfl ?_
                    refine d_all [17, 22] (by kernel_rfl) (by simp) ⟨⟨_, rfl, ?_⟩, ⟨_, rfl, ?_⟩, trivial⟩
                    · refine o_on rfl rfl ?_
                      refine o_callSB call24 rfl (lent_f 1 rfl lent_nil) (tri24 k b sa2 sn2 sc2 v5 h11) rfl ?_
                      refine d_next [0, 0] 0 rfl rfl ?_
                      refine d_val_on 18 rfl rfl rfl pnok (by kernel_rfl) (by kernel_rfl) (by kernel_rfl) rfl (v_streq rfl rfl) ?_
                      refine d_one 22 rfl (by kernel_rfl) ?_
                      refine o_on rfl rfl ?_
                      refine o_v (v_bytesStr sl30 Try.underlying5 Try.underlying9 rfl (.f 1 rfl)) rfl ?_
                      refine d_next [0, 0] 0 rfl rfl ?_
                      refine d_val_on 23 rfl rfl rfl pnok (by kernel_rfl) (by kernel_rfl) (by kernel_rfl) rfl (v_streq rfl rfl) ?_
                      refine d_val_on 24 rfl rfl rfl pnok (by kernel_rfl) (by kernel_rfl) (by kernel_rfl) rfl (v_booleq rfl rfl Try.underlying4) ?_
                      refine d_val 25 rfl pnok (by kernel_rfl) (by kernel_rfl) (by kernel_rfl) rfl (v_pick_t rfl rfl) ?_
                      refine d_val 26 rfl pnok (by kernel_rfl) (by kernel_rfl) (by kernel_rfl) rfl (v_assign rfl) ?_
                      refine d_done (by kernel_rfl) ?_
                      refine s_st ?_ (hN1 ((v2 == v5) == ((toS a_) == (toS b))) hF)
                      exact st_le [0] (le_cons rfl (le_cons rfl (le_cons rfl (le_cons rfl le_nil)))) rfl (sub_cons 0 rfl (sub_cons 1 rfl sub_nil))
                    · refine o_on rfl rfl ?_
                      refine o_v (v_bytesStr sl30 Try.underlying5 Try.underlying9 rfl (.f 1 rfl)) rfl ?_
                      refine d_next [0, 0] 0 rfl rfl ?_
                      refine d_val_on 23 rfl rfl rfl pnok (by kernel_rfl) (by kernel_rfl) (by kernel_rfl) rfl (v_streq rfl rfl) ?_
                      refine d_one 17 rfl (by kernel_rfl) ?_
                      refine o_on rfl rfl ?_
                      refine o_callSB call24 rfl (lent_f 1 rfl lent_nil) (tri24 k b sa2 sn2 sc2 v5 h11) rfl ?_
                      refine d_next [0, 0] 0 rfl rfl ?_
                      refine d_val_on 18 rfl rfl rfl pnok (by kernel_rfl) (by kernel_rfl) (by kernel_rfl) rfl (v_streq rfl rfl) ?_
                      refine d_val_on 24 rfl rfl rfl pnok (by kernel_rfl) (by kernel_rfl) (by kernel_rfl) rfl (v_booleq rfl rfl Try.underlying4) ?_
                      refine d_val 25 rfl pnok (by kernel_rfl) (by kernel_rfl) (by kernel_rfl) rfl (v_pick_t rfl rfl) ?_
                      refine d_val 26 rfl pnok (by kernel_rfl) (by kernel_rfl) (by kernel_rfl) rfl (v_assign rfl) ?_
                      refine d_done (by kernel_rfl) ?_
                      refine s_st ?_ (hN1 ((v2 == v5) == ((toS a_) == (toS b))) hF)
                      exact st_le [0] (le_cons rfl (le_cons rfl (le_cons rfl (le_cons rfl le_nil)))) rfl (sub_cons 0 rfl (sub_cons 1 rfl sub_nil))
                  · refine o_on rfl rfl ?_
                    refine o_v (v_bytesStr sl30 Try.underlying5 Try.underlying9 rfl (.f 1 rfl)) rfl ?_
                    refine d_next [0, 0] 0 rfl rfl ?_
                    refine d_all [17, 20] (by kernel_rfl) (by simp) ⟨⟨_, rfl, ?_⟩, ⟨_, rfl, ?_⟩, trivial⟩
                    · refine o_on rfl rfl ?_
                      refine o_callSB call24 rfl (lent_f 1 rfl lent_nil) (tri24 k b sa2 sn2 sc2 v5 h11) rfl ?_
                      refine d_next [0, 0] 0 rfl rfl ?_
                      refine d_val_on 18 rfl rfl rfl pnok (by kernel_rfl) (by kernel_rfl) (by kernel_rfl) rfl (v_streq rfl rfl) ?_
                      refine d_one 20 rfl (by kernel_rfl) ?_
                      refine o_on rfl rfl ?_
                      refine o_v (v_bytesStr sl30 Try.underlying5 Try.underlying9 rfl (.f 0 rfl)) rfl ?_
                      refine d_next [0, 0] 0 rfl rfl ?_
                      refine d_val_on 23 rfl rfl rfl pnok (by kernel_rfl) (by kernel_rfl) (by kernel_rfl) rfl (v_streq rfl rfl) ?_
                      refine d_val_on 24 rfl rfl rfl pnok (by kernel_rfl) (by kernel_rfl) (by kernel_rfl) rfl (v_booleq rfl rfl Try.underlying4) ?_
                      refine d_val 25 rfl pnok (by kernel_rfl) (by kernel_rfl) (by kernel_rfl) rfl (v_pick_t rfl rfl) ?_
                      refine d_val 26 rfl pnok (by kernel_rfl) (by kernel_rfl) (by kernel_rfl) rfl (v_assign rfl) ?_
                      refine d_done (by kernel_rfl) ?_
                      refine s_st ?_ (hN1 ((v2 == v5) == ((toS a_) == (toS b))) hF)
                      exact st_le [0] (le_cons rfl (le_cons rfl (le_cons rfl (le_cons rfl le_nil)))) rfl (sub_cons 0 rfl (sub_cons 1 rfl sub_nil))
                    · refine o_on rfl rfl ?_
                      refine o_v (v_bytesStr sl30 Try.underlying5 Try.underlying9 rfl (.f 0 rfl)) rfl ?_
                      refine d_next [0, 0] 0 rfl rfl ?_
                      refine d_val_on 23 rfl rfl rfl pnok (by kernel_rfl) (by kernel_rfl) (by kernel_rfl) rfl (v_streq rfl rfl) ?_
                      refine d_one 17 rfl (by kernel_rfl) ?_
                      refine o_on rfl rfl ?_
                      refine o_callSB call24 rfl (lent_f 1 rfl lent_nil) (tri24 k b sa2 sn2 sc2 v5 h11) rfl ?_
                      refine d_next [0, 0] 0 rfl rfl ?_
                      refine d_val_on 18 rfl rfl rfl pnok (by kernel_rfl) (by kernel_rfl) (by kernel_rfl) rfl (v_streq rfl rfl) ?_
                      refine d_val_on 24 rfl rfl rfl pnok (by kernel_rfl) (by kernel_rfl) (by kernel_rfl) rfl (v_booleq rfl rfl Try.underlying4) ?_
                      refine d_val 25 rfl pnok (by kernel_rfl) (by kernel_rfl) (by kernel_rfl) rfl (v_pick_t rfl rfl) ?_
                      refine d_val 26 rfl pnok (by kernel_rfl) (by kernel_rfl) (by kernel_rfl) rfl (v_assign rfl) ?_
                      refine d_done (by kernel_rfl) ?_
                      refine s_st ?_ (hN1 ((v2 == v5) == ((toS a_) == (toS b))) hF)
                      exact st_le [0] (le_cons rfl (le_cons rfl (le_cons rfl (le_cons rfl le_nil)))) rfl (sub_cons 0 rfl (sub_cons 1 rfl sub_nil))
                · refine o_on rfl rfl ?_
                  refine o_v (v_bytesStr sl30 Try.underlying5 Try.underlying9 rfl (.f 0 rfl)) rfl ?_
                  refine d_next [0, 0] 0 rfl rfl ?_
                  refine d_all [15, 22] (by kernel_rfl) (by simp) ⟨⟨_, rfl, ?_⟩, ⟨_, rfl, ?_⟩, trivial⟩
                  · refine o_on rfl rfl ?_
                    refine o_callSB call24 rfl (lent_f 0 rfl lent_nil) (tri24 k a_ sa1 sn1 sc1 v2 h5) rfl ?_
                    refine d_next [0, 0] 0 rfl rfl ?_
                    refine d_all [17, 22] (by kernel_rfl) (by simp) ⟨⟨_, rfl, ?_⟩, ⟨_, rfl, ?_⟩, trivial⟩
                    · refine o_on rfl rfl ?_
                      refine o_callSB call24 rfl (lent_f 1 rfl lent_nil) (tri24 k b sa2 sn2 sc2 v5 h11) rfl ?_
                      refine d_next [0, 0] 0 rfl rfl ?_
                      refine d_val_on 18 rfl rfl rfl pnok (by kernel_rfl) (by kernel_rfl) (by kernel_rfl) rfl (v_streq rfl rfl) ?_
                      refine d_one 22 rfl (by kernel_rfl) ?_
                      refine o_on rfl rfl ?_
                      refine o_v (v_bytesStr sl30 Try.underlying5 Try.underlying9 rfl (.f 1 rfl)) rfl ?_
                      refine d_next [0, 0] 0 rfl rfl ?_
                      refine d_val_on 23 rfl rfl rfl pnok (by kernel_rfl) (by kernel_rfl) (by kernel_rfl) rfl (v_streq rfl rfl) ?_
                      refine d_val_on 24 rfl rfl rfl pnok (by kernel_rfl) (by kernel_rfl) (by kernel_rfl) rfl (v_booleq rfl rfl Try.underlying4) ?_
                      refine d_val 25 rfl pnok (by kernel_rfl) (by kernel_rfl) (by kernel_rfl) rfl (v_pick_t rfl rfl) ?_
                      refine d_val 26 rfl pnok (by kernel_rfl) (by kernel_rfl) (by kernel_rfl) rfl (v_assign rfl) ?_
                      refine d_done (by kernel_rfl) ?_
                      refine s_st ?_ (hN1 ((v2 == v5) == ((toS a_) == (toS b))) hF)
                      exact st_le [0] (le_cons rfl (le_cons rfl (le_cons rfl (le_cons rfl le_nil)))) rfl (sub_cons 0 rfl (sub_cons 1 rfl sub_nil))
                    · refine o_on rfl rfl ?_
                      refine o_v (v_bytesStr sl30 Try.underlying5 Try.underlying9 rfl (.f 1 rfl)) rfl ?_
                      refine d_next [0, 0] 0 rfl rfl ?_
                      refine d_val_on 23 rfl rfl rfl pnok (by kernel_rfl) (by kernel_rfl) (by kernel_rfl) rfl (v_streq rfl rfl) ?_
                      refine d_one 17 rfl (by kernel_rfl) ?_
                      refine o_on rfl rfl ?_
                      refine o_callSB call24 rfl (lent_f 1 rfl lent_nil) (tri24 k b sa2 sn2 sc2 v5 h11) rfl ?_
                      refine d_next [0, 0] 0 rfl rfl ?_
                      refine d_val_on 18 rfl rfl rfl pnok (by kernel_rfl) (by kernel_rfl) (by kernel_rfl) rfl (v_streq rfl rfl) ?_
                      refine d_val_on 24 rfl rfl rfl pnok (by kernel_rfl) (by kernel_rfl) (by kernel_rfl) rfl (v_booleq rfl rfl Try.underlying4) ?_
                      refine d_val 25 rfl pnok (by kernel_rfl) (by kernel_rfl) (by kernel_rfl) rfl (v_pick_t rfl rfl) ?_
                      refine d_val 26 rfl pnok (by kernel_rfl) (by kernel_rfl) (by kernel_rfl) rfl (v_assign rfl) ?_
                      refine d_done (by kernel_rfl) ?_
                      refine s_st ?_ (hN1 ((v2 == v5) == ((toS a_) == (toS b))) hF)
                      exact st_le [0] (le_cons rfl (le_cons rfl (le_cons rfl (le_cons rfl le_nil)))) rfl (sub_cons 0 rfl (sub_cons 1 rfl sub_nil))
                  · refine o_on rfl rfl ?_
                    refine o_v (v_bytesStr sl30 Try.underlying5 Try.underlying9 rfl (.f 1 rfl)) rfl ?_
                    refine d_next [0, 0] 0 rfl rfl ?_
                    refine d_val_on 23 rfl rfl rfl pnok (by kernel_rfl) (by kernel_rfl) (by kernel_rfl) rfl (v_streq rfl rfl) ?_
                    refine d_one 15 rfl (by kernel_rfl) ?_
                    refine o_on rfl rfl ?_
                    refine o_callSB call24 rfl (lent_f 0 rfl lent_nil) (tri24 k a_ sa1 sn1 sc1 v2 h5) rfl ?_
                    refine d_next [0, 0] 0 rfl rfl ?_
                    refine d_one 17 rfl (by kernel_rfl) ?_
                    refine o_on rfl rfl ?_
                    refine o_callSB call24 rfl (lent_f 1 rfl lent_nil) (tri24 k b sa2 sn2 sc2 v5 h11) rfl ?_
                    refine d_next [0, 0] 0 rfl rfl ?_
                    refine d_val_on 18 rfl rfl rfl pnok (by kernel_rfl) (by kernel_rfl) (by kernel_rfl) rfl (v_streq rfl rfl) ?_
                    refine d_val_on 24 rfl rfl rfl pnok (by kernel_rfl) (by kernel_rfl) (by kernel_rfl) rfl (v_booleq rfl rfl Try.underlying4) ?_
                    refine d_val 25 rfl pnok (by kernel_rfl) (by kernel_rfl) (by kernel_rfl) rfl (v_pick_t rfl rfl) ?_
                    refine d_val 26 rfl pnok (by kernel_rfl) (by kernel_rfl) (by kernel_rfl) rfl (v_assign rfl) ?_
                    refine d_done (by kernel_rfl) ?_
                    refine s_st ?_ (hN1 ((v2 == v5) == ((toS a_) == (toS b))) hF)
                    exact st_le [0] (le_cons rfl (le_cons rfl (le_cons rfl (le_cons rfl le_nil)))) rfl (sub_cons 0 rfl (sub_cons 1 rfl sub_nil))
                · refine o_on rfl rfl ?_
                  refine o_v (v_bytesStr sl30 Try.underlying5 Try.underlying9 rfl (.f 1 rfl)) rfl ?_
                  refine d_next [0, 0] 0 rfl rfl ?_
                  refine d_all [15, 20] (by kernel_rfl) (by simp) ⟨⟨_, rfl, ?_⟩, ⟨_, rfl, ?_⟩, trivial⟩
                  · refine o_on rfl rfl ?_
                    refine o_callSB call24 rfl (lent_f 0 rfl lent_nil) (tri24 k a_ sa1 sn1 sc1 v2 h5) rfl ?_
                    refine d_next [0, 0] 0 rfl rfl ?_
                    refine d_all [17, 20] (by kernel_rfl) (by simp) ⟨⟨_, rfl, ?_⟩, ⟨_, rfl, ?_⟩, trivial⟩
                    · refine o_on rfl rfl ?_
                      refine o_callSB call24 rfl (lent_f 1 rfl lent_nil) (tri24 k b sa2 sn2 sc2 v5 h11) rfl ?_
                      refine d_next [0, 0] 0 rfl rfl ?_
                      refine d_val_on 18 rfl rfl rfl pnok (by kernel_rfl) (by kernel_rfl) (by kernel_rfl) rfl (v_streq rfl rfl) ?_
                      refine d_one 20 rfl (by kernel_rfl) ?_
                      refine o_on rfl rfl ?_
                      refine o_v (v_bytesStr sl30 Try.underlying5 Try.underlying9 rfl (.f 0 rfl)) rfl ?_
                      refine d_next [0, 0] 0 rfl rfl ?_
                      refine d_val_on 23 rfl rfl rfl pnok (by kernel_rfl) (by kernel_rfl) (by kernel_rfl) rfl (v_streq rfl rfl) ?_
                      refine d_val_on 24 rfl rfl rfl pnok (by kernel_rfl) (by kernel_rfl) (by kernel_rfl) rfl (v_booleq rfl rfl Try.underlying4) ?_
                      refine d_val 25 rfl pnok (by kernel_rfl) (by kernel_rfl) (by kernel_rfl) rfl (v_pick_t rfl rfl) ?_
                      refine d_val 26 rfl pnok (by kernel_rfl) (by kernel_rfl) (by kernel_rfl) rfl (v_assign rfl) ?_
                      refine d_done (by kernel_rfl) ?_
                      refine s_st ?_ (hN1 ((v2 == v5) == ((toS a_) == (toS b))) hF)
                      exact st_le [0] (le_cons rfl (le_cons rfl (le_cons rfl (le_cons rfl le_nil)))) rfl (sub_cons 0 rfl (sub_cons 1 rfl sub_nil))
                    · refine o_on rfl rfl ?_
                      refine o_v (v_bytesStr sl30 Try.underlying5 Try.underlying9 rfl (.f 0 rfl)) rfl ?_
                      refine d_next [0, 0] 0 rfl rfl ?_
                      refine d_val_on 23 rfl rfl rfl pnok (by kernel_rfl) (by kernel_rfl) (by kernel_rfl) rfl (v_streq rfl rfl) ?_
                      refine d_one 17 rfl (by kernel_rfl) ?_
                      refine o_on rfl rfl ?_
                      refine o_callSB call24 rfl (lent_f 1 rfl lent_nil) (tri24 k b sa2 sn2 sc2 v5 h11) rfl ?_
                      refine d_next [0, 0] 0 rfl rfl ?_
                      refine d_val_on 18 rfl rfl rfl pnok (by kernel_rfl) (by kernel_rfl) (by kernel_rfl) rfl (v_streq rfl rfl) ?_
                      refine d_val_on 24 rfl rfl rfl pnok (by kernel_rfl) (by kernel_rfl) (by kernel_rfl) rfl (v_booleq rfl rfl Try.underlying4) ?_
                      refine d_val 25 rfl pnok (by kernel_rfl) (by kernel_rfl) (by kernel_rfl) rfl (v_pick_t rfl rfl) ?_
                      refine d_val 26 rfl pnok (by kernel_rfl) (by kernel_rfl) (by kernel_rfl) rfl (v_assign rfl) ?_
                      refine d_done (by kernel_rfl) ?_
                      refine s_st ?_ (hN1 ((v2 == v5) == ((toS a_) == (toS b))) hF)
                      exact st_le [0] (le_cons rfl (le_cons rfl (le_cons rfl (le_cons rfl le_nil)))) rfl (sub_cons 0 rfl (sub_cons 1 rfl sub_nil))
                  · refine o_on rfl rfl ?_
                    refine o_v (v_bytesStr sl30 Try.underlying5 Try.underlying9 rfl (.f 0 rfl)) rfl ?_
                    refine d_next [0, 0] 0 rfl rfl ?_
                    refine d_val_on 23 rfl rfl rfl pnok (by kernel_rfl) (by kernel_rfl) (by kernel_rfl) rfl (v_streq rfl rfl) ?_
                    refine d_one 15 rfl (by kernel_rfl) ?_
                    refine o_on rfl rfl ?_
                    refine o_callSB call24 rfl (lent_f 0 rfl lent_nil) (tri24 k a_ sa1 sn1 sc1 v2 h5) rfl ?_
                    refine d_next [0, 0] 0 rfl rfl ?_
                    refine d_one 17 rfl (by kernel_rfl) ?_
                    refine o_on rfl rfl ?_
                    refine o_callSB call24 rfl (lent_f 1 rfl lent_nil) (tri24 k b sa2 sn2 sc2 v5 h11) rfl ?_
                    refine d_next [0, 0] 0 rfl rfl ?_
                    refine d_val_on 18 rfl rfl rfl pnok (by kernel_rfl) (by kernel_rfl) (by kernel_rfl) rfl (v_streq rfl rfl) ?_
                    refine d_val_on 24 rfl rfl rfl pnok (by kernel_rfl) (by kernel_rfl) (by kernel_rfl) rfl (v_booleq rfl rfl Try.underlying4) ?_
                    refine d_val 25 rfl pnok (by kernel_rfl) (by kernel_rfl) (by kernel_rfl) rfl (v_pick_t rfl rfl) ?_
                    refine d_val 26 rfl pnok (by kernel_rfl) (by kernel_rfl) (by kernel_rfl) rfl (v_assign rfl) ?_
                    refine d_done (by kernel_rfl) ?_
                    refine s_st ?_ (hN1 ((v2 == v5) == ((toS a_) == (toS b))) hF)
                    exact st_le [0] (le_cons rfl (le_cons rfl (le_cons rfl (le_cons rfl le_nil)))) rfl (sub_cons 0 rfl (sub_cons 1 rfl sub_nil))
              · replace hF := ite_f h10 hF
                refine d_off 14 rfl rfl rfl (by decide) pnok (by kernel_rfl) (by kernel_rfl) (by kernel_rfl) rfl ?_
                refine d_off 15 rfl rfl rfl (by decide) pnok (by kernel_rfl) (by kernel_rfl) (by kernel_rfl) rfl ?_
                refine d_off 16 rfl rfl rfl (by decide) pnok (by kernel_rfl) (by kernel_rfl) (by kernel_rfl) rfl ?_
                refine d_off 17 rfl rfl rfl (by decide) pnok (by kernel_rfl) (by kernel_rfl) (by kernel_rfl) rfl ?_
                refine d_off 18 rfl rfl rfl (by decide) pnok (by kernel_rfl) (by kernel_rfl) (by kernel_rfl) rfl ?_
                refine d_off 19 rfl rfl rfl (by decide) pnok (by kernel_rfl) (by kernel_rfl) (by kernel_rfl) rfl ?_
                refine d_off 20 rfl rfl rfl (by decide) pnok (by kernel_rfl) (by kernel_rfl) (by kernel_rfl) rfl ?_
                refine d_off 21 rfl rfl rfl (by decide) pnok (by kernel_rfl) (by kernel_rfl) (by kernel_rfl) rfl ?_
                refine d_off 22 rfl rfl rfl (by decide) pnok (by kernel_rfl) (by kernel_rfl) (by kernel_rfl) rfl ?_
                refine d_off 23 rfl rfl rfl (by decide) pnok (by kernel_rfl) (by kernel_rfl) (by kernel_rfl) rfl ?_
                refine d_off 24 rfl rfl rfl (by decide) pnok (by kernel_rfl) (by kernel_rfl) (by kernel_rfl) rfl ?_
                refine d_val 25 rfl pnok (by kernel_rfl) (by kernel_rfl) (by kernel_rfl) rfl (v_pick_f rfl rfl) ?_
                refine d_val 26 rfl pnok (by kernel_rfl) (by kernel_rfl) (by kernel_rfl) rfl (v_assign rfl) ?_
                refine d_done (by kernel_rfl) ?_
                refine s_st ?_ (hN1 false hF)
                exact st_le [0] (le_cons rfl (le_cons rfl (le_cons rfl (le_cons rfl le_nil)))) rfl (sub_cons 0 rfl (sub_cons 1 rfl sub_nil))
          · replace hF := ite_f h9 hF
            refine d_off 7 rfl rfl rfl (by decide) pnok (by kernel_rfl) (by kernel_rfl) (by kernel_rfl) rfl ?_
            refine d_off 8 rfl rfl rfl (by decide) pnok (by kernel_rfl) (by kernel_rfl) (by kernel_rfl) rfl ?_
            refine d_off 9 rfl rfl rfl (by decide) pnok (by kernel_rfl) (by kernel_rfl) (by kernel_rfl) rfl ?_
            refine d_off 10 rfl rfl rfl (by decide) pnok (by kernel_rfl) (by kernel_rfl) (by kernel_rfl) rfl ?_
            refine d_off 11 rfl rfl rfl (by decide) pnok (by kernel_rfl) (by kernel_rfl) (by kernel_rfl) rfl ?_
            refine d_val 12 rfl pnok (by kernel_rfl) (by kernel_rfl) (by kernel_rfl) rfl (v_pick_f rfl rfl) ?_
            refine d_val 13 rfl pnok (by kernel_rfl) (by kernel_rfl) (by kernel_rfl) rfl (v_move rfl) ?_
            refine d_off 14 rfl rfl rfl (by decide) pnok (by kernel_rfl) (by kernel_rfl) (by kernel_rfl) rfl ?_
            refine d_off 15 rfl rfl rfl (by decide) pnok (by kernel_rfl) (by kernel_rfl) (by kernel_rfl) rfl ?_
            refine d_off 16 rfl rfl rfl (by decide) pnok (by kernel_rfl) (by kernel_rfl) (by kernel_rfl) rfl ?_
            refine d_off 17 rfl rfl rfl (by decide) pnok (by kernel_rfl) (by kernel_rfl) (by kernel_rfl) rfl ?_
            refine d_off 18 rfl rfl rfl (by decide) pnok (by kernel_rfl) (by kernel_rfl) (by kernel_rfl) rfl ?_
            refine d_off 19 rfl rfl rfl (by decide) pnok (by kernel_rfl) (by kernel_rfl) (by kernel_rfl) rfl ?_
            refine d_off 20 rfl rfl rfl (by decide) pnok (by kernel_rfl) (by kernel_rfl) (by kernel_rfl) rfl ?_
            refine d_off 21 rfl rfl rfl (by decide) pnok (by kernel_rfl) (by kernel_rfl) (by kernel_rfl) rfl ?_
            refine d_off 22 rfl rfl rfl (by decide) pnok (by kernel_rfl) (by kernel_rfl) (by kernel_rfl) rfl ?_
            refine d_off 23 rfl rfl rfl (by decide) pnok (by kernel_rfl) (by kernel_rfl) (by kernel_rfl) rfl ?_
            refine d_off 24 rfl rfl rfl (by decide) pnok (by kernel_rfl) (by kernel_rfl) (by kernel_rfl) rfl ?_
            refine d_val 25 rfl pnok (by kernel_rfl) (by kernel_rfl) (by kernel_rfl) rfl (v_pick_f rfl rfl) ?_
            refine d_val 26 rfl pnok (by kernel_rfl) (by kernel_rfl) (by kernel_rfl) rfl (v_assign rfl) ?_
            refine d_done (by kernel_rfl) ?_
            refine s_st ?_ (hN1 false hF)
            exact st_le [0] (le_cons rfl (le_cons rfl (le_cons rfl (le_cons rfl le_nil)))) rfl (sub_cons 0 rfl (sub_cons 1 rfl sub_nil))
        · replace hF := ite_f h8 hF
          refine d_off 2 rfl rfl rfl (by decide) pnok (by kernel_rfl) (by kernel_rfl) (by kernel_rfl) rfl ?_
          refine d_off 3 rfl rfl rfl (by decide) pnok (by kernel_rfl) (by kernel_rfl) (by kernel_rfl) rfl ?_
          refine d_off 4 rfl rfl rfl (by decide) pnok (by kernel_rfl) (by kernel_rfl) (by kernel_rfl) rfl ?_
          refine d_val 5 rfl pnok (by kernel_rfl) (by kernel_rfl) (by kernel_rfl) rfl (v_pick_f rfl rfl) ?_
          refine d_val 6 rfl pnok (by kernel_rfl) (by kernel_rfl) (by kernel_rfl) rfl (v_move rfl) ?_
          refine d_off 7 rfl rfl rfl (by decide) pnok (by kernel_rfl) (by kernel_rfl) (by kernel_rfl) rfl ?_
          refine d_off 8 rfl rfl rfl (by decide) pnok (by kernel_rfl) (by kernel_rfl) (by kernel_rfl) rfl ?_
          refine d_off 9 rfl rfl rfl (by decide) pnok (by kernel_rfl) (by kernel_rfl) (by kernel_rfl) rfl ?_
          refine d_off 10 rfl rfl rfl (by decide) pnok (by kernel_rfl) (by kernel_rfl) (by kernel_rfl) rfl ?_
          refine d_off 11 rfl rfl rfl (by decide) pnok (by kernel_rfl) (by kernel_rfl) (by kernel_rfl) rfl ?_
          refine d_val 12 rfl pnok (by kernel_rfl) (by kernel_rfl) (by kernel_rfl) rfl (v_pick_f rfl rfl) ?_
          refine d_val 13 rfl pnok (by kernel_rfl) (by kernel_rfl) (by kernel_rfl) rfl (v_move rfl) ?_
          refine d_off 14 rfl rfl rfl (by decide) pnok (by kernel_rfl) (by kernel_rfl) (by kernel_rfl) rfl ?_
          refine d_off 15 rfl rfl rfl (by decide) pnok (by kernel_rfl) (by kernel_rfl) (by kernel_rfl) rfl ?_
          refine d_off 16 rfl rfl rfl (by decide) pnok (by kernel_rfl) (by kernel_rfl) (by kernel_rfl) rfl ?_
          refine d_off 17 rfl rfl rfl (by decide) pnok (by kernel_rfl) (by kernel_rfl) (by kernel_rfl) rfl ?_
          refine d_off 18 rfl rfl rfl (by decide) pnok (by kernel_rfl) (by kernel_rfl) (by kernel_rfl) rfl ?_
          refine d_off 19 rfl rfl rfl (by decide) pnok (by kernel_rfl) (by kernel_rfl) (by kernel_rfl) rfl ?_
          refine d_off 20 rfl rfl rfl (by decide) pnok (by kernel_rfl) (by kernel_rfl) (by kernel_rfl) rfl ?_
          refine d_off 21 rfl rfl rfl (by decide) pnok (by kernel_rfl) (by kernel_rfl) (by kernel_rfl) rfl ?_
          refine d_off 22 rfl rfl rfl (by decide) pnok (by kernel_rfl) (by kernel_rfl) (by kernel_rfl) rfl ?_
          refine d_off 23 rfl rfl rfl (by decide) pnok (by kernel_rfl) (by kernel_rfl) (by kernel_rfl) rfl ?_
          refine d_off 24 rfl rfl rfl (by decide) pnok (by kernel_rfl) (by kernel_rfl) (by kernel_rfl) rfl ?_
          refine d_val 25 rfl pnok (by kernel_rfl) (by kernel_rfl) (by kernel_rfl) rfl (v_pick_f rfl rfl) ?_
          refine d_val 26 rfl pnok (by kernel_rfl) (by kernel_rfl) (by kernel_rfl) rfl (v_assign rfl) ?_
          refine d_done (by kernel_rfl) ?_
          refine s_st ?_ (hN1 false hF)
          exact st_le [0] (le_cons rfl (le_cons rfl (le_cons rfl (le_cons rfl le_nil)))) rfl (sub_cons 0 rfl (sub_cons 1 rfl sub_nil))
      · intro t4 hF
        unfold F.law02.WordsBack_j1 at hF
        refine sat_wc ?_
        refine c_ret ?_
        cases hF
        refine s_ret1 rfl (r_tmp rfl) fun a w hs => ?_
        exact fin_sel hs [] ⟨rfl, rfl, rfl⟩ rfl sub_nil
end Go.Vc
