import Derived.Test.YtmcnanedpofeoaaAll
import Derived.Test.YtmcnanedpofeoaaTT
namespace Go.Vc
open Go Go.Proofs
theorem tri48 (c : Int) (r : Int) (hF : F.charset.digit c = some r) :
    Tri Try.prog 48 [.int .u8 c] [] [] (fun o H Φ => o = .ret (.int .i64 r) ∧ H = [] ∧ Φ = []) := by
  unfold F.charset.digit at hF
  refine tri_intro (n := 35) Try.func48 rfl Try.ntmps48 rfl fun w X => ?_
  refine c_seq ?_
  refine c_region ?_
  refine o_v (v_assign rfl) rfl ?_
  refine o_seq ?_
  refine c_seq ?_
  refine c_cut (fun E N' => F.charset.digit_j1 = some r → Sat E [(2, .int .i64 0)] [] [] N') (fun N1 hN1 => ?_) ?_
  · refine c_block ?_
    refine c_seq ?_
    refine c_cut (fun E N' => ∀ (t3 : Bool), F.charset.digit_j2 c t3 = some r → Sat E [(0, .int .u8 c), (2, .int .i64 0), (3, .bool t3)] [] [] N') (fun N5 hN5 => ?_) ?_
    · refine c_region ?_
      refine o_v (v_move rfl) rfl ?_
      refine o_v (v_bin rfl rfl rfl) rfl ?_
      refine o_v (v_move rfl) rfl ?_
      refine o_split (t := 6) rfl (fun h6 => ?_) (fun h6 => ?_)
      · replace hF := ite_t h6 hF
        refine o_on rfl rfl ?_
        refine o_v (v_move rfl) rfl ?_
        refine o_on rfl rfl ?_
        refine o_v (v_bin rfl rfl rfl) rfl ?_
        refine o_v (v_pick_t rfl rfl) rfl ?_
        refine o_v (v_assign rfl) rfl ?_
        refine o_nil ?_
        refine s_st ?_ (hN5 (decide (c ≤ 57)) hF)
        exact st_le [] (le_cons rfl (le_cons rfl (le_cons rfl le_nil))) rfl sub_nil
      · replace hF := ite_f h6 hF
        refine o_off rfl rfl (by decide) rfl ?_
        refine o_off rfl rfl (by decide) rfl ?_
        refine o_v (v_pick_f rfl rfl) rfl ?_
        refine o_v (v_assign rfl) rfl ?_
        refine o_nil ?_
        refine s_st ?_ (hN5 false hF)
        exact st_le [] (le_cons rfl (le_cons rfl (le_cons rfl le_nil))) rfl sub_nil
    · intro t3 hF
      unfold F.charset.digit_j2 at hF
      refine sat_wc ?_
      refine c_cut (fun E N' => F.charset.digit_j3 = some r → Sat E [(0, .int .u8 c), (2, .int .i64 0)] [] [] N') (fun N3 hN3 => ?_) ?_
      · refine c_cond rfl (fun h1 => ?_) (fun h1 => ?_)
        · replace hF := ite_t h1 hF
          refine c_seq ?_
          refine c_region ?_
          refine o_v (v_move rfl) rfl ?_
          refine o_v (v_bin rfl rfl rfl) rfl ?_
          refine o_v (v_convert (v := .int .i64 (IntKind.wrap .i64 (IntKind.wrap .u8 (c - 48)))) rfl (fun _ => by kernel_rfl)) rfl ?_
          refine o_v (v_assign rfl) rfl ?_
          refine o_seq ?_
          refine c_ret ?_
          cases hF
          refine s_ret1 rfl (r_tmp rfl) fun a w hs => ?_
          exact fin_sel hs [] ⟨rfl, rfl, rfl⟩ rfl sub_nil
        · replace hF := ite_f h1 hF
          refine c_seq ?_
          refine c_cut (fun E N' => ∀ (t13 : Bool), F.charset.digit_j4 c t13 = some r → Sat E [(0, .int .u8 c), (2, .int .i64 0), (3, .bool t3), (13, .bool t13)] [] [] N') (fun N5 hN5 => ?_) ?_
          · refine c_region ?_
            refine o_v (v_move rfl) rfl ?_
            refine o_v (v_bin rfl rfl rfl) rfl ?_
            refine o_v (v_move rfl) rfl ?_
            refine o_split (t := 16) rfl (fun h5 => ?_) (fun h5 => ?_)
            · replace hF := ite_t h5 hF
              refine o_on rfl rfl ?_
              refine o_v (v_move rfl) rfl ?_
              refine o_on rfl rfl ?_
              refine o_v (v_bin rfl rfl rfl) rfl ?_
              refine o_v (v_pick_t rfl rfl) rfl ?_
              refine o_v (v_assign rfl) rfl ?_
              refine o_nil ?_
              refine s_st ?_ (hN5 (decide (c ≤ 102)) hF)
              exact st_le [] (le_cons rfl (le_cons rfl (le_cons rfl (le_cons rfl le_nil)))) rfl sub_nil
            · replace hF := ite_f h5 hF
              refine o_off rfl rfl (by decide) rfl ?_
              refine o_off rfl rfl (by decide) rfl ?_
              refine o_v (v_pick_f rfl rfl) rfl ?_
              refine o_v (v_assign rfl) rfl ?_
              refine o_nil ?_
              refine s_st ?_ (hN5 false hF)
              exact st_le [] (le_cons rfl (le_cons rfl (le_cons rfl (le_cons rfl le_nil)))) rfl sub_nil
          · intro t13 hF
            unfold F.charset.digit_j4 at hF
            refine sat_wc ?_
            refine c_cond rfl (fun h2 => ?_) (fun h2 => ?_)
            · replace hF := ite_t h2 hF
              refine c_seq ?_
              refine c_region ?_
              refine o_v (v_move rfl) rfl ?_
              refine o_v (v_bin rfl rfl rfl) rfl ?_
              refine o_v (v_convert (v := .int .i64 (IntKind.wrap .i64 (IntKind.wrap .u8 (c - 97)))) rfl (fun _ => by kernel_rfl)) rfl ?_
              refine o_v (v_bin rfl rfl rfl) rfl ?_
              refine o_v (v_assign rfl) rfl ?_
              refine o_seq ?_
              refine c_ret ?_
              cases hF
              refine s_ret1 rfl (r_tmp rfl) fun a w hs => ?_
              exact fin_sel hs [] ⟨rfl, rfl, rfl⟩ rfl sub_nil
            · replace hF := ite_f h2 hF
              refine c_seq ?_
              refine c_cut (fun E N' => ∀ (t24 : Bool), F.charset.digit_j5 c t24 = some r → Sat E [(0, .int .u8 c), (2, .int .i64 0), (3, .bool t3), (13, .bool t13), (24, .bool t24)] [] [] N') (fun N5 hN5 => ?_) ?_
              · refine c_region ?_
                refine o_v (v_move rfl) rfl ?_
                refine o_v (v_bin rfl rfl rfl) rfl ?_
                refine o_v (v_move rfl) rfl ?_
                refine o_split (t := 27) rfl (fun h4 => ?_) (fun h4 => ?_)
                · replace hF := ite_t h4 hF
                  refine o_on rfl rfl ?_
                  refine o_v (v_move rfl) rfl ?_
                  refine o_on rfl rfl ?_
                  refine o_v (v_bin rfl rfl rfl) rfl ?_
                  refine o_v (v_pick_t rfl rfl) rfl ?_
                  refine o_v (v_assign rfl) rfl ?_
                  refine o_nil ?_
                  refine s_st ?_ (hN5 (decide (c ≤ 70)) hF)
                  exact st_le [] (le_cons rfl (le_cons rfl (le_cons rfl (le_cons rfl (le_cons rfl le_nil))))) rfl sub_nil
                · replace hF := ite_f h4 hF
                  refine o_off rfl rfl (by decide) rfl ?_
                  refine o_off rfl rfl (by decide) rfl ?_
                  refine o_v (v_pick_f rfl rfl) rfl ?_
                  refine o_v (v_assign rfl) rfl ?_
                  refine o_nil ?_
                  refine s_st ?_ (hN5 false hF)
                  exact st_le [] (le_cons rfl (le_cons rfl (le_cons rfl (le_cons rfl (le_cons rfl le_nil))))) rfl sub_nil
              · intro t24 hF
                unfold F.charset.digit_j5 at hF
                refine sat_wc ?_
                refine c_cond rfl (fun h3 => ?_) (fun h3 => ?_)
                · replace hF := ite_t h3 hF
                  refine c_seq ?_
                  refine c_region ?_
                  refine o_v (v_move rfl) rfl ?_
                  refine o_v (v_bin rfl rfl rfl) rfl ?_
                  refine o_v (v_convert (v := .int .i64 (IntKind.wrap .i64 (IntKind.wrap .u8 (c - 65)))) rfl (fun _ => by kernel_rfl)) rfl ?_
                  refine o_v (v_bin rfl rfl rfl) rfl ?_
                  refine o_v (v_assign rfl) rfl ?_
                  refine o_seq ?_
                  refine c_ret ?_
                  cases hF
                  refine s_ret1 rfl (r_tmp rfl) fun a w hs => ?_
                  exact fin_sel hs [] ⟨rfl, rfl, rfl⟩ rfl sub_nil
                · replace hF := ite_f h3 hF
                  refine c_skip ?_
                  refine s_st ?_ (hN3 hF)
                  exact st_le [] (le_cons rfl (le_cons rfl le_nil)) rfl sub_nil
      · intro hF
        unfold F.charset.digit_j3 at hF
        refine s_st ?_ (hN1 hF)
        exact st_le [] (le_cons rfl le_nil) rfl sub_nil
  · intro hF
    unfold F.charset.digit_j1 at hF
    refine sat_wc ?_
    refine c_seq ?_
    refine c_region ?_
    refine o_v (v_assign rfl) rfl ?_
    refine o_seq ?_
    refine c_ret ?_
    cases hF
    refine s_ret1 rfl (r_tmp rfl) fun a w hs => ?_
    exact fin_sel hs [] ⟨rfl, rfl, rfl⟩ rfl sub_nil
theorem tri47 (r_ : Charset_reader) (b : Nat) (r : Int × Fault × Charset_reader) (hF : F.charset.reader_escaped r_ = some r) :
    Tri Try.prog 47 [.pointer (some ⟨b, 0, none⟩)] [.box b 63 [.string (bs r_.text), .int .i64 r_.at_]] [] (fun o H Φ => o = .ret (.tuple #[.int .i64 r.1, .agg #[.int .i64 r.2.1.At, .int .i64 r.2.1.Code]]) ∧ H = [.box b 63 [.string (bs r.2.2.text), .int .i64 r.2.2.at_]] ∧ Φ = []) := by
  unfold F.charset.reader_escaped at hF
  refine tri_intro (n := 89) Try.func47 rfl Try.ntmps47 rfl fun w X => ?_
  refine c_seq ?_
  refine c_region ?_
  refine o_v (v_assign rfl) rfl ?_
  refine o_alloc zero38 rfl rfl fun b1 => ?_
  refine o_seq ?_
  refine c_seq ?_
  refine c_region ?_
  refine o_v (v_move rfl) rfl ?_
  refine o_v (v_nilCheck rfl) rfl ?_
  refine o_v (v_fieldAddr (v := .pointer (some ⟨b, 1, none⟩)) rfl (fun _ => by kernel_rfl)) rfl ?_
  refine o_v (v_load_box 1 ty3 rfl rfl rfl rfl rfl) rfl ?_
  refine o_v (v_build (v := .agg #[.int .i64 r_.at_, .int .i64 12]) rfl (fun _ => by kernel_rfl)) rfl ?_
  refine o_alloc zero38 rfl rfl fun b2 => ?_
  refine o_store_box 0 rfl ty38 rfl rfl rfl rfl rfl rfl rfl ?_
  refine o_seq ?_
  refine c_seq ?_
  refine c_draw (n := 11) [0, 0, 0] mixed rfl rfl ?_
  refine d_val 0 rfl pnok (by kernel_rfl) (by kernel_rfl) (by kernel_rfl) rfl (v_move rfl) ?_
  refine d_val 1 rfl pnok (by kernel_rfl) (by kernel_rfl) (by kernel_rfl) rfl (v_nilCheck rfl) ?_
  refine d_val 2 rfl pnok (by kernel_rfl) (by kernel_rfl) (by kernel_rfl) rfl (v_fieldAddr (v := .pointer (some ⟨b, 0, none⟩)) rfl (fun _ => by kernel_rfl)) ?_
  refine d_val 3 rfl pnok (by kernel_rfl) (by kernel_rfl) (by kernel_rfl) rfl (v_load_box 2 ty9 rfl rfl rfl rfl rfl) ?_
  refine d_val 4 rfl pnok (by kernel_rfl) (by kernel_rfl) (by kernel_rfl) rfl (v_move rfl) ?_
  refine d_val 5 rfl pnok (by kernel_rfl) (by kernel_rfl) (by kernel_rfl) rfl (v_nilCheck rfl) ?_
  refine d_val 6 rfl pnok (by kernel_rfl) (by kernel_rfl) (by kernel_rfl) rfl (v_fieldAddr (v := .pointer (some ⟨b, 1, none⟩)) rfl (fun _ => by kernel_rfl)) ?_
  refine d_val 7 rfl pnok (by kernel_rfl) (by kernel_rfl) (by kernel_rfl) rfl (v_load_box 2 ty3 rfl rfl rfl rfl rfl) ?_
  refine d_val 8 rfl pnok (by kernel_rfl) (by kernel_rfl) (by kernel_rfl) rfl (v_bin rfl rfl rfl) ?_
  refine ite_some hF fun h1 hF => ?_
  refine d_val 9 rfl pnok (by kernel_rfl) (by kernel_rfl) (by kernel_rfl) rfl (v_strslice Try.underlying9 rfl rfl rfl rfl rfl h1) ?_
  refine d_val 10 rfl pnok (by kernel_rfl) (by kernel_rfl) (by kernel_rfl) rfl (v_assign rfl) ?_
  refine d_done_seq (by kernel_rfl) ?_
  refine c_seq ?_
  refine c_seq ?_
  refine c_region ?_
  refine o_v (v_move rfl) rfl ?_
  refine o_v (v_streq rfl rfl) rfl ?_
  refine o_seq ?_
  refine c_cond rfl (fun h2 => ?_) (fun h2 => ?_)
  · replace hF := ite_t h2 hF
    refine c_seq ?_
    refine c_draw (n := 3) [0, 1] mixed rfl rfl ?_
    refine d_val 0 rfl pnok (by kernel_rfl) (by kernel_rfl) (by kernel_rfl) rfl (v_load_box 0 ty38 rfl rfl rfl rfl rfl) ?_
    refine d_val 1 rfl pnok (by kernel_rfl) (by kernel_rfl) (by kernel_rfl) rfl (v_assign rfl) ?_
    refine d_one 2 rfl (by kernel_rfl) ?_
    refine o_store_box 1 rfl ty38 rfl rfl rfl rfl rfl rfl rfl ?_
    refine d_next [0, 1] 0 rfl rfl ?_
    refine d_done_seq (by kernel_rfl) ?_
    refine c_ret ?_
    cases hF
    refine s_ret2 rfl (r_tmp rfl) (r_cell 1 rfl ty38 rfl rfl rfl rfl) fun a w hs => ?_
    exact fin_sel hs [2] ⟨rfl, rfl, rfl⟩ rfl sub_nil
  · replace hF := ite_f h2 hF
    refine c_skip ?_
    refine sat_wc ?_
    refine c_seq ?_
    refine c_region ?_
    refine o_v (v_move rfl) rfl ?_
    refine o_v (v_nilCheck rfl) rfl ?_
    refine o_v (v_fieldAddr (v := .pointer (some ⟨b, 1, none⟩)) rfl (fun _ => by kernel_rfl)) rfl ?_
    refine o_v (v_load_box 2 ty3 rfl rfl rfl rfl rfl) rfl ?_
    refine o_v (v_bin rfl rfl rfl) rfl ?_
    refine o_v (v_nilCheck rfl) rfl ?_
    refine o_v (v_fieldAddr (v := .pointer (some ⟨b, 1, none⟩)) rfl (fun _ => by kernel_rfl)) rfl ?_
    refine o_store_box 2 rfl ty3 rfl rfl rfl rfl rfl rfl rfl ?_
    refine o_seq ?_
    refine c_seq ?_
    refine c_seq ?_
    refine c_region ?_
    refine o_v (v_move rfl) rfl ?_
    refine ite_some hF fun h3 hF => ?_
    refine o_v (v_sindex Try.underlying9 rfl rfl h3) rfl ?_
    refine o_seq ?_
    refine c_cut (fun E N' => F.charset.reader_escaped_j1 r_ = some r → Sat E [(0, .pointer (some ⟨b, 0, none⟩)), (2, .int .i64 0), (3, .pointer (some ⟨b1, 0, none⟩)), (4, .pointer (some ⟨b2, 0, none⟩)), (5, .string (bs (sub r_.text (IntKind.wrap .i64 (r_.at_ + 1)) (r_.text.length : Int)))), (22, .bool ((sub r_.text (IntKind.wrap .i64 (r_.at_ + 1)) (r_.text.length : Int)) == ([] : List UInt8)))] [.box b2 38 [.int .i64 r_.at_, .int .i64 12], .box b1 38 [.int .i64 0, .int .i64 0], .box b 63 [.string (bs r_.text), .int .i64 (IntKind.wrap .i64 (r_.at_ + 2))]] [] N') (fun N1 hN1 => ?_) ?_
    · refine c_block ?_
      refine c_seq ?_
      refine c_region ?_
      refine o_v (v_bin rfl rfl rfl) rfl ?_
      refine o_v (v_assign rfl) rfl ?_
      refine o_seq ?_
      refine c_cond rfl (fun h4 => ?_) (fun h4 => ?_)
      · replace hF := ite_t h4 hF
        refine c_seq ?_
        refine c_region ?_
        refine o_v (v_build (v := .agg #[.int .i64 0, .int .i64 0]) rfl (fun _ => by kernel_rfl)) rfl ?_
        refine o_v (v_assign rfl) rfl ?_
        refine o_store_box 1 rfl ty38 rfl rfl rfl rfl rfl rfl rfl ?_
        refine o_seq ?_
        refine c_ret ?_
        cases hF
        refine s_ret2 rfl (r_tmp rfl) (r_cell 1 rfl ty38 rfl rfl rfl rfl) fun a w hs => ?_
        exact fin_sel hs [2] ⟨rfl, rfl, rfl⟩ rfl sub_nil
      · replace hF := ite_f h4 hF
        refine c_seq ?_
        refine c_region ?_
        refine o_v (v_bin rfl rfl rfl) rfl ?_
        refine o_v (v_assign rfl) rfl ?_
        refine o_seq ?_
        refine c_cut (fun E N' => F.charset.reader_escaped_j2 r_ = some r → Sat E [(0, .pointer (some ⟨b, 0, none⟩)), (2, .int .i64 0), (3, .pointer (some ⟨b1, 0, none⟩)), (4, .pointer (some ⟨b2, 0, none⟩)), (5, .string (bs (sub r_.text (IntKind.wrap .i64 (r_.at_ + 1)) (r_.text.length : Int)))), (22, .bool ((sub r_.text (IntKind.wrap .i64 (r_.at_ + 1)) (r_.text.length : Int)) == ([] : List UInt8))), (32, .int .u8 (sAt (sub r_.text (IntKind.wrap .i64 (r_.at_ + 1)) (r_.text.length : Int)) 0)), (33, .bool ((sAt (sub r_.text (IntKind.wrap .i64 (r_.at_ + 1)) (r_.text.length : Int)) 0) == 110))] [.box b2 38 [.int .i64 r_.at_, .int .i64 12], .box b1 38 [.int .i64 0, .int .i64 0], .box b 63 [.string (bs r_.text), .int .i64 (IntKind.wrap .i64 (r_.at_ + 2))]] [] N') (fun N2 hN2 => ?_) ?_
        · refine c_cond rfl (fun h5 => ?_) (fun h5 => ?_)
          · replace hF := ite_t h5 hF
            refine c_seq ?_
            refine c_region ?_
            refine o_v (v_build (v := .agg #[.int .i64 0, .int .i64 0]) rfl (fun _ => by kernel_rfl)) rfl ?_
            refine o_v (v_assign rfl) rfl ?_
            refine o_store_box 1 rfl ty38 rfl rfl rfl rfl rfl rfl rfl ?_
            refine o_seq ?_
            refine c_ret ?_
            cases hF
            refine s_ret2 rfl (r_tmp rfl) (r_cell 1 rfl ty38 rfl rfl rfl rfl) fun a w hs => ?_
            exact fin_sel hs [2] ⟨rfl, rfl, rfl⟩ rfl sub_nil
          · replace hF := ite_f h5 hF
            refine c_seq ?_
            refine c_region ?_
            refine o_v (v_bin rfl rfl rfl) rfl ?_
            refine o_v (v_assign rfl) rfl ?_
            refine o_seq ?_
            refine c_cond rfl (fun h6 => ?_) (fun h6 => ?_)
            · replace hF := ite_t h6 hF
              refine c_seq ?_
              refine c_region ?_
              refine o_v (v_build (v := .agg #[.int .i64 0, .int .i64 0]) rfl (fun _ => by kernel_rfl)) rfl ?_
              refine o_v (v_assign rfl) rfl ?_
              refine o_store_box 1 rfl ty38 rfl rfl rfl rfl rfl rfl rfl ?_
              refine o_seq ?_
              refine c_ret ?_
              cases hF
              refine s_ret2 rfl (r_tmp rfl) (r_cell 1 rfl ty38 rfl rfl rfl rfl) fun a w hs => ?_
              exact fin_sel hs [2] ⟨rfl, rfl, rfl⟩ rfl sub_nil
            · replace hF := ite_f h6 hF
              refine c_seq ?_
              refine c_region ?_
              refine o_v (v_bin rfl rfl rfl) rfl ?_
              refine o_v (v_assign rfl) rfl ?_
              refine o_seq ?_
              refine c_cond rfl (fun h7 => ?_) (fun h7 => ?_)
              · replace hF := ite_t h7 hF
                refine c_seq ?_
                refine c_region ?_
                refine o_v (v_build (v := .agg #[.int .i64 0, .int .i64 0]) rfl (fun _ => by kernel_rfl)) rfl ?_
                refine o_v (v_assign rfl) rfl ?_
                refine o_store_box 1 rfl ty38 rfl rfl rfl rfl rfl rfl rfl ?_
                refine o_seq ?_
                refine c_ret ?_
                cases hF
                refine s_ret2 rfl (r_tmp rfl) (r_cell 1 rfl ty38 rfl rfl rfl rfl) fun a w hs => ?_
                exact fin_sel hs [2] ⟨rfl, rfl, rfl⟩ rfl sub_nil
              · replace hF := ite_f h7 hF
                refine c_seq ?_
                refine c_seq ?_
                refine c_region ?_
                refine o_v (v_bin rfl rfl rfl) rfl ?_
                refine o_v (v_assign rfl) rfl ?_
                refine o_seq ?_
                refine c_cut (fun E N' => ∀ (t45 : Bool), F.charset.reader_escaped_j3 r_ t45 = some r → Sat E [(0, .pointer (some ⟨b, 0, none⟩)), (2, .int .i64 0), (3, .pointer (some ⟨b1, 0, none⟩)), (4, .pointer (some ⟨b2, 0, none⟩)), (5, .string (bs (sub r_.text (IntKind.wrap .i64 (r_.at_ + 1)) (r_.text.length : Int)))), (22, .bool ((sub r_.text (IntKind.wrap .i64 (r_.at_ + 1)) (r_.text.length : Int)) == ([] : List UInt8))), (32, .int .u8 (sAt (sub r_.text (IntKind.wrap .i64 (r_.at_ + 1)) (r_.text.length : Int)) 0)), (33, .bool ((sAt (sub r_.text (IntKind.wrap .i64 (r_.at_ + 1)) (r_.text.length : Int)) 0) == 110)), (36, .bool ((sAt (sub r_.text (IntKind.wrap .i64 (r_.at_ + 1)) (r_.text.length : Int)) 0) == 116)), (39, .bool ((sAt (sub r_.text (IntKind.wrap .i64 (r_.at_ + 1)) (r_.text.length : Int)) 0) == 114)), (42, .bool ((sAt (sub r_.text (IntKind.wrap .i64 (r_.at_ + 1)) (r_.text.length : Int)) 0) == 115)), (45, .bool t45)] [.box b2 38 [.int .i64 r_.at_, .int .i64 12], .box b1 38 [.int .i64 0, .int .i64 0], .box b 63 [.string (bs r_.text), .int .i64 (IntKind.wrap .i64 (r_.at_ + 2))]] [] N') (fun N5 hN5 => ?_) ?_
                · refine c_cond rfl (fun h21 => ?_) (fun h21 => ?_)
                  · replace hF := ite_t h21 hF
                    refine c_skip ?_
                    refine s_st ?_ (hN5 ((sAt (sub r_.text (IntKind.wrap .i64 (r_.at_ + 1)) (r_.text.length : Int)) 0) == 91) hF)
                    exact st_le [0, 0, 0] (le_cons rfl (le_cons rfl (le_cons rfl (le_cons rfl (le_cons rfl (le_cons rfl (le_cons rfl (le_cons rfl (le_cons rfl (le_cons rfl (le_cons rfl (le_cons rfl le_nil)))))))))))) rfl sub_nil
                  · replace hF := ite_f h21 hF
                    refine c_seq ?_
                    refine c_region ?_
                    refine o_v (v_bin rfl rfl rfl) rfl ?_
                    refine o_v (v_assign rfl) rfl ?_
                    refine o_seq ?_
                    refine c_cond rfl (fun h22 => ?_) (fun h22 => ?_)
                    · replace hF := ite_t h22 hF
                      refine c_skip ?_
                      refine s_st ?_ (hN5 ((sAt (sub r_.text (IntKind.wrap .i64 (r_.at_ + 1)) (r_.text.length : Int)) 0) == 93) hF)
                      exact st_le [0, 0, 0] (le_cons rfl (le_cons rfl (le_cons rfl (le_cons rfl (le_cons rfl (le_cons rfl (le_cons rfl (le_cons rfl (le_cons rfl (le_cons rfl (le_cons rfl (le_cons rfl le_nil)))))))))))) rfl sub_nil
                    · replace hF := ite_f h22 hF
                      refine c_seq ?_
                      refine c_region ?_
                      refine o_v (v_bin rfl rfl rfl) rfl ?_
                      refine o_v (v_assign rfl) rfl ?_
                      refine o_seq ?_
                      refine c_cut (fun E N' => ∀ (t451 : Bool), F.charset.reader_escaped_j6 r_ t451 = some r → Sat E [(0, .pointer (some ⟨b, 0, none⟩)), (2, .int .i64 0), (3, .pointer (some ⟨b1, 0, none⟩)), (4, .pointer (some ⟨b2, 0, none⟩)), (5, .string (bs (sub r_.text (IntKind.wrap .i64 (r_.at_ + 1)) (r_.text.length : Int)))), (22, .bool ((sub r_.text (IntKind.wrap .i64 (r_.at_ + 1)) (r_.text.length : Int)) == ([] : List UInt8))), (32, .int .u8 (sAt (sub r_.text (IntKind.wrap .i64 (r_.at_ + 1)) (r_.text.length : Int)) 0)), (33, .bool ((sAt (sub r_.text (IntKind.wrap .i64 (r_.at_ + 1)) (r_.text.length : Int)) 0) == 110)), (36, .bool ((sAt (sub r_.text (IntKind.wrap .i64 (r_.at_ + 1)) (r_.text.length : Int)) 0) == 116)), (39, .bool ((sAt (sub r_.text (IntKind.wrap .i64 (r_.at_ + 1)) (r_.text.length : Int)) 0) == 114)), (42, .bool ((sAt (sub r_.text (IntKind.wrap .i64 (r_.at_ + 1)) (r_.text.length : Int)) 0) == 115)), (45, .bool t451)] [.box b2 38 [.int .i64 r_.at_, .int .i64 12], .box b1 38 [.int .i64 0, .int .i64 0], .box b 63 [.string (bs r_.text), .int .i64 (IntKind.wrap .i64 (r_.at_ + 2))]] [] N') (fun N6 hN6 => ?_) ?_
                      · refine c_cond rfl (fun h23 => ?_) (fun h23 => ?_)
                        · replace hF := ite_t h23 hF
                          refine c_skip ?_
                          refine s_st ?_ (hN6 ((sAt (sub r_.text (IntKind.wrap .i64 (r_.at_ + 1)) (r_.text.length : Int)) 0) == 92) hF)
                          exact st_le [0, 0, 0] (le_cons rfl (le_cons rfl (le_cons rfl (le_cons rfl (le_cons rfl (le_cons rfl (le_cons rfl (le_cons rfl (le_cons rfl (le_cons rfl (le_cons rfl (le_cons rfl le_nil)))))))))))) rfl sub_nil
                        · replace hF := ite_f h23 hF
                          refine c_seq ?_
                          refine c_region ?_
                          refine o_v (v_bin rfl rfl rfl) rfl ?_
                          refine o_v (v_assign rfl) rfl ?_
                          refine o_seq ?_
                          refine c_cond rfl (fun h24 => ?_) (fun h24 => ?_)
                          · replace hF := ite_t h24 hF
                            refine c_skip ?_
                            refine s_st ?_ (hN6 ((sAt (sub r_.text (IntKind.wrap .i64 (r_.at_ + 1)) (r_.text.length : Int)) 0) == 45) hF)
                            exact st_le [0, 0, 0] (le_cons rfl (le_cons rfl (le_cons rfl (le_cons rfl (le_cons rfl (le_cons rfl (le_cons rfl (le_cons rfl (le_cons rfl (le_cons rfl (le_cons rfl (le_cons rfl le_nil)))))))))))) rfl sub_nil
                          · replace hF := ite_f h24 hF
                            refine c_region ?_
                            refine o_v (v_bin rfl rfl rfl) rfl ?_
                            refine o_v (v_assign rfl) rfl ?_
                            refine o_nil ?_
                            refine s_st ?_ (hN6 ((sAt (sub r_.text (IntKind.wrap .i64 (r_.at_ + 1)) (r_.text.length : Int)) 0) == 94) hF)
                            exact st_le [0, 0, 0] (le_cons rfl (le_cons rfl (le_cons rfl (le_cons rfl (le_cons rfl (le_cons rfl (le_cons rfl (le_cons rfl (le_cons rfl (le_cons rfl (le_cons rfl (le_cons rfl le_nil)))))))))))) rfl sub_nil
                      · intro t451 hF
                        unfold F.charset.reader_escaped_j6 at hF
                        refine s_st ?_ (hN5 t451 hF)
                        exact st_le [0, 0, 0] (le_cons rfl (le_cons rfl (le_cons rfl (le_cons rfl (le_cons rfl (le_cons rfl (le_cons rfl (le_cons rfl (le_cons rfl (le_cons rfl (le_cons rfl (le_cons rfl le_nil)))))))))))) rfl sub_nil
                · intro t45 hF
                  unfold F.charset.reader_escaped_j3 at hF
                  refine sat_wc ?_
                  refine c_cut (fun E N' => F.charset.reader_escaped_j4 r_ = some r → Sat E [(0, .pointer (some ⟨b, 0, none⟩)), (2, .int .i64 0), (3, .pointer (some ⟨b1, 0, none⟩)), (4, .pointer (some ⟨b2, 0, none⟩)), (5, .string (bs (sub r_.text (IntKind.wrap .i64 (r_.at_ + 1)) (r_.text.length : Int)))), (22, .bool ((sub r_.text (IntKind.wrap .i64 (r_.at_ + 1)) (r_.text.length : Int)) == ([] : List UInt8))), (32, .int .u8 (sAt (sub r_.text (IntKind.wrap .i64 (r_.at_ + 1)) (r_.text.length : Int)) 0)), (33, .bool ((sAt (sub r_.text (IntKind.wrap .i64 (r_.at_ + 1)) (r_.text.length : Int)) 0) == 110)), (36, .bool ((sAt (sub r_.text (IntKind.wrap .i64 (r_.at_ + 1)) (r_.text.length : Int)) 0) == 116)), (39, .bool ((sAt (sub r_.text (IntKind.wrap .i64 (r_.at_ + 1)) (r_.text.length : Int)) 0) == 114)), (42, .bool ((sAt (sub r_.text (IntKind.wrap .i64 (r_.at_ + 1)) (r_.text.length : Int)) 0) == 115)), (45, .bool t45)] [.box b2 38 [.int .i64 r_.at_, .int .i64 12], .box b1 38 [.int .i64 0, .int .i64 0], .box b 63 [.string (bs r_.text), .int .i64 (IntKind.wrap .i64 (r_.at_ + 2))]] [] N') (fun N4 hN4 => ?_) ?_
                  · refine c_cond rfl (fun h8 => ?_) (fun h8 => ?_)
                    · replace hF := ite_t h8 hF
                      refine c_seq ?_
                      refine c_region ?_
                      refine o_v (v_move rfl) rfl ?_
                      refine o_v (v_sindex Try.underlying9 rfl rfl h3) rfl ?_
                      refine o_v (v_convert (v := .int .i64 (IntKind.wrap .i64 (sAt (sub r_.text (IntKind.wrap .i64 (r_.at_ + 1)) (r_.text.length : Int)) 0))) rfl (fun _ => by kernel_rfl)) rfl ?_
                      refine o_v (v_build (v := .agg #[.int .i64 0, .int .i64 0]) rfl (fun _ => by kernel_rfl)) rfl ?_
                      refine o_v (v_assign rfl) rfl ?_
                      refine o_store_box 1 rfl ty38 rfl rfl rfl rfl rfl rfl rfl ?_
                      refine o_seq ?_
                      refine c_ret ?_
                      cases hF
                      refine s_ret2 rfl (r_tmp rfl) (r_cell 1 rfl ty38 rfl rfl rfl rfl) fun a w hs => ?_
                      exact fin_sel hs [2] ⟨rfl, rfl, rfl⟩ rfl sub_nil
                    · replace hF := ite_f h8 hF
                      refine c_seq ?_
                      refine c_region ?_
                      refine o_v (v_bin rfl rfl rfl) rfl ?_
                      refine o_v (v_assign rfl) rfl ?_
                      refine o_seq ?_
                      refine c_cond rfl (fun h9 => ?_) (fun h9 => ?_)
                      · replace hF := ite_t h9 hF
                        refine c_seq ?_
                        refine c_cut (fun E N' => ∀ (t71 : Bool), F.charset.reader_escaped_j5 r_ t71 = some r → Sat E [(0, .pointer (some ⟨b, 0, none⟩)), (2, .int .i64 0), (3, .pointer (some ⟨b1, 0, none⟩)), (4, .pointer (some ⟨b2, 0, none⟩)), (5, .string (bs (sub r_.text (IntKind.wrap .i64 (r_.at_ + 1)) (r_.text.length : Int)))), (22, .bool ((sub r_.text (IntKind.wrap .i64 (r_.at_ + 1)) (r_.text.length : Int)) == ([] : List UInt8))), (32, .int .u8 (sAt (sub r_.text (IntKind.wrap .i64 (r_.at_ + 1)) (r_.text.length : Int)) 0)), (33, .bool ((sAt (sub r_.text (IntKind.wrap .i64 (r_.at_ + 1)) (r_.text.length : Int)) 0) == 110)), (36, .bool ((sAt (sub r_.text (IntKind.wrap .i64 (r_.at_ + 1)) (r_.text.length : Int)) 0) == 116)), (39, .bool ((sAt (sub r_.text (IntKind.wrap .i64 (r_.at_ + 1)) (r_.text.length : Int)) 0) == 114)), (42, .bool ((sAt (sub r_.text (IntKind.wrap .i64 (r_.at_ + 1)) (r_.text.length : Int)) 0) == 115)), (45, .bool t45), (55, .bool ((sAt (sub r_.text (IntKind.wrap .i64 (r_.at_ + 1)) (r_.text.length : Int)) 0) == 120)), (71, .bool t71)] [.box b2 38 [.int .i64 r_.at_, .int .i64 12], .box b1 38 [.int .i64 0, .int .i64 0], .box b 63 [.string (bs r_.text), .int .i64 (IntKind.wrap .i64 (r_.at_ + 2))]] [] N') (fun N5 hN5 => ?_) ?_
                        · refine c_region ?_
                          refine o_v (v_move rfl) rfl ?_
                          refine o_v (v_len_str Try.underlying9 rfl) rfl ?_
                          refine o_v (v_bin rfl rfl rfl) rfl ?_
                          refine o_v (v_move rfl) rfl ?_
                          refine o_split (t := 60) rfl (fun h15 => ?_) (fun h15 => ?_)
                          · replace hF := ite_t h15 hF
                            refine o_on rfl rfl ?_
                            refine o_v (v_move rfl) rfl ?_
                            refine o_on rfl rfl ?_
                            refine ite_some hF fun h16 hF => ?_
                            refine o_v (v_sindex Try.underlying9 rfl rfl h16) rfl ?_
                            refine o_on rfl rfl ?_
                            obtain ⟨v2, h17, hF⟩ := bd hF
                            refine o_callSB call48 rfl lent_nil (tri48 (sAt (sub r_.text (IntKind.wrap .i64 (r_.at_ + 1)) (r_.text.length : Int)) 1) v2 h17) rfl ?_
                            refine o_on rfl rfl ?_
                            refine o_v (v_bin rfl rfl rfl) rfl ?_
                            refine o_v (v_pick_t rfl rfl) rfl ?_
                            refine o_v (v_move rfl) rfl ?_
                            refine o_split (t := 66) rfl (fun h18 => ?_) (fun h18 => ?_)
                            · replace hF := ite_t h18 hF
                              refine o_on rfl rfl ?_
                              refine o_v (v_move rfl) rfl ?_
                              refine o_on rfl rfl ?_
                              refine ite_some hF fun h19 hF => ?_
                              refine o_v (v_sindex Try.underlying9 rfl rfl h19) rfl ?_
                              refine o_on rfl rfl ?_
                              obtain ⟨v3, h20, hF⟩ := bd hF
                              refine o_callSB call48 rfl lent_nil (tri48 (sAt (sub r_.text (IntKind.wrap .i64 (r_.at_ + 1)) (r_.text.length : Int)) 2) v3 h20) rfl ?_
                              refine o_on rfl rfl ?_
                              refine o_v (v_bin rfl rfl rfl) rfl ?_
                              refine o_v (v_pick_t rfl rfl) rfl ?_
                              refine o_nil ?_
                              refine s_st ?_ (hN5 (decide (0 ≤ v3)) hF)
                              exact st_le [0, 0, 0] (le_cons rfl (le_cons rfl (le_cons rfl (le_cons rfl (le_cons rfl (le_cons rfl (le_cons rfl (le_cons rfl (le_cons rfl (le_cons rfl (le_cons rfl (le_cons rfl (le_cons rfl (le_cons rfl le_nil)))))))))))))) rfl sub_nil
                            · replace hF := ite_f h18 hF
                              refine o_off rfl rfl (by decide) rfl ?_
                              refine o_off rfl rfl (by decide) rfl ?_
                              refine o_off rfl rfl (by decide) rfl ?_
                              refine o_off rfl rfl (by decide) rfl ?_
                              refine o_v (v_pick_f rfl rfl) rfl ?_
                              refine o_nil ?_
                              refine s_st ?_ (hN5 false hF)
                              exact st_le [0, 0, 0] (le_cons rfl (le_cons rfl (le_cons rfl (le_cons rfl (le_cons rfl (le_cons rfl (le_cons rfl (le_cons rfl (le_cons rfl (le_cons rfl (le_cons rfl (le_cons rfl (le_cons rfl (le_cons rfl le_nil)))))))))))))) rfl sub_nil
                          · replace hF := ite_f h15 hF
                            refine o_off rfl rfl (by decide) rfl ?_
                            refine o_off rfl rfl (by decide) rfl ?_
                            refine o_off rfl rfl (by decide) rfl ?_
                            refine o_off rfl rfl (by decide) rfl ?_
                            refine o_v (v_pick_f rfl rfl) rfl ?_
                            refine o_v (v_move rfl) rfl ?_
                            refine o_off rfl rfl (by decide) rfl ?_
                            refine o_off rfl rfl (by decide) rfl ?_
                            refine o_off rfl rfl (by decide) rfl ?_
                            refine o_off rfl rfl (by decide) rfl ?_
                            refine o_v (v_pick_f rfl rfl) rfl ?_
                            refine o_nil ?_
                            refine s_st ?_ (hN5 false hF)
                            exact st_le [0, 0, 0] (le_cons rfl (le_cons rfl (le_cons rfl (le_cons rfl (le_cons rfl (le_cons rfl (le_cons rfl (le_cons rfl (le_cons rfl (le_cons rfl (le_cons rfl (le_cons rfl (le_cons rfl (le_cons rfl le_nil)))))))))))))) rfl sub_nil
                        · intro t71 hF
                          unfold F.charset.reader_escaped_j5 at hF
                          refine sat_wc ?_
                          refine c_cond rfl (fun h10 => ?_) (fun h10 => ?_)
                          · replace hF := ite_t h10 hF
                            refine c_seq ?_
                            refine c_region ?_
                            refine o_v (v_move rfl) rfl ?_
                            refine o_v (v_nilCheck rfl) rfl ?_
                            refine o_v (v_fieldAddr (v := .pointer (some ⟨b, 1, none⟩)) rfl (fun _ => by kernel_rfl)) rfl ?_
                            refine o_v (v_load_box 2 ty3 rfl rfl rfl rfl rfl) rfl ?_
                            refine o_v (v_bin rfl rfl rfl) rfl ?_
                            refine o_v (v_nilCheck rfl) rfl ?_
                            refine o_v (v_fieldAddr (v := .pointer (some ⟨b, 1, none⟩)) rfl (fun _ => by kernel_rfl)) rfl ?_
                            refine o_store_box 2 rfl ty3 rfl rfl rfl rfl rfl rfl rfl ?_
                            refine o_seq ?_
                            refine c_seq ?_
                            refine c_draw (n := 11) [0, 1] mixed rfl rfl ?_
                            refine d_val 0 rfl pnok (by kernel_rfl) (by kernel_rfl) (by kernel_rfl) rfl (v_move rfl) ?_
                            refine ite_some hF fun h11 hF => ?_
                            refine d_val 1 rfl pnok (by kernel_rfl) (by kernel_rfl) (by kernel_rfl) rfl (v_sindex Try.underlying9 rfl rfl h11) ?_
                            refine d_val 4 rfl pnok (by kernel_rfl) (by kernel_rfl) (by kernel_rfl) rfl (v_move rfl) ?_
                            refine ite_some hF fun h12 hF => ?_
                            refine d_val 5 rfl pnok (by kernel_rfl) (by kernel_rfl) (by kernel_rfl) rfl (v_sindex Try.underlying9 rfl rfl h12) ?_
                            refine d_val 8 rfl pnok (by kernel_rfl) (by kernel_rfl) (by kernel_rfl) rfl (v_build (v := .agg #[.int .i64 0, .int .i64 0]) rfl (fun _ => by kernel_rfl)) ?_
                            refine d_one 2 rfl (by kernel_rfl) ?_
                            obtain ⟨v, h13, hF⟩ := bd hF
                            refine o_callSB call48 rfl lent_nil (tri48 (sAt (sub r_.text (IntKind.wrap .i64 (r_.at_ + 1)) (r_.text.length : Int)) 1) v h13) rfl ?_
                            refine d_next [0, 1] 0 rfl rfl ?_
                            refine d_val 3 rfl pnok (by kernel_rfl) (by kernel_rfl) (by kernel_rfl) rfl (v_bin rfl rfl rfl) ?_
                            refine d_one 6 rfl (by kernel_rfl) ?_
                            obtain ⟨v1, h14, hF⟩ := bd hF
                            refine o_callSB call48 rfl lent_nil (tri48 (sAt (sub r_.text (IntKind.wrap .i64 (r_.at_ + 1)) (r_.text.length : Int)) 2) v1 h14) rfl ?_
                            refine d_next [0, 1] 0 rfl rfl ?_
                            refine d_val 7 rfl pnok (by kernel_rfl) (by kernel_rfl) (by kernel_rfl) rfl (v_bin rfl rfl rfl) ?_
                            refine d_val 9 rfl pnok (by kernel_rfl) (by kernel_rfl) (by kernel_rfl) rfl (v_assign rfl) ?_
                            refine d_one 10 rfl (by kernel_rfl) ?_
                            refine o_store_box 1 rfl ty38 rfl rfl rfl rfl rfl rfl rfl ?_
                            refine d_next [0, 1] 0 rfl rfl ?_
                            refine d_done_seq (by kernel_rfl) ?_
                            refine c_ret ?_
                            cases hF
                            refine s_ret2 rfl (r_tmp rfl) (r_cell 1 rfl ty38 rfl rfl rfl rfl) fun a w hs => ?_
                            exact fin_sel hs [2] ⟨rfl, rfl, rfl⟩ rfl sub_nil
                          · replace hF := ite_f h10 hF
                            refine c_skip ?_
                            refine s_st ?_ (hN4 hF)
                            exact st_le [0, 0, 0] (le_cons rfl (le_cons rfl (le_cons rfl (le_cons rfl (le_cons rfl (le_cons rfl (le_cons rfl (le_cons rfl (le_cons rfl (le_cons rfl (le_cons rfl (le_cons rfl le_nil)))))))))))) rfl sub_nil
                      · replace hF := ite_f h9 hF
                        refine c_skip ?_
                        refine s_st ?_ (hN4 hF)
                        exact st_le [0, 0, 0] (le_cons rfl (le_cons rfl (le_cons rfl (le_cons rfl (le_cons rfl (le_cons rfl (le_cons rfl (le_cons rfl (le_cons rfl (le_cons rfl (le_cons rfl (le_cons rfl le_nil)))))))))))) rfl sub_nil
                  · intro hF
                    unfold F.charset.reader_escaped_j4 at hF
                    refine s_st ?_ (hN2 hF)
                    exact st_le [0, 0, 0] (le_cons rfl (le_cons rfl (le_cons rfl (le_cons rfl (le_cons rfl (le_cons rfl (le_cons rfl (le_cons rfl le_nil)))))))) rfl sub_nil
        · intro hF
          unfold F.charset.reader_escaped_j2 at hF
          refine s_st ?_ (hN1 hF)
          exact st_le [0, 0, 0] (le_cons rfl (le_cons rfl (le_cons rfl (le_cons rfl (le_cons rfl (le_cons rfl le_nil)))))) rfl sub_nil
    · intro hF
      unfold F.charset.reader_escaped_j1 at hF
      refine sat_wc ?_
      refine c_seq ?_
      refine c_draw (n := 3) [0, 1] mixed rfl rfl ?_
      refine d_val 0 rfl pnok (by kernel_rfl) (by kernel_rfl) (by kernel_rfl) rfl (v_load_box 0 ty38 rfl rfl rfl rfl rfl) ?_
      refine d_val 1 rfl pnok (by kernel_rfl) (by kernel_rfl) (by kernel_rfl) rfl (v_assign rfl) ?_
      refine d_one 2 rfl (by kernel_rfl) ?_
      refine o_store_box 1 rfl ty38 rfl rfl rfl rfl rfl rfl rfl ?_
      refine d_next [0, 1] 0 rfl rfl ?_
      refine d_done_seq (by kernel_rfl) ?_
      refine c_ret ?_
      cases hF
      refine s_ret2 rfl (r_tmp rfl) (r_cell 1 rfl ty38 rfl rfl rfl rfl) fun a w hs => ?_
      exact fin_sel hs [2] ⟨rfl, rfl, rfl⟩ rfl sub_nil
theorem tri45 (r_ : Charset_reader) (b : Nat) (r : Int × Fault × Charset_reader) (hF : F.charset.reader_char r_ = some r) :
    Tri Try.prog 45 [.pointer (some ⟨b, 0, none⟩)] [.box b 63 [.string (bs r_.text), .int .i64 r_.at_]] [] (fun o H Φ => o = .ret (.tuple #[.int .i64 r.1, .agg #[.int .i64 r.2.1.At, .int .i64 r.2.1.Code]]) ∧ H = [.box b 63 [.string (bs r.2.2.text), .int .i64 r.2.2.at_]] ∧ Φ = []) := by
  unfold F.charset.reader_char at hF
  refine tri_intro (n := 73) Try.func45 rfl Try.ntmps45 rfl fun w X => ?_
  refine c_seq ?_
  refine c_region ?_
  refine o_v (v_assign rfl) rfl ?_
  refine o_alloc zero38 rfl rfl fun b1 => ?_
  refine o_seq ?_
  refine c_seq ?_
  refine c_seq ?_
  refine c_draw (n := 10) [0, 0] mixed rfl rfl ?_
  refine d_val 0 rfl pnok (by kernel_rfl) (by kernel_rfl) (by kernel_rfl) rfl (v_move rfl) ?_
  refine d_val 1 rfl pnok (by kernel_rfl) (by kernel_rfl) (by kernel_rfl) rfl (v_nilCheck rfl) ?_
  refine d_val 2 rfl pnok (by kernel_rfl) (by kernel_rfl) (by kernel_rfl) rfl (v_fieldAddr (v := .pointer (some ⟨b, 1, none⟩)) rfl (fun _ => by kernel_rfl)) ?_
  refine d_val 3 rfl pnok (by kernel_rfl) (by kernel_rfl) (by kernel_rfl) rfl (v_load_box 1 ty3 rfl rfl rfl rfl rfl) ?_
  refine d_val 4 rfl pnok (by kernel_rfl) (by kernel_rfl) (by kernel_rfl) rfl (v_move rfl) ?_
  refine d_val 5 rfl pnok (by kernel_rfl) (by kernel_rfl) (by kernel_rfl) rfl (v_nilCheck rfl) ?_
  refine d_val 6 rfl pnok (by kernel_rfl) (by kernel_rfl) (by kernel_rfl) rfl (v_fieldAddr (v := .pointer (some ⟨b, 0, none⟩)) rfl (fun _ => by kernel_rfl)) ?_
  refine d_val 7 rfl pnok (by kernel_rfl) (by kernel_rfl) (by kernel_rfl) rfl (v_load_box 1 ty9 rfl rfl rfl rfl rfl) ?_
  refine d_val 8 rfl pnok (by kernel_rfl) (by kernel_rfl) (by kernel_rfl) rfl (v_len_str Try.underlying9 rfl) ?_
  refine d_val 9 rfl pnok (by kernel_rfl) (by kernel_rfl) (by kernel_rfl) rfl (v_bin rfl rfl rfl) ?_
  refine d_done_seq (by kernel_rfl) ?_
  refine c_cond rfl (fun h1 => ?_) (fun h1 => ?_)
  · replace hF := ite_t h1 hF
    refine c_seq ?_
    refine c_draw (n := 8) [1] mixed rfl rfl ?_
    refine d_val 0 rfl pnok (by kernel_rfl) (by kernel_rfl) (by kernel_rfl) rfl (v_move rfl) ?_
    refine d_val 1 rfl pnok (by kernel_rfl) (by kernel_rfl) (by kernel_rfl) rfl (v_nilCheck rfl) ?_
    refine d_val 2 rfl pnok (by kernel_rfl) (by kernel_rfl) (by kernel_rfl) rfl (v_fieldAddr (v := .pointer (some ⟨b, 0, none⟩)) rfl (fun _ => by kernel_rfl)) ?_
    refine d_val 3 rfl pnok (by kernel_rfl) (by kernel_rfl) (by kernel_rfl) rfl (v_load_box 0 ty9 rfl rfl rfl rfl rfl) ?_
    refine d_val 4 rfl pnok (by kernel_rfl) (by kernel_rfl) (by kernel_rfl) rfl (v_len_str Try.underlying9 rfl) ?_
    refine d_val 5 rfl pnok (by kernel_rfl) (by kernel_rfl) (by kernel_rfl) rfl (v_build (v := .agg #[.int .i64 (r_.text.length : Int), .int .i64 14]) rfl (fun _ => by kernel_rfl)) ?_
    refine d_val 6 rfl pnok (by kernel_rfl) (by kernel_rfl) (by kernel_rfl) rfl (v_assign rfl) ?_
    refine d_one 7 rfl (by kernel_rfl) ?_
    refine o_store_box 0 rfl ty38 rfl rfl rfl rfl rfl rfl rfl ?_
    refine d_next [1] 0 rfl rfl ?_
    refine d_done_seq (by kernel_rfl) ?_
    refine c_ret ?_
    cases hF
    refine s_ret2 rfl (r_tmp rfl) (r_cell 0 rfl ty38 rfl rfl rfl rfl) fun a w hs => ?_
    exact fin_sel hs [1] ⟨rfl, rfl, rfl⟩ rfl sub_nil
  · replace hF := ite_f h1 hF
    refine c_skip ?_
    refine sat_wc ?_
    refine c_seq ?_
    refine c_draw (n := 10) [0, 0] mixed rfl rfl ?_
    refine d_val 0 rfl pnok (by kernel_rfl) (by kernel_rfl) (by kernel_rfl) rfl (v_move rfl) ?_
    refine d_val 1 rfl pnok (by kernel_rfl) (by kernel_rfl) (by kernel_rfl) rfl (v_nilCheck rfl) ?_
    refine d_val 2 rfl pnok (by kernel_rfl) (by kernel_rfl) (by kernel_rfl) rfl (v_fieldAddr (v := .pointer (some ⟨b, 0, none⟩)) rfl (fun _ => by kernel_rfl)) ?_
    refine d_val 3 rfl pnok (by kernel_rfl) (by kernel_rfl) (by kernel_rfl) rfl (v_load_box 1 ty9 rfl rfl rfl rfl rfl) ?_
    refine d_val 4 rfl pnok (by kernel_rfl) (by kernel_rfl) (by kernel_rfl) rfl (v_move rfl) ?_
    refine d_val 5 rfl pnok (by kernel_rfl) (by kernel_rfl) (by kernel_rfl) rfl (v_nilCheck rfl) ?_
    refine d_val 6 rfl pnok (by kernel_rfl) (by kernel_rfl) (by kernel_rfl) rfl (v_fieldAddr (v := .pointer (some ⟨b, 1, none⟩)) rfl (fun _ => by kernel_rfl)) ?_
    refine d_val 7 rfl pnok (by kernel_rfl) (by kernel_rfl) (by kernel_rfl) rfl (v_load_box 1 ty3 rfl rfl rfl rfl rfl) ?_
    refine ite_some hF fun h2 hF => ?_
    refine d_val 8 rfl pnok (by kernel_rfl) (by kernel_rfl) (by kernel_rfl) rfl (v_sindex Try.underlying9 rfl rfl h2) ?_
    refine d_val 9 rfl pnok (by kernel_rfl) (by kernel_rfl) (by kernel_rfl) rfl (v_assign rfl) ?_
    refine d_done_seq (by kernel_rfl) ?_
    refine c_seq ?_
    refine c_seq ?_
    refine c_region ?_
    refine o_v (v_move rfl) rfl ?_
    refine o_v (v_bin rfl rfl rfl) rfl ?_
    refine o_seq ?_
    refine c_cond rfl (fun h3 => ?_) (fun h3 => ?_)
    · replace hF := ite_t h3 hF
      refine c_seq ?_
      refine c_region ?_
      refine o_v (v_move rfl) rfl ?_
      obtain ⟨v, h4, hF⟩ := bd hF
      refine o_call [1] call47 rfl rfl rfl sub_nil (cap := #[]) (by rw [show (#[] : Array Value).toList = [] from rfl, List.append_nil]; exact (tri47 r_ b v h4)) rfl ?_
      rintro _ _ _ ⟨rfl, rfl, rfl⟩
      refine o_v (v_extract rfl rfl) rfl ?_
      refine o_v (v_extract rfl rfl) rfl ?_
      refine o_v (v_assign rfl) rfl ?_
      refine o_store_box 1 rfl ty38 rfl rfl rfl rfl rfl rfl rfl ?_
      refine o_seq ?_
      refine c_ret ?_
      cases hF
      refine s_ret2 rfl (r_tmp rfl) (r_cell 1 rfl ty38 rfl rfl rfl rfl) fun a w hs => ?_
      exact fin_sel hs [0] ⟨rfl, rfl, rfl⟩ rfl sub_nil
    · replace hF := ite_f h3 hF
      refine c_skip ?_
      refine sat_wc ?_
      refine c_seq ?_
      refine c_seq ?_
      refine c_cut (fun E N' => ∀ (t57 : Bool), F.charset.reader_char_j1 r_ t57 = some r → Sat E [(0, .pointer (some ⟨b, 0, none⟩)), (2, .int .i64 0), (3, .pointer (some ⟨b1, 0, none⟩)), (4, .int .u8 (sAt r_.text r_.at_)), (14, .bool (decide ((r_.text.length : Int) ≤ r_.at_))), (31, .bool ((sAt r_.text r_.at_) == 92)), (57, .bool t57)] [.box b1 38 [.int .i64 0, .int .i64 0], .box b 63 [.string (bs r_.text), .int .i64 r_.at_]] [] N') (fun N1 hN1 => ?_) ?_
      · refine c_region ?_
        refine o_v (v_move rfl) rfl ?_
        refine o_v (v_bin rfl rfl rfl) rfl ?_
        refine o_v (v_move rfl) rfl ?_
        refine o_split (t := 38) rfl (fun h6 => ?_) (fun h6 => ?_)
        · replace hF := ite_t h6 hF
          refine o_off rfl rfl (by decide) rfl ?_
          refine o_off rfl rfl (by decide) rfl ?_
          refine o_v (v_pick_t rfl rfl) rfl ?_
          refine o_v (v_move rfl) rfl ?_
          refine o_off rfl rfl (by decide) rfl ?_
          refine o_off rfl rfl (by decide) rfl ?_
          refine o_v (v_pick_t rfl rfl) rfl ?_
          refine o_v (v_move rfl) rfl ?_
          refine o_off rfl rfl (by decide) rfl ?_
          refine o_off rfl rfl (by decide) rfl ?_
          refine o_v (v_pick_t rfl rfl) rfl ?_
          refine o_v (v_move rfl) rfl ?_
          refine o_off rfl rfl (by decide) rfl ?_
          refine o_off rfl rfl (by decide) rfl ?_
          refine o_v (v_pick_t rfl rfl) rfl ?_
          refine o_v (v_move rfl) rfl ?_
          refine o_off rfl rfl (by decide) rfl ?_
          refine o_off rfl rfl (by decide) rfl ?_
          refine o_v (v_pick_t rfl rfl) rfl ?_
          refine o_nil ?_
          refine s_st ?_ (hN1 true hF)
          exact st_le [0, 0] (le_cons rfl (le_cons rfl (le_cons rfl (le_cons rfl (le_cons rfl (le_cons rfl (le_cons rfl le_nil))))))) rfl sub_nil
        · replace hF := ite_f h6 hF
          refine o_on rfl rfl ?_
          refine o_v (v_move rfl) rfl ?_
          refine o_on rfl rfl ?_
          refine o_v (v_bin rfl rfl rfl) rfl ?_
          refine o_v (v_pick_f rfl rfl) rfl ?_
          refine o_v (v_move rfl) rfl ?_
          refine o_split (t := 42) rfl (fun h7 => ?_) (fun h7 => ?_)
          · replace hF := ite_t h7 hF
            refine o_off rfl rfl (by decide) rfl ?_
            refine o_off rfl rfl (by decide) rfl ?_
            refine o_v (v_pick_t rfl rfl) rfl ?_
            refine o_v (v_move rfl) rfl ?_
            refine o_off rfl rfl (by decide) rfl ?_
            refine o_off rfl rfl (by decide) rfl ?_
            refine o_v (v_pick_t rfl rfl) rfl ?_
            refine o_v (v_move rfl) rfl ?_
            refine o_off rfl rfl (by decide) rfl ?_
            refine o_off rfl rfl (by decide) rfl ?_
            refine o_v (v_pick_t rfl rfl) rfl ?_
            refine o_v (v_move rfl) rfl ?_
            refine o_off rfl rfl (by decide) rfl ?_
            refine o_off rfl rfl (by decide) rfl ?_
            refine o_v (v_pick_t rfl rfl) rfl ?_
            refine o_nil ?_
            refine s_st ?_ (hN1 true hF)
            exact st_le [0, 0] (le_cons rfl (le_cons rfl (le_cons rfl (le_cons rfl (le_cons rfl (le_cons rfl (le_cons rfl le_nil))))))) rfl sub_nil
          · replace hF := ite_f h7 hF
            refine o_on rfl rfl ?_
            refine o_v (v_move rfl) rfl ?_
            refine o_on rfl rfl ?_
            refine o_v (v_bin rfl rfl rfl) rfl ?_
            refine o_v (v_pick_f rfl rfl) rfl ?_
            refine o_v (v_move rfl) rfl ?_
            refine o_split (t := 46) rfl (fun h8 => ?_) (fun h8 => ?_)
            · replace hF := ite_t h8 hF
              refine o_off rfl rfl (by decide) rfl ?_
              refine o_off rfl rfl (by decide) rfl ?_
              refine o_v (v_pick_t rfl rfl) rfl ?_
              refine o_v (v_move rfl) rfl ?_
              refine o_off rfl rfl (by decide) rfl ?_
              refine o_off rfl rfl (by decide) rfl ?_
              refine o_v (v_pick_t rfl rfl) rfl ?_
              refine o_v (v_move rfl) rfl ?_
              refine o_off rfl rfl (by decide) rfl ?_
              refine o_off rfl rfl (by decide) rfl ?_
              refine o_v (v_pick_t rfl rfl) rfl ?_
              refine o_nil ?_
              refine s_st ?_ (hN1 true hF)
              exact st_le [0, 0] (le_cons rfl (le_cons rfl (le_cons rfl (le_cons rfl (le_cons rfl (le_cons rfl (le_cons rfl le_nil))))))) rfl sub_nil
            · replace hF := ite_f h8 hF
              refine o_on rfl rfl ?_
              refine o_v (v_move rfl) rfl ?_
              refine o_on rfl rfl ?_
              refine o_v (v_bin rfl rfl rfl) rfl ?_
              refine o_v (v_pick_f rfl rfl) rfl ?_
              refine o_v (v_move rfl) rfl ?_
              refine o_split (t := 50) rfl (fun h9 => ?_) (fun h9 => ?_)
              · replace hF := ite_t h9 hF
                refine o_off rfl rfl (by decide) rfl ?_
                refine o_off rfl rfl (by decide) rfl ?_
                refine o_v (v_pick_t rfl rfl) rfl ?_
                refine o_v (v_move rfl) rfl ?_
                refine o_off rfl rfl (by decide) rfl ?_
                refine o_off rfl rfl (by decide) rfl ?_
                refine o_v (v_pick_t rfl rfl) rfl ?_
                refine o_nil ?_
                refine s_st ?_ (hN1 true hF)
                exact st_le [0, 0] (le_cons rfl (le_cons rfl (le_cons rfl (le_cons rfl (le_cons rfl (le_cons rfl (le_cons rfl le_nil))))))) rfl sub_nil
              · replace hF := ite_f h9 hF
                refine o_on rfl rfl ?_
                refine o_v (v_move rfl) rfl ?_
                refine o_on rfl rfl ?_
                refine o_v (v_bin rfl rfl rfl) rfl ?_
                refine o_v (v_pick_f rfl rfl) rfl ?_
                refine o_v (v_move rfl) rfl ?_
                refine o_split (t := 54) rfl (fun h10 => ?_) (fun h10 => ?_)
                · replace hF := ite_t h10 hF
                  refine o_off rfl rfl (by decide) rfl ?_
                  refine o_off rfl rfl (by decide) rfl ?_
                  refine o_v (v_pick_t rfl rfl) rfl ?_
                  refine o_nil ?_
                  refine s_st ?_ (hN1 true hF)
                  exact st_le [0, 0] (le_cons rfl (le_cons rfl (le_cons rfl (le_cons rfl (le_cons rfl (le_cons rfl (le_cons rfl le_nil))))))) rfl sub_nil
                · replace hF := ite_f h10 hF
                  refine o_on rfl rfl ?_
                  refine o_v (v_move rfl) rfl ?_
                  refine o_on rfl rfl ?_
                  refine o_v (v_bin rfl rfl rfl) rfl ?_
                  refine o_v (v_pick_f rfl rfl) rfl ?_
                  refine o_nil ?_
                  refine s_st ?_ (hN1 ((sAt r_.text r_.at_) == 94) hF)
                  exact st_le [0, 0] (le_cons rfl (le_cons rfl (le_cons rfl (le_cons rfl (le_cons rfl (le_cons rfl (le_cons rfl le_nil))))))) rfl sub_nil
      · intro t57 hF
        unfold F.charset.reader_char_j1 at hF
        refine sat_wc ?_
        refine c_cond rfl (fun h5 => ?_) (fun h5 => ?_)
        · replace hF := ite_t h5 hF
          refine c_seq ?_
          refine c_draw (n := 7) [1] mixed rfl rfl ?_
          refine d_val 0 rfl pnok (by kernel_rfl) (by kernel_rfl) (by kernel_rfl) rfl (v_move rfl) ?_
          refine d_val 1 rfl pnok (by kernel_rfl) (by kernel_rfl) (by kernel_rfl) rfl (v_nilCheck rfl) ?_
          refine d_val 2 rfl pnok (by kernel_rfl) (by kernel_rfl) (by kernel_rfl) rfl (v_fieldAddr (v := .pointer (some ⟨b, 1, none⟩)) rfl (fun _ => by kernel_rfl)) ?_
          refine d_val 3 rfl pnok (by kernel_rfl) (by kernel_rfl) (by kernel_rfl) rfl (v_load_box 0 ty3 rfl rfl rfl rfl rfl) ?_
          refine d_val 4 rfl pnok (by kernel_rfl) (by kernel_rfl) (by kernel_rfl) rfl (v_build (v := .agg #[.int .i64 r_.at_, .int .i64 11]) rfl (fun _ => by kernel_rfl)) ?_
          refine d_val 5 rfl pnok (by kernel_rfl) (by kernel_rfl) (by kernel_rfl) rfl (v_assign rfl) ?_
          refine d_one 6 rfl (by kernel_rfl) ?_
          refine o_store_box 0 rfl ty38 rfl rfl rfl rfl rfl rfl rfl ?_
          refine d_next [1] 0 rfl rfl ?_
          refine d_done_seq (by kernel_rfl) ?_
          refine c_ret ?_
          cases hF
          refine s_ret2 rfl (r_tmp rfl) (r_cell 0 rfl ty38 rfl rfl rfl rfl) fun a w hs => ?_
          exact fin_sel hs [1] ⟨rfl, rfl, rfl⟩ rfl sub_nil
        · replace hF := ite_f h5 hF
          refine c_skip ?_
          refine sat_wc ?_
          refine c_seq ?_
          refine c_region ?_
          refine o_v (v_move rfl) rfl ?_
          refine o_v (v_nilCheck rfl) rfl ?_
          refine o_v (v_fieldAddr (v := .pointer (some ⟨b, 1, none⟩)) rfl (fun _ => by kernel_rfl)) rfl ?_
          refine o_v (v_load_box 1 ty3 rfl rfl rfl rfl rfl) rfl ?_
          refine o_v (v_bin rfl rfl rfl) rfl ?_
          refine o_v (v_nilCheck rfl) rfl ?_
          refine o_v (v_fieldAddr (v := .pointer (some ⟨b, 1, none⟩)) rfl (fun _ => by kernel_rfl)) rfl ?_
          refine o_store_box 1 rfl ty3 rfl rfl rfl rfl rfl rfl rfl ?_
          refine o_seq ?_
          refine c_seq ?_
          refine c_region ?_
          refine o_v (v_move rfl) rfl ?_
          refine o_v (v_convert (v := .int .i64 (IntKind.wrap .i64 (sAt r_.text r_.at_))) rfl (fun _ => by kernel_rfl)) rfl ?_
          refine o_v (v_build (v := .agg #[.int .i64 0, .int .i64 0]) rfl (fun _ => by kernel_rfl)) rfl ?_
          refine o_v (v_assign rfl) rfl ?_
          refine o_store_box 0 rfl ty38 rfl rfl rfl rfl rfl rfl rfl ?_
          refine o_seq ?_
          refine c_ret ?_
          cases hF
          refine s_ret2 rfl (r_tmp rfl) (r_cell 0 rfl ty38 rfl rfl rfl rfl) fun a w hs => ?_
          exact fin_sel hs [1] ⟨rfl, rfl, rfl⟩ rfl sub_nil
theorem tri14 (k : Nat) (lo : Int) (hi : Int) (r : S4 × Int) (hF : F.charset.Range k lo hi = some r) :
    Tri Try.prog 14 [.int .i64 lo, .int .i64 hi] [] [] (fun o H Φ => o = .ret (.tuple #[.agg #[.int .u64 r.1.w0, .int .u64 r.1.w1, .int .u64 r.1.w2, .int .u64 r.1.w3], .int .i64 r.2]) ∧ H = [] ∧ Φ = []) := by
  unfold F.charset.Range at hF
  refine tri_intro (n := 36) Try.func14 rfl Try.ntmps14 rfl fun w X => ?_
  refine c_seq ?_
  refine c_region ?_
  refine o_alloc zero26 rfl rfl fun b => ?_
  refine o_v (v_assign rfl) rfl ?_
  refine o_seq ?_
  refine c_seq ?_
  refine c_region ?_
  refine o_alloc zero26 rfl rfl fun b1 => ?_
  refine o_seq ?_
  refine c_seq ?_
  refine c_seq ?_
  refine c_region ?_
  refine o_v (v_move rfl) rfl ?_
  refine o_v (v_bin rfl rfl rfl) rfl ?_
  refine o_v (v_move rfl) rfl ?_
  refine o_split (t := 10) rfl (fun h1 => ?_) (fun h1 => ?_)
  · replace hF := ite_t h1 hF
    refine o_off rfl rfl (by decide) rfl ?_
    refine o_off rfl rfl (by decide) rfl ?_
    refine o_v (v_pick_t rfl rfl) rfl ?_
    refine o_v (v_move rfl) rfl ?_
    refine o_off rfl rfl (by decide) rfl ?_
    refine o_off rfl rfl (by decide) rfl ?_
    refine o_off rfl rfl (by decide) rfl ?_
    refine o_v (v_pick_t rfl rfl) rfl ?_
    refine o_seq ?_
    refine c_cond rfl (fun _ => ?_) (fun h => Bool.noConfusion h)
    refine c_seq ?_
    refine c_region ?_
    refine o_v (v_load_box 0 ty26 rfl rfl rfl rfl rfl) rfl ?_
    refine o_store_box 1 rfl ty26 rfl rfl rfl rfl rfl rfl rfl ?_
    refine o_v (v_assign rfl) rfl ?_
    refine o_seq ?_
    refine c_ret ?_
    cases hF
    refine s_ret2 rfl (r_cell 1 rfl ty26 rfl rfl rfl rfl) (r_tmp rfl) fun a w hs => ?_
    exact fin_sel hs [] ⟨rfl, rfl, rfl⟩ rfl sub_nil
  · replace hF := ite_f h1 hF
    refine o_on rfl rfl ?_
    refine o_v (v_move rfl) rfl ?_
    refine o_on rfl rfl ?_
    refine o_v (v_bin rfl rfl rfl) rfl ?_
    refine o_v (v_pick_f rfl rfl) rfl ?_
    refine o_v (v_move rfl) rfl ?_
    refine o_split (t := 14) rfl (fun h2 => ?_) (fun h2 => ?_)
    · replace hF := ite_t h2 hF
      refine o_off rfl rfl (by decide) rfl ?_
      refine o_off rfl rfl (by decide) rfl ?_
      refine o_off rfl rfl (by decide) rfl ?_
      refine o_v (v_pick_t rfl rfl) rfl ?_
      refine o_seq ?_
      refine c_cond rfl (fun _ => ?_) (fun h => Bool.noConfusion h)
      refine c_seq ?_
      refine c_region ?_
      refine o_v (v_load_box 0 ty26 rfl rfl rfl rfl rfl) rfl ?_
      refine o_store_box 1 rfl ty26 rfl rfl rfl rfl rfl rfl rfl ?_
      refine o_v (v_assign rfl) rfl ?_
      refine o_seq ?_
      refine c_ret ?_
      cases hF
      refine s_ret2 rfl (r_cell 1 rfl ty26 rfl rfl rfl rfl) (r_tmp rfl) fun a w hs => ?_
      exact fin_sel hs [] ⟨rfl, rfl, rfl⟩ rfl sub_nil
    · replace hF := ite_f h2 hF
      refine o_on rfl rfl ?_
      refine o_v (v_move rfl) rfl ?_
      refine o_on rfl rfl ?_
      refine o_v (v_move rfl) rfl ?_
      refine o_on rfl rfl ?_
      refine o_v (v_bin rfl rfl rfl) rfl ?_
      refine o_v (v_pick_f rfl rfl) rfl ?_
      refine o_seq ?_
      refine c_cond rfl (fun h3 => ?_) (fun h3 => ?_)
      · replace hF := ite_t h3 hF
        refine c_seq ?_
        refine c_region ?_
        refine o_v (v_load_box 0 ty26 rfl rfl rfl rfl rfl) rfl ?_
        refine o_store_box 1 rfl ty26 rfl rfl rfl rfl rfl rfl rfl ?_
        refine o_v (v_assign rfl) rfl ?_
        refine o_seq ?_
        refine c_ret ?_
        cases hF
        refine s_ret2 rfl (r_cell 1 rfl ty26 rfl rfl rfl rfl) (r_tmp rfl) fun a w hs => ?_
        exact fin_sel hs [] ⟨rfl, rfl, rfl⟩ rfl sub_nil
      · replace hF := ite_f h3 hF
        refine c_skip ?_
        refine sat_wc ?_
        refine c_seq ?_
        refine c_seq ?_
        refine c_region ?_
        refine o_v (v_move rfl) rfl ?_
        refine o_v (v_assign rfl) rfl ?_
        refine o_seq ?_
        obtain ⟨o1, ho1, hF⟩ := bd hF
        refine c_cut (fun E N' => Sat E [(0, .int .i64 lo), (1, .int .i64 hi), (4, .pointer (some ⟨b, 0, none⟩)), (5, .int .i64 0), (6, .pointer (some ⟨b1, 0, none⟩)), (18, .bool (decide (hi < lo)))] [.box b1 26 [.int .u64 o1.w0, .int .u64 o1.w1, .int .u64 o1.w2, .int .u64 o1.w3], .box b 26 [.int .u64 0, .int .u64 0, .int .u64 0, .int .u64 0]] [] N') (fun N1 hN1 => ?_) ?_
        · refine c_block ?_
          refine c_loopE (fun E j a w => ∃ (i : Int) (s : S4), F.charset.Range_l1 hi j i s = some o1 ∧ St E [(0, .int .i64 lo), (1, .int .i64 hi), (4, .pointer (some ⟨b, 0, none⟩)), (5, .int .i64 0), (6, .pointer (some ⟨b1, 0, none⟩)), (7, .int .i64 i), (18, .bool (decide (hi < lo)))] [.box b1 26 [.int .u64 s.w0, .int .u64 s.w1, .int .u64 s.w2, .int .u64 s.w3], .box b 26 [.int .u64 0, .int .u64 0, .int .u64 0, .int .u64 0]] [] a w) k ?_ ?_
          · intro a w hs
            exact ⟨lo, (S4.mk 0 0 0 0), ho1, st_le [0, 0] (le_cons rfl (le_cons rfl (le_cons rfl (le_cons rfl (le_cons rfl (le_cons rfl (le_cons rfl le_nil))))))) rfl sub_nil a w hs⟩
          · rintro j a w ⟨i, s, hL1, hs⟩
            cases j with
            | zero => cases hL1
            | succ j =>
              refine wc_app hs ?_
              unfold F.charset.Range_l1 at hL1
              refine c_seq ?_
              refine c_seq ?_
              refine c_region ?_
              refine o_v (v_move rfl) rfl ?_
              refine o_v (v_move rfl) rfl ?_
              refine o_v (v_bin rfl rfl rfl) rfl ?_
              refine o_seq ?_
              refine c_cond rfl (fun h4 => ?_) (fun h4 => ?_)
              · replace hL1 := ite_t h4 hL1
                refine c_skip ?_
                refine sat_wc ?_
                refine c_seq ?_
                refine c_block ?_
                refine c_draw (n := 10) [1] mixed rfl rfl ?_
                refine d_val 0 rfl pnok (by kernel_rfl) (by kernel_rfl) (by kernel_rfl) rfl (v_move rfl) ?_
                refine d_val 1 rfl pnok (by kernel_rfl) (by kernel_rfl) (by kernel_rfl) rfl (v_quo rfl rfl rfl) ?_
                refine ite_some hL1 fun h5 hL1 => ?_
                refine d_val 2 rfl pnok (by kernel_rfl) (by kernel_rfl) (by kernel_rfl) rfl (v_indexAddr_a ar26 rfl rfl h5) ?_
                refine d_val 4 rfl pnok (by kernel_rfl) (by kernel_rfl) (by kernel_rfl) rfl (v_move rfl) ?_
                refine d_val 5 rfl pnok (by kernel_rfl) (by kernel_rfl) (by kernel_rfl) rfl (v_rem rfl rfl rfl) ?_
                refine ite_none hL1 fun h6 hL1 => ?_
                refine d_val 6 rfl pnok (by kernel_rfl) (by kernel_rfl) (by kernel_rfl) rfl (v_shl rfl rfl h6) ?_
                refine d_one 3 rfl (by kernel_rfl) ?_
                refine o_v (v_load_a 0 s ty24 rfl rfl h5) rfl ?_
                refine d_next [1] 0 rfl rfl ?_
                refine d_val 7 rfl pnok (by kernel_rfl) (by kernel_rfl) (by kernel_rfl) rfl (v_bit rfl rfl rfl) ?_
                refine d_val 8 rfl pnok (by kernel_rfl) (by kernel_rfl) (by kernel_rfl) rfl (v_indexAddr_a ar26 rfl rfl h5) ?_
                refine d_one 9 rfl (by kernel_rfl) ?_
                refine o_store_a 0 s rfl ty24 rfl rfl rfl h5 ?_
                refine d_next [1] 0 rfl rfl ?_
                refine d_done (by kernel_rfl) ?_
                refine sat_wc ?_
                refine c_region ?_
                refine o_v (v_move rfl) rfl ?_
                refine o_v (v_bin rfl rfl rfl) rfl ?_
                refine o_v (v_assign rfl) rfl ?_
                refine o_nil ?_
                intro a w hs
                exact ⟨j, Nat.lt_succ_self j, IntKind.wrap .i64 (i + 1), (S4.set s (gquo .i64 i 64) (gor .u64 (S4.get s (gquo .i64 i 64)) (gshl .u64 1 (grem i 64)))), hL1, st_le [0, 0] (le_cons rfl (le_cons rfl (le_cons rfl (le_cons rfl (le_cons rfl (le_cons rfl (le_cons rfl le_nil))))))) rfl sub_nil a w hs⟩
              · replace hL1 := ite_f h4 hL1
                refine c_exit0 ?_
                cases hL1
                refine s_st ?_ (hN1)
                exact st_le [0, 0] (le_cons rfl (le_cons rfl (le_cons rfl (le_cons rfl (le_cons rfl (le_cons rfl le_nil)))))) rfl sub_nil
        · refine sat_wc ?_
          refine c_seq ?_
          refine c_region ?_
          refine o_v (v_load_box 0 ty26 rfl rfl rfl rfl rfl) rfl ?_
          refine o_store_box 1 rfl ty26 rfl rfl rfl rfl rfl rfl rfl ?_
          refine o_v (v_assign rfl) rfl ?_
          refine o_seq ?_
          refine c_ret ?_
          cases hF
          refine s_ret2 rfl (r_cell 1 rfl ty26 rfl rfl rfl rfl) (r_tmp rfl) fun a w hs => ?_
          exact fin_sel hs [] ⟨rfl, rfl, rfl⟩ rfl sub_nil
theorem tri40 (k : Nat) (r_ : Charset_reader) (b : Nat) (r : S4 × Fault × Charset_reader) (hF : F.charset.reader_item k r_ = some r) :
    Tri Try.prog 40 [.pointer (some ⟨b, 0, none⟩)] [.box b 63 [.string (bs r_.text), .int .i64 r_.at_]] [] (fun o H Φ => o = .ret (.tuple #[.agg #[.int .u64 r.1.w0, .int .u64 r.1.w1, .int .u64 r.1.w2, .int .u64 r.1.w3], .agg #[.int .i64 r.2.1.At, .int .i64 r.2.1.Code]]) ∧ H = [.box b 63 [.string (bs r.2.2.text), .int .i64 r.2.2.at_]] ∧ Φ = []) := by
  unfold F.charset.reader_item at hF
  refine tri_intro (n := 78) Try.func40 rfl Try.ntmps40 rfl fun w X => ?_
  refine c_seq ?_
  refine c_region ?_
  refine o_alloc zero26 rfl rfl fun b1 => ?_
  refine o_alloc zero38 rfl rfl fun b2 => ?_
  refine o_seq ?_
  refine c_seq ?_
  refine c_region ?_
  refine o_v (v_move rfl) rfl ?_
  refine o_v (v_nilCheck rfl) rfl ?_
  refine o_v (v_fieldAddr (v := .pointer (some ⟨b, 1, none⟩)) rfl (fun _ => by kernel_rfl)) rfl ?_
  refine o_v (v_load_box 2 ty3 rfl rfl rfl rfl rfl) rfl ?_
  refine o_v (v_assign rfl) rfl ?_
  refine o_seq ?_
  refine c_seq ?_
  refine c_region ?_
  refine o_v (v_move rfl) rfl ?_
  obtain ⟨v, h1, hF⟩ := bd hF
  refine o_call [2] call45 rfl rfl rfl sub_nil (cap := #[]) (by rw [show (#[] : Array Value).toList = [] from rfl, List.append_nil]; exact (tri45 r_ b v h1)) rfl ?_
  rintro _ _ _ ⟨rfl, rfl, rfl⟩
  refine o_v (v_move rfl) rfl ?_
  refine o_v (v_extract rfl rfl) rfl ?_
  refine o_v (v_extract rfl rfl) rfl ?_
  refine o_alloc zero38 rfl rfl fun b3 => ?_
  refine o_v (v_assign rfl) rfl ?_
  refine o_store_box 0 rfl ty38 rfl rfl rfl rfl rfl rfl rfl ?_
  refine o_seq ?_
  refine c_seq ?_
  refine c_seq ?_
  refine c_region ?_
  refine o_v (v_fieldAddr (v := .pointer (some ⟨b3, 1, none⟩)) rfl (fun _ => by kernel_rfl)) rfl ?_
  refine o_v (v_load_box 0 ty28 rfl rfl rfl rfl rfl) rfl ?_
  refine o_v (v_bin rfl rfl rfl) rfl ?_
  refine o_seq ?_
  refine c_cond rfl (fun h2 => ?_) (fun h2 => ?_)
  · replace hF := ite_t h2 hF
    refine c_seq ?_
    refine c_draw (n := 4) [0, 0] mixed rfl rfl ?_
    refine d_val 0 rfl pnok (by kernel_rfl) (by kernel_rfl) (by kernel_rfl) rfl (v_build (v := .agg #[.int .u64 0, .int .u64 0, .int .u64 0, .int .u64 0]) rfl (fun _ => by kernel_rfl)) ?_
    refine d_val 1 rfl pnok (by kernel_rfl) (by kernel_rfl) (by kernel_rfl) rfl (v_load_box 0 ty38 rfl rfl rfl rfl rfl) ?_
    refine d_one 2 rfl (by kernel_rfl) ?_
    refine o_store_box 3 rfl ty26 rfl rfl rfl rfl rfl rfl rfl ?_
    refine d_next [0, 0] 0 rfl rfl ?_
    refine d_one 3 rfl (by kernel_rfl) ?_
    refine o_store_box 2 rfl ty38 rfl rfl rfl rfl rfl rfl rfl ?_
    refine d_next [0, 0] 0 rfl rfl ?_
    refine d_done_seq (by kernel_rfl) ?_
    refine c_ret ?_
    cases hF
    refine s_ret2 rfl (r_cell 3 rfl ty26 rfl rfl rfl rfl) (r_cell 2 rfl ty38 rfl rfl rfl rfl) fun a w hs => ?_
    exact fin_sel hs [1] ⟨rfl, rfl, rfl⟩ rfl sub_nil
  · replace hF := ite_f h2 hF
    refine c_skip ?_
    refine sat_wc ?_
    refine c_seq ?_
    refine c_region ?_
    refine o_v (v_move rfl) rfl ?_
    refine o_v (v_assign rfl) rfl ?_
    refine o_seq ?_
    refine c_seq ?_
    refine c_seq ?_
    refine c_cut (fun E N' => ∀ (begin : Int) (t21 : Bool) (t46 : Bool) (At : Int) (Code : Int) (text : List UInt8) (at_ : Int), F.charset.reader_item_j1 k v begin t21 t46 At Code text at_ = some r → Sat E [(0, .pointer (some ⟨b, 0, none⟩)), (2, .pointer (some ⟨b1, 0, none⟩)), (3, .pointer (some ⟨b2, 0, none⟩)), (4, .int .i64 begin), (5, .int .i64 v.1), (6, .pointer (some ⟨b3, 0, none⟩)), (7, .int .i64 v.1), (21, .bool t21), (46, .bool t46)] [.box b3 38 [.int .i64 At, .int .i64 Code], .box b 63 [.string (bs text), .int .i64 at_], .box b2 38 [.int .i64 0, .int .i64 0], .box b1 26 [.int .u64 0, .int .u64 0, .int .u64 0, .int .u64 0]] [] N') (fun N2 hN2 => ?_) ?_
    · refine c_draw (n := 22) [0, 0, 0, 0] mixed rfl rfl ?_
      refine d_val 0 rfl pnok (by kernel_rfl) (by kernel_rfl) (by kernel_rfl) rfl (v_move rfl) ?_
      refine d_val 1 rfl pnok (by kernel_rfl) (by kernel_rfl) (by kernel_rfl) rfl (v_nilCheck rfl) ?_
      refine d_val 2 rfl pnok (by kernel_rfl) (by kernel_rfl) (by kernel_rfl) rfl (v_fieldAddr (v := .pointer (some ⟨b, 1, none⟩)) rfl (fun _ => by kernel_rfl)) ?_
      refine d_val 3 rfl pnok (by kernel_rfl) (by kernel_rfl) (by kernel_rfl) rfl (v_load_box 1 ty3 rfl rfl rfl rfl rfl) ?_
      refine d_val 4 rfl pnok (by kernel_rfl) (by kernel_rfl) (by kernel_rfl) rfl (v_move rfl) ?_
      refine d_val 5 rfl pnok (by kernel_rfl) (by kernel_rfl) (by kernel_rfl) rfl (v_nilCheck rfl) ?_
      refine d_val 6 rfl pnok (by kernel_rfl) (by kernel_rfl) (by kernel_rfl) rfl (v_fieldAddr (v := .pointer (some ⟨b, 0, none⟩)) rfl (fun _ => by kernel_rfl)) ?_
      refine d_val 7 rfl pnok (by kernel_rfl) (by kernel_rfl) (by kernel_rfl) rfl (v_load_box 1 ty9 rfl rfl rfl rfl rfl) ?_
      refine d_val 8 rfl pnok (by kernel_rfl) (by kernel_rfl) (by kernel_rfl) rfl (v_len_str Try.underlying9 rfl) ?_
      refine d_val 9 rfl pnok (by kernel_rfl) (by kernel_rfl) (by kernel_rfl) rfl (v_bin rfl rfl rfl) ?_
      refine d_val 10 rfl pnok (by kernel_rfl) (by kernel_rfl) (by kernel_rfl) rfl (v_move rfl) ?_
      refine d_split (t := 35) rfl (fun h8 => ?_) (fun h8 => ?_)
      · replace hF := ite_t h8 hF
        refine d_val_on 11 rfl rfl rfl pnok (by kernel_rfl) (by kernel_rfl) (by kernel_rfl) rfl (v_move rfl) ?_
        refine d_val_on 12 rfl rfl rfl pnok (by kernel_rfl) (by kernel_rfl) (by kernel_rfl) rfl (v_nilCheck rfl) ?_
        refine d_val_on 13 rfl rfl rfl pnok (by kernel_rfl) (by kernel_rfl) (by kernel_rfl) rfl (v_fieldAddr (v := .pointer (some ⟨b, 0, none⟩)) rfl (fun _ => by kernel_rfl)) ?_
        refine d_val_on 14 rfl rfl rfl pnok (by kernel_rfl) (by kernel_rfl) (by kernel_rfl) rfl (v_load_box 1 ty9 rfl rfl rfl rfl rfl) ?_
        refine d_val_on 15 rfl rfl rfl pnok (by kernel_rfl) (by kernel_rfl) (by kernel_rfl) rfl (v_move rfl) ?_
        refine d_val_on 16 rfl rfl rfl pnok (by kernel_rfl) (by kernel_rfl) (by kernel_rfl) rfl (v_nilCheck rfl) ?_
        refine d_val_on 17 rfl rfl rfl pnok (by kernel_rfl) (by kernel_rfl) (by kernel_rfl) rfl (v_fieldAddr (v := .pointer (some ⟨b, 1, none⟩)) rfl (fun _ => by kernel_rfl)) ?_
        refine d_val_on 18 rfl rfl rfl pnok (by kernel_rfl) (by kernel_rfl) (by kernel_rfl) rfl (v_load_box 1 ty3 rfl rfl rfl rfl rfl) ?_
        refine ite_some hF fun h9 hF => ?_
        refine d_val_on 19 rfl rfl rfl pnok (by kernel_rfl) (by kernel_rfl) (by kernel_rfl) rfl (v_sindex Try.underlying9 rfl rfl h9) ?_
        refine d_val_on 20 rfl rfl rfl pnok (by kernel_rfl) (by kernel_rfl) (by kernel_rfl) rfl (v_bin rfl rfl rfl) ?_
        refine d_val 21 rfl pnok (by kernel_rfl) (by kernel_rfl) (by kernel_rfl) rfl (v_pick_t rfl rfl) ?_
        refine d_done (by kernel_rfl) ?_
        refine s_st ?_ (hN2 r_.at_ (v.2.1.Code != 0) ((sAt v.2.2.text v.2.2.at_) == 45) v.2.1.At v.2.1.Code v.2.2.text v.2.2.at_ hF)
        exact st_le [0, 0, 0, 0] (le_cons rfl (le_cons rfl (le_cons rfl (le_cons rfl (le_cons rfl (le_cons rfl (le_cons rfl (le_cons rfl (le_cons rfl le_nil))))))))) rfl sub_nil
      · replace hF := ite_f h8 hF
        refine d_off 11 rfl rfl rfl (by decide) pnok (by kernel_rfl) (by kernel_rfl) (by kernel_rfl) rfl ?_
        refine d_off 12 rfl rfl rfl (by decide) pnok (by kernel_rfl) (by kernel_rfl) (by kernel_rfl) rfl ?_
        refine d_off 13 rfl rfl rfl (by decide) pnok (by kernel_rfl) (by kernel_rfl) (by kernel_rfl) rfl ?_
        refine d_off 14 rfl rfl rfl (by decide) pnok (by kernel_rfl) (by kernel_rfl) (by kernel_rfl) rfl ?_
        refine d_off 15 rfl rfl rfl (by decide) pnok (by kernel_rfl) (by kernel_rfl) (by kernel_rfl) rfl ?_
        refine d_off 16 rfl rfl rfl (by decide) pnok (by kernel_rfl) (by kernel_rfl) (by kernel_rfl) rfl ?_
        refine d_off 17 rfl rfl rfl (by decide) pnok (by kernel_rfl) (by kernel_rfl) (by kernel_rfl) rfl ?_
        refine d_off 18 rfl rfl rfl (by decide) pnok (by kernel_rfl) (by kernel_rfl) (by kernel_rfl) rfl ?_
        refine d_off 19 rfl rfl rfl (by decide) pnok (by kernel_rfl) (by kernel_rfl) (by kernel_rfl) rfl ?_
        refine d_off 20 rfl rfl rfl (by decide) pnok (by kernel_rfl) (by kernel_rfl) (by kernel_rfl) rfl ?_
        refine d_val 21 rfl pnok (by kernel_rfl) (by kernel_rfl) (by kernel_rfl) rfl (v_pick_f rfl rfl) ?_
        refine d_done (by kernel_rfl) ?_
        refine s_st ?_ (hN2 r_.at_ (v.2.1.Code != 0) false v.2.1.At v.2.1.Code v.2.2.text v.2.2.at_ hF)
        exact st_le [0, 0, 0, 0] (le_cons rfl (le_cons rfl (le_cons rfl (le_cons rfl (le_cons rfl (le_cons rfl (le_cons rfl (le_cons rfl (le_cons rfl le_nil))))))))) rfl sub_nil
    · intro begin t21 t46 At Code text at_ hF
      unfold F.charset.reader_item_j1 at hF
      refine sat_wc ?_
      refine c_cut (fun E N' => ∀ (hi : Int) (text1 : List UInt8) (at_1 : Int) (At1 : Int) (Code1 : Int), F.charset.reader_item_j2 k v begin hi text1 at_1 At1 Code1 = some r → Sat E [(0, .pointer (some ⟨b, 0, none⟩)), (2, .pointer (some ⟨b1, 0, none⟩)), (3, .pointer (some ⟨b2, 0, none⟩)), (4, .int .i64 begin), (5, .int .i64 v.1), (6, .pointer (some ⟨b3, 0, none⟩)), (7, .int .i64 hi), (21, .bool t21)] [.box b 63 [.string (bs text1), .int .i64 at_1], .box b3 38 [.int .i64 At1, .int .i64 Code1], .box b2 38 [.int .i64 0, .int .i64 0], .box b1 26 [.int .u64 0, .int .u64 0, .int .u64 0, .int .u64 0]] [] N') (fun N2 hN2 => ?_) ?_
      · refine c_cond rfl (fun h5 => ?_) (fun h5 => ?_)
        · replace hF := ite_t h5 hF
          refine c_seq ?_
          refine c_region ?_
          refine o_v (v_move rfl) rfl ?_
          refine o_v (v_nilCheck rfl) rfl ?_
          refine o_v (v_fieldAddr (v := .pointer (some ⟨b, 1, none⟩)) rfl (fun _ => by kernel_rfl)) rfl ?_
          refine o_v (v_load_box 1 ty3 rfl rfl rfl rfl rfl) rfl ?_
          refine o_v (v_bin rfl rfl rfl) rfl ?_
          refine o_v (v_nilCheck rfl) rfl ?_
          refine o_v (v_fieldAddr (v := .pointer (some ⟨b, 1, none⟩)) rfl (fun _ => by kernel_rfl)) rfl ?_
          refine o_store_box 1 rfl ty3 rfl rfl rfl rfl rfl rfl rfl ?_
          refine o_seq ?_
          refine c_seq ?_
          refine c_region ?_
          refine o_v (v_move rfl) rfl ?_
          obtain ⟨v2, h6, hF⟩ := bd hF
          refine o_call [1] call45 rfl rfl rfl sub_nil (cap := #[]) (by rw [show (#[] : Array Value).toList = [] from rfl, List.append_nil]; exact (tri45 (Charset_reader.mk text (IntKind.wrap .i64 (at_ + 1))) b v2 h6)) rfl ?_
          rintro _ _ _ ⟨rfl, rfl, rfl⟩
          refine o_v (v_move rfl) rfl ?_
          refine o_v (v_extract rfl rfl) rfl ?_
          refine o_v (v_extract rfl rfl) rfl ?_
          refine o_v (v_assign rfl) rfl ?_
          refine o_store_box 1 rfl ty38 rfl rfl rfl rfl rfl rfl rfl ?_
          refine o_seq ?_
          refine c_seq ?_
          refine c_region ?_
          refine o_v (v_fieldAddr (v := .pointer (some ⟨b3, 1, none⟩)) rfl (fun _ => by kernel_rfl)) rfl ?_
          refine o_v (v_load_box 1 ty28 rfl rfl rfl rfl rfl) rfl ?_
          refine o_v (v_bin rfl rfl rfl) rfl ?_
          refine o_seq ?_
          refine c_cond rfl (fun h7 => ?_) (fun h7 => ?_)
          · replace hF := ite_t h7 hF
            refine c_seq ?_
            refine c_draw (n := 4) [0, 0] mixed rfl rfl ?_
            refine d_val 0 rfl pnok (by kernel_rfl) (by kernel_rfl) (by kernel_rfl) rfl (v_build (v := .agg #[.int .u64 0, .int .u64 0, .int .u64 0, .int .u64 0]) rfl (fun _ => by kernel_rfl)) ?_
            refine d_val 1 rfl pnok (by kernel_rfl) (by kernel_rfl) (by kernel_rfl) rfl (v_load_box 1 ty38 rfl rfl rfl rfl rfl) ?_
            refine d_one 2 rfl (by kernel_rfl) ?_
            refine o_store_box 3 rfl ty26 rfl rfl rfl rfl rfl rfl rfl ?_
            refine d_next [0, 0] 0 rfl rfl ?_
            refine d_one 3 rfl (by kernel_rfl) ?_
            refine o_store_box 2 rfl ty38 rfl rfl rfl rfl rfl rfl rfl ?_
            refine d_next [0, 0] 0 rfl rfl ?_
            refine d_done_seq (by kernel_rfl) ?_
            refine c_ret ?_
            cases hF
            refine s_ret2 rfl (r_cell 3 rfl ty26 rfl rfl rfl rfl) (r_cell 2 rfl ty38 rfl rfl rfl rfl) fun a w hs => ?_
            exact fin_sel hs [0] ⟨rfl, rfl, rfl⟩ rfl sub_nil
          · replace hF := ite_f h7 hF
            refine c_skip ?_
            refine s_st ?_ (hN2 v2.1 v2.2.2.text v2.2.2.at_ v2.2.1.At v2.2.1.Code hF)
            exact st_le [0, 0, 0, 0] (le_cons rfl (le_cons rfl (le_cons rfl (le_cons rfl (le_cons rfl (le_cons rfl (le_cons rfl (le_cons rfl le_nil)))))))) rfl sub_nil
        · replace hF := ite_f h5 hF
          refine c_skip ?_
          refine s_st ?_ (hN2 v.1 text at_ At Code hF)
          exact st_le [1, 0, 0, 0] (le_cons rfl (le_cons rfl (le_cons rfl (le_cons rfl (le_cons rfl (le_cons rfl (le_cons rfl (le_cons rfl le_nil)))))))) rfl sub_nil
      · intro hi text1 at_1 At1 Code1 hF
        unfold F.charset.reader_item_j2 at hF
        refine sat_wc ?_
        refine c_seq ?_
        refine c_region ?_
        refine o_v (v_move rfl) rfl ?_
        refine o_v (v_move rfl) rfl ?_
        obtain ⟨v1, h3, hF⟩ := bd hF
        refine o_callSB call14 rfl lent_nil (tri14 k v.1 hi v1 h3) rfl ?_
        refine o_v (v_move rfl) rfl ?_
        refine o_v (v_extract rfl rfl) rfl ?_
        refine o_v (v_extract rfl rfl) rfl ?_
        refine o_alloc zero26 rfl rfl fun b4 => ?_
        refine o_store_box 0 rfl ty26 rfl rfl rfl rfl rfl rfl rfl ?_
        refine o_v (v_assign rfl) rfl ?_
        refine o_seq ?_
        refine c_seq ?_
        refine c_seq ?_
        refine c_region ?_
        refine o_v (v_move rfl) rfl ?_
        refine o_v (v_bin rfl rfl rfl) rfl ?_
        refine o_seq ?_
        refine c_cond rfl (fun h4 => ?_) (fun h4 => ?_)
        · replace hF := ite_t h4 hF
          refine c_seq ?_
          refine c_region ?_
          refine o_v (v_build (v := .agg #[.int .u64 0, .int .u64 0, .int .u64 0, .int .u64 0]) rfl (fun _ => by kernel_rfl)) rfl ?_
          refine o_v (v_move rfl) rfl ?_
          refine o_v (v_move rfl) rfl ?_
          refine o_v (v_build (v := .agg #[.int .i64 begin, .int .i64 v1.2]) rfl (fun _ => by kernel_rfl)) rfl ?_
          refine o_store_box 4 rfl ty26 rfl rfl rfl rfl rfl rfl rfl ?_
          refine o_store_box 3 rfl ty38 rfl rfl rfl rfl rfl rfl rfl ?_
          refine o_seq ?_
          refine c_ret ?_
          cases hF
          refine s_ret2 rfl (r_cell 4 rfl ty26 rfl rfl rfl rfl) (r_cell 3 rfl ty38 rfl rfl rfl rfl) fun a w hs => ?_
          exact fin_sel hs [1] ⟨rfl, rfl, rfl⟩ rfl sub_nil
        · replace hF := ite_f h4 hF
          refine c_skip ?_
          refine sat_wc ?_
          refine c_seq ?_
          refine c_region ?_
          refine o_v (v_load_box 0 ty26 rfl rfl rfl rfl rfl) rfl ?_
          refine o_v (v_build (v := .agg #[.int .i64 0, .int .i64 0]) rfl (fun _ => by kernel_rfl)) rfl ?_
          refine o_store_box 4 rfl ty26 rfl rfl rfl rfl rfl rfl rfl ?_
          refine o_store_box 3 rfl ty38 rfl rfl rfl rfl rfl rfl rfl ?_
          refine o_seq ?_
          refine c_ret ?_
          cases hF
          refine s_ret2 rfl (r_cell 4 rfl ty26 rfl rfl rfl rfl) (r_cell 3 rfl ty38 rfl rfl rfl rfl) fun a w hs => ?_
          exact fin_sel hs [1] ⟨rfl, rfl, rfl⟩ rfl sub_nil
theorem tri31 (k : Nat) (a_ : S4) (b : S4) (r : S4) (hF : F.charset.Union k a_ b = some r) :
    Tri Try.prog 31 [.agg #[.int .u64 a_.w0, .int .u64 a_.w1, .int .u64 a_.w2, .int .u64 a_.w3], .agg #[.int .u64 b.w0, .int .u64 b.w1, .int .u64 b.w2, .int .u64 b.w3]] [] [] (fun o H Φ => o = .ret (.agg #[.int .u64 r.w0, .int .u64 r.w1, .int .u64 r.w2, .int .u64 r.w3]) ∧ H = [] ∧ Φ = []) := by
  unfold F.charset.Union at hF
  refine tri_intro (n := 19) Try.func31 rfl Try.ntmps31 rfl fun w X => ?_
  refine c_seq ?_
  refine c_region ?_
  refine o_box rfl rfl rfl fun b1 => ?_
  refine o_box rfl rfl rfl fun b2 => ?_
  refine o_alloc zero26 rfl rfl fun b3 => ?_
  refine o_seq ?_
  refine c_seq ?_
  refine c_seq ?_
  refine c_region ?_
  refine o_v (v_move rfl) rfl ?_
  refine o_seq ?_
  obtain ⟨o1, ho1, hF⟩ := bd hF
  refine c_cut (fun E N' => Sat E [(0, .agg #[.int .u64 a_.w0, .int .u64 a_.w1, .int .u64 a_.w2, .int .u64 a_.w3]), (1, .agg #[.int .u64 b.w0, .int .u64 b.w1, .int .u64 b.w2, .int .u64 b.w3]), (2, .pointer (some ⟨b1, 0, none⟩)), (4, .pointer (some ⟨b3, 0, none⟩))] [.box b3 26 [.int .u64 0, .int .u64 0, .int .u64 0, .int .u64 0], .box b1 26 [.int .u64 o1.w0, .int .u64 o1.w1, .int .u64 o1.w2, .int .u64 o1.w3]] [] N') (fun N1 hN1 => ?_) ?_
  · refine c_block ?_
    refine c_loopE (fun E j a w => ∃ (t6 : Int) (a_1 : S4), F.charset.Union_l1 b j t6 a_1 = some o1 ∧ St E [(0, .agg #[.int .u64 a_.w0, .int .u64 a_.w1, .int .u64 a_.w2, .int .u64 a_.w3]), (1, .agg #[.int .u64 b.w0, .int .u64 b.w1, .int .u64 b.w2, .int .u64 b.w3]), (2, .pointer (some ⟨b1, 0, none⟩)), (3, .pointer (some ⟨b2, 0, none⟩)), (4, .pointer (some ⟨b3, 0, none⟩)), (6, .int .i64 t6)] [.box b3 26 [.int .u64 0, .int .u64 0, .int .u64 0, .int .u64 0], .box b2 26 [.int .u64 b.w0, .int .u64 b.w1, .int .u64 b.w2, .int .u64 b.w3], .box b1 26 [.int .u64 a_1.w0, .int .u64 a_1.w1, .int .u64 a_1.w2, .int .u64 a_1.w3]] [] a w) k ?_ ?_
    · intro a w hs
      exact ⟨0, a_, ho1, st_le [0, 0, 0] (le_cons rfl (le_cons rfl (le_cons rfl (le_cons rfl (le_cons rfl (le_cons rfl le_nil)))))) rfl sub_nil a w hs⟩
    · rintro j a w ⟨t6, a_1, hL1, hs⟩
      cases j with
      | zero => cases hL1
      | succ j =>
        refine wc_app hs ?_
        unfold F.charset.Union_l1 at hL1
        refine c_seq ?_
        refine c_region ?_
        refine o_v (v_bin rfl rfl rfl) rfl ?_
        refine o_seq ?_
        refine c_seq ?_
        refine c_cond rfl (fun h1 => ?_) (fun h1 => ?_)
        · replace hL1 := ite_t h1 hL1
          refine c_skip ?_
          refine sat_wc ?_
          refine c_seq ?_
          refine c_block ?_
          refine c_seq ?_
          refine c_region ?_
          refine o_v (v_move rfl) rfl ?_
          refine o_v (v_assign rfl) rfl ?_
          refine o_seq ?_
          refine c_draw (n := 9) [0, 0] mixed rfl rfl ?_
          refine d_val 0 rfl pnok (by kernel_rfl) (by kernel_rfl) (by kernel_rfl) rfl (v_move rfl) ?_
          refine ite_some hL1 fun h2 hL1 => ?_
          refine d_val 1 rfl pnok (by kernel_rfl) (by kernel_rfl) (by kernel_rfl) rfl (v_indexAddr_a ar26 rfl rfl h2) ?_
          refine d_val 3 rfl pnok (by kernel_rfl) (by kernel_rfl) (by kernel_rfl) rfl (v_move rfl) ?_
          refine d_val 4 rfl pnok (by kernel_rfl) (by kernel_rfl) (by kernel_rfl) rfl (v_indexAddr_a ar26 rfl rfl h2) ?_
          refine d_val 5 rfl pnok (by kernel_rfl) (by kernel_rfl) (by kernel_rfl) rfl (v_load_a 1 b ty24 rfl rfl h2) ?_
          refine d_one 2 rfl (by kernel_rfl) ?_
          refine o_v (v_load_a 2 a_1 ty24 rfl rfl h2) rfl ?_
          refine d_next [0, 0] 0 rfl rfl ?_
          refine d_val 6 rfl pnok (by kernel_rfl) (by kernel_rfl) (by kernel_rfl) rfl (v_bit rfl rfl rfl) ?_
          refine d_val 7 rfl pnok (by kernel_rfl) (by kernel_rfl) (by kernel_rfl) rfl (v_indexAddr_a ar26 rfl rfl h2) ?_
          refine d_one 8 rfl (by kernel_rfl) ?_
          refine o_store_a 2 a_1 rfl ty24 rfl rfl rfl h2 ?_
          refine d_next [0, 0] 0 rfl rfl ?_
          refine d_done (by kernel_rfl) ?_
          refine sat_wc ?_
          refine c_region ?_
          refine o_v (v_bin rfl rfl rfl) rfl ?_
          refine o_v (v_move rfl) rfl ?_
          refine o_nil ?_
          intro a w hs
          exact ⟨j, Nat.lt_succ_self j, IntKind.wrap .i64 (t6 + 1), (S4.set a_1 t6 (gor .u64 (S4.get a_1 t6) (S4.get b t6))), hL1, st_le [0, 0, 0] (le_cons rfl (le_cons rfl (le_cons rfl (le_cons rfl (le_cons rfl (le_cons rfl le_nil)))))) rfl sub_nil a w hs⟩
        · replace hL1 := ite_f h1 hL1
          refine c_exit0 ?_
          cases hL1
          refine s_st ?_ (hN1)
          exact st_le [0, 1] (le_cons rfl (le_cons rfl (le_cons rfl (le_cons rfl le_nil)))) rfl sub_nil
  · refine sat_wc ?_
    refine c_seq ?_
    refine c_region ?_
    refine o_v (v_load_box 1 ty26 rfl rfl rfl rfl rfl) rfl ?_
    refine o_store_box 0 rfl ty26 rfl rfl rfl rfl rfl rfl rfl ?_
    refine o_seq ?_
    refine c_ret ?_
    cases hF
    refine s_ret1 rfl (r_cell 0 rfl ty26 rfl rfl rfl rfl) fun a w hs => ?_
    exact fin_sel hs [] ⟨rfl, rfl, rfl⟩ rfl sub_nil
theorem tri30 (k : Nat) (a_ : S4) (r : S4) (hF : F.charset.Not k a_ = some r) :
    Tri Try.prog 30 [.agg #[.int .u64 a_.w0, .int .u64 a_.w1, .int .u64 a_.w2, .int .u64 a_.w3]] [] [] (fun o H Φ => o = .ret (.agg #[.int .u64 r.w0, .int .u64 r.w1, .int .u64 r.w2, .int .u64 r.w3]) ∧ H = [] ∧ Φ = []) := by
  unfold F.charset.Not at hF
  refine tri_intro (n := 15) Try.func30 rfl Try.ntmps30 rfl fun w X => ?_
  refine c_seq ?_
  refine c_region ?_
  refine o_box rfl rfl rfl fun b => ?_
  refine o_alloc zero26 rfl rfl fun b1 => ?_
  refine o_seq ?_
  refine c_seq ?_
  refine c_seq ?_
  refine c_region ?_
  refine o_v (v_move rfl) rfl ?_
  refine o_seq ?_
  obtain ⟨o1, ho1, hF⟩ := bd hF
  refine c_cut (fun E N' => Sat E [(0, .agg #[.int .u64 a_.w0, .int .u64 a_.w1, .int .u64 a_.w2, .int .u64 a_.w3]), (1, .pointer (some ⟨b, 0, none⟩)), (2, .pointer (some ⟨b1, 0, none⟩))] [.box b1 26 [.int .u64 0, .int .u64 0, .int .u64 0, .int .u64 0], .box b 26 [.int .u64 o1.w0, .int .u64 o1.w1, .int .u64 o1.w2, .int .u64 o1.w3]] [] N') (fun N1 hN1 => ?_) ?_
  · refine c_block ?_
    refine c_loopE (fun E j a w => ∃ (t4 : Int) (a_1 : S4), F.charset.Not_l1 j t4 a_1 = some o1 ∧ St E [(0, .agg #[.int .u64 a_.w0, .int .u64 a_.w1, .int .u64 a_.w2, .int .u64 a_.w3]), (1, .pointer (some ⟨b, 0, none⟩)), (2, .pointer (some ⟨b1, 0, none⟩)), (4, .int .i64 t4)] [.box b1 26 [.int .u64 0, .int .u64 0, .int .u64 0, .int .u64 0], .box b 26 [.int .u64 a_1.w0, .int .u64 a_1.w1, .int .u64 a_1.w2, .int .u64 a_1.w3]] [] a w) k ?_ ?_
    · intro a w hs
      exact ⟨0, a_, ho1, st_le [0, 0] (le_cons rfl (le_cons rfl (le_cons rfl (le_cons rfl le_nil)))) rfl sub_nil a w hs⟩
    · rintro j a w ⟨t4, a_1, hL1, hs⟩
      cases j with
      | zero => cases hL1
      | succ j =>
        refine wc_app hs ?_
        unfold F.charset.Not_l1 at hL1
        refine c_seq ?_
        refine c_region ?_
        refine o_v (v_bin rfl rfl rfl) rfl ?_
        refine o_seq ?_
        refine c_seq ?_
        refine c_cond rfl (fun h1 => ?_) (fun h1 => ?_)
        · replace hL1 := ite_t h1 hL1
          refine c_skip ?_
          refine sat_wc ?_
          refine c_seq ?_
          refine c_block ?_
          refine c_seq ?_
          refine c_region ?_
          refine o_v (v_move rfl) rfl ?_
          refine o_v (v_assign rfl) rfl ?_
          refine o_seq ?_
          refine c_region ?_
          refine o_v (v_move rfl) rfl ?_
          refine o_v (v_move rfl) rfl ?_
          refine ite_some hL1 fun h2 hL1 => ?_
          refine o_v (v_indexAddr_a ar26 rfl rfl h2) rfl ?_
          refine o_v (v_load_a 1 a_1 ty24 rfl rfl h2) rfl ?_
          refine o_v (v_un (v := .int .u64 (gnot .u64 (S4.get a_1 t4))) rfl (fun _ => by kernel_rfl)) rfl ?_
          refine o_v (v_indexAddr_a ar26 rfl rfl h2) rfl ?_
          refine o_store_a 1 a_1 rfl ty24 rfl rfl rfl h2 ?_
          refine o_nil ?_
          refine sat_wc ?_
          refine c_region ?_
          refine o_v (v_bin rfl rfl rfl) rfl ?_
          refine o_v (v_move rfl) rfl ?_
          refine o_nil ?_
          intro a w hs
          exact ⟨j, Nat.lt_succ_self j, IntKind.wrap .i64 (t4 + 1), (S4.set a_1 t4 (gnot .u64 (S4.get a_1 t4))), hL1, st_le [0, 0] (le_cons rfl (le_cons rfl (le_cons rfl (le_cons rfl le_nil)))) rfl sub_nil a w hs⟩
        · replace hL1 := ite_f h1 hL1
          refine c_exit0 ?_
          cases hL1
          refine s_st ?_ (hN1)
          exact st_le [0, 0] (le_cons rfl (le_cons rfl (le_cons rfl le_nil))) rfl sub_nil
  · refine sat_wc ?_
    refine c_seq ?_
    refine c_region ?_
    refine o_v (v_load_box 1 ty26 rfl rfl rfl rfl rfl) rfl ?_
    refine o_store_box 0 rfl ty26 rfl rfl rfl rfl rfl rfl rfl ?_
    refine o_seq ?_
    refine c_ret ?_
    cases hF
    refine s_ret1 rfl (r_cell 0 rfl ty26 rfl rfl rfl rfl) fun a w hs => ?_
    exact fin_sel hs [] ⟨rfl, rfl, rfl⟩ rfl sub_nil
theorem tri21 (k : Nat) (text : List UInt8) (r : S4 × Fault) (hF : F.charset.Parse k text = some r) :
    Tri Try.prog 21 [.string (bs text)] [] [] (fun o H Φ => o = .ret (.tuple #[.agg #[.int .u64 r.1.w0, .int .u64 r.1.w1, .int .u64 r.1.w2, .int .u64 r.1.w3], .agg #[.int .i64 r.2.At, .int .i64 r.2.Code]]) ∧ H = [] ∧ Φ = []) := by
  unfold F.charset.Parse at hF
  refine tri_intro (n := 87) Try.func21 rfl Try.ntmps21 rfl fun w X => ?_
  refine c_seq ?_
  refine c_region ?_
  refine o_alloc zero26 rfl rfl fun b => ?_
  refine o_alloc zero38 rfl rfl fun b1 => ?_
  refine o_seq ?_
  refine c_seq ?_
  refine c_seq ?_
  refine c_region ?_
  refine o_v (v_move rfl) rfl ?_
  refine o_v (v_len_str Try.underlying9 rfl) rfl ?_
  refine o_v (v_bin rfl rfl rfl) rfl ?_
  refine o_seq ?_
  refine c_cond rfl (fun h1 => ?_) (fun h1 => ?_)
  · replace hF := ite_t h1 hF
    refine c_seq ?_
    refine c_region ?_
    refine o_v (v_build (v := .agg #[.int .u64 0, .int .u64 0, .int .u64 0, .int .u64 0]) rfl (fun _ => by kernel_rfl)) rfl ?_
    refine o_v (v_build (v := .agg #[.int .i64 0, .int .i64 2]) rfl (fun _ => by kernel_rfl)) rfl ?_
    refine o_store_box 1 rfl ty26 rfl rfl rfl rfl rfl rfl rfl ?_
    refine o_store_box 0 rfl ty38 rfl rfl rfl rfl rfl rfl rfl ?_
    refine o_seq ?_
    refine c_ret ?_
    cases hF
    refine s_ret2 rfl (r_cell 1 rfl ty26 rfl rfl rfl rfl) (r_cell 0 rfl ty38 rfl rfl rfl rfl) fun a w hs => ?_
    exact fin_sel hs [] ⟨rfl, rfl, rfl⟩ rfl sub_nil
  · replace hF := ite_f h1 hF
    refine c_skip ?_
    refine sat_wc ?_
    refine c_seq ?_
    refine c_seq ?_
    refine c_cut (fun E N' => ∀ (t20 : Bool), F.charset.Parse_j1 k text t20 = some r → Sat E [(0, .string (bs text)), (2, .pointer (some ⟨b, 0, none⟩)), (3, .pointer (some ⟨b1, 0, none⟩)), (11, .bool (decide (65536 < (text.length : Int)))), (20, .bool t20)] [.box b1 38 [.int .i64 0, .int .i64 0], .box b 26 [.int .u64 0, .int .u64 0, .int .u64 0, .int .u64 0]] [] N') (fun N5 hN5 => ?_) ?_
    · refine c_region ?_
      refine o_v (v_move rfl) rfl ?_
      refine o_v (v_streq rfl rfl) rfl ?_
      refine o_v (v_move rfl) rfl ?_
      refine o_split (t := 16) rfl (fun h15 => ?_) (fun h15 => ?_)
      · replace hF := ite_t h15 hF
        refine o_off rfl rfl (by decide) rfl ?_
        refine o_off rfl rfl (by decide) rfl ?_
        refine o_off rfl rfl (by decide) rfl ?_
        refine o_v (v_pick_t rfl rfl) rfl ?_
        refine o_nil ?_
        refine s_st ?_ (hN5 true hF)
        exact st_le [0, 0] (le_cons rfl (le_cons rfl (le_cons rfl (le_cons rfl (le_cons rfl le_nil))))) rfl sub_nil
      · replace hF := ite_f h15 hF
        refine o_on rfl rfl ?_
        refine o_v (v_move rfl) rfl ?_
        refine o_on rfl rfl ?_
        refine ite_some hF fun h16 hF => ?_
        refine o_v (v_sindex Try.underlying9 rfl rfl h16) rfl ?_
        refine o_on rfl rfl ?_
        refine o_v (v_bin rfl rfl rfl) rfl ?_
        refine o_v (v_pick_f rfl rfl) rfl ?_
        refine o_nil ?_
        refine s_st ?_ (hN5 ((sAt text 0) != 91) hF)
        exact st_le [0, 0] (le_cons rfl (le_cons rfl (le_cons rfl (le_cons rfl (le_cons rfl le_nil))))) rfl sub_nil
    · intro t20 hF
      unfold F.charset.Parse_j1 at hF
      refine sat_wc ?_
      refine c_cond rfl (fun h2 => ?_) (fun h2 => ?_)
      · replace hF := ite_t h2 hF
        refine c_seq ?_
        refine c_region ?_
        refine o_v (v_build (v := .agg #[.int .u64 0, .int .u64 0, .int .u64 0, .int .u64 0]) rfl (fun _ => by kernel_rfl)) rfl ?_
        refine o_v (v_build (v := .agg #[.int .i64 0, .int .i64 13]) rfl (fun _ => by kernel_rfl)) rfl ?_
        refine o_store_box 1 rfl ty26 rfl rfl rfl rfl rfl rfl rfl ?_
        refine o_store_box 0 rfl ty38 rfl rfl rfl rfl rfl rfl rfl ?_
        refine o_seq ?_
        refine c_ret ?_
        cases hF
        refine s_ret2 rfl (r_cell 1 rfl ty26 rfl rfl rfl rfl) (r_cell 0 rfl ty38 rfl rfl rfl rfl) fun a w hs => ?_
        exact fin_sel hs [] ⟨rfl, rfl, rfl⟩ rfl sub_nil
      · replace hF := ite_f h2 hF
        refine c_skip ?_
        refine sat_wc ?_
        refine c_seq ?_
        refine c_region ?_
        refine o_v (v_move rfl) rfl ?_
        refine o_v (v_build (v := .agg #[.string (bs text), .int .i64 1]) rfl (fun _ => by kernel_rfl)) rfl ?_
        refine o_box rfl rfl rfl fun b2 => ?_
        refine o_v (v_assign rfl) rfl ?_
        refine o_seq ?_
        refine c_seq ?_
        refine c_cut (fun E N' => ∀ (not : Bool), F.charset.Parse_j2 k text not = some r → Sat E [(0, .string (bs text)), (2, .pointer (some ⟨b, 0, none⟩)), (3, .pointer (some ⟨b1, 0, none⟩)), (4, .pointer (some ⟨b2, 0, none⟩)), (5, .bool not), (11, .bool (decide (65536 < (text.length : Int)))), (20, .bool t20)] [.box b2 63 [.string (bs text), .int .i64 1], .box b1 38 [.int .i64 0, .int .i64 0], .box b 26 [.int .u64 0, .int .u64 0, .int .u64 0, .int .u64 0]] [] N') (fun N5 hN5 => ?_) ?_
        · refine c_region ?_
          refine o_v (v_move rfl) rfl ?_
          refine o_v (v_len_str Try.underlying9 rfl) rfl ?_
          refine o_v (v_bin rfl rfl rfl) rfl ?_
          refine o_v (v_move rfl) rfl ?_
          refine o_split (t := 29) rfl (fun h13 => ?_) (fun h13 => ?_)
          · replace hF := ite_t h13 hF
            refine o_on rfl rfl ?_
            refine o_v (v_move rfl) rfl ?_
            refine o_on rfl rfl ?_
            refine ite_some hF fun h14 hF => ?_
            refine o_v (v_sindex Try.underlying9 rfl rfl h14) rfl ?_
            refine o_on rfl rfl ?_
            refine o_v (v_bin rfl rfl rfl) rfl ?_
            refine o_v (v_pick_t rfl rfl) rfl ?_
            refine o_v (v_assign rfl) rfl ?_
            refine o_nil ?_
            refine s_st ?_ (hN5 ((sAt text 1) == 94) hF)
            exact st_le [0, 0, 0] (le_cons rfl (le_cons rfl (le_cons rfl (le_cons rfl (le_cons rfl (le_cons rfl (le_cons rfl le_nil))))))) rfl sub_nil
          · replace hF := ite_f h13 hF
            refine o_off rfl rfl (by decide) rfl ?_
            refine o_off rfl rfl (by decide) rfl ?_
            refine o_off rfl rfl (by decide) rfl ?_
            refine o_v (v_pick_f rfl rfl) rfl ?_
            refine o_v (v_assign rfl) rfl ?_
            refine o_nil ?_
            refine s_st ?_ (hN5 false hF)
            exact st_le [0, 0, 0] (le_cons rfl (le_cons rfl (le_cons rfl (le_cons rfl (le_cons rfl (le_cons rfl (le_cons rfl le_nil))))))) rfl sub_nil
        · intro not hF
          unfold F.charset.Parse_j2 at hF
          refine sat_wc ?_
          refine c_seq ?_
          refine c_seq ?_
          refine c_region ?_
          refine o_v (v_move rfl) rfl ?_
          refine o_seq ?_
          refine c_cut (fun E N' => ∀ (at_ : Int), F.charset.Parse_j3 k text not at_ = some r → Sat E [(0, .string (bs text)), (2, .pointer (some ⟨b, 0, none⟩)), (3, .pointer (some ⟨b1, 0, none⟩)), (4, .pointer (some ⟨b2, 0, none⟩)), (5, .bool not), (11, .bool (decide (65536 < (text.length : Int)))), (20, .bool t20)] [.box b2 63 [.string (bs text), .int .i64 at_], .box b1 38 [.int .i64 0, .int .i64 0], .box b 26 [.int .u64 0, .int .u64 0, .int .u64 0, .int .u64 0]] [] N') (fun N5 hN5 => ?_) ?_
          · refine c_cond rfl (fun h12 => ?_) (fun h12 => ?_)
            · replace hF := ite_t h12 hF
              refine c_region ?_
              refine o_v (v_move rfl) rfl ?_
              refine o_v (v_nilCheck rfl) rfl ?_
              refine o_v (v_fieldAddr (v := .pointer (some ⟨b2, 1, none⟩)) rfl (fun _ => by kernel_rfl)) rfl ?_
              refine o_store_box 0 rfl ty3 rfl rfl rfl rfl rfl rfl rfl ?_
              refine o_nil ?_
              refine s_st ?_ (hN5 2 hF)
              exact st_le [0, 0, 0] (le_cons rfl (le_cons rfl (le_cons rfl (le_cons rfl (le_cons rfl (le_cons rfl (le_cons rfl le_nil))))))) rfl sub_nil
            · replace hF := ite_f h12 hF
              refine c_skip ?_
              refine s_st ?_ (hN5 1 hF)
              exact st_le [0, 0, 0] (le_cons rfl (le_cons rfl (le_cons rfl (le_cons rfl (le_cons rfl (le_cons rfl (le_cons rfl le_nil))))))) rfl sub_nil
          · intro at_ hF
            unfold F.charset.Parse_j3 at hF
            refine sat_wc ?_
            refine c_seq ?_
            refine c_region ?_
            refine o_alloc zero26 rfl rfl fun b3 => ?_
            refine o_seq ?_
            refine c_seq ?_
            obtain ⟨o4, ho4, hF⟩ := bd hF
            refine c_cut (fun E N' => ∀ (d4 : S4 × (List UInt8) × Int), o4 = .done d4 → Sat E [(0, .string (bs text)), (2, .pointer (some ⟨b, 0, none⟩)), (3, .pointer (some ⟨b1, 0, none⟩)), (4, .pointer (some ⟨b2, 0, none⟩)), (5, .bool not), (6, .pointer (some ⟨b3, 0, none⟩)), (11, .bool (decide (65536 < (text.length : Int)))), (20, .bool t20)] [.box b3 26 [.int .u64 d4.1.w0, .int .u64 d4.1.w1, .int .u64 d4.1.w2, .int .u64 d4.1.w3], .box b2 63 [.string (bs d4.2.1), .int .i64 d4.2.2], .box b1 38 [.int .i64 0, .int .i64 0], .box b 26 [.int .u64 0, .int .u64 0, .int .u64 0, .int .u64 0]] [] N') (fun N4 hN4 => ?_) ?_
            · refine c_block ?_
              refine c_loopE (fun E j a w => ∃ (out : S4) (text1 : List UInt8) (at_1 : Int), F.charset.Parse_l4 k text at_ j out text1 at_1 = some o4 ∧ St E [(0, .string (bs text)), (2, .pointer (some ⟨b, 0, none⟩)), (3, .pointer (some ⟨b1, 0, none⟩)), (4, .pointer (some ⟨b2, 0, none⟩)), (5, .bool not), (6, .pointer (some ⟨b3, 0, none⟩)), (11, .bool (decide (65536 < (text.length : Int)))), (20, .bool t20)] [.box b3 26 [.int .u64 out.w0, .int .u64 out.w1, .int .u64 out.w2, .int .u64 out.w3], .box b2 63 [.string (bs text1), .int .i64 at_1], .box b1 38 [.int .i64 0, .int .i64 0], .box b 26 [.int .u64 0, .int .u64 0, .int .u64 0, .int .u64 0]] [] a w) k ?_ ?_
              · intro a w hs
                exact ⟨(S4.mk 0 0 0 0), text, at_, ho4, st_le [0, 0, 0, 0] (le_cons rfl (le_cons rfl (le_cons rfl (le_cons rfl (le_cons rfl (le_cons rfl (le_cons rfl (le_cons rfl le_nil)))))))) rfl sub_nil a w hs⟩
              · rintro j a w ⟨out, text1, at_1, hL4, hs⟩
                cases j with
                | zero => cases hL4
                | succ j =>
                  refine wc_app hs ?_
                  unfold F.charset.Parse_l4 at hL4
                  refine c_seq ?_
                  refine c_seq ?_
                  refine c_cut (fun E N' => ∀ (t53 : Bool), F.charset.Parse_j5 k text1 at_1 out (F.charset.Parse_l4 k text at_ j) text at_ t53 = some o4 → Sat E [(0, .string (bs text)), (2, .pointer (some ⟨b, 0, none⟩)), (3, .pointer (some ⟨b1, 0, none⟩)), (4, .pointer (some ⟨b2, 0, none⟩)), (5, .bool not), (6, .pointer (some ⟨b3, 0, none⟩)), (11, .bool (decide (65536 < (text.length : Int)))), (20, .bool t20), (53, .bool t53)] [.box b3 26 [.int .u64 out.w0, .int .u64 out.w1, .int .u64 out.w2, .int .u64 out.w3], .box b2 63 [.string (bs text1), .int .i64 at_1], .box b1 38 [.int .i64 0, .int .i64 0], .box b 26 [.int .u64 0, .int .u64 0, .int .u64 0, .int .u64 0]] [] N') (fun N5 hN5 => ?_) ?_
                  · refine c_region ?_
                    refine o_v (v_move rfl) rfl ?_
                    refine o_v (v_nilCheck rfl) rfl ?_
                    refine o_v (v_fieldAddr (v := .pointer (some ⟨b2, 1, none⟩)) rfl (fun _ => by kernel_rfl)) rfl ?_
                    refine o_v (v_load_box 1 ty3 rfl rfl rfl rfl rfl) rfl ?_
                    refine o_v (v_move rfl) rfl ?_
                    refine o_v (v_len_str Try.underlying9 rfl) rfl ?_
                    refine o_v (v_bin rfl rfl rfl) rfl ?_
                    refine o_v (v_move rfl) rfl ?_
                    refine o_split (t := 45) rfl (fun h7 => ?_) (fun h7 => ?_)
                    · replace hL4 := ite_t h7 hL4
                      refine o_off rfl rfl (by decide) rfl ?_
                      refine o_off rfl rfl (by decide) rfl ?_
                      refine o_off rfl rfl (by decide) rfl ?_
                      refine o_off rfl rfl (by decide) rfl ?_
                      refine o_off rfl rfl (by decide) rfl ?_
                      refine o_off rfl rfl (by decide) rfl ?_
                      refine o_off rfl rfl (by decide) rfl ?_
                      refine o_v (v_pick_t rfl rfl) rfl ?_
                      refine o_nil ?_
                      refine s_st ?_ (hN5 true hL4)
                      exact st_le [0, 0, 0, 0] (le_cons rfl (le_cons rfl (le_cons rfl (le_cons rfl (le_cons rfl (le_cons rfl (le_cons rfl (le_cons rfl (le_cons rfl le_nil))))))))) rfl sub_nil
                    · replace hL4 := ite_f h7 hL4
                      refine o_on rfl rfl ?_
                      refine o_v (v_move rfl) rfl ?_
                      refine o_on rfl rfl ?_
                      refine o_v (v_move rfl) rfl ?_
                      refine o_on rfl rfl ?_
                      refine o_v (v_nilCheck rfl) rfl ?_
                      refine o_on rfl rfl ?_
                      refine o_v (v_fieldAddr (v := .pointer (some ⟨b2, 1, none⟩)) rfl (fun _ => by kernel_rfl)) rfl ?_
                      refine o_on rfl rfl ?_
                      refine o_v (v_load_box 1 ty3 rfl rfl rfl rfl rfl) rfl ?_
                      refine o_on rfl rfl ?_
                      refine ite_some hL4 fun h8 hL4 => ?_
                      refine o_v (v_sindex Try.underlying9 rfl rfl h8) rfl ?_
                      refine o_on rfl rfl ?_
                      refine o_v (v_bin rfl rfl rfl) rfl ?_
                      refine o_v (v_pick_f rfl rfl) rfl ?_
                      refine o_nil ?_
                      refine s_st ?_ (hN5 ((sAt text at_1) != 93) hL4)
                      exact st_le [0, 0, 0, 0] (le_cons rfl (le_cons rfl (le_cons rfl (le_cons rfl (le_cons rfl (le_cons rfl (le_cons rfl (le_cons rfl (le_cons rfl le_nil))))))))) rfl sub_nil
                  · intro t53 hL4
                    unfold F.charset.Parse_j5 at hL4
                    refine sat_wc ?_
                    refine c_cond rfl (fun h3 => ?_) (fun h3 => ?_)
                    · replace hL4 := ite_t h3 hL4
                      refine c_skip ?_
                      refine sat_wc ?_
                      refine c_block ?_
                      refine c_seq ?_
                      refine c_region ?_
                      refine o_v (v_move rfl) rfl ?_
                      obtain ⟨v, h4, hL4⟩ := bd hL4
                      refine o_call [1] call40 rfl rfl rfl sub_nil (cap := #[]) (by rw [show (#[] : Array Value).toList = [] from rfl, List.append_nil]; exact (tri40 k (Charset_reader.mk text1 at_1) b2 v h4)) rfl ?_
                      rintro _ _ _ ⟨rfl, rfl, rfl⟩
                      refine o_v (v_move rfl) rfl ?_
                      refine o_v (v_extract rfl rfl) rfl ?_
                      refine o_v (v_extract rfl rfl) rfl ?_
                      refine o_alloc zero26 rfl rfl fun b4 => ?_
                      refine o_alloc zero38 rfl rfl fun b5 => ?_
                      refine o_store_box 1 rfl ty26 rfl rfl rfl rfl rfl rfl rfl ?_
                      refine o_store_box 0 rfl ty38 rfl rfl rfl rfl rfl rfl rfl ?_
                      refine o_seq ?_
                      refine c_seq ?_
                      refine c_seq ?_
                      refine c_region ?_
                      refine o_v (v_fieldAddr (v := .pointer (some ⟨b5, 1, none⟩)) rfl (fun _ => by kernel_rfl)) rfl ?_
                      refine o_v (v_load_box 0 ty28 rfl rfl rfl rfl rfl) rfl ?_
                      refine o_v (v_bin rfl rfl rfl) rfl ?_
                      refine o_seq ?_
                      refine c_cond rfl (fun h5 => ?_) (fun h5 => ?_)
                      · replace hL4 := ite_t h5 hL4
                        refine c_seq ?_
                        refine c_draw (n := 4) [0, 0, 0, 0] mixed rfl rfl ?_
                        refine d_val 0 rfl pnok (by kernel_rfl) (by kernel_rfl) (by kernel_rfl) rfl (v_build (v := .agg #[.int .u64 0, .int .u64 0, .int .u64 0, .int .u64 0]) rfl (fun _ => by kernel_rfl)) ?_
                        refine d_val 1 rfl pnok (by kernel_rfl) (by kernel_rfl) (by kernel_rfl) rfl (v_load_box 0 ty38 rfl rfl rfl rfl rfl) ?_
                        refine d_one 2 rfl (by kernel_rfl) ?_
                        refine o_store_box 5 rfl ty26 rfl rfl rfl rfl rfl rfl rfl ?_
                        refine d_next [0, 0, 0, 0] 0 rfl rfl ?_
                        refine d_one 3 rfl (by kernel_rfl) ?_
                        refine o_store_box 4 rfl ty38 rfl rfl rfl rfl rfl rfl rfl ?_
                        refine d_next [0, 0, 0, 0] 0 rfl rfl ?_
                        refine d_done_seq (by kernel_rfl) ?_
                        refine c_ret ?_
                        cases hL4
                        obtain rfl := lrf_ret hF
                        refine s_ret2 rfl (r_cell 5 rfl ty26 rfl rfl rfl rfl) (r_cell 4 rfl ty38 rfl rfl rfl rfl) fun a w hs => ?_
                        exact fin_sel hs [] ⟨rfl, rfl, rfl⟩ rfl sub_nil
                      · replace hL4 := ite_f h5 hL4
                        refine c_skip ?_
                        refine sat_wc ?_
                        refine c_region ?_
                        refine o_v (v_load_box 3 ty26 rfl rfl rfl rfl rfl) rfl ?_
                        refine o_v (v_load_box 1 ty26 rfl rfl rfl rfl rfl) rfl ?_
                        obtain ⟨v1, h6, hL4⟩ := bd hL4
                        refine o_callSB call31 rfl lent_nil (tri31 k out v.1 v1 h6) rfl ?_
                        refine o_store_box 3 rfl ty26 rfl rfl rfl rfl rfl rfl rfl ?_
                        refine o_nil ?_
                        intro a w hs
                        exact ⟨j, Nat.lt_succ_self j, v1, v.2.2.text, v.2.2.at_, hL4, st_le [3, 2, 2, 2] (le_cons rfl (le_cons rfl (le_cons rfl (le_cons rfl (le_cons rfl (le_cons rfl (le_cons rfl (le_cons rfl le_nil)))))))) rfl sub_nil a w hs⟩
                    · replace hL4 := ite_f h3 hL4
                      refine c_exit0 ?_
                      cases hL4
                      refine s_st ?_ (hN4 (out, text1, at_1) rfl)
                      exact st_le [0, 0, 0, 0] (le_cons rfl (le_cons rfl (le_cons rfl (le_cons rfl (le_cons rfl (le_cons rfl (le_cons rfl (le_cons rfl le_nil)))))))) rfl sub_nil
            · intro d4 hd
              subst hd
              replace hF := lrf_done hF
              refine sat_wc ?_
              refine c_seq ?_
              refine c_seq ?_
              refine c_region ?_
              refine o_v (v_move rfl) rfl ?_
              refine o_v (v_nilCheck rfl) rfl ?_
              refine o_v (v_fieldAddr (v := .pointer (some ⟨b2, 1, none⟩)) rfl (fun _ => by kernel_rfl)) rfl ?_
              refine o_v (v_load_box 1 ty3 rfl rfl rfl rfl rfl) rfl ?_
              refine o_v (v_bin rfl rfl rfl) rfl ?_
              refine o_v (v_move rfl) rfl ?_
              refine o_v (v_len_str Try.underlying9 rfl) rfl ?_
              refine o_v (v_bin rfl rfl rfl) rfl ?_
              refine o_seq ?_
              refine c_cond rfl (fun h9 => ?_) (fun h9 => ?_)
              · replace hF := ite_t h9 hF
                refine c_seq ?_
                refine c_draw (n := 9) [0, 0] mixed rfl rfl ?_
                refine d_val 0 rfl pnok (by kernel_rfl) (by kernel_rfl) (by kernel_rfl) rfl (v_build (v := .agg #[.int .u64 0, .int .u64 0, .int .u64 0, .int .u64 0]) rfl (fun _ => by kernel_rfl)) ?_
                refine d_val 1 rfl pnok (by kernel_rfl) (by kernel_rfl) (by kernel_rfl) rfl (v_move rfl) ?_
                refine d_val 2 rfl pnok (by kernel_rfl) (by kernel_rfl) (by kernel_rfl) rfl (v_nilCheck rfl) ?_
                refine d_val 3 rfl pnok (by kernel_rfl) (by kernel_rfl) (by kernel_rfl) rfl (v_fieldAddr (v := .pointer (some ⟨b2, 1, none⟩)) rfl (fun _ => by kernel_rfl)) ?_
                refine d_val 4 rfl pnok (by kernel_rfl) (by kernel_rfl) (by kernel_rfl) rfl (v_load_box 1 ty3 rfl rfl rfl rfl rfl) ?_
                refine d_val 5 rfl pnok (by kernel_rfl) (by kernel_rfl) (by kernel_rfl) rfl (v_bin rfl rfl rfl) ?_
                refine d_val 6 rfl pnok (by kernel_rfl) (by kernel_rfl) (by kernel_rfl) rfl (v_build (v := .agg #[.int .i64 (IntKind.wrap .i64 (d4.2.2 + 1)), .int .i64 15]) rfl (fun _ => by kernel_rfl)) ?_
                refine d_one 7 rfl (by kernel_rfl) ?_
                refine o_store_box 3 rfl ty26 rfl rfl rfl rfl rfl rfl rfl ?_
                refine d_next [0, 0] 0 rfl rfl ?_
                refine d_one 8 rfl (by kernel_rfl) ?_
                refine o_store_box 2 rfl ty38 rfl rfl rfl rfl rfl rfl rfl ?_
                refine d_next [0, 0] 0 rfl rfl ?_
                refine d_done_seq (by kernel_rfl) ?_
                refine c_ret ?_
                cases hF
                refine s_ret2 rfl (r_cell 3 rfl ty26 rfl rfl rfl rfl) (r_cell 2 rfl ty38 rfl rfl rfl rfl) fun a w hs => ?_
                exact fin_sel hs [] ⟨rfl, rfl, rfl⟩ rfl sub_nil
              · replace hF := ite_f h9 hF
                refine c_skip ?_
                refine sat_wc ?_
                refine c_seq ?_
                refine c_seq ?_
                refine c_region ?_
                refine o_v (v_move rfl) rfl ?_
                refine o_seq ?_
                refine c_cond rfl (fun h10 => ?_) (fun h10 => ?_)
                · replace hF := ite_t h10 hF
                  refine c_region ?_
                  refine o_v (v_load_box 0 ty26 rfl rfl rfl rfl rfl) rfl ?_
                  obtain ⟨v2, h11, hF⟩ := bd hF
                  refine o_callSB call30 rfl lent_nil (tri30 k d4.1 v2 h11) rfl ?_
                  refine o_store_box 0 rfl ty26 rfl rfl rfl rfl rfl rfl rfl ?_
                  refine o_seq ?_
                  refine c_seq ?_
                  refine c_region ?_
                  refine o_v (v_load_box 0 ty26 rfl rfl rfl rfl rfl) rfl ?_
                  refine o_v (v_build (v := .agg #[.int .i64 0, .int .i64 0]) rfl (fun _ => by kernel_rfl)) rfl ?_
                  refine o_store_box 3 rfl ty26 rfl rfl rfl rfl rfl rfl rfl ?_
                  refine o_store_box 2 rfl ty38 rfl rfl rfl rfl rfl rfl rfl ?_
                  refine o_seq ?_
                  refine c_ret ?_
                  cases hF
                  refine s_ret2 rfl (r_cell 3 rfl ty26 rfl rfl rfl rfl) (r_cell 2 rfl ty38 rfl rfl rfl rfl) fun a w hs => ?_
                  exact fin_sel hs [] ⟨rfl, rfl, rfl⟩ rfl sub_nil
                · replace hF := ite_f h10 hF
                  refine c_skip ?_
                  refine sat_wc ?_
                  refine c_seq ?_
                  refine c_region ?_
                  refine o_v (v_load_box 0 ty26 rfl rfl rfl rfl rfl) rfl ?_
                  refine o_v (v_build (v := .agg #[.int .i64 0, .int .i64 0]) rfl (fun _ => by kernel_rfl)) rfl ?_
                  refine o_store_box 3 rfl ty26 rfl rfl rfl rfl rfl rfl rfl ?_
                  refine o_store_box 2 rfl ty38 rfl rfl rfl rfl rfl rfl rfl ?_
                  refine o_seq ?_
                  refine c_ret ?_
                  cases hF
                  refine s_ret2 rfl (r_cell 3 rfl ty26 rfl rfl rfl rfl) (r_cell 2 rfl ty38 rfl rfl rfl rfl) fun a w hs => ?_
                  exact fin_sel hs [] ⟨rfl, rfl, rfl⟩ rfl sub_nil
theorem tri43 (x : Int) (r : Int) (hF : F.bits.OnesCount64 x = some r) :
    Tri Try.prog 43 [.int .u64 x] [] [] (fun o H Φ => o = .ret (.int .i64 r) ∧ H = [] ∧ Φ = []) := by
  unfold F.bits.OnesCount64 at hF
  refine tri_intro (n := 35) Try.func43 rfl Try.ntmps43 rfl fun w X => ?_
  refine c_seq ?_
  refine c_region ?_
  refine o_v (v_assign rfl) rfl ?_
  refine o_seq ?_
  refine c_seq ?_
  refine c_region ?_
  refine o_v (v_move rfl) rfl ?_
  refine o_v (v_shr rfl rfl rfl) rfl ?_
  refine o_v (v_bit rfl rfl rfl) rfl ?_
  refine o_v (v_move rfl) rfl ?_
  refine o_v (v_bit rfl rfl rfl) rfl ?_
  refine o_v (v_bin rfl rfl rfl) rfl ?_
  refine o_v (v_assign rfl) rfl ?_
  refine o_seq ?_
  refine c_seq ?_
  refine c_region ?_
  refine o_v (v_move rfl) rfl ?_
  refine o_v (v_shr rfl rfl rfl) rfl ?_
  refine o_v (v_bit rfl rfl rfl) rfl ?_
  refine o_v (v_move rfl) rfl ?_
  refine o_v (v_bit rfl rfl rfl) rfl ?_
  refine o_v (v_bin rfl rfl rfl) rfl ?_
  refine o_v (v_assign rfl) rfl ?_
  refine o_seq ?_
  refine c_seq ?_
  refine c_region ?_
  refine o_v (v_move rfl) rfl ?_
  refine o_v (v_shr rfl rfl rfl) rfl ?_
  refine o_v (v_move rfl) rfl ?_
  refine o_v (v_bin rfl rfl rfl) rfl ?_
  refine o_v (v_bit rfl rfl rfl) rfl ?_
  refine o_v (v_assign rfl) rfl ?_
  refine o_seq ?_
  refine c_seq ?_
  refine c_region ?_
  refine o_v (v_move rfl) rfl ?_
  refine o_v (v_move rfl) rfl ?_
  refine o_v (v_shr rfl rfl rfl) rfl ?_
  refine o_v (v_bin rfl rfl rfl) rfl ?_
  refine o_v (v_assign rfl) rfl ?_
  refine o_seq ?_
  refine c_seq ?_
  refine c_region ?_
  refine o_v (v_move rfl) rfl ?_
  refine o_v (v_move rfl) rfl ?_
  refine o_v (v_shr rfl rfl rfl) rfl ?_
  refine o_v (v_bin rfl rfl rfl) rfl ?_
  refine o_v (v_assign rfl) rfl ?_
  refine o_seq ?_
  refine c_seq ?_
  refine c_region ?_
  refine o_v (v_move rfl) rfl ?_
  refine o_v (v_move rfl) rfl ?_
  refine o_v (v_shr rfl rfl rfl) rfl ?_
  refine o_v (v_bin rfl rfl rfl) rfl ?_
  refine o_v (v_assign rfl) rfl ?_
  refine o_seq ?_
  refine c_seq ?_
  refine c_region ?_
  refine o_v (v_move rfl) rfl ?_
  refine o_v (v_convert (v := .int .i64 (IntKind.wrap .i64 (IntKind.wrap .u64 ((IntKind.wrap .u64 ((IntKind.wrap .u64 ((gand .u64 (IntKind.wrap .u64 ((gshr .u64 (IntKind.wrap .u64 ((gand .u64 (gshr .u64 (IntKind.wrap .u64 ((gand .u64 (gshr .u64 x 1) 6148914691236517205) + (gand .u64 x 6148914691236517205))) 2) 3689348814741910323) + (gand .u64 (IntKind.wrap .u64 ((gand .u64 (gshr .u64 x 1) 6148914691236517205) + (gand .u64 x 6148914691236517205))) 3689348814741910323))) 4) + (IntKind.wrap .u64 ((gand .u64 (gshr .u64 (IntKind.wrap .u64 ((gand .u64 (gshr .u64 x 1) 6148914691236517205) + (gand .u64 x 6148914691236517205))) 2) 3689348814741910323) + (gand .u64 (IntKind.wrap .u64 ((gand .u64 (gshr .u64 x 1) 6148914691236517205) + (gand .u64 x 6148914691236517205))) 3689348814741910323))))) 1085102592571150095) + (gshr .u64 (gand .u64 (IntKind.wrap .u64 ((gshr .u64 (IntKind.wrap .u64 ((gand .u64 (gshr .u64 (IntKind.wrap .u64 ((gand .u64 (gshr .u64 x 1) 6148914691236517205) + (gand .u64 x 6148914691236517205))) 2) 3689348814741910323) + (gand .u64 (IntKind.wrap .u64 ((gand .u64 (gshr .u64 x 1) 6148914691236517205) + (gand .u64 x 6148914691236517205))) 3689348814741910323))) 4) + (IntKind.wrap .u64 ((gand .u64 (gshr .u64 (IntKind.wrap .u64 ((gand .u64 (gshr .u64 x 1) 6148914691236517205) + (gand .u64 x 6148914691236517205))) 2) 3689348814741910323) + (gand .u64 (IntKind.wrap .u64 ((gand .u64 (gshr .u64 x 1) 6148914691236517205) + (gand .u64 x 6148914691236517205))) 3689348814741910323))))) 1085102592571150095) 8))) + (gshr .u64 (IntKind.wrap .u64 ((gand .u64 (IntKind.wrap .u64 ((gshr .u64 (IntKind.wrap .u64 ((gand .u64 (gshr .u64 (IntKind.wrap .u64 ((gand .u64 (gshr .u64 x 1) 6148914691236517205) + (gand .u64 x 6148914691236517205))) 2) 3689348814741910323) + (gand .u64 (IntKind.wrap .u64 ((gand .u64 (gshr .u64 x 1) 6148914691236517205) + (gand .u64 x 6148914691236517205))) 3689348814741910323))) 4) + (IntKind.wrap .u64 ((gand .u64 (gshr .u64 (IntKind.wrap .u64 ((gand .u64 (gshr .u64 x 1) 6148914691236517205) + (gand .u64 x 6148914691236517205))) 2) 3689348814741910323) + (gand .u64 (IntKind.wrap .u64 ((gand .u64 (gshr .u64 x 1) 6148914691236517205) + (gand .u64 x 6148914691236517205))) 3689348814741910323))))) 1085102592571150095) + (gshr .u64 (gand .u64 (IntKind.wrap .u64 ((gshr .u64 (IntKind.wrap .u64 ((gand .u64 (gshr .u64 (IntKind.wrap .u64 ((gand .u64 (gshr .u64 x 1) 6148914691236517205) + (gand .u64 x 6148914691236517205))) 2) 3689348814741910323) + (gand .u64 (IntKind.wrap .u64 ((gand .u64 (gshr .u64 x 1) 6148914691236517205) + (gand .u64 x 6148914691236517205))) 3689348814741910323))) 4) + (IntKind.wrap .u64 ((gand .u64 (gshr .u64 (IntKind.wrap .u64 ((gand .u64 (gshr .u64 x 1) 6148914691236517205) + (gand .u64 x 6148914691236517205))) 2) 3689348814741910323) + (gand .u64 (IntKind.wrap .u64 ((gand .u64 (gshr .u64 x 1) 6148914691236517205) + (gand .u64 x 6148914691236517205))) 3689348814741910323))))) 1085102592571150095) 8))) 16))) + (gshr .u64 (IntKind.wrap .u64 ((IntKind.wrap .u64 ((gand .u64 (IntKind.wrap .u64 ((gshr .u64 (IntKind.wrap .u64 ((gand .u64 (gshr .u64 (IntKind.wrap .u64 ((gand .u64 (gshr .u64 x 1) 6148914691236517205) + (gand .u64 x 6148914691236517205))) 2) 3689348814741910323) + (gand .u64 (IntKind.wrap .u64 ((gand .u64 (gshr .u64 x 1) 6148914691236517205) + (gand .u64 x 6148914691236517205))) 3689348814741910323))) 4) + (IntKind.wrap .u64 ((gand .u64 (gshr .u64 (IntKind.wrap .u64 ((gand .u64 (gshr .u64 x 1) 6148914691236517205) + (gand .u64 x 6148914691236517205))) 2) 3689348814741910323) + (gand .u64 (IntKind.wrap .u64 ((gand .u64 (gshr .u64 x 1) 6148914691236517205) + (gand .u64 x 6148914691236517205))) 3689348814741910323))))) 1085102592571150095) + (gshr .u64 (gand .u64 (IntKind.wrap .u64 ((gshr .u64 (IntKind.wrap .u64 ((gand .u64 (gshr .u64 (IntKind.wrap .u64 ((gand .u64 (gshr .u64 x 1) 6148914691236517205) + (gand .u64 x 6148914691236517205))) 2) 3689348814741910323) + (gand .u64 (IntKind.wrap .u64 ((gand .u64 (gshr .u64 x 1) 6148914691236517205) + (gand .u64 x 6148914691236517205))) 3689348814741910323))) 4) + (IntKind.wrap .u64 ((gand .u64 (gshr .u64 (IntKind.wrap .u64 ((gand .u64 (gshr .u64 x 1) 6148914691236517205) + (gand .u64 x 6148914691236517205))) 2) 3689348814741910323) + (gand .u64 (IntKind.wrap .u64 ((gand .u64 (gshr .u64 x 1) 6148914691236517205) + (gand .u64 x 6148914691236517205))) 3689348814741910323))))) 1085102592571150095) 8))) + (gshr .u64 (IntKind.wrap .u64 ((gand .u64 (IntKind.wrap .u64 ((gshr .u64 (IntKind.wrap .u64 ((gand .u64 (gshr .u64 (IntKind.wrap .u64 ((gand .u64 (gshr .u64 x 1) 6148914691236517205) + (gand .u64 x 6148914691236517205))) 2) 3689348814741910323) + (gand .u64 (IntKind.wrap .u64 ((gand .u64 (gshr .u64 x 1) 6148914691236517205) + (gand .u64 x 6148914691236517205))) 3689348814741910323))) 4) + (IntKind.wrap .u64 ((gand .u64 (gshr .u64 (IntKind.wrap .u64 ((gand .u64 (gshr .u64 x 1) 6148914691236517205) + (gand .u64 x 6148914691236517205))) 2) 3689348814741910323) + (gand .u64 (IntKind.wrap .u64 ((gand .u64 (gshr .u64 x 1) 6148914691236517205) + (gand .u64 x 6148914691236517205))) 3689348814741910323))))) 1085102592571150095) + (gshr .u64 (gand .u64 (IntKind.wrap .u64 ((gshr .u64 (IntKind.wrap .u64 ((gand .u64 (gshr .u64 (IntKind.wrap .u64 ((gand .u64 (gshr .u64 x 1) 6148914691236517205) + (gand .u64 x 6148914691236517205))) 2) 3689348814741910323) + (gand .u64 (IntKind.wrap .u64 ((gand .u64 (gshr .u64 x 1) 6148914691236517205) + (gand .u64 x 6148914691236517205))) 3689348814741910323))) 4) + (IntKind.wrap .u64 ((gand .u64 (gshr .u64 (IntKind.wrap .u64 ((gand .u64 (gshr .u64 x 1) 6148914691236517205) + (gand .u64 x 6148914691236517205))) 2) 3689348814741910323) + (gand .u64 (IntKind.wrap .u64 ((gand .u64 (gshr .u64 x 1) 6148914691236517205) + (gand .u64 x 6148914691236517205))) 3689348814741910323))))) 1085102592571150095) 8))) 16))) 32))))) rfl (fun _ => by kernel_rfl)) rfl ?_
  refine o_v (v_bit rfl rfl rfl) rfl ?_
  refine o_v (v_assign rfl) rfl ?_
  refine o_seq ?_
  refine c_ret ?_
  cases hF
  refine s_ret1 rfl (r_tmp rfl) fun a w hs => ?_
  exact fin_sel hs [] ⟨rfl, rfl, rfl⟩ rfl sub_nil
theorem tri34 (k : Nat) (s : S4) (r : Int) (hF : F.charset.Size k s = some r) :
    Tri Try.prog 34 [.agg #[.int .u64 s.w0, .int .u64 s.w1, .int .u64 s.w2, .int .u64 s.w3]] [] [] (fun o H Φ => o = .ret (.int .i64 r) ∧ H = [] ∧ Φ = []) := by
  unfold F.charset.Size at hF
  refine tri_intro (n := 16) Try.func34 rfl Try.ntmps34 rfl fun w X => ?_
  refine c_seq ?_
  refine c_region ?_
  refine o_box rfl rfl rfl fun b => ?_
  refine o_v (v_assign rfl) rfl ?_
  refine o_seq ?_
  refine c_seq ?_
  refine c_region ?_
  refine o_v (v_assign rfl) rfl ?_
  refine o_seq ?_
  refine c_seq ?_
  refine c_seq ?_
  refine c_region ?_
  refine o_v (v_load_box 0 ty26 rfl rfl rfl rfl rfl) rfl ?_
  refine o_v (v_move rfl) rfl ?_
  refine o_seq ?_
  obtain ⟨o1, ho1, hF⟩ := bd hF
  refine c_cut (fun E N' => Sat E [(0, .agg #[.int .u64 s.w0, .int .u64 s.w1, .int .u64 s.w2, .int .u64 s.w3]), (1, .pointer (some ⟨b, 0, none⟩)), (2, .int .i64 0), (3, .int .i64 o1)] [.box b 26 [.int .u64 s.w0, .int .u64 s.w1, .int .u64 s.w2, .int .u64 s.w3]] [] N') (fun N1 hN1 => ?_) ?_
  · refine c_block ?_
    refine c_loopE (fun E j a w => ∃ (n : Int) (t7 : Int), F.charset.Size_l1 s j n t7 = some o1 ∧ St E [(0, .agg #[.int .u64 s.w0, .int .u64 s.w1, .int .u64 s.w2, .int .u64 s.w3]), (1, .pointer (some ⟨b, 0, none⟩)), (2, .int .i64 0), (3, .int .i64 n), (6, .agg #[.int .u64 s.w0, .int .u64 s.w1, .int .u64 s.w2, .int .u64 s.w3]), (7, .int .i64 t7)] [.box b 26 [.int .u64 s.w0, .int .u64 s.w1, .int .u64 s.w2, .int .u64 s.w3]] [] a w) k ?_ ?_
    · intro a w hs
      exact ⟨0, 0, ho1, st_le [0] (le_cons rfl (le_cons rfl (le_cons rfl (le_cons rfl (le_cons rfl (le_cons rfl le_nil)))))) rfl sub_nil a w hs⟩
    · rintro j a w ⟨n, t7, hL1, hs⟩
      cases j with
      | zero => cases hL1
      | succ j =>
        refine wc_app hs ?_
        unfold F.charset.Size_l1 at hL1
        refine c_seq ?_
        refine c_region ?_
        refine o_v (v_bin rfl rfl rfl) rfl ?_
        refine o_seq ?_
        refine c_seq ?_
        refine c_cond rfl (fun h1 => ?_) (fun h1 => ?_)
        · replace hL1 := ite_t h1 hL1
          refine c_skip ?_
          refine sat_wc ?_
          refine c_seq ?_
          refine c_block ?_
          refine c_seq ?_
          refine c_region ?_
          refine ite_some hL1 fun h2 hL1 => ?_
          refine o_v (v_index_a s Try.underlying26 ty24 rfl rfl h2) rfl ?_
          refine o_v (v_assign rfl) rfl ?_
          refine o_seq ?_
          refine c_region ?_
          refine o_v (v_move rfl) rfl ?_
          refine o_v (v_move rfl) rfl ?_
          obtain ⟨v, h3, hL1⟩ := bd hL1
          refine o_callSB call43 rfl lent_nil (tri43 (S4.get s t7) v h3) rfl ?_
          refine o_v (v_bin rfl rfl rfl) rfl ?_
          refine o_v (v_assign rfl) rfl ?_
          refine o_nil ?_
          refine sat_wc ?_
          refine c_region ?_
          refine o_v (v_bin rfl rfl rfl) rfl ?_
          refine o_v (v_move rfl) rfl ?_
          refine o_nil ?_
          intro a w hs
          exact ⟨j, Nat.lt_succ_self j, IntKind.wrap .i64 (n + v), IntKind.wrap .i64 (t7 + 1), hL1, st_le [0] (le_cons rfl (le_cons rfl (le_cons rfl (le_cons rfl (le_cons rfl (le_cons rfl le_nil)))))) rfl sub_nil a w hs⟩
        · replace hL1 := ite_f h1 hL1
          refine c_exit0 ?_
          cases hL1
          refine s_st ?_ (hN1)
          exact st_le [0] (le_cons rfl (le_cons rfl (le_cons rfl (le_cons rfl le_nil)))) rfl sub_nil
  · refine sat_wc ?_
    refine c_seq ?_
    refine c_region ?_
    refine o_v (v_move rfl) rfl ?_
    refine o_v (v_assign rfl) rfl ?_
    refine o_seq ?_
    refine c_ret ?_
    cases hF
    refine s_ret1 rfl (r_tmp rfl) fun a w hs => ?_
    exact fin_sel hs [] ⟨rfl, rfl, rfl⟩ rfl sub_nil
theorem tri13 (k : Nat) (b : List Int) (sa1 : Option Addr) (sn1 sc1 : Nat) (r : S4) (hF : F.charset.Of k b = some r) :
    Tri Try.prog 13 [.slice sa1 sn1 sc1] [] [(.slice sa1 sn1 sc1, .slice 1 (b.map eU8))] (fun o H Φ => o = .ret (.agg #[.int .u64 r.w0, .int .u64 r.w1, .int .u64 r.w2, .int .u64 r.w3]) ∧ H = [] ∧ Φ = []) := by
  unfold F.charset.Of at hF
  refine tri_intro (n := 23) Try.func13 rfl Try.ntmps13 rfl fun w X => ?_
  refine c_seq ?_
  refine c_region ?_
  refine o_alloc zero26 rfl rfl fun b1 => ?_
  refine o_seq ?_
  refine c_seq ?_
  refine c_region ?_
  refine o_alloc zero26 rfl rfl fun b2 => ?_
  refine o_seq ?_
  refine c_seq ?_
  refine c_seq ?_
  refine c_region ?_
  refine o_v (v_move rfl) rfl ?_
  refine o_v (v_lenS (enc := eU8) b sl22 rfl (.f 0 rfl)) rfl ?_
  refine o_v (v_move rfl) rfl ?_
  refine o_seq ?_
  obtain ⟨o1, ho1, hF⟩ := bd hF
  refine c_cut (fun E N' => Sat E [(0, .slice sa1 sn1 sc1), (2, .pointer (some ⟨b1, 0, none⟩)), (3, .pointer (some ⟨b2, 0, none⟩)), (6, .slice sa1 sn1 sc1)] [.box b2 26 [.int .u64 o1.w0, .int .u64 o1.w1, .int .u64 o1.w2, .int .u64 o1.w3], .box b1 26 [.int .u64 0, .int .u64 0, .int .u64 0, .int .u64 0]] [(.slice sa1 sn1 sc1, .slice 1 (b.map eU8))] N') (fun N1 hN1 => ?_) ?_
  · refine c_block ?_
    refine c_loopE (fun E j a w => ∃ (t8 : Int) (s : S4), F.charset.Of_l1 b j t8 s = some o1 ∧ St E [(0, .slice sa1 sn1 sc1), (2, .pointer (some ⟨b1, 0, none⟩)), (3, .pointer (some ⟨b2, 0, none⟩)), (6, .slice sa1 sn1 sc1), (7, .int .i64 (b.length : Int)), (8, .int .i64 t8)] [.box b2 26 [.int .u64 s.w0, .int .u64 s.w1, .int .u64 s.w2, .int .u64 s.w3], .box b1 26 [.int .u64 0, .int .u64 0, .int .u64 0, .int .u64 0]] [(.slice sa1 sn1 sc1, .slice 1 (b.map eU8))] a w) k ?_ ?_
    · intro a w hs
      exact ⟨0, (S4.mk 0 0 0 0), ho1, st_le [0, 0] (le_cons rfl (le_cons rfl (le_cons rfl (le_cons rfl (le_cons rfl (le_cons rfl le_nil)))))) rfl (sub_cons 0 rfl sub_nil) a w hs⟩
    · rintro j a w ⟨t8, s, hL1, hs⟩
      cases j with
      | zero => cases hL1
      | succ j =>
        refine wc_app hs ?_
        unfold F.charset.Of_l1 at hL1
        refine c_seq ?_
        refine c_region ?_
        refine o_v (v_bin rfl rfl rfl) rfl ?_
        refine o_seq ?_
        refine c_seq ?_
        refine c_cond rfl (fun h1 => ?_) (fun h1 => ?_)
        · replace hL1 := ite_t h1 hL1
          refine c_skip ?_
          refine sat_wc ?_
          refine c_seq ?_
          refine c_block ?_
          refine c_seq ?_
          refine c_region ?_
          refine ite_some hL1 fun h2 hL1 => ?_
          refine o_v (v_indexAddr_s (xs := b) (enc := eU8) sl22 rfl rfl (.f 0 rfl) h2) rfl ?_
          refine o_v (v_load_s (xs := b) (enc := eU8) ty5 rfl (.f 0 rfl) h2 rfl rfl rfl rfl rfl rfl rfl) rfl ?_
          refine o_v (v_assign rfl) rfl ?_
          refine o_seq ?_
          refine c_region ?_
          refine o_v (v_move rfl) rfl ?_
          refine o_v (v_quo rfl rfl rfl) rfl ?_
          refine ite_some hL1 fun h3 hL1 => ?_
          refine o_v (v_indexAddr_a ar26 rfl rfl h3) rfl ?_
          refine o_v (v_load_a 0 s ty24 rfl rfl h3) rfl ?_
          refine o_v (v_move rfl) rfl ?_
          refine o_v (v_rem rfl rfl rfl) rfl ?_
          refine ite_none hL1 fun h4 hL1 => ?_
          refine o_v (v_shl rfl rfl h4) rfl ?_
          refine o_v (v_bit rfl rfl rfl) rfl ?_
          refine o_v (v_indexAddr_a ar26 rfl rfl h3) rfl ?_
          refine o_store_a 0 s rfl ty24 rfl rfl rfl h3 ?_
          refine o_nil ?_
          refine sat_wc ?_
          refine c_region ?_
          refine o_v (v_bin rfl rfl rfl) rfl ?_
          refine o_v (v_move rfl) rfl ?_
          refine o_nil ?_
          intro a w hs
          exact ⟨j, Nat.lt_succ_self j, IntKind.wrap .i64 (t8 + 1), (S4.set s (gquo .u8 (at_ b t8) 64) (gor .u64 (S4.get s (gquo .u8 (at_ b t8) 64)) (gshl .u64 1 (grem (at_ b t8) 64)))), hL1, st_le [0, 0] (le_cons rfl (le_cons rfl (le_cons rfl (le_cons rfl (le_cons rfl (le_cons rfl le_nil)))))) rfl (sub_cons 0 rfl sub_nil) a w hs⟩
        · replace hL1 := ite_f h1 hL1
          refine c_exit0 ?_
          cases hL1
          refine s_st ?_ (hN1)
          exact st_le [0, 0] (le_cons rfl (le_cons rfl (le_cons rfl (le_cons rfl le_nil)))) rfl (sub_cons 0 rfl sub_nil)
  · refine sat_wc ?_
    refine c_seq ?_
    refine c_region ?_
    refine o_v (v_load_box 0 ty26 rfl rfl rfl rfl rfl) rfl ?_
    refine o_store_box 1 rfl ty26 rfl rfl rfl rfl rfl rfl rfl ?_
    refine o_seq ?_
    refine c_ret ?_
    cases hF
    refine s_ret1 rfl (r_cell 1 rfl ty26 rfl rfl rfl rfl) fun a w hs => ?_
    exact fin_sel hs [] ⟨rfl, rfl, rfl⟩ rfl sub_nil
theorem tri24 (s : S4) (r : List Run) (hF : F.charset.Runs s = some r) :
    Tri Try.prog 24 [.agg #[.int .u64 s.w0, .int .u64 s.w1, .int .u64 s.w2, .int .u64 s.w3]] [] [] (fun o H Φ => ∃ (sa4 : Option Addr) (sn4 sc4 : Nat), o = .ret (.slice sa4 sn4 sc4) ∧ H = [.row (.slice sa4 sn4 sc4) 48 2 (r.map eRun)] ∧ Φ = []) := by
  unfold F.charset.Runs at hF
  refine tri_intro (n := 41) Try.func24 rfl Try.ntmps24 rfl fun w X => ?_
  refine c_seq ?_
  refine c_region ?_
  refine o_box rfl rfl rfl fun b => ?_
  refine o_v (v_assign rfl) rfl ?_
  refine o_seq ?_
  refine c_seq ?_
  refine c_region ?_
  refine o_alloc zero43 rfl rfl fun b1 => ?_
  refine o_seq ?_
  refine c_seq ?_
  refine c_seq ?_
  refine c_region ?_
  refine o_v (v_load_box 1 ty26 rfl rfl rfl rfl rfl) rfl ?_
  refine o_call0 call29 rfl sub_nil (tri29 s) rfl ?_
  rintro _ _ _ ⟨b2, rfl, rfl, rfl⟩
  refine o_seq ?_
  refine c_block ?_
  refine c_st (st_nilrow 48 2) ?_
  obtain ⟨ob1, hb1, hF⟩ := bd hF
  refine c_range (i := 0) (V := (List Run)) (U := (Option Addr × Nat × Nat)) (F.charset.Runs_b1) ([] : List Run) (none, 0, 0) (allB s) 256 (fun (v1 : (List Run)) (u1 : (Option Addr × Nat × Nat)) => [.box b2 26 [.int .u64 s.w0, .int .u64 s.w1, .int .u64 s.w2, .int .u64 s.w3], .box b1 43 [.slice u1.1 u1.2.1 u1.2.2], .box b 26 [.int .u64 s.w0, .int .u64 s.w1, .int .u64 s.w2, .int .u64 s.w3], .row (.slice u1.1 u1.2.1 u1.2.2) 48 2 (v1.map eRun)]) (fun (v1 : (List Run)) (u1 : (Option Addr × Nat × Nat)) => []) (fun (x : Int) => [(0, .agg #[.int .u64 s.w0, .int .u64 s.w1, .int .u64 s.w2, .int .u64 s.w3]), (1, .pointer (some ⟨b, 0, none⟩)), (2, .slice none 0 0), (3, .pointer (some ⟨b1, 0, none⟩)), (6, .agg #[.int .u64 s.w0, .int .u64 s.w1, .int .u64 s.w2, .int .u64 s.w3]), (7, .func (.func 42) #[] #[.pointer (some ⟨b2, 0, none⟩)]), (8, .int .u8 x), (4, .int .u8 x)]) rfl rfl rfl call42 rfl (fun w hb => all_stops s _ w hb) (fun v1 u1 => List.mem_of_getElem? (i := 0) rfl) (fun v1 u1 => rfl) (st_sel [1, 1, 1, 0] rfl sub_nil) (tot_charset_Runs_b1) ?_ ?_ ?_ ?_ ?_
  · intro W1 rd1 x v1 u1
    refine c_region ?_
    refine o_v (v_assign rfl) rfl ?_
    refine o_nil ?_
    exact st_le [0, 0, 0, 0] (le_cons rfl (le_cons rfl (le_cons rfl (le_cons rfl (le_cons rfl (le_cons rfl (le_cons rfl (le_cons rfl le_nil)))))))) rfl sub_nil
  · intro W1 rd1 x v1 u1 o1 ho1
    unfold F.charset.Runs_b1 at ho1
    refine c_cut (fun E N' => ∀ (t24 : Bool) (out : List Run) (sa1 : Option Addr) (sn1 sc1 : Nat), F.charset.Runs_j2 t24 out = some o1 → Sat E [(0, .agg #[.int .u64 s.w0, .int .u64 s.w1, .int .u64 s.w2, .int .u64 s.w3]), (1, .pointer (some ⟨b, 0, none⟩)), (2, .slice none 0 0), (3, .pointer (some ⟨b1, 0, none⟩)), (4, .int .u8 x), (5, .int .i64 (v1.length : Int)), (7, .func (.func 42) #[] #[.pointer (some ⟨b2, 0, none⟩)]), (24, .bool t24)] [.box b2 26 [.int .u64 s.w0, .int .u64 s.w1, .int .u64 s.w2, .int .u64 s.w3], .box b1 43 [.slice sa1 sn1 sc1], .box b 26 [.int .u64 s.w0, .int .u64 s.w1, .int .u64 s.w2, .int .u64 s.w3], .row (.slice sa1 sn1 sc1) 48 2 (out.map eRun)] [] N') (fun N2 hN2 => ?_) ?_
    · refine c_block ?_
      refine c_seq ?_
      refine c_seq ?_
      refine c_region ?_
      refine o_v (v_load_box 1 ty43 rfl rfl rfl rfl rfl) rfl ?_
      refine o_v (v_lenS (enc := eRun) v1 sl43 rfl (.r 3 _ rfl)) rfl ?_
      refine o_v (v_assign rfl) rfl ?_
      refine o_seq ?_
      refine c_seq ?_
      refine c_cut (fun E N' => ∀ (t241 : Bool), F.charset.Runs_j3 v1 x t241 = some o1 → Sat E [(0, .agg #[.int .u64 s.w0, .int .u64 s.w1, .int .u64 s.w2, .int .u64 s.w3]), (1, .pointer (some ⟨b, 0, none⟩)), (2, .slice none 0 0), (3, .pointer (some ⟨b1, 0, none⟩)), (4, .int .u8 x), (5, .int .i64 (v1.length : Int)), (7, .func (.func 42) #[] #[.pointer (some ⟨b2, 0, none⟩)]), (24, .bool t241)] [.box b2 26 [.int .u64 s.w0, .int .u64 s.w1, .int .u64 s.w2, .int .u64 s.w3], .box b1 43 [.slice u1.1 u1.2.1 u1.2.2], .box b 26 [.int .u64 s.w0, .int .u64 s.w1, .int .u64 s.w2, .int .u64 s.w3], .row (.slice u1.1 u1.2.1 u1.2.2) 48 2 (v1.map eRun)] [] N') (fun N3 hN3 => ?_) ?_
      · refine c_region ?_
        refine o_v (v_move rfl) rfl ?_
        refine o_v (v_bin rfl rfl rfl) rfl ?_
        refine o_v (v_move rfl) rfl ?_
        refine o_split (t := 13) rfl (fun h5 => ?_) (fun h5 => ?_)
        · replace ho1 := ite_t h5 ho1
          refine o_on rfl rfl ?_
          refine o_v (v_load_box 1 ty43 rfl rfl rfl rfl rfl) rfl ?_
          refine o_on rfl rfl ?_
          refine o_v (v_move rfl) rfl ?_
          refine o_on rfl rfl ?_
          refine o_v (v_bin rfl rfl rfl) rfl ?_
          refine o_on rfl rfl ?_
          refine ite_some ho1 fun h6 ho1 => ?_
          refine o_v (v_indexAddr_s (xs := v1) (enc := eRun) sl43 rfl rfl (.r 3 _ rfl) h6) rfl ?_
          refine o_on rfl rfl ?_
          refine o_v (v_fieldAddr (v := .pointer (some ⟨blkA u1.1, offA u1.1 + ((IntKind.wrap .i64 ((v1.length : Int) - 1)).toNat * 2 + 1), none⟩)) rfl (fun _ => by kernel_rfl)) rfl ?_
          refine o_on rfl rfl ?_
          refine o_v (v_load_s (xs := v1) (enc := eRun) ty3 rfl (.r 3 _ rfl) h6 rfl rfl rfl rfl rfl rfl rfl) rfl ?_
          refine o_on rfl rfl ?_
          refine o_v (v_bin rfl rfl rfl) rfl ?_
          refine o_on rfl rfl ?_
          refine o_v (v_move rfl) rfl ?_
          refine o_on rfl rfl ?_
          refine o_v (v_convert (v := .int .i64 (IntKind.wrap .i64 x)) rfl (fun _ => by kernel_rfl)) rfl ?_
          refine o_on rfl rfl ?_
          refine o_v (v_bin rfl rfl rfl) rfl ?_
          refine o_v (v_pick_t rfl rfl) rfl ?_
          refine o_nil ?_
          refine s_st ?_ (hN3 ((IntKind.wrap .i64 (((at_ v1 (IntKind.wrap .i64 ((v1.length : Int) - 1))).Hi) + 1)) == (IntKind.wrap .i64 x)) ho1)
          exact st_le [0, 0, 0, 0] (le_cons rfl (le_cons rfl (le_cons rfl (le_cons rfl (le_cons rfl (le_cons rfl (le_cons rfl (le_cons rfl le_nil)))))))) rfl sub_nil
        · replace ho1 := ite_f h5 ho1
          refine o_off rfl rfl (by decide) rfl ?_
          refine o_off rfl rfl (by decide) rfl ?_
          refine o_off rfl rfl (by decide) rfl ?_
          refine o_off rfl rfl (by decide) rfl ?_
          refine o_off rfl rfl (by decide) rfl ?_
          refine o_off rfl rfl (by decide) rfl ?_
          refine o_off rfl rfl (by decide) rfl ?_
          refine o_off rfl rfl (by decide) rfl ?_
          refine o_off rfl rfl (by decide) rfl ?_
          refine o_off rfl rfl (by decide) rfl ?_
          refine o_v (v_pick_f rfl rfl) rfl ?_
          refine o_nil ?_
          refine s_st ?_ (hN3 false ho1)
          exact st_le [0, 0, 0, 0] (le_cons rfl (le_cons rfl (le_cons rfl (le_cons rfl (le_cons rfl (le_cons rfl (le_cons rfl (le_cons rfl le_nil)))))))) rfl sub_nil
      · intro t241 ho1
        unfold F.charset.Runs_j3 at ho1
        refine sat_wc ?_
        refine c_cond rfl (fun h1 => ?_) (fun h1 => ?_)
        · replace ho1 := ite_t h1 ho1
          refine c_seq ?_
          refine c_region ?_
          refine o_v (v_load_box 1 ty43 rfl rfl rfl rfl rfl) rfl ?_
          refine o_v (v_move rfl) rfl ?_
          refine o_v (v_bin rfl rfl rfl) rfl ?_
          refine o_v (v_move rfl) rfl ?_
          refine o_v (v_convert (v := .int .i64 (IntKind.wrap .i64 x)) rfl (fun _ => by kernel_rfl)) rfl ?_
          refine ite_some ho1 fun h2 ho1 => ?_
          refine o_v (v_indexAddr_s (xs := v1) (enc := eRun) sl43 rfl rfl (.r 3 _ rfl) h2) rfl ?_
          refine o_v (v_fieldAddr (v := .pointer (some ⟨blkA u1.1, offA u1.1 + ((IntKind.wrap .i64 ((v1.length : Int) - 1)).toNat * 2 + 1), none⟩)) rfl (fun _ => by kernel_rfl)) rfl ?_
          refine o_store_s (xs := v1) (enc := eRun) 3 (Run.mk ((at_ v1 (IntKind.wrap .i64 ((v1.length : Int) - 1))).Lo) (IntKind.wrap .i64 x)) rfl ty3 rfl rfl rfl rfl h2 (.s rfl (.nil)) rfl rfl rfl ?_
          refine o_seq ?_
          refine c_exit0 ?_
          refine s_st ?_ (hN2 t241 (set_ v1 (IntKind.wrap .i64 ((v1.length : Int) - 1)) (Run.mk ((at_ v1 (IntKind.wrap .i64 ((v1.length : Int) - 1))).Lo) (IntKind.wrap .i64 x))) u1.1 u1.2.1 u1.2.2 ho1)
          exact st_le [0, 0, 0, 0] (le_cons rfl (le_cons rfl (le_cons rfl (le_cons rfl (le_cons rfl (le_cons rfl (le_cons rfl (le_cons rfl le_nil)))))))) rfl sub_nil
        · replace ho1 := ite_f h1 ho1
          refine c_skip ?_
          refine sat_wc ?_
          refine c_region ?_
          refine o_v (v_load_box 1 ty43 rfl rfl rfl rfl rfl) rfl ?_
          refine o_v (v_move rfl) rfl ?_
          refine o_v (v_convert (v := .int .i64 (IntKind.wrap .i64 x)) rfl (fun _ => by kernel_rfl)) rfl ?_
          refine o_v (v_move rfl) rfl ?_
          refine o_v (v_convert (v := .int .i64 (IntKind.wrap .i64 x)) rfl (fun _ => by kernel_rfl)) rfl ?_
          refine o_v (v_build (v := .agg #[.int .i64 (IntKind.wrap .i64 x), .int .i64 (IntKind.wrap .i64 x)]) rfl (fun _ => by kernel_rfl)) rfl ?_
          refine o_buildSlice (enc := eRun) ([(Run.mk (IntKind.wrap .i64 x) (IntKind.wrap .i64 x))] : List Run) [.int .i64 (IntKind.wrap .i64 x), .int .i64 (IntKind.wrap .i64 x)] sl43 rfl (fun _ => by kernel_rfl) rfl rfl rfl (.s rfl (.s rfl (.nil))) rfl fun sa2 sn2 sc2 => ?_
          refine ite_some ho1 fun h3 ho1 => ?_
          refine ite_some ho1 fun h4 ho1 => ?_
          refine o_append (enc := eRun) (xs := v1) (ys := ([(Run.mk (IntKind.wrap .i64 x) (IntKind.wrap .i64 x))] : List Run)) 4 sl43 rfl rfl rfl (.r 0 _ rfl) h3 h4 rfl fun sa3 sn3 sc3 => ?_
          refine o_store_box 2 rfl ty43 rfl rfl rfl rfl rfl rfl rfl ?_
          refine o_nil ?_
          refine s_st ?_ (hN2 t241 (v1 ++ ([(Run.mk (IntKind.wrap .i64 x) (IntKind.wrap .i64 x))] : List Run)) sa3 sn3 sc3 ho1)
          exact st_le [1, 1, 1, 1] (le_cons rfl (le_cons rfl (le_cons rfl (le_cons rfl (le_cons rfl (le_cons rfl (le_cons rfl (le_cons rfl le_nil)))))))) rfl sub_nil
    · intro t24 out sa1 sn1 sc1 ho1
      unfold F.charset.Runs_j2 at ho1
      cases ho1
      intro a w hs
      exact ⟨out, (sa1, sn1, sc1), rfl, sws_of (st_le [0, 0, 0, 0] le_nil rfl sub_nil a w hs)⟩
  · intro D1 v1 u1 hD1 hr1
    have e1 := Option.some.inj (hb1.symm.trans hr1)
    subst e1
    refine sat_wc ?_
    refine c_seq ?_
    refine c_region ?_
    refine o_v (v_load_box 2 ty43 rfl rfl rfl rfl rfl) rfl ?_
    refine o_v (v_assign rfl) rfl ?_
    refine o_seq ?_
    refine c_ret ?_
    cases hF
    refine s_dfr 0 D1 hD1 rfl rfl rfl ?_
    refine s_ret1 rfl (r_tmp rfl) fun a w hs => ?_
    exact fin_sel hs [3] ⟨u1.1, u1.2.1, u1.2.2, rfl, rfl, rfl⟩ rfl sub_nil
  · intro D1 v1 u1 hD1 hr1
    have e1 := Option.some.inj (hb1.symm.trans hr1)
    subst e1
    cases hF
  · intro D1 v1 u1 hD1 hr1
    have e1 := Option.some.inj (hb1.symm.trans hr1)
    subst e1
    cases hF
theorem tri38 (b : Int) (r : List UInt8) (hF : F.charset.sign b = some r) :
    Tri Try.prog 38 [.int .u8 b] [] [] (fun o H Φ => o = .ret (.string (bs r)) ∧ H = [] ∧ Φ = []) := by
  unfold F.charset.sign at hF
  refine tri_intro (n := 45) Try.func38 rfl Try.ntmps38 rfl fun w X => ?_
  refine c_seq ?_
  refine c_region ?_
  refine o_v (v_assign rfl) rfl ?_
  refine o_seq ?_
  refine c_seq ?_
  refine c_seq ?_
  refine c_region ?_
  refine o_v (v_move rfl) rfl ?_
  refine o_seq ?_
  refine c_block ?_
  refine c_seq ?_
  refine c_region ?_
  refine o_v (v_bin rfl rfl rfl) rfl ?_
  refine o_v (v_assign rfl) rfl ?_
  refine o_seq ?_
  refine c_cond rfl (fun h1 => ?_) (fun h1 => ?_)
  · replace hF := ite_t h1 hF
    refine c_seq ?_
    refine c_region ?_
    refine o_v (v_assign rfl) rfl ?_
    refine o_seq ?_
    refine c_ret ?_
    cases hF
    refine s_ret1 rfl (r_tmp rfl) fun a w hs => ?_
    exact fin_sel hs [] ⟨rfl, rfl, rfl⟩ rfl sub_nil
  · replace hF := ite_f h1 hF
    refine c_seq ?_
    refine c_region ?_
    refine o_v (v_bin rfl rfl rfl) rfl ?_
    refine o_v (v_assign rfl) rfl ?_
    refine o_seq ?_
    refine c_cond rfl (fun h2 => ?_) (fun h2 => ?_)
    · replace hF := ite_t h2 hF
      refine c_seq ?_
      refine c_region ?_
      refine o_v (v_assign rfl) rfl ?_
      refine o_seq ?_
      refine c_ret ?_
      cases hF
      refine s_ret1 rfl (r_tmp rfl) fun a w hs => ?_
      exact fin_sel hs [] ⟨rfl, rfl, rfl⟩ rfl sub_nil
    · replace hF := ite_f h2 hF
      refine c_seq ?_
      refine c_region ?_
      refine o_v (v_bin rfl rfl rfl) rfl ?_
      refine o_v (v_assign rfl) rfl ?_
      refine o_seq ?_
      refine c_cond rfl (fun h3 => ?_) (fun h3 => ?_)
      · replace hF := ite_t h3 hF
        refine c_seq ?_
        refine c_region ?_
        refine o_v (v_assign rfl) rfl ?_
        refine o_seq ?_
        refine c_ret ?_
        cases hF
        refine s_ret1 rfl (r_tmp rfl) fun a w hs => ?_
        exact fin_sel hs [] ⟨rfl, rfl, rfl⟩ rfl sub_nil
      · replace hF := ite_f h3 hF
        refine c_seq ?_
        refine c_region ?_
        refine o_v (v_bin rfl rfl rfl) rfl ?_
        refine o_v (v_assign rfl) rfl ?_
        refine o_seq ?_
        refine c_cond rfl (fun h4 => ?_) (fun h4 => ?_)
        · replace hF := ite_t h4 hF
          refine c_seq ?_
          refine c_region ?_
          refine o_v (v_assign rfl) rfl ?_
          refine o_seq ?_
          refine c_ret ?_
          cases hF
          refine s_ret1 rfl (r_tmp rfl) fun a w hs => ?_
          exact fin_sel hs [] ⟨rfl, rfl, rfl⟩ rfl sub_nil
        · replace hF := ite_f h4 hF
          refine c_seq ?_
          refine c_seq ?_
          refine c_region ?_
          refine o_v (v_bin rfl rfl rfl) rfl ?_
          refine o_v (v_assign rfl) rfl ?_
          refine o_seq ?_
          refine c_cut (fun E N' => ∀ (t12 : Bool), F.charset.sign_j1 b t12 = some r → Sat E [(0, .int .u8 b), (2, .string (bs ([] : List UInt8))), (3, .int .u8 b), (4, .bool (b == 10)), (6, .bool (b == 9)), (8, .bool (b == 13)), (10, .bool (b == 32)), (12, .bool t12)] [] [] N') (fun N2 hN2 => ?_) ?_
          · refine c_cond rfl (fun h13 => ?_) (fun h13 => ?_)
            · replace hF := ite_t h13 hF
              refine c_skip ?_
              refine s_st ?_ (hN2 (b == 91) hF)
              exact st_le [] (le_cons rfl (le_cons rfl (le_cons rfl (le_cons rfl (le_cons rfl (le_cons rfl (le_cons rfl (le_cons rfl le_nil)))))))) rfl sub_nil
            · replace hF := ite_f h13 hF
              refine c_seq ?_
              refine c_region ?_
              refine o_v (v_bin rfl rfl rfl) rfl ?_
              refine o_v (v_assign rfl) rfl ?_
              refine o_seq ?_
              refine c_cond rfl (fun h14 => ?_) (fun h14 => ?_)
              · replace hF := ite_t h14 hF
                refine c_skip ?_
                refine s_st ?_ (hN2 (b == 93) hF)
                exact st_le [] (le_cons rfl (le_cons rfl (le_cons rfl (le_cons rfl (le_cons rfl (le_cons rfl (le_cons rfl (le_cons rfl le_nil)))))))) rfl sub_nil
              · replace hF := ite_f h14 hF
                refine c_seq ?_
                refine c_region ?_
                refine o_v (v_bin rfl rfl rfl) rfl ?_
                refine o_v (v_assign rfl) rfl ?_
                refine o_seq ?_
                refine c_cut (fun E N' => ∀ (t121 : Bool), F.charset.sign_j3 b t121 = some r → Sat E [(0, .int .u8 b), (2, .string (bs ([] : List UInt8))), (3, .int .u8 b), (4, .bool (b == 10)), (6, .bool (b == 9)), (8, .bool (b == 13)), (10, .bool (b == 32)), (12, .bool t121)] [] [] N') (fun N3 hN3 => ?_) ?_
                · refine c_cond rfl (fun h15 => ?_) (fun h15 => ?_)
                  · replace hF := ite_t h15 hF
                    refine c_skip ?_
                    refine s_st ?_ (hN3 (b == 92) hF)
                    exact st_le [] (le_cons rfl (le_cons rfl (le_cons rfl (le_cons rfl (le_cons rfl (le_cons rfl (le_cons rfl (le_cons rfl le_nil)))))))) rfl sub_nil
                  · replace hF := ite_f h15 hF
                    refine c_seq ?_
                    refine c_region ?_
                    refine o_v (v_bin rfl rfl rfl) rfl ?_
                    refine o_v (v_assign rfl) rfl ?_
                    refine o_seq ?_
                    refine c_cond rfl (fun h16 => ?_) (fun h16 => ?_)
                    · replace hF := ite_t h16 hF
                      refine c_skip ?_
                      refine s_st ?_ (hN3 (b == 45) hF)
                      exact st_le [] (le_cons rfl (le_cons rfl (le_cons rfl (le_cons rfl (le_cons rfl (le_cons rfl (le_cons rfl (le_cons rfl le_nil)))))))) rfl sub_nil
                    · replace hF := ite_f h16 hF
                      refine c_region ?_
                      refine o_v (v_bin rfl rfl rfl) rfl ?_
                      refine o_v (v_assign rfl) rfl ?_
                      refine o_nil ?_
                      refine s_st ?_ (hN3 (b == 94) hF)
                      exact st_le [] (le_cons rfl (le_cons rfl (le_cons rfl (le_cons rfl (le_cons rfl (le_cons rfl (le_cons rfl (le_cons rfl le_nil)))))))) rfl sub_nil
                · intro t121 hF
                  unfold F.charset.sign_j3 at hF
                  refine s_st ?_ (hN2 t121 hF)
                  exact st_le [] (le_cons rfl (le_cons rfl (le_cons rfl (le_cons rfl (le_cons rfl (le_cons rfl (le_cons rfl (le_cons rfl le_nil)))))))) rfl sub_nil
          · intro t12 hF
            unfold F.charset.sign_j1 at hF
            refine sat_wc ?_
            refine c_cond rfl (fun h5 => ?_) (fun h5 => ?_)
            · replace hF := ite_t h5 hF
              refine c_seq ?_
              refine c_region ?_
              refine o_v (v_move rfl) rfl ?_
              refine o_buildSlice (enc := eU8) ([b] : List Int) [.int .u8 b] sl22 rfl (fun _ => by kernel_rfl) rfl rfl rfl (.s rfl (.nil)) rfl fun sa1 sn1 sc1 => ?_
              refine o_v (v_bytesStr sl22 Try.underlying5 Try.underlying9 rfl (.r 0 _ rfl)) rfl ?_
              refine ite_some hF fun h6 hF => ?_
              refine o_v (v_strcat rfl rfl h6) rfl ?_
              refine o_v (v_assign rfl) rfl ?_
              refine o_seq ?_
              refine c_ret ?_
              cases hF
              refine s_ret1 rfl (r_tmp rfl) fun a w hs => ?_
              exact fin_sel hs [] ⟨rfl, rfl, rfl⟩ rfl sub_nil
            · replace hF := ite_f h5 hF
              refine c_skip ?_
              refine sat_wc ?_
              refine c_seq ?_
              refine c_seq ?_
              refine c_cut (fun E N' => ∀ (t27 : Bool), F.charset.sign_j2 b t27 = some r → Sat E [(0, .int .u8 b), (2, .string (bs ([] : List UInt8))), (3, .int .u8 b), (4, .bool (b == 10)), (6, .bool (b == 9)), (8, .bool (b == 13)), (10, .bool (b == 32)), (12, .bool t12), (27, .bool t27)] [] [] N') (fun N2 hN2 => ?_) ?_
              · refine c_region ?_
                refine o_v (v_move rfl) rfl ?_
                refine o_v (v_bin rfl rfl rfl) rfl ?_
                refine o_v (v_move rfl) rfl ?_
                refine o_split (t := 24) rfl (fun h12 => ?_) (fun h12 => ?_)
                · replace hF := ite_t h12 hF
                  refine o_on rfl rfl ?_
                  refine o_v (v_move rfl) rfl ?_
                  refine o_on rfl rfl ?_
                  refine o_v (v_bin rfl rfl rfl) rfl ?_
                  refine o_v (v_pick_t rfl rfl) rfl ?_
                  refine o_nil ?_
                  refine s_st ?_ (hN2 (decide (b < 127)) hF)
                  exact st_le [] (le_cons rfl (le_cons rfl (le_cons rfl (le_cons rfl (le_cons rfl (le_cons rfl (le_cons rfl (le_cons rfl (le_cons rfl le_nil))))))))) rfl sub_nil
                · replace hF := ite_f h12 hF
                  refine o_off rfl rfl (by decide) rfl ?_
                  refine o_off rfl rfl (by decide) rfl ?_
                  refine o_v (v_pick_f rfl rfl) rfl ?_
                  refine o_nil ?_
                  refine s_st ?_ (hN2 false hF)
                  exact st_le [] (le_cons rfl (le_cons rfl (le_cons rfl (le_cons rfl (le_cons rfl (le_cons rfl (le_cons rfl (le_cons rfl (le_cons rfl le_nil))))))))) rfl sub_nil
              · intro t27 hF
                unfold F.charset.sign_j2 at hF
                refine sat_wc ?_
                refine c_cond rfl (fun h7 => ?_) (fun h7 => ?_)
                · replace hF := ite_t h7 hF
                  refine c_seq ?_
                  refine c_region ?_
                  refine o_v (v_move rfl) rfl ?_
                  refine o_buildSlice (enc := eU8) ([b] : List Int) [.int .u8 b] sl22 rfl (fun _ => by kernel_rfl) rfl rfl rfl (.s rfl (.nil)) rfl fun sa2 sn2 sc2 => ?_
                  refine o_v (v_bytesStr sl22 Try.underlying5 Try.underlying9 rfl (.r 0 _ rfl)) rfl ?_
                  refine o_v (v_assign rfl) rfl ?_
                  refine o_seq ?_
                  refine c_ret ?_
                  cases hF
                  refine s_ret1 rfl (r_tmp rfl) fun a w hs => ?_
                  exact fin_sel hs [] ⟨rfl, rfl, rfl⟩ rfl sub_nil
                · replace hF := ite_f h7 hF
                  refine c_skip ?_
                  refine sat_wc ?_
                  refine c_seq ?_
                  refine c_draw (n := 15) [] mixed rfl rfl ?_
                  refine d_val 0 rfl pnok (by kernel_rfl) (by kernel_rfl) (by kernel_rfl) rfl (v_move rfl) ?_
                  refine d_val 1 rfl pnok (by kernel_rfl) (by kernel_rfl) (by kernel_rfl) rfl (v_quo rfl rfl rfl) ?_
                  refine d_val 2 rfl pnok (by kernel_rfl) (by kernel_rfl) (by kernel_rfl) rfl (v_move rfl) ?_
                  refine d_val 3 rfl pnok (by kernel_rfl) (by kernel_rfl) (by kernel_rfl) rfl (v_quo rfl rfl rfl) ?_
                  refine d_val 4 rfl pnok (by kernel_rfl) (by kernel_rfl) (by kernel_rfl) rfl (v_bin rfl rfl rfl) ?_
                  refine ite_some hF fun h8 hF => ?_
                  refine d_val 5 rfl pnok (by kernel_rfl) (by kernel_rfl) (by kernel_rfl) rfl (v_strslice Try.underlying9 rfl rfl rfl rfl rfl h8) ?_
                  refine ite_some hF fun h9 hF => ?_
                  refine d_val 6 rfl pnok (by kernel_rfl) (by kernel_rfl) (by kernel_rfl) rfl (v_strcat rfl rfl h9) ?_
                  refine d_val 7 rfl pnok (by kernel_rfl) (by kernel_rfl) (by kernel_rfl) rfl (v_move rfl) ?_
                  refine d_val 8 rfl pnok (by kernel_rfl) (by kernel_rfl) (by kernel_rfl) rfl (v_rem rfl rfl rfl) ?_
                  refine d_val 9 rfl pnok (by kernel_rfl) (by kernel_rfl) (by kernel_rfl) rfl (v_move rfl) ?_
                  refine d_val 10 rfl pnok (by kernel_rfl) (by kernel_rfl) (by kernel_rfl) rfl (v_rem rfl rfl rfl) ?_
                  refine d_val 11 rfl pnok (by kernel_rfl) (by kernel_rfl) (by kernel_rfl) rfl (v_bin rfl rfl rfl) ?_
                  refine ite_some hF fun h10 hF => ?_
                  refine d_val 12 rfl pnok (by kernel_rfl) (by kernel_rfl) (by kernel_rfl) rfl (v_strslice Try.underlying9 rfl rfl rfl rfl rfl h10) ?_
                  refine ite_some hF fun h11 hF => ?_
                  refine d_val 13 rfl pnok (by kernel_rfl) (by kernel_rfl) (by kernel_rfl) rfl (v_strcat rfl rfl h11) ?_
                  refine d_val 14 rfl pnok (by kernel_rfl) (by kernel_rfl) (by kernel_rfl) rfl (v_assign rfl) ?_
                  refine d_done_seq (by kernel_rfl) ?_
                  refine c_ret ?_
                  cases hF
                  refine s_ret1 rfl (r_tmp rfl) fun a w hs => ?_
                  exact fin_sel hs [] ⟨rfl, rfl, rfl⟩ rfl sub_nil
theorem tri19 (k : Nat) (s : S4) (r : List UInt8) (hF : F.charset.Print k s = some r) :
    Tri Try.prog 19 [.agg #[.int .u64 s.w0, .int .u64 s.w1, .int .u64 s.w2, .int .u64 s.w3]] [] [] (fun o H Φ => o = .ret (.string (bs r)) ∧ H = [] ∧ Φ = []) := by
  unfold F.charset.Print at hF
  refine tri_intro (n := 41) Try.func19 rfl Try.ntmps19 rfl fun w X => ?_
  refine c_seq ?_
  refine c_region ?_
  refine o_box rfl rfl rfl fun b => ?_
  refine o_v (v_assign rfl) rfl ?_
  refine o_seq ?_
  refine c_seq ?_
  refine c_region ?_
  refine o_v (v_assign rfl) rfl ?_
  refine o_seq ?_
  refine c_seq ?_
  refine c_seq ?_
  refine c_region ?_
  refine o_v (v_load_box 0 ty26 rfl rfl rfl rfl rfl) rfl ?_
  obtain ⟨v, h1, hF⟩ := bd hF
  refine o_call0 call24 rfl sub_nil (tri24 s v h1) rfl ?_
  rintro _ _ _ ⟨sa1, sn1, sc1, rfl, rfl, rfl⟩
  refine o_v (v_lenS (enc := eRun) v sl43 rfl (.r 0 _ rfl)) rfl ?_
  refine o_v (v_move rfl) rfl ?_
  refine o_seq ?_
  obtain ⟨o1, ho1, hF⟩ := bd hF
  refine c_cut (fun E N' => Sat E [(0, .agg #[.int .u64 s.w0, .int .u64 s.w1, .int .u64 s.w2, .int .u64 s.w3]), (1, .pointer (some ⟨b, 0, none⟩)), (2, .string (bs ([] : List UInt8))), (3, .string (bs o1)), (7, .slice sa1 sn1 sc1)] [.box b 26 [.int .u64 s.w0, .int .u64 s.w1, .int .u64 s.w2, .int .u64 s.w3], .row (.slice sa1 sn1 sc1) 48 2 (v.map eRun)] [] N') (fun N1 hN1 => ?_) ?_
  · refine c_block ?_
    refine c_loopE (fun E j a w => ∃ (out : List UInt8) (t9 : Int), F.charset.Print_l1 v j out t9 = some o1 ∧ St E [(0, .agg #[.int .u64 s.w0, .int .u64 s.w1, .int .u64 s.w2, .int .u64 s.w3]), (1, .pointer (some ⟨b, 0, none⟩)), (2, .string (bs ([] : List UInt8))), (3, .string (bs out)), (7, .slice sa1 sn1 sc1), (8, .int .i64 (v.length : Int)), (9, .int .i64 t9)] [.box b 26 [.int .u64 s.w0, .int .u64 s.w1, .int .u64 s.w2, .int .u64 s.w3], .row (.slice sa1 sn1 sc1) 48 2 (v.map eRun)] [] a w) k ?_ ?_
    · intro a w hs
      exact ⟨([91] : List UInt8), 0, ho1, st_le [1, 0] (le_cons rfl (le_cons rfl (le_cons rfl (le_cons rfl (le_cons rfl (le_cons rfl (le_cons rfl le_nil))))))) rfl sub_nil a w hs⟩
    · rintro j a w ⟨out, t9, hL1, hs⟩
      cases j with
      | zero => cases hL1
      | succ j =>
        refine wc_app hs ?_
        unfold F.charset.Print_l1 at hL1
        refine c_seq ?_
        refine c_region ?_
        refine o_v (v_bin rfl rfl rfl) rfl ?_
        refine o_seq ?_
        refine c_seq ?_
        refine c_cond rfl (fun h2 => ?_) (fun h2 => ?_)
        · replace hL1 := ite_t h2 hL1
          refine c_skip ?_
          refine sat_wc ?_
          refine c_seq ?_
          refine c_cut (fun E N' => ∀ (out1 : List UInt8) (b1 : Nat), F.charset.Print_j2 (F.charset.Print_l1 v j) t9 out1 = some o1 → Sat E [(0, .agg #[.int .u64 s.w0, .int .u64 s.w1, .int .u64 s.w2, .int .u64 s.w3]), (1, .pointer (some ⟨b, 0, none⟩)), (2, .string (bs ([] : List UInt8))), (3, .string (bs out1)), (5, .pointer (some ⟨b1, 0, none⟩)), (7, .slice sa1 sn1 sc1), (8, .int .i64 (v.length : Int)), (9, .int .i64 t9), (10, .bool (decide (t9 < (v.length : Int)))), (24, .bool (decide ((IntKind.wrap .i64 (((at_ v t9).Lo) + 1)) < ((at_ v t9).Hi)))), (31, .bool (decide (((at_ v t9).Lo) < ((at_ v t9).Hi))))] [.box b 26 [.int .u64 s.w0, .int .u64 s.w1, .int .u64 s.w2, .int .u64 s.w3], .box b1 48 [.int .i64 ((at_ v t9).Lo), .int .i64 ((at_ v t9).Hi)], .row (.slice sa1 sn1 sc1) 48 2 (v.map eRun)] [] N') (fun N2 hN2 => ?_) ?_
          · refine c_block ?_
            refine c_seq ?_
            refine c_region ?_
            refine ite_some hL1 fun h3 hL1 => ?_
            refine o_v (v_indexAddr_s (xs := v) (enc := eRun) sl43 rfl rfl (.r 1 _ rfl) h3) rfl ?_
            refine o_v (v_load_s (xs := v) (enc := eRun) ty48 rfl (.r 1 _ rfl) h3 rfl rfl rfl rfl rfl rfl rfl) rfl ?_
            refine o_alloc zero48 rfl rfl fun b2 => ?_
            refine o_store_box 0 rfl ty48 rfl rfl rfl rfl rfl rfl rfl ?_
            refine o_seq ?_
            refine c_seq ?_
            refine c_region ?_
            refine o_v (v_move rfl) rfl ?_
            refine o_v (v_fieldAddr (v := .pointer (some ⟨b2, 0, none⟩)) rfl (fun _ => by kernel_rfl)) rfl ?_
            refine o_v (v_load_box 0 ty3 rfl rfl rfl rfl rfl) rfl ?_
            refine o_v (v_convert (v := .int .u8 (IntKind.wrap .u8 ((at_ v t9).Lo))) rfl (fun _ => by kernel_rfl)) rfl ?_
            obtain ⟨v1, h4, hL1⟩ := bd hL1
            refine o_callSB call38 rfl lent_nil (tri38 (IntKind.wrap .u8 ((at_ v t9).Lo)) v1 h4) rfl ?_
            refine ite_some hL1 fun h5 hL1 => ?_
            refine o_v (v_strcat rfl rfl h5) rfl ?_
            refine o_v (v_assign rfl) rfl ?_
            refine o_seq ?_
            refine c_seq ?_
            refine c_seq ?_
            refine c_region ?_
            refine o_v (v_fieldAddr (v := .pointer (some ⟨b2, 1, none⟩)) rfl (fun _ => by kernel_rfl)) rfl ?_
            refine o_v (v_load_box 0 ty3 rfl rfl rfl rfl rfl) rfl ?_
            refine o_v (v_fieldAddr (v := .pointer (some ⟨b2, 0, none⟩)) rfl (fun _ => by kernel_rfl)) rfl ?_
            refine o_v (v_load_box 0 ty3 rfl rfl rfl rfl rfl) rfl ?_
            refine o_v (v_bin rfl rfl rfl) rfl ?_
            refine o_v (v_bin rfl rfl rfl) rfl ?_
            refine o_seq ?_
            refine c_cut (fun E N' => ∀ (out2 : List UInt8), F.charset.Print_j3 v t9 (F.charset.Print_l1 v j) out2 = some o1 → Sat E [(0, .agg #[.int .u64 s.w0, .int .u64 s.w1, .int .u64 s.w2, .int .u64 s.w3]), (1, .pointer (some ⟨b, 0, none⟩)), (2, .string (bs ([] : List UInt8))), (3, .string (bs out2)), (5, .pointer (some ⟨b2, 0, none⟩)), (7, .slice sa1 sn1 sc1), (8, .int .i64 (v.length : Int)), (9, .int .i64 t9), (10, .bool (decide (t9 < (v.length : Int)))), (24, .bool (decide ((IntKind.wrap .i64 (((at_ v t9).Lo) + 1)) < ((at_ v t9).Hi))))] [.box b2 48 [.int .i64 ((at_ v t9).Lo), .int .i64 ((at_ v t9).Hi)], .box b 26 [.int .u64 s.w0, .int .u64 s.w1, .int .u64 s.w2, .int .u64 s.w3], .row (.slice sa1 sn1 sc1) 48 2 (v.map eRun)] [] N') (fun N4 hN4 => ?_) ?_
            · refine c_cond rfl (fun h9 => ?_) (fun h9 => ?_)
              · replace hL1 := ite_t h9 hL1
                refine c_region ?_
                refine o_v (v_move rfl) rfl ?_
                refine ite_some hL1 fun h10 hL1 => ?_
                refine o_v (v_strcat rfl rfl h10) rfl ?_
                refine o_v (v_assign rfl) rfl ?_
                refine o_nil ?_
                refine s_st ?_ (hN4 ((out ++ v1) ++ ([45] : List UInt8)) hL1)
                exact st_le [0, 0, 0] (le_cons rfl (le_cons rfl (le_cons rfl (le_cons rfl (le_cons rfl (le_cons rfl (le_cons rfl (le_cons rfl (le_cons rfl (le_cons rfl le_nil)))))))))) rfl sub_nil
              · replace hL1 := ite_f h9 hL1
                refine c_skip ?_
                refine s_st ?_ (hN4 (out ++ v1) hL1)
                exact st_le [0, 0, 0] (le_cons rfl (le_cons rfl (le_cons rfl (le_cons rfl (le_cons rfl (le_cons rfl (le_cons rfl (le_cons rfl (le_cons rfl (le_cons rfl le_nil)))))))))) rfl sub_nil
            · intro out2 hL1
              unfold F.charset.Print_j3 at hL1
              refine sat_wc ?_
              refine c_seq ?_
              refine c_region ?_
              refine o_v (v_fieldAddr (v := .pointer (some ⟨b2, 1, none⟩)) rfl (fun _ => by kernel_rfl)) rfl ?_
              refine o_v (v_load_box 0 ty3 rfl rfl rfl rfl rfl) rfl ?_
              refine o_v (v_fieldAddr (v := .pointer (some ⟨b2, 0, none⟩)) rfl (fun _ => by kernel_rfl)) rfl ?_
              refine o_v (v_load_box 0 ty3 rfl rfl rfl rfl rfl) rfl ?_
              refine o_v (v_bin rfl rfl rfl) rfl ?_
              refine o_seq ?_
              refine c_cut (fun E N' => ∀ (out3 : List UInt8), F.charset.Print_j4 (F.charset.Print_l1 v j) t9 out3 = some o1 → Sat E [(0, .agg #[.int .u64 s.w0, .int .u64 s.w1, .int .u64 s.w2, .int .u64 s.w3]), (1, .pointer (some ⟨b, 0, none⟩)), (2, .string (bs ([] : List UInt8))), (3, .string (bs out3)), (5, .pointer (some ⟨b2, 0, none⟩)), (7, .slice sa1 sn1 sc1), (8, .int .i64 (v.length : Int)), (9, .int .i64 t9), (10, .bool (decide (t9 < (v.length : Int)))), (24, .bool (decide ((IntKind.wrap .i64 (((at_ v t9).Lo) + 1)) < ((at_ v t9).Hi)))), (31, .bool (decide (((at_ v t9).Lo) < ((at_ v t9).Hi))))] [.box b2 48 [.int .i64 ((at_ v t9).Lo), .int .i64 ((at_ v t9).Hi)], .box b 26 [.int .u64 s.w0, .int .u64 s.w1, .int .u64 s.w2, .int .u64 s.w3], .row (.slice sa1 sn1 sc1) 48 2 (v.map eRun)] [] N') (fun N4 hN4 => ?_) ?_
              · refine c_cond rfl (fun h6 => ?_) (fun h6 => ?_)
                · replace hL1 := ite_t h6 hL1
                  refine c_region ?_
                  refine o_v (v_move rfl) rfl ?_
                  refine o_v (v_fieldAddr (v := .pointer (some ⟨b2, 1, none⟩)) rfl (fun _ => by kernel_rfl)) rfl ?_
                  refine o_v (v_load_box 0 ty3 rfl rfl rfl rfl rfl) rfl ?_
                  refine o_v (v_convert (v := .int .u8 (IntKind.wrap .u8 ((at_ v t9).Hi))) rfl (fun _ => by kernel_rfl)) rfl ?_
                  obtain ⟨v2, h7, hL1⟩ := bd hL1
                  refine o_callSB call38 rfl lent_nil (tri38 (IntKind.wrap .u8 ((at_ v t9).Hi)) v2 h7) rfl ?_
                  refine ite_some hL1 fun h8 hL1 => ?_
                  refine o_v (v_strcat rfl rfl h8) rfl ?_
                  refine o_v (v_assign rfl) rfl ?_
                  refine o_nil ?_
                  refine s_st ?_ (hN4 (out2 ++ v2) hL1)
                  exact st_le [0, 0, 0] (le_cons rfl (le_cons rfl (le_cons rfl (le_cons rfl (le_cons rfl (le_cons rfl (le_cons rfl (le_cons rfl (le_cons rfl (le_cons rfl (le_cons rfl le_nil))))))))))) rfl sub_nil
                · replace hL1 := ite_f h6 hL1
                  refine c_skip ?_
                  refine s_st ?_ (hN4 out2 hL1)
                  exact st_le [0, 0, 0] (le_cons rfl (le_cons rfl (le_cons rfl (le_cons rfl (le_cons rfl (le_cons rfl (le_cons rfl (le_cons rfl (le_cons rfl (le_cons rfl (le_cons rfl le_nil))))))))))) rfl sub_nil
              · intro out3 hL1
                unfold F.charset.Print_j4 at hL1
                refine s_st ?_ (hN2 out3 b2 hL1)
                exact st_le [1, 0, 0] (le_cons rfl (le_cons rfl (le_cons rfl (le_cons rfl (le_cons rfl (le_cons rfl (le_cons rfl (le_cons rfl (le_cons rfl (le_cons rfl (le_cons rfl le_nil))))))))))) rfl sub_nil
          · intro out1 b1 hL1
            unfold F.charset.Print_j2 at hL1
            refine sat_wc ?_
            refine c_region ?_
            refine o_v (v_bin rfl rfl rfl) rfl ?_
            refine o_v (v_move rfl) rfl ?_
            refine o_nil ?_
            intro a w hs
            exact ⟨j, Nat.lt_succ_self j, out1, IntKind.wrap .i64 (t9 + 1), hL1, st_le [0, 1] (le_cons rfl (le_cons rfl (le_cons rfl (le_cons rfl (le_cons rfl (le_cons rfl (le_cons rfl le_nil))))))) rfl sub_nil a w hs⟩
        · replace hL1 := ite_f h2 hL1
          refine c_exit0 ?_
          cases hL1
          refine s_st ?_ (hN1)
          exact st_le [0, 0] (le_cons rfl (le_cons rfl (le_cons rfl (le_cons rfl (le_cons rfl le_nil))))) rfl sub_nil
  · refine sat_wc ?_
    refine c_seq ?_
    refine c_region ?_
    refine o_v (v_move rfl) rfl ?_
    refine ite_some hF fun h11 hF => ?_
    refine o_v (v_strcat rfl rfl h11) rfl ?_
    refine o_v (v_assign rfl) rfl ?_
    refine o_seq ?_
    refine c_ret ?_
    cases hF
    refine s_ret1 rfl (r_tmp rfl) fun a w hs => ?_
    exact fin_sel hs [] ⟨rfl, rfl, rfl⟩ rfl sub_nil
theorem tri12 (k : Nat) (r : Bool) (hF : F.law01.alive k = some r) :
    Tri Try.prog 12 [] [] [] (fun o H Φ => o = .ret (.bool r) ∧ H = [] ∧ Φ = []) := by
  unfold F.law01.alive at hF
  refine tri_intro (n := 26) Try.func12 rfl Try.ntmps12 rfl fun w X => ?_
  refine c_seq ?_
  refine c_region ?_
  refine o_v (v_assign rfl) rfl ?_
  refine o_seq ?_
  refine c_seq ?_
  refine c_region ?_
  obtain ⟨v, h1, hF⟩ := bd hF
  refine o_callSB call21 rfl lent_nil (tri21 k ([91, 97, 45, 99, 93] : List UInt8) v h1) rfl ?_
  refine o_v (v_move rfl) rfl ?_
  refine o_v (v_extract rfl rfl) rfl ?_
  refine o_v (v_extract rfl rfl) rfl ?_
  refine o_alloc zero26 rfl rfl fun b => ?_
  refine o_alloc zero38 rfl rfl fun b1 => ?_
  refine o_store_box 1 rfl ty26 rfl rfl rfl rfl rfl rfl rfl ?_
  refine o_store_box 0 rfl ty38 rfl rfl rfl rfl rfl rfl rfl ?_
  refine o_seq ?_
  refine c_seq ?_
  refine c_cut (fun E N' => ∀ (t0 : Bool), F.law01.alive_j1 t0 = some r → Sat E [(0, .bool t0), (1, .pointer (some ⟨b, 0, none⟩)), (2, .pointer (some ⟨b1, 0, none⟩))] [.box b1 38 [.int .i64 v.2.At, .int .i64 v.2.Code], .box b 26 [.int .u64 v.1.w0, .int .u64 v.1.w1, .int .u64 v.1.w2, .int .u64 v.1.w3]] [] N') (fun N1 hN1 => ?_) ?_
  · refine c_region ?_
    refine o_v (v_load_box 0 ty38 rfl rfl rfl rfl rfl) rfl ?_
    refine o_v (v_build (v := .agg #[.int .i64 0, .int .i64 0]) rfl (fun _ => by kernel_rfl)) rfl ?_
    refine o_v (v_ageq 2 rfl rfl (eq38 v.2.At v.2.Code 0 0) rfl guard38) rfl ?_
    refine o_v (v_move rfl) rfl ?_
    refine o_split (t := 10) rfl (fun h2 => ?_) (fun h2 => ?_)
    · replace hF := ite_t h2 hF
      refine o_on rfl rfl ?_
      refine o_v (v_load_box 1 ty26 rfl rfl rfl rfl rfl) rfl ?_
      refine o_on rfl rfl ?_
      obtain ⟨v1, h3, hF⟩ := bd hF
      refine o_callSB call34 rfl lent_nil (tri34 k v.1 v1 h3) rfl ?_
      refine o_on rfl rfl ?_
      refine o_v (v_bin rfl rfl rfl) rfl ?_
      refine o_v (v_pick_t rfl rfl) rfl ?_
      refine o_v (v_move rfl) rfl ?_
      refine o_split (t := 15) rfl (fun h4 => ?_) (fun h4 => ?_)
      · replace hF := ite_t h4 hF
        refine o_on rfl rfl ?_
        refine o_buildSlice (enc := eU8) ([97, 98, 99, 120, 10] : List Int) [.int .u8 97, .int .u8 98, .int .u8 99, .int .u8 120, .int .u8 10] sl22 rfl (fun _ => by kernel_rfl) rfl rfl rfl (.s rfl (.s rfl (.s rfl (.s rfl (.s rfl (.nil)))))) rfl fun sa1 sn1 sc1 => ?_
        refine o_on rfl rfl ?_
        obtain ⟨v2, h5, hF⟩ := bd hF
        refine o_callSB call13 rfl (lent_r 0 rfl lent_nil) (tri13 k ([97, 98, 99, 120, 10] : List Int) sa1 sn1 sc1 v2 h5) rfl ?_
        refine o_on rfl rfl ?_
        obtain ⟨v3, h6, hF⟩ := bd hF
        refine o_callSB call19 rfl lent_nil (tri19 k v2 v3 h6) rfl ?_
        refine o_on rfl rfl ?_
        refine o_v (v_streq rfl rfl) rfl ?_
        refine o_v (v_pick_t rfl rfl) rfl ?_
        refine o_v (v_move rfl) rfl ?_
        refine o_split (t := 21) rfl (fun h7 => ?_) (fun h7 => ?_)
        · replace hF := ite_t h7 hF
          refine o_on rfl rfl ?_
          refine o_buildSlice (enc := eU8) ([97] : List Int) [.int .u8 97] sl22 rfl (fun _ => by kernel_rfl) rfl rfl rfl (.s rfl (.nil)) rfl fun sa2 sn2 sc2 => ?_
          refine o_on rfl rfl ?_
          obtain ⟨v4, h8, hF⟩ := bd hF
          refine o_callSB call13 rfl (lent_r 0 rfl lent_nil) (tri13 k ([97] : List Int) sa2 sn2 sc2 v4 h8) rfl ?_
          refine o_on rfl rfl ?_
          obtain ⟨v5, h9, hF⟩ := bd hF
          refine o_callSB call17 rfl lent_nil (tri17 v4 97 v5 h9) rfl ?_
          refine o_v (v_pick_t rfl rfl) rfl ?_
          refine o_v (v_assign rfl) rfl ?_
          refine o_nil ?_
          refine s_st ?_ (hN1 v5 hF)
          exact st_le [2, 2] (le_cons rfl (le_cons rfl (le_cons rfl le_nil))) rfl sub_nil
        · replace hF := ite_f h7 hF
          refine o_off rfl rfl (by decide) rfl ?_
          refine o_off rfl rfl (by decide) rfl ?_
          refine o_off rfl rfl (by decide) rfl ?_
          refine o_v (v_pick_f rfl rfl) rfl ?_
          refine o_v (v_assign rfl) rfl ?_
          refine o_nil ?_
          refine s_st ?_ (hN1 false hF)
          exact st_le [1, 1] (le_cons rfl (le_cons rfl (le_cons rfl le_nil))) rfl sub_nil
      · replace hF := ite_f h4 hF
        refine o_off rfl rfl (by decide) rfl ?_
        refine o_off rfl rfl (by decide) rfl ?_
        refine o_off rfl rfl (by decide) rfl ?_
        refine o_off rfl rfl (by decide) rfl ?_
        refine o_v (v_pick_f rfl rfl) rfl ?_
        refine o_v (v_move rfl) rfl ?_
        refine o_off rfl rfl (by decide) rfl ?_
        refine o_off rfl rfl (by decide) rfl ?_
        refine o_off rfl rfl (by decide) rfl ?_
        refine o_v (v_pick_f rfl rfl) rfl ?_
        refine o_v (v_assign rfl) rfl ?_
        refine o_nil ?_
        refine s_st ?_ (hN1 false hF)
        exact st_le [0, 0] (le_cons rfl (le_cons rfl (le_cons rfl le_nil))) rfl sub_nil
    · replace hF := ite_f h2 hF
      refine o_off rfl rfl (by decide) rfl ?_
      refine o_off rfl rfl (by decide) rfl ?_
      refine o_off rfl rfl (by decide) rfl ?_
      refine o_v (v_pick_f rfl rfl) rfl ?_
      refine o_v (v_move rfl) rfl ?_
      refine o_off rfl rfl (by decide) rfl ?_
      refine o_off rfl rfl (by decide) rfl ?_
      refine o_off rfl rfl (by decide) rfl ?_
      refine o_off rfl rfl (by decide) rfl ?_
      refine o_v (v_pick_f rfl rfl) rfl ?_
      refine o_v (v_move rfl) rfl ?_
      refine o_off rfl rfl (by decide) rfl ?_
      refine o_off rfl rfl (by decide) rfl ?_
      refine o_off rfl rfl (by decide) rfl ?_
      refine o_v (v_pick_f rfl rfl) rfl ?_
      refine o_v (v_assign rfl) rfl ?_
      refine o_nil ?_
      refine s_st ?_ (hN1 false hF)
      exact st_le [0, 0] (le_cons rfl (le_cons rfl (le_cons rfl le_nil))) rfl sub_nil
  · intro t0 hF
    unfold F.law01.alive_j1 at hF
    refine sat_wc ?_
    refine c_ret ?_
    cases hF
    refine s_ret1 rfl (r_tmp rfl) fun a w hs => ?_
    exact fin_sel hs [] ⟨rfl, rfl, rfl⟩ rfl sub_nil
theorem tri18 (k : Nat) (s : S4) (n : Int) (r : Bool) (hF : F.ref01.Has k s n = some r) :
    Tri Try.prog 18 [.agg #[.int .u64 s.w0, .int .u64 s.w1, .int .u64 s.w2, .int .u64 s.w3], .int .i64 n] [] [] (fun o H Φ => o = .ret (.bool r) ∧ H = [] ∧ Φ = []) := by
  unfold F.ref01.Has at hF
  refine tri_intro (n := 40) Try.func18 rfl Try.ntmps18 rfl fun w X => ?_
  refine c_seq ?_
  refine c_region ?_
  refine o_box rfl rfl rfl fun b => ?_
  refine o_v (v_assign rfl) rfl ?_
  refine o_seq ?_
  refine c_seq ?_
  refine c_seq ?_
  refine c_region ?_
  refine o_v (v_move rfl) rfl ?_
  refine o_v (v_bin rfl rfl rfl) rfl ?_
  refine o_v (v_move rfl) rfl ?_
  refine o_split (t := 9) rfl (fun h1 => ?_) (fun h1 => ?_)
  · replace hF := ite_t h1 hF
    refine o_off rfl rfl (by decide) rfl ?_
    refine o_off rfl rfl (by decide) rfl ?_
    refine o_v (v_pick_t rfl rfl) rfl ?_
    refine o_seq ?_
    refine c_cond rfl (fun _ => ?_) (fun h => Bool.noConfusion h)
    refine c_seq ?_
    refine c_region ?_
    refine o_v (v_assign rfl) rfl ?_
    refine o_seq ?_
    refine c_ret ?_
    cases hF
    refine s_ret1 rfl (r_tmp rfl) fun a w hs => ?_
    exact fin_sel hs [] ⟨rfl, rfl, rfl⟩ rfl sub_nil
  · replace hF := ite_f h1 hF
    refine o_on rfl rfl ?_
    refine o_v (v_move rfl) rfl ?_
    refine o_on rfl rfl ?_
    refine o_v (v_bin rfl rfl rfl) rfl ?_
    refine o_v (v_pick_f rfl rfl) rfl ?_
    refine o_seq ?_
    refine c_cond rfl (fun h2 => ?_) (fun h2 => ?_)
    · replace hF := ite_t h2 hF
      refine c_seq ?_
      refine c_region ?_
      refine o_v (v_assign rfl) rfl ?_
      refine o_seq ?_
      refine c_ret ?_
      cases hF
      refine s_ret1 rfl (r_tmp rfl) fun a w hs => ?_
      exact fin_sel hs [] ⟨rfl, rfl, rfl⟩ rfl sub_nil
    · replace hF := ite_f h2 hF
      refine c_skip ?_
      refine sat_wc ?_
      refine c_seq ?_
      refine c_region ?_
      refine o_v (v_indexAddr_a ar26 rfl rfl rfl) rfl ?_
      refine o_v (v_load_box 0 ty24 rfl rfl rfl rfl rfl) rfl ?_
      refine o_v (v_assign rfl) rfl ?_
      refine o_seq ?_
      refine c_seq ?_
      refine c_seq ?_
      refine c_region ?_
      refine o_v (v_move rfl) rfl ?_
      refine o_v (v_quo rfl rfl rfl) rfl ?_
      refine o_seq ?_
      refine c_cut (fun E N' => ∀ (w_ : Int), F.ref01.Has_j1 k n w_ = some r → Sat E [(0, .agg #[.int .u64 s.w0, .int .u64 s.w1, .int .u64 s.w2, .int .u64 s.w3]), (1, .int .i64 n), (2, .pointer (some ⟨b, 0, none⟩)), (4, .bool false), (5, .int .u64 w_), (12, .bool (decide (255 < n)))] [.box b 26 [.int .u64 s.w0, .int .u64 s.w1, .int .u64 s.w2, .int .u64 s.w3]] [] N') (fun N2 hN2 => ?_) ?_
      · refine c_block ?_
        refine c_seq ?_
        refine c_region ?_
        refine o_v (v_bin rfl rfl rfl) rfl ?_
        refine o_v (v_assign rfl) rfl ?_
        refine o_seq ?_
        refine c_cond rfl (fun h4 => ?_) (fun h4 => ?_)
        · replace hF := ite_t h4 hF
          refine c_region ?_
          refine o_v (v_indexAddr_a ar26 rfl rfl rfl) rfl ?_
          refine o_v (v_load_box 0 ty24 rfl rfl rfl rfl rfl) rfl ?_
          refine o_v (v_assign rfl) rfl ?_
          refine o_nil ?_
          refine s_st ?_ (hN2 s.w1 hF)
          exact st_le [0] (le_cons rfl (le_cons rfl (le_cons rfl (le_cons rfl (le_cons rfl (le_cons rfl le_nil)))))) rfl sub_nil
        · replace hF := ite_f h4 hF
          refine c_seq ?_
          refine c_region ?_
          refine o_v (v_bin rfl rfl rfl) rfl ?_
          refine o_v (v_assign rfl) rfl ?_
          refine o_seq ?_
          refine c_cut (fun E N' => ∀ (w_2 : Int), F.ref01.Has_j3 k n w_2 = some r → Sat E [(0, .agg #[.int .u64 s.w0, .int .u64 s.w1, .int .u64 s.w2, .int .u64 s.w3]), (1, .int .i64 n), (2, .pointer (some ⟨b, 0, none⟩)), (4, .bool false), (5, .int .u64 w_2), (12, .bool (decide (255 < n))), (16, .int .i64 (gquo .i64 n 64)), (17, .bool ((gquo .i64 n 64) == 1))] [.box b 26 [.int .u64 s.w0, .int .u64 s.w1, .int .u64 s.w2, .int .u64 s.w3]] [] N') (fun N3 hN3 => ?_) ?_
          · refine c_cond rfl (fun h5 => ?_) (fun h5 => ?_)
            · replace hF := ite_t h5 hF
              refine c_region ?_
              refine o_v (v_indexAddr_a ar26 rfl rfl rfl) rfl ?_
              refine o_v (v_load_box 0 ty24 rfl rfl rfl rfl rfl) rfl ?_
              refine o_v (v_assign rfl) rfl ?_
              refine o_nil ?_
              refine s_st ?_ (hN3 s.w2 hF)
              exact st_le [0] (le_cons rfl (le_cons rfl (le_cons rfl (le_cons rfl (le_cons rfl (le_cons rfl (le_cons rfl (le_cons rfl le_nil)))))))) rfl sub_nil
            · replace hF := ite_f h5 hF
              refine c_seq ?_
              refine c_region ?_
              refine o_v (v_bin rfl rfl rfl) rfl ?_
              refine o_v (v_assign rfl) rfl ?_
              refine o_seq ?_
              refine c_cond rfl (fun h6 => ?_) (fun h6 => ?_)
              · replace hF := ite_t h6 hF
                refine c_region ?_
                refine o_v (v_indexAddr_a ar26 rfl rfl rfl) rfl ?_
                refine o_v (v_load_box 0 ty24 rfl rfl rfl rfl rfl) rfl ?_
                refine o_v (v_assign rfl) rfl ?_
                refine o_nil ?_
                refine s_st ?_ (hN3 s.w3 hF)
                exact st_le [0] (le_cons rfl (le_cons rfl (le_cons rfl (le_cons rfl (le_cons rfl (le_cons rfl (le_cons rfl (le_cons rfl le_nil)))))))) rfl sub_nil
              · replace hF := ite_f h6 hF
                refine c_skip ?_
                refine s_st ?_ (hN3 s.w0 hF)
                exact st_le [0] (le_cons rfl (le_cons rfl (le_cons rfl (le_cons rfl (le_cons rfl (le_cons rfl (le_cons rfl (le_cons rfl le_nil)))))))) rfl sub_nil
          · intro w_2 hF
            unfold F.ref01.Has_j3 at hF
            refine s_st ?_ (hN2 w_2 hF)
            exact st_le [0] (le_cons rfl (le_cons rfl (le_cons rfl (le_cons rfl (le_cons rfl (le_cons rfl le_nil)))))) rfl sub_nil
      · intro w_ hF
        unfold F.ref01.Has_j1 at hF
        refine sat_wc ?_
        refine c_seq ?_
        refine c_seq ?_
        refine c_region ?_
        refine o_v (v_assign rfl) rfl ?_
        refine o_seq ?_
        obtain ⟨o2, ho2, hF⟩ := bd hF
        refine c_cut (fun E N' => Sat E [(0, .agg #[.int .u64 s.w0, .int .u64 s.w1, .int .u64 s.w2, .int .u64 s.w3]), (1, .int .i64 n), (2, .pointer (some ⟨b, 0, none⟩)), (4, .bool false), (5, .int .u64 o2), (12, .bool (decide (255 < n)))] [.box b 26 [.int .u64 s.w0, .int .u64 s.w1, .int .u64 s.w2, .int .u64 s.w3]] [] N') (fun N2 hN2 => ?_) ?_
        · refine c_block ?_
          refine c_loopE (fun E j a w => ∃ (w_1 : Int) (i : Int), F.ref01.Has_l2 n j w_1 i = some o2 ∧ St E [(0, .agg #[.int .u64 s.w0, .int .u64 s.w1, .int .u64 s.w2, .int .u64 s.w3]), (1, .int .i64 n), (2, .pointer (some ⟨b, 0, none⟩)), (4, .bool false), (5, .int .u64 w_1), (6, .int .i64 i), (12, .bool (decide (255 < n)))] [.box b 26 [.int .u64 s.w0, .int .u64 s.w1, .int .u64 s.w2, .int .u64 s.w3]] [] a w) k ?_ ?_
          · intro a w hs
            exact ⟨w_, 0, ho2, st_le [0] (le_cons rfl (le_cons rfl (le_cons rfl (le_cons rfl (le_cons rfl (le_cons rfl (le_cons rfl le_nil))))))) rfl sub_nil a w hs⟩
          · rintro j a w ⟨w_1, i, hL2, hs⟩
            cases j with
            | zero => cases hL2
            | succ j =>
              refine wc_app hs ?_
              unfold F.ref01.Has_l2 at hL2
              refine c_seq ?_
              refine c_seq ?_
              refine c_region ?_
              refine o_v (v_move rfl) rfl ?_
              refine o_v (v_move rfl) rfl ?_
              refine o_v (v_rem rfl rfl rfl) rfl ?_
              refine o_v (v_bin rfl rfl rfl) rfl ?_
              refine o_seq ?_
              refine c_cond rfl (fun h3 => ?_) (fun h3 => ?_)
              · replace hL2 := ite_t h3 hL2
                refine c_skip ?_
                refine sat_wc ?_
                refine c_seq ?_
                refine c_block ?_
                refine c_region ?_
                refine o_v (v_move rfl) rfl ?_
                refine o_v (v_quo rfl rfl rfl) rfl ?_
                refine o_v (v_assign rfl) rfl ?_
                refine o_nil ?_
                refine sat_wc ?_
                refine c_region ?_
                refine o_v (v_move rfl) rfl ?_
                refine o_v (v_bin rfl rfl rfl) rfl ?_
                refine o_v (v_assign rfl) rfl ?_
                refine o_nil ?_
                intro a w hs
                exact ⟨j, Nat.lt_succ_self j, gquo .u64 w_1 2, IntKind.wrap .i64 (i + 1), hL2, st_le [0] (le_cons rfl (le_cons rfl (le_cons rfl (le_cons rfl (le_cons rfl (le_cons rfl (le_cons rfl le_nil))))))) rfl sub_nil a w hs⟩
              · replace hL2 := ite_f h3 hL2
                refine c_exit0 ?_
                cases hL2
                refine s_st ?_ (hN2)
                exact st_le [0] (le_cons rfl (le_cons rfl (le_cons rfl (le_cons rfl (le_cons rfl (le_cons rfl le_nil)))))) rfl sub_nil
        · refine sat_wc ?_
          refine c_seq ?_
          refine c_region ?_
          refine o_v (v_move rfl) rfl ?_
          refine o_v (v_rem rfl rfl rfl) rfl ?_
          refine o_v (v_bin rfl rfl rfl) rfl ?_
          refine o_v (v_assign rfl) rfl ?_
          refine o_seq ?_
          refine c_ret ?_
          cases hF
          refine s_ret1 rfl (r_tmp rfl) fun a w hs => ?_
          exact fin_sel hs [] ⟨rfl, rfl, rfl⟩ rfl sub_nil
theorem tri37 (k : Nat) (s : S4) (n : Int) (r : S4) (hF : F.ref01.With k s n = some r) :
    Tri Try.prog 37 [.agg #[.int .u64 s.w0, .int .u64 s.w1, .int .u64 s.w2, .int .u64 s.w3], .int .i64 n] [] [] (fun o H Φ => o = .ret (.agg #[.int .u64 r.w0, .int .u64 r.w1, .int .u64 r.w2, .int .u64 r.w3]) ∧ H = [] ∧ Φ = []) := by
  unfold F.ref01.With at hF
  refine tri_intro (n := 56) Try.func37 rfl Try.ntmps37 rfl fun w X => ?_
  refine c_seq ?_
  refine c_region ?_
  refine o_box rfl rfl rfl fun b => ?_
  refine o_alloc zero26 rfl rfl fun b1 => ?_
  refine o_seq ?_
  refine c_seq ?_
  refine c_seq ?_
  refine c_region ?_
  refine o_v (v_move rfl) rfl ?_
  refine o_v (v_bin rfl rfl rfl) rfl ?_
  refine o_v (v_move rfl) rfl ?_
  refine o_split (t := 9) rfl (fun h1 => ?_) (fun h1 => ?_)
  · replace hF := ite_t h1 hF
    refine o_off rfl rfl (by decide) rfl ?_
    refine o_off rfl rfl (by decide) rfl ?_
    refine o_v (v_pick_t rfl rfl) rfl ?_
    refine o_v (v_move rfl) rfl ?_
    refine o_off rfl rfl (by decide) rfl ?_
    refine o_off rfl rfl (by decide) rfl ?_
    refine o_off rfl rfl (by decide) rfl ?_
    refine o_v (v_pick_t rfl rfl) rfl ?_
    refine o_seq ?_
    refine c_cond rfl (fun _ => ?_) (fun h => Bool.noConfusion h)
    refine c_seq ?_
    refine c_region ?_
    refine o_v (v_load_box 1 ty26 rfl rfl rfl rfl rfl) rfl ?_
    refine o_store_box 0 rfl ty26 rfl rfl rfl rfl rfl rfl rfl ?_
    refine o_seq ?_
    refine c_ret ?_
    cases hF
    refine s_ret1 rfl (r_cell 0 rfl ty26 rfl rfl rfl rfl) fun a w hs => ?_
    exact fin_sel hs [] ⟨rfl, rfl, rfl⟩ rfl sub_nil
  · replace hF := ite_f h1 hF
    refine o_on rfl rfl ?_
    refine o_v (v_move rfl) rfl ?_
    refine o_on rfl rfl ?_
    refine o_v (v_bin rfl rfl rfl) rfl ?_
    refine o_v (v_pick_f rfl rfl) rfl ?_
    refine o_v (v_move rfl) rfl ?_
    refine o_split (t := 13) rfl (fun h2 => ?_) (fun h2 => ?_)
    · replace hF := ite_t h2 hF
      refine o_off rfl rfl (by decide) rfl ?_
      refine o_off rfl rfl (by decide) rfl ?_
      refine o_off rfl rfl (by decide) rfl ?_
      refine o_v (v_pick_t rfl rfl) rfl ?_
      refine o_seq ?_
      refine c_cond rfl (fun _ => ?_) (fun h => Bool.noConfusion h)
      refine c_seq ?_
      refine c_region ?_
      refine o_v (v_load_box 1 ty26 rfl rfl rfl rfl rfl) rfl ?_
      refine o_store_box 0 rfl ty26 rfl rfl rfl rfl rfl rfl rfl ?_
      refine o_seq ?_
      refine c_ret ?_
      cases hF
      refine s_ret1 rfl (r_cell 0 rfl ty26 rfl rfl rfl rfl) fun a w hs => ?_
      exact fin_sel hs [] ⟨rfl, rfl, rfl⟩ rfl sub_nil
    · replace hF := ite_f h2 hF
      refine o_on rfl rfl ?_
      refine o_v (v_load_box 1 ty26 rfl rfl rfl rfl rfl) rfl ?_
      refine o_on rfl rfl ?_
      refine o_v (v_move rfl) rfl ?_
      refine o_on rfl rfl ?_
      obtain ⟨v, h3, hF⟩ := bd hF
      refine o_callSB call18 rfl lent_nil (tri18 k s n v h3) rfl ?_
      refine o_v (v_pick_f rfl rfl) rfl ?_
      refine o_seq ?_
      refine c_cond rfl (fun h4 => ?_) (fun h4 => ?_)
      · replace hF := ite_t h4 hF
        refine c_seq ?_
        refine c_region ?_
        refine o_v (v_load_box 1 ty26 rfl rfl rfl rfl rfl) rfl ?_
        refine o_store_box 0 rfl ty26 rfl rfl rfl rfl rfl rfl rfl ?_
        refine o_seq ?_
        refine c_ret ?_
        cases hF
        refine s_ret1 rfl (r_cell 0 rfl ty26 rfl rfl rfl rfl) fun a w hs => ?_
        exact fin_sel hs [] ⟨rfl, rfl, rfl⟩ rfl sub_nil
      · replace hF := ite_f h4 hF
        refine c_skip ?_
        refine sat_wc ?_
        refine c_seq ?_
        refine c_region ?_
        refine o_v (v_assign rfl) rfl ?_
        refine o_seq ?_
        refine c_seq ?_
        refine c_seq ?_
        refine c_region ?_
        refine o_v (v_assign rfl) rfl ?_
        refine o_seq ?_
        obtain ⟨o1, ho1, hF⟩ := bd hF
        refine c_cut (fun E N' => Sat E [(0, .agg #[.int .u64 s.w0, .int .u64 s.w1, .int .u64 s.w2, .int .u64 s.w3]), (1, .int .i64 n), (2, .pointer (some ⟨b, 0, none⟩)), (4, .pointer (some ⟨b1, 0, none⟩)), (5, .int .u64 o1), (17, .bool v)] [.box b1 26 [.int .u64 0, .int .u64 0, .int .u64 0, .int .u64 0], .box b 26 [.int .u64 s.w0, .int .u64 s.w1, .int .u64 s.w2, .int .u64 s.w3]] [] N') (fun N1 hN1 => ?_) ?_
        · refine c_block ?_
          refine c_loopE (fun E j a w => ∃ (one : Int) (i : Int), F.ref01.With_l1 n j one i = some o1 ∧ St E [(0, .agg #[.int .u64 s.w0, .int .u64 s.w1, .int .u64 s.w2, .int .u64 s.w3]), (1, .int .i64 n), (2, .pointer (some ⟨b, 0, none⟩)), (4, .pointer (some ⟨b1, 0, none⟩)), (5, .int .u64 one), (6, .int .i64 i), (17, .bool v)] [.box b1 26 [.int .u64 0, .int .u64 0, .int .u64 0, .int .u64 0], .box b 26 [.int .u64 s.w0, .int .u64 s.w1, .int .u64 s.w2, .int .u64 s.w3]] [] a w) k ?_ ?_
          · intro a w hs
            exact ⟨1, 0, ho1, st_le [0, 0] (le_cons rfl (le_cons rfl (le_cons rfl (le_cons rfl (le_cons rfl (le_cons rfl (le_cons rfl le_nil))))))) rfl sub_nil a w hs⟩
          · rintro j a w ⟨one, i, hL1, hs⟩
            cases j with
            | zero => cases hL1
            | succ j =>
              refine wc_app hs ?_
              unfold F.ref01.With_l1 at hL1
              refine c_seq ?_
              refine c_seq ?_
              refine c_region ?_
              refine o_v (v_move rfl) rfl ?_
              refine o_v (v_move rfl) rfl ?_
              refine o_v (v_rem rfl rfl rfl) rfl ?_
              refine o_v (v_bin rfl rfl rfl) rfl ?_
              refine o_seq ?_
              refine c_cond rfl (fun h5 => ?_) (fun h5 => ?_)
              · replace hL1 := ite_t h5 hL1
                refine c_skip ?_
                refine sat_wc ?_
                refine c_seq ?_
                refine c_block ?_
                refine c_region ?_
                refine o_v (v_move rfl) rfl ?_
                refine o_v (v_bin rfl rfl rfl) rfl ?_
                refine o_v (v_assign rfl) rfl ?_
                refine o_nil ?_
                refine sat_wc ?_
                refine c_region ?_
                refine o_v (v_move rfl) rfl ?_
                refine o_v (v_bin rfl rfl rfl) rfl ?_
                refine o_v (v_assign rfl) rfl ?_
                refine o_nil ?_
                intro a w hs
                exact ⟨j, Nat.lt_succ_self j, IntKind.wrap .u64 (one * 2), IntKind.wrap .i64 (i + 1), hL1, st_le [0, 0] (le_cons rfl (le_cons rfl (le_cons rfl (le_cons rfl (le_cons rfl (le_cons rfl (le_cons rfl le_nil))))))) rfl sub_nil a w hs⟩
              · replace hL1 := ite_f h5 hL1
                refine c_exit0 ?_
                cases hL1
                refine s_st ?_ (hN1)
                exact st_le [0, 0] (le_cons rfl (le_cons rfl (le_cons rfl (le_cons rfl (le_cons rfl (le_cons rfl le_nil)))))) rfl sub_nil
        · refine sat_wc ?_
          refine c_seq ?_
          refine c_seq ?_
          refine c_region ?_
          refine o_v (v_move rfl) rfl ?_
          refine o_v (v_quo rfl rfl rfl) rfl ?_
          refine o_seq ?_
          refine c_cut (fun E N' => ∀ (s1 : S4), F.ref01.With_j2 s1 = some r → Sat E [(0, .agg #[.int .u64 s.w0, .int .u64 s.w1, .int .u64 s.w2, .int .u64 s.w3]), (1, .int .i64 n), (2, .pointer (some ⟨b, 0, none⟩)), (4, .pointer (some ⟨b1, 0, none⟩)), (5, .int .u64 o1), (17, .bool v)] [.box b1 26 [.int .u64 0, .int .u64 0, .int .u64 0, .int .u64 0], .box b 26 [.int .u64 s1.w0, .int .u64 s1.w1, .int .u64 s1.w2, .int .u64 s1.w3]] [] N') (fun N2 hN2 => ?_) ?_
          · refine c_block ?_
            refine c_seq ?_
            refine c_region ?_
            refine o_v (v_bin rfl rfl rfl) rfl ?_
            refine o_v (v_assign rfl) rfl ?_
            refine o_seq ?_
            refine c_cond rfl (fun h6 => ?_) (fun h6 => ?_)
            · replace hF := ite_t h6 hF
              refine c_region ?_
              refine o_v (v_indexAddr_a ar26 rfl rfl rfl) rfl ?_
              refine o_v (v_load_box 1 ty24 rfl rfl rfl rfl rfl) rfl ?_
              refine o_v (v_move rfl) rfl ?_
              refine o_v (v_bin rfl rfl rfl) rfl ?_
              refine o_v (v_indexAddr_a ar26 rfl rfl rfl) rfl ?_
              refine o_store_box 1 rfl ty24 rfl rfl rfl rfl rfl rfl rfl ?_
              refine o_nil ?_
              refine s_st ?_ (hN2 (S4.mk (IntKind.wrap .u64 (s.w0 + o1)) s.w1 s.w2 s.w3) hF)
              exact st_le [0, 0] (le_cons rfl (le_cons rfl (le_cons rfl (le_cons rfl (le_cons rfl (le_cons rfl le_nil)))))) rfl sub_nil
            · replace hF := ite_f h6 hF
              refine c_seq ?_
              refine c_region ?_
              refine o_v (v_bin rfl rfl rfl) rfl ?_
              refine o_v (v_assign rfl) rfl ?_
              refine o_seq ?_
              refine c_cut (fun E N' => ∀ (s2 : S4), F.ref01.With_j3 s2 = some r → Sat E [(0, .agg #[.int .u64 s.w0, .int .u64 s.w1, .int .u64 s.w2, .int .u64 s.w3]), (1, .int .i64 n), (2, .pointer (some ⟨b, 0, none⟩)), (4, .pointer (some ⟨b1, 0, none⟩)), (5, .int .u64 o1), (17, .bool v), (28, .int .i64 (gquo .i64 n 64)), (34, .bool ((gquo .i64 n 64) == 0))] [.box b1 26 [.int .u64 0, .int .u64 0, .int .u64 0, .int .u64 0], .box b 26 [.int .u64 s2.w0, .int .u64 s2.w1, .int .u64 s2.w2, .int .u64 s2.w3]] [] N') (fun N3 hN3 => ?_) ?_
              · refine c_cond rfl (fun h7 => ?_) (fun h7 => ?_)
                · replace hF := ite_t h7 hF
                  refine c_region ?_
                  refine o_v (v_indexAddr_a ar26 rfl rfl rfl) rfl ?_
                  refine o_v (v_load_box 1 ty24 rfl rfl rfl rfl rfl) rfl ?_
                  refine o_v (v_move rfl) rfl ?_
                  refine o_v (v_bin rfl rfl rfl) rfl ?_
                  refine o_v (v_indexAddr_a ar26 rfl rfl rfl) rfl ?_
                  refine o_store_box 1 rfl ty24 rfl rfl rfl rfl rfl rfl rfl ?_
                  refine o_nil ?_
                  refine s_st ?_ (hN3 (S4.mk s.w0 (IntKind.wrap .u64 (s.w1 + o1)) s.w2 s.w3) hF)
                  exact st_le [0, 0] (le_cons rfl (le_cons rfl (le_cons rfl (le_cons rfl (le_cons rfl (le_cons rfl (le_cons rfl (le_cons rfl le_nil)))))))) rfl sub_nil
                · replace hF := ite_f h7 hF
                  refine c_seq ?_
                  refine c_region ?_
                  refine o_v (v_bin rfl rfl rfl) rfl ?_
                  refine o_v (v_assign rfl) rfl ?_
                  refine o_seq ?_
                  refine c_cond rfl (fun h8 => ?_) (fun h8 => ?_)
                  · replace hF := ite_t h8 hF
                    refine c_region ?_
                    refine o_v (v_indexAddr_a ar26 rfl rfl rfl) rfl ?_
                    refine o_v (v_load_box 1 ty24 rfl rfl rfl rfl rfl) rfl ?_
                    refine o_v (v_move rfl) rfl ?_
                    refine o_v (v_bin rfl rfl rfl) rfl ?_
                    refine o_v (v_indexAddr_a ar26 rfl rfl rfl) rfl ?_
                    refine o_store_box 1 rfl ty24 rfl rfl rfl rfl rfl rfl rfl ?_
                    refine o_nil ?_
                    refine s_st ?_ (hN3 (S4.mk s.w0 s.w1 (IntKind.wrap .u64 (s.w2 + o1)) s.w3) hF)
                    exact st_le [0, 0] (le_cons rfl (le_cons rfl (le_cons rfl (le_cons rfl (le_cons rfl (le_cons rfl (le_cons rfl (le_cons rfl le_nil)))))))) rfl sub_nil
                  · replace hF := ite_f h8 hF
                    refine c_region ?_
                    refine o_v (v_indexAddr_a ar26 rfl rfl rfl) rfl ?_
                    refine o_v (v_load_box 1 ty24 rfl rfl rfl rfl rfl) rfl ?_
                    refine o_v (v_move rfl) rfl ?_
                    refine o_v (v_bin rfl rfl rfl) rfl ?_
                    refine o_v (v_indexAddr_a ar26 rfl rfl rfl) rfl ?_
                    refine o_store_box 1 rfl ty24 rfl rfl rfl rfl rfl rfl rfl ?_
                    refine o_nil ?_
                    refine s_st ?_ (hN3 (S4.mk s.w0 s.w1 s.w2 (IntKind.wrap .u64 (s.w3 + o1))) hF)
                    exact st_le [0, 0] (le_cons rfl (le_cons rfl (le_cons rfl (le_cons rfl (le_cons rfl (le_cons rfl (le_cons rfl (le_cons rfl le_nil)))))))) rfl sub_nil
              · intro s2 hF
                unfold F.ref01.With_j3 at hF
                refine s_st ?_ (hN2 s2 hF)
                exact st_le [0, 0] (le_cons rfl (le_cons rfl (le_cons rfl (le_cons rfl (le_cons rfl (le_cons rfl le_nil)))))) rfl sub_nil
          · intro s1 hF
            unfold F.ref01.With_j2 at hF
            refine sat_wc ?_
            refine c_seq ?_
            refine c_region ?_
            refine o_v (v_load_box 1 ty26 rfl rfl rfl rfl rfl) rfl ?_
            refine o_store_box 0 rfl ty26 rfl rfl rfl rfl rfl rfl rfl ?_
            refine o_seq ?_
            refine c_ret ?_
            cases hF
            refine s_ret1 rfl (r_cell 0 rfl ty26 rfl rfl rfl rfl) fun a w hs => ?_
            exact fin_sel hs [] ⟨rfl, rfl, rfl⟩ rfl sub_nil
theorem tri15 (k : Nat) (lo : Int) (hi : Int) (r : S4 × Int) (hF : F.ref01.Range k lo hi = some r) :
    Tri Try.prog 15 [.int .i64 lo, .int .i64 hi] [] [] (fun o H Φ => o = .ret (.tuple #[.agg #[.int .u64 r.1.w0, .int .u64 r.1.w1, .int .u64 r.1.w2, .int .u64 r.1.w3], .int .i64 r.2]) ∧ H = [] ∧ Φ = []) := by
  unfold F.ref01.Range at hF
  refine tri_intro (n := 30) Try.func15 rfl Try.ntmps15 rfl fun w X => ?_
  refine c_seq ?_
  refine c_region ?_
  refine o_alloc zero26 rfl rfl fun b => ?_
  refine o_v (v_assign rfl) rfl ?_
  refine o_seq ?_
  refine c_seq ?_
  refine c_region ?_
  refine o_alloc zero26 rfl rfl fun b1 => ?_
  refine o_seq ?_
  refine c_seq ?_
  refine c_seq ?_
  refine c_region ?_
  refine o_v (v_move rfl) rfl ?_
  refine o_v (v_bin rfl rfl rfl) rfl ?_
  refine o_v (v_move rfl) rfl ?_
  refine o_split (t := 10) rfl (fun h1 => ?_) (fun h1 => ?_)
  · replace hF := ite_t h1 hF
    refine o_off rfl rfl (by decide) rfl ?_
    refine o_off rfl rfl (by decide) rfl ?_
    refine o_v (v_pick_t rfl rfl) rfl ?_
    refine o_v (v_move rfl) rfl ?_
    refine o_off rfl rfl (by decide) rfl ?_
    refine o_off rfl rfl (by decide) rfl ?_
    refine o_off rfl rfl (by decide) rfl ?_
    refine o_v (v_pick_t rfl rfl) rfl ?_
    refine o_seq ?_
    refine c_cond rfl (fun _ => ?_) (fun h => Bool.noConfusion h)
    refine c_seq ?_
    refine c_region ?_
    refine o_v (v_load_box 0 ty26 rfl rfl rfl rfl rfl) rfl ?_
    refine o_store_box 1 rfl ty26 rfl rfl rfl rfl rfl rfl rfl ?_
    refine o_v (v_assign rfl) rfl ?_
    refine o_seq ?_
    refine c_ret ?_
    cases hF
    refine s_ret2 rfl (r_cell 1 rfl ty26 rfl rfl rfl rfl) (r_tmp rfl) fun a w hs => ?_
    exact fin_sel hs [] ⟨rfl, rfl, rfl⟩ rfl sub_nil
  · replace hF := ite_f h1 hF
    refine o_on rfl rfl ?_
    refine o_v (v_move rfl) rfl ?_
    refine o_on rfl rfl ?_
    refine o_v (v_bin rfl rfl rfl) rfl ?_
    refine o_v (v_pick_f rfl rfl) rfl ?_
    refine o_v (v_move rfl) rfl ?_
    refine o_split (t := 14) rfl (fun h2 => ?_) (fun h2 => ?_)
    · replace hF := ite_t h2 hF
      refine o_off rfl rfl (by decide) rfl ?_
      refine o_off rfl rfl (by decide) rfl ?_
      refine o_off rfl rfl (by decide) rfl ?_
      refine o_v (v_pick_t rfl rfl) rfl ?_
      refine o_seq ?_
      refine c_cond rfl (fun _ => ?_) (fun h => Bool.noConfusion h)
      refine c_seq ?_
      refine c_region ?_
      refine o_v (v_load_box 0 ty26 rfl rfl rfl rfl rfl) rfl ?_
      refine o_store_box 1 rfl ty26 rfl rfl rfl rfl rfl rfl rfl ?_
      refine o_v (v_assign rfl) rfl ?_
      refine o_seq ?_
      refine c_ret ?_
      cases hF
      refine s_ret2 rfl (r_cell 1 rfl ty26 rfl rfl rfl rfl) (r_tmp rfl) fun a w hs => ?_
      exact fin_sel hs [] ⟨rfl, rfl, rfl⟩ rfl sub_nil
    · replace hF := ite_f h2 hF
      refine o_on rfl rfl ?_
      refine o_v (v_move rfl) rfl ?_
      refine o_on rfl rfl ?_
      refine o_v (v_move rfl) rfl ?_
      refine o_on rfl rfl ?_
      refine o_v (v_bin rfl rfl rfl) rfl ?_
      refine o_v (v_pick_f rfl rfl) rfl ?_
      refine o_seq ?_
      refine c_cond rfl (fun h3 => ?_) (fun h3 => ?_)
      · replace hF := ite_t h3 hF
        refine c_seq ?_
        refine c_region ?_
        refine o_v (v_load_box 0 ty26 rfl rfl rfl rfl rfl) rfl ?_
        refine o_store_box 1 rfl ty26 rfl rfl rfl rfl rfl rfl rfl ?_
        refine o_v (v_assign rfl) rfl ?_
        refine o_seq ?_
        refine c_ret ?_
        cases hF
        refine s_ret2 rfl (r_cell 1 rfl ty26 rfl rfl rfl rfl) (r_tmp rfl) fun a w hs => ?_
        exact fin_sel hs [] ⟨rfl, rfl, rfl⟩ rfl sub_nil
      · replace hF := ite_f h3 hF
        refine c_skip ?_
        refine sat_wc ?_
        refine c_seq ?_
        refine c_seq ?_
        refine c_region ?_
        refine o_v (v_move rfl) rfl ?_
        refine o_v (v_assign rfl) rfl ?_
        refine o_seq ?_
        obtain ⟨o1, ho1, hF⟩ := bd hF
        refine c_cut (fun E N' => Sat E [(0, .int .i64 lo), (1, .int .i64 hi), (4, .pointer (some ⟨b, 0, none⟩)), (5, .int .i64 0), (6, .pointer (some ⟨b1, 0, none⟩)), (18, .bool (decide (hi < lo)))] [.box b1 26 [.int .u64 o1.w0, .int .u64 o1.w1, .int .u64 o1.w2, .int .u64 o1.w3], .box b 26 [.int .u64 0, .int .u64 0, .int .u64 0, .int .u64 0]] [] N') (fun N1 hN1 => ?_) ?_
        · refine c_block ?_
          refine c_loopE (fun E j a w => ∃ (i : Int) (s : S4), F.ref01.Range_l1 k hi j i s = some o1 ∧ St E [(0, .int .i64 lo), (1, .int .i64 hi), (4, .pointer (some ⟨b, 0, none⟩)), (5, .int .i64 0), (6, .pointer (some ⟨b1, 0, none⟩)), (7, .int .i64 i), (18, .bool (decide (hi < lo)))] [.box b1 26 [.int .u64 s.w0, .int .u64 s.w1, .int .u64 s.w2, .int .u64 s.w3], .box b 26 [.int .u64 0, .int .u64 0, .int .u64 0, .int .u64 0]] [] a w) k ?_ ?_
          · intro a w hs
            exact ⟨lo, (S4.mk 0 0 0 0), ho1, st_le [0, 0] (le_cons rfl (le_cons rfl (le_cons rfl (le_cons rfl (le_cons rfl (le_cons rfl (le_cons rfl le_nil))))))) rfl sub_nil a w hs⟩
          · rintro j a w ⟨i, s, hL1, hs⟩
            cases j with
            | zero => cases hL1
            | succ j =>
              refine wc_app hs ?_
              unfold F.ref01.Range_l1 at hL1
              refine c_seq ?_
              refine c_seq ?_
              refine c_region ?_
              refine o_v (v_move rfl) rfl ?_
              refine o_v (v_move rfl) rfl ?_
              refine o_v (v_bin rfl rfl rfl) rfl ?_
              refine o_seq ?_
              refine c_cond rfl (fun h4 => ?_) (fun h4 => ?_)
              · replace hL1 := ite_t h4 hL1
                refine c_skip ?_
                refine sat_wc ?_
                refine c_seq ?_
                refine c_block ?_
                refine c_region ?_
                refine o_v (v_load_box 0 ty26 rfl rfl rfl rfl rfl) rfl ?_
                refine o_v (v_move rfl) rfl ?_
                obtain ⟨v, h5, hL1⟩ := bd hL1
                refine o_callSB call37 rfl lent_nil (tri37 k s i v h5) rfl ?_
                refine o_store_box 0 rfl ty26 rfl rfl rfl rfl rfl rfl rfl ?_
                refine o_nil ?_
                refine sat_wc ?_
                refine c_region ?_
                refine o_v (v_move rfl) rfl ?_
                refine o_v (v_bin rfl rfl rfl) rfl ?_
                refine o_v (v_assign rfl) rfl ?_
                refine o_nil ?_
                intro a w hs
                exact ⟨j, Nat.lt_succ_self j, IntKind.wrap .i64 (i + 1), v, hL1, st_le [0, 0] (le_cons rfl (le_cons rfl (le_cons rfl (le_cons rfl (le_cons rfl (le_cons rfl (le_cons rfl le_nil))))))) rfl sub_nil a w hs⟩
              · replace hL1 := ite_f h4 hL1
                refine c_exit0 ?_
                cases hL1
                refine s_st ?_ (hN1)
                exact st_le [0, 0] (le_cons rfl (le_cons rfl (le_cons rfl (le_cons rfl (le_cons rfl (le_cons rfl le_nil)))))) rfl sub_nil
        · refine sat_wc ?_
          refine c_seq ?_
          refine c_region ?_
          refine o_v (v_load_box 0 ty26 rfl rfl rfl rfl rfl) rfl ?_
          refine o_store_box 1 rfl ty26 rfl rfl rfl rfl rfl rfl rfl ?_
          refine o_v (v_assign rfl) rfl ?_
          refine o_seq ?_
          refine c_ret ?_
          cases hF
          refine s_ret2 rfl (r_cell 1 rfl ty26 rfl rfl rfl rfl) (r_tmp rfl) fun a w hs => ?_
          exact fin_sel hs [] ⟨rfl, rfl, rfl⟩ rfl sub_nil
theorem tri16 (k : Nat) (b : List Int) (sa1 : Option Addr) (sn1 sc1 : Nat) (r : S4) (hF : F.ref01.Of k b = some r) :
    Tri Try.prog 16 [.slice sa1 sn1 sc1] [] [(.slice sa1 sn1 sc1, .slice 1 (b.map eU8))] (fun o H Φ => o = .ret (.agg #[.int .u64 r.w0, .int .u64 r.w1, .int .u64 r.w2, .int .u64 r.w3]) ∧ H = [] ∧ Φ = []) := by
  unfold F.ref01.Of at hF
  refine tri_intro (n := 19) Try.func16 rfl Try.ntmps16 rfl fun w X => ?_
  refine c_seq ?_
  refine c_region ?_
  refine o_alloc zero26 rfl rfl fun b1 => ?_
  refine o_seq ?_
  refine c_seq ?_
  refine c_region ?_
  refine o_alloc zero26 rfl rfl fun b2 => ?_
  refine o_seq ?_
  refine c_seq ?_
  refine c_seq ?_
  refine c_region ?_
  refine o_v (v_assign rfl) rfl ?_
  refine o_seq ?_
  obtain ⟨o1, ho1, hF⟩ := bd hF
  refine c_cut (fun E N' => Sat E [(2, .pointer (some ⟨b1, 0, none⟩)), (3, .pointer (some ⟨b2, 0, none⟩))] [.box b2 26 [.int .u64 o1.w0, .int .u64 o1.w1, .int .u64 o1.w2, .int .u64 o1.w3], .box b1 26 [.int .u64 0, .int .u64 0, .int .u64 0, .int .u64 0]] [] N') (fun N1 hN1 => ?_) ?_
  · refine c_block ?_
    refine c_loopE (fun E j a w => ∃ (i : Int) (s : S4), F.ref01.Of_l1 k b j i s = some o1 ∧ St E [(0, .slice sa1 sn1 sc1), (2, .pointer (some ⟨b1, 0, none⟩)), (3, .pointer (some ⟨b2, 0, none⟩)), (4, .int .i64 i)] [.box b2 26 [.int .u64 s.w0, .int .u64 s.w1, .int .u64 s.w2, .int .u64 s.w3], .box b1 26 [.int .u64 0, .int .u64 0, .int .u64 0, .int .u64 0]] [(.slice sa1 sn1 sc1, .slice 1 (b.map eU8))] a w) k ?_ ?_
    · intro a w hs
      exact ⟨0, (S4.mk 0 0 0 0), ho1, st_le [0, 0] (le_cons rfl (le_cons rfl (le_cons rfl (le_cons rfl le_nil)))) rfl (sub_cons 0 rfl sub_nil) a w hs⟩
    · rintro j a w ⟨i, s, hL1, hs⟩
      cases j with
      | zero => cases hL1
      | succ j =>
        refine wc_app hs ?_
        unfold F.ref01.Of_l1 at hL1
        refine c_seq ?_
        refine c_seq ?_
        refine c_region ?_
        refine o_v (v_move rfl) rfl ?_
        refine o_v (v_move rfl) rfl ?_
        refine o_v (v_lenS (enc := eU8) b sl22 rfl (.f 0 rfl)) rfl ?_
        refine o_v (v_bin rfl rfl rfl) rfl ?_
        refine o_seq ?_
        refine c_cond rfl (fun h1 => ?_) (fun h1 => ?_)
        · replace hL1 := ite_t h1 hL1
          refine c_skip ?_
          refine sat_wc ?_
          refine c_seq ?_
          refine c_block ?_
          refine c_draw (n := 8) [1] mixed rfl rfl ?_
          refine d_val 1 rfl pnok (by kernel_rfl) (by kernel_rfl) (by kernel_rfl) rfl (v_move rfl) ?_
          refine d_val 2 rfl pnok (by kernel_rfl) (by kernel_rfl) (by kernel_rfl) rfl (v_move rfl) ?_
          refine ite_some hL1 fun h2 hL1 => ?_
          refine d_val 3 rfl pnok (by kernel_rfl) (by kernel_rfl) (by kernel_rfl) rfl (v_indexAddr_s (xs := b) (enc := eU8) sl22 rfl rfl (.f 0 rfl) h2) ?_
          refine d_val 4 rfl pnok (by kernel_rfl) (by kernel_rfl) (by kernel_rfl) rfl (v_load_s (xs := b) (enc := eU8) ty5 rfl (.f 0 rfl) h2 rfl rfl rfl rfl rfl rfl rfl) ?_
          refine d_val 5 rfl pnok (by kernel_rfl) (by kernel_rfl) (by kernel_rfl) rfl (v_convert (v := .int .i64 (IntKind.wrap .i64 (at_ b i))) rfl (fun _ => by kernel_rfl)) ?_
          refine d_one 0 rfl (by kernel_rfl) ?_
          refine o_v (v_load_box 0 ty26 rfl rfl rfl rfl rfl) rfl ?_
          refine d_next [1] 0 rfl rfl ?_
          refine d_one 6 rfl (by kernel_rfl) ?_
          obtain ⟨v, h3, hL1⟩ := bd hL1
          refine o_callSB call37 rfl lent_nil (tri37 k s (IntKind.wrap .i64 (at_ b i)) v h3) rfl ?_
          refine d_next [1] 0 rfl rfl ?_
          refine d_one 7 rfl (by kernel_rfl) ?_
          refine o_store_box 0 rfl ty26 rfl rfl rfl rfl rfl rfl rfl ?_
          refine d_next [1] 0 rfl rfl ?_
          refine d_done (by kernel_rfl) ?_
          refine sat_wc ?_
          refine c_region ?_
          refine o_v (v_move rfl) rfl ?_
          refine o_v (v_bin rfl rfl rfl) rfl ?_
          refine o_v (v_assign rfl) rfl ?_
          refine o_nil ?_
          intro a w hs
          exact ⟨j, Nat.lt_succ_self j, IntKind.wrap .i64 (i + 1), v, hL1, st_le [0, 0] (le_cons rfl (le_cons rfl (le_cons rfl (le_cons rfl le_nil)))) rfl (sub_cons 0 rfl sub_nil) a w hs⟩
        · replace hL1 := ite_f h1 hL1
          refine c_exit0 ?_
          cases hL1
          refine s_st ?_ (hN1)
          exact st_le [0, 0] (le_cons rfl (le_cons rfl le_nil)) rfl sub_nil
  · refine sat_wc ?_
    refine c_seq ?_
    refine c_region ?_
    refine o_v (v_load_box 0 ty26 rfl rfl rfl rfl rfl) rfl ?_
    refine o_store_box 1 rfl ty26 rfl rfl rfl rfl rfl rfl rfl ?_
    refine o_seq ?_
    refine c_ret ?_
    cases hF
    refine s_ret1 rfl (r_cell 1 rfl ty26 rfl rfl rfl rfl) fun a w hs => ?_
    exact fin_sel hs [] ⟨rfl, rfl, rfl⟩ rfl sub_nil
end Go.Vc
