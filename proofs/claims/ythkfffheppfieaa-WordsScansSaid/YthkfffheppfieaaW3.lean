import Derived.Test.YthkfffheppfieaaW2
set_option linter.unusedVariables false
set_option linter.unusedSimpArgs false
set_option maxRecDepth 8000
set_option maxHeartbeats 2000000
namespace Go.Vc
open Go Go.Proofs
theorem tri22 (k : Nat) (text_ : List UInt8) (r : List Int × Fault) (hF : F.words.Unquote k text_ = some r) :
    Tri Try.prog 22 [.string (bs text_)] [] [] (fun o H Φ => ∃ (sa2 : Option Addr) (sn2 sc2 : Nat), o = .ret (.tuple #[.slice sa2 sn2 sc2, .agg #[.int .i64 r.2.At, .int .i64 r.2.Code]]) ∧ H = [.row (.slice sa2 sn2 sc2) 5 1 (r.1.map eU8)] ∧ Φ = []) := by
  unfold F.words.Unquote at hF
  refine tri_intro (n := 38) Try.func22 rfl Try.ntmps22 rfl fun w X => ?_
  refine c_seq ?_
  refine c_region ?_
  refine o_v (v_assign rfl) rfl ?_
  refine o_alloc zero26 rfl rfl fun b => ?_
  refine o_seq ?_
  refine c_seq ?_
  refine c_seq ?_
  refine c_region ?_
  refine o_v (v_move rfl) rfl ?_
  refine o_v (v_len_str Try.underlying9 rfl) rfl ?_
  refine o_v (v_bin rfl rfl rfl) rfl ?_
  refine o_seq ?_
  refine c_cond rfl (fun h1 => ?_) (fun h1 => ?_)
  · replace hF := ite_t h1 hF
    refine c_seq ?_
    refine c_region ?_
    refine o_v (v_build (v := .agg #[.int .i64 0, .int .i64 2]) rfl (fun _ => by kernel_rfl)) rfl ?_
    refine o_v (v_assign rfl) rfl ?_
    refine o_store_box 0 rfl ty26 rfl rfl rfl rfl rfl rfl rfl ?_
    refine o_seq ?_
    refine c_ret ?_
    cases hF
    refine s_st (st_nilrow 5 1) ?_
    refine s_ret2 rfl (r_tmp rfl) (r_cell 1 rfl ty26 rfl rfl rfl rfl) fun a w hs => ?_
    exact fin_sel hs [0] ⟨none, 0, 0, rfl, rfl, rfl⟩ rfl sub_nil
  · replace hF := ite_f h1 hF
    refine c_skip ?_
    refine sat_wc ?_
    refine c_seq ?_
    refine c_seq ?_
    refine c_cut (fun E N' => ∀ (t17 : Bool), F.words.Unquote_j1 k text_ t17 = some r → Sat E [(0, .string (bs text_)), (2, .slice none 0 0), (3, .pointer (some ⟨b, 0, none⟩)), (17, .bool t17)] [.box b 26 [.int .i64 0, .int .i64 0]] [] N') (fun N2 hN2 => ?_) ?_
    · refine c_region ?_
      refine o_v (v_move rfl) rfl ?_
      refine o_v (v_streq rfl rfl) rfl ?_
      refine o_v (v_move rfl) rfl ?_
      refine o_split (t := 13) rfl (fun h6 => ?_) (fun h6 => ?_)
      · replace hF := ite_t h6 hF
        refine o_off rfl rfl (by decide) rfl ?_
        refine o_off rfl rfl (by decide) rfl ?_
        refine o_off rfl rfl (by decide) rfl ?_
        refine o_v (v_pick_t rfl rfl) rfl ?_
        refine o_nil ?_
        refine s_st ?_ (hN2 true hF)
        exact st_le [0] (le_cons rfl (le_cons rfl (le_cons rfl (le_cons rfl le_nil)))) rfl sub_nil
      · replace hF := ite_f h6 hF
        refine o_on rfl rfl ?_
        refine o_v (v_move rfl) rfl ?_
        refine o_on rfl rfl ?_
        refine ite_some hF fun h7 hF => ?_
        refine o_v (v_sindex Try.underlying9 rfl rfl h7) rfl ?_
        refine o_on rfl rfl ?_
        refine o_v (v_bin rfl rfl rfl) rfl ?_
        refine o_v (v_pick_f rfl rfl) rfl ?_
        refine o_nil ?_
        refine s_st ?_ (hN2 ((sAt text_ 0) != 34) hF)
        exact st_le [0] (le_cons rfl (le_cons rfl (le_cons rfl (le_cons rfl le_nil)))) rfl sub_nil
    · intro t17 hF
      unfold F.words.Unquote_j1 at hF
      refine sat_wc ?_
      refine c_cond rfl (fun h2 => ?_) (fun h2 => ?_)
      · replace hF := ite_t h2 hF
        refine c_seq ?_
        refine c_region ?_
        refine o_v (v_build (v := .agg #[.int .i64 0, .int .i64 13]) rfl (fun _ => by kernel_rfl)) rfl ?_
        refine o_v (v_assign rfl) rfl ?_
        refine o_store_box 0 rfl ty26 rfl rfl rfl rfl rfl rfl rfl ?_
        refine o_seq ?_
        refine c_ret ?_
        cases hF
        refine s_st (st_nilrow 5 1) ?_
        refine s_ret2 rfl (r_tmp rfl) (r_cell 1 rfl ty26 rfl rfl rfl rfl) fun a w hs => ?_
        exact fin_sel hs [0] ⟨none, 0, 0, rfl, rfl, rfl⟩ rfl sub_nil
      · replace hF := ite_f h2 hF
        refine c_skip ?_
        refine sat_wc ?_
        refine c_seq ?_
        refine c_region ?_
        refine o_v (v_move rfl) rfl ?_
        obtain ⟨v, h3, hF⟩ := bd hF
        refine o_call0 call42 rfl sub_nil (tri42 k text_ 0 v h3) rfl ?_
        rintro _ _ _ ⟨sa1, sn1, sc1, rfl, rfl, rfl⟩
        refine o_v (v_move rfl) rfl ?_
        refine o_v (v_extract rfl rfl) rfl ?_
        refine o_v (v_extract rfl rfl) rfl ?_
        refine o_v (v_extract rfl rfl) rfl ?_
        refine o_alloc zero26 rfl rfl fun b1 => ?_
        refine o_v (v_assign rfl) rfl ?_
        refine o_v (v_assign rfl) rfl ?_
        refine o_store_box 0 rfl ty26 rfl rfl rfl rfl rfl rfl rfl ?_
        refine o_seq ?_
        refine c_seq ?_
        refine c_seq ?_
        refine c_cut (fun E N' => ∀ (t33 : Bool), F.words.Unquote_j2 v t33 = some r → Sat E [(0, .string (bs text_)), (2, .slice none 0 0), (3, .pointer (some ⟨b, 0, none⟩)), (4, .slice sa1 sn1 sc1), (5, .int .i64 v.2.1), (6, .pointer (some ⟨b1, 0, none⟩)), (33, .bool t33)] [.box b1 26 [.int .i64 v.2.2.At, .int .i64 v.2.2.Code], .box b 26 [.int .i64 0, .int .i64 0], .row (.slice sa1 sn1 sc1) 5 1 (v.1.map eU8)] [] N') (fun N2 hN2 => ?_) ?_
        · refine c_region ?_
          refine o_v (v_fieldAddr (v := .pointer (some ⟨b1, 1, none⟩)) rfl (fun _ => by kernel_rfl)) rfl ?_
          refine o_v (v_load_box 0 ty24 rfl rfl rfl rfl rfl) rfl ?_
          refine o_v (v_bin rfl rfl rfl) rfl ?_
          refine o_v (v_move rfl) rfl ?_
          refine o_split (t := 28) rfl (fun h5 => ?_) (fun h5 => ?_)
          · replace hF := ite_t h5 hF
            refine o_on rfl rfl ?_
            refine o_v (v_move rfl) rfl ?_
            refine o_on rfl rfl ?_
            refine o_v (v_move rfl) rfl ?_
            refine o_on rfl rfl ?_
            refine o_v (v_len_str Try.underlying9 rfl) rfl ?_
            refine o_on rfl rfl ?_
            refine o_v (v_bin rfl rfl rfl) rfl ?_
            refine o_v (v_pick_t rfl rfl) rfl ?_
            refine o_nil ?_
            refine s_st ?_ (hN2 (decide (v.2.1 < (text_.length : Int))) hF)
            exact st_le [0, 1, 0] (le_cons rfl (le_cons rfl (le_cons rfl (le_cons rfl (le_cons rfl (le_cons rfl (le_cons rfl le_nil))))))) rfl sub_nil
          · replace hF := ite_f h5 hF
            refine o_off rfl rfl (by decide) rfl ?_
            refine o_off rfl rfl (by decide) rfl ?_
            refine o_off rfl rfl (by decide) rfl ?_
            refine o_off rfl rfl (by decide) rfl ?_
            refine o_v (v_pick_f rfl rfl) rfl ?_
            refine o_nil ?_
            refine s_st ?_ (hN2 false hF)
            exact st_le [0, 1, 0] (le_cons rfl (le_cons rfl (le_cons rfl (le_cons rfl (le_cons rfl (le_cons rfl (le_cons rfl le_nil))))))) rfl sub_nil
        · intro t33 hF
          unfold F.words.Unquote_j2 at hF
          refine sat_wc ?_
          refine c_cond rfl (fun h4 => ?_) (fun h4 => ?_)
          · replace hF := ite_t h4 hF
            refine c_seq ?_
            refine c_region ?_
            refine o_v (v_move rfl) rfl ?_
            refine o_v (v_build (v := .agg #[.int .i64 v.2.1, .int .i64 15]) rfl (fun _ => by kernel_rfl)) rfl ?_
            refine o_v (v_assign rfl) rfl ?_
            refine o_store_box 1 rfl ty26 rfl rfl rfl rfl rfl rfl rfl ?_
            refine o_seq ?_
            refine c_ret ?_
            cases hF
            refine s_st (st_nilrow 5 1) ?_
            refine s_ret2 rfl (r_tmp rfl) (r_cell 2 rfl ty26 rfl rfl rfl rfl) fun a w hs => ?_
            exact fin_sel hs [0] ⟨none, 0, 0, rfl, rfl, rfl⟩ rfl sub_nil
          · replace hF := ite_f h4 hF
            refine c_skip ?_
            refine sat_wc ?_
            refine c_seq ?_
            refine c_draw (n := 4) [0, 1] mixed rfl rfl ?_
            refine d_val 0 rfl pnok (by kernel_rfl) (by kernel_rfl) (by kernel_rfl) rfl (v_move rfl) ?_
            refine d_val 1 rfl pnok (by kernel_rfl) (by kernel_rfl) (by kernel_rfl) rfl (v_load_box 0 ty26 rfl rfl rfl rfl rfl) ?_
            refine d_val 2 rfl pnok (by kernel_rfl) (by kernel_rfl) (by kernel_rfl) rfl (v_assign rfl) ?_
            refine d_one 3 rfl (by kernel_rfl) ?_
            refine o_store_box 1 rfl ty26 rfl rfl rfl rfl rfl rfl rfl ?_
            refine d_next [0, 1] 0 rfl rfl ?_
            refine d_done_seq (by kernel_rfl) ?_
            refine c_ret ?_
            cases hF
            refine s_ret2 rfl (r_tmp rfl) (r_cell 1 rfl ty26 rfl rfl rfl rfl) fun a w hs => ?_
            exact fin_sel hs [2] ⟨sa1, sn1, sc1, rfl, rfl, rfl⟩ rfl sub_nil
theorem tri15 (text_ : List UInt8) (at__ : Int) (r : Int × Int) (hF : F.words.Place text_ at__ = some r) :
    Tri Try.prog 15 [.string (bs text_), .int .i64 at__] [] [] (fun o H Φ => o = .ret (.tuple #[.int .i64 r.1, .int .i64 r.2]) ∧ H = [] ∧ Φ = []) := by
  unfold F.words.Place at hF
  refine tri_intro (n := 25) Try.func15 rfl Try.ntmps15 rfl fun w X => ?_
  refine c_seq ?_
  refine c_region ?_
  refine o_v (v_assign rfl) rfl ?_
  refine o_v (v_assign rfl) rfl ?_
  refine o_seq ?_
  refine c_seq ?_
  refine c_seq ?_
  refine c_region ?_
  refine o_v (v_move rfl) rfl ?_
  refine o_v (v_bin rfl rfl rfl) rfl ?_
  refine o_v (v_move rfl) rfl ?_
  refine o_split (t := 9) rfl (fun h1 => ?_) (fun h1 => ?_)
  · replace hF := ite_t h1 hF
    refine o_off rfl rfl (by decide) rfl ?_
    refine o_off rfl rfl (by decide) rfl ?_
    refine o_off rfl rfl (by decide) rfl ?_
    refine o_off rfl rfl (by decide) rfl ?_
    refine o_v (v_pick_t rfl rfl) rfl ?_
    refine o_seq ?_
    refine c_cond rfl (fun _ => ?_) (fun h => Bool.noConfusion h)
    refine c_seq ?_
    refine c_region ?_
    refine o_v (v_assign rfl) rfl ?_
    refine o_v (v_assign rfl) rfl ?_
    refine o_seq ?_
    refine c_ret ?_
    cases hF
    refine s_ret2 rfl (r_tmp rfl) (r_tmp rfl) fun a w hs => ?_
    exact fin_sel hs [] ⟨rfl, rfl, rfl⟩ rfl sub_nil
  · replace hF := ite_f h1 hF
    refine o_on rfl rfl ?_
    refine o_v (v_move rfl) rfl ?_
    refine o_on rfl rfl ?_
    refine o_v (v_move rfl) rfl ?_
    refine o_on rfl rfl ?_
    refine o_v (v_len_str Try.underlying9 rfl) rfl ?_
    refine o_on rfl rfl ?_
    refine o_v (v_bin rfl rfl rfl) rfl ?_
    refine o_v (v_pick_f rfl rfl) rfl ?_
    refine o_seq ?_
    refine c_cond rfl (fun h2 => ?_) (fun h2 => ?_)
    · replace hF := ite_t h2 hF
      refine c_seq ?_
      refine c_region ?_
      refine o_v (v_assign rfl) rfl ?_
      refine o_v (v_assign rfl) rfl ?_
      refine o_seq ?_
      refine c_ret ?_
      cases hF
      refine s_ret2 rfl (r_tmp rfl) (r_tmp rfl) fun a w hs => ?_
      exact fin_sel hs [] ⟨rfl, rfl, rfl⟩ rfl sub_nil
    · replace hF := ite_f h2 hF
      refine c_skip ?_
      refine sat_wc ?_
      refine c_seq ?_
      refine c_region ?_
      refine o_v (v_move rfl) rfl ?_
      refine o_v (v_move rfl) rfl ?_
      refine ite_some hF fun h3 hF => ?_
      refine o_v (v_strslice Try.underlying9 rfl rfl rfl rfl rfl h3) rfl ?_
      refine o_v (v_assign rfl) rfl ?_
      refine o_seq ?_
      refine c_seq ?_
      refine c_region ?_
      refine o_v (v_move rfl) rfl ?_
      obtain ⟨v, h4, hF⟩ := bd hF
      refine o_callSB call31 rfl lent_nil (tri31 (sub text_ 0 at__) ([10] : List UInt8) v h4) rfl ?_
      refine o_v (v_bin rfl rfl rfl) rfl ?_
      refine o_v (v_move rfl) rfl ?_
      refine o_v (v_move rfl) rfl ?_
      obtain ⟨v1, h5, hF⟩ := bd hF
      refine o_callSB call32 rfl lent_nil (tri32 (sub text_ 0 at__) 10 v1 h5) rfl ?_
      refine o_v (v_bin rfl rfl rfl) rfl ?_
      refine o_v (v_assign rfl) rfl ?_
      refine o_v (v_assign rfl) rfl ?_
      refine o_seq ?_
      refine c_ret ?_
      cases hF
      refine s_ret2 rfl (r_tmp rfl) (r_tmp rfl) fun a w hs => ?_
      exact fin_sel hs [] ⟨rfl, rfl, rfl⟩ rfl sub_nil
theorem tri11 (k : Nat) (r : Bool) (hF : F.law02.alive k = some r) :
    Tri Try.prog 11 [] [] [] (fun o H Φ => o = .ret (.bool r) ∧ H = [] ∧ Φ = []) := by
  unfold F.law02.alive at hF
  refine tri_intro (n := 52) Try.func11 rfl Try.ntmps11 rfl fun w X => ?_
  refine c_seq ?_
  refine c_region ?_
  refine o_v (v_assign rfl) rfl ?_
  refine o_seq ?_
  refine c_seq ?_
  refine c_region ?_
  obtain ⟨v, h1, hF⟩ := bd hF
  refine o_call0 call12 rfl sub_nil (tri12 k ([99, 102, 32, 69, 46, 65, 32, 61, 32, 69, 32, 34, 43, 34, 32, 69, 59, 32, 35, 32, 120] : List UInt8) v h1) rfl ?_
  rintro _ _ _ ⟨sa1, sn1, sc1, rfl, rfl, rfl⟩
  refine o_v (v_move rfl) rfl ?_
  refine o_v (v_extract rfl rfl) rfl ?_
  refine o_v (v_extract rfl rfl) rfl ?_
  refine o_alloc zero26 rfl rfl fun b => ?_
  refine o_v (v_assign rfl) rfl ?_
  refine o_store_box 0 rfl ty26 rfl rfl rfl rfl rfl rfl rfl ?_
  refine o_seq ?_
  refine c_seq ?_
  refine c_region ?_
  obtain ⟨v1, h2, hF⟩ := bd hF
  refine o_call0 call22 rfl sub_nil (tri22 k ([34, 92, 120, 52, 65, 34] : List UInt8) v1 h2) rfl ?_
  rintro _ _ _ ⟨sa2, sn2, sc2, rfl, rfl, rfl⟩
  refine o_v (v_move rfl) rfl ?_
  refine o_v (v_extract rfl rfl) rfl ?_
  refine o_v (v_extract rfl rfl) rfl ?_
  refine o_alloc zero26 rfl rfl fun b1 => ?_
  refine o_v (v_assign rfl) rfl ?_
  refine o_store_box 0 rfl ty26 rfl rfl rfl rfl rfl rfl rfl ?_
  refine o_seq ?_
  refine c_seq ?_
  refine c_region ?_
  obtain ⟨v2, h3, hF⟩ := bd hF
  refine o_callSB call15 rfl lent_nil (tri15 ([97, 10, 98, 99] : List UInt8) 3 v2 h3) rfl ?_
  refine o_v (v_move rfl) rfl ?_
  refine o_v (v_extract rfl rfl) rfl ?_
  refine o_v (v_extract rfl rfl) rfl ?_
  refine o_v (v_assign rfl) rfl ?_
  refine o_v (v_assign rfl) rfl ?_
  refine o_seq ?_
  refine c_seq ?_
  refine c_cut (fun E N' => ∀ (t0 : Bool), F.law02.alive_j1 t0 = some r → Sat E [(0, .bool t0), (2, .pointer (some ⟨b, 0, none⟩)), (4, .pointer (some ⟨b1, 0, none⟩))] [.box b1 26 [.int .i64 v1.2.At, .int .i64 v1.2.Code], .box b 26 [.int .i64 v.2.At, .int .i64 v.2.Code]] [] N') (fun N1 hN1 => ?_) ?_
  · refine c_region ?_
    refine o_v (v_load_box 2 ty26 rfl rfl rfl rfl rfl) rfl ?_
    refine o_v (v_build (v := .agg #[.int .i64 0, .int .i64 0]) rfl (fun _ => by kernel_rfl)) rfl ?_
    refine o_v (v_ageq 2 rfl rfl (eq26 v.2.At v.2.Code 0 0) rfl guard26) rfl ?_
    refine o_v (v_move rfl) rfl ?_
    refine o_split (t := 22) rfl (fun h4 => ?_) (fun h4 => ?_)
    · replace hF := ite_t h4 hF
      refine o_on rfl rfl ?_
      refine o_v (v_move rfl) rfl ?_
      refine o_on rfl rfl ?_
      refine o_v (v_lenS (enc := eWord) v.1 sl23 rfl (.r 3 _ rfl)) rfl ?_
      refine o_on rfl rfl ?_
      refine o_v (v_bin rfl rfl rfl) rfl ?_
      refine o_v (v_pick_t rfl rfl) rfl ?_
      refine o_v (v_move rfl) rfl ?_
      refine o_split (t := 27) rfl (fun h5 => ?_) (fun h5 => ?_)
      · replace hF := ite_t h5 hF
        refine o_on rfl rfl ?_
        refine o_v (v_move rfl) rfl ?_
        refine o_on rfl rfl ?_
        refine ite_some hF fun h6 hF => ?_
        refine o_v (v_indexAddr_s (xs := v.1) (enc := eWord) sl23 rfl rfl (.r 3 _ rfl) h6) rfl ?_
        refine o_on rfl rfl ?_
        refine o_v (v_fieldAddr (v := .pointer (some ⟨blkA sa1, offA sa1 + (Int.toNat 9 * 11 + 0), none⟩)) rfl (fun _ => by kernel_rfl)) rfl ?_
        refine o_on rfl rfl ?_
        refine o_v (v_load_s (xs := v.1) (enc := eWord) ty3 rfl (.r 3 _ rfl) h6 rfl rfl rfl rfl rfl rfl rfl) rfl ?_
        refine o_on rfl rfl ?_
        refine o_v (v_bin rfl rfl rfl) rfl ?_
        refine o_v (v_pick_t rfl rfl) rfl ?_
        refine o_v (v_move rfl) rfl ?_
        refine o_split (t := 34) rfl (fun h7 => ?_) (fun h7 => ?_)
        · replace hF := ite_t h7 hF
          refine o_on rfl rfl ?_
          refine o_v (v_load_box 0 ty26 rfl rfl rfl rfl rfl) rfl ?_
          refine o_on rfl rfl ?_
          refine o_v (v_build (v := .agg #[.int .i64 0, .int .i64 0]) rfl (fun _ => by kernel_rfl)) rfl ?_
          refine o_on rfl rfl ?_
          refine o_v (v_ageq 2 rfl rfl (eq26 v1.2.At v1.2.Code 0 0) rfl guard26) rfl ?_
          refine o_v (v_pick_t rfl rfl) rfl ?_
          refine o_v (v_move rfl) rfl ?_
          refine o_split (t := 39) rfl (fun h8 => ?_) (fun h8 => ?_)
          · replace hF := ite_t h8 hF
            refine o_on rfl rfl ?_
            refine o_v (v_move rfl) rfl ?_
            refine o_on rfl rfl ?_
            refine o_v (v_bytesStr sl30 Try.underlying5 Try.underlying9 rfl (.r 1 _ rfl)) rfl ?_
            refine o_on rfl rfl ?_
            refine o_v (v_streq rfl rfl) rfl ?_
            refine o_v (v_pick_t rfl rfl) rfl ?_
            refine o_v (v_move rfl) rfl ?_
            refine o_split (t := 44) rfl (fun h9 => ?_) (fun h9 => ?_)
            · replace hF := ite_t h9 hF
              refine o_on rfl rfl ?_
              refine o_v (v_move rfl) rfl ?_
              refine o_on rfl rfl ?_
              refine o_v (v_bin rfl rfl rfl) rfl ?_
              refine o_v (v_pick_t rfl rfl) rfl ?_
              refine o_v (v_move rfl) rfl ?_
              refine o_split (t := 48) rfl (fun h10 => ?_) (fun h10 => ?_)
              · replace hF := ite_t h10 hF
                refine o_on rfl rfl ?_
                refine o_v (v_move rfl) rfl ?_
                refine o_on rfl rfl ?_
                refine o_v (v_bin rfl rfl rfl) rfl ?_
                refine o_v (v_pick_t rfl rfl) rfl ?_
                refine o_v (v_assign rfl) rfl ?_
                refine o_nil ?_
                refine s_st ?_ (hN1 (v2.2 == 2) hF)
                exact st_le [0, 1] (le_cons rfl (le_cons rfl (le_cons rfl le_nil))) rfl sub_nil
              · replace hF := ite_f h10 hF
                refine o_off rfl rfl (by decide) rfl ?_
                refine o_off rfl rfl (by decide) rfl ?_
                refine o_v (v_pick_f rfl rfl) rfl ?_
                refine o_v (v_assign rfl) rfl ?_
                refine o_nil ?_
                refine s_st ?_ (hN1 false hF)
                exact st_le [0, 1] (le_cons rfl (le_cons rfl (le_cons rfl le_nil))) rfl sub_nil
            · replace hF := ite_f h9 hF
              refine o_off rfl rfl (by decide) rfl ?_
              refine o_off rfl rfl (by decide) rfl ?_
              refine o_v (v_pick_f rfl rfl) rfl ?_
              refine o_v (v_move rfl) rfl ?_
              refine o_off rfl rfl (by decide) rfl ?_
              refine o_off rfl rfl (by decide) rfl ?_
              refine o_v (v_pick_f rfl rfl) rfl ?_
              refine o_v (v_assign rfl) rfl ?_
              refine o_nil ?_
              refine s_st ?_ (hN1 false hF)
              exact st_le [0, 1] (le_cons rfl (le_cons rfl (le_cons rfl le_nil))) rfl sub_nil
          · replace hF := ite_f h8 hF
            refine o_off rfl rfl (by decide) rfl ?_
            refine o_off rfl rfl (by decide) rfl ?_
            refine o_off rfl rfl (by decide) rfl ?_
            refine o_v (v_pick_f rfl rfl) rfl ?_
            refine o_v (v_move rfl) rfl ?_
            refine o_off rfl rfl (by decide) rfl ?_
            refine o_off rfl rfl (by decide) rfl ?_
            refine o_v (v_pick_f rfl rfl) rfl ?_
            refine o_v (v_move rfl) rfl ?_
            refine o_off rfl rfl (by decide) rfl ?_
            refine o_off rfl rfl (by decide) rfl ?_
            refine o_v (v_pick_f rfl rfl) rfl ?_
            refine o_v (v_assign rfl) rfl ?_
            refine o_nil ?_
            refine s_st ?_ (hN1 false hF)
            exact st_le [0, 1] (le_cons rfl (le_cons rfl (le_cons rfl le_nil))) rfl sub_nil
        · replace hF := ite_f h7 hF
          refine o_off rfl rfl (by decide) rfl ?_
          refine o_off rfl rfl (by decide) rfl ?_
          refine o_off rfl rfl (by decide) rfl ?_
          refine o_v (v_pick_f rfl rfl) rfl ?_
          refine o_v (v_move rfl) rfl ?_
          refine o_off rfl rfl (by decide) rfl ?_
          refine o_off rfl rfl (by decide) rfl ?_
          refine o_off rfl rfl (by decide) rfl ?_
          refine o_v (v_pick_f rfl rfl) rfl ?_
          refine o_v (v_move rfl) rfl ?_
          refine o_off rfl rfl (by decide) rfl ?_
          refine o_off rfl rfl (by decide) rfl ?_
          refine o_v (v_pick_f rfl rfl) rfl ?_
          refine o_v (v_move rfl) rfl ?_
          refine o_off rfl rfl (by decide) rfl ?_
          refine o_off rfl rfl (by decide) rfl ?_
          refine o_v (v_pick_f rfl rfl) rfl ?_
          refine o_v (v_assign rfl) rfl ?_
          refine o_nil ?_
          refine s_st ?_ (hN1 false hF)
          exact st_le [0, 1] (le_cons rfl (le_cons rfl (le_cons rfl le_nil))) rfl sub_nil
      · replace hF := ite_f h5 hF
        refine o_off rfl rfl (by decide) rfl ?_
        refine o_off rfl rfl (by decide) rfl ?_
        refine o_off rfl rfl (by decide) rfl ?_
        refine o_off rfl rfl (by decide) rfl ?_
        refine o_off rfl rfl (by decide) rfl ?_
        refine o_v (v_pick_f rfl rfl) rfl ?_
        refine o_v (v_move rfl) rfl ?_
        refine o_off rfl rfl (by decide) rfl ?_
        refine o_off rfl rfl (by decide) rfl ?_
        refine o_off rfl rfl (by decide) rfl ?_
        refine o_v (v_pick_f rfl rfl) rfl ?_
        refine o_v (v_move rfl) rfl ?_
        refine o_off rfl rfl (by decide) rfl ?_
        refine o_off rfl rfl (by decide) rfl ?_
        refine o_off rfl rfl (by decide) rfl ?_
        refine o_v (v_pick_f rfl rfl) rfl ?_
        refine o_v (v_move rfl) rfl ?_
        refine o_off rfl rfl (by decide) rfl ?_
        refine o_off rfl rfl (by decide) rfl ?_
        refine o_v (v_pick_f rfl rfl) rfl ?_
        refine o_v (v_move rfl) rfl ?_
        refine o_off rfl rfl (by decide) rfl ?_
        refine o_off rfl rfl (by decide) rfl ?_
        refine o_v (v_pick_f rfl rfl) rfl ?_
        refine o_v (v_assign rfl) rfl ?_
        refine o_nil ?_
        refine s_st ?_ (hN1 false hF)
        exact st_le [0, 1] (le_cons rfl (le_cons rfl (le_cons rfl le_nil))) rfl sub_nil
    · replace hF := ite_f h4 hF
      refine o_off rfl rfl (by decide) rfl ?_
      refine o_off rfl rfl (by decide) rfl ?_
      refine o_off rfl rfl (by decide) rfl ?_
      refine o_v (v_pick_f rfl rfl) rfl ?_
      refine o_v (v_move rfl) rfl ?_
      refine o_off rfl rfl (by decide) rfl ?_
      refine o_off rfl rfl (by decide) rfl ?_
      refine o_off rfl rfl (by decide) rfl ?_
      refine o_off rfl rfl (by decide) rfl ?_
      refine o_off rfl rfl (by decide) rfl ?_
      refine o_v (v_pick_f rfl rfl) rfl ?_
      refine o_v (v_move rfl) rfl ?_
      refine o_off rfl rfl (by decide) rfl ?_
      refine o_off rfl rfl (by decide) rfl ?_
      refine o_off rfl rfl (by decide) rfl ?_
      refine o_v (v_pick_f rfl rfl) rfl ?_
      refine o_v (v_move rfl) rfl ?_
      refine o_off rfl rfl (by decide) rfl ?_
      refine o_off rfl rfl (by decide) rfl ?_
      refine o_off rfl rfl (by decide) rfl ?_
      refine o_v (v_pick_f rfl rfl) rfl ?_
      refine o_v (v_move rfl) rfl ?_
      refine o_off rfl rfl (by decide) rfl ?_
      refine o_off rfl rfl (by decide) rfl ?_
      refine o_v (v_pick_f rfl rfl) rfl ?_
      refine o_v (v_move rfl) rfl ?_
      refine o_off rfl rfl (by decide) rfl ?_
      refine o_off rfl rfl (by decide) rfl ?_
      refine o_v (v_pick_f rfl rfl) rfl ?_
      refine o_v (v_assign rfl) rfl ?_
      refine o_nil ?_
      refine s_st ?_ (hN1 false hF)
      exact st_le [0, 1] (le_cons rfl (le_cons rfl (le_cons rfl le_nil))) rfl sub_nil
  · intro t0 hF
    unfold F.law02.alive_j1 at hF
    refine sat_wc ?_
    refine c_ret ?_
    cases hF
    refine s_ret1 rfl (r_tmp rfl) fun a w hs => ?_
    exact fin_sel hs [] ⟨rfl, rfl, rfl⟩ rfl sub_nil

end Go.Vc
