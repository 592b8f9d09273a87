import Derived.Test.YtmcnanedpofeoaaW0
namespace Go.Vc
open Go Go.Proofs
theorem tri3 (k : Nat) (l_ : List Int) (lo : Int) (hi : Int) (b : Int) (sa1 : Option Addr) (sn1 sc1 : Nat) (r : Bool) (hF : F.law01.CharsetMakes k l_ lo hi b = some r) :
    Tri Try.prog 3 [.slice sa1 sn1 sc1, .int .i64 lo, .int .i64 hi, .int .u8 b] [] [(.slice sa1 sn1 sc1, .slice 1 (l_.map eU8))] (fun o H Φ => o = .ret (.bool r) ∧ H = [] ∧ Φ = []) := by
  unfold F.law01.CharsetMakes at hF
  refine tri_intro (n := 80) Try.func3 rfl Try.ntmps3 rfl fun w X => ?_
  refine c_seq ?_
  refine c_region ?_
  refine o_v (v_assign rfl) rfl ?_
  refine o_seq ?_
  refine c_seq ?_
  refine c_seq ?_
  refine c_region ?_
  refine o_v (v_move rfl) rfl ?_
  refine o_v (v_lenS (enc := eU8) l_ sl22 rfl (.f 0 rfl)) rfl ?_
  refine o_v (v_bin rfl rfl rfl) rfl ?_
  refine o_seq ?_
  refine c_cond rfl (fun h1 => ?_) (fun h1 => ?_)
  · replace hF := ite_t h1 hF
    refine c_seq ?_
    refine c_region ?_
    obtain ⟨v, h2, hF⟩ := bd hF
    refine o_callSB call12 rfl lent_nil (tri12 k v h2) rfl ?_
    refine o_v (v_assign rfl) rfl ?_
    refine o_seq ?_
    refine c_ret ?_
    cases hF
    refine s_ret1 rfl (r_tmp rfl) fun a w hs => ?_
    exact fin_sel hs [] ⟨rfl, rfl, rfl⟩ rfl sub_nil
  · replace hF := ite_f h1 hF
    refine c_skip ?_
    refine sat_wc ?_
    refine c_seq ?_
    refine c_region ?_
    refine o_v (v_assign rfl) rfl ?_
    refine o_seq ?_
    refine c_seq ?_
    refine c_region ?_
    refine o_v (v_move rfl) rfl ?_
    refine o_v (v_move rfl) rfl ?_
    refine ite_some hF fun h3 hF => ?_
    refine ite_some hF fun h4 hF => ?_
    refine o_st (st_nilrow 5 1) ?_
    refine o_append (enc := eU8) (xs := ([] : List Int)) (ys := l_) 0 sl22 rfl rfl rfl (.f 0 rfl) h3 h4 rfl fun sa2 sn2 sc2 => ?_
    refine o_v (v_assign rfl) rfl ?_
    refine o_seq ?_
    refine c_seq ?_
    refine c_region ?_
    refine o_v (v_move rfl) rfl ?_
    obtain ⟨v1, h5, hF⟩ := bd hF
    refine o_callSB call13 rfl (lent_r 0 rfl lent_nil) (tri13 k (([] : List Int) ++ l_) sa2 sn2 sc2 v1 h5) rfl ?_
    refine o_alloc zero26 rfl rfl fun b1 => ?_
    refine o_store_box 0 rfl ty26 rfl rfl rfl rfl rfl rfl rfl ?_
    refine o_seq ?_
    refine c_seq ?_
    refine c_region ?_
    refine o_v (v_move rfl) rfl ?_
    refine o_v (v_move rfl) rfl ?_
    obtain ⟨v2, h6, hF⟩ := bd hF
    refine o_callSB call14 rfl lent_nil (tri14 k lo hi v2 h6) rfl ?_
    refine o_v (v_move rfl) rfl ?_
    refine o_v (v_extract rfl rfl) rfl ?_
    refine o_v (v_extract rfl rfl) rfl ?_
    refine o_alloc zero26 rfl rfl fun b2 => ?_
    refine o_store_box 0 rfl ty26 rfl rfl rfl rfl rfl rfl rfl ?_
    refine o_v (v_assign rfl) rfl ?_
    refine o_seq ?_
    refine c_seq ?_
    refine c_region ?_
    refine o_v (v_move rfl) rfl ?_
    refine o_v (v_move rfl) rfl ?_
    obtain ⟨v3, h7, hF⟩ := bd hF
    refine o_callSB call15 rfl lent_nil (tri15 k lo hi v3 h7) rfl ?_
    refine o_v (v_move rfl) rfl ?_
    refine o_v (v_extract rfl rfl) rfl ?_
    refine o_v (v_extract rfl rfl) rfl ?_
    refine o_alloc zero26 rfl rfl fun b3 => ?_
    refine o_store_box 0 rfl ty26 rfl rfl rfl rfl rfl rfl rfl ?_
    refine o_v (v_assign rfl) rfl ?_
    refine o_seq ?_
    refine c_seq ?_
    refine c_cut (fun E N' => ∀ (t8 : Bool), F.law01.CharsetMakes_j1 t8 = some r → Sat E [(0, .slice sa1 sn1 sc1), (1, .int .i64 lo), (2, .int .i64 hi), (8, .bool t8), (9, .slice sa2 sn2 sc2), (10, .pointer (some ⟨b1, 0, none⟩)), (11, .pointer (some ⟨b2, 0, none⟩)), (13, .pointer (some ⟨b3, 0, none⟩)), (17, .bool (decide (4096 < (l_.length : Int))))] [.box b3 26 [.int .u64 v3.1.w0, .int .u64 v3.1.w1, .int .u64 v3.1.w2, .int .u64 v3.1.w3], .box b2 26 [.int .u64 v2.1.w0, .int .u64 v2.1.w1, .int .u64 v2.1.w2, .int .u64 v2.1.w3], .box b1 26 [.int .u64 v1.w0, .int .u64 v1.w1, .int .u64 v1.w2, .int .u64 v1.w3], .row (.slice sa2 sn2 sc2) 5 1 ((([] : List Int) ++ l_).map eU8)] [(.slice sa1 sn1 sc1, .slice 1 (l_.map eU8))] N') (fun N1 hN1 => ?_) ?_
    · refine c_draw (n := 45) [0, 0, 0, 0] mixed rfl rfl ?_
      refine d_one 0 rfl (by kernel_rfl) ?_
      obtain ⟨v4, h8, hF⟩ := bd hF
      refine o_callSB call12 rfl lent_nil (tri12 k v4 h8) rfl ?_
      refine d_next [0, 0, 0, 0] 0 rfl rfl ?_
      refine d_val 1 rfl pnok (by kernel_rfl) (by kernel_rfl) (by kernel_rfl) rfl (v_move rfl) ?_
      refine d_split (t := 37) rfl (fun h9 => ?_) (fun h9 => ?_)
      · replace hF := ite_t h9 hF
        refine d_val_on 2 rfl rfl rfl pnok (by kernel_rfl) (by kernel_rfl) (by kernel_rfl) rfl (v_load_box 2 ty26 rfl rfl rfl rfl rfl) ?_
        refine d_val_on 3 rfl rfl rfl pnok (by kernel_rfl) (by kernel_rfl) (by kernel_rfl) rfl (v_move rfl) ?_
        refine d_one 4 rfl (by kernel_rfl) ?_
        refine o_on rfl rfl ?_
        obtain ⟨v5, h10, hF⟩ := bd hF
        refine o_callSB call16 rfl (lent_f 0 rfl lent_nil) (tri16 k l_ sa1 sn1 sc1 v5 h10) rfl ?_
        refine d_next [0, 0, 0, 0] 0 rfl rfl ?_
        refine d_val_on 5 rfl rfl rfl pnok (by kernel_rfl) (by kernel_rfl) (by kernel_rfl) rfl (v_ageq 2 rfl rfl (eq26 v1.w0 v1.w1 v1.w2 v1.w3 v5.w0 v5.w1 v5.w2 v5.w3) rfl guard26) ?_
        refine d_val 6 rfl pnok (by kernel_rfl) (by kernel_rfl) (by kernel_rfl) rfl (v_pick_t rfl rfl) ?_
        refine d_val 7 rfl pnok (by kernel_rfl) (by kernel_rfl) (by kernel_rfl) rfl (v_move rfl) ?_
        refine d_split (t := 43) rfl (fun h11 => ?_) (fun h11 => ?_)
        · replace hF := ite_t h11 hF
          refine d_val_on 8 rfl rfl rfl pnok (by kernel_rfl) (by kernel_rfl) (by kernel_rfl) rfl (v_load_box 1 ty26 rfl rfl rfl rfl rfl) ?_
          refine d_val_on 9 rfl rfl rfl pnok (by kernel_rfl) (by kernel_rfl) (by kernel_rfl) rfl (v_load_box 0 ty26 rfl rfl rfl rfl rfl) ?_
          refine d_val_on 10 rfl rfl rfl pnok (by kernel_rfl) (by kernel_rfl) (by kernel_rfl) rfl (v_ageq 2 rfl rfl (eq26 v2.1.w0 v2.1.w1 v2.1.w2 v2.1.w3 v3.1.w0 v3.1.w1 v3.1.w2 v3.1.w3) rfl guard26) ?_
          refine d_val 11 rfl pnok (by kernel_rfl) (by kernel_rfl) (by kernel_rfl) rfl (v_pick_t rfl rfl) ?_
          refine d_val 12 rfl pnok (by kernel_rfl) (by kernel_rfl) (by kernel_rfl) rfl (v_move rfl) ?_
          refine d_split (t := 48) rfl (fun h12 => ?_) (fun h12 => ?_)
          · replace hF := ite_t h12 hF
            refine d_val_on 13 rfl rfl rfl pnok (by kernel_rfl) (by kernel_rfl) (by kernel_rfl) rfl (v_move rfl) ?_
            refine d_val_on 14 rfl rfl rfl pnok (by kernel_rfl) (by kernel_rfl) (by kernel_rfl) rfl (v_move rfl) ?_
            refine d_val_on 15 rfl rfl rfl pnok (by kernel_rfl) (by kernel_rfl) (by kernel_rfl) rfl (v_bin rfl rfl rfl) ?_
            refine d_val 16 rfl pnok (by kernel_rfl) (by kernel_rfl) (by kernel_rfl) rfl (v_pick_t rfl rfl) ?_
            refine d_val 17 rfl pnok (by kernel_rfl) (by kernel_rfl) (by kernel_rfl) rfl (v_move rfl) ?_
            refine d_split (t := 53) rfl (fun h13 => ?_) (fun h13 => ?_)
            · replace hF := ite_t h13 hF
              refine d_val_on 18 rfl rfl rfl pnok (by kernel_rfl) (by kernel_rfl) (by kernel_rfl) rfl (v_load_box 2 ty26 rfl rfl rfl rfl rfl) ?_
              refine d_val_on 19 rfl rfl rfl pnok (by kernel_rfl) (by kernel_rfl) (by kernel_rfl) rfl (v_move rfl) ?_
              refine d_val_on 21 rfl rfl rfl pnok (by kernel_rfl) (by kernel_rfl) (by kernel_rfl) rfl (v_load_box 2 ty26 rfl rfl rfl rfl rfl) ?_
              refine d_val_on 22 rfl rfl rfl pnok (by kernel_rfl) (by kernel_rfl) (by kernel_rfl) rfl (v_move rfl) ?_
              refine d_val_on 23 rfl rfl rfl pnok (by kernel_rfl) (by kernel_rfl) (by kernel_rfl) rfl (v_convert (v := .int .i64 (IntKind.wrap .i64 b)) rfl (fun _ => by kernel_rfl)) ?_
              refine d_one 20 rfl (by kernel_rfl) ?_
              refine o_on rfl rfl ?_
              obtain ⟨v6, h14, hF⟩ := bd hF
              refine o_callSB call17 rfl lent_nil (tri17 v1 b v6 h14) rfl ?_
              refine d_next [0, 0, 0, 0] 0 rfl rfl ?_
              refine d_one 24 rfl (by kernel_rfl) ?_
              refine o_on rfl rfl ?_
              obtain ⟨v7, h15, hF⟩ := bd hF
              refine o_callSB call18 rfl lent_nil (tri18 k v1 (IntKind.wrap .i64 b) v7 h15) rfl ?_
              refine d_next [0, 0, 0, 0] 0 rfl rfl ?_
              refine d_val_on 25 rfl rfl rfl pnok (by kernel_rfl) (by kernel_rfl) (by kernel_rfl) rfl (v_booleq rfl rfl Try.underlying4) ?_
              refine d_val 26 rfl pnok (by kernel_rfl) (by kernel_rfl) (by kernel_rfl) rfl (v_pick_t rfl rfl) ?_
              refine d_val 27 rfl pnok (by kernel_rfl) (by kernel_rfl) (by kernel_rfl) rfl (v_move rfl) ?_
              refine d_split (t := 63) rfl (fun h16 => ?_) (fun h16 => ?_)
              · replace hF := ite_t h16 hF
                refine d_val_on 28 rfl rfl rfl pnok (by kernel_rfl) (by kernel_rfl) (by kernel_rfl) rfl (v_load_box 1 ty26 rfl rfl rfl rfl rfl) ?_
                refine d_val_on 29 rfl rfl rfl pnok (by kernel_rfl) (by kernel_rfl) (by kernel_rfl) rfl (v_move rfl) ?_
                refine d_val_on 31 rfl rfl rfl pnok (by kernel_rfl) (by kernel_rfl) (by kernel_rfl) rfl (v_load_box 0 ty26 rfl rfl rfl rfl rfl) ?_
                refine d_val_on 32 rfl rfl rfl pnok (by kernel_rfl) (by kernel_rfl) (by kernel_rfl) rfl (v_move rfl) ?_
                refine d_val_on 33 rfl rfl rfl pnok (by kernel_rfl) (by kernel_rfl) (by kernel_rfl) rfl (v_convert (v := .int .i64 (IntKind.wrap .i64 b)) rfl (fun _ => by kernel_rfl)) ?_
                refine d_one 30 rfl (by kernel_rfl) ?_
                refine o_on rfl rfl ?_
                obtain ⟨v8, h17, hF⟩ := bd hF
                refine o_callSB call17 rfl lent_nil (tri17 v2.1 b v8 h17) rfl ?_
                refine d_next [0, 0, 0, 0] 0 rfl rfl ?_
                refine d_one 34 rfl (by kernel_rfl) ?_
                refine o_on rfl rfl ?_
                obtain ⟨v9, h18, hF⟩ := bd hF
                refine o_callSB call18 rfl lent_nil (tri18 k v3.1 (IntKind.wrap .i64 b) v9 h18) rfl ?_
                refine d_next [0, 0, 0, 0] 0 rfl rfl ?_
                refine d_val_on 35 rfl rfl rfl pnok (by kernel_rfl) (by kernel_rfl) (by kernel_rfl) rfl (v_booleq rfl rfl Try.underlying4) ?_
                refine d_val 36 rfl pnok (by kernel_rfl) (by kernel_rfl) (by kernel_rfl) rfl (v_pick_t rfl rfl) ?_
                refine d_val 37 rfl pnok (by kernel_rfl) (by kernel_rfl) (by kernel_rfl) rfl (v_move rfl) ?_
                refine d_split (t := 73) rfl (fun h19 => ?_) (fun h19 => ?_)
                · replace hF := ite_t h19 hF
                  refine d_val_on 38 rfl rfl rfl pnok (by kernel_rfl) (by kernel_rfl) (by kernel_rfl) rfl (v_move rfl) ?_
                  refine d_val_on 40 rfl rfl rfl pnok (by kernel_rfl) (by kernel_rfl) (by kernel_rfl) rfl (v_move rfl) ?_
                  refine d_all [39, 41] (by kernel_rfl) (by simp) ⟨⟨_, rfl, ?_⟩, ⟨_, rfl, ?_⟩, trivial⟩
                  · refine o_on rfl rfl ?_
                    refine o_v (v_bytesStr sl22 Try.underlying5 Try.underlying9 rfl (.r 3 _ rfl)) rfl ?_
                    refine d_next [0, 0, 0, 0] 0 rfl rfl ?_
                    refine d_one 41 rfl (by kernel_rfl) ?_
                    refine o_on rfl rfl ?_
                    refine o_v (v_bytesStr sl22 Try.underlying5 Try.underlying9 rfl (.f 0 rfl)) rfl ?_
                    refine d_next [0, 0, 0, 0] 0 rfl rfl ?_
                    refine d_val_on 42 rfl rfl rfl pnok (by kernel_rfl) (by kernel_rfl) (by kernel_rfl) rfl (v_streq rfl rfl) ?_
                    refine d_val 43 rfl pnok (by kernel_rfl) (by kernel_rfl) (by kernel_rfl) rfl (v_pick_t rfl rfl) ?_
                    refine d_val 44 rfl pnok (by kernel_rfl) (by kernel_rfl) (by kernel_rfl) rfl (v_assign rfl) ?_
                    refine d_done (by kernel_rfl) ?_
                    refine s_st ?_ (hN1 ((toS (([] : List Int) ++ l_)) == (toS l_)) hF)
                    exact st_le [0, 0, 0, 0] (le_cons rfl (le_cons rfl (le_cons rfl (le_cons rfl (le_cons rfl (le_cons rfl (le_cons rfl (le_cons rfl (le_cons rfl le_nil))))))))) rfl (sub_cons 0 rfl sub_nil)
                  · refine o_on rfl rfl ?_
                    refine o_v (v_bytesStr sl22 Try.underlying5 Try.underlying9 rfl (.f 0 rfl)) rfl ?_
                    refine d_next [0, 0, 0, 0] 0 rfl rfl ?_
                    refine d_one 39 rfl (by kernel_rfl) ?_
                    refine o_on rfl rfl ?_
                    refine o_v (v_bytesStr sl22 Try.underlying5 Try.underlying9 rfl (.r 3 _ rfl)) rfl ?_
                    refine d_next [0, 0, 0, 0] 0 rfl rfl ?_
                    refine d_val_on 42 rfl rfl rfl pnok (by kernel_rfl) (by kernel_rfl) (by kernel_rfl) rfl (v_streq rfl rfl) ?_
                    refine d_val 43 rfl pnok (by kernel_rfl) (by kernel_rfl) (by kernel_rfl) rfl (v_pick_t rfl rfl) ?_
                    refine d_val 44 rfl pnok (by kernel_rfl) (by kernel_rfl) (by kernel_rfl) rfl (v_assign rfl) ?_
                    refine d_done (by kernel_rfl) ?_
                    refine s_st ?_ (hN1 ((toS (([] : List Int) ++ l_)) == (toS l_)) hF)
                    exact st_le [0, 0, 0, 0] (le_cons rfl (le_cons rfl (le_cons rfl (le_cons rfl (le_cons rfl (le_cons rfl (le_cons rfl (le_cons rfl (le_cons rfl le_nil))))))))) rfl (sub_cons 0 rfl sub_nil)
                · replace hF := ite_f h19 hF
                  refine d_off 38 rfl rfl rfl (by decide) pnok (by kernel_rfl) (by kernel_rfl) (by kernel_rfl) rfl ?_
                  refine d_off 39 rfl rfl rfl (by decide) pnok (by kernel_rfl) (by kernel_rfl) (by kernel_rfl) rfl ?_
                  refine d_off 40 rfl rfl rfl (by decide) pnok (by kernel_rfl) (by kernel_rfl) (by kernel_rfl) rfl ?_
                  refine d_off 41 rfl rfl rfl (by decide) pnok (by kernel_rfl) (by kernel_rfl) (by kernel_rfl) rfl ?_
                  refine d_off 42 rfl rfl rfl (by decide) pnok (by kernel_rfl) (by kernel_rfl) (by kernel_rfl) rfl ?_
                  refine d_val 43 rfl pnok (by kernel_rfl) (by kernel_rfl) (by kernel_rfl) rfl (v_pick_f rfl rfl) ?_
                  refine d_val 44 rfl pnok (by kernel_rfl) (by kernel_rfl) (by kernel_rfl) rfl (v_assign rfl) ?_
                  refine d_done (by kernel_rfl) ?_
                  refine s_st ?_ (hN1 false hF)
                  exact st_le [0, 0, 0, 0] (le_cons rfl (le_cons rfl (le_cons rfl (le_cons rfl (le_cons rfl (le_cons rfl (le_cons rfl (le_cons rfl (le_cons rfl le_nil))))))))) rfl (sub_cons 0 rfl sub_nil)
              · replace hF := ite_f h16 hF
                refine d_off 28 rfl rfl rfl (by decide) pnok (by kernel_rfl) (by kernel_rfl) (by kernel_rfl) rfl ?_
                refine d_off 29 rfl rfl rfl (by decide) pnok (by kernel_rfl) (by kernel_rfl) (by kernel_rfl) rfl ?_
                refine d_off 30 rfl rfl rfl (by decide) pnok (by kernel_rfl) (by kernel_rfl) (by kernel_rfl) rfl ?_
                refine d_off 31 rfl rfl rfl (by decide) pnok (by kernel_rfl) (by kernel_rfl) (by kernel_rfl) rfl ?_
                refine d_off 32 rfl rfl rfl (by decide) pnok (by kernel_rfl) (by kernel_rfl) (by kernel_rfl) rfl ?_
                refine d_off 33 rfl rfl rfl (by decide) pnok (by kernel_rfl) (by kernel_rfl) (by kernel_rfl) rfl ?_
                refine d_off 34 rfl rfl rfl (by decide) pnok (by kernel_rfl) (by kernel_rfl) (by kernel_rfl) rfl ?_
                refine d_off 35 rfl rfl rfl (by decide) pnok (by kernel_rfl) (by kernel_rfl) (by kernel_rfl) rfl ?_
                refine d_val 36 rfl pnok (by kernel_rfl) (by kernel_rfl) (by kernel_rfl) rfl (v_pick_f rfl rfl) ?_
                refine d_val 37 rfl pnok (by kernel_rfl) (by kernel_rfl) (by kernel_rfl) rfl (v_move rfl) ?_
                refine d_off 38 rfl rfl rfl (by decide) pnok (by kernel_rfl) (by kernel_rfl) (by kernel_rfl) rfl ?_
                refine d_off 39 rfl rfl rfl (by decide) pnok (by kernel_rfl) (by kernel_rfl) (by kernel_rfl) rfl ?_
                refine d_off 40 rfl rfl rfl (by decide) pnok (by kernel_rfl) (by kernel_rfl) (by kernel_rfl) rfl ?_
                refine d_off 41 rfl rfl rfl (by decide) pnok (by kernel_rfl) (by kernel_rfl) (by kernel_rfl) rfl ?_
                refine d_off 42 rfl rfl rfl (by decide) pnok (by kernel_rfl) (by kernel_rfl) (by kernel_rfl) rfl ?_
                refine d_val 43 rfl pnok (by kernel_rfl) (by kernel_rfl) (by kernel_rfl) rfl (v_pick_f rfl rfl) ?_
                refine d_val 44 rfl pnok (by kernel_rfl) (by kernel_rfl) (by kernel_rfl) rfl (v_assign rfl) ?_
                refine d_done (by kernel_rfl) ?_
                refine s_st ?_ (hN1 false hF)
                exact st_le [0, 0, 0, 0] (le_cons rfl (le_cons rfl (le_cons rfl (le_cons rfl (le_cons rfl (le_cons rfl (le_cons rfl (le_cons rfl (le_cons rfl le_nil))))))))) rfl (sub_cons 0 rfl sub_nil)
            · replace hF := ite_f h13 hF
              refine d_off 18 rfl rfl rfl (by decide) pnok (by kernel_rfl) (by kernel_rfl) (by kernel_rfl) rfl ?_
              refine d_off 19 rfl rfl rfl (by decide) pnok (by kernel_rfl) (by kernel_rfl) (by kernel_rfl) rfl ?_
              refine d_off 20 rfl rfl rfl (by decide) pnok (by kernel_rfl) (by kernel_rfl) (by kernel_rfl) rfl ?_
              refine d_off 21 rfl rfl rfl (by decide) pnok (by kernel_rfl) (by kernel_rfl) (by kernel_rfl) rfl ?_
              refine d_off 22 rfl rfl rfl (by decide) pnok (by kernel_rfl) (by kernel_rfl) (by kernel_rfl) rfl ?_
              refine d_off 23 rfl rfl rfl (by decide) pnok (by kernel_rfl) (by kernel_rfl) (by kernel_rfl) rfl ?_
              refine d_off 24 rfl rfl rfl (by decide) pnok (by kernel_rfl) (by kernel_rfl) (by kernel_rfl) rfl ?_
              refine d_off 25 rfl rfl rfl (by decide) pnok (by kernel_rfl) (by kernel_rfl) (by kernel_rfl) rfl ?_
              refine d_val 26 rfl pnok (by kernel_rfl) (by kernel_rfl) (by kernel_rfl) rfl (v_pick_f rfl rfl) ?_
              refine d_val 27 rfl pnok (by kernel_rfl) (by kernel_rfl) (by kernel_rfl) rfl (v_move rfl) ?_
              refine d_off 28 rfl rfl rfl (by decide) pnok (by kernel_rfl) (by kernel_rfl) (by kernel_rfl) rfl ?_
              refine d_off 29 rfl rfl rfl (by decide) pnok (by kernel_rfl) (by kernel_rfl) (by kernel_rfl) rfl ?_
              refine d_off 30 rfl rfl rfl (by decide) pnok (by kernel_rfl) (by kernel_rfl) (by kernel_rfl) rfl ?_
              refine d_off 31 rfl rfl rfl (by decide) pnok (by kernel_rfl) (by kernel_rfl) (by kernel_rfl) rfl ?_
              refine d_off 32 rfl rfl rfl (by decide) pnok (by kernel_rfl) (by kernel_rfl) (by kernel_rfl) rfl ?_
              refine d_off 33 rfl rfl rfl (by decide) pnok (by kernel_rfl) (by kernel_rfl) (by kernel_rfl) rfl ?_
              refine d_off 34 rfl rfl rfl (by decide) pnok (by kernel_rfl) (by kernel_rfl) (by kernel_rfl) rfl ?_
              refine d_off 35 rfl rfl rfl (by decide) pnok (by kernel_rfl) (by kernel_rfl) (by kernel_rfl) rfl ?_
              refine d_val 36 rfl pnok (by kernel_rfl) (by kernel_rfl) (by kernel_rfl) rfl (v_pick_f rfl rfl) ?_
              refine d_val 37 rfl pnok (by kernel_rfl) (by kernel_rfl) (by kernel_rfl) rfl (v_move rfl) ?_
              refine d_off 38 rfl rfl rfl (by decide) pnok (by kernel_rfl) (by kernel_rfl) (by kernel_rfl) rfl ?_
              refine d_off 39 rfl rfl rfl (by decide) pnok (by kernel_rfl) (by kernel_rfl) (by kernel_rfl) rfl ?_
              refine d_off 40 rfl rfl rfl (by decide) pnok (by kernel_rfl) (by kernel_rfl) (by kernel_rfl) rfl ?_
              refine d_off 41 rfl rfl rfl (by decide) pnok (by kernel_rfl) (by kernel_rfl) (by kernel_rfl) rfl ?_
              refine d_off 42 rfl rfl rfl (by decide) pnok (by kernel_rfl) (by kernel_rfl) (by kernel_rfl) rfl ?_
              refine d_val 43 rfl pnok (by kernel_rfl) (by kernel_rfl) (by kernel_rfl) rfl (v_pick_f rfl rfl) ?_
              refine d_val 44 rfl pnok (by kernel_rfl) (by kernel_rfl) (by kernel_rfl) rfl (v_assign rfl) ?_
              refine d_done (by kernel_rfl) ?_
              refine s_st ?_ (hN1 false hF)
              exact st_le [0, 0, 0, 0] (le_cons rfl (le_cons rfl (le_cons rfl (le_cons rfl (le_cons rfl (le_cons rfl (le_cons rfl (le_cons rfl (le_cons rfl le_nil))))))))) rfl (sub_cons 0 rfl sub_nil)
          · replace hF := ite_f h12 hF
            refine d_off 13 rfl rfl rfl (by decide) pnok (by kernel_rfl) (by kernel_rfl) (by kernel_rfl) rfl ?_
            refine d_off 14 rfl rfl rfl (by decide) pnok (by kernel_rfl) (by kernel_rfl) (by kernel_rfl) rfl ?_
            refine d_off 15 rfl rfl rfl (by decide) pnok (by kernel_rfl) (by kernel_rfl) (by kernel_rfl) rfl ?_
            refine d_val 16 rfl pnok (by kernel_rfl) (by kernel_rfl) (by kernel_rfl) rfl (v_pick_f rfl rfl) ?_
            refine d_val 17 rfl pnok (by kernel_rfl) (by kernel_rfl) (by kernel_rfl) rfl (v_move rfl) ?_
            refine d_off 18 rfl rfl rfl (by decide) pnok (by kernel_rfl) (by kernel_rfl) (by kernel_rfl) rfl ?_
            refine d_off 19 rfl rfl rfl (by decide) pnok (by kernel_rfl) (by kernel_rfl) (by kernel_rfl) rfl ?_
            refine d_off 20 rfl rfl rfl (by decide) pnok (by kernel_rfl) (by kernel_rfl) (by kernel_rfl) rfl ?_
            refine d_off 21 rfl rfl rfl (by decide) pnok (by kernel_rfl) (by kernel_rfl) (by kernel_rfl) rfl ?_
            refine d_off 22 rfl rfl rfl (by decide) pnok (by kernel_rfl) (by kernel_rfl) (by kernel_rfl) rfl ?_
            refine d_off 23 rfl rfl rfl (by decide) pnok (by kernel_rfl) (by kernel_rfl) (by kernel_rfl) rfl ?_
            refine d_off 24 rfl rfl rfl (by decide) pnok (by kernel_rfl) (by kernel_rfl) (by kernel_rfl) rfl ?_
            refine d_off 25 rfl rfl rfl (by decide) pnok (by kernel_rfl) (by kernel_rfl) (by kernel_rfl) rfl ?_
            refine d_val 26 rfl pnok (by kernel_rfl) (by kernel_rfl) (by kernel_rfl) rfl (v_pick_f rfl rfl) ?_
            refine d_val 27 rfl pnok (by kernel_rfl) (by kernel_rfl) (by kernel_rfl) rfl (v_move rfl) ?_
            refine d_off 28 rfl rfl rfl (by decide) pnok (by kernel_rfl) (by kernel_rfl) (by kernel_rfl) rfl ?_
            refine d_off 29 rfl rfl rfl (by decide) pnok (by kernel_rfl) (by kernel_rfl) (by kernel_rfl) rfl ?_
            refine d_off 30 rfl rfl rfl (by decide) pnok (by kernel_rfl) (by kernel_rfl) (by kernel_rfl) rfl ?_
            refine d_off 31 rfl rfl rfl (by decide) pnok (by kernel_rfl) (by kernel_rfl) (by kernel_rfl) rfl ?_
            refine d_off 32 rfl rfl rfl (by decide) pnok (by kernel_rfl) (by kernel_rfl) (by kernel_rfl) rfl ?_
            refine d_off 33 rfl rfl rfl (by decide) pnok (by kernel_rfl) (by kernel_rfl) (by kernel_rfl) rfl ?_
            refine d_off 34 rfl rfl rfl (by decide) pnok (by kernel_rfl) (by kernel_rfl) (by kernel_rfl) rfl ?_
            refine d_off 35 rfl rfl rfl (by decide) pnok (by kernel_rfl) (by kernel_rfl) (by kernel_rfl) rfl ?_
            refine d_val 36 rfl pnok (by kernel_rfl) (by kernel_rfl) (by kernel_rfl) rfl (v_pick_f rfl rfl) ?_
            refine d_val 37 rfl pnok (by kernel_rfl) (by kernel_rfl) (by kernel_rfl) rfl (v_move rfl) ?_
            refine d_off 38 rfl rfl rfl (by decide) pnok (by kernel_rfl) (by kernel_rfl) (by kernel_rfl) rfl ?_
            refine d_off 39 rfl rfl rfl (by decide) pnok (by kernel_rfl) (by kernel_rfl) (by kernel_rfl) rfl ?_
            refine d_off 40 rfl rfl rfl (by decide) pnok (by kernel_rfl) (by kernel_rfl) (by kernel_rfl) rfl ?_
            refine d_off 41 rfl rfl rfl (by decide) pnok (by kernel_rfl) (by kernel_rfl) (by kernel_rfl) rfl ?_
            refine d_off 42 rfl rfl rfl (by decide) pnok (by kernel_rfl) (by kernel_rfl) (by kernel_rfl) rfl ?_
            refine d_val 43 rfl pnok (by kernel_rfl) (by kernel_rfl) (by kernel_rfl) rfl (v_pick_f rfl rfl) ?_
            refine d_val 44 rfl pnok (by kernel_rfl) (by kernel_rfl) (by kernel_rfl) rfl (v_assign rfl) ?_
            refine d_done (by kernel_rfl) ?_
            refine s_st ?_ (hN1 false hF)
            exact st_le [0, 0, 0, 0] (le_cons rfl (le_cons rfl (le_cons rfl (le_cons rfl (le_cons rfl (le_cons rfl (le_cons rfl (le_cons rfl (le_cons rfl le_nil))))))))) rfl (sub_cons 0 rfl sub_nil)
        · replace hF := ite_f h11 hF
          refine d_off 8 rfl rfl rfl (by decide) pnok (by kernel_rfl) (by kernel_rfl) (by kernel_rfl) rfl ?_
          refine d_off 9 rfl rfl rfl (by decide) pnok (by kernel_rfl) (by kernel_rfl) (by kernel_rfl) rfl ?_
          refine d_off 10 rfl rfl rfl (by decide) pnok (by kernel_rfl) (by kernel_rfl) (by kernel_rfl) rfl ?_
          refine d_val 11 rfl pnok (by kernel_rfl) (by kernel_rfl) (by kernel_rfl) rfl (v_pick_f rfl rfl) ?_
          refine d_val 12 rfl pnok (by kernel_rfl) (by kernel_rfl) (by kernel_rfl) rfl (v_move rfl) ?_
          refine d_off 13 rfl rfl rfl (by decide) pnok (by kernel_rfl) (by kernel_rfl) (by kernel_rfl) rfl ?_
          refine d_off 14 rfl rfl rfl (by decide) pnok (by kernel_rfl) (by kernel_rfl) (by kernel_rfl) rfl ?_
          refine d_off 15 rfl rfl rfl (by decide) pnok (by kernel_rfl) (by kernel_rfl) (by kernel_rfl) rfl ?_
          refine d_val 16 rfl pnok (by kernel_rfl) (by kernel_rfl) (by kernel_rfl) rfl (v_pick_f rfl rfl) ?_
          refine d_val 17 rfl pnok (by kernel_rfl) (by kernel_rfl) (by kernel_rfl) rfl (v_move rfl) ?_
          refine d_off 18 rfl rfl rfl (by decide) pnok (by kernel_rfl) (by kernel_rfl) (by kernel_rfl) rfl ?_
          refine d_off 19 rfl rfl rfl (by decide) pnok (by kernel_rfl) (by kernel_rfl) (by kernel_rfl) rfl ?_
          refine d_off 20 rfl rfl rfl (by decide) pnok (by kernel_rfl) (by kernel_rfl) (by kernel_rfl) rfl ?_
          refine d_off 21 rfl rfl rfl (by decide) pnok (by kernel_rfl) (by kernel_rfl) (by kernel_rfl) rfl ?_
          refine d_off 22 rfl rfl rfl (by decide) pnok (by kernel_rfl) (by kernel_rfl) (by kernel_rfl) rfl ?_
          refine d_off 23 rfl rfl rfl (by decide) pnok (by kernel_rfl) (by kernel_rfl) (by kernel_rfl) rfl ?_
          refine d_off 24 rfl rfl rfl (by decide) pnok (by kernel_rfl) (by kernel_rfl) (by kernel_rfl) rfl ?_
          refine d_off 25 rfl rfl rfl (by decide) pnok (by kernel_rfl) (by kernel_rfl) (by kernel_rfl) rfl ?_
          refine d_val 26 rfl pnok (by kernel_rfl) (by kernel_rfl) (by kernel_rfl) rfl (v_pick_f rfl rfl) ?_
          refine d_val 27 rfl pnok (by kernel_rfl) (by kernel_rfl) (by kernel_rfl) rfl (v_move rfl) ?_
          refine d_off 28 rfl rfl rfl (by decide) pnok (by kernel_rfl) (by kernel_rfl) (by kernel_rfl) rfl ?_
          refine d_off 29 rfl rfl rfl (by decide) pnok (by kernel_rfl) (by kernel_rfl) (by kernel_rfl) rfl ?_
          refine d_off 30 rfl rfl rfl (by decide) pnok (by kernel_rfl) (by kernel_rfl) (by kernel_rfl) rfl ?_
          refine d_off 31 rfl rfl rfl (by decide) pnok (by kernel_rfl) (by kernel_rfl) (by kernel_rfl) rfl ?_
          refine d_off 32 rfl rfl rfl (by decide) pnok (by kernel_rfl) (by kernel_rfl) (by kernel_rfl) rfl ?_
          refine d_off 33 rfl rfl rfl (by decide) pnok (by kernel_rfl) (by kernel_rfl) (by kernel_rfl) rfl ?_
          refine d_off 34 rfl rfl rfl (by decide) pnok (by kernel_rfl) (by kernel_rfl) (by kernel_rfl) rfl ?_
          refine d_off 35 rfl rfl rfl (by decide) pnok (by kernel_rfl) (by kernel_rfl) (by kernel_rfl) rfl ?_
          refine d_val 36 rfl pnok (by kernel_rfl) (by kernel_rfl) (by kernel_rfl) rfl (v_pick_f rfl rfl) ?_
          refine d_val 37 rfl pnok (by kernel_rfl) (by kernel_rfl) (by kernel_rfl) rfl (v_move rfl) ?_
          refine d_off 38 rfl rfl rfl (by decide) pnok (by kernel_rfl) (by kernel_rfl) (by kernel_rfl) rfl ?_
          refine d_off 39 rfl rfl rfl (by decide) pnok (by kernel_rfl) (by kernel_rfl) (by kernel_rfl) rfl ?_
          refine d_off 40 rfl rfl rfl (by decide) pnok (by kernel_rfl) (by kernel_rfl) (by kernel_rfl) rfl ?_
          refine d_off 41 rfl rfl rfl (by decide) pnok (by kernel_rfl) (by kernel_rfl) (by kernel_rfl) rfl ?_
          refine d_off 42 rfl rfl rfl (by decide) pnok (by kernel_rfl) (by kernel_rfl) (by kernel_rfl) rfl ?_
          refine d_val 43 rfl pnok (by kernel_rfl) (by kernel_rfl) (by kernel_rfl) rfl (v_pick_f rfl rfl) ?_
          refine d_val 44 rfl pnok (by kernel_rfl) (by kernel_rfl) (by kernel_rfl) rfl (v_assign rfl) ?_
          refine d_done (by kernel_rfl) ?_
          refine s_st ?_ (hN1 false hF)
          exact st_le [0, 0, 0, 0] (le_cons rfl (le_cons rfl (le_cons rfl (le_cons rfl (le_cons rfl (le_cons rfl (le_cons rfl (le_cons rfl (le_cons rfl le_nil))))))))) rfl (sub_cons 0 rfl sub_nil)
      · replace hF := ite_f h9 hF
        refine d_off 2 rfl rfl rfl (by decide) pnok (by kernel_rfl) (by kernel_rfl) (by kernel_rfl) rfl ?_
        refine d_off 3 rfl rfl rfl (by decide) pnok (by kernel_rfl) (by kernel_rfl) (by kernel_rfl) rfl ?_
        refine d_off 4 rfl rfl rfl (by decide) pnok (by kernel_rfl) (by kernel_rfl) (by kernel_rfl) rfl ?_
        refine d_off 5 rfl rfl rfl (by decide) pnok (by kernel_rfl) (by kernel_rfl) (by kernel_rfl) rfl ?_
        refine d_val 6 rfl pnok (by kernel_rfl) (by kernel_rfl) (by kernel_rfl) rfl (v_pick_f rfl rfl) ?_
        refine d_val 7 rfl pnok (by kernel_rfl) (by kernel_rfl) (by kernel_rfl) rfl (v_move rfl) ?_
        refine d_off 8 rfl rfl rfl (by decide) pnok (by kernel_rfl) (by kernel_rfl) (by kernel_rfl) rfl ?_
        refine d_off 9 rfl rfl rfl (by decide) pnok (by kernel_rfl) (by kernel_rfl) (by kernel_rfl) rfl ?_
        refine d_off 10 rfl rfl rfl (by decide) pnok (by kernel_rfl) (by kernel_rfl) (by kernel_rfl) rfl ?_
        refine d_val 11 rfl pnok (by kernel_rfl) (by kernel_rfl) (by kernel_rfl) rfl (v_pick_f rfl rfl) ?_
        refine d_val 12 rfl pnok (by kernel_rfl) (by kernel_rfl) (by kernel_rfl) rfl (v_move rfl) ?_
        refine d_off 13 rfl rfl rfl (by decide) pnok (by kernel_rfl) (by kernel_rfl) (by kernel_rfl) rfl ?_
        refine d_off 14 rfl rfl rfl (by decide) pnok (by kernel_rfl) (by kernel_rfl) (by kernel_rfl) rfl ?_
        refine d_off 15 rfl rfl rfl (by decide) pnok (by kernel_rfl) (by kernel_rfl) (by kernel_rfl) rfl ?_
        refine d_val 16 rfl pnok (by kernel_rfl) (by kernel_rfl) (by kernel_rfl) rfl (v_pick_f rfl rfl) ?_
        refine d_val 17 rfl pnok (by kernel_rfl) (by kernel_rfl) (by kernel_rfl) rfl (v_move rfl) ?_
        refine d_off 18 rfl rfl rfl (by decide) pnok (by kernel_rfl) (by kernel_rfl) (by kernel_rfl) rfl ?_
        refine d_off 19 rfl rfl rfl (by decide) pnok (by kernel_rfl) (by kernel_rfl) (by kernel_rfl) rfl ?_
        refine d_off 20 rfl rfl rfl (by decide) pnok (by kernel_rfl) (by kernel_rfl) (by kernel_rfl) rfl ?_
        refine d_off 21 rfl rfl rfl (by decide) pnok (by kernel_rfl) (by kernel_rfl) (by kernel_rfl) rfl ?_
        refine d_off 22 rfl rfl rfl (by decide) pnok (by kernel_rfl) (by kernel_rfl) (by kernel_rfl) rfl ?_
        refine d_off 23 rfl rfl rfl (by decide) pnok (by kernel_rfl) (by kernel_rfl) (by kernel_rfl) rfl ?_
        refine d_off 24 rfl rfl rfl (by decide) pnok (by kernel_rfl) (by kernel_rfl) (by kernel_rfl) rfl ?_
        refine d_off 25 rfl rfl rfl (by decide) pnok (by kernel_rfl) (by kernel_rfl) (by kernel_rfl) rfl ?_
        refine d_val 26 rfl pnok (by kernel_rfl) (by kernel_rfl) (by kernel_rfl) rfl (v_pick_f rfl rfl) ?_
        refine d_val 27 rfl pnok (by kernel_rfl) (by kernel_rfl) (by kernel_rfl) rfl (v_move rfl) ?_
        refine d_off 28 rfl rfl rfl (by decide) pnok (by kernel_rfl) (by kernel_rfl) (by kernel_rfl) rfl ?_
        refine d_off 29 rfl rfl rfl (by decide) pnok (by kernel_rfl) (by kernel_rfl) (by kernel_rfl) rfl ?_
        refine d_off 30 rfl rfl rfl (by decide) pnok (by kernel_rfl) (by kernel_rfl) (by kernel_rfl) rfl ?_
        refine d_off 31 rfl rfl rfl (by decide) pnok (by kernel_rfl) (by kernel_rfl) (by kernel_rfl) rfl ?_
        refine d_off 32 rfl rfl rfl (by decide) pnok (by kernel_rfl) (by kernel_rfl) (by kernel_rfl) rfl ?_
        refine d_off 33 rfl rfl rfl (by decide) pnok (by kernel_rfl) (by kernel_rfl) (by kernel_rfl) rfl ?_
        refine d_off 34 rfl rfl rfl (by decide) pnok (by kernel_rfl) (by kernel_rfl) (by kernel_rfl) rfl ?_
        refine d_off 35 rfl rfl rfl (by decide) pnok (by kernel_rfl) (by kernel_rfl) (by kernel_rfl) rfl ?_
        refine d_val 36 rfl pnok (by kernel_rfl) (by kernel_rfl) (by kernel_rfl) rfl (v_pick_f rfl rfl) ?_
        refine d_val 37 rfl pnok (by kernel_rfl) (by kernel_rfl) (by kernel_rfl) rfl (v_move rfl) ?_
        refine d_off 38 rfl rfl rfl (by decide) pnok (by kernel_rfl) (by kernel_rfl) (by kernel_rfl) rfl ?_
        refine d_off 39 rfl rfl rfl (by decide) pnok (by kernel_rfl) (by kernel_rfl) (by kernel_rfl) rfl ?_
        refine d_off 40 rfl rfl rfl (by decide) pnok (by kernel_rfl) (by kernel_rfl) (by kernel_rfl) rfl ?_
        refine d_off 41 rfl rfl rfl (by decide) pnok (by kernel_rfl) (by kernel_rfl) (by kernel_rfl) rfl ?_
        refine d_off 42 rfl rfl rfl (by decide) pnok (by kernel_rfl) (by kernel_rfl) (by kernel_rfl) rfl ?_
        refine d_val 43 rfl pnok (by kernel_rfl) (by kernel_rfl) (by kernel_rfl) rfl (v_pick_f rfl rfl) ?_
        refine d_val 44 rfl pnok (by kernel_rfl) (by kernel_rfl) (by kernel_rfl) rfl (v_assign rfl) ?_
        refine d_done (by kernel_rfl) ?_
        refine s_st ?_ (hN1 false hF)
        exact st_le [0, 0, 0, 0] (le_cons rfl (le_cons rfl (le_cons rfl (le_cons rfl (le_cons rfl (le_cons rfl (le_cons rfl (le_cons rfl (le_cons rfl le_nil))))))))) rfl (sub_cons 0 rfl sub_nil)
    · intro t8 hF
      unfold F.law01.CharsetMakes_j1 at hF
      refine sat_wc ?_
      refine c_ret ?_
      cases hF
      refine s_ret1 rfl (r_tmp rfl) fun a w hs => ?_
      exact fin_sel hs [] ⟨rfl, rfl, rfl⟩ rfl sub_nil
theorem tri28 (k : Nat) (s : S4) (r : List Run) (hF : F.ref01.Runs k s = some r) :
    Tri Try.prog 28 [.agg #[.int .u64 s.w0, .int .u64 s.w1, .int .u64 s.w2, .int .u64 s.w3]] [] [] (fun o H Φ => ∃ (sa6 : Option Addr) (sn6 sc6 : Nat), o = .ret (.slice sa6 sn6 sc6) ∧ H = [.row (.slice sa6 sn6 sc6) 48 2 (r.map eRun)] ∧ Φ = []) := by
  unfold F.ref01.Runs at hF
  refine tri_intro (n := 34) Try.func28 rfl Try.ntmps28 rfl fun w X => ?_
  refine c_seq ?_
  refine c_region ?_
  refine o_box rfl rfl rfl fun b => ?_
  refine o_v (v_assign rfl) rfl ?_
  refine o_seq ?_
  refine c_seq ?_
  refine c_region ?_
  refine o_v (v_assign rfl) rfl ?_
  refine o_seq ?_
  refine c_seq ?_
  refine c_seq ?_
  refine c_region ?_
  refine o_v (v_assign rfl) rfl ?_
  refine o_seq ?_
  obtain ⟨o1, ho1, hF⟩ := bd hF
  refine c_cut (fun E N' => ∀ (sa2 : Option Addr) (sn2 sc2 : Nat), Sat E [(0, .agg #[.int .u64 s.w0, .int .u64 s.w1, .int .u64 s.w2, .int .u64 s.w3]), (2, .slice none 0 0), (3, .slice sa2 sn2 sc2)] [.row (.slice sa2 sn2 sc2) 48 2 (o1.map eRun)] [] N') (fun N1 hN1 => ?_) ?_
  · refine c_block ?_
    refine c_loopE (fun E j a w => ∃ (out : List Run) (i : Int) (sa1 : Option Addr) (sn1 sc1 : Nat), F.ref01.Runs_l1 k s j out i = some o1 ∧ St E [(0, .agg #[.int .u64 s.w0, .int .u64 s.w1, .int .u64 s.w2, .int .u64 s.w3]), (1, .pointer (some ⟨b, 0, none⟩)), (2, .slice none 0 0), (3, .slice sa1 sn1 sc1), (4, .int .i64 i)] [.box b 26 [.int .u64 s.w0, .int .u64 s.w1, .int .u64 s.w2, .int .u64 s.w3], .row (.slice sa1 sn1 sc1) 48 2 (out.map eRun)] [] a w) k ?_ ?_
    · refine s_st (st_nilrow 48 2) ?_
      intro a w hs
      exact ⟨([] : List Run), 0, none, 0, 0, ho1, st_le [1, 0] (le_cons rfl (le_cons rfl (le_cons rfl (le_cons rfl (le_cons rfl le_nil))))) rfl sub_nil a w hs⟩
    · rintro j a w ⟨out, i, sa1, sn1, sc1, hL1, hs⟩
      cases j with
      | zero => cases hL1
      | succ j =>
        refine wc_app hs ?_
        unfold F.ref01.Runs_l1 at hL1
        refine c_seq ?_
        refine c_seq ?_
        refine c_region ?_
        refine o_v (v_move rfl) rfl ?_
        refine o_v (v_bin rfl rfl rfl) rfl ?_
        refine o_seq ?_
        refine c_cond rfl (fun h1 => ?_) (fun h1 => ?_)
        · replace hL1 := ite_t h1 hL1
          refine c_skip ?_
          refine sat_wc ?_
          refine c_seq ?_
          refine c_cut (fun E N' => ∀ (out1 : List Run) (t19 : Bool) (sa3 : Option Addr) (sn3 sc3 : Nat), F.ref01.Runs_j2 (F.ref01.Runs_l1 k s j) i out1 t19 = some o1 → Sat E [(0, .agg #[.int .u64 s.w0, .int .u64 s.w1, .int .u64 s.w2, .int .u64 s.w3]), (1, .pointer (some ⟨b, 0, none⟩)), (2, .slice none 0 0), (3, .slice sa3 sn3 sc3), (4, .int .i64 i), (7, .bool (decide (i < 256))), (19, .bool t19)] [.box b 26 [.int .u64 s.w0, .int .u64 s.w1, .int .u64 s.w2, .int .u64 s.w3], .row (.slice sa3 sn3 sc3) 48 2 (out1.map eRun)] [] N') (fun N2 hN2 => ?_) ?_
          · refine c_block ?_
            refine c_seq ?_
            refine c_seq ?_
            refine c_cut (fun E N' => ∀ (t191 : Bool), F.ref01.Runs_j3 k (F.ref01.Runs_l1 k s j) i out s t191 = some o1 → Sat E [(0, .agg #[.int .u64 s.w0, .int .u64 s.w1, .int .u64 s.w2, .int .u64 s.w3]), (1, .pointer (some ⟨b, 0, none⟩)), (2, .slice none 0 0), (3, .slice sa1 sn1 sc1), (4, .int .i64 i), (7, .bool (decide (i < 256))), (19, .bool t191)] [.box b 26 [.int .u64 s.w0, .int .u64 s.w1, .int .u64 s.w2, .int .u64 s.w3], .row (.slice sa1 sn1 sc1) 48 2 (out.map eRun)] [] N') (fun N4 hN4 => ?_) ?_
            · refine c_region ?_
              refine o_v (v_load_box 0 ty26 rfl rfl rfl rfl rfl) rfl ?_
              refine o_v (v_move rfl) rfl ?_
              obtain ⟨v1, h7, hL1⟩ := bd hL1
              refine o_callSB call18 rfl lent_nil (tri18 k s i v1 h7) rfl ?_
              refine o_v (v_not rfl) rfl ?_
              refine o_v (v_move rfl) rfl ?_
              refine o_split (t := 14) rfl (fun h8 => ?_) (fun h8 => ?_)
              · replace hL1 := ite_t h8 hL1
                refine o_off rfl rfl (by decide) rfl ?_
                refine o_off rfl rfl (by decide) rfl ?_
                refine o_off rfl rfl (by decide) rfl ?_
                refine o_off rfl rfl (by decide) rfl ?_
                refine o_v (v_pick_t rfl rfl) rfl ?_
                refine o_nil ?_
                refine s_st ?_ (hN4 true hL1)
                exact st_le [0, 0] (le_cons rfl (le_cons rfl (le_cons rfl (le_cons rfl (le_cons rfl (le_cons rfl (le_cons rfl le_nil))))))) rfl sub_nil
              · replace hL1 := ite_f h8 hL1
                refine o_on rfl rfl ?_
                refine o_v (v_load_box 0 ty26 rfl rfl rfl rfl rfl) rfl ?_
                refine o_on rfl rfl ?_
                refine o_v (v_move rfl) rfl ?_
                refine o_on rfl rfl ?_
                refine o_v (v_bin rfl rfl rfl) rfl ?_
                refine o_on rfl rfl ?_
                obtain ⟨v2, h9, hL1⟩ := bd hL1
                refine o_callSB call18 rfl lent_nil (tri18 k s (IntKind.wrap .i64 (i - 1)) v2 h9) rfl ?_
                refine o_v (v_pick_f rfl rfl) rfl ?_
                refine o_nil ?_
                refine s_st ?_ (hN4 v2 hL1)
                exact st_le [0, 0] (le_cons rfl (le_cons rfl (le_cons rfl (le_cons rfl (le_cons rfl (le_cons rfl (le_cons rfl le_nil))))))) rfl sub_nil
            · intro t191 hL1
              unfold F.ref01.Runs_j3 at hL1
              refine sat_wc ?_
              refine c_cond rfl (fun h2 => ?_) (fun h2 => ?_)
              · replace hL1 := ite_t h2 hL1
                refine c_exit0 ?_
                refine s_st ?_ (hN2 out t191 sa1 sn1 sc1 hL1)
                exact st_le [0, 0] (le_cons rfl (le_cons rfl (le_cons rfl (le_cons rfl (le_cons rfl (le_cons rfl (le_cons rfl le_nil))))))) rfl sub_nil
              · replace hL1 := ite_f h2 hL1
                refine c_skip ?_
                refine sat_wc ?_
                refine c_seq ?_
                refine c_region ?_
                refine o_v (v_move rfl) rfl ?_
                refine o_v (v_assign rfl) rfl ?_
                refine o_seq ?_
                refine c_seq ?_
                obtain ⟨o4, ho4, hL1⟩ := bd hL1
                refine c_cut (fun E N' => Sat E [(0, .agg #[.int .u64 s.w0, .int .u64 s.w1, .int .u64 s.w2, .int .u64 s.w3]), (1, .pointer (some ⟨b, 0, none⟩)), (2, .slice none 0 0), (3, .slice sa1 sn1 sc1), (4, .int .i64 i), (5, .int .i64 o4.1), (7, .bool (decide (i < 256))), (19, .bool t191), (24, .bool o4.2)] [.box b 26 [.int .u64 s.w0, .int .u64 s.w1, .int .u64 s.w2, .int .u64 s.w3], .row (.slice sa1 sn1 sc1) 48 2 (out.map eRun)] [] N') (fun N4 hN4 => ?_) ?_
                · refine c_block ?_
                  refine c_loopE (fun E j a w => ∃ (hi : Int), F.ref01.Runs_l4 k s j hi = some o4 ∧ St E [(0, .agg #[.int .u64 s.w0, .int .u64 s.w1, .int .u64 s.w2, .int .u64 s.w3]), (1, .pointer (some ⟨b, 0, none⟩)), (2, .slice none 0 0), (3, .slice sa1 sn1 sc1), (4, .int .i64 i), (5, .int .i64 hi), (7, .bool (decide (i < 256))), (19, .bool t191)] [.box b 26 [.int .u64 s.w0, .int .u64 s.w1, .int .u64 s.w2, .int .u64 s.w3], .row (.slice sa1 sn1 sc1) 48 2 (out.map eRun)] [] a w) k ?_ ?_
                  · intro a w hs
                    exact ⟨i, ho4, st_le [0, 0] (le_cons rfl (le_cons rfl (le_cons rfl (le_cons rfl (le_cons rfl (le_cons rfl (le_cons rfl (le_cons rfl le_nil)))))))) rfl sub_nil a w hs⟩
                  · rintro j a w ⟨hi, hL4, hs⟩
                    cases j with
                    | zero => cases hL4
                    | succ j =>
                      refine wc_app hs ?_
                      unfold F.ref01.Runs_l4 at hL4
                      refine c_seq ?_
                      refine c_seq ?_
                      refine c_region ?_
                      refine o_v (v_load_box 0 ty26 rfl rfl rfl rfl rfl) rfl ?_
                      refine o_v (v_move rfl) rfl ?_
                      refine o_v (v_bin rfl rfl rfl) rfl ?_
                      obtain ⟨v, h3, hL4⟩ := bd hL4
                      refine o_callSB call18 rfl lent_nil (tri18 k s (IntKind.wrap .i64 (hi + 1)) v h3) rfl ?_
                      refine o_seq ?_
                      refine c_cond rfl (fun h4 => ?_) (fun h4 => ?_)
                      · replace hL4 := ite_t h4 hL4
                        refine c_skip ?_
                        refine sat_wc ?_
                        refine c_block ?_
                        refine c_region ?_
                        refine o_v (v_move rfl) rfl ?_
                        refine o_v (v_bin rfl rfl rfl) rfl ?_
                        refine o_v (v_assign rfl) rfl ?_
                        refine o_nil ?_
                        intro a w hs
                        exact ⟨j, Nat.lt_succ_self j, IntKind.wrap .i64 (hi + 1), hL4, st_le [0, 0] (le_cons rfl (le_cons rfl (le_cons rfl (le_cons rfl (le_cons rfl (le_cons rfl (le_cons rfl (le_cons rfl le_nil)))))))) rfl sub_nil a w hs⟩
                      · replace hL4 := ite_f h4 hL4
                        refine c_exit0 ?_
                        cases hL4
                        refine s_st ?_ (hN4)
                        exact st_le [0, 0] (le_cons rfl (le_cons rfl (le_cons rfl (le_cons rfl (le_cons rfl (le_cons rfl (le_cons rfl (le_cons rfl (le_cons rfl le_nil))))))))) rfl sub_nil
                · refine sat_wc ?_
                  refine c_region ?_
                  refine o_v (v_move rfl) rfl ?_
                  refine o_v (v_move rfl) rfl ?_
                  refine o_v (v_move rfl) rfl ?_
                  refine o_v (v_build (v := .agg #[.int .i64 i, .int .i64 o4.1]) rfl (fun _ => by kernel_rfl)) rfl ?_
                  refine o_buildSlice (enc := eRun) ([(Run.mk i o4.1)] : List Run) [.int .i64 i, .int .i64 o4.1] sl43 rfl (fun _ => by kernel_rfl) rfl rfl rfl (.s rfl (.s rfl (.nil))) rfl fun sa4 sn4 sc4 => ?_
                  refine ite_some hL1 fun h5 hL1 => ?_
                  refine ite_some hL1 fun h6 hL1 => ?_
                  refine o_append (enc := eRun) (xs := out) (ys := ([(Run.mk i o4.1)] : List Run)) 2 sl43 rfl rfl rfl (.r 0 _ rfl) h5 h6 rfl fun sa5 sn5 sc5 => ?_
                  refine o_v (v_assign rfl) rfl ?_
                  refine o_nil ?_
                  refine s_st ?_ (hN2 (out ++ ([(Run.mk i o4.1)] : List Run)) t191 sa5 sn5 sc5 hL1)
                  exact st_le [1, 1] (le_cons rfl (le_cons rfl (le_cons rfl (le_cons rfl (le_cons rfl (le_cons rfl (le_cons rfl le_nil))))))) rfl sub_nil
          · intro out1 t19 sa3 sn3 sc3 hL1
            unfold F.ref01.Runs_j2 at hL1
            refine sat_wc ?_
            refine c_region ?_
            refine o_v (v_move rfl) rfl ?_
            refine o_v (v_bin rfl rfl rfl) rfl ?_
            refine o_v (v_assign rfl) rfl ?_
            refine o_nil ?_
            intro a w hs
            exact ⟨j, Nat.lt_succ_self j, out1, IntKind.wrap .i64 (i + 1), sa3, sn3, sc3, hL1, st_le [0, 0] (le_cons rfl (le_cons rfl (le_cons rfl (le_cons rfl (le_cons rfl le_nil))))) rfl sub_nil a w hs⟩
        · replace hL1 := ite_f h1 hL1
          refine c_exit0 ?_
          cases hL1
          refine s_st ?_ (hN1 sa1 sn1 sc1)
          exact st_le [1] (le_cons rfl (le_cons rfl (le_cons rfl le_nil))) rfl sub_nil
  · intro sa2 sn2 sc2
    refine sat_wc ?_
    refine c_seq ?_
    refine c_region ?_
    refine o_v (v_move rfl) rfl ?_
    refine o_v (v_assign rfl) rfl ?_
    refine o_seq ?_
    refine c_ret ?_
    cases hF
    refine s_ret1 rfl (r_tmp rfl) fun a w hs => ?_
    exact fin_sel hs [0] ⟨sa2, sn2, sc2, rfl, rfl, rfl⟩ rfl sub_nil
theorem tri44 (n : Int) (r : Int) (hF : F.ref01.special n = some r) :
    Tri Try.prog 44 [.int .i64 n] [] [] (fun o H Φ => o = .ret (.int .u8 r) ∧ H = [] ∧ Φ = []) := by
  unfold F.ref01.special at hF
  refine tri_intro (n := 20) Try.func44 rfl Try.ntmps44 rfl fun w X => ?_
  refine c_seq ?_
  refine c_region ?_
  refine o_v (v_assign rfl) rfl ?_
  refine o_seq ?_
  refine c_seq ?_
  refine c_seq ?_
  refine c_region ?_
  refine o_v (v_move rfl) rfl ?_
  refine o_seq ?_
  refine c_block ?_
  refine c_seq ?_
  refine c_region ?_
  refine o_v (v_bin rfl rfl rfl) rfl ?_
  refine o_v (v_assign rfl) rfl ?_
  refine o_seq ?_
  refine c_cond rfl (fun h1 => ?_) (fun h1 => ?_)
  · replace hF := ite_t h1 hF
    refine c_seq ?_
    refine c_region ?_
    refine o_v (v_assign rfl) rfl ?_
    refine o_seq ?_
    refine c_ret ?_
    cases hF
    refine s_ret1 rfl (r_tmp rfl) fun a w hs => ?_
    exact fin_sel hs [] ⟨rfl, rfl, rfl⟩ rfl sub_nil
  · replace hF := ite_f h1 hF
    refine c_seq ?_
    refine c_region ?_
    refine o_v (v_bin rfl rfl rfl) rfl ?_
    refine o_v (v_assign rfl) rfl ?_
    refine o_seq ?_
    refine c_cond rfl (fun h2 => ?_) (fun h2 => ?_)
    · replace hF := ite_t h2 hF
      refine c_seq ?_
      refine c_region ?_
      refine o_v (v_assign rfl) rfl ?_
      refine o_seq ?_
      refine c_ret ?_
      cases hF
      refine s_ret1 rfl (r_tmp rfl) fun a w hs => ?_
      exact fin_sel hs [] ⟨rfl, rfl, rfl⟩ rfl sub_nil
    · replace hF := ite_f h2 hF
      refine c_seq ?_
      refine c_region ?_
      refine o_v (v_bin rfl rfl rfl) rfl ?_
      refine o_v (v_assign rfl) rfl ?_
      refine o_seq ?_
      refine c_cond rfl (fun h3 => ?_) (fun h3 => ?_)
      · replace hF := ite_t h3 hF
        refine c_seq ?_
        refine c_region ?_
        refine o_v (v_assign rfl) rfl ?_
        refine o_seq ?_
        refine c_ret ?_
        cases hF
        refine s_ret1 rfl (r_tmp rfl) fun a w hs => ?_
        exact fin_sel hs [] ⟨rfl, rfl, rfl⟩ rfl sub_nil
      · replace hF := ite_f h3 hF
        refine c_seq ?_
        refine c_region ?_
        refine o_v (v_bin rfl rfl rfl) rfl ?_
        refine o_v (v_assign rfl) rfl ?_
        refine o_seq ?_
        refine c_cond rfl (fun h4 => ?_) (fun h4 => ?_)
        · replace hF := ite_t h4 hF
          refine c_seq ?_
          refine c_region ?_
          refine o_v (v_assign rfl) rfl ?_
          refine o_seq ?_
          refine c_ret ?_
          cases hF
          refine s_ret1 rfl (r_tmp rfl) fun a w hs => ?_
          exact fin_sel hs [] ⟨rfl, rfl, rfl⟩ rfl sub_nil
        · replace hF := ite_f h4 hF
          refine c_seq ?_
          refine c_seq ?_
          refine c_region ?_
          refine o_v (v_bin rfl rfl rfl) rfl ?_
          refine o_v (v_assign rfl) rfl ?_
          refine o_seq ?_
          refine c_cut (fun E N' => ∀ (t12 : Bool), F.ref01.special_j1 n t12 = some r → Sat E [(0, .int .i64 n), (2, .int .u8 0), (3, .int .i64 n), (4, .bool (n == 10)), (6, .bool (n == 9)), (8, .bool (n == 13)), (10, .bool (n == 32)), (12, .bool t12)] [] [] N') (fun N1 hN1 => ?_) ?_
          · refine c_cond rfl (fun h6 => ?_) (fun h6 => ?_)
            · replace hF := ite_t h6 hF
              refine c_skip ?_
              refine s_st ?_ (hN1 (n == 91) hF)
              exact st_le [] (le_cons rfl (le_cons rfl (le_cons rfl (le_cons rfl (le_cons rfl (le_cons rfl (le_cons rfl (le_cons rfl le_nil)))))))) rfl sub_nil
            · replace hF := ite_f h6 hF
              refine c_seq ?_
              refine c_region ?_
              refine o_v (v_bin rfl rfl rfl) rfl ?_
              refine o_v (v_assign rfl) rfl ?_
              refine o_seq ?_
              refine c_cond rfl (fun h7 => ?_) (fun h7 => ?_)
              · replace hF := ite_t h7 hF
                refine c_skip ?_
                refine s_st ?_ (hN1 (n == 93) hF)
                exact st_le [] (le_cons rfl (le_cons rfl (le_cons rfl (le_cons rfl (le_cons rfl (le_cons rfl (le_cons rfl (le_cons rfl le_nil)))))))) rfl sub_nil
              · replace hF := ite_f h7 hF
                refine c_seq ?_
                refine c_region ?_
                refine o_v (v_bin rfl rfl rfl) rfl ?_
                refine o_v (v_assign rfl) rfl ?_
                refine o_seq ?_
                refine c_cut (fun E N' => ∀ (t121 : Bool), F.ref01.special_j2 n t121 = some r → Sat E [(0, .int .i64 n), (2, .int .u8 0), (3, .int .i64 n), (4, .bool (n == 10)), (6, .bool (n == 9)), (8, .bool (n == 13)), (10, .bool (n == 32)), (12, .bool t121)] [] [] N') (fun N2 hN2 => ?_) ?_
                · refine c_cond rfl (fun h8 => ?_) (fun h8 => ?_)
                  · replace hF := ite_t h8 hF
                    refine c_skip ?_
                    refine s_st ?_ (hN2 (n == 92) hF)
                    exact st_le [] (le_cons rfl (le_cons rfl (le_cons rfl (le_cons rfl (le_cons rfl (le_cons rfl (le_cons rfl (le_cons rfl le_nil)))))))) rfl sub_nil
                  · replace hF := ite_f h8 hF
                    refine c_seq ?_
                    refine c_region ?_
                    refine o_v (v_bin rfl rfl rfl) rfl ?_
                    refine o_v (v_assign rfl) rfl ?_
                    refine o_seq ?_
                    refine c_cond rfl (fun h9 => ?_) (fun h9 => ?_)
                    · replace hF := ite_t h9 hF
                      refine c_skip ?_
                      refine s_st ?_ (hN2 (n == 45) hF)
                      exact st_le [] (le_cons rfl (le_cons rfl (le_cons rfl (le_cons rfl (le_cons rfl (le_cons rfl (le_cons rfl (le_cons rfl le_nil)))))))) rfl sub_nil
                    · replace hF := ite_f h9 hF
                      refine c_region ?_
                      refine o_v (v_bin rfl rfl rfl) rfl ?_
                      refine o_v (v_assign rfl) rfl ?_
                      refine o_nil ?_
                      refine s_st ?_ (hN2 (n == 94) hF)
                      exact st_le [] (le_cons rfl (le_cons rfl (le_cons rfl (le_cons rfl (le_cons rfl (le_cons rfl (le_cons rfl (le_cons rfl le_nil)))))))) rfl sub_nil
                · intro t121 hF
                  unfold F.ref01.special_j2 at hF
                  refine s_st ?_ (hN1 t121 hF)
                  exact st_le [] (le_cons rfl (le_cons rfl (le_cons rfl (le_cons rfl (le_cons rfl (le_cons rfl (le_cons rfl (le_cons rfl le_nil)))))))) rfl sub_nil
          · intro t12 hF
            unfold F.ref01.special_j1 at hF
            refine sat_wc ?_
            refine c_cond rfl (fun h5 => ?_) (fun h5 => ?_)
            · replace hF := ite_t h5 hF
              refine c_seq ?_
              refine c_region ?_
              refine o_v (v_move rfl) rfl ?_
              refine o_v (v_convert (v := .int .u8 (IntKind.wrap .u8 n)) rfl (fun _ => by kernel_rfl)) rfl ?_
              refine o_v (v_assign rfl) rfl ?_
              refine o_seq ?_
              refine c_ret ?_
              cases hF
              refine s_ret1 rfl (r_tmp rfl) fun a w hs => ?_
              exact fin_sel hs [] ⟨rfl, rfl, rfl⟩ rfl sub_nil
            · replace hF := ite_f h5 hF
              refine c_skip ?_
              refine sat_wc ?_
              refine c_seq ?_
              refine c_region ?_
              refine o_v (v_assign rfl) rfl ?_
              refine o_seq ?_
              refine c_ret ?_
              cases hF
              refine s_ret1 rfl (r_tmp rfl) fun a w hs => ?_
              exact fin_sel hs [] ⟨rfl, rfl, rfl⟩ rfl sub_nil
theorem tri39 (n : Int) (r : List UInt8) (hF : F.ref01.Sign n = some r) :
    Tri Try.prog 39 [.int .i64 n] [] [] (fun o H Φ => o = .ret (.string (bs r)) ∧ H = [] ∧ Φ = []) := by
  unfold F.ref01.Sign at hF
  refine tri_intro (n := 35) Try.func39 rfl Try.ntmps39 rfl fun w X => ?_
  refine c_seq ?_
  refine c_region ?_
  refine o_v (v_assign rfl) rfl ?_
  refine o_seq ?_
  refine c_seq ?_
  refine c_region ?_
  refine o_v (v_move rfl) rfl ?_
  obtain ⟨v, h1, hF⟩ := bd hF
  refine o_callSB call44 rfl lent_nil (tri44 n v h1) rfl ?_
  refine o_v (v_assign rfl) rfl ?_
  refine o_seq ?_
  refine c_seq ?_
  refine c_seq ?_
  refine c_region ?_
  refine o_v (v_move rfl) rfl ?_
  refine o_v (v_bin rfl rfl rfl) rfl ?_
  refine o_seq ?_
  refine c_cond rfl (fun h2 => ?_) (fun h2 => ?_)
  · replace hF := ite_t h2 hF
    refine c_seq ?_
    refine c_region ?_
    refine o_v (v_move rfl) rfl ?_
    refine o_buildSlice (enc := eU8) ([92, v] : List Int) [.int .u8 92, .int .u8 v] sl22 rfl (fun _ => by kernel_rfl) rfl rfl rfl (.s rfl (.s rfl (.nil))) rfl fun sa1 sn1 sc1 => ?_
    refine o_v (v_bytesStr sl22 Try.underlying5 Try.underlying9 rfl (.r 0 _ rfl)) rfl ?_
    refine o_v (v_assign rfl) rfl ?_
    refine o_seq ?_
    refine c_ret ?_
    cases hF
    refine s_ret1 rfl (r_tmp rfl) fun a w hs => ?_
    exact fin_sel hs [] ⟨rfl, rfl, rfl⟩ rfl sub_nil
  · replace hF := ite_f h2 hF
    refine c_skip ?_
    refine sat_wc ?_
    refine c_seq ?_
    refine c_seq ?_
    refine c_cut (fun E N' => ∀ (t16 : Bool), F.ref01.Sign_j1 n t16 = some r → Sat E [(0, .int .i64 n), (2, .string (bs ([] : List UInt8))), (3, .int .u8 v), (7, .bool (v != 0)), (16, .bool t16)] [] [] N') (fun N1 hN1 => ?_) ?_
    · refine c_region ?_
      refine o_v (v_move rfl) rfl ?_
      refine o_v (v_bin rfl rfl rfl) rfl ?_
      refine o_v (v_move rfl) rfl ?_
      refine o_split (t := 13) rfl (fun h8 => ?_) (fun h8 => ?_)
      · replace hF := ite_t h8 hF
        refine o_on rfl rfl ?_
        refine o_v (v_move rfl) rfl ?_
        refine o_on rfl rfl ?_
        refine o_v (v_bin rfl rfl rfl) rfl ?_
        refine o_v (v_pick_t rfl rfl) rfl ?_
        refine o_nil ?_
        refine s_st ?_ (hN1 (decide (n < 127)) hF)
        exact st_le [] (le_cons rfl (le_cons rfl (le_cons rfl (le_cons rfl (le_cons rfl le_nil))))) rfl sub_nil
      · replace hF := ite_f h8 hF
        refine o_off rfl rfl (by decide) rfl ?_
        refine o_off rfl rfl (by decide) rfl ?_
        refine o_v (v_pick_f rfl rfl) rfl ?_
        refine o_nil ?_
        refine s_st ?_ (hN1 false hF)
        exact st_le [] (le_cons rfl (le_cons rfl (le_cons rfl (le_cons rfl (le_cons rfl le_nil))))) rfl sub_nil
    · intro t16 hF
      unfold F.ref01.Sign_j1 at hF
      refine sat_wc ?_
      refine c_cond rfl (fun h3 => ?_) (fun h3 => ?_)
      · replace hF := ite_t h3 hF
        refine c_seq ?_
        refine c_region ?_
        refine o_v (v_move rfl) rfl ?_
        refine o_v (v_convert (v := .int .u8 (IntKind.wrap .u8 n)) rfl (fun _ => by kernel_rfl)) rfl ?_
        refine o_buildSlice (enc := eU8) ([IntKind.wrap .u8 n] : List Int) [.int .u8 (IntKind.wrap .u8 n)] sl22 rfl (fun _ => by kernel_rfl) rfl rfl rfl (.s rfl (.nil)) rfl fun sa2 sn2 sc2 => ?_
        refine o_v (v_bytesStr sl22 Try.underlying5 Try.underlying9 rfl (.r 0 _ rfl)) rfl ?_
        refine o_v (v_assign rfl) rfl ?_
        refine o_seq ?_
        refine c_ret ?_
        cases hF
        refine s_ret1 rfl (r_tmp rfl) fun a w hs => ?_
        exact fin_sel hs [] ⟨rfl, rfl, rfl⟩ rfl sub_nil
      · replace hF := ite_f h3 hF
        refine c_skip ?_
        refine sat_wc ?_
        refine c_seq ?_
        refine c_seq ?_
        refine c_region ?_
        refine o_v (v_move rfl) rfl ?_
        refine o_v (v_bin rfl rfl rfl) rfl ?_
        refine o_v (v_move rfl) rfl ?_
        refine o_split (t := 23) rfl (fun h4 => ?_) (fun h4 => ?_)
        · replace hF := ite_t h4 hF
          refine o_off rfl rfl (by decide) rfl ?_
          refine o_off rfl rfl (by decide) rfl ?_
          refine o_v (v_pick_t rfl rfl) rfl ?_
          refine o_seq ?_
          refine c_cond rfl (fun _ => ?_) (fun h => Bool.noConfusion h)
          refine c_seq ?_
          refine c_region ?_
          refine o_v (v_assign rfl) rfl ?_
          refine o_seq ?_
          refine c_ret ?_
          cases hF
          refine s_ret1 rfl (r_tmp rfl) fun a w hs => ?_
          exact fin_sel hs [] ⟨rfl, rfl, rfl⟩ rfl sub_nil
        · replace hF := ite_f h4 hF
          refine o_on rfl rfl ?_
          refine o_v (v_move rfl) rfl ?_
          refine o_on rfl rfl ?_
          refine o_v (v_bin rfl rfl rfl) rfl ?_
          refine o_v (v_pick_f rfl rfl) rfl ?_
          refine o_seq ?_
          refine c_cond rfl (fun h5 => ?_) (fun h5 => ?_)
          · replace hF := ite_t h5 hF
            refine c_seq ?_
            refine c_region ?_
            refine o_v (v_assign rfl) rfl ?_
            refine o_seq ?_
            refine c_ret ?_
            cases hF
            refine s_ret1 rfl (r_tmp rfl) fun a w hs => ?_
            exact fin_sel hs [] ⟨rfl, rfl, rfl⟩ rfl sub_nil
          · replace hF := ite_f h5 hF
            refine c_skip ?_
            refine sat_wc ?_
            refine c_seq ?_
            refine c_draw (n := 9) [] mixed rfl rfl ?_
            refine d_val 0 rfl pnok (by kernel_rfl) (by kernel_rfl) (by kernel_rfl) rfl (v_move rfl) ?_
            refine d_val 1 rfl pnok (by kernel_rfl) (by kernel_rfl) (by kernel_rfl) rfl (v_quo rfl rfl rfl) ?_
            refine ite_some hF fun h6 hF => ?_
            refine d_val 2 rfl pnok (by kernel_rfl) (by kernel_rfl) (by kernel_rfl) rfl (v_sindex Try.underlying9 rfl rfl h6) ?_
            refine d_val 3 rfl pnok (by kernel_rfl) (by kernel_rfl) (by kernel_rfl) rfl (v_move rfl) ?_
            refine d_val 4 rfl pnok (by kernel_rfl) (by kernel_rfl) (by kernel_rfl) rfl (v_rem rfl rfl rfl) ?_
            refine ite_some hF fun h7 hF => ?_
            refine d_val 5 rfl pnok (by kernel_rfl) (by kernel_rfl) (by kernel_rfl) rfl (v_sindex Try.underlying9 rfl rfl h7) ?_
            refine d_one 6 rfl (by kernel_rfl) ?_
            refine o_buildSlice (enc := eU8) ([92, 120, sAt ([48, 49, 50, 51, 52, 53, 54, 55, 56, 57, 97, 98, 99, 100, 101, 102] : List UInt8) (gquo .i64 n 16), sAt ([48, 49, 50, 51, 52, 53, 54, 55, 56, 57, 97, 98, 99, 100, 101, 102] : List UInt8) (grem n 16)] : List Int) [.int .u8 92, .int .u8 120, .int .u8 (sAt ([48, 49, 50, 51, 52, 53, 54, 55, 56, 57, 97, 98, 99, 100, 101, 102] : List UInt8) (gquo .i64 n 16)), .int .u8 (sAt ([48, 49, 50, 51, 52, 53, 54, 55, 56, 57, 97, 98, 99, 100, 101, 102] : List UInt8) (grem n 16))] sl22 rfl (fun _ => by kernel_rfl) rfl rfl rfl (.s rfl (.s rfl (.s rfl (.s rfl (.nil))))) rfl fun sa3 sn3 sc3 => ?_
            refine d_next [] 0 rfl rfl ?_
            refine d_one 7 rfl (by kernel_rfl) ?_
            refine o_v (v_bytesStr sl22 Try.underlying5 Try.underlying9 rfl (.r 0 _ rfl)) rfl ?_
            refine d_next [] 0 rfl rfl ?_
            refine d_val 8 rfl pnok (by kernel_rfl) (by kernel_rfl) (by kernel_rfl) rfl (v_assign rfl) ?_
            refine d_done_seq (by kernel_rfl) ?_
            refine c_ret ?_
            cases hF
            refine s_ret1 rfl (r_tmp rfl) fun a w hs => ?_
            exact fin_sel hs [] ⟨rfl, rfl, rfl⟩ rfl sub_nil
theorem tri20 (k : Nat) (s : S4) (r : List UInt8) (hF : F.ref01.Print k s = some r) :
    Tri Try.prog 20 [.agg #[.int .u64 s.w0, .int .u64 s.w1, .int .u64 s.w2, .int .u64 s.w3]] [] [] (fun o H Φ => o = .ret (.string (bs r)) ∧ H = [] ∧ Φ = []) := by
  unfold F.ref01.Print at hF
  refine tri_intro (n := 57) Try.func20 rfl Try.ntmps20 rfl fun w X => ?_
  refine c_seq ?_
  refine c_region ?_
  refine o_box rfl rfl rfl fun b => ?_
  refine o_v (v_assign rfl) rfl ?_
  refine o_seq ?_
  refine c_seq ?_
  refine c_region ?_
  refine o_v (v_assign rfl) rfl ?_
  refine o_seq ?_
  refine c_seq ?_
  refine c_region ?_
  refine o_v (v_load_box 0 ty26 rfl rfl rfl rfl rfl) rfl ?_
  obtain ⟨v, h1, hF⟩ := bd hF
  refine o_call0 call28 rfl sub_nil (tri28 k s v h1) rfl ?_
  rintro _ _ _ ⟨sa1, sn1, sc1, rfl, rfl, rfl⟩
  refine o_v (v_assign rfl) rfl ?_
  refine o_seq ?_
  refine c_seq ?_
  refine c_seq ?_
  refine c_region ?_
  refine o_v (v_assign rfl) rfl ?_
  refine o_seq ?_
  obtain ⟨o1, ho1, hF⟩ := bd hF
  refine c_cut (fun E N' => Sat E [(0, .agg #[.int .u64 s.w0, .int .u64 s.w1, .int .u64 s.w2, .int .u64 s.w3]), (1, .pointer (some ⟨b, 0, none⟩)), (2, .string (bs ([] : List UInt8))), (3, .string (bs o1))] [.box b 26 [.int .u64 s.w0, .int .u64 s.w1, .int .u64 s.w2, .int .u64 s.w3]] [] N') (fun N1 hN1 => ?_) ?_
  · refine c_block ?_
    refine c_loopE (fun E j a w => ∃ (out : List UInt8) (i : Int), F.ref01.Print_l1 v j out i = some o1 ∧ St E [(0, .agg #[.int .u64 s.w0, .int .u64 s.w1, .int .u64 s.w2, .int .u64 s.w3]), (1, .pointer (some ⟨b, 0, none⟩)), (2, .string (bs ([] : List UInt8))), (3, .string (bs out)), (4, .slice sa1 sn1 sc1), (5, .int .i64 i)] [.box b 26 [.int .u64 s.w0, .int .u64 s.w1, .int .u64 s.w2, .int .u64 s.w3], .row (.slice sa1 sn1 sc1) 48 2 (v.map eRun)] [] a w) k ?_ ?_
    · intro a w hs
      exact ⟨([91] : List UInt8), 0, ho1, st_le [1, 0] (le_cons rfl (le_cons rfl (le_cons rfl (le_cons rfl (le_cons rfl (le_cons rfl le_nil)))))) rfl sub_nil a w hs⟩
    · rintro j a w ⟨out, i, hL1, hs⟩
      cases j with
      | zero => cases hL1
      | succ j =>
        refine wc_app hs ?_
        unfold F.ref01.Print_l1 at hL1
        refine c_seq ?_
        refine c_seq ?_
        refine c_region ?_
        refine o_v (v_move rfl) rfl ?_
        refine o_v (v_move rfl) rfl ?_
        refine o_v (v_lenS (enc := eRun) v sl43 rfl (.r 1 _ rfl)) rfl ?_
        refine o_v (v_bin rfl rfl rfl) rfl ?_
        refine o_seq ?_
        refine c_cond rfl (fun h2 => ?_) (fun h2 => ?_)
        · replace hL1 := ite_t h2 hL1
          refine c_skip ?_
          refine sat_wc ?_
          refine c_seq ?_
          refine c_cut (fun E N' => ∀ (out1 : List UInt8), F.ref01.Print_j2 (F.ref01.Print_l1 v j) i out1 = some o1 → Sat E [(0, .agg #[.int .u64 s.w0, .int .u64 s.w1, .int .u64 s.w2, .int .u64 s.w3]), (1, .pointer (some ⟨b, 0, none⟩)), (2, .string (bs ([] : List UInt8))), (3, .string (bs out1)), (4, .slice sa1 sn1 sc1), (5, .int .i64 i), (11, .bool (decide (i < (v.length : Int)))), (33, .bool (decide (2 ≤ (IntKind.wrap .i64 (((at_ v i).Hi) - ((at_ v i).Lo)))))), (46, .bool (((at_ v i).Hi) != ((at_ v i).Lo)))] [.box b 26 [.int .u64 s.w0, .int .u64 s.w1, .int .u64 s.w2, .int .u64 s.w3], .row (.slice sa1 sn1 sc1) 48 2 (v.map eRun)] [] N') (fun N2 hN2 => ?_) ?_
          · refine c_block ?_
            refine c_seq ?_
            refine c_region ?_
            refine o_v (v_move rfl) rfl ?_
            refine o_v (v_move rfl) rfl ?_
            refine o_v (v_move rfl) rfl ?_
            refine ite_some hL1 fun h3 hL1 => ?_
            refine o_v (v_indexAddr_s (xs := v) (enc := eRun) sl43 rfl rfl (.r 1 _ rfl) h3) rfl ?_
            refine o_v (v_fieldAddr (v := .pointer (some ⟨blkA sa1, offA sa1 + (i.toNat * 2 + 0), none⟩)) rfl (fun _ => by kernel_rfl)) rfl ?_
            refine o_v (v_load_s (xs := v) (enc := eRun) ty3 rfl (.r 1 _ rfl) h3 rfl rfl rfl rfl rfl rfl rfl) rfl ?_
            obtain ⟨v1, h4, hL1⟩ := bd hL1
            refine o_callSB call39 rfl lent_nil (tri39 ((at_ v i).Lo) v1 h4) rfl ?_
            refine ite_some hL1 fun h5 hL1 => ?_
            refine o_v (v_strcat rfl rfl h5) rfl ?_
            refine o_v (v_assign rfl) rfl ?_
            refine o_seq ?_
            refine c_seq ?_
            refine c_seq ?_
            refine c_draw (n := 12) [0, 0] mixed rfl rfl ?_
            refine d_val 0 rfl pnok (by kernel_rfl) (by kernel_rfl) (by kernel_rfl) rfl (v_move rfl) ?_
            refine d_val 1 rfl pnok (by kernel_rfl) (by kernel_rfl) (by kernel_rfl) rfl (v_move rfl) ?_
            refine d_val 2 rfl pnok (by kernel_rfl) (by kernel_rfl) (by kernel_rfl) rfl (v_indexAddr_s (xs := v) (enc := eRun) sl43 rfl rfl (.r 1 _ rfl) h3) ?_
            refine d_val 3 rfl pnok (by kernel_rfl) (by kernel_rfl) (by kernel_rfl) rfl (v_fieldAddr (v := .pointer (some ⟨blkA sa1, offA sa1 + (i.toNat * 2 + 1), none⟩)) rfl (fun _ => by kernel_rfl)) ?_
            refine d_val 4 rfl pnok (by kernel_rfl) (by kernel_rfl) (by kernel_rfl) rfl (v_load_s (xs := v) (enc := eRun) ty3 rfl (.r 1 _ rfl) h3 rfl rfl rfl rfl rfl rfl rfl) ?_
            refine d_val 5 rfl pnok (by kernel_rfl) (by kernel_rfl) (by kernel_rfl) rfl (v_move rfl) ?_
            refine d_val 6 rfl pnok (by kernel_rfl) (by kernel_rfl) (by kernel_rfl) rfl (v_move rfl) ?_
            refine d_val 7 rfl pnok (by kernel_rfl) (by kernel_rfl) (by kernel_rfl) rfl (v_indexAddr_s (xs := v) (enc := eRun) sl43 rfl rfl (.r 1 _ rfl) h3) ?_
            refine d_val 8 rfl pnok (by kernel_rfl) (by kernel_rfl) (by kernel_rfl) rfl (v_fieldAddr (v := .pointer (some ⟨blkA sa1, offA sa1 + (i.toNat * 2 + 0), none⟩)) rfl (fun _ => by kernel_rfl)) ?_
            refine d_val 9 rfl pnok (by kernel_rfl) (by kernel_rfl) (by kernel_rfl) rfl (v_load_s (xs := v) (enc := eRun) ty3 rfl (.r 1 _ rfl) h3 rfl rfl rfl rfl rfl rfl rfl) ?_
            refine d_val 10 rfl pnok (by kernel_rfl) (by kernel_rfl) (by kernel_rfl) rfl (v_bin rfl rfl rfl) ?_
            refine d_val 11 rfl pnok (by kernel_rfl) (by kernel_rfl) (by kernel_rfl) rfl (v_bin rfl rfl rfl) ?_
            refine d_done_seq (by kernel_rfl) ?_
            refine c_cut (fun E N' => ∀ (out2 : List UInt8), F.ref01.Print_j3 v i (F.ref01.Print_l1 v j) out2 = some o1 → Sat E [(0, .agg #[.int .u64 s.w0, .int .u64 s.w1, .int .u64 s.w2, .int .u64 s.w3]), (1, .pointer (some ⟨b, 0, none⟩)), (2, .string (bs ([] : List UInt8))), (3, .string (bs out2)), (4, .slice sa1 sn1 sc1), (5, .int .i64 i), (11, .bool (decide (i < (v.length : Int)))), (33, .bool (decide (2 ≤ (IntKind.wrap .i64 (((at_ v i).Hi) - ((at_ v i).Lo))))))] [.box b 26 [.int .u64 s.w0, .int .u64 s.w1, .int .u64 s.w2, .int .u64 s.w3], .row (.slice sa1 sn1 sc1) 48 2 (v.map eRun)] [] N') (fun N4 hN4 => ?_) ?_
            · refine c_cond rfl (fun h9 => ?_) (fun h9 => ?_)
              · replace hL1 := ite_t h9 hL1
                refine c_region ?_
                refine o_v (v_move rfl) rfl ?_
                refine ite_some hL1 fun h10 hL1 => ?_
                refine o_v (v_strcat rfl rfl h10) rfl ?_
                refine o_v (v_assign rfl) rfl ?_
                refine o_nil ?_
                refine s_st ?_ (hN4 ((out ++ v1) ++ ([45] : List UInt8)) hL1)
                exact st_le [0, 0] (le_cons rfl (le_cons rfl (le_cons rfl (le_cons rfl (le_cons rfl (le_cons rfl (le_cons rfl (le_cons rfl le_nil)))))))) rfl sub_nil
              · replace hL1 := ite_f h9 hL1
                refine c_skip ?_
                refine s_st ?_ (hN4 (out ++ v1) hL1)
                exact st_le [0, 0] (le_cons rfl (le_cons rfl (le_cons rfl (le_cons rfl (le_cons rfl (le_cons rfl (le_cons rfl (le_cons rfl le_nil)))))))) rfl sub_nil
            · intro out2 hL1
              unfold F.ref01.Print_j3 at hL1
              refine sat_wc ?_
              refine c_seq ?_
              refine c_draw (n := 11) [0, 0] mixed rfl rfl ?_
              refine d_val 0 rfl pnok (by kernel_rfl) (by kernel_rfl) (by kernel_rfl) rfl (v_move rfl) ?_
              refine d_val 1 rfl pnok (by kernel_rfl) (by kernel_rfl) (by kernel_rfl) rfl (v_move rfl) ?_
              refine d_val 2 rfl pnok (by kernel_rfl) (by kernel_rfl) (by kernel_rfl) rfl (v_indexAddr_s (xs := v) (enc := eRun) sl43 rfl rfl (.r 1 _ rfl) h3) ?_
              refine d_val 3 rfl pnok (by kernel_rfl) (by kernel_rfl) (by kernel_rfl) rfl (v_fieldAddr (v := .pointer (some ⟨blkA sa1, offA sa1 + (i.toNat * 2 + 1), none⟩)) rfl (fun _ => by kernel_rfl)) ?_
              refine d_val 4 rfl pnok (by kernel_rfl) (by kernel_rfl) (by kernel_rfl) rfl (v_load_s (xs := v) (enc := eRun) ty3 rfl (.r 1 _ rfl) h3 rfl rfl rfl rfl rfl rfl rfl) ?_
              refine d_val 5 rfl pnok (by kernel_rfl) (by kernel_rfl) (by kernel_rfl) rfl (v_move rfl) ?_
              refine d_val 6 rfl pnok (by kernel_rfl) (by kernel_rfl) (by kernel_rfl) rfl (v_move rfl) ?_
              refine d_val 7 rfl pnok (by kernel_rfl) (by kernel_rfl) (by kernel_rfl) rfl (v_indexAddr_s (xs := v) (enc := eRun) sl43 rfl rfl (.r 1 _ rfl) h3) ?_
              refine d_val 8 rfl pnok (by kernel_rfl) (by kernel_rfl) (by kernel_rfl) rfl (v_fieldAddr (v := .pointer (some ⟨blkA sa1, offA sa1 + (i.toNat * 2 + 0), none⟩)) rfl (fun _ => by kernel_rfl)) ?_
              refine d_val 9 rfl pnok (by kernel_rfl) (by kernel_rfl) (by kernel_rfl) rfl (v_load_s (xs := v) (enc := eRun) ty3 rfl (.r 1 _ rfl) h3 rfl rfl rfl rfl rfl rfl rfl) ?_
              refine d_val 10 rfl pnok (by kernel_rfl) (by kernel_rfl) (by kernel_rfl) rfl (v_bin rfl rfl rfl) ?_
              refine d_done_seq (by kernel_rfl) ?_
              refine c_cut (fun E N' => ∀ (out3 : List UInt8), F.ref01.Print_j4 (F.ref01.Print_l1 v j) i out3 = some o1 → Sat E [(0, .agg #[.int .u64 s.w0, .int .u64 s.w1, .int .u64 s.w2, .int .u64 s.w3]), (1, .pointer (some ⟨b, 0, none⟩)), (2, .string (bs ([] : List UInt8))), (3, .string (bs out3)), (4, .slice sa1 sn1 sc1), (5, .int .i64 i), (11, .bool (decide (i < (v.length : Int)))), (33, .bool (decide (2 ≤ (IntKind.wrap .i64 (((at_ v i).Hi) - ((at_ v i).Lo)))))), (46, .bool (((at_ v i).Hi) != ((at_ v i).Lo)))] [.box b 26 [.int .u64 s.w0, .int .u64 s.w1, .int .u64 s.w2, .int .u64 s.w3], .row (.slice sa1 sn1 sc1) 48 2 (v.map eRun)] [] N') (fun N4 hN4 => ?_) ?_
              · refine c_cond rfl (fun h6 => ?_) (fun h6 => ?_)
                · replace hL1 := ite_t h6 hL1
                  refine c_region ?_
                  refine o_v (v_move rfl) rfl ?_
                  refine o_v (v_move rfl) rfl ?_
                  refine o_v (v_move rfl) rfl ?_
                  refine o_v (v_indexAddr_s (xs := v) (enc := eRun) sl43 rfl rfl (.r 1 _ rfl) h3) rfl ?_
                  refine o_v (v_fieldAddr (v := .pointer (some ⟨blkA sa1, offA sa1 + (i.toNat * 2 + 1), none⟩)) rfl (fun _ => by kernel_rfl)) rfl ?_
                  refine o_v (v_load_s (xs := v) (enc := eRun) ty3 rfl (.r 1 _ rfl) h3 rfl rfl rfl rfl rfl rfl rfl) rfl ?_
                  obtain ⟨v2, h7, hL1⟩ := bd hL1
                  refine o_callSB call39 rfl lent_nil (tri39 ((at_ v i).Hi) v2 h7) rfl ?_
                  refine ite_some hL1 fun h8 hL1 => ?_
                  refine o_v (v_strcat rfl rfl h8) rfl ?_
                  refine o_v (v_assign rfl) rfl ?_
                  refine o_nil ?_
                  refine s_st ?_ (hN4 (out2 ++ v2) hL1)
                  exact st_le [0, 0] (le_cons rfl (le_cons rfl (le_cons rfl (le_cons rfl (le_cons rfl (le_cons rfl (le_cons rfl (le_cons rfl (le_cons rfl le_nil))))))))) rfl sub_nil
                · replace hL1 := ite_f h6 hL1
                  refine c_skip ?_
                  refine s_st ?_ (hN4 out2 hL1)
                  exact st_le [0, 0] (le_cons rfl (le_cons rfl (le_cons rfl (le_cons rfl (le_cons rfl (le_cons rfl (le_cons rfl (le_cons rfl (le_cons rfl le_nil))))))))) rfl sub_nil
              · intro out3 hL1
                unfold F.ref01.Print_j4 at hL1
                refine s_st ?_ (hN2 out3 hL1)
                exact st_le [0, 0] (le_cons rfl (le_cons rfl (le_cons rfl (le_cons rfl (le_cons rfl (le_cons rfl (le_cons rfl (le_cons rfl (le_cons rfl le_nil))))))))) rfl sub_nil
          · intro out1 hL1
            unfold F.ref01.Print_j2 at hL1
            refine sat_wc ?_
            refine c_region ?_
            refine o_v (v_move rfl) rfl ?_
            refine o_v (v_bin rfl rfl rfl) rfl ?_
            refine o_v (v_assign rfl) rfl ?_
            refine o_nil ?_
            intro a w hs
            exact ⟨j, Nat.lt_succ_self j, out1, IntKind.wrap .i64 (i + 1), hL1, st_le [0, 0] (le_cons rfl (le_cons rfl (le_cons rfl (le_cons rfl (le_cons rfl (le_cons rfl le_nil)))))) rfl sub_nil a w hs⟩
        · replace hL1 := ite_f h2 hL1
          refine c_exit0 ?_
          cases hL1
          refine s_st ?_ (hN1)
          exact st_le [0] (le_cons rfl (le_cons rfl (le_cons rfl (le_cons rfl le_nil)))) rfl sub_nil
  · refine sat_wc ?_
    refine c_seq ?_
    refine c_region ?_
    refine o_v (v_move rfl) rfl ?_
    refine ite_some hF fun h11 hF => ?_
    refine o_v (v_strcat rfl rfl h11) rfl ?_
    refine o_v (v_assign rfl) rfl ?_
    refine o_seq ?_
    refine c_ret ?_
    cases hF
    refine s_ret1 rfl (r_tmp rfl) fun a w hs => ?_
    exact fin_sel hs [] ⟨rfl, rfl, rfl⟩ rfl sub_nil
theorem tri4 (k : Nat) (s : S4) (r : Bool) (hF : F.law01.CharsetPrints k s = some r) :
    Tri Try.prog 4 [.agg #[.int .u64 s.w0, .int .u64 s.w1, .int .u64 s.w2, .int .u64 s.w3]] [] [] (fun o H Φ => o = .ret (.bool r) ∧ H = [] ∧ Φ = []) := by
  unfold F.law01.CharsetPrints at hF
  refine tri_intro (n := 11) Try.func4 rfl Try.ntmps4 rfl fun w X => ?_
  refine c_seq ?_
  refine c_region ?_
  refine o_box rfl rfl rfl fun b => ?_
  refine o_v (v_assign rfl) rfl ?_
  refine o_seq ?_
  refine c_seq ?_
  refine c_draw (n := 9) [0] mixed rfl rfl ?_
  refine d_one 0 rfl (by kernel_rfl) ?_
  obtain ⟨v, h1, hF⟩ := bd hF
  refine o_callSB call12 rfl lent_nil (tri12 k v h1) rfl ?_
  refine d_next [0] 0 rfl rfl ?_
  refine d_val 1 rfl pnok (by kernel_rfl) (by kernel_rfl) (by kernel_rfl) rfl (v_move rfl) ?_
  refine d_split (t := 4) rfl (fun h2 => ?_) (fun h2 => ?_)
  · replace hF := ite_t h2 hF
    refine d_val_on 2 rfl rfl rfl pnok (by kernel_rfl) (by kernel_rfl) (by kernel_rfl) rfl (v_load_box 0 ty26 rfl rfl rfl rfl rfl) ?_
    refine d_val_on 4 rfl rfl rfl pnok (by kernel_rfl) (by kernel_rfl) (by kernel_rfl) rfl (v_load_box 0 ty26 rfl rfl rfl rfl rfl) ?_
    refine d_one 3 rfl (by kernel_rfl) ?_
    refine o_on rfl rfl ?_
    obtain ⟨v1, h3, hF⟩ := bd hF
    refine o_callSB call19 rfl lent_nil (tri19 k s v1 h3) rfl ?_
    refine d_next [0] 0 rfl rfl ?_
    refine d_one 5 rfl (by kernel_rfl) ?_
    refine o_on rfl rfl ?_
    obtain ⟨v2, h4, hF⟩ := bd hF
    refine o_callSB call20 rfl lent_nil (tri20 k s v2 h4) rfl ?_
    refine d_next [0] 0 rfl rfl ?_
    refine d_val_on 6 rfl rfl rfl pnok (by kernel_rfl) (by kernel_rfl) (by kernel_rfl) rfl (v_streq rfl rfl) ?_
    refine d_val 7 rfl pnok (by kernel_rfl) (by kernel_rfl) (by kernel_rfl) rfl (v_pick_t rfl rfl) ?_
    refine d_val 8 rfl pnok (by kernel_rfl) (by kernel_rfl) (by kernel_rfl) rfl (v_assign rfl) ?_
    refine d_done_seq (by kernel_rfl) ?_
    refine c_ret ?_
    cases hF
    refine s_ret1 rfl (r_tmp rfl) fun a w hs => ?_
    exact fin_sel hs [] ⟨rfl, rfl, rfl⟩ rfl sub_nil
  · replace hF := ite_f h2 hF
    refine d_off 2 rfl rfl rfl (by decide) pnok (by kernel_rfl) (by kernel_rfl) (by kernel_rfl) rfl ?_
    refine d_off 3 rfl rfl rfl (by decide) pnok (by kernel_rfl) (by kernel_rfl) (by kernel_rfl) rfl ?_
    refine d_off 4 rfl rfl rfl (by decide) pnok (by kernel_rfl) (by kernel_rfl) (by kernel_rfl) rfl ?_
    refine d_off 5 rfl rfl rfl (by decide) pnok (by kernel_rfl) (by kernel_rfl) (by kernel_rfl) rfl ?_
    refine d_off 6 rfl rfl rfl (by decide) pnok (by kernel_rfl) (by kernel_rfl) (by kernel_rfl) rfl ?_
    refine d_val 7 rfl pnok (by kernel_rfl) (by kernel_rfl) (by kernel_rfl) rfl (v_pick_f rfl rfl) ?_
    refine d_val 8 rfl pnok (by kernel_rfl) (by kernel_rfl) (by kernel_rfl) rfl (v_assign rfl) ?_
    refine d_done_seq (by kernel_rfl) ?_
    refine c_ret ?_
    cases hF
    refine s_ret1 rfl (r_tmp rfl) fun a w hs => ?_
    exact fin_sel hs [] ⟨rfl, rfl, rfl⟩ rfl sub_nil
theorem tri46 (k : Nat) (c : Int) (r : Int) (hF : F.ref01.Digit k c = some r) :
    Tri Try.prog 46 [.int .u8 c] [] [] (fun o H Φ => o = .ret (.int .i64 r) ∧ H = [] ∧ Φ = []) := by
  unfold F.ref01.Digit at hF
  refine tri_intro (n := 24) Try.func46 rfl Try.ntmps46 rfl fun w X => ?_
  refine c_seq ?_
  refine c_region ?_
  refine o_v (v_assign rfl) rfl ?_
  refine o_seq ?_
  refine c_seq ?_
  refine c_seq ?_
  refine c_region ?_
  refine o_v (v_assign rfl) rfl ?_
  refine o_seq ?_
  obtain ⟨o1, ho1, hF⟩ := bd hF
  refine c_cut (fun E N' => ∀ (d1 : Unit), o1 = .done d1 → Sat E [(2, .int .i64 0)] [] [] N') (fun N1 hN1 => ?_) ?_
  · refine c_block ?_
    refine c_loopE (fun E j a w => ∃ (i : Int), F.ref01.Digit_l1 c j i = some o1 ∧ St E [(0, .int .u8 c), (2, .int .i64 0), (3, .int .i64 i)] [] [] a w) k ?_ ?_
    · intro a w hs
      exact ⟨0, ho1, st_le [] (le_cons rfl (le_cons rfl (le_cons rfl le_nil))) rfl sub_nil a w hs⟩
    · rintro j a w ⟨i, hL1, hs⟩
      cases j with
      | zero => cases hL1
      | succ j =>
        refine wc_app hs ?_
        unfold F.ref01.Digit_l1 at hL1
        refine c_seq ?_
        refine c_seq ?_
        refine c_region ?_
        refine o_v (v_move rfl) rfl ?_
        refine o_v (v_bin rfl rfl rfl) rfl ?_
        refine o_seq ?_
        refine c_cond rfl (fun h1 => ?_) (fun h1 => ?_)
        · replace hL1 := ite_t h1 hL1
          refine c_skip ?_
          refine sat_wc ?_
          refine c_seq ?_
          refine c_cut (fun E N' => ∀ (t22 : Bool), F.ref01.Digit_j2 (F.ref01.Digit_l1 c j) i t22 = some o1 → Sat E [(0, .int .u8 c), (2, .int .i64 0), (3, .int .i64 i), (5, .bool (decide (i < 16))), (22, .bool t22)] [] [] N') (fun N2 hN2 => ?_) ?_
          · refine c_block ?_
            refine c_seq ?_
            refine c_region ?_
            refine o_v (v_move rfl) rfl ?_
            refine ite_some hL1 fun h2 hL1 => ?_
            refine o_v (v_sindex Try.underlying9 rfl rfl h2) rfl ?_
            refine o_v (v_move rfl) rfl ?_
            refine o_v (v_bin rfl rfl rfl) rfl ?_
            refine o_v (v_move rfl) rfl ?_
            refine o_split (t := 12) rfl (fun h3 => ?_) (fun h3 => ?_)
            · replace hL1 := ite_t h3 hL1
              refine o_off rfl rfl (by decide) rfl ?_
              refine o_off rfl rfl (by decide) rfl ?_
              refine o_off rfl rfl (by decide) rfl ?_
              refine o_offU rfl rfl rfl ?_
              refine o_offU rfl rfl rfl ?_
              refine o_offU rfl rfl rfl ?_
              refine o_offU rfl rfl rfl ?_
              refine o_offU rfl rfl rfl ?_
              refine o_off rfl rfl (by decide) rfl ?_
              refine o_v (v_pick_t rfl rfl) rfl ?_
              refine o_seq ?_
              refine c_cond rfl (fun _ => ?_) (fun h => Bool.noConfusion h)
              refine c_seq ?_
              refine c_region ?_
              refine o_v (v_move rfl) rfl ?_
              refine o_v (v_assign rfl) rfl ?_
              refine o_seq ?_
              refine c_ret ?_
              cases hL1
              obtain rfl := lrf_ret hF
              refine s_ret1 rfl (r_tmp rfl) fun a w hs => ?_
              exact fin_sel hs [] ⟨rfl, rfl, rfl⟩ rfl sub_nil
            · replace hL1 := ite_f h3 hL1
              refine o_on rfl rfl ?_
              refine o_v (v_move rfl) rfl ?_
              refine o_on rfl rfl ?_
              refine o_v (v_bin rfl rfl rfl) rfl ?_
              refine o_on rfl rfl ?_
              refine o_v (v_move rfl) rfl ?_
              refine o_split (t := 15) rfl (fun h4 => ?_) (fun h4 => ?_)
              · replace hL1 := ite_t h4 hL1
                refine o_on rfl rfl ?_
                refine o_v (v_move rfl) rfl ?_
                refine o_on rfl rfl ?_
                refine o_v (v_sindex Try.underlying9 rfl rfl h2) rfl ?_
                refine o_on rfl rfl ?_
                refine o_v (v_bin rfl rfl rfl) rfl ?_
                refine o_on rfl rfl ?_
                refine o_v (v_move rfl) rfl ?_
                refine o_on rfl rfl ?_
                refine o_v (v_bin rfl rfl rfl) rfl ?_
                refine o_on rfl rfl ?_
                refine o_v (v_pick_t rfl rfl) rfl ?_
                refine o_v (v_pick_f rfl rfl) rfl ?_
                refine o_seq ?_
                refine c_cond rfl (fun h5 => ?_) (fun h5 => ?_)
                · replace hL1 := ite_t h5 hL1
                  refine c_seq ?_
                  refine c_region ?_
                  refine o_v (v_move rfl) rfl ?_
                  refine o_v (v_assign rfl) rfl ?_
                  refine o_seq ?_
                  refine c_ret ?_
                  cases hL1
                  obtain rfl := lrf_ret hF
                  refine s_ret1 rfl (r_tmp rfl) fun a w hs => ?_
                  exact fin_sel hs [] ⟨rfl, rfl, rfl⟩ rfl sub_nil
                · replace hL1 := ite_f h5 hL1
                  refine c_skip ?_
                  refine s_st ?_ (hN2 ((IntKind.wrap .u8 ((sAt ([48, 49, 50, 51, 52, 53, 54, 55, 56, 57, 97, 98, 99, 100, 101, 102] : List UInt8) i) - 32)) == c) hL1)
                  exact st_le [] (le_cons rfl (le_cons rfl (le_cons rfl (le_cons rfl (le_cons rfl le_nil))))) rfl sub_nil
              · replace hL1 := ite_f h4 hL1
                refine o_off rfl rfl (by decide) rfl ?_
                refine o_off rfl rfl (by decide) rfl ?_
                refine o_off rfl rfl (by decide) rfl ?_
                refine o_off rfl rfl (by decide) rfl ?_
                refine o_off rfl rfl (by decide) rfl ?_
                refine o_on rfl rfl ?_
                refine o_v (v_pick_f rfl rfl) rfl ?_
                refine o_v (v_pick_f rfl rfl) rfl ?_
                refine o_seq ?_
                refine c_cond rfl (fun h => Bool.noConfusion h) (fun _ => ?_)
                refine c_skip ?_
                refine s_st ?_ (hN2 false hL1)
                exact st_le [] (le_cons rfl (le_cons rfl (le_cons rfl (le_cons rfl (le_cons rfl le_nil))))) rfl sub_nil
          · intro t22 hL1
            unfold F.ref01.Digit_j2 at hL1
            refine sat_wc ?_
            refine c_region ?_
            refine o_v (v_move rfl) rfl ?_
            refine o_v (v_bin rfl rfl rfl) rfl ?_
            refine o_v (v_assign rfl) rfl ?_
            refine o_nil ?_
            intro a w hs
            exact ⟨j, Nat.lt_succ_self j, IntKind.wrap .i64 (i + 1), hL1, st_le [] (le_cons rfl (le_cons rfl (le_cons rfl le_nil))) rfl sub_nil a w hs⟩
        · replace hL1 := ite_f h1 hL1
          refine c_exit0 ?_
          cases hL1
          refine s_st ?_ (hN1 () rfl)
          exact st_le [] (le_cons rfl le_nil) rfl sub_nil
  · intro d1 hd
    subst hd
    replace hF := lrf_done hF
    refine sat_wc ?_
    refine c_seq ?_
    refine c_region ?_
    refine o_v (v_assign rfl) rfl ?_
    refine o_seq ?_
    refine c_ret ?_
    cases hF
    refine s_ret1 rfl (r_tmp rfl) fun a w hs => ?_
    exact fin_sel hs [] ⟨rfl, rfl, rfl⟩ rfl sub_nil
theorem tri41 (k : Nat) (text : List UInt8) (at_ : Int) (r : Int × Int × Int) (hF : F.ref01.one k text at_ = some r) :
    Tri Try.prog 41 [.string (bs text), .int .i64 at_] [] [] (fun o H Φ => o = .ret (.tuple #[.int .i64 r.1, .int .i64 r.2.1, .int .i64 r.2.2]) ∧ H = [] ∧ Φ = []) := by
  unfold F.ref01.one at hF
  refine tri_intro (n := 90) Try.func41 rfl Try.ntmps41 rfl fun w X => ?_
  refine c_seq ?_
  refine c_region ?_
  refine o_v (v_assign rfl) rfl ?_
  refine o_v (v_assign rfl) rfl ?_
  refine o_v (v_assign rfl) rfl ?_
  refine o_seq ?_
  refine c_seq ?_
  refine c_seq ?_
  refine c_region ?_
  refine o_v (v_move rfl) rfl ?_
  refine o_v (v_move rfl) rfl ?_
  refine o_v (v_len_str Try.underlying9 rfl) rfl ?_
  refine o_v (v_bin rfl rfl rfl) rfl ?_
  refine o_seq ?_
  refine c_cond rfl (fun h1 => ?_) (fun h1 => ?_)
  · replace hF := ite_t h1 hF
    refine c_seq ?_
    refine c_region ?_
    refine o_v (v_assign rfl) rfl ?_
    refine o_v (v_assign rfl) rfl ?_
    refine o_v (v_assign rfl) rfl ?_
    refine o_seq ?_
    refine c_ret ?_
    cases hF
    refine s_ret3 rfl (r_tmp rfl) (r_tmp rfl) (r_tmp rfl) fun a w hs => ?_
    exact fin_sel hs [] ⟨rfl, rfl, rfl⟩ rfl sub_nil
  · replace hF := ite_f h1 hF
    refine c_skip ?_
    refine sat_wc ?_
    refine c_seq ?_
    refine c_region ?_
    refine o_v (v_move rfl) rfl ?_
    refine o_v (v_move rfl) rfl ?_
    refine ite_some hF fun h2 hF => ?_
    refine o_v (v_sindex Try.underlying9 rfl rfl h2) rfl ?_
    refine o_v (v_assign rfl) rfl ?_
    refine o_seq ?_
    refine c_seq ?_
    refine c_seq ?_
    refine c_region ?_
    refine o_v (v_move rfl) rfl ?_
    refine o_v (v_bin rfl rfl rfl) rfl ?_
    refine o_seq ?_
    refine c_cond rfl (fun h3 => ?_) (fun h3 => ?_)
    · replace hF := ite_t h3 hF
      refine c_seq ?_
      refine c_seq ?_
      refine c_region ?_
      refine o_v (v_move rfl) rfl ?_
      refine o_v (v_bin rfl rfl rfl) rfl ?_
      refine o_v (v_move rfl) rfl ?_
      refine o_split (t := 22) rfl (fun h4 => ?_) (fun h4 => ?_)
      · replace hF := ite_t h4 hF
        refine o_off rfl rfl (by decide) rfl ?_
        refine o_off rfl rfl (by decide) rfl ?_
        refine o_v (v_pick_t rfl rfl) rfl ?_
        refine o_v (v_move rfl) rfl ?_
        refine o_off rfl rfl (by decide) rfl ?_
        refine o_off rfl rfl (by decide) rfl ?_
        refine o_off rfl rfl (by decide) rfl ?_
        refine o_off rfl rfl (by decide) rfl ?_
        refine o_v (v_pick_t rfl rfl) rfl ?_
        refine o_seq ?_
        refine c_cond rfl (fun _ => ?_) (fun h => Bool.noConfusion h)
        refine c_seq ?_
        refine c_region ?_
        refine o_v (v_assign rfl) rfl ?_
        refine o_v (v_assign rfl) rfl ?_
        refine o_v (v_assign rfl) rfl ?_
        refine o_seq ?_
        refine c_ret ?_
        cases hF
        refine s_ret3 rfl (r_tmp rfl) (r_tmp rfl) (r_tmp rfl) fun a w hs => ?_
        exact fin_sel hs [] ⟨rfl, rfl, rfl⟩ rfl sub_nil
      · replace hF := ite_f h4 hF
        refine o_on rfl rfl ?_
        refine o_v (v_move rfl) rfl ?_
        refine o_on rfl rfl ?_
        refine o_v (v_bin rfl rfl rfl) rfl ?_
        refine o_v (v_pick_f rfl rfl) rfl ?_
        refine o_v (v_move rfl) rfl ?_
        refine o_split (t := 26) rfl (fun h5 => ?_) (fun h5 => ?_)
        · replace hF := ite_t h5 hF
          refine o_off rfl rfl (by decide) rfl ?_
          refine o_off rfl rfl (by decide) rfl ?_
          refine o_off rfl rfl (by decide) rfl ?_
          refine o_off rfl rfl (by decide) rfl ?_
          refine o_v (v_pick_t rfl rfl) rfl ?_
          refine o_seq ?_
          refine c_cond rfl (fun _ => ?_) (fun h => Bool.noConfusion h)
          refine c_seq ?_
          refine c_region ?_
          refine o_v (v_assign rfl) rfl ?_
          refine o_v (v_assign rfl) rfl ?_
          refine o_v (v_assign rfl) rfl ?_
          refine o_seq ?_
          refine c_ret ?_
          cases hF
          refine s_ret3 rfl (r_tmp rfl) (r_tmp rfl) (r_tmp rfl) fun a w hs => ?_
          exact fin_sel hs [] ⟨rfl, rfl, rfl⟩ rfl sub_nil
        · replace hF := ite_f h5 hF
          refine o_on rfl rfl ?_
          refine o_v (v_move rfl) rfl ?_
          refine o_on rfl rfl ?_
          refine o_v (v_convert (v := .int .i64 (IntKind.wrap .i64 (sAt text at_))) rfl (fun _ => by kernel_rfl)) rfl ?_
          refine o_on rfl rfl ?_
          obtain ⟨v, h6, hF⟩ := bd hF
          refine o_callSB call44 rfl lent_nil (tri44 (IntKind.wrap .i64 (sAt text at_)) v h6) rfl ?_
          refine o_on rfl rfl ?_
          refine o_v (v_bin rfl rfl rfl) rfl ?_
          refine o_v (v_pick_f rfl rfl) rfl ?_
          refine o_seq ?_
          refine c_cond rfl (fun h7 => ?_) (fun h7 => ?_)
          · replace hF := ite_t h7 hF
            refine c_seq ?_
            refine c_region ?_
            refine o_v (v_assign rfl) rfl ?_
            refine o_v (v_assign rfl) rfl ?_
            refine o_v (v_assign rfl) rfl ?_
            refine o_seq ?_
            refine c_ret ?_
            cases hF
            refine s_ret3 rfl (r_tmp rfl) (r_tmp rfl) (r_tmp rfl) fun a w hs => ?_
            exact fin_sel hs [] ⟨rfl, rfl, rfl⟩ rfl sub_nil
          · replace hF := ite_f h7 hF
            refine c_skip ?_
            refine sat_wc ?_
            refine c_seq ?_
            refine c_region ?_
            refine o_v (v_move rfl) rfl ?_
            refine o_v (v_convert (v := .int .i64 (IntKind.wrap .i64 (sAt text at_))) rfl (fun _ => by kernel_rfl)) rfl ?_
            refine o_v (v_assign rfl) rfl ?_
            refine o_v (v_assign rfl) rfl ?_
            refine o_v (v_assign rfl) rfl ?_
            refine o_seq ?_
            refine c_ret ?_
            cases hF
            refine s_ret3 rfl (r_tmp rfl) (r_tmp rfl) (r_tmp rfl) fun a w hs => ?_
            exact fin_sel hs [] ⟨rfl, rfl, rfl⟩ rfl sub_nil
    · replace hF := ite_f h3 hF
      refine c_skip ?_
      refine sat_wc ?_
      refine c_seq ?_
      refine c_seq ?_
      refine c_cut (fun E N' => ∀ (t45 : Bool), F.ref01.one_j1 k at_ text t45 = some r → Sat E [(0, .string (bs text)), (1, .int .i64 at_), (4, .int .i64 0), (5, .int .i64 0), (6, .int .i64 0), (7, .int .u8 (sAt text at_)), (14, .bool (decide ((text.length : Int) ≤ at_))), (19, .bool ((sAt text at_) != 92)), (45, .bool t45)] [] [] N') (fun N7 hN7 => ?_) ?_
      · refine c_region ?_
        refine o_v (v_move rfl) rfl ?_
        refine o_v (v_bin rfl rfl rfl) rfl ?_
        refine o_v (v_move rfl) rfl ?_
        refine o_v (v_len_str Try.underlying9 rfl) rfl ?_
        refine o_v (v_bin rfl rfl rfl) rfl ?_
        refine o_v (v_move rfl) rfl ?_
        refine o_split (t := 39) rfl (fun h21 => ?_) (fun h21 => ?_)
        · replace hF := ite_t h21 hF
          refine o_on rfl rfl ?_
          refine o_v (v_move rfl) rfl ?_
          refine o_on rfl rfl ?_
          refine o_v (v_move rfl) rfl ?_
          refine o_on rfl rfl ?_
          refine o_v (v_bin rfl rfl rfl) rfl ?_
          refine o_on rfl rfl ?_
          refine ite_some hF fun h22 hF => ?_
          refine o_v (v_sindex Try.underlying9 rfl rfl h22) rfl ?_
          refine o_on rfl rfl ?_
          refine o_v (v_bin rfl rfl rfl) rfl ?_
          refine o_v (v_pick_t rfl rfl) rfl ?_
          refine o_nil ?_
          refine s_st ?_ (hN7 ((sAt text (IntKind.wrap .i64 (at_ + 1))) == 120) hF)
          exact st_le [] (le_cons rfl (le_cons rfl (le_cons rfl (le_cons rfl (le_cons rfl (le_cons rfl (le_cons rfl (le_cons rfl (le_cons rfl le_nil))))))))) rfl sub_nil
        · replace hF := ite_f h21 hF
          refine o_off rfl rfl (by decide) rfl ?_
          refine o_off rfl rfl (by decide) rfl ?_
          refine o_off rfl rfl (by decide) rfl ?_
          refine o_off rfl rfl (by decide) rfl ?_
          refine o_off rfl rfl (by decide) rfl ?_
          refine o_v (v_pick_f rfl rfl) rfl ?_
          refine o_nil ?_
          refine s_st ?_ (hN7 false hF)
          exact st_le [] (le_cons rfl (le_cons rfl (le_cons rfl (le_cons rfl (le_cons rfl (le_cons rfl (le_cons rfl (le_cons rfl (le_cons rfl le_nil))))))))) rfl sub_nil
      · intro t45 hF
        unfold F.ref01.one_j1 at hF
        refine sat_wc ?_
        refine c_cut (fun E N' => F.ref01.one_j2 k at_ text = some r → Sat E [(0, .string (bs text)), (1, .int .i64 at_), (4, .int .i64 0), (5, .int .i64 0), (6, .int .i64 0), (7, .int .u8 (sAt text at_)), (14, .bool (decide ((text.length : Int) ≤ at_))), (19, .bool ((sAt text at_) != 92))] [] [] N') (fun N6 hN6 => ?_) ?_
        · refine c_cond rfl (fun h14 => ?_) (fun h14 => ?_)
          · replace hF := ite_t h14 hF
            refine c_seq ?_
            refine c_draw (n := 12) [] mixed rfl rfl ?_
            refine d_val 0 rfl pnok (by kernel_rfl) (by kernel_rfl) (by kernel_rfl) rfl (v_move rfl) ?_
            refine d_val 1 rfl pnok (by kernel_rfl) (by kernel_rfl) (by kernel_rfl) rfl (v_move rfl) ?_
            refine d_val 2 rfl pnok (by kernel_rfl) (by kernel_rfl) (by kernel_rfl) rfl (v_bin rfl rfl rfl) ?_
            refine ite_some hF fun h15 hF => ?_
            refine d_val 3 rfl pnok (by kernel_rfl) (by kernel_rfl) (by kernel_rfl) rfl (v_sindex Try.underlying9 rfl rfl h15) ?_
            refine d_val 5 rfl pnok (by kernel_rfl) (by kernel_rfl) (by kernel_rfl) rfl (v_move rfl) ?_
            refine d_val 6 rfl pnok (by kernel_rfl) (by kernel_rfl) (by kernel_rfl) rfl (v_move rfl) ?_
            refine d_val 7 rfl pnok (by kernel_rfl) (by kernel_rfl) (by kernel_rfl) rfl (v_bin rfl rfl rfl) ?_
            refine ite_some hF fun h16 hF => ?_
            refine d_val 8 rfl pnok (by kernel_rfl) (by kernel_rfl) (by kernel_rfl) rfl (v_sindex Try.underlying9 rfl rfl h16) ?_
            refine d_one 4 rfl (by kernel_rfl) ?_
            obtain ⟨v2, h17, hF⟩ := bd hF
            refine o_callSB call46 rfl lent_nil (tri46 k (sAt text (IntKind.wrap .i64 (at_ + 2))) v2 h17) rfl ?_
            refine d_next [] 0 rfl rfl ?_
            refine d_one 9 rfl (by kernel_rfl) ?_
            obtain ⟨v3, h18, hF⟩ := bd hF
            refine o_callSB call46 rfl lent_nil (tri46 k (sAt text (IntKind.wrap .i64 (at_ + 3))) v3 h18) rfl ?_
            refine d_next [] 0 rfl rfl ?_
            refine d_val 10 rfl pnok (by kernel_rfl) (by kernel_rfl) (by kernel_rfl) rfl (v_assign rfl) ?_
            refine d_val 11 rfl pnok (by kernel_rfl) (by kernel_rfl) (by kernel_rfl) rfl (v_assign rfl) ?_
            refine d_done_seq (by kernel_rfl) ?_
            refine c_seq ?_
            refine c_cut (fun E N' => ∀ (t61 : Bool), F.ref01.one_j7 k v2 v3 at_ text t61 = some r → Sat E [(0, .string (bs text)), (1, .int .i64 at_), (4, .int .i64 0), (5, .int .i64 0), (6, .int .i64 0), (7, .int .u8 (sAt text at_)), (8, .int .i64 v2), (9, .int .i64 v3), (14, .bool (decide ((text.length : Int) ≤ at_))), (19, .bool ((sAt text at_) != 92)), (45, .bool t45), (61, .bool t61)] [] [] N') (fun N7 hN7 => ?_) ?_
            · refine c_region ?_
              refine o_v (v_move rfl) rfl ?_
              refine o_v (v_bin rfl rfl rfl) rfl ?_
              refine o_v (v_move rfl) rfl ?_
              refine o_split (t := 58) rfl (fun h20 => ?_) (fun h20 => ?_)
              · replace hF := ite_t h20 hF
                refine o_on rfl rfl ?_
                refine o_v (v_move rfl) rfl ?_
                refine o_on rfl rfl ?_
                refine o_v (v_bin rfl rfl rfl) rfl ?_
                refine o_v (v_pick_t rfl rfl) rfl ?_
                refine o_nil ?_
                refine s_st ?_ (hN7 (decide (v3 < 16)) hF)
                exact st_le [] (le_cons rfl (le_cons rfl (le_cons rfl (le_cons rfl (le_cons rfl (le_cons rfl (le_cons rfl (le_cons rfl (le_cons rfl (le_cons rfl (le_cons rfl (le_cons rfl le_nil)))))))))))) rfl sub_nil
              · replace hF := ite_f h20 hF
                refine o_off rfl rfl (by decide) rfl ?_
                refine o_off rfl rfl (by decide) rfl ?_
                refine o_v (v_pick_f rfl rfl) rfl ?_
                refine o_nil ?_
                refine s_st ?_ (hN7 false hF)
                exact st_le [] (le_cons rfl (le_cons rfl (le_cons rfl (le_cons rfl (le_cons rfl (le_cons rfl (le_cons rfl (le_cons rfl (le_cons rfl (le_cons rfl (le_cons rfl (le_cons rfl le_nil)))))))))))) rfl sub_nil
            · intro t61 hF
              unfold F.ref01.one_j7 at hF
              refine sat_wc ?_
              refine c_cond rfl (fun h19 => ?_) (fun h19 => ?_)
              · replace hF := ite_t h19 hF
                refine c_seq ?_
                refine c_region ?_
                refine o_v (v_move rfl) rfl ?_
                refine o_v (v_bin rfl rfl rfl) rfl ?_
                refine o_v (v_move rfl) rfl ?_
                refine o_v (v_bin rfl rfl rfl) rfl ?_
                refine o_v (v_assign rfl) rfl ?_
                refine o_v (v_assign rfl) rfl ?_
                refine o_v (v_assign rfl) rfl ?_
                refine o_seq ?_
                refine c_ret ?_
                cases hF
                refine s_ret3 rfl (r_tmp rfl) (r_tmp rfl) (r_tmp rfl) fun a w hs => ?_
                exact fin_sel hs [] ⟨rfl, rfl, rfl⟩ rfl sub_nil
              · replace hF := ite_f h19 hF
                refine c_skip ?_
                refine s_st ?_ (hN6 hF)
                exact st_le [] (le_cons rfl (le_cons rfl (le_cons rfl (le_cons rfl (le_cons rfl (le_cons rfl (le_cons rfl (le_cons rfl le_nil)))))))) rfl sub_nil
          · replace hF := ite_f h14 hF
            refine c_skip ?_
            refine s_st ?_ (hN6 hF)
            exact st_le [] (le_cons rfl (le_cons rfl (le_cons rfl (le_cons rfl (le_cons rfl (le_cons rfl (le_cons rfl (le_cons rfl le_nil)))))))) rfl sub_nil
        · intro hF
          unfold F.ref01.one_j2 at hF
          refine sat_wc ?_
          refine c_seq ?_
          refine c_seq ?_
          refine c_region ?_
          refine o_v (v_assign rfl) rfl ?_
          refine o_seq ?_
          obtain ⟨o3, ho3, hF⟩ := bd hF
          refine c_cut (fun E N' => ∀ (d3 : Unit), o3 = .done d3 → Sat E [(0, .string (bs text)), (1, .int .i64 at_), (4, .int .i64 0), (5, .int .i64 0), (6, .int .i64 0), (7, .int .u8 (sAt text at_)), (14, .bool (decide ((text.length : Int) ≤ at_))), (19, .bool ((sAt text at_) != 92))] [] [] N') (fun N3 hN3 => ?_) ?_
          · refine c_block ?_
            refine c_loopE (fun E j a w => ∃ (n : Int), F.ref01.one_l3 at_ text j n = some o3 ∧ St E [(0, .string (bs text)), (1, .int .i64 at_), (4, .int .i64 0), (5, .int .i64 0), (6, .int .i64 0), (7, .int .u8 (sAt text at_)), (10, .int .i64 n), (14, .bool (decide ((text.length : Int) ≤ at_))), (19, .bool ((sAt text at_) != 92))] [] [] a w) k ?_ ?_
            · intro a w hs
              exact ⟨0, ho3, st_le [] (le_cons rfl (le_cons rfl (le_cons rfl (le_cons rfl (le_cons rfl (le_cons rfl (le_cons rfl (le_cons rfl (le_cons rfl le_nil))))))))) rfl sub_nil a w hs⟩
            · rintro j a w ⟨n, hL3, hs⟩
              cases j with
              | zero => cases hL3
              | succ j =>
                refine wc_app hs ?_
                unfold F.ref01.one_l3 at hL3
                refine c_seq ?_
                refine c_seq ?_
                refine c_cut (fun E N' => ∀ (t74 : Bool), F.ref01.one_j4 at_ text n (F.ref01.one_l3 at_ text j) t74 = some o3 → Sat E [(0, .string (bs text)), (1, .int .i64 at_), (4, .int .i64 0), (5, .int .i64 0), (6, .int .i64 0), (7, .int .u8 (sAt text at_)), (10, .int .i64 n), (14, .bool (decide ((text.length : Int) ≤ at_))), (19, .bool ((sAt text at_) != 92)), (74, .bool t74)] [] [] N') (fun N6 hN6 => ?_) ?_
                · refine c_region ?_
                  refine o_v (v_move rfl) rfl ?_
                  refine o_v (v_bin rfl rfl rfl) rfl ?_
                  refine o_v (v_move rfl) rfl ?_
                  refine o_split (t := 68) rfl (fun h13 => ?_) (fun h13 => ?_)
                  · replace hL3 := ite_t h13 hL3
                    refine o_on rfl rfl ?_
                    refine o_v (v_move rfl) rfl ?_
                    refine o_on rfl rfl ?_
                    refine o_v (v_bin rfl rfl rfl) rfl ?_
                    refine o_on rfl rfl ?_
                    refine o_v (v_move rfl) rfl ?_
                    refine o_on rfl rfl ?_
                    refine o_v (v_len_str Try.underlying9 rfl) rfl ?_
                    refine o_on rfl rfl ?_
                    refine o_v (v_bin rfl rfl rfl) rfl ?_
                    refine o_v (v_pick_t rfl rfl) rfl ?_
                    refine o_nil ?_
                    refine s_st ?_ (hN6 (decide ((IntKind.wrap .i64 (at_ + 1)) < (text.length : Int))) hL3)
                    exact st_le [] (le_cons rfl (le_cons rfl (le_cons rfl (le_cons rfl (le_cons rfl (le_cons rfl (le_cons rfl (le_cons rfl (le_cons rfl (le_cons rfl le_nil)))))))))) rfl sub_nil
                  · replace hL3 := ite_f h13 hL3
                    refine o_off rfl rfl (by decide) rfl ?_
                    refine o_off rfl rfl (by decide) rfl ?_
                    refine o_off rfl rfl (by decide) rfl ?_
                    refine o_off rfl rfl (by decide) rfl ?_
                    refine o_off rfl rfl (by decide) rfl ?_
                    refine o_v (v_pick_f rfl rfl) rfl ?_
                    refine o_nil ?_
                    refine s_st ?_ (hN6 false hL3)
                    exact st_le [] (le_cons rfl (le_cons rfl (le_cons rfl (le_cons rfl (le_cons rfl (le_cons rfl (le_cons rfl (le_cons rfl (le_cons rfl (le_cons rfl le_nil)))))))))) rfl sub_nil
                · intro t74 hL3
                  unfold F.ref01.one_j4 at hL3
                  refine sat_wc ?_
                  refine c_cond rfl (fun h8 => ?_) (fun h8 => ?_)
                  · replace hL3 := ite_t h8 hL3
                    refine c_skip ?_
                    refine sat_wc ?_
                    refine c_seq ?_
                    refine c_cut (fun E N' => ∀ (t88 : Bool), F.ref01.one_j5 (F.ref01.one_l3 at_ text j) n t88 = some o3 → Sat E [(0, .string (bs text)), (1, .int .i64 at_), (4, .int .i64 0), (5, .int .i64 0), (6, .int .i64 0), (7, .int .u8 (sAt text at_)), (10, .int .i64 n), (14, .bool (decide ((text.length : Int) ≤ at_))), (19, .bool ((sAt text at_) != 92)), (74, .bool t74), (88, .bool t88)] [] [] N') (fun N5 hN5 => ?_) ?_
                    · refine c_block ?_
                      refine c_seq ?_
                      refine c_cut (fun E N' => ∀ (t881 : Bool), F.ref01.one_j6 n (F.ref01.one_l3 at_ text j) t881 = some o3 → Sat E [(0, .string (bs text)), (1, .int .i64 at_), (4, .int .i64 0), (5, .int .i64 0), (6, .int .i64 0), (7, .int .u8 (sAt text at_)), (10, .int .i64 n), (14, .bool (decide ((text.length : Int) ≤ at_))), (19, .bool ((sAt text at_) != 92)), (74, .bool t74), (88, .bool t881)] [] [] N') (fun N6 hN6 => ?_) ?_
                      · refine c_draw (n := 12) [] mixed rfl rfl ?_
                        refine d_val 0 rfl pnok (by kernel_rfl) (by kernel_rfl) (by kernel_rfl) rfl (v_move rfl) ?_
                        refine d_val 2 rfl pnok (by kernel_rfl) (by kernel_rfl) (by kernel_rfl) rfl (v_move rfl) ?_
                        refine d_val 3 rfl pnok (by kernel_rfl) (by kernel_rfl) (by kernel_rfl) rfl (v_move rfl) ?_
                        refine d_val 4 rfl pnok (by kernel_rfl) (by kernel_rfl) (by kernel_rfl) rfl (v_bin rfl rfl rfl) ?_
                        refine ite_some hL3 fun h10 hL3 => ?_
                        refine d_val 5 rfl pnok (by kernel_rfl) (by kernel_rfl) (by kernel_rfl) rfl (v_sindex Try.underlying9 rfl rfl h10) ?_
                        refine d_one 1 rfl (by kernel_rfl) ?_
                        obtain ⟨v1, h11, hL3⟩ := bd hL3
                        refine o_callSB call44 rfl lent_nil (tri44 n v1 h11) rfl ?_
                        refine d_next [] 0 rfl rfl ?_
                        refine d_val 6 rfl pnok (by kernel_rfl) (by kernel_rfl) (by kernel_rfl) rfl (v_bin rfl rfl rfl) ?_
                        refine d_val 7 rfl pnok (by kernel_rfl) (by kernel_rfl) (by kernel_rfl) rfl (v_move rfl) ?_
                        refine d_split (t := 84) rfl (fun h12 => ?_) (fun h12 => ?_)
                        · replace hL3 := ite_t h12 hL3
                          refine d_val_on 8 rfl rfl rfl pnok (by kernel_rfl) (by kernel_rfl) (by kernel_rfl) rfl (v_move rfl) ?_
                          refine d_one 9 rfl (by kernel_rfl) ?_
                          refine o_on rfl rfl ?_
                          refine o_callSB call44 rfl lent_nil (tri44 n v1 h11) rfl ?_
                          refine d_next [] 0 rfl rfl ?_
                          refine d_val_on 10 rfl rfl rfl pnok (by kernel_rfl) (by kernel_rfl) (by kernel_rfl) rfl (v_bin rfl rfl rfl) ?_
                          refine d_val 11 rfl pnok (by kernel_rfl) (by kernel_rfl) (by kernel_rfl) rfl (v_pick_t rfl rfl) ?_
                          refine d_done (by kernel_rfl) ?_
                          refine s_st ?_ (hN6 (v1 != 0) hL3)
                          exact st_le [] (le_cons rfl (le_cons rfl (le_cons rfl (le_cons rfl (le_cons rfl (le_cons rfl (le_cons rfl (le_cons rfl (le_cons rfl (le_cons rfl (le_cons rfl le_nil))))))))))) rfl sub_nil
                        · replace hL3 := ite_f h12 hL3
                          refine d_off 8 rfl rfl rfl (by decide) pnok (by kernel_rfl) (by kernel_rfl) (by kernel_rfl) rfl ?_
                          refine d_off 9 rfl rfl rfl (by decide) pnok (by kernel_rfl) (by kernel_rfl) (by kernel_rfl) rfl ?_
                          refine d_off 10 rfl rfl rfl (by decide) pnok (by kernel_rfl) (by kernel_rfl) (by kernel_rfl) rfl ?_
                          refine d_val 11 rfl pnok (by kernel_rfl) (by kernel_rfl) (by kernel_rfl) rfl (v_pick_f rfl rfl) ?_
                          refine d_done (by kernel_rfl) ?_
                          refine s_st ?_ (hN6 false hL3)
                          exact st_le [] (le_cons rfl (le_cons rfl (le_cons rfl (le_cons rfl (le_cons rfl (le_cons rfl (le_cons rfl (le_cons rfl (le_cons rfl (le_cons rfl (le_cons rfl le_nil))))))))))) rfl sub_nil
                      · intro t881 hL3
                        unfold F.ref01.one_j6 at hL3
                        refine sat_wc ?_
                        refine c_cond rfl (fun h9 => ?_) (fun h9 => ?_)
                        · replace hL3 := ite_t h9 hL3
                          refine c_seq ?_
                          refine c_region ?_
                          refine o_v (v_move rfl) rfl ?_
                          refine o_v (v_assign rfl) rfl ?_
                          refine o_v (v_assign rfl) rfl ?_
                          refine o_v (v_assign rfl) rfl ?_
                          refine o_seq ?_
                          refine c_ret ?_
                          cases hL3
                          obtain rfl := lrf_ret hF
                          refine s_ret3 rfl (r_tmp rfl) (r_tmp rfl) (r_tmp rfl) fun a w hs => ?_
                          exact fin_sel hs [] ⟨rfl, rfl, rfl⟩ rfl sub_nil
                        · replace hL3 := ite_f h9 hL3
                          refine c_skip ?_
                          refine s_st ?_ (hN5 t881 hL3)
                          exact st_le [] (le_cons rfl (le_cons rfl (le_cons rfl (le_cons rfl (le_cons rfl (le_cons rfl (le_cons rfl (le_cons rfl (le_cons rfl (le_cons rfl (le_cons rfl le_nil))))))))))) rfl sub_nil
                    · intro t88 hL3
                      unfold F.ref01.one_j5 at hL3
                      refine sat_wc ?_
                      refine c_region ?_
                      refine o_v (v_move rfl) rfl ?_
                      refine o_v (v_bin rfl rfl rfl) rfl ?_
                      refine o_v (v_assign rfl) rfl ?_
                      refine o_nil ?_
                      intro a w hs
                      exact ⟨j, Nat.lt_succ_self j, IntKind.wrap .i64 (n + 1), hL3, st_le [] (le_cons rfl (le_cons rfl (le_cons rfl (le_cons rfl (le_cons rfl (le_cons rfl (le_cons rfl (le_cons rfl (le_cons rfl le_nil))))))))) rfl sub_nil a w hs⟩
                  · replace hL3 := ite_f h8 hL3
                    refine c_exit0 ?_
                    cases hL3
                    refine s_st ?_ (hN3 () rfl)
                    exact st_le [] (le_cons rfl (le_cons rfl (le_cons rfl (le_cons rfl (le_cons rfl (le_cons rfl (le_cons rfl (le_cons rfl le_nil)))))))) rfl sub_nil
          · intro d3 hd
            subst hd
            replace hF := lrf_done hF
            refine sat_wc ?_
            refine c_seq ?_
            refine c_region ?_
            refine o_v (v_assign rfl) rfl ?_
            refine o_v (v_assign rfl) rfl ?_
            refine o_v (v_assign rfl) rfl ?_
            refine o_seq ?_
            refine c_ret ?_
            cases hF
            refine s_ret3 rfl (r_tmp rfl) (r_tmp rfl) (r_tmp rfl) fun a w hs => ?_
            exact fin_sel hs [] ⟨rfl, rfl, rfl⟩ rfl sub_nil
theorem tri35 (k : Nat) (kind : Int) (a_ : S4) (b : S4) (r : S4) (hF : F.ref01.Op k kind a_ b = some r) :
    Tri Try.prog 35 [.int .i64 kind, .agg #[.int .u64 a_.w0, .int .u64 a_.w1, .int .u64 a_.w2, .int .u64 a_.w3], .agg #[.int .u64 b.w0, .int .u64 b.w1, .int .u64 b.w2, .int .u64 b.w3]] [] [] (fun o H Φ => o = .ret (.agg #[.int .u64 r.w0, .int .u64 r.w1, .int .u64 r.w2, .int .u64 r.w3]) ∧ H = [] ∧ Φ = []) := by
  unfold F.ref01.Op at hF
  refine tri_intro (n := 62) Try.func35 rfl Try.ntmps35 rfl fun w X => ?_
  refine c_seq ?_
  refine c_region ?_
  refine o_box rfl rfl rfl fun b1 => ?_
  refine o_box rfl rfl rfl fun b2 => ?_
  refine o_alloc zero26 rfl rfl fun b3 => ?_
  refine o_seq ?_
  refine c_seq ?_
  refine c_region ?_
  refine o_alloc zero26 rfl rfl fun b4 => ?_
  refine o_seq ?_
  refine c_seq ?_
  refine c_seq ?_
  refine c_region ?_
  refine o_v (v_assign rfl) rfl ?_
  refine o_seq ?_
  obtain ⟨o1, ho1, hF⟩ := bd hF
  refine c_cut (fun E N' => Sat E [(1, .agg #[.int .u64 a_.w0, .int .u64 a_.w1, .int .u64 a_.w2, .int .u64 a_.w3]), (2, .agg #[.int .u64 b.w0, .int .u64 b.w1, .int .u64 b.w2, .int .u64 b.w3]), (6, .pointer (some ⟨b3, 0, none⟩)), (7, .pointer (some ⟨b4, 0, none⟩))] [.box b4 26 [.int .u64 o1.w0, .int .u64 o1.w1, .int .u64 o1.w2, .int .u64 o1.w3], .box b3 26 [.int .u64 0, .int .u64 0, .int .u64 0, .int .u64 0]] [] N') (fun N1 hN1 => ?_) ?_
  · refine c_block ?_
    refine c_loopE (fun E j a w => ∃ (i : Int) (s : S4), F.ref01.Op_l1 k a_ b kind j i s = some o1 ∧ St E [(0, .int .i64 kind), (1, .agg #[.int .u64 a_.w0, .int .u64 a_.w1, .int .u64 a_.w2, .int .u64 a_.w3]), (2, .agg #[.int .u64 b.w0, .int .u64 b.w1, .int .u64 b.w2, .int .u64 b.w3]), (4, .pointer (some ⟨b1, 0, none⟩)), (5, .pointer (some ⟨b2, 0, none⟩)), (6, .pointer (some ⟨b3, 0, none⟩)), (7, .pointer (some ⟨b4, 0, none⟩)), (8, .int .i64 i)] [.box b4 26 [.int .u64 s.w0, .int .u64 s.w1, .int .u64 s.w2, .int .u64 s.w3], .box b3 26 [.int .u64 0, .int .u64 0, .int .u64 0, .int .u64 0], .box b2 26 [.int .u64 b.w0, .int .u64 b.w1, .int .u64 b.w2, .int .u64 b.w3], .box b1 26 [.int .u64 a_.w0, .int .u64 a_.w1, .int .u64 a_.w2, .int .u64 a_.w3]] [] a w) k ?_ ?_
    · intro a w hs
      exact ⟨0, (S4.mk 0 0 0 0), ho1, st_le [0, 0, 0, 0] (le_cons rfl (le_cons rfl (le_cons rfl (le_cons rfl (le_cons rfl (le_cons rfl (le_cons rfl (le_cons rfl le_nil)))))))) rfl sub_nil a w hs⟩
    · rintro j a w ⟨i, s, hL1, hs⟩
      cases j with
      | zero => cases hL1
      | succ j =>
        refine wc_app hs ?_
        unfold F.ref01.Op_l1 at hL1
        refine c_seq ?_
        refine c_seq ?_
        refine c_region ?_
        refine o_v (v_move rfl) rfl ?_
        refine o_v (v_bin rfl rfl rfl) rfl ?_
        refine o_seq ?_
        refine c_cond rfl (fun h1 => ?_) (fun h1 => ?_)
        · replace hL1 := ite_t h1 hL1
          refine c_skip ?_
          refine sat_wc ?_
          refine c_seq ?_
          refine c_cut (fun E N' => ∀ (x : Bool) (y : Bool) (t57 : Bool) (s1 : S4), F.ref01.Op_j2 (F.ref01.Op_l1 k a_ b kind j) i x y t57 s1 = some o1 → Sat E [(0, .int .i64 kind), (1, .agg #[.int .u64 a_.w0, .int .u64 a_.w1, .int .u64 a_.w2, .int .u64 a_.w3]), (2, .agg #[.int .u64 b.w0, .int .u64 b.w1, .int .u64 b.w2, .int .u64 b.w3]), (4, .pointer (some ⟨b1, 0, none⟩)), (5, .pointer (some ⟨b2, 0, none⟩)), (6, .pointer (some ⟨b3, 0, none⟩)), (7, .pointer (some ⟨b4, 0, none⟩)), (8, .int .i64 i), (9, .bool x), (10, .bool y), (12, .bool (decide (i < 256))), (57, .bool t57)] [.box b4 26 [.int .u64 s1.w0, .int .u64 s1.w1, .int .u64 s1.w2, .int .u64 s1.w3], .box b3 26 [.int .u64 0, .int .u64 0, .int .u64 0, .int .u64 0], .box b2 26 [.int .u64 b.w0, .int .u64 b.w1, .int .u64 b.w2, .int .u64 b.w3], .box b1 26 [.int .u64 a_.w0, .int .u64 a_.w1, .int .u64 a_.w2, .int .u64 a_.w3]] [] N') (fun N2 hN2 => ?_) ?_
          · refine c_block ?_
            refine c_seq ?_
            refine c_draw (n := 8) [0, 0, 0, 0] mixed rfl rfl ?_
            refine d_val 0 rfl pnok (by kernel_rfl) (by kernel_rfl) (by kernel_rfl) rfl (v_load_box 3 ty26 rfl rfl rfl rfl rfl) ?_
            refine d_val 1 rfl pnok (by kernel_rfl) (by kernel_rfl) (by kernel_rfl) rfl (v_move rfl) ?_
            refine d_val 3 rfl pnok (by kernel_rfl) (by kernel_rfl) (by kernel_rfl) rfl (v_load_box 2 ty26 rfl rfl rfl rfl rfl) ?_
            refine d_val 4 rfl pnok (by kernel_rfl) (by kernel_rfl) (by kernel_rfl) rfl (v_move rfl) ?_
            refine d_one 2 rfl (by kernel_rfl) ?_
            obtain ⟨v, h2, hL1⟩ := bd hL1
            refine o_callSB call18 rfl lent_nil (tri18 k a_ i v h2) rfl ?_
            refine d_next [0, 0, 0, 0] 0 rfl rfl ?_
            refine d_one 5 rfl (by kernel_rfl) ?_
            obtain ⟨v1, h3, hL1⟩ := bd hL1
            refine o_callSB call18 rfl lent_nil (tri18 k b i v1 h3) rfl ?_
            refine d_next [0, 0, 0, 0] 0 rfl rfl ?_
            refine d_val 6 rfl pnok (by kernel_rfl) (by kernel_rfl) (by kernel_rfl) rfl (v_assign rfl) ?_
            refine d_val 7 rfl pnok (by kernel_rfl) (by kernel_rfl) (by kernel_rfl) rfl (v_assign rfl) ?_
            refine d_done_seq (by kernel_rfl) ?_
            refine c_seq ?_
            refine c_cut (fun E N' => ∀ (t571 : Bool), F.ref01.Op_j3 k s i (F.ref01.Op_l1 k a_ b kind j) v v1 t571 = some o1 → Sat E [(0, .int .i64 kind), (1, .agg #[.int .u64 a_.w0, .int .u64 a_.w1, .int .u64 a_.w2, .int .u64 a_.w3]), (2, .agg #[.int .u64 b.w0, .int .u64 b.w1, .int .u64 b.w2, .int .u64 b.w3]), (4, .pointer (some ⟨b1, 0, none⟩)), (5, .pointer (some ⟨b2, 0, none⟩)), (6, .pointer (some ⟨b3, 0, none⟩)), (7, .pointer (some ⟨b4, 0, none⟩)), (8, .int .i64 i), (9, .bool v), (10, .bool v1), (12, .bool (decide (i < 256))), (57, .bool t571)] [.box b4 26 [.int .u64 s.w0, .int .u64 s.w1, .int .u64 s.w2, .int .u64 s.w3], .box b3 26 [.int .u64 0, .int .u64 0, .int .u64 0, .int .u64 0], .box b2 26 [.int .u64 b.w0, .int .u64 b.w1, .int .u64 b.w2, .int .u64 b.w3], .box b1 26 [.int .u64 a_.w0, .int .u64 a_.w1, .int .u64 a_.w2, .int .u64 a_.w3]] [] N') (fun N4 hN4 => ?_) ?_
            · refine c_region ?_
              refine o_v (v_move rfl) rfl ?_
              refine o_v (v_bin rfl rfl rfl) rfl ?_
              refine o_v (v_move rfl) rfl ?_
              refine o_split (t := 23) rfl (fun h6 => ?_) (fun h6 => ?_)
              · replace hL1 := ite_t h6 hL1
                refine o_on rfl rfl ?_
                refine o_v (v_move rfl) rfl ?_
                refine o_on rfl rfl ?_
                refine o_v (v_move rfl) rfl ?_
                refine o_split (t := 25) rfl (fun h7 => ?_) (fun h7 => ?_)
                · replace hL1 := ite_t h7 hL1
                  refine o_off rfl rfl (by decide) rfl ?_
                  refine o_on rfl rfl ?_
                  refine o_v (v_pick_t rfl rfl) rfl ?_
                  refine o_v (v_pick_t rfl rfl) rfl ?_
                  refine o_v (v_move rfl) rfl ?_
                  refine o_off rfl rfl (by decide) rfl ?_
                  refine o_off rfl rfl (by decide) rfl ?_
                  refine o_off rfl rfl (by decide) rfl ?_
                  refine o_offU rfl rfl rfl ?_
                  refine o_off rfl rfl (by decide) rfl ?_
                  refine o_off rfl rfl (by decide) rfl ?_
                  refine o_offU rfl rfl rfl ?_
                  refine o_off rfl rfl (by decide) rfl ?_
                  refine o_v (v_pick_t rfl rfl) rfl ?_
                  refine o_v (v_move rfl) rfl ?_
                  refine o_off rfl rfl (by decide) rfl ?_
                  refine o_off rfl rfl (by decide) rfl ?_
                  refine o_off rfl rfl (by decide) rfl ?_
                  refine o_offU rfl rfl rfl ?_
                  refine o_off rfl rfl (by decide) rfl ?_
                  refine o_off rfl rfl (by decide) rfl ?_
                  refine o_offU rfl rfl rfl ?_
                  refine o_offU rfl rfl rfl ?_
                  refine o_off rfl rfl (by decide) rfl ?_
                  refine o_v (v_pick_t rfl rfl) rfl ?_
                  refine o_v (v_move rfl) rfl ?_
                  refine o_off rfl rfl (by decide) rfl ?_
                  refine o_off rfl rfl (by decide) rfl ?_
                  refine o_off rfl rfl (by decide) rfl ?_
                  refine o_offU rfl rfl rfl ?_
                  refine o_offU rfl rfl rfl ?_
                  refine o_off rfl rfl (by decide) rfl ?_
                  refine o_v (v_pick_t rfl rfl) rfl ?_
                  refine o_nil ?_
                  refine s_st ?_ (hN4 true hL1)
                  exact st_le [0, 0, 0, 0] (le_cons rfl (le_cons rfl (le_cons rfl (le_cons rfl (le_cons rfl (le_cons rfl (le_cons rfl (le_cons rfl (le_cons rfl (le_cons rfl (le_cons rfl (le_cons rfl le_nil)))))))))))) rfl sub_nil
                · replace hL1 := ite_f h7 hL1
                  refine o_on rfl rfl ?_
                  refine o_v (v_move rfl) rfl ?_
                  refine o_on rfl rfl ?_
                  refine o_v (v_pick_f rfl rfl) rfl ?_
                  refine o_v (v_pick_t rfl rfl) rfl ?_
                  refine o_v (v_move rfl) rfl ?_
                  refine o_split (t := 29) rfl (fun h8 => ?_) (fun h8 => ?_)
                  · replace hL1 := ite_t h8 hL1
                    refine o_off rfl rfl (by decide) rfl ?_
                    refine o_off rfl rfl (by decide) rfl ?_
                    refine o_off rfl rfl (by decide) rfl ?_
                    refine o_offU rfl rfl rfl ?_
                    refine o_off rfl rfl (by decide) rfl ?_
                    refine o_off rfl rfl (by decide) rfl ?_
                    refine o_offU rfl rfl rfl ?_
                    refine o_off rfl rfl (by decide) rfl ?_
                    refine o_v (v_pick_t rfl rfl) rfl ?_
                    refine o_v (v_move rfl) rfl ?_
                    refine o_off rfl rfl (by decide) rfl ?_
                    refine o_off rfl rfl (by decide) rfl ?_
                    refine o_off rfl rfl (by decide) rfl ?_
                    refine o_offU rfl rfl rfl ?_
                    refine o_off rfl rfl (by decide) rfl ?_
                    refine o_off rfl rfl (by decide) rfl ?_
                    refine o_offU rfl rfl rfl ?_
                    refine o_offU rfl rfl rfl ?_
                    refine o_off rfl rfl (by decide) rfl ?_
                    refine o_v (v_pick_t rfl rfl) rfl ?_
                    refine o_v (v_move rfl) rfl ?_
                    refine o_off rfl rfl (by decide) rfl ?_
                    refine o_off rfl rfl (by decide) rfl ?_
                    refine o_off rfl rfl (by decide) rfl ?_
                    refine o_offU rfl rfl rfl ?_
                    refine o_offU rfl rfl rfl ?_
                    refine o_off rfl rfl (by decide) rfl ?_
                    refine o_v (v_pick_t rfl rfl) rfl ?_
                    refine o_nil ?_
                    refine s_st ?_ (hN4 true hL1)
                    exact st_le [0, 0, 0, 0] (le_cons rfl (le_cons rfl (le_cons rfl (le_cons rfl (le_cons rfl (le_cons rfl (le_cons rfl (le_cons rfl (le_cons rfl (le_cons rfl (le_cons rfl (le_cons rfl le_nil)))))))))))) rfl sub_nil
                  · replace hL1 := ite_f h8 hL1
                    refine o_on rfl rfl ?_
                    refine o_v (v_move rfl) rfl ?_
                    refine o_on rfl rfl ?_
                    refine o_v (v_bin rfl rfl rfl) rfl ?_
                    refine o_on rfl rfl ?_
                    refine o_v (v_move rfl) rfl ?_
                    refine o_split (t := 32) rfl (fun h9 => ?_) (fun h9 => ?_)
                    · replace hL1 := ite_t h9 hL1
                      refine o_on rfl rfl ?_
                      refine o_v (v_move rfl) rfl ?_
                      refine o_on rfl rfl ?_
                      refine o_v (v_pick_t rfl rfl) rfl ?_
                      refine o_on rfl rfl ?_
                      refine o_v (v_move rfl) rfl ?_
                      refine o_know (t := 35) rfl h7 ?_
                      refine o_off rfl rfl (by decide) rfl ?_
                      refine o_on rfl rfl ?_
                      refine o_v (v_pick_f rfl rfl) rfl ?_
                      refine o_v (v_pick_f rfl rfl) rfl ?_
                      refine o_v (v_move rfl) rfl ?_
                      refine o_on rfl rfl ?_
                      refine o_v (v_move rfl) rfl ?_
                      refine o_on rfl rfl ?_
                      refine o_v (v_bin rfl rfl rfl) rfl ?_
                      refine o_on rfl rfl ?_
                      refine o_v (v_move rfl) rfl ?_
                      refine o_split (t := 42) rfl (fun h10 => ?_) (fun h10 => ?_)
                      · replace hL1 := ite_t h10 hL1
                        refine o_on rfl rfl ?_
                        refine o_v (v_move rfl) rfl ?_
                        refine o_on rfl rfl ?_
                        refine o_v (v_pick_t rfl rfl) rfl ?_
                        refine o_on rfl rfl ?_
                        refine o_v (v_move rfl) rfl ?_
                        refine o_know (t := 45) rfl h7 ?_
                        refine o_off rfl rfl (by decide) rfl ?_
                        refine o_off rfl rfl (by decide) rfl ?_
                        refine o_on rfl rfl ?_
                        refine o_v (v_pick_f rfl rfl) rfl ?_
                        refine o_v (v_pick_f rfl rfl) rfl ?_
                        refine o_v (v_move rfl) rfl ?_
                        refine o_on rfl rfl ?_
                        refine o_v (v_move rfl) rfl ?_
                        refine o_on rfl rfl ?_
                        refine o_v (v_bin rfl rfl rfl) rfl ?_
                        refine o_on rfl rfl ?_
                        refine o_v (v_move rfl) rfl ?_
                        refine o_split (t := 53) rfl (fun h11 => ?_) (fun h11 => ?_)
                        · replace hL1 := ite_t h11 hL1
                          refine o_on rfl rfl ?_
                          refine o_v (v_move rfl) rfl ?_
                          refine o_on rfl rfl ?_
                          refine o_v (v_not rfl) rfl ?_
                          refine o_on rfl rfl ?_
                          refine o_v (v_pick_t rfl rfl) rfl ?_
                          refine o_v (v_pick_f rfl rfl) rfl ?_
                          refine o_nil ?_
                          refine s_st ?_ (hN4 (!v) hL1)
                          exact st_le [0, 0, 0, 0] (le_cons rfl (le_cons rfl (le_cons rfl (le_cons rfl (le_cons rfl (le_cons rfl (le_cons rfl (le_cons rfl (le_cons rfl (le_cons rfl (le_cons rfl (le_cons rfl le_nil)))))))))))) rfl sub_nil
                        · replace hL1 := ite_f h11 hL1
                          refine o_off rfl rfl (by decide) rfl ?_
                          refine o_off rfl rfl (by decide) rfl ?_
                          refine o_on rfl rfl ?_
                          refine o_v (v_pick_f rfl rfl) rfl ?_
                          refine o_v (v_pick_f rfl rfl) rfl ?_
                          refine o_nil ?_
                          refine s_st ?_ (hN4 false hL1)
                          exact st_le [0, 0, 0, 0] (le_cons rfl (le_cons rfl (le_cons rfl (le_cons rfl (le_cons rfl (le_cons rfl (le_cons rfl (le_cons rfl (le_cons rfl (le_cons rfl (le_cons rfl (le_cons rfl le_nil)))))))))))) rfl sub_nil
                      · replace hL1 := ite_f h10 hL1
                        refine o_off rfl rfl (by decide) rfl ?_
                        refine o_on rfl rfl ?_
                        refine o_v (v_pick_f rfl rfl) rfl ?_
                        refine o_on rfl rfl ?_
                        refine o_v (v_move rfl) rfl ?_
                        refine o_off rfl rfl (by decide) rfl ?_
                        refine o_off rfl rfl (by decide) rfl ?_
                        refine o_on rfl rfl ?_
                        refine o_v (v_pick_f rfl rfl) rfl ?_
                        refine o_v (v_pick_f rfl rfl) rfl ?_
                        refine o_v (v_move rfl) rfl ?_
                        refine o_on rfl rfl ?_
                        refine o_v (v_move rfl) rfl ?_
                        refine o_on rfl rfl ?_
                        refine o_v (v_bin rfl rfl rfl) rfl ?_
                        refine o_on rfl rfl ?_
                        refine o_v (v_move rfl) rfl ?_
                        refine o_split (t := 53) rfl (fun h12 => ?_) (fun h12 => ?_)
                        · replace hL1 := ite_t h12 hL1
                          refine o_on rfl rfl ?_
                          refine o_v (v_move rfl) rfl ?_
                          refine o_on rfl rfl ?_
                          refine o_v (v_not rfl) rfl ?_
                          refine o_on rfl rfl ?_
                          refine o_v (v_pick_t rfl rfl) rfl ?_
                          refine o_v (v_pick_f rfl rfl) rfl ?_
                          refine o_nil ?_
                          refine s_st ?_ (hN4 (!v) hL1)
                          exact st_le [0, 0, 0, 0] (le_cons rfl (le_cons rfl (le_cons rfl (le_cons rfl (le_cons rfl (le_cons rfl (le_cons rfl (le_cons rfl (le_cons rfl (le_cons rfl (le_cons rfl (le_cons rfl le_nil)))))))))))) rfl sub_nil
                        · replace hL1 := ite_f h12 hL1
                          refine o_off rfl rfl (by decide) rfl ?_
                          refine o_off rfl rfl (by decide) rfl ?_
                          refine o_on rfl rfl ?_
                          refine o_v (v_pick_f rfl rfl) rfl ?_
                          refine o_v (v_pick_f rfl rfl) rfl ?_
                          refine o_nil ?_
                          refine s_st ?_ (hN4 false hL1)
                          exact st_le [0, 0, 0, 0] (le_cons rfl (le_cons rfl (le_cons rfl (le_cons rfl (le_cons rfl (le_cons rfl (le_cons rfl (le_cons rfl (le_cons rfl (le_cons rfl (le_cons rfl (le_cons rfl le_nil)))))))))))) rfl sub_nil
                    · replace hL1 := ite_f h9 hL1
                      refine o_off rfl rfl (by decide) rfl ?_
                      refine o_on rfl rfl ?_
                      refine o_v (v_pick_f rfl rfl) rfl ?_
                      refine o_on rfl rfl ?_
                      refine o_v (v_move rfl) rfl ?_
                      refine o_off rfl rfl (by decide) rfl ?_
                      refine o_on rfl rfl ?_
                      refine o_v (v_pick_f rfl rfl) rfl ?_
                      refine o_v (v_pick_f rfl rfl) rfl ?_
                      refine o_v (v_move rfl) rfl ?_
                      refine o_on rfl rfl ?_
                      refine o_v (v_move rfl) rfl ?_
                      refine o_on rfl rfl ?_
                      refine o_v (v_bin rfl rfl rfl) rfl ?_
                      refine o_on rfl rfl ?_
                      refine o_v (v_move rfl) rfl ?_
                      refine o_split (t := 42) rfl (fun h13 => ?_) (fun h13 => ?_)
                      · replace hL1 := ite_t h13 hL1
                        refine o_on rfl rfl ?_
                        refine o_v (v_move rfl) rfl ?_
                        refine o_on rfl rfl ?_
                        refine o_v (v_pick_t rfl rfl) rfl ?_
                        refine o_on rfl rfl ?_
                        refine o_v (v_move rfl) rfl ?_
                        refine o_know (t := 45) rfl h7 ?_
                        refine o_off rfl rfl (by decide) rfl ?_
                        refine o_off rfl rfl (by decide) rfl ?_
                        refine o_on rfl rfl ?_
                        refine o_v (v_pick_f rfl rfl) rfl ?_
                        refine o_v (v_pick_f rfl rfl) rfl ?_
                        refine o_v (v_move rfl) rfl ?_
                        refine o_on rfl rfl ?_
                        refine o_v (v_move rfl) rfl ?_
                        refine o_on rfl rfl ?_
                        refine o_v (v_bin rfl rfl rfl) rfl ?_
                        refine o_on rfl rfl ?_
                        refine o_v (v_move rfl) rfl ?_
                        refine o_split (t := 53) rfl (fun h14 => ?_) (fun h14 => ?_)
                        · replace hL1 := ite_t h14 hL1
                          refine o_on rfl rfl ?_
                          refine o_v (v_move rfl) rfl ?_
                          refine o_on rfl rfl ?_
                          refine o_v (v_not rfl) rfl ?_
                          refine o_on rfl rfl ?_
                          refine o_v (v_pick_t rfl rfl) rfl ?_
                          refine o_v (v_pick_f rfl rfl) rfl ?_
                          refine o_nil ?_
                          refine s_st ?_ (hN4 (!v) hL1)
                          exact st_le [0, 0, 0, 0] (le_cons rfl (le_cons rfl (le_cons rfl (le_cons rfl (le_cons rfl (le_cons rfl (le_cons rfl (le_cons rfl (le_cons rfl (le_cons rfl (le_cons rfl (le_cons rfl le_nil)))))))))))) rfl sub_nil
                        · replace hL1 := ite_f h14 hL1
                          refine o_off rfl rfl (by decide) rfl ?_
                          refine o_off rfl rfl (by decide) rfl ?_
                          refine o_on rfl rfl ?_
                          refine o_v (v_pick_f rfl rfl) rfl ?_
                          refine o_v (v_pick_f rfl rfl) rfl ?_
                          refine o_nil ?_
                          refine s_st ?_ (hN4 false hL1)
                          exact st_le [0, 0, 0, 0] (le_cons rfl (le_cons rfl (le_cons rfl (le_cons rfl (le_cons rfl (le_cons rfl (le_cons rfl (le_cons rfl (le_cons rfl (le_cons rfl (le_cons rfl (le_cons rfl le_nil)))))))))))) rfl sub_nil
                      · replace hL1 := ite_f h13 hL1
                        refine o_off rfl rfl (by decide) rfl ?_
                        refine o_on rfl rfl ?_
                        refine o_v (v_pick_f rfl rfl) rfl ?_
                        refine o_on rfl rfl ?_
                        refine o_v (v_move rfl) rfl ?_
                        refine o_off rfl rfl (by decide) rfl ?_
                        refine o_off rfl rfl (by decide) rfl ?_
                        refine o_on rfl rfl ?_
                        refine o_v (v_pick_f rfl rfl) rfl ?_
                        refine o_v (v_pick_f rfl rfl) rfl ?_
                        refine o_v (v_move rfl) rfl ?_
                        refine o_on rfl rfl ?_
                        refine o_v (v_move rfl) rfl ?_
                        refine o_on rfl rfl ?_
                        refine o_v (v_bin rfl rfl rfl) rfl ?_
                        refine o_on rfl rfl ?_
                        refine o_v (v_move rfl) rfl ?_
                        refine o_split (t := 53) rfl (fun h15 => ?_) (fun h15 => ?_)
                        · replace hL1 := ite_t h15 hL1
                          refine o_on rfl rfl ?_
                          refine o_v (v_move rfl) rfl ?_
                          refine o_on rfl rfl ?_
                          refine o_v (v_not rfl) rfl ?_
                          refine o_on rfl rfl ?_
                          refine o_v (v_pick_t rfl rfl) rfl ?_
                          refine o_v (v_pick_f rfl rfl) rfl ?_
                          refine o_nil ?_
                          refine s_st ?_ (hN4 (!v) hL1)
                          exact st_le [0, 0, 0, 0] (le_cons rfl (le_cons rfl (le_cons rfl (le_cons rfl (le_cons rfl (le_cons rfl (le_cons rfl (le_cons rfl (le_cons rfl (le_cons rfl (le_cons rfl (le_cons rfl le_nil)))))))))))) rfl sub_nil
                        · replace hL1 := ite_f h15 hL1
                          refine o_off rfl rfl (by decide) rfl ?_
                          refine o_off rfl rfl (by decide) rfl ?_
                          refine o_on rfl rfl ?_
                          refine o_v (v_pick_f rfl rfl) rfl ?_
                          refine o_v (v_pick_f rfl rfl) rfl ?_
                          refine o_nil ?_
                          refine s_st ?_ (hN4 false hL1)
                          exact st_le [0, 0, 0, 0] (le_cons rfl (le_cons rfl (le_cons rfl (le_cons rfl (le_cons rfl (le_cons rfl (le_cons rfl (le_cons rfl (le_cons rfl (le_cons rfl (le_cons rfl (le_cons rfl le_nil)))))))))))) rfl sub_nil
              · replace hL1 := ite_f h6 hL1
                refine o_off rfl rfl (by decide) rfl ?_
                refine o_off rfl rfl (by decide) rfl ?_
                refine o_offU rfl rfl rfl ?_
                refine o_off rfl rfl (by decide) rfl ?_
                refine o_v (v_pick_f rfl rfl) rfl ?_
                refine o_v (v_move rfl) rfl ?_
                refine o_on rfl rfl ?_
                refine o_v (v_move rfl) rfl ?_
                refine o_on rfl rfl ?_
                refine o_v (v_bin rfl rfl rfl) rfl ?_
                refine o_on rfl rfl ?_
                refine o_v (v_move rfl) rfl ?_
                refine o_split (t := 32) rfl (fun h16 => ?_) (fun h16 => ?_)
                · replace hL1 := ite_t h16 hL1
                  refine o_on rfl rfl ?_
                  refine o_v (v_move rfl) rfl ?_
                  refine o_on rfl rfl ?_
                  refine o_v (v_pick_t rfl rfl) rfl ?_
                  refine o_on rfl rfl ?_
                  refine o_v (v_move rfl) rfl ?_
                  refine o_split (t := 35) rfl (fun h17 => ?_) (fun h17 => ?_)
                  · replace hL1 := ite_t h17 hL1
                    refine o_on rfl rfl ?_
                    refine o_v (v_move rfl) rfl ?_
                    refine o_on rfl rfl ?_
                    refine o_v (v_pick_t rfl rfl) rfl ?_
                    refine o_v (v_pick_f rfl rfl) rfl ?_
                    refine o_v (v_move rfl) rfl ?_
                    refine o_split (t := 39) rfl (fun h18 => ?_) (fun h18 => ?_)
                    · replace hL1 := ite_t h18 hL1
                      refine o_off rfl rfl (by decide) rfl ?_
                      refine o_off rfl rfl (by decide) rfl ?_
                      refine o_off rfl rfl (by decide) rfl ?_
                      refine o_offU rfl rfl rfl ?_
                      refine o_off rfl rfl (by decide) rfl ?_
                      refine o_off rfl rfl (by decide) rfl ?_
                      refine o_offU rfl rfl rfl ?_
                      refine o_offU rfl rfl rfl ?_
                      refine o_off rfl rfl (by decide) rfl ?_
                      refine o_v (v_pick_t rfl rfl) rfl ?_
                      refine o_v (v_move rfl) rfl ?_
                      refine o_off rfl rfl (by decide) rfl ?_
                      refine o_off rfl rfl (by decide) rfl ?_
                      refine o_off rfl rfl (by decide) rfl ?_
                      refine o_offU rfl rfl rfl ?_
                      refine o_offU rfl rfl rfl ?_
                      refine o_off rfl rfl (by decide) rfl ?_
                      refine o_v (v_pick_t rfl rfl) rfl ?_
                      refine o_nil ?_
                      refine s_st ?_ (hN4 true hL1)
                      exact st_le [0, 0, 0, 0] (le_cons rfl (le_cons rfl (le_cons rfl (le_cons rfl (le_cons rfl (le_cons rfl (le_cons rfl (le_cons rfl (le_cons rfl (le_cons rfl (le_cons rfl (le_cons rfl le_nil)))))))))))) rfl sub_nil
                    · replace hL1 := ite_f h18 hL1
                      refine o_on rfl rfl ?_
                      refine o_v (v_move rfl) rfl ?_
                      refine o_on rfl rfl ?_
                      refine o_v (v_bin rfl rfl rfl) rfl ?_
                      refine o_on rfl rfl ?_
                      refine o_v (v_move rfl) rfl ?_
                      refine o_split (t := 42) rfl (fun h19 => ?_) (fun h19 => ?_)
                      · replace hL1 := ite_t h19 hL1
                        refine o_on rfl rfl ?_
                        refine o_v (v_move rfl) rfl ?_
                        refine o_on rfl rfl ?_
                        refine o_v (v_pick_t rfl rfl) rfl ?_
                        refine o_on rfl rfl ?_
                        refine o_v (v_move rfl) rfl ?_
                        refine o_know (t := 45) rfl h17 ?_
                        refine o_on rfl rfl ?_
                        refine o_v (v_move rfl) rfl ?_
                        refine o_on rfl rfl ?_
                        refine o_v (v_not rfl) rfl ?_
                        refine o_on rfl rfl ?_
                        refine o_v (v_pick_t rfl rfl) rfl ?_
                        refine o_v (v_pick_f rfl rfl) rfl ?_
                        refine o_v (v_move rfl) rfl ?_
                        refine o_split (t := 50) rfl (fun h20 => ?_) (fun h20 => ?_)
                        · replace hL1 := ite_t h20 hL1
                          refine o_off rfl rfl (by decide) rfl ?_
                          refine o_off rfl rfl (by decide) rfl ?_
                          refine o_off rfl rfl (by decide) rfl ?_
                          refine o_offU rfl rfl rfl ?_
                          refine o_offU rfl rfl rfl ?_
                          refine o_off rfl rfl (by decide) rfl ?_
                          refine o_v (v_pick_t rfl rfl) rfl ?_
                          refine o_nil ?_
                          refine s_st ?_ (hN4 true hL1)
                          exact st_le [0, 0, 0, 0] (le_cons rfl (le_cons rfl (le_cons rfl (le_cons rfl (le_cons rfl (le_cons rfl (le_cons rfl (le_cons rfl (le_cons rfl (le_cons rfl (le_cons rfl (le_cons rfl le_nil)))))))))))) rfl sub_nil
                        · replace hL1 := ite_f h20 hL1
                          refine o_on rfl rfl ?_
                          refine o_v (v_move rfl) rfl ?_
                          refine o_on rfl rfl ?_
                          refine o_v (v_bin rfl rfl rfl) rfl ?_
                          refine o_on rfl rfl ?_
                          refine o_v (v_move rfl) rfl ?_
                          refine o_split (t := 53) rfl (fun h21 => ?_) (fun h21 => ?_)
                          · replace hL1 := ite_t h21 hL1
                            refine o_on rfl rfl ?_
                            refine o_v (v_move rfl) rfl ?_
                            refine o_on rfl rfl ?_
                            refine o_v (v_not rfl) rfl ?_
                            refine o_on rfl rfl ?_
                            refine o_v (v_pick_t rfl rfl) rfl ?_
                            refine o_v (v_pick_f rfl rfl) rfl ?_
                            refine o_nil ?_
                            refine s_st ?_ (hN4 (!v) hL1)
                            exact st_le [0, 0, 0, 0] (le_cons rfl (le_cons rfl (le_cons rfl (le_cons rfl (le_cons rfl (le_cons rfl (le_cons rfl (le_cons rfl (le_cons rfl (le_cons rfl (le_cons rfl (le_cons rfl le_nil)))))))))))) rfl sub_nil
                          · replace hL1 := ite_f h21 hL1
                            refine o_off rfl rfl (by decide) rfl ?_
                            refine o_off rfl rfl (by decide) rfl ?_
                            refine o_on rfl rfl ?_
                            refine o_v (v_pick_f rfl rfl) rfl ?_
                            refine o_v (v_pick_f rfl rfl) rfl ?_
                            refine o_nil ?_
                            refine s_st ?_ (hN4 false hL1)
                            exact st_le [0, 0, 0, 0] (le_cons rfl (le_cons rfl (le_cons rfl (le_cons rfl (le_cons rfl (le_cons rfl (le_cons rfl (le_cons rfl (le_cons rfl (le_cons rfl (le_cons rfl (le_cons rfl le_nil)))))))))))) rfl sub_nil
                      · replace hL1 := ite_f h19 hL1
                        refine o_off rfl rfl (by decide) rfl ?_
                        refine o_on rfl rfl ?_
                        refine o_v (v_pick_f rfl rfl) rfl ?_
                        refine o_on rfl rfl ?_
                        refine o_v (v_move rfl) rfl ?_
                        refine o_off rfl rfl (by decide) rfl ?_
                        refine o_off rfl rfl (by decide) rfl ?_
                        refine o_on rfl rfl ?_
                        refine o_v (v_pick_f rfl rfl) rfl ?_
                        refine o_v (v_pick_f rfl rfl) rfl ?_
                        refine o_v (v_move rfl) rfl ?_
                        refine o_on rfl rfl ?_
                        refine o_v (v_move rfl) rfl ?_
                        refine o_on rfl rfl ?_
                        refine o_v (v_bin rfl rfl rfl) rfl ?_
                        refine o_on rfl rfl ?_
                        refine o_v (v_move rfl) rfl ?_
                        refine o_split (t := 53) rfl (fun h22 => ?_) (fun h22 => ?_)
                        · replace hL1 := ite_t h22 hL1
                          refine o_on rfl rfl ?_
                          refine o_v (v_move rfl) rfl ?_
                          refine o_on rfl rfl ?_
                          refine o_v (v_not rfl) rfl ?_
                          refine o_on rfl rfl ?_
                          refine o_v (v_pick_t rfl rfl) rfl ?_
                          refine o_v (v_pick_f rfl rfl) rfl ?_
                          refine o_nil ?_
                          refine s_st ?_ (hN4 (!v) hL1)
                          exact st_le [0, 0, 0, 0] (le_cons rfl (le_cons rfl (le_cons rfl (le_cons rfl (le_cons rfl (le_cons rfl (le_cons rfl (le_cons rfl (le_cons rfl (le_cons rfl (le_cons rfl (le_cons rfl le_nil)))))))))))) rfl sub_nil
                        · replace hL1 := ite_f h22 hL1
                          refine o_off rfl rfl (by decide) rfl ?_
                          refine o_off rfl rfl (by decide) rfl ?_
                          refine o_on rfl rfl ?_
                          refine o_v (v_pick_f rfl rfl) rfl ?_
                          refine o_v (v_pick_f rfl rfl) rfl ?_
                          refine o_nil ?_
                          refine s_st ?_ (hN4 false hL1)
                          exact st_le [0, 0, 0, 0] (le_cons rfl (le_cons rfl (le_cons rfl (le_cons rfl (le_cons rfl (le_cons rfl (le_cons rfl (le_cons rfl (le_cons rfl (le_cons rfl (le_cons rfl (le_cons rfl le_nil)))))))))))) rfl sub_nil
                  · replace hL1 := ite_f h17 hL1
                    refine o_off rfl rfl (by decide) rfl ?_
                    refine o_on rfl rfl ?_
                    refine o_v (v_pick_f rfl rfl) rfl ?_
                    refine o_v (v_pick_f rfl rfl) rfl ?_
                    refine o_v (v_move rfl) rfl ?_
                    refine o_on rfl rfl ?_
                    refine o_v (v_move rfl) rfl ?_
                    refine o_on rfl rfl ?_
                    refine o_v (v_bin rfl rfl rfl) rfl ?_
                    refine o_on rfl rfl ?_
                    refine o_v (v_move rfl) rfl ?_
                    refine o_split (t := 42) rfl (fun h23 => ?_) (fun h23 => ?_)
                    · replace hL1 := ite_t h23 hL1
                      refine o_on rfl rfl ?_
                      refine o_v (v_move rfl) rfl ?_
                      refine o_on rfl rfl ?_
                      refine o_v (v_pick_t rfl rfl) rfl ?_
                      refine o_on rfl rfl ?_
                      refine o_v (v_move rfl) rfl ?_
                      refine o_know (t := 45) rfl h17 ?_
                      refine o_off rfl rfl (by decide) rfl ?_
                      refine o_off rfl rfl (by decide) rfl ?_
                      refine o_on rfl rfl ?_
                      refine o_v (v_pick_f rfl rfl) rfl ?_
                      refine o_v (v_pick_f rfl rfl) rfl ?_
                      refine o_v (v_move rfl) rfl ?_
                      refine o_on rfl rfl ?_
                      refine o_v (v_move rfl) rfl ?_
                      refine o_on rfl rfl ?_
                      refine o_v (v_bin rfl rfl rfl) rfl ?_
                      refine o_on rfl rfl ?_
                      refine o_v (v_move rfl) rfl ?_
                      refine o_split (t := 53) rfl (fun h24 => ?_) (fun h24 => ?_)
                      · replace hL1 := ite_t h24 hL1
                        refine o_on rfl rfl ?_
                        refine o_v (v_move rfl) rfl ?_
                        refine o_on rfl rfl ?_
                        refine o_v (v_not rfl) rfl ?_
                        refine o_on rfl rfl ?_
                        refine o_v (v_pick_t rfl rfl) rfl ?_
                        refine o_v (v_pick_f rfl rfl) rfl ?_
                        refine o_nil ?_
                        refine s_st ?_ (hN4 (!v) hL1)
                        exact st_le [0, 0, 0, 0] (le_cons rfl (le_cons rfl (le_cons rfl (le_cons rfl (le_cons rfl (le_cons rfl (le_cons rfl (le_cons rfl (le_cons rfl (le_cons rfl (le_cons rfl (le_cons rfl le_nil)))))))))))) rfl sub_nil
                      · replace hL1 := ite_f h24 hL1
                        refine o_off rfl rfl (by decide) rfl ?_
                        refine o_off rfl rfl (by decide) rfl ?_
                        refine o_on rfl rfl ?_
                        refine o_v (v_pick_f rfl rfl) rfl ?_
                        refine o_v (v_pick_f rfl rfl) rfl ?_
                        refine o_nil ?_
                        refine s_st ?_ (hN4 false hL1)
                        exact st_le [0, 0, 0, 0] (le_cons rfl (le_cons rfl (le_cons rfl (le_cons rfl (le_cons rfl (le_cons rfl (le_cons rfl (le_cons rfl (le_cons rfl (le_cons rfl (le_cons rfl (le_cons rfl le_nil)))))))))))) rfl sub_nil
                    · replace hL1 := ite_f h23 hL1
                      refine o_off rfl rfl (by decide) rfl ?_
                      refine o_on rfl rfl ?_
                      refine o_v (v_pick_f rfl rfl) rfl ?_
                      refine o_on rfl rfl ?_
                      refine o_v (v_move rfl) rfl ?_
                      refine o_off rfl rfl (by decide) rfl ?_
                      refine o_off rfl rfl (by decide) rfl ?_
                      refine o_on rfl rfl ?_
                      refine o_v (v_pick_f rfl rfl) rfl ?_
                      refine o_v (v_pick_f rfl rfl) rfl ?_
                      refine o_v (v_move rfl) rfl ?_
                      refine o_on rfl rfl ?_
                      refine o_v (v_move rfl) rfl ?_
                      refine o_on rfl rfl ?_
                      refine o_v (v_bin rfl rfl rfl) rfl ?_
                      refine o_on rfl rfl ?_
                      refine o_v (v_move rfl) rfl ?_
                      refine o_split (t := 53) rfl (fun h25 => ?_) (fun h25 => ?_)
                      · replace hL1 := ite_t h25 hL1
                        refine o_on rfl rfl ?_
                        refine o_v (v_move rfl) rfl ?_
                        refine o_on rfl rfl ?_
                        refine o_v (v_not rfl) rfl ?_
                        refine o_on rfl rfl ?_
                        refine o_v (v_pick_t rfl rfl) rfl ?_
                        refine o_v (v_pick_f rfl rfl) rfl ?_
                        refine o_nil ?_
                        refine s_st ?_ (hN4 (!v) hL1)
                        exact st_le [0, 0, 0, 0] (le_cons rfl (le_cons rfl (le_cons rfl (le_cons rfl (le_cons rfl (le_cons rfl (le_cons rfl (le_cons rfl (le_cons rfl (le_cons rfl (le_cons rfl (le_cons rfl le_nil)))))))))))) rfl sub_nil
                      · replace hL1 := ite_f h25 hL1
                        refine o_off rfl rfl (by decide) rfl ?_
                        refine o_off rfl rfl (by decide) rfl ?_
                        refine o_on rfl rfl ?_
                        refine o_v (v_pick_f rfl rfl) rfl ?_
                        refine o_v (v_pick_f rfl rfl) rfl ?_
                        refine o_nil ?_
                        refine s_st ?_ (hN4 false hL1)
                        exact st_le [0, 0, 0, 0] (le_cons rfl (le_cons rfl (le_cons rfl (le_cons rfl (le_cons rfl (le_cons rfl (le_cons rfl (le_cons rfl (le_cons rfl (le_cons rfl (le_cons rfl (le_cons rfl le_nil)))))))))))) rfl sub_nil
                · replace hL1 := ite_f h16 hL1
                  refine o_off rfl rfl (by decide) rfl ?_
                  refine o_on rfl rfl ?_
                  refine o_v (v_pick_f rfl rfl) rfl ?_
                  refine o_on rfl rfl ?_
                  refine o_v (v_move rfl) rfl ?_
                  refine o_off rfl rfl (by decide) rfl ?_
                  refine o_on rfl rfl ?_
                  refine o_v (v_pick_f rfl rfl) rfl ?_
                  refine o_v (v_pick_f rfl rfl) rfl ?_
                  refine o_v (v_move rfl) rfl ?_
                  refine o_on rfl rfl ?_
                  refine o_v (v_move rfl) rfl ?_
                  refine o_on rfl rfl ?_
                  refine o_v (v_bin rfl rfl rfl) rfl ?_
                  refine o_on rfl rfl ?_
                  refine o_v (v_move rfl) rfl ?_
                  refine o_split (t := 42) rfl (fun h26 => ?_) (fun h26 => ?_)
                  · replace hL1 := ite_t h26 hL1
                    refine o_on rfl rfl ?_
                    refine o_v (v_move rfl) rfl ?_
                    refine o_on rfl rfl ?_
                    refine o_v (v_pick_t rfl rfl) rfl ?_
                    refine o_on rfl rfl ?_
                    refine o_v (v_move rfl) rfl ?_
                    refine o_split (t := 45) rfl (fun h27 => ?_) (fun h27 => ?_)
                    · replace hL1 := ite_t h27 hL1
                      refine o_on rfl rfl ?_
                      refine o_v (v_move rfl) rfl ?_
                      refine o_on rfl rfl ?_
                      refine o_v (v_not rfl) rfl ?_
                      refine o_on rfl rfl ?_
                      refine o_v (v_pick_t rfl rfl) rfl ?_
                      refine o_v (v_pick_f rfl rfl) rfl ?_
                      refine o_v (v_move rfl) rfl ?_
                      refine o_split (t := 50) rfl (fun h28 => ?_) (fun h28 => ?_)
                      · replace hL1 := ite_t h28 hL1
                        refine o_off rfl rfl (by decide) rfl ?_
                        refine o_off rfl rfl (by decide) rfl ?_
                        refine o_off rfl rfl (by decide) rfl ?_
                        refine o_offU rfl rfl rfl ?_
                        refine o_offU rfl rfl rfl ?_
                        refine o_off rfl rfl (by decide) rfl ?_
                        refine o_v (v_pick_t rfl rfl) rfl ?_
                        refine o_nil ?_
                        refine s_st ?_ (hN4 true hL1)
                        exact st_le [0, 0, 0, 0] (le_cons rfl (le_cons rfl (le_cons rfl (le_cons rfl (le_cons rfl (le_cons rfl (le_cons rfl (le_cons rfl (le_cons rfl (le_cons rfl (le_cons rfl (le_cons rfl le_nil)))))))))))) rfl sub_nil
                      · replace hL1 := ite_f h28 hL1
                        refine o_on rfl rfl ?_
                        refine o_v (v_move rfl) rfl ?_
                        refine o_on rfl rfl ?_
                        refine o_v (v_bin rfl rfl rfl) rfl ?_
                        refine o_on rfl rfl ?_
                        refine o_v (v_move rfl) rfl ?_
                        refine o_split (t := 53) rfl (fun h29 => ?_) (fun h29 => ?_)
                        · replace hL1 := ite_t h29 hL1
                          refine o_on rfl rfl ?_
                          refine o_v (v_move rfl) rfl ?_
                          refine o_on rfl rfl ?_
                          refine o_v (v_not rfl) rfl ?_
                          refine o_on rfl rfl ?_
                          refine o_v (v_pick_t rfl rfl) rfl ?_
                          refine o_v (v_pick_f rfl rfl) rfl ?_
                          refine o_nil ?_
                          refine s_st ?_ (hN4 (!v) hL1)
                          exact st_le [0, 0, 0, 0] (le_cons rfl (le_cons rfl (le_cons rfl (le_cons rfl (le_cons rfl (le_cons rfl (le_cons rfl (le_cons rfl (le_cons rfl (le_cons rfl (le_cons rfl (le_cons rfl le_nil)))))))))))) rfl sub_nil
                        · replace hL1 := ite_f h29 hL1
                          refine o_off rfl rfl (by decide) rfl ?_
                          refine o_off rfl rfl (by decide) rfl ?_
                          refine o_on rfl rfl ?_
                          refine o_v (v_pick_f rfl rfl) rfl ?_
                          refine o_v (v_pick_f rfl rfl) rfl ?_
                          refine o_nil ?_
                          refine s_st ?_ (hN4 false hL1)
                          exact st_le [0, 0, 0, 0] (le_cons rfl (le_cons rfl (le_cons rfl (le_cons rfl (le_cons rfl (le_cons rfl (le_cons rfl (le_cons rfl (le_cons rfl (le_cons rfl (le_cons rfl (le_cons rfl le_nil)))))))))))) rfl sub_nil
                    · replace hL1 := ite_f h27 hL1
                      refine o_off rfl rfl (by decide) rfl ?_
                      refine o_off rfl rfl (by decide) rfl ?_
                      refine o_on rfl rfl ?_
                      refine o_v (v_pick_f rfl rfl) rfl ?_
                      refine o_v (v_pick_f rfl rfl) rfl ?_
                      refine o_v (v_move rfl) rfl ?_
                      refine o_on rfl rfl ?_
                      refine o_v (v_move rfl) rfl ?_
                      refine o_on rfl rfl ?_
                      refine o_v (v_bin rfl rfl rfl) rfl ?_
                      refine o_on rfl rfl ?_
                      refine o_v (v_move rfl) rfl ?_
                      refine o_split (t := 53) rfl (fun h30 => ?_) (fun h30 => ?_)
                      · replace hL1 := ite_t h30 hL1
                        refine o_on rfl rfl ?_
                        refine o_v (v_move rfl) rfl ?_
                        refine o_on rfl rfl ?_
                        refine o_v (v_not rfl) rfl ?_
                        refine o_on rfl rfl ?_
                        refine o_v (v_pick_t rfl rfl) rfl ?_
                        refine o_v (v_pick_f rfl rfl) rfl ?_
                        refine o_nil ?_
                        refine s_st ?_ (hN4 (!v) hL1)
                        exact st_le [0, 0, 0, 0] (le_cons rfl (le_cons rfl (le_cons rfl (le_cons rfl (le_cons rfl (le_cons rfl (le_cons rfl (le_cons rfl (le_cons rfl (le_cons rfl (le_cons rfl (le_cons rfl le_nil)))))))))))) rfl sub_nil
                      · replace hL1 := ite_f h30 hL1
                        refine o_off rfl rfl (by decide) rfl ?_
                        refine o_off rfl rfl (by decide) rfl ?_
                        refine o_on rfl rfl ?_
                        refine o_v (v_pick_f rfl rfl) rfl ?_
                        refine o_v (v_pick_f rfl rfl) rfl ?_
                        refine o_nil ?_
                        refine s_st ?_ (hN4 false hL1)
                        exact st_le [0, 0, 0, 0] (le_cons rfl (le_cons rfl (le_cons rfl (le_cons rfl (le_cons rfl (le_cons rfl (le_cons rfl (le_cons rfl (le_cons rfl (le_cons rfl (le_cons rfl (le_cons rfl le_nil)))))))))))) rfl sub_nil
                  · replace hL1 := ite_f h26 hL1
                    refine o_off rfl rfl (by decide) rfl ?_
                    refine o_on rfl rfl ?_
                    refine o_v (v_pick_f rfl rfl) rfl ?_
                    refine o_on rfl rfl ?_
                    refine o_v (v_move rfl) rfl ?_
                    refine o_off rfl rfl (by decide) rfl ?_
                    refine o_off rfl rfl (by decide) rfl ?_
                    refine o_on rfl rfl ?_
                    refine o_v (v_pick_f rfl rfl) rfl ?_
                    refine o_v (v_pick_f rfl rfl) rfl ?_
                    refine o_v (v_move rfl) rfl ?_
                    refine o_on rfl rfl ?_
                    refine o_v (v_move rfl) rfl ?_
                    refine o_on rfl rfl ?_
                    refine o_v (v_bin rfl rfl rfl) rfl ?_
                    refine o_on rfl rfl ?_
                    refine o_v (v_move rfl) rfl ?_
                    refine o_split (t := 53) rfl (fun h31 => ?_) (fun h31 => ?_)
                    · replace hL1 := ite_t h31 hL1
                      refine o_on rfl rfl ?_
                      refine o_v (v_move rfl) rfl ?_
                      refine o_on rfl rfl ?_
                      refine o_v (v_not rfl) rfl ?_
                      refine o_on rfl rfl ?_
                      refine o_v (v_pick_t rfl rfl) rfl ?_
                      refine o_v (v_pick_f rfl rfl) rfl ?_
                      refine o_nil ?_
                      refine s_st ?_ (hN4 (!v) hL1)
                      exact st_le [0, 0, 0, 0] (le_cons rfl (le_cons rfl (le_cons rfl (le_cons rfl (le_cons rfl (le_cons rfl (le_cons rfl (le_cons rfl (le_cons rfl (le_cons rfl (le_cons rfl (le_cons rfl le_nil)))))))))))) rfl sub_nil
                    · replace hL1 := ite_f h31 hL1
                      refine o_off rfl rfl (by decide) rfl ?_
                      refine o_off rfl rfl (by decide) rfl ?_
                      refine o_on rfl rfl ?_
                      refine o_v (v_pick_f rfl rfl) rfl ?_
                      refine o_v (v_pick_f rfl rfl) rfl ?_
                      refine o_nil ?_
                      refine s_st ?_ (hN4 false hL1)
                      exact st_le [0, 0, 0, 0] (le_cons rfl (le_cons rfl (le_cons rfl (le_cons rfl (le_cons rfl (le_cons rfl (le_cons rfl (le_cons rfl (le_cons rfl (le_cons rfl (le_cons rfl (le_cons rfl le_nil)))))))))))) rfl sub_nil
            · intro t571 hL1
              unfold F.ref01.Op_j3 at hL1
              refine sat_wc ?_
              refine c_cut (fun E N' => ∀ (s2 : S4), F.ref01.Op_j4 (F.ref01.Op_l1 k a_ b kind j) i v v1 t571 s2 = some o1 → Sat E [(0, .int .i64 kind), (1, .agg #[.int .u64 a_.w0, .int .u64 a_.w1, .int .u64 a_.w2, .int .u64 a_.w3]), (2, .agg #[.int .u64 b.w0, .int .u64 b.w1, .int .u64 b.w2, .int .u64 b.w3]), (4, .pointer (some ⟨b1, 0, none⟩)), (5, .pointer (some ⟨b2, 0, none⟩)), (6, .pointer (some ⟨b3, 0, none⟩)), (7, .pointer (some ⟨b4, 0, none⟩)), (8, .int .i64 i), (9, .bool v), (10, .bool v1), (12, .bool (decide (i < 256))), (57, .bool t571)] [.box b4 26 [.int .u64 s2.w0, .int .u64 s2.w1, .int .u64 s2.w2, .int .u64 s2.w3], .box b3 26 [.int .u64 0, .int .u64 0, .int .u64 0, .int .u64 0], .box b2 26 [.int .u64 b.w0, .int .u64 b.w1, .int .u64 b.w2, .int .u64 b.w3], .box b1 26 [.int .u64 a_.w0, .int .u64 a_.w1, .int .u64 a_.w2, .int .u64 a_.w3]] [] N') (fun N4 hN4 => ?_) ?_
              · refine c_cond rfl (fun h4 => ?_) (fun h4 => ?_)
                · replace hL1 := ite_t h4 hL1
                  refine c_region ?_
                  refine o_v (v_load_box 0 ty26 rfl rfl rfl rfl rfl) rfl ?_
                  refine o_v (v_move rfl) rfl ?_
                  obtain ⟨v2, h5, hL1⟩ := bd hL1
                  refine o_callSB call37 rfl lent_nil (tri37 k s i v2 h5) rfl ?_
                  refine o_store_box 0 rfl ty26 rfl rfl rfl rfl rfl rfl rfl ?_
                  refine o_nil ?_
                  refine s_st ?_ (hN4 v2 hL1)
                  exact st_le [0, 0, 0, 0] (le_cons rfl (le_cons rfl (le_cons rfl (le_cons rfl (le_cons rfl (le_cons rfl (le_cons rfl (le_cons rfl (le_cons rfl (le_cons rfl (le_cons rfl (le_cons rfl le_nil)))))))))))) rfl sub_nil
                · replace hL1 := ite_f h4 hL1
                  refine c_skip ?_
                  refine s_st ?_ (hN4 s hL1)
                  exact st_le [0, 0, 0, 0] (le_cons rfl (le_cons rfl (le_cons rfl (le_cons rfl (le_cons rfl (le_cons rfl (le_cons rfl (le_cons rfl (le_cons rfl (le_cons rfl (le_cons rfl (le_cons rfl le_nil)))))))))))) rfl sub_nil
              · intro s2 hL1
                unfold F.ref01.Op_j4 at hL1
                refine s_st ?_ (hN2 v v1 t571 s2 hL1)
                exact st_le [0, 0, 0, 0] (le_cons rfl (le_cons rfl (le_cons rfl (le_cons rfl (le_cons rfl (le_cons rfl (le_cons rfl (le_cons rfl (le_cons rfl (le_cons rfl (le_cons rfl (le_cons rfl le_nil)))))))))))) rfl sub_nil
          · intro x y t57 s1 hL1
            unfold F.ref01.Op_j2 at hL1
            refine sat_wc ?_
            refine c_region ?_
            refine o_v (v_move rfl) rfl ?_
            refine o_v (v_bin rfl rfl rfl) rfl ?_
            refine o_v (v_assign rfl) rfl ?_
            refine o_nil ?_
            intro a w hs
            exact ⟨j, Nat.lt_succ_self j, IntKind.wrap .i64 (i + 1), s1, hL1, st_le [0, 0, 0, 0] (le_cons rfl (le_cons rfl (le_cons rfl (le_cons rfl (le_cons rfl (le_cons rfl (le_cons rfl (le_cons rfl le_nil)))))))) rfl sub_nil a w hs⟩
        · replace hL1 := ite_f h1 hL1
          refine c_exit0 ?_
          cases hL1
          refine s_st ?_ (hN1)
          exact st_le [0, 0] (le_cons rfl (le_cons rfl (le_cons rfl (le_cons rfl le_nil)))) rfl sub_nil
  · refine sat_wc ?_
    refine c_seq ?_
    refine c_region ?_
    refine o_v (v_load_box 0 ty26 rfl rfl rfl rfl rfl) rfl ?_
    refine o_store_box 1 rfl ty26 rfl rfl rfl rfl rfl rfl rfl ?_
    refine o_seq ?_
    refine c_ret ?_
    cases hF
    refine s_ret1 rfl (r_cell 1 rfl ty26 rfl rfl rfl rfl) fun a w hs => ?_
    exact fin_sel hs [] ⟨rfl, rfl, rfl⟩ rfl sub_nil
theorem tri22 (k : Nat) (text : List UInt8) (r : S4 × Fault) (hF : F.ref01.Parse k text = some r) :
    Tri Try.prog 22 [.string (bs text)] [] [] (fun o H Φ => o = .ret (.tuple #[.agg #[.int .u64 r.1.w0, .int .u64 r.1.w1, .int .u64 r.1.w2, .int .u64 r.1.w3], .agg #[.int .i64 r.2.At, .int .i64 r.2.Code]]) ∧ H = [] ∧ Φ = []) := by
  unfold F.ref01.Parse at hF
  refine tri_intro (n := 129) Try.func22 rfl Try.ntmps22 rfl fun w X => ?_
  refine c_seq ?_
  refine c_region ?_
  refine o_alloc zero26 rfl rfl fun b => ?_
  refine o_alloc zero38 rfl rfl fun b1 => ?_
  refine o_seq ?_
  refine c_seq ?_
  refine c_region ?_
  refine o_alloc zero26 rfl rfl fun b2 => ?_
  refine o_alloc zero26 rfl rfl fun b3 => ?_
  refine o_seq ?_
  refine c_seq ?_
  refine c_seq ?_
  refine c_region ?_
  refine o_v (v_move rfl) rfl ?_
  refine o_v (v_len_str Try.underlying9 rfl) rfl ?_
  refine o_v (v_bin rfl rfl rfl) rfl ?_
  refine o_seq ?_
  refine c_cond rfl (fun h1 => ?_) (fun h1 => ?_)
  · replace hF := ite_t h1 hF
    refine c_seq ?_
    refine c_region ?_
    refine o_v (v_load_box 1 ty26 rfl rfl rfl rfl rfl) rfl ?_
    refine o_v (v_build (v := .agg #[.int .i64 0, .int .i64 2]) rfl (fun _ => by kernel_rfl)) rfl ?_
    refine o_store_box 3 rfl ty26 rfl rfl rfl rfl rfl rfl rfl ?_
    refine o_store_box 2 rfl ty38 rfl rfl rfl rfl rfl rfl rfl ?_
    refine o_seq ?_
    refine c_ret ?_
    cases hF
    refine s_ret2 rfl (r_cell 3 rfl ty26 rfl rfl rfl rfl) (r_cell 2 rfl ty38 rfl rfl rfl rfl) fun a w hs => ?_
    exact fin_sel hs [] ⟨rfl, rfl, rfl⟩ rfl sub_nil
  · replace hF := ite_f h1 hF
    refine c_skip ?_
    refine sat_wc ?_
    refine c_seq ?_
    refine c_seq ?_
    refine c_cut (fun E N' => ∀ (t29 : Bool), F.ref01.Parse_j1 k text t29 = some r → Sat E [(0, .string (bs text)), (2, .pointer (some ⟨b, 0, none⟩)), (3, .pointer (some ⟨b1, 0, none⟩)), (4, .pointer (some ⟨b2, 0, none⟩)), (5, .pointer (some ⟨b3, 0, none⟩)), (19, .bool (decide (65536 < (text.length : Int)))), (29, .bool t29)] [.box b3 26 [.int .u64 0, .int .u64 0, .int .u64 0, .int .u64 0], .box b2 26 [.int .u64 0, .int .u64 0, .int .u64 0, .int .u64 0], .box b1 38 [.int .i64 0, .int .i64 0], .box b 26 [.int .u64 0, .int .u64 0, .int .u64 0, .int .u64 0]] [] N') (fun N9 hN9 => ?_) ?_
    · refine c_region ?_
      refine o_v (v_move rfl) rfl ?_
      refine o_v (v_len_str Try.underlying9 rfl) rfl ?_
      refine o_v (v_bin rfl rfl rfl) rfl ?_
      refine o_v (v_move rfl) rfl ?_
      refine o_split (t := 25) rfl (fun h22 => ?_) (fun h22 => ?_)
      · replace hF := ite_t h22 hF
        refine o_off rfl rfl (by decide) rfl ?_
        refine o_off rfl rfl (by decide) rfl ?_
        refine o_off rfl rfl (by decide) rfl ?_
        refine o_v (v_pick_t rfl rfl) rfl ?_
        refine o_nil ?_
        refine s_st ?_ (hN9 true hF)
        exact st_le [0, 0, 0, 0] (le_cons rfl (le_cons rfl (le_cons rfl (le_cons rfl (le_cons rfl (le_cons rfl (le_cons rfl le_nil))))))) rfl sub_nil
      · replace hF := ite_f h22 hF
        refine o_on rfl rfl ?_
        refine o_v (v_move rfl) rfl ?_
        refine o_on rfl rfl ?_
        refine ite_some hF fun h23 hF => ?_
        refine o_v (v_sindex Try.underlying9 rfl rfl h23) rfl ?_
        refine o_on rfl rfl ?_
        refine o_v (v_bin rfl rfl rfl) rfl ?_
        refine o_v (v_pick_f rfl rfl) rfl ?_
        refine o_nil ?_
        refine s_st ?_ (hN9 ((sAt text 0) != 91) hF)
        exact st_le [0, 0, 0, 0] (le_cons rfl (le_cons rfl (le_cons rfl (le_cons rfl (le_cons rfl (le_cons rfl (le_cons rfl le_nil))))))) rfl sub_nil
    · intro t29 hF
      unfold F.ref01.Parse_j1 at hF
      refine sat_wc ?_
      refine c_cond rfl (fun h2 => ?_) (fun h2 => ?_)
      · replace hF := ite_t h2 hF
        refine c_seq ?_
        refine c_region ?_
        refine o_v (v_load_box 1 ty26 rfl rfl rfl rfl rfl) rfl ?_
        refine o_v (v_build (v := .agg #[.int .i64 0, .int .i64 13]) rfl (fun _ => by kernel_rfl)) rfl ?_
        refine o_store_box 3 rfl ty26 rfl rfl rfl rfl rfl rfl rfl ?_
        refine o_store_box 2 rfl ty38 rfl rfl rfl rfl rfl rfl rfl ?_
        refine o_seq ?_
        refine c_ret ?_
        cases hF
        refine s_ret2 rfl (r_cell 3 rfl ty26 rfl rfl rfl rfl) (r_cell 2 rfl ty38 rfl rfl rfl rfl) fun a w hs => ?_
        exact fin_sel hs [] ⟨rfl, rfl, rfl⟩ rfl sub_nil
      · replace hF := ite_f h2 hF
        refine c_skip ?_
        refine sat_wc ?_
        refine c_seq ?_
        refine c_region ?_
        refine o_v (v_assign rfl) rfl ?_
        refine o_seq ?_
        refine c_seq ?_
        refine c_cut (fun E N' => ∀ (turned : Bool), F.ref01.Parse_j2 k text turned = some r → Sat E [(0, .string (bs text)), (2, .pointer (some ⟨b, 0, none⟩)), (3, .pointer (some ⟨b1, 0, none⟩)), (4, .pointer (some ⟨b2, 0, none⟩)), (5, .pointer (some ⟨b3, 0, none⟩)), (6, .int .i64 1), (7, .bool turned), (19, .bool (decide (65536 < (text.length : Int)))), (29, .bool t29)] [.box b3 26 [.int .u64 0, .int .u64 0, .int .u64 0, .int .u64 0], .box b2 26 [.int .u64 0, .int .u64 0, .int .u64 0, .int .u64 0], .box b1 38 [.int .i64 0, .int .i64 0], .box b 26 [.int .u64 0, .int .u64 0, .int .u64 0, .int .u64 0]] [] N') (fun N9 hN9 => ?_) ?_
        · refine c_region ?_
          refine o_v (v_move rfl) rfl ?_
          refine o_v (v_len_str Try.underlying9 rfl) rfl ?_
          refine o_v (v_bin rfl rfl rfl) rfl ?_
          refine o_v (v_move rfl) rfl ?_
          refine o_split (t := 35) rfl (fun h20 => ?_) (fun h20 => ?_)
          · replace hF := ite_t h20 hF
            refine o_on rfl rfl ?_
            refine o_v (v_move rfl) rfl ?_
            refine o_on rfl rfl ?_
            refine ite_some hF fun h21 hF => ?_
            refine o_v (v_sindex Try.underlying9 rfl rfl h21) rfl ?_
            refine o_on rfl rfl ?_
            refine o_v (v_bin rfl rfl rfl) rfl ?_
            refine o_v (v_pick_t rfl rfl) rfl ?_
            refine o_v (v_assign rfl) rfl ?_
            refine o_nil ?_
            refine s_st ?_ (hN9 ((sAt text 1) == 94) hF)
            exact st_le [0, 0, 0, 0] (le_cons rfl (le_cons rfl (le_cons rfl (le_cons rfl (le_cons rfl (le_cons rfl (le_cons rfl (le_cons rfl (le_cons rfl le_nil))))))))) rfl sub_nil
          · replace hF := ite_f h20 hF
            refine o_off rfl rfl (by decide) rfl ?_
            refine o_off rfl rfl (by decide) rfl ?_
            refine o_off rfl rfl (by decide) rfl ?_
            refine o_v (v_pick_f rfl rfl) rfl ?_
            refine o_v (v_assign rfl) rfl ?_
            refine o_nil ?_
            refine s_st ?_ (hN9 false hF)
            exact st_le [0, 0, 0, 0] (le_cons rfl (le_cons rfl (le_cons rfl (le_cons rfl (le_cons rfl (le_cons rfl (le_cons rfl (le_cons rfl (le_cons rfl le_nil))))))))) rfl sub_nil
        · intro turned hF
          unfold F.ref01.Parse_j2 at hF
          refine sat_wc ?_
          refine c_seq ?_
          refine c_seq ?_
          refine c_region ?_
          refine o_v (v_move rfl) rfl ?_
          refine o_seq ?_
          refine c_cut (fun E N' => ∀ (at_ : Int), F.ref01.Parse_j3 k text turned at_ = some r → Sat E [(0, .string (bs text)), (2, .pointer (some ⟨b, 0, none⟩)), (3, .pointer (some ⟨b1, 0, none⟩)), (4, .pointer (some ⟨b2, 0, none⟩)), (5, .pointer (some ⟨b3, 0, none⟩)), (6, .int .i64 at_), (7, .bool turned), (19, .bool (decide (65536 < (text.length : Int)))), (29, .bool t29)] [.box b3 26 [.int .u64 0, .int .u64 0, .int .u64 0, .int .u64 0], .box b2 26 [.int .u64 0, .int .u64 0, .int .u64 0, .int .u64 0], .box b1 38 [.int .i64 0, .int .i64 0], .box b 26 [.int .u64 0, .int .u64 0, .int .u64 0, .int .u64 0]] [] N') (fun N9 hN9 => ?_) ?_
          · refine c_cond rfl (fun h19 => ?_) (fun h19 => ?_)
            · replace hF := ite_t h19 hF
              refine c_region ?_
              refine o_v (v_assign rfl) rfl ?_
              refine o_nil ?_
              refine s_st ?_ (hN9 2 hF)
              exact st_le [0, 0, 0, 0] (le_cons rfl (le_cons rfl (le_cons rfl (le_cons rfl (le_cons rfl (le_cons rfl (le_cons rfl (le_cons rfl (le_cons rfl le_nil))))))))) rfl sub_nil
            · replace hF := ite_f h19 hF
              refine c_skip ?_
              refine s_st ?_ (hN9 1 hF)
              exact st_le [0, 0, 0, 0] (le_cons rfl (le_cons rfl (le_cons rfl (le_cons rfl (le_cons rfl (le_cons rfl (le_cons rfl (le_cons rfl (le_cons rfl le_nil))))))))) rfl sub_nil
          · intro at_ hF
            unfold F.ref01.Parse_j3 at hF
            refine sat_wc ?_
            refine c_seq ?_
            obtain ⟨o4, ho4, hF⟩ := bd hF
            refine c_cut (fun E N' => ∀ (d4 : Int × S4), o4 = .done d4 → Sat E [(0, .string (bs text)), (2, .pointer (some ⟨b, 0, none⟩)), (3, .pointer (some ⟨b1, 0, none⟩)), (4, .pointer (some ⟨b2, 0, none⟩)), (5, .pointer (some ⟨b3, 0, none⟩)), (6, .int .i64 d4.1), (7, .bool turned), (19, .bool (decide (65536 < (text.length : Int)))), (29, .bool t29)] [.box b3 26 [.int .u64 d4.2.w0, .int .u64 d4.2.w1, .int .u64 d4.2.w2, .int .u64 d4.2.w3], .box b2 26 [.int .u64 0, .int .u64 0, .int .u64 0, .int .u64 0], .box b1 38 [.int .i64 0, .int .i64 0], .box b 26 [.int .u64 0, .int .u64 0, .int .u64 0, .int .u64 0]] [] N') (fun N4 hN4 => ?_) ?_
            · refine c_block ?_
              refine c_loopE (fun E j a w => ∃ (at_1 : Int) (s : S4), F.ref01.Parse_l4 k text j at_1 s = some o4 ∧ St E [(0, .string (bs text)), (2, .pointer (some ⟨b, 0, none⟩)), (3, .pointer (some ⟨b1, 0, none⟩)), (4, .pointer (some ⟨b2, 0, none⟩)), (5, .pointer (some ⟨b3, 0, none⟩)), (6, .int .i64 at_1), (7, .bool turned), (19, .bool (decide (65536 < (text.length : Int)))), (29, .bool t29)] [.box b3 26 [.int .u64 s.w0, .int .u64 s.w1, .int .u64 s.w2, .int .u64 s.w3], .box b2 26 [.int .u64 0, .int .u64 0, .int .u64 0, .int .u64 0], .box b1 38 [.int .i64 0, .int .i64 0], .box b 26 [.int .u64 0, .int .u64 0, .int .u64 0, .int .u64 0]] [] a w) k ?_ ?_
              · intro a w hs
                exact ⟨at_, (S4.mk 0 0 0 0), ho4, st_le [0, 0, 0, 0] (le_cons rfl (le_cons rfl (le_cons rfl (le_cons rfl (le_cons rfl (le_cons rfl (le_cons rfl (le_cons rfl (le_cons rfl le_nil))))))))) rfl sub_nil a w hs⟩
              · rintro j a w ⟨at_1, s, hL4, hs⟩
                cases j with
                | zero => cases hL4
                | succ j =>
                  refine wc_app hs ?_
                  unfold F.ref01.Parse_l4 at hL4
                  refine c_seq ?_
                  refine c_seq ?_
                  refine c_cut (fun E N' => ∀ (t50 : Bool), F.ref01.Parse_j5 k text at_1 s (F.ref01.Parse_l4 k text j) t50 = some o4 → Sat E [(0, .string (bs text)), (2, .pointer (some ⟨b, 0, none⟩)), (3, .pointer (some ⟨b1, 0, none⟩)), (4, .pointer (some ⟨b2, 0, none⟩)), (5, .pointer (some ⟨b3, 0, none⟩)), (6, .int .i64 at_1), (7, .bool turned), (19, .bool (decide (65536 < (text.length : Int)))), (29, .bool t29), (50, .bool t50)] [.box b3 26 [.int .u64 s.w0, .int .u64 s.w1, .int .u64 s.w2, .int .u64 s.w3], .box b2 26 [.int .u64 0, .int .u64 0, .int .u64 0, .int .u64 0], .box b1 38 [.int .i64 0, .int .i64 0], .box b 26 [.int .u64 0, .int .u64 0, .int .u64 0, .int .u64 0]] [] N') (fun N9 hN9 => ?_) ?_
                  · refine c_region ?_
                    refine o_v (v_move rfl) rfl ?_
                    refine o_v (v_move rfl) rfl ?_
                    refine o_v (v_len_str Try.underlying9 rfl) rfl ?_
                    refine o_v (v_bin rfl rfl rfl) rfl ?_
                    refine o_v (v_move rfl) rfl ?_
                    refine o_split (t := 45) rfl (fun h14 => ?_) (fun h14 => ?_)
                    · replace hL4 := ite_t h14 hL4
                      refine o_off rfl rfl (by decide) rfl ?_
                      refine o_off rfl rfl (by decide) rfl ?_
                      refine o_off rfl rfl (by decide) rfl ?_
                      refine o_off rfl rfl (by decide) rfl ?_
                      refine o_v (v_pick_t rfl rfl) rfl ?_
                      refine o_nil ?_
                      refine s_st ?_ (hN9 true hL4)
                      exact st_le [0, 0, 0, 0] (le_cons rfl (le_cons rfl (le_cons rfl (le_cons rfl (le_cons rfl (le_cons rfl (le_cons rfl (le_cons rfl (le_cons rfl (le_cons rfl le_nil)))))))))) rfl sub_nil
                    · replace hL4 := ite_f h14 hL4
                      refine o_on rfl rfl ?_
                      refine o_v (v_move rfl) rfl ?_
                      refine o_on rfl rfl ?_
                      refine o_v (v_move rfl) rfl ?_
                      refine o_on rfl rfl ?_
                      refine ite_some hL4 fun h15 hL4 => ?_
                      refine o_v (v_sindex Try.underlying9 rfl rfl h15) rfl ?_
                      refine o_on rfl rfl ?_
                      refine o_v (v_bin rfl rfl rfl) rfl ?_
                      refine o_v (v_pick_f rfl rfl) rfl ?_
                      refine o_nil ?_
                      refine s_st ?_ (hN9 ((sAt text at_1) != 93) hL4)
                      exact st_le [0, 0, 0, 0] (le_cons rfl (le_cons rfl (le_cons rfl (le_cons rfl (le_cons rfl (le_cons rfl (le_cons rfl (le_cons rfl (le_cons rfl (le_cons rfl le_nil)))))))))) rfl sub_nil
                  · intro t50 hL4
                    unfold F.ref01.Parse_j5 at hL4
                    refine sat_wc ?_
                    refine c_cond rfl (fun h3 => ?_) (fun h3 => ?_)
                    · replace hL4 := ite_t h3 hL4
                      refine c_skip ?_
                      refine sat_wc ?_
                      refine c_cut (fun E N' => ∀ (at_2 : Int) (lo : Int) (n : Int) (e_ : Int) (hi : Int) (next : Int) (i : Int) (t59 : Bool) (t77 : Bool) (t100 : Bool) (t107 : Bool) (s1 : S4), F.ref01.Parse_j6 (F.ref01.Parse_l4 k text j) at_2 lo n e_ hi next i t59 t77 t100 t107 s1 = some o4 → Sat E [(0, .string (bs text)), (2, .pointer (some ⟨b, 0, none⟩)), (3, .pointer (some ⟨b1, 0, none⟩)), (4, .pointer (some ⟨b2, 0, none⟩)), (5, .pointer (some ⟨b3, 0, none⟩)), (6, .int .i64 at_2), (7, .bool turned), (8, .int .i64 lo), (9, .int .i64 n), (10, .int .i64 e_), (11, .int .i64 hi), (12, .int .i64 next), (16, .int .i64 i), (19, .bool (decide (65536 < (text.length : Int)))), (29, .bool t29), (50, .bool t50), (59, .bool t59), (77, .bool t77), (100, .bool t100), (107, .bool t107)] [.box b3 26 [.int .u64 s1.w0, .int .u64 s1.w1, .int .u64 s1.w2, .int .u64 s1.w3], .box b2 26 [.int .u64 0, .int .u64 0, .int .u64 0, .int .u64 0], .box b1 38 [.int .i64 0, .int .i64 0], .box b 26 [.int .u64 0, .int .u64 0, .int .u64 0, .int .u64 0]] [] N') (fun N6 hN6 => ?_) ?_
                      · refine c_block ?_
                        refine c_seq ?_
                        refine c_region ?_
                        refine o_v (v_move rfl) rfl ?_
                        refine o_v (v_move rfl) rfl ?_
                        obtain ⟨v, h4, hL4⟩ := bd hL4
                        refine o_callSB call41 rfl lent_nil (tri41 k text at_1 v h4) rfl ?_
                        refine o_v (v_move rfl) rfl ?_
                        refine o_v (v_extract rfl rfl) rfl ?_
                        refine o_v (v_extract rfl rfl) rfl ?_
                        refine o_v (v_extract rfl rfl) rfl ?_
                        refine o_v (v_assign rfl) rfl ?_
                        refine o_v (v_assign rfl) rfl ?_
                        refine o_v (v_assign rfl) rfl ?_
                        refine o_seq ?_
                        refine c_seq ?_
                        refine c_seq ?_
                        refine c_region ?_
                        refine o_v (v_move rfl) rfl ?_
                        refine o_v (v_bin rfl rfl rfl) rfl ?_
                        refine o_seq ?_
                        refine c_cond rfl (fun h5 => ?_) (fun h5 => ?_)
                        · replace hL4 := ite_t h5 hL4
                          refine c_seq ?_
                          refine c_region ?_
                          refine o_v (v_load_box 1 ty26 rfl rfl rfl rfl rfl) rfl ?_
                          refine o_v (v_move rfl) rfl ?_
                          refine o_v (v_move rfl) rfl ?_
                          refine o_v (v_build (v := .agg #[.int .i64 at_1, .int .i64 v.2.2]) rfl (fun _ => by kernel_rfl)) rfl ?_
                          refine o_store_box 3 rfl ty26 rfl rfl rfl rfl rfl rfl rfl ?_
                          refine o_store_box 2 rfl ty38 rfl rfl rfl rfl rfl rfl rfl ?_
                          refine o_seq ?_
                          refine c_ret ?_
                          cases hL4
                          obtain rfl := lrf_ret hF
                          refine s_ret2 rfl (r_cell 3 rfl ty26 rfl rfl rfl rfl) (r_cell 2 rfl ty38 rfl rfl rfl rfl) fun a w hs => ?_
                          exact fin_sel hs [] ⟨rfl, rfl, rfl⟩ rfl sub_nil
                        · replace hL4 := ite_f h5 hL4
                          refine c_skip ?_
                          refine sat_wc ?_
                          refine c_seq ?_
                          refine c_region ?_
                          refine o_v (v_move rfl) rfl ?_
                          refine o_v (v_move rfl) rfl ?_
                          refine o_v (v_move rfl) rfl ?_
                          refine o_v (v_bin rfl rfl rfl) rfl ?_
                          refine o_v (v_assign rfl) rfl ?_
                          refine o_v (v_assign rfl) rfl ?_
                          refine o_seq ?_
                          refine c_seq ?_
                          refine c_seq ?_
                          refine c_cut (fun E N' => ∀ (t771 : Bool), F.ref01.Parse_j7 k text at_1 v s (F.ref01.Parse_l4 k text j) t771 = some o4 → Sat E [(0, .string (bs text)), (2, .pointer (some ⟨b, 0, none⟩)), (3, .pointer (some ⟨b1, 0, none⟩)), (4, .pointer (some ⟨b2, 0, none⟩)), (5, .pointer (some ⟨b3, 0, none⟩)), (6, .int .i64 at_1), (7, .bool turned), (8, .int .i64 v.1), (9, .int .i64 v.2.1), (10, .int .i64 v.2.2), (11, .int .i64 v.1), (12, .int .i64 (IntKind.wrap .i64 (at_1 + v.2.1))), (19, .bool (decide (65536 < (text.length : Int)))), (29, .bool t29), (50, .bool t50), (59, .bool (v.2.2 != 0)), (77, .bool t771)] [.box b3 26 [.int .u64 s.w0, .int .u64 s.w1, .int .u64 s.w2, .int .u64 s.w3], .box b2 26 [.int .u64 0, .int .u64 0, .int .u64 0, .int .u64 0], .box b1 38 [.int .i64 0, .int .i64 0], .box b 26 [.int .u64 0, .int .u64 0, .int .u64 0, .int .u64 0]] [] N') (fun N9 hN9 => ?_) ?_
                          · refine c_region ?_
                            refine o_v (v_move rfl) rfl ?_
                            refine o_v (v_move rfl) rfl ?_
                            refine o_v (v_len_str Try.underlying9 rfl) rfl ?_
                            refine o_v (v_bin rfl rfl rfl) rfl ?_
                            refine o_v (v_move rfl) rfl ?_
                            refine o_split (t := 72) rfl (fun h12 => ?_) (fun h12 => ?_)
                            · replace hL4 := ite_t h12 hL4
                              refine o_on rfl rfl ?_
                              refine o_v (v_move rfl) rfl ?_
                              refine o_on rfl rfl ?_
                              refine o_v (v_move rfl) rfl ?_
                              refine o_on rfl rfl ?_
                              refine ite_some hL4 fun h13 hL4 => ?_
                              refine o_v (v_sindex Try.underlying9 rfl rfl h13) rfl ?_
                              refine o_on rfl rfl ?_
                              refine o_v (v_bin rfl rfl rfl) rfl ?_
                              refine o_v (v_pick_t rfl rfl) rfl ?_
                              refine o_nil ?_
                              refine s_st ?_ (hN9 ((sAt text (IntKind.wrap .i64 (at_1 + v.2.1))) == 45) hL4)
                              exact st_le [0, 0, 0, 0] (le_cons rfl (le_cons rfl (le_cons rfl (le_cons rfl (le_cons rfl (le_cons rfl (le_cons rfl (le_cons rfl (le_cons rfl (le_cons rfl (le_cons rfl (le_cons rfl (le_cons rfl (le_cons rfl (le_cons rfl (le_cons rfl (le_cons rfl le_nil))))))))))))))))) rfl sub_nil
                            · replace hL4 := ite_f h12 hL4
                              refine o_off rfl rfl (by decide) rfl ?_
                              refine o_off rfl rfl (by decide) rfl ?_
                              refine o_off rfl rfl (by decide) rfl ?_
                              refine o_off rfl rfl (by decide) rfl ?_
                              refine o_v (v_pick_f rfl rfl) rfl ?_
                              refine o_nil ?_
                              refine s_st ?_ (hN9 false hL4)
                              exact st_le [0, 0, 0, 0] (le_cons rfl (le_cons rfl (le_cons rfl (le_cons rfl (le_cons rfl (le_cons rfl (le_cons rfl (le_cons rfl (le_cons rfl (le_cons rfl (le_cons rfl (le_cons rfl (le_cons rfl (le_cons rfl (le_cons rfl (le_cons rfl (le_cons rfl le_nil))))))))))))))))) rfl sub_nil
                          · intro t771 hL4
                            unfold F.ref01.Parse_j7 at hL4
                            refine sat_wc ?_
                            refine c_cut (fun E N' => ∀ (hi1 : Int) (next1 : Int), F.ref01.Parse_j8 k v at_1 s (F.ref01.Parse_l4 k text j) t771 hi1 next1 = some o4 → Sat E [(0, .string (bs text)), (2, .pointer (some ⟨b, 0, none⟩)), (3, .pointer (some ⟨b1, 0, none⟩)), (4, .pointer (some ⟨b2, 0, none⟩)), (5, .pointer (some ⟨b3, 0, none⟩)), (6, .int .i64 at_1), (7, .bool turned), (8, .int .i64 v.1), (9, .int .i64 v.2.1), (10, .int .i64 v.2.2), (11, .int .i64 hi1), (12, .int .i64 next1), (19, .bool (decide (65536 < (text.length : Int)))), (29, .bool t29), (50, .bool t50), (59, .bool (v.2.2 != 0)), (77, .bool t771)] [.box b3 26 [.int .u64 s.w0, .int .u64 s.w1, .int .u64 s.w2, .int .u64 s.w3], .box b2 26 [.int .u64 0, .int .u64 0, .int .u64 0, .int .u64 0], .box b1 38 [.int .i64 0, .int .i64 0], .box b 26 [.int .u64 0, .int .u64 0, .int .u64 0, .int .u64 0]] [] N') (fun N9 hN9 => ?_) ?_
                            · refine c_cond rfl (fun h9 => ?_) (fun h9 => ?_)
                              · replace hL4 := ite_t h9 hL4
                                refine c_seq ?_
                                refine c_region ?_
                                refine o_v (v_move rfl) rfl ?_
                                refine o_v (v_move rfl) rfl ?_
                                refine o_v (v_bin rfl rfl rfl) rfl ?_
                                obtain ⟨v2, h10, hL4⟩ := bd hL4
                                refine o_callSB call41 rfl lent_nil (tri41 k text (IntKind.wrap .i64 ((IntKind.wrap .i64 (at_1 + v.2.1)) + 1)) v2 h10) rfl ?_
                                refine o_v (v_move rfl) rfl ?_
                                refine o_v (v_extract rfl rfl) rfl ?_
                                refine o_v (v_extract rfl rfl) rfl ?_
                                refine o_v (v_extract rfl rfl) rfl ?_
                                refine o_v (v_assign rfl) rfl ?_
                                refine o_v (v_assign rfl) rfl ?_
                                refine o_v (v_assign rfl) rfl ?_
                                refine o_seq ?_
                                refine c_seq ?_
                                refine c_seq ?_
                                refine c_region ?_
                                refine o_v (v_move rfl) rfl ?_
                                refine o_v (v_bin rfl rfl rfl) rfl ?_
                                refine o_seq ?_
                                refine c_cond rfl (fun h11 => ?_) (fun h11 => ?_)
                                · replace hL4 := ite_t h11 hL4
                                  refine c_seq ?_
                                  refine c_region ?_
                                  refine o_v (v_load_box 1 ty26 rfl rfl rfl rfl rfl) rfl ?_
                                  refine o_v (v_move rfl) rfl ?_
                                  refine o_v (v_bin rfl rfl rfl) rfl ?_
                                  refine o_v (v_move rfl) rfl ?_
                                  refine o_v (v_build (v := .agg #[.int .i64 (IntKind.wrap .i64 ((IntKind.wrap .i64 (at_1 + v.2.1)) + 1)), .int .i64 v2.2.2]) rfl (fun _ => by kernel_rfl)) rfl ?_
                                  refine o_store_box 3 rfl ty26 rfl rfl rfl rfl rfl rfl rfl ?_
                                  refine o_store_box 2 rfl ty38 rfl rfl rfl rfl rfl rfl rfl ?_
                                  refine o_seq ?_
                                  refine c_ret ?_
                                  cases hL4
                                  obtain rfl := lrf_ret hF
                                  refine s_ret2 rfl (r_cell 3 rfl ty26 rfl rfl rfl rfl) (r_cell 2 rfl ty38 rfl rfl rfl rfl) fun a w hs => ?_
                                  exact fin_sel hs [] ⟨rfl, rfl, rfl⟩ rfl sub_nil
                                · replace hL4 := ite_f h11 hL4
                                  refine c_skip ?_
                                  refine sat_wc ?_
                                  refine c_region ?_
                                  refine o_v (v_move rfl) rfl ?_
                                  refine o_v (v_move rfl) rfl ?_
                                  refine o_v (v_bin rfl rfl rfl) rfl ?_
                                  refine o_v (v_move rfl) rfl ?_
                                  refine o_v (v_bin rfl rfl rfl) rfl ?_
                                  refine o_v (v_assign rfl) rfl ?_
                                  refine o_v (v_assign rfl) rfl ?_
                                  refine o_nil ?_
                                  refine s_st ?_ (hN9 v2.1 (IntKind.wrap .i64 ((IntKind.wrap .i64 ((IntKind.wrap .i64 (at_1 + v.2.1)) + 1)) + v2.2.1)) hL4)
                                  exact st_le [0, 0, 0, 0] (le_cons rfl (le_cons rfl (le_cons rfl (le_cons rfl (le_cons rfl (le_cons rfl (le_cons rfl (le_cons rfl (le_cons rfl (le_cons rfl (le_cons rfl (le_cons rfl (le_cons rfl (le_cons rfl (le_cons rfl (le_cons rfl (le_cons rfl le_nil))))))))))))))))) rfl sub_nil
                              · replace hL4 := ite_f h9 hL4
                                refine c_skip ?_
                                refine s_st ?_ (hN9 v.1 (IntKind.wrap .i64 (at_1 + v.2.1)) hL4)
                                exact st_le [0, 0, 0, 0] (le_cons rfl (le_cons rfl (le_cons rfl (le_cons rfl (le_cons rfl (le_cons rfl (le_cons rfl (le_cons rfl (le_cons rfl (le_cons rfl (le_cons rfl (le_cons rfl (le_cons rfl (le_cons rfl (le_cons rfl (le_cons rfl (le_cons rfl le_nil))))))))))))))))) rfl sub_nil
                            · intro hi1 next1 hL4
                              unfold F.ref01.Parse_j8 at hL4
                              refine sat_wc ?_
                              refine c_seq ?_
                              refine c_seq ?_
                              refine c_region ?_
                              refine o_v (v_move rfl) rfl ?_
                              refine o_v (v_move rfl) rfl ?_
                              refine o_v (v_bin rfl rfl rfl) rfl ?_
                              refine o_seq ?_
                              refine c_cond rfl (fun h6 => ?_) (fun h6 => ?_)
                              · replace hL4 := ite_t h6 hL4
                                refine c_seq ?_
                                refine c_region ?_
                                refine o_v (v_load_box 1 ty26 rfl rfl rfl rfl rfl) rfl ?_
                                refine o_v (v_move rfl) rfl ?_
                                refine o_v (v_build (v := .agg #[.int .i64 at_1, .int .i64 10]) rfl (fun _ => by kernel_rfl)) rfl ?_
                                refine o_store_box 3 rfl ty26 rfl rfl rfl rfl rfl rfl rfl ?_
                                refine o_store_box 2 rfl ty38 rfl rfl rfl rfl rfl rfl rfl ?_
                                refine o_seq ?_
                                refine c_ret ?_
                                cases hL4
                                obtain rfl := lrf_ret hF
                                refine s_ret2 rfl (r_cell 3 rfl ty26 rfl rfl rfl rfl) (r_cell 2 rfl ty38 rfl rfl rfl rfl) fun a w hs => ?_
                                exact fin_sel hs [] ⟨rfl, rfl, rfl⟩ rfl sub_nil
                              · replace hL4 := ite_f h6 hL4
                                refine c_skip ?_
                                refine sat_wc ?_
                                refine c_seq ?_
                                refine c_seq ?_
                                refine c_region ?_
                                refine o_v (v_move rfl) rfl ?_
                                refine o_v (v_assign rfl) rfl ?_
                                refine o_seq ?_
                                obtain ⟨o9, ho9, hL4⟩ := bd hL4
                                refine c_cut (fun E N' => Sat E [(0, .string (bs text)), (2, .pointer (some ⟨b, 0, none⟩)), (3, .pointer (some ⟨b1, 0, none⟩)), (4, .pointer (some ⟨b2, 0, none⟩)), (5, .pointer (some ⟨b3, 0, none⟩)), (6, .int .i64 at_1), (7, .bool turned), (8, .int .i64 v.1), (9, .int .i64 v.2.1), (10, .int .i64 v.2.2), (11, .int .i64 hi1), (12, .int .i64 next1), (16, .int .i64 o9.1), (19, .bool (decide (65536 < (text.length : Int)))), (29, .bool t29), (50, .bool t50), (59, .bool (v.2.2 != 0)), (77, .bool t771), (100, .bool (decide (hi1 < v.1))), (107, .bool o9.2.1)] [.box b3 26 [.int .u64 o9.2.2.w0, .int .u64 o9.2.2.w1, .int .u64 o9.2.2.w2, .int .u64 o9.2.2.w3], .box b2 26 [.int .u64 0, .int .u64 0, .int .u64 0, .int .u64 0], .box b1 38 [.int .i64 0, .int .i64 0], .box b 26 [.int .u64 0, .int .u64 0, .int .u64 0, .int .u64 0]] [] N') (fun N9 hN9 => ?_) ?_
                                · refine c_block ?_
                                  refine c_loopE (fun E j a w => ∃ (i1 : Int) (s2 : S4), F.ref01.Parse_l9 k hi1 j i1 s2 = some o9 ∧ St E [(0, .string (bs text)), (2, .pointer (some ⟨b, 0, none⟩)), (3, .pointer (some ⟨b1, 0, none⟩)), (4, .pointer (some ⟨b2, 0, none⟩)), (5, .pointer (some ⟨b3, 0, none⟩)), (6, .int .i64 at_1), (7, .bool turned), (8, .int .i64 v.1), (9, .int .i64 v.2.1), (10, .int .i64 v.2.2), (11, .int .i64 hi1), (12, .int .i64 next1), (16, .int .i64 i1), (19, .bool (decide (65536 < (text.length : Int)))), (29, .bool t29), (50, .bool t50), (59, .bool (v.2.2 != 0)), (77, .bool t771), (100, .bool (decide (hi1 < v.1)))] [.box b3 26 [.int .u64 s2.w0, .int .u64 s2.w1, .int .u64 s2.w2, .int .u64 s2.w3], .box b2 26 [.int .u64 0, .int .u64 0, .int .u64 0, .int .u64 0], .box b1 38 [.int .i64 0, .int .i64 0], .box b 26 [.int .u64 0, .int .u64 0, .int .u64 0, .int .u64 0]] [] a w) k ?_ ?_
                                  · intro a w hs
                                    exact ⟨v.1, s, ho9, st_le [0, 0, 0, 0] (le_cons rfl (le_cons rfl (le_cons rfl (le_cons rfl (le_cons rfl (le_cons rfl (le_cons rfl (le_cons rfl (le_cons rfl (le_cons rfl (le_cons rfl (le_cons rfl (le_cons rfl (le_cons rfl (le_cons rfl (le_cons rfl (le_cons rfl (le_cons rfl (le_cons rfl le_nil))))))))))))))))))) rfl sub_nil a w hs⟩
                                  · rintro j a w ⟨i1, s2, hL9, hs⟩
                                    cases j with
                                    | zero => cases hL9
                                    | succ j =>
                                      refine wc_app hs ?_
                                      unfold F.ref01.Parse_l9 at hL9
                                      refine c_seq ?_
                                      refine c_seq ?_
                                      refine c_region ?_
                                      refine o_v (v_move rfl) rfl ?_
                                      refine o_v (v_move rfl) rfl ?_
                                      refine o_v (v_bin rfl rfl rfl) rfl ?_
                                      refine o_seq ?_
                                      refine c_cond rfl (fun h7 => ?_) (fun h7 => ?_)
                                      · replace hL9 := ite_t h7 hL9
                                        refine c_skip ?_
                                        refine sat_wc ?_
                                        refine c_seq ?_
                                        refine c_block ?_
                                        refine c_region ?_
                                        refine o_v (v_load_box 0 ty26 rfl rfl rfl rfl rfl) rfl ?_
                                        refine o_v (v_move rfl) rfl ?_
                                        obtain ⟨v1, h8, hL9⟩ := bd hL9
                                        refine o_callSB call37 rfl lent_nil (tri37 k s2 i1 v1 h8) rfl ?_
                                        refine o_store_box 0 rfl ty26 rfl rfl rfl rfl rfl rfl rfl ?_
                                        refine o_nil ?_
                                        refine sat_wc ?_
                                        refine c_region ?_
                                        refine o_v (v_move rfl) rfl ?_
                                        refine o_v (v_bin rfl rfl rfl) rfl ?_
                                        refine o_v (v_assign rfl) rfl ?_
                                        refine o_nil ?_
                                        intro a w hs
                                        exact ⟨j, Nat.lt_succ_self j, IntKind.wrap .i64 (i1 + 1), v1, hL9, st_le [0, 0, 0, 0] (le_cons rfl (le_cons rfl (le_cons rfl (le_cons rfl (le_cons rfl (le_cons rfl (le_cons rfl (le_cons rfl (le_cons rfl (le_cons rfl (le_cons rfl (le_cons rfl (le_cons rfl (le_cons rfl (le_cons rfl (le_cons rfl (le_cons rfl (le_cons rfl (le_cons rfl le_nil))))))))))))))))))) rfl sub_nil a w hs⟩
                                      · replace hL9 := ite_f h7 hL9
                                        refine c_exit0 ?_
                                        cases hL9
                                        refine s_st ?_ (hN9)
                                        exact st_le [0, 0, 0, 0] (le_cons rfl (le_cons rfl (le_cons rfl (le_cons rfl (le_cons rfl (le_cons rfl (le_cons rfl (le_cons rfl (le_cons rfl (le_cons rfl (le_cons rfl (le_cons rfl (le_cons rfl (le_cons rfl (le_cons rfl (le_cons rfl (le_cons rfl (le_cons rfl (le_cons rfl (le_cons rfl le_nil)))))))))))))))))))) rfl sub_nil
                                · refine sat_wc ?_
                                  refine c_region ?_
                                  refine o_v (v_move rfl) rfl ?_
                                  refine o_v (v_assign rfl) rfl ?_
                                  refine o_nil ?_
                                  refine s_st ?_ (hN6 next1 v.1 v.2.1 v.2.2 hi1 next1 o9.1 (v.2.2 != 0) t771 (decide (hi1 < v.1)) o9.2.1 o9.2.2 hL4)
                                  exact st_le [0, 0, 0, 0] (le_cons rfl (le_cons rfl (le_cons rfl (le_cons rfl (le_cons rfl (le_cons rfl (le_cons rfl (le_cons rfl (le_cons rfl (le_cons rfl (le_cons rfl (le_cons rfl (le_cons rfl (le_cons rfl (le_cons rfl (le_cons rfl (le_cons rfl (le_cons rfl (le_cons rfl (le_cons rfl le_nil)))))))))))))))))))) rfl sub_nil
                      · intro at_2 lo n e_ hi next i t59 t77 t100 t107 s1 hL4
                        unfold F.ref01.Parse_j6 at hL4
                        intro a w hs
                        exact ⟨j, Nat.lt_succ_self j, at_2, s1, hL4, st_le [0, 0, 0, 0] (le_cons rfl (le_cons rfl (le_cons rfl (le_cons rfl (le_cons rfl (le_cons rfl (le_cons rfl (le_cons rfl (le_cons rfl le_nil))))))))) rfl sub_nil a w hs⟩
                    · replace hL4 := ite_f h3 hL4
                      refine c_exit0 ?_
                      cases hL4
                      refine s_st ?_ (hN4 (at_1, s) rfl)
                      exact st_le [0, 0, 0, 0] (le_cons rfl (le_cons rfl (le_cons rfl (le_cons rfl (le_cons rfl (le_cons rfl (le_cons rfl (le_cons rfl (le_cons rfl le_nil))))))))) rfl sub_nil
            · intro d4 hd
              subst hd
              replace hF := lrf_done hF
              refine sat_wc ?_
              refine c_seq ?_
              refine c_seq ?_
              refine c_region ?_
              refine o_v (v_move rfl) rfl ?_
              refine o_v (v_bin rfl rfl rfl) rfl ?_
              refine o_v (v_move rfl) rfl ?_
              refine o_v (v_len_str Try.underlying9 rfl) rfl ?_
              refine o_v (v_bin rfl rfl rfl) rfl ?_
              refine o_seq ?_
              refine c_cond rfl (fun h16 => ?_) (fun h16 => ?_)
              · replace hF := ite_t h16 hF
                refine c_seq ?_
                refine c_region ?_
                refine o_v (v_load_box 1 ty26 rfl rfl rfl rfl rfl) rfl ?_
                refine o_v (v_move rfl) rfl ?_
                refine o_v (v_bin rfl rfl rfl) rfl ?_
                refine o_v (v_build (v := .agg #[.int .i64 (IntKind.wrap .i64 (d4.1 + 1)), .int .i64 15]) rfl (fun _ => by kernel_rfl)) rfl ?_
                refine o_store_box 3 rfl ty26 rfl rfl rfl rfl rfl rfl rfl ?_
                refine o_store_box 2 rfl ty38 rfl rfl rfl rfl rfl rfl rfl ?_
                refine o_seq ?_
                refine c_ret ?_
                cases hF
                refine s_ret2 rfl (r_cell 3 rfl ty26 rfl rfl rfl rfl) (r_cell 2 rfl ty38 rfl rfl rfl rfl) fun a w hs => ?_
                exact fin_sel hs [] ⟨rfl, rfl, rfl⟩ rfl sub_nil
              · replace hF := ite_f h16 hF
                refine c_skip ?_
                refine sat_wc ?_
                refine c_seq ?_
                refine c_seq ?_
                refine c_region ?_
                refine o_v (v_move rfl) rfl ?_
                refine o_seq ?_
                refine c_cond rfl (fun h17 => ?_) (fun h17 => ?_)
                · replace hF := ite_t h17 hF
                  refine c_region ?_
                  refine o_v (v_load_box 0 ty26 rfl rfl rfl rfl rfl) rfl ?_
                  refine o_v (v_load_box 0 ty26 rfl rfl rfl rfl rfl) rfl ?_
                  obtain ⟨v3, h18, hF⟩ := bd hF
                  refine o_callSB call35 rfl lent_nil (tri35 k 3 d4.2 d4.2 v3 h18) rfl ?_
                  refine o_store_box 0 rfl ty26 rfl rfl rfl rfl rfl rfl rfl ?_
                  refine o_seq ?_
                  refine c_seq ?_
                  refine c_region ?_
                  refine o_v (v_load_box 0 ty26 rfl rfl rfl rfl rfl) rfl ?_
                  refine o_v (v_build (v := .agg #[.int .i64 0, .int .i64 0]) rfl (fun _ => by kernel_rfl)) rfl ?_
                  refine o_store_box 3 rfl ty26 rfl rfl rfl rfl rfl rfl rfl ?_
                  refine o_store_box 2 rfl ty38 rfl rfl rfl rfl rfl rfl rfl ?_
                  refine o_seq ?_
                  refine c_ret ?_
                  cases hF
                  refine s_ret2 rfl (r_cell 3 rfl ty26 rfl rfl rfl rfl) (r_cell 2 rfl ty38 rfl rfl rfl rfl) fun a w hs => ?_
                  exact fin_sel hs [] ⟨rfl, rfl, rfl⟩ rfl sub_nil
                · replace hF := ite_f h17 hF
                  refine c_skip ?_
                  refine sat_wc ?_
                  refine c_seq ?_
                  refine c_region ?_
                  refine o_v (v_load_box 0 ty26 rfl rfl rfl rfl rfl) rfl ?_
                  refine o_v (v_build (v := .agg #[.int .i64 0, .int .i64 0]) rfl (fun _ => by kernel_rfl)) rfl ?_
                  refine o_store_box 3 rfl ty26 rfl rfl rfl rfl rfl rfl rfl ?_
                  refine o_store_box 2 rfl ty38 rfl rfl rfl rfl rfl rfl rfl ?_
                  refine o_seq ?_
                  refine c_ret ?_
                  cases hF
                  refine s_ret2 rfl (r_cell 3 rfl ty26 rfl rfl rfl rfl) (r_cell 2 rfl ty38 rfl rfl rfl rfl) fun a w hs => ?_
                  exact fin_sel hs [] ⟨rfl, rfl, rfl⟩ rfl sub_nil
theorem tri5 (k : Nat) (text : List UInt8) (r : Bool) (hF : F.law01.CharsetParses k text = some r) :
    Tri Try.prog 5 [.string (bs text)] [] [] (fun o H Φ => o = .ret (.bool r) ∧ H = [] ∧ Φ = []) := by
  unfold F.law01.CharsetParses at hF
  refine tri_intro (n := 32) Try.func5 rfl Try.ntmps5 rfl fun w X => ?_
  refine c_seq ?_
  refine c_region ?_
  refine o_v (v_assign rfl) rfl ?_
  refine o_seq ?_
  refine c_seq ?_
  refine c_seq ?_
  refine c_region ?_
  refine o_v (v_move rfl) rfl ?_
  refine o_v (v_len_str Try.underlying9 rfl) rfl ?_
  refine o_v (v_bin rfl rfl rfl) rfl ?_
  refine o_seq ?_
  refine c_cond rfl (fun h1 => ?_) (fun h1 => ?_)
  · replace hF := ite_t h1 hF
    refine c_seq ?_
    refine c_region ?_
    obtain ⟨v, h2, hF⟩ := bd hF
    refine o_callSB call12 rfl lent_nil (tri12 k v h2) rfl ?_
    refine o_v (v_assign rfl) rfl ?_
    refine o_seq ?_
    refine c_ret ?_
    cases hF
    refine s_ret1 rfl (r_tmp rfl) fun a w hs => ?_
    exact fin_sel hs [] ⟨rfl, rfl, rfl⟩ rfl sub_nil
  · replace hF := ite_f h1 hF
    refine c_skip ?_
    refine sat_wc ?_
    refine c_seq ?_
    refine c_region ?_
    refine o_v (v_move rfl) rfl ?_
    obtain ⟨v1, h3, hF⟩ := bd hF
    refine o_callSB call21 rfl lent_nil (tri21 k text v1 h3) rfl ?_
    refine o_v (v_move rfl) rfl ?_
    refine o_v (v_extract rfl rfl) rfl ?_
    refine o_v (v_extract rfl rfl) rfl ?_
    refine o_alloc zero26 rfl rfl fun b => ?_
    refine o_alloc zero38 rfl rfl fun b1 => ?_
    refine o_store_box 1 rfl ty26 rfl rfl rfl rfl rfl rfl rfl ?_
    refine o_store_box 0 rfl ty38 rfl rfl rfl rfl rfl rfl rfl ?_
    refine o_seq ?_
    refine c_seq ?_
    refine c_region ?_
    refine o_v (v_move rfl) rfl ?_
    obtain ⟨v2, h4, hF⟩ := bd hF
    refine o_callSB call22 rfl lent_nil (tri22 k text v2 h4) rfl ?_
    refine o_v (v_move rfl) rfl ?_
    refine o_v (v_extract rfl rfl) rfl ?_
    refine o_v (v_extract rfl rfl) rfl ?_
    refine o_alloc zero26 rfl rfl fun b2 => ?_
    refine o_alloc zero38 rfl rfl fun b3 => ?_
    refine o_store_box 1 rfl ty26 rfl rfl rfl rfl rfl rfl rfl ?_
    refine o_store_box 0 rfl ty38 rfl rfl rfl rfl rfl rfl rfl ?_
    refine o_seq ?_
    refine c_seq ?_
    refine c_region ?_
    obtain ⟨v3, h5, hF⟩ := bd hF
    refine o_callSB call12 rfl lent_nil (tri12 k v3 h5) rfl ?_
    refine o_v (v_move rfl) rfl ?_
    refine o_split (t := 22) rfl (fun h6 => ?_) (fun h6 => ?_)
    · replace hF := ite_t h6 hF
      refine o_on rfl rfl ?_
      refine o_v (v_load_box 3 ty26 rfl rfl rfl rfl rfl) rfl ?_
      refine o_on rfl rfl ?_
      refine o_v (v_load_box 1 ty26 rfl rfl rfl rfl rfl) rfl ?_
      refine o_on rfl rfl ?_
      refine o_v (v_ageq 2 rfl rfl (eq26 v1.1.w0 v1.1.w1 v1.1.w2 v1.1.w3 v2.1.w0 v2.1.w1 v2.1.w2 v2.1.w3) rfl guard26) rfl ?_
      refine o_v (v_pick_t rfl rfl) rfl ?_
      refine o_v (v_move rfl) rfl ?_
      refine o_split (t := 27) rfl (fun h7 => ?_) (fun h7 => ?_)
      · replace hF := ite_t h7 hF
        refine o_on rfl rfl ?_
        refine o_v (v_load_box 2 ty38 rfl rfl rfl rfl rfl) rfl ?_
        refine o_on rfl rfl ?_
        refine o_v (v_load_box 0 ty38 rfl rfl rfl rfl rfl) rfl ?_
        refine o_on rfl rfl ?_
        refine o_v (v_ageq 2 rfl rfl (eq38 v1.2.At v1.2.Code v2.2.At v2.2.Code) rfl guard38) rfl ?_
        refine o_v (v_pick_t rfl rfl) rfl ?_
        refine o_v (v_assign rfl) rfl ?_
        refine o_seq ?_
        refine c_ret ?_
        cases hF
        refine s_ret1 rfl (r_tmp rfl) fun a w hs => ?_
        exact fin_sel hs [] ⟨rfl, rfl, rfl⟩ rfl sub_nil
      · replace hF := ite_f h7 hF
        refine o_off rfl rfl (by decide) rfl ?_
        refine o_off rfl rfl (by decide) rfl ?_
        refine o_off rfl rfl (by decide) rfl ?_
        refine o_v (v_pick_f rfl rfl) rfl ?_
        refine o_v (v_assign rfl) rfl ?_
        refine o_seq ?_
        refine c_ret ?_
        cases hF
        refine s_ret1 rfl (r_tmp rfl) fun a w hs => ?_
        exact fin_sel hs [] ⟨rfl, rfl, rfl⟩ rfl sub_nil
    · replace hF := ite_f h6 hF
      refine o_off rfl rfl (by decide) rfl ?_
      refine o_off rfl rfl (by decide) rfl ?_
      refine o_off rfl rfl (by decide) rfl ?_
      refine o_v (v_pick_f rfl rfl) rfl ?_
      refine o_v (v_move rfl) rfl ?_
      refine o_off rfl rfl (by decide) rfl ?_
      refine o_off rfl rfl (by decide) rfl ?_
      refine o_off rfl rfl (by decide) rfl ?_
      refine o_v (v_pick_f rfl rfl) rfl ?_
      refine o_v (v_assign rfl) rfl ?_
      refine o_seq ?_
      refine c_ret ?_
      cases hF
      refine s_ret1 rfl (r_tmp rfl) fun a w hs => ?_
      exact fin_sel hs [] ⟨rfl, rfl, rfl⟩ rfl sub_nil
theorem tri6 (k : Nat) (s : S4) (r : Bool) (hF : F.law01.CharsetBack k s = some r) :
    Tri Try.prog 6 [.agg #[.int .u64 s.w0, .int .u64 s.w1, .int .u64 s.w2, .int .u64 s.w3]] [] [] (fun o H Φ => o = .ret (.bool r) ∧ H = [] ∧ Φ = []) := by
  unfold F.law01.CharsetBack at hF
  refine tri_intro (n := 29) Try.func6 rfl Try.ntmps6 rfl fun w X => ?_
  refine c_seq ?_
  refine c_region ?_
  refine o_box rfl rfl rfl fun b => ?_
  refine o_v (v_assign rfl) rfl ?_
  refine o_seq ?_
  refine c_seq ?_
  refine c_region ?_
  refine o_v (v_load_box 0 ty26 rfl rfl rfl rfl rfl) rfl ?_
  obtain ⟨v, h1, hF⟩ := bd hF
  refine o_callSB call19 rfl lent_nil (tri19 k s v h1) rfl ?_
  obtain ⟨v1, h2, hF⟩ := bd hF
  refine o_callSB call21 rfl lent_nil (tri21 k v v1 h2) rfl ?_
  refine o_v (v_move rfl) rfl ?_
  refine o_v (v_extract rfl rfl) rfl ?_
  refine o_v (v_extract rfl rfl) rfl ?_
  refine o_alloc zero26 rfl rfl fun b1 => ?_
  refine o_alloc zero38 rfl rfl fun b2 => ?_
  refine o_store_box 1 rfl ty26 rfl rfl rfl rfl rfl rfl rfl ?_
  refine o_store_box 0 rfl ty38 rfl rfl rfl rfl rfl rfl rfl ?_
  refine o_seq ?_
  refine c_seq ?_
  refine c_cut (fun E N' => ∀ (t2 : Bool), F.law01.CharsetBack_j1 t2 = some r → Sat E [(0, .agg #[.int .u64 s.w0, .int .u64 s.w1, .int .u64 s.w2, .int .u64 s.w3]), (1, .pointer (some ⟨b, 0, none⟩)), (2, .bool t2), (3, .pointer (some ⟨b1, 0, none⟩)), (4, .pointer (some ⟨b2, 0, none⟩))] [.box b2 38 [.int .i64 v1.2.At, .int .i64 v1.2.Code], .box b1 26 [.int .u64 v1.1.w0, .int .u64 v1.1.w1, .int .u64 v1.1.w2, .int .u64 v1.1.w3], .box b 26 [.int .u64 s.w0, .int .u64 s.w1, .int .u64 s.w2, .int .u64 s.w3]] [] N') (fun N1 hN1 => ?_) ?_
  · refine c_draw (n := 19) [0, 0, 0] mixed rfl rfl ?_
    refine d_one 0 rfl (by kernel_rfl) ?_
    obtain ⟨v2, h3, hF⟩ := bd hF
    refine o_callSB call12 rfl lent_nil (tri12 k v2 h3) rfl ?_
    refine d_next [0, 0, 0] 0 rfl rfl ?_
    refine d_val 1 rfl pnok (by kernel_rfl) (by kernel_rfl) (by kernel_rfl) rfl (v_move rfl) ?_
    refine d_split (t := 12) rfl (fun h4 => ?_) (fun h4 => ?_)
    · replace hF := ite_t h4 hF
      refine d_val_on 2 rfl rfl rfl pnok (by kernel_rfl) (by kernel_rfl) (by kernel_rfl) rfl (v_load_box 0 ty38 rfl rfl rfl rfl rfl) ?_
      refine d_val_on 3 rfl rfl rfl pnok (by kernel_rfl) (by kernel_rfl) (by kernel_rfl) rfl (v_build (v := .agg #[.int .i64 0, .int .i64 0]) rfl (fun _ => by kernel_rfl)) ?_
      refine d_val_on 4 rfl rfl rfl pnok (by kernel_rfl) (by kernel_rfl) (by kernel_rfl) rfl (v_ageq 2 rfl rfl (eq38 v1.2.At v1.2.Code 0 0) rfl guard38) ?_
      refine d_val 5 rfl pnok (by kernel_rfl) (by kernel_rfl) (by kernel_rfl) rfl (v_pick_t rfl rfl) ?_
      refine d_val 6 rfl pnok (by kernel_rfl) (by kernel_rfl) (by kernel_rfl) rfl (v_move rfl) ?_
      refine d_split (t := 17) rfl (fun h5 => ?_) (fun h5 => ?_)
      · replace hF := ite_t h5 hF
        refine d_val_on 7 rfl rfl rfl pnok (by kernel_rfl) (by kernel_rfl) (by kernel_rfl) rfl (v_load_box 1 ty26 rfl rfl rfl rfl rfl) ?_
        refine d_val_on 8 rfl rfl rfl pnok (by kernel_rfl) (by kernel_rfl) (by kernel_rfl) rfl (v_load_box 2 ty26 rfl rfl rfl rfl rfl) ?_
        refine d_val_on 9 rfl rfl rfl pnok (by kernel_rfl) (by kernel_rfl) (by kernel_rfl) rfl (v_ageq 2 rfl rfl (eq26 v1.1.w0 v1.1.w1 v1.1.w2 v1.1.w3 s.w0 s.w1 s.w2 s.w3) rfl guard26) ?_
        refine d_val 10 rfl pnok (by kernel_rfl) (by kernel_rfl) (by kernel_rfl) rfl (v_pick_t rfl rfl) ?_
        refine d_val 11 rfl pnok (by kernel_rfl) (by kernel_rfl) (by kernel_rfl) rfl (v_move rfl) ?_
        refine d_split (t := 22) rfl (fun h6 => ?_) (fun h6 => ?_)
        · replace hF := ite_t h6 hF
          refine d_val_on 12 rfl rfl rfl pnok (by kernel_rfl) (by kernel_rfl) (by kernel_rfl) rfl (v_load_box 1 ty26 rfl rfl rfl rfl rfl) ?_
          refine d_val_on 14 rfl rfl rfl pnok (by kernel_rfl) (by kernel_rfl) (by kernel_rfl) rfl (v_load_box 2 ty26 rfl rfl rfl rfl rfl) ?_
          refine d_one 13 rfl (by kernel_rfl) ?_
          refine o_on rfl rfl ?_
          obtain ⟨v3, h7, hF⟩ := bd hF
          refine o_callSB call19 rfl lent_nil (tri19 k v1.1 v3 h7) rfl ?_
          refine d_next [0, 0, 0] 0 rfl rfl ?_
          refine d_one 15 rfl (by kernel_rfl) ?_
          refine o_on rfl rfl ?_
          refine o_callSB call19 rfl lent_nil (tri19 k s v h1) rfl ?_
          refine d_next [0, 0, 0] 0 rfl rfl ?_
          refine d_val_on 16 rfl rfl rfl pnok (by kernel_rfl) (by kernel_rfl) (by kernel_rfl) rfl (v_streq rfl rfl) ?_
          refine d_val 17 rfl pnok (by kernel_rfl) (by kernel_rfl) (by kernel_rfl) rfl (v_pick_t rfl rfl) ?_
          refine d_val 18 rfl pnok (by kernel_rfl) (by kernel_rfl) (by kernel_rfl) rfl (v_assign rfl) ?_
          refine d_done (by kernel_rfl) ?_
          refine s_st ?_ (hN1 (v3 == v) hF)
          exact st_le [0, 0, 0] (le_cons rfl (le_cons rfl (le_cons rfl (le_cons rfl (le_cons rfl le_nil))))) rfl sub_nil
        · replace hF := ite_f h6 hF
          refine d_off 12 rfl rfl rfl (by decide) pnok (by kernel_rfl) (by kernel_rfl) (by kernel_rfl) rfl ?_
          refine d_off 13 rfl rfl rfl (by decide) pnok (by kernel_rfl) (by kernel_rfl) (by kernel_rfl) rfl ?_
          refine d_off 14 rfl rfl rfl (by decide) pnok (by kernel_rfl) (by kernel_rfl) (by kernel_rfl) rfl ?_
          refine d_off 15 rfl rfl rfl (by decide) pnok (by kernel_rfl) (by kernel_rfl) (by kernel_rfl) rfl ?_
          refine d_off 16 rfl rfl rfl (by decide) pnok (by kernel_rfl) (by kernel_rfl) (by kernel_rfl) rfl ?_
          refine d_val 17 rfl pnok (by kernel_rfl) (by kernel_rfl) (by kernel_rfl) rfl (v_pick_f rfl rfl) ?_
          refine d_val 18 rfl pnok (by kernel_rfl) (by kernel_rfl) (by kernel_rfl) rfl (v_assign rfl) ?_
          refine d_done (by kernel_rfl) ?_
          refine s_st ?_ (hN1 false hF)
          exact st_le [0, 0, 0] (le_cons rfl (le_cons rfl (le_cons rfl (le_cons rfl (le_cons rfl le_nil))))) rfl sub_nil
      · replace hF := ite_f h5 hF
        refine d_off 7 rfl rfl rfl (by decide) pnok (by kernel_rfl) (by kernel_rfl) (by kernel_rfl) rfl ?_
        refine d_off 8 rfl rfl rfl (by decide) pnok (by kernel_rfl) (by kernel_rfl) (by kernel_rfl) rfl ?_
        refine d_off 9 rfl rfl rfl (by decide) pnok (by kernel_rfl) (by kernel_rfl) (by kernel_rfl) rfl ?_
        refine d_val 10 rfl pnok (by kernel_rfl) (by kernel_rfl) (by kernel_rfl) rfl (v_pick_f rfl rfl) ?_
        refine d_val 11 rfl pnok (by kernel_rfl) (by kernel_rfl) (by kernel_rfl) rfl (v_move rfl) ?_
        refine d_off 12 rfl rfl rfl (by decide) pnok (by kernel_rfl) (by kernel_rfl) (by kernel_rfl) rfl ?_
        refine d_off 13 rfl rfl rfl (by decide) pnok (by kernel_rfl) (by kernel_rfl) (by kernel_rfl) rfl ?_
        refine d_off 14 rfl rfl rfl (by decide) pnok (by kernel_rfl) (by kernel_rfl) (by kernel_rfl) rfl ?_
        refine d_off 15 rfl rfl rfl (by decide) pnok (by kernel_rfl) (by kernel_rfl) (by kernel_rfl) rfl ?_
        refine d_off 16 rfl rfl rfl (by decide) pnok (by kernel_rfl) (by kernel_rfl) (by kernel_rfl) rfl ?_
        refine d_val 17 rfl pnok (by kernel_rfl) (by kernel_rfl) (by kernel_rfl) rfl (v_pick_f rfl rfl) ?_
        refine d_val 18 rfl pnok (by kernel_rfl) (by kernel_rfl) (by kernel_rfl) rfl (v_assign rfl) ?_
        refine d_done (by kernel_rfl) ?_
        refine s_st ?_ (hN1 false hF)
        exact st_le [0, 0, 0] (le_cons rfl (le_cons rfl (le_cons rfl (le_cons rfl (le_cons rfl le_nil))))) rfl sub_nil
    · replace hF := ite_f h4 hF
      refine d_off 2 rfl rfl rfl (by decide) pnok (by kernel_rfl) (by kernel_rfl) (by kernel_rfl) rfl ?_
      refine d_off 3 rfl rfl rfl (by decide) pnok (by kernel_rfl) (by kernel_rfl) (by kernel_rfl) rfl ?_
      refine d_off 4 rfl rfl rfl (by decide) pnok (by kernel_rfl) (by kernel_rfl) (by kernel_rfl) rfl ?_
      refine d_val 5 rfl pnok (by kernel_rfl) (by kernel_rfl) (by kernel_rfl) rfl (v_pick_f rfl rfl) ?_
      refine d_val 6 rfl pnok (by kernel_rfl) (by kernel_rfl) (by kernel_rfl) rfl (v_move rfl) ?_
      refine d_off 7 rfl rfl rfl (by decide) pnok (by kernel_rfl) (by kernel_rfl) (by kernel_rfl) rfl ?_
      refine d_off 8 rfl rfl rfl (by decide) pnok (by kernel_rfl) (by kernel_rfl) (by kernel_rfl) rfl ?_
      refine d_off 9 rfl rfl rfl (by decide) pnok (by kernel_rfl) (by kernel_rfl) (by kernel_rfl) rfl ?_
      refine d_val 10 rfl pnok (by kernel_rfl) (by kernel_rfl) (by kernel_rfl) rfl (v_pick_f rfl rfl) ?_
      refine d_val 11 rfl pnok (by kernel_rfl) (by kernel_rfl) (by kernel_rfl) rfl (v_move rfl) ?_
      refine d_off 12 rfl rfl rfl (by decide) pnok (by kernel_rfl) (by kernel_rfl) (by kernel_rfl) rfl ?_
      refine d_off 13 rfl rfl rfl (by decide) pnok (by kernel_rfl) (by kernel_rfl) (by kernel_rfl) rfl ?_
      refine d_off 14 rfl rfl rfl (by decide) pnok (by kernel_rfl) (by kernel_rfl) (by kernel_rfl) rfl ?_
      refine d_off 15 rfl rfl rfl (by decide) pnok (by kernel_rfl) (by kernel_rfl) (by kernel_rfl) rfl ?_
      refine d_off 16 rfl rfl rfl (by decide) pnok (by kernel_rfl) (by kernel_rfl) (by kernel_rfl) rfl ?_
      refine d_val 17 rfl pnok (by kernel_rfl) (by kernel_rfl) (by kernel_rfl) rfl (v_pick_f rfl rfl) ?_
      refine d_val 18 rfl pnok (by kernel_rfl) (by kernel_rfl) (by kernel_rfl) rfl (v_assign rfl) ?_
      refine d_done (by kernel_rfl) ?_
      refine s_st ?_ (hN1 false hF)
      exact st_le [0, 0, 0] (le_cons rfl (le_cons rfl (le_cons rfl (le_cons rfl (le_cons rfl le_nil))))) rfl sub_nil
  · intro t2 hF
    unfold F.law01.CharsetBack_j1 at hF
    refine sat_wc ?_
    refine c_ret ?_
    cases hF
    refine s_ret1 rfl (r_tmp rfl) fun a w hs => ?_
    exact fin_sel hs [] ⟨rfl, rfl, rfl⟩ rfl sub_nil
theorem tri23 (s : S4) (r : List Int) (hF : F.charset.Bytes s = some r) :
    Tri Try.prog 23 [.agg #[.int .u64 s.w0, .int .u64 s.w1, .int .u64 s.w2, .int .u64 s.w3]] [] [] (fun o H Φ => ∃ (sa3 : Option Addr) (sn3 sc3 : Nat), o = .ret (.slice sa3 sn3 sc3) ∧ H = [.row (.slice sa3 sn3 sc3) 5 1 (r.map eU8)] ∧ Φ = []) := by
  unfold F.charset.Bytes at hF
  refine tri_intro (n := 13) Try.func23 rfl Try.ntmps23 rfl fun w X => ?_
  refine c_seq ?_
  refine c_region ?_
  refine o_box rfl rfl rfl fun b => ?_
  refine o_v (v_assign rfl) rfl ?_
  refine o_seq ?_
  refine c_seq ?_
  refine c_region ?_
  refine o_alloc zero22 rfl rfl fun b1 => ?_
  refine o_seq ?_
  refine c_seq ?_
  refine c_seq ?_
  refine c_region ?_
  refine o_v (v_load_box 1 ty26 rfl rfl rfl rfl rfl) rfl ?_
  refine o_call0 call29 rfl sub_nil (tri29 s) rfl ?_
  rintro _ _ _ ⟨b2, rfl, rfl, rfl⟩
  refine o_seq ?_
  refine c_block ?_
  refine c_st (st_nilrow 5 1) ?_
  obtain ⟨ob1, hb1, hF⟩ := bd hF
  refine c_range (i := 0) (V := (List Int)) (U := (Option Addr × Nat × Nat)) (F.charset.Bytes_b1) ([] : List Int) (none, 0, 0) (allB s) 256 (fun (v1 : (List Int)) (u1 : (Option Addr × Nat × Nat)) => [.box b2 26 [.int .u64 s.w0, .int .u64 s.w1, .int .u64 s.w2, .int .u64 s.w3], .box b1 22 [.slice u1.1 u1.2.1 u1.2.2], .box b 26 [.int .u64 s.w0, .int .u64 s.w1, .int .u64 s.w2, .int .u64 s.w3], .row (.slice u1.1 u1.2.1 u1.2.2) 5 1 (v1.map eU8)]) (fun (v1 : (List Int)) (u1 : (Option Addr × Nat × Nat)) => []) (fun (x : Int) => [(0, .agg #[.int .u64 s.w0, .int .u64 s.w1, .int .u64 s.w2, .int .u64 s.w3]), (1, .pointer (some ⟨b, 0, none⟩)), (2, .slice none 0 0), (3, .pointer (some ⟨b1, 0, none⟩)), (5, .agg #[.int .u64 s.w0, .int .u64 s.w1, .int .u64 s.w2, .int .u64 s.w3]), (6, .func (.func 42) #[] #[.pointer (some ⟨b2, 0, none⟩)]), (7, .int .u8 x), (4, .int .u8 x)]) rfl rfl rfl call42 rfl (fun w hb => all_stops s _ w hb) (fun v1 u1 => List.mem_of_getElem? (i := 0) rfl) (fun v1 u1 => rfl) (st_sel [1, 1, 1, 0] rfl sub_nil) (tot_charset_Bytes_b1) ?_ ?_ ?_ ?_ ?_
  · intro W1 rd1 x v1 u1
    refine c_region ?_
    refine o_v (v_assign rfl) rfl ?_
    refine o_nil ?_
    exact st_le [0, 0, 0, 0] (le_cons rfl (le_cons rfl (le_cons rfl (le_cons rfl (le_cons rfl (le_cons rfl (le_cons rfl (le_cons rfl le_nil)))))))) rfl sub_nil
  · intro W1 rd1 x v1 u1 o1 ho1
    unfold F.charset.Bytes_b1 at ho1
    refine c_block ?_
    refine c_region ?_
    refine o_v (v_load_box 1 ty22 rfl rfl rfl rfl rfl) rfl ?_
    refine o_v (v_move rfl) rfl ?_
    refine o_buildSlice (enc := eU8) ([x] : List Int) [.int .u8 x] sl22 rfl (fun _ => by kernel_rfl) rfl rfl rfl (.s rfl (.nil)) rfl fun sa1 sn1 sc1 => ?_
    refine ite_some ho1 fun h1 ho1 => ?_
    refine ite_some ho1 fun h2 ho1 => ?_
    refine o_append (enc := eU8) (xs := v1) (ys := ([x] : List Int)) 4 sl22 rfl rfl rfl (.r 0 _ rfl) h1 h2 rfl fun sa2 sn2 sc2 => ?_
    refine o_store_box 2 rfl ty22 rfl rfl rfl rfl rfl rfl rfl ?_
    refine o_nil ?_
    cases ho1
    intro a w hs
    exact ⟨(v1 ++ ([x] : List Int)), (sa2, sn2, sc2), rfl, sws_of (st_le [1, 1, 1, 1] le_nil rfl sub_nil a w hs)⟩
  · intro D1 v1 u1 hD1 hr1
    have e1 := Option.some.inj (hb1.symm.trans hr1)
    subst e1
    refine sat_wc ?_
    refine c_seq ?_
    refine c_region ?_
    refine o_v (v_load_box 2 ty22 rfl rfl rfl rfl rfl) rfl ?_
    refine o_v (v_assign rfl) rfl ?_
    refine o_seq ?_
    refine c_ret ?_
    cases hF
    refine s_dfr 0 D1 hD1 rfl rfl rfl ?_
    refine s_ret1 rfl (r_tmp rfl) fun a w hs => ?_
    exact fin_sel hs [3] ⟨u1.1, u1.2.1, u1.2.2, rfl, rfl, rfl⟩ rfl sub_nil
  · intro D1 v1 u1 hD1 hr1
    have e1 := Option.some.inj (hb1.symm.trans hr1)
    subst e1
    cases hF
  · intro D1 v1 u1 hD1 hr1
    have e1 := Option.some.inj (hb1.symm.trans hr1)
    subst e1
    cases hF
theorem tri26 (k : Nat) (s : S4) (r : List Int) (hF : F.ref01.Bytes k s = some r) :
    Tri Try.prog 26 [.agg #[.int .u64 s.w0, .int .u64 s.w1, .int .u64 s.w2, .int .u64 s.w3]] [] [] (fun o H Φ => ∃ (sa7 : Option Addr) (sn7 sc7 : Nat), o = .ret (.slice sa7 sn7 sc7) ∧ H = [.row (.slice sa7 sn7 sc7) 5 1 (r.map eU8)] ∧ Φ = []) := by
  unfold F.ref01.Bytes at hF
  refine tri_intro (n := 18) Try.func26 rfl Try.ntmps26 rfl fun w X => ?_
  refine c_seq ?_
  refine c_region ?_
  refine o_box rfl rfl rfl fun b => ?_
  refine o_v (v_assign rfl) rfl ?_
  refine o_seq ?_
  refine c_seq ?_
  refine c_region ?_
  refine o_v (v_assign rfl) rfl ?_
  refine o_seq ?_
  refine c_seq ?_
  refine c_seq ?_
  refine c_region ?_
  refine o_v (v_assign rfl) rfl ?_
  refine o_seq ?_
  obtain ⟨o1, ho1, hF⟩ := bd hF
  refine c_cut (fun E N' => ∀ (sa2 : Option Addr) (sn2 sc2 : Nat), Sat E [(0, .agg #[.int .u64 s.w0, .int .u64 s.w1, .int .u64 s.w2, .int .u64 s.w3]), (2, .slice none 0 0), (3, .slice sa2 sn2 sc2)] [.row (.slice sa2 sn2 sc2) 5 1 (o1.map eU8)] [] N') (fun N1 hN1 => ?_) ?_
  · refine c_block ?_
    refine c_loopE (fun E j a w => ∃ (out : List Int) (i : Int) (sa1 : Option Addr) (sn1 sc1 : Nat), F.ref01.Bytes_l1 k s j out i = some o1 ∧ St E [(0, .agg #[.int .u64 s.w0, .int .u64 s.w1, .int .u64 s.w2, .int .u64 s.w3]), (1, .pointer (some ⟨b, 0, none⟩)), (2, .slice none 0 0), (3, .slice sa1 sn1 sc1), (4, .int .i64 i)] [.box b 26 [.int .u64 s.w0, .int .u64 s.w1, .int .u64 s.w2, .int .u64 s.w3], .row (.slice sa1 sn1 sc1) 5 1 (out.map eU8)] [] a w) k ?_ ?_
    · refine s_st (st_nilrow 5 1) ?_
      intro a w hs
      exact ⟨([] : List Int), 0, none, 0, 0, ho1, st_le [1, 0] (le_cons rfl (le_cons rfl (le_cons rfl (le_cons rfl (le_cons rfl le_nil))))) rfl sub_nil a w hs⟩
    · rintro j a w ⟨out, i, sa1, sn1, sc1, hL1, hs⟩
      cases j with
      | zero => cases hL1
      | succ j =>
        refine wc_app hs ?_
        unfold F.ref01.Bytes_l1 at hL1
        refine c_seq ?_
        refine c_seq ?_
        refine c_region ?_
        refine o_v (v_move rfl) rfl ?_
        refine o_v (v_bin rfl rfl rfl) rfl ?_
        refine o_seq ?_
        refine c_cond rfl (fun h1 => ?_) (fun h1 => ?_)
        · replace hL1 := ite_t h1 hL1
          refine c_skip ?_
          refine sat_wc ?_
          refine c_seq ?_
          refine c_cut (fun E N' => ∀ (out1 : List Int) (t11 : Bool) (sa3 : Option Addr) (sn3 sc3 : Nat), F.ref01.Bytes_j2 (F.ref01.Bytes_l1 k s j) i out1 t11 = some o1 → Sat E [(0, .agg #[.int .u64 s.w0, .int .u64 s.w1, .int .u64 s.w2, .int .u64 s.w3]), (1, .pointer (some ⟨b, 0, none⟩)), (2, .slice none 0 0), (3, .slice sa3 sn3 sc3), (4, .int .i64 i), (6, .bool (decide (i < 256))), (11, .bool t11)] [.box b 26 [.int .u64 s.w0, .int .u64 s.w1, .int .u64 s.w2, .int .u64 s.w3], .row (.slice sa3 sn3 sc3) 5 1 (out1.map eU8)] [] N') (fun N2 hN2 => ?_) ?_
          · refine c_block ?_
            refine c_seq ?_
            refine c_region ?_
            refine o_v (v_load_box 0 ty26 rfl rfl rfl rfl rfl) rfl ?_
            refine o_v (v_move rfl) rfl ?_
            obtain ⟨v, h2, hL1⟩ := bd hL1
            refine o_callSB call18 rfl lent_nil (tri18 k s i v h2) rfl ?_
            refine o_seq ?_
            refine c_cut (fun E N' => ∀ (out2 : List Int) (sa4 : Option Addr) (sn4 sc4 : Nat), F.ref01.Bytes_j3 (F.ref01.Bytes_l1 k s j) i v out2 = some o1 → Sat E [(0, .agg #[.int .u64 s.w0, .int .u64 s.w1, .int .u64 s.w2, .int .u64 s.w3]), (1, .pointer (some ⟨b, 0, none⟩)), (2, .slice none 0 0), (3, .slice sa4 sn4 sc4), (4, .int .i64 i), (6, .bool (decide (i < 256))), (11, .bool v)] [.box b 26 [.int .u64 s.w0, .int .u64 s.w1, .int .u64 s.w2, .int .u64 s.w3], .row (.slice sa4 sn4 sc4) 5 1 (out2.map eU8)] [] N') (fun N3 hN3 => ?_) ?_
            · refine c_cond rfl (fun h3 => ?_) (fun h3 => ?_)
              · replace hL1 := ite_t h3 hL1
                refine c_region ?_
                refine o_v (v_move rfl) rfl ?_
                refine o_v (v_move rfl) rfl ?_
                refine o_v (v_convert (v := .int .u8 (IntKind.wrap .u8 i)) rfl (fun _ => by kernel_rfl)) rfl ?_
                refine o_buildSlice (enc := eU8) ([IntKind.wrap .u8 i] : List Int) [.int .u8 (IntKind.wrap .u8 i)] sl22 rfl (fun _ => by kernel_rfl) rfl rfl rfl (.s rfl (.nil)) rfl fun sa5 sn5 sc5 => ?_
                refine ite_some hL1 fun h4 hL1 => ?_
                refine ite_some hL1 fun h5 hL1 => ?_
                refine o_append (enc := eU8) (xs := out) (ys := ([IntKind.wrap .u8 i] : List Int)) 2 sl22 rfl rfl rfl (.r 0 _ rfl) h4 h5 rfl fun sa6 sn6 sc6 => ?_
                refine o_v (v_assign rfl) rfl ?_
                refine o_nil ?_
                refine s_st ?_ (hN3 (out ++ ([IntKind.wrap .u8 i] : List Int)) sa6 sn6 sc6 hL1)
                exact st_le [1, 1] (le_cons rfl (le_cons rfl (le_cons rfl (le_cons rfl (le_cons rfl (le_cons rfl (le_cons rfl le_nil))))))) rfl sub_nil
              · replace hL1 := ite_f h3 hL1
                refine c_skip ?_
                refine s_st ?_ (hN3 out sa1 sn1 sc1 hL1)
                exact st_le [0, 0] (le_cons rfl (le_cons rfl (le_cons rfl (le_cons rfl (le_cons rfl (le_cons rfl (le_cons rfl le_nil))))))) rfl sub_nil
            · intro out2 sa4 sn4 sc4 hL1
              unfold F.ref01.Bytes_j3 at hL1
              refine s_st ?_ (hN2 out2 v sa4 sn4 sc4 hL1)
              exact st_le [0, 0] (le_cons rfl (le_cons rfl (le_cons rfl (le_cons rfl (le_cons rfl (le_cons rfl (le_cons rfl le_nil))))))) rfl sub_nil
          · intro out1 t11 sa3 sn3 sc3 hL1
            unfold F.ref01.Bytes_j2 at hL1
            refine sat_wc ?_
            refine c_region ?_
            refine o_v (v_move rfl) rfl ?_
            refine o_v (v_bin rfl rfl rfl) rfl ?_
            refine o_v (v_assign rfl) rfl ?_
            refine o_nil ?_
            intro a w hs
            exact ⟨j, Nat.lt_succ_self j, out1, IntKind.wrap .i64 (i + 1), sa3, sn3, sc3, hL1, st_le [0, 0] (le_cons rfl (le_cons rfl (le_cons rfl (le_cons rfl (le_cons rfl le_nil))))) rfl sub_nil a w hs⟩
        · replace hL1 := ite_f h1 hL1
          refine c_exit0 ?_
          cases hL1
          refine s_st ?_ (hN1 sa1 sn1 sc1)
          exact st_le [1] (le_cons rfl (le_cons rfl (le_cons rfl le_nil))) rfl sub_nil
  · intro sa2 sn2 sc2
    refine sat_wc ?_
    refine c_seq ?_
    refine c_region ?_
    refine o_v (v_move rfl) rfl ?_
    refine o_v (v_assign rfl) rfl ?_
    refine o_seq ?_
    refine c_ret ?_
    cases hF
    refine s_ret1 rfl (r_tmp rfl) fun a w hs => ?_
    exact fin_sel hs [0] ⟨sa2, sn2, sc2, rfl, rfl, rfl⟩ rfl sub_nil
theorem tri25 (a_ : List Int) (b : List Int) (sa1 : Option Addr) (sn1 sc1 : Nat) (sa2 : Option Addr) (sn2 sc2 : Nat) (r : Bool) (hF : F.ref01.SameBytes a_ b = some r) :
    Tri Try.prog 25 [.slice sa1 sn1 sc1, .slice sa2 sn2 sc2] [] [(.slice sa1 sn1 sc1, .slice 1 (a_.map eU8)), (.slice sa2 sn2 sc2, .slice 1 (b.map eU8))] (fun o H Φ => o = .ret (.bool r) ∧ H = [] ∧ Φ = []) := by
  unfold F.ref01.SameBytes at hF
  refine tri_intro (n := 10) Try.func25 rfl Try.ntmps25 rfl fun w X => ?_
  refine c_seq ?_
  refine c_region ?_
  refine o_v (v_assign rfl) rfl ?_
  refine o_seq ?_
  refine c_seq ?_
  refine c_region ?_
  refine o_v (v_move rfl) rfl ?_
  refine o_v (v_bytesStr sl22 Try.underlying5 Try.underlying9 rfl (.f 0 rfl)) rfl ?_
  refine o_v (v_move rfl) rfl ?_
  refine o_v (v_bytesStr sl22 Try.underlying5 Try.underlying9 rfl (.f 1 rfl)) rfl ?_
  refine o_v (v_streq rfl rfl) rfl ?_
  refine o_v (v_assign rfl) rfl ?_
  refine o_seq ?_
  refine c_ret ?_
  cases hF
  refine s_ret1 rfl (r_tmp rfl) fun a w hs => ?_
  exact fin_sel hs [] ⟨rfl, rfl, rfl⟩ rfl sub_nil
end Go.Vc
