import Derived.Test.YthkfffheppfieaaW0
set_option linter.unusedVariables false
set_option linter.unusedSimpArgs false
set_option maxRecDepth 8000
set_option maxHeartbeats 2000000
namespace Go.Vc
open Go Go.Proofs
theorem tri27 (k : Nat) (s : Words_scanner) (b : Nat) (sa1 : Option Addr) (sn1 sc1 : Nat) (r : Fault × Words_scanner) (hF : F.words.scanner_next k s = some r) :
    Tri Try.prog 27 [.pointer (some ⟨b, 0, none⟩)] [.box b 49 [.string (bs s.text), .int .i64 s.at_, .int .i64 s.line, .int .i64 s.top, .slice sa1 sn1 sc1], .row (.slice sa1 sn1 sc1) 35 11 (s.out.map eWord)] [] (fun o H Φ => ∃ (sa11 : Option Addr) (sn11 sc11 : Nat), o = .ret (.agg #[.int .i64 r.1.At, .int .i64 r.1.Code]) ∧ H = [.box b 49 [.string (bs r.2.text), .int .i64 r.2.at_, .int .i64 r.2.line, .int .i64 r.2.top, .slice sa11 sn11 sc11], .row (.slice sa11 sn11 sc11) 35 11 (r.2.out.map eWord)] ∧ Φ = []) := by
  unfold F.words.scanner_next at hF
  refine tri_intro (n := 143) Try.func27 rfl Try.ntmps27 rfl fun w X => ?_
  refine c_seq ?_
  refine c_region ?_
  refine o_alloc zero26 rfl rfl fun b1 => ?_
  refine o_seq ?_
  refine c_seq ?_
  refine c_draw (n := 10) [0, 0, 0] mixed rfl rfl ?_
  refine d_val 0 rfl pnok (by kernel_rfl) (by kernel_rfl) (by kernel_rfl) rfl (v_move rfl) ?_
  refine d_val 1 rfl pnok (by kernel_rfl) (by kernel_rfl) (by kernel_rfl) rfl (v_nilCheck rfl) ?_
  refine d_val 2 rfl pnok (by kernel_rfl) (by kernel_rfl) (by kernel_rfl) rfl (v_fieldAddr (v := .pointer (some ⟨b, 0, none⟩)) rfl (fun _ => by kernel_rfl)) ?_
  refine d_val 3 rfl pnok (by kernel_rfl) (by kernel_rfl) (by kernel_rfl) rfl (v_load_box 1 ty9 rfl rfl rfl rfl rfl) ?_
  refine d_val 4 rfl pnok (by kernel_rfl) (by kernel_rfl) (by kernel_rfl) rfl (v_move rfl) ?_
  refine d_val 5 rfl pnok (by kernel_rfl) (by kernel_rfl) (by kernel_rfl) rfl (v_nilCheck rfl) ?_
  refine d_val 6 rfl pnok (by kernel_rfl) (by kernel_rfl) (by kernel_rfl) rfl (v_fieldAddr (v := .pointer (some ⟨b, 1, none⟩)) rfl (fun _ => by kernel_rfl)) ?_
  refine d_val 7 rfl pnok (by kernel_rfl) (by kernel_rfl) (by kernel_rfl) rfl (v_load_box 1 ty3 rfl rfl rfl rfl rfl) ?_
  refine ite_some hF fun h1 hF => ?_
  refine d_val 8 rfl pnok (by kernel_rfl) (by kernel_rfl) (by kernel_rfl) rfl (v_sindex Try.underlying9 rfl rfl h1) ?_
  refine d_val 9 rfl pnok (by kernel_rfl) (by kernel_rfl) (by kernel_rfl) rfl (v_assign rfl) ?_
  refine d_done_seq (by kernel_rfl) ?_
  refine c_seq ?_
  refine c_block ?_
  refine c_seq ?_
  refine c_cut (fun E N' => ∀ (t27 : Bool), F.words.scanner_next_j1 k s t27 = some r → Sat E [(0, .pointer (some ⟨b, 0, none⟩)), (2, .pointer (some ⟨b1, 0, none⟩)), (3, .int .u8 (sAt s.text s.at_)), (27, .bool t27)] [.box b1 26 [.int .i64 0, .int .i64 0], .box b 49 [.string (bs s.text), .int .i64 s.at_, .int .i64 s.line, .int .i64 s.top, .slice sa1 sn1 sc1], .row (.slice sa1 sn1 sc1) 35 11 (s.out.map eWord)] [] N') (fun N6 hN6 => ?_) ?_
  · refine c_region ?_
    refine o_v (v_move rfl) rfl ?_
    refine o_v (v_convert (v := .int .i32 (IntKind.wrap .i32 (sAt s.text s.at_))) rfl (fun _ => by kernel_rfl)) rfl ?_
    obtain ⟨v11, h24, hF⟩ := bd hF
    refine o_callSB call33 rfl lent_nil (tri33 (IntKind.wrap .i32 (sAt s.text s.at_)) v11 h24) rfl ?_
    refine o_v (v_move rfl) rfl ?_
    refine o_split (t := 31) rfl (fun h25 => ?_) (fun h25 => ?_)
    · replace hF := ite_t h25 hF
      refine o_off rfl rfl (by decide) rfl ?_
      refine o_off rfl rfl (by decide) rfl ?_
      refine o_off rfl rfl (by decide) rfl ?_
      refine o_v (v_pick_t rfl rfl) rfl ?_
      refine o_v (v_assign rfl) rfl ?_
      refine o_nil ?_
      refine s_st ?_ (hN6 true hF)
      exact st_le [0, 0, 0] (le_cons rfl (le_cons rfl (le_cons rfl (le_cons rfl le_nil)))) rfl sub_nil
    · replace hF := ite_f h25 hF
      refine o_on rfl rfl ?_
      refine o_v (v_move rfl) rfl ?_
      refine o_on rfl rfl ?_
      refine o_v (v_convert (v := .int .i32 (IntKind.wrap .i32 (sAt s.text s.at_))) rfl (fun _ => by kernel_rfl)) rfl ?_
      refine o_on rfl rfl ?_
      obtain ⟨v12, h26, hF⟩ := bd hF
      refine o_callSB call37 rfl lent_nil (tri37 (IntKind.wrap .i32 (sAt s.text s.at_)) v12 h26) rfl ?_
      refine o_v (v_pick_f rfl rfl) rfl ?_
      refine o_v (v_assign rfl) rfl ?_
      refine o_nil ?_
      refine s_st ?_ (hN6 v12 hF)
      exact st_le [0, 0, 0] (le_cons rfl (le_cons rfl (le_cons rfl (le_cons rfl le_nil)))) rfl sub_nil
  · intro t27 hF
    unfold F.words.scanner_next_j1 at hF
    refine sat_wc ?_
    refine c_cut (fun E N' => ∀ (text_ : List UInt8) (at__ : Int) (line_ : Int) (top_ : Int) (out_ : List Word) (sa2 : Option Addr) (sn2 sc2 : Nat), F.words.scanner_next_j2 text_ at__ line_ top_ out_ = some r → Sat E [(0, .pointer (some ⟨b, 0, none⟩)), (2, .pointer (some ⟨b1, 0, none⟩)), (3, .int .u8 (sAt s.text s.at_))] [.box b 49 [.string (bs text_), .int .i64 at__, .int .i64 line_, .int .i64 top_, .slice sa2 sn2 sc2], .box b1 26 [.int .i64 0, .int .i64 0], .row (.slice sa2 sn2 sc2) 35 11 (out_.map eWord)] [] N') (fun N2 hN2 => ?_) ?_
    · refine c_cond rfl (fun h2 => ?_) (fun h2 => ?_)
      · replace hF := ite_t h2 hF
        refine c_seq ?_
        refine c_draw (n := 11) [0, 0, 0] mixed rfl rfl ?_
        refine d_val 0 rfl pnok (by kernel_rfl) (by kernel_rfl) (by kernel_rfl) rfl (v_move rfl) ?_
        refine d_val 1 rfl pnok (by kernel_rfl) (by kernel_rfl) (by kernel_rfl) rfl (v_nilCheck rfl) ?_
        refine d_val 2 rfl pnok (by kernel_rfl) (by kernel_rfl) (by kernel_rfl) rfl (v_fieldAddr (v := .pointer (some ⟨b, 0, none⟩)) rfl (fun _ => by kernel_rfl)) ?_
        refine d_val 3 rfl pnok (by kernel_rfl) (by kernel_rfl) (by kernel_rfl) rfl (v_load_box 1 ty9 rfl rfl rfl rfl rfl) ?_
        refine d_val 4 rfl pnok (by kernel_rfl) (by kernel_rfl) (by kernel_rfl) rfl (v_move rfl) ?_
        refine d_val 5 rfl pnok (by kernel_rfl) (by kernel_rfl) (by kernel_rfl) rfl (v_nilCheck rfl) ?_
        refine d_val 6 rfl pnok (by kernel_rfl) (by kernel_rfl) (by kernel_rfl) rfl (v_fieldAddr (v := .pointer (some ⟨b, 1, none⟩)) rfl (fun _ => by kernel_rfl)) ?_
        refine d_val 7 rfl pnok (by kernel_rfl) (by kernel_rfl) (by kernel_rfl) rfl (v_load_box 1 ty3 rfl rfl rfl rfl rfl) ?_
        refine ite_some hF fun h3 hF => ?_
        refine d_val 8 rfl pnok (by kernel_rfl) (by kernel_rfl) (by kernel_rfl) rfl (v_strslice Try.underlying9 rfl rfl rfl rfl rfl h3) ?_
        refine d_one 9 rfl (by kernel_rfl) ?_
        obtain ⟨v, h4, hF⟩ := bd hF
        refine o_callSB call34 rfl lent_nil (tri34 k (sub s.text s.at_ (s.text.length : Int)) v h4) rfl ?_
        refine d_next [0, 0, 0] 0 rfl rfl ?_
        refine d_val 10 rfl pnok (by kernel_rfl) (by kernel_rfl) (by kernel_rfl) rfl (v_assign rfl) ?_
        refine d_done_seq (by kernel_rfl) ?_
        refine c_seq ?_
        refine c_seq ?_
        refine c_region ?_
        refine o_v (v_move rfl) rfl ?_
        refine o_v (v_bin rfl rfl rfl) rfl ?_
        refine o_seq ?_
        refine c_cond rfl (fun h5 => ?_) (fun h5 => ?_)
        · replace hF := ite_t h5 hF
          refine c_seq ?_
          refine c_region ?_
          refine o_v (v_move rfl) rfl ?_
          refine o_v (v_nilCheck rfl) rfl ?_
          refine o_v (v_fieldAddr (v := .pointer (some ⟨b, 1, none⟩)) rfl (fun _ => by kernel_rfl)) rfl ?_
          refine o_v (v_load_box 1 ty3 rfl rfl rfl rfl rfl) rfl ?_
          refine o_v (v_build (v := .agg #[.int .i64 s.at_, .int .i64 20]) rfl (fun _ => by kernel_rfl)) rfl ?_
          refine o_store_box 0 rfl ty26 rfl rfl rfl rfl rfl rfl rfl ?_
          refine o_seq ?_
          refine c_ret ?_
          cases hF
          refine s_ret1 rfl (r_cell 0 rfl ty26 rfl rfl rfl rfl) fun a w hs => ?_
          exact fin_sel hs [1, 1] ⟨sa1, sn1, sc1, rfl, rfl, rfl⟩ rfl sub_nil
        · replace hF := ite_f h5 hF
          refine c_skip ?_
          refine sat_wc ?_
          refine c_seq ?_
          refine c_region ?_
          refine o_v (v_assign rfl) rfl ?_
          refine o_seq ?_
          refine c_seq ?_
          refine c_seq ?_
          refine c_region ?_
          refine o_v (v_move rfl) rfl ?_
          refine o_v (v_convert (v := .int .i32 (IntKind.wrap .i32 (sAt s.text s.at_))) rfl (fun _ => by kernel_rfl)) rfl ?_
          obtain ⟨v1, h6, hF⟩ := bd hF
          refine o_callSB call33 rfl lent_nil (tri33 (IntKind.wrap .i32 (sAt s.text s.at_)) v1 h6) rfl ?_
          refine o_seq ?_
          refine c_cut (fun E N' => ∀ (kind : Int), F.words.scanner_next_j3 s v kind = some r → Sat E [(0, .pointer (some ⟨b, 0, none⟩)), (2, .pointer (some ⟨b1, 0, none⟩)), (3, .int .u8 (sAt s.text s.at_)), (4, .int .i64 v), (5, .int .i64 kind)] [.box b1 26 [.int .i64 0, .int .i64 0], .box b 49 [.string (bs s.text), .int .i64 s.at_, .int .i64 s.line, .int .i64 s.top, .slice sa1 sn1 sc1], .row (.slice sa1 sn1 sc1) 35 11 (s.out.map eWord)] [] N') (fun N3 hN3 => ?_) ?_
          · refine c_cond rfl (fun h8 => ?_) (fun h8 => ?_)
            · replace hF := ite_t h8 hF
              refine c_region ?_
              refine o_v (v_assign rfl) rfl ?_
              refine o_nil ?_
              refine s_st ?_ (hN3 1 hF)
              exact st_le [0, 0, 0] (le_cons rfl (le_cons rfl (le_cons rfl (le_cons rfl (le_cons rfl le_nil))))) rfl sub_nil
            · replace hF := ite_f h8 hF
              refine c_skip ?_
              refine s_st ?_ (hN3 2 hF)
              exact st_le [0, 0, 0] (le_cons rfl (le_cons rfl (le_cons rfl (le_cons rfl (le_cons rfl le_nil))))) rfl sub_nil
          · intro kind hF
            unfold F.words.scanner_next_j3 at hF
            refine sat_wc ?_
            refine c_region ?_
            refine o_v (v_move rfl) rfl ?_
            refine o_v (v_move rfl) rfl ?_
            refine o_v (v_build (v := .agg #[.int .i64 kind, .string (bs ([] : List UInt8)), .slice none 0 0, .int .u64 0, .int .u64 0, .int .u64 0, .int .u64 0, .int .i64 0, .int .i64 0, .int .i64 0, .int .i64 0]) rfl (fun _ => by kernel_rfl)) rfl ?_
            refine o_v (v_move rfl) rfl ?_
            refine o_v (v_nilCheck rfl) rfl ?_
            refine o_v (v_fieldAddr (v := .pointer (some ⟨b, 1, none⟩)) rfl (fun _ => by kernel_rfl)) rfl ?_
            refine o_v (v_load_box 1 ty3 rfl rfl rfl rfl rfl) rfl ?_
            refine o_v (v_move rfl) rfl ?_
            refine o_v (v_bin rfl rfl rfl) rfl ?_
            obtain ⟨v2, h7, hF⟩ := bd hF
            refine o_st (st_nilfact 1) ?_
            refine o_call [1, 1] call28 rfl rfl rfl (sub_cons 0 rfl sub_nil) (cap := #[]) (by rw [show (#[] : Array Value).toList = [] from rfl, List.append_nil]; exact (tri28 s (Word.mk kind ([] : List UInt8) ([] : List Int) (S4.mk 0 0 0 0) 0 0 0 0) (IntKind.wrap .i64 (s.at_ + v)) b sa1 sn1 sc1 none 0 0 v2 h7)) rfl ?_
            rintro _ _ _ ⟨sa3, sn3, sc3, rfl, rfl, rfl⟩
            refine o_nil ?_
            refine s_st ?_ (hN2 v2.text v2.at_ v2.line v2.top v2.out sa3 sn3 sc3 hF)
            exact st_le [0, 1, 0] (le_cons rfl (le_cons rfl (le_cons rfl le_nil))) rfl sub_nil
      · replace hF := ite_f h2 hF
        refine c_seq ?_
        refine c_region ?_
        refine o_v (v_move rfl) rfl ?_
        refine o_v (v_convert (v := .int .i32 (IntKind.wrap .i32 (sAt s.text s.at_))) rfl (fun _ => by kernel_rfl)) rfl ?_
        obtain ⟨v3, h9, hF⟩ := bd hF
        refine o_callSB call45 rfl lent_nil (tri45 (IntKind.wrap .i32 (sAt s.text s.at_)) v3 h9) rfl ?_
        refine o_v (v_assign rfl) rfl ?_
        refine o_seq ?_
        refine c_cond rfl (fun h10 => ?_) (fun h10 => ?_)
        · replace hF := ite_t h10 hF
          refine c_seq ?_
          refine c_region ?_
          refine o_v (v_move rfl) rfl ?_
          obtain ⟨v4, h11, hF⟩ := bd hF
          refine o_call [1, 1] call46 rfl rfl rfl sub_nil (cap := #[]) (by rw [show (#[] : Array Value).toList = [] from rfl, List.append_nil]; exact (tri46 k s b sa1 sn1 sc1 v4 h11)) rfl ?_
          rintro _ _ _ ⟨sa4, sn4, sc4, rfl, rfl, rfl⟩
          refine o_v (v_assign rfl) rfl ?_
          refine o_seq ?_
          refine c_seq ?_
          refine c_region ?_
          refine o_v (v_move rfl) rfl ?_
          refine o_v (v_bin rfl rfl rfl) rfl ?_
          refine o_seq ?_
          refine c_cond rfl (fun h12 => ?_) (fun h12 => ?_)
          · replace hF := ite_t h12 hF
            refine c_seq ?_
            refine c_region ?_
            refine o_v (v_move rfl) rfl ?_
            refine o_v (v_nilCheck rfl) rfl ?_
            refine o_v (v_fieldAddr (v := .pointer (some ⟨b, 1, none⟩)) rfl (fun _ => by kernel_rfl)) rfl ?_
            refine o_v (v_load_box 0 ty3 rfl rfl rfl rfl rfl) rfl ?_
            refine o_v (v_move rfl) rfl ?_
            refine o_v (v_build (v := .agg #[.int .i64 v4.2.at_, .int .i64 v4.1]) rfl (fun _ => by kernel_rfl)) rfl ?_
            refine o_store_box 2 rfl ty26 rfl rfl rfl rfl rfl rfl rfl ?_
            refine o_seq ?_
            refine c_ret ?_
            cases hF
            refine s_ret1 rfl (r_cell 2 rfl ty26 rfl rfl rfl rfl) fun a w hs => ?_
            exact fin_sel hs [0, 0] ⟨sa4, sn4, sc4, rfl, rfl, rfl⟩ rfl sub_nil
          · replace hF := ite_f h12 hF
            refine c_skip ?_
            refine s_st ?_ (hN2 v4.2.text v4.2.at_ v4.2.line v4.2.top v4.2.out sa4 sn4 sc4 hF)
            exact st_le [0, 1, 0] (le_cons rfl (le_cons rfl (le_cons rfl le_nil))) rfl sub_nil
        · replace hF := ite_f h10 hF
          refine c_seq ?_
          refine c_region ?_
          refine o_v (v_move rfl) rfl ?_
          refine o_v (v_bin rfl rfl rfl) rfl ?_
          refine o_v (v_assign rfl) rfl ?_
          refine o_seq ?_
          refine c_cut (fun E N' => ∀ (text_1 : List UInt8) (at__1 : Int) (line_1 : Int) (top_1 : Int) (out_1 : List Word) (sa5 : Option Addr) (sn5 sc5 : Nat), F.words.scanner_next_j4 text_1 at__1 line_1 top_1 out_1 = some r → Sat E [(0, .pointer (some ⟨b, 0, none⟩)), (2, .pointer (some ⟨b1, 0, none⟩)), (3, .int .u8 (sAt s.text s.at_))] [.box b 49 [.string (bs text_1), .int .i64 at__1, .int .i64 line_1, .int .i64 top_1, .slice sa5 sn5 sc5], .box b1 26 [.int .i64 0, .int .i64 0], .row (.slice sa5 sn5 sc5) 35 11 (out_1.map eWord)] [] N') (fun N4 hN4 => ?_) ?_
          · refine c_cond rfl (fun h13 => ?_) (fun h13 => ?_)
            · replace hF := ite_t h13 hF
              refine c_seq ?_
              refine c_cut (fun E N' => ∀ (b2 : List Int) (end_ : Int) (At_ : Int) (Code_ : Int) (sa6 : Option Addr) (sn6 sc6 : Nat) (b3 : Nat), F.words.scanner_next_j5 s b2 end_ At_ Code_ = some r → Sat E [(0, .pointer (some ⟨b, 0, none⟩)), (2, .pointer (some ⟨b1, 0, none⟩)), (3, .int .u8 (sAt s.text s.at_)), (7, .slice sa6 sn6 sc6), (8, .int .i64 end_), (9, .pointer (some ⟨b3, 0, none⟩))] [.box b1 26 [.int .i64 0, .int .i64 0], .box b 49 [.string (bs s.text), .int .i64 s.at_, .int .i64 s.line, .int .i64 s.top, .slice sa1 sn1 sc1], .box b3 26 [.int .i64 At_, .int .i64 Code_], .row (.slice sa6 sn6 sc6) 5 1 (b2.map eU8), .row (.slice sa1 sn1 sc1) 35 11 (s.out.map eWord)] [] N') (fun N5 hN5 => ?_) ?_
              · refine c_draw (n := 17) [0, 0, 0] mixed rfl rfl ?_
                refine d_val 0 rfl pnok (by kernel_rfl) (by kernel_rfl) (by kernel_rfl) rfl (v_move rfl) ?_
                refine d_val 1 rfl pnok (by kernel_rfl) (by kernel_rfl) (by kernel_rfl) rfl (v_nilCheck rfl) ?_
                refine d_val 2 rfl pnok (by kernel_rfl) (by kernel_rfl) (by kernel_rfl) rfl (v_fieldAddr (v := .pointer (some ⟨b, 0, none⟩)) rfl (fun _ => by kernel_rfl)) ?_
                refine d_val 3 rfl pnok (by kernel_rfl) (by kernel_rfl) (by kernel_rfl) rfl (v_load_box 1 ty9 rfl rfl rfl rfl rfl) ?_
                refine d_val 4 rfl pnok (by kernel_rfl) (by kernel_rfl) (by kernel_rfl) rfl (v_move rfl) ?_
                refine d_val 5 rfl pnok (by kernel_rfl) (by kernel_rfl) (by kernel_rfl) rfl (v_nilCheck rfl) ?_
                refine d_val 6 rfl pnok (by kernel_rfl) (by kernel_rfl) (by kernel_rfl) rfl (v_fieldAddr (v := .pointer (some ⟨b, 1, none⟩)) rfl (fun _ => by kernel_rfl)) ?_
                refine d_val 7 rfl pnok (by kernel_rfl) (by kernel_rfl) (by kernel_rfl) rfl (v_load_box 1 ty3 rfl rfl rfl rfl rfl) ?_
                obtain ⟨v6, h16, hF⟩ := bd hF
                refine d_all [8, 13] (by kernel_rfl) (by simp) ⟨⟨_, rfl, ?_⟩, ⟨_, rfl, ?_⟩, trivial⟩
                · refine o_call0 call42 rfl sub_nil (tri42 k s.text s.at_ v6 h16) rfl ?_
                  rintro _ _ _ ⟨sa8, sn8, sc8, rfl, rfl, rfl⟩
                  refine d_next [1, 1, 1] 0 rfl rfl ?_
                  refine d_val 9 rfl pnok (by kernel_rfl) (by kernel_rfl) (by kernel_rfl) rfl (v_move rfl) ?_
                  refine d_val 10 rfl pnok (by kernel_rfl) (by kernel_rfl) (by kernel_rfl) rfl (v_extract rfl rfl) ?_
                  refine d_val 11 rfl pnok (by kernel_rfl) (by kernel_rfl) (by kernel_rfl) rfl (v_extract rfl rfl) ?_
                  refine d_val 12 rfl pnok (by kernel_rfl) (by kernel_rfl) (by kernel_rfl) rfl (v_extract rfl rfl) ?_
                  refine d_one 13 rfl (by kernel_rfl) ?_
                  refine o_alloc zero26 rfl rfl fun b4 => ?_
                  refine d_next [2, 2, 2] 0 rfl rfl ?_
                  refine d_val 14 rfl pnok (by kernel_rfl) (by kernel_rfl) (by kernel_rfl) rfl (v_assign rfl) ?_
                  refine d_val 15 rfl pnok (by kernel_rfl) (by kernel_rfl) (by kernel_rfl) rfl (v_assign rfl) ?_
                  refine d_one 16 rfl (by kernel_rfl) ?_
                  refine o_store_box 0 rfl ty26 rfl rfl rfl rfl rfl rfl rfl ?_
                  refine d_next [2, 2, 2] 0 rfl rfl ?_
                  refine d_done (by kernel_rfl) ?_
                  refine s_st ?_ (hN5 v6.1 v6.2.1 v6.2.2.At v6.2.2.Code sa8 sn8 sc8 b4 hF)
                  exact st_le [2, 2, 0, 0, 0] (le_cons rfl (le_cons rfl (le_cons rfl (le_cons rfl (le_cons rfl (le_cons rfl le_nil)))))) rfl sub_nil
                · refine o_alloc zero26 rfl rfl fun b4 => ?_
                  refine d_next [1, 1, 1] 0 rfl rfl ?_
                  refine d_one 8 rfl (by kernel_rfl) ?_
                  refine o_call0 call42 rfl sub_nil (tri42 k s.text s.at_ v6 h16) rfl ?_
                  rintro _ _ _ ⟨sa8, sn8, sc8, rfl, rfl, rfl⟩
                  refine d_next [2, 2, 2] 0 rfl rfl ?_
                  refine d_val 9 rfl pnok (by kernel_rfl) (by kernel_rfl) (by kernel_rfl) rfl (v_move rfl) ?_
                  refine d_val 10 rfl pnok (by kernel_rfl) (by kernel_rfl) (by kernel_rfl) rfl (v_extract rfl rfl) ?_
                  refine d_val 11 rfl pnok (by kernel_rfl) (by kernel_rfl) (by kernel_rfl) rfl (v_extract rfl rfl) ?_
                  refine d_val 12 rfl pnok (by kernel_rfl) (by kernel_rfl) (by kernel_rfl) rfl (v_extract rfl rfl) ?_
                  refine d_val 14 rfl pnok (by kernel_rfl) (by kernel_rfl) (by kernel_rfl) rfl (v_assign rfl) ?_
                  refine d_val 15 rfl pnok (by kernel_rfl) (by kernel_rfl) (by kernel_rfl) rfl (v_assign rfl) ?_
                  refine d_one 16 rfl (by kernel_rfl) ?_
                  refine o_store_box 1 rfl ty26 rfl rfl rfl rfl rfl rfl rfl ?_
                  refine d_next [2, 2, 2] 0 rfl rfl ?_
                  refine d_done (by kernel_rfl) ?_
                  refine s_st ?_ (hN5 v6.1 v6.2.1 v6.2.2.At v6.2.2.Code sa8 sn8 sc8 b4 hF)
                  exact st_le [2, 2, 1, 0, 0] (le_cons rfl (le_cons rfl (le_cons rfl (le_cons rfl (le_cons rfl (le_cons rfl le_nil)))))) rfl sub_nil
              · intro b2 end_ At_ Code_ sa6 sn6 sc6 b3 hF
                unfold F.words.scanner_next_j5 at hF
                refine sat_wc ?_
                refine c_seq ?_
                refine c_seq ?_
                refine c_region ?_
                refine o_v (v_fieldAddr (v := .pointer (some ⟨b3, 1, none⟩)) rfl (fun _ => by kernel_rfl)) rfl ?_
                refine o_v (v_load_box 2 ty24 rfl rfl rfl rfl rfl) rfl ?_
                refine o_v (v_bin rfl rfl rfl) rfl ?_
                refine o_seq ?_
                refine c_cond rfl (fun h14 => ?_) (fun h14 => ?_)
                · replace hF := ite_t h14 hF
                  refine c_seq ?_
                  refine c_region ?_
                  refine o_v (v_load_box 2 ty26 rfl rfl rfl rfl rfl) rfl ?_
                  refine o_store_box 0 rfl ty26 rfl rfl rfl rfl rfl rfl rfl ?_
                  refine o_seq ?_
                  refine c_ret ?_
                  cases hF
                  refine s_ret1 rfl (r_cell 0 rfl ty26 rfl rfl rfl rfl) fun a w hs => ?_
                  exact fin_sel hs [1, 3] ⟨sa1, sn1, sc1, rfl, rfl, rfl⟩ rfl sub_nil
                · replace hF := ite_f h14 hF
                  refine c_skip ?_
                  refine sat_wc ?_
                  refine c_region ?_
                  refine o_v (v_move rfl) rfl ?_
                  refine o_v (v_move rfl) rfl ?_
                  refine o_v (v_build (v := .agg #[.int .i64 4, .string (bs ([] : List UInt8)), .slice sa6 sn6 sc6, .int .u64 0, .int .u64 0, .int .u64 0, .int .u64 0, .int .i64 0, .int .i64 0, .int .i64 0, .int .i64 0]) rfl (fun _ => by kernel_rfl)) rfl ?_
                  refine o_v (v_move rfl) rfl ?_
                  obtain ⟨v5, h15, hF⟩ := bd hF
                  refine o_st (st_freeze 3 rfl) ?_
                  refine o_call [1, 2] call28 rfl rfl rfl (sub_cons 0 rfl sub_nil) (cap := #[]) (by rw [show (#[] : Array Value).toList = [] from rfl, List.append_nil]; exact (tri28 s (Word.mk 4 ([] : List UInt8) b2 (S4.mk 0 0 0 0) 0 0 0 0) end_ b sa1 sn1 sc1 sa6 sn6 sc6 v5 h15)) rfl ?_
                  rintro _ _ _ ⟨sa7, sn7, sc7, rfl, rfl, rfl⟩
                  refine o_nil ?_
                  refine s_st ?_ (hN4 v5.text v5.at_ v5.line v5.top v5.out sa7 sn7 sc7 hF)
                  exact st_le [0, 1, 0] (le_cons rfl (le_cons rfl (le_cons rfl le_nil))) rfl sub_nil
            · replace hF := ite_f h13 hF
              refine c_seq ?_
              refine c_region ?_
              refine o_v (v_move rfl) rfl ?_
              refine o_v (v_bin rfl rfl rfl) rfl ?_
              refine o_v (v_assign rfl) rfl ?_
              refine o_seq ?_
              refine c_cond rfl (fun h17 => ?_) (fun h17 => ?_)
              · replace hF := ite_t h17 hF
                refine c_seq ?_
                refine c_cut (fun E N' => ∀ (set__ : S4) (end_1 : Int) (At_1 : Int) (Code_1 : Int) (b5 : Nat) (b6 : Nat), F.words.scanner_next_j6 s set__ end_1 At_1 Code_1 = some r → Sat E [(0, .pointer (some ⟨b, 0, none⟩)), (2, .pointer (some ⟨b1, 0, none⟩)), (3, .int .u8 (sAt s.text s.at_)), (10, .pointer (some ⟨b5, 0, none⟩)), (11, .int .i64 end_1), (12, .pointer (some ⟨b6, 0, none⟩))] [.box b1 26 [.int .i64 0, .int .i64 0], .box b 49 [.string (bs s.text), .int .i64 s.at_, .int .i64 s.line, .int .i64 s.top, .slice sa1 sn1 sc1], .box b5 33 [.int .u64 set__.w0, .int .u64 set__.w1, .int .u64 set__.w2, .int .u64 set__.w3], .box b6 26 [.int .i64 At_1, .int .i64 Code_1], .row (.slice sa1 sn1 sc1) 35 11 (s.out.map eWord)] [] N') (fun N6 hN6 => ?_) ?_
                · refine c_draw (n := 18) [0, 0, 0] mixed rfl rfl ?_
                  refine d_val 0 rfl pnok (by kernel_rfl) (by kernel_rfl) (by kernel_rfl) rfl (v_move rfl) ?_
                  refine d_val 1 rfl pnok (by kernel_rfl) (by kernel_rfl) (by kernel_rfl) rfl (v_nilCheck rfl) ?_
                  refine d_val 2 rfl pnok (by kernel_rfl) (by kernel_rfl) (by kernel_rfl) rfl (v_fieldAddr (v := .pointer (some ⟨b, 0, none⟩)) rfl (fun _ => by kernel_rfl)) ?_
                  refine d_val 3 rfl pnok (by kernel_rfl) (by kernel_rfl) (by kernel_rfl) rfl (v_load_box 1 ty9 rfl rfl rfl rfl rfl) ?_
                  refine d_val 4 rfl pnok (by kernel_rfl) (by kernel_rfl) (by kernel_rfl) rfl (v_move rfl) ?_
                  refine d_val 5 rfl pnok (by kernel_rfl) (by kernel_rfl) (by kernel_rfl) rfl (v_nilCheck rfl) ?_
                  refine d_val 6 rfl pnok (by kernel_rfl) (by kernel_rfl) (by kernel_rfl) rfl (v_fieldAddr (v := .pointer (some ⟨b, 1, none⟩)) rfl (fun _ => by kernel_rfl)) ?_
                  refine d_val 7 rfl pnok (by kernel_rfl) (by kernel_rfl) (by kernel_rfl) rfl (v_load_box 1 ty3 rfl rfl rfl rfl rfl) ?_
                  obtain ⟨v8, h20, hF⟩ := bd hF
                  refine d_all [8, 13, 14] (by kernel_rfl) (by simp) ⟨⟨_, rfl, ?_⟩, ⟨_, rfl, ?_⟩, ⟨_, rfl, ?_⟩, trivial⟩
                  · refine o_callSB call47 rfl lent_nil (tri47 k s.text s.at_ v8 h20) rfl ?_
                    refine d_next [0, 0, 0] 0 rfl rfl ?_
                    refine d_val 9 rfl pnok (by kernel_rfl) (by kernel_rfl) (by kernel_rfl) rfl (v_move rfl) ?_
                    refine d_val 10 rfl pnok (by kernel_rfl) (by kernel_rfl) (by kernel_rfl) rfl (v_extract rfl rfl) ?_
                    refine d_val 11 rfl pnok (by kernel_rfl) (by kernel_rfl) (by kernel_rfl) rfl (v_extract rfl rfl) ?_
                    refine d_val 12 rfl pnok (by kernel_rfl) (by kernel_rfl) (by kernel_rfl) rfl (v_extract rfl rfl) ?_
                    refine d_all [13, 14] (by kernel_rfl) (by simp) ⟨⟨_, rfl, ?_⟩, ⟨_, rfl, ?_⟩, trivial⟩
                    · refine o_alloc zero33 rfl rfl fun b7 => ?_
                      refine d_next [1, 1, 1] 0 rfl rfl ?_
                      refine d_one 14 rfl (by kernel_rfl) ?_
                      refine o_alloc zero26 rfl rfl fun b8 => ?_
                      refine d_next [2, 2, 2] 0 rfl rfl ?_
                      refine d_one 15 rfl (by kernel_rfl) ?_
                      refine o_store_box 1 rfl ty33 rfl rfl rfl rfl rfl rfl rfl ?_
                      refine d_next [2, 2, 2] 0 rfl rfl ?_
                      refine d_val 16 rfl pnok (by kernel_rfl) (by kernel_rfl) (by kernel_rfl) rfl (v_assign rfl) ?_
                      refine d_one 17 rfl (by kernel_rfl) ?_
                      refine o_store_box 0 rfl ty26 rfl rfl rfl rfl rfl rfl rfl ?_
                      refine d_next [2, 2, 2] 0 rfl rfl ?_
                      refine d_done (by kernel_rfl) ?_
                      refine s_st ?_ (hN6 v8.1 v8.2.1 v8.2.2.At v8.2.2.Code b7 b8 hF)
                      exact st_le [2, 2, 1, 0, 0] (le_cons rfl (le_cons rfl (le_cons rfl (le_cons rfl (le_cons rfl (le_cons rfl le_nil)))))) rfl sub_nil
                    · refine o_alloc zero26 rfl rfl fun b7 => ?_
                      refine d_next [1, 1, 1] 0 rfl rfl ?_
                      refine d_one 13 rfl (by kernel_rfl) ?_
                      refine o_alloc zero33 rfl rfl fun b8 => ?_
                      refine d_next [2, 2, 2] 0 rfl rfl ?_
                      refine d_one 15 rfl (by kernel_rfl) ?_
                      refine o_store_box 0 rfl ty33 rfl rfl rfl rfl rfl rfl rfl ?_
                      refine d_next [2, 2, 2] 0 rfl rfl ?_
                      refine d_val 16 rfl pnok (by kernel_rfl) (by kernel_rfl) (by kernel_rfl) rfl (v_assign rfl) ?_
                      refine d_one 17 rfl (by kernel_rfl) ?_
                      refine o_store_box 1 rfl ty26 rfl rfl rfl rfl rfl rfl rfl ?_
                      refine d_next [2, 2, 2] 0 rfl rfl ?_
                      refine d_done (by kernel_rfl) ?_
                      refine s_st ?_ (hN6 v8.1 v8.2.1 v8.2.2.At v8.2.2.Code b8 b7 hF)
                      exact st_le [2, 2, 0, 0, 0] (le_cons rfl (le_cons rfl (le_cons rfl (le_cons rfl (le_cons rfl (le_cons rfl le_nil)))))) rfl sub_nil
                  · refine o_alloc zero33 rfl rfl fun b7 => ?_
                    refine d_next [1, 1, 1] 0 rfl rfl ?_
                    refine d_all [8, 14] (by kernel_rfl) (by simp) ⟨⟨_, rfl, ?_⟩, ⟨_, rfl, ?_⟩, trivial⟩
                    · refine o_callSB call47 rfl lent_nil (tri47 k s.text s.at_ v8 h20) rfl ?_
                      refine d_next [1, 1, 1] 0 rfl rfl ?_
                      refine d_val 9 rfl pnok (by kernel_rfl) (by kernel_rfl) (by kernel_rfl) rfl (v_move rfl) ?_
                      refine d_val 10 rfl pnok (by kernel_rfl) (by kernel_rfl) (by kernel_rfl) rfl (v_extract rfl rfl) ?_
                      refine d_val 11 rfl pnok (by kernel_rfl) (by kernel_rfl) (by kernel_rfl) rfl (v_extract rfl rfl) ?_
                      refine d_val 12 rfl pnok (by kernel_rfl) (by kernel_rfl) (by kernel_rfl) rfl (v_extract rfl rfl) ?_
                      refine d_one 14 rfl (by kernel_rfl) ?_
                      refine o_alloc zero26 rfl rfl fun b8 => ?_
                      refine d_next [2, 2, 2] 0 rfl rfl ?_
                      refine d_one 15 rfl (by kernel_rfl) ?_
                      refine o_store_box 1 rfl ty33 rfl rfl rfl rfl rfl rfl rfl ?_
                      refine d_next [2, 2, 2] 0 rfl rfl ?_
                      refine d_val 16 rfl pnok (by kernel_rfl) (by kernel_rfl) (by kernel_rfl) rfl (v_assign rfl) ?_
                      refine d_one 17 rfl (by kernel_rfl) ?_
                      refine o_store_box 0 rfl ty26 rfl rfl rfl rfl rfl rfl rfl ?_
                      refine d_next [2, 2, 2] 0 rfl rfl ?_
                      refine d_done (by kernel_rfl) ?_
                      refine s_st ?_ (hN6 v8.1 v8.2.1 v8.2.2.At v8.2.2.Code b7 b8 hF)
                      exact st_le [2, 2, 1, 0, 0] (le_cons rfl (le_cons rfl (le_cons rfl (le_cons rfl (le_cons rfl (le_cons rfl le_nil)))))) rfl sub_nil
                    · refine o_alloc zero26 rfl rfl fun b8 => ?_
                      refine d_next [2, 2, 2] 0 rfl rfl ?_
                      refine d_one 8 rfl (by kernel_rfl) ?_
                      refine o_callSB call47 rfl lent_nil (tri47 k s.text s.at_ v8 h20) rfl ?_
                      refine d_next [2, 2, 2] 0 rfl rfl ?_
                      refine d_val 9 rfl pnok (by kernel_rfl) (by kernel_rfl) (by kernel_rfl) rfl (v_move rfl) ?_
                      refine d_val 10 rfl pnok (by kernel_rfl) (by kernel_rfl) (by kernel_rfl) rfl (v_extract rfl rfl) ?_
                      refine d_val 11 rfl pnok (by kernel_rfl) (by kernel_rfl) (by kernel_rfl) rfl (v_extract rfl rfl) ?_
                      refine d_val 12 rfl pnok (by kernel_rfl) (by kernel_rfl) (by kernel_rfl) rfl (v_extract rfl rfl) ?_
                      refine d_one 15 rfl (by kernel_rfl) ?_
                      refine o_store_box 1 rfl ty33 rfl rfl rfl rfl rfl rfl rfl ?_
                      refine d_next [2, 2, 2] 0 rfl rfl ?_
                      refine d_val 16 rfl pnok (by kernel_rfl) (by kernel_rfl) (by kernel_rfl) rfl (v_assign rfl) ?_
                      refine d_one 17 rfl (by kernel_rfl) ?_
                      refine o_store_box 0 rfl ty26 rfl rfl rfl rfl rfl rfl rfl ?_
                      refine d_next [2, 2, 2] 0 rfl rfl ?_
                      refine d_done (by kernel_rfl) ?_
                      refine s_st ?_ (hN6 v8.1 v8.2.1 v8.2.2.At v8.2.2.Code b7 b8 hF)
                      exact st_le [2, 2, 1, 0, 0] (le_cons rfl (le_cons rfl (le_cons rfl (le_cons rfl (le_cons rfl (le_cons rfl le_nil)))))) rfl sub_nil
                  · refine o_alloc zero26 rfl rfl fun b7 => ?_
                    refine d_next [1, 1, 1] 0 rfl rfl ?_
                    refine d_all [8, 13] (by kernel_rfl) (by simp) ⟨⟨_, rfl, ?_⟩, ⟨_, rfl, ?_⟩, trivial⟩
                    · refine o_callSB call47 rfl lent_nil (tri47 k s.text s.at_ v8 h20) rfl ?_
                      refine d_next [1, 1, 1] 0 rfl rfl ?_
                      refine d_val 9 rfl pnok (by kernel_rfl) (by kernel_rfl) (by kernel_rfl) rfl (v_move rfl) ?_
                      refine d_val 10 rfl pnok (by kernel_rfl) (by kernel_rfl) (by kernel_rfl) rfl (v_extract rfl rfl) ?_
                      refine d_val 11 rfl pnok (by kernel_rfl) (by kernel_rfl) (by kernel_rfl) rfl (v_extract rfl rfl) ?_
                      refine d_val 12 rfl pnok (by kernel_rfl) (by kernel_rfl) (by kernel_rfl) rfl (v_extract rfl rfl) ?_
                      refine d_one 13 rfl (by kernel_rfl) ?_
                      refine o_alloc zero33 rfl rfl fun b8 => ?_
                      refine d_next [2, 2, 2] 0 rfl rfl ?_
                      refine d_one 15 rfl (by kernel_rfl) ?_
                      refine o_store_box 0 rfl ty33 rfl rfl rfl rfl rfl rfl rfl ?_
                      refine d_next [2, 2, 2] 0 rfl rfl ?_
                      refine d_val 16 rfl pnok (by kernel_rfl) (by kernel_rfl) (by kernel_rfl) rfl (v_assign rfl) ?_
                      refine d_one 17 rfl (by kernel_rfl) ?_
                      refine o_store_box 1 rfl ty26 rfl rfl rfl rfl rfl rfl rfl ?_
                      refine d_next [2, 2, 2] 0 rfl rfl ?_
                      refine d_done (by kernel_rfl) ?_
                      refine s_st ?_ (hN6 v8.1 v8.2.1 v8.2.2.At v8.2.2.Code b8 b7 hF)
                      exact st_le [2, 2, 0, 0, 0] (le_cons rfl (le_cons rfl (le_cons rfl (le_cons rfl (le_cons rfl (le_cons rfl le_nil)))))) rfl sub_nil
                    · refine o_alloc zero33 rfl rfl fun b8 => ?_
                      refine d_next [2, 2, 2] 0 rfl rfl ?_
                      refine d_one 8 rfl (by kernel_rfl) ?_
                      refine o_callSB call47 rfl lent_nil (tri47 k s.text s.at_ v8 h20) rfl ?_
                      refine d_next [2, 2, 2] 0 rfl rfl ?_
                      refine d_val 9 rfl pnok (by kernel_rfl) (by kernel_rfl) (by kernel_rfl) rfl (v_move rfl) ?_
                      refine d_val 10 rfl pnok (by kernel_rfl) (by kernel_rfl) (by kernel_rfl) rfl (v_extract rfl rfl) ?_
                      refine d_val 11 rfl pnok (by kernel_rfl) (by kernel_rfl) (by kernel_rfl) rfl (v_extract rfl rfl) ?_
                      refine d_val 12 rfl pnok (by kernel_rfl) (by kernel_rfl) (by kernel_rfl) rfl (v_extract rfl rfl) ?_
                      refine d_one 15 rfl (by kernel_rfl) ?_
                      refine o_store_box 0 rfl ty33 rfl rfl rfl rfl rfl rfl rfl ?_
                      refine d_next [2, 2, 2] 0 rfl rfl ?_
                      refine d_val 16 rfl pnok (by kernel_rfl) (by kernel_rfl) (by kernel_rfl) rfl (v_assign rfl) ?_
                      refine d_one 17 rfl (by kernel_rfl) ?_
                      refine o_store_box 1 rfl ty26 rfl rfl rfl rfl rfl rfl rfl ?_
                      refine d_next [2, 2, 2] 0 rfl rfl ?_
                      refine d_done (by kernel_rfl) ?_
                      refine s_st ?_ (hN6 v8.1 v8.2.1 v8.2.2.At v8.2.2.Code b8 b7 hF)
                      exact st_le [2, 2, 0, 0, 0] (le_cons rfl (le_cons rfl (le_cons rfl (le_cons rfl (le_cons rfl (le_cons rfl le_nil)))))) rfl sub_nil
                · intro set__ end_1 At_1 Code_1 b5 b6 hF
                  unfold F.words.scanner_next_j6 at hF
                  refine sat_wc ?_
                  refine c_seq ?_
                  refine c_seq ?_
                  refine c_region ?_
                  refine o_v (v_fieldAddr (v := .pointer (some ⟨b6, 1, none⟩)) rfl (fun _ => by kernel_rfl)) rfl ?_
                  refine o_v (v_load_box 3 ty24 rfl rfl rfl rfl rfl) rfl ?_
                  refine o_v (v_bin rfl rfl rfl) rfl ?_
                  refine o_seq ?_
                  refine c_cond rfl (fun h18 => ?_) (fun h18 => ?_)
                  · replace hF := ite_t h18 hF
                    refine c_seq ?_
                    refine c_region ?_
                    refine o_v (v_load_box 3 ty26 rfl rfl rfl rfl rfl) rfl ?_
                    refine o_store_box 0 rfl ty26 rfl rfl rfl rfl rfl rfl rfl ?_
                    refine o_seq ?_
                    refine c_ret ?_
                    cases hF
                    refine s_ret1 rfl (r_cell 0 rfl ty26 rfl rfl rfl rfl) fun a w hs => ?_
                    exact fin_sel hs [1, 3] ⟨sa1, sn1, sc1, rfl, rfl, rfl⟩ rfl sub_nil
                  · replace hF := ite_f h18 hF
                    refine c_skip ?_
                    refine sat_wc ?_
                    refine c_region ?_
                    refine o_v (v_move rfl) rfl ?_
                    refine o_v (v_load_box 2 ty33 rfl rfl rfl rfl rfl) rfl ?_
                    refine o_v (v_build (v := .agg #[.int .i64 5, .string (bs ([] : List UInt8)), .slice none 0 0, .int .u64 set__.w0, .int .u64 set__.w1, .int .u64 set__.w2, .int .u64 set__.w3, .int .i64 0, .int .i64 0, .int .i64 0, .int .i64 0]) rfl (fun _ => by kernel_rfl)) rfl ?_
                    refine o_v (v_move rfl) rfl ?_
                    obtain ⟨v7, h19, hF⟩ := bd hF
                    refine o_st (st_nilfact 1) ?_
                    refine o_call [1, 3] call28 rfl rfl rfl (sub_cons 0 rfl sub_nil) (cap := #[]) (by rw [show (#[] : Array Value).toList = [] from rfl, List.append_nil]; exact (tri28 s (Word.mk 5 ([] : List UInt8) ([] : List Int) set__ 0 0 0 0) end_1 b sa1 sn1 sc1 none 0 0 v7 h19)) rfl ?_
                    rintro _ _ _ ⟨sa9, sn9, sc9, rfl, rfl, rfl⟩
                    refine o_nil ?_
                    refine s_st ?_ (hN4 v7.text v7.at_ v7.line v7.top v7.out sa9 sn9 sc9 hF)
                    exact st_le [0, 1, 0] (le_cons rfl (le_cons rfl (le_cons rfl le_nil))) rfl sub_nil
              · replace hF := ite_f h17 hF
                refine c_seq ?_
                refine c_region ?_
                refine o_v (v_move rfl) rfl ?_
                obtain ⟨v9, h21, hF⟩ := bd hF
                refine o_callSB call48 rfl lent_nil (tri48 ([61, 124, 46, 59, 62, 63, 42, 43, 123, 125, 40, 41, 95, 47, 44, 45] : List UInt8) (sAt s.text s.at_) v9 h21) rfl ?_
                refine o_v (v_bin rfl rfl rfl) rfl ?_
                refine o_v (v_assign rfl) rfl ?_
                refine o_seq ?_
                refine c_cond rfl (fun h22 => ?_) (fun h22 => ?_)
                · replace hF := ite_t h22 hF
                  refine c_region ?_
                  refine o_v (v_move rfl) rfl ?_
                  refine o_v (v_build (v := .agg #[.int .i64 6, .string (bs ([] : List UInt8)), .slice none 0 0, .int .u64 0, .int .u64 0, .int .u64 0, .int .u64 0, .int .i64 0, .int .i64 0, .int .i64 0, .int .i64 0]) rfl (fun _ => by kernel_rfl)) rfl ?_
                  refine o_v (v_move rfl) rfl ?_
                  refine o_v (v_nilCheck rfl) rfl ?_
                  refine o_v (v_fieldAddr (v := .pointer (some ⟨b, 1, none⟩)) rfl (fun _ => by kernel_rfl)) rfl ?_
                  refine o_v (v_load_box 1 ty3 rfl rfl rfl rfl rfl) rfl ?_
                  refine o_v (v_bin rfl rfl rfl) rfl ?_
                  obtain ⟨v10, h23, hF⟩ := bd hF
                  refine o_st (st_nilfact 1) ?_
                  refine o_call [1, 1] call28 rfl rfl rfl (sub_cons 0 rfl sub_nil) (cap := #[]) (by rw [show (#[] : Array Value).toList = [] from rfl, List.append_nil]; exact (tri28 s (Word.mk 6 ([] : List UInt8) ([] : List Int) (S4.mk 0 0 0 0) 0 0 0 0) (IntKind.wrap .i64 (s.at_ + 1)) b sa1 sn1 sc1 none 0 0 v10 h23)) rfl ?_
                  rintro _ _ _ ⟨sa10, sn10, sc10, rfl, rfl, rfl⟩
                  refine o_nil ?_
                  refine s_st ?_ (hN4 v10.text v10.at_ v10.line v10.top v10.out sa10 sn10 sc10 hF)
                  exact st_le [0, 1, 0] (le_cons rfl (le_cons rfl (le_cons rfl le_nil))) rfl sub_nil
                · replace hF := ite_f h22 hF
                  refine c_seq ?_
                  refine c_region ?_
                  refine o_v (v_move rfl) rfl ?_
                  refine o_v (v_nilCheck rfl) rfl ?_
                  refine o_v (v_fieldAddr (v := .pointer (some ⟨b, 1, none⟩)) rfl (fun _ => by kernel_rfl)) rfl ?_
                  refine o_v (v_load_box 1 ty3 rfl rfl rfl rfl rfl) rfl ?_
                  refine o_v (v_build (v := .agg #[.int .i64 s.at_, .int .i64 11]) rfl (fun _ => by kernel_rfl)) rfl ?_
                  refine o_store_box 0 rfl ty26 rfl rfl rfl rfl rfl rfl rfl ?_
                  refine o_seq ?_
                  refine c_ret ?_
                  cases hF
                  refine s_ret1 rfl (r_cell 0 rfl ty26 rfl rfl rfl rfl) fun a w hs => ?_
                  exact fin_sel hs [1, 1] ⟨sa1, sn1, sc1, rfl, rfl, rfl⟩ rfl sub_nil
          · intro text_1 at__1 line_1 top_1 out_1 sa5 sn5 sc5 hF
            unfold F.words.scanner_next_j4 at hF
            refine s_st ?_ (hN2 text_1 at__1 line_1 top_1 out_1 sa5 sn5 sc5 hF)
            exact st_le [0, 0, 0] (le_cons rfl (le_cons rfl (le_cons rfl le_nil))) rfl sub_nil
    · intro text_ at__ line_ top_ out_ sa2 sn2 sc2 hF
      unfold F.words.scanner_next_j2 at hF
      refine sat_wc ?_
      refine c_seq ?_
      refine c_region ?_
      refine o_v (v_build (v := .agg #[.int .i64 0, .int .i64 0]) rfl (fun _ => by kernel_rfl)) rfl ?_
      refine o_store_box 1 rfl ty26 rfl rfl rfl rfl rfl rfl rfl ?_
      refine o_seq ?_
      refine c_ret ?_
      cases hF
      refine s_ret1 rfl (r_cell 1 rfl ty26 rfl rfl rfl rfl) fun a w hs => ?_
      exact fin_sel hs [0, 1] ⟨sa2, sn2, sc2, rfl, rfl, rfl⟩ rfl sub_nil
theorem tri12 (k : Nat) (text_ : List UInt8) (r : List Word × Fault) (hF : F.words.Scan k text_ = some r) :
    Tri Try.prog 12 [.string (bs text_)] [] [] (fun o H Φ => ∃ (sa7 : Option Addr) (sn7 sc7 : Nat), o = .ret (.tuple #[.slice sa7 sn7 sc7, .agg #[.int .i64 r.2.At, .int .i64 r.2.Code]]) ∧ H = [.row (.slice sa7 sn7 sc7) 35 11 (r.1.map eWord)] ∧ Φ = []) := by
  unfold F.words.Scan at hF
  refine tri_intro (n := 42) Try.func12 rfl Try.ntmps12 rfl fun w X => ?_
  refine c_seq ?_
  refine c_region ?_
  refine o_v (v_assign rfl) rfl ?_
  refine o_alloc zero26 rfl rfl fun b => ?_
  refine o_seq ?_
  refine c_seq ?_
  refine c_seq ?_
  refine c_region ?_
  refine o_v (v_move rfl) rfl ?_
  refine o_v (v_len_str Try.underlying9 rfl) rfl ?_
  refine o_v (v_bin rfl rfl rfl) rfl ?_
  refine o_seq ?_
  refine c_cond rfl (fun h1 => ?_) (fun h1 => ?_)
  · replace hF := ite_t h1 hF
    refine c_seq ?_
    refine c_region ?_
    refine o_v (v_build (v := .agg #[.int .i64 0, .int .i64 2]) rfl (fun _ => by kernel_rfl)) rfl ?_
    refine o_v (v_assign rfl) rfl ?_
    refine o_store_box 0 rfl ty26 rfl rfl rfl rfl rfl rfl rfl ?_
    refine o_seq ?_
    refine c_ret ?_
    cases hF
    refine s_st (st_nilrow 35 11) ?_
    refine s_ret2 rfl (r_tmp rfl) (r_cell 1 rfl ty26 rfl rfl rfl rfl) fun a w hs => ?_
    exact fin_sel hs [0] ⟨none, 0, 0, rfl, rfl, rfl⟩ rfl sub_nil
  · replace hF := ite_f h1 hF
    refine c_skip ?_
    refine sat_wc ?_
    refine c_seq ?_
    refine c_region ?_
    refine o_v (v_move rfl) rfl ?_
    refine o_v (v_build (v := .agg #[.string (bs text_), .int .i64 0, .int .i64 1, .int .i64 0, .slice none 0 0]) rfl (fun _ => by kernel_rfl)) rfl ?_
    refine o_box rfl rfl rfl fun b1 => ?_
    refine o_v (v_assign rfl) rfl ?_
    refine o_seq ?_
    refine c_seq ?_
    refine c_seq ?_
    refine c_region ?_
    refine o_v (v_move rfl) rfl ?_
    obtain ⟨v, h2, hF⟩ := bd hF
    refine o_st (st_nilrow 35 11) ?_
    refine o_call [1, 0] call26 rfl rfl rfl sub_nil (cap := #[]) (by rw [show (#[] : Array Value).toList = [] from rfl, List.append_nil]; exact (tri26 k (Words_scanner.mk text_ 0 1 0 ([] : List Word)) b1 none 0 0 v h2)) rfl ?_
    rintro _ _ _ ⟨sa1, sn1, sc1, rfl, rfl, rfl⟩
    refine o_seq ?_
    obtain ⟨o1, ho1, hF⟩ := bd hF
    refine c_cut (fun E N' => ∀ (d1 : (List UInt8) × Int × Int × Int × (List Word)) (sa3 : Option Addr) (sn3 sc3 : Nat), o1 = .done d1 → Sat E [(0, .string (bs text_)), (2, .slice none 0 0), (3, .pointer (some ⟨b, 0, none⟩)), (4, .pointer (some ⟨b1, 0, none⟩))] [.box b1 49 [.string (bs d1.1), .int .i64 d1.2.1, .int .i64 d1.2.2.1, .int .i64 d1.2.2.2.1, .slice sa3 sn3 sc3], .box b 26 [.int .i64 0, .int .i64 0], .row (.slice sa3 sn3 sc3) 35 11 (d1.2.2.2.2.map eWord)] [] N') (fun N1 hN1 => ?_) ?_
    · refine c_block ?_
      refine c_loopE (fun E j a w => ∃ (text_1 : List UInt8) (at__ : Int) (line_ : Int) (top_ : Int) (out_ : List Word) (sa2 : Option Addr) (sn2 sc2 : Nat), F.words.Scan_l1 k text_ j text_1 at__ line_ top_ out_ = some o1 ∧ St E [(0, .string (bs text_)), (2, .slice none 0 0), (3, .pointer (some ⟨b, 0, none⟩)), (4, .pointer (some ⟨b1, 0, none⟩))] [.box b1 49 [.string (bs text_1), .int .i64 at__, .int .i64 line_, .int .i64 top_, .slice sa2 sn2 sc2], .box b 26 [.int .i64 0, .int .i64 0], .row (.slice sa2 sn2 sc2) 35 11 (out_.map eWord)] [] a w) k ?_ ?_
      · intro a w hs
        exact ⟨v.text, v.at_, v.line, v.top, v.out, sa1, sn1, sc1, ho1, st_le [0, 1, 0] (le_cons rfl (le_cons rfl (le_cons rfl (le_cons rfl le_nil)))) rfl sub_nil a w hs⟩
      · rintro j a w ⟨text_1, at__, line_, top_, out_, sa2, sn2, sc2, hL1, hs⟩
        cases j with
        | zero => cases hL1
        | succ j =>
          refine wc_app hs ?_
          unfold F.words.Scan_l1 at hL1
          refine c_seq ?_
          refine c_seq ?_
          refine c_region ?_
          refine o_v (v_move rfl) rfl ?_
          refine o_v (v_nilCheck rfl) rfl ?_
          refine o_v (v_fieldAddr (v := .pointer (some ⟨b1, 1, none⟩)) rfl (fun _ => by kernel_rfl)) rfl ?_
          refine o_v (v_load_box 0 ty3 rfl rfl rfl rfl rfl) rfl ?_
          refine o_v (v_move rfl) rfl ?_
          refine o_v (v_len_str Try.underlying9 rfl) rfl ?_
          refine o_v (v_bin rfl rfl rfl) rfl ?_
          refine o_seq ?_
          refine c_cond rfl (fun h3 => ?_) (fun h3 => ?_)
          · replace hL1 := ite_t h3 hL1
            refine c_skip ?_
            refine sat_wc ?_
            refine c_seq ?_
            refine c_block ?_
            refine c_seq ?_
            refine c_region ?_
            refine o_v (v_move rfl) rfl ?_
            obtain ⟨v1, h4, hL1⟩ := bd hL1
            refine o_call [0, 1] call27 rfl rfl rfl sub_nil (cap := #[]) (by rw [show (#[] : Array Value).toList = [] from rfl, List.append_nil]; exact (tri27 k (Words_scanner.mk text_1 at__ line_ top_ out_) b1 sa2 sn2 sc2 v1 h4)) rfl ?_
            rintro _ _ _ ⟨sa4, sn4, sc4, rfl, rfl, rfl⟩
            refine o_alloc zero26 rfl rfl fun b2 => ?_
            refine o_store_box 0 rfl ty26 rfl rfl rfl rfl rfl rfl rfl ?_
            refine o_seq ?_
            refine c_seq ?_
            refine c_region ?_
            refine o_v (v_fieldAddr (v := .pointer (some ⟨b2, 1, none⟩)) rfl (fun _ => by kernel_rfl)) rfl ?_
            refine o_v (v_load_box 0 ty24 rfl rfl rfl rfl rfl) rfl ?_
            refine o_v (v_bin rfl rfl rfl) rfl ?_
            refine o_seq ?_
            refine c_cond rfl (fun h5 => ?_) (fun h5 => ?_)
            · replace hL1 := ite_t h5 hL1
              refine c_seq ?_
              refine c_draw (n := 3) [0, 0, 0] mixed rfl rfl ?_
              refine d_val 0 rfl pnok (by kernel_rfl) (by kernel_rfl) (by kernel_rfl) rfl (v_load_box 0 ty26 rfl rfl rfl rfl rfl) ?_
              refine d_val 1 rfl pnok (by kernel_rfl) (by kernel_rfl) (by kernel_rfl) rfl (v_assign rfl) ?_
              refine d_one 2 rfl (by kernel_rfl) ?_
              refine o_store_box 3 rfl ty26 rfl rfl rfl rfl rfl rfl rfl ?_
              refine d_next [0, 0, 0] 0 rfl rfl ?_
              refine d_done_seq (by kernel_rfl) ?_
              refine c_ret ?_
              cases hL1
              obtain rfl := lrf_ret hF
              refine s_st (st_nilrow 35 11) ?_
              refine s_ret2 rfl (r_tmp rfl) (r_cell 4 rfl ty26 rfl rfl rfl rfl) fun a w hs => ?_
              exact fin_sel hs [0] ⟨none, 0, 0, rfl, rfl, rfl⟩ rfl sub_nil
            · replace hL1 := ite_f h5 hL1
              refine c_skip ?_
              refine sat_wc ?_
              refine c_region ?_
              refine o_v (v_move rfl) rfl ?_
              obtain ⟨v2, h6, hL1⟩ := bd hL1
              refine o_call [1, 1] call26 rfl rfl rfl sub_nil (cap := #[]) (by rw [show (#[] : Array Value).toList = [] from rfl, List.append_nil]; exact (tri26 k v1.2 b1 sa4 sn4 sc4 v2 h6)) rfl ?_
              rintro _ _ _ ⟨sa5, sn5, sc5, rfl, rfl, rfl⟩
              refine o_nil ?_
              intro a w hs
              exact ⟨j, Nat.lt_succ_self j, v2.text, v2.at_, v2.line, v2.top, v2.out, sa5, sn5, sc5, hL1, st_le [0, 2, 0] (le_cons rfl (le_cons rfl (le_cons rfl (le_cons rfl le_nil)))) rfl sub_nil a w hs⟩
          · replace hL1 := ite_f h3 hL1
            refine c_exit0 ?_
            cases hL1
            refine s_st ?_ (hN1 (text_1, at__, line_, top_, out_) sa2 sn2 sc2 rfl)
            exact st_le [0, 0, 0] (le_cons rfl (le_cons rfl (le_cons rfl (le_cons rfl le_nil)))) rfl sub_nil
    · intro d1 sa3 sn3 sc3 hd
      subst hd
      replace hF := lrf_done hF
      refine sat_wc ?_
      refine c_seq ?_
      refine c_region ?_
      refine o_v (v_move rfl) rfl ?_
      refine o_v (v_build (v := .agg #[.int .i64 7, .string (bs ([] : List UInt8)), .slice none 0 0, .int .u64 0, .int .u64 0, .int .u64 0, .int .u64 0, .int .i64 0, .int .i64 0, .int .i64 0, .int .i64 0]) rfl (fun _ => by kernel_rfl)) rfl ?_
      refine o_v (v_move rfl) rfl ?_
      refine o_v (v_nilCheck rfl) rfl ?_
      refine o_v (v_fieldAddr (v := .pointer (some ⟨b1, 1, none⟩)) rfl (fun _ => by kernel_rfl)) rfl ?_
      refine o_v (v_load_box 0 ty3 rfl rfl rfl rfl rfl) rfl ?_
      obtain ⟨v3, h7, hF⟩ := bd hF
      refine o_st (st_nilfact 1) ?_
      refine o_call [0, 1] call28 rfl rfl rfl (sub_cons 0 rfl sub_nil) (cap := #[]) (by rw [show (#[] : Array Value).toList = [] from rfl, List.append_nil]; exact (tri28 (Words_scanner.mk d1.1 d1.2.1 d1.2.2.1 d1.2.2.2.1 d1.2.2.2.2) (Word.mk 7 ([] : List UInt8) ([] : List Int) (S4.mk 0 0 0 0) 0 0 0 0) d1.2.1 b1 sa3 sn3 sc3 none 0 0 v3 h7)) rfl ?_
      rintro _ _ _ ⟨sa6, sn6, sc6, rfl, rfl, rfl⟩
      refine o_seq ?_
      refine c_seq ?_
      refine c_region ?_
      refine o_v (v_move rfl) rfl ?_
      refine o_v (v_nilCheck rfl) rfl ?_
      refine o_v (v_fieldAddr (v := .pointer (some ⟨b1, 4, none⟩)) rfl (fun _ => by kernel_rfl)) rfl ?_
      refine o_v (v_load_box 0 ty23 rfl rfl rfl rfl rfl) rfl ?_
      refine o_v (v_build (v := .agg #[.int .i64 0, .int .i64 0]) rfl (fun _ => by kernel_rfl)) rfl ?_
      refine o_v (v_assign rfl) rfl ?_
      refine o_store_box 2 rfl ty26 rfl rfl rfl rfl rfl rfl rfl ?_
      refine o_seq ?_
      refine c_ret ?_
      cases hF
      refine s_ret2 rfl (r_tmp rfl) (r_cell 2 rfl ty26 rfl rfl rfl rfl) fun a w hs => ?_
      exact fin_sel hs [1] ⟨sa6, sn6, sc6, rfl, rfl, rfl⟩ rfl sub_nil
theorem tri29 (k : Nat) (text_ : List UInt8) (at__ : Int) (r : Int) (hF : F.ref02.over k text_ at__ = some r) :
    Tri Try.prog 29 [.string (bs text_), .int .i64 at__] [] [] (fun o H Φ => o = .ret (.int .i64 r) ∧ H = [] ∧ Φ = []) := by
  unfold F.ref02.over at hF
  refine tri_intro (n := 45) Try.func29 rfl Try.ntmps29 rfl fun w X => ?_
  refine c_seq ?_
  refine c_region ?_
  refine o_v (v_assign rfl) rfl ?_
  refine o_seq ?_
  refine c_seq ?_
  obtain ⟨o1, ho1, hF⟩ := bd hF
  refine c_cut (fun E N' => ∀ (d1 : Int), o1 = .done d1 → Sat E [(1, .int .i64 d1), (4, .int .i64 0)] [] [] N') (fun N1 hN1 => ?_) ?_
  · refine c_block ?_
    refine c_loopE (fun E j a w => ∃ (at__1 : Int), F.ref02.over_l1 k text_ j at__1 = some o1 ∧ St E [(0, .string (bs text_)), (1, .int .i64 at__1), (4, .int .i64 0)] [] [] a w) k ?_ ?_
    · intro a w hs
      exact ⟨at__, ho1, st_le [] (le_cons rfl (le_cons rfl (le_cons rfl le_nil))) rfl sub_nil a w hs⟩
    · rintro j a w ⟨at__1, hL1, hs⟩
      cases j with
      | zero => cases hL1
      | succ j =>
        refine wc_app hs ?_
        unfold F.ref02.over_l1 at hL1
        refine c_seq ?_
        refine c_seq ?_
        refine c_region ?_
        refine o_v (v_move rfl) rfl ?_
        refine o_v (v_move rfl) rfl ?_
        refine o_v (v_len_str Try.underlying9 rfl) rfl ?_
        refine o_v (v_bin rfl rfl rfl) rfl ?_
        refine o_seq ?_
        refine c_cond rfl (fun h1 => ?_) (fun h1 => ?_)
        · replace hL1 := ite_t h1 hL1
          refine c_skip ?_
          refine sat_wc ?_
          refine c_cut (fun E N' => ∀ (at__2 : Int), F.ref02.over_j2 (F.ref02.over_l1 k text_ j) at__2 = some o1 → Sat E [(0, .string (bs text_)), (1, .int .i64 at__2), (4, .int .i64 0), (5, .int .u8 (sAt text_ at__1))] [] [] N') (fun N2 hN2 => ?_) ?_
          · refine c_block ?_
            refine c_seq ?_
            refine c_region ?_
            refine o_v (v_move rfl) rfl ?_
            refine o_v (v_move rfl) rfl ?_
            refine ite_some hL1 fun h2 hL1 => ?_
            refine o_v (v_sindex Try.underlying9 rfl rfl h2) rfl ?_
            refine o_v (v_assign rfl) rfl ?_
            refine o_seq ?_
            refine c_seq ?_
            refine c_seq ?_
            refine c_region ?_
            refine o_v (v_move rfl) rfl ?_
            refine o_v (v_bin rfl rfl rfl) rfl ?_
            refine o_seq ?_
            refine c_cond rfl (fun h3 => ?_) (fun h3 => ?_)
            · replace hL1 := ite_t h3 hL1
              refine c_seq ?_
              obtain ⟨o3, ho3, hL1⟩ := bd hL1
              refine c_cut (fun E N' => Sat E [(0, .string (bs text_)), (1, .int .i64 o3), (4, .int .i64 0), (5, .int .u8 (sAt text_ at__1))] [] [] N') (fun N3 hN3 => ?_) ?_
              · refine c_block ?_
                refine c_loopE (fun E j a w => ∃ (at__3 : Int), F.ref02.over_l3 text_ j at__3 = some o3 ∧ St E [(0, .string (bs text_)), (1, .int .i64 at__3), (4, .int .i64 0), (5, .int .u8 (sAt text_ at__1))] [] [] a w) k ?_ ?_
                · intro a w hs
                  exact ⟨at__1, ho3, st_le [] (le_cons rfl (le_cons rfl (le_cons rfl (le_cons rfl le_nil)))) rfl sub_nil a w hs⟩
                · rintro j a w ⟨at__3, hL3, hs⟩
                  cases j with
                  | zero => cases hL3
                  | succ j =>
                    refine wc_app hs ?_
                    unfold F.ref02.over_l3 at hL3
                    refine c_seq ?_
                    refine c_seq ?_
                    refine c_cut (fun E N' => ∀ (t24 : Bool), F.ref02.over_j4 (F.ref02.over_l3 text_ j) at__3 t24 = some o3 → Sat E [(0, .string (bs text_)), (1, .int .i64 at__3), (4, .int .i64 0), (5, .int .u8 (sAt text_ at__1)), (24, .bool t24)] [] [] N') (fun N4 hN4 => ?_) ?_
                    · refine c_region ?_
                      refine o_v (v_move rfl) rfl ?_
                      refine o_v (v_move rfl) rfl ?_
                      refine o_v (v_len_str Try.underlying9 rfl) rfl ?_
                      refine o_v (v_bin rfl rfl rfl) rfl ?_
                      refine o_v (v_move rfl) rfl ?_
                      refine o_split (t := 19) rfl (fun h5 => ?_) (fun h5 => ?_)
                      · replace hL3 := ite_t h5 hL3
                        refine o_on rfl rfl ?_
                        refine o_v (v_move rfl) rfl ?_
                        refine o_on rfl rfl ?_
                        refine o_v (v_move rfl) rfl ?_
                        refine o_on rfl rfl ?_
                        refine ite_some hL3 fun h6 hL3 => ?_
                        refine o_v (v_sindex Try.underlying9 rfl rfl h6) rfl ?_
                        refine o_on rfl rfl ?_
                        refine o_v (v_bin rfl rfl rfl) rfl ?_
                        refine o_v (v_pick_t rfl rfl) rfl ?_
                        refine o_nil ?_
                        refine s_st ?_ (hN4 ((sAt text_ at__3) != 10) hL3)
                        exact st_le [] (le_cons rfl (le_cons rfl (le_cons rfl (le_cons rfl (le_cons rfl le_nil))))) rfl sub_nil
                      · replace hL3 := ite_f h5 hL3
                        refine o_off rfl rfl (by decide) rfl ?_
                        refine o_off rfl rfl (by decide) rfl ?_
                        refine o_off rfl rfl (by decide) rfl ?_
                        refine o_off rfl rfl (by decide) rfl ?_
                        refine o_v (v_pick_f rfl rfl) rfl ?_
                        refine o_nil ?_
                        refine s_st ?_ (hN4 false hL3)
                        exact st_le [] (le_cons rfl (le_cons rfl (le_cons rfl (le_cons rfl (le_cons rfl le_nil))))) rfl sub_nil
                    · intro t24 hL3
                      unfold F.ref02.over_j4 at hL3
                      refine sat_wc ?_
                      refine c_cond rfl (fun h4 => ?_) (fun h4 => ?_)
                      · replace hL3 := ite_t h4 hL3
                        refine c_skip ?_
                        refine sat_wc ?_
                        refine c_block ?_
                        refine c_region ?_
                        refine o_v (v_move rfl) rfl ?_
                        refine o_v (v_bin rfl rfl rfl) rfl ?_
                        refine o_v (v_assign rfl) rfl ?_
                        refine o_nil ?_
                        intro a w hs
                        exact ⟨j, Nat.lt_succ_self j, IntKind.wrap .i64 (at__3 + 1), hL3, st_le [] (le_cons rfl (le_cons rfl (le_cons rfl (le_cons rfl le_nil)))) rfl sub_nil a w hs⟩
                      · replace hL3 := ite_f h4 hL3
                        refine c_exit0 ?_
                        cases hL3
                        refine s_st ?_ (hN3)
                        exact st_le [] (le_cons rfl (le_cons rfl (le_cons rfl (le_cons rfl le_nil)))) rfl sub_nil
              · refine sat_wc ?_
                refine c_exit0 ?_
                refine s_st ?_ (hN2 o3 hL1)
                exact st_le [] (le_cons rfl (le_cons rfl (le_cons rfl (le_cons rfl le_nil)))) rfl sub_nil
            · replace hL1 := ite_f h3 hL1
              refine c_skip ?_
              refine sat_wc ?_
              refine c_seq ?_
              refine c_seq ?_
              refine c_cut (fun E N' => ∀ (t40 : Bool), F.ref02.over_j5 at__1 (F.ref02.over_l1 k text_ j) t40 = some o1 → Sat E [(0, .string (bs text_)), (1, .int .i64 at__1), (4, .int .i64 0), (5, .int .u8 (sAt text_ at__1)), (40, .bool t40)] [] [] N') (fun N5 hN5 => ?_) ?_
              · refine c_region ?_
                refine o_v (v_move rfl) rfl ?_
                refine o_v (v_bin rfl rfl rfl) rfl ?_
                refine o_v (v_move rfl) rfl ?_
                refine o_split (t := 29) rfl (fun h8 => ?_) (fun h8 => ?_)
                · replace hL1 := ite_t h8 hL1
                  refine o_on rfl rfl ?_
                  refine o_v (v_move rfl) rfl ?_
                  refine o_on rfl rfl ?_
                  refine o_v (v_bin rfl rfl rfl) rfl ?_
                  refine o_v (v_pick_t rfl rfl) rfl ?_
                  refine o_v (v_move rfl) rfl ?_
                  refine o_split (t := 33) rfl (fun h9 => ?_) (fun h9 => ?_)
                  · replace hL1 := ite_t h9 hL1
                    refine o_on rfl rfl ?_
                    refine o_v (v_move rfl) rfl ?_
                    refine o_on rfl rfl ?_
                    refine o_v (v_bin rfl rfl rfl) rfl ?_
                    refine o_v (v_pick_t rfl rfl) rfl ?_
                    refine o_v (v_move rfl) rfl ?_
                    refine o_split (t := 37) rfl (fun h10 => ?_) (fun h10 => ?_)
                    · replace hL1 := ite_t h10 hL1
                      refine o_on rfl rfl ?_
                      refine o_v (v_move rfl) rfl ?_
                      refine o_on rfl rfl ?_
                      refine o_v (v_bin rfl rfl rfl) rfl ?_
                      refine o_v (v_pick_t rfl rfl) rfl ?_
                      refine o_nil ?_
                      refine s_st ?_ (hN5 ((sAt text_ at__1) != 13) hL1)
                      exact st_le [] (le_cons rfl (le_cons rfl (le_cons rfl (le_cons rfl (le_cons rfl le_nil))))) rfl sub_nil
                    · replace hL1 := ite_f h10 hL1
                      refine o_off rfl rfl (by decide) rfl ?_
                      refine o_off rfl rfl (by decide) rfl ?_
                      refine o_v (v_pick_f rfl rfl) rfl ?_
                      refine o_nil ?_
                      refine s_st ?_ (hN5 false hL1)
                      exact st_le [] (le_cons rfl (le_cons rfl (le_cons rfl (le_cons rfl (le_cons rfl le_nil))))) rfl sub_nil
                  · replace hL1 := ite_f h9 hL1
                    refine o_off rfl rfl (by decide) rfl ?_
                    refine o_off rfl rfl (by decide) rfl ?_
                    refine o_v (v_pick_f rfl rfl) rfl ?_
                    refine o_v (v_move rfl) rfl ?_
                    refine o_off rfl rfl (by decide) rfl ?_
                    refine o_off rfl rfl (by decide) rfl ?_
                    refine o_v (v_pick_f rfl rfl) rfl ?_
                    refine o_nil ?_
                    refine s_st ?_ (hN5 false hL1)
                    exact st_le [] (le_cons rfl (le_cons rfl (le_cons rfl (le_cons rfl (le_cons rfl le_nil))))) rfl sub_nil
                · replace hL1 := ite_f h8 hL1
                  refine o_off rfl rfl (by decide) rfl ?_
                  refine o_off rfl rfl (by decide) rfl ?_
                  refine o_v (v_pick_f rfl rfl) rfl ?_
                  refine o_v (v_move rfl) rfl ?_
                  refine o_off rfl rfl (by decide) rfl ?_
                  refine o_off rfl rfl (by decide) rfl ?_
                  refine o_v (v_pick_f rfl rfl) rfl ?_
                  refine o_v (v_move rfl) rfl ?_
                  refine o_off rfl rfl (by decide) rfl ?_
                  refine o_off rfl rfl (by decide) rfl ?_
                  refine o_v (v_pick_f rfl rfl) rfl ?_
                  refine o_nil ?_
                  refine s_st ?_ (hN5 false hL1)
                  exact st_le [] (le_cons rfl (le_cons rfl (le_cons rfl (le_cons rfl (le_cons rfl le_nil))))) rfl sub_nil
              · intro t40 hL1
                unfold F.ref02.over_j5 at hL1
                refine sat_wc ?_
                refine c_cond rfl (fun h7 => ?_) (fun h7 => ?_)
                · replace hL1 := ite_t h7 hL1
                  refine c_seq ?_
                  refine c_region ?_
                  refine o_v (v_move rfl) rfl ?_
                  refine o_v (v_assign rfl) rfl ?_
                  refine o_seq ?_
                  refine c_ret ?_
                  cases hL1
                  obtain rfl := lrf_ret hF
                  refine s_ret1 rfl (r_tmp rfl) fun a w hs => ?_
                  exact fin_sel hs [] ⟨rfl, rfl, rfl⟩ rfl sub_nil
                · replace hL1 := ite_f h7 hL1
                  refine c_skip ?_
                  refine sat_wc ?_
                  refine c_region ?_
                  refine o_v (v_move rfl) rfl ?_
                  refine o_v (v_bin rfl rfl rfl) rfl ?_
                  refine o_v (v_assign rfl) rfl ?_
                  refine o_nil ?_
                  refine s_st ?_ (hN2 (IntKind.wrap .i64 (at__1 + 1)) hL1)
                  exact st_le [] (le_cons rfl (le_cons rfl (le_cons rfl (le_cons rfl le_nil)))) rfl sub_nil
          · intro at__2 hL1
            unfold F.ref02.over_j2 at hL1
            intro a w hs
            exact ⟨j, Nat.lt_succ_self j, at__2, hL1, st_le [] (le_cons rfl (le_cons rfl (le_cons rfl le_nil))) rfl sub_nil a w hs⟩
        · replace hL1 := ite_f h1 hL1
          refine c_exit0 ?_
          cases hL1
          refine s_st ?_ (hN1 at__1 rfl)
          exact st_le [] (le_cons rfl (le_cons rfl le_nil)) rfl sub_nil
  · intro d1 hd
    subst hd
    replace hF := lrf_done hF
    refine sat_wc ?_
    refine c_seq ?_
    refine c_region ?_
    refine o_v (v_move rfl) rfl ?_
    refine o_v (v_assign rfl) rfl ?_
    refine o_seq ?_
    refine c_ret ?_
    cases hF
    refine s_ret1 rfl (r_tmp rfl) fun a w hs => ?_
    exact fin_sel hs [] ⟨rfl, rfl, rfl⟩ rfl sub_nil
theorem tri35 (c : Int) (r : Int) (hF : F.ref02.class_ c = some r) :
    Tri Try.prog 35 [.int .u8 c] [] [] (fun o H Φ => o = .ret (.int .i64 r) ∧ H = [] ∧ Φ = []) := by
  unfold F.ref02.class_ at hF
  refine tri_intro (n := 24) Try.func35 rfl Try.ntmps35 rfl fun w X => ?_
  refine c_seq ?_
  refine c_region ?_
  refine o_v (v_assign rfl) rfl ?_
  refine o_seq ?_
  refine c_seq ?_
  refine c_cut (fun E N' => F.ref02.class__j1 = some r → Sat E [(2, .int .i64 0)] [] [] N') (fun N1 hN1 => ?_) ?_
  · refine c_block ?_
    refine c_seq ?_
    refine c_cut (fun E N' => ∀ (t3 : Bool), F.ref02.class__j2 c t3 = some r → Sat E [(0, .int .u8 c), (2, .int .i64 0), (3, .bool t3)] [] [] N') (fun N5 hN5 => ?_) ?_
    · refine c_region ?_
      refine o_v (v_move rfl) rfl ?_
      refine o_v (v_bin rfl rfl rfl) rfl ?_
      refine o_v (v_move rfl) rfl ?_
      refine o_split (t := 6) rfl (fun h6 => ?_) (fun h6 => ?_)
      · replace hF := ite_t h6 hF
        refine o_on rfl rfl ?_
        refine o_v (v_move rfl) rfl ?_
        refine o_on rfl rfl ?_
        refine o_v (v_bin rfl rfl rfl) rfl ?_
        refine o_v (v_pick_t rfl rfl) rfl ?_
        refine o_v (v_assign rfl) rfl ?_
        refine o_nil ?_
        refine s_st ?_ (hN5 (decide (c ≤ 90)) hF)
        exact st_le [] (le_cons rfl (le_cons rfl (le_cons rfl le_nil))) rfl sub_nil
      · replace hF := ite_f h6 hF
        refine o_off rfl rfl (by decide) rfl ?_
        refine o_off rfl rfl (by decide) rfl ?_
        refine o_v (v_pick_f rfl rfl) rfl ?_
        refine o_v (v_assign rfl) rfl ?_
        refine o_nil ?_
        refine s_st ?_ (hN5 false hF)
        exact st_le [] (le_cons rfl (le_cons rfl (le_cons rfl le_nil))) rfl sub_nil
    · intro t3 hF
      unfold F.ref02.class__j2 at hF
      refine sat_wc ?_
      refine c_cut (fun E N' => F.ref02.class__j3 = some r → Sat E [(0, .int .u8 c), (2, .int .i64 0)] [] [] N') (fun N3 hN3 => ?_) ?_
      · refine c_cond rfl (fun h1 => ?_) (fun h1 => ?_)
        · replace hF := ite_t h1 hF
          refine c_seq ?_
          refine c_region ?_
          refine o_v (v_assign rfl) rfl ?_
          refine o_seq ?_
          refine c_ret ?_
          cases hF
          refine s_ret1 rfl (r_tmp rfl) fun a w hs => ?_
          exact fin_sel hs [] ⟨rfl, rfl, rfl⟩ rfl sub_nil
        · replace hF := ite_f h1 hF
          refine c_seq ?_
          refine c_cut (fun E N' => ∀ (t10 : Bool), F.ref02.class__j4 c t10 = some r → Sat E [(0, .int .u8 c), (2, .int .i64 0), (10, .bool t10)] [] [] N') (fun N5 hN5 => ?_) ?_
          · refine c_region ?_
            refine o_v (v_move rfl) rfl ?_
            refine o_v (v_bin rfl rfl rfl) rfl ?_
            refine o_v (v_move rfl) rfl ?_
            refine o_split (t := 13) rfl (fun h5 => ?_) (fun h5 => ?_)
            · replace hF := ite_t h5 hF
              refine o_on rfl rfl ?_
              refine o_v (v_move rfl) rfl ?_
              refine o_on rfl rfl ?_
              refine o_v (v_bin rfl rfl rfl) rfl ?_
              refine o_v (v_pick_t rfl rfl) rfl ?_
              refine o_v (v_assign rfl) rfl ?_
              refine o_nil ?_
              refine s_st ?_ (hN5 (decide (c ≤ 122)) hF)
              exact st_le [] (le_cons rfl (le_cons rfl (le_cons rfl le_nil))) rfl sub_nil
            · replace hF := ite_f h5 hF
              refine o_off rfl rfl (by decide) rfl ?_
              refine o_off rfl rfl (by decide) rfl ?_
              refine o_v (v_pick_f rfl rfl) rfl ?_
              refine o_v (v_assign rfl) rfl ?_
              refine o_nil ?_
              refine s_st ?_ (hN5 false hF)
              exact st_le [] (le_cons rfl (le_cons rfl (le_cons rfl le_nil))) rfl sub_nil
          · intro t10 hF
            unfold F.ref02.class__j4 at hF
            refine sat_wc ?_
            refine c_cond rfl (fun h2 => ?_) (fun h2 => ?_)
            · replace hF := ite_t h2 hF
              refine c_seq ?_
              refine c_region ?_
              refine o_v (v_assign rfl) rfl ?_
              refine o_seq ?_
              refine c_ret ?_
              cases hF
              refine s_ret1 rfl (r_tmp rfl) fun a w hs => ?_
              exact fin_sel hs [] ⟨rfl, rfl, rfl⟩ rfl sub_nil
            · replace hF := ite_f h2 hF
              refine c_seq ?_
              refine c_cut (fun E N' => ∀ (t17 : Bool), F.ref02.class__j5 t17 = some r → Sat E [(0, .int .u8 c), (2, .int .i64 0), (17, .bool t17)] [] [] N') (fun N5 hN5 => ?_) ?_
              · refine c_region ?_
                refine o_v (v_move rfl) rfl ?_
                refine o_v (v_bin rfl rfl rfl) rfl ?_
                refine o_v (v_move rfl) rfl ?_
                refine o_split (t := 20) rfl (fun h4 => ?_) (fun h4 => ?_)
                · replace hF := ite_t h4 hF
                  refine o_on rfl rfl ?_
                  refine o_v (v_move rfl) rfl ?_
                  refine o_on rfl rfl ?_
                  refine o_v (v_bin rfl rfl rfl) rfl ?_
                  refine o_v (v_pick_t rfl rfl) rfl ?_
                  refine o_v (v_assign rfl) rfl ?_
                  refine o_nil ?_
                  refine s_st ?_ (hN5 (decide (c ≤ 57)) hF)
                  exact st_le [] (le_cons rfl (le_cons rfl (le_cons rfl le_nil))) rfl sub_nil
                · replace hF := ite_f h4 hF
                  refine o_off rfl rfl (by decide) rfl ?_
                  refine o_off rfl rfl (by decide) rfl ?_
                  refine o_v (v_pick_f rfl rfl) rfl ?_
                  refine o_v (v_assign rfl) rfl ?_
                  refine o_nil ?_
                  refine s_st ?_ (hN5 false hF)
                  exact st_le [] (le_cons rfl (le_cons rfl (le_cons rfl le_nil))) rfl sub_nil
              · intro t17 hF
                unfold F.ref02.class__j5 at hF
                refine sat_wc ?_
                refine c_cond rfl (fun h3 => ?_) (fun h3 => ?_)
                · replace hF := ite_t h3 hF
                  refine c_seq ?_
                  refine c_region ?_
                  refine o_v (v_assign rfl) rfl ?_
                  refine o_seq ?_
                  refine c_ret ?_
                  cases hF
                  refine s_ret1 rfl (r_tmp rfl) fun a w hs => ?_
                  exact fin_sel hs [] ⟨rfl, rfl, rfl⟩ rfl sub_nil
                · replace hF := ite_f h3 hF
                  refine c_skip ?_
                  refine s_st ?_ (hN3 hF)
                  exact st_le [] (le_cons rfl (le_cons rfl le_nil)) rfl sub_nil
      · intro hF
        unfold F.ref02.class__j3 at hF
        refine s_st ?_ (hN1 hF)
        exact st_le [] (le_cons rfl le_nil) rfl sub_nil
  · intro hF
    unfold F.ref02.class__j1 at hF
    refine sat_wc ?_
    refine c_seq ?_
    refine c_region ?_
    refine o_v (v_assign rfl) rfl ?_
    refine o_seq ?_
    refine c_ret ?_
    cases hF
    refine s_ret1 rfl (r_tmp rfl) fun a w hs => ?_
    exact fin_sel hs [] ⟨rfl, rfl, rfl⟩ rfl sub_nil
theorem tri36 (k : Nat) (s : List UInt8) (at__ : Int) (r : Int) (hF : F.ref02.Far k s at__ = some r) :
    Tri Try.prog 36 [.string (bs s), .int .i64 at__] [] [] (fun o H Φ => o = .ret (.int .i64 r) ∧ H = [] ∧ Φ = []) := by
  unfold F.ref02.Far at hF
  refine tri_intro (n := 19) Try.func36 rfl Try.ntmps36 rfl fun w X => ?_
  refine c_seq ?_
  refine c_region ?_
  refine o_v (v_assign rfl) rfl ?_
  refine o_seq ?_
  refine c_seq ?_
  obtain ⟨o1, ho1, hF⟩ := bd hF
  refine c_cut (fun E N' => Sat E [(1, .int .i64 o1), (4, .int .i64 0)] [] [] N') (fun N1 hN1 => ?_) ?_
  · refine c_block ?_
    refine c_loopE (fun E j a w => ∃ (at__1 : Int), F.ref02.Far_l1 s j at__1 = some o1 ∧ St E [(0, .string (bs s)), (1, .int .i64 at__1), (4, .int .i64 0)] [] [] a w) k ?_ ?_
    · intro a w hs
      exact ⟨at__, ho1, st_le [] (le_cons rfl (le_cons rfl (le_cons rfl le_nil))) rfl sub_nil a w hs⟩
    · rintro j a w ⟨at__1, hL1, hs⟩
      cases j with
      | zero => cases hL1
      | succ j =>
        refine wc_app hs ?_
        unfold F.ref02.Far_l1 at hL1
        refine c_seq ?_
        refine c_seq ?_
        refine c_cut (fun E N' => ∀ (t15 : Bool), F.ref02.Far_j2 (F.ref02.Far_l1 s j) at__1 t15 = some o1 → Sat E [(0, .string (bs s)), (1, .int .i64 at__1), (4, .int .i64 0), (15, .bool t15)] [] [] N') (fun N2 hN2 => ?_) ?_
        · refine c_region ?_
          refine o_v (v_move rfl) rfl ?_
          refine o_v (v_move rfl) rfl ?_
          refine o_v (v_len_str Try.underlying9 rfl) rfl ?_
          refine o_v (v_bin rfl rfl rfl) rfl ?_
          refine o_v (v_move rfl) rfl ?_
          refine o_split (t := 9) rfl (fun h2 => ?_) (fun h2 => ?_)
          · replace hL1 := ite_t h2 hL1
            refine o_on rfl rfl ?_
            refine o_v (v_move rfl) rfl ?_
            refine o_on rfl rfl ?_
            refine o_v (v_move rfl) rfl ?_
            refine o_on rfl rfl ?_
            refine ite_some hL1 fun h3 hL1 => ?_
            refine o_v (v_sindex Try.underlying9 rfl rfl h3) rfl ?_
            refine o_on rfl rfl ?_
            obtain ⟨v, h4, hL1⟩ := bd hL1
            refine o_callSB call35 rfl lent_nil (tri35 (sAt s at__1) v h4) rfl ?_
            refine o_on rfl rfl ?_
            refine o_v (v_bin rfl rfl rfl) rfl ?_
            refine o_v (v_pick_t rfl rfl) rfl ?_
            refine o_nil ?_
            refine s_st ?_ (hN2 (decide (0 < v)) hL1)
            exact st_le [] (le_cons rfl (le_cons rfl (le_cons rfl (le_cons rfl le_nil)))) rfl sub_nil
          · replace hL1 := ite_f h2 hL1
            refine o_off rfl rfl (by decide) rfl ?_
            refine o_off rfl rfl (by decide) rfl ?_
            refine o_off rfl rfl (by decide) rfl ?_
            refine o_off rfl rfl (by decide) rfl ?_
            refine o_off rfl rfl (by decide) rfl ?_
            refine o_v (v_pick_f rfl rfl) rfl ?_
            refine o_nil ?_
            refine s_st ?_ (hN2 false hL1)
            exact st_le [] (le_cons rfl (le_cons rfl (le_cons rfl (le_cons rfl le_nil)))) rfl sub_nil
        · intro t15 hL1
          unfold F.ref02.Far_j2 at hL1
          refine sat_wc ?_
          refine c_cond rfl (fun h1 => ?_) (fun h1 => ?_)
          · replace hL1 := ite_t h1 hL1
            refine c_skip ?_
            refine sat_wc ?_
            refine c_block ?_
            refine c_region ?_
            refine o_v (v_move rfl) rfl ?_
            refine o_v (v_bin rfl rfl rfl) rfl ?_
            refine o_v (v_assign rfl) rfl ?_
            refine o_nil ?_
            intro a w hs
            exact ⟨j, Nat.lt_succ_self j, IntKind.wrap .i64 (at__1 + 1), hL1, st_le [] (le_cons rfl (le_cons rfl (le_cons rfl le_nil))) rfl sub_nil a w hs⟩
          · replace hL1 := ite_f h1 hL1
            refine c_exit0 ?_
            cases hL1
            refine s_st ?_ (hN1)
            exact st_le [] (le_cons rfl (le_cons rfl le_nil)) rfl sub_nil
  · refine sat_wc ?_
    refine c_seq ?_
    refine c_region ?_
    refine o_v (v_move rfl) rfl ?_
    refine o_v (v_assign rfl) rfl ?_
    refine o_seq ?_
    refine c_ret ?_
    cases hF
    refine s_ret1 rfl (r_tmp rfl) fun a w hs => ?_
    exact fin_sel hs [] ⟨rfl, rfl, rfl⟩ rfl sub_nil
theorem tri49 (k : Nat) (text_ : List UInt8) (at__ : Int) (r : Int × Int × Int) (hF : F.ref02.number k text_ at__ = some r) :
    Tri Try.prog 49 [.string (bs text_), .int .i64 at__] [] [] (fun o H Φ => o = .ret (.tuple #[.int .i64 r.1, .int .i64 r.2.1, .int .i64 r.2.2]) ∧ H = [] ∧ Φ = []) := by
  unfold F.ref02.number at hF
  refine tri_intro (n := 48) Try.func49 rfl Try.ntmps49 rfl fun w X => ?_
  refine c_seq ?_
  refine c_region ?_
  refine o_v (v_assign rfl) rfl ?_
  refine o_v (v_assign rfl) rfl ?_
  refine o_v (v_assign rfl) rfl ?_
  refine o_seq ?_
  refine c_seq ?_
  refine c_region ?_
  refine o_v (v_move rfl) rfl ?_
  refine o_v (v_assign rfl) rfl ?_
  refine o_v (v_assign rfl) rfl ?_
  refine o_seq ?_
  refine c_seq ?_
  obtain ⟨o1, ho1, hF⟩ := bd hF
  refine c_cut (fun E N' => ∀ (d1 : Int × Int), o1 = .done d1 → Sat E [(0, .string (bs text_)), (1, .int .i64 at__), (4, .int .i64 0), (5, .int .i64 0), (6, .int .i64 0), (7, .int .i64 d1.1), (8, .int .i64 d1.2)] [] [] N') (fun N1 hN1 => ?_) ?_
  · refine c_block ?_
    refine c_loopE (fun E j a w => ∃ (end_ : Int) (n : Int), F.ref02.number_l1 text_ at__ j end_ n = some o1 ∧ St E [(0, .string (bs text_)), (1, .int .i64 at__), (4, .int .i64 0), (5, .int .i64 0), (6, .int .i64 0), (7, .int .i64 end_), (8, .int .i64 n)] [] [] a w) k ?_ ?_
    · intro a w hs
      exact ⟨at__, 0, ho1, st_le [] (le_cons rfl (le_cons rfl (le_cons rfl (le_cons rfl (le_cons rfl (le_cons rfl (le_cons rfl le_nil))))))) rfl sub_nil a w hs⟩
    · rintro j a w ⟨end_, n, hL1, hs⟩
      cases j with
      | zero => cases hL1
      | succ j =>
        refine wc_app hs ?_
        unfold F.ref02.number_l1 at hL1
        refine c_seq ?_
        refine c_seq ?_
        refine c_cut (fun E N' => ∀ (t20 : Bool), F.ref02.number_j2 end_ at__ text_ (F.ref02.number_l1 text_ at__ j) n t20 = some o1 → Sat E [(0, .string (bs text_)), (1, .int .i64 at__), (4, .int .i64 0), (5, .int .i64 0), (6, .int .i64 0), (7, .int .i64 end_), (8, .int .i64 n), (20, .bool t20)] [] [] N') (fun N2 hN2 => ?_) ?_
        · refine c_region ?_
          refine o_v (v_move rfl) rfl ?_
          refine o_v (v_move rfl) rfl ?_
          refine o_v (v_len_str Try.underlying9 rfl) rfl ?_
          refine o_v (v_bin rfl rfl rfl) rfl ?_
          refine o_v (v_move rfl) rfl ?_
          refine o_split (t := 14) rfl (fun h4 => ?_) (fun h4 => ?_)
          · replace hL1 := ite_t h4 hL1
            refine o_on rfl rfl ?_
            refine o_v (v_move rfl) rfl ?_
            refine o_on rfl rfl ?_
            refine o_v (v_move rfl) rfl ?_
            refine o_on rfl rfl ?_
            refine ite_some hL1 fun h5 hL1 => ?_
            refine o_v (v_sindex Try.underlying9 rfl rfl h5) rfl ?_
            refine o_on rfl rfl ?_
            obtain ⟨v, h6, hL1⟩ := bd hL1
            refine o_callSB call35 rfl lent_nil (tri35 (sAt text_ end_) v h6) rfl ?_
            refine o_on rfl rfl ?_
            refine o_v (v_bin rfl rfl rfl) rfl ?_
            refine o_v (v_pick_t rfl rfl) rfl ?_
            refine o_nil ?_
            refine s_st ?_ (hN2 (v == 3) hL1)
            exact st_le [] (le_cons rfl (le_cons rfl (le_cons rfl (le_cons rfl (le_cons rfl (le_cons rfl (le_cons rfl (le_cons rfl le_nil)))))))) rfl sub_nil
          · replace hL1 := ite_f h4 hL1
            refine o_off rfl rfl (by decide) rfl ?_
            refine o_off rfl rfl (by decide) rfl ?_
            refine o_off rfl rfl (by decide) rfl ?_
            refine o_off rfl rfl (by decide) rfl ?_
            refine o_off rfl rfl (by decide) rfl ?_
            refine o_v (v_pick_f rfl rfl) rfl ?_
            refine o_nil ?_
            refine s_st ?_ (hN2 false hL1)
            exact st_le [] (le_cons rfl (le_cons rfl (le_cons rfl (le_cons rfl (le_cons rfl (le_cons rfl (le_cons rfl (le_cons rfl le_nil)))))))) rfl sub_nil
        · intro t20 hL1
          unfold F.ref02.number_j2 at hL1
          refine sat_wc ?_
          refine c_cond rfl (fun h1 => ?_) (fun h1 => ?_)
          · replace hL1 := ite_t h1 hL1
            refine c_skip ?_
            refine sat_wc ?_
            refine c_block ?_
            refine c_seq ?_
            refine c_region ?_
            refine o_v (v_move rfl) rfl ?_
            refine o_v (v_bin rfl rfl rfl) rfl ?_
            refine o_v (v_assign rfl) rfl ?_
            refine o_seq ?_
            refine c_seq ?_
            refine c_seq ?_
            refine c_region ?_
            refine o_v (v_move rfl) rfl ?_
            refine o_v (v_move rfl) rfl ?_
            refine o_v (v_bin rfl rfl rfl) rfl ?_
            refine o_v (v_bin rfl rfl rfl) rfl ?_
            refine o_seq ?_
            refine c_cond rfl (fun h2 => ?_) (fun h2 => ?_)
            · replace hL1 := ite_t h2 hL1
              refine c_seq ?_
              refine c_region ?_
              refine o_v (v_assign rfl) rfl ?_
              refine o_v (v_assign rfl) rfl ?_
              refine o_v (v_assign rfl) rfl ?_
              refine o_seq ?_
              refine c_ret ?_
              cases hL1
              obtain rfl := lrf_ret hF
              refine s_ret3 rfl (r_tmp rfl) (r_tmp rfl) (r_tmp rfl) fun a w hs => ?_
              exact fin_sel hs [] ⟨rfl, rfl, rfl⟩ rfl sub_nil
            · replace hL1 := ite_f h2 hL1
              refine c_skip ?_
              refine sat_wc ?_
              refine c_region ?_
              refine o_v (v_move rfl) rfl ?_
              refine o_v (v_bin rfl rfl rfl) rfl ?_
              refine o_v (v_move rfl) rfl ?_
              refine o_v (v_move rfl) rfl ?_
              refine o_v (v_bin rfl rfl rfl) rfl ?_
              refine ite_some hL1 fun h3 hL1 => ?_
              refine o_v (v_sindex Try.underlying9 rfl rfl h3) rfl ?_
              refine o_v (v_convert (v := .int .i64 (IntKind.wrap .i64 (sAt text_ (IntKind.wrap .i64 ((IntKind.wrap .i64 (end_ + 1)) - 1))))) rfl (fun _ => by kernel_rfl)) rfl ?_
              refine o_v (v_bin rfl rfl rfl) rfl ?_
              refine o_v (v_bin rfl rfl rfl) rfl ?_
              refine o_v (v_assign rfl) rfl ?_
              refine o_nil ?_
              intro a w hs
              exact ⟨j, Nat.lt_succ_self j, IntKind.wrap .i64 (end_ + 1), IntKind.wrap .i64 ((IntKind.wrap .i64 ((IntKind.wrap .i64 (10 * n)) + (IntKind.wrap .i64 (sAt text_ (IntKind.wrap .i64 ((IntKind.wrap .i64 (end_ + 1)) - 1)))))) - 48), hL1, st_le [] (le_cons rfl (le_cons rfl (le_cons rfl (le_cons rfl (le_cons rfl (le_cons rfl (le_cons rfl le_nil))))))) rfl sub_nil a w hs⟩
          · replace hL1 := ite_f h1 hL1
            refine c_exit0 ?_
            cases hL1
            refine s_st ?_ (hN1 (end_, n) rfl)
            exact st_le [] (le_cons rfl (le_cons rfl (le_cons rfl (le_cons rfl (le_cons rfl (le_cons rfl (le_cons rfl le_nil))))))) rfl sub_nil
  · intro d1 hd
    subst hd
    replace hF := lrf_done hF
    refine sat_wc ?_
    refine c_seq ?_
    refine c_seq ?_
    refine c_cut (fun E N' => ∀ (t45 : Bool), F.ref02.number_j3 d1 t45 = some r → Sat E [(0, .string (bs text_)), (1, .int .i64 at__), (4, .int .i64 0), (5, .int .i64 0), (6, .int .i64 0), (7, .int .i64 d1.1), (8, .int .i64 d1.2), (45, .bool t45)] [] [] N') (fun N3 hN3 => ?_) ?_
    · refine c_region ?_
      refine o_v (v_move rfl) rfl ?_
      refine o_v (v_move rfl) rfl ?_
      refine ite_some hF fun h8 hF => ?_
      refine o_v (v_sindex Try.underlying9 rfl rfl h8) rfl ?_
      refine o_v (v_bin rfl rfl rfl) rfl ?_
      refine o_v (v_move rfl) rfl ?_
      refine o_split (t := 40) rfl (fun h9 => ?_) (fun h9 => ?_)
      · replace hF := ite_t h9 hF
        refine o_on rfl rfl ?_
        refine o_v (v_move rfl) rfl ?_
        refine o_on rfl rfl ?_
        refine o_v (v_move rfl) rfl ?_
        refine o_on rfl rfl ?_
        refine o_v (v_bin rfl rfl rfl) rfl ?_
        refine o_on rfl rfl ?_
        refine o_v (v_bin rfl rfl rfl) rfl ?_
        refine o_v (v_pick_t rfl rfl) rfl ?_
        refine o_nil ?_
        refine s_st ?_ (hN3 (decide (1 < (IntKind.wrap .i64 (d1.1 - at__)))) hF)
        exact st_le [] (le_cons rfl (le_cons rfl (le_cons rfl (le_cons rfl (le_cons rfl (le_cons rfl (le_cons rfl (le_cons rfl le_nil)))))))) rfl sub_nil
      · replace hF := ite_f h9 hF
        refine o_off rfl rfl (by decide) rfl ?_
        refine o_off rfl rfl (by decide) rfl ?_
        refine o_off rfl rfl (by decide) rfl ?_
        refine o_off rfl rfl (by decide) rfl ?_
        refine o_v (v_pick_f rfl rfl) rfl ?_
        refine o_nil ?_
        refine s_st ?_ (hN3 false hF)
        exact st_le [] (le_cons rfl (le_cons rfl (le_cons rfl (le_cons rfl (le_cons rfl (le_cons rfl (le_cons rfl (le_cons rfl le_nil)))))))) rfl sub_nil
    · intro t45 hF
      unfold F.ref02.number_j3 at hF
      refine sat_wc ?_
      refine c_cond rfl (fun h7 => ?_) (fun h7 => ?_)
      · replace hF := ite_t h7 hF
        refine c_seq ?_
        refine c_region ?_
        refine o_v (v_assign rfl) rfl ?_
        refine o_v (v_assign rfl) rfl ?_
        refine o_v (v_assign rfl) rfl ?_
        refine o_seq ?_
        refine c_ret ?_
        cases hF
        refine s_ret3 rfl (r_tmp rfl) (r_tmp rfl) (r_tmp rfl) fun a w hs => ?_
        exact fin_sel hs [] ⟨rfl, rfl, rfl⟩ rfl sub_nil
      · replace hF := ite_f h7 hF
        refine c_skip ?_
        refine sat_wc ?_
        refine c_seq ?_
        refine c_region ?_
        refine o_v (v_move rfl) rfl ?_
        refine o_v (v_move rfl) rfl ?_
        refine o_v (v_assign rfl) rfl ?_
        refine o_v (v_assign rfl) rfl ?_
        refine o_v (v_assign rfl) rfl ?_
        refine o_seq ?_
        refine c_ret ?_
        cases hF
        refine s_ret3 rfl (r_tmp rfl) (r_tmp rfl) (r_tmp rfl) fun a w hs => ?_
        exact fin_sel hs [] ⟨rfl, rfl, rfl⟩ rfl sub_nil
theorem tri44 (c : Int) (r : Int) (hF : F.ref02.letter c = some r) :
    Tri Try.prog 44 [.int .u8 c] [] [] (fun o H Φ => o = .ret (.int .u8 r) ∧ H = [] ∧ Φ = []) := by
  unfold F.ref02.letter at hF
  refine tri_intro (n := 14) Try.func44 rfl Try.ntmps44 rfl fun w X => ?_
  refine c_seq ?_
  refine c_region ?_
  refine o_v (v_assign rfl) rfl ?_
  refine o_seq ?_
  refine c_seq ?_
  refine c_seq ?_
  refine c_region ?_
  refine o_v (v_move rfl) rfl ?_
  refine o_seq ?_
  refine c_block ?_
  refine c_seq ?_
  refine c_seq ?_
  refine c_region ?_
  refine o_v (v_bin rfl rfl rfl) rfl ?_
  refine o_v (v_assign rfl) rfl ?_
  refine o_seq ?_
  refine c_cond rfl (fun h1 => ?_) (fun h1 => ?_)
  · replace hF := ite_t h1 hF
    refine c_skip ?_
    refine sat_wc ?_
    refine c_cond rfl (fun _ => ?_) (fun h => Bool.noConfusion (h1.symm.trans h))
    refine c_seq ?_
    refine c_region ?_
    refine o_v (v_move rfl) rfl ?_
    refine o_v (v_assign rfl) rfl ?_
    refine o_seq ?_
    refine c_ret ?_
    cases hF
    refine s_ret1 rfl (r_tmp rfl) fun a w hs => ?_
    exact fin_sel hs [] ⟨rfl, rfl, rfl⟩ rfl sub_nil
  · replace hF := ite_f h1 hF
    refine c_region ?_
    refine o_v (v_bin rfl rfl rfl) rfl ?_
    refine o_v (v_assign rfl) rfl ?_
    refine o_seq ?_
    refine c_cond rfl (fun h2 => ?_) (fun h2 => ?_)
    · replace hF := ite_t h2 hF
      refine c_seq ?_
      refine c_region ?_
      refine o_v (v_move rfl) rfl ?_
      refine o_v (v_assign rfl) rfl ?_
      refine o_seq ?_
      refine c_ret ?_
      cases hF
      refine s_ret1 rfl (r_tmp rfl) fun a w hs => ?_
      exact fin_sel hs [] ⟨rfl, rfl, rfl⟩ rfl sub_nil
    · replace hF := ite_f h2 hF
      refine c_seq ?_
      refine c_region ?_
      refine o_v (v_bin rfl rfl rfl) rfl ?_
      refine o_v (v_assign rfl) rfl ?_
      refine o_seq ?_
      refine c_cond rfl (fun h3 => ?_) (fun h3 => ?_)
      · replace hF := ite_t h3 hF
        refine c_seq ?_
        refine c_region ?_
        refine o_v (v_assign rfl) rfl ?_
        refine o_seq ?_
        refine c_ret ?_
        cases hF
        refine s_ret1 rfl (r_tmp rfl) fun a w hs => ?_
        exact fin_sel hs [] ⟨rfl, rfl, rfl⟩ rfl sub_nil
      · replace hF := ite_f h3 hF
        refine c_seq ?_
        refine c_region ?_
        refine o_v (v_bin rfl rfl rfl) rfl ?_
        refine o_v (v_assign rfl) rfl ?_
        refine o_seq ?_
        refine c_cond rfl (fun h4 => ?_) (fun h4 => ?_)
        · replace hF := ite_t h4 hF
          refine c_seq ?_
          refine c_region ?_
          refine o_v (v_assign rfl) rfl ?_
          refine o_seq ?_
          refine c_ret ?_
          cases hF
          refine s_ret1 rfl (r_tmp rfl) fun a w hs => ?_
          exact fin_sel hs [] ⟨rfl, rfl, rfl⟩ rfl sub_nil
        · replace hF := ite_f h4 hF
          refine c_seq ?_
          refine c_region ?_
          refine o_v (v_bin rfl rfl rfl) rfl ?_
          refine o_v (v_assign rfl) rfl ?_
          refine o_seq ?_
          refine c_cond rfl (fun h5 => ?_) (fun h5 => ?_)
          · replace hF := ite_t h5 hF
            refine c_seq ?_
            refine c_region ?_
            refine o_v (v_assign rfl) rfl ?_
            refine o_seq ?_
            refine c_ret ?_
            cases hF
            refine s_ret1 rfl (r_tmp rfl) fun a w hs => ?_
            exact fin_sel hs [] ⟨rfl, rfl, rfl⟩ rfl sub_nil
          · replace hF := ite_f h5 hF
            refine c_skip ?_
            refine sat_wc ?_
            refine c_seq ?_
            refine c_region ?_
            refine o_v (v_assign rfl) rfl ?_
            refine o_seq ?_
            refine c_ret ?_
            cases hF
            refine s_ret1 rfl (r_tmp rfl) fun a w hs => ?_
            exact fin_sel hs [] ⟨rfl, rfl, rfl⟩ rfl sub_nil
theorem tri58 (k : Nat) (c : Int) (r : Int) (hF : F.ref01.Digit k c = some r) :
    Tri Try.prog 58 [.int .u8 c] [] [] (fun o H Φ => o = .ret (.int .i64 r) ∧ H = [] ∧ Φ = []) := by
  unfold F.ref01.Digit at hF
  refine tri_intro (n := 24) Try.func58 rfl Try.ntmps58 rfl fun w X => ?_
  refine c_seq ?_
  refine c_region ?_
  refine o_v (v_assign rfl) rfl ?_
  refine o_seq ?_
  refine c_seq ?_
  refine c_seq ?_
  refine c_region ?_
  refine o_v (v_assign rfl) rfl ?_
  refine o_seq ?_
  obtain ⟨o1, ho1, hF⟩ := bd hF
  refine c_cut (fun E N' => ∀ (d1 : Unit), o1 = .done d1 → Sat E [(2, .int .i64 0)] [] [] N') (fun N1 hN1 => ?_) ?_
  · refine c_block ?_
    refine c_loopE (fun E j a w => ∃ (i : Int), F.ref01.Digit_l1 c j i = some o1 ∧ St E [(0, .int .u8 c), (2, .int .i64 0), (3, .int .i64 i)] [] [] a w) k ?_ ?_
    · intro a w hs
      exact ⟨0, ho1, st_le [] (le_cons rfl (le_cons rfl (le_cons rfl le_nil))) rfl sub_nil a w hs⟩
    · rintro j a w ⟨i, hL1, hs⟩
      cases j with
      | zero => cases hL1
      | succ j =>
        refine wc_app hs ?_
        unfold F.ref01.Digit_l1 at hL1
        refine c_seq ?_
        refine c_seq ?_
        refine c_region ?_
        refine o_v (v_move rfl) rfl ?_
        refine o_v (v_bin rfl rfl rfl) rfl ?_
        refine o_seq ?_
        refine c_cond rfl (fun h1 => ?_) (fun h1 => ?_)
        · replace hL1 := ite_t h1 hL1
          refine c_skip ?_
          refine sat_wc ?_
          refine c_seq ?_
          refine c_cut (fun E N' => F.ref01.Digit_j2 (F.ref01.Digit_l1 c j) i = some o1 → Sat E [(0, .int .u8 c), (2, .int .i64 0), (3, .int .i64 i)] [] [] N') (fun N2 hN2 => ?_) ?_
          · refine c_block ?_
            refine c_seq ?_
            refine c_region ?_
            refine o_v (v_move rfl) rfl ?_
            refine ite_some hL1 fun h2 hL1 => ?_
            refine o_v (v_sindex Try.underlying9 rfl rfl h2) rfl ?_
            refine o_v (v_move rfl) rfl ?_
            refine o_v (v_bin rfl rfl rfl) rfl ?_
            refine o_v (v_move rfl) rfl ?_
            refine o_split (t := 12) rfl (fun h3 => ?_) (fun h3 => ?_)
            · replace hL1 := ite_t h3 hL1
              refine o_off rfl rfl (by decide) rfl ?_
              refine o_off rfl rfl (by decide) rfl ?_
              refine o_off rfl rfl (by decide) rfl ?_
              refine o_offU rfl rfl rfl ?_
              refine o_offU rfl rfl rfl ?_
              refine o_offU rfl rfl rfl ?_
              refine o_offU rfl rfl rfl ?_
              refine o_offU rfl rfl rfl ?_
              refine o_off rfl rfl (by decide) rfl ?_
              refine o_v (v_pick_t rfl rfl) rfl ?_
              refine o_seq ?_
              refine c_cond rfl (fun _ => ?_) (fun h => Bool.noConfusion h)
              refine c_seq ?_
              refine c_region ?_
              refine o_v (v_move rfl) rfl ?_
              refine o_v (v_assign rfl) rfl ?_
              refine o_seq ?_
              refine c_ret ?_
              cases hL1
              obtain rfl := lrf_ret hF
              refine s_ret1 rfl (r_tmp rfl) fun a w hs => ?_
              exact fin_sel hs [] ⟨rfl, rfl, rfl⟩ rfl sub_nil
            · replace hL1 := ite_f h3 hL1
              refine o_on rfl rfl ?_
              refine o_v (v_move rfl) rfl ?_
              refine o_on rfl rfl ?_
              refine o_v (v_bin rfl rfl rfl) rfl ?_
              refine o_on rfl rfl ?_
              refine o_v (v_move rfl) rfl ?_
              refine o_split (t := 15) rfl (fun h4 => ?_) (fun h4 => ?_)
              · replace hL1 := ite_t h4 hL1
                refine o_on rfl rfl ?_
                refine o_v (v_move rfl) rfl ?_
                refine o_on rfl rfl ?_
                refine o_v (v_sindex Try.underlying9 rfl rfl h2) rfl ?_
                refine o_on rfl rfl ?_
                refine o_v (v_bin rfl rfl rfl) rfl ?_
                refine o_on rfl rfl ?_
                refine o_v (v_move rfl) rfl ?_
                refine o_on rfl rfl ?_
                refine o_v (v_bin rfl rfl rfl) rfl ?_
                refine o_on rfl rfl ?_
                refine o_v (v_pick_t rfl rfl) rfl ?_
                refine o_v (v_pick_f rfl rfl) rfl ?_
                refine o_seq ?_
                refine c_cond rfl (fun h5 => ?_) (fun h5 => ?_)
                · replace hL1 := ite_t h5 hL1
                  refine c_seq ?_
                  refine c_region ?_
                  refine o_v (v_move rfl) rfl ?_
                  refine o_v (v_assign rfl) rfl ?_
                  refine o_seq ?_
                  refine c_ret ?_
                  cases hL1
                  obtain rfl := lrf_ret hF
                  refine s_ret1 rfl (r_tmp rfl) fun a w hs => ?_
                  exact fin_sel hs [] ⟨rfl, rfl, rfl⟩ rfl sub_nil
                · replace hL1 := ite_f h5 hL1
                  refine c_skip ?_
                  refine s_st ?_ (hN2 hL1)
                  exact st_le [] (le_cons rfl (le_cons rfl (le_cons rfl le_nil))) rfl sub_nil
              · replace hL1 := ite_f h4 hL1
                refine o_off rfl rfl (by decide) rfl ?_
                refine o_off rfl rfl (by decide) rfl ?_
                refine o_off rfl rfl (by decide) rfl ?_
                refine o_off rfl rfl (by decide) rfl ?_
                refine o_off rfl rfl (by decide) rfl ?_
                refine o_on rfl rfl ?_
                refine o_v (v_pick_f rfl rfl) rfl ?_
                refine o_v (v_pick_f rfl rfl) rfl ?_
                refine o_seq ?_
                refine c_cond rfl (fun h => Bool.noConfusion h) (fun _ => ?_)
                refine c_skip ?_
                refine s_st ?_ (hN2 hL1)
                exact st_le [] (le_cons rfl (le_cons rfl (le_cons rfl le_nil))) rfl sub_nil
          · intro hL1
            unfold F.ref01.Digit_j2 at hL1
            refine sat_wc ?_
            refine c_region ?_
            refine o_v (v_move rfl) rfl ?_
            refine o_v (v_bin rfl rfl rfl) rfl ?_
            refine o_v (v_assign rfl) rfl ?_
            refine o_nil ?_
            intro a w hs
            exact ⟨j, Nat.lt_succ_self j, IntKind.wrap .i64 (i + 1), hL1, st_le [] (le_cons rfl (le_cons rfl (le_cons rfl le_nil))) rfl sub_nil a w hs⟩
        · replace hL1 := ite_f h1 hL1
          refine c_exit0 ?_
          cases hL1
          refine s_st ?_ (hN1 () rfl)
          exact st_le [] (le_cons rfl le_nil) rfl sub_nil
  · intro d1 hd
    subst hd
    replace hF := lrf_done hF
    refine sat_wc ?_
    refine c_seq ?_
    refine c_region ?_
    refine o_v (v_assign rfl) rfl ?_
    refine o_seq ?_
    refine c_ret ?_
    cases hF
    refine s_ret1 rfl (r_tmp rfl) fun a w hs => ?_
    exact fin_sel hs [] ⟨rfl, rfl, rfl⟩ rfl sub_nil
theorem tri43 (k : Nat) (text_ : List UInt8) (at__ : Int) (r : List Int × Int × Fault) (hF : F.ref02.Said k text_ at__ = some r) :
    Tri Try.prog 43 [.string (bs text_), .int .i64 at__] [] [] (fun o H Φ => ∃ (sa8 : Option Addr) (sn8 sc8 : Nat), o = .ret (.tuple #[.slice sa8 sn8 sc8, .int .i64 r.2.1, .agg #[.int .i64 r.2.2.At, .int .i64 r.2.2.Code]]) ∧ H = [.row (.slice sa8 sn8 sc8) 5 1 (r.1.map eU8)] ∧ Φ = []) := by
  unfold F.ref02.Said at hF
  refine tri_intro (n := 127) Try.func43 rfl Try.ntmps43 rfl fun w X => ?_
  refine c_seq ?_
  refine c_region ?_
  refine o_v (v_assign rfl) rfl ?_
  refine o_v (v_assign rfl) rfl ?_
  refine o_alloc zero26 rfl rfl fun b => ?_
  refine o_seq ?_
  refine c_seq ?_
  refine c_region ?_
  refine o_v (v_assign rfl) rfl ?_
  refine o_seq ?_
  refine c_seq ?_
  refine c_region ?_
  refine o_v (v_move rfl) rfl ?_
  refine o_v (v_bin rfl rfl rfl) rfl ?_
  refine o_v (v_assign rfl) rfl ?_
  refine o_seq ?_
  refine c_seq ?_
  obtain ⟨o1, ho1, hF⟩ := bd hF
  refine c_cut (fun E N' => ∀ (d1 : (List Int) × Int) (sa2 : Option Addr) (sn2 sc2 : Nat), o1 = .done d1 → Sat E [(0, .string (bs text_)), (1, .int .i64 at__), (4, .slice none 0 0), (5, .int .i64 0), (6, .pointer (some ⟨b, 0, none⟩)), (7, .slice sa2 sn2 sc2), (8, .int .i64 d1.2)] [.box b 26 [.int .i64 0, .int .i64 0], .row (.slice sa2 sn2 sc2) 5 1 (d1.1.map eU8)] [] N') (fun N1 hN1 => ?_) ?_
  · refine c_block ?_
    refine c_loopE (fun E j a w => ∃ (out_ : List Int) (i : Int) (sa1 : Option Addr) (sn1 sc1 : Nat), F.ref02.Said_l1 k text_ j out_ i = some o1 ∧ St E [(0, .string (bs text_)), (1, .int .i64 at__), (4, .slice none 0 0), (5, .int .i64 0), (6, .pointer (some ⟨b, 0, none⟩)), (7, .slice sa1 sn1 sc1), (8, .int .i64 i)] [.box b 26 [.int .i64 0, .int .i64 0], .row (.slice sa1 sn1 sc1) 5 1 (out_.map eU8)] [] a w) k ?_ ?_
    · refine s_st (st_nilrow 5 1) ?_
      intro a w hs
      exact ⟨([] : List Int), IntKind.wrap .i64 (at__ + 1), none, 0, 0, ho1, st_le [1, 0] (le_cons rfl (le_cons rfl (le_cons rfl (le_cons rfl (le_cons rfl (le_cons rfl (le_cons rfl le_nil))))))) rfl sub_nil a w hs⟩
    · rintro j a w ⟨out_, i, sa1, sn1, sc1, hL1, hs⟩
      cases j with
      | zero => cases hL1
      | succ j =>
        refine wc_app hs ?_
        unfold F.ref02.Said_l1 at hL1
        refine c_seq ?_
        refine c_seq ?_
        refine c_cut (fun E N' => ∀ (t26 : Bool), F.ref02.Said_j2 k i text_ out_ (F.ref02.Said_l1 k text_ j) t26 = some o1 → Sat E [(0, .string (bs text_)), (1, .int .i64 at__), (4, .slice none 0 0), (5, .int .i64 0), (6, .pointer (some ⟨b, 0, none⟩)), (7, .slice sa1 sn1 sc1), (8, .int .i64 i), (26, .bool t26)] [.box b 26 [.int .i64 0, .int .i64 0], .row (.slice sa1 sn1 sc1) 5 1 (out_.map eU8)] [] N') (fun N13 hN13 => ?_) ?_
        · refine c_region ?_
          refine o_v (v_move rfl) rfl ?_
          refine o_v (v_move rfl) rfl ?_
          refine o_v (v_len_str Try.underlying9 rfl) rfl ?_
          refine o_v (v_bin rfl rfl rfl) rfl ?_
          refine o_v (v_move rfl) rfl ?_
          refine o_split (t := 21) rfl (fun h26 => ?_) (fun h26 => ?_)
          · replace hL1 := ite_t h26 hL1
            refine o_on rfl rfl ?_
            refine o_v (v_move rfl) rfl ?_
            refine o_on rfl rfl ?_
            refine o_v (v_move rfl) rfl ?_
            refine o_on rfl rfl ?_
            refine ite_some hL1 fun h27 hL1 => ?_
            refine o_v (v_sindex Try.underlying9 rfl rfl h27) rfl ?_
            refine o_on rfl rfl ?_
            refine o_v (v_bin rfl rfl rfl) rfl ?_
            refine o_v (v_pick_t rfl rfl) rfl ?_
            refine o_nil ?_
            refine s_st ?_ (hN13 ((sAt text_ i) != 34) hL1)
            exact st_le [0, 0] (le_cons rfl (le_cons rfl (le_cons rfl (le_cons rfl (le_cons rfl (le_cons rfl (le_cons rfl (le_cons rfl le_nil)))))))) rfl sub_nil
          · replace hL1 := ite_f h26 hL1
            refine o_off rfl rfl (by decide) rfl ?_
            refine o_off rfl rfl (by decide) rfl ?_
            refine o_off rfl rfl (by decide) rfl ?_
            refine o_off rfl rfl (by decide) rfl ?_
            refine o_v (v_pick_f rfl rfl) rfl ?_
            refine o_nil ?_
            refine s_st ?_ (hN13 false hL1)
            exact st_le [0, 0] (le_cons rfl (le_cons rfl (le_cons rfl (le_cons rfl (le_cons rfl (le_cons rfl (le_cons rfl (le_cons rfl le_nil)))))))) rfl sub_nil
        · intro t26 hL1
          unfold F.ref02.Said_j2 at hL1
          refine sat_wc ?_
          refine c_cond rfl (fun h1 => ?_) (fun h1 => ?_)
          · replace hL1 := ite_t h1 hL1
            refine c_skip ?_
            refine sat_wc ?_
            refine c_cut (fun E N' => ∀ (out_1 : List Int) (i1 : Int) (sa3 : Option Addr) (sn3 sc3 : Nat), F.ref02.Said_j3 (F.ref02.Said_l1 k text_ j) out_1 i1 = some o1 → Sat E [(0, .string (bs text_)), (1, .int .i64 at__), (4, .slice none 0 0), (5, .int .i64 0), (6, .pointer (some ⟨b, 0, none⟩)), (7, .slice sa3 sn3 sc3), (8, .int .i64 i1), (9, .int .u8 (sAt text_ i))] [.box b 26 [.int .i64 0, .int .i64 0], .row (.slice sa3 sn3 sc3) 5 1 (out_1.map eU8)] [] N') (fun N3 hN3 => ?_) ?_
            · refine c_block ?_
              refine c_seq ?_
              refine c_region ?_
              refine o_v (v_move rfl) rfl ?_
              refine o_v (v_move rfl) rfl ?_
              refine ite_some hL1 fun h2 hL1 => ?_
              refine o_v (v_sindex Try.underlying9 rfl rfl h2) rfl ?_
              refine o_v (v_assign rfl) rfl ?_
              refine o_seq ?_
              refine c_seq ?_
              refine c_seq ?_
              refine c_cut (fun E N' => ∀ (t35 : Bool), F.ref02.Said_j4 k i text_ out_ (F.ref02.Said_l1 k text_ j) t35 = some o1 → Sat E [(0, .string (bs text_)), (1, .int .i64 at__), (4, .slice none 0 0), (5, .int .i64 0), (6, .pointer (some ⟨b, 0, none⟩)), (7, .slice sa1 sn1 sc1), (8, .int .i64 i), (9, .int .u8 (sAt text_ i)), (35, .bool t35)] [.box b 26 [.int .i64 0, .int .i64 0], .row (.slice sa1 sn1 sc1) 5 1 (out_.map eU8)] [] N') (fun N13 hN13 => ?_) ?_
              · refine c_region ?_
                refine o_v (v_move rfl) rfl ?_
                refine o_v (v_bin rfl rfl rfl) rfl ?_
                refine o_v (v_move rfl) rfl ?_
                refine o_split (t := 32) rfl (fun h25 => ?_) (fun h25 => ?_)
                · replace hL1 := ite_t h25 hL1
                  refine o_off rfl rfl (by decide) rfl ?_
                  refine o_off rfl rfl (by decide) rfl ?_
                  refine o_v (v_pick_t rfl rfl) rfl ?_
                  refine o_nil ?_
                  refine s_st ?_ (hN13 true hL1)
                  exact st_le [0, 0] (le_cons rfl (le_cons rfl (le_cons rfl (le_cons rfl (le_cons rfl (le_cons rfl (le_cons rfl (le_cons rfl (le_cons rfl le_nil))))))))) rfl sub_nil
                · replace hL1 := ite_f h25 hL1
                  refine o_on rfl rfl ?_
                  refine o_v (v_move rfl) rfl ?_
                  refine o_on rfl rfl ?_
                  refine o_v (v_bin rfl rfl rfl) rfl ?_
                  refine o_v (v_pick_f rfl rfl) rfl ?_
                  refine o_nil ?_
                  refine s_st ?_ (hN13 (decide (126 < (sAt text_ i))) hL1)
                  exact st_le [0, 0] (le_cons rfl (le_cons rfl (le_cons rfl (le_cons rfl (le_cons rfl (le_cons rfl (le_cons rfl (le_cons rfl (le_cons rfl le_nil))))))))) rfl sub_nil
              · intro t35 hL1
                unfold F.ref02.Said_j4 at hL1
                refine sat_wc ?_
                refine c_cond rfl (fun h3 => ?_) (fun h3 => ?_)
                · replace hL1 := ite_t h3 hL1
                  refine c_seq ?_
                  refine c_region ?_
                  refine o_v (v_move rfl) rfl ?_
                  refine o_v (v_build (v := .agg #[.int .i64 i, .int .i64 11]) rfl (fun _ => by kernel_rfl)) rfl ?_
                  refine o_v (v_assign rfl) rfl ?_
                  refine o_v (v_assign rfl) rfl ?_
                  refine o_store_box 0 rfl ty26 rfl rfl rfl rfl rfl rfl rfl ?_
                  refine o_seq ?_
                  refine c_ret ?_
                  cases hL1
                  obtain rfl := lrf_ret hF
                  refine s_st (st_nilrow 5 1) ?_
                  refine s_ret3 rfl (r_tmp rfl) (r_tmp rfl) (r_cell 1 rfl ty26 rfl rfl rfl rfl) fun a w hs => ?_
                  exact fin_sel hs [0] ⟨none, 0, 0, rfl, rfl, rfl⟩ rfl sub_nil
                · replace hL1 := ite_f h3 hL1
                  refine c_skip ?_
                  refine sat_wc ?_
                  refine c_seq ?_
                  refine c_seq ?_
                  refine c_region ?_
                  refine o_v (v_move rfl) rfl ?_
                  refine o_v (v_bin rfl rfl rfl) rfl ?_
                  refine o_seq ?_
                  refine c_cond rfl (fun h4 => ?_) (fun h4 => ?_)
                  · replace hL1 := ite_t h4 hL1
                    refine c_seq ?_
                    refine c_region ?_
                    refine o_v (v_move rfl) rfl ?_
                    refine o_v (v_move rfl) rfl ?_
                    refine o_buildSlice (enc := eU8) ([sAt text_ i] : List Int) [.int .u8 (sAt text_ i)] sl30 rfl (fun _ => by kernel_rfl) rfl rfl rfl (.s rfl (.nil)) rfl fun sa4 sn4 sc4 => ?_
                    refine ite_some hL1 fun h5 hL1 => ?_
                    refine ite_some hL1 fun h6 hL1 => ?_
                    refine o_append (enc := eU8) (xs := out_) (ys := ([sAt text_ i] : List Int)) 2 sl30 rfl rfl rfl (.r 0 _ rfl) h5 h6 rfl fun sa5 sn5 sc5 => ?_
                    refine o_v (v_assign rfl) rfl ?_
                    refine o_seq ?_
                    refine c_seq ?_
                    refine c_region ?_
                    refine o_v (v_move rfl) rfl ?_
                    refine o_v (v_bin rfl rfl rfl) rfl ?_
                    refine o_v (v_assign rfl) rfl ?_
                    refine o_seq ?_
                    refine c_exit0 ?_
                    refine s_st ?_ (hN3 (out_ ++ ([sAt text_ i] : List Int)) (IntKind.wrap .i64 (i + 1)) sa5 sn5 sc5 hL1)
                    exact st_le [1, 1] (le_cons rfl (le_cons rfl (le_cons rfl (le_cons rfl (le_cons rfl (le_cons rfl (le_cons rfl (le_cons rfl le_nil)))))))) rfl sub_nil
                  · replace hL1 := ite_f h4 hL1
                    refine c_skip ?_
                    refine sat_wc ?_
                    refine c_seq ?_
                    refine c_region ?_
                    refine o_v (v_assign rfl) rfl ?_
                    refine o_v (v_assign rfl) rfl ?_
                    refine o_seq ?_
                    refine c_seq ?_
                    refine c_seq ?_
                    refine c_region ?_
                    refine o_v (v_assign rfl) rfl ?_
                    refine o_seq ?_
                    obtain ⟨o5, ho5, hL1⟩ := bd hL1
                    refine c_cut (fun E N' => Sat E [(0, .string (bs text_)), (1, .int .i64 at__), (4, .slice none 0 0), (5, .int .i64 0), (6, .pointer (some ⟨b, 0, none⟩)), (7, .slice sa1 sn1 sc1), (8, .int .i64 i), (9, .int .u8 (sAt text_ i)), (10, .int .i64 o5.1), (11, .int .u8 o5.2.1), (12, .int .i64 o5.2.2)] [.box b 26 [.int .i64 0, .int .i64 0], .row (.slice sa1 sn1 sc1) 5 1 (out_.map eU8)] [] N') (fun N5 hN5 => ?_) ?_
                    · refine c_block ?_
                      refine c_loopE (fun E j a w => ∃ (n : Int) (b1 : Int) (k_ : Int), F.ref02.Said_l5 i text_ j n b1 k_ = some o5 ∧ St E [(0, .string (bs text_)), (1, .int .i64 at__), (4, .slice none 0 0), (5, .int .i64 0), (6, .pointer (some ⟨b, 0, none⟩)), (7, .slice sa1 sn1 sc1), (8, .int .i64 i), (9, .int .u8 (sAt text_ i)), (10, .int .i64 n), (11, .int .u8 b1), (12, .int .i64 k_)] [.box b 26 [.int .i64 0, .int .i64 0], .row (.slice sa1 sn1 sc1) 5 1 (out_.map eU8)] [] a w) k ?_ ?_
                      · intro a w hs
                        exact ⟨0, 0, 0, ho5, st_le [0, 0] (le_cons rfl (le_cons rfl (le_cons rfl (le_cons rfl (le_cons rfl (le_cons rfl (le_cons rfl (le_cons rfl (le_cons rfl (le_cons rfl (le_cons rfl le_nil))))))))))) rfl sub_nil a w hs⟩
                      · rintro j a w ⟨n, b1, k_, hL5, hs⟩
                        cases j with
                        | zero => cases hL5
                        | succ j =>
                          refine wc_app hs ?_
                          unfold F.ref02.Said_l5 at hL5
                          refine c_seq ?_
                          refine c_seq ?_
                          refine c_cut (fun E N' => ∀ (t54 : Bool), F.ref02.Said_j6 i text_ k_ (F.ref02.Said_l5 i text_ j) n b1 t54 = some o5 → Sat E [(0, .string (bs text_)), (1, .int .i64 at__), (4, .slice none 0 0), (5, .int .i64 0), (6, .pointer (some ⟨b, 0, none⟩)), (7, .slice sa1 sn1 sc1), (8, .int .i64 i), (9, .int .u8 (sAt text_ i)), (10, .int .i64 n), (11, .int .u8 b1), (12, .int .i64 k_), (54, .bool t54)] [.box b 26 [.int .i64 0, .int .i64 0], .row (.slice sa1 sn1 sc1) 5 1 (out_.map eU8)] [] N') (fun N9 hN9 => ?_) ?_
                          · refine c_region ?_
                            refine o_v (v_move rfl) rfl ?_
                            refine o_v (v_bin rfl rfl rfl) rfl ?_
                            refine o_v (v_move rfl) rfl ?_
                            refine o_split (t := 48) rfl (fun h12 => ?_) (fun h12 => ?_)
                            · replace hL5 := ite_t h12 hL5
                              refine o_on rfl rfl ?_
                              refine o_v (v_move rfl) rfl ?_
                              refine o_on rfl rfl ?_
                              refine o_v (v_bin rfl rfl rfl) rfl ?_
                              refine o_on rfl rfl ?_
                              refine o_v (v_move rfl) rfl ?_
                              refine o_on rfl rfl ?_
                              refine o_v (v_len_str Try.underlying9 rfl) rfl ?_
                              refine o_on rfl rfl ?_
                              refine o_v (v_bin rfl rfl rfl) rfl ?_
                              refine o_v (v_pick_t rfl rfl) rfl ?_
                              refine o_nil ?_
                              refine s_st ?_ (hN9 (decide ((IntKind.wrap .i64 (i + 1)) < (text_.length : Int))) hL5)
                              exact st_le [0, 0] (le_cons rfl (le_cons rfl (le_cons rfl (le_cons rfl (le_cons rfl (le_cons rfl (le_cons rfl (le_cons rfl (le_cons rfl (le_cons rfl (le_cons rfl (le_cons rfl le_nil)))))))))))) rfl sub_nil
                            · replace hL5 := ite_f h12 hL5
                              refine o_off rfl rfl (by decide) rfl ?_
                              refine o_off rfl rfl (by decide) rfl ?_
                              refine o_off rfl rfl (by decide) rfl ?_
                              refine o_off rfl rfl (by decide) rfl ?_
                              refine o_off rfl rfl (by decide) rfl ?_
                              refine o_v (v_pick_f rfl rfl) rfl ?_
                              refine o_nil ?_
                              refine s_st ?_ (hN9 false hL5)
                              exact st_le [0, 0] (le_cons rfl (le_cons rfl (le_cons rfl (le_cons rfl (le_cons rfl (le_cons rfl (le_cons rfl (le_cons rfl (le_cons rfl (le_cons rfl (le_cons rfl (le_cons rfl le_nil)))))))))))) rfl sub_nil
                          · intro t54 hL5
                            unfold F.ref02.Said_j6 at hL5
                            refine sat_wc ?_
                            refine c_cond rfl (fun h7 => ?_) (fun h7 => ?_)
                            · replace hL5 := ite_t h7 hL5
                              refine c_skip ?_
                              refine sat_wc ?_
                              refine c_seq ?_
                              refine c_cut (fun E N' => ∀ (n1 : Int) (b2 : Int), F.ref02.Said_j7 (F.ref02.Said_l5 i text_ j) k_ n1 b2 = some o5 → Sat E [(0, .string (bs text_)), (1, .int .i64 at__), (4, .slice none 0 0), (5, .int .i64 0), (6, .pointer (some ⟨b, 0, none⟩)), (7, .slice sa1 sn1 sc1), (8, .int .i64 i), (9, .int .u8 (sAt text_ i)), (10, .int .i64 n1), (11, .int .u8 b2), (12, .int .i64 k_)] [.box b 26 [.int .i64 0, .int .i64 0], .row (.slice sa1 sn1 sc1) 5 1 (out_.map eU8)] [] N') (fun N7 hN7 => ?_) ?_
                              · refine c_block ?_
                                refine c_seq ?_
                                refine c_cut (fun E N' => ∀ (t70 : Bool), F.ref02.Said_j8 (F.ref02.Said_l5 i text_ j) k_ n b1 t70 = some o5 → Sat E [(0, .string (bs text_)), (1, .int .i64 at__), (4, .slice none 0 0), (5, .int .i64 0), (6, .pointer (some ⟨b, 0, none⟩)), (7, .slice sa1 sn1 sc1), (8, .int .i64 i), (9, .int .u8 (sAt text_ i)), (10, .int .i64 n), (11, .int .u8 b1), (12, .int .i64 k_), (70, .bool t70)] [.box b 26 [.int .i64 0, .int .i64 0], .row (.slice sa1 sn1 sc1) 5 1 (out_.map eU8)] [] N') (fun N9 hN9 => ?_) ?_
                                · refine c_draw (n := 14) [0, 0] mixed rfl rfl ?_
                                  refine d_val 0 rfl pnok (by kernel_rfl) (by kernel_rfl) (by kernel_rfl) rfl (v_move rfl) ?_
                                  refine d_val 1 rfl pnok (by kernel_rfl) (by kernel_rfl) (by kernel_rfl) rfl (v_convert (v := .int .u8 (IntKind.wrap .u8 k_)) rfl (fun _ => by kernel_rfl)) ?_
                                  refine d_val 3 rfl pnok (by kernel_rfl) (by kernel_rfl) (by kernel_rfl) rfl (v_move rfl) ?_
                                  refine d_val 4 rfl pnok (by kernel_rfl) (by kernel_rfl) (by kernel_rfl) rfl (v_move rfl) ?_
                                  refine d_val 5 rfl pnok (by kernel_rfl) (by kernel_rfl) (by kernel_rfl) rfl (v_bin rfl rfl rfl) ?_
                                  refine ite_some hL5 fun h9 hL5 => ?_
                                  refine d_val 6 rfl pnok (by kernel_rfl) (by kernel_rfl) (by kernel_rfl) rfl (v_sindex Try.underlying9 rfl rfl h9) ?_
                                  refine d_one 2 rfl (by kernel_rfl) ?_
                                  obtain ⟨v, h10, hL5⟩ := bd hL5
                                  refine o_callSB call44 rfl lent_nil (tri44 (IntKind.wrap .u8 k_) v h10) rfl ?_
                                  refine d_next [0, 0] 0 rfl rfl ?_
                                  refine d_val 7 rfl pnok (by kernel_rfl) (by kernel_rfl) (by kernel_rfl) rfl (v_bin rfl rfl rfl) ?_
                                  refine d_val 8 rfl pnok (by kernel_rfl) (by kernel_rfl) (by kernel_rfl) rfl (v_move rfl) ?_
                                  refine d_split (t := 65) rfl (fun h11 => ?_) (fun h11 => ?_)
                                  · replace hL5 := ite_t h11 hL5
                                    refine d_val_on 9 rfl rfl rfl pnok (by kernel_rfl) (by kernel_rfl) (by kernel_rfl) rfl (v_move rfl) ?_
                                    refine d_val_on 10 rfl rfl rfl pnok (by kernel_rfl) (by kernel_rfl) (by kernel_rfl) rfl (v_convert (v := .int .u8 (IntKind.wrap .u8 k_)) rfl (fun _ => by kernel_rfl)) ?_
                                    refine d_one 11 rfl (by kernel_rfl) ?_
                                    refine o_on rfl rfl ?_
                                    refine o_callSB call44 rfl lent_nil (tri44 (IntKind.wrap .u8 k_) v h10) rfl ?_
                                    refine d_next [0, 0] 0 rfl rfl ?_
                                    refine d_val_on 12 rfl rfl rfl pnok (by kernel_rfl) (by kernel_rfl) (by kernel_rfl) rfl (v_bin rfl rfl rfl) ?_
                                    refine d_val 13 rfl pnok (by kernel_rfl) (by kernel_rfl) (by kernel_rfl) rfl (v_pick_t rfl rfl) ?_
                                    refine d_done (by kernel_rfl) ?_
                                    refine s_st ?_ (hN9 (v != 0) hL5)
                                    exact st_le [0, 0] (le_cons rfl (le_cons rfl (le_cons rfl (le_cons rfl (le_cons rfl (le_cons rfl (le_cons rfl (le_cons rfl (le_cons rfl (le_cons rfl (le_cons rfl (le_cons rfl le_nil)))))))))))) rfl sub_nil
                                  · replace hL5 := ite_f h11 hL5
                                    refine d_off 9 rfl rfl rfl (by decide) pnok (by kernel_rfl) (by kernel_rfl) (by kernel_rfl) rfl ?_
                                    refine d_off 10 rfl rfl rfl (by decide) pnok (by kernel_rfl) (by kernel_rfl) (by kernel_rfl) rfl ?_
                                    refine d_off 11 rfl rfl rfl (by decide) pnok (by kernel_rfl) (by kernel_rfl) (by kernel_rfl) rfl ?_
                                    refine d_off 12 rfl rfl rfl (by decide) pnok (by kernel_rfl) (by kernel_rfl) (by kernel_rfl) rfl ?_
                                    refine d_val 13 rfl pnok (by kernel_rfl) (by kernel_rfl) (by kernel_rfl) rfl (v_pick_f rfl rfl) ?_
                                    refine d_done (by kernel_rfl) ?_
                                    refine s_st ?_ (hN9 false hL5)
                                    exact st_le [0, 0] (le_cons rfl (le_cons rfl (le_cons rfl (le_cons rfl (le_cons rfl (le_cons rfl (le_cons rfl (le_cons rfl (le_cons rfl (le_cons rfl (le_cons rfl (le_cons rfl le_nil)))))))))))) rfl sub_nil
                                · intro t70 hL5
                                  unfold F.ref02.Said_j8 at hL5
                                  refine sat_wc ?_
                                  refine c_cut (fun E N' => ∀ (n2 : Int) (b3 : Int), F.ref02.Said_j9 (F.ref02.Said_l5 i text_ j) k_ n2 b3 = some o5 → Sat E [(0, .string (bs text_)), (1, .int .i64 at__), (4, .slice none 0 0), (5, .int .i64 0), (6, .pointer (some ⟨b, 0, none⟩)), (7, .slice sa1 sn1 sc1), (8, .int .i64 i), (9, .int .u8 (sAt text_ i)), (10, .int .i64 n2), (11, .int .u8 b3), (12, .int .i64 k_)] [.box b 26 [.int .i64 0, .int .i64 0], .row (.slice sa1 sn1 sc1) 5 1 (out_.map eU8)] [] N') (fun N9 hN9 => ?_) ?_
                                  · refine c_cond rfl (fun h8 => ?_) (fun h8 => ?_)
                                    · replace hL5 := ite_t h8 hL5
                                      refine c_region ?_
                                      refine o_v (v_move rfl) rfl ?_
                                      refine o_v (v_convert (v := .int .u8 (IntKind.wrap .u8 k_)) rfl (fun _ => by kernel_rfl)) rfl ?_
                                      refine o_v (v_assign rfl) rfl ?_
                                      refine o_v (v_assign rfl) rfl ?_
                                      refine o_nil ?_
                                      refine s_st ?_ (hN9 2 (IntKind.wrap .u8 k_) hL5)
                                      exact st_le [0, 0] (le_cons rfl (le_cons rfl (le_cons rfl (le_cons rfl (le_cons rfl (le_cons rfl (le_cons rfl (le_cons rfl (le_cons rfl (le_cons rfl (le_cons rfl le_nil))))))))))) rfl sub_nil
                                    · replace hL5 := ite_f h8 hL5
                                      refine c_skip ?_
                                      refine s_st ?_ (hN9 n b1 hL5)
                                      exact st_le [0, 0] (le_cons rfl (le_cons rfl (le_cons rfl (le_cons rfl (le_cons rfl (le_cons rfl (le_cons rfl (le_cons rfl (le_cons rfl (le_cons rfl (le_cons rfl le_nil))))))))))) rfl sub_nil
                                  · intro n2 b3 hL5
                                    unfold F.ref02.Said_j9 at hL5
                                    refine s_st ?_ (hN7 n2 b3 hL5)
                                    exact st_le [0, 0] (le_cons rfl (le_cons rfl (le_cons rfl (le_cons rfl (le_cons rfl (le_cons rfl (le_cons rfl (le_cons rfl (le_cons rfl (le_cons rfl (le_cons rfl le_nil))))))))))) rfl sub_nil
                              · intro n1 b2 hL5
                                unfold F.ref02.Said_j7 at hL5
                                refine sat_wc ?_
                                refine c_region ?_
                                refine o_v (v_move rfl) rfl ?_
                                refine o_v (v_bin rfl rfl rfl) rfl ?_
                                refine o_v (v_assign rfl) rfl ?_
                                refine o_nil ?_
                                intro a w hs
                                exact ⟨j, Nat.lt_succ_self j, n1, b2, IntKind.wrap .i64 (k_ + 1), hL5, st_le [0, 0] (le_cons rfl (le_cons rfl (le_cons rfl (le_cons rfl (le_cons rfl (le_cons rfl (le_cons rfl (le_cons rfl (le_cons rfl (le_cons rfl (le_cons rfl le_nil))))))))))) rfl sub_nil a w hs⟩
                            · replace hL5 := ite_f h7 hL5
                              refine c_exit0 ?_
                              cases hL5
                              refine s_st ?_ (hN5)
                              exact st_le [0, 0] (le_cons rfl (le_cons rfl (le_cons rfl (le_cons rfl (le_cons rfl (le_cons rfl (le_cons rfl (le_cons rfl (le_cons rfl (le_cons rfl (le_cons rfl le_nil))))))))))) rfl sub_nil
                    · refine sat_wc ?_
                      refine c_seq ?_
                      refine c_seq ?_
                      refine c_cut (fun E N' => ∀ (t84 : Bool), F.ref02.Said_j10 k i text_ out_ (F.ref02.Said_l1 k text_ j) o5 t84 = some o1 → Sat E [(0, .string (bs text_)), (1, .int .i64 at__), (4, .slice none 0 0), (5, .int .i64 0), (6, .pointer (some ⟨b, 0, none⟩)), (7, .slice sa1 sn1 sc1), (8, .int .i64 i), (9, .int .u8 (sAt text_ i)), (10, .int .i64 o5.1), (11, .int .u8 o5.2.1), (12, .int .i64 o5.2.2), (84, .bool t84)] [.box b 26 [.int .i64 0, .int .i64 0], .row (.slice sa1 sn1 sc1) 5 1 (out_.map eU8)] [] N') (fun N13 hN13 => ?_) ?_
                      · refine c_region ?_
                        refine o_v (v_move rfl) rfl ?_
                        refine o_v (v_bin rfl rfl rfl) rfl ?_
                        refine o_v (v_move rfl) rfl ?_
                        refine o_v (v_len_str Try.underlying9 rfl) rfl ?_
                        refine o_v (v_bin rfl rfl rfl) rfl ?_
                        refine o_v (v_move rfl) rfl ?_
                        refine o_split (t := 78) rfl (fun h23 => ?_) (fun h23 => ?_)
                        · replace hL1 := ite_t h23 hL1
                          refine o_on rfl rfl ?_
                          refine o_v (v_move rfl) rfl ?_
                          refine o_on rfl rfl ?_
                          refine o_v (v_move rfl) rfl ?_
                          refine o_on rfl rfl ?_
                          refine o_v (v_bin rfl rfl rfl) rfl ?_
                          refine o_on rfl rfl ?_
                          refine ite_some hL1 fun h24 hL1 => ?_
                          refine o_v (v_sindex Try.underlying9 rfl rfl h24) rfl ?_
                          refine o_on rfl rfl ?_
                          refine o_v (v_bin rfl rfl rfl) rfl ?_
                          refine o_v (v_pick_t rfl rfl) rfl ?_
                          refine o_nil ?_
                          refine s_st ?_ (hN13 ((sAt text_ (IntKind.wrap .i64 (i + 1))) == 120) hL1)
                          exact st_le [0, 0] (le_cons rfl (le_cons rfl (le_cons rfl (le_cons rfl (le_cons rfl (le_cons rfl (le_cons rfl (le_cons rfl (le_cons rfl (le_cons rfl (le_cons rfl (le_cons rfl le_nil)))))))))))) rfl sub_nil
                        · replace hL1 := ite_f h23 hL1
                          refine o_off rfl rfl (by decide) rfl ?_
                          refine o_off rfl rfl (by decide) rfl ?_
                          refine o_off rfl rfl (by decide) rfl ?_
                          refine o_off rfl rfl (by decide) rfl ?_
                          refine o_off rfl rfl (by decide) rfl ?_
                          refine o_v (v_pick_f rfl rfl) rfl ?_
                          refine o_nil ?_
                          refine s_st ?_ (hN13 false hL1)
                          exact st_le [0, 0] (le_cons rfl (le_cons rfl (le_cons rfl (le_cons rfl (le_cons rfl (le_cons rfl (le_cons rfl (le_cons rfl (le_cons rfl (le_cons rfl (le_cons rfl (le_cons rfl le_nil)))))))))))) rfl sub_nil
                      · intro t84 hL1
                        unfold F.ref02.Said_j10 at hL1
                        refine sat_wc ?_
                        refine c_cut (fun E N' => ∀ (n3 : Int) (b4 : Int), F.ref02.Said_j11 i out_ (F.ref02.Said_l1 k text_ j) n3 b4 = some o1 → Sat E [(0, .string (bs text_)), (1, .int .i64 at__), (4, .slice none 0 0), (5, .int .i64 0), (6, .pointer (some ⟨b, 0, none⟩)), (7, .slice sa1 sn1 sc1), (8, .int .i64 i), (9, .int .u8 (sAt text_ i)), (10, .int .i64 n3), (11, .int .u8 b4), (12, .int .i64 o5.2.2)] [.box b 26 [.int .i64 0, .int .i64 0], .row (.slice sa1 sn1 sc1) 5 1 (out_.map eU8)] [] N') (fun N11 hN11 => ?_) ?_
                        · refine c_cond rfl (fun h16 => ?_) (fun h16 => ?_)
                          · replace hL1 := ite_t h16 hL1
                            refine c_seq ?_
                            refine c_draw (n := 12) [0, 0] mixed rfl rfl ?_
                            refine d_val 0 rfl pnok (by kernel_rfl) (by kernel_rfl) (by kernel_rfl) rfl (v_move rfl) ?_
                            refine d_val 1 rfl pnok (by kernel_rfl) (by kernel_rfl) (by kernel_rfl) rfl (v_move rfl) ?_
                            refine d_val 2 rfl pnok (by kernel_rfl) (by kernel_rfl) (by kernel_rfl) rfl (v_bin rfl rfl rfl) ?_
                            refine ite_some hL1 fun h17 hL1 => ?_
                            refine d_val 3 rfl pnok (by kernel_rfl) (by kernel_rfl) (by kernel_rfl) rfl (v_sindex Try.underlying9 rfl rfl h17) ?_
                            refine d_val 5 rfl pnok (by kernel_rfl) (by kernel_rfl) (by kernel_rfl) rfl (v_move rfl) ?_
                            refine d_val 6 rfl pnok (by kernel_rfl) (by kernel_rfl) (by kernel_rfl) rfl (v_move rfl) ?_
                            refine d_val 7 rfl pnok (by kernel_rfl) (by kernel_rfl) (by kernel_rfl) rfl (v_bin rfl rfl rfl) ?_
                            refine ite_some hL1 fun h18 hL1 => ?_
                            refine d_val 8 rfl pnok (by kernel_rfl) (by kernel_rfl) (by kernel_rfl) rfl (v_sindex Try.underlying9 rfl rfl h18) ?_
                            refine d_one 4 rfl (by kernel_rfl) ?_
                            obtain ⟨v1, h19, hL1⟩ := bd hL1
                            refine o_callSB call58 rfl lent_nil (tri58 k (sAt text_ (IntKind.wrap .i64 (i + 2))) v1 h19) rfl ?_
                            refine d_next [0, 0] 0 rfl rfl ?_
                            refine d_one 9 rfl (by kernel_rfl) ?_
                            obtain ⟨v2, h20, hL1⟩ := bd hL1
                            refine o_callSB call58 rfl lent_nil (tri58 k (sAt text_ (IntKind.wrap .i64 (i + 3))) v2 h20) rfl ?_
                            refine d_next [0, 0] 0 rfl rfl ?_
                            refine d_val 10 rfl pnok (by kernel_rfl) (by kernel_rfl) (by kernel_rfl) rfl (v_assign rfl) ?_
                            refine d_val 11 rfl pnok (by kernel_rfl) (by kernel_rfl) (by kernel_rfl) rfl (v_assign rfl) ?_
                            refine d_done_seq (by kernel_rfl) ?_
                            refine c_seq ?_
                            refine c_cut (fun E N' => ∀ (t100 : Bool), F.ref02.Said_j12 i out_ (F.ref02.Said_l1 k text_ j) v1 v2 o5 t100 = some o1 → Sat E [(0, .string (bs text_)), (1, .int .i64 at__), (4, .slice none 0 0), (5, .int .i64 0), (6, .pointer (some ⟨b, 0, none⟩)), (7, .slice sa1 sn1 sc1), (8, .int .i64 i), (9, .int .u8 (sAt text_ i)), (10, .int .i64 o5.1), (11, .int .u8 o5.2.1), (12, .int .i64 o5.2.2), (13, .int .i64 v1), (14, .int .i64 v2), (100, .bool t100)] [.box b 26 [.int .i64 0, .int .i64 0], .row (.slice sa1 sn1 sc1) 5 1 (out_.map eU8)] [] N') (fun N13 hN13 => ?_) ?_
                            · refine c_region ?_
                              refine o_v (v_move rfl) rfl ?_
                              refine o_v (v_bin rfl rfl rfl) rfl ?_
                              refine o_v (v_move rfl) rfl ?_
                              refine o_split (t := 97) rfl (fun h22 => ?_) (fun h22 => ?_)
                              · replace hL1 := ite_t h22 hL1
                                refine o_on rfl rfl ?_
                                refine o_v (v_move rfl) rfl ?_
                                refine o_on rfl rfl ?_
                                refine o_v (v_bin rfl rfl rfl) rfl ?_
                                refine o_v (v_pick_t rfl rfl) rfl ?_
                                refine o_nil ?_
                                refine s_st ?_ (hN13 (decide (v2 < 16)) hL1)
                                exact st_le [0, 0] (le_cons rfl (le_cons rfl (le_cons rfl (le_cons rfl (le_cons rfl (le_cons rfl (le_cons rfl (le_cons rfl (le_cons rfl (le_cons rfl (le_cons rfl (le_cons rfl (le_cons rfl (le_cons rfl le_nil)))))))))))))) rfl sub_nil
                              · replace hL1 := ite_f h22 hL1
                                refine o_off rfl rfl (by decide) rfl ?_
                                refine o_off rfl rfl (by decide) rfl ?_
                                refine o_v (v_pick_f rfl rfl) rfl ?_
                                refine o_nil ?_
                                refine s_st ?_ (hN13 false hL1)
                                exact st_le [0, 0] (le_cons rfl (le_cons rfl (le_cons rfl (le_cons rfl (le_cons rfl (le_cons rfl (le_cons rfl (le_cons rfl (le_cons rfl (le_cons rfl (le_cons rfl (le_cons rfl (le_cons rfl (le_cons rfl le_nil)))))))))))))) rfl sub_nil
                            · intro t100 hL1
                              unfold F.ref02.Said_j12 at hL1
                              refine sat_wc ?_
                              refine c_cut (fun E N' => ∀ (n4 : Int) (b5 : Int), F.ref02.Said_j13 i out_ (F.ref02.Said_l1 k text_ j) n4 b5 = some o1 → Sat E [(0, .string (bs text_)), (1, .int .i64 at__), (4, .slice none 0 0), (5, .int .i64 0), (6, .pointer (some ⟨b, 0, none⟩)), (7, .slice sa1 sn1 sc1), (8, .int .i64 i), (9, .int .u8 (sAt text_ i)), (10, .int .i64 n4), (11, .int .u8 b5), (12, .int .i64 o5.2.2), (13, .int .i64 v1), (14, .int .i64 v2)] [.box b 26 [.int .i64 0, .int .i64 0], .row (.slice sa1 sn1 sc1) 5 1 (out_.map eU8)] [] N') (fun N13 hN13 => ?_) ?_
                              · refine c_cond rfl (fun h21 => ?_) (fun h21 => ?_)
                                · replace hL1 := ite_t h21 hL1
                                  refine c_region ?_
                                  refine o_v (v_move rfl) rfl ?_
                                  refine o_v (v_bin rfl rfl rfl) rfl ?_
                                  refine o_v (v_move rfl) rfl ?_
                                  refine o_v (v_bin rfl rfl rfl) rfl ?_
                                  refine o_v (v_convert (v := .int .u8 (IntKind.wrap .u8 (IntKind.wrap .i64 ((IntKind.wrap .i64 (16 * v1)) + v2)))) rfl (fun _ => by kernel_rfl)) rfl ?_
                                  refine o_v (v_assign rfl) rfl ?_
                                  refine o_v (v_assign rfl) rfl ?_
                                  refine o_nil ?_
                                  refine s_st ?_ (hN13 4 (IntKind.wrap .u8 (IntKind.wrap .i64 ((IntKind.wrap .i64 (16 * v1)) + v2))) hL1)
                                  exact st_le [0, 0] (le_cons rfl (le_cons rfl (le_cons rfl (le_cons rfl (le_cons rfl (le_cons rfl (le_cons rfl (le_cons rfl (le_cons rfl (le_cons rfl (le_cons rfl (le_cons rfl (le_cons rfl le_nil))))))))))))) rfl sub_nil
                                · replace hL1 := ite_f h21 hL1
                                  refine c_skip ?_
                                  refine s_st ?_ (hN13 o5.1 o5.2.1 hL1)
                                  exact st_le [0, 0] (le_cons rfl (le_cons rfl (le_cons rfl (le_cons rfl (le_cons rfl (le_cons rfl (le_cons rfl (le_cons rfl (le_cons rfl (le_cons rfl (le_cons rfl (le_cons rfl (le_cons rfl le_nil))))))))))))) rfl sub_nil
                              · intro n4 b5 hL1
                                unfold F.ref02.Said_j13 at hL1
                                refine s_st ?_ (hN11 n4 b5 hL1)
                                exact st_le [0, 0] (le_cons rfl (le_cons rfl (le_cons rfl (le_cons rfl (le_cons rfl (le_cons rfl (le_cons rfl (le_cons rfl (le_cons rfl (le_cons rfl (le_cons rfl le_nil))))))))))) rfl sub_nil
                          · replace hL1 := ite_f h16 hL1
                            refine c_skip ?_
                            refine s_st ?_ (hN11 o5.1 o5.2.1 hL1)
                            exact st_le [0, 0] (le_cons rfl (le_cons rfl (le_cons rfl (le_cons rfl (le_cons rfl (le_cons rfl (le_cons rfl (le_cons rfl (le_cons rfl (le_cons rfl (le_cons rfl le_nil))))))))))) rfl sub_nil
                        · intro n3 b4 hL1
                          unfold F.ref02.Said_j11 at hL1
                          refine sat_wc ?_
                          refine c_seq ?_
                          refine c_seq ?_
                          refine c_region ?_
                          refine o_v (v_move rfl) rfl ?_
                          refine o_v (v_bin rfl rfl rfl) rfl ?_
                          refine o_seq ?_
                          refine c_cond rfl (fun h13 => ?_) (fun h13 => ?_)
                          · replace hL1 := ite_t h13 hL1
                            refine c_seq ?_
                            refine c_region ?_
                            refine o_v (v_move rfl) rfl ?_
                            refine o_v (v_build (v := .agg #[.int .i64 i, .int .i64 12]) rfl (fun _ => by kernel_rfl)) rfl ?_
                            refine o_v (v_assign rfl) rfl ?_
                            refine o_v (v_assign rfl) rfl ?_
                            refine o_store_box 0 rfl ty26 rfl rfl rfl rfl rfl rfl rfl ?_
                            refine o_seq ?_
                            refine c_ret ?_
                            cases hL1
                            obtain rfl := lrf_ret hF
                            refine s_st (st_nilrow 5 1) ?_
                            refine s_ret3 rfl (r_tmp rfl) (r_tmp rfl) (r_cell 1 rfl ty26 rfl rfl rfl rfl) fun a w hs => ?_
                            exact fin_sel hs [0] ⟨none, 0, 0, rfl, rfl, rfl⟩ rfl sub_nil
                          · replace hL1 := ite_f h13 hL1
                            refine c_skip ?_
                            refine sat_wc ?_
                            refine c_seq ?_
                            refine c_region ?_
                            refine o_v (v_move rfl) rfl ?_
                            refine o_v (v_move rfl) rfl ?_
                            refine o_buildSlice (enc := eU8) ([b4] : List Int) [.int .u8 b4] sl30 rfl (fun _ => by kernel_rfl) rfl rfl rfl (.s rfl (.nil)) rfl fun sa6 sn6 sc6 => ?_
                            refine ite_some hL1 fun h14 hL1 => ?_
                            refine ite_some hL1 fun h15 hL1 => ?_
                            refine o_append (enc := eU8) (xs := out_) (ys := ([b4] : List Int)) 2 sl30 rfl rfl rfl (.r 0 _ rfl) h14 h15 rfl fun sa7 sn7 sc7 => ?_
                            refine o_v (v_assign rfl) rfl ?_
                            refine o_seq ?_
                            refine c_region ?_
                            refine o_v (v_move rfl) rfl ?_
                            refine o_v (v_move rfl) rfl ?_
                            refine o_v (v_bin rfl rfl rfl) rfl ?_
                            refine o_v (v_assign rfl) rfl ?_
                            refine o_nil ?_
                            refine s_st ?_ (hN3 (out_ ++ ([b4] : List Int)) (IntKind.wrap .i64 (i + n3)) sa7 sn7 sc7 hL1)
                            exact st_le [1, 1] (le_cons rfl (le_cons rfl (le_cons rfl (le_cons rfl (le_cons rfl (le_cons rfl (le_cons rfl (le_cons rfl le_nil)))))))) rfl sub_nil
            · intro out_1 i1 sa3 sn3 sc3 hL1
              unfold F.ref02.Said_j3 at hL1
              intro a w hs
              exact ⟨j, Nat.lt_succ_self j, out_1, i1, sa3, sn3, sc3, hL1, st_le [0, 0] (le_cons rfl (le_cons rfl (le_cons rfl (le_cons rfl (le_cons rfl (le_cons rfl (le_cons rfl le_nil))))))) rfl sub_nil a w hs⟩
          · replace hL1 := ite_f h1 hL1
            refine c_exit0 ?_
            cases hL1
            refine s_st ?_ (hN1 (out_, i) sa1 sn1 sc1 rfl)
            exact st_le [0, 0] (le_cons rfl (le_cons rfl (le_cons rfl (le_cons rfl (le_cons rfl (le_cons rfl (le_cons rfl le_nil))))))) rfl sub_nil
  · intro d1 sa2 sn2 sc2 hd
    subst hd
    replace hF := lrf_done hF
    refine sat_wc ?_
    refine c_seq ?_
    refine c_seq ?_
    refine c_region ?_
    refine o_v (v_move rfl) rfl ?_
    refine o_v (v_move rfl) rfl ?_
    refine o_v (v_len_str Try.underlying9 rfl) rfl ?_
    refine o_v (v_bin rfl rfl rfl) rfl ?_
    refine o_seq ?_
    refine c_cond rfl (fun h28 => ?_) (fun h28 => ?_)
    · replace hF := ite_t h28 hF
      refine c_seq ?_
      refine c_region ?_
      refine o_v (v_move rfl) rfl ?_
      refine o_v (v_build (v := .agg #[.int .i64 at__, .int .i64 13]) rfl (fun _ => by kernel_rfl)) rfl ?_
      refine o_v (v_assign rfl) rfl ?_
      refine o_v (v_assign rfl) rfl ?_
      refine o_store_box 0 rfl ty26 rfl rfl rfl rfl rfl rfl rfl ?_
      refine o_seq ?_
      refine c_ret ?_
      cases hF
      refine s_st (st_nilrow 5 1) ?_
      refine s_ret3 rfl (r_tmp rfl) (r_tmp rfl) (r_cell 1 rfl ty26 rfl rfl rfl rfl) fun a w hs => ?_
      exact fin_sel hs [0] ⟨none, 0, 0, rfl, rfl, rfl⟩ rfl sub_nil
    · replace hF := ite_f h28 hF
      refine c_skip ?_
      refine sat_wc ?_
      refine c_seq ?_
      refine c_region ?_
      refine o_v (v_move rfl) rfl ?_
      refine o_v (v_move rfl) rfl ?_
      refine o_v (v_bin rfl rfl rfl) rfl ?_
      refine o_v (v_build (v := .agg #[.int .i64 0, .int .i64 0]) rfl (fun _ => by kernel_rfl)) rfl ?_
      refine o_v (v_assign rfl) rfl ?_
      refine o_v (v_assign rfl) rfl ?_
      refine o_store_box 0 rfl ty26 rfl rfl rfl rfl rfl rfl rfl ?_
      refine o_seq ?_
      refine c_ret ?_
      cases hF
      refine s_ret3 rfl (r_tmp rfl) (r_tmp rfl) (r_cell 0 rfl ty26 rfl rfl rfl rfl) fun a w hs => ?_
      exact fin_sel hs [1] ⟨sa2, sn2, sc2, rfl, rfl, rfl⟩ rfl sub_nil
theorem tri50 (k : Nat) (text_ : List UInt8) (at__ : Int) (r : Int) (hF : F.ref02.closed k text_ at__ = some r) :
    Tri Try.prog 50 [.string (bs text_), .int .i64 at__] [] [] (fun o H Φ => o = .ret (.int .i64 r) ∧ H = [] ∧ Φ = []) := by
  unfold F.ref02.closed at hF
  refine tri_intro (n := 26) Try.func50 rfl Try.ntmps50 rfl fun w X => ?_
  refine c_seq ?_
  refine c_region ?_
  refine o_v (v_assign rfl) rfl ?_
  refine o_seq ?_
  refine c_seq ?_
  refine c_region ?_
  refine o_v (v_move rfl) rfl ?_
  refine o_v (v_bin rfl rfl rfl) rfl ?_
  refine o_v (v_assign rfl) rfl ?_
  refine o_seq ?_
  refine c_seq ?_
  obtain ⟨o1, ho1, hF⟩ := bd hF
  refine c_cut (fun E N' => ∀ (d1 : Unit), o1 = .done d1 → Sat E [(1, .int .i64 at__), (4, .int .i64 0)] [] [] N') (fun N1 hN1 => ?_) ?_
  · refine c_block ?_
    refine c_loopE (fun E j a w => ∃ (i : Int), F.ref02.closed_l1 text_ j i = some o1 ∧ St E [(0, .string (bs text_)), (1, .int .i64 at__), (4, .int .i64 0), (5, .int .i64 i)] [] [] a w) k ?_ ?_
    · intro a w hs
      exact ⟨IntKind.wrap .i64 (at__ + 1), ho1, st_le [] (le_cons rfl (le_cons rfl (le_cons rfl (le_cons rfl le_nil)))) rfl sub_nil a w hs⟩
    · rintro j a w ⟨i, hL1, hs⟩
      cases j with
      | zero => cases hL1
      | succ j =>
        refine wc_app hs ?_
        unfold F.ref02.closed_l1 at hL1
        refine c_seq ?_
        refine c_seq ?_
        refine c_region ?_
        refine o_v (v_move rfl) rfl ?_
        refine o_v (v_move rfl) rfl ?_
        refine o_v (v_len_str Try.underlying9 rfl) rfl ?_
        refine o_v (v_bin rfl rfl rfl) rfl ?_
        refine o_seq ?_
        refine c_cond rfl (fun h1 => ?_) (fun h1 => ?_)
        · replace hL1 := ite_t h1 hL1
          refine c_skip ?_
          refine sat_wc ?_
          refine c_cut (fun E N' => ∀ (i1 : Int), F.ref02.closed_j2 (F.ref02.closed_l1 text_ j) i1 = some o1 → Sat E [(0, .string (bs text_)), (1, .int .i64 at__), (4, .int .i64 0), (5, .int .i64 i1)] [] [] N') (fun N2 hN2 => ?_) ?_
          · refine c_block ?_
            refine c_seq ?_
            refine c_seq ?_
            refine c_region ?_
            refine o_v (v_move rfl) rfl ?_
            refine o_v (v_move rfl) rfl ?_
            refine ite_some hL1 fun h2 hL1 => ?_
            refine o_v (v_sindex Try.underlying9 rfl rfl h2) rfl ?_
            refine o_v (v_bin rfl rfl rfl) rfl ?_
            refine o_seq ?_
            refine c_cond rfl (fun h3 => ?_) (fun h3 => ?_)
            · replace hL1 := ite_t h3 hL1
              refine c_seq ?_
              refine c_region ?_
              refine o_v (v_move rfl) rfl ?_
              refine o_v (v_bin rfl rfl rfl) rfl ?_
              refine o_v (v_assign rfl) rfl ?_
              refine o_seq ?_
              refine c_ret ?_
              cases hL1
              obtain rfl := lrf_ret hF
              refine s_ret1 rfl (r_tmp rfl) fun a w hs => ?_
              exact fin_sel hs [] ⟨rfl, rfl, rfl⟩ rfl sub_nil
            · replace hL1 := ite_f h3 hL1
              refine c_skip ?_
              refine sat_wc ?_
              refine c_seq ?_
              refine c_seq ?_
              refine c_region ?_
              refine o_v (v_move rfl) rfl ?_
              refine o_v (v_move rfl) rfl ?_
              refine o_v (v_sindex Try.underlying9 rfl rfl h2) rfl ?_
              refine o_v (v_bin rfl rfl rfl) rfl ?_
              refine o_seq ?_
              refine c_cut (fun E N' => ∀ (i2 : Int), F.ref02.closed_j3 (F.ref02.closed_l1 text_ j) i2 = some o1 → Sat E [(0, .string (bs text_)), (1, .int .i64 at__), (4, .int .i64 0), (5, .int .i64 i2)] [] [] N') (fun N3 hN3 => ?_) ?_
              · refine c_cond rfl (fun h4 => ?_) (fun h4 => ?_)
                · replace hL1 := ite_t h4 hL1
                  refine c_region ?_
                  refine o_v (v_move rfl) rfl ?_
                  refine o_v (v_bin rfl rfl rfl) rfl ?_
                  refine o_v (v_assign rfl) rfl ?_
                  refine o_nil ?_
                  refine s_st ?_ (hN3 (IntKind.wrap .i64 (i + 1)) hL1)
                  exact st_le [] (le_cons rfl (le_cons rfl (le_cons rfl (le_cons rfl le_nil)))) rfl sub_nil
                · replace hL1 := ite_f h4 hL1
                  refine c_skip ?_
                  refine s_st ?_ (hN3 i hL1)
                  exact st_le [] (le_cons rfl (le_cons rfl (le_cons rfl (le_cons rfl le_nil)))) rfl sub_nil
              · intro i2 hL1
                unfold F.ref02.closed_j3 at hL1
                refine sat_wc ?_
                refine c_region ?_
                refine o_v (v_move rfl) rfl ?_
                refine o_v (v_bin rfl rfl rfl) rfl ?_
                refine o_v (v_assign rfl) rfl ?_
                refine o_nil ?_
                refine s_st ?_ (hN2 (IntKind.wrap .i64 (i2 + 1)) hL1)
                exact st_le [] (le_cons rfl (le_cons rfl (le_cons rfl (le_cons rfl le_nil)))) rfl sub_nil
          · intro i1 hL1
            unfold F.ref02.closed_j2 at hL1
            intro a w hs
            exact ⟨j, Nat.lt_succ_self j, i1, hL1, st_le [] (le_cons rfl (le_cons rfl (le_cons rfl (le_cons rfl le_nil)))) rfl sub_nil a w hs⟩
        · replace hL1 := ite_f h1 hL1
          refine c_exit0 ?_
          cases hL1
          refine s_st ?_ (hN1 () rfl)
          exact st_le [] (le_cons rfl (le_cons rfl le_nil)) rfl sub_nil
  · intro d1 hd
    subst hd
    replace hF := lrf_done hF
    refine sat_wc ?_
    refine c_seq ?_
    refine c_region ?_
    refine o_v (v_assign rfl) rfl ?_
    refine o_seq ?_
    refine c_ret ?_
    cases hF
    refine s_ret1 rfl (r_tmp rfl) fun a w hs => ?_
    exact fin_sel hs [] ⟨rfl, rfl, rfl⟩ rfl sub_nil
theorem tri71 (n : Int) (r : Int) (hF : F.ref01.special n = some r) :
    Tri Try.prog 71 [.int .i64 n] [] [] (fun o H Φ => o = .ret (.int .u8 r) ∧ H = [] ∧ Φ = []) := by
  unfold F.ref01.special at hF
  refine tri_intro (n := 20) Try.func71 rfl Try.ntmps71 rfl fun w X => ?_
  refine c_seq ?_
  refine c_region ?_
  refine o_v (v_assign rfl) rfl ?_
  refine o_seq ?_
  refine c_seq ?_
  refine c_seq ?_
  refine c_region ?_
  refine o_v (v_move rfl) rfl ?_
  refine o_seq ?_
  refine c_block ?_
  refine c_seq ?_
  refine c_region ?_
  refine o_v (v_bin rfl rfl rfl) rfl ?_
  refine o_v (v_assign rfl) rfl ?_
  refine o_seq ?_
  refine c_cond rfl (fun h1 => ?_) (fun h1 => ?_)
  · replace hF := ite_t h1 hF
    refine c_seq ?_
    refine c_region ?_
    refine o_v (v_assign rfl) rfl ?_
    refine o_seq ?_
    refine c_ret ?_
    cases hF
    refine s_ret1 rfl (r_tmp rfl) fun a w hs => ?_
    exact fin_sel hs [] ⟨rfl, rfl, rfl⟩ rfl sub_nil
  · replace hF := ite_f h1 hF
    refine c_seq ?_
    refine c_region ?_
    refine o_v (v_bin rfl rfl rfl) rfl ?_
    refine o_v (v_assign rfl) rfl ?_
    refine o_seq ?_
    refine c_cond rfl (fun h2 => ?_) (fun h2 => ?_)
    · replace hF := ite_t h2 hF
      refine c_seq ?_
      refine c_region ?_
      refine o_v (v_assign rfl) rfl ?_
      refine o_seq ?_
      refine c_ret ?_
      cases hF
      refine s_ret1 rfl (r_tmp rfl) fun a w hs => ?_
      exact fin_sel hs [] ⟨rfl, rfl, rfl⟩ rfl sub_nil
    · replace hF := ite_f h2 hF
      refine c_seq ?_
      refine c_region ?_
      refine o_v (v_bin rfl rfl rfl) rfl ?_
      refine o_v (v_assign rfl) rfl ?_
      refine o_seq ?_
      refine c_cond rfl (fun h3 => ?_) (fun h3 => ?_)
      · replace hF := ite_t h3 hF
        refine c_seq ?_
        refine c_region ?_
        refine o_v (v_assign rfl) rfl ?_
        refine o_seq ?_
        refine c_ret ?_
        cases hF
        refine s_ret1 rfl (r_tmp rfl) fun a w hs => ?_
        exact fin_sel hs [] ⟨rfl, rfl, rfl⟩ rfl sub_nil
      · replace hF := ite_f h3 hF
        refine c_seq ?_
        refine c_region ?_
        refine o_v (v_bin rfl rfl rfl) rfl ?_
        refine o_v (v_assign rfl) rfl ?_
        refine o_seq ?_
        refine c_cond rfl (fun h4 => ?_) (fun h4 => ?_)
        · replace hF := ite_t h4 hF
          refine c_seq ?_
          refine c_region ?_
          refine o_v (v_assign rfl) rfl ?_
          refine o_seq ?_
          refine c_ret ?_
          cases hF
          refine s_ret1 rfl (r_tmp rfl) fun a w hs => ?_
          exact fin_sel hs [] ⟨rfl, rfl, rfl⟩ rfl sub_nil
        · replace hF := ite_f h4 hF
          refine c_seq ?_
          refine c_seq ?_
          refine c_region ?_
          refine o_v (v_bin rfl rfl rfl) rfl ?_
          refine o_v (v_assign rfl) rfl ?_
          refine o_seq ?_
          refine c_cut (fun E N' => ∀ (t12 : Bool), F.ref01.special_j1 n t12 = some r → Sat E [(0, .int .i64 n), (2, .int .u8 0), (3, .int .i64 n), (12, .bool t12)] [] [] N') (fun N1 hN1 => ?_) ?_
          · refine c_cond rfl (fun h6 => ?_) (fun h6 => ?_)
            · replace hF := ite_t h6 hF
              refine c_skip ?_
              refine s_st ?_ (hN1 (n == 91) hF)
              exact st_le [] (le_cons rfl (le_cons rfl (le_cons rfl (le_cons rfl le_nil)))) rfl sub_nil
            · replace hF := ite_f h6 hF
              refine c_seq ?_
              refine c_region ?_
              refine o_v (v_bin rfl rfl rfl) rfl ?_
              refine o_v (v_assign rfl) rfl ?_
              refine o_seq ?_
              refine c_cond rfl (fun h7 => ?_) (fun h7 => ?_)
              · replace hF := ite_t h7 hF
                refine c_skip ?_
                refine s_st ?_ (hN1 (n == 93) hF)
                exact st_le [] (le_cons rfl (le_cons rfl (le_cons rfl (le_cons rfl le_nil)))) rfl sub_nil
              · replace hF := ite_f h7 hF
                refine c_seq ?_
                refine c_region ?_
                refine o_v (v_bin rfl rfl rfl) rfl ?_
                refine o_v (v_assign rfl) rfl ?_
                refine o_seq ?_
                refine c_cut (fun E N' => ∀ (t121 : Bool), F.ref01.special_j2 n t121 = some r → Sat E [(0, .int .i64 n), (2, .int .u8 0), (3, .int .i64 n), (12, .bool t121)] [] [] N') (fun N2 hN2 => ?_) ?_
                · refine c_cond rfl (fun h8 => ?_) (fun h8 => ?_)
                  · replace hF := ite_t h8 hF
                    refine c_skip ?_
                    refine s_st ?_ (hN2 (n == 92) hF)
                    exact st_le [] (le_cons rfl (le_cons rfl (le_cons rfl (le_cons rfl le_nil)))) rfl sub_nil
                  · replace hF := ite_f h8 hF
                    refine c_seq ?_
                    refine c_region ?_
                    refine o_v (v_bin rfl rfl rfl) rfl ?_
                    refine o_v (v_assign rfl) rfl ?_
                    refine o_seq ?_
                    refine c_cond rfl (fun h9 => ?_) (fun h9 => ?_)
                    · replace hF := ite_t h9 hF
                      refine c_skip ?_
                      refine s_st ?_ (hN2 (n == 45) hF)
                      exact st_le [] (le_cons rfl (le_cons rfl (le_cons rfl (le_cons rfl le_nil)))) rfl sub_nil
                    · replace hF := ite_f h9 hF
                      refine c_region ?_
                      refine o_v (v_bin rfl rfl rfl) rfl ?_
                      refine o_v (v_assign rfl) rfl ?_
                      refine o_nil ?_
                      refine s_st ?_ (hN2 (n == 94) hF)
                      exact st_le [] (le_cons rfl (le_cons rfl (le_cons rfl (le_cons rfl le_nil)))) rfl sub_nil
                · intro t121 hF
                  unfold F.ref01.special_j2 at hF
                  refine s_st ?_ (hN1 t121 hF)
                  exact st_le [] (le_cons rfl (le_cons rfl (le_cons rfl (le_cons rfl le_nil)))) rfl sub_nil
          · intro t12 hF
            unfold F.ref01.special_j1 at hF
            refine sat_wc ?_
            refine c_cond rfl (fun h5 => ?_) (fun h5 => ?_)
            · replace hF := ite_t h5 hF
              refine c_seq ?_
              refine c_region ?_
              refine o_v (v_move rfl) rfl ?_
              refine o_v (v_convert (v := .int .u8 (IntKind.wrap .u8 n)) rfl (fun _ => by kernel_rfl)) rfl ?_
              refine o_v (v_assign rfl) rfl ?_
              refine o_seq ?_
              refine c_ret ?_
              cases hF
              refine s_ret1 rfl (r_tmp rfl) fun a w hs => ?_
              exact fin_sel hs [] ⟨rfl, rfl, rfl⟩ rfl sub_nil
            · replace hF := ite_f h5 hF
              refine c_skip ?_
              refine sat_wc ?_
              refine c_seq ?_
              refine c_region ?_
              refine o_v (v_assign rfl) rfl ?_
              refine o_seq ?_
              refine c_ret ?_
              cases hF
              refine s_ret1 rfl (r_tmp rfl) fun a w hs => ?_
              exact fin_sel hs [] ⟨rfl, rfl, rfl⟩ rfl sub_nil
theorem tri61 (k : Nat) (text_ : List UInt8) (at__ : Int) (r : Int × Int × Int) (hF : F.ref01.one k text_ at__ = some r) :
    Tri Try.prog 61 [.string (bs text_), .int .i64 at__] [] [] (fun o H Φ => o = .ret (.tuple #[.int .i64 r.1, .int .i64 r.2.1, .int .i64 r.2.2]) ∧ H = [] ∧ Φ = []) := by
  unfold F.ref01.one at hF
  refine tri_intro (n := 90) Try.func61 rfl Try.ntmps61 rfl fun w X => ?_
  refine c_seq ?_
  refine c_region ?_
  refine o_v (v_assign rfl) rfl ?_
  refine o_v (v_assign rfl) rfl ?_
  refine o_v (v_assign rfl) rfl ?_
  refine o_seq ?_
  refine c_seq ?_
  refine c_seq ?_
  refine c_region ?_
  refine o_v (v_move rfl) rfl ?_
  refine o_v (v_move rfl) rfl ?_
  refine o_v (v_len_str Try.underlying9 rfl) rfl ?_
  refine o_v (v_bin rfl rfl rfl) rfl ?_
  refine o_seq ?_
  refine c_cond rfl (fun h1 => ?_) (fun h1 => ?_)
  · replace hF := ite_t h1 hF
    refine c_seq ?_
    refine c_region ?_
    refine o_v (v_assign rfl) rfl ?_
    refine o_v (v_assign rfl) rfl ?_
    refine o_v (v_assign rfl) rfl ?_
    refine o_seq ?_
    refine c_ret ?_
    cases hF
    refine s_ret3 rfl (r_tmp rfl) (r_tmp rfl) (r_tmp rfl) fun a w hs => ?_
    exact fin_sel hs [] ⟨rfl, rfl, rfl⟩ rfl sub_nil
  · replace hF := ite_f h1 hF
    refine c_skip ?_
    refine sat_wc ?_
    refine c_seq ?_
    refine c_region ?_
    refine o_v (v_move rfl) rfl ?_
    refine o_v (v_move rfl) rfl ?_
    refine ite_some hF fun h2 hF => ?_
    refine o_v (v_sindex Try.underlying9 rfl rfl h2) rfl ?_
    refine o_v (v_assign rfl) rfl ?_
    refine o_seq ?_
    refine c_seq ?_
    refine c_seq ?_
    refine c_region ?_
    refine o_v (v_move rfl) rfl ?_
    refine o_v (v_bin rfl rfl rfl) rfl ?_
    refine o_seq ?_
    refine c_cond rfl (fun h3 => ?_) (fun h3 => ?_)
    · replace hF := ite_t h3 hF
      refine c_seq ?_
      refine c_seq ?_
      refine c_region ?_
      refine o_v (v_move rfl) rfl ?_
      refine o_v (v_bin rfl rfl rfl) rfl ?_
      refine o_v (v_move rfl) rfl ?_
      refine o_split (t := 22) rfl (fun h4 => ?_) (fun h4 => ?_)
      · replace hF := ite_t h4 hF
        refine o_off rfl rfl (by decide) rfl ?_
        refine o_off rfl rfl (by decide) rfl ?_
        refine o_v (v_pick_t rfl rfl) rfl ?_
        refine o_v (v_move rfl) rfl ?_
        refine o_off rfl rfl (by decide) rfl ?_
        refine o_off rfl rfl (by decide) rfl ?_
        refine o_off rfl rfl (by decide) rfl ?_
        refine o_off rfl rfl (by decide) rfl ?_
        refine o_v (v_pick_t rfl rfl) rfl ?_
        refine o_seq ?_
        refine c_cond rfl (fun _ => ?_) (fun h => Bool.noConfusion h)
        refine c_seq ?_
        refine c_region ?_
        refine o_v (v_assign rfl) rfl ?_
        refine o_v (v_assign rfl) rfl ?_
        refine o_v (v_assign rfl) rfl ?_
        refine o_seq ?_
        refine c_ret ?_
        cases hF
        refine s_ret3 rfl (r_tmp rfl) (r_tmp rfl) (r_tmp rfl) fun a w hs => ?_
        exact fin_sel hs [] ⟨rfl, rfl, rfl⟩ rfl sub_nil
      · replace hF := ite_f h4 hF
        refine o_on rfl rfl ?_
        refine o_v (v_move rfl) rfl ?_
        refine o_on rfl rfl ?_
        refine o_v (v_bin rfl rfl rfl) rfl ?_
        refine o_v (v_pick_f rfl rfl) rfl ?_
        refine o_v (v_move rfl) rfl ?_
        refine o_split (t := 26) rfl (fun h5 => ?_) (fun h5 => ?_)
        · replace hF := ite_t h5 hF
          refine o_off rfl rfl (by decide) rfl ?_
          refine o_off rfl rfl (by decide) rfl ?_
          refine o_off rfl rfl (by decide) rfl ?_
          refine o_off rfl rfl (by decide) rfl ?_
          refine o_v (v_pick_t rfl rfl) rfl ?_
          refine o_seq ?_
          refine c_cond rfl (fun _ => ?_) (fun h => Bool.noConfusion h)
          refine c_seq ?_
          refine c_region ?_
          refine o_v (v_assign rfl) rfl ?_
          refine o_v (v_assign rfl) rfl ?_
          refine o_v (v_assign rfl) rfl ?_
          refine o_seq ?_
          refine c_ret ?_
          cases hF
          refine s_ret3 rfl (r_tmp rfl) (r_tmp rfl) (r_tmp rfl) fun a w hs => ?_
          exact fin_sel hs [] ⟨rfl, rfl, rfl⟩ rfl sub_nil
        · replace hF := ite_f h5 hF
          refine o_on rfl rfl ?_
          refine o_v (v_move rfl) rfl ?_
          refine o_on rfl rfl ?_
          refine o_v (v_convert (v := .int .i64 (IntKind.wrap .i64 (sAt text_ at__))) rfl (fun _ => by kernel_rfl)) rfl ?_
          refine o_on rfl rfl ?_
          obtain ⟨v, h6, hF⟩ := bd hF
          refine o_callSB call71 rfl lent_nil (tri71 (IntKind.wrap .i64 (sAt text_ at__)) v h6) rfl ?_
          refine o_on rfl rfl ?_
          refine o_v (v_bin rfl rfl rfl) rfl ?_
          refine o_v (v_pick_f rfl rfl) rfl ?_
          refine o_seq ?_
          refine c_cond rfl (fun h7 => ?_) (fun h7 => ?_)
          · replace hF := ite_t h7 hF
            refine c_seq ?_
            refine c_region ?_
            refine o_v (v_assign rfl) rfl ?_
            refine o_v (v_assign rfl) rfl ?_
            refine o_v (v_assign rfl) rfl ?_
            refine o_seq ?_
            refine c_ret ?_
            cases hF
            refine s_ret3 rfl (r_tmp rfl) (r_tmp rfl) (r_tmp rfl) fun a w hs => ?_
            exact fin_sel hs [] ⟨rfl, rfl, rfl⟩ rfl sub_nil
          · replace hF := ite_f h7 hF
            refine c_skip ?_
            refine sat_wc ?_
            refine c_seq ?_
            refine c_region ?_
            refine o_v (v_move rfl) rfl ?_
            refine o_v (v_convert (v := .int .i64 (IntKind.wrap .i64 (sAt text_ at__))) rfl (fun _ => by kernel_rfl)) rfl ?_
            refine o_v (v_assign rfl) rfl ?_
            refine o_v (v_assign rfl) rfl ?_
            refine o_v (v_assign rfl) rfl ?_
            refine o_seq ?_
            refine c_ret ?_
            cases hF
            refine s_ret3 rfl (r_tmp rfl) (r_tmp rfl) (r_tmp rfl) fun a w hs => ?_
            exact fin_sel hs [] ⟨rfl, rfl, rfl⟩ rfl sub_nil
    · replace hF := ite_f h3 hF
      refine c_skip ?_
      refine sat_wc ?_
      refine c_seq ?_
      refine c_seq ?_
      refine c_cut (fun E N' => ∀ (t45 : Bool), F.ref01.one_j1 k at__ text_ t45 = some r → Sat E [(0, .string (bs text_)), (1, .int .i64 at__), (4, .int .i64 0), (5, .int .i64 0), (6, .int .i64 0), (7, .int .u8 (sAt text_ at__)), (45, .bool t45)] [] [] N') (fun N7 hN7 => ?_) ?_
      · refine c_region ?_
        refine o_v (v_move rfl) rfl ?_
        refine o_v (v_bin rfl rfl rfl) rfl ?_
        refine o_v (v_move rfl) rfl ?_
        refine o_v (v_len_str Try.underlying9 rfl) rfl ?_
        refine o_v (v_bin rfl rfl rfl) rfl ?_
        refine o_v (v_move rfl) rfl ?_
        refine o_split (t := 39) rfl (fun h21 => ?_) (fun h21 => ?_)
        · replace hF := ite_t h21 hF
          refine o_on rfl rfl ?_
          refine o_v (v_move rfl) rfl ?_
          refine o_on rfl rfl ?_
          refine o_v (v_move rfl) rfl ?_
          refine o_on rfl rfl ?_
          refine o_v (v_bin rfl rfl rfl) rfl ?_
          refine o_on rfl rfl ?_
          refine ite_some hF fun h22 hF => ?_
          refine o_v (v_sindex Try.underlying9 rfl rfl h22) rfl ?_
          refine o_on rfl rfl ?_
          refine o_v (v_bin rfl rfl rfl) rfl ?_
          refine o_v (v_pick_t rfl rfl) rfl ?_
          refine o_nil ?_
          refine s_st ?_ (hN7 ((sAt text_ (IntKind.wrap .i64 (at__ + 1))) == 120) hF)
          exact st_le [] (le_cons rfl (le_cons rfl (le_cons rfl (le_cons rfl (le_cons rfl (le_cons rfl (le_cons rfl le_nil))))))) rfl sub_nil
        · replace hF := ite_f h21 hF
          refine o_off rfl rfl (by decide) rfl ?_
          refine o_off rfl rfl (by decide) rfl ?_
          refine o_off rfl rfl (by decide) rfl ?_
          refine o_off rfl rfl (by decide) rfl ?_
          refine o_off rfl rfl (by decide) rfl ?_
          refine o_v (v_pick_f rfl rfl) rfl ?_
          refine o_nil ?_
          refine s_st ?_ (hN7 false hF)
          exact st_le [] (le_cons rfl (le_cons rfl (le_cons rfl (le_cons rfl (le_cons rfl (le_cons rfl (le_cons rfl le_nil))))))) rfl sub_nil
      · intro t45 hF
        unfold F.ref01.one_j1 at hF
        refine sat_wc ?_
        refine c_cut (fun E N' => F.ref01.one_j2 k at__ text_ = some r → Sat E [(0, .string (bs text_)), (1, .int .i64 at__), (4, .int .i64 0), (5, .int .i64 0), (6, .int .i64 0), (7, .int .u8 (sAt text_ at__))] [] [] N') (fun N6 hN6 => ?_) ?_
        · refine c_cond rfl (fun h14 => ?_) (fun h14 => ?_)
          · replace hF := ite_t h14 hF
            refine c_seq ?_
            refine c_draw (n := 12) [] mixed rfl rfl ?_
            refine d_val 0 rfl pnok (by kernel_rfl) (by kernel_rfl) (by kernel_rfl) rfl (v_move rfl) ?_
            refine d_val 1 rfl pnok (by kernel_rfl) (by kernel_rfl) (by kernel_rfl) rfl (v_move rfl) ?_
            refine d_val 2 rfl pnok (by kernel_rfl) (by kernel_rfl) (by kernel_rfl) rfl (v_bin rfl rfl rfl) ?_
            refine ite_some hF fun h15 hF => ?_
            refine d_val 3 rfl pnok (by kernel_rfl) (by kernel_rfl) (by kernel_rfl) rfl (v_sindex Try.underlying9 rfl rfl h15) ?_
            refine d_val 5 rfl pnok (by kernel_rfl) (by kernel_rfl) (by kernel_rfl) rfl (v_move rfl) ?_
            refine d_val 6 rfl pnok (by kernel_rfl) (by kernel_rfl) (by kernel_rfl) rfl (v_move rfl) ?_
            refine d_val 7 rfl pnok (by kernel_rfl) (by kernel_rfl) (by kernel_rfl) rfl (v_bin rfl rfl rfl) ?_
            refine ite_some hF fun h16 hF => ?_
            refine d_val 8 rfl pnok (by kernel_rfl) (by kernel_rfl) (by kernel_rfl) rfl (v_sindex Try.underlying9 rfl rfl h16) ?_
            refine d_one 4 rfl (by kernel_rfl) ?_
            obtain ⟨v2, h17, hF⟩ := bd hF
            refine o_callSB call58 rfl lent_nil (tri58 k (sAt text_ (IntKind.wrap .i64 (at__ + 2))) v2 h17) rfl ?_
            refine d_next [] 0 rfl rfl ?_
            refine d_one 9 rfl (by kernel_rfl) ?_
            obtain ⟨v3, h18, hF⟩ := bd hF
            refine o_callSB call58 rfl lent_nil (tri58 k (sAt text_ (IntKind.wrap .i64 (at__ + 3))) v3 h18) rfl ?_
            refine d_next [] 0 rfl rfl ?_
            refine d_val 10 rfl pnok (by kernel_rfl) (by kernel_rfl) (by kernel_rfl) rfl (v_assign rfl) ?_
            refine d_val 11 rfl pnok (by kernel_rfl) (by kernel_rfl) (by kernel_rfl) rfl (v_assign rfl) ?_
            refine d_done_seq (by kernel_rfl) ?_
            refine c_seq ?_
            refine c_cut (fun E N' => ∀ (t61 : Bool), F.ref01.one_j7 k v2 v3 at__ text_ t61 = some r → Sat E [(0, .string (bs text_)), (1, .int .i64 at__), (4, .int .i64 0), (5, .int .i64 0), (6, .int .i64 0), (7, .int .u8 (sAt text_ at__)), (8, .int .i64 v2), (9, .int .i64 v3), (61, .bool t61)] [] [] N') (fun N7 hN7 => ?_) ?_
            · refine c_region ?_
              refine o_v (v_move rfl) rfl ?_
              refine o_v (v_bin rfl rfl rfl) rfl ?_
              refine o_v (v_move rfl) rfl ?_
              refine o_split (t := 58) rfl (fun h20 => ?_) (fun h20 => ?_)
              · replace hF := ite_t h20 hF
                refine o_on rfl rfl ?_
                refine o_v (v_move rfl) rfl ?_
                refine o_on rfl rfl ?_
                refine o_v (v_bin rfl rfl rfl) rfl ?_
                refine o_v (v_pick_t rfl rfl) rfl ?_
                refine o_nil ?_
                refine s_st ?_ (hN7 (decide (v3 < 16)) hF)
                exact st_le [] (le_cons rfl (le_cons rfl (le_cons rfl (le_cons rfl (le_cons rfl (le_cons rfl (le_cons rfl (le_cons rfl (le_cons rfl le_nil))))))))) rfl sub_nil
              · replace hF := ite_f h20 hF
                refine o_off rfl rfl (by decide) rfl ?_
                refine o_off rfl rfl (by decide) rfl ?_
                refine o_v (v_pick_f rfl rfl) rfl ?_
                refine o_nil ?_
                refine s_st ?_ (hN7 false hF)
                exact st_le [] (le_cons rfl (le_cons rfl (le_cons rfl (le_cons rfl (le_cons rfl (le_cons rfl (le_cons rfl (le_cons rfl (le_cons rfl le_nil))))))))) rfl sub_nil
            · intro t61 hF
              unfold F.ref01.one_j7 at hF
              refine sat_wc ?_
              refine c_cond rfl (fun h19 => ?_) (fun h19 => ?_)
              · replace hF := ite_t h19 hF
                refine c_seq ?_
                refine c_region ?_
                refine o_v (v_move rfl) rfl ?_
                refine o_v (v_bin rfl rfl rfl) rfl ?_
                refine o_v (v_move rfl) rfl ?_
                refine o_v (v_bin rfl rfl rfl) rfl ?_
                refine o_v (v_assign rfl) rfl ?_
                refine o_v (v_assign rfl) rfl ?_
                refine o_v (v_assign rfl) rfl ?_
                refine o_seq ?_
                refine c_ret ?_
                cases hF
                refine s_ret3 rfl (r_tmp rfl) (r_tmp rfl) (r_tmp rfl) fun a w hs => ?_
                exact fin_sel hs [] ⟨rfl, rfl, rfl⟩ rfl sub_nil
              · replace hF := ite_f h19 hF
                refine c_skip ?_
                refine s_st ?_ (hN6 hF)
                exact st_le [] (le_cons rfl (le_cons rfl (le_cons rfl (le_cons rfl (le_cons rfl (le_cons rfl le_nil)))))) rfl sub_nil
          · replace hF := ite_f h14 hF
            refine c_skip ?_
            refine s_st ?_ (hN6 hF)
            exact st_le [] (le_cons rfl (le_cons rfl (le_cons rfl (le_cons rfl (le_cons rfl (le_cons rfl le_nil)))))) rfl sub_nil
        · intro hF
          unfold F.ref01.one_j2 at hF
          refine sat_wc ?_
          refine c_seq ?_
          refine c_seq ?_
          refine c_region ?_
          refine o_v (v_assign rfl) rfl ?_
          refine o_seq ?_
          obtain ⟨o3, ho3, hF⟩ := bd hF
          refine c_cut (fun E N' => ∀ (d3 : Unit), o3 = .done d3 → Sat E [(0, .string (bs text_)), (1, .int .i64 at__), (4, .int .i64 0), (5, .int .i64 0), (6, .int .i64 0), (7, .int .u8 (sAt text_ at__))] [] [] N') (fun N3 hN3 => ?_) ?_
          · refine c_block ?_
            refine c_loopE (fun E j a w => ∃ (n : Int), F.ref01.one_l3 at__ text_ j n = some o3 ∧ St E [(0, .string (bs text_)), (1, .int .i64 at__), (4, .int .i64 0), (5, .int .i64 0), (6, .int .i64 0), (7, .int .u8 (sAt text_ at__)), (10, .int .i64 n)] [] [] a w) k ?_ ?_
            · intro a w hs
              exact ⟨0, ho3, st_le [] (le_cons rfl (le_cons rfl (le_cons rfl (le_cons rfl (le_cons rfl (le_cons rfl (le_cons rfl le_nil))))))) rfl sub_nil a w hs⟩
            · rintro j a w ⟨n, hL3, hs⟩
              cases j with
              | zero => cases hL3
              | succ j =>
                refine wc_app hs ?_
                unfold F.ref01.one_l3 at hL3
                refine c_seq ?_
                refine c_seq ?_
                refine c_cut (fun E N' => ∀ (t74 : Bool), F.ref01.one_j4 at__ text_ n (F.ref01.one_l3 at__ text_ j) t74 = some o3 → Sat E [(0, .string (bs text_)), (1, .int .i64 at__), (4, .int .i64 0), (5, .int .i64 0), (6, .int .i64 0), (7, .int .u8 (sAt text_ at__)), (10, .int .i64 n), (74, .bool t74)] [] [] N') (fun N6 hN6 => ?_) ?_
                · refine c_region ?_
                  refine o_v (v_move rfl) rfl ?_
                  refine o_v (v_bin rfl rfl rfl) rfl ?_
                  refine o_v (v_move rfl) rfl ?_
                  refine o_split (t := 68) rfl (fun h13 => ?_) (fun h13 => ?_)
                  · replace hL3 := ite_t h13 hL3
                    refine o_on rfl rfl ?_
                    refine o_v (v_move rfl) rfl ?_
                    refine o_on rfl rfl ?_
                    refine o_v (v_bin rfl rfl rfl) rfl ?_
                    refine o_on rfl rfl ?_
                    refine o_v (v_move rfl) rfl ?_
                    refine o_on rfl rfl ?_
                    refine o_v (v_len_str Try.underlying9 rfl) rfl ?_
                    refine o_on rfl rfl ?_
                    refine o_v (v_bin rfl rfl rfl) rfl ?_
                    refine o_v (v_pick_t rfl rfl) rfl ?_
                    refine o_nil ?_
                    refine s_st ?_ (hN6 (decide ((IntKind.wrap .i64 (at__ + 1)) < (text_.length : Int))) hL3)
                    exact st_le [] (le_cons rfl (le_cons rfl (le_cons rfl (le_cons rfl (le_cons rfl (le_cons rfl (le_cons rfl (le_cons rfl le_nil)))))))) rfl sub_nil
                  · replace hL3 := ite_f h13 hL3
                    refine o_off rfl rfl (by decide) rfl ?_
                    refine o_off rfl rfl (by decide) rfl ?_
                    refine o_off rfl rfl (by decide) rfl ?_
                    refine o_off rfl rfl (by decide) rfl ?_
                    refine o_off rfl rfl (by decide) rfl ?_
                    refine o_v (v_pick_f rfl rfl) rfl ?_
                    refine o_nil ?_
                    refine s_st ?_ (hN6 false hL3)
                    exact st_le [] (le_cons rfl (le_cons rfl (le_cons rfl (le_cons rfl (le_cons rfl (le_cons rfl (le_cons rfl (le_cons rfl le_nil)))))))) rfl sub_nil
                · intro t74 hL3
                  unfold F.ref01.one_j4 at hL3
                  refine sat_wc ?_
                  refine c_cond rfl (fun h8 => ?_) (fun h8 => ?_)
                  · replace hL3 := ite_t h8 hL3
                    refine c_skip ?_
                    refine sat_wc ?_
                    refine c_seq ?_
                    refine c_cut (fun E N' => F.ref01.one_j5 (F.ref01.one_l3 at__ text_ j) n = some o3 → Sat E [(0, .string (bs text_)), (1, .int .i64 at__), (4, .int .i64 0), (5, .int .i64 0), (6, .int .i64 0), (7, .int .u8 (sAt text_ at__)), (10, .int .i64 n)] [] [] N') (fun N5 hN5 => ?_) ?_
                    · refine c_block ?_
                      refine c_seq ?_
                      refine c_cut (fun E N' => ∀ (t88 : Bool), F.ref01.one_j6 n (F.ref01.one_l3 at__ text_ j) t88 = some o3 → Sat E [(0, .string (bs text_)), (1, .int .i64 at__), (4, .int .i64 0), (5, .int .i64 0), (6, .int .i64 0), (7, .int .u8 (sAt text_ at__)), (10, .int .i64 n), (88, .bool t88)] [] [] N') (fun N6 hN6 => ?_) ?_
                      · refine c_draw (n := 12) [] mixed rfl rfl ?_
                        refine d_val 0 rfl pnok (by kernel_rfl) (by kernel_rfl) (by kernel_rfl) rfl (v_move rfl) ?_
                        refine d_val 2 rfl pnok (by kernel_rfl) (by kernel_rfl) (by kernel_rfl) rfl (v_move rfl) ?_
                        refine d_val 3 rfl pnok (by kernel_rfl) (by kernel_rfl) (by kernel_rfl) rfl (v_move rfl) ?_
                        refine d_val 4 rfl pnok (by kernel_rfl) (by kernel_rfl) (by kernel_rfl) rfl (v_bin rfl rfl rfl) ?_
                        refine ite_some hL3 fun h10 hL3 => ?_
                        refine d_val 5 rfl pnok (by kernel_rfl) (by kernel_rfl) (by kernel_rfl) rfl (v_sindex Try.underlying9 rfl rfl h10) ?_
                        refine d_one 1 rfl (by kernel_rfl) ?_
                        obtain ⟨v1, h11, hL3⟩ := bd hL3
                        refine o_callSB call71 rfl lent_nil (tri71 n v1 h11) rfl ?_
                        refine d_next [] 0 rfl rfl ?_
                        refine d_val 6 rfl pnok (by kernel_rfl) (by kernel_rfl) (by kernel_rfl) rfl (v_bin rfl rfl rfl) ?_
                        refine d_val 7 rfl pnok (by kernel_rfl) (by kernel_rfl) (by kernel_rfl) rfl (v_move rfl) ?_
                        refine d_split (t := 84) rfl (fun h12 => ?_) (fun h12 => ?_)
                        · replace hL3 := ite_t h12 hL3
                          refine d_val_on 8 rfl rfl rfl pnok (by kernel_rfl) (by kernel_rfl) (by kernel_rfl) rfl (v_move rfl) ?_
                          refine d_one 9 rfl (by kernel_rfl) ?_
                          refine o_on rfl rfl ?_
                          refine o_callSB call71 rfl lent_nil (tri71 n v1 h11) rfl ?_
                          refine d_next [] 0 rfl rfl ?_
                          refine d_val_on 10 rfl rfl rfl pnok (by kernel_rfl) (by kernel_rfl) (by kernel_rfl) rfl (v_bin rfl rfl rfl) ?_
                          refine d_val 11 rfl pnok (by kernel_rfl) (by kernel_rfl) (by kernel_rfl) rfl (v_pick_t rfl rfl) ?_
                          refine d_done (by kernel_rfl) ?_
                          refine s_st ?_ (hN6 (v1 != 0) hL3)
                          exact st_le [] (le_cons rfl (le_cons rfl (le_cons rfl (le_cons rfl (le_cons rfl (le_cons rfl (le_cons rfl (le_cons rfl le_nil)))))))) rfl sub_nil
                        · replace hL3 := ite_f h12 hL3
                          refine d_off 8 rfl rfl rfl (by decide) pnok (by kernel_rfl) (by kernel_rfl) (by kernel_rfl) rfl ?_
                          refine d_off 9 rfl rfl rfl (by decide) pnok (by kernel_rfl) (by kernel_rfl) (by kernel_rfl) rfl ?_
                          refine d_off 10 rfl rfl rfl (by decide) pnok (by kernel_rfl) (by kernel_rfl) (by kernel_rfl) rfl ?_
                          refine d_val 11 rfl pnok (by kernel_rfl) (by kernel_rfl) (by kernel_rfl) rfl (v_pick_f rfl rfl) ?_
                          refine d_done (by kernel_rfl) ?_
                          refine s_st ?_ (hN6 false hL3)
                          exact st_le [] (le_cons rfl (le_cons rfl (le_cons rfl (le_cons rfl (le_cons rfl (le_cons rfl (le_cons rfl (le_cons rfl le_nil)))))))) rfl sub_nil
                      · intro t88 hL3
                        unfold F.ref01.one_j6 at hL3
                        refine sat_wc ?_
                        refine c_cond rfl (fun h9 => ?_) (fun h9 => ?_)
                        · replace hL3 := ite_t h9 hL3
                          refine c_seq ?_
                          refine c_region ?_
                          refine o_v (v_move rfl) rfl ?_
                          refine o_v (v_assign rfl) rfl ?_
                          refine o_v (v_assign rfl) rfl ?_
                          refine o_v (v_assign rfl) rfl ?_
                          refine o_seq ?_
                          refine c_ret ?_
                          cases hL3
                          obtain rfl := lrf_ret hF
                          refine s_ret3 rfl (r_tmp rfl) (r_tmp rfl) (r_tmp rfl) fun a w hs => ?_
                          exact fin_sel hs [] ⟨rfl, rfl, rfl⟩ rfl sub_nil
                        · replace hL3 := ite_f h9 hL3
                          refine c_skip ?_
                          refine s_st ?_ (hN5 hL3)
                          exact st_le [] (le_cons rfl (le_cons rfl (le_cons rfl (le_cons rfl (le_cons rfl (le_cons rfl (le_cons rfl le_nil))))))) rfl sub_nil
                    · intro hL3
                      unfold F.ref01.one_j5 at hL3
                      refine sat_wc ?_
                      refine c_region ?_
                      refine o_v (v_move rfl) rfl ?_
                      refine o_v (v_bin rfl rfl rfl) rfl ?_
                      refine o_v (v_assign rfl) rfl ?_
                      refine o_nil ?_
                      intro a w hs
                      exact ⟨j, Nat.lt_succ_self j, IntKind.wrap .i64 (n + 1), hL3, st_le [] (le_cons rfl (le_cons rfl (le_cons rfl (le_cons rfl (le_cons rfl (le_cons rfl (le_cons rfl le_nil))))))) rfl sub_nil a w hs⟩
                  · replace hL3 := ite_f h8 hL3
                    refine c_exit0 ?_
                    cases hL3
                    refine s_st ?_ (hN3 () rfl)
                    exact st_le [] (le_cons rfl (le_cons rfl (le_cons rfl (le_cons rfl (le_cons rfl (le_cons rfl le_nil)))))) rfl sub_nil
          · intro d3 hd
            subst hd
            replace hF := lrf_done hF
            refine sat_wc ?_
            refine c_seq ?_
            refine c_region ?_
            refine o_v (v_assign rfl) rfl ?_
            refine o_v (v_assign rfl) rfl ?_
            refine o_v (v_assign rfl) rfl ?_
            refine o_seq ?_
            refine c_ret ?_
            cases hF
            refine s_ret3 rfl (r_tmp rfl) (r_tmp rfl) (r_tmp rfl) fun a w hs => ?_
            exact fin_sel hs [] ⟨rfl, rfl, rfl⟩ rfl sub_nil
theorem tri72 (k : Nat) (s : S4) (n : Int) (r : Bool) (hF : F.ref01.Has k s n = some r) :
    Tri Try.prog 72 [.agg #[.int .u64 s.w0, .int .u64 s.w1, .int .u64 s.w2, .int .u64 s.w3], .int .i64 n] [] [] (fun o H Φ => o = .ret (.bool r) ∧ H = [] ∧ Φ = []) := by
  unfold F.ref01.Has at hF
  refine tri_intro (n := 40) Try.func72 rfl Try.ntmps72 rfl fun w X => ?_
  refine c_seq ?_
  refine c_region ?_
  refine o_box rfl rfl rfl fun b => ?_
  refine o_v (v_assign rfl) rfl ?_
  refine o_seq ?_
  refine c_seq ?_
  refine c_seq ?_
  refine c_region ?_
  refine o_v (v_move rfl) rfl ?_
  refine o_v (v_bin rfl rfl rfl) rfl ?_
  refine o_v (v_move rfl) rfl ?_
  refine o_split (t := 9) rfl (fun h1 => ?_) (fun h1 => ?_)
  · replace hF := ite_t h1 hF
    refine o_off rfl rfl (by decide) rfl ?_
    refine o_off rfl rfl (by decide) rfl ?_
    refine o_v (v_pick_t rfl rfl) rfl ?_
    refine o_seq ?_
    refine c_cond rfl (fun _ => ?_) (fun h => Bool.noConfusion h)
    refine c_seq ?_
    refine c_region ?_
    refine o_v (v_assign rfl) rfl ?_
    refine o_seq ?_
    refine c_ret ?_
    cases hF
    refine s_ret1 rfl (r_tmp rfl) fun a w hs => ?_
    exact fin_sel hs [] ⟨rfl, rfl, rfl⟩ rfl sub_nil
  · replace hF := ite_f h1 hF
    refine o_on rfl rfl ?_
    refine o_v (v_move rfl) rfl ?_
    refine o_on rfl rfl ?_
    refine o_v (v_bin rfl rfl rfl) rfl ?_
    refine o_v (v_pick_f rfl rfl) rfl ?_
    refine o_seq ?_
    refine c_cond rfl (fun h2 => ?_) (fun h2 => ?_)
    · replace hF := ite_t h2 hF
      refine c_seq ?_
      refine c_region ?_
      refine o_v (v_assign rfl) rfl ?_
      refine o_seq ?_
      refine c_ret ?_
      cases hF
      refine s_ret1 rfl (r_tmp rfl) fun a w hs => ?_
      exact fin_sel hs [] ⟨rfl, rfl, rfl⟩ rfl sub_nil
    · replace hF := ite_f h2 hF
      refine c_skip ?_
      refine sat_wc ?_
      refine c_seq ?_
      refine c_region ?_
      refine o_v (v_indexAddr_a ar33 rfl rfl rfl) rfl ?_
      refine o_v (v_load_box 0 ty31 rfl rfl rfl rfl rfl) rfl ?_
      refine o_v (v_assign rfl) rfl ?_
      refine o_seq ?_
      refine c_seq ?_
      refine c_seq ?_
      refine c_region ?_
      refine o_v (v_move rfl) rfl ?_
      refine o_v (v_quo rfl rfl rfl) rfl ?_
      refine o_seq ?_
      refine c_cut (fun E N' => ∀ (w_ : Int), F.ref01.Has_j1 k n w_ = some r → Sat E [(0, .agg #[.int .u64 s.w0, .int .u64 s.w1, .int .u64 s.w2, .int .u64 s.w3]), (1, .int .i64 n), (2, .pointer (some ⟨b, 0, none⟩)), (4, .bool false), (5, .int .u64 w_)] [.box b 33 [.int .u64 s.w0, .int .u64 s.w1, .int .u64 s.w2, .int .u64 s.w3]] [] N') (fun N2 hN2 => ?_) ?_
      · refine c_block ?_
        refine c_seq ?_
        refine c_region ?_
        refine o_v (v_bin rfl rfl rfl) rfl ?_
        refine o_v (v_assign rfl) rfl ?_
        refine o_seq ?_
        refine c_cond rfl (fun h4 => ?_) (fun h4 => ?_)
        · replace hF := ite_t h4 hF
          refine c_region ?_
          refine o_v (v_indexAddr_a ar33 rfl rfl rfl) rfl ?_
          refine o_v (v_load_box 0 ty31 rfl rfl rfl rfl rfl) rfl ?_
          refine o_v (v_assign rfl) rfl ?_
          refine o_nil ?_
          refine s_st ?_ (hN2 s.w1 hF)
          exact st_le [0] (le_cons rfl (le_cons rfl (le_cons rfl (le_cons rfl (le_cons rfl le_nil))))) rfl sub_nil
        · replace hF := ite_f h4 hF
          refine c_seq ?_
          refine c_region ?_
          refine o_v (v_bin rfl rfl rfl) rfl ?_
          refine o_v (v_assign rfl) rfl ?_
          refine o_seq ?_
          refine c_cut (fun E N' => ∀ (w_2 : Int), F.ref01.Has_j3 k n w_2 = some r → Sat E [(0, .agg #[.int .u64 s.w0, .int .u64 s.w1, .int .u64 s.w2, .int .u64 s.w3]), (1, .int .i64 n), (2, .pointer (some ⟨b, 0, none⟩)), (4, .bool false), (5, .int .u64 w_2), (16, .int .i64 (gquo .i64 n 64))] [.box b 33 [.int .u64 s.w0, .int .u64 s.w1, .int .u64 s.w2, .int .u64 s.w3]] [] N') (fun N3 hN3 => ?_) ?_
          · refine c_cond rfl (fun h5 => ?_) (fun h5 => ?_)
            · replace hF := ite_t h5 hF
              refine c_region ?_
              refine o_v (v_indexAddr_a ar33 rfl rfl rfl) rfl ?_
              refine o_v (v_load_box 0 ty31 rfl rfl rfl rfl rfl) rfl ?_
              refine o_v (v_assign rfl) rfl ?_
              refine o_nil ?_
              refine s_st ?_ (hN3 s.w2 hF)
              exact st_le [0] (le_cons rfl (le_cons rfl (le_cons rfl (le_cons rfl (le_cons rfl (le_cons rfl le_nil)))))) rfl sub_nil
            · replace hF := ite_f h5 hF
              refine c_seq ?_
              refine c_region ?_
              refine o_v (v_bin rfl rfl rfl) rfl ?_
              refine o_v (v_assign rfl) rfl ?_
              refine o_seq ?_
              refine c_cond rfl (fun h6 => ?_) (fun h6 => ?_)
              · replace hF := ite_t h6 hF
                refine c_region ?_
                refine o_v (v_indexAddr_a ar33 rfl rfl rfl) rfl ?_
                refine o_v (v_load_box 0 ty31 rfl rfl rfl rfl rfl) rfl ?_
                refine o_v (v_assign rfl) rfl ?_
                refine o_nil ?_
                refine s_st ?_ (hN3 s.w3 hF)
                exact st_le [0] (le_cons rfl (le_cons rfl (le_cons rfl (le_cons rfl (le_cons rfl (le_cons rfl le_nil)))))) rfl sub_nil
              · replace hF := ite_f h6 hF
                refine c_skip ?_
                refine s_st ?_ (hN3 s.w0 hF)
                exact st_le [0] (le_cons rfl (le_cons rfl (le_cons rfl (le_cons rfl (le_cons rfl (le_cons rfl le_nil)))))) rfl sub_nil
          · intro w_2 hF
            unfold F.ref01.Has_j3 at hF
            refine s_st ?_ (hN2 w_2 hF)
            exact st_le [0] (le_cons rfl (le_cons rfl (le_cons rfl (le_cons rfl (le_cons rfl le_nil))))) rfl sub_nil
      · intro w_ hF
        unfold F.ref01.Has_j1 at hF
        refine sat_wc ?_
        refine c_seq ?_
        refine c_seq ?_
        refine c_region ?_
        refine o_v (v_assign rfl) rfl ?_
        refine o_seq ?_
        obtain ⟨o2, ho2, hF⟩ := bd hF
        refine c_cut (fun E N' => Sat E [(0, .agg #[.int .u64 s.w0, .int .u64 s.w1, .int .u64 s.w2, .int .u64 s.w3]), (1, .int .i64 n), (2, .pointer (some ⟨b, 0, none⟩)), (4, .bool false), (5, .int .u64 o2)] [.box b 33 [.int .u64 s.w0, .int .u64 s.w1, .int .u64 s.w2, .int .u64 s.w3]] [] N') (fun N2 hN2 => ?_) ?_
        · refine c_block ?_
          refine c_loopE (fun E j a w => ∃ (w_1 : Int) (i : Int), F.ref01.Has_l2 n j w_1 i = some o2 ∧ St E [(0, .agg #[.int .u64 s.w0, .int .u64 s.w1, .int .u64 s.w2, .int .u64 s.w3]), (1, .int .i64 n), (2, .pointer (some ⟨b, 0, none⟩)), (4, .bool false), (5, .int .u64 w_1), (6, .int .i64 i)] [.box b 33 [.int .u64 s.w0, .int .u64 s.w1, .int .u64 s.w2, .int .u64 s.w3]] [] a w) k ?_ ?_
          · intro a w hs
            exact ⟨w_, 0, ho2, st_le [0] (le_cons rfl (le_cons rfl (le_cons rfl (le_cons rfl (le_cons rfl (le_cons rfl le_nil)))))) rfl sub_nil a w hs⟩
          · rintro j a w ⟨w_1, i, hL2, hs⟩
            cases j with
            | zero => cases hL2
            | succ j =>
              refine wc_app hs ?_
              unfold F.ref01.Has_l2 at hL2
              refine c_seq ?_
              refine c_seq ?_
              refine c_region ?_
              refine o_v (v_move rfl) rfl ?_
              refine o_v (v_move rfl) rfl ?_
              refine o_v (v_rem rfl rfl rfl) rfl ?_
              refine o_v (v_bin rfl rfl rfl) rfl ?_
              refine o_seq ?_
              refine c_cond rfl (fun h3 => ?_) (fun h3 => ?_)
              · replace hL2 := ite_t h3 hL2
                refine c_skip ?_
                refine sat_wc ?_
                refine c_seq ?_
                refine c_block ?_
                refine c_region ?_
                refine o_v (v_move rfl) rfl ?_
                refine o_v (v_quo rfl rfl rfl) rfl ?_
                refine o_v (v_assign rfl) rfl ?_
                refine o_nil ?_
                refine sat_wc ?_
                refine c_region ?_
                refine o_v (v_move rfl) rfl ?_
                refine o_v (v_bin rfl rfl rfl) rfl ?_
                refine o_v (v_assign rfl) rfl ?_
                refine o_nil ?_
                intro a w hs
                exact ⟨j, Nat.lt_succ_self j, gquo .u64 w_1 2, IntKind.wrap .i64 (i + 1), hL2, st_le [0] (le_cons rfl (le_cons rfl (le_cons rfl (le_cons rfl (le_cons rfl (le_cons rfl le_nil)))))) rfl sub_nil a w hs⟩
              · replace hL2 := ite_f h3 hL2
                refine c_exit0 ?_
                cases hL2
                refine s_st ?_ (hN2)
                exact st_le [0] (le_cons rfl (le_cons rfl (le_cons rfl (le_cons rfl (le_cons rfl le_nil))))) rfl sub_nil
        · refine sat_wc ?_
          refine c_seq ?_
          refine c_region ?_
          refine o_v (v_move rfl) rfl ?_
          refine o_v (v_rem rfl rfl rfl) rfl ?_
          refine o_v (v_bin rfl rfl rfl) rfl ?_
          refine o_v (v_assign rfl) rfl ?_
          refine o_seq ?_
          refine c_ret ?_
          cases hF
          refine s_ret1 rfl (r_tmp rfl) fun a w hs => ?_
          exact fin_sel hs [] ⟨rfl, rfl, rfl⟩ rfl sub_nil
theorem tri62 (k : Nat) (s : S4) (n : Int) (r : S4) (hF : F.ref01.With k s n = some r) :
    Tri Try.prog 62 [.agg #[.int .u64 s.w0, .int .u64 s.w1, .int .u64 s.w2, .int .u64 s.w3], .int .i64 n] [] [] (fun o H Φ => o = .ret (.agg #[.int .u64 r.w0, .int .u64 r.w1, .int .u64 r.w2, .int .u64 r.w3]) ∧ H = [] ∧ Φ = []) := by
  unfold F.ref01.With at hF
  refine tri_intro (n := 56) Try.func62 rfl Try.ntmps62 rfl fun w X => ?_
  refine c_seq ?_
  refine c_region ?_
  refine o_box rfl rfl rfl fun b => ?_
  refine o_alloc zero33 rfl rfl fun b1 => ?_
  refine o_seq ?_
  refine c_seq ?_
  refine c_seq ?_
  refine c_region ?_
  refine o_v (v_move rfl) rfl ?_
  refine o_v (v_bin rfl rfl rfl) rfl ?_
  refine o_v (v_move rfl) rfl ?_
  refine o_split (t := 9) rfl (fun h1 => ?_) (fun h1 => ?_)
  · replace hF := ite_t h1 hF
    refine o_off rfl rfl (by decide) rfl ?_
    refine o_off rfl rfl (by decide) rfl ?_
    refine o_v (v_pick_t rfl rfl) rfl ?_
    refine o_v (v_move rfl) rfl ?_
    refine o_off rfl rfl (by decide) rfl ?_
    refine o_off rfl rfl (by decide) rfl ?_
    refine o_off rfl rfl (by decide) rfl ?_
    refine o_v (v_pick_t rfl rfl) rfl ?_
    refine o_seq ?_
    refine c_cond rfl (fun _ => ?_) (fun h => Bool.noConfusion h)
    refine c_seq ?_
    refine c_region ?_
    refine o_v (v_load_box 1 ty33 rfl rfl rfl rfl rfl) rfl ?_
    refine o_store_box 0 rfl ty33 rfl rfl rfl rfl rfl rfl rfl ?_
    refine o_seq ?_
    refine c_ret ?_
    cases hF
    refine s_ret1 rfl (r_cell 0 rfl ty33 rfl rfl rfl rfl) fun a w hs => ?_
    exact fin_sel hs [] ⟨rfl, rfl, rfl⟩ rfl sub_nil
  · replace hF := ite_f h1 hF
    refine o_on rfl rfl ?_
    refine o_v (v_move rfl) rfl ?_
    refine o_on rfl rfl ?_
    refine o_v (v_bin rfl rfl rfl) rfl ?_
    refine o_v (v_pick_f rfl rfl) rfl ?_
    refine o_v (v_move rfl) rfl ?_
    refine o_split (t := 13) rfl (fun h2 => ?_) (fun h2 => ?_)
    · replace hF := ite_t h2 hF
      refine o_off rfl rfl (by decide) rfl ?_
      refine o_off rfl rfl (by decide) rfl ?_
      refine o_off rfl rfl (by decide) rfl ?_
      refine o_v (v_pick_t rfl rfl) rfl ?_
      refine o_seq ?_
      refine c_cond rfl (fun _ => ?_) (fun h => Bool.noConfusion h)
      refine c_seq ?_
      refine c_region ?_
      refine o_v (v_load_box 1 ty33 rfl rfl rfl rfl rfl) rfl ?_
      refine o_store_box 0 rfl ty33 rfl rfl rfl rfl rfl rfl rfl ?_
      refine o_seq ?_
      refine c_ret ?_
      cases hF
      refine s_ret1 rfl (r_cell 0 rfl ty33 rfl rfl rfl rfl) fun a w hs => ?_
      exact fin_sel hs [] ⟨rfl, rfl, rfl⟩ rfl sub_nil
    · replace hF := ite_f h2 hF
      refine o_on rfl rfl ?_
      refine o_v (v_load_box 1 ty33 rfl rfl rfl rfl rfl) rfl ?_
      refine o_on rfl rfl ?_
      refine o_v (v_move rfl) rfl ?_
      refine o_on rfl rfl ?_
      obtain ⟨v, h3, hF⟩ := bd hF
      refine o_callSB call72 rfl lent_nil (tri72 k s n v h3) rfl ?_
      refine o_v (v_pick_f rfl rfl) rfl ?_
      refine o_seq ?_
      refine c_cond rfl (fun h4 => ?_) (fun h4 => ?_)
      · replace hF := ite_t h4 hF
        refine c_seq ?_
        refine c_region ?_
        refine o_v (v_load_box 1 ty33 rfl rfl rfl rfl rfl) rfl ?_
        refine o_store_box 0 rfl ty33 rfl rfl rfl rfl rfl rfl rfl ?_
        refine o_seq ?_
        refine c_ret ?_
        cases hF
        refine s_ret1 rfl (r_cell 0 rfl ty33 rfl rfl rfl rfl) fun a w hs => ?_
        exact fin_sel hs [] ⟨rfl, rfl, rfl⟩ rfl sub_nil
      · replace hF := ite_f h4 hF
        refine c_skip ?_
        refine sat_wc ?_
        refine c_seq ?_
        refine c_region ?_
        refine o_v (v_assign rfl) rfl ?_
        refine o_seq ?_
        refine c_seq ?_
        refine c_seq ?_
        refine c_region ?_
        refine o_v (v_assign rfl) rfl ?_
        refine o_seq ?_
        obtain ⟨o1, ho1, hF⟩ := bd hF
        refine c_cut (fun E N' => Sat E [(0, .agg #[.int .u64 s.w0, .int .u64 s.w1, .int .u64 s.w2, .int .u64 s.w3]), (1, .int .i64 n), (2, .pointer (some ⟨b, 0, none⟩)), (4, .pointer (some ⟨b1, 0, none⟩)), (5, .int .u64 o1)] [.box b1 33 [.int .u64 0, .int .u64 0, .int .u64 0, .int .u64 0], .box b 33 [.int .u64 s.w0, .int .u64 s.w1, .int .u64 s.w2, .int .u64 s.w3]] [] N') (fun N1 hN1 => ?_) ?_
        · refine c_block ?_
          refine c_loopE (fun E j a w => ∃ (one : Int) (i : Int), F.ref01.With_l1 n j one i = some o1 ∧ St E [(0, .agg #[.int .u64 s.w0, .int .u64 s.w1, .int .u64 s.w2, .int .u64 s.w3]), (1, .int .i64 n), (2, .pointer (some ⟨b, 0, none⟩)), (4, .pointer (some ⟨b1, 0, none⟩)), (5, .int .u64 one), (6, .int .i64 i)] [.box b1 33 [.int .u64 0, .int .u64 0, .int .u64 0, .int .u64 0], .box b 33 [.int .u64 s.w0, .int .u64 s.w1, .int .u64 s.w2, .int .u64 s.w3]] [] a w) k ?_ ?_
          · intro a w hs
            exact ⟨1, 0, ho1, st_le [0, 0] (le_cons rfl (le_cons rfl (le_cons rfl (le_cons rfl (le_cons rfl (le_cons rfl le_nil)))))) rfl sub_nil a w hs⟩
          · rintro j a w ⟨one, i, hL1, hs⟩
            cases j with
            | zero => cases hL1
            | succ j =>
              refine wc_app hs ?_
              unfold F.ref01.With_l1 at hL1
              refine c_seq ?_
              refine c_seq ?_
              refine c_region ?_
              refine o_v (v_move rfl) rfl ?_
              refine o_v (v_move rfl) rfl ?_
              refine o_v (v_rem rfl rfl rfl) rfl ?_
              refine o_v (v_bin rfl rfl rfl) rfl ?_
              refine o_seq ?_
              refine c_cond rfl (fun h5 => ?_) (fun h5 => ?_)
              · replace hL1 := ite_t h5 hL1
                refine c_skip ?_
                refine sat_wc ?_
                refine c_seq ?_
                refine c_block ?_
                refine c_region ?_
                refine o_v (v_move rfl) rfl ?_
                refine o_v (v_bin rfl rfl rfl) rfl ?_
                refine o_v (v_assign rfl) rfl ?_
                refine o_nil ?_
                refine sat_wc ?_
                refine c_region ?_
                refine o_v (v_move rfl) rfl ?_
                refine o_v (v_bin rfl rfl rfl) rfl ?_
                refine o_v (v_assign rfl) rfl ?_
                refine o_nil ?_
                intro a w hs
                exact ⟨j, Nat.lt_succ_self j, IntKind.wrap .u64 (one * 2), IntKind.wrap .i64 (i + 1), hL1, st_le [0, 0] (le_cons rfl (le_cons rfl (le_cons rfl (le_cons rfl (le_cons rfl (le_cons rfl le_nil)))))) rfl sub_nil a w hs⟩
              · replace hL1 := ite_f h5 hL1
                refine c_exit0 ?_
                cases hL1
                refine s_st ?_ (hN1)
                exact st_le [0, 0] (le_cons rfl (le_cons rfl (le_cons rfl (le_cons rfl (le_cons rfl le_nil))))) rfl sub_nil
        · refine sat_wc ?_
          refine c_seq ?_
          refine c_seq ?_
          refine c_region ?_
          refine o_v (v_move rfl) rfl ?_
          refine o_v (v_quo rfl rfl rfl) rfl ?_
          refine o_seq ?_
          refine c_cut (fun E N' => ∀ (s1 : S4), F.ref01.With_j2 s1 = some r → Sat E [(0, .agg #[.int .u64 s.w0, .int .u64 s.w1, .int .u64 s.w2, .int .u64 s.w3]), (1, .int .i64 n), (2, .pointer (some ⟨b, 0, none⟩)), (4, .pointer (some ⟨b1, 0, none⟩)), (5, .int .u64 o1)] [.box b1 33 [.int .u64 0, .int .u64 0, .int .u64 0, .int .u64 0], .box b 33 [.int .u64 s1.w0, .int .u64 s1.w1, .int .u64 s1.w2, .int .u64 s1.w3]] [] N') (fun N2 hN2 => ?_) ?_
          · refine c_block ?_
            refine c_seq ?_
            refine c_region ?_
            refine o_v (v_bin rfl rfl rfl) rfl ?_
            refine o_v (v_assign rfl) rfl ?_
            refine o_seq ?_
            refine c_cond rfl (fun h6 => ?_) (fun h6 => ?_)
            · replace hF := ite_t h6 hF
              refine c_region ?_
              refine o_v (v_indexAddr_a ar33 rfl rfl rfl) rfl ?_
              refine o_v (v_load_box 1 ty31 rfl rfl rfl rfl rfl) rfl ?_
              refine o_v (v_move rfl) rfl ?_
              refine o_v (v_bin rfl rfl rfl) rfl ?_
              refine o_v (v_indexAddr_a ar33 rfl rfl rfl) rfl ?_
              refine o_store_box 1 rfl ty31 rfl rfl rfl rfl rfl rfl rfl ?_
              refine o_nil ?_
              refine s_st ?_ (hN2 (S4.mk (IntKind.wrap .u64 (s.w0 + o1)) s.w1 s.w2 s.w3) hF)
              exact st_le [0, 0] (le_cons rfl (le_cons rfl (le_cons rfl (le_cons rfl (le_cons rfl le_nil))))) rfl sub_nil
            · replace hF := ite_f h6 hF
              refine c_seq ?_
              refine c_region ?_
              refine o_v (v_bin rfl rfl rfl) rfl ?_
              refine o_v (v_assign rfl) rfl ?_
              refine o_seq ?_
              refine c_cut (fun E N' => ∀ (s2 : S4), F.ref01.With_j3 s2 = some r → Sat E [(0, .agg #[.int .u64 s.w0, .int .u64 s.w1, .int .u64 s.w2, .int .u64 s.w3]), (1, .int .i64 n), (2, .pointer (some ⟨b, 0, none⟩)), (4, .pointer (some ⟨b1, 0, none⟩)), (5, .int .u64 o1), (28, .int .i64 (gquo .i64 n 64))] [.box b1 33 [.int .u64 0, .int .u64 0, .int .u64 0, .int .u64 0], .box b 33 [.int .u64 s2.w0, .int .u64 s2.w1, .int .u64 s2.w2, .int .u64 s2.w3]] [] N') (fun N3 hN3 => ?_) ?_
              · refine c_cond rfl (fun h7 => ?_) (fun h7 => ?_)
                · replace hF := ite_t h7 hF
                  refine c_region ?_
                  refine o_v (v_indexAddr_a ar33 rfl rfl rfl) rfl ?_
                  refine o_v (v_load_box 1 ty31 rfl rfl rfl rfl rfl) rfl ?_
                  refine o_v (v_move rfl) rfl ?_
                  refine o_v (v_bin rfl rfl rfl) rfl ?_
                  refine o_v (v_indexAddr_a ar33 rfl rfl rfl) rfl ?_
                  refine o_store_box 1 rfl ty31 rfl rfl rfl rfl rfl rfl rfl ?_
                  refine o_nil ?_
                  refine s_st ?_ (hN3 (S4.mk s.w0 (IntKind.wrap .u64 (s.w1 + o1)) s.w2 s.w3) hF)
                  exact st_le [0, 0] (le_cons rfl (le_cons rfl (le_cons rfl (le_cons rfl (le_cons rfl (le_cons rfl le_nil)))))) rfl sub_nil
                · replace hF := ite_f h7 hF
                  refine c_seq ?_
                  refine c_region ?_
                  refine o_v (v_bin rfl rfl rfl) rfl ?_
                  refine o_v (v_assign rfl) rfl ?_
                  refine o_seq ?_
                  refine c_cond rfl (fun h8 => ?_) (fun h8 => ?_)
                  · replace hF := ite_t h8 hF
                    refine c_region ?_
                    refine o_v (v_indexAddr_a ar33 rfl rfl rfl) rfl ?_
                    refine o_v (v_load_box 1 ty31 rfl rfl rfl rfl rfl) rfl ?_
                    refine o_v (v_move rfl) rfl ?_
                    refine o_v (v_bin rfl rfl rfl) rfl ?_
                    refine o_v (v_indexAddr_a ar33 rfl rfl rfl) rfl ?_
                    refine o_store_box 1 rfl ty31 rfl rfl rfl rfl rfl rfl rfl ?_
                    refine o_nil ?_
                    refine s_st ?_ (hN3 (S4.mk s.w0 s.w1 (IntKind.wrap .u64 (s.w2 + o1)) s.w3) hF)
                    exact st_le [0, 0] (le_cons rfl (le_cons rfl (le_cons rfl (le_cons rfl (le_cons rfl (le_cons rfl le_nil)))))) rfl sub_nil
                  · replace hF := ite_f h8 hF
                    refine c_region ?_
                    refine o_v (v_indexAddr_a ar33 rfl rfl rfl) rfl ?_
                    refine o_v (v_load_box 1 ty31 rfl rfl rfl rfl rfl) rfl ?_
                    refine o_v (v_move rfl) rfl ?_
                    refine o_v (v_bin rfl rfl rfl) rfl ?_
                    refine o_v (v_indexAddr_a ar33 rfl rfl rfl) rfl ?_
                    refine o_store_box 1 rfl ty31 rfl rfl rfl rfl rfl rfl rfl ?_
                    refine o_nil ?_
                    refine s_st ?_ (hN3 (S4.mk s.w0 s.w1 s.w2 (IntKind.wrap .u64 (s.w3 + o1))) hF)
                    exact st_le [0, 0] (le_cons rfl (le_cons rfl (le_cons rfl (le_cons rfl (le_cons rfl (le_cons rfl le_nil)))))) rfl sub_nil
              · intro s2 hF
                unfold F.ref01.With_j3 at hF
                refine s_st ?_ (hN2 s2 hF)
                exact st_le [0, 0] (le_cons rfl (le_cons rfl (le_cons rfl (le_cons rfl (le_cons rfl le_nil))))) rfl sub_nil
          · intro s1 hF
            unfold F.ref01.With_j2 at hF
            refine sat_wc ?_
            refine c_seq ?_
            refine c_region ?_
            refine o_v (v_load_box 1 ty33 rfl rfl rfl rfl rfl) rfl ?_
            refine o_store_box 0 rfl ty33 rfl rfl rfl rfl rfl rfl rfl ?_
            refine o_seq ?_
            refine c_ret ?_
            cases hF
            refine s_ret1 rfl (r_cell 0 rfl ty33 rfl rfl rfl rfl) fun a w hs => ?_
            exact fin_sel hs [] ⟨rfl, rfl, rfl⟩ rfl sub_nil
end Go.Vc
