import Derived.Test.YtncbbbjakbaojaaDoorW1
set_option linter.unusedVariables false
set_option linter.unusedSimpArgs false
set_option maxRecDepth 8000
set_option maxHeartbeats 2000000
namespace Go.Vc
open Go Go.Proofs
theorem tri21 (k : Nat) (t : Tree) (sa1 : Option Addr) (sn1 sc1 : Nat) (r : List UInt8 × Int) (hF : F.ref09.Print k t = some r) :
    Tri Tryd.prog 21 [.agg #[.int .i64 t.Rule, .int .u8 t.Byte, .slice sa1 sn1 sc1]] [] [(.slice sa1 sn1 sc1, .slice 3 (t.Kids.map eTree))] (fun o H Φ => o = .ret (.tuple #[.string (bs r.1), .int .i64 r.2]) ∧ H = [] ∧ Φ = []) := by
  unfold F.ref09.Print at hF
  refine tri_intro (n := 25) Tryd.func21 rfl Tryd.ntmps21 rfl fun w X => ?_
  refine c_seq ?_
  refine c_region ?_
  refine o_box rfl rfl rfl fun b => ?_
  refine o_v (v_assign rfl) rfl ?_
  refine o_v (v_assign rfl) rfl ?_
  refine o_seq ?_
  refine c_seq ?_
  refine c_region ?_
  refine o_v (v_load_box 0 ty27 rfl rfl rfl rfl rfl) rfl ?_
  obtain ⟨v, h1, hF⟩ := bd hF
  refine o_callSB call31 rfl (lent_f 0 rfl lent_nil) (tri31 k t sa1 sn1 sc1 v h1) rfl ?_
  refine o_v (v_move rfl) rfl ?_
  refine o_v (v_extract rfl rfl) rfl ?_
  refine o_v (v_extract rfl rfl) rfl ?_
  refine o_v (v_assign rfl) rfl ?_
  refine o_v (v_assign rfl) rfl ?_
  refine o_seq ?_
  refine c_seq ?_
  refine c_seq ?_
  refine c_region ?_
  refine o_v (v_load_box 0 ty27 rfl rfl rfl rfl rfl) rfl ?_
  obtain ⟨v1, h2, hF⟩ := bd hF
  refine o_callSB call48 rfl (lent_f 0 rfl lent_nil) (tri48 k t sa1 sn1 sc1 v1 h2) rfl ?_
  refine o_v (v_not rfl) rfl ?_
  refine o_v (v_move rfl) rfl ?_
  refine o_split (t := 15) rfl (fun h3 => ?_) (fun h3 => ?_)
  · replace hF := ite_t h3 hF
    refine o_off rfl rfl (by decide) rfl ?_
    refine o_off rfl rfl (by decide) rfl ?_
    refine o_v (v_pick_t rfl rfl) rfl ?_
    refine o_seq ?_
    refine c_cond rfl (fun _ => ?_) (fun h => Bool.noConfusion h)
    refine c_seq ?_
    refine c_region ?_
    refine o_v (v_assign rfl) rfl ?_
    refine o_v (v_assign rfl) rfl ?_
    refine o_seq ?_
    refine c_ret ?_
    cases hF
    refine s_ret2 rfl (r_tmp rfl) (r_tmp rfl) fun a w hs => ?_
    exact fin_sel hs [] ⟨rfl, rfl, rfl⟩ rfl sub_nil
  · replace hF := ite_f h3 hF
    refine o_on rfl rfl ?_
    refine o_v (v_move rfl) rfl ?_
    refine o_on rfl rfl ?_
    refine o_v (v_bin rfl rfl rfl) rfl ?_
    refine o_v (v_pick_f rfl rfl) rfl ?_
    refine o_seq ?_
    refine c_cond rfl (fun h4 => ?_) (fun h4 => ?_)
    · replace hF := ite_t h4 hF
      refine c_seq ?_
      refine c_region ?_
      refine o_v (v_assign rfl) rfl ?_
      refine o_v (v_assign rfl) rfl ?_
      refine o_seq ?_
      refine c_ret ?_
      cases hF
      refine s_ret2 rfl (r_tmp rfl) (r_tmp rfl) fun a w hs => ?_
      exact fin_sel hs [] ⟨rfl, rfl, rfl⟩ rfl sub_nil
    · replace hF := ite_f h4 hF
      refine c_skip ?_
      refine sat_wc ?_
      refine c_seq ?_
      refine c_region ?_
      refine o_v (v_load_box 0 ty27 rfl rfl rfl rfl rfl) rfl ?_
      obtain ⟨v2, h5, hF⟩ := bd hF
      refine o_callSB call49 rfl (lent_f 0 rfl lent_nil) (tri49 k t sa1 sn1 sc1 v2 h5) rfl ?_
      refine o_v (v_assign rfl) rfl ?_
      refine o_seq ?_
      refine c_seq ?_
      refine c_seq ?_
      refine c_region ?_
      refine o_v (v_move rfl) rfl ?_
      refine o_v (v_len_str Tryd.underlying9 rfl) rfl ?_
      refine o_v (v_bin rfl rfl rfl) rfl ?_
      refine o_seq ?_
      refine c_cond rfl (fun h6 => ?_) (fun h6 => ?_)
      · replace hF := ite_t h6 hF
        refine c_seq ?_
        refine c_region ?_
        refine o_v (v_assign rfl) rfl ?_
        refine o_v (v_assign rfl) rfl ?_
        refine o_seq ?_
        refine c_ret ?_
        cases hF
        refine s_ret2 rfl (r_tmp rfl) (r_tmp rfl) fun a w hs => ?_
        exact fin_sel hs [] ⟨rfl, rfl, rfl⟩ rfl sub_nil
      · replace hF := ite_f h6 hF
        refine c_skip ?_
        refine sat_wc ?_
        refine c_seq ?_
        refine c_region ?_
        refine o_v (v_move rfl) rfl ?_
        refine o_v (v_assign rfl) rfl ?_
        refine o_v (v_assign rfl) rfl ?_
        refine o_seq ?_
        refine c_ret ?_
        cases hF
        refine s_ret2 rfl (r_tmp rfl) (r_tmp rfl) fun a w hs => ?_
        exact fin_sel hs [] ⟨rfl, rfl, rfl⟩ rfl sub_nil
theorem tri4 (k : Nat) (t : Tree) (sa1 : Option Addr) (sn1 sc1 : Nat) (r : Bool) (hF : F.law09.TreesWrites k t = some r) :
    Tri Tryd.prog 4 [.agg #[.int .i64 t.Rule, .int .u8 t.Byte, .slice sa1 sn1 sc1]] [] [gf10 0, (.slice sa1 sn1 sc1, .slice 3 (t.Kids.map eTree))] (fun o H Φ => o = .ret (.bool r) ∧ H = [] ∧ Φ = []) := by
  unfold F.law09.TreesWrites at hF
  refine tri_intro (n := 31) Tryd.func4 rfl Tryd.ntmps4 rfl fun w X => ?_
  refine c_seq ?_
  refine c_region ?_
  refine o_box rfl rfl rfl fun b => ?_
  refine o_v (v_assign rfl) rfl ?_
  refine o_seq ?_
  refine c_seq ?_
  refine c_seq ?_
  refine c_region ?_
  refine o_v (v_load_box 0 ty27 rfl rfl rfl rfl rfl) rfl ?_
  obtain ⟨v, h1, hF⟩ := bd hF
  refine o_callSB call13 rfl (lent_f 1 rfl lent_nil) (tri13 k t sa1 sn1 sc1 v h1) rfl ?_
  refine o_seq ?_
  refine c_cond rfl (fun h2 => ?_) (fun h2 => ?_)
  · replace hF := ite_t h2 hF
    refine c_seq ?_
    refine c_region ?_
    obtain ⟨v1, h3, hF⟩ := bd hF
    refine o_callSB call15 rfl (lent_f 0 rfl lent_nil) (tri15 k v1 h3) rfl ?_
    refine o_v (v_assign rfl) rfl ?_
    refine o_seq ?_
    refine c_ret ?_
    cases hF
    refine s_ret1 rfl (r_tmp rfl) fun a w hs => ?_
    exact fin_sel hs [] ⟨rfl, rfl, rfl⟩ rfl sub_nil
  · replace hF := ite_f h2 hF
    refine c_skip ?_
    refine sat_wc ?_
    refine c_seq ?_
    refine c_region ?_
    refine o_v (v_load_box 0 ty27 rfl rfl rfl rfl rfl) rfl ?_
    obtain ⟨v2, h4, hF⟩ := bd hF
    refine o_callSB call20 rfl (lent_f 0 rfl (lent_f 1 rfl lent_nil)) (tri20 k t sa1 sn1 sc1 v2 h4) rfl ?_
    refine o_v (v_move rfl) rfl ?_
    refine o_v (v_extract rfl rfl) rfl ?_
    refine o_v (v_extract rfl rfl) rfl ?_
    refine o_v (v_assign rfl) rfl ?_
    refine o_v (v_assign rfl) rfl ?_
    refine o_seq ?_
    refine c_seq ?_
    refine c_region ?_
    refine o_v (v_load_box 0 ty27 rfl rfl rfl rfl rfl) rfl ?_
    obtain ⟨v3, h5, hF⟩ := bd hF
    refine o_callSB call21 rfl (lent_f 1 rfl lent_nil) (tri21 k t sa1 sn1 sc1 v3 h5) rfl ?_
    refine o_v (v_move rfl) rfl ?_
    refine o_v (v_extract rfl rfl) rfl ?_
    refine o_v (v_extract rfl rfl) rfl ?_
    refine o_v (v_assign rfl) rfl ?_
    refine o_v (v_assign rfl) rfl ?_
    refine o_seq ?_
    refine c_seq ?_
    refine c_region ?_
    obtain ⟨v4, h6, hF⟩ := bd hF
    refine o_callSB call15 rfl (lent_f 0 rfl lent_nil) (tri15 k v4 h6) rfl ?_
    refine o_v (v_move rfl) rfl ?_
    refine o_split (t := 21) rfl (fun h7 => ?_) (fun h7 => ?_)
    · replace hF := ite_t h7 hF
      refine o_on rfl rfl ?_
      refine o_v (v_move rfl) rfl ?_
      refine o_on rfl rfl ?_
      refine o_v (v_move rfl) rfl ?_
      refine o_on rfl rfl ?_
      refine o_v (v_streq rfl rfl) rfl ?_
      refine o_v (v_pick_t rfl rfl) rfl ?_
      refine o_v (v_move rfl) rfl ?_
      refine o_split (t := 26) rfl (fun h8 => ?_) (fun h8 => ?_)
      · replace hF := ite_t h8 hF
        refine o_on rfl rfl ?_
        refine o_v (v_move rfl) rfl ?_
        refine o_on rfl rfl ?_
        refine o_v (v_move rfl) rfl ?_
        refine o_on rfl rfl ?_
        refine o_v (v_bin rfl rfl rfl) rfl ?_
        refine o_v (v_pick_t rfl rfl) rfl ?_
        refine o_v (v_assign rfl) rfl ?_
        refine o_seq ?_
        refine c_ret ?_
        cases hF
        refine s_ret1 rfl (r_tmp rfl) fun a w hs => ?_
        exact fin_sel hs [] ⟨rfl, rfl, rfl⟩ rfl sub_nil
      · replace hF := ite_f h8 hF
        refine o_off rfl rfl (by decide) rfl ?_
        refine o_off rfl rfl (by decide) rfl ?_
        refine o_off rfl rfl (by decide) rfl ?_
        refine o_v (v_pick_f rfl rfl) rfl ?_
        refine o_v (v_assign rfl) rfl ?_
        refine o_seq ?_
        refine c_ret ?_
        cases hF
        refine s_ret1 rfl (r_tmp rfl) fun a w hs => ?_
        exact fin_sel hs [] ⟨rfl, rfl, rfl⟩ rfl sub_nil
    · replace hF := ite_f h7 hF
      refine o_off rfl rfl (by decide) rfl ?_
      refine o_off rfl rfl (by decide) rfl ?_
      refine o_off rfl rfl (by decide) rfl ?_
      refine o_v (v_pick_f rfl rfl) rfl ?_
      refine o_v (v_move rfl) rfl ?_
      refine o_off rfl rfl (by decide) rfl ?_
      refine o_off rfl rfl (by decide) rfl ?_
      refine o_off rfl rfl (by decide) rfl ?_
      refine o_v (v_pick_f rfl rfl) rfl ?_
      refine o_v (v_assign rfl) rfl ?_
      refine o_seq ?_
      refine c_ret ?_
      cases hF
      refine s_ret1 rfl (r_tmp rfl) fun a w hs => ?_
      exact fin_sel hs [] ⟨rfl, rfl, rfl⟩ rfl sub_nil
theorem tri53_B (k : Nat) (g70 : List UInt8 → Int → Int → Option (Tree × Int × Fault))
    (hg70 : ∀ (s : List UInt8) (at__ : Int) (deep : Int) (r : Tree × Int × Fault), g70 s at__ deep = some r → Tri Tryd.prog 70 [.string (bs s), .int .i64 at__, .int .i64 deep] [] [] (fun o H Φ => ∃ (sa7 : Option Addr) (sn7 sc7 : Nat), o = .ret (.tuple #[.agg #[.int .i64 r.1.Rule, .int .u8 r.1.Byte, .slice sa7 sn7 sc7], .int .i64 r.2.1, .agg #[.int .i64 r.2.2.At, .int .i64 r.2.2.Code]]) ∧ H = [] ∧ Φ = [(.slice sa7 sn7 sc7, .slice 3 (r.1.Kids.map eTree))])) (s : List UInt8) (at__ : Int) (deep : Int) (r : Tree × Int × Fault) (hF : F.ref09.one_B k g70 s at__ deep = some r) :
    Tri Tryd.prog 53 [.string (bs s), .int .i64 at__, .int .i64 deep] [] [] (fun o H Φ => ∃ (sa2 : Option Addr) (sn2 sc2 : Nat), o = .ret (.tuple #[.agg #[.int .i64 r.1.Rule, .int .u8 r.1.Byte, .slice sa2 sn2 sc2], .int .i64 r.2.1, .agg #[.int .i64 r.2.2.At, .int .i64 r.2.2.Code]]) ∧ H = [] ∧ Φ = [(.slice sa2 sn2 sc2, .slice 3 (r.1.Kids.map eTree))]) := by
  unfold F.ref09.one_B at hF
  refine tri_intro (n := 98) Tryd.func53 rfl Tryd.ntmps53 rfl fun w X => ?_
  refine c_seq ?_
  refine c_region ?_
  refine o_alloc zero27 rfl rfl fun b => ?_
  refine o_v (v_assign rfl) rfl ?_
  refine o_alloc zero39 rfl rfl fun b1 => ?_
  refine o_seq ?_
  refine c_seq ?_
  refine c_seq ?_
  refine c_region ?_
  refine o_v (v_move rfl) rfl ?_
  refine o_v (v_move rfl) rfl ?_
  refine o_v (v_len_str Tryd.underlying9 rfl) rfl ?_
  refine o_v (v_bin rfl rfl rfl) rfl ?_
  refine o_seq ?_
  refine c_cond rfl (fun h1 => ?_) (fun h1 => ?_)
  · replace hF := ite_t h1 hF
    refine c_seq ?_
    refine c_region ?_
    refine o_v (v_build (v := .agg #[.int .i64 0, .int .u8 0, .slice none 0 0]) rfl (fun _ => by kernel_rfl)) rfl ?_
    refine o_v (v_move rfl) rfl ?_
    refine o_v (v_len_str Tryd.underlying9 rfl) rfl ?_
    refine o_v (v_build (v := .agg #[.int .i64 (s.length : Int), .int .i64 14]) rfl (fun _ => by kernel_rfl)) rfl ?_
    refine o_store_box 1 rfl ty27 rfl rfl rfl rfl rfl rfl rfl ?_
    refine o_v (v_assign rfl) rfl ?_
    refine o_store_box 0 rfl ty39 rfl rfl rfl rfl rfl rfl rfl ?_
    refine o_seq ?_
    refine c_ret ?_
    cases hF
    refine s_st (st_nilfact 3) ?_
    refine s_ret3 rfl (r_cell 1 rfl ty27 rfl rfl rfl rfl) (r_tmp rfl) (r_cell 0 rfl ty39 rfl rfl rfl rfl) fun a w hs => ?_
    exact fin_sel hs [] ⟨none, 0, 0, rfl, rfl, rfl⟩ rfl (sub_cons 0 rfl sub_nil)
  · replace hF := ite_f h1 hF
    refine c_skip ?_
    refine sat_wc ?_
    refine c_seq ?_
    refine c_cut (fun E N' => ∀ (number : Bool), F.ref09.one_j1 k at__ s deep g70 number = some r → Sat E [(0, .string (bs s)), (1, .int .i64 at__), (2, .int .i64 deep), (6, .pointer (some ⟨b, 0, none⟩)), (7, .int .i64 0), (8, .pointer (some ⟨b1, 0, none⟩)), (9, .bool number)] [.box b1 39 [.int .i64 0, .int .i64 0], .box b 27 [.int .i64 0, .int .u8 0, .slice none 0 0]] [] N') (fun N6 hN6 => ?_) ?_
    · refine c_region ?_
      refine o_v (v_move rfl) rfl ?_
      refine o_v (v_move rfl) rfl ?_
      refine ite_some hF fun h15 hF => ?_
      refine o_v (v_sindex Tryd.underlying9 rfl rfl h15) rfl ?_
      refine o_v (v_bin rfl rfl rfl) rfl ?_
      refine o_v (v_move rfl) rfl ?_
      refine o_split (t := 26) rfl (fun h16 => ?_) (fun h16 => ?_)
      · replace hF := ite_t h16 hF
        refine o_on rfl rfl ?_
        refine o_v (v_move rfl) rfl ?_
        refine o_on rfl rfl ?_
        refine o_v (v_move rfl) rfl ?_
        refine o_on rfl rfl ?_
        refine o_v (v_sindex Tryd.underlying9 rfl rfl h15) rfl ?_
        refine o_on rfl rfl ?_
        refine o_v (v_bin rfl rfl rfl) rfl ?_
        refine o_v (v_pick_t rfl rfl) rfl ?_
        refine o_v (v_assign rfl) rfl ?_
        refine o_nil ?_
        refine s_st ?_ (hN6 (decide ((sAt s at__) ≤ 57)) hF)
        exact st_le [0, 0] (le_cons rfl (le_cons rfl (le_cons rfl (le_cons rfl (le_cons rfl (le_cons rfl (le_cons rfl le_nil))))))) rfl sub_nil
      · replace hF := ite_f h16 hF
        refine o_off rfl rfl (by decide) rfl ?_
        refine o_off rfl rfl (by decide) rfl ?_
        refine o_off rfl rfl (by decide) rfl ?_
        refine o_off rfl rfl (by decide) rfl ?_
        refine o_v (v_pick_f rfl rfl) rfl ?_
        refine o_v (v_assign rfl) rfl ?_
        refine o_nil ?_
        refine s_st ?_ (hN6 false hF)
        exact st_le [0, 0] (le_cons rfl (le_cons rfl (le_cons rfl (le_cons rfl (le_cons rfl (le_cons rfl (le_cons rfl le_nil))))))) rfl sub_nil
    · intro number hF
      unfold F.ref09.one_j1 at hF
      refine sat_wc ?_
      refine c_seq ?_
      refine c_seq ?_
      refine c_cut (fun E N' => ∀ (t39 : Bool), F.ref09.one_j2 k at__ deep number g70 s t39 = some r → Sat E [(0, .string (bs s)), (1, .int .i64 at__), (2, .int .i64 deep), (6, .pointer (some ⟨b, 0, none⟩)), (7, .int .i64 0), (8, .pointer (some ⟨b1, 0, none⟩)), (9, .bool number), (39, .bool t39)] [.box b1 39 [.int .i64 0, .int .i64 0], .box b 27 [.int .i64 0, .int .u8 0, .slice none 0 0]] [] N') (fun N6 hN6 => ?_) ?_
      · refine c_region ?_
        refine o_v (v_move rfl) rfl ?_
        refine o_v (v_move rfl) rfl ?_
        refine ite_some hF fun h13 hF => ?_
        refine o_v (v_sindex Tryd.underlying9 rfl rfl h13) rfl ?_
        refine o_v (v_bin rfl rfl rfl) rfl ?_
        refine o_v (v_move rfl) rfl ?_
        refine o_split (t := 36) rfl (fun h14 => ?_) (fun h14 => ?_)
        · replace hF := ite_t h14 hF
          refine o_on rfl rfl ?_
          refine o_v (v_move rfl) rfl ?_
          refine o_on rfl rfl ?_
          refine o_v (v_not rfl) rfl ?_
          refine o_v (v_pick_t rfl rfl) rfl ?_
          refine o_nil ?_
          refine s_st ?_ (hN6 (!number) hF)
          exact st_le [0, 0] (le_cons rfl (le_cons rfl (le_cons rfl (le_cons rfl (le_cons rfl (le_cons rfl (le_cons rfl (le_cons rfl le_nil)))))))) rfl sub_nil
        · replace hF := ite_f h14 hF
          refine o_off rfl rfl (by decide) rfl ?_
          refine o_off rfl rfl (by decide) rfl ?_
          refine o_v (v_pick_f rfl rfl) rfl ?_
          refine o_nil ?_
          refine s_st ?_ (hN6 false hF)
          exact st_le [0, 0] (le_cons rfl (le_cons rfl (le_cons rfl (le_cons rfl (le_cons rfl (le_cons rfl (le_cons rfl (le_cons rfl le_nil)))))))) rfl sub_nil
      · intro t39 hF
        unfold F.ref09.one_j2 at hF
        refine sat_wc ?_
        refine c_cond rfl (fun h2 => ?_) (fun h2 => ?_)
        · replace hF := ite_t h2 hF
          refine c_seq ?_
          refine c_region ?_
          refine o_v (v_build (v := .agg #[.int .i64 0, .int .u8 0, .slice none 0 0]) rfl (fun _ => by kernel_rfl)) rfl ?_
          refine o_v (v_move rfl) rfl ?_
          refine o_v (v_build (v := .agg #[.int .i64 at__, .int .i64 11]) rfl (fun _ => by kernel_rfl)) rfl ?_
          refine o_store_box 1 rfl ty27 rfl rfl rfl rfl rfl rfl rfl ?_
          refine o_v (v_assign rfl) rfl ?_
          refine o_store_box 0 rfl ty39 rfl rfl rfl rfl rfl rfl rfl ?_
          refine o_seq ?_
          refine c_ret ?_
          cases hF
          refine s_st (st_nilfact 3) ?_
          refine s_ret3 rfl (r_cell 1 rfl ty27 rfl rfl rfl rfl) (r_tmp rfl) (r_cell 0 rfl ty39 rfl rfl rfl rfl) fun a w hs => ?_
          exact fin_sel hs [] ⟨none, 0, 0, rfl, rfl, rfl⟩ rfl (sub_cons 0 rfl sub_nil)
        · replace hF := ite_f h2 hF
          refine c_skip ?_
          refine sat_wc ?_
          refine c_seq ?_
          refine c_seq ?_
          refine c_region ?_
          refine o_v (v_move rfl) rfl ?_
          refine o_v (v_bin rfl rfl rfl) rfl ?_
          refine o_seq ?_
          refine c_cond rfl (fun h3 => ?_) (fun h3 => ?_)
          · replace hF := ite_t h3 hF
            refine c_seq ?_
            refine c_region ?_
            refine o_v (v_build (v := .agg #[.int .i64 0, .int .u8 0, .slice none 0 0]) rfl (fun _ => by kernel_rfl)) rfl ?_
            refine o_v (v_move rfl) rfl ?_
            refine o_v (v_build (v := .agg #[.int .i64 at__, .int .i64 2]) rfl (fun _ => by kernel_rfl)) rfl ?_
            refine o_store_box 1 rfl ty27 rfl rfl rfl rfl rfl rfl rfl ?_
            refine o_v (v_assign rfl) rfl ?_
            refine o_store_box 0 rfl ty39 rfl rfl rfl rfl rfl rfl rfl ?_
            refine o_seq ?_
            refine c_ret ?_
            cases hF
            refine s_st (st_nilfact 3) ?_
            refine s_ret3 rfl (r_cell 1 rfl ty27 rfl rfl rfl rfl) (r_tmp rfl) (r_cell 0 rfl ty39 rfl rfl rfl rfl) fun a w hs => ?_
            exact fin_sel hs [] ⟨none, 0, 0, rfl, rfl, rfl⟩ rfl (sub_cons 0 rfl sub_nil)
          · replace hF := ite_f h3 hF
            refine c_skip ?_
            refine sat_wc ?_
            refine c_seq ?_
            refine c_seq ?_
            refine c_region ?_
            refine o_v (v_move rfl) rfl ?_
            refine o_seq ?_
            refine c_cond rfl (fun h4 => ?_) (fun h4 => ?_)
            · replace hF := ite_t h4 hF
              refine c_seq ?_
              refine c_region ?_
              refine o_v (v_move rfl) rfl ?_
              refine o_v (v_move rfl) rfl ?_
              refine o_v (v_move rfl) rfl ?_
              obtain ⟨v, h5, hF⟩ := bd hF
              refine o_call0 call70 rfl sub_nil (hg70 s at__ deep v h5) rfl ?_
              rintro _ _ _ ⟨sa1, sn1, sc1, rfl, rfl, rfl⟩
              refine o_v (v_extract rfl rfl) rfl ?_
              refine o_v (v_extract rfl rfl) rfl ?_
              refine o_v (v_extract rfl rfl) rfl ?_
              refine o_store_box 1 rfl ty27 rfl rfl rfl rfl rfl rfl rfl ?_
              refine o_v (v_assign rfl) rfl ?_
              refine o_store_box 0 rfl ty39 rfl rfl rfl rfl rfl rfl rfl ?_
              refine o_seq ?_
              refine c_ret ?_
              cases hF
              refine s_ret3 rfl (r_cell 1 rfl ty27 rfl rfl rfl rfl) (r_tmp rfl) (r_cell 0 rfl ty39 rfl rfl rfl rfl) fun a w hs => ?_
              exact fin_sel hs [] ⟨sa1, sn1, sc1, rfl, rfl, rfl⟩ rfl (sub_cons 0 rfl sub_nil)
            · replace hF := ite_f h4 hF
              refine c_skip ?_
              refine sat_wc ?_
              refine c_seq ?_
              refine c_region ?_
              refine o_v (v_assign rfl) rfl ?_
              refine o_seq ?_
              refine c_seq ?_
              refine c_seq ?_
              refine c_region ?_
              refine o_v (v_move rfl) rfl ?_
              refine o_v (v_bin rfl rfl rfl) rfl ?_
              refine o_v (v_assign rfl) rfl ?_
              refine o_seq ?_
              obtain ⟨o3, ho3, hF⟩ := bd hF
              refine c_cut (fun E N' => ∀ (d3 : Int), o3 = .done d3 → Sat E [(0, .string (bs s)), (1, .int .i64 at__), (2, .int .i64 deep), (6, .pointer (some ⟨b, 0, none⟩)), (7, .int .i64 0), (8, .pointer (some ⟨b1, 0, none⟩)), (9, .bool number), (10, .int .i64 d3)] [.box b1 39 [.int .i64 0, .int .i64 0], .box b 27 [.int .i64 0, .int .u8 0, .slice none 0 0]] [] N') (fun N3 hN3 => ?_) ?_
              · refine c_block ?_
                refine c_loopE (fun E j a w => ∃ (n : Int) (i : Int), F.ref09.one_l3 k at__ s j n i = some o3 ∧ St E [(0, .string (bs s)), (1, .int .i64 at__), (2, .int .i64 deep), (6, .pointer (some ⟨b, 0, none⟩)), (7, .int .i64 0), (8, .pointer (some ⟨b1, 0, none⟩)), (9, .bool number), (10, .int .i64 n), (11, .int .i64 i)] [.box b1 39 [.int .i64 0, .int .i64 0], .box b 27 [.int .i64 0, .int .u8 0, .slice none 0 0]] [] a w) k ?_ ?_
                · intro a w hs
                  exact ⟨0, IntKind.wrap .i64 (at__ + 1), ho3, st_le [0, 0] (le_cons rfl (le_cons rfl (le_cons rfl (le_cons rfl (le_cons rfl (le_cons rfl (le_cons rfl (le_cons rfl (le_cons rfl le_nil))))))))) rfl sub_nil a w hs⟩
                · rintro j a w ⟨n, i, hL3, hs⟩
                  cases j with
                  | zero => cases hL3
                  | succ j =>
                    refine wc_app hs ?_
                    unfold F.ref09.one_l3 at hL3
                    refine c_seq ?_
                    refine c_seq ?_
                    refine c_region ?_
                    refine o_v (v_move rfl) rfl ?_
                    refine o_v (v_move rfl) rfl ?_
                    refine o_v (v_bin rfl rfl rfl) rfl ?_
                    refine o_v (v_bin rfl rfl rfl) rfl ?_
                    refine o_seq ?_
                    refine c_cond rfl (fun h6 => ?_) (fun h6 => ?_)
                    · replace hL3 := ite_t h6 hL3
                      refine c_skip ?_
                      refine sat_wc ?_
                      refine c_seq ?_
                      refine c_block ?_
                      refine c_seq ?_
                      refine c_seq ?_
                      refine c_region ?_
                      refine o_v (v_move rfl) rfl ?_
                      refine o_v (v_move rfl) rfl ?_
                      refine o_v (v_len_str Tryd.underlying9 rfl) rfl ?_
                      refine o_v (v_bin rfl rfl rfl) rfl ?_
                      refine o_seq ?_
                      refine c_cond rfl (fun h7 => ?_) (fun h7 => ?_)
                      · replace hL3 := ite_t h7 hL3
                        refine c_seq ?_
                        refine c_region ?_
                        refine o_v (v_build (v := .agg #[.int .i64 0, .int .u8 0, .slice none 0 0]) rfl (fun _ => by kernel_rfl)) rfl ?_
                        refine o_v (v_move rfl) rfl ?_
                        refine o_v (v_len_str Tryd.underlying9 rfl) rfl ?_
                        refine o_v (v_build (v := .agg #[.int .i64 (s.length : Int), .int .i64 14]) rfl (fun _ => by kernel_rfl)) rfl ?_
                        refine o_store_box 1 rfl ty27 rfl rfl rfl rfl rfl rfl rfl ?_
                        refine o_v (v_assign rfl) rfl ?_
                        refine o_store_box 0 rfl ty39 rfl rfl rfl rfl rfl rfl rfl ?_
                        refine o_seq ?_
                        refine c_ret ?_
                        cases hL3
                        obtain rfl := lrf_ret hF
                        refine s_st (st_nilfact 3) ?_
                        refine s_ret3 rfl (r_cell 1 rfl ty27 rfl rfl rfl rfl) (r_tmp rfl) (r_cell 0 rfl ty39 rfl rfl rfl rfl) fun a w hs => ?_
                        exact fin_sel hs [] ⟨none, 0, 0, rfl, rfl, rfl⟩ rfl (sub_cons 0 rfl sub_nil)
                      · replace hL3 := ite_f h7 hL3
                        refine c_skip ?_
                        refine sat_wc ?_
                        refine c_seq ?_
                        refine c_region ?_
                        refine o_v (v_assign rfl) rfl ?_
                        refine o_seq ?_
                        refine c_seq ?_
                        refine c_seq ?_
                        refine c_region ?_
                        refine o_v (v_assign rfl) rfl ?_
                        refine o_seq ?_
                        obtain ⟨o4, ho4, hL3⟩ := bd hL3
                        refine c_cut (fun E N' => Sat E [(0, .string (bs s)), (1, .int .i64 at__), (2, .int .i64 deep), (6, .pointer (some ⟨b, 0, none⟩)), (7, .int .i64 0), (8, .pointer (some ⟨b1, 0, none⟩)), (9, .bool number), (10, .int .i64 n), (11, .int .i64 i), (12, .int .i64 o4.1), (13, .int .i64 o4.2)] [.box b1 39 [.int .i64 0, .int .i64 0], .box b 27 [.int .i64 0, .int .u8 0, .slice none 0 0]] [] N') (fun N4 hN4 => ?_) ?_
                        · refine c_block ?_
                          refine c_loopE (fun E j a w => ∃ (k_ : Int) (j_ : Int), F.ref09.one_l4 i s j k_ j_ = some o4 ∧ St E [(0, .string (bs s)), (1, .int .i64 at__), (2, .int .i64 deep), (6, .pointer (some ⟨b, 0, none⟩)), (7, .int .i64 0), (8, .pointer (some ⟨b1, 0, none⟩)), (9, .bool number), (10, .int .i64 n), (11, .int .i64 i), (12, .int .i64 k_), (13, .int .i64 j_)] [.box b1 39 [.int .i64 0, .int .i64 0], .box b 27 [.int .i64 0, .int .u8 0, .slice none 0 0]] [] a w) k ?_ ?_
                          · intro a w hs
                            exact ⟨16, 0, ho4, st_le [0, 0] (le_cons rfl (le_cons rfl (le_cons rfl (le_cons rfl (le_cons rfl (le_cons rfl (le_cons rfl (le_cons rfl (le_cons rfl (le_cons rfl (le_cons rfl le_nil))))))))))) rfl sub_nil a w hs⟩
                          · rintro j a w ⟨k_, j_, hL4, hs⟩
                            cases j with
                            | zero => cases hL4
                            | succ j =>
                              refine wc_app hs ?_
                              unfold F.ref09.one_l4 at hL4
                              refine c_seq ?_
                              refine c_seq ?_
                              refine c_region ?_
                              refine o_v (v_move rfl) rfl ?_
                              refine o_v (v_bin rfl rfl rfl) rfl ?_
                              refine o_seq ?_
                              refine c_cond rfl (fun h8 => ?_) (fun h8 => ?_)
                              · replace hL4 := ite_t h8 hL4
                                refine c_skip ?_
                                refine sat_wc ?_
                                refine c_seq ?_
                                refine c_cut (fun E N' => ∀ (k_1 : Int), F.ref09.one_j5 (F.ref09.one_l4 i s j) j_ k_1 = some o4 → Sat E [(0, .string (bs s)), (1, .int .i64 at__), (2, .int .i64 deep), (6, .pointer (some ⟨b, 0, none⟩)), (7, .int .i64 0), (8, .pointer (some ⟨b1, 0, none⟩)), (9, .bool number), (10, .int .i64 n), (11, .int .i64 i), (12, .int .i64 k_1), (13, .int .i64 j_)] [.box b1 39 [.int .i64 0, .int .i64 0], .box b 27 [.int .i64 0, .int .u8 0, .slice none 0 0]] [] N') (fun N5 hN5 => ?_) ?_
                                · refine c_block ?_
                                  refine c_seq ?_
                                  refine c_draw (n := 6) [0, 0] mixed rfl rfl ?_
                                  refine d_val 0 rfl pnok (by kernel_rfl) (by kernel_rfl) (by kernel_rfl) rfl (v_move rfl) ?_
                                  refine ite_some hL4 fun h9 hL4 => ?_
                                  refine d_val 1 rfl pnok (by kernel_rfl) (by kernel_rfl) (by kernel_rfl) rfl (v_sindex Tryd.underlying9 rfl rfl h9) ?_
                                  refine d_val 2 rfl pnok (by kernel_rfl) (by kernel_rfl) (by kernel_rfl) rfl (v_move rfl) ?_
                                  refine d_val 3 rfl pnok (by kernel_rfl) (by kernel_rfl) (by kernel_rfl) rfl (v_move rfl) ?_
                                  refine ite_some hL4 fun h10 hL4 => ?_
                                  refine d_val 4 rfl pnok (by kernel_rfl) (by kernel_rfl) (by kernel_rfl) rfl (v_sindex Tryd.underlying9 rfl rfl h10) ?_
                                  refine d_val 5 rfl pnok (by kernel_rfl) (by kernel_rfl) (by kernel_rfl) rfl (v_bin rfl rfl rfl) ?_
                                  refine d_done_seq (by kernel_rfl) ?_
                                  refine c_cut (fun E N' => ∀ (k_2 : Int), F.ref09.one_j6 (F.ref09.one_l4 i s j) j_ k_2 = some o4 → Sat E [(0, .string (bs s)), (1, .int .i64 at__), (2, .int .i64 deep), (6, .pointer (some ⟨b, 0, none⟩)), (7, .int .i64 0), (8, .pointer (some ⟨b1, 0, none⟩)), (9, .bool number), (10, .int .i64 n), (11, .int .i64 i), (12, .int .i64 k_2), (13, .int .i64 j_)] [.box b1 39 [.int .i64 0, .int .i64 0], .box b 27 [.int .i64 0, .int .u8 0, .slice none 0 0]] [] N') (fun N6 hN6 => ?_) ?_
                                  · refine c_cond rfl (fun h11 => ?_) (fun h11 => ?_)
                                    · replace hL4 := ite_t h11 hL4
                                      refine c_region ?_
                                      refine o_v (v_move rfl) rfl ?_
                                      refine o_v (v_assign rfl) rfl ?_
                                      refine o_nil ?_
                                      refine s_st ?_ (hN6 j_ hL4)
                                      exact st_le [0, 0] (le_cons rfl (le_cons rfl (le_cons rfl (le_cons rfl (le_cons rfl (le_cons rfl (le_cons rfl (le_cons rfl (le_cons rfl (le_cons rfl (le_cons rfl le_nil))))))))))) rfl sub_nil
                                    · replace hL4 := ite_f h11 hL4
                                      refine c_skip ?_
                                      refine s_st ?_ (hN6 k_ hL4)
                                      exact st_le [0, 0] (le_cons rfl (le_cons rfl (le_cons rfl (le_cons rfl (le_cons rfl (le_cons rfl (le_cons rfl (le_cons rfl (le_cons rfl (le_cons rfl (le_cons rfl le_nil))))))))))) rfl sub_nil
                                  · intro k_2 hL4
                                    unfold F.ref09.one_j6 at hL4
                                    refine s_st ?_ (hN5 k_2 hL4)
                                    exact st_le [0, 0] (le_cons rfl (le_cons rfl (le_cons rfl (le_cons rfl (le_cons rfl (le_cons rfl (le_cons rfl (le_cons rfl (le_cons rfl (le_cons rfl (le_cons rfl le_nil))))))))))) rfl sub_nil
                                · intro k_1 hL4
                                  unfold F.ref09.one_j5 at hL4
                                  refine sat_wc ?_
                                  refine c_region ?_
                                  refine o_v (v_move rfl) rfl ?_
                                  refine o_v (v_bin rfl rfl rfl) rfl ?_
                                  refine o_v (v_assign rfl) rfl ?_
                                  refine o_nil ?_
                                  intro a w hs
                                  exact ⟨j, Nat.lt_succ_self j, k_1, IntKind.wrap .i64 (j_ + 1), hL4, st_le [0, 0] (le_cons rfl (le_cons rfl (le_cons rfl (le_cons rfl (le_cons rfl (le_cons rfl (le_cons rfl (le_cons rfl (le_cons rfl (le_cons rfl (le_cons rfl le_nil))))))))))) rfl sub_nil a w hs⟩
                              · replace hL4 := ite_f h8 hL4
                                refine c_exit0 ?_
                                cases hL4
                                refine s_st ?_ (hN4)
                                exact st_le [0, 0] (le_cons rfl (le_cons rfl (le_cons rfl (le_cons rfl (le_cons rfl (le_cons rfl (le_cons rfl (le_cons rfl (le_cons rfl (le_cons rfl (le_cons rfl le_nil))))))))))) rfl sub_nil
                        · refine sat_wc ?_
                          refine c_seq ?_
                          refine c_seq ?_
                          refine c_region ?_
                          refine o_v (v_move rfl) rfl ?_
                          refine o_v (v_bin rfl rfl rfl) rfl ?_
                          refine o_seq ?_
                          refine c_cond rfl (fun h12 => ?_) (fun h12 => ?_)
                          · replace hL3 := ite_t h12 hL3
                            refine c_seq ?_
                            refine c_region ?_
                            refine o_v (v_build (v := .agg #[.int .i64 0, .int .u8 0, .slice none 0 0]) rfl (fun _ => by kernel_rfl)) rfl ?_
                            refine o_v (v_move rfl) rfl ?_
                            refine o_v (v_build (v := .agg #[.int .i64 i, .int .i64 11]) rfl (fun _ => by kernel_rfl)) rfl ?_
                            refine o_store_box 1 rfl ty27 rfl rfl rfl rfl rfl rfl rfl ?_
                            refine o_v (v_assign rfl) rfl ?_
                            refine o_store_box 0 rfl ty39 rfl rfl rfl rfl rfl rfl rfl ?_
                            refine o_seq ?_
                            refine c_ret ?_
                            cases hL3
                            obtain rfl := lrf_ret hF
                            refine s_st (st_nilfact 3) ?_
                            refine s_ret3 rfl (r_cell 1 rfl ty27 rfl rfl rfl rfl) (r_tmp rfl) (r_cell 0 rfl ty39 rfl rfl rfl rfl) fun a w hs => ?_
                            exact fin_sel hs [] ⟨none, 0, 0, rfl, rfl, rfl⟩ rfl (sub_cons 0 rfl sub_nil)
                          · replace hL3 := ite_f h12 hL3
                            refine c_skip ?_
                            refine sat_wc ?_
                            refine c_region ?_
                            refine o_v (v_move rfl) rfl ?_
                            refine o_v (v_bin rfl rfl rfl) rfl ?_
                            refine o_v (v_move rfl) rfl ?_
                            refine o_v (v_bin rfl rfl rfl) rfl ?_
                            refine o_v (v_assign rfl) rfl ?_
                            refine o_nil ?_
                            refine sat_wc ?_
                            refine c_region ?_
                            refine o_v (v_move rfl) rfl ?_
                            refine o_v (v_bin rfl rfl rfl) rfl ?_
                            refine o_v (v_assign rfl) rfl ?_
                            refine o_nil ?_
                            intro a w hs
                            exact ⟨j, Nat.lt_succ_self j, IntKind.wrap .i64 ((IntKind.wrap .i64 (16 * n)) + o4.1), IntKind.wrap .i64 (i + 1), hL3, st_le [0, 0] (le_cons rfl (le_cons rfl (le_cons rfl (le_cons rfl (le_cons rfl (le_cons rfl (le_cons rfl (le_cons rfl (le_cons rfl le_nil))))))))) rfl sub_nil a w hs⟩
                    · replace hL3 := ite_f h6 hL3
                      refine c_exit0 ?_
                      cases hL3
                      refine s_st ?_ (hN3 n rfl)
                      exact st_le [0, 0] (le_cons rfl (le_cons rfl (le_cons rfl (le_cons rfl (le_cons rfl (le_cons rfl (le_cons rfl (le_cons rfl le_nil)))))))) rfl sub_nil
              · intro d3 hd
                subst hd
                replace hF := lrf_done hF
                refine sat_wc ?_
                refine c_seq ?_
                refine c_region ?_
                refine o_v (v_move rfl) rfl ?_
                refine o_v (v_convert (v := .int .u8 (IntKind.wrap .u8 d3)) rfl (fun _ => by kernel_rfl)) rfl ?_
                refine o_v (v_build (v := .agg #[.int .i64 (-1), .int .u8 (IntKind.wrap .u8 d3), .slice none 0 0]) rfl (fun _ => by kernel_rfl)) rfl ?_
                refine o_v (v_move rfl) rfl ?_
                refine o_v (v_bin rfl rfl rfl) rfl ?_
                refine o_v (v_build (v := .agg #[.int .i64 0, .int .i64 0]) rfl (fun _ => by kernel_rfl)) rfl ?_
                refine o_store_box 1 rfl ty27 rfl rfl rfl rfl rfl rfl rfl ?_
                refine o_v (v_assign rfl) rfl ?_
                refine o_store_box 0 rfl ty39 rfl rfl rfl rfl rfl rfl rfl ?_
                refine o_seq ?_
                refine c_ret ?_
                cases hF
                refine s_st (st_nilfact 3) ?_
                refine s_ret3 rfl (r_cell 1 rfl ty27 rfl rfl rfl rfl) (r_tmp rfl) (r_cell 0 rfl ty39 rfl rfl rfl rfl) fun a w hs => ?_
                exact fin_sel hs [] ⟨none, 0, 0, rfl, rfl, rfl⟩ rfl (sub_cons 0 rfl sub_nil)
theorem tri70_B (k : Nat) (g53 : List UInt8 → Int → Int → Option (Tree × Int × Fault))
    (hg53 : ∀ (s : List UInt8) (at__ : Int) (deep : Int) (r : Tree × Int × Fault), g53 s at__ deep = some r → Tri Tryd.prog 53 [.string (bs s), .int .i64 at__, .int .i64 deep] [] [] (fun o H Φ => ∃ (sa2 : Option Addr) (sn2 sc2 : Nat), o = .ret (.tuple #[.agg #[.int .i64 r.1.Rule, .int .u8 r.1.Byte, .slice sa2 sn2 sc2], .int .i64 r.2.1, .agg #[.int .i64 r.2.2.At, .int .i64 r.2.2.Code]]) ∧ H = [] ∧ Φ = [(.slice sa2 sn2 sc2, .slice 3 (r.1.Kids.map eTree))])) (s : List UInt8) (at__ : Int) (deep : Int) (r : Tree × Int × Fault) (hF : F.ref09.node_B k g53 s at__ deep = some r) :
    Tri Tryd.prog 70 [.string (bs s), .int .i64 at__, .int .i64 deep] [] [] (fun o H Φ => ∃ (sa7 : Option Addr) (sn7 sc7 : Nat), o = .ret (.tuple #[.agg #[.int .i64 r.1.Rule, .int .u8 r.1.Byte, .slice sa7 sn7 sc7], .int .i64 r.2.1, .agg #[.int .i64 r.2.2.At, .int .i64 r.2.2.Code]]) ∧ H = [] ∧ Φ = [(.slice sa7 sn7 sc7, .slice 3 (r.1.Kids.map eTree))]) := by
  unfold F.ref09.node_B at hF
  refine tri_intro (n := 133) Tryd.func70 rfl Tryd.ntmps70 rfl fun w X => ?_
  refine c_seq ?_
  refine c_region ?_
  refine o_alloc zero27 rfl rfl fun b => ?_
  refine o_v (v_assign rfl) rfl ?_
  refine o_alloc zero39 rfl rfl fun b1 => ?_
  refine o_seq ?_
  refine c_seq ?_
  refine c_region ?_
  refine o_v (v_move rfl) rfl ?_
  refine o_v (v_assign rfl) rfl ?_
  refine o_v (v_assign rfl) rfl ?_
  refine o_seq ?_
  refine c_seq ?_
  obtain ⟨o1, ho1, hF⟩ := bd hF
  refine c_cut (fun E N' => ∀ (d1 : Int × Int), o1 = .done d1 → Sat E [(0, .string (bs s)), (1, .int .i64 at__), (2, .int .i64 deep), (6, .pointer (some ⟨b, 0, none⟩)), (7, .int .i64 0), (8, .pointer (some ⟨b1, 0, none⟩)), (9, .int .i64 d1.1), (10, .int .i64 d1.2)] [.box b1 39 [.int .i64 0, .int .i64 0], .box b 27 [.int .i64 0, .int .u8 0, .slice none 0 0]] [] N') (fun N1 hN1 => ?_) ?_
  · refine c_block ?_
    refine c_loopE (fun E j a w => ∃ (n : Int) (i : Int), F.ref09.node_l1 s at__ j n i = some o1 ∧ St E [(0, .string (bs s)), (1, .int .i64 at__), (2, .int .i64 deep), (6, .pointer (some ⟨b, 0, none⟩)), (7, .int .i64 0), (8, .pointer (some ⟨b1, 0, none⟩)), (9, .int .i64 n), (10, .int .i64 i)] [.box b1 39 [.int .i64 0, .int .i64 0], .box b 27 [.int .i64 0, .int .u8 0, .slice none 0 0]] [] a w) k ?_ ?_
    · intro a w hs
      exact ⟨0, at__, ho1, st_le [0, 0] (le_cons rfl (le_cons rfl (le_cons rfl (le_cons rfl (le_cons rfl (le_cons rfl (le_cons rfl (le_cons rfl le_nil)))))))) rfl sub_nil a w hs⟩
    · rintro j a w ⟨n, i, hL1, hs⟩
      cases j with
      | zero => cases hL1
      | succ j =>
        refine wc_app hs ?_
        unfold F.ref09.node_l1 at hL1
        refine c_seq ?_
        refine c_seq ?_
        refine c_cut (fun E N' => ∀ (t32 : Bool), F.ref09.node_j2 i at__ s (F.ref09.node_l1 s at__ j) n t32 = some o1 → Sat E [(0, .string (bs s)), (1, .int .i64 at__), (2, .int .i64 deep), (6, .pointer (some ⟨b, 0, none⟩)), (7, .int .i64 0), (8, .pointer (some ⟨b1, 0, none⟩)), (9, .int .i64 n), (10, .int .i64 i), (32, .bool t32)] [.box b1 39 [.int .i64 0, .int .i64 0], .box b 27 [.int .i64 0, .int .u8 0, .slice none 0 0]] [] N') (fun N4 hN4 => ?_) ?_
        · refine c_region ?_
          refine o_v (v_move rfl) rfl ?_
          refine o_v (v_move rfl) rfl ?_
          refine o_v (v_len_str Tryd.underlying9 rfl) rfl ?_
          refine o_v (v_bin rfl rfl rfl) rfl ?_
          refine o_v (v_move rfl) rfl ?_
          refine o_split (t := 21) rfl (fun h7 => ?_) (fun h7 => ?_)
          · replace hL1 := ite_t h7 hL1
            refine o_on rfl rfl ?_
            refine o_v (v_move rfl) rfl ?_
            refine o_on rfl rfl ?_
            refine o_v (v_move rfl) rfl ?_
            refine o_on rfl rfl ?_
            refine ite_some hL1 fun h8 hL1 => ?_
            refine o_v (v_sindex Tryd.underlying9 rfl rfl h8) rfl ?_
            refine o_on rfl rfl ?_
            refine o_v (v_bin rfl rfl rfl) rfl ?_
            refine o_v (v_pick_t rfl rfl) rfl ?_
            refine o_v (v_move rfl) rfl ?_
            refine o_split (t := 27) rfl (fun h9 => ?_) (fun h9 => ?_)
            · replace hL1 := ite_t h9 hL1
              refine o_on rfl rfl ?_
              refine o_v (v_move rfl) rfl ?_
              refine o_on rfl rfl ?_
              refine o_v (v_move rfl) rfl ?_
              refine o_on rfl rfl ?_
              refine o_v (v_sindex Tryd.underlying9 rfl rfl h8) rfl ?_
              refine o_on rfl rfl ?_
              refine o_v (v_bin rfl rfl rfl) rfl ?_
              refine o_v (v_pick_t rfl rfl) rfl ?_
              refine o_nil ?_
              refine s_st ?_ (hN4 (decide ((sAt s i) ≤ 57)) hL1)
              exact st_le [0, 0] (le_cons rfl (le_cons rfl (le_cons rfl (le_cons rfl (le_cons rfl (le_cons rfl (le_cons rfl (le_cons rfl (le_cons rfl le_nil))))))))) rfl sub_nil
            · replace hL1 := ite_f h9 hL1
              refine o_off rfl rfl (by decide) rfl ?_
              refine o_off rfl rfl (by decide) rfl ?_
              refine o_off rfl rfl (by decide) rfl ?_
              refine o_off rfl rfl (by decide) rfl ?_
              refine o_v (v_pick_f rfl rfl) rfl ?_
              refine o_nil ?_
              refine s_st ?_ (hN4 false hL1)
              exact st_le [0, 0] (le_cons rfl (le_cons rfl (le_cons rfl (le_cons rfl (le_cons rfl (le_cons rfl (le_cons rfl (le_cons rfl (le_cons rfl le_nil))))))))) rfl sub_nil
          · replace hL1 := ite_f h7 hL1
            refine o_off rfl rfl (by decide) rfl ?_
            refine o_off rfl rfl (by decide) rfl ?_
            refine o_off rfl rfl (by decide) rfl ?_
            refine o_off rfl rfl (by decide) rfl ?_
            refine o_v (v_pick_f rfl rfl) rfl ?_
            refine o_v (v_move rfl) rfl ?_
            refine o_off rfl rfl (by decide) rfl ?_
            refine o_off rfl rfl (by decide) rfl ?_
            refine o_off rfl rfl (by decide) rfl ?_
            refine o_off rfl rfl (by decide) rfl ?_
            refine o_v (v_pick_f rfl rfl) rfl ?_
            refine o_nil ?_
            refine s_st ?_ (hN4 false hL1)
            exact st_le [0, 0] (le_cons rfl (le_cons rfl (le_cons rfl (le_cons rfl (le_cons rfl (le_cons rfl (le_cons rfl (le_cons rfl (le_cons rfl le_nil))))))))) rfl sub_nil
        · intro t32 hL1
          unfold F.ref09.node_j2 at hL1
          refine sat_wc ?_
          refine c_cond rfl (fun h1 => ?_) (fun h1 => ?_)
          · replace hL1 := ite_t h1 hL1
            refine c_skip ?_
            refine sat_wc ?_
            refine c_cut (fun E N' => F.ref09.node_j3 (F.ref09.node_l1 s at__ j) n s i = some o1 → Sat E [(0, .string (bs s)), (1, .int .i64 at__), (2, .int .i64 deep), (6, .pointer (some ⟨b, 0, none⟩)), (7, .int .i64 0), (8, .pointer (some ⟨b1, 0, none⟩)), (9, .int .i64 (IntKind.wrap .i64 ((IntKind.wrap .i64 ((IntKind.wrap .i64 (10 * n)) + (IntKind.wrap .i64 (sAt s i)))) - 48))), (10, .int .i64 (IntKind.wrap .i64 (i + 1)))] [.box b1 39 [.int .i64 0, .int .i64 0], .box b 27 [.int .i64 0, .int .u8 0, .slice none 0 0]] [] N') (fun N3 hN3 => ?_) ?_
            · refine c_block ?_
              refine c_seq ?_
              refine c_seq ?_
              refine c_cut (fun E N' => ∀ (t47 : Bool), F.ref09.node_j4 i s (F.ref09.node_l1 s at__ j) n t47 = some o1 → Sat E [(0, .string (bs s)), (1, .int .i64 at__), (2, .int .i64 deep), (6, .pointer (some ⟨b, 0, none⟩)), (7, .int .i64 0), (8, .pointer (some ⟨b1, 0, none⟩)), (9, .int .i64 n), (10, .int .i64 i), (47, .bool t47)] [.box b1 39 [.int .i64 0, .int .i64 0], .box b 27 [.int .i64 0, .int .u8 0, .slice none 0 0]] [] N') (fun N4 hN4 => ?_) ?_
              · refine c_region ?_
                refine o_v (v_move rfl) rfl ?_
                refine o_v (v_move rfl) rfl ?_
                refine o_v (v_bin rfl rfl rfl) rfl ?_
                refine o_v (v_bin rfl rfl rfl) rfl ?_
                refine o_v (v_move rfl) rfl ?_
                refine o_split (t := 37) rfl (fun h4 => ?_) (fun h4 => ?_)
                · replace hL1 := ite_t h4 hL1
                  refine o_off rfl rfl (by decide) rfl ?_
                  refine o_off rfl rfl (by decide) rfl ?_
                  refine o_off rfl rfl (by decide) rfl ?_
                  refine o_off rfl rfl (by decide) rfl ?_
                  refine o_offU rfl rfl rfl ?_
                  refine o_offU rfl rfl rfl ?_
                  refine o_offU rfl rfl rfl ?_
                  refine o_offU rfl rfl rfl ?_
                  refine o_off rfl rfl (by decide) rfl ?_
                  refine o_v (v_pick_t rfl rfl) rfl ?_
                  refine o_nil ?_
                  refine s_st ?_ (hN4 true hL1)
                  exact st_le [0, 0] (le_cons rfl (le_cons rfl (le_cons rfl (le_cons rfl (le_cons rfl (le_cons rfl (le_cons rfl (le_cons rfl (le_cons rfl le_nil))))))))) rfl sub_nil
                · replace hL1 := ite_f h4 hL1
                  refine o_on rfl rfl ?_
                  refine o_v (v_move rfl) rfl ?_
                  refine o_on rfl rfl ?_
                  refine o_v (v_move rfl) rfl ?_
                  refine o_on rfl rfl ?_
                  refine o_v (v_bin rfl rfl rfl) rfl ?_
                  refine o_on rfl rfl ?_
                  refine o_v (v_move rfl) rfl ?_
                  refine o_split (t := 41) rfl (fun h5 => ?_) (fun h5 => ?_)
                  · replace hL1 := ite_t h5 hL1
                    refine o_on rfl rfl ?_
                    refine o_v (v_move rfl) rfl ?_
                    refine o_on rfl rfl ?_
                    refine o_v (v_move rfl) rfl ?_
                    refine o_on rfl rfl ?_
                    refine ite_some hL1 fun h6 hL1 => ?_
                    refine o_v (v_sindex Tryd.underlying9 rfl rfl h6) rfl ?_
                    refine o_on rfl rfl ?_
                    refine o_v (v_bin rfl rfl rfl) rfl ?_
                    refine o_on rfl rfl ?_
                    refine o_v (v_pick_t rfl rfl) rfl ?_
                    refine o_v (v_pick_f rfl rfl) rfl ?_
                    refine o_nil ?_
                    refine s_st ?_ (hN4 ((sAt s at__) == 48) hL1)
                    exact st_le [0, 0] (le_cons rfl (le_cons rfl (le_cons rfl (le_cons rfl (le_cons rfl (le_cons rfl (le_cons rfl (le_cons rfl (le_cons rfl le_nil))))))))) rfl sub_nil
                  · replace hL1 := ite_f h5 hL1
                    refine o_off rfl rfl (by decide) rfl ?_
                    refine o_off rfl rfl (by decide) rfl ?_
                    refine o_off rfl rfl (by decide) rfl ?_
                    refine o_off rfl rfl (by decide) rfl ?_
                    refine o_on rfl rfl ?_
                    refine o_v (v_pick_f rfl rfl) rfl ?_
                    refine o_v (v_pick_f rfl rfl) rfl ?_
                    refine o_nil ?_
                    refine s_st ?_ (hN4 false hL1)
                    exact st_le [0, 0] (le_cons rfl (le_cons rfl (le_cons rfl (le_cons rfl (le_cons rfl (le_cons rfl (le_cons rfl (le_cons rfl (le_cons rfl le_nil))))))))) rfl sub_nil
              · intro t47 hL1
                unfold F.ref09.node_j4 at hL1
                refine sat_wc ?_
                refine c_cond rfl (fun h2 => ?_) (fun h2 => ?_)
                · replace hL1 := ite_t h2 hL1
                  refine c_seq ?_
                  refine c_region ?_
                  refine o_v (v_build (v := .agg #[.int .i64 0, .int .u8 0, .slice none 0 0]) rfl (fun _ => by kernel_rfl)) rfl ?_
                  refine o_v (v_move rfl) rfl ?_
                  refine o_v (v_build (v := .agg #[.int .i64 i, .int .i64 11]) rfl (fun _ => by kernel_rfl)) rfl ?_
                  refine o_store_box 1 rfl ty27 rfl rfl rfl rfl rfl rfl rfl ?_
                  refine o_v (v_assign rfl) rfl ?_
                  refine o_store_box 0 rfl ty39 rfl rfl rfl rfl rfl rfl rfl ?_
                  refine o_seq ?_
                  refine c_ret ?_
                  cases hL1
                  obtain rfl := lrf_ret hF
                  refine s_st (st_nilfact 3) ?_
                  refine s_ret3 rfl (r_cell 1 rfl ty27 rfl rfl rfl rfl) (r_tmp rfl) (r_cell 0 rfl ty39 rfl rfl rfl rfl) fun a w hs => ?_
                  exact fin_sel hs [] ⟨none, 0, 0, rfl, rfl, rfl⟩ rfl (sub_cons 0 rfl sub_nil)
                · replace hL1 := ite_f h2 hL1
                  refine c_skip ?_
                  refine sat_wc ?_
                  refine c_seq ?_
                  refine c_region ?_
                  refine o_v (v_move rfl) rfl ?_
                  refine o_v (v_bin rfl rfl rfl) rfl ?_
                  refine o_v (v_move rfl) rfl ?_
                  refine o_v (v_move rfl) rfl ?_
                  refine ite_some hL1 fun h3 hL1 => ?_
                  refine o_v (v_sindex Tryd.underlying9 rfl rfl h3) rfl ?_
                  refine o_v (v_convert (v := .int .i64 (IntKind.wrap .i64 (sAt s i))) rfl (fun _ => by kernel_rfl)) rfl ?_
                  refine o_v (v_bin rfl rfl rfl) rfl ?_
                  refine o_v (v_bin rfl rfl rfl) rfl ?_
                  refine o_v (v_assign rfl) rfl ?_
                  refine o_seq ?_
                  refine c_region ?_
                  refine o_v (v_move rfl) rfl ?_
                  refine o_v (v_bin rfl rfl rfl) rfl ?_
                  refine o_v (v_assign rfl) rfl ?_
                  refine o_nil ?_
                  refine s_st ?_ (hN3 hL1)
                  exact st_le [0, 0] (le_cons rfl (le_cons rfl (le_cons rfl (le_cons rfl (le_cons rfl (le_cons rfl (le_cons rfl (le_cons rfl le_nil)))))))) rfl sub_nil
            · intro hL1
              unfold F.ref09.node_j3 at hL1
              intro a w hs
              exact ⟨j, Nat.lt_succ_self j, IntKind.wrap .i64 ((IntKind.wrap .i64 ((IntKind.wrap .i64 (10 * n)) + (IntKind.wrap .i64 (sAt s i)))) - 48), IntKind.wrap .i64 (i + 1), hL1, st_le [0, 0] (le_cons rfl (le_cons rfl (le_cons rfl (le_cons rfl (le_cons rfl (le_cons rfl (le_cons rfl (le_cons rfl le_nil)))))))) rfl sub_nil a w hs⟩
          · replace hL1 := ite_f h1 hL1
            refine c_exit0 ?_
            cases hL1
            refine s_st ?_ (hN1 (n, i) rfl)
            exact st_le [0, 0] (le_cons rfl (le_cons rfl (le_cons rfl (le_cons rfl (le_cons rfl (le_cons rfl (le_cons rfl (le_cons rfl le_nil)))))))) rfl sub_nil
  · intro d1 hd
    subst hd
    replace hF := lrf_done hF
    refine sat_wc ?_
    refine c_seq ?_
    refine c_region ?_
    refine o_v (v_move rfl) rfl ?_
    refine o_v (v_build (v := .agg #[.int .i64 d1.1, .int .u8 0, .slice none 0 0]) rfl (fun _ => by kernel_rfl)) rfl ?_
    refine o_alloc zero27 rfl rfl fun b2 => ?_
    refine o_store_box 0 rfl ty27 rfl rfl rfl rfl rfl rfl rfl ?_
    refine o_seq ?_
    refine c_seq ?_
    refine c_region ?_
    refine o_v (v_assign rfl) rfl ?_
    refine o_seq ?_
    obtain ⟨o5, ho5, hF⟩ := bd hF
    refine c_block ?_
    refine c_loopE (fun E j a w => ∃ (i1 : Int) (want : Int) (Kids_ : List Tree) (sa1 : Option Addr) (sn1 sc1 : Nat), F.ref09.node_l5 s d1 g53 deep j i1 want Kids_ = some o5 ∧ St E [(0, .string (bs s)), (1, .int .i64 at__), (2, .int .i64 deep), (6, .pointer (some ⟨b, 0, none⟩)), (7, .int .i64 0), (8, .pointer (some ⟨b1, 0, none⟩)), (9, .int .i64 d1.1), (10, .int .i64 i1), (11, .pointer (some ⟨b2, 0, none⟩)), (12, .int .u8 want)] [.box b2 27 [.int .i64 d1.1, .int .u8 0, .slice sa1 sn1 sc1], .box b1 39 [.int .i64 0, .int .i64 0], .box b 27 [.int .i64 0, .int .u8 0, .slice none 0 0], .row (.slice sa1 sn1 sc1) 27 3 (Kids_.map eTree)] [] a w) k ?_ ?_
    · refine s_st (st_nilrow 27 3) ?_
      intro a w hs
      exact ⟨d1.2, 40, ([] : List Tree), none, 0, 0, ho5, st_le [1, 1, 1, 0] (le_cons rfl (le_cons rfl (le_cons rfl (le_cons rfl (le_cons rfl (le_cons rfl (le_cons rfl (le_cons rfl (le_cons rfl (le_cons rfl le_nil)))))))))) rfl sub_nil a w hs⟩
    · rintro j a w ⟨i1, want, Kids_, sa1, sn1, sc1, hL5, hs⟩
      cases j with
      | zero => cases hL5
      | succ j =>
        refine wc_app hs ?_
        unfold F.ref09.node_l5 at hL5
        refine c_cut (fun E N' => ∀ (i2 : Int) (Rule_ : Int) (Byte_ : Int) (Kids_1 : List Tree) (end_ : Int) (At_ : Int) (Code_ : Int) (Kids_2 : List Tree) (sa2 : Option Addr) (sn2 sc2 : Nat) (sa3 : Option Addr) (sn3 sc3 : Nat) (b3 : Nat) (b4 : Nat), F.ref09.node_j6 (F.ref09.node_l5 s d1 g53 deep j) i2 Rule_ Byte_ Kids_1 end_ At_ Code_ Kids_2 = some o5 → Sat E [(0, .string (bs s)), (1, .int .i64 at__), (2, .int .i64 deep), (6, .pointer (some ⟨b, 0, none⟩)), (7, .int .i64 0), (8, .pointer (some ⟨b1, 0, none⟩)), (9, .int .i64 d1.1), (10, .int .i64 i2), (11, .pointer (some ⟨b2, 0, none⟩)), (12, .int .u8 32), (13, .pointer (some ⟨b3, 0, none⟩)), (14, .int .i64 end_), (15, .pointer (some ⟨b4, 0, none⟩))] [.box b2 27 [.int .i64 d1.1, .int .u8 0, .slice sa3 sn3 sc3], .box b1 39 [.int .i64 0, .int .i64 0], .box b 27 [.int .i64 0, .int .u8 0, .slice none 0 0], .box b3 27 [.int .i64 Rule_, .int .u8 Byte_, .slice sa2 sn2 sc2], .box b4 39 [.int .i64 At_, .int .i64 Code_], .row (.slice sa3 sn3 sc3) 27 3 (Kids_2.map eTree)] [(.slice sa2 sn2 sc2, .slice 3 (Kids_1.map eTree))] N') (fun N6 hN6 => ?_) ?_
        · refine c_block ?_
          refine c_seq ?_
          refine c_seq ?_
          refine c_region ?_
          refine o_v (v_move rfl) rfl ?_
          refine o_v (v_move rfl) rfl ?_
          refine o_v (v_len_str Tryd.underlying9 rfl) rfl ?_
          refine o_v (v_bin rfl rfl rfl) rfl ?_
          refine o_seq ?_
          refine c_cond rfl (fun h10 => ?_) (fun h10 => ?_)
          · replace hL5 := ite_t h10 hL5
            refine c_seq ?_
            refine c_region ?_
            refine o_v (v_build (v := .agg #[.int .i64 0, .int .u8 0, .slice none 0 0]) rfl (fun _ => by kernel_rfl)) rfl ?_
            refine o_v (v_move rfl) rfl ?_
            refine o_v (v_len_str Tryd.underlying9 rfl) rfl ?_
            refine o_v (v_build (v := .agg #[.int .i64 (s.length : Int), .int .i64 14]) rfl (fun _ => by kernel_rfl)) rfl ?_
            refine o_store_box 2 rfl ty27 rfl rfl rfl rfl rfl rfl rfl ?_
            refine o_v (v_assign rfl) rfl ?_
            refine o_store_box 1 rfl ty39 rfl rfl rfl rfl rfl rfl rfl ?_
            refine o_seq ?_
            refine c_ret ?_
            cases hL5
            obtain rfl := lrf_ret hF
            refine s_st (st_nilfact 3) ?_
            refine s_ret3 rfl (r_cell 2 rfl ty27 rfl rfl rfl rfl) (r_tmp rfl) (r_cell 1 rfl ty39 rfl rfl rfl rfl) fun a w hs => ?_
            exact fin_sel hs [] ⟨none, 0, 0, rfl, rfl, rfl⟩ rfl (sub_cons 0 rfl sub_nil)
          · replace hL5 := ite_f h10 hL5
            refine c_skip ?_
            refine sat_wc ?_
            refine c_seq ?_
            refine c_seq ?_
            refine c_cut (fun E N' => ∀ (t78 : Bool), F.ref09.node_j7 d1 Kids_ i1 s want g53 deep (F.ref09.node_l5 s d1 g53 deep j) t78 = some o5 → Sat E [(0, .string (bs s)), (1, .int .i64 at__), (2, .int .i64 deep), (6, .pointer (some ⟨b, 0, none⟩)), (7, .int .i64 0), (8, .pointer (some ⟨b1, 0, none⟩)), (9, .int .i64 d1.1), (10, .int .i64 i1), (11, .pointer (some ⟨b2, 0, none⟩)), (12, .int .u8 want), (78, .bool t78)] [.box b2 27 [.int .i64 d1.1, .int .u8 0, .slice sa1 sn1 sc1], .box b1 39 [.int .i64 0, .int .i64 0], .box b 27 [.int .i64 0, .int .u8 0, .slice none 0 0], .row (.slice sa1 sn1 sc1) 27 3 (Kids_.map eTree)] [] N') (fun N8 hN8 => ?_) ?_
            · refine c_region ?_
              refine o_v (v_move rfl) rfl ?_
              refine o_v (v_move rfl) rfl ?_
              refine ite_some hL5 fun h22 hL5 => ?_
              refine o_v (v_sindex Tryd.underlying9 rfl rfl h22) rfl ?_
              refine o_v (v_bin rfl rfl rfl) rfl ?_
              refine o_v (v_move rfl) rfl ?_
              refine o_split (t := 75) rfl (fun h23 => ?_) (fun h23 => ?_)
              · replace hL5 := ite_t h23 hL5
                refine o_on rfl rfl ?_
                refine o_v (v_move rfl) rfl ?_
                refine o_on rfl rfl ?_
                refine o_v (v_bin rfl rfl rfl) rfl ?_
                refine o_v (v_pick_t rfl rfl) rfl ?_
                refine o_nil ?_
                refine s_st ?_ (hN8 (want != 40) hL5)
                exact st_le [0, 0, 0, 0] (le_cons rfl (le_cons rfl (le_cons rfl (le_cons rfl (le_cons rfl (le_cons rfl (le_cons rfl (le_cons rfl (le_cons rfl (le_cons rfl (le_cons rfl le_nil))))))))))) rfl sub_nil
              · replace hL5 := ite_f h23 hL5
                refine o_off rfl rfl (by decide) rfl ?_
                refine o_off rfl rfl (by decide) rfl ?_
                refine o_v (v_pick_f rfl rfl) rfl ?_
                refine o_nil ?_
                refine s_st ?_ (hN8 false hL5)
                exact st_le [0, 0, 0, 0] (le_cons rfl (le_cons rfl (le_cons rfl (le_cons rfl (le_cons rfl (le_cons rfl (le_cons rfl (le_cons rfl (le_cons rfl (le_cons rfl (le_cons rfl le_nil))))))))))) rfl sub_nil
            · intro t78 hL5
              unfold F.ref09.node_j7 at hL5
              refine sat_wc ?_
              refine c_cond rfl (fun h11 => ?_) (fun h11 => ?_)
              · replace hL5 := ite_t h11 hL5
                refine c_seq ?_
                refine c_region ?_
                refine o_v (v_load_box 0 ty27 rfl rfl rfl rfl rfl) rfl ?_
                refine o_v (v_move rfl) rfl ?_
                refine o_v (v_bin rfl rfl rfl) rfl ?_
                refine o_v (v_build (v := .agg #[.int .i64 0, .int .i64 0]) rfl (fun _ => by kernel_rfl)) rfl ?_
                refine o_store_box 2 rfl ty27 rfl rfl rfl rfl rfl rfl rfl ?_
                refine o_v (v_assign rfl) rfl ?_
                refine o_store_box 1 rfl ty39 rfl rfl rfl rfl rfl rfl rfl ?_
                refine o_seq ?_
                refine c_ret ?_
                cases hL5
                obtain rfl := lrf_ret hF
                refine s_st (st_freeze 3 rfl) ?_
                refine s_ret3 rfl (r_cell 2 rfl ty27 rfl rfl rfl rfl) (r_tmp rfl) (r_cell 1 rfl ty39 rfl rfl rfl rfl) fun a w hs => ?_
                exact fin_sel hs [] ⟨sa1, sn1, sc1, rfl, rfl, rfl⟩ rfl (sub_cons 0 rfl sub_nil)
              · replace hL5 := ite_f h11 hL5
                refine c_skip ?_
                refine sat_wc ?_
                refine c_seq ?_
                refine c_seq ?_
                refine c_region ?_
                refine o_v (v_move rfl) rfl ?_
                refine o_v (v_move rfl) rfl ?_
                refine ite_some hL5 fun h12 hL5 => ?_
                refine o_v (v_sindex Tryd.underlying9 rfl rfl h12) rfl ?_
                refine o_v (v_move rfl) rfl ?_
                refine o_v (v_bin rfl rfl rfl) rfl ?_
                refine o_seq ?_
                refine c_cond rfl (fun h13 => ?_) (fun h13 => ?_)
                · replace hL5 := ite_t h13 hL5
                  refine c_seq ?_
                  refine c_region ?_
                  refine o_v (v_build (v := .agg #[.int .i64 0, .int .u8 0, .slice none 0 0]) rfl (fun _ => by kernel_rfl)) rfl ?_
                  refine o_v (v_move rfl) rfl ?_
                  refine o_v (v_build (v := .agg #[.int .i64 i1, .int .i64 11]) rfl (fun _ => by kernel_rfl)) rfl ?_
                  refine o_store_box 2 rfl ty27 rfl rfl rfl rfl rfl rfl rfl ?_
                  refine o_v (v_assign rfl) rfl ?_
                  refine o_store_box 1 rfl ty39 rfl rfl rfl rfl rfl rfl rfl ?_
                  refine o_seq ?_
                  refine c_ret ?_
                  cases hL5
                  obtain rfl := lrf_ret hF
                  refine s_st (st_nilfact 3) ?_
                  refine s_ret3 rfl (r_cell 2 rfl ty27 rfl rfl rfl rfl) (r_tmp rfl) (r_cell 1 rfl ty39 rfl rfl rfl rfl) fun a w hs => ?_
                  exact fin_sel hs [] ⟨none, 0, 0, rfl, rfl, rfl⟩ rfl (sub_cons 0 rfl sub_nil)
                · replace hL5 := ite_f h13 hL5
                  refine c_skip ?_
                  refine sat_wc ?_
                  refine c_seq ?_
                  refine c_seq ?_
                  refine c_cut (fun E N' => ∀ (t106 : Bool), F.ref09.node_j8 d1 Kids_ i1 g53 s deep (F.ref09.node_l5 s d1 g53 deep j) t106 = some o5 → Sat E [(0, .string (bs s)), (1, .int .i64 at__), (2, .int .i64 deep), (6, .pointer (some ⟨b, 0, none⟩)), (7, .int .i64 0), (8, .pointer (some ⟨b1, 0, none⟩)), (9, .int .i64 d1.1), (10, .int .i64 i1), (11, .pointer (some ⟨b2, 0, none⟩)), (12, .int .u8 want), (106, .bool t106)] [.box b2 27 [.int .i64 d1.1, .int .u8 0, .slice sa1 sn1 sc1], .box b1 39 [.int .i64 0, .int .i64 0], .box b 27 [.int .i64 0, .int .u8 0, .slice none 0 0], .row (.slice sa1 sn1 sc1) 27 3 (Kids_.map eTree)] [] N') (fun N8 hN8 => ?_) ?_
                  · refine c_region ?_
                    refine o_v (v_move rfl) rfl ?_
                    refine o_v (v_bin rfl rfl rfl) rfl ?_
                    refine o_v (v_move rfl) rfl ?_
                    refine o_split (t := 93) rfl (fun h19 => ?_) (fun h19 => ?_)
                    · replace hL5 := ite_t h19 hL5
                      refine o_on rfl rfl ?_
                      refine o_v (v_move rfl) rfl ?_
                      refine o_on rfl rfl ?_
                      refine o_v (v_bin rfl rfl rfl) rfl ?_
                      refine o_on rfl rfl ?_
                      refine o_v (v_move rfl) rfl ?_
                      refine o_on rfl rfl ?_
                      refine o_v (v_len_str Tryd.underlying9 rfl) rfl ?_
                      refine o_on rfl rfl ?_
                      refine o_v (v_bin rfl rfl rfl) rfl ?_
                      refine o_v (v_pick_t rfl rfl) rfl ?_
                      refine o_v (v_move rfl) rfl ?_
                      refine o_split (t := 100) rfl (fun h20 => ?_) (fun h20 => ?_)
                      · replace hL5 := ite_t h20 hL5
                        refine o_on rfl rfl ?_
                        refine o_v (v_move rfl) rfl ?_
                        refine o_on rfl rfl ?_
                        refine o_v (v_move rfl) rfl ?_
                        refine o_on rfl rfl ?_
                        refine o_v (v_bin rfl rfl rfl) rfl ?_
                        refine o_on rfl rfl ?_
                        refine ite_some hL5 fun h21 hL5 => ?_
                        refine o_v (v_sindex Tryd.underlying9 rfl rfl h21) rfl ?_
                        refine o_on rfl rfl ?_
                        refine o_v (v_bin rfl rfl rfl) rfl ?_
                        refine o_v (v_pick_t rfl rfl) rfl ?_
                        refine o_nil ?_
                        refine s_st ?_ (hN8 ((sAt s (IntKind.wrap .i64 (i1 + 1))) == 41) hL5)
                        exact st_le [0, 0, 0, 0] (le_cons rfl (le_cons rfl (le_cons rfl (le_cons rfl (le_cons rfl (le_cons rfl (le_cons rfl (le_cons rfl (le_cons rfl (le_cons rfl (le_cons rfl le_nil))))))))))) rfl sub_nil
                      · replace hL5 := ite_f h20 hL5
                        refine o_off rfl rfl (by decide) rfl ?_
                        refine o_off rfl rfl (by decide) rfl ?_
                        refine o_off rfl rfl (by decide) rfl ?_
                        refine o_off rfl rfl (by decide) rfl ?_
                        refine o_off rfl rfl (by decide) rfl ?_
                        refine o_v (v_pick_f rfl rfl) rfl ?_
                        refine o_nil ?_
                        refine s_st ?_ (hN8 false hL5)
                        exact st_le [0, 0, 0, 0] (le_cons rfl (le_cons rfl (le_cons rfl (le_cons rfl (le_cons rfl (le_cons rfl (le_cons rfl (le_cons rfl (le_cons rfl (le_cons rfl (le_cons rfl le_nil))))))))))) rfl sub_nil
                    · replace hL5 := ite_f h19 hL5
                      refine o_off rfl rfl (by decide) rfl ?_
                      refine o_off rfl rfl (by decide) rfl ?_
                      refine o_off rfl rfl (by decide) rfl ?_
                      refine o_off rfl rfl (by decide) rfl ?_
                      refine o_off rfl rfl (by decide) rfl ?_
                      refine o_v (v_pick_f rfl rfl) rfl ?_
                      refine o_v (v_move rfl) rfl ?_
                      refine o_off rfl rfl (by decide) rfl ?_
                      refine o_off rfl rfl (by decide) rfl ?_
                      refine o_off rfl rfl (by decide) rfl ?_
                      refine o_off rfl rfl (by decide) rfl ?_
                      refine o_off rfl rfl (by decide) rfl ?_
                      refine o_v (v_pick_f rfl rfl) rfl ?_
                      refine o_nil ?_
                      refine s_st ?_ (hN8 false hL5)
                      exact st_le [0, 0, 0, 0] (le_cons rfl (le_cons rfl (le_cons rfl (le_cons rfl (le_cons rfl (le_cons rfl (le_cons rfl (le_cons rfl (le_cons rfl (le_cons rfl (le_cons rfl le_nil))))))))))) rfl sub_nil
                  · intro t106 hL5
                    unfold F.ref09.node_j8 at hL5
                    refine sat_wc ?_
                    refine c_cond rfl (fun h14 => ?_) (fun h14 => ?_)
                    · replace hL5 := ite_t h14 hL5
                      refine c_seq ?_
                      refine c_region ?_
                      refine o_v (v_load_box 0 ty27 rfl rfl rfl rfl rfl) rfl ?_
                      refine o_v (v_move rfl) rfl ?_
                      refine o_v (v_bin rfl rfl rfl) rfl ?_
                      refine o_v (v_build (v := .agg #[.int .i64 0, .int .i64 0]) rfl (fun _ => by kernel_rfl)) rfl ?_
                      refine o_store_box 2 rfl ty27 rfl rfl rfl rfl rfl rfl rfl ?_
                      refine o_v (v_assign rfl) rfl ?_
                      refine o_store_box 1 rfl ty39 rfl rfl rfl rfl rfl rfl rfl ?_
                      refine o_seq ?_
                      refine c_ret ?_
                      cases hL5
                      obtain rfl := lrf_ret hF
                      refine s_st (st_freeze 3 rfl) ?_
                      refine s_ret3 rfl (r_cell 2 rfl ty27 rfl rfl rfl rfl) (r_tmp rfl) (r_cell 1 rfl ty39 rfl rfl rfl rfl) fun a w hs => ?_
                      exact fin_sel hs [] ⟨sa1, sn1, sc1, rfl, rfl, rfl⟩ rfl (sub_cons 0 rfl sub_nil)
                    · replace hL5 := ite_f h14 hL5
                      refine c_skip ?_
                      refine sat_wc ?_
                      refine c_seq ?_
                      refine c_region ?_
                      refine o_v (v_move rfl) rfl ?_
                      refine o_v (v_move rfl) rfl ?_
                      refine o_v (v_bin rfl rfl rfl) rfl ?_
                      refine o_v (v_move rfl) rfl ?_
                      refine o_v (v_bin rfl rfl rfl) rfl ?_
                      obtain ⟨v, h15, hL5⟩ := bd hL5
                      refine o_call0 call53 rfl sub_nil (hg53 s (IntKind.wrap .i64 (i1 + 1)) (IntKind.wrap .i64 (deep + 1)) v h15) rfl ?_
                      rintro _ _ _ ⟨sa4, sn4, sc4, rfl, rfl, rfl⟩
                      refine o_v (v_move rfl) rfl ?_
                      refine o_v (v_extract rfl rfl) rfl ?_
                      refine o_v (v_extract rfl rfl) rfl ?_
                      refine o_v (v_extract rfl rfl) rfl ?_
                      refine o_alloc zero27 rfl rfl fun b5 => ?_
                      refine o_alloc zero39 rfl rfl fun b6 => ?_
                      refine o_store_box 1 rfl ty27 rfl rfl rfl rfl rfl rfl rfl ?_
                      refine o_v (v_assign rfl) rfl ?_
                      refine o_store_box 0 rfl ty39 rfl rfl rfl rfl rfl rfl rfl ?_
                      refine o_seq ?_
                      refine c_seq ?_
                      refine c_seq ?_
                      refine c_region ?_
                      refine o_v (v_fieldAddr (v := .pointer (some ⟨b6, 1, none⟩)) rfl (fun _ => by kernel_rfl)) rfl ?_
                      refine o_v (v_load_box 0 ty32 rfl rfl rfl rfl rfl) rfl ?_
                      refine o_v (v_bin rfl rfl rfl) rfl ?_
                      refine o_seq ?_
                      refine c_cond rfl (fun h16 => ?_) (fun h16 => ?_)
                      · replace hL5 := ite_t h16 hL5
                        refine c_seq ?_
                        refine c_draw (n := 5) [0, 0, 0, 2] mixed rfl rfl ?_
                        refine d_val 0 rfl pnok (by kernel_rfl) (by kernel_rfl) (by kernel_rfl) rfl (v_build (v := .agg #[.int .i64 0, .int .u8 0, .slice none 0 0]) rfl (fun _ => by kernel_rfl)) ?_
                        refine d_val 1 rfl pnok (by kernel_rfl) (by kernel_rfl) (by kernel_rfl) rfl (v_load_box 0 ty39 rfl rfl rfl rfl rfl) ?_
                        refine d_one 2 rfl (by kernel_rfl) ?_
                        refine o_store_box 4 rfl ty27 rfl rfl rfl rfl rfl rfl rfl ?_
                        refine d_next [0, 0, 0, 2] 0 rfl rfl ?_
                        refine d_val 3 rfl pnok (by kernel_rfl) (by kernel_rfl) (by kernel_rfl) rfl (v_assign rfl) ?_
                        refine d_one 4 rfl (by kernel_rfl) ?_
                        refine o_store_box 3 rfl ty39 rfl rfl rfl rfl rfl rfl rfl ?_
                        refine d_next [0, 0, 0, 2] 0 rfl rfl ?_
                        refine d_done_seq (by kernel_rfl) ?_
                        refine c_ret ?_
                        cases hL5
                        obtain rfl := lrf_ret hF
                        refine s_st (st_nilfact 3) ?_
                        refine s_ret3 rfl (r_cell 4 rfl ty27 rfl rfl rfl rfl) (r_tmp rfl) (r_cell 3 rfl ty39 rfl rfl rfl rfl) fun a w hs => ?_
                        exact fin_sel hs [] ⟨none, 0, 0, rfl, rfl, rfl⟩ rfl (sub_cons 0 rfl sub_nil)
                      · replace hL5 := ite_f h16 hL5
                        refine c_skip ?_
                        refine sat_wc ?_
                        refine c_seq ?_
                        refine c_region ?_
                        refine o_v (v_fieldAddr (v := .pointer (some ⟨b2, 2, none⟩)) rfl (fun _ => by kernel_rfl)) rfl ?_
                        refine o_v (v_load_box 2 ty25 rfl rfl rfl rfl rfl) rfl ?_
                        refine o_v (v_load_box 1 ty27 rfl rfl rfl rfl rfl) rfl ?_
                        refine o_buildSlice (enc := eTree) ([v.1] : List Tree) [.int .i64 v.1.Rule, .int .u8 v.1.Byte, .slice sa4 sn4 sc4] sl25 rfl (fun _ => by kernel_rfl) rfl rfl (by simp only [List.map, List.all, eTree_eq] <;> rfl) (cp_of (ds := [.int .i64 v.1.Rule, .int .u8 v.1.Byte, .slice 3 (v.1.Kids.map eTree)]) (by simp only [List.map, List.flatten, eTree_eq] <;> rfl) (.s rfl (.s rfl (.f 0 rfl (.nil))))) rfl fun sa5 sn5 sc5 => ?_
                        refine ite_some hL5 fun h17 hL5 => ?_
                        refine ite_some hL5 fun h18 hL5 => ?_
                        refine o_append (enc := eTree) (xs := Kids_) (ys := ([v.1] : List Tree)) 6 sl25 rfl rfl rfl (.r 0 _ rfl) h17 h18 rfl fun sa6 sn6 sc6 => ?_
                        refine o_v (v_fieldAddr (v := .pointer (some ⟨b2, 2, none⟩)) rfl (fun _ => by kernel_rfl)) rfl ?_
                        refine o_store_box 3 rfl ty25 rfl rfl rfl rfl rfl rfl rfl ?_
                        refine o_seq ?_
                        refine c_region ?_
                        refine o_v (v_move rfl) rfl ?_
                        refine o_v (v_assign rfl) rfl ?_
                        refine o_v (v_assign rfl) rfl ?_
                        refine o_nil ?_
                        refine s_st ?_ (hN6 v.2.1 v.1.Rule v.1.Byte v.1.Kids v.2.1 v.2.2.At v.2.2.Code (Kids_ ++ ([v.1] : List Tree)) sa4 sn4 sc4 sa6 sn6 sc6 b5 b6 hL5)
                        exact st_le [3, 3, 3, 2, 1, 1] (le_cons rfl (le_cons rfl (le_cons rfl (le_cons rfl (le_cons rfl (le_cons rfl (le_cons rfl (le_cons rfl (le_cons rfl (le_cons rfl (le_cons rfl (le_cons rfl (le_cons rfl le_nil))))))))))))) rfl (sub_cons 0 rfl sub_nil)
        · intro i2 Rule_ Byte_ Kids_1 end_ At_ Code_ Kids_2 sa2 sn2 sc2 sa3 sn3 sc3 b3 b4 hL5
          unfold F.ref09.node_j6 at hL5
          intro a w hs
          exact ⟨j, Nat.lt_succ_self j, i2, 32, Kids_2, sa3, sn3, sc3, hL5, st_le [0, 0, 0, 2] (le_cons rfl (le_cons rfl (le_cons rfl (le_cons rfl (le_cons rfl (le_cons rfl (le_cons rfl (le_cons rfl (le_cons rfl (le_cons rfl le_nil)))))))))) rfl sub_nil a w hs⟩
theorem tri53_G (k : Nat) : (∀ (s : List UInt8) (at__ : Int) (deep : Int) (r : Tree × Int × Fault), F.ref09.one k s at__ deep = some r → Tri Tryd.prog 53 [.string (bs s), .int .i64 at__, .int .i64 deep] [] [] (fun o H Φ => ∃ (sa2 : Option Addr) (sn2 sc2 : Nat), o = .ret (.tuple #[.agg #[.int .i64 r.1.Rule, .int .u8 r.1.Byte, .slice sa2 sn2 sc2], .int .i64 r.2.1, .agg #[.int .i64 r.2.2.At, .int .i64 r.2.2.Code]]) ∧ H = [] ∧ Φ = [(.slice sa2 sn2 sc2, .slice 3 (r.1.Kids.map eTree))])) ∧ (∀ (s : List UInt8) (at__ : Int) (deep : Int) (r : Tree × Int × Fault), F.ref09.node k s at__ deep = some r → Tri Tryd.prog 70 [.string (bs s), .int .i64 at__, .int .i64 deep] [] [] (fun o H Φ => ∃ (sa7 : Option Addr) (sn7 sc7 : Nat), o = .ret (.tuple #[.agg #[.int .i64 r.1.Rule, .int .u8 r.1.Byte, .slice sa7 sn7 sc7], .int .i64 r.2.1, .agg #[.int .i64 r.2.2.At, .int .i64 r.2.2.Code]]) ∧ H = [] ∧ Φ = [(.slice sa7 sn7 sc7, .slice 3 (r.1.Kids.map eTree))])) := by
  induction k with
  | zero => exact ⟨(fun _ _ _ _ h => nomatch (show none = some _ from h)), (fun _ _ _ _ h => nomatch (show none = some _ from h))⟩
  | succ k ih => exact ⟨tri53_B k _ ih.2, tri70_B k _ ih.1⟩
theorem tri53 (k : Nat) (s : List UInt8) (at__ : Int) (deep : Int) (r : Tree × Int × Fault) (hF : F.ref09.one k s at__ deep = some r) :
    Tri Tryd.prog 53 [.string (bs s), .int .i64 at__, .int .i64 deep] [] [] (fun o H Φ => ∃ (sa2 : Option Addr) (sn2 sc2 : Nat), o = .ret (.tuple #[.agg #[.int .i64 r.1.Rule, .int .u8 r.1.Byte, .slice sa2 sn2 sc2], .int .i64 r.2.1, .agg #[.int .i64 r.2.2.At, .int .i64 r.2.2.Code]]) ∧ H = [] ∧ Φ = [(.slice sa2 sn2 sc2, .slice 3 (r.1.Kids.map eTree))]) := (tri53_G k).1 s at__ deep r hF
theorem tri70 (k : Nat) (s : List UInt8) (at__ : Int) (deep : Int) (r : Tree × Int × Fault) (hF : F.ref09.node k s at__ deep = some r) :
    Tri Tryd.prog 70 [.string (bs s), .int .i64 at__, .int .i64 deep] [] [] (fun o H Φ => ∃ (sa7 : Option Addr) (sn7 sc7 : Nat), o = .ret (.tuple #[.agg #[.int .i64 r.1.Rule, .int .u8 r.1.Byte, .slice sa7 sn7 sc7], .int .i64 r.2.1, .agg #[.int .i64 r.2.2.At, .int .i64 r.2.2.Code]]) ∧ H = [] ∧ Φ = [(.slice sa7 sn7 sc7, .slice 3 (r.1.Kids.map eTree))]) := (tri53_G k).2 s at__ deep r hF
theorem tri23 (k : Nat) (s : List UInt8) (r : Tree × Fault) (hF : F.ref09.Parse k s = some r) :
    Tri Tryd.prog 23 [.string (bs s)] [] [] (fun o H Φ => ∃ (sa2 : Option Addr) (sn2 sc2 : Nat), o = .ret (.tuple #[.agg #[.int .i64 r.1.Rule, .int .u8 r.1.Byte, .slice sa2 sn2 sc2], .agg #[.int .i64 r.2.At, .int .i64 r.2.Code]]) ∧ H = [] ∧ Φ = [(.slice sa2 sn2 sc2, .slice 3 (r.1.Kids.map eTree))]) := by
  unfold F.ref09.Parse at hF
  refine tri_intro (n := 32) Tryd.func23 rfl Tryd.ntmps23 rfl fun w X => ?_
  refine c_seq ?_
  refine c_region ?_
  refine o_alloc zero27 rfl rfl fun b => ?_
  refine o_alloc zero39 rfl rfl fun b1 => ?_
  refine o_seq ?_
  refine c_seq ?_
  refine c_seq ?_
  refine c_region ?_
  refine o_v (v_move rfl) rfl ?_
  refine o_v (v_len_str Tryd.underlying9 rfl) rfl ?_
  refine o_v (v_bin rfl rfl rfl) rfl ?_
  refine o_seq ?_
  refine c_cond rfl (fun h1 => ?_) (fun h1 => ?_)
  · replace hF := ite_t h1 hF
    refine c_seq ?_
    refine c_region ?_
    refine o_v (v_build (v := .agg #[.int .i64 0, .int .u8 0, .slice none 0 0]) rfl (fun _ => by kernel_rfl)) rfl ?_
    refine o_v (v_build (v := .agg #[.int .i64 0, .int .i64 2]) rfl (fun _ => by kernel_rfl)) rfl ?_
    refine o_store_box 1 rfl ty27 rfl rfl rfl rfl rfl rfl rfl ?_
    refine o_store_box 0 rfl ty39 rfl rfl rfl rfl rfl rfl rfl ?_
    refine o_seq ?_
    refine c_ret ?_
    cases hF
    refine s_st (st_nilfact 3) ?_
    refine s_ret2 rfl (r_cell 1 rfl ty27 rfl rfl rfl rfl) (r_cell 0 rfl ty39 rfl rfl rfl rfl) fun a w hs => ?_
    exact fin_sel hs [] ⟨none, 0, 0, rfl, rfl, rfl⟩ rfl (sub_cons 0 rfl sub_nil)
  · replace hF := ite_f h1 hF
    refine c_skip ?_
    refine sat_wc ?_
    refine c_seq ?_
    refine c_region ?_
    refine o_v (v_move rfl) rfl ?_
    obtain ⟨v, h2, hF⟩ := bd hF
    refine o_call0 call53 rfl sub_nil (tri53 k s 0 1 v h2) rfl ?_
    rintro _ _ _ ⟨sa1, sn1, sc1, rfl, rfl, rfl⟩
    refine o_v (v_move rfl) rfl ?_
    refine o_v (v_extract rfl rfl) rfl ?_
    refine o_v (v_extract rfl rfl) rfl ?_
    refine o_v (v_extract rfl rfl) rfl ?_
    refine o_alloc zero27 rfl rfl fun b2 => ?_
    refine o_alloc zero39 rfl rfl fun b3 => ?_
    refine o_store_box 1 rfl ty27 rfl rfl rfl rfl rfl rfl rfl ?_
    refine o_v (v_assign rfl) rfl ?_
    refine o_store_box 0 rfl ty39 rfl rfl rfl rfl rfl rfl rfl ?_
    refine o_seq ?_
    refine c_seq ?_
    refine c_seq ?_
    refine c_region ?_
    refine o_v (v_fieldAddr (v := .pointer (some ⟨b3, 1, none⟩)) rfl (fun _ => by kernel_rfl)) rfl ?_
    refine o_v (v_load_box 0 ty32 rfl rfl rfl rfl rfl) rfl ?_
    refine o_v (v_bin rfl rfl rfl) rfl ?_
    refine o_seq ?_
    refine c_cond rfl (fun h3 => ?_) (fun h3 => ?_)
    · replace hF := ite_t h3 hF
      refine c_seq ?_
      refine c_draw (n := 4) [0, 0] mixed rfl rfl ?_
      refine d_val 0 rfl pnok (by kernel_rfl) (by kernel_rfl) (by kernel_rfl) rfl (v_build (v := .agg #[.int .i64 0, .int .u8 0, .slice none 0 0]) rfl (fun _ => by kernel_rfl)) ?_
      refine d_val 1 rfl pnok (by kernel_rfl) (by kernel_rfl) (by kernel_rfl) rfl (v_load_box 0 ty39 rfl rfl rfl rfl rfl) ?_
      refine d_one 2 rfl (by kernel_rfl) ?_
      refine o_store_box 3 rfl ty27 rfl rfl rfl rfl rfl rfl rfl ?_
      refine d_next [0, 0] 0 rfl rfl ?_
      refine d_one 3 rfl (by kernel_rfl) ?_
      refine o_store_box 2 rfl ty39 rfl rfl rfl rfl rfl rfl rfl ?_
      refine d_next [0, 0] 0 rfl rfl ?_
      refine d_done_seq (by kernel_rfl) ?_
      refine c_ret ?_
      cases hF
      refine s_st (st_nilfact 3) ?_
      refine s_ret2 rfl (r_cell 3 rfl ty27 rfl rfl rfl rfl) (r_cell 2 rfl ty39 rfl rfl rfl rfl) fun a w hs => ?_
      exact fin_sel hs [] ⟨none, 0, 0, rfl, rfl, rfl⟩ rfl (sub_cons 0 rfl sub_nil)
    · replace hF := ite_f h3 hF
      refine c_skip ?_
      refine sat_wc ?_
      refine c_seq ?_
      refine c_seq ?_
      refine c_region ?_
      refine o_v (v_move rfl) rfl ?_
      refine o_v (v_move rfl) rfl ?_
      refine o_v (v_len_str Tryd.underlying9 rfl) rfl ?_
      refine o_v (v_bin rfl rfl rfl) rfl ?_
      refine o_seq ?_
      refine c_cond rfl (fun h4 => ?_) (fun h4 => ?_)
      · replace hF := ite_t h4 hF
        refine c_seq ?_
        refine c_region ?_
        refine o_v (v_build (v := .agg #[.int .i64 0, .int .u8 0, .slice none 0 0]) rfl (fun _ => by kernel_rfl)) rfl ?_
        refine o_v (v_move rfl) rfl ?_
        refine o_v (v_build (v := .agg #[.int .i64 v.2.1, .int .i64 15]) rfl (fun _ => by kernel_rfl)) rfl ?_
        refine o_store_box 3 rfl ty27 rfl rfl rfl rfl rfl rfl rfl ?_
        refine o_store_box 2 rfl ty39 rfl rfl rfl rfl rfl rfl rfl ?_
        refine o_seq ?_
        refine c_ret ?_
        cases hF
        refine s_st (st_nilfact 3) ?_
        refine s_ret2 rfl (r_cell 3 rfl ty27 rfl rfl rfl rfl) (r_cell 2 rfl ty39 rfl rfl rfl rfl) fun a w hs => ?_
        exact fin_sel hs [] ⟨none, 0, 0, rfl, rfl, rfl⟩ rfl (sub_cons 0 rfl sub_nil)
      · replace hF := ite_f h4 hF
        refine c_skip ?_
        refine sat_wc ?_
        refine c_seq ?_
        refine c_draw (n := 4) [0, 0] mixed rfl rfl ?_
        refine d_val 0 rfl pnok (by kernel_rfl) (by kernel_rfl) (by kernel_rfl) rfl (v_load_box 1 ty27 rfl rfl rfl rfl rfl) ?_
        refine d_val 1 rfl pnok (by kernel_rfl) (by kernel_rfl) (by kernel_rfl) rfl (v_load_box 0 ty39 rfl rfl rfl rfl rfl) ?_
        refine d_one 2 rfl (by kernel_rfl) ?_
        refine o_store_box 3 rfl ty27 rfl rfl rfl rfl rfl rfl rfl ?_
        refine d_next [0, 0] 0 rfl rfl ?_
        refine d_one 3 rfl (by kernel_rfl) ?_
        refine o_store_box 2 rfl ty39 rfl rfl rfl rfl rfl rfl rfl ?_
        refine d_next [0, 0] 0 rfl rfl ?_
        refine d_done_seq (by kernel_rfl) ?_
        refine c_ret ?_
        cases hF
        refine s_ret2 rfl (r_cell 3 rfl ty27 rfl rfl rfl rfl) (r_cell 2 rfl ty39 rfl rfl rfl rfl) fun a w hs => ?_
        exact fin_sel hs [] ⟨sa1, sn1, sc1, rfl, rfl, rfl⟩ rfl (sub_cons 0 rfl sub_nil)
theorem tri5 (k : Nat) (s : List UInt8) (r : Bool) (hF : F.law09.TreesReads k s = some r) :
    Tri Tryd.prog 5 [.string (bs s)] [] [gf10 0] (fun o H Φ => o = .ret (.bool r) ∧ H = [] ∧ Φ = []) := by
  unfold F.law09.TreesReads at hF
  refine tri_intro (n := 37) Tryd.func5 rfl Tryd.ntmps5 rfl fun w X => ?_
  refine c_seq ?_
  refine c_region ?_
  refine o_v (v_assign rfl) rfl ?_
  refine o_seq ?_
  refine c_seq ?_
  refine c_seq ?_
  refine c_cut (fun E N' => ∀ (t14 : Bool), F.law09.TreesReads_j1 k s t14 = some r → Sat E [(0, .string (bs s)), (2, .bool false), (14, .bool t14)] [] [gf10 0] N') (fun N1 hN1 => ?_) ?_
  · refine c_region ?_
    refine o_v (v_move rfl) rfl ?_
    refine o_v (v_len_str Tryd.underlying9 rfl) rfl ?_
    refine o_v (v_bin rfl rfl rfl) rfl ?_
    refine o_v (v_move rfl) rfl ?_
    refine o_split (t := 10) rfl (fun h9 => ?_) (fun h9 => ?_)
    · replace hF := ite_t h9 hF
      refine o_on rfl rfl ?_
      refine o_v (v_move rfl) rfl ?_
      refine o_on rfl rfl ?_
      refine o_v (v_len_str Tryd.underlying9 rfl) rfl ?_
      refine o_on rfl rfl ?_
      refine o_v (v_bin rfl rfl rfl) rfl ?_
      refine o_v (v_pick_t rfl rfl) rfl ?_
      refine o_nil ?_
      refine s_st ?_ (hN1 (decide ((s.length : Int) ≤ 65536)) hF)
      exact st_le [] (le_cons rfl (le_cons rfl (le_cons rfl le_nil))) rfl (sub_cons 0 rfl sub_nil)
    · replace hF := ite_f h9 hF
      refine o_off rfl rfl (by decide) rfl ?_
      refine o_off rfl rfl (by decide) rfl ?_
      refine o_off rfl rfl (by decide) rfl ?_
      refine o_v (v_pick_f rfl rfl) rfl ?_
      refine o_nil ?_
      refine s_st ?_ (hN1 false hF)
      exact st_le [] (le_cons rfl (le_cons rfl (le_cons rfl le_nil))) rfl (sub_cons 0 rfl sub_nil)
  · intro t14 hF
    unfold F.law09.TreesReads_j1 at hF
    refine sat_wc ?_
    refine c_cond rfl (fun h1 => ?_) (fun h1 => ?_)
    · replace hF := ite_t h1 hF
      refine c_seq ?_
      refine c_region ?_
      obtain ⟨v, h2, hF⟩ := bd hF
      refine o_callSB call15 rfl (lent_f 0 rfl lent_nil) (tri15 k v h2) rfl ?_
      refine o_v (v_assign rfl) rfl ?_
      refine o_seq ?_
      refine c_ret ?_
      cases hF
      refine s_ret1 rfl (r_tmp rfl) fun a w hs => ?_
      exact fin_sel hs [] ⟨rfl, rfl, rfl⟩ rfl sub_nil
    · replace hF := ite_f h1 hF
      refine c_skip ?_
      refine sat_wc ?_
      refine c_seq ?_
      refine c_region ?_
      refine o_v (v_move rfl) rfl ?_
      obtain ⟨v1, h3, hF⟩ := bd hF
      refine o_call0 call22 rfl sub_nil (tri22 k s v1 h3) rfl ?_
      rintro _ _ _ ⟨sa1, sn1, sc1, rfl, rfl, rfl⟩
      refine o_v (v_move rfl) rfl ?_
      refine o_v (v_extract rfl rfl) rfl ?_
      refine o_v (v_extract rfl rfl) rfl ?_
      refine o_alloc zero27 rfl rfl fun b => ?_
      refine o_alloc zero39 rfl rfl fun b1 => ?_
      refine o_store_box 1 rfl ty27 rfl rfl rfl rfl rfl rfl rfl ?_
      refine o_store_box 0 rfl ty39 rfl rfl rfl rfl rfl rfl rfl ?_
      refine o_seq ?_
      refine c_seq ?_
      refine c_region ?_
      refine o_v (v_move rfl) rfl ?_
      obtain ⟨v2, h4, hF⟩ := bd hF
      refine o_call0 call23 rfl sub_nil (tri23 k s v2 h4) rfl ?_
      rintro _ _ _ ⟨sa2, sn2, sc2, rfl, rfl, rfl⟩
      refine o_v (v_move rfl) rfl ?_
      refine o_v (v_extract rfl rfl) rfl ?_
      refine o_v (v_extract rfl rfl) rfl ?_
      refine o_alloc zero27 rfl rfl fun b2 => ?_
      refine o_alloc zero39 rfl rfl fun b3 => ?_
      refine o_store_box 1 rfl ty27 rfl rfl rfl rfl rfl rfl rfl ?_
      refine o_store_box 0 rfl ty39 rfl rfl rfl rfl rfl rfl rfl ?_
      refine o_seq ?_
      refine c_seq ?_
      refine c_region ?_
      obtain ⟨v3, h5, hF⟩ := bd hF
      refine o_callSB call15 rfl (lent_f 2 rfl lent_nil) (tri15 k v3 h5) rfl ?_
      refine o_v (v_move rfl) rfl ?_
      refine o_split (t := 27) rfl (fun h6 => ?_) (fun h6 => ?_)
      · replace hF := ite_t h6 hF
        refine o_on rfl rfl ?_
        refine o_v (v_load_box 3 ty27 rfl rfl rfl rfl rfl) rfl ?_
        refine o_on rfl rfl ?_
        refine o_v (v_load_box 1 ty27 rfl rfl rfl rfl rfl) rfl ?_
        refine o_on rfl rfl ?_
        obtain ⟨v4, h7, hF⟩ := bd hF
        refine o_callSB call19 rfl (lent_f 1 rfl (lent_f 0 rfl lent_nil)) (tri19 k v1.1 v2.1 sa1 sn1 sc1 sa2 sn2 sc2 v4 h7) rfl ?_
        refine o_v (v_pick_t rfl rfl) rfl ?_
        refine o_v (v_move rfl) rfl ?_
        refine o_split (t := 32) rfl (fun h8 => ?_) (fun h8 => ?_)
        · replace hF := ite_t h8 hF
          refine o_on rfl rfl ?_
          refine o_v (v_load_box 2 ty39 rfl rfl rfl rfl rfl) rfl ?_
          refine o_on rfl rfl ?_
          refine o_v (v_load_box 0 ty39 rfl rfl rfl rfl rfl) rfl ?_
          refine o_on rfl rfl ?_
          refine o_v (v_ageq 2 rfl rfl (eq39 v1.2.At v1.2.Code v2.2.At v2.2.Code) rfl guard39) rfl ?_
          refine o_v (v_pick_t rfl rfl) rfl ?_
          refine o_v (v_assign rfl) rfl ?_
          refine o_seq ?_
          refine c_ret ?_
          cases hF
          refine s_ret1 rfl (r_tmp rfl) fun a w hs => ?_
          exact fin_sel hs [] ⟨rfl, rfl, rfl⟩ rfl sub_nil
        · replace hF := ite_f h8 hF
          refine o_off rfl rfl (by decide) rfl ?_
          refine o_off rfl rfl (by decide) rfl ?_
          refine o_off rfl rfl (by decide) rfl ?_
          refine o_v (v_pick_f rfl rfl) rfl ?_
          refine o_v (v_assign rfl) rfl ?_
          refine o_seq ?_
          refine c_ret ?_
          cases hF
          refine s_ret1 rfl (r_tmp rfl) fun a w hs => ?_
          exact fin_sel hs [] ⟨rfl, rfl, rfl⟩ rfl sub_nil
      · replace hF := ite_f h6 hF
        refine o_off rfl rfl (by decide) rfl ?_
        refine o_off rfl rfl (by decide) rfl ?_
        refine o_off rfl rfl (by decide) rfl ?_
        refine o_v (v_pick_f rfl rfl) rfl ?_
        refine o_v (v_move rfl) rfl ?_
        refine o_off rfl rfl (by decide) rfl ?_
        refine o_off rfl rfl (by decide) rfl ?_
        refine o_off rfl rfl (by decide) rfl ?_
        refine o_v (v_pick_f rfl rfl) rfl ?_
        refine o_v (v_assign rfl) rfl ?_
        refine o_seq ?_
        refine c_ret ?_
        cases hF
        refine s_ret1 rfl (r_tmp rfl) fun a w hs => ?_
        exact fin_sel hs [] ⟨rfl, rfl, rfl⟩ rfl sub_nil
theorem tri6 (k : Nat) (t : Tree) (s : List UInt8) (sa1 : Option Addr) (sn1 sc1 : Nat) (r : Bool) (hF : F.law09.TreesBack k t s = some r) :
    Tri Tryd.prog 6 [.agg #[.int .i64 t.Rule, .int .u8 t.Byte, .slice sa1 sn1 sc1], .string (bs s)] [] [gf10 0, (.slice sa1 sn1 sc1, .slice 3 (t.Kids.map eTree))] (fun o H Φ => o = .ret (.bool r) ∧ H = [] ∧ Φ = []) := by
  unfold F.law09.TreesBack at hF
  refine tri_intro (n := 82) Tryd.func6 rfl Tryd.ntmps6 rfl fun w X => ?_
  refine c_seq ?_
  refine c_region ?_
  refine o_box rfl rfl rfl fun b => ?_
  refine o_v (v_assign rfl) rfl ?_
  refine o_seq ?_
  refine c_seq ?_
  refine c_seq ?_
  refine c_region ?_
  refine o_v (v_load_box 0 ty27 rfl rfl rfl rfl rfl) rfl ?_
  obtain ⟨v, h1, hF⟩ := bd hF
  refine o_callSB call13 rfl (lent_f 1 rfl lent_nil) (tri13 k t sa1 sn1 sc1 v h1) rfl ?_
  refine o_v (v_move rfl) rfl ?_
  refine o_split (t := 14) rfl (fun h2 => ?_) (fun h2 => ?_)
  · replace hF := ite_t h2 hF
    refine o_off rfl rfl (by decide) rfl ?_
    refine o_off rfl rfl (by decide) rfl ?_
    refine o_off rfl rfl (by decide) rfl ?_
    refine o_v (v_pick_t rfl rfl) rfl ?_
    refine o_seq ?_
    refine c_cond rfl (fun _ => ?_) (fun h => Bool.noConfusion h)
    refine c_seq ?_
    refine c_region ?_
    obtain ⟨v1, h3, hF⟩ := bd hF
    refine o_callSB call15 rfl (lent_f 0 rfl lent_nil) (tri15 k v1 h3) rfl ?_
    refine o_v (v_assign rfl) rfl ?_
    refine o_seq ?_
    refine c_ret ?_
    cases hF
    refine s_ret1 rfl (r_tmp rfl) fun a w hs => ?_
    exact fin_sel hs [] ⟨rfl, rfl, rfl⟩ rfl sub_nil
  · replace hF := ite_f h2 hF
    refine o_on rfl rfl ?_
    refine o_v (v_move rfl) rfl ?_
    refine o_on rfl rfl ?_
    refine o_v (v_len_str Tryd.underlying9 rfl) rfl ?_
    refine o_on rfl rfl ?_
    refine o_v (v_bin rfl rfl rfl) rfl ?_
    refine o_v (v_pick_f rfl rfl) rfl ?_
    refine o_seq ?_
    refine c_cond rfl (fun h4 => ?_) (fun h4 => ?_)
    · replace hF := ite_t h4 hF
      refine c_seq ?_
      refine c_region ?_
      obtain ⟨v2, h5, hF⟩ := bd hF
      refine o_callSB call15 rfl (lent_f 0 rfl lent_nil) (tri15 k v2 h5) rfl ?_
      refine o_v (v_assign rfl) rfl ?_
      refine o_seq ?_
      refine c_ret ?_
      cases hF
      refine s_ret1 rfl (r_tmp rfl) fun a w hs => ?_
      exact fin_sel hs [] ⟨rfl, rfl, rfl⟩ rfl sub_nil
    · replace hF := ite_f h4 hF
      refine c_skip ?_
      refine sat_wc ?_
      refine c_seq ?_
      refine c_region ?_
      refine o_v (v_load_box 0 ty27 rfl rfl rfl rfl rfl) rfl ?_
      obtain ⟨v3, h6, hF⟩ := bd hF
      refine o_callSB call20 rfl (lent_f 0 rfl (lent_f 1 rfl lent_nil)) (tri20 k t sa1 sn1 sc1 v3 h6) rfl ?_
      refine o_v (v_move rfl) rfl ?_
      refine o_v (v_extract rfl rfl) rfl ?_
      refine o_v (v_extract rfl rfl) rfl ?_
      refine o_v (v_assign rfl) rfl ?_
      refine o_v (v_assign rfl) rfl ?_
      refine o_seq ?_
      refine c_seq ?_
      refine c_seq ?_
      refine c_region ?_
      refine o_v (v_move rfl) rfl ?_
      refine o_v (v_bin rfl rfl rfl) rfl ?_
      refine o_seq ?_
      refine c_cut (fun E N' => F.law09.TreesBack_j1 k s = some r → Sat E [(0, .agg #[.int .i64 t.Rule, .int .u8 t.Byte, .slice sa1 sn1 sc1]), (1, .string (bs s)), (2, .pointer (some ⟨b, 0, none⟩)), (4, .bool false), (6, .int .i64 v3.2)] [.box b 27 [.int .i64 t.Rule, .int .u8 t.Byte, .slice sa1 sn1 sc1]] [gf10 0, (.slice sa1 sn1 sc1, .slice 3 (t.Kids.map eTree))] N') (fun N2 hN2 => ?_) ?_
      · refine c_cond rfl (fun h18 => ?_) (fun h18 => ?_)
        · replace hF := ite_t h18 hF
          refine c_seq ?_
          refine c_region ?_
          refine o_v (v_move rfl) rfl ?_
          obtain ⟨v9, h19, hF⟩ := bd hF
          refine o_call0 call22 rfl sub_nil (tri22 k v3.1 v9 h19) rfl ?_
          rintro _ _ _ ⟨sa3, sn3, sc3, rfl, rfl, rfl⟩
          refine o_v (v_move rfl) rfl ?_
          refine o_v (v_extract rfl rfl) rfl ?_
          refine o_v (v_extract rfl rfl) rfl ?_
          refine o_alloc zero27 rfl rfl fun b3 => ?_
          refine o_alloc zero39 rfl rfl fun b4 => ?_
          refine o_store_box 1 rfl ty27 rfl rfl rfl rfl rfl rfl rfl ?_
          refine o_store_box 0 rfl ty39 rfl rfl rfl rfl rfl rfl rfl ?_
          refine o_seq ?_
          refine c_seq ?_
          refine c_region ?_
          refine o_v (v_fieldAddr (v := .pointer (some ⟨b4, 1, none⟩)) rfl (fun _ => by kernel_rfl)) rfl ?_
          refine o_v (v_load_box 0 ty32 rfl rfl rfl rfl rfl) rfl ?_
          refine o_v (v_bin rfl rfl rfl) rfl ?_
          refine o_v (v_move rfl) rfl ?_
          refine o_split (t := 35) rfl (fun h20 => ?_) (fun h20 => ?_)
          · replace hF := ite_t h20 hF
            refine o_off rfl rfl (by decide) rfl ?_
            refine o_off rfl rfl (by decide) rfl ?_
            refine o_off rfl rfl (by decide) rfl ?_
            refine o_off rfl rfl (by decide) rfl ?_
            refine o_v (v_pick_t rfl rfl) rfl ?_
            refine o_seq ?_
            refine c_cond rfl (fun _ => ?_) (fun h => Bool.noConfusion h)
            refine c_seq ?_
            refine c_region ?_
            refine o_v (v_assign rfl) rfl ?_
            refine o_seq ?_
            refine c_ret ?_
            cases hF
            refine s_ret1 rfl (r_tmp rfl) fun a w hs => ?_
            exact fin_sel hs [] ⟨rfl, rfl, rfl⟩ rfl sub_nil
          · replace hF := ite_f h20 hF
            refine o_on rfl rfl ?_
            refine o_v (v_load_box 1 ty27 rfl rfl rfl rfl rfl) rfl ?_
            refine o_on rfl rfl ?_
            refine o_v (v_load_box 2 ty27 rfl rfl rfl rfl rfl) rfl ?_
            refine o_on rfl rfl ?_
            obtain ⟨v10, h21, hF⟩ := bd hF
            refine o_callSB call19 rfl (lent_f 0 rfl (lent_f 2 rfl lent_nil)) (tri19 k v9.1 t sa3 sn3 sc3 sa1 sn1 sc1 v10 h21) rfl ?_
            refine o_on rfl rfl ?_
            refine o_v (v_not rfl) rfl ?_
            refine o_v (v_pick_f rfl rfl) rfl ?_
            refine o_seq ?_
            refine c_cond rfl (fun h22 => ?_) (fun h22 => ?_)
            · replace hF := ite_t h22 hF
              refine c_seq ?_
              refine c_region ?_
              refine o_v (v_assign rfl) rfl ?_
              refine o_seq ?_
              refine c_ret ?_
              cases hF
              refine s_ret1 rfl (r_tmp rfl) fun a w hs => ?_
              exact fin_sel hs [] ⟨rfl, rfl, rfl⟩ rfl sub_nil
            · replace hF := ite_f h22 hF
              refine c_skip ?_
              refine s_st ?_ (hN2 hF)
              exact st_le [2] (le_cons rfl (le_cons rfl (le_cons rfl (le_cons rfl (le_cons rfl le_nil))))) rfl (sub_cons 1 rfl (sub_cons 2 rfl sub_nil))
        · replace hF := ite_f h18 hF
          refine c_skip ?_
          refine s_st ?_ (hN2 hF)
          exact st_le [0] (le_cons rfl (le_cons rfl (le_cons rfl (le_cons rfl (le_cons rfl le_nil))))) rfl (sub_cons 0 rfl (sub_cons 1 rfl sub_nil))
      · intro hF
        unfold F.law09.TreesBack_j1 at hF
        refine sat_wc ?_
        refine c_seq ?_
        refine c_region ?_
        refine o_v (v_move rfl) rfl ?_
        obtain ⟨v4, h7, hF⟩ := bd hF
        refine o_call0 call22 rfl sub_nil (tri22 k s v4 h7) rfl ?_
        rintro _ _ _ ⟨sa2, sn2, sc2, rfl, rfl, rfl⟩
        refine o_v (v_move rfl) rfl ?_
        refine o_v (v_extract rfl rfl) rfl ?_
        refine o_v (v_extract rfl rfl) rfl ?_
        refine o_alloc zero27 rfl rfl fun b1 => ?_
        refine o_alloc zero39 rfl rfl fun b2 => ?_
        refine o_store_box 1 rfl ty27 rfl rfl rfl rfl rfl rfl rfl ?_
        refine o_store_box 0 rfl ty39 rfl rfl rfl rfl rfl rfl rfl ?_
        refine o_seq ?_
        refine c_seq ?_
        refine c_seq ?_
        refine c_region ?_
        refine o_v (v_fieldAddr (v := .pointer (some ⟨b2, 1, none⟩)) rfl (fun _ => by kernel_rfl)) rfl ?_
        refine o_v (v_load_box 0 ty32 rfl rfl rfl rfl rfl) rfl ?_
        refine o_v (v_bin rfl rfl rfl) rfl ?_
        refine o_seq ?_
        refine c_cond rfl (fun h8 => ?_) (fun h8 => ?_)
        · replace hF := ite_t h8 hF
          refine c_seq ?_
          refine c_cut (fun E N' => ∀ (t4 : Bool), F.law09.TreesBack_j2 t4 = some r → Sat E [(0, .agg #[.int .i64 t.Rule, .int .u8 t.Byte, .slice sa1 sn1 sc1]), (1, .string (bs s)), (2, .pointer (some ⟨b, 0, none⟩)), (4, .bool t4), (6, .int .i64 v3.2), (9, .pointer (some ⟨b1, 0, none⟩)), (10, .pointer (some ⟨b2, 0, none⟩))] [.box b2 39 [.int .i64 v4.2.At, .int .i64 v4.2.Code], .box b1 27 [.int .i64 v4.1.Rule, .int .u8 v4.1.Byte, .slice sa2 sn2 sc2], .box b 27 [.int .i64 t.Rule, .int .u8 t.Byte, .slice sa1 sn1 sc1]] [gf10 0, (.slice sa1 sn1 sc1, .slice 3 (t.Kids.map eTree)), (.slice sa2 sn2 sc2, .slice 3 (v4.1.Kids.map eTree))] N') (fun N2 hN2 => ?_) ?_
          · refine c_region ?_
            obtain ⟨v5, h9, hF⟩ := bd hF
            refine o_callSB call15 rfl (lent_f 1 rfl lent_nil) (tri15 k v5 h9) rfl ?_
            refine o_v (v_move rfl) rfl ?_
            refine o_split (t := 50) rfl (fun h10 => ?_) (fun h10 => ?_)
            · replace hF := ite_t h10 hF
              refine o_on rfl rfl ?_
              refine o_v (v_load_box 1 ty27 rfl rfl rfl rfl rfl) rfl ?_
              refine o_on rfl rfl ?_
              refine o_v (v_build (v := .agg #[.int .i64 0, .int .u8 0, .slice none 0 0]) rfl (fun _ => by kernel_rfl)) rfl ?_
              refine o_on rfl rfl ?_
              obtain ⟨v6, h11, hF⟩ := bd hF
              refine o_st (st_nilfact 3) ?_
              refine o_callSB call19 rfl (lent_f 1 rfl (lent_f 0 rfl lent_nil)) (tri19 k v4.1 (Tree.mk 0 0 ([] : List Tree)) sa2 sn2 sc2 none 0 0 v6 h11) rfl ?_
              refine o_v (v_pick_t rfl rfl) rfl ?_
              refine o_v (v_move rfl) rfl ?_
              refine o_split (t := 55) rfl (fun h12 => ?_) (fun h12 => ?_)
              · replace hF := ite_t h12 hF
                refine o_on rfl rfl ?_
                refine o_v (v_fieldAddr (v := .pointer (some ⟨b2, 0, none⟩)) rfl (fun _ => by kernel_rfl)) rfl ?_
                refine o_on rfl rfl ?_
                refine o_v (v_load_box 0 ty3 rfl rfl rfl rfl rfl) rfl ?_
                refine o_on rfl rfl ?_
                refine o_v (v_bin rfl rfl rfl) rfl ?_
                refine o_v (v_pick_t rfl rfl) rfl ?_
                refine o_v (v_move rfl) rfl ?_
                refine o_split (t := 60) rfl (fun h13 => ?_) (fun h13 => ?_)
                · replace hF := ite_t h13 hF
                  refine o_on rfl rfl ?_
                  refine o_v (v_fieldAddr (v := .pointer (some ⟨b2, 0, none⟩)) rfl (fun _ => by kernel_rfl)) rfl ?_
                  refine o_on rfl rfl ?_
                  refine o_v (v_load_box 0 ty3 rfl rfl rfl rfl rfl) rfl ?_
                  refine o_on rfl rfl ?_
                  refine o_v (v_move rfl) rfl ?_
                  refine o_on rfl rfl ?_
                  refine o_v (v_len_str Tryd.underlying9 rfl) rfl ?_
                  refine o_on rfl rfl ?_
                  refine o_v (v_bin rfl rfl rfl) rfl ?_
                  refine o_v (v_pick_t rfl rfl) rfl ?_
                  refine o_v (v_assign rfl) rfl ?_
                  refine o_nil ?_
                  refine s_st ?_ (hN2 (decide (v4.2.At ≤ (s.length : Int))) hF)
                  exact st_le [0, 0, 0] (le_cons rfl (le_cons rfl (le_cons rfl (le_cons rfl (le_cons rfl (le_cons rfl (le_cons rfl le_nil))))))) rfl (sub_cons 2 rfl (sub_cons 3 rfl (sub_cons 1 rfl sub_nil)))
                · replace hF := ite_f h13 hF
                  refine o_off rfl rfl (by decide) rfl ?_
                  refine o_off rfl rfl (by decide) rfl ?_
                  refine o_off rfl rfl (by decide) rfl ?_
                  refine o_off rfl rfl (by decide) rfl ?_
                  refine o_off rfl rfl (by decide) rfl ?_
                  refine o_v (v_pick_f rfl rfl) rfl ?_
                  refine o_v (v_assign rfl) rfl ?_
                  refine o_nil ?_
                  refine s_st ?_ (hN2 false hF)
                  exact st_le [0, 0, 0] (le_cons rfl (le_cons rfl (le_cons rfl (le_cons rfl (le_cons rfl (le_cons rfl (le_cons rfl le_nil))))))) rfl (sub_cons 2 rfl (sub_cons 3 rfl (sub_cons 1 rfl sub_nil)))
              · replace hF := ite_f h12 hF
                refine o_off rfl rfl (by decide) rfl ?_
                refine o_off rfl rfl (by decide) rfl ?_
                refine o_off rfl rfl (by decide) rfl ?_
                refine o_v (v_pick_f rfl rfl) rfl ?_
                refine o_v (v_move rfl) rfl ?_
                refine o_off rfl rfl (by decide) rfl ?_
                refine o_off rfl rfl (by decide) rfl ?_
                refine o_off rfl rfl (by decide) rfl ?_
                refine o_off rfl rfl (by decide) rfl ?_
                refine o_off rfl rfl (by decide) rfl ?_
                refine o_v (v_pick_f rfl rfl) rfl ?_
                refine o_v (v_assign rfl) rfl ?_
                refine o_nil ?_
                refine s_st ?_ (hN2 false hF)
                exact st_le [0, 0, 0] (le_cons rfl (le_cons rfl (le_cons rfl (le_cons rfl (le_cons rfl (le_cons rfl (le_cons rfl le_nil))))))) rfl (sub_cons 2 rfl (sub_cons 3 rfl (sub_cons 1 rfl sub_nil)))
            · replace hF := ite_f h10 hF
              refine o_off rfl rfl (by decide) rfl ?_
              refine o_off rfl rfl (by decide) rfl ?_
              refine o_off rfl rfl (by decide) rfl ?_
              refine o_v (v_pick_f rfl rfl) rfl ?_
              refine o_v (v_move rfl) rfl ?_
              refine o_off rfl rfl (by decide) rfl ?_
              refine o_off rfl rfl (by decide) rfl ?_
              refine o_off rfl rfl (by decide) rfl ?_
              refine o_v (v_pick_f rfl rfl) rfl ?_
              refine o_v (v_move rfl) rfl ?_
              refine o_off rfl rfl (by decide) rfl ?_
              refine o_off rfl rfl (by decide) rfl ?_
              refine o_off rfl rfl (by decide) rfl ?_
              refine o_off rfl rfl (by decide) rfl ?_
              refine o_off rfl rfl (by decide) rfl ?_
              refine o_v (v_pick_f rfl rfl) rfl ?_
              refine o_v (v_assign rfl) rfl ?_
              refine o_nil ?_
              refine s_st ?_ (hN2 false hF)
              exact st_le [0, 0, 0] (le_cons rfl (le_cons rfl (le_cons rfl (le_cons rfl (le_cons rfl (le_cons rfl (le_cons rfl le_nil))))))) rfl (sub_cons 1 rfl (sub_cons 2 rfl (sub_cons 0 rfl sub_nil)))
          · intro t4 hF
            unfold F.law09.TreesBack_j2 at hF
            refine sat_wc ?_
            refine c_ret ?_
            cases hF
            refine s_ret1 rfl (r_tmp rfl) fun a w hs => ?_
            exact fin_sel hs [] ⟨rfl, rfl, rfl⟩ rfl sub_nil
        · replace hF := ite_f h8 hF
          refine c_skip ?_
          refine sat_wc ?_
          refine c_seq ?_
          refine c_region ?_
          refine o_v (v_load_box 1 ty27 rfl rfl rfl rfl rfl) rfl ?_
          obtain ⟨v7, h14, hF⟩ := bd hF
          refine o_callSB call20 rfl (lent_f 1 rfl (lent_f 0 rfl lent_nil)) (tri20 k v4.1 sa2 sn2 sc2 v7 h14) rfl ?_
          refine o_v (v_move rfl) rfl ?_
          refine o_v (v_extract rfl rfl) rfl ?_
          refine o_v (v_extract rfl rfl) rfl ?_
          refine o_v (v_assign rfl) rfl ?_
          refine o_v (v_assign rfl) rfl ?_
          refine o_seq ?_
          refine c_seq ?_
          refine c_region ?_
          obtain ⟨v8, h15, hF⟩ := bd hF
          refine o_callSB call15 rfl (lent_f 1 rfl lent_nil) (tri15 k v8 h15) rfl ?_
          refine o_v (v_move rfl) rfl ?_
          refine o_split (t := 73) rfl (fun h16 => ?_) (fun h16 => ?_)
          · replace hF := ite_t h16 hF
            refine o_on rfl rfl ?_
            refine o_v (v_move rfl) rfl ?_
            refine o_on rfl rfl ?_
            refine o_v (v_bin rfl rfl rfl) rfl ?_
            refine o_v (v_pick_t rfl rfl) rfl ?_
            refine o_v (v_move rfl) rfl ?_
            refine o_split (t := 77) rfl (fun h17 => ?_) (fun h17 => ?_)
            · replace hF := ite_t h17 hF
              refine o_on rfl rfl ?_
              refine o_v (v_move rfl) rfl ?_
              refine o_on rfl rfl ?_
              refine o_v (v_move rfl) rfl ?_
              refine o_on rfl rfl ?_
              refine o_v (v_streq rfl rfl) rfl ?_
              refine o_v (v_pick_t rfl rfl) rfl ?_
              refine o_v (v_assign rfl) rfl ?_
              refine o_seq ?_
              refine c_ret ?_
              cases hF
              refine s_ret1 rfl (r_tmp rfl) fun a w hs => ?_
              exact fin_sel hs [] ⟨rfl, rfl, rfl⟩ rfl sub_nil
            · replace hF := ite_f h17 hF
              refine o_off rfl rfl (by decide) rfl ?_
              refine o_off rfl rfl (by decide) rfl ?_
              refine o_off rfl rfl (by decide) rfl ?_
              refine o_v (v_pick_f rfl rfl) rfl ?_
              refine o_v (v_assign rfl) rfl ?_
              refine o_seq ?_
              refine c_ret ?_
              cases hF
              refine s_ret1 rfl (r_tmp rfl) fun a w hs => ?_
              exact fin_sel hs [] ⟨rfl, rfl, rfl⟩ rfl sub_nil
          · replace hF := ite_f h16 hF
            refine o_off rfl rfl (by decide) rfl ?_
            refine o_off rfl rfl (by decide) rfl ?_
            refine o_v (v_pick_f rfl rfl) rfl ?_
            refine o_v (v_move rfl) rfl ?_
            refine o_off rfl rfl (by decide) rfl ?_
            refine o_off rfl rfl (by decide) rfl ?_
            refine o_off rfl rfl (by decide) rfl ?_
            refine o_v (v_pick_f rfl rfl) rfl ?_
            refine o_v (v_assign rfl) rfl ?_
            refine o_seq ?_
            refine c_ret ?_
            cases hF
            refine s_ret1 rfl (r_tmp rfl) fun a w hs => ?_
            exact fin_sel hs [] ⟨rfl, rfl, rfl⟩ rfl sub_nil
theorem tri8 (k : Nat) (t : Tree) (path : List Int) (s : Tree) (sa1 : Option Addr) (sn1 sc1 : Nat) (sa2 : Option Addr) (sn2 sc2 : Nat) (sa3 : Option Addr) (sn3 sc3 : Nat) (r : Bool) (hF : F.law09.TreesPut k t path s = some r) :
    Tri Tryd.prog 8 [.agg #[.int .i64 t.Rule, .int .u8 t.Byte, .slice sa1 sn1 sc1], .slice sa2 sn2 sc2, .agg #[.int .i64 s.Rule, .int .u8 s.Byte, .slice sa3 sn3 sc3]] [] [gf10 0, (.slice sa1 sn1 sc1, .slice 3 (t.Kids.map eTree)), (.slice sa2 sn2 sc2, .slice 1 (path.map eI64)), (.slice sa3 sn3 sc3, .slice 3 (s.Kids.map eTree))] (fun o H Φ => o = .ret (.bool r) ∧ H = [] ∧ Φ = []) := by
  unfold F.law09.TreesPut at hF
  refine tri_intro (n := 107) Tryd.func8 rfl Tryd.ntmps8 rfl fun w X => ?_
  refine c_seq ?_
  refine c_region ?_
  refine o_box rfl rfl rfl fun b => ?_
  refine o_box rfl rfl rfl fun b1 => ?_
  refine o_v (v_assign rfl) rfl ?_
  refine o_seq ?_
  refine c_seq ?_
  refine c_seq ?_
  refine c_region ?_
  refine o_v (v_load_box 1 ty27 rfl rfl rfl rfl rfl) rfl ?_
  obtain ⟨v, h1, hF⟩ := bd hF
  refine o_callSB call13 rfl (lent_f 1 rfl lent_nil) (tri13 k t sa1 sn1 sc1 v h1) rfl ?_
  refine o_v (v_move rfl) rfl ?_
  refine o_split (t := 19) rfl (fun h2 => ?_) (fun h2 => ?_)
  · replace hF := ite_t h2 hF
    refine o_off rfl rfl (by decide) rfl ?_
    refine o_off rfl rfl (by decide) rfl ?_
    refine o_v (v_pick_t rfl rfl) rfl ?_
    refine o_v (v_move rfl) rfl ?_
    refine o_off rfl rfl (by decide) rfl ?_
    refine o_off rfl rfl (by decide) rfl ?_
    refine o_off rfl rfl (by decide) rfl ?_
    refine o_v (v_pick_t rfl rfl) rfl ?_
    refine o_seq ?_
    refine c_cond rfl (fun _ => ?_) (fun h => Bool.noConfusion h)
    refine c_seq ?_
    refine c_region ?_
    obtain ⟨v1, h3, hF⟩ := bd hF
    refine o_callSB call15 rfl (lent_f 0 rfl lent_nil) (tri15 k v1 h3) rfl ?_
    refine o_v (v_assign rfl) rfl ?_
    refine o_seq ?_
    refine c_ret ?_
    cases hF
    refine s_ret1 rfl (r_tmp rfl) fun a w hs => ?_
    exact fin_sel hs [] ⟨rfl, rfl, rfl⟩ rfl sub_nil
  · replace hF := ite_f h2 hF
    refine o_on rfl rfl ?_
    refine o_v (v_load_box 0 ty27 rfl rfl rfl rfl rfl) rfl ?_
    refine o_on rfl rfl ?_
    obtain ⟨v2, h4, hF⟩ := bd hF
    refine o_callSB call13 rfl (lent_f 3 rfl lent_nil) (tri13 k s sa3 sn3 sc3 v2 h4) rfl ?_
    refine o_v (v_pick_f rfl rfl) rfl ?_
    refine o_v (v_move rfl) rfl ?_
    refine o_split (t := 23) rfl (fun h5 => ?_) (fun h5 => ?_)
    · replace hF := ite_t h5 hF
      refine o_off rfl rfl (by decide) rfl ?_
      refine o_off rfl rfl (by decide) rfl ?_
      refine o_off rfl rfl (by decide) rfl ?_
      refine o_v (v_pick_t rfl rfl) rfl ?_
      refine o_seq ?_
      refine c_cond rfl (fun _ => ?_) (fun h => Bool.noConfusion h)
      refine c_seq ?_
      refine c_region ?_
      obtain ⟨v3, h6, hF⟩ := bd hF
      refine o_callSB call15 rfl (lent_f 0 rfl lent_nil) (tri15 k v3 h6) rfl ?_
      refine o_v (v_assign rfl) rfl ?_
      refine o_seq ?_
      refine c_ret ?_
      cases hF
      refine s_ret1 rfl (r_tmp rfl) fun a w hs => ?_
      exact fin_sel hs [] ⟨rfl, rfl, rfl⟩ rfl sub_nil
    · replace hF := ite_f h5 hF
      refine o_on rfl rfl ?_
      refine o_v (v_move rfl) rfl ?_
      refine o_on rfl rfl ?_
      refine o_v (v_lenS (enc := eI64) path sl44 rfl (.f 2 rfl)) rfl ?_
      refine o_on rfl rfl ?_
      refine o_v (v_bin rfl rfl rfl) rfl ?_
      refine o_v (v_pick_f rfl rfl) rfl ?_
      refine o_seq ?_
      refine c_cond rfl (fun h7 => ?_) (fun h7 => ?_)
      · replace hF := ite_t h7 hF
        refine c_seq ?_
        refine c_region ?_
        obtain ⟨v4, h8, hF⟩ := bd hF
        refine o_callSB call15 rfl (lent_f 0 rfl lent_nil) (tri15 k v4 h8) rfl ?_
        refine o_v (v_assign rfl) rfl ?_
        refine o_seq ?_
        refine c_ret ?_
        cases hF
        refine s_ret1 rfl (r_tmp rfl) fun a w hs => ?_
        exact fin_sel hs [] ⟨rfl, rfl, rfl⟩ rfl sub_nil
      · replace hF := ite_f h7 hF
        refine c_skip ?_
        refine sat_wc ?_
        refine c_seq ?_
        refine c_region ?_
        refine o_v (v_load_box 1 ty27 rfl rfl rfl rfl rfl) rfl ?_
        refine o_v (v_move rfl) rfl ?_
        obtain ⟨v5, h9, hF⟩ := bd hF
        refine o_call0 call24 rfl (sub_cons 1 rfl (sub_cons 2 rfl sub_nil)) (tri24 k t path sa1 sn1 sc1 sa2 sn2 sc2 v5 h9) rfl ?_
        rintro _ _ _ ⟨sa4, sn4, sc4, rfl, rfl, rfl⟩
        refine o_v (v_move rfl) rfl ?_
        refine o_v (v_extract rfl rfl) rfl ?_
        refine o_v (v_extract rfl rfl) rfl ?_
        refine o_alloc zero27 rfl rfl fun b2 => ?_
        refine o_store_box 0 rfl ty27 rfl rfl rfl rfl rfl rfl rfl ?_
        refine o_v (v_assign rfl) rfl ?_
        refine o_seq ?_
        refine c_seq ?_
        refine c_region ?_
        refine o_v (v_load_box 2 ty27 rfl rfl rfl rfl rfl) rfl ?_
        refine o_v (v_move rfl) rfl ?_
        refine o_v (v_load_box 1 ty27 rfl rfl rfl rfl rfl) rfl ?_
        obtain ⟨v6, h10, hF⟩ := bd hF
        refine o_call0 call26 rfl (sub_cons 2 rfl (sub_cons 3 rfl (sub_cons 4 rfl sub_nil))) (tri26 k t path s sa1 sn1 sc1 sa2 sn2 sc2 sa3 sn3 sc3 v6 h10) rfl ?_
        rintro _ _ _ ⟨sa5, sn5, sc5, rfl, rfl, rfl⟩
        refine o_v (v_move rfl) rfl ?_
        refine o_v (v_extract rfl rfl) rfl ?_
        refine o_v (v_extract rfl rfl) rfl ?_
        refine o_alloc zero27 rfl rfl fun b3 => ?_
        refine o_store_box 0 rfl ty27 rfl rfl rfl rfl rfl rfl rfl ?_
        refine o_v (v_assign rfl) rfl ?_
        refine o_seq ?_
        refine c_seq ?_
        refine c_seq ?_
        refine c_region ?_
        refine o_v (v_move rfl) rfl ?_
        refine o_v (v_bin rfl rfl rfl) rfl ?_
        refine o_seq ?_
        refine c_cond rfl (fun h11 => ?_) (fun h11 => ?_)
        · replace hF := ite_t h11 hF
          refine c_seq ?_
          refine c_region ?_
          obtain ⟨v7, h12, hF⟩ := bd hF
          refine o_callSB call15 rfl (lent_f 2 rfl lent_nil) (tri15 k v7 h12) rfl ?_
          refine o_v (v_move rfl) rfl ?_
          refine o_split (t := 45) rfl (fun h13 => ?_) (fun h13 => ?_)
          · replace hF := ite_t h13 hF
            refine o_on rfl rfl ?_
            refine o_v (v_move rfl) rfl ?_
            refine o_on rfl rfl ?_
            refine o_v (v_move rfl) rfl ?_
            refine o_on rfl rfl ?_
            refine o_v (v_bin rfl rfl rfl) rfl ?_
            refine o_v (v_pick_t rfl rfl) rfl ?_
            refine o_v (v_move rfl) rfl ?_
            refine o_split (t := 50) rfl (fun h14 => ?_) (fun h14 => ?_)
            · replace hF := ite_t h14 hF
              refine o_on rfl rfl ?_
              refine o_v (v_load_box 0 ty27 rfl rfl rfl rfl rfl) rfl ?_
              refine o_on rfl rfl ?_
              refine o_v (v_build (v := .agg #[.int .i64 0, .int .u8 0, .slice none 0 0]) rfl (fun _ => by kernel_rfl)) rfl ?_
              refine o_on rfl rfl ?_
              obtain ⟨v8, h15, hF⟩ := bd hF
              refine o_st (st_nilfact 3) ?_
              refine o_callSB call19 rfl (lent_f 1 rfl (lent_f 0 rfl lent_nil)) (tri19 k v6.1 (Tree.mk 0 0 ([] : List Tree)) sa5 sn5 sc5 none 0 0 v8 h15) rfl ?_
              refine o_v (v_pick_t rfl rfl) rfl ?_
              refine o_v (v_assign rfl) rfl ?_
              refine o_seq ?_
              refine c_ret ?_
              cases hF
              refine s_ret1 rfl (r_tmp rfl) fun a w hs => ?_
              exact fin_sel hs [] ⟨rfl, rfl, rfl⟩ rfl sub_nil
            · replace hF := ite_f h14 hF
              refine o_off rfl rfl (by decide) rfl ?_
              refine o_off rfl rfl (by decide) rfl ?_
              refine o_off rfl rfl (by decide) rfl ?_
              refine o_v (v_pick_f rfl rfl) rfl ?_
              refine o_v (v_assign rfl) rfl ?_
              refine o_seq ?_
              refine c_ret ?_
              cases hF
              refine s_ret1 rfl (r_tmp rfl) fun a w hs => ?_
              exact fin_sel hs [] ⟨rfl, rfl, rfl⟩ rfl sub_nil
          · replace hF := ite_f h13 hF
            refine o_off rfl rfl (by decide) rfl ?_
            refine o_off rfl rfl (by decide) rfl ?_
            refine o_off rfl rfl (by decide) rfl ?_
            refine o_v (v_pick_f rfl rfl) rfl ?_
            refine o_v (v_move rfl) rfl ?_
            refine o_off rfl rfl (by decide) rfl ?_
            refine o_off rfl rfl (by decide) rfl ?_
            refine o_off rfl rfl (by decide) rfl ?_
            refine o_v (v_pick_f rfl rfl) rfl ?_
            refine o_v (v_assign rfl) rfl ?_
            refine o_seq ?_
            refine c_ret ?_
            cases hF
            refine s_ret1 rfl (r_tmp rfl) fun a w hs => ?_
            exact fin_sel hs [] ⟨rfl, rfl, rfl⟩ rfl sub_nil
        · replace hF := ite_f h11 hF
          refine c_skip ?_
          refine sat_wc ?_
          refine c_seq ?_
          refine c_region ?_
          refine o_v (v_load_box 0 ty27 rfl rfl rfl rfl rfl) rfl ?_
          refine o_v (v_move rfl) rfl ?_
          obtain ⟨v9, h16, hF⟩ := bd hF
          refine o_call0 call24 rfl (sub_cons 0 rfl (sub_cons 4 rfl sub_nil)) (tri24 k v6.1 path sa5 sn5 sc5 sa2 sn2 sc2 v9 h16) rfl ?_
          rintro _ _ _ ⟨sa6, sn6, sc6, rfl, rfl, rfl⟩
          refine o_v (v_move rfl) rfl ?_
          refine o_v (v_extract rfl rfl) rfl ?_
          refine o_v (v_extract rfl rfl) rfl ?_
          refine o_alloc zero27 rfl rfl fun b4 => ?_
          refine o_store_box 0 rfl ty27 rfl rfl rfl rfl rfl rfl rfl ?_
          refine o_v (v_assign rfl) rfl ?_
          refine o_seq ?_
          refine c_seq ?_
          refine c_region ?_
          refine o_v (v_load_box 1 ty27 rfl rfl rfl rfl rfl) rfl ?_
          refine o_v (v_move rfl) rfl ?_
          refine o_v (v_load_box 2 ty27 rfl rfl rfl rfl rfl) rfl ?_
          obtain ⟨v10, h17, hF⟩ := bd hF
          refine o_call0 call26 rfl (sub_cons 1 rfl (sub_cons 5 rfl (sub_cons 2 rfl sub_nil))) (tri26 k v6.1 path v5.1 sa5 sn5 sc5 sa2 sn2 sc2 sa4 sn4 sc4 v10 h17) rfl ?_
          rintro _ _ _ ⟨sa7, sn7, sc7, rfl, rfl, rfl⟩
          refine o_v (v_move rfl) rfl ?_
          refine o_v (v_extract rfl rfl) rfl ?_
          refine o_v (v_extract rfl rfl) rfl ?_
          refine o_alloc zero27 rfl rfl fun b5 => ?_
          refine o_store_box 0 rfl ty27 rfl rfl rfl rfl rfl rfl rfl ?_
          refine o_v (v_assign rfl) rfl ?_
          refine o_seq ?_
          refine c_seq ?_
          refine c_seq ?_
          refine c_cut (fun E N' => ∀ (t89 : Bool), F.law09.TreesPut_j1 k t path v5 t89 = some r → Sat E [(0, .agg #[.int .i64 t.Rule, .int .u8 t.Byte, .slice sa1 sn1 sc1]), (1, .slice sa2 sn2 sc2), (2, .agg #[.int .i64 s.Rule, .int .u8 s.Byte, .slice sa3 sn3 sc3]), (3, .pointer (some ⟨b, 0, none⟩)), (5, .pointer (some ⟨b1, 0, none⟩)), (6, .bool false), (7, .pointer (some ⟨b2, 0, none⟩)), (8, .int .i64 v5.2), (9, .pointer (some ⟨b3, 0, none⟩)), (10, .int .i64 v6.2), (11, .pointer (some ⟨b4, 0, none⟩)), (13, .pointer (some ⟨b5, 0, none⟩)), (89, .bool t89)] [.box b5 27 [.int .i64 v10.1.Rule, .int .u8 v10.1.Byte, .slice sa7 sn7 sc7], .box b4 27 [.int .i64 v9.1.Rule, .int .u8 v9.1.Byte, .slice sa6 sn6 sc6], .box b3 27 [.int .i64 v6.1.Rule, .int .u8 v6.1.Byte, .slice sa5 sn5 sc5], .box b2 27 [.int .i64 v5.1.Rule, .int .u8 v5.1.Byte, .slice sa4 sn4 sc4], .box b1 27 [.int .i64 s.Rule, .int .u8 s.Byte, .slice sa3 sn3 sc3], .box b 27 [.int .i64 t.Rule, .int .u8 t.Byte, .slice sa1 sn1 sc1]] [gf10 0, (.slice sa1 sn1 sc1, .slice 3 (t.Kids.map eTree)), (.slice sa2 sn2 sc2, .slice 1 (path.map eI64)), (.slice sa3 sn3 sc3, .slice 3 (s.Kids.map eTree)), (.slice sa7 sn7 sc7, .slice 3 (v10.1.Kids.map eTree)), (.slice sa6 sn6 sc6, .slice 3 (v9.1.Kids.map eTree)), (.slice sa5 sn5 sc5, .slice 3 (v6.1.Kids.map eTree)), (.slice sa4 sn4 sc4, .slice 3 (v5.1.Kids.map eTree))] N') (fun N1 hN1 => ?_) ?_
          · refine c_region ?_
            refine o_v (v_move rfl) rfl ?_
            refine o_v (v_bin rfl rfl rfl) rfl ?_
            refine o_v (v_move rfl) rfl ?_
            refine o_split (t := 70) rfl (fun h24 => ?_) (fun h24 => ?_)
            · replace hF := ite_t h24 hF
              refine o_off rfl rfl (by decide) rfl ?_
              refine o_off rfl rfl (by decide) rfl ?_
              refine o_v (v_pick_t rfl rfl) rfl ?_
              refine o_v (v_move rfl) rfl ?_
              refine o_off rfl rfl (by decide) rfl ?_
              refine o_off rfl rfl (by decide) rfl ?_
              refine o_v (v_pick_t rfl rfl) rfl ?_
              refine o_v (v_move rfl) rfl ?_
              refine o_off rfl rfl (by decide) rfl ?_
              refine o_off rfl rfl (by decide) rfl ?_
              refine o_off rfl rfl (by decide) rfl ?_
              refine o_off rfl rfl (by decide) rfl ?_
              refine o_v (v_pick_t rfl rfl) rfl ?_
              refine o_v (v_move rfl) rfl ?_
              refine o_off rfl rfl (by decide) rfl ?_
              refine o_off rfl rfl (by decide) rfl ?_
              refine o_off rfl rfl (by decide) rfl ?_
              refine o_off rfl rfl (by decide) rfl ?_
              refine o_v (v_pick_t rfl rfl) rfl ?_
              refine o_nil ?_
              refine s_st ?_ (hN1 true hF)
              exact st_le [0, 0, 0, 0, 0, 0] (le_cons rfl (le_cons rfl (le_cons rfl (le_cons rfl (le_cons rfl (le_cons rfl (le_cons rfl (le_cons rfl (le_cons rfl (le_cons rfl (le_cons rfl (le_cons rfl (le_cons rfl le_nil))))))))))))) rfl (sub_cons 4 rfl (sub_cons 5 rfl (sub_cons 6 rfl (sub_cons 7 rfl (sub_cons 0 rfl (sub_cons 1 rfl (sub_cons 2 rfl (sub_cons 3 rfl sub_nil))))))))
            · replace hF := ite_f h24 hF
              refine o_on rfl rfl ?_
              refine o_v (v_move rfl) rfl ?_
              refine o_on rfl rfl ?_
              refine o_v (v_bin rfl rfl rfl) rfl ?_
              refine o_v (v_pick_f rfl rfl) rfl ?_
              refine o_v (v_move rfl) rfl ?_
              refine o_split (t := 74) rfl (fun h25 => ?_) (fun h25 => ?_)
              · replace hF := ite_t h25 hF
                refine o_off rfl rfl (by decide) rfl ?_
                refine o_off rfl rfl (by decide) rfl ?_
                refine o_v (v_pick_t rfl rfl) rfl ?_
                refine o_v (v_move rfl) rfl ?_
                refine o_off rfl rfl (by decide) rfl ?_
                refine o_off rfl rfl (by decide) rfl ?_
                refine o_off rfl rfl (by decide) rfl ?_
                refine o_off rfl rfl (by decide) rfl ?_
                refine o_v (v_pick_t rfl rfl) rfl ?_
                refine o_v (v_move rfl) rfl ?_
                refine o_off rfl rfl (by decide) rfl ?_
                refine o_off rfl rfl (by decide) rfl ?_
                refine o_off rfl rfl (by decide) rfl ?_
                refine o_off rfl rfl (by decide) rfl ?_
                refine o_v (v_pick_t rfl rfl) rfl ?_
                refine o_nil ?_
                refine s_st ?_ (hN1 true hF)
                exact st_le [0, 0, 0, 0, 0, 0] (le_cons rfl (le_cons rfl (le_cons rfl (le_cons rfl (le_cons rfl (le_cons rfl (le_cons rfl (le_cons rfl (le_cons rfl (le_cons rfl (le_cons rfl (le_cons rfl (le_cons rfl le_nil))))))))))))) rfl (sub_cons 4 rfl (sub_cons 5 rfl (sub_cons 6 rfl (sub_cons 7 rfl (sub_cons 0 rfl (sub_cons 1 rfl (sub_cons 2 rfl (sub_cons 3 rfl sub_nil))))))))
              · replace hF := ite_f h25 hF
                refine o_on rfl rfl ?_
                refine o_v (v_move rfl) rfl ?_
                refine o_on rfl rfl ?_
                refine o_v (v_bin rfl rfl rfl) rfl ?_
                refine o_v (v_pick_f rfl rfl) rfl ?_
                refine o_v (v_move rfl) rfl ?_
                refine o_split (t := 78) rfl (fun h26 => ?_) (fun h26 => ?_)
                · replace hF := ite_t h26 hF
                  refine o_off rfl rfl (by decide) rfl ?_
                  refine o_off rfl rfl (by decide) rfl ?_
                  refine o_off rfl rfl (by decide) rfl ?_
                  refine o_off rfl rfl (by decide) rfl ?_
                  refine o_v (v_pick_t rfl rfl) rfl ?_
                  refine o_v (v_move rfl) rfl ?_
                  refine o_off rfl rfl (by decide) rfl ?_
                  refine o_off rfl rfl (by decide) rfl ?_
                  refine o_off rfl rfl (by decide) rfl ?_
                  refine o_off rfl rfl (by decide) rfl ?_
                  refine o_v (v_pick_t rfl rfl) rfl ?_
                  refine o_nil ?_
                  refine s_st ?_ (hN1 true hF)
                  exact st_le [0, 0, 0, 0, 0, 0] (le_cons rfl (le_cons rfl (le_cons rfl (le_cons rfl (le_cons rfl (le_cons rfl (le_cons rfl (le_cons rfl (le_cons rfl (le_cons rfl (le_cons rfl (le_cons rfl (le_cons rfl le_nil))))))))))))) rfl (sub_cons 4 rfl (sub_cons 5 rfl (sub_cons 6 rfl (sub_cons 7 rfl (sub_cons 0 rfl (sub_cons 1 rfl (sub_cons 2 rfl (sub_cons 3 rfl sub_nil))))))))
                · replace hF := ite_f h26 hF
                  refine o_on rfl rfl ?_
                  refine o_v (v_load_box 1 ty27 rfl rfl rfl rfl rfl) rfl ?_
                  refine o_on rfl rfl ?_
                  refine o_v (v_load_box 4 ty27 rfl rfl rfl rfl rfl) rfl ?_
                  refine o_on rfl rfl ?_
                  obtain ⟨v14, h27, hF⟩ := bd hF
                  refine o_callSB call19 rfl (lent_f 1 rfl (lent_f 7 rfl lent_nil)) (tri19 k v9.1 s sa6 sn6 sc6 sa3 sn3 sc3 v14 h27) rfl ?_
                  refine o_on rfl rfl ?_
                  refine o_v (v_not rfl) rfl ?_
                  refine o_v (v_pick_f rfl rfl) rfl ?_
                  refine o_v (v_move rfl) rfl ?_
                  refine o_split (t := 84) rfl (fun h28 => ?_) (fun h28 => ?_)
                  · replace hF := ite_t h28 hF
                    refine o_off rfl rfl (by decide) rfl ?_
                    refine o_off rfl rfl (by decide) rfl ?_
                    refine o_off rfl rfl (by decide) rfl ?_
                    refine o_off rfl rfl (by decide) rfl ?_
                    refine o_v (v_pick_t rfl rfl) rfl ?_
                    refine o_nil ?_
                    refine s_st ?_ (hN1 true hF)
                    exact st_le [0, 0, 0, 0, 0, 0] (le_cons rfl (le_cons rfl (le_cons rfl (le_cons rfl (le_cons rfl (le_cons rfl (le_cons rfl (le_cons rfl (le_cons rfl (le_cons rfl (le_cons rfl (le_cons rfl (le_cons rfl le_nil))))))))))))) rfl (sub_cons 4 rfl (sub_cons 5 rfl (sub_cons 6 rfl (sub_cons 7 rfl (sub_cons 0 rfl (sub_cons 1 rfl (sub_cons 2 rfl (sub_cons 3 rfl sub_nil))))))))
                  · replace hF := ite_f h28 hF
                    refine o_on rfl rfl ?_
                    refine o_v (v_load_box 0 ty27 rfl rfl rfl rfl rfl) rfl ?_
                    refine o_on rfl rfl ?_
                    refine o_v (v_load_box 5 ty27 rfl rfl rfl rfl rfl) rfl ?_
                    refine o_on rfl rfl ?_
                    obtain ⟨v15, h29, hF⟩ := bd hF
                    refine o_callSB call19 rfl (lent_f 0 rfl (lent_f 5 rfl lent_nil)) (tri19 k v10.1 t sa7 sn7 sc7 sa1 sn1 sc1 v15 h29) rfl ?_
                    refine o_on rfl rfl ?_
                    refine o_v (v_not rfl) rfl ?_
                    refine o_v (v_pick_f rfl rfl) rfl ?_
                    refine o_nil ?_
                    refine s_st ?_ (hN1 (!v15) hF)
                    exact st_le [0, 0, 0, 0, 0, 0] (le_cons rfl (le_cons rfl (le_cons rfl (le_cons rfl (le_cons rfl (le_cons rfl (le_cons rfl (le_cons rfl (le_cons rfl (le_cons rfl (le_cons rfl (le_cons rfl (le_cons rfl le_nil))))))))))))) rfl (sub_cons 4 rfl (sub_cons 5 rfl (sub_cons 6 rfl (sub_cons 7 rfl (sub_cons 0 rfl (sub_cons 1 rfl (sub_cons 2 rfl (sub_cons 3 rfl sub_nil))))))))
          · intro t89 hF
            unfold F.law09.TreesPut_j1 at hF
            refine sat_wc ?_
            refine c_cond rfl (fun h18 => ?_) (fun h18 => ?_)
            · replace hF := ite_t h18 hF
              refine c_seq ?_
              refine c_region ?_
              refine o_v (v_assign rfl) rfl ?_
              refine o_seq ?_
              refine c_ret ?_
              cases hF
              refine s_ret1 rfl (r_tmp rfl) fun a w hs => ?_
              exact fin_sel hs [] ⟨rfl, rfl, rfl⟩ rfl sub_nil
            · replace hF := ite_f h18 hF
              refine c_skip ?_
              refine sat_wc ?_
              refine c_seq ?_
              refine c_region ?_
              refine o_v (v_load_box 5 ty27 rfl rfl rfl rfl rfl) rfl ?_
              refine o_v (v_move rfl) rfl ?_
              refine o_v (v_load_box 3 ty27 rfl rfl rfl rfl rfl) rfl ?_
              obtain ⟨v11, h19, hF⟩ := bd hF
              refine o_call0 call26 rfl (sub_cons 1 rfl (sub_cons 2 rfl (sub_cons 7 rfl sub_nil))) (tri26 k t path v5.1 sa1 sn1 sc1 sa2 sn2 sc2 sa4 sn4 sc4 v11 h19) rfl ?_
              rintro _ _ _ ⟨sa8, sn8, sc8, rfl, rfl, rfl⟩
              refine o_v (v_move rfl) rfl ?_
              refine o_v (v_extract rfl rfl) rfl ?_
              refine o_v (v_extract rfl rfl) rfl ?_
              refine o_alloc zero27 rfl rfl fun b6 => ?_
              refine o_store_box 0 rfl ty27 rfl rfl rfl rfl rfl rfl rfl ?_
              refine o_v (v_assign rfl) rfl ?_
              refine o_seq ?_
              refine c_seq ?_
              refine c_region ?_
              obtain ⟨v12, h20, hF⟩ := bd hF
              refine o_callSB call15 rfl (lent_f 1 rfl lent_nil) (tri15 k v12 h20) rfl ?_
              refine o_v (v_move rfl) rfl ?_
              refine o_split (t := 98) rfl (fun h21 => ?_) (fun h21 => ?_)
              · replace hF := ite_t h21 hF
                refine o_on rfl rfl ?_
                refine o_v (v_move rfl) rfl ?_
                refine o_on rfl rfl ?_
                refine o_v (v_bin rfl rfl rfl) rfl ?_
                refine o_v (v_pick_t rfl rfl) rfl ?_
                refine o_v (v_move rfl) rfl ?_
                refine o_split (t := 102) rfl (fun h22 => ?_) (fun h22 => ?_)
                · replace hF := ite_t h22 hF
                  refine o_on rfl rfl ?_
                  refine o_v (v_load_box 0 ty27 rfl rfl rfl rfl rfl) rfl ?_
                  refine o_on rfl rfl ?_
                  refine o_v (v_load_box 6 ty27 rfl rfl rfl rfl rfl) rfl ?_
                  refine o_on rfl rfl ?_
                  obtain ⟨v13, h23, hF⟩ := bd hF
                  refine o_callSB call19 rfl (lent_f 0 rfl (lent_f 2 rfl lent_nil)) (tri19 k v11.1 t sa8 sn8 sc8 sa1 sn1 sc1 v13 h23) rfl ?_
                  refine o_v (v_pick_t rfl rfl) rfl ?_
                  refine o_v (v_assign rfl) rfl ?_
                  refine o_seq ?_
                  refine c_ret ?_
                  cases hF
                  refine s_ret1 rfl (r_tmp rfl) fun a w hs => ?_
                  exact fin_sel hs [] ⟨rfl, rfl, rfl⟩ rfl sub_nil
                · replace hF := ite_f h22 hF
                  refine o_off rfl rfl (by decide) rfl ?_
                  refine o_off rfl rfl (by decide) rfl ?_
                  refine o_off rfl rfl (by decide) rfl ?_
                  refine o_v (v_pick_f rfl rfl) rfl ?_
                  refine o_v (v_assign rfl) rfl ?_
                  refine o_seq ?_
                  refine c_ret ?_
                  cases hF
                  refine s_ret1 rfl (r_tmp rfl) fun a w hs => ?_
                  exact fin_sel hs [] ⟨rfl, rfl, rfl⟩ rfl sub_nil
              · replace hF := ite_f h21 hF
                refine o_off rfl rfl (by decide) rfl ?_
                refine o_off rfl rfl (by decide) rfl ?_
                refine o_v (v_pick_f rfl rfl) rfl ?_
                refine o_v (v_move rfl) rfl ?_
                refine o_off rfl rfl (by decide) rfl ?_
                refine o_off rfl rfl (by decide) rfl ?_
                refine o_off rfl rfl (by decide) rfl ?_
                refine o_v (v_pick_f rfl rfl) rfl ?_
                refine o_v (v_assign rfl) rfl ?_
                refine o_seq ?_
                refine c_ret ?_
                cases hF
                refine s_ret1 rfl (r_tmp rfl) fun a w hs => ?_
                exact fin_sel hs [] ⟨rfl, rfl, rfl⟩ rfl sub_nil
theorem tri9 (k : Nat) (g_ : Gram) (t : Tree) (path : List Int) (s : Tree) (sa1 : Option Addr) (sn1 sc1 : Nat) (sa2 : Option Addr) (sn2 sc2 : Nat) (sa3 : Option Addr) (sn3 sc3 : Nat) (sa4 : Option Addr) (sn4 sc4 : Nat) (r : Bool) (hF : F.law09.TreesStay k g_ t path s = some r) :
    Tri Tryd.prog 9 [.agg #[.int .i64 g_.Nts, .int .i64 g_.Start, .slice sa1 sn1 sc1], .agg #[.int .i64 t.Rule, .int .u8 t.Byte, .slice sa2 sn2 sc2], .slice sa3 sn3 sc3, .agg #[.int .i64 s.Rule, .int .u8 s.Byte, .slice sa4 sn4 sc4]] [] [gf10 0, (.slice sa1 sn1 sc1, .slice 2 (g_.Rules.map eRule)), (.slice sa2 sn2 sc2, .slice 3 (t.Kids.map eTree)), (.slice sa3 sn3 sc3, .slice 1 (path.map eI64)), (.slice sa4 sn4 sc4, .slice 3 (s.Kids.map eTree))] (fun o H Φ => o = .ret (.bool r) ∧ H = [] ∧ Φ = []) := by
  unfold F.law09.TreesStay at hF
  refine tri_intro (n := 110) Tryd.func9 rfl Tryd.ntmps9 rfl fun w X => ?_
  refine c_seq ?_
  refine c_region ?_
  refine o_box rfl rfl rfl fun b => ?_
  refine o_box rfl rfl rfl fun b1 => ?_
  refine o_box rfl rfl rfl fun b2 => ?_
  refine o_v (v_assign rfl) rfl ?_
  refine o_seq ?_
  refine c_seq ?_
  refine c_seq ?_
  refine c_cut (fun E N' => ∀ (t29 : Bool), F.law09.TreesStay_j1 k g_ t path s t29 = some r → Sat E [(0, .agg #[.int .i64 g_.Nts, .int .i64 g_.Start, .slice sa1 sn1 sc1]), (1, .agg #[.int .i64 t.Rule, .int .u8 t.Byte, .slice sa2 sn2 sc2]), (2, .slice sa3 sn3 sc3), (3, .agg #[.int .i64 s.Rule, .int .u8 s.Byte, .slice sa4 sn4 sc4]), (4, .pointer (some ⟨b, 0, none⟩)), (5, .pointer (some ⟨b1, 0, none⟩)), (7, .pointer (some ⟨b2, 0, none⟩)), (8, .bool false), (29, .bool t29)] [.box b2 27 [.int .i64 s.Rule, .int .u8 s.Byte, .slice sa4 sn4 sc4], .box b1 27 [.int .i64 t.Rule, .int .u8 t.Byte, .slice sa2 sn2 sc2], .box b 24 [.int .i64 g_.Nts, .int .i64 g_.Start, .slice sa1 sn1 sc1]] [gf10 0, (.slice sa1 sn1 sc1, .slice 2 (g_.Rules.map eRule)), (.slice sa2 sn2 sc2, .slice 3 (t.Kids.map eTree)), (.slice sa3 sn3 sc3, .slice 1 (path.map eI64)), (.slice sa4 sn4 sc4, .slice 3 (s.Kids.map eTree))] N') (fun N3 hN3 => ?_) ?_
  · refine c_region ?_
    refine o_v (v_load_box 1 ty27 rfl rfl rfl rfl rfl) rfl ?_
    obtain ⟨v10, h22, hF⟩ := bd hF
    refine o_callSB call13 rfl (lent_f 2 rfl lent_nil) (tri13 k t sa2 sn2 sc2 v10 h22) rfl ?_
    refine o_v (v_move rfl) rfl ?_
    refine o_split (t := 17) rfl (fun h23 => ?_) (fun h23 => ?_)
    · replace hF := ite_t h23 hF
      refine o_off rfl rfl (by decide) rfl ?_
      refine o_off rfl rfl (by decide) rfl ?_
      refine o_v (v_pick_t rfl rfl) rfl ?_
      refine o_v (v_move rfl) rfl ?_
      refine o_off rfl rfl (by decide) rfl ?_
      refine o_off rfl rfl (by decide) rfl ?_
      refine o_v (v_pick_t rfl rfl) rfl ?_
      refine o_v (v_move rfl) rfl ?_
      refine o_off rfl rfl (by decide) rfl ?_
      refine o_off rfl rfl (by decide) rfl ?_
      refine o_off rfl rfl (by decide) rfl ?_
      refine o_v (v_pick_t rfl rfl) rfl ?_
      refine o_nil ?_
      refine s_st ?_ (hN3 true hF)
      exact st_le [0, 0, 0] (le_cons rfl (le_cons rfl (le_cons rfl (le_cons rfl (le_cons rfl (le_cons rfl (le_cons rfl (le_cons rfl (le_cons rfl le_nil))))))))) rfl (sub_cons 0 rfl (sub_cons 1 rfl (sub_cons 2 rfl (sub_cons 3 rfl (sub_cons 4 rfl sub_nil)))))
    · replace hF := ite_f h23 hF
      refine o_on rfl rfl ?_
      refine o_v (v_load_box 0 ty27 rfl rfl rfl rfl rfl) rfl ?_
      refine o_on rfl rfl ?_
      obtain ⟨v11, h24, hF⟩ := bd hF
      refine o_callSB call13 rfl (lent_f 4 rfl lent_nil) (tri13 k s sa4 sn4 sc4 v11 h24) rfl ?_
      refine o_v (v_pick_f rfl rfl) rfl ?_
      refine o_v (v_move rfl) rfl ?_
      refine o_split (t := 21) rfl (fun h25 => ?_) (fun h25 => ?_)
      · replace hF := ite_t h25 hF
        refine o_off rfl rfl (by decide) rfl ?_
        refine o_off rfl rfl (by decide) rfl ?_
        refine o_v (v_pick_t rfl rfl) rfl ?_
        refine o_v (v_move rfl) rfl ?_
        refine o_off rfl rfl (by decide) rfl ?_
        refine o_off rfl rfl (by decide) rfl ?_
        refine o_off rfl rfl (by decide) rfl ?_
        refine o_v (v_pick_t rfl rfl) rfl ?_
        refine o_nil ?_
        refine s_st ?_ (hN3 true hF)
        exact st_le [0, 0, 0] (le_cons rfl (le_cons rfl (le_cons rfl (le_cons rfl (le_cons rfl (le_cons rfl (le_cons rfl (le_cons rfl (le_cons rfl le_nil))))))))) rfl (sub_cons 0 rfl (sub_cons 1 rfl (sub_cons 2 rfl (sub_cons 3 rfl (sub_cons 4 rfl sub_nil)))))
      · replace hF := ite_f h25 hF
        refine o_on rfl rfl ?_
        refine o_v (v_load_box 2 ty24 rfl rfl rfl rfl rfl) rfl ?_
        refine o_on rfl rfl ?_
        obtain ⟨v12, h26, hF⟩ := bd hF
        refine o_callSB call14 rfl (lent_f 1 rfl lent_nil) (tri14 k g_ 500 sa1 sn1 sc1 v12 h26) rfl ?_
        refine o_v (v_pick_f rfl rfl) rfl ?_
        refine o_v (v_move rfl) rfl ?_
        refine o_split (t := 25) rfl (fun h27 => ?_) (fun h27 => ?_)
        · replace hF := ite_t h27 hF
          refine o_off rfl rfl (by decide) rfl ?_
          refine o_off rfl rfl (by decide) rfl ?_
          refine o_off rfl rfl (by decide) rfl ?_
          refine o_v (v_pick_t rfl rfl) rfl ?_
          refine o_nil ?_
          refine s_st ?_ (hN3 true hF)
          exact st_le [0, 0, 0] (le_cons rfl (le_cons rfl (le_cons rfl (le_cons rfl (le_cons rfl (le_cons rfl (le_cons rfl (le_cons rfl (le_cons rfl le_nil))))))))) rfl (sub_cons 0 rfl (sub_cons 1 rfl (sub_cons 2 rfl (sub_cons 3 rfl (sub_cons 4 rfl sub_nil)))))
        · replace hF := ite_f h27 hF
          refine o_on rfl rfl ?_
          refine o_v (v_move rfl) rfl ?_
          refine o_on rfl rfl ?_
          refine o_v (v_lenS (enc := eI64) path sl44 rfl (.f 3 rfl)) rfl ?_
          refine o_on rfl rfl ?_
          refine o_v (v_bin rfl rfl rfl) rfl ?_
          refine o_v (v_pick_f rfl rfl) rfl ?_
          refine o_nil ?_
          refine s_st ?_ (hN3 (decide (1000 < (path.length : Int))) hF)
          exact st_le [0, 0, 0] (le_cons rfl (le_cons rfl (le_cons rfl (le_cons rfl (le_cons rfl (le_cons rfl (le_cons rfl (le_cons rfl (le_cons rfl le_nil))))))))) rfl (sub_cons 0 rfl (sub_cons 1 rfl (sub_cons 2 rfl (sub_cons 3 rfl (sub_cons 4 rfl sub_nil)))))
  · intro t29 hF
    unfold F.law09.TreesStay_j1 at hF
    refine sat_wc ?_
    refine c_cond rfl (fun h1 => ?_) (fun h1 => ?_)
    · replace hF := ite_t h1 hF
      refine c_seq ?_
      refine c_region ?_
      obtain ⟨v, h2, hF⟩ := bd hF
      refine o_callSB call15 rfl (lent_f 0 rfl lent_nil) (tri15 k v h2) rfl ?_
      refine o_v (v_assign rfl) rfl ?_
      refine o_seq ?_
      refine c_ret ?_
      cases hF
      refine s_ret1 rfl (r_tmp rfl) fun a w hs => ?_
      exact fin_sel hs [] ⟨rfl, rfl, rfl⟩ rfl sub_nil
    · replace hF := ite_f h1 hF
      refine c_skip ?_
      refine sat_wc ?_
      refine c_seq ?_
      refine c_seq ?_
      refine c_region ?_
      refine o_v (v_load_box 2 ty24 rfl rfl rfl rfl rfl) rfl ?_
      refine o_v (v_fieldAddr (v := .pointer (some ⟨b, 1, none⟩)) rfl (fun _ => by kernel_rfl)) rfl ?_
      refine o_v (v_load_box 2 ty3 rfl rfl rfl rfl rfl) rfl ?_
      refine o_v (v_load_box 1 ty27 rfl rfl rfl rfl rfl) rfl ?_
      obtain ⟨v1, h3, hF⟩ := bd hF
      refine o_callSB call17 rfl (lent_f 1 rfl (lent_f 2 rfl lent_nil)) (tri17 k g_ g_.Start t sa1 sn1 sc1 sa2 sn2 sc2 v1 h3) rfl ?_
      refine o_v (v_bin rfl rfl rfl) rfl ?_
      refine o_seq ?_
      refine c_cond rfl (fun h4 => ?_) (fun h4 => ?_)
      · replace hF := ite_t h4 hF
        refine c_seq ?_
        refine c_region ?_
        obtain ⟨v2, h5, hF⟩ := bd hF
        refine o_callSB call15 rfl (lent_f 0 rfl lent_nil) (tri15 k v2 h5) rfl ?_
        refine o_v (v_assign rfl) rfl ?_
        refine o_seq ?_
        refine c_ret ?_
        cases hF
        refine s_ret1 rfl (r_tmp rfl) fun a w hs => ?_
        exact fin_sel hs [] ⟨rfl, rfl, rfl⟩ rfl sub_nil
      · replace hF := ite_f h4 hF
        refine c_skip ?_
        refine sat_wc ?_
        refine c_seq ?_
        refine c_region ?_
        refine o_v (v_load_box 1 ty27 rfl rfl rfl rfl rfl) rfl ?_
        refine o_v (v_move rfl) rfl ?_
        obtain ⟨v3, h6, hF⟩ := bd hF
        refine o_call0 call24 rfl (sub_cons 2 rfl (sub_cons 3 rfl sub_nil)) (tri24 k t path sa2 sn2 sc2 sa3 sn3 sc3 v3 h6) rfl ?_
        rintro _ _ _ ⟨sa5, sn5, sc5, rfl, rfl, rfl⟩
        refine o_v (v_move rfl) rfl ?_
        refine o_v (v_extract rfl rfl) rfl ?_
        refine o_v (v_extract rfl rfl) rfl ?_
        refine o_alloc zero27 rfl rfl fun b3 => ?_
        refine o_store_box 0 rfl ty27 rfl rfl rfl rfl rfl rfl rfl ?_
        refine o_v (v_assign rfl) rfl ?_
        refine o_seq ?_
        refine c_seq ?_
        refine c_seq ?_
        refine c_cut (fun E N' => ∀ (t58 : Bool), F.law09.TreesStay_j2 k v3 g_ t path s t58 = some r → Sat E [(0, .agg #[.int .i64 g_.Nts, .int .i64 g_.Start, .slice sa1 sn1 sc1]), (1, .agg #[.int .i64 t.Rule, .int .u8 t.Byte, .slice sa2 sn2 sc2]), (2, .slice sa3 sn3 sc3), (3, .agg #[.int .i64 s.Rule, .int .u8 s.Byte, .slice sa4 sn4 sc4]), (4, .pointer (some ⟨b, 0, none⟩)), (5, .pointer (some ⟨b1, 0, none⟩)), (7, .pointer (some ⟨b2, 0, none⟩)), (8, .bool false), (9, .pointer (some ⟨b3, 0, none⟩)), (10, .int .i64 v3.2), (58, .bool t58)] [.box b3 27 [.int .i64 v3.1.Rule, .int .u8 v3.1.Byte, .slice sa5 sn5 sc5], .box b2 27 [.int .i64 s.Rule, .int .u8 s.Byte, .slice sa4 sn4 sc4], .box b1 27 [.int .i64 t.Rule, .int .u8 t.Byte, .slice sa2 sn2 sc2], .box b 24 [.int .i64 g_.Nts, .int .i64 g_.Start, .slice sa1 sn1 sc1]] [gf10 0, (.slice sa1 sn1 sc1, .slice 2 (g_.Rules.map eRule)), (.slice sa2 sn2 sc2, .slice 3 (t.Kids.map eTree)), (.slice sa3 sn3 sc3, .slice 1 (path.map eI64)), (.slice sa4 sn4 sc4, .slice 3 (s.Kids.map eTree)), (.slice sa5 sn5 sc5, .slice 3 (v3.1.Kids.map eTree))] N') (fun N3 hN3 => ?_) ?_
        · refine c_region ?_
          refine o_v (v_move rfl) rfl ?_
          refine o_v (v_bin rfl rfl rfl) rfl ?_
          refine o_v (v_move rfl) rfl ?_
          refine o_split (t := 46) rfl (fun h20 => ?_) (fun h20 => ?_)
          · replace hF := ite_t h20 hF
            refine o_off rfl rfl (by decide) rfl ?_
            refine o_off rfl rfl (by decide) rfl ?_
            refine o_off rfl rfl (by decide) rfl ?_
            refine o_v (v_pick_t rfl rfl) rfl ?_
            refine o_v (v_move rfl) rfl ?_
            refine o_off rfl rfl (by decide) rfl ?_
            refine o_off rfl rfl (by decide) rfl ?_
            refine o_off rfl rfl (by decide) rfl ?_
            refine o_off rfl rfl (by decide) rfl ?_
            refine o_off rfl rfl (by decide) rfl ?_
            refine o_off rfl rfl (by decide) rfl ?_
            refine o_v (v_pick_t rfl rfl) rfl ?_
            refine o_nil ?_
            refine s_st ?_ (hN3 true hF)
            exact st_le [0, 0, 0, 0] (le_cons rfl (le_cons rfl (le_cons rfl (le_cons rfl (le_cons rfl (le_cons rfl (le_cons rfl (le_cons rfl (le_cons rfl (le_cons rfl (le_cons rfl le_nil))))))))))) rfl (sub_cons 1 rfl (sub_cons 2 rfl (sub_cons 3 rfl (sub_cons 4 rfl (sub_cons 5 rfl (sub_cons 0 rfl sub_nil))))))
          · replace hF := ite_f h20 hF
            refine o_on rfl rfl ?_
            refine o_v (v_fieldAddr (v := .pointer (some ⟨b3, 0, none⟩)) rfl (fun _ => by kernel_rfl)) rfl ?_
            refine o_on rfl rfl ?_
            refine o_v (v_load_box 0 ty3 rfl rfl rfl rfl rfl) rfl ?_
            refine o_on rfl rfl ?_
            refine o_v (v_bin rfl rfl rfl) rfl ?_
            refine o_v (v_pick_f rfl rfl) rfl ?_
            refine o_v (v_move rfl) rfl ?_
            refine o_split (t := 51) rfl (fun h21 => ?_) (fun h21 => ?_)
            · replace hF := ite_t h21 hF
              refine o_off rfl rfl (by decide) rfl ?_
              refine o_off rfl rfl (by decide) rfl ?_
              refine o_off rfl rfl (by decide) rfl ?_
              refine o_off rfl rfl (by decide) rfl ?_
              refine o_off rfl rfl (by decide) rfl ?_
              refine o_off rfl rfl (by decide) rfl ?_
              refine o_v (v_pick_t rfl rfl) rfl ?_
              refine o_nil ?_
              refine s_st ?_ (hN3 true hF)
              exact st_le [0, 0, 0, 0] (le_cons rfl (le_cons rfl (le_cons rfl (le_cons rfl (le_cons rfl (le_cons rfl (le_cons rfl (le_cons rfl (le_cons rfl (le_cons rfl (le_cons rfl le_nil))))))))))) rfl (sub_cons 1 rfl (sub_cons 2 rfl (sub_cons 3 rfl (sub_cons 4 rfl (sub_cons 5 rfl (sub_cons 0 rfl sub_nil))))))
            · replace hF := ite_f h21 hF
              refine o_on rfl rfl ?_
              refine o_v (v_fieldAddr (v := .pointer (some ⟨b3, 0, none⟩)) rfl (fun _ => by kernel_rfl)) rfl ?_
              refine o_on rfl rfl ?_
              refine o_v (v_load_box 0 ty3 rfl rfl rfl rfl rfl) rfl ?_
              refine o_on rfl rfl ?_
              refine o_v (v_fieldAddr (v := .pointer (some ⟨b, 2, none⟩)) rfl (fun _ => by kernel_rfl)) rfl ?_
              refine o_on rfl rfl ?_
              refine o_v (v_load_box 3 ty22 rfl rfl rfl rfl rfl) rfl ?_
              refine o_on rfl rfl ?_
              refine o_v (v_lenS (enc := eRule) g_.Rules sl22 rfl (.f 2 rfl)) rfl ?_
              refine o_on rfl rfl ?_
              refine o_v (v_bin rfl rfl rfl) rfl ?_
              refine o_v (v_pick_f rfl rfl) rfl ?_
              refine o_nil ?_
              refine s_st ?_ (hN3 (decide ((g_.Rules.length : Int) ≤ v3.1.Rule)) hF)
              exact st_le [0, 0, 0, 0] (le_cons rfl (le_cons rfl (le_cons rfl (le_cons rfl (le_cons rfl (le_cons rfl (le_cons rfl (le_cons rfl (le_cons rfl (le_cons rfl (le_cons rfl le_nil))))))))))) rfl (sub_cons 1 rfl (sub_cons 2 rfl (sub_cons 3 rfl (sub_cons 4 rfl (sub_cons 5 rfl (sub_cons 0 rfl sub_nil))))))
        · intro t58 hF
          unfold F.law09.TreesStay_j2 at hF
          refine sat_wc ?_
          refine c_cond rfl (fun h7 => ?_) (fun h7 => ?_)
          · replace hF := ite_t h7 hF
            refine c_seq ?_
            refine c_region ?_
            obtain ⟨v4, h8, hF⟩ := bd hF
            refine o_callSB call15 rfl (lent_f 0 rfl lent_nil) (tri15 k v4 h8) rfl ?_
            refine o_v (v_move rfl) rfl ?_
            refine o_split (t := 60) rfl (fun h9 => ?_) (fun h9 => ?_)
            · replace hF := ite_t h9 hF
              refine o_on rfl rfl ?_
              refine o_v (v_move rfl) rfl ?_
              refine o_on rfl rfl ?_
              refine o_v (v_bin rfl rfl rfl) rfl ?_
              refine o_on rfl rfl ?_
              refine o_v (v_move rfl) rfl ?_
              refine o_split (t := 63) rfl (fun h10 => ?_) (fun h10 => ?_)
              · replace hF := ite_t h10 hF
                refine o_off rfl rfl (by decide) rfl ?_
                refine o_off rfl rfl (by decide) rfl ?_
                refine o_off rfl rfl (by decide) rfl ?_
                refine o_on rfl rfl ?_
                refine o_v (v_pick_t rfl rfl) rfl ?_
                refine o_v (v_pick_t rfl rfl) rfl ?_
                refine o_v (v_assign rfl) rfl ?_
                refine o_seq ?_
                refine c_ret ?_
                cases hF
                refine s_ret1 rfl (r_tmp rfl) fun a w hs => ?_
                exact fin_sel hs [] ⟨rfl, rfl, rfl⟩ rfl sub_nil
              · replace hF := ite_f h10 hF
                refine o_on rfl rfl ?_
                refine o_v (v_fieldAddr (v := .pointer (some ⟨b3, 0, none⟩)) rfl (fun _ => by kernel_rfl)) rfl ?_
                refine o_on rfl rfl ?_
                refine o_v (v_load_box 0 ty3 rfl rfl rfl rfl rfl) rfl ?_
                refine o_on rfl rfl ?_
                refine o_v (v_bin rfl rfl rfl) rfl ?_
                refine o_on rfl rfl ?_
                refine o_v (v_pick_f rfl rfl) rfl ?_
                refine o_v (v_pick_t rfl rfl) rfl ?_
                refine o_v (v_assign rfl) rfl ?_
                refine o_seq ?_
                refine c_ret ?_
                cases hF
                refine s_ret1 rfl (r_tmp rfl) fun a w hs => ?_
                exact fin_sel hs [] ⟨rfl, rfl, rfl⟩ rfl sub_nil
            · replace hF := ite_f h9 hF
              refine o_off rfl rfl (by decide) rfl ?_
              refine o_off rfl rfl (by decide) rfl ?_
              refine o_off rfl rfl (by decide) rfl ?_
              refine o_offU rfl rfl rfl ?_
              refine o_offU rfl rfl rfl ?_
              refine o_offU rfl rfl rfl ?_
              refine o_off rfl rfl (by decide) rfl ?_
              refine o_v (v_pick_f rfl rfl) rfl ?_
              refine o_v (v_assign rfl) rfl ?_
              refine o_seq ?_
              refine c_ret ?_
              cases hF
              refine s_ret1 rfl (r_tmp rfl) fun a w hs => ?_
              exact fin_sel hs [] ⟨rfl, rfl, rfl⟩ rfl sub_nil
          · replace hF := ite_f h7 hF
            refine c_skip ?_
            refine sat_wc ?_
            refine c_seq ?_
            refine c_region ?_
            refine o_v (v_fieldAddr (v := .pointer (some ⟨b, 2, none⟩)) rfl (fun _ => by kernel_rfl)) rfl ?_
            refine o_v (v_load_box 3 ty22 rfl rfl rfl rfl rfl) rfl ?_
            refine o_v (v_fieldAddr (v := .pointer (some ⟨b3, 0, none⟩)) rfl (fun _ => by kernel_rfl)) rfl ?_
            refine o_v (v_load_box 0 ty3 rfl rfl rfl rfl rfl) rfl ?_
            refine ite_some hF fun h11 hF => ?_
            refine o_v (v_indexAddr_s (xs := g_.Rules) (enc := eRule) sl22 rfl rfl (.f 1 rfl) h11) rfl ?_
            refine o_v (v_fieldAddr (v := .pointer (some ⟨blkA sa1, offA sa1 + (Int.toNat v3.1.Rule * 2 + 0), none⟩)) rfl (fun _ => by kernel_rfl)) rfl ?_
            refine o_v (v_load_s (xs := g_.Rules) (enc := eRule) ty3 rfl (.f 1 rfl) h11 rfl rfl rfl rfl rfl rfl rfl) rfl ?_
            refine o_v (v_assign rfl) rfl ?_
            refine o_seq ?_
            refine c_seq ?_
            refine c_region ?_
            refine o_v (v_load_box 2 ty27 rfl rfl rfl rfl rfl) rfl ?_
            refine o_v (v_move rfl) rfl ?_
            refine o_v (v_load_box 1 ty27 rfl rfl rfl rfl rfl) rfl ?_
            obtain ⟨v5, h12, hF⟩ := bd hF
            refine o_call0 call26 rfl (sub_cons 2 rfl (sub_cons 3 rfl (sub_cons 4 rfl sub_nil))) (tri26 k t path s sa2 sn2 sc2 sa3 sn3 sc3 sa4 sn4 sc4 v5 h12) rfl ?_
            rintro _ _ _ ⟨sa6, sn6, sc6, rfl, rfl, rfl⟩
            refine o_v (v_move rfl) rfl ?_
            refine o_v (v_extract rfl rfl) rfl ?_
            refine o_v (v_extract rfl rfl) rfl ?_
            refine o_alloc zero27 rfl rfl fun b4 => ?_
            refine o_store_box 0 rfl ty27 rfl rfl rfl rfl rfl rfl rfl ?_
            refine o_v (v_assign rfl) rfl ?_
            refine o_seq ?_
            refine c_seq ?_
            refine c_region ?_
            refine o_v (v_load_box 4 ty24 rfl rfl rfl rfl rfl) rfl ?_
            refine o_v (v_move rfl) rfl ?_
            refine o_v (v_load_box 2 ty27 rfl rfl rfl rfl rfl) rfl ?_
            obtain ⟨v6, h13, hF⟩ := bd hF
            refine o_callSB call17 rfl (lent_f 2 rfl (lent_f 5 rfl lent_nil)) (tri17 k g_ ((at_ g_.Rules v3.1.Rule).Lhs) s sa1 sn1 sc1 sa4 sn4 sc4 v6 h13) rfl ?_
            refine o_v (v_bin rfl rfl rfl) rfl ?_
            refine o_v (v_assign rfl) rfl ?_
            refine o_seq ?_
            refine c_seq ?_
            refine c_cut (fun E N' => ∀ (t8 : Bool), F.law09.TreesStay_j3 t8 = some r → Sat E [(0, .agg #[.int .i64 g_.Nts, .int .i64 g_.Start, .slice sa1 sn1 sc1]), (1, .agg #[.int .i64 t.Rule, .int .u8 t.Byte, .slice sa2 sn2 sc2]), (2, .slice sa3 sn3 sc3), (3, .agg #[.int .i64 s.Rule, .int .u8 s.Byte, .slice sa4 sn4 sc4]), (4, .pointer (some ⟨b, 0, none⟩)), (5, .pointer (some ⟨b1, 0, none⟩)), (7, .pointer (some ⟨b2, 0, none⟩)), (8, .bool t8), (9, .pointer (some ⟨b3, 0, none⟩)), (10, .int .i64 v3.2), (11, .int .i64 ((at_ g_.Rules v3.1.Rule).Lhs)), (12, .pointer (some ⟨b4, 0, none⟩))] [.box b4 27 [.int .i64 v5.1.Rule, .int .u8 v5.1.Byte, .slice sa6 sn6 sc6], .box b3 27 [.int .i64 v3.1.Rule, .int .u8 v3.1.Byte, .slice sa5 sn5 sc5], .box b2 27 [.int .i64 s.Rule, .int .u8 s.Byte, .slice sa4 sn4 sc4], .box b1 27 [.int .i64 t.Rule, .int .u8 t.Byte, .slice sa2 sn2 sc2], .box b 24 [.int .i64 g_.Nts, .int .i64 g_.Start, .slice sa1 sn1 sc1]] [gf10 0, (.slice sa1 sn1 sc1, .slice 2 (g_.Rules.map eRule)), (.slice sa2 sn2 sc2, .slice 3 (t.Kids.map eTree)), (.slice sa3 sn3 sc3, .slice 1 (path.map eI64)), (.slice sa4 sn4 sc4, .slice 3 (s.Kids.map eTree)), (.slice sa6 sn6 sc6, .slice 3 (v5.1.Kids.map eTree)), (.slice sa5 sn5 sc5, .slice 3 (v3.1.Kids.map eTree))] N') (fun N3 hN3 => ?_) ?_
            · refine c_region ?_
              obtain ⟨v7, h14, hF⟩ := bd hF
              refine o_callSB call15 rfl (lent_f 1 rfl lent_nil) (tri15 k v7 h14) rfl ?_
              refine o_v (v_move rfl) rfl ?_
              refine o_split (t := 89) rfl (fun h15 => ?_) (fun h15 => ?_)
              · replace hF := ite_t h15 hF
                refine o_on rfl rfl ?_
                refine o_v (v_move rfl) rfl ?_
                refine o_on rfl rfl ?_
                refine o_v (v_bin rfl rfl rfl) rfl ?_
                refine o_v (v_pick_t rfl rfl) rfl ?_
                refine o_v (v_move rfl) rfl ?_
                refine o_split (t := 93) rfl (fun h16 => ?_) (fun h16 => ?_)
                · replace hF := ite_t h16 hF
                  refine o_on rfl rfl ?_
                  refine o_v (v_load_box 4 ty24 rfl rfl rfl rfl rfl) rfl ?_
                  refine o_on rfl rfl ?_
                  refine o_v (v_move rfl) rfl ?_
                  refine o_on rfl rfl ?_
                  refine o_v (v_load_box 1 ty27 rfl rfl rfl rfl rfl) rfl ?_
                  refine o_on rfl rfl ?_
                  obtain ⟨v8, h17, hF⟩ := bd hF
                  refine o_callSB call17 rfl (lent_f 2 rfl (lent_f 6 rfl lent_nil)) (tri17 k g_ ((at_ g_.Rules v3.1.Rule).Lhs) v3.1 sa1 sn1 sc1 sa5 sn5 sc5 v8 h17) rfl ?_
                  refine o_on rfl rfl ?_
                  refine o_v (v_bin rfl rfl rfl) rfl ?_
                  refine o_v (v_pick_t rfl rfl) rfl ?_
                  refine o_v (v_move rfl) rfl ?_
                  refine o_split (t := 100) rfl (fun h18 => ?_) (fun h18 => ?_)
                  · replace hF := ite_t h18 hF
                    refine o_on rfl rfl ?_
                    refine o_v (v_load_box 4 ty24 rfl rfl rfl rfl rfl) rfl ?_
                    refine o_on rfl rfl ?_
                    refine o_v (v_fieldAddr (v := .pointer (some ⟨b, 1, none⟩)) rfl (fun _ => by kernel_rfl)) rfl ?_
                    refine o_on rfl rfl ?_
                    refine o_v (v_load_box 4 ty3 rfl rfl rfl rfl rfl) rfl ?_
                    refine o_on rfl rfl ?_
                    refine o_v (v_load_box 0 ty27 rfl rfl rfl rfl rfl) rfl ?_
                    refine o_on rfl rfl ?_
                    obtain ⟨v9, h19, hF⟩ := bd hF
                    refine o_callSB call17 rfl (lent_f 2 rfl (lent_f 0 rfl lent_nil)) (tri17 k g_ g_.Start v5.1 sa1 sn1 sc1 sa6 sn6 sc6 v9 h19) rfl ?_
                    refine o_on rfl rfl ?_
                    refine o_v (v_bin rfl rfl rfl) rfl ?_
                    refine o_on rfl rfl ?_
                    refine o_v (v_move rfl) rfl ?_
                    refine o_on rfl rfl ?_
                    refine o_v (v_booleq rfl rfl Tryd.underlying4) rfl ?_
                    refine o_v (v_pick_t rfl rfl) rfl ?_
                    refine o_v (v_assign rfl) rfl ?_
                    refine o_nil ?_
                    refine s_st ?_ (hN3 ((v9 == 0) == (v6 == 0)) hF)
                    exact st_le [0, 0, 0, 0, 0] (le_cons rfl (le_cons rfl (le_cons rfl (le_cons rfl (le_cons rfl (le_cons rfl (le_cons rfl (le_cons rfl (le_cons rfl (le_cons rfl (le_cons rfl (le_cons rfl le_nil)))))))))))) rfl (sub_cons 1 rfl (sub_cons 2 rfl (sub_cons 3 rfl (sub_cons 4 rfl (sub_cons 5 rfl (sub_cons 0 rfl (sub_cons 6 rfl sub_nil)))))))
                  · replace hF := ite_f h18 hF
                    refine o_off rfl rfl (by decide) rfl ?_
                    refine o_off rfl rfl (by decide) rfl ?_
                    refine o_off rfl rfl (by decide) rfl ?_
                    refine o_off rfl rfl (by decide) rfl ?_
                    refine o_off rfl rfl (by decide) rfl ?_
                    refine o_off rfl rfl (by decide) rfl ?_
                    refine o_off rfl rfl (by decide) rfl ?_
                    refine o_off rfl rfl (by decide) rfl ?_
                    refine o_v (v_pick_f rfl rfl) rfl ?_
                    refine o_v (v_assign rfl) rfl ?_
                    refine o_nil ?_
                    refine s_st ?_ (hN3 false hF)
                    exact st_le [0, 0, 0, 0, 0] (le_cons rfl (le_cons rfl (le_cons rfl (le_cons rfl (le_cons rfl (le_cons rfl (le_cons rfl (le_cons rfl (le_cons rfl (le_cons rfl (le_cons rfl (le_cons rfl le_nil)))))))))))) rfl (sub_cons 1 rfl (sub_cons 2 rfl (sub_cons 3 rfl (sub_cons 4 rfl (sub_cons 5 rfl (sub_cons 0 rfl (sub_cons 6 rfl sub_nil)))))))
                · replace hF := ite_f h16 hF
                  refine o_off rfl rfl (by decide) rfl ?_
                  refine o_off rfl rfl (by decide) rfl ?_
                  refine o_off rfl rfl (by decide) rfl ?_
                  refine o_off rfl rfl (by decide) rfl ?_
                  refine o_off rfl rfl (by decide) rfl ?_
                  refine o_v (v_pick_f rfl rfl) rfl ?_
                  refine o_v (v_move rfl) rfl ?_
                  refine o_off rfl rfl (by decide) rfl ?_
                  refine o_off rfl rfl (by decide) rfl ?_
                  refine o_off rfl rfl (by decide) rfl ?_
                  refine o_off rfl rfl (by decide) rfl ?_
                  refine o_off rfl rfl (by decide) rfl ?_
                  refine o_off rfl rfl (by decide) rfl ?_
                  refine o_off rfl rfl (by decide) rfl ?_
                  refine o_off rfl rfl (by decide) rfl ?_
                  refine o_v (v_pick_f rfl rfl) rfl ?_
                  refine o_v (v_assign rfl) rfl ?_
                  refine o_nil ?_
                  refine s_st ?_ (hN3 false hF)
                  exact st_le [0, 0, 0, 0, 0] (le_cons rfl (le_cons rfl (le_cons rfl (le_cons rfl (le_cons rfl (le_cons rfl (le_cons rfl (le_cons rfl (le_cons rfl (le_cons rfl (le_cons rfl (le_cons rfl le_nil)))))))))))) rfl (sub_cons 1 rfl (sub_cons 2 rfl (sub_cons 3 rfl (sub_cons 4 rfl (sub_cons 5 rfl (sub_cons 0 rfl (sub_cons 6 rfl sub_nil)))))))
              · replace hF := ite_f h15 hF
                refine o_off rfl rfl (by decide) rfl ?_
                refine o_off rfl rfl (by decide) rfl ?_
                refine o_v (v_pick_f rfl rfl) rfl ?_
                refine o_v (v_move rfl) rfl ?_
                refine o_off rfl rfl (by decide) rfl ?_
                refine o_off rfl rfl (by decide) rfl ?_
                refine o_off rfl rfl (by decide) rfl ?_
                refine o_off rfl rfl (by decide) rfl ?_
                refine o_off rfl rfl (by decide) rfl ?_
                refine o_v (v_pick_f rfl rfl) rfl ?_
                refine o_v (v_move rfl) rfl ?_
                refine o_off rfl rfl (by decide) rfl ?_
                refine o_off rfl rfl (by decide) rfl ?_
                refine o_off rfl rfl (by decide) rfl ?_
                refine o_off rfl rfl (by decide) rfl ?_
                refine o_off rfl rfl (by decide) rfl ?_
                refine o_off rfl rfl (by decide) rfl ?_
                refine o_off rfl rfl (by decide) rfl ?_
                refine o_off rfl rfl (by decide) rfl ?_
                refine o_v (v_pick_f rfl rfl) rfl ?_
                refine o_v (v_assign rfl) rfl ?_
                refine o_nil ?_
                refine s_st ?_ (hN3 false hF)
                exact st_le [0, 0, 0, 0, 0] (le_cons rfl (le_cons rfl (le_cons rfl (le_cons rfl (le_cons rfl (le_cons rfl (le_cons rfl (le_cons rfl (le_cons rfl (le_cons rfl (le_cons rfl (le_cons rfl le_nil)))))))))))) rfl (sub_cons 1 rfl (sub_cons 2 rfl (sub_cons 3 rfl (sub_cons 4 rfl (sub_cons 5 rfl (sub_cons 0 rfl (sub_cons 6 rfl sub_nil)))))))
            · intro t8 hF
              unfold F.law09.TreesStay_j3 at hF
              refine sat_wc ?_
              refine c_ret ?_
              cases hF
              refine s_ret1 rfl (r_tmp rfl) fun a w hs => ?_
              exact fin_sel hs [] ⟨rfl, rfl, rfl⟩ rfl sub_nil
theorem tri29_B (k : Nat) (g55_29 : List Tree → List Tree → Option Bool)
    (hg55_29 : ∀ (s1 : List Tree) (s2 : List Tree) (sa1 : Option Addr) (sn1 sc1 : Nat) (sa2 : Option Addr) (sn2 sc2 : Nat) (r : Bool), g55_29 s1 s2 = some r → Tri Tryd.prog 55 [.slice sa1 sn1 sc1, .slice sa2 sn2 sc2, .func (.func 29) #[] #[]] [] [(.slice sa1 sn1 sc1, .slice 3 (s1.map eTree)), (.slice sa2 sn2 sc2, .slice 3 (s2.map eTree))] (fun o H Φ => o = .ret (.bool r) ∧ H = [] ∧ Φ = [])) (a_ : Tree) (b : Tree) (sa1 : Option Addr) (sn1 sc1 : Nat) (sa2 : Option Addr) (sn2 sc2 : Nat) (r : Bool) (hF : F.trees.Same_B k g55_29 a_ b = some r) :
    Tri Tryd.prog 29 [.agg #[.int .i64 a_.Rule, .int .u8 a_.Byte, .slice sa1 sn1 sc1], .agg #[.int .i64 b.Rule, .int .u8 b.Byte, .slice sa2 sn2 sc2]] [] [(.slice sa1 sn1 sc1, .slice 3 (a_.Kids.map eTree)), (.slice sa2 sn2 sc2, .slice 3 (b.Kids.map eTree))] (fun o H Φ => o = .ret (.bool r) ∧ H = [] ∧ Φ = []) := by
  unfold F.trees.Same_B at hF
  refine tri_intro (n := 24) Tryd.func29 rfl Tryd.ntmps29 rfl fun w X => ?_
  refine c_seq ?_
  refine c_region ?_
  refine o_box rfl rfl rfl fun b1 => ?_
  refine o_box rfl rfl rfl fun b2 => ?_
  refine o_v (v_assign rfl) rfl ?_
  refine o_seq ?_
  refine c_seq ?_
  refine c_region ?_
  refine o_v (v_fieldAddr (v := .pointer (some ⟨b1, 0, none⟩)) rfl (fun _ => by kernel_rfl)) rfl ?_
  refine o_v (v_load_box 1 ty3 rfl rfl rfl rfl rfl) rfl ?_
  refine o_v (v_fieldAddr (v := .pointer (some ⟨b2, 0, none⟩)) rfl (fun _ => by kernel_rfl)) rfl ?_
  refine o_v (v_load_box 0 ty3 rfl rfl rfl rfl rfl) rfl ?_
  refine o_v (v_bin rfl rfl rfl) rfl ?_
  refine o_v (v_move rfl) rfl ?_
  refine o_split (t := 10) rfl (fun h1 => ?_) (fun h1 => ?_)
  · replace hF := ite_t h1 hF
    refine o_on rfl rfl ?_
    refine o_v (v_fieldAddr (v := .pointer (some ⟨b1, 1, none⟩)) rfl (fun _ => by kernel_rfl)) rfl ?_
    refine o_on rfl rfl ?_
    refine o_v (v_load_box 1 ty5 rfl rfl rfl rfl rfl) rfl ?_
    refine o_on rfl rfl ?_
    refine o_v (v_fieldAddr (v := .pointer (some ⟨b2, 1, none⟩)) rfl (fun _ => by kernel_rfl)) rfl ?_
    refine o_on rfl rfl ?_
    refine o_v (v_load_box 0 ty5 rfl rfl rfl rfl rfl) rfl ?_
    refine o_on rfl rfl ?_
    refine o_v (v_bin rfl rfl rfl) rfl ?_
    refine o_v (v_pick_t rfl rfl) rfl ?_
    refine o_v (v_move rfl) rfl ?_
    refine o_split (t := 17) rfl (fun h2 => ?_) (fun h2 => ?_)
    · replace hF := ite_t h2 hF
      refine o_on rfl rfl ?_
      refine o_v (v_fieldAddr (v := .pointer (some ⟨b1, 2, none⟩)) rfl (fun _ => by kernel_rfl)) rfl ?_
      refine o_on rfl rfl ?_
      refine o_v (v_load_box 1 ty25 rfl rfl rfl rfl rfl) rfl ?_
      refine o_on rfl rfl ?_
      refine o_v (v_fieldAddr (v := .pointer (some ⟨b2, 2, none⟩)) rfl (fun _ => by kernel_rfl)) rfl ?_
      refine o_on rfl rfl ?_
      refine o_v (v_load_box 0 ty25 rfl rfl rfl rfl rfl) rfl ?_
      refine o_on rfl rfl ?_
      obtain ⟨v, h3, hF⟩ := bd hF
      refine o_callSB call55 rfl (lent_f 0 rfl (lent_f 1 rfl lent_nil)) (hg55_29 a_.Kids b.Kids sa1 sn1 sc1 sa2 sn2 sc2 v h3) rfl ?_
      refine o_v (v_pick_t rfl rfl) rfl ?_
      refine o_v (v_assign rfl) rfl ?_
      refine o_seq ?_
      refine c_ret ?_
      cases hF
      refine s_ret1 rfl (r_tmp rfl) fun a w hs => ?_
      exact fin_sel hs [] ⟨rfl, rfl, rfl⟩ rfl sub_nil
    · replace hF := ite_f h2 hF
      refine o_off rfl rfl (by decide) rfl ?_
      refine o_off rfl rfl (by decide) rfl ?_
      refine o_off rfl rfl (by decide) rfl ?_
      refine o_off rfl rfl (by decide) rfl ?_
      refine o_off rfl rfl (by decide) rfl ?_
      refine o_v (v_pick_f rfl rfl) rfl ?_
      refine o_v (v_assign rfl) rfl ?_
      refine o_seq ?_
      refine c_ret ?_
      cases hF
      refine s_ret1 rfl (r_tmp rfl) fun a w hs => ?_
      exact fin_sel hs [] ⟨rfl, rfl, rfl⟩ rfl sub_nil
  · replace hF := ite_f h1 hF
    refine o_off rfl rfl (by decide) rfl ?_
    refine o_off rfl rfl (by decide) rfl ?_
    refine o_off rfl rfl (by decide) rfl ?_
    refine o_off rfl rfl (by decide) rfl ?_
    refine o_off rfl rfl (by decide) rfl ?_
    refine o_v (v_pick_f rfl rfl) rfl ?_
    refine o_v (v_move rfl) rfl ?_
    refine o_off rfl rfl (by decide) rfl ?_
    refine o_off rfl rfl (by decide) rfl ?_
    refine o_off rfl rfl (by decide) rfl ?_
    refine o_off rfl rfl (by decide) rfl ?_
    refine o_off rfl rfl (by decide) rfl ?_
    refine o_v (v_pick_f rfl rfl) rfl ?_
    refine o_v (v_assign rfl) rfl ?_
    refine o_seq ?_
    refine c_ret ?_
    cases hF
    refine s_ret1 rfl (r_tmp rfl) fun a w hs => ?_
    exact fin_sel hs [] ⟨rfl, rfl, rfl⟩ rfl sub_nil
theorem tri55_29_B (k : Nat) (g29 : Tree → Tree → Option Bool)
    (hg29 : ∀ (a_ : Tree) (b : Tree) (sa1 : Option Addr) (sn1 sc1 : Nat) (sa2 : Option Addr) (sn2 sc2 : Nat) (r : Bool), g29 a_ b = some r → Tri Tryd.prog 29 [.agg #[.int .i64 a_.Rule, .int .u8 a_.Byte, .slice sa1 sn1 sc1], .agg #[.int .i64 b.Rule, .int .u8 b.Byte, .slice sa2 sn2 sc2]] [] [(.slice sa1 sn1 sc1, .slice 3 (a_.Kids.map eTree)), (.slice sa2 sn2 sc2, .slice 3 (b.Kids.map eTree))] (fun o H Φ => o = .ret (.bool r) ∧ H = [] ∧ Φ = [])) (s1 : List Tree) (s2 : List Tree) (sa1 : Option Addr) (sn1 sc1 : Nat) (sa2 : Option Addr) (sn2 sc2 : Nat) (r : Bool) (hF : F.slices.EqualFunc_f55_29_B k g29 s1 s2 = some r) :
    Tri Tryd.prog 55 [.slice sa1 sn1 sc1, .slice sa2 sn2 sc2, .func (.func 29) #[] #[]] [] [(.slice sa1 sn1 sc1, .slice 3 (s1.map eTree)), (.slice sa2 sn2 sc2, .slice 3 (s2.map eTree))] (fun o H Φ => o = .ret (.bool r) ∧ H = [] ∧ Φ = []) := by
  unfold F.slices.EqualFunc_f55_29_B at hF
  refine tri_intro (n := 32) Tryd.func55 rfl Tryd.ntmps55 rfl fun w X => ?_
  refine c_seq ?_
  refine c_region ?_
  refine o_v (v_assign rfl) rfl ?_
  refine o_seq ?_
  refine c_seq ?_
  refine c_seq ?_
  refine c_region ?_
  refine o_v (v_move rfl) rfl ?_
  refine o_v (v_lenS (enc := eTree) s1 sl25 rfl (.f 0 rfl)) rfl ?_
  refine o_v (v_move rfl) rfl ?_
  refine o_v (v_lenS (enc := eTree) s2 sl25 rfl (.f 1 rfl)) rfl ?_
  refine o_v (v_bin rfl rfl rfl) rfl ?_
  refine o_seq ?_
  refine c_cond rfl (fun h1 => ?_) (fun h1 => ?_)
  · replace hF := ite_t h1 hF
    refine c_seq ?_
    refine c_region ?_
    refine o_v (v_assign rfl) rfl ?_
    refine o_seq ?_
    refine c_ret ?_
    cases hF
    refine s_ret1 rfl (r_tmp rfl) fun a w hs => ?_
    exact fin_sel hs [] ⟨rfl, rfl, rfl⟩ rfl sub_nil
  · replace hF := ite_f h1 hF
    refine c_skip ?_
    refine sat_wc ?_
    refine c_seq ?_
    refine c_seq ?_
    refine c_region ?_
    refine o_v (v_move rfl) rfl ?_
    refine o_v (v_lenS (enc := eTree) s1 sl25 rfl (.f 0 rfl)) rfl ?_
    refine o_v (v_move rfl) rfl ?_
    refine o_seq ?_
    obtain ⟨o1, ho1, hF⟩ := bd hF
    refine c_cut (fun E N' => ∀ (d1 : Unit), o1 = .done d1 → Sat E [(0, .slice sa1 sn1 sc1), (1, .slice sa2 sn2 sc2), (6, .bool false), (15, .slice sa1 sn1 sc1)] [] [(.slice sa1 sn1 sc1, .slice 3 (s1.map eTree)), (.slice sa2 sn2 sc2, .slice 3 (s2.map eTree))] N') (fun N1 hN1 => ?_) ?_
    · refine c_block ?_
      refine c_loopE (fun E j a w => ∃ (t17 : Int), F.slices.EqualFunc_f55_29_l1 s1 s2 g29 j t17 = some o1 ∧ St E [(0, .slice sa1 sn1 sc1), (1, .slice sa2 sn2 sc2), (2, .func (.func 29) #[] #[]), (6, .bool false), (15, .slice sa1 sn1 sc1), (16, .int .i64 (s1.length : Int)), (17, .int .i64 t17)] [] [(.slice sa1 sn1 sc1, .slice 3 (s1.map eTree)), (.slice sa2 sn2 sc2, .slice 3 (s2.map eTree))] a w) k ?_ ?_
      · intro a w hs
        exact ⟨0, ho1, st_le [] (le_cons rfl (le_cons rfl (le_cons rfl (le_cons rfl (le_cons rfl (le_cons rfl (le_cons rfl le_nil))))))) rfl (sub_cons 0 rfl (sub_cons 1 rfl sub_nil)) a w hs⟩
      · rintro j a w ⟨t17, hL1, hs⟩
        cases j with
        | zero => cases hL1
        | succ j =>
          refine wc_app hs ?_
          unfold F.slices.EqualFunc_f55_29_l1 at hL1
          refine c_seq ?_
          refine c_region ?_
          refine o_v (v_bin rfl rfl rfl) rfl ?_
          refine o_seq ?_
          refine c_seq ?_
          refine c_cond rfl (fun h2 => ?_) (fun h2 => ?_)
          · replace hL1 := ite_t h2 hL1
            refine c_skip ?_
            refine sat_wc ?_
            refine c_seq ?_
            refine c_block ?_
            refine c_seq ?_
            refine c_region ?_
            refine o_v (v_move rfl) rfl ?_
            refine ite_some hL1 fun h3 hL1 => ?_
            refine o_v (v_indexAddr_s (xs := s1) (enc := eTree) sl25 rfl rfl (.f 0 rfl) h3) rfl ?_
            refine o_load_s (ds := [.int .i64 ((at_ s1 t17).Rule), .int .u8 ((at_ s1 t17).Byte), .slice 3 (((at_ s1 t17).Kids).map eTree)]) (xs := s1) (enc := eTree) ty27 rfl (.f 0 rfl) h3 (by simp only [eTree_eq] <;> rfl) rfl rfl rfl rfl rfl fun sa3 sn3 sc3 => ?_
            refine o_alloc zero27 rfl rfl fun b => ?_
            refine o_v (v_assign rfl) rfl ?_
            refine o_store_box 0 rfl ty27 rfl rfl rfl rfl rfl rfl rfl ?_
            refine o_seq ?_
            refine c_seq ?_
            refine c_region ?_
            refine o_v (v_move rfl) rfl ?_
            refine o_v (v_move rfl) rfl ?_
            refine ite_some hL1 fun h4 hL1 => ?_
            refine o_v (v_indexAddr_s (xs := s2) (enc := eTree) sl25 rfl rfl (.f 2 rfl) h4) rfl ?_
            refine o_load_s (ds := [.int .i64 ((at_ s2 t17).Rule), .int .u8 ((at_ s2 t17).Byte), .slice 3 (((at_ s2 t17).Kids).map eTree)]) (xs := s2) (enc := eTree) ty27 rfl (.f 2 rfl) h4 (by simp only [eTree_eq] <;> rfl) rfl rfl rfl rfl rfl fun sa4 sn4 sc4 => ?_
            refine o_alloc zero27 rfl rfl fun b1 => ?_
            refine o_store_box 0 rfl ty27 rfl rfl rfl rfl rfl rfl rfl ?_
            refine o_seq ?_
            refine c_seq ?_
            refine c_region ?_
            refine o_v (v_move rfl) rfl ?_
            refine o_v (v_load_box 1 ty27 rfl rfl rfl rfl rfl) rfl ?_
            refine o_v (v_load_box 0 ty27 rfl rfl rfl rfl rfl) rfl ?_
            obtain ⟨v, h5, hL1⟩ := bd hL1
            refine o_call [] call29 (cap := #[]) rfl rfl rfl (sub_cons 1 rfl (sub_cons 0 rfl sub_nil)) (by exact (hg29 (at_ s1 t17) (at_ s2 t17) sa3 sn3 sc3 sa4 sn4 sc4 v h5)) rfl ?_
            rintro _ _ _ ⟨rfl, rfl, rfl⟩
            refine o_v (v_not rfl) rfl ?_
            refine o_seq ?_
            refine c_cond rfl (fun h6 => ?_) (fun h6 => ?_)
            · replace hL1 := ite_t h6 hL1
              refine c_seq ?_
              refine c_region ?_
              refine o_v (v_assign rfl) rfl ?_
              refine o_seq ?_
              refine c_ret ?_
              cases hL1
              obtain rfl := lrf_ret hF
              refine s_ret1 rfl (r_tmp rfl) fun a w hs => ?_
              exact fin_sel hs [] ⟨rfl, rfl, rfl⟩ rfl sub_nil
            · replace hL1 := ite_f h6 hL1
              refine c_skip ?_
              refine sat_wc ?_
              refine c_region ?_
              refine o_v (v_bin rfl rfl rfl) rfl ?_
              refine o_v (v_move rfl) rfl ?_
              refine o_nil ?_
              intro a w hs
              exact ⟨j, Nat.lt_succ_self j, IntKind.wrap .i64 (t17 + 1), hL1, st_le [] (le_cons rfl (le_cons rfl (le_cons rfl (le_cons rfl (le_cons rfl (le_cons rfl (le_cons rfl le_nil))))))) rfl (sub_cons 2 rfl (sub_cons 3 rfl sub_nil)) a w hs⟩
          · replace hL1 := ite_f h2 hL1
            refine c_exit0 ?_
            cases hL1
            refine s_st ?_ (hN1 () rfl)
            exact st_le [] (le_cons rfl (le_cons rfl (le_cons rfl (le_cons rfl le_nil)))) rfl (sub_cons 0 rfl (sub_cons 1 rfl sub_nil))
    · intro d1 hd
      subst hd
      replace hF := lrf_done hF
      refine sat_wc ?_
      refine c_seq ?_
      refine c_region ?_
      refine o_v (v_assign rfl) rfl ?_
      refine o_seq ?_
      refine c_ret ?_
      cases hF
      refine s_ret1 rfl (r_tmp rfl) fun a w hs => ?_
      exact fin_sel hs [] ⟨rfl, rfl, rfl⟩ rfl sub_nil
theorem tri29_G (k : Nat) : (∀ (a_ : Tree) (b : Tree) (sa1 : Option Addr) (sn1 sc1 : Nat) (sa2 : Option Addr) (sn2 sc2 : Nat) (r : Bool), F.trees.Same k a_ b = some r → Tri Tryd.prog 29 [.agg #[.int .i64 a_.Rule, .int .u8 a_.Byte, .slice sa1 sn1 sc1], .agg #[.int .i64 b.Rule, .int .u8 b.Byte, .slice sa2 sn2 sc2]] [] [(.slice sa1 sn1 sc1, .slice 3 (a_.Kids.map eTree)), (.slice sa2 sn2 sc2, .slice 3 (b.Kids.map eTree))] (fun o H Φ => o = .ret (.bool r) ∧ H = [] ∧ Φ = [])) ∧ (∀ (s1 : List Tree) (s2 : List Tree) (sa1 : Option Addr) (sn1 sc1 : Nat) (sa2 : Option Addr) (sn2 sc2 : Nat) (r : Bool), F.slices.EqualFunc_f55_29 k s1 s2 = some r → Tri Tryd.prog 55 [.slice sa1 sn1 sc1, .slice sa2 sn2 sc2, .func (.func 29) #[] #[]] [] [(.slice sa1 sn1 sc1, .slice 3 (s1.map eTree)), (.slice sa2 sn2 sc2, .slice 3 (s2.map eTree))] (fun o H Φ => o = .ret (.bool r) ∧ H = [] ∧ Φ = [])) := by
  induction k with
  | zero => exact ⟨(fun _ _ _ _ _ _ _ _ _ h => nomatch (show none = some _ from h)), (fun _ _ _ _ _ _ _ _ _ h => nomatch (show none = some _ from h))⟩
  | succ k ih => exact ⟨tri29_B k _ ih.2, tri55_29_B k _ ih.1⟩
theorem tri29 (k : Nat) (a_ : Tree) (b : Tree) (sa1 : Option Addr) (sn1 sc1 : Nat) (sa2 : Option Addr) (sn2 sc2 : Nat) (r : Bool) (hF : F.trees.Same k a_ b = some r) :
    Tri Tryd.prog 29 [.agg #[.int .i64 a_.Rule, .int .u8 a_.Byte, .slice sa1 sn1 sc1], .agg #[.int .i64 b.Rule, .int .u8 b.Byte, .slice sa2 sn2 sc2]] [] [(.slice sa1 sn1 sc1, .slice 3 (a_.Kids.map eTree)), (.slice sa2 sn2 sc2, .slice 3 (b.Kids.map eTree))] (fun o H Φ => o = .ret (.bool r) ∧ H = [] ∧ Φ = []) := (tri29_G k).1 a_ b sa1 sn1 sc1 sa2 sn2 sc2 r hF
theorem tri55_29 (k : Nat) (s1 : List Tree) (s2 : List Tree) (sa1 : Option Addr) (sn1 sc1 : Nat) (sa2 : Option Addr) (sn2 sc2 : Nat) (r : Bool) (hF : F.slices.EqualFunc_f55_29 k s1 s2 = some r) :
    Tri Tryd.prog 55 [.slice sa1 sn1 sc1, .slice sa2 sn2 sc2, .func (.func 29) #[] #[]] [] [(.slice sa1 sn1 sc1, .slice 3 (s1.map eTree)), (.slice sa2 sn2 sc2, .slice 3 (s2.map eTree))] (fun o H Φ => o = .ret (.bool r) ∧ H = [] ∧ Φ = []) := (tri29_G k).2 s1 s2 sa1 sn1 sc1 sa2 sn2 sc2 r hF
theorem tri10 (k : Nat) (a_ : Tree) (b : Tree) (sa1 : Option Addr) (sn1 sc1 : Nat) (sa2 : Option Addr) (sn2 sc2 : Nat) (r : Bool) (hF : F.law09.TreesSame k a_ b = some r) :
    Tri Tryd.prog 10 [.agg #[.int .i64 a_.Rule, .int .u8 a_.Byte, .slice sa1 sn1 sc1], .agg #[.int .i64 b.Rule, .int .u8 b.Byte, .slice sa2 sn2 sc2]] [] [gf10 0, (.slice sa1 sn1 sc1, .slice 3 (a_.Kids.map eTree)), (.slice sa2 sn2 sc2, .slice 3 (b.Kids.map eTree))] (fun o H Φ => o = .ret (.bool r) ∧ H = [] ∧ Φ = []) := by
  unfold F.law09.TreesSame at hF
  refine tri_intro (n := 28) Tryd.func10 rfl Tryd.ntmps10 rfl fun w X => ?_
  refine c_seq ?_
  refine c_region ?_
  refine o_box rfl rfl rfl fun b1 => ?_
  refine o_box rfl rfl rfl fun b2 => ?_
  refine o_v (v_assign rfl) rfl ?_
  refine o_seq ?_
  refine c_seq ?_
  refine c_seq ?_
  refine c_region ?_
  refine o_v (v_load_box 1 ty27 rfl rfl rfl rfl rfl) rfl ?_
  obtain ⟨v, h1, hF⟩ := bd hF
  refine o_callSB call13 rfl (lent_f 1 rfl lent_nil) (tri13 k a_ sa1 sn1 sc1 v h1) rfl ?_
  refine o_v (v_move rfl) rfl ?_
  refine o_split (t := 7) rfl (fun h2 => ?_) (fun h2 => ?_)
  · replace hF := ite_t h2 hF
    refine o_off rfl rfl (by decide) rfl ?_
    refine o_off rfl rfl (by decide) rfl ?_
    refine o_v (v_pick_t rfl rfl) rfl ?_
    refine o_seq ?_
    refine c_cond rfl (fun _ => ?_) (fun h => Bool.noConfusion h)
    refine c_seq ?_
    refine c_region ?_
    obtain ⟨v1, h3, hF⟩ := bd hF
    refine o_callSB call15 rfl (lent_f 0 rfl lent_nil) (tri15 k v1 h3) rfl ?_
    refine o_v (v_assign rfl) rfl ?_
    refine o_seq ?_
    refine c_ret ?_
    cases hF
    refine s_ret1 rfl (r_tmp rfl) fun a w hs => ?_
    exact fin_sel hs [] ⟨rfl, rfl, rfl⟩ rfl sub_nil
  · replace hF := ite_f h2 hF
    refine o_on rfl rfl ?_
    refine o_v (v_load_box 0 ty27 rfl rfl rfl rfl rfl) rfl ?_
    refine o_on rfl rfl ?_
    obtain ⟨v2, h4, hF⟩ := bd hF
    refine o_callSB call13 rfl (lent_f 2 rfl lent_nil) (tri13 k b sa2 sn2 sc2 v2 h4) rfl ?_
    refine o_v (v_pick_f rfl rfl) rfl ?_
    refine o_seq ?_
    refine c_cond rfl (fun h5 => ?_) (fun h5 => ?_)
    · replace hF := ite_t h5 hF
      refine c_seq ?_
      refine c_region ?_
      obtain ⟨v3, h6, hF⟩ := bd hF
      refine o_callSB call15 rfl (lent_f 0 rfl lent_nil) (tri15 k v3 h6) rfl ?_
      refine o_v (v_assign rfl) rfl ?_
      refine o_seq ?_
      refine c_ret ?_
      cases hF
      refine s_ret1 rfl (r_tmp rfl) fun a w hs => ?_
      exact fin_sel hs [] ⟨rfl, rfl, rfl⟩ rfl sub_nil
    · replace hF := ite_f h5 hF
      refine c_skip ?_
      refine sat_wc ?_
      refine c_seq ?_
      refine c_draw (n := 17) [0, 0] mixed rfl rfl ?_
      refine d_one 0 rfl (by kernel_rfl) ?_
      obtain ⟨v4, h7, hF⟩ := bd hF
      refine o_callSB call15 rfl (lent_f 0 rfl lent_nil) (tri15 k v4 h7) rfl ?_
      refine d_next [0, 0] 0 rfl rfl ?_
      refine d_val 1 rfl pnok (by kernel_rfl) (by kernel_rfl) (by kernel_rfl) rfl (v_move rfl) ?_
      refine d_split (t := 13) rfl (fun h8 => ?_) (fun h8 => ?_)
      · replace hF := ite_t h8 hF
        refine d_val_on 2 rfl rfl rfl pnok (by kernel_rfl) (by kernel_rfl) (by kernel_rfl) rfl (v_load_box 1 ty27 rfl rfl rfl rfl rfl) ?_
        refine d_val_on 3 rfl rfl rfl pnok (by kernel_rfl) (by kernel_rfl) (by kernel_rfl) rfl (v_load_box 0 ty27 rfl rfl rfl rfl rfl) ?_
        refine d_val_on 5 rfl rfl rfl pnok (by kernel_rfl) (by kernel_rfl) (by kernel_rfl) rfl (v_load_box 1 ty27 rfl rfl rfl rfl rfl) ?_
        refine d_val_on 6 rfl rfl rfl pnok (by kernel_rfl) (by kernel_rfl) (by kernel_rfl) rfl (v_load_box 0 ty27 rfl rfl rfl rfl rfl) ?_
        refine d_one 4 rfl (by kernel_rfl) ?_
        refine o_on rfl rfl ?_
        obtain ⟨v5, h9, hF⟩ := bd hF
        refine o_callSB call29 rfl (lent_f 1 rfl (lent_f 2 rfl lent_nil)) (tri29 k a_ b sa1 sn1 sc1 sa2 sn2 sc2 v5 h9) rfl ?_
        refine d_next [0, 0] 0 rfl rfl ?_
        refine d_one 7 rfl (by kernel_rfl) ?_
        refine o_on rfl rfl ?_
        obtain ⟨v6, h10, hF⟩ := bd hF
        refine o_callSB call19 rfl (lent_f 1 rfl (lent_f 2 rfl lent_nil)) (tri19 k a_ b sa1 sn1 sc1 sa2 sn2 sc2 v6 h10) rfl ?_
        refine d_next [0, 0] 0 rfl rfl ?_
        refine d_val_on 8 rfl rfl rfl pnok (by kernel_rfl) (by kernel_rfl) (by kernel_rfl) rfl (v_booleq rfl rfl Tryd.underlying4) ?_
        refine d_val 9 rfl pnok (by kernel_rfl) (by kernel_rfl) (by kernel_rfl) rfl (v_pick_t rfl rfl) ?_
        refine d_val 10 rfl pnok (by kernel_rfl) (by kernel_rfl) (by kernel_rfl) rfl (v_move rfl) ?_
        refine d_split (t := 22) rfl (fun h11 => ?_) (fun h11 => ?_)
        · replace hF := ite_t h11 hF
          refine d_val_on 11 rfl rfl rfl pnok (by kernel_rfl) (by kernel_rfl) (by kernel_rfl) rfl (v_load_box 1 ty27 rfl rfl rfl rfl rfl) ?_
          refine d_val_on 12 rfl rfl rfl pnok (by kernel_rfl) (by kernel_rfl) (by kernel_rfl) rfl (v_load_box 1 ty27 rfl rfl rfl rfl rfl) ?_
          refine d_one 13 rfl (by kernel_rfl) ?_
          refine o_on rfl rfl ?_
          obtain ⟨v7, h12, hF⟩ := bd hF
          refine o_call0 call16 rfl (sub_cons 1 rfl sub_nil) (tri16 k a_ sa1 sn1 sc1 v7 h12) rfl ?_
          rintro _ _ _ ⟨sa3, sn3, sc3, rfl, rfl, rfl⟩
          refine d_next [0, 0] 1 rfl rfl ?_
          refine d_one 14 rfl (by kernel_rfl) ?_
          refine o_on rfl rfl ?_
          obtain ⟨v8, h13, hF⟩ := bd hF
          refine o_callSB call29 rfl (lent_f 2 rfl (lent_f 0 rfl lent_nil)) (tri29 k a_ v7 sa1 sn1 sc1 sa3 sn3 sc3 v8 h13) rfl ?_
          refine d_next [0, 0] 1 rfl rfl ?_
          refine d_val 15 rfl pnok (by kernel_rfl) (by kernel_rfl) (by kernel_rfl) rfl (v_pick_t rfl rfl) ?_
          refine d_val 16 rfl pnok (by kernel_rfl) (by kernel_rfl) (by kernel_rfl) rfl (v_assign rfl) ?_
          refine d_done_seq (by kernel_rfl) ?_
          refine c_ret ?_
          cases hF
          refine s_ret1 rfl (r_tmp rfl) fun a w hs => ?_
          exact fin_sel hs [] ⟨rfl, rfl, rfl⟩ rfl sub_nil
        · replace hF := ite_f h11 hF
          refine d_off 11 rfl rfl rfl (by decide) pnok (by kernel_rfl) (by kernel_rfl) (by kernel_rfl) rfl ?_
          refine d_off 12 rfl rfl rfl (by decide) pnok (by kernel_rfl) (by kernel_rfl) (by kernel_rfl) rfl ?_
          refine d_off 13 rfl rfl rfl (by decide) pnok (by kernel_rfl) (by kernel_rfl) (by kernel_rfl) rfl ?_
          refine d_off 14 rfl rfl rfl (by decide) pnok (by kernel_rfl) (by kernel_rfl) (by kernel_rfl) rfl ?_
          refine d_val 15 rfl pnok (by kernel_rfl) (by kernel_rfl) (by kernel_rfl) rfl (v_pick_f rfl rfl) ?_
          refine d_val 16 rfl pnok (by kernel_rfl) (by kernel_rfl) (by kernel_rfl) rfl (v_assign rfl) ?_
          refine d_done_seq (by kernel_rfl) ?_
          refine c_ret ?_
          cases hF
          refine s_ret1 rfl (r_tmp rfl) fun a w hs => ?_
          exact fin_sel hs [] ⟨rfl, rfl, rfl⟩ rfl sub_nil
      · replace hF := ite_f h8 hF
        refine d_off 2 rfl rfl rfl (by decide) pnok (by kernel_rfl) (by kernel_rfl) (by kernel_rfl) rfl ?_
        refine d_off 3 rfl rfl rfl (by decide) pnok (by kernel_rfl) (by kernel_rfl) (by kernel_rfl) rfl ?_
        refine d_off 4 rfl rfl rfl (by decide) pnok (by kernel_rfl) (by kernel_rfl) (by kernel_rfl) rfl ?_
        refine d_off 5 rfl rfl rfl (by decide) pnok (by kernel_rfl) (by kernel_rfl) (by kernel_rfl) rfl ?_
        refine d_off 6 rfl rfl rfl (by decide) pnok (by kernel_rfl) (by kernel_rfl) (by kernel_rfl) rfl ?_
        refine d_off 7 rfl rfl rfl (by decide) pnok (by kernel_rfl) (by kernel_rfl) (by kernel_rfl) rfl ?_
        refine d_off 8 rfl rfl rfl (by decide) pnok (by kernel_rfl) (by kernel_rfl) (by kernel_rfl) rfl ?_
        refine d_val 9 rfl pnok (by kernel_rfl) (by kernel_rfl) (by kernel_rfl) rfl (v_pick_f rfl rfl) ?_
        refine d_val 10 rfl pnok (by kernel_rfl) (by kernel_rfl) (by kernel_rfl) rfl (v_move rfl) ?_
        refine d_off 11 rfl rfl rfl (by decide) pnok (by kernel_rfl) (by kernel_rfl) (by kernel_rfl) rfl ?_
        refine d_off 12 rfl rfl rfl (by decide) pnok (by kernel_rfl) (by kernel_rfl) (by kernel_rfl) rfl ?_
        refine d_off 13 rfl rfl rfl (by decide) pnok (by kernel_rfl) (by kernel_rfl) (by kernel_rfl) rfl ?_
        refine d_off 14 rfl rfl rfl (by decide) pnok (by kernel_rfl) (by kernel_rfl) (by kernel_rfl) rfl ?_
        refine d_val 15 rfl pnok (by kernel_rfl) (by kernel_rfl) (by kernel_rfl) rfl (v_pick_f rfl rfl) ?_
        refine d_val 16 rfl pnok (by kernel_rfl) (by kernel_rfl) (by kernel_rfl) rfl (v_assign rfl) ?_
        refine d_done_seq (by kernel_rfl) ?_
        refine c_ret ?_
        cases hF
        refine s_ret1 rfl (r_tmp rfl) fun a w hs => ?_
        exact fin_sel hs [] ⟨rfl, rfl, rfl⟩ rfl sub_nil
theorem tri56_B (k : Nat) (g56 : Tree → Int → Bool → List Run → Option (List Run × Int))
    (hg56 : ∀ (t : Tree) (from_ : Int) (none_ : Bool) (out : List Run) (sa1 : Option Addr) (sn1 sc1 : Nat) (sa2 : Option Addr) (sn2 sc2 : Nat) (r : List Run × Int), g56 t from_ none_ out = some r → Tri Tryd.prog 56 [.agg #[.int .i64 t.Rule, .int .u8 t.Byte, .slice sa1 sn1 sc1], .int .i64 from_, .bool none_, .slice sa2 sn2 sc2] [.row (.slice sa2 sn2 sc2) 62 2 (out.map eRun)] [(.slice sa1 sn1 sc1, .slice 3 (t.Kids.map eTree))] (fun o H Φ => ∃ (sa13 : Option Addr) (sn13 sc13 : Nat), o = .ret (.tuple #[.slice sa13 sn13 sc13, .int .i64 r.2]) ∧ H = [.row (.slice sa13 sn13 sc13) 62 2 (r.1.map eRun)] ∧ Φ = [])) (t : Tree) (from_ : Int) (none_ : Bool) (out : List Run) (sa1 : Option Addr) (sn1 sc1 : Nat) (sa2 : Option Addr) (sn2 sc2 : Nat) (r : List Run × Int) (hF : F.trees.spans_B k g56 t from_ none_ out = some r) :
    Tri Tryd.prog 56 [.agg #[.int .i64 t.Rule, .int .u8 t.Byte, .slice sa1 sn1 sc1], .int .i64 from_, .bool none_, .slice sa2 sn2 sc2] [.row (.slice sa2 sn2 sc2) 62 2 (out.map eRun)] [(.slice sa1 sn1 sc1, .slice 3 (t.Kids.map eTree))] (fun o H Φ => ∃ (sa13 : Option Addr) (sn13 sc13 : Nat), o = .ret (.tuple #[.slice sa13 sn13 sc13, .int .i64 r.2]) ∧ H = [.row (.slice sa13 sn13 sc13) 62 2 (r.1.map eRun)] ∧ Φ = []) := by
  unfold F.trees.spans_B at hF
  refine tri_intro (n := 60) Tryd.func56 rfl Tryd.ntmps56 rfl fun w X => ?_
  refine c_seq ?_
  refine c_region ?_
  refine o_box rfl rfl rfl fun b => ?_
  refine o_v (v_assign rfl) rfl ?_
  refine o_v (v_assign rfl) rfl ?_
  refine o_seq ?_
  refine c_seq ?_
  refine c_region ?_
  refine o_v (v_move rfl) rfl ?_
  refine o_v (v_lenS (enc := eRun) out sl56 rfl (.r 1 _ rfl)) rfl ?_
  refine o_v (v_assign rfl) rfl ?_
  refine o_seq ?_
  refine c_seq ?_
  refine c_region ?_
  refine o_v (v_move rfl) rfl ?_
  refine o_v (v_move rfl) rfl ?_
  refine o_v (v_move rfl) rfl ?_
  refine o_v (v_build (v := .agg #[.int .i64 from_, .int .i64 from_]) rfl (fun _ => by kernel_rfl)) rfl ?_
  refine o_buildSlice (enc := eRun) ([(Run.mk from_ from_)] : List Run) [.int .i64 from_, .int .i64 from_] sl56 rfl (fun _ => by kernel_rfl) rfl rfl rfl (.s rfl (.s rfl (.nil))) rfl fun sa3 sn3 sc3 => ?_
  refine ite_some hF fun h1 hF => ?_
  refine ite_some hF fun h2 hF => ?_
  refine o_append (enc := eRun) (xs := out) (ys := ([(Run.mk from_ from_)] : List Run)) 2 sl56 rfl rfl rfl (.r 0 _ rfl) h1 h2 rfl fun sa4 sn4 sc4 => ?_
  refine o_v (v_assign rfl) rfl ?_
  refine o_seq ?_
  refine c_seq ?_
  refine c_region ?_
  refine o_v (v_move rfl) rfl ?_
  refine o_v (v_assign rfl) rfl ?_
  refine o_seq ?_
  refine c_seq ?_
  refine c_seq ?_
  refine c_cut (fun E N' => ∀ (t29 : Bool), F.trees.spans_j1 k t none_ g56 out from_ t29 = some r → Sat E [(0, .agg #[.int .i64 t.Rule, .int .u8 t.Byte, .slice sa1 sn1 sc1]), (1, .int .i64 from_), (2, .bool none_), (3, .slice sa4 sn4 sc4), (4, .pointer (some ⟨b, 0, none⟩)), (8, .slice none 0 0), (9, .int .i64 0), (10, .int .i64 (out.length : Int)), (11, .int .i64 from_), (29, .bool t29)] [.box b 27 [.int .i64 t.Rule, .int .u8 t.Byte, .slice sa1 sn1 sc1], .row (.slice sa4 sn4 sc4) 62 2 ((out ++ ([(Run.mk from_ from_)] : List Run)).map eRun)] [(.slice sa1 sn1 sc1, .slice 3 (t.Kids.map eTree))] N') (fun N5 hN5 => ?_) ?_
  · refine c_region ?_
    refine o_v (v_fieldAddr (v := .pointer (some ⟨b, 0, none⟩)) rfl (fun _ => by kernel_rfl)) rfl ?_
    refine o_v (v_load_box 1 ty3 rfl rfl rfl rfl rfl) rfl ?_
    refine o_v (v_bin rfl rfl rfl) rfl ?_
    refine o_v (v_move rfl) rfl ?_
    refine o_split (t := 26) rfl (fun h10 => ?_) (fun h10 => ?_)
    · replace hF := ite_t h10 hF
      refine o_on rfl rfl ?_
      refine o_v (v_move rfl) rfl ?_
      refine o_on rfl rfl ?_
      refine o_v (v_not rfl) rfl ?_
      refine o_v (v_pick_t rfl rfl) rfl ?_
      refine o_nil ?_
      refine s_st ?_ (hN5 (!none_) hF)
      exact st_le [1, 1] (le_cons rfl (le_cons rfl (le_cons rfl (le_cons rfl (le_cons rfl (le_cons rfl (le_cons rfl (le_cons rfl (le_cons rfl (le_cons rfl le_nil)))))))))) rfl (sub_cons 0 rfl sub_nil)
    · replace hF := ite_f h10 hF
      refine o_off rfl rfl (by decide) rfl ?_
      refine o_off rfl rfl (by decide) rfl ?_
      refine o_v (v_pick_f rfl rfl) rfl ?_
      refine o_nil ?_
      refine s_st ?_ (hN5 false hF)
      exact st_le [1, 1] (le_cons rfl (le_cons rfl (le_cons rfl (le_cons rfl (le_cons rfl (le_cons rfl (le_cons rfl (le_cons rfl (le_cons rfl (le_cons rfl le_nil)))))))))) rfl (sub_cons 0 rfl sub_nil)
  · intro t29 hF
    unfold F.trees.spans_j1 at hF
    refine sat_wc ?_
    refine c_cut (fun E N' => ∀ (end_ : Int), F.trees.spans_j2 k t none_ g56 out from_ end_ = some r → Sat E [(0, .agg #[.int .i64 t.Rule, .int .u8 t.Byte, .slice sa1 sn1 sc1]), (1, .int .i64 from_), (2, .bool none_), (3, .slice sa4 sn4 sc4), (4, .pointer (some ⟨b, 0, none⟩)), (8, .slice none 0 0), (9, .int .i64 0), (10, .int .i64 (out.length : Int)), (11, .int .i64 end_)] [.box b 27 [.int .i64 t.Rule, .int .u8 t.Byte, .slice sa1 sn1 sc1], .row (.slice sa4 sn4 sc4) 62 2 ((out ++ ([(Run.mk from_ from_)] : List Run)).map eRun)] [(.slice sa1 sn1 sc1, .slice 3 (t.Kids.map eTree))] N') (fun N5 hN5 => ?_) ?_
    · refine c_cond rfl (fun h9 => ?_) (fun h9 => ?_)
      · replace hF := ite_t h9 hF
        refine c_region ?_
        refine o_v (v_move rfl) rfl ?_
        refine o_v (v_bin rfl rfl rfl) rfl ?_
        refine o_v (v_assign rfl) rfl ?_
        refine o_nil ?_
        refine s_st ?_ (hN5 (IntKind.wrap .i64 (from_ + 1)) hF)
        exact st_le [0, 0] (le_cons rfl (le_cons rfl (le_cons rfl (le_cons rfl (le_cons rfl (le_cons rfl (le_cons rfl (le_cons rfl (le_cons rfl le_nil))))))))) rfl (sub_cons 0 rfl sub_nil)
      · replace hF := ite_f h9 hF
        refine c_skip ?_
        refine s_st ?_ (hN5 from_ hF)
        exact st_le [0, 0] (le_cons rfl (le_cons rfl (le_cons rfl (le_cons rfl (le_cons rfl (le_cons rfl (le_cons rfl (le_cons rfl (le_cons rfl le_nil))))))))) rfl (sub_cons 0 rfl sub_nil)
    · intro end_ hF
      unfold F.trees.spans_j2 at hF
      refine sat_wc ?_
      refine c_seq ?_
      refine c_seq ?_
      refine c_region ?_
      refine o_v (v_fieldAddr (v := .pointer (some ⟨b, 2, none⟩)) rfl (fun _ => by kernel_rfl)) rfl ?_
      refine o_v (v_load_box 0 ty25 rfl rfl rfl rfl rfl) rfl ?_
      refine o_v (v_lenS (enc := eTree) t.Kids sl25 rfl (.f 0 rfl)) rfl ?_
      refine o_v (v_move rfl) rfl ?_
      refine o_seq ?_
      obtain ⟨o3, ho3, hF⟩ := bd hF
      refine c_cut (fun E N' => ∀ (sa6 : Option Addr) (sn6 sc6 : Nat), Sat E [(0, .agg #[.int .i64 t.Rule, .int .u8 t.Byte, .slice sa1 sn1 sc1]), (1, .int .i64 from_), (2, .bool none_), (3, .slice sa6 sn6 sc6), (4, .pointer (some ⟨b, 0, none⟩)), (8, .slice none 0 0), (9, .int .i64 0), (10, .int .i64 (out.length : Int)), (11, .int .i64 o3.2), (33, .slice sa1 sn1 sc1)] [.box b 27 [.int .i64 t.Rule, .int .u8 t.Byte, .slice sa1 sn1 sc1], .row (.slice sa6 sn6 sc6) 62 2 (o3.1.map eRun)] [(.slice sa1 sn1 sc1, .slice 3 (t.Kids.map eTree))] N') (fun N3 hN3 => ?_) ?_
      · refine c_block ?_
        refine c_loopE (fun E j a w => ∃ (out1 : List Run) (end_1 : Int) (t35 : Int) (sa5 : Option Addr) (sn5 sc5 : Nat), F.trees.spans_l3 t none_ g56 j out1 end_1 t35 = some o3 ∧ St E [(0, .agg #[.int .i64 t.Rule, .int .u8 t.Byte, .slice sa1 sn1 sc1]), (1, .int .i64 from_), (2, .bool none_), (3, .slice sa5 sn5 sc5), (4, .pointer (some ⟨b, 0, none⟩)), (8, .slice none 0 0), (9, .int .i64 0), (10, .int .i64 (out.length : Int)), (11, .int .i64 end_1), (33, .slice sa1 sn1 sc1), (34, .int .i64 (t.Kids.length : Int)), (35, .int .i64 t35)] [.box b 27 [.int .i64 t.Rule, .int .u8 t.Byte, .slice sa1 sn1 sc1], .row (.slice sa5 sn5 sc5) 62 2 (out1.map eRun)] [(.slice sa1 sn1 sc1, .slice 3 (t.Kids.map eTree))] a w) k ?_ ?_
        · intro a w hs
          exact ⟨(out ++ ([(Run.mk from_ from_)] : List Run)), end_, 0, sa4, sn4, sc4, ho3, st_le [0, 0] (le_cons rfl (le_cons rfl (le_cons rfl (le_cons rfl (le_cons rfl (le_cons rfl (le_cons rfl (le_cons rfl (le_cons rfl (le_cons rfl (le_cons rfl (le_cons rfl le_nil)))))))))))) rfl (sub_cons 0 rfl sub_nil) a w hs⟩
        · rintro j a w ⟨out1, end_1, t35, sa5, sn5, sc5, hL3, hs⟩
          cases j with
          | zero => cases hL3
          | succ j =>
            refine wc_app hs ?_
            unfold F.trees.spans_l3 at hL3
            refine c_seq ?_
            refine c_region ?_
            refine o_v (v_bin rfl rfl rfl) rfl ?_
            refine o_seq ?_
            refine c_seq ?_
            refine c_cond rfl (fun h3 => ?_) (fun h3 => ?_)
            · replace hL3 := ite_t h3 hL3
              refine c_skip ?_
              refine sat_wc ?_
              refine c_seq ?_
              refine c_cut (fun E N' => ∀ (out2 : List Run) (end_2 : Int) (sa7 : Option Addr) (sn7 sc7 : Nat) (sa8 : Option Addr) (sn8 sc8 : Nat) (b1 : Nat), F.trees.spans_j4 (F.trees.spans_l3 t none_ g56 j) t35 out2 end_2 = some o3 → Sat E [(0, .agg #[.int .i64 t.Rule, .int .u8 t.Byte, .slice sa1 sn1 sc1]), (1, .int .i64 from_), (2, .bool none_), (3, .slice sa7 sn7 sc7), (4, .pointer (some ⟨b, 0, none⟩)), (8, .slice none 0 0), (9, .int .i64 0), (10, .int .i64 (out.length : Int)), (11, .int .i64 end_2), (13, .pointer (some ⟨b1, 0, none⟩)), (33, .slice sa1 sn1 sc1), (34, .int .i64 (t.Kids.length : Int)), (35, .int .i64 t35)] [.box b 27 [.int .i64 t.Rule, .int .u8 t.Byte, .slice sa1 sn1 sc1], .box b1 27 [.int .i64 ((at_ t.Kids t35).Rule), .int .u8 ((at_ t.Kids t35).Byte), .slice sa8 sn8 sc8], .row (.slice sa7 sn7 sc7) 62 2 (out2.map eRun)] [(.slice sa1 sn1 sc1, .slice 3 (t.Kids.map eTree)), (.slice sa8 sn8 sc8, .slice 3 (((at_ t.Kids t35).Kids).map eTree))] N') (fun N4 hN4 => ?_) ?_
              · refine c_block ?_
                refine c_seq ?_
                refine c_region ?_
                refine ite_some hL3 fun h4 hL3 => ?_
                refine o_v (v_indexAddr_s (xs := t.Kids) (enc := eTree) sl25 rfl rfl (.f 0 rfl) h4) rfl ?_
                refine o_load_s (ds := [.int .i64 ((at_ t.Kids t35).Rule), .int .u8 ((at_ t.Kids t35).Byte), .slice 3 (((at_ t.Kids t35).Kids).map eTree)]) (xs := t.Kids) (enc := eTree) ty27 rfl (.f 0 rfl) h4 (by simp only [eTree_eq] <;> rfl) rfl rfl rfl rfl rfl fun sa9 sn9 sc9 => ?_
                refine o_alloc zero27 rfl rfl fun b2 => ?_
                refine o_store_box 0 rfl ty27 rfl rfl rfl rfl rfl rfl rfl ?_
                refine o_seq ?_
                refine c_cut (fun E N' => ∀ (out3 : List Run) (end_3 : Int) (sa10 : Option Addr) (sn10 sc10 : Nat), F.trees.spans_j5 (F.trees.spans_l3 t none_ g56 j) t35 out3 end_3 = some o3 → Sat E [(0, .agg #[.int .i64 t.Rule, .int .u8 t.Byte, .slice sa1 sn1 sc1]), (1, .int .i64 from_), (2, .bool none_), (3, .slice sa10 sn10 sc10), (4, .pointer (some ⟨b, 0, none⟩)), (8, .slice none 0 0), (9, .int .i64 0), (10, .int .i64 (out.length : Int)), (11, .int .i64 end_3), (13, .pointer (some ⟨b2, 0, none⟩)), (33, .slice sa1 sn1 sc1), (34, .int .i64 (t.Kids.length : Int)), (35, .int .i64 t35)] [.box b2 27 [.int .i64 ((at_ t.Kids t35).Rule), .int .u8 ((at_ t.Kids t35).Byte), .slice sa9 sn9 sc9], .box b 27 [.int .i64 t.Rule, .int .u8 t.Byte, .slice sa1 sn1 sc1], .row (.slice sa10 sn10 sc10) 62 2 (out3.map eRun)] [(.slice sa1 sn1 sc1, .slice 3 (t.Kids.map eTree)), (.slice sa9 sn9 sc9, .slice 3 (((at_ t.Kids t35).Kids).map eTree))] N') (fun N5 hN5 => ?_) ?_
                · refine c_region ?_
                  refine o_v (v_load_box 0 ty27 rfl rfl rfl rfl rfl) rfl ?_
                  refine o_v (v_move rfl) rfl ?_
                  refine o_v (v_move rfl) rfl ?_
                  refine o_v (v_move rfl) rfl ?_
                  refine o_split (t := 43) rfl (fun h5 => ?_) (fun h5 => ?_)
                  · replace hL3 := ite_t h5 hL3
                    refine o_off rfl rfl (by decide) rfl ?_
                    refine o_off rfl rfl (by decide) rfl ?_
                    refine o_off rfl rfl (by decide) rfl ?_
                    refine o_v (v_pick_t rfl rfl) rfl ?_
                    refine o_v (v_move rfl) rfl ?_
                    obtain ⟨v, h6, hL3⟩ := bd hL3
                    refine o_call [2] call56 rfl rfl rfl (sub_cons 0 rfl sub_nil) (cap := #[]) (by rw [show (#[] : Array Value).toList = [] from rfl, List.append_nil]; exact (hg56 (at_ t.Kids t35) end_1 true out1 sa9 sn9 sc9 sa5 sn5 sc5 v h6)) rfl ?_
                    rintro _ _ _ ⟨sa11, sn11, sc11, rfl, rfl, rfl⟩
                    refine o_v (v_move rfl) rfl ?_
                    refine o_v (v_extract rfl rfl) rfl ?_
                    refine o_v (v_extract rfl rfl) rfl ?_
                    refine o_v (v_assign rfl) rfl ?_
                    refine o_v (v_assign rfl) rfl ?_
                    refine o_nil ?_
                    refine s_st ?_ (hN5 v.1 v.2 sa11 sn11 sc11 hL3)
                    exact st_le [1, 1, 0] (le_cons rfl (le_cons rfl (le_cons rfl (le_cons rfl (le_cons rfl (le_cons rfl (le_cons rfl (le_cons rfl (le_cons rfl (le_cons rfl (le_cons rfl (le_cons rfl (le_cons rfl le_nil))))))))))))) rfl (sub_cons 1 rfl (sub_cons 0 rfl sub_nil))
                  · replace hL3 := ite_f h5 hL3
                    refine o_on rfl rfl ?_
                    refine o_v (v_fieldAddr (v := .pointer (some ⟨b, 0, none⟩)) rfl (fun _ => by kernel_rfl)) rfl ?_
                    refine o_on rfl rfl ?_
                    refine o_v (v_load_box 1 ty3 rfl rfl rfl rfl rfl) rfl ?_
                    refine o_on rfl rfl ?_
                    refine o_v (v_bin rfl rfl rfl) rfl ?_
                    refine o_v (v_pick_f rfl rfl) rfl ?_
                    refine o_v (v_move rfl) rfl ?_
                    obtain ⟨v1, h7, hL3⟩ := bd hL3
                    refine o_call [2] call56 rfl rfl rfl (sub_cons 0 rfl sub_nil) (cap := #[]) (by rw [show (#[] : Array Value).toList = [] from rfl, List.append_nil]; exact (hg56 (at_ t.Kids t35) end_1 (t.Rule == (-1)) out1 sa9 sn9 sc9 sa5 sn5 sc5 v1 h7)) rfl ?_
                    rintro _ _ _ ⟨sa12, sn12, sc12, rfl, rfl, rfl⟩
                    refine o_v (v_move rfl) rfl ?_
                    refine o_v (v_extract rfl rfl) rfl ?_
                    refine o_v (v_extract rfl rfl) rfl ?_
                    refine o_v (v_assign rfl) rfl ?_
                    refine o_v (v_assign rfl) rfl ?_
                    refine o_nil ?_
                    refine s_st ?_ (hN5 v1.1 v1.2 sa12 sn12 sc12 hL3)
                    exact st_le [1, 1, 0] (le_cons rfl (le_cons rfl (le_cons rfl (le_cons rfl (le_cons rfl (le_cons rfl (le_cons rfl (le_cons rfl (le_cons rfl (le_cons rfl (le_cons rfl (le_cons rfl (le_cons rfl le_nil))))))))))))) rfl (sub_cons 1 rfl (sub_cons 0 rfl sub_nil))
                · intro out3 end_3 sa10 sn10 sc10 hL3
                  unfold F.trees.spans_j5 at hL3
                  refine s_st ?_ (hN4 out3 end_3 sa10 sn10 sc10 sa9 sn9 sc9 b2 hL3)
                  exact st_le [1, 0, 0] (le_cons rfl (le_cons rfl (le_cons rfl (le_cons rfl (le_cons rfl (le_cons rfl (le_cons rfl (le_cons rfl (le_cons rfl (le_cons rfl (le_cons rfl (le_cons rfl (le_cons rfl le_nil))))))))))))) rfl (sub_cons 0 rfl (sub_cons 1 rfl sub_nil))
              · intro out2 end_2 sa7 sn7 sc7 sa8 sn8 sc8 b1 hL3
                unfold F.trees.spans_j4 at hL3
                refine sat_wc ?_
                refine c_region ?_
                refine o_v (v_bin rfl rfl rfl) rfl ?_
                refine o_v (v_move rfl) rfl ?_
                refine o_nil ?_
                intro a w hs
                exact ⟨j, Nat.lt_succ_self j, out2, end_2, IntKind.wrap .i64 (t35 + 1), sa7, sn7, sc7, hL3, st_le [0, 1] (le_cons rfl (le_cons rfl (le_cons rfl (le_cons rfl (le_cons rfl (le_cons rfl (le_cons rfl (le_cons rfl (le_cons rfl (le_cons rfl (le_cons rfl (le_cons rfl le_nil)))))))))))) rfl (sub_cons 0 rfl sub_nil) a w hs⟩
            · replace hL3 := ite_f h3 hL3
              refine c_exit0 ?_
              cases hL3
              refine s_st ?_ (hN3 sa5 sn5 sc5)
              exact st_le [0, 0] (le_cons rfl (le_cons rfl (le_cons rfl (le_cons rfl (le_cons rfl (le_cons rfl (le_cons rfl (le_cons rfl (le_cons rfl (le_cons rfl le_nil)))))))))) rfl (sub_cons 0 rfl sub_nil)
      · intro sa6 sn6 sc6
        refine sat_wc ?_
        refine c_seq ?_
        refine c_region ?_
        refine o_v (v_move rfl) rfl ?_
        refine o_v (v_move rfl) rfl ?_
        refine o_v (v_move rfl) rfl ?_
        refine ite_some hF fun h8 hF => ?_
        refine o_v (v_indexAddr_s (xs := o3.1) (enc := eRun) sl56 rfl rfl (.r 1 _ rfl) h8) rfl ?_
        refine o_v (v_fieldAddr (v := .pointer (some ⟨blkA sa6, offA sa6 + (Int.toNat (out.length : Int) * 2 + 1), none⟩)) rfl (fun _ => by kernel_rfl)) rfl ?_
        refine o_store_s (xs := o3.1) (enc := eRun) 1 (Run.mk ((at_ o3.1 (out.length : Int)).Lo) o3.2) rfl ty3 rfl rfl rfl rfl h8 (.s rfl (.nil)) rfl rfl rfl ?_
        refine o_seq ?_
        refine c_seq ?_
        refine c_region ?_
        refine o_v (v_move rfl) rfl ?_
        refine o_v (v_move rfl) rfl ?_
        refine o_v (v_assign rfl) rfl ?_
        refine o_v (v_assign rfl) rfl ?_
        refine o_seq ?_
        refine c_ret ?_
        cases hF
        refine s_ret2 rfl (r_tmp rfl) (r_tmp rfl) fun a w hs => ?_
        exact fin_sel hs [1] ⟨sa6, sn6, sc6, rfl, rfl, rfl⟩ rfl sub_nil
theorem tri56 (k : Nat) : (∀ (t : Tree) (from_ : Int) (none_ : Bool) (out : List Run) (sa1 : Option Addr) (sn1 sc1 : Nat) (sa2 : Option Addr) (sn2 sc2 : Nat) (r : List Run × Int), F.trees.spans k t from_ none_ out = some r → Tri Tryd.prog 56 [.agg #[.int .i64 t.Rule, .int .u8 t.Byte, .slice sa1 sn1 sc1], .int .i64 from_, .bool none_, .slice sa2 sn2 sc2] [.row (.slice sa2 sn2 sc2) 62 2 (out.map eRun)] [(.slice sa1 sn1 sc1, .slice 3 (t.Kids.map eTree))] (fun o H Φ => ∃ (sa13 : Option Addr) (sn13 sc13 : Nat), o = .ret (.tuple #[.slice sa13 sn13 sc13, .int .i64 r.2]) ∧ H = [.row (.slice sa13 sn13 sc13) 62 2 (r.1.map eRun)] ∧ Φ = [])) := by
  induction k with
  | zero => exact fun _ _ _ _ _ _ _ _ _ _ _ h => nomatch (show none = some _ from h)
  | succ k ih => exact tri56_B k _ ih
theorem tri32 (k : Nat) (t : Tree) (sa1 : Option Addr) (sn1 sc1 : Nat) (r : List Run) (hF : F.trees.Spans k t = some r) :
    Tri Tryd.prog 32 [.agg #[.int .i64 t.Rule, .int .u8 t.Byte, .slice sa1 sn1 sc1]] [] [(.slice sa1 sn1 sc1, .slice 3 (t.Kids.map eTree))] (fun o H Φ => ∃ (sa3 : Option Addr) (sn3 sc3 : Nat), o = .ret (.slice sa3 sn3 sc3) ∧ H = [.row (.slice sa3 sn3 sc3) 62 2 (r.map eRun)] ∧ Φ = []) := by
  unfold F.trees.Spans at hF
  refine tri_intro (n := 11) Tryd.func32 rfl Tryd.ntmps32 rfl fun w X => ?_
  refine c_seq ?_
  refine c_region ?_
  refine o_box rfl rfl rfl fun b => ?_
  refine o_v (v_assign rfl) rfl ?_
  refine o_seq ?_
  refine c_seq ?_
  refine c_region ?_
  refine o_v (v_load_box 0 ty27 rfl rfl rfl rfl rfl) rfl ?_
  obtain ⟨v, h1, hF⟩ := bd hF
  refine o_st (st_nilrow 62 2) ?_
  refine o_call [0] call56 rfl rfl rfl (sub_cons 0 rfl sub_nil) (cap := #[]) (by rw [show (#[] : Array Value).toList = [] from rfl, List.append_nil]; exact (tri56 k t 0 false ([] : List Run) sa1 sn1 sc1 none 0 0 v h1)) rfl ?_
  rintro _ _ _ ⟨sa2, sn2, sc2, rfl, rfl, rfl⟩
  refine o_v (v_move rfl) rfl ?_
  refine o_v (v_extract rfl rfl) rfl ?_
  refine o_v (v_extract rfl rfl) rfl ?_
  refine o_v (v_assign rfl) rfl ?_
  refine o_v (v_assign rfl) rfl ?_
  refine o_seq ?_
  refine c_seq ?_
  refine c_region ?_
  refine o_v (v_move rfl) rfl ?_
  refine o_v (v_assign rfl) rfl ?_
  refine o_seq ?_
  refine c_ret ?_
  cases hF
  refine s_ret1 rfl (r_tmp rfl) fun a w hs => ?_
  exact fin_sel hs [0] ⟨sa2, sn2, sc2, rfl, rfl, rfl⟩ rfl sub_nil
theorem tri34_B (k : Nat) (g34 : Tree → Option (List Int))
    (hg34 : ∀ (t : Tree) (sa1 : Option Addr) (sn1 sc1 : Nat) (r : List Int), g34 t = some r → Tri Tryd.prog 34 [.agg #[.int .i64 t.Rule, .int .u8 t.Byte, .slice sa1 sn1 sc1]] [] [(.slice sa1 sn1 sc1, .slice 3 (t.Kids.map eTree))] (fun o H Φ => ∃ (sa9 : Option Addr) (sn9 sc9 : Nat), o = .ret (.slice sa9 sn9 sc9) ∧ H = [.row (.slice sa9 sn9 sc9) 5 1 (r.map eU8)] ∧ Φ = [])) (t : Tree) (sa1 : Option Addr) (sn1 sc1 : Nat) (r : List Int) (hF : F.ref09.Yield_B k g34 t = some r) :
    Tri Tryd.prog 34 [.agg #[.int .i64 t.Rule, .int .u8 t.Byte, .slice sa1 sn1 sc1]] [] [(.slice sa1 sn1 sc1, .slice 3 (t.Kids.map eTree))] (fun o H Φ => ∃ (sa9 : Option Addr) (sn9 sc9 : Nat), o = .ret (.slice sa9 sn9 sc9) ∧ H = [.row (.slice sa9 sn9 sc9) 5 1 (r.map eU8)] ∧ Φ = []) := by
  unfold F.ref09.Yield_B at hF
  refine tri_intro (n := 30) Tryd.func34 rfl Tryd.ntmps34 rfl fun w X => ?_
  refine c_seq ?_
  refine c_region ?_
  refine o_box rfl rfl rfl fun b => ?_
  refine o_v (v_assign rfl) rfl ?_
  refine o_seq ?_
  refine c_seq ?_
  refine c_region ?_
  refine o_v (v_assign rfl) rfl ?_
  refine o_seq ?_
  refine c_seq ?_
  refine c_seq ?_
  refine c_region ?_
  refine o_v (v_fieldAddr (v := .pointer (some ⟨b, 0, none⟩)) rfl (fun _ => by kernel_rfl)) rfl ?_
  refine o_v (v_load_box 0 ty3 rfl rfl rfl rfl rfl) rfl ?_
  refine o_v (v_bin rfl rfl rfl) rfl ?_
  refine o_seq ?_
  refine c_cond rfl (fun h1 => ?_) (fun h1 => ?_)
  · replace hF := ite_t h1 hF
    refine c_seq ?_
    refine c_region ?_
    refine o_v (v_move rfl) rfl ?_
    refine o_v (v_fieldAddr (v := .pointer (some ⟨b, 1, none⟩)) rfl (fun _ => by kernel_rfl)) rfl ?_
    refine o_v (v_load_box 0 ty5 rfl rfl rfl rfl rfl) rfl ?_
    refine o_buildSlice (enc := eU8) ([t.Byte] : List Int) [.int .u8 t.Byte] sl58 rfl (fun _ => by kernel_rfl) rfl rfl rfl (.s rfl (.nil)) rfl fun sa2 sn2 sc2 => ?_
    refine ite_some hF fun h2 hF => ?_
    refine ite_some hF fun h3 hF => ?_
    refine o_st (st_nilrow 5 1) ?_
    refine o_append (enc := eU8) (xs := ([] : List Int)) (ys := ([t.Byte] : List Int)) 0 sl58 rfl rfl rfl (.r 1 _ rfl) h2 h3 rfl fun sa3 sn3 sc3 => ?_
    refine o_v (v_assign rfl) rfl ?_
    refine o_seq ?_
    refine c_seq ?_
    refine c_region ?_
    refine o_v (v_move rfl) rfl ?_
    refine o_v (v_assign rfl) rfl ?_
    refine o_seq ?_
    refine c_ret ?_
    cases hF
    refine s_ret1 rfl (r_tmp rfl) fun a w hs => ?_
    exact fin_sel hs [0] ⟨sa3, sn3, sc3, rfl, rfl, rfl⟩ rfl sub_nil
  · replace hF := ite_f h1 hF
    refine c_skip ?_
    refine sat_wc ?_
    refine c_seq ?_
    refine c_seq ?_
    refine c_region ?_
    refine o_v (v_assign rfl) rfl ?_
    refine o_seq ?_
    obtain ⟨o1, ho1, hF⟩ := bd hF
    refine c_cut (fun E N' => ∀ (sa5 : Option Addr) (sn5 sc5 : Nat), Sat E [(0, .agg #[.int .i64 t.Rule, .int .u8 t.Byte, .slice sa1 sn1 sc1]), (1, .pointer (some ⟨b, 0, none⟩)), (2, .slice none 0 0), (3, .slice sa5 sn5 sc5)] [.box b 27 [.int .i64 t.Rule, .int .u8 t.Byte, .slice sa1 sn1 sc1], .row (.slice sa5 sn5 sc5) 5 1 (o1.map eU8)] [(.slice sa1 sn1 sc1, .slice 3 (t.Kids.map eTree))] N') (fun N1 hN1 => ?_) ?_
    · refine c_block ?_
      refine c_loopE (fun E j a w => ∃ (out : List Int) (i : Int) (sa4 : Option Addr) (sn4 sc4 : Nat), F.ref09.Yield_l1 t g34 j out i = some o1 ∧ St E [(0, .agg #[.int .i64 t.Rule, .int .u8 t.Byte, .slice sa1 sn1 sc1]), (1, .pointer (some ⟨b, 0, none⟩)), (2, .slice none 0 0), (3, .slice sa4 sn4 sc4), (4, .int .i64 i)] [.box b 27 [.int .i64 t.Rule, .int .u8 t.Byte, .slice sa1 sn1 sc1], .row (.slice sa4 sn4 sc4) 5 1 (out.map eU8)] [(.slice sa1 sn1 sc1, .slice 3 (t.Kids.map eTree))] a w) k ?_ ?_
      · refine s_st (st_nilrow 5 1) ?_
        intro a w hs
        exact ⟨([] : List Int), 0, none, 0, 0, ho1, st_le [1, 0] (le_cons rfl (le_cons rfl (le_cons rfl (le_cons rfl (le_cons rfl le_nil))))) rfl (sub_cons 0 rfl sub_nil) a w hs⟩
      · rintro j a w ⟨out, i, sa4, sn4, sc4, hL1, hs⟩
        cases j with
        | zero => cases hL1
        | succ j =>
          refine wc_app hs ?_
          unfold F.ref09.Yield_l1 at hL1
          refine c_seq ?_
          refine c_seq ?_
          refine c_region ?_
          refine o_v (v_move rfl) rfl ?_
          refine o_v (v_fieldAddr (v := .pointer (some ⟨b, 2, none⟩)) rfl (fun _ => by kernel_rfl)) rfl ?_
          refine o_v (v_load_box 0 ty25 rfl rfl rfl rfl rfl) rfl ?_
          refine o_v (v_lenS (enc := eTree) t.Kids sl25 rfl (.f 0 rfl)) rfl ?_
          refine o_v (v_bin rfl rfl rfl) rfl ?_
          refine o_seq ?_
          refine c_cond rfl (fun h4 => ?_) (fun h4 => ?_)
          · replace hL1 := ite_t h4 hL1
            refine c_skip ?_
            refine sat_wc ?_
            refine c_seq ?_
            refine c_block ?_
            refine c_region ?_
            refine o_v (v_move rfl) rfl ?_
            refine o_v (v_fieldAddr (v := .pointer (some ⟨b, 2, none⟩)) rfl (fun _ => by kernel_rfl)) rfl ?_
            refine o_v (v_load_box 0 ty25 rfl rfl rfl rfl rfl) rfl ?_
            refine o_v (v_move rfl) rfl ?_
            refine ite_some hL1 fun h5 hL1 => ?_
            refine o_v (v_indexAddr_s (xs := t.Kids) (enc := eTree) sl25 rfl rfl (.f 0 rfl) h5) rfl ?_
            refine o_load_s (ds := [.int .i64 ((at_ t.Kids i).Rule), .int .u8 ((at_ t.Kids i).Byte), .slice 3 (((at_ t.Kids i).Kids).map eTree)]) (xs := t.Kids) (enc := eTree) ty27 rfl (.f 0 rfl) h5 (by simp only [eTree_eq] <;> rfl) rfl rfl rfl rfl rfl fun sa6 sn6 sc6 => ?_
            obtain ⟨v, h6, hL1⟩ := bd hL1
            refine o_call0 call34 rfl (sub_cons 0 rfl sub_nil) (hg34 (at_ t.Kids i) sa6 sn6 sc6 v h6) rfl ?_
            rintro _ _ _ ⟨sa7, sn7, sc7, rfl, rfl, rfl⟩
            refine ite_some hL1 fun h7 hL1 => ?_
            refine ite_some hL1 fun h8 hL1 => ?_
            refine o_append (enc := eU8) (xs := out) (ys := v) 2 sl58 rfl rfl rfl (.r 0 _ rfl) h7 h8 rfl fun sa8 sn8 sc8 => ?_
            refine o_v (v_assign rfl) rfl ?_
            refine o_nil ?_
            refine sat_wc ?_
            refine c_region ?_
            refine o_v (v_move rfl) rfl ?_
            refine o_v (v_bin rfl rfl rfl) rfl ?_
            refine o_v (v_assign rfl) rfl ?_
            refine o_nil ?_
            intro a w hs
            exact ⟨j, Nat.lt_succ_self j, (out ++ v), IntKind.wrap .i64 (i + 1), sa8, sn8, sc8, hL1, st_le [1, 1] (le_cons rfl (le_cons rfl (le_cons rfl (le_cons rfl (le_cons rfl le_nil))))) rfl (sub_cons 1 rfl sub_nil) a w hs⟩
          · replace hL1 := ite_f h4 hL1
            refine c_exit0 ?_
            cases hL1
            refine s_st ?_ (hN1 sa4 sn4 sc4)
            exact st_le [0, 0] (le_cons rfl (le_cons rfl (le_cons rfl (le_cons rfl le_nil)))) rfl (sub_cons 0 rfl sub_nil)
    · intro sa5 sn5 sc5
      refine sat_wc ?_
      refine c_seq ?_
      refine c_region ?_
      refine o_v (v_move rfl) rfl ?_
      refine o_v (v_assign rfl) rfl ?_
      refine o_seq ?_
      refine c_ret ?_
      cases hF
      refine s_ret1 rfl (r_tmp rfl) fun a w hs => ?_
      exact fin_sel hs [1] ⟨sa5, sn5, sc5, rfl, rfl, rfl⟩ rfl sub_nil
theorem tri34 (k : Nat) : (∀ (t : Tree) (sa1 : Option Addr) (sn1 sc1 : Nat) (r : List Int), F.ref09.Yield k t = some r → Tri Tryd.prog 34 [.agg #[.int .i64 t.Rule, .int .u8 t.Byte, .slice sa1 sn1 sc1]] [] [(.slice sa1 sn1 sc1, .slice 3 (t.Kids.map eTree))] (fun o H Φ => ∃ (sa9 : Option Addr) (sn9 sc9 : Nat), o = .ret (.slice sa9 sn9 sc9) ∧ H = [.row (.slice sa9 sn9 sc9) 5 1 (r.map eU8)] ∧ Φ = [])) := by
  induction k with
  | zero => exact fun _ _ _ _ _ h => nomatch (show none = some _ from h)
  | succ k ih => exact tri34_B k _ ih
theorem tri57_B (k : Nat) (g57 : Tree → Int → Bool → Option (List Run))
    (hg57 : ∀ (t : Tree) (from_ : Int) (none_ : Bool) (sa1 : Option Addr) (sn1 sc1 : Nat) (r : List Run), g57 t from_ none_ = some r → Tri Tryd.prog 57 [.agg #[.int .i64 t.Rule, .int .u8 t.Byte, .slice sa1 sn1 sc1], .int .i64 from_, .bool none_] [] [(.slice sa1 sn1 sc1, .slice 3 (t.Kids.map eTree))] (fun o H Φ => ∃ (sa13 : Option Addr) (sn13 sc13 : Nat), o = .ret (.slice sa13 sn13 sc13) ∧ H = [.row (.slice sa13 sn13 sc13) 62 2 (r.map eRun)] ∧ Φ = [])) (t : Tree) (from_ : Int) (none_ : Bool) (sa1 : Option Addr) (sn1 sc1 : Nat) (r : List Run) (hF : F.ref09.spans_B k g57 t from_ none_ = some r) :
    Tri Tryd.prog 57 [.agg #[.int .i64 t.Rule, .int .u8 t.Byte, .slice sa1 sn1 sc1], .int .i64 from_, .bool none_] [] [(.slice sa1 sn1 sc1, .slice 3 (t.Kids.map eTree))] (fun o H Φ => ∃ (sa13 : Option Addr) (sn13 sc13 : Nat), o = .ret (.slice sa13 sn13 sc13) ∧ H = [.row (.slice sa13 sn13 sc13) 62 2 (r.map eRun)] ∧ Φ = []) := by
  unfold F.ref09.spans_B at hF
  refine tri_intro (n := 66) Tryd.func57 rfl Tryd.ntmps57 rfl fun w X => ?_
  refine c_seq ?_
  refine c_region ?_
  refine o_box rfl rfl rfl fun b => ?_
  refine o_v (v_assign rfl) rfl ?_
  refine o_seq ?_
  refine c_seq ?_
  refine c_region ?_
  refine o_v (v_move rfl) rfl ?_
  refine o_v (v_assign rfl) rfl ?_
  refine o_seq ?_
  refine c_seq ?_
  refine c_seq ?_
  refine c_region ?_
  refine o_v (v_move rfl) rfl ?_
  refine o_v (v_not rfl) rfl ?_
  refine o_seq ?_
  refine c_cut (fun E N' => ∀ (end_ : Int), F.ref09.spans_j1 k from_ none_ t g57 end_ = some r → Sat E [(0, .agg #[.int .i64 t.Rule, .int .u8 t.Byte, .slice sa1 sn1 sc1]), (1, .int .i64 from_), (2, .bool none_), (3, .pointer (some ⟨b, 0, none⟩)), (6, .slice none 0 0), (7, .int .i64 end_)] [.box b 27 [.int .i64 t.Rule, .int .u8 t.Byte, .slice sa1 sn1 sc1]] [(.slice sa1 sn1 sc1, .slice 3 (t.Kids.map eTree))] N') (fun N6 hN6 => ?_) ?_
  · refine c_cond rfl (fun h12 => ?_) (fun h12 => ?_)
    · replace hF := ite_t h12 hF
      refine c_region ?_
      refine o_v (v_move rfl) rfl ?_
      refine o_v (v_load_box 0 ty27 rfl rfl rfl rfl rfl) rfl ?_
      obtain ⟨v2, h13, hF⟩ := bd hF
      refine o_call0 call34 rfl (sub_cons 0 rfl sub_nil) (tri34 k t sa1 sn1 sc1 v2 h13) rfl ?_
      rintro _ _ _ ⟨sa12, sn12, sc12, rfl, rfl, rfl⟩
      refine o_v (v_lenS (enc := eU8) v2 sl58 rfl (.r 0 _ rfl)) rfl ?_
      refine o_v (v_bin rfl rfl rfl) rfl ?_
      refine o_v (v_assign rfl) rfl ?_
      refine o_nil ?_
      refine s_st ?_ (hN6 (IntKind.wrap .i64 (from_ + (v2.length : Int))) hF)
      exact st_le [1] (le_cons rfl (le_cons rfl (le_cons rfl (le_cons rfl (le_cons rfl (le_cons rfl le_nil)))))) rfl (sub_cons 0 rfl sub_nil)
    · replace hF := ite_f h12 hF
      refine c_skip ?_
      refine s_st ?_ (hN6 from_ hF)
      exact st_le [0] (le_cons rfl (le_cons rfl (le_cons rfl (le_cons rfl (le_cons rfl (le_cons rfl le_nil)))))) rfl (sub_cons 0 rfl sub_nil)
  · intro end_ hF
    unfold F.ref09.spans_j1 at hF
    refine sat_wc ?_
    refine c_seq ?_
    refine c_region ?_
    refine o_v (v_assign rfl) rfl ?_
    refine o_seq ?_
    refine c_seq ?_
    refine c_region ?_
    refine o_v (v_move rfl) rfl ?_
    refine o_v (v_move rfl) rfl ?_
    refine o_v (v_move rfl) rfl ?_
    refine o_v (v_build (v := .agg #[.int .i64 from_, .int .i64 end_]) rfl (fun _ => by kernel_rfl)) rfl ?_
    refine o_buildSlice (enc := eRun) ([(Run.mk from_ end_)] : List Run) [.int .i64 from_, .int .i64 end_] sl56 rfl (fun _ => by kernel_rfl) rfl rfl rfl (.s rfl (.s rfl (.nil))) rfl fun sa2 sn2 sc2 => ?_
    refine ite_some hF fun h1 hF => ?_
    refine ite_some hF fun h2 hF => ?_
    refine o_st (st_nilrow 62 2) ?_
    refine o_append (enc := eRun) (xs := ([] : List Run)) (ys := ([(Run.mk from_ end_)] : List Run)) 0 sl56 rfl rfl rfl (.r 1 _ rfl) h1 h2 rfl fun sa3 sn3 sc3 => ?_
    refine o_v (v_assign rfl) rfl ?_
    refine o_seq ?_
    refine c_seq ?_
    refine c_region ?_
    refine o_v (v_move rfl) rfl ?_
    refine o_v (v_assign rfl) rfl ?_
    refine o_seq ?_
    refine c_seq ?_
    refine c_cut (fun E N' => ∀ (quiet : Bool), F.ref09.spans_j2 k t g57 from_ end_ quiet = some r → Sat E [(0, .agg #[.int .i64 t.Rule, .int .u8 t.Byte, .slice sa1 sn1 sc1]), (1, .int .i64 from_), (2, .bool none_), (3, .pointer (some ⟨b, 0, none⟩)), (6, .slice none 0 0), (7, .int .i64 end_), (8, .slice sa3 sn3 sc3), (9, .int .i64 from_), (10, .bool quiet)] [.box b 27 [.int .i64 t.Rule, .int .u8 t.Byte, .slice sa1 sn1 sc1], .row (.slice sa3 sn3 sc3) 62 2 ((([] : List Run) ++ ([(Run.mk from_ end_)] : List Run)).map eRun)] [(.slice sa1 sn1 sc1, .slice 3 (t.Kids.map eTree))] N') (fun N6 hN6 => ?_) ?_
    · refine c_region ?_
      refine o_v (v_move rfl) rfl ?_
      refine o_v (v_move rfl) rfl ?_
      refine o_split (t := 28) rfl (fun h11 => ?_) (fun h11 => ?_)
      · replace hF := ite_t h11 hF
        refine o_off rfl rfl (by decide) rfl ?_
        refine o_off rfl rfl (by decide) rfl ?_
        refine o_off rfl rfl (by decide) rfl ?_
        refine o_v (v_pick_t rfl rfl) rfl ?_
        refine o_v (v_assign rfl) rfl ?_
        refine o_nil ?_
        refine s_st ?_ (hN6 true hF)
        exact st_le [2, 0] (le_cons rfl (le_cons rfl (le_cons rfl (le_cons rfl (le_cons rfl (le_cons rfl (le_cons rfl (le_cons rfl (le_cons rfl le_nil))))))))) rfl (sub_cons 0 rfl sub_nil)
      · replace hF := ite_f h11 hF
        refine o_on rfl rfl ?_
        refine o_v (v_fieldAddr (v := .pointer (some ⟨b, 0, none⟩)) rfl (fun _ => by kernel_rfl)) rfl ?_
        refine o_on rfl rfl ?_
        refine o_v (v_load_box 2 ty3 rfl rfl rfl rfl rfl) rfl ?_
        refine o_on rfl rfl ?_
        refine o_v (v_bin rfl rfl rfl) rfl ?_
        refine o_v (v_pick_f rfl rfl) rfl ?_
        refine o_v (v_assign rfl) rfl ?_
        refine o_nil ?_
        refine s_st ?_ (hN6 (t.Rule == (-1)) hF)
        exact st_le [2, 0] (le_cons rfl (le_cons rfl (le_cons rfl (le_cons rfl (le_cons rfl (le_cons rfl (le_cons rfl (le_cons rfl (le_cons rfl le_nil))))))))) rfl (sub_cons 0 rfl sub_nil)
    · intro quiet hF
      unfold F.ref09.spans_j2 at hF
      refine sat_wc ?_
      refine c_seq ?_
      refine c_seq ?_
      refine c_region ?_
      refine o_v (v_fieldAddr (v := .pointer (some ⟨b, 0, none⟩)) rfl (fun _ => by kernel_rfl)) rfl ?_
      refine o_v (v_load_box 0 ty3 rfl rfl rfl rfl rfl) rfl ?_
      refine o_v (v_bin rfl rfl rfl) rfl ?_
      refine o_seq ?_
      refine c_cut (fun E N' => ∀ (at__ : Int), F.ref09.spans_j3 k t g57 quiet from_ end_ at__ = some r → Sat E [(0, .agg #[.int .i64 t.Rule, .int .u8 t.Byte, .slice sa1 sn1 sc1]), (1, .int .i64 from_), (2, .bool none_), (3, .pointer (some ⟨b, 0, none⟩)), (6, .slice none 0 0), (7, .int .i64 end_), (8, .slice sa3 sn3 sc3), (9, .int .i64 at__), (10, .bool quiet)] [.box b 27 [.int .i64 t.Rule, .int .u8 t.Byte, .slice sa1 sn1 sc1], .row (.slice sa3 sn3 sc3) 62 2 ((([] : List Run) ++ ([(Run.mk from_ end_)] : List Run)).map eRun)] [(.slice sa1 sn1 sc1, .slice 3 (t.Kids.map eTree))] N') (fun N6 hN6 => ?_) ?_
      · refine c_cond rfl (fun h10 => ?_) (fun h10 => ?_)
        · replace hF := ite_t h10 hF
          refine c_region ?_
          refine o_v (v_move rfl) rfl ?_
          refine o_v (v_assign rfl) rfl ?_
          refine o_nil ?_
          refine s_st ?_ (hN6 end_ hF)
          exact st_le [0, 0] (le_cons rfl (le_cons rfl (le_cons rfl (le_cons rfl (le_cons rfl (le_cons rfl (le_cons rfl (le_cons rfl (le_cons rfl le_nil))))))))) rfl (sub_cons 0 rfl sub_nil)
        · replace hF := ite_f h10 hF
          refine c_skip ?_
          refine s_st ?_ (hN6 from_ hF)
          exact st_le [0, 0] (le_cons rfl (le_cons rfl (le_cons rfl (le_cons rfl (le_cons rfl (le_cons rfl (le_cons rfl (le_cons rfl (le_cons rfl le_nil))))))))) rfl (sub_cons 0 rfl sub_nil)
      · intro at__ hF
        unfold F.ref09.spans_j3 at hF
        refine sat_wc ?_
        refine c_seq ?_
        refine c_seq ?_
        refine c_region ?_
        refine o_v (v_assign rfl) rfl ?_
        refine o_seq ?_
        obtain ⟨o4, ho4, hF⟩ := bd hF
        refine c_cut (fun E N' => ∀ (sa5 : Option Addr) (sn5 sc5 : Nat), Sat E [(0, .agg #[.int .i64 t.Rule, .int .u8 t.Byte, .slice sa1 sn1 sc1]), (1, .int .i64 from_), (2, .bool none_), (3, .pointer (some ⟨b, 0, none⟩)), (6, .slice none 0 0), (7, .int .i64 end_), (8, .slice sa5 sn5 sc5)] [.box b 27 [.int .i64 t.Rule, .int .u8 t.Byte, .slice sa1 sn1 sc1], .row (.slice sa5 sn5 sc5) 62 2 (o4.map eRun)] [(.slice sa1 sn1 sc1, .slice 3 (t.Kids.map eTree))] N') (fun N4 hN4 => ?_) ?_
        · refine c_block ?_
          refine c_loopE (fun E j a w => ∃ (out : List Run) (at__1 : Int) (i : Int) (sa4 : Option Addr) (sn4 sc4 : Nat), F.ref09.spans_l4 k t g57 quiet j out at__1 i = some o4 ∧ St E [(0, .agg #[.int .i64 t.Rule, .int .u8 t.Byte, .slice sa1 sn1 sc1]), (1, .int .i64 from_), (2, .bool none_), (3, .pointer (some ⟨b, 0, none⟩)), (6, .slice none 0 0), (7, .int .i64 end_), (8, .slice sa4 sn4 sc4), (9, .int .i64 at__1), (10, .bool quiet), (11, .int .i64 i)] [.box b 27 [.int .i64 t.Rule, .int .u8 t.Byte, .slice sa1 sn1 sc1], .row (.slice sa4 sn4 sc4) 62 2 (out.map eRun)] [(.slice sa1 sn1 sc1, .slice 3 (t.Kids.map eTree))] a w) k ?_ ?_
          · intro a w hs
            exact ⟨(([] : List Run) ++ ([(Run.mk from_ end_)] : List Run)), at__, 0, sa3, sn3, sc3, ho4, st_le [0, 0] (le_cons rfl (le_cons rfl (le_cons rfl (le_cons rfl (le_cons rfl (le_cons rfl (le_cons rfl (le_cons rfl (le_cons rfl (le_cons rfl le_nil)))))))))) rfl (sub_cons 0 rfl sub_nil) a w hs⟩
          · rintro j a w ⟨out, at__1, i, sa4, sn4, sc4, hL4, hs⟩
            cases j with
            | zero => cases hL4
            | succ j =>
              refine wc_app hs ?_
              unfold F.ref09.spans_l4 at hL4
              refine c_seq ?_
              refine c_seq ?_
              refine c_region ?_
              refine o_v (v_move rfl) rfl ?_
              refine o_v (v_fieldAddr (v := .pointer (some ⟨b, 2, none⟩)) rfl (fun _ => by kernel_rfl)) rfl ?_
              refine o_v (v_load_box 0 ty25 rfl rfl rfl rfl rfl) rfl ?_
              refine o_v (v_lenS (enc := eTree) t.Kids sl25 rfl (.f 0 rfl)) rfl ?_
              refine o_v (v_bin rfl rfl rfl) rfl ?_
              refine o_seq ?_
              refine c_cond rfl (fun h3 => ?_) (fun h3 => ?_)
              · replace hL4 := ite_t h3 hL4
                refine c_skip ?_
                refine sat_wc ?_
                refine c_seq ?_
                refine c_cut (fun E N' => ∀ (out1 : List Run) (at__2 : Int) (sa6 : Option Addr) (sn6 sc6 : Nat), F.ref09.spans_j5 (F.ref09.spans_l4 k t g57 quiet j) i out1 at__2 = some o4 → Sat E [(0, .agg #[.int .i64 t.Rule, .int .u8 t.Byte, .slice sa1 sn1 sc1]), (1, .int .i64 from_), (2, .bool none_), (3, .pointer (some ⟨b, 0, none⟩)), (6, .slice none 0 0), (7, .int .i64 end_), (8, .slice sa6 sn6 sc6), (9, .int .i64 at__2), (10, .bool quiet), (11, .int .i64 i)] [.box b 27 [.int .i64 t.Rule, .int .u8 t.Byte, .slice sa1 sn1 sc1], .row (.slice sa6 sn6 sc6) 62 2 (out1.map eRun)] [(.slice sa1 sn1 sc1, .slice 3 (t.Kids.map eTree))] N') (fun N5 hN5 => ?_) ?_
                · refine c_block ?_
                  refine c_seq ?_
                  refine c_region ?_
                  refine o_v (v_move rfl) rfl ?_
                  refine o_v (v_fieldAddr (v := .pointer (some ⟨b, 2, none⟩)) rfl (fun _ => by kernel_rfl)) rfl ?_
                  refine o_v (v_load_box 0 ty25 rfl rfl rfl rfl rfl) rfl ?_
                  refine o_v (v_move rfl) rfl ?_
                  refine ite_some hL4 fun h4 hL4 => ?_
                  refine o_v (v_indexAddr_s (xs := t.Kids) (enc := eTree) sl25 rfl rfl (.f 0 rfl) h4) rfl ?_
                  refine o_load_s (ds := [.int .i64 ((at_ t.Kids i).Rule), .int .u8 ((at_ t.Kids i).Byte), .slice 3 (((at_ t.Kids i).Kids).map eTree)]) (xs := t.Kids) (enc := eTree) ty27 rfl (.f 0 rfl) h4 (by simp only [eTree_eq] <;> rfl) rfl rfl rfl rfl rfl fun sa7 sn7 sc7 => ?_
                  refine o_v (v_move rfl) rfl ?_
                  refine o_v (v_move rfl) rfl ?_
                  obtain ⟨v, h5, hL4⟩ := bd hL4
                  refine o_call0 call57 rfl (sub_cons 0 rfl sub_nil) (hg57 (at_ t.Kids i) at__1 quiet sa7 sn7 sc7 v h5) rfl ?_
                  rintro _ _ _ ⟨sa8, sn8, sc8, rfl, rfl, rfl⟩
                  refine ite_some hL4 fun h6 hL4 => ?_
                  refine ite_some hL4 fun h7 hL4 => ?_
                  refine o_append (enc := eRun) (xs := out) (ys := v) 2 sl56 rfl rfl rfl (.r 0 _ rfl) h6 h7 rfl fun sa9 sn9 sc9 => ?_
                  refine o_v (v_assign rfl) rfl ?_
                  refine o_seq ?_
                  refine c_seq ?_
                  refine c_region ?_
                  refine o_v (v_move rfl) rfl ?_
                  refine o_v (v_not rfl) rfl ?_
                  refine o_seq ?_
                  refine c_cut (fun E N' => ∀ (at__3 : Int), F.ref09.spans_j6 (F.ref09.spans_l4 k t g57 quiet j) i out v at__3 = some o4 → Sat E [(0, .agg #[.int .i64 t.Rule, .int .u8 t.Byte, .slice sa1 sn1 sc1]), (1, .int .i64 from_), (2, .bool none_), (3, .pointer (some ⟨b, 0, none⟩)), (6, .slice none 0 0), (7, .int .i64 end_), (8, .slice sa9 sn9 sc9), (9, .int .i64 at__3), (10, .bool quiet), (11, .int .i64 i)] [.box b 27 [.int .i64 t.Rule, .int .u8 t.Byte, .slice sa1 sn1 sc1], .row (.slice sa9 sn9 sc9) 62 2 ((out ++ v).map eRun)] [(.slice sa1 sn1 sc1, .slice 3 (t.Kids.map eTree))] N') (fun N6 hN6 => ?_) ?_
                  · refine c_cond rfl (fun h8 => ?_) (fun h8 => ?_)
                    · replace hL4 := ite_t h8 hL4
                      refine c_region ?_
                      refine o_v (v_move rfl) rfl ?_
                      refine o_v (v_fieldAddr (v := .pointer (some ⟨b, 2, none⟩)) rfl (fun _ => by kernel_rfl)) rfl ?_
                      refine o_v (v_load_box 1 ty25 rfl rfl rfl rfl rfl) rfl ?_
                      refine o_v (v_move rfl) rfl ?_
                      refine o_v (v_indexAddr_s (xs := t.Kids) (enc := eTree) sl25 rfl rfl (.f 1 rfl) h4) rfl ?_
                      refine o_load_s (ds := [.int .i64 ((at_ t.Kids i).Rule), .int .u8 ((at_ t.Kids i).Byte), .slice 3 (((at_ t.Kids i).Kids).map eTree)]) (xs := t.Kids) (enc := eTree) ty27 rfl (.f 1 rfl) h4 (by simp only [eTree_eq] <;> rfl) rfl rfl rfl rfl rfl fun sa10 sn10 sc10 => ?_
                      obtain ⟨v1, h9, hL4⟩ := bd hL4
                      refine o_call0 call34 rfl (sub_cons 0 rfl sub_nil) (tri34 k (at_ t.Kids i) sa10 sn10 sc10 v1 h9) rfl ?_
                      rintro _ _ _ ⟨sa11, sn11, sc11, rfl, rfl, rfl⟩
                      refine o_v (v_lenS (enc := eU8) v1 sl58 rfl (.r 0 _ rfl)) rfl ?_
                      refine o_v (v_bin rfl rfl rfl) rfl ?_
                      refine o_v (v_assign rfl) rfl ?_
                      refine o_nil ?_
                      refine s_st ?_ (hN6 (IntKind.wrap .i64 (at__1 + (v1.length : Int))) hL4)
                      exact st_le [2, 2] (le_cons rfl (le_cons rfl (le_cons rfl (le_cons rfl (le_cons rfl (le_cons rfl (le_cons rfl (le_cons rfl (le_cons rfl (le_cons rfl le_nil)))))))))) rfl (sub_cons 2 rfl sub_nil)
                    · replace hL4 := ite_f h8 hL4
                      refine c_skip ?_
                      refine s_st ?_ (hN6 at__1 hL4)
                      exact st_le [1, 1] (le_cons rfl (le_cons rfl (le_cons rfl (le_cons rfl (le_cons rfl (le_cons rfl (le_cons rfl (le_cons rfl (le_cons rfl (le_cons rfl le_nil)))))))))) rfl (sub_cons 1 rfl sub_nil)
                  · intro at__3 hL4
                    unfold F.ref09.spans_j6 at hL4
                    refine s_st ?_ (hN5 (out ++ v) at__3 sa9 sn9 sc9 hL4)
                    exact st_le [0, 0] (le_cons rfl (le_cons rfl (le_cons rfl (le_cons rfl (le_cons rfl (le_cons rfl (le_cons rfl (le_cons rfl (le_cons rfl (le_cons rfl le_nil)))))))))) rfl (sub_cons 0 rfl sub_nil)
                · intro out1 at__2 sa6 sn6 sc6 hL4
                  unfold F.ref09.spans_j5 at hL4
                  refine sat_wc ?_
                  refine c_region ?_
                  refine o_v (v_move rfl) rfl ?_
                  refine o_v (v_bin rfl rfl rfl) rfl ?_
                  refine o_v (v_assign rfl) rfl ?_
                  refine o_nil ?_
                  intro a w hs
                  exact ⟨j, Nat.lt_succ_self j, out1, at__2, IntKind.wrap .i64 (i + 1), sa6, sn6, sc6, hL4, st_le [0, 0] (le_cons rfl (le_cons rfl (le_cons rfl (le_cons rfl (le_cons rfl (le_cons rfl (le_cons rfl (le_cons rfl (le_cons rfl (le_cons rfl le_nil)))))))))) rfl (sub_cons 0 rfl sub_nil) a w hs⟩
              · replace hL4 := ite_f h3 hL4
                refine c_exit0 ?_
                cases hL4
                refine s_st ?_ (hN4 sa4 sn4 sc4)
                exact st_le [0, 0] (le_cons rfl (le_cons rfl (le_cons rfl (le_cons rfl (le_cons rfl (le_cons rfl (le_cons rfl le_nil))))))) rfl (sub_cons 0 rfl sub_nil)
        · intro sa5 sn5 sc5
          refine sat_wc ?_
          refine c_seq ?_
          refine c_region ?_
          refine o_v (v_move rfl) rfl ?_
          refine o_v (v_assign rfl) rfl ?_
          refine o_seq ?_
          refine c_ret ?_
          cases hF
          refine s_ret1 rfl (r_tmp rfl) fun a w hs => ?_
          exact fin_sel hs [1] ⟨sa5, sn5, sc5, rfl, rfl, rfl⟩ rfl sub_nil
theorem tri57 (k : Nat) : (∀ (t : Tree) (from_ : Int) (none_ : Bool) (sa1 : Option Addr) (sn1 sc1 : Nat) (r : List Run), F.ref09.spans k t from_ none_ = some r → Tri Tryd.prog 57 [.agg #[.int .i64 t.Rule, .int .u8 t.Byte, .slice sa1 sn1 sc1], .int .i64 from_, .bool none_] [] [(.slice sa1 sn1 sc1, .slice 3 (t.Kids.map eTree))] (fun o H Φ => ∃ (sa13 : Option Addr) (sn13 sc13 : Nat), o = .ret (.slice sa13 sn13 sc13) ∧ H = [.row (.slice sa13 sn13 sc13) 62 2 (r.map eRun)] ∧ Φ = [])) := by
  induction k with
  | zero => exact fun _ _ _ _ _ _ _ h => nomatch (show none = some _ from h)
  | succ k ih => exact tri57_B k _ ih
theorem tri36 (k : Nat) (t : Tree) (sa1 : Option Addr) (sn1 sc1 : Nat) (r : List Run) (hF : F.ref09.Spans k t = some r) :
    Tri Tryd.prog 36 [.agg #[.int .i64 t.Rule, .int .u8 t.Byte, .slice sa1 sn1 sc1]] [] [(.slice sa1 sn1 sc1, .slice 3 (t.Kids.map eTree))] (fun o H Φ => ∃ (sa3 : Option Addr) (sn3 sc3 : Nat), o = .ret (.slice sa3 sn3 sc3) ∧ H = [.row (.slice sa3 sn3 sc3) 62 2 (r.map eRun)] ∧ Φ = []) := by
  unfold F.ref09.Spans at hF
  refine tri_intro (n := 5) Tryd.func36 rfl Tryd.ntmps36 rfl fun w X => ?_
  refine c_seq ?_
  refine c_region ?_
  refine o_box rfl rfl rfl fun b => ?_
  refine o_v (v_assign rfl) rfl ?_
  refine o_seq ?_
  refine c_seq ?_
  refine c_region ?_
  refine o_v (v_load_box 0 ty27 rfl rfl rfl rfl rfl) rfl ?_
  obtain ⟨v, h1, hF⟩ := bd hF
  refine o_call0 call57 rfl (sub_cons 0 rfl sub_nil) (tri57 k t 0 false sa1 sn1 sc1 v h1) rfl ?_
  rintro _ _ _ ⟨sa2, sn2, sc2, rfl, rfl, rfl⟩
  refine o_v (v_assign rfl) rfl ?_
  refine o_seq ?_
  refine c_ret ?_
  cases hF
  refine s_ret1 rfl (r_tmp rfl) fun a w hs => ?_
  exact fin_sel hs [0] ⟨sa2, sn2, sc2, rfl, rfl, rfl⟩ rfl sub_nil
end Go.Vc
