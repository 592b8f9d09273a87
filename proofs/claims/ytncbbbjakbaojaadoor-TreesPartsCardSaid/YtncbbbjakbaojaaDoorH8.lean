/-
  The law TreesParts, walked.
-/
import Derived.Test.YtncbbbjakbaojaaDoorH7
set_option linter.unusedVariables false
set_option linter.unusedSimpArgs false
set_option maxRecDepth 8000
set_option maxHeartbeats 2000000
namespace Go.Vc
open Go Go.Proofs
theorem cnt_cons {A L : List HB} {b : HB} (h : ∀ x, A.count x ≤ L.count x) : ∀ x, A.count x ≤ (b :: L).count x := fun x => by
  have := h x
  rw [List.count_cons]
  omega
theorem tri7 (k : Nat) (t : Tree) (path : List Int) (s : Tree) (sa1 : Option Addr) (sn1 sc1 : Nat) (sa2 : Option Addr) (sn2 sc2 : Nat) (sa3 : Option Addr) (sn3 sc3 : Nat) (r : Bool) (hF : F.law09.TreesParts k t path s = some r) :
    Tri Tryd.prog 7 [.agg #[.int .i64 t.Rule, .int .u8 t.Byte, .slice sa1 sn1 sc1], .slice sa2 sn2 sc2, .agg #[.int .i64 s.Rule, .int .u8 s.Byte, .slice sa3 sn3 sc3]] [] [gf10 0, (.slice sa1 sn1 sc1, .slice 3 (t.Kids.map eTree)), (.slice sa2 sn2 sc2, .slice 1 (path.map eI64)), (.slice sa3 sn3 sc3, .slice 3 (s.Kids.map eTree))] (fun o H Φ => o = .ret (.bool r) ∧ H = [] ∧ Φ = []) := by
  unfold F.law09.TreesParts at hF
  refine tri_intro (n := 101) Tryd.func7 rfl Tryd.ntmps7 rfl fun w X => ?_
  refine c_seq ?_
  refine c_region ?_
  refine o_box rfl rfl rfl fun b => ?_
  refine o_box rfl rfl rfl fun b1 => ?_
  refine o_v (v_assign rfl) rfl ?_
  refine o_seq ?_
  refine c_seq ?_
  refine c_seq ?_
  refine c_region ?_
  refine o_v (v_load_box 1 ty27 rfl rfl rfl rfl rfl) rfl ?_
  obtain ⟨v, h1, hF⟩ := bd hF
  refine o_callSB call13 rfl (lent_f 1 rfl lent_nil) (tri13 k t sa1 sn1 sc1 v h1) rfl ?_
  refine o_v (v_move rfl) rfl ?_
  refine o_split (t := 19) rfl (fun h2 => ?_) (fun h2 => ?_)
  · replace hF := ite_t h2 hF
    refine o_off rfl rfl (by decide) rfl ?_
    refine o_off rfl rfl (by decide) rfl ?_
    refine o_v (v_pick_t rfl rfl) rfl ?_
    refine o_v (v_move rfl) rfl ?_
    refine o_off rfl rfl (by decide) rfl ?_
    refine o_off rfl rfl (by decide) rfl ?_
    refine o_off rfl rfl (by decide) rfl ?_
    refine o_v (v_pick_t rfl rfl) rfl ?_
    refine o_seq ?_
    refine c_cond rfl (fun _ => ?_) (fun h => Bool.noConfusion h)
    refine c_seq ?_
    refine c_region ?_
    obtain ⟨v1, h3, hF⟩ := bd hF
    refine o_callSB call15 rfl (lent_f 0 rfl lent_nil) (tri15 k v1 h3) rfl ?_
    refine o_v (v_assign rfl) rfl ?_
    refine o_seq ?_
    refine c_ret ?_
    cases hF
    refine s_ret1 rfl (r_tmp rfl) fun a w hs => ?_
    exact fin_sel hs [] ⟨rfl, rfl, rfl⟩ rfl sub_nil
  · replace hF := ite_f h2 hF
    refine o_on rfl rfl ?_
    refine o_v (v_load_box 0 ty27 rfl rfl rfl rfl rfl) rfl ?_
    refine o_on rfl rfl ?_
    obtain ⟨v2, h4, hF⟩ := bd hF
    refine o_callSB call13 rfl (lent_f 3 rfl lent_nil) (tri13 k s sa3 sn3 sc3 v2 h4) rfl ?_
    refine o_v (v_pick_f rfl rfl) rfl ?_
    refine o_v (v_move rfl) rfl ?_
    refine o_split (t := 23) rfl (fun h5 => ?_) (fun h5 => ?_)
    · replace hF := ite_t h5 hF
      refine o_off rfl rfl (by decide) rfl ?_
      refine o_off rfl rfl (by decide) rfl ?_
      refine o_off rfl rfl (by decide) rfl ?_
      refine o_v (v_pick_t rfl rfl) rfl ?_
      refine o_seq ?_
      refine c_cond rfl (fun _ => ?_) (fun h => Bool.noConfusion h)
      refine c_seq ?_
      refine c_region ?_
      obtain ⟨v3, h6, hF⟩ := bd hF
      refine o_callSB call15 rfl (lent_f 0 rfl lent_nil) (tri15 k v3 h6) rfl ?_
      refine o_v (v_assign rfl) rfl ?_
      refine o_seq ?_
      refine c_ret ?_
      cases hF
      refine s_ret1 rfl (r_tmp rfl) fun a w hs => ?_
      exact fin_sel hs [] ⟨rfl, rfl, rfl⟩ rfl sub_nil
    · replace hF := ite_f h5 hF
      refine o_on rfl rfl ?_
      refine o_v (v_move rfl) rfl ?_
      refine o_on rfl rfl ?_
      refine o_v (v_lenS (enc := eI64) path sl44 rfl (.f 2 rfl)) rfl ?_
      refine o_on rfl rfl ?_
      refine o_v (v_bin rfl rfl rfl) rfl ?_
      refine o_v (v_pick_f rfl rfl) rfl ?_
      refine o_seq ?_
      refine c_cond rfl (fun h7 => ?_) (fun h7 => ?_)
      · replace hF := ite_t h7 hF
        refine c_seq ?_
        refine c_region ?_
        obtain ⟨v4, h8, hF⟩ := bd hF
        refine o_callSB call15 rfl (lent_f 0 rfl lent_nil) (tri15 k v4 h8) rfl ?_
        refine o_v (v_assign rfl) rfl ?_
        refine o_seq ?_
        refine c_ret ?_
        cases hF
        refine s_ret1 rfl (r_tmp rfl) fun a w hs => ?_
        exact fin_sel hs [] ⟨rfl, rfl, rfl⟩ rfl sub_nil
      · replace hF := ite_f h7 hF
        refine c_skip ?_
        refine sat_wc ?_
        refine c_seq ?_
        refine c_cut (fun E N' => ∀ (V17 V18 : VT) (b2 : Nat) (b3 : Nat), F.law09.TreesParts_j1 k path t s V17.rule V17.byte (V17.kids.map tr) V18.rule V18.byte (V18.kids.map tr) = some r → Sat E [(0, .agg #[.int .i64 t.Rule, .int .u8 t.Byte, .slice sa1 sn1 sc1]), (1, .slice sa2 sn2 sc2), (2, .agg #[.int .i64 s.Rule, .int .u8 s.Byte, .slice sa3 sn3 sc3]), (3, .pointer (some ⟨b, 0, none⟩)), (5, .pointer (some ⟨b1, 0, none⟩)), (6, .bool false), (7, .pointer (some ⟨b2, 0, none⟩)), (8, .pointer (some ⟨b3, 0, none⟩))] (.box b1 27 [.int .i64 s.Rule, .int .u8 s.Byte, .slice sa3 sn3 sc3] :: .box b 27 [.int .i64 t.Rule, .int .u8 t.Byte, .slice sa1 sn1 sc1] :: .box b2 27 [.int .i64 V17.rule, .int .u8 V17.byte, .slice V17.a V17.n V17.c] :: .box b3 27 [.int .i64 V18.rule, .int .u8 V18.byte, .slice V18.a V18.n V18.c] :: (rws V17 ++ rws V18)) [gf10 0, (.slice sa1 sn1 sc1, .slice 3 (t.Kids.map eTree)), (.slice sa2 sn2 sc2, .slice 1 (path.map eI64)), (.slice sa3 sn3 sc3, .slice 3 (s.Kids.map eTree))] N') (fun N2 hN2 => ?_) ?_
        · refine c_draw (n := 8) [0, 0] mixed rfl rfl ?_
          refine d_val 0 rfl pnok (by kernel_rfl) (by kernel_rfl) (by kernel_rfl) rfl (v_load_box 1 ty27 rfl rfl rfl rfl rfl) ?_
          refine d_val 2 rfl pnok (by kernel_rfl) (by kernel_rfl) (by kernel_rfl) rfl (v_load_box 0 ty27 rfl rfl rfl rfl rfl) ?_
          obtain ⟨v17, h28, hF⟩ := bd hF
          obtain ⟨v18, h29, hF⟩ := bd hF
          refine d_all [1, 4, 5] (by kernel_rfl) (by simp) ⟨⟨_, rfl, ?_⟩, ⟨_, rfl, ?_⟩, ⟨_, rfl, ?_⟩, trivial⟩
          · refine o_call0 call16 rfl (sub_cons 1 rfl sub_nil) (copyR_deep k t sa1 sn1 sc1 v17 h28) rfl ?_
            rintro _ _ _ ⟨V17, hV17, rfl, rfl, rfl⟩
            refine o_st (st_perm List.perm_append_comm) ?_
            refine d_next [0, 0] 0 rfl rfl ?_
            refine d_all [3, 4, 5] (by kernel_rfl) (by simp) ⟨⟨_, rfl, ?_⟩, ⟨_, rfl, ?_⟩, ⟨_, rfl, ?_⟩, trivial⟩
            · refine o_call0 call16 rfl (sub_cons 3 rfl sub_nil) (copyR_deep k s sa3 sn3 sc3 v18 h29) rfl ?_
              rintro _ _ _ ⟨V18, hV18, rfl, rfl, rfl⟩
              refine o_st (st_perm List.perm_append_comm) ?_
              refine d_next [0, 0] 0 rfl rfl ?_
              refine d_all [4, 5] (by kernel_rfl) (by simp) ⟨⟨_, rfl, ?_⟩, ⟨_, rfl, ?_⟩, trivial⟩
              · refine o_alloc zero27 rfl rfl fun b8 => ?_
                refine d_next [1, 1] 0 rfl rfl ?_
                refine d_one 5 rfl (by kernel_rfl) ?_
                refine o_alloc zero27 rfl rfl fun b9 => ?_
                refine d_next [2, 2] 0 rfl rfl ?_
                refine d_one 6 rfl (by kernel_rfl) ?_
                refine o_store_box 1 rfl ty27 rfl rfl rfl rfl rfl rfl rfl ?_
                refine d_next [2, 2] 0 rfl rfl ?_
                refine d_one 7 rfl (by kernel_rfl) ?_
                refine o_store_box 0 rfl ty27 rfl rfl rfl rfl rfl rfl rfl ?_
                refine d_next [2, 2] 0 rfl rfl ?_
                refine d_done (by kernel_rfl) ?_
                rw [← hV17, ← hV18, tr_eq V17, tr_eq V18] at hF
                exact fun a w hs => hN2 V17 V18 b8 b9 hF a w (st_cnt (H := .box b9 27 [.int .i64 V18.rule, .int .u8 V18.byte, .slice V18.a V18.n V18.c] :: .box b8 27 [.int .i64 V17.rule, .int .u8 V17.byte, .slice V17.a V17.n V17.c] :: .box b1 27 [.int .i64 s.Rule, .int .u8 s.Byte, .slice sa3 sn3 sc3] :: .box b 27 [.int .i64 t.Rule, .int .u8 t.Byte, .slice sa1 sn1 sc1] :: (rws V17 ++ rws V18)) (le_cons rfl (le_cons rfl (le_cons rfl (le_cons rfl (le_cons rfl (le_cons rfl (le_cons rfl (le_cons rfl le_nil)))))))) (fun x => by simp only [List.count_append, List.count_cons]; omega) (fun p hp => hp) a w hs)
              · refine o_alloc zero27 rfl rfl fun b8 => ?_
                refine d_next [1, 1] 0 rfl rfl ?_
                refine d_one 4 rfl (by kernel_rfl) ?_
                refine o_alloc zero27 rfl rfl fun b9 => ?_
                refine d_next [2, 2] 0 rfl rfl ?_
                refine d_one 6 rfl (by kernel_rfl) ?_
                refine o_store_box 0 rfl ty27 rfl rfl rfl rfl rfl rfl rfl ?_
                refine d_next [2, 2] 0 rfl rfl ?_
                refine d_one 7 rfl (by kernel_rfl) ?_
                refine o_store_box 1 rfl ty27 rfl rfl rfl rfl rfl rfl rfl ?_
                refine d_next [2, 2] 0 rfl rfl ?_
                refine d_done (by kernel_rfl) ?_
                rw [← hV17, ← hV18, tr_eq V17, tr_eq V18] at hF
                exact fun a w hs => hN2 V17 V18 b9 b8 hF a w (st_cnt (H := .box b9 27 [.int .i64 V17.rule, .int .u8 V17.byte, .slice V17.a V17.n V17.c] :: .box b8 27 [.int .i64 V18.rule, .int .u8 V18.byte, .slice V18.a V18.n V18.c] :: .box b1 27 [.int .i64 s.Rule, .int .u8 s.Byte, .slice sa3 sn3 sc3] :: .box b 27 [.int .i64 t.Rule, .int .u8 t.Byte, .slice sa1 sn1 sc1] :: (rws V17 ++ rws V18)) (le_cons rfl (le_cons rfl (le_cons rfl (le_cons rfl (le_cons rfl (le_cons rfl (le_cons rfl (le_cons rfl le_nil)))))))) (fun x => by simp only [List.count_append, List.count_cons]; omega) (fun p hp => hp) a w hs)
            · refine o_alloc zero27 rfl rfl fun b8 => ?_
              refine d_next [1, 1] 0 rfl rfl ?_
              refine d_all [3, 5] (by kernel_rfl) (by simp) ⟨⟨_, rfl, ?_⟩, ⟨_, rfl, ?_⟩, trivial⟩
              · refine o_call0 call16 rfl (sub_cons 3 rfl sub_nil) (copyR_deep k s sa3 sn3 sc3 v18 h29) rfl ?_
                rintro _ _ _ ⟨V18, hV18, rfl, rfl, rfl⟩
                refine o_st (st_perm List.perm_append_comm) ?_
                refine d_next [1, 1] 0 rfl rfl ?_
                refine d_one 5 rfl (by kernel_rfl) ?_
                refine o_alloc zero27 rfl rfl fun b9 => ?_
                refine d_next [2, 2] 0 rfl rfl ?_
                refine d_one 6 rfl (by kernel_rfl) ?_
                refine o_store_box 1 rfl ty27 rfl rfl rfl rfl rfl rfl rfl ?_
                refine d_next [2, 2] 0 rfl rfl ?_
                refine d_one 7 rfl (by kernel_rfl) ?_
                refine o_store_box 0 rfl ty27 rfl rfl rfl rfl rfl rfl rfl ?_
                refine d_next [2, 2] 0 rfl rfl ?_
                refine d_done (by kernel_rfl) ?_
                rw [← hV17, ← hV18, tr_eq V17, tr_eq V18] at hF
                exact fun a w hs => hN2 V17 V18 b8 b9 hF a w (st_cnt (H := .box b9 27 [.int .i64 V18.rule, .int .u8 V18.byte, .slice V18.a V18.n V18.c] :: .box b8 27 [.int .i64 V17.rule, .int .u8 V17.byte, .slice V17.a V17.n V17.c] :: .box b1 27 [.int .i64 s.Rule, .int .u8 s.Byte, .slice sa3 sn3 sc3] :: .box b 27 [.int .i64 t.Rule, .int .u8 t.Byte, .slice sa1 sn1 sc1] :: (rws V17 ++ rws V18)) (le_cons rfl (le_cons rfl (le_cons rfl (le_cons rfl (le_cons rfl (le_cons rfl (le_cons rfl (le_cons rfl le_nil)))))))) (fun x => by simp only [List.count_append, List.count_cons]; omega) (fun p hp => hp) a w hs)
              · refine o_alloc zero27 rfl rfl fun b9 => ?_
                refine d_next [2, 2] 0 rfl rfl ?_
                refine d_one 3 rfl (by kernel_rfl) ?_
                refine o_call0 call16 rfl (sub_cons 3 rfl sub_nil) (copyR_deep k s sa3 sn3 sc3 v18 h29) rfl ?_
                rintro _ _ _ ⟨V18, hV18, rfl, rfl, rfl⟩
                refine o_st (st_perm List.perm_append_comm) ?_
                refine d_next [2, 2] 0 rfl rfl ?_
                refine d_one 6 rfl (by kernel_rfl) ?_
                refine o_store_box 1 rfl ty27 rfl rfl rfl rfl rfl rfl rfl ?_
                refine d_next [2, 2] 0 rfl rfl ?_
                refine d_one 7 rfl (by kernel_rfl) ?_
                refine o_store_box 0 rfl ty27 rfl rfl rfl rfl rfl rfl rfl ?_
                refine d_next [2, 2] 0 rfl rfl ?_
                refine d_done (by kernel_rfl) ?_
                rw [← hV17, ← hV18, tr_eq V17, tr_eq V18] at hF
                exact fun a w hs => hN2 V17 V18 b8 b9 hF a w (st_cnt (H := .box b9 27 [.int .i64 V18.rule, .int .u8 V18.byte, .slice V18.a V18.n V18.c] :: .box b8 27 [.int .i64 V17.rule, .int .u8 V17.byte, .slice V17.a V17.n V17.c] :: .box b1 27 [.int .i64 s.Rule, .int .u8 s.Byte, .slice sa3 sn3 sc3] :: .box b 27 [.int .i64 t.Rule, .int .u8 t.Byte, .slice sa1 sn1 sc1] :: (rws V17 ++ rws V18)) (le_cons rfl (le_cons rfl (le_cons rfl (le_cons rfl (le_cons rfl (le_cons rfl (le_cons rfl (le_cons rfl le_nil)))))))) (fun x => by simp only [List.count_append, List.count_cons]; omega) (fun p hp => hp) a w hs)
            · refine o_alloc zero27 rfl rfl fun b8 => ?_
              refine d_next [1, 1] 0 rfl rfl ?_
              refine d_all [3, 4] (by kernel_rfl) (by simp) ⟨⟨_, rfl, ?_⟩, ⟨_, rfl, ?_⟩, trivial⟩
              · refine o_call0 call16 rfl (sub_cons 3 rfl sub_nil) (copyR_deep k s sa3 sn3 sc3 v18 h29) rfl ?_
                rintro _ _ _ ⟨V18, hV18, rfl, rfl, rfl⟩
                refine o_st (st_perm List.perm_append_comm) ?_
                refine d_next [1, 1] 0 rfl rfl ?_
                refine d_one 4 rfl (by kernel_rfl) ?_
                refine o_alloc zero27 rfl rfl fun b9 => ?_
                refine d_next [2, 2] 0 rfl rfl ?_
                refine d_one 6 rfl (by kernel_rfl) ?_
                refine o_store_box 0 rfl ty27 rfl rfl rfl rfl rfl rfl rfl ?_
                refine d_next [2, 2] 0 rfl rfl ?_
                refine d_one 7 rfl (by kernel_rfl) ?_
                refine o_store_box 1 rfl ty27 rfl rfl rfl rfl rfl rfl rfl ?_
                refine d_next [2, 2] 0 rfl rfl ?_
                refine d_done (by kernel_rfl) ?_
                rw [← hV17, ← hV18, tr_eq V17, tr_eq V18] at hF
                exact fun a w hs => hN2 V17 V18 b9 b8 hF a w (st_cnt (H := .box b9 27 [.int .i64 V17.rule, .int .u8 V17.byte, .slice V17.a V17.n V17.c] :: .box b8 27 [.int .i64 V18.rule, .int .u8 V18.byte, .slice V18.a V18.n V18.c] :: .box b1 27 [.int .i64 s.Rule, .int .u8 s.Byte, .slice sa3 sn3 sc3] :: .box b 27 [.int .i64 t.Rule, .int .u8 t.Byte, .slice sa1 sn1 sc1] :: (rws V17 ++ rws V18)) (le_cons rfl (le_cons rfl (le_cons rfl (le_cons rfl (le_cons rfl (le_cons rfl (le_cons rfl (le_cons rfl le_nil)))))))) (fun x => by simp only [List.count_append, List.count_cons]; omega) (fun p hp => hp) a w hs)
              · refine o_alloc zero27 rfl rfl fun b9 => ?_
                refine d_next [2, 2] 0 rfl rfl ?_
                refine d_one 3 rfl (by kernel_rfl) ?_
                refine o_call0 call16 rfl (sub_cons 3 rfl sub_nil) (copyR_deep k s sa3 sn3 sc3 v18 h29) rfl ?_
                rintro _ _ _ ⟨V18, hV18, rfl, rfl, rfl⟩
                refine o_st (st_perm List.perm_append_comm) ?_
                refine d_next [2, 2] 0 rfl rfl ?_
                refine d_one 6 rfl (by kernel_rfl) ?_
                refine o_store_box 0 rfl ty27 rfl rfl rfl rfl rfl rfl rfl ?_
                refine d_next [2, 2] 0 rfl rfl ?_
                refine d_one 7 rfl (by kernel_rfl) ?_
                refine o_store_box 1 rfl ty27 rfl rfl rfl rfl rfl rfl rfl ?_
                refine d_next [2, 2] 0 rfl rfl ?_
                refine d_done (by kernel_rfl) ?_
                rw [← hV17, ← hV18, tr_eq V17, tr_eq V18] at hF
                exact fun a w hs => hN2 V17 V18 b9 b8 hF a w (st_cnt (H := .box b9 27 [.int .i64 V17.rule, .int .u8 V17.byte, .slice V17.a V17.n V17.c] :: .box b8 27 [.int .i64 V18.rule, .int .u8 V18.byte, .slice V18.a V18.n V18.c] :: .box b1 27 [.int .i64 s.Rule, .int .u8 s.Byte, .slice sa3 sn3 sc3] :: .box b 27 [.int .i64 t.Rule, .int .u8 t.Byte, .slice sa1 sn1 sc1] :: (rws V17 ++ rws V18)) (le_cons rfl (le_cons rfl (le_cons rfl (le_cons rfl (le_cons rfl (le_cons rfl (le_cons rfl (le_cons rfl le_nil)))))))) (fun x => by simp only [List.count_append, List.count_cons]; omega) (fun p hp => hp) a w hs)
          · refine o_alloc zero27 rfl rfl fun b8 => ?_
            refine d_next [1, 1] 0 rfl rfl ?_
            refine d_all [1, 5] (by kernel_rfl) (by simp) ⟨⟨_, rfl, ?_⟩, ⟨_, rfl, ?_⟩, trivial⟩
            · refine o_call0 call16 rfl (sub_cons 1 rfl sub_nil) (copyR_deep k t sa1 sn1 sc1 v17 h28) rfl ?_
              rintro _ _ _ ⟨V17, hV17, rfl, rfl, rfl⟩
              refine o_st (st_perm List.perm_append_comm) ?_
              refine d_next [1, 1] 0 rfl rfl ?_
              refine d_all [3, 5] (by kernel_rfl) (by simp) ⟨⟨_, rfl, ?_⟩, ⟨_, rfl, ?_⟩, trivial⟩
              · refine o_call0 call16 rfl (sub_cons 3 rfl sub_nil) (copyR_deep k s sa3 sn3 sc3 v18 h29) rfl ?_
                rintro _ _ _ ⟨V18, hV18, rfl, rfl, rfl⟩
                refine o_st (st_perm List.perm_append_comm) ?_
                refine d_next [1, 1] 0 rfl rfl ?_
                refine d_one 5 rfl (by kernel_rfl) ?_
                refine o_alloc zero27 rfl rfl fun b9 => ?_
                refine d_next [2, 2] 0 rfl rfl ?_
                refine d_one 6 rfl (by kernel_rfl) ?_
                refine o_store_box 1 rfl ty27 rfl rfl rfl rfl rfl rfl rfl ?_
                refine d_next [2, 2] 0 rfl rfl ?_
                refine d_one 7 rfl (by kernel_rfl) ?_
                refine o_store_box 0 rfl ty27 rfl rfl rfl rfl rfl rfl rfl ?_
                refine d_next [2, 2] 0 rfl rfl ?_
                refine d_done (by kernel_rfl) ?_
                rw [← hV17, ← hV18, tr_eq V17, tr_eq V18] at hF
                exact fun a w hs => hN2 V17 V18 b8 b9 hF a w (st_cnt (H := .box b9 27 [.int .i64 V18.rule, .int .u8 V18.byte, .slice V18.a V18.n V18.c] :: .box b8 27 [.int .i64 V17.rule, .int .u8 V17.byte, .slice V17.a V17.n V17.c] :: .box b1 27 [.int .i64 s.Rule, .int .u8 s.Byte, .slice sa3 sn3 sc3] :: .box b 27 [.int .i64 t.Rule, .int .u8 t.Byte, .slice sa1 sn1 sc1] :: (rws V17 ++ rws V18)) (le_cons rfl (le_cons rfl (le_cons rfl (le_cons rfl (le_cons rfl (le_cons rfl (le_cons rfl (le_cons rfl le_nil)))))))) (fun x => by simp only [List.count_append, List.count_cons]; omega) (fun p hp => hp) a w hs)
              · refine o_alloc zero27 rfl rfl fun b9 => ?_
                refine d_next [2, 2] 0 rfl rfl ?_
                refine d_one 3 rfl (by kernel_rfl) ?_
                refine o_call0 call16 rfl (sub_cons 3 rfl sub_nil) (copyR_deep k s sa3 sn3 sc3 v18 h29) rfl ?_
                rintro _ _ _ ⟨V18, hV18, rfl, rfl, rfl⟩
                refine o_st (st_perm List.perm_append_comm) ?_
                refine d_next [2, 2] 0 rfl rfl ?_
                refine d_one 6 rfl (by kernel_rfl) ?_
                refine o_store_box 1 rfl ty27 rfl rfl rfl rfl rfl rfl rfl ?_
                refine d_next [2, 2] 0 rfl rfl ?_
                refine d_one 7 rfl (by kernel_rfl) ?_
                refine o_store_box 0 rfl ty27 rfl rfl rfl rfl rfl rfl rfl ?_
                refine d_next [2, 2] 0 rfl rfl ?_
                refine d_done (by kernel_rfl) ?_
                rw [← hV17, ← hV18, tr_eq V17, tr_eq V18] at hF
                exact fun a w hs => hN2 V17 V18 b8 b9 hF a w (st_cnt (H := .box b9 27 [.int .i64 V18.rule, .int .u8 V18.byte, .slice V18.a V18.n V18.c] :: .box b8 27 [.int .i64 V17.rule, .int .u8 V17.byte, .slice V17.a V17.n V17.c] :: .box b1 27 [.int .i64 s.Rule, .int .u8 s.Byte, .slice sa3 sn3 sc3] :: .box b 27 [.int .i64 t.Rule, .int .u8 t.Byte, .slice sa1 sn1 sc1] :: (rws V17 ++ rws V18)) (le_cons rfl (le_cons rfl (le_cons rfl (le_cons rfl (le_cons rfl (le_cons rfl (le_cons rfl (le_cons rfl le_nil)))))))) (fun x => by simp only [List.count_append, List.count_cons]; omega) (fun p hp => hp) a w hs)
            · refine o_alloc zero27 rfl rfl fun b9 => ?_
              refine d_next [2, 2] 0 rfl rfl ?_
              refine d_one 1 rfl (by kernel_rfl) ?_
              refine o_call0 call16 rfl (sub_cons 1 rfl sub_nil) (copyR_deep k t sa1 sn1 sc1 v17 h28) rfl ?_
              rintro _ _ _ ⟨V17, hV17, rfl, rfl, rfl⟩
              refine o_st (st_perm List.perm_append_comm) ?_
              refine d_next [2, 2] 0 rfl rfl ?_
              refine d_one 3 rfl (by kernel_rfl) ?_
              refine o_call0 call16 rfl (sub_cons 3 rfl sub_nil) (copyR_deep k s sa3 sn3 sc3 v18 h29) rfl ?_
              rintro _ _ _ ⟨V18, hV18, rfl, rfl, rfl⟩
              refine o_st (st_perm List.perm_append_comm) ?_
              refine d_next [2, 2] 0 rfl rfl ?_
              refine d_one 6 rfl (by kernel_rfl) ?_
              refine o_store_box 1 rfl ty27 rfl rfl rfl rfl rfl rfl rfl ?_
              refine d_next [2, 2] 0 rfl rfl ?_
              refine d_one 7 rfl (by kernel_rfl) ?_
              refine o_store_box 0 rfl ty27 rfl rfl rfl rfl rfl rfl rfl ?_
              refine d_next [2, 2] 0 rfl rfl ?_
              refine d_done (by kernel_rfl) ?_
              rw [← hV17, ← hV18, tr_eq V17, tr_eq V18] at hF
              exact fun a w hs => hN2 V17 V18 b8 b9 hF a w (st_cnt (H := .box b9 27 [.int .i64 V18.rule, .int .u8 V18.byte, .slice V18.a V18.n V18.c] :: .box b8 27 [.int .i64 V17.rule, .int .u8 V17.byte, .slice V17.a V17.n V17.c] :: .box b1 27 [.int .i64 s.Rule, .int .u8 s.Byte, .slice sa3 sn3 sc3] :: .box b 27 [.int .i64 t.Rule, .int .u8 t.Byte, .slice sa1 sn1 sc1] :: (rws V17 ++ rws V18)) (le_cons rfl (le_cons rfl (le_cons rfl (le_cons rfl (le_cons rfl (le_cons rfl (le_cons rfl (le_cons rfl le_nil)))))))) (fun x => by simp only [List.count_append, List.count_cons]; omega) (fun p hp => hp) a w hs)
          · refine o_alloc zero27 rfl rfl fun b8 => ?_
            refine d_next [1, 1] 0 rfl rfl ?_
            refine d_all [1, 4] (by kernel_rfl) (by simp) ⟨⟨_, rfl, ?_⟩, ⟨_, rfl, ?_⟩, trivial⟩
            · refine o_call0 call16 rfl (sub_cons 1 rfl sub_nil) (copyR_deep k t sa1 sn1 sc1 v17 h28) rfl ?_
              rintro _ _ _ ⟨V17, hV17, rfl, rfl, rfl⟩
              refine o_st (st_perm List.perm_append_comm) ?_
              refine d_next [1, 1] 0 rfl rfl ?_
              refine d_all [3, 4] (by kernel_rfl) (by simp) ⟨⟨_, rfl, ?_⟩, ⟨_, rfl, ?_⟩, trivial⟩
              · refine o_call0 call16 rfl (sub_cons 3 rfl sub_nil) (copyR_deep k s sa3 sn3 sc3 v18 h29) rfl ?_
                rintro _ _ _ ⟨V18, hV18, rfl, rfl, rfl⟩
                refine o_st (st_perm List.perm_append_comm) ?_
                refine d_next [1, 1] 0 rfl rfl ?_
                refine d_one 4 rfl (by kernel_rfl) ?_
                refine o_alloc zero27 rfl rfl fun b9 => ?_
                refine d_next [2, 2] 0 rfl rfl ?_
                refine d_one 6 rfl (by kernel_rfl) ?_
                refine o_store_box 0 rfl ty27 rfl rfl rfl rfl rfl rfl rfl ?_
                refine d_next [2, 2] 0 rfl rfl ?_
                refine d_one 7 rfl (by kernel_rfl) ?_
                refine o_store_box 1 rfl ty27 rfl rfl rfl rfl rfl rfl rfl ?_
                refine d_next [2, 2] 0 rfl rfl ?_
                refine d_done (by kernel_rfl) ?_
                rw [← hV17, ← hV18, tr_eq V17, tr_eq V18] at hF
                exact fun a w hs => hN2 V17 V18 b9 b8 hF a w (st_cnt (H := .box b9 27 [.int .i64 V17.rule, .int .u8 V17.byte, .slice V17.a V17.n V17.c] :: .box b8 27 [.int .i64 V18.rule, .int .u8 V18.byte, .slice V18.a V18.n V18.c] :: .box b1 27 [.int .i64 s.Rule, .int .u8 s.Byte, .slice sa3 sn3 sc3] :: .box b 27 [.int .i64 t.Rule, .int .u8 t.Byte, .slice sa1 sn1 sc1] :: (rws V17 ++ rws V18)) (le_cons rfl (le_cons rfl (le_cons rfl (le_cons rfl (le_cons rfl (le_cons rfl (le_cons rfl (le_cons rfl le_nil)))))))) (fun x => by simp only [List.count_append, List.count_cons]; omega) (fun p hp => hp) a w hs)
              · refine o_alloc zero27 rfl rfl fun b9 => ?_
                refine d_next [2, 2] 0 rfl rfl ?_
                refine d_one 3 rfl (by kernel_rfl) ?_
                refine o_call0 call16 rfl (sub_cons 3 rfl sub_nil) (copyR_deep k s sa3 sn3 sc3 v18 h29) rfl ?_
                rintro _ _ _ ⟨V18, hV18, rfl, rfl, rfl⟩
                refine o_st (st_perm List.perm_append_comm) ?_
                refine d_next [2, 2] 0 rfl rfl ?_
                refine d_one 6 rfl (by kernel_rfl) ?_
                refine o_store_box 0 rfl ty27 rfl rfl rfl rfl rfl rfl rfl ?_
                refine d_next [2, 2] 0 rfl rfl ?_
                refine d_one 7 rfl (by kernel_rfl) ?_
                refine o_store_box 1 rfl ty27 rfl rfl rfl rfl rfl rfl rfl ?_
                refine d_next [2, 2] 0 rfl rfl ?_
                refine d_done (by kernel_rfl) ?_
                rw [← hV17, ← hV18, tr_eq V17, tr_eq V18] at hF
                exact fun a w hs => hN2 V17 V18 b9 b8 hF a w (st_cnt (H := .box b9 27 [.int .i64 V17.rule, .int .u8 V17.byte, .slice V17.a V17.n V17.c] :: .box b8 27 [.int .i64 V18.rule, .int .u8 V18.byte, .slice V18.a V18.n V18.c] :: .box b1 27 [.int .i64 s.Rule, .int .u8 s.Byte, .slice sa3 sn3 sc3] :: .box b 27 [.int .i64 t.Rule, .int .u8 t.Byte, .slice sa1 sn1 sc1] :: (rws V17 ++ rws V18)) (le_cons rfl (le_cons rfl (le_cons rfl (le_cons rfl (le_cons rfl (le_cons rfl (le_cons rfl (le_cons rfl le_nil)))))))) (fun x => by simp only [List.count_append, List.count_cons]; omega) (fun p hp => hp) a w hs)
            · refine o_alloc zero27 rfl rfl fun b9 => ?_
              refine d_next [2, 2] 0 rfl rfl ?_
              refine d_one 1 rfl (by kernel_rfl) ?_
              refine o_call0 call16 rfl (sub_cons 1 rfl sub_nil) (copyR_deep k t sa1 sn1 sc1 v17 h28) rfl ?_
              rintro _ _ _ ⟨V17, hV17, rfl, rfl, rfl⟩
              refine o_st (st_perm List.perm_append_comm) ?_
              refine d_next [2, 2] 0 rfl rfl ?_
              refine d_one 3 rfl (by kernel_rfl) ?_
              refine o_call0 call16 rfl (sub_cons 3 rfl sub_nil) (copyR_deep k s sa3 sn3 sc3 v18 h29) rfl ?_
              rintro _ _ _ ⟨V18, hV18, rfl, rfl, rfl⟩
              refine o_st (st_perm List.perm_append_comm) ?_
              refine d_next [2, 2] 0 rfl rfl ?_
              refine d_one 6 rfl (by kernel_rfl) ?_
              refine o_store_box 0 rfl ty27 rfl rfl rfl rfl rfl rfl rfl ?_
              refine d_next [2, 2] 0 rfl rfl ?_
              refine d_one 7 rfl (by kernel_rfl) ?_
              refine o_store_box 1 rfl ty27 rfl rfl rfl rfl rfl rfl rfl ?_
              refine d_next [2, 2] 0 rfl rfl ?_
              refine d_done (by kernel_rfl) ?_
              rw [← hV17, ← hV18, tr_eq V17, tr_eq V18] at hF
              exact fun a w hs => hN2 V17 V18 b9 b8 hF a w (st_cnt (H := .box b9 27 [.int .i64 V17.rule, .int .u8 V17.byte, .slice V17.a V17.n V17.c] :: .box b8 27 [.int .i64 V18.rule, .int .u8 V18.byte, .slice V18.a V18.n V18.c] :: .box b1 27 [.int .i64 s.Rule, .int .u8 s.Byte, .slice sa3 sn3 sc3] :: .box b 27 [.int .i64 t.Rule, .int .u8 t.Byte, .slice sa1 sn1 sc1] :: (rws V17 ++ rws V18)) (le_cons rfl (le_cons rfl (le_cons rfl (le_cons rfl (le_cons rfl (le_cons rfl (le_cons rfl (le_cons rfl le_nil)))))))) (fun x => by simp only [List.count_append, List.count_cons]; omega) (fun p hp => hp) a w hs)
        · intro V17 V18 b2 b3 hF
          unfold F.law09.TreesParts_j1 at hF
          refine sat_wc ?_
          refine c_seq ?_
          refine c_region ?_
          refine o_v (v_load_box 2 ty27 rfl rfl rfl rfl rfl) rfl ?_
          refine o_v (v_move rfl) rfl ?_
          obtain ⟨v5, h9, hF⟩ := bd hF
          refine o_callD [V17] (pr := fun V => tr V = v5.1) (g := fun V => .tuple #[V.val, .int .i64 v5.2]) call24 rfl (cnt_cons (cnt_cons (cnt_cons (cnt_cons (show ∀ x, (rwss [V17]).count x ≤ ((rws V17 ++ rws V18) : List HB).count x from fun x => by simp only [rwss, List.append_nil, List.count_append]; omega))))) (sub_cons 0 rfl (sub_cons 3 rfl sub_nil)) (at_deep k (Tree.mk V17.rule V17.byte (V17.kids.map tr)) path V17.a V17.n V17.c sa2 sn2 sc2 v5 h9) rfl fun Va hVa => ?_
          refine o_v (v_move rfl) rfl ?_
          refine o_v (v_extract rfl rfl) rfl ?_
          refine o_v (v_extract rfl rfl) rfl ?_
          refine o_alloc zero27 rfl rfl fun b4 => ?_
          refine o_store_box 0 rfl ty27 rfl rfl rfl rfl rfl rfl rfl ?_
          refine o_v (v_assign rfl) rfl ?_
          refine o_seq ?_
          refine c_seq ?_
          refine c_region ?_
          refine o_v (v_load_box 2 ty27 rfl rfl rfl rfl rfl) rfl ?_
          refine o_v (v_move rfl) rfl ?_
          obtain ⟨v6, h10, hF⟩ := bd hF
          refine o_call0 call25 rfl (sub_cons 1 rfl (sub_cons 2 rfl sub_nil)) (tri25 k t path sa1 sn1 sc1 sa2 sn2 sc2 v6 h10) rfl ?_
          rintro _ _ _ ⟨sa7, sn7, sc7, rfl, rfl, rfl⟩
          refine o_v (v_move rfl) rfl ?_
          refine o_v (v_extract rfl rfl) rfl ?_
          refine o_v (v_extract rfl rfl) rfl ?_
          refine o_alloc zero27 rfl rfl fun b5 => ?_
          refine o_store_box 0 rfl ty27 rfl rfl rfl rfl rfl rfl rfl ?_
          refine o_v (v_assign rfl) rfl ?_
          refine o_seq ?_
          refine c_seq ?_
          refine c_region ?_
          refine o_v (v_load_box 4 ty27 rfl rfl rfl rfl rfl) rfl ?_
          refine o_v (v_move rfl) rfl ?_
          refine o_v (v_load_box 5 ty27 rfl rfl rfl rfl rfl) rfl ?_
          obtain ⟨v7, h11, hF⟩ := bd hF
          refine o_callD [V17, V18] (pr := fun V => tr V = v7.1) (g := fun V => .tuple #[V.val, .int .i64 v7.2]) call26 rfl (cnt_cons (cnt_cons (cnt_cons (cnt_cons (cnt_cons (cnt_cons (show ∀ x, (rwss [V17, V18]).count x ≤ (((rws V17 ++ rws V18) ++ rws Va) : List HB).count x from fun x => by simp only [rwss, List.append_nil, List.count_append]; omega))))))) (sub_cons 0 rfl (sub_cons 5 rfl (sub_cons 1 rfl sub_nil))) (tri26_deep k (Tree.mk V17.rule V17.byte (V17.kids.map tr)) path (Tree.mk V18.rule V18.byte (V18.kids.map tr)) V17.a V17.n V17.c sa2 sn2 sc2 V18.a V18.n V18.c v7 h11) rfl fun Vc hVc => ?_
          refine o_v (v_move rfl) rfl ?_
          refine o_v (v_extract rfl rfl) rfl ?_
          refine o_v (v_extract rfl rfl) rfl ?_
          refine o_alloc zero27 rfl rfl fun b6 => ?_
          refine o_store_box 0 rfl ty27 rfl rfl rfl rfl rfl rfl rfl ?_
          refine o_v (v_assign rfl) rfl ?_
          refine o_seq ?_
          refine c_seq ?_
          refine c_region ?_
          refine o_v (v_load_box 4 ty27 rfl rfl rfl rfl rfl) rfl ?_
          refine o_v (v_move rfl) rfl ?_
          refine o_v (v_load_box 3 ty27 rfl rfl rfl rfl rfl) rfl ?_
          obtain ⟨v8, h12, hF⟩ := bd hF
          refine o_call0 call27 rfl (sub_cons 2 rfl (sub_cons 3 rfl (sub_cons 4 rfl sub_nil))) (tri27 k t path s sa1 sn1 sc1 sa2 sn2 sc2 sa3 sn3 sc3 v8 h12) rfl ?_
          rintro _ _ _ ⟨sa9, sn9, sc9, rfl, rfl, rfl⟩
          refine o_v (v_move rfl) rfl ?_
          refine o_v (v_extract rfl rfl) rfl ?_
          refine o_v (v_extract rfl rfl) rfl ?_
          refine o_alloc zero27 rfl rfl fun b7 => ?_
          refine o_store_box 0 rfl ty27 rfl rfl rfl rfl rfl rfl rfl ?_
          refine o_v (v_assign rfl) rfl ?_
          refine o_seq ?_
          refine c_seq ?_
          refine c_seq ?_
          have hA : ∀ x y, F.ref09.Same k v5.1 x = some y → F.ref09.Same k (Tree.mk Va.rule Va.byte (Va.kids.map tr)) x = some y := fun x y h => by rw [← tr_eq, hVa]; exact h
          have hC : ∀ x y, F.ref09.Same k v7.1 x = some y → F.ref09.Same k (Tree.mk Vc.rule Vc.byte (Vc.kids.map tr)) x = some y := fun x y h => by rw [← tr_eq, hVc]; exact h
          refine c_cut (fun E N' => ∀ (t78 : Bool), F.law09.TreesParts_j2 k v5 V18.rule V18.byte (V18.kids.map tr) V17.rule V17.byte (V17.kids.map tr) t v7 v8 t78 = some r → Sat E [(0, .agg #[.int .i64 t.Rule, .int .u8 t.Byte, .slice sa1 sn1 sc1]), (1, .slice sa2 sn2 sc2), (2, .agg #[.int .i64 s.Rule, .int .u8 s.Byte, .slice sa3 sn3 sc3]), (3, .pointer (some ⟨b, 0, none⟩)), (5, .pointer (some ⟨b1, 0, none⟩)), (6, .bool false), (7, .pointer (some ⟨b2, 0, none⟩)), (8, .pointer (some ⟨b3, 0, none⟩)), (9, .pointer (some ⟨b4, 0, none⟩)), (11, .pointer (some ⟨b5, 0, none⟩)), (13, .pointer (some ⟨b6, 0, none⟩)), (15, .pointer (some ⟨b7, 0, none⟩)), (78, .bool t78)] (.box b7 27 [.int .i64 v8.1.Rule, .int .u8 v8.1.Byte, .slice sa9 sn9 sc9] :: .box b6 27 [.int .i64 Vc.rule, .int .u8 Vc.byte, .slice Vc.a Vc.n Vc.c] :: .box b5 27 [.int .i64 v6.1.Rule, .int .u8 v6.1.Byte, .slice sa7 sn7 sc7] :: .box b4 27 [.int .i64 Va.rule, .int .u8 Va.byte, .slice Va.a Va.n Va.c] :: .box b1 27 [.int .i64 s.Rule, .int .u8 s.Byte, .slice sa3 sn3 sc3] :: .box b 27 [.int .i64 t.Rule, .int .u8 t.Byte, .slice sa1 sn1 sc1] :: .box b2 27 [.int .i64 V17.rule, .int .u8 V17.byte, .slice V17.a V17.n V17.c] :: .box b3 27 [.int .i64 V18.rule, .int .u8 V18.byte, .slice V18.a V18.n V18.c] :: (((rws V17 ++ rws V18) ++ rws Va) ++ rws Vc)) ((.slice sa9 sn9 sc9, .slice 3 (v8.1.Kids.map eTree)) :: (.slice sa7 sn7 sc7, .slice 3 (v6.1.Kids.map eTree)) :: [gf10 0, (.slice sa1 sn1 sc1, .slice 3 (t.Kids.map eTree)), (.slice sa2 sn2 sc2, .slice 1 (path.map eI64)), (.slice sa3 sn3 sc3, .slice 3 (s.Kids.map eTree))]) N') (fun N2 hN2 => ?_) ?_
          · refine c_region ?_
            refine o_v (v_move rfl) rfl ?_
            refine o_v (v_move rfl) rfl ?_
            refine o_v (v_bin rfl rfl rfl) rfl ?_
            refine o_v (v_move rfl) rfl ?_
            refine o_split (t := 62) rfl (fun h23 => ?_) (fun h23 => ?_)
            · replace hF := ite_t h23 hF
              refine o_off rfl rfl (by decide) rfl ?_
              refine o_off rfl rfl (by decide) rfl ?_
              refine o_off rfl rfl (by decide) rfl ?_
              refine o_v (v_pick_t rfl rfl) rfl ?_
              refine o_v (v_move rfl) rfl ?_
              refine o_off rfl rfl (by decide) rfl ?_
              refine o_off rfl rfl (by decide) rfl ?_
              refine o_off rfl rfl (by decide) rfl ?_
              refine o_off rfl rfl (by decide) rfl ?_
              refine o_v (v_pick_t rfl rfl) rfl ?_
              refine o_v (v_move rfl) rfl ?_
              refine o_off rfl rfl (by decide) rfl ?_
              refine o_off rfl rfl (by decide) rfl ?_
              refine o_off rfl rfl (by decide) rfl ?_
              refine o_off rfl rfl (by decide) rfl ?_
              refine o_v (v_pick_t rfl rfl) rfl ?_
              refine o_nil ?_
              refine s_st ?_ (hN2 true hF)
              exact st_sub (le_cons rfl (le_cons rfl (le_cons rfl (le_cons rfl (le_cons rfl (le_cons rfl (le_cons rfl (le_cons rfl (le_cons rfl (le_cons rfl (le_cons rfl (le_cons rfl (le_cons rfl le_nil))))))))))))) (List.Sublist.refl _) (fun p hp => hp)
            · replace hF := ite_f h23 hF
              refine o_on rfl rfl ?_
              refine o_v (v_move rfl) rfl ?_
              refine o_on rfl rfl ?_
              refine o_v (v_move rfl) rfl ?_
              refine o_on rfl rfl ?_
              refine o_v (v_bin rfl rfl rfl) rfl ?_
              refine o_v (v_pick_f rfl rfl) rfl ?_
              refine o_v (v_move rfl) rfl ?_
              refine o_split (t := 67) rfl (fun h24 => ?_) (fun h24 => ?_)
              · replace hF := ite_t h24 hF
                refine o_off rfl rfl (by decide) rfl ?_
                refine o_off rfl rfl (by decide) rfl ?_
                refine o_off rfl rfl (by decide) rfl ?_
                refine o_off rfl rfl (by decide) rfl ?_
                refine o_v (v_pick_t rfl rfl) rfl ?_
                refine o_v (v_move rfl) rfl ?_
                refine o_off rfl rfl (by decide) rfl ?_
                refine o_off rfl rfl (by decide) rfl ?_
                refine o_off rfl rfl (by decide) rfl ?_
                refine o_off rfl rfl (by decide) rfl ?_
                refine o_v (v_pick_t rfl rfl) rfl ?_
                refine o_nil ?_
                refine s_st ?_ (hN2 true hF)
                exact st_sub (le_cons rfl (le_cons rfl (le_cons rfl (le_cons rfl (le_cons rfl (le_cons rfl (le_cons rfl (le_cons rfl (le_cons rfl (le_cons rfl (le_cons rfl (le_cons rfl (le_cons rfl le_nil))))))))))))) (List.Sublist.refl _) (fun p hp => hp)
              · replace hF := ite_f h24 hF
                refine o_on rfl rfl ?_
                refine o_v (v_load_box 3 ty27 rfl rfl rfl rfl rfl) rfl ?_
                refine o_on rfl rfl ?_
                refine o_v (v_load_box 2 ty27 rfl rfl rfl rfl rfl) rfl ?_
                refine o_on rfl rfl ?_
                obtain ⟨v15, h25, hF⟩ := bd hF
                refine o_callL [Va] call19 rfl (cnt_cons (cnt_cons (cnt_cons (cnt_cons (cnt_cons (cnt_cons (cnt_cons (cnt_cons (show ∀ x, (rwss [Va]).count x ≤ ((((rws V17 ++ rws V18) ++ rws Va) ++ rws Vc) : List HB).count x from fun x => by simp only [rwss, List.append_nil, List.count_append]; omega))))))))) (sub_cons 0 rfl (sub_cons 2 rfl sub_nil)) (tri19 k (Tree.mk Va.rule Va.byte (Va.kids.map tr)) v6.1 Va.a Va.n Va.c sa7 sn7 sc7 v15 (hA _ _ h25)) rfl ?_
                refine o_on rfl rfl ?_
                refine o_v (v_not rfl) rfl ?_
                refine o_v (v_pick_f rfl rfl) rfl ?_
                refine o_v (v_move rfl) rfl ?_
                refine o_split (t := 73) rfl (fun h26 => ?_) (fun h26 => ?_)
                · replace hF := ite_t h26 hF
                  refine o_off rfl rfl (by decide) rfl ?_
                  refine o_off rfl rfl (by decide) rfl ?_
                  refine o_off rfl rfl (by decide) rfl ?_
                  refine o_off rfl rfl (by decide) rfl ?_
                  refine o_v (v_pick_t rfl rfl) rfl ?_
                  refine o_nil ?_
                  refine s_st ?_ (hN2 true hF)
                  exact st_sub (le_cons rfl (le_cons rfl (le_cons rfl (le_cons rfl (le_cons rfl (le_cons rfl (le_cons rfl (le_cons rfl (le_cons rfl (le_cons rfl (le_cons rfl (le_cons rfl (le_cons rfl le_nil))))))))))))) (List.Sublist.refl _) (fun p hp => hp)
                · replace hF := ite_f h26 hF
                  refine o_on rfl rfl ?_
                  refine o_v (v_load_box 1 ty27 rfl rfl rfl rfl rfl) rfl ?_
                  refine o_on rfl rfl ?_
                  refine o_v (v_load_box 0 ty27 rfl rfl rfl rfl rfl) rfl ?_
                  refine o_on rfl rfl ?_
                  obtain ⟨v16, h27, hF⟩ := bd hF
                  refine o_callL [Vc] call19 rfl (cnt_cons (cnt_cons (cnt_cons (cnt_cons (cnt_cons (cnt_cons (cnt_cons (cnt_cons (show ∀ x, (rwss [Vc]).count x ≤ ((((rws V17 ++ rws V18) ++ rws Va) ++ rws Vc) : List HB).count x from fun x => by simp only [rwss, List.append_nil, List.count_append]; omega))))))))) (sub_cons 0 rfl (sub_cons 1 rfl sub_nil)) (tri19 k (Tree.mk Vc.rule Vc.byte (Vc.kids.map tr)) v8.1 Vc.a Vc.n Vc.c sa9 sn9 sc9 v16 (hC _ _ h27)) rfl ?_
                  refine o_on rfl rfl ?_
                  refine o_v (v_not rfl) rfl ?_
                  refine o_v (v_pick_f rfl rfl) rfl ?_
                  refine o_nil ?_
                  refine s_st ?_ (hN2 (!v16) hF)
                  exact st_sub (le_cons rfl (le_cons rfl (le_cons rfl (le_cons rfl (le_cons rfl (le_cons rfl (le_cons rfl (le_cons rfl (le_cons rfl (le_cons rfl (le_cons rfl (le_cons rfl (le_cons rfl le_nil))))))))))))) (List.Sublist.refl _) (fun p hp => hp)
          · intro t78 hF
            unfold F.law09.TreesParts_j2 at hF
            refine sat_wc ?_
            refine c_cond rfl (fun h13 => ?_) (fun h13 => ?_)
            · replace hF := ite_t h13 hF
              refine c_seq ?_
              refine c_region ?_
              refine o_v (v_assign rfl) rfl ?_
              refine o_seq ?_
              refine c_ret ?_
              cases hF
              refine s_ret1 rfl (r_tmp rfl) fun a w hs => ?_
              exact fin_sel hs [] ⟨rfl, rfl, rfl⟩ rfl sub_nil
            · replace hF := ite_f h13 hF
              refine c_skip ?_
              refine sat_wc ?_
              refine c_seq ?_
              refine c_region ?_
              refine o_v (v_load_box 3 ty27 rfl rfl rfl rfl rfl) rfl ?_
              obtain ⟨v9, h14, hF⟩ := bd hF
              refine o_st (H' := .box b7 27 [.int .i64 v8.1.Rule, .int .u8 v8.1.Byte, .slice sa9 sn9 sc9] :: .box b6 27 [.int .i64 Vc.rule, .int .u8 Vc.byte, .slice Vc.a Vc.n Vc.c] :: .box b5 27 [.int .i64 v6.1.Rule, .int .u8 v6.1.Byte, .slice sa7 sn7 sc7] :: .box b4 27 [.int .i64 Va.rule, .int .u8 Va.byte, .slice Va.a Va.n Va.c] :: .box b1 27 [.int .i64 s.Rule, .int .u8 s.Byte, .slice sa3 sn3 sc3] :: .box b 27 [.int .i64 t.Rule, .int .u8 t.Byte, .slice sa1 sn1 sc1] :: .box b2 27 [.int .i64 V17.rule, .int .u8 V17.byte, .slice V17.a V17.n V17.c] :: .box b3 27 [.int .i64 V18.rule, .int .u8 V18.byte, .slice V18.a V18.n V18.c] :: (((rws V17 ++ rws V18) ++ rws Va) ++ rws Vc)) (fun _ _ hs => hs) ?_
              refine o_callE Va (Hr := .box b7 27 [.int .i64 v8.1.Rule, .int .u8 v8.1.Byte, .slice sa9 sn9 sc9] :: .box b6 27 [.int .i64 Vc.rule, .int .u8 Vc.byte, .slice Vc.a Vc.n Vc.c] :: .box b5 27 [.int .i64 v6.1.Rule, .int .u8 v6.1.Byte, .slice sa7 sn7 sc7] :: .box b4 27 [.int .i64 Va.rule, .int .u8 Va.byte, .slice Va.a Va.n Va.c] :: .box b1 27 [.int .i64 s.Rule, .int .u8 s.Byte, .slice sa3 sn3 sc3] :: .box b 27 [.int .i64 t.Rule, .int .u8 t.Byte, .slice sa1 sn1 sc1] :: .box b2 27 [.int .i64 V17.rule, .int .u8 V17.byte, .slice V17.a V17.n V17.c] :: .box b3 27 [.int .i64 V18.rule, .int .u8 V18.byte, .slice V18.a V18.n V18.c] :: ((rws V17 ++ rws V18) ++ rws Vc)) call28 rfl (by rw [List.perm_iff_count]; intro q; simp only [List.count_append, List.count_cons]; omega) (spoil_ok Va) rfl ?_
              refine o_seq ?_
              refine c_seq ?_
              refine c_region ?_
              refine o_v (v_load_box 7 ty27 rfl rfl rfl rfl rfl) rfl ?_
              obtain ⟨v10, h15, hF⟩ := bd hF
              refine o_st (H' := .box b7 27 [.int .i64 v8.1.Rule, .int .u8 v8.1.Byte, .slice sa9 sn9 sc9] :: .box b6 27 [.int .i64 Vc.rule, .int .u8 Vc.byte, .slice Vc.a Vc.n Vc.c] :: .box b5 27 [.int .i64 v6.1.Rule, .int .u8 v6.1.Byte, .slice sa7 sn7 sc7] :: .box b4 27 [.int .i64 Va.rule, .int .u8 Va.byte, .slice Va.a Va.n Va.c] :: .box b1 27 [.int .i64 s.Rule, .int .u8 s.Byte, .slice sa3 sn3 sc3] :: .box b 27 [.int .i64 t.Rule, .int .u8 t.Byte, .slice sa1 sn1 sc1] :: .box b2 27 [.int .i64 V17.rule, .int .u8 V17.byte, .slice V17.a V17.n V17.c] :: .box b3 27 [.int .i64 V18.rule, .int .u8 V18.byte, .slice V18.a V18.n V18.c] :: ((rws V17 ++ rws V18) ++ rws Vc)) (fun _ _ hs => hs) ?_
              refine o_callE V18 (Hr := .box b7 27 [.int .i64 v8.1.Rule, .int .u8 v8.1.Byte, .slice sa9 sn9 sc9] :: .box b6 27 [.int .i64 Vc.rule, .int .u8 Vc.byte, .slice Vc.a Vc.n Vc.c] :: .box b5 27 [.int .i64 v6.1.Rule, .int .u8 v6.1.Byte, .slice sa7 sn7 sc7] :: .box b4 27 [.int .i64 Va.rule, .int .u8 Va.byte, .slice Va.a Va.n Va.c] :: .box b1 27 [.int .i64 s.Rule, .int .u8 s.Byte, .slice sa3 sn3 sc3] :: .box b 27 [.int .i64 t.Rule, .int .u8 t.Byte, .slice sa1 sn1 sc1] :: .box b2 27 [.int .i64 V17.rule, .int .u8 V17.byte, .slice V17.a V17.n V17.c] :: .box b3 27 [.int .i64 V18.rule, .int .u8 V18.byte, .slice V18.a V18.n V18.c] :: (rws V17 ++ rws Vc)) call28 rfl (by rw [List.perm_iff_count]; intro q; simp only [List.count_append, List.count_cons]; omega) (spoil_ok V18) rfl ?_
              refine o_seq ?_
              refine c_seq ?_
              refine c_seq ?_
              refine c_region ?_
              refine o_v (v_load_box 6 ty27 rfl rfl rfl rfl rfl) rfl ?_
              refine o_v (v_load_box 5 ty27 rfl rfl rfl rfl rfl) rfl ?_
              obtain ⟨v11, h16, hF⟩ := bd hF
              refine o_callL [V17] call19 rfl (cnt_cons (cnt_cons (cnt_cons (cnt_cons (cnt_cons (cnt_cons (cnt_cons (cnt_cons (show ∀ x, (rwss [V17]).count x ≤ ((rws V17 ++ rws Vc) : List HB).count x from fun x => by simp only [rwss, List.append_nil, List.count_append]; omega))))))))) (sub_cons 0 rfl (sub_cons 4 rfl sub_nil)) (tri19 k (Tree.mk V17.rule V17.byte (V17.kids.map tr)) t V17.a V17.n V17.c sa1 sn1 sc1 v11 h16) rfl ?_
              refine o_v (v_not rfl) rfl ?_
              refine o_v (v_move rfl) rfl ?_
              refine o_split (t := 87) rfl (fun h17 => ?_) (fun h17 => ?_)
              · replace hF := ite_t h17 hF
                refine o_off rfl rfl (by decide) rfl ?_
                refine o_off rfl rfl (by decide) rfl ?_
                refine o_off rfl rfl (by decide) rfl ?_
                refine o_off rfl rfl (by decide) rfl ?_
                refine o_v (v_pick_t rfl rfl) rfl ?_
                refine o_seq ?_
                refine c_cond rfl (fun _ => ?_) (fun h => Bool.noConfusion h)
                refine c_seq ?_
                refine c_region ?_
                refine o_v (v_assign rfl) rfl ?_
                refine o_seq ?_
                refine c_ret ?_
                cases hF
                refine s_ret1 rfl (r_tmp rfl) fun a w hs => ?_
                exact fin_sel hs [] ⟨rfl, rfl, rfl⟩ rfl sub_nil
              · replace hF := ite_f h17 hF
                refine o_on rfl rfl ?_
                refine o_v (v_load_box 1 ty27 rfl rfl rfl rfl rfl) rfl ?_
                refine o_on rfl rfl ?_
                refine o_v (v_load_box 0 ty27 rfl rfl rfl rfl rfl) rfl ?_
                refine o_on rfl rfl ?_
                obtain ⟨v12, h18, hF⟩ := bd hF
                refine o_callL [Vc] call19 rfl (cnt_cons (cnt_cons (cnt_cons (cnt_cons (cnt_cons (cnt_cons (cnt_cons (cnt_cons (show ∀ x, (rwss [Vc]).count x ≤ ((rws V17 ++ rws Vc) : List HB).count x from fun x => by simp only [rwss, List.append_nil, List.count_append]; omega))))))))) (sub_cons 0 rfl (sub_cons 1 rfl sub_nil)) (tri19 k (Tree.mk Vc.rule Vc.byte (Vc.kids.map tr)) v8.1 Vc.a Vc.n Vc.c sa9 sn9 sc9 v12 (hC _ _ h18)) rfl ?_
                refine o_on rfl rfl ?_
                refine o_v (v_not rfl) rfl ?_
                refine o_v (v_pick_f rfl rfl) rfl ?_
                refine o_seq ?_
                refine c_cond rfl (fun h19 => ?_) (fun h19 => ?_)
                · replace hF := ite_t h19 hF
                  refine c_seq ?_
                  refine c_region ?_
                  refine o_v (v_assign rfl) rfl ?_
                  refine o_seq ?_
                  refine c_ret ?_
                  cases hF
                  refine s_ret1 rfl (r_tmp rfl) fun a w hs => ?_
                  exact fin_sel hs [] ⟨rfl, rfl, rfl⟩ rfl sub_nil
                · replace hF := ite_f h19 hF
                  refine c_skip ?_
                  refine sat_wc ?_
                  refine c_seq ?_
                  refine c_region ?_
                  refine o_v (v_load_box 6 ty27 rfl rfl rfl rfl rfl) rfl ?_
                  obtain ⟨v13, h20, hF⟩ := bd hF
                  refine o_st (H' := .box b7 27 [.int .i64 v8.1.Rule, .int .u8 v8.1.Byte, .slice sa9 sn9 sc9] :: .box b6 27 [.int .i64 Vc.rule, .int .u8 Vc.byte, .slice Vc.a Vc.n Vc.c] :: .box b5 27 [.int .i64 v6.1.Rule, .int .u8 v6.1.Byte, .slice sa7 sn7 sc7] :: .box b4 27 [.int .i64 Va.rule, .int .u8 Va.byte, .slice Va.a Va.n Va.c] :: .box b1 27 [.int .i64 s.Rule, .int .u8 s.Byte, .slice sa3 sn3 sc3] :: .box b 27 [.int .i64 t.Rule, .int .u8 t.Byte, .slice sa1 sn1 sc1] :: .box b2 27 [.int .i64 V17.rule, .int .u8 V17.byte, .slice V17.a V17.n V17.c] :: .box b3 27 [.int .i64 V18.rule, .int .u8 V18.byte, .slice V18.a V18.n V18.c] :: (rws V17 ++ rws Vc)) (fun _ _ hs => hs) ?_
                  refine o_callE V17 (Hr := .box b7 27 [.int .i64 v8.1.Rule, .int .u8 v8.1.Byte, .slice sa9 sn9 sc9] :: .box b6 27 [.int .i64 Vc.rule, .int .u8 Vc.byte, .slice Vc.a Vc.n Vc.c] :: .box b5 27 [.int .i64 v6.1.Rule, .int .u8 v6.1.Byte, .slice sa7 sn7 sc7] :: .box b4 27 [.int .i64 Va.rule, .int .u8 Va.byte, .slice Va.a Va.n Va.c] :: .box b1 27 [.int .i64 s.Rule, .int .u8 s.Byte, .slice sa3 sn3 sc3] :: .box b 27 [.int .i64 t.Rule, .int .u8 t.Byte, .slice sa1 sn1 sc1] :: .box b2 27 [.int .i64 V17.rule, .int .u8 V17.byte, .slice V17.a V17.n V17.c] :: .box b3 27 [.int .i64 V18.rule, .int .u8 V18.byte, .slice V18.a V18.n V18.c] :: rws Vc) call28 rfl (by rw [List.perm_iff_count]; intro q; simp only [List.count_append, List.count_cons]; omega) (spoil_ok V17) rfl ?_
                  refine o_seq ?_
                  refine c_seq ?_
                  refine c_region ?_
                  obtain ⟨v14, h21, hF⟩ := bd hF
                  refine o_callSB call15 rfl (lent_f 2 rfl lent_nil) (tri15 k v14 h21) rfl ?_
                  refine o_v (v_move rfl) rfl ?_
                  refine o_split (t := 96) rfl (fun h22 => ?_) (fun h22 => ?_)
                  · replace hF := ite_t h22 hF
                    refine o_on rfl rfl ?_
                    refine o_v (v_load_box 1 ty27 rfl rfl rfl rfl rfl) rfl ?_
                    refine o_on rfl rfl ?_
                    refine o_v (v_load_box 0 ty27 rfl rfl rfl rfl rfl) rfl ?_
                    refine o_on rfl rfl ?_
                    refine o_callL [Vc] call19 rfl (cnt_cons (cnt_cons (cnt_cons (cnt_cons (cnt_cons (cnt_cons (cnt_cons (cnt_cons (show ∀ x, (rwss [Vc]).count x ≤ (rws Vc : List HB).count x from fun x => by simp only [rwss, List.append_nil, List.count_append]; omega))))))))) (sub_cons 0 rfl (sub_cons 1 rfl sub_nil)) (tri19 k (Tree.mk Vc.rule Vc.byte (Vc.kids.map tr)) v8.1 Vc.a Vc.n Vc.c sa9 sn9 sc9 v12 (hC _ _ h18)) rfl ?_
                    refine o_v (v_pick_t rfl rfl) rfl ?_
                    refine o_v (v_assign rfl) rfl ?_
                    refine o_seq ?_
                    refine c_ret ?_
                    cases hF
                    refine s_ret1 rfl (r_tmp rfl) fun a w hs => ?_
                    exact fin_sel hs [] ⟨rfl, rfl, rfl⟩ rfl sub_nil
                  · replace hF := ite_f h22 hF
                    refine o_off rfl rfl (by decide) rfl ?_
                    refine o_off rfl rfl (by decide) rfl ?_
                    refine o_off rfl rfl (by decide) rfl ?_
                    refine o_v (v_pick_f rfl rfl) rfl ?_
                    refine o_v (v_assign rfl) rfl ?_
                    refine o_seq ?_
                    refine c_ret ?_
                    cases hF
                    refine s_ret1 rfl (r_tmp rfl) fun a w hs => ?_
                    exact fin_sel hs [] ⟨rfl, rfl, rfl⟩ rfl sub_nil

end Go.Vc
