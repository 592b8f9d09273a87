import Derived.Test.YtfhbgelpmbkooaaT0
set_option linter.unusedVariables false
set_option linter.unusedSimpArgs false
set_option maxRecDepth 8000
set_option maxHeartbeats 2000000
namespace Go.Vc
open Go Go.Proofs
theorem tri28 {k : Nat} {g_ : Gram} {most : Int} {sa1 : Option Addr} {sn1 sc1 : Nat} {r : Bool} (hF : F.ref06.Heavy k g_ most = some r) :
  Tri Try.prog 28 [.agg #[.int .i64 g_.Nts, .int .i64 g_.Start, .slice sa1 sn1 sc1], .int .i64 most] [] [(.slice sa1 sn1 sc1, .slice 2 (g_.Rules.map eRule))] (fun o H Φ => o = .ret (.bool r) /\ H = [] /\ Φ = []) := by
 unfold F.ref06.Heavy at hF
 refine tri_intro (n := 40) Try.func28 rfl Try.ntmps28 rfl fun w X => c_seq (c_region (o_box rfl rfl rfl fun b => o_v (v_assign rfl) rfl (o_seq (c_seq (c_seq (c_region (o_v (fa 0 rfl) rfl (o_v (vl 0 ty3 rfl rfl rfl) rfl (o_v (v_move rfl) rfl (o_v (v_bin rfl rfl rfl) rfl (o_v (v_move rfl) rfl ?_)))))))))))
 refine o_split (t := 11) rfl (fun h1 => ?_) (fun h1 => ?_)
 replace hF := ite_t h1 hF
 refine o_off rfl rfl (by decide) rfl (o_off rfl rfl (by decide) rfl (o_off rfl rfl (by decide) rfl (o_off rfl rfl (by decide) rfl (o_off rfl rfl (by decide) rfl (o_v (v_pick_t rfl rfl) rfl (o_seq ?_))))))
 refine c_cond rfl (fun _ => ?_) (fun h => Bool.noConfusion h)
 refine c_seq (c_region (o_v (v_assign rfl) rfl (o_seq (c_ret ?_))))
 cases hF
 refine s_ret1 rfl (r_tmp rfl) fun a w hs => fin_sel hs [] ⟨rfl, rfl, rfl⟩ rfl sub_nil
 replace hF := ite_f h1 hF
 refine o_on rfl rfl (o_v (fa 2 rfl) rfl (o_on rfl rfl (o_v (vl 0 ty22 rfl rfl rfl) rfl (o_on rfl rfl (o_v (v_lenS (enc := eRule) g_.Rules sl22 rfl (.f 0 rfl)) rfl (o_on rfl rfl (o_v (v_move rfl) rfl (o_on rfl rfl (o_v (v_bin rfl rfl rfl) rfl (o_v (v_pick_f rfl rfl) rfl (o_seq ?_)))))))))))
 refine c_cond rfl (fun h2 => ?_) (fun h2 => ?_)
 replace hF := ite_t h2 hF
 refine c_seq (c_region (o_v (v_assign rfl) rfl (o_seq (c_ret ?_))))
 cases hF
 refine s_ret1 rfl (r_tmp rfl) fun a w hs => fin_sel hs [] ⟨rfl, rfl, rfl⟩ rfl sub_nil
 replace hF := ite_f h2 hF
 refine c_skip (sat_wc (c_seq (c_region (o_v (fa 0 rfl) rfl (o_v (vl 0 ty3 rfl rfl rfl) rfl (o_v (v_assign rfl) rfl (o_seq (c_seq (c_seq (c_region (o_v (v_assign rfl) rfl (o_seq ?_))))))))))))
 obtain ⟨o1, ho1, hF⟩ := bd hF
 refine cT (fun E H Φ N' => ∀ (d1 : Unit), o1 = .done d1 -> Sat E [(0, .agg #[.int .i64 g_.Nts, .int .i64 g_.Start, .slice sa1 sn1 sc1]), (1, .int .i64 most), (2, .pointer (some ⟨b, 0, none⟩)), (4, .bool false)] H Φ N') (fun N1 hN1 => ?_) ?_
 refine c_block ?_
 refine cL (fun E H Φ j a w => ∃ (n : Int) (i : Int), F.ref06.Heavy_l1 g_ most j n i = some o1 /\ St E [(0, .agg #[.int .i64 g_.Nts, .int .i64 g_.Start, .slice sa1 sn1 sc1]), (1, .int .i64 most), (2, .pointer (some ⟨b, 0, none⟩)), (4, .bool false), (5, .int .i64 n), (6, .int .i64 i)] H Φ a w) k ?_ ?_
 intro a w hs
 exact ⟨g_.Nts, 0, ho1, st_le [0] (lea rfl) rfl (subs [0] rfl) a w hs⟩
 rintro j a w ⟨n, i, hL1, hs⟩
 rcases j with _ | j
 cases hL1
 refine wc_app hs ?_
 unfold F.ref06.Heavy_l1 at hL1
 refine c_seq (c_seq (c_region (o_v (v_move rfl) rfl (o_v (fa 2 rfl) rfl (o_v (vl 0 ty22 rfl rfl rfl) rfl (o_v (v_lenS (enc := eRule) g_.Rules sl22 rfl (.f 0 rfl)) rfl (o_v (v_bin rfl rfl rfl) rfl (o_seq ?_))))))))
 refine c_cond rfl (fun h3 => ?_) (fun h3 => ?_)
 replace hL1 := ite_t h3 hL1
 refine c_skip (sat_wc (c_seq (c_block (c_seq (c_region (o_v (v_move rfl) rfl (o_v (v_bin rfl rfl rfl) rfl (o_v (fa 2 rfl) rfl (o_v (vl 0 ty22 rfl rfl rfl) rfl (o_v (v_move rfl) rfl (ite_some hL1 fun h4 hL1 => o_v (v_indexAddr_s (xs := g_.Rules) (enc := eRule) sl22 rfl rfl (.f 0 rfl) h4) rfl (o_v (v_fieldAddr (v := .pointer (some ⟨blkA sa1, offA sa1 + (Int.toNat i * 2 + 1), none⟩)) rfl (fun _ => by kernel_rfl)) rfl (o_load_s (xs := g_.Rules) (enc := eRule) ty48 rfl (.f 0 rfl) h4 rfl rfl rfl rfl rfl rfl fun sa2 sn2 sc2 => o_v (v_lenS (enc := eKSym) ((at_ g_.Rules i).Rhs) sl48 rfl (.f 0 rfl)) rfl ?_)))))))))))))
 refine o_v (v_bin rfl rfl rfl) rfl (o_v (v_assign rfl) rfl (o_seq (c_seq (c_region (o_v (v_move rfl) rfl (o_v (v_move rfl) rfl (o_v (v_bin rfl rfl rfl) rfl (o_seq ?_))))))))
 refine c_cond rfl (fun h5 => ?_) (fun h5 => ?_)
 replace hL1 := ite_t h5 hL1
 refine c_seq (c_region (o_v (v_assign rfl) rfl (o_seq (c_ret ?_))))
 cases hL1
 obtain rfl := lrf_ret hF
 refine s_ret1 rfl (r_tmp rfl) fun a w hs => fin_sel hs [] ⟨rfl, rfl, rfl⟩ rfl sub_nil
 replace hL1 := ite_f h5 hL1
 refine c_skip (sat_wc (c_region (o_v (v_move rfl) rfl (o_v (v_bin rfl rfl rfl) rfl (o_v (v_assign rfl) rfl (o_nil ?_))))))
 intro a w hs
 exact ⟨j, Nat.lt_succ_self j, IntKind.wrap .i64 ((IntKind.wrap .i64 (n + 1)) + (((at_ g_.Rules i).Rhs).length : Int)), IntKind.wrap .i64 (i + 1), hL1, st_le [0] (lea rfl) rfl (subs [1] rfl) a w hs⟩
 replace hL1 := ite_f h3 hL1
 refine c_exit0 ?_
 cases hL1
 refine s_st ?_ (hN1 () rfl)
 exact st_le [0] (lea rfl) rfl (subs [0] rfl)
 intro d1 hd
 subst hd
 replace hF := lrf_done hF
 refine sat_wc (c_seq (c_region (o_v (v_assign rfl) rfl (o_seq (c_ret ?_)))))
 cases hF
 refine s_ret1 rfl (r_tmp rfl) fun a w hs => fin_sel hs [] ⟨rfl, rfl, rfl⟩ rfl sub_nil
theorem tri11 {k : Nat} {g_ : Gram} {w__ : List Int} {sa1 : Option Addr} {sn1 sc1 : Nat} {sa2 : Option Addr} {sn2 sc2 : Nat} {r : Bool} (hF : F.ref08.Heavy k g_ w__ = some r) :
  Tri Try.prog 11 [.agg #[.int .i64 g_.Nts, .int .i64 g_.Start, .slice sa1 sn1 sc1], .slice sa2 sn2 sc2] [] [(.slice sa1 sn1 sc1, .slice 2 (g_.Rules.map eRule)), (.slice sa2 sn2 sc2, .slice 1 (w__.map eU8))] (fun o H Φ => o = .ret (.bool r) /\ H = [] /\ Φ = []) := by
 unfold F.ref08.Heavy at hF
 refine tri_intro (n := 17) Try.func11 rfl Try.ntmps11 rfl fun w X => c_seq (c_region (o_box rfl rfl rfl fun b => o_v (v_assign rfl) rfl (o_seq (c_seq (c_region (o_v (v_move rfl) rfl (o_v (v_lenS (enc := eU8) w__ sl25 rfl (.f 1 rfl)) rfl (o_v (v_bin rfl rfl rfl) rfl (o_v (v_move rfl) rfl ?_)))))))))
 refine o_split (t := 8) rfl (fun h1 => ?_) (fun h1 => ?_)
 replace hF := ite_t h1 hF
 refine o_on rfl rfl (o_v (v_move rfl) rfl (o_on rfl rfl (o_v (v_lenS (enc := eU8) w__ sl25 rfl (.f 1 rfl)) rfl (o_on rfl rfl (o_v (v_bin rfl rfl rfl) rfl (o_v (v_pick_t rfl rfl) rfl (o_v (v_move rfl) rfl ?_)))))))
 refine o_split (t := 13) rfl (fun h2 => ?_) (fun h2 => ?_)
 replace hF := ite_t h2 hF
 refine o_off rfl rfl (by decide) rfl (o_off rfl rfl (by decide) rfl (o_v (v_pick_t rfl rfl) rfl (o_v (v_assign rfl) rfl (o_seq (c_ret ?_)))))
 cases hF
 refine s_ret1 rfl (r_tmp rfl) fun a w hs => fin_sel hs [] ⟨rfl, rfl, rfl⟩ rfl sub_nil
 replace hF := ite_f h2 hF
 refine o_on rfl rfl (o_v (vl 0 ty24 rfl rfl rfl) rfl (o_on rfl rfl ?_))
 obtain ⟨v_, h3, hF⟩ := bd hF
 refine o_callSB call28 rfl (lent_f 0 rfl lent_nil) (tri28 h3 :) rfl (o_v (v_pick_f rfl rfl) rfl (o_v (v_assign rfl) rfl (o_seq (c_ret ?_))))
 cases hF
 refine s_ret1 rfl (r_tmp rfl) fun a w hs => fin_sel hs [] ⟨rfl, rfl, rfl⟩ rfl sub_nil
 replace hF := ite_f h1 hF
 refine o_off rfl rfl (by decide) rfl (o_off rfl rfl (by decide) rfl (o_off rfl rfl (by decide) rfl (o_v (v_pick_f rfl rfl) rfl (o_v (v_move rfl) rfl (o_on rfl rfl (o_v (vl 0 ty24 rfl rfl rfl) rfl (o_on rfl rfl ?_)))))))
 obtain ⟨v_1, h4, hF⟩ := bd hF
 refine o_callSB call28 rfl (lent_f 0 rfl lent_nil) (tri28 h4 :) rfl (o_v (v_pick_f rfl rfl) rfl (o_v (v_assign rfl) rfl (o_seq (c_ret ?_))))
 cases hF
 refine s_ret1 rfl (r_tmp rfl) fun a w hs => fin_sel hs [] ⟨rfl, rfl, rfl⟩ rfl sub_nil
theorem tri29 {r : Gram} (hF : F.law08.sum = some r) :
  Tri Try.prog 29 [] [] [] (fun o H Φ => ∃ (sa4 : Option Addr) (sn4 sc4 : Nat), o = .ret (.agg #[.int .i64 r.Nts, .int .i64 r.Start, .slice sa4 sn4 sc4]) /\ H = [] /\ Φ = [(.slice sa4 sn4 sc4, .slice 2 (r.Rules.map eRule))]) := by
 unfold F.law08.sum at hF
 refine tri_intro (n := 19) Try.func29 rfl Try.ntmps29 rfl fun w X => c_seq (c_region (o_alloc zero24 rfl rfl fun b => o_seq (c_seq (c_region (o_v (v_build (v := .agg #[.int .u64 8796093022208, .int .u64 0, .int .u64 0, .int .u64 0]) rfl (fun _ => by kernel_rfl)) rfl (o_v (v_build (v := .agg #[.int .i64 (-1), .int .u64 8796093022208, .int .u64 0, .int .u64 0, .int .u64 0]) rfl (fun _ => by kernel_rfl)) rfl (o_v (v_build (v := .agg #[.int .u64 287948901175001088, .int .u64 0, .int .u64 0, .int .u64 0]) rfl (fun _ => by kernel_rfl)) rfl (o_v (v_build (v := .agg #[.int .i64 (-1), .int .u64 287948901175001088, .int .u64 0, .int .u64 0, .int .u64 0]) rfl (fun _ => by kernel_rfl)) rfl (o_alloc zero47 rfl rfl fun b1 => o_alloc zero47 rfl rfl fun b2 => o_store_box 1 rfl ty47 rfl rfl rfl rfl rfl rfl rfl (o_store_box 0 rfl ty47 rfl rfl rfl rfl rfl rfl rfl (o_seq ?_)))))))))))
 refine c_seq (c_region (o_v (v_build (v := .agg #[.int .i64 0, .int .u64 0, .int .u64 0, .int .u64 0, .int .u64 0]) rfl (fun _ => by kernel_rfl)) rfl (o_alloc zero47 rfl rfl fun b3 => o_store_box 0 rfl ty47 rfl rfl rfl rfl rfl rfl rfl (o_seq (c_seq (c_region (o_v (vl 0 ty47 rfl rfl rfl) rfl (o_v (vl 2 ty47 rfl rfl rfl) rfl (o_v (vl 0 ty47 rfl rfl rfl) rfl (o_buildSlice (enc := eKSym) ([(KSym.mk 0 (S4.mk 0 0 0 0)), (KSym.mk (-1) (S4.mk 8796093022208 0 0 0)), (KSym.mk 0 (S4.mk 0 0 0 0))] : List KSym) [.int .i64 0, .int .u64 0, .int .u64 0, .int .u64 0, .int .u64 0, .int .i64 (-1), .int .u64 8796093022208, .int .u64 0, .int .u64 0, .int .u64 0, .int .i64 0, .int .u64 0, .int .u64 0, .int .u64 0, .int .u64 0] sl48 rfl (fun _ => by kernel_rfl) rfl rfl rfl (.s rfl (.s rfl (.s rfl (.s rfl (.s rfl (.s rfl (.s rfl (.s rfl (.s rfl (.s rfl (.s rfl (.s rfl (.s rfl (.s rfl (.s rfl (.nil)))))))))))))))) rfl fun sa1 sn1 sc1 => o_v (v_build (v := .agg #[.int .i64 0, .slice sa1 sn1 sc1]) rfl (fun _ => by kernel_rfl)) rfl (o_v (vl 2 ty47 rfl rfl rfl) rfl (o_buildSlice (enc := eKSym) ([(KSym.mk (-1) (S4.mk 287948901175001088 0 0 0))] : List KSym) [.int .i64 (-1), .int .u64 287948901175001088, .int .u64 0, .int .u64 0, .int .u64 0] sl48 rfl (fun _ => by kernel_rfl) rfl rfl rfl (.s rfl (.s rfl (.s rfl (.s rfl (.s rfl (.nil)))))) rfl fun sa2 sn2 sc2 => o_v (v_build (v := .agg #[.int .i64 0, .slice sa2 sn2 sc2]) rfl (fun _ => by kernel_rfl)) rfl ?_))))))))))))
 refine o_st (st_freeze 1 rfl) (o_st (st_freeze 0 rfl) (o_buildSlice (enc := eRule) ([(Rule.mk 0 ([(KSym.mk 0 (S4.mk 0 0 0 0)), (KSym.mk (-1) (S4.mk 8796093022208 0 0 0)), (KSym.mk 0 (S4.mk 0 0 0 0))] : List KSym)), (Rule.mk 0 ([(KSym.mk (-1) (S4.mk 287948901175001088 0 0 0))] : List KSym))] : List Rule) [.int .i64 0, .slice sa1 sn1 sc1, .int .i64 0, .slice sa2 sn2 sc2] sl22 rfl (fun _ => by kernel_rfl) rfl rfl rfl (.s rfl (.f 1 rfl (.s rfl (.f 0 rfl (.nil))))) rfl fun sa3 sn3 sc3 => o_v (v_build (v := .agg #[.int .i64 1, .int .i64 0, .slice sa3 sn3 sc3]) rfl (fun _ => by kernel_rfl)) rfl (o_store_box 4 rfl ty24 rfl rfl rfl rfl rfl rfl rfl (o_seq (c_ret ?_)))))
 cases hF
 refine s_st (st_freeze 0 rfl) (s_ret1 rfl (r_cell 3 rfl ty24 rfl rfl rfl rfl) fun a w hs => fin_sel hs [] ⟨sa3, sn3, sc3, rfl, rfl, rfl⟩ rfl (subs [0] rfl))
theorem tri52 {k : Nat} {g_ : Gram} {sa1 : Option Addr} {sn1 sc1 : Nat} {r : Int} (hF : F.facts.Right k g_ = some r) :
  Tri Try.prog 52 [.agg #[.int .i64 g_.Nts, .int .i64 g_.Start, .slice sa1 sn1 sc1]] [] [(.slice sa1 sn1 sc1, .slice 2 (g_.Rules.map eRule))] (fun o H Φ => o = .ret (.int .i64 r) /\ H = [] /\ Φ = []) := by
 unfold F.facts.Right at hF
 refine tri_intro (n := 86) Try.func52 rfl Try.ntmps52 rfl fun w X => c_seq (c_region (o_box rfl rfl rfl fun b => o_v (v_assign rfl) rfl (o_seq (c_seq (c_seq ?_)))))
 refine cT (fun E H Φ N' => ∀ (t32 : Bool), F.facts.Right_j1 k g_ t32 = some r -> Sat E [(0, .agg #[.int .i64 g_.Nts, .int .i64 g_.Start, .slice sa1 sn1 sc1]), (1, .pointer (some ⟨b, 0, none⟩)), (2, .int .i64 0), (32, .bool t32)] H Φ N') (fun N4 hN4 => ?_) ?_
 refine c_region (o_v (fa 0 rfl) rfl (o_v (vl 0 ty3 rfl rfl rfl) rfl (o_v (v_bin rfl rfl rfl) rfl (o_v (v_move rfl) rfl ?_))))
 refine o_split (t := 10) rfl (fun h13 => ?_) (fun h13 => ?_)
 replace hF := ite_t h13 hF
 refine o_off rfl rfl (by decide) rfl (o_off rfl rfl (by decide) rfl (o_off rfl rfl (by decide) rfl (o_v (v_pick_t rfl rfl) rfl (o_v (v_move rfl) rfl (o_off rfl rfl (by decide) rfl (o_off rfl rfl (by decide) rfl (o_off rfl rfl (by decide) rfl (o_v (v_pick_t rfl rfl) rfl (o_v (v_move rfl) rfl (o_off rfl rfl (by decide) rfl (o_off rfl rfl (by decide) rfl (o_off rfl rfl (by decide) rfl (o_off rfl rfl (by decide) rfl (o_off rfl rfl (by decide) rfl (o_v (v_pick_t rfl rfl) rfl ?_)))))))))))))))
 refine o_v (v_move rfl) rfl (o_off rfl rfl (by decide) rfl (o_off rfl rfl (by decide) rfl (o_off rfl rfl (by decide) rfl (o_off rfl rfl (by decide) rfl (o_v (v_pick_t rfl rfl) rfl (o_nil ?_))))))
 refine s_st ?_ (hN4 true hF)
 exact st_le [0] (lea rfl) rfl (subs [0] rfl)
 replace hF := ite_f h13 hF
 refine o_on rfl rfl (o_v (fa 0 rfl) rfl (o_on rfl rfl (o_v (vl 0 ty3 rfl rfl rfl) rfl (o_on rfl rfl (o_v (v_bin rfl rfl rfl) rfl (o_v (v_pick_f rfl rfl) rfl (o_v (v_move rfl) rfl ?_)))))))
 refine o_split (t := 15) rfl (fun h14 => ?_) (fun h14 => ?_)
 replace hF := ite_t h14 hF
 refine o_off rfl rfl (by decide) rfl (o_off rfl rfl (by decide) rfl (o_off rfl rfl (by decide) rfl (o_v (v_pick_t rfl rfl) rfl (o_v (v_move rfl) rfl (o_off rfl rfl (by decide) rfl (o_off rfl rfl (by decide) rfl (o_off rfl rfl (by decide) rfl (o_off rfl rfl (by decide) rfl (o_off rfl rfl (by decide) rfl (o_v (v_pick_t rfl rfl) rfl (o_v (v_move rfl) rfl (o_off rfl rfl (by decide) rfl (o_off rfl rfl (by decide) rfl (o_off rfl rfl (by decide) rfl (o_off rfl rfl (by decide) rfl ?_)))))))))))))))
 refine o_v (v_pick_t rfl rfl) rfl (o_nil ?_)
 refine s_st ?_ (hN4 true hF)
 exact st_le [0] (lea rfl) rfl (subs [0] rfl)
 replace hF := ite_f h14 hF
 refine o_on rfl rfl (o_v (fa 1 rfl) rfl (o_on rfl rfl (o_v (vl 0 ty3 rfl rfl rfl) rfl (o_on rfl rfl (o_v (v_bin rfl rfl rfl) rfl (o_v (v_pick_f rfl rfl) rfl (o_v (v_move rfl) rfl ?_)))))))
 refine o_split (t := 20) rfl (fun h15 => ?_) (fun h15 => ?_)
 replace hF := ite_t h15 hF
 refine o_off rfl rfl (by decide) rfl (o_off rfl rfl (by decide) rfl (o_off rfl rfl (by decide) rfl (o_off rfl rfl (by decide) rfl (o_off rfl rfl (by decide) rfl (o_v (v_pick_t rfl rfl) rfl (o_v (v_move rfl) rfl (o_off rfl rfl (by decide) rfl (o_off rfl rfl (by decide) rfl (o_off rfl rfl (by decide) rfl (o_off rfl rfl (by decide) rfl (o_v (v_pick_t rfl rfl) rfl (o_nil ?_))))))))))))
 refine s_st ?_ (hN4 true hF)
 exact st_le [0] (lea rfl) rfl (subs [0] rfl)
 replace hF := ite_f h15 hF
 refine o_on rfl rfl (o_v (fa 1 rfl) rfl (o_on rfl rfl (o_v (vl 0 ty3 rfl rfl rfl) rfl (o_on rfl rfl (o_v (fa 0 rfl) rfl (o_on rfl rfl (o_v (vl 0 ty3 rfl rfl rfl) rfl (o_on rfl rfl (o_v (v_bin rfl rfl rfl) rfl (o_v (v_pick_f rfl rfl) rfl (o_v (v_move rfl) rfl ?_)))))))))))
 refine o_split (t := 27) rfl (fun h16 => ?_) (fun h16 => ?_)
 replace hF := ite_t h16 hF
 refine o_off rfl rfl (by decide) rfl (o_off rfl rfl (by decide) rfl (o_off rfl rfl (by decide) rfl (o_off rfl rfl (by decide) rfl (o_v (v_pick_t rfl rfl) rfl (o_nil ?_)))))
 refine s_st ?_ (hN4 true hF)
 exact st_le [0] (lea rfl) rfl (subs [0] rfl)
 replace hF := ite_f h16 hF
 refine o_on rfl rfl (o_v (fa 2 rfl) rfl (o_on rfl rfl (o_v (vl 0 ty22 rfl rfl rfl) rfl (o_on rfl rfl (o_v (v_lenS (enc := eRule) g_.Rules sl22 rfl (.f 0 rfl)) rfl (o_on rfl rfl (o_v (v_bin rfl rfl rfl) rfl (o_v (v_pick_f rfl rfl) rfl (o_nil ?_)))))))))
 refine s_st ?_ (hN4 (decide (8192 < (g_.Rules.length : Int))) hF)
 exact st_le [0] (lea rfl) rfl (subs [0] rfl)
 intro t32 hF
 unfold F.facts.Right_j1 at hF
 refine sat_wc ?_
 refine c_cond rfl (fun h1 => ?_) (fun h1 => ?_)
 replace hF := ite_t h1 hF
 refine c_seq (c_region (o_v (v_assign rfl) rfl (o_seq (c_ret ?_))))
 cases hF
 refine s_ret1 rfl (r_tmp rfl) fun a w hs => fin_sel hs [] ⟨rfl, rfl, rfl⟩ rfl sub_nil
 replace hF := ite_f h1 hF
 refine c_skip (sat_wc (c_seq (c_seq (c_region (o_v (fa 2 rfl) rfl (o_v (vl 0 ty22 rfl rfl rfl) rfl (o_v (v_lenS (enc := eRule) g_.Rules sl22 rfl (.f 0 rfl)) rfl (o_v (v_move rfl) rfl (o_seq ?_)))))))))
 obtain ⟨o2, ho2, hF⟩ := bd hF
 refine cT (fun E H Φ N' => ∀ (d2 : Unit), o2 = .done d2 -> Sat E [(0, .agg #[.int .i64 g_.Nts, .int .i64 g_.Start, .slice sa1 sn1 sc1]), (1, .pointer (some ⟨b, 0, none⟩)), (2, .int .i64 0), (34, .slice sa1 sn1 sc1)] H Φ N') (fun N2 hN2 => ?_) ?_
 refine c_block ?_
 refine cL (fun E H Φ j a w => ∃ (t36 : Int), F.facts.Right_l2 k g_ j t36 = some o2 /\ St E [(0, .agg #[.int .i64 g_.Nts, .int .i64 g_.Start, .slice sa1 sn1 sc1]), (1, .pointer (some ⟨b, 0, none⟩)), (2, .int .i64 0), (34, .slice sa1 sn1 sc1), (35, .int .i64 (g_.Rules.length : Int)), (36, .int .i64 t36)] H Φ a w) k ?_ ?_
 intro a w hs
 exact ⟨0, ho2, st_le [0] (lea rfl) rfl (subs [0] rfl) a w hs⟩
 rintro j a w ⟨t36, hL2, hs⟩
 rcases j with _ | j
 cases hL2
 refine wc_app hs ?_
 unfold F.facts.Right_l2 at hL2
 refine c_seq (c_region (o_v (v_bin rfl rfl rfl) rfl (o_seq (c_seq ?_))))
 refine c_cond rfl (fun h2 => ?_) (fun h2 => ?_)
 replace hL2 := ite_t h2 hL2
 refine c_skip (sat_wc (c_seq (c_block (c_seq (c_region (ite_some hL2 fun h3 hL2 => o_v (v_indexAddr_s (xs := g_.Rules) (enc := eRule) sl22 rfl rfl (.f 0 rfl) h3) rfl (o_load_s (xs := g_.Rules) (enc := eRule) ty50 rfl (.f 0 rfl) h3 rfl rfl rfl rfl rfl rfl fun sa2 sn2 sc2 => o_alloc zero50 rfl rfl fun b1 => o_store_box 0 rfl ty50 rfl rfl rfl rfl rfl rfl rfl (o_seq (c_seq (c_seq (c_region (o_v (fa 0 rfl) rfl ?_))))))))))))
 refine o_v (vl 0 ty3 rfl rfl rfl) rfl (o_v (v_bin rfl rfl rfl) rfl (o_v (v_move rfl) rfl ?_))
 refine o_split (t := 43) rfl (fun h4 => ?_) (fun h4 => ?_)
 replace hL2 := ite_t h4 hL2
 refine o_off rfl rfl (by decide) rfl (o_off rfl rfl (by decide) rfl (o_off rfl rfl (by decide) rfl (o_off rfl rfl (by decide) rfl (o_off rfl rfl (by decide) rfl (o_v (v_pick_t rfl rfl) rfl (o_v (v_move rfl) rfl (o_off rfl rfl (by decide) rfl (o_off rfl rfl (by decide) rfl (o_off rfl rfl (by decide) rfl (o_off rfl rfl (by decide) rfl (o_v (v_pick_t rfl rfl) rfl (o_seq ?_))))))))))))
 refine c_cond rfl (fun _ => ?_) (fun h => Bool.noConfusion h)
 refine c_seq (c_region (o_v (v_assign rfl) rfl (o_seq (c_ret ?_))))
 cases hL2
 obtain rfl := lrf_ret hF
 refine s_ret1 rfl (r_tmp rfl) fun a w hs => fin_sel hs [] ⟨rfl, rfl, rfl⟩ rfl sub_nil
 replace hL2 := ite_f h4 hL2
 refine o_on rfl rfl (o_v (fa 0 rfl) rfl (o_on rfl rfl (o_v (vl 0 ty3 rfl rfl rfl) rfl (o_on rfl rfl (o_v (fa 0 rfl) rfl (o_on rfl rfl (o_v (vl 1 ty3 rfl rfl rfl) rfl (o_on rfl rfl (o_v (v_bin rfl rfl rfl) rfl (o_v (v_pick_f rfl rfl) rfl (o_v (v_move rfl) rfl ?_)))))))))))
 refine o_split (t := 50) rfl (fun h5 => ?_) (fun h5 => ?_)
 replace hL2 := ite_t h5 hL2
 refine o_off rfl rfl (by decide) rfl (o_off rfl rfl (by decide) rfl (o_off rfl rfl (by decide) rfl (o_off rfl rfl (by decide) rfl (o_v (v_pick_t rfl rfl) rfl (o_seq ?_)))))
 refine c_cond rfl (fun _ => ?_) (fun h => Bool.noConfusion h)
 refine c_seq (c_region (o_v (v_assign rfl) rfl (o_seq (c_ret ?_))))
 cases hL2
 obtain rfl := lrf_ret hF
 refine s_ret1 rfl (r_tmp rfl) fun a w hs => fin_sel hs [] ⟨rfl, rfl, rfl⟩ rfl sub_nil
 replace hL2 := ite_f h5 hL2
 refine o_on rfl rfl (o_v (fa 1 rfl) rfl (o_on rfl rfl (o_v (vl 0 ty48 rfl rfl rfl) rfl (o_on rfl rfl (o_v (v_lenS (enc := eKSym) ((at_ g_.Rules t36).Rhs) sl48 rfl (.f 0 rfl)) rfl (o_on rfl rfl (o_v (v_bin rfl rfl rfl) rfl (o_v (v_pick_f rfl rfl) rfl (o_seq ?_)))))))))
 refine c_cond rfl (fun h6 => ?_) (fun h6 => ?_)
 replace hL2 := ite_t h6 hL2
 refine c_seq (c_region (o_v (v_assign rfl) rfl (o_seq (c_ret ?_))))
 cases hL2
 obtain rfl := lrf_ret hF
 refine s_ret1 rfl (r_tmp rfl) fun a w hs => fin_sel hs [] ⟨rfl, rfl, rfl⟩ rfl sub_nil
 replace hL2 := ite_f h6 hL2
 refine c_skip (sat_wc (c_seq (c_region (o_v (fa 1 rfl) rfl (o_v (vl 0 ty48 rfl rfl rfl) rfl (o_v (v_lenS (enc := eKSym) ((at_ g_.Rules t36).Rhs) sl48 rfl (.f 0 rfl)) rfl (o_v (v_move rfl) rfl (o_seq ?_))))))))
 obtain ⟨o3, ho3, hL2⟩ := bd hL2
 refine cT (fun E H Φ N' => ∀ (d3 : Int), o3 = .done d3 -> Sat E [(0, .agg #[.int .i64 g_.Nts, .int .i64 g_.Start, .slice sa1 sn1 sc1]), (1, .pointer (some ⟨b, 0, none⟩)), (2, .int .i64 0), (4, .pointer (some ⟨b1, 0, none⟩)), (34, .slice sa1 sn1 sc1), (35, .int .i64 (g_.Rules.length : Int)), (36, .int .i64 t36), (57, .slice sa2 sn2 sc2), (58, .int .i64 (((at_ g_.Rules t36).Rhs).length : Int)), (59, .int .i64 d3)] H [(.slice sa1 sn1 sc1, .slice 2 (g_.Rules.map eRule)), (.slice sa2 sn2 sc2, .slice 5 (((at_ g_.Rules t36).Rhs).map eKSym))] N') (fun N3 hN3 => ?_) ?_
 refine c_block ?_
 refine cL (fun E H Φ j a w => ∃ (t59 : Int), F.facts.Right_l3 g_ t36 j t59 = some o3 /\ St E [(0, .agg #[.int .i64 g_.Nts, .int .i64 g_.Start, .slice sa1 sn1 sc1]), (1, .pointer (some ⟨b, 0, none⟩)), (2, .int .i64 0), (4, .pointer (some ⟨b1, 0, none⟩)), (34, .slice sa1 sn1 sc1), (35, .int .i64 (g_.Rules.length : Int)), (36, .int .i64 t36), (57, .slice sa2 sn2 sc2), (58, .int .i64 (((at_ g_.Rules t36).Rhs).length : Int)), (59, .int .i64 t59)] H [(.slice sa1 sn1 sc1, .slice 2 (g_.Rules.map eRule)), (.slice sa2 sn2 sc2, .slice 5 (((at_ g_.Rules t36).Rhs).map eKSym))] a w) k ?_ ?_
 intro a w hs
 exact ⟨0, ho3, st_le [0, 0] (lea rfl) rfl (subs [1, 0] rfl) a w hs⟩
 rintro j a w ⟨t59, hL3, hs⟩
 rcases j with _ | j
 cases hL3
 refine wc_app hs ?_
 unfold F.facts.Right_l3 at hL3
 refine c_seq (c_region (o_v (v_bin rfl rfl rfl) rfl (o_seq (c_seq ?_))))
 refine c_cond rfl (fun h7 => ?_) (fun h7 => ?_)
 replace hL3 := ite_t h7 hL3
 refine c_skip (sat_wc (c_seq (c_block (c_seq (c_region (ite_some hL3 fun h8 hL3 => o_v (v_indexAddr_s (xs := (at_ g_.Rules t36).Rhs) (enc := eKSym) sl48 rfl rfl (.f 1 rfl) h8) rfl (o_v (v_load_s (xs := (at_ g_.Rules t36).Rhs) (enc := eKSym) ty47 rfl (.f 1 rfl) h8 rfl rfl rfl rfl rfl rfl rfl) rfl (o_alloc zero47 rfl rfl fun b2 => o_store_box 0 rfl ty47 rfl rfl rfl rfl rfl rfl rfl (o_seq (c_seq ?_))))))))))
 refine cT (fun E H Φ N' => ∀ (t83 : Bool), F.facts.Right_j4 (F.facts.Right_l3 g_ t36 j) t59 t83 = some o3 -> Sat E [(0, .agg #[.int .i64 g_.Nts, .int .i64 g_.Start, .slice sa1 sn1 sc1]), (1, .pointer (some ⟨b, 0, none⟩)), (2, .int .i64 0), (4, .pointer (some ⟨b1, 0, none⟩)), (6, .pointer (some ⟨b2, 0, none⟩)), (34, .slice sa1 sn1 sc1), (35, .int .i64 (g_.Rules.length : Int)), (36, .int .i64 t36), (57, .slice sa2 sn2 sc2), (58, .int .i64 (((at_ g_.Rules t36).Rhs).length : Int)), (59, .int .i64 t59), (83, .bool t83)] H Φ N') (fun N4 hN4 => ?_) ?_
 refine c_region (o_v (fa 0 rfl) rfl (o_v (vl 0 ty3 rfl rfl rfl) rfl (o_v (v_bin rfl rfl rfl) rfl (o_v (v_move rfl) rfl ?_))))
 refine o_split (t := 66) rfl (fun h10 => ?_) (fun h10 => ?_)
 replace hL3 := ite_t h10 hL3
 refine o_off rfl rfl (by decide) rfl (o_off rfl rfl (by decide) rfl (o_off rfl rfl (by decide) rfl (o_off rfl rfl (by decide) rfl (o_off rfl rfl (by decide) rfl (o_v (v_pick_t rfl rfl) rfl (o_v (v_move rfl) rfl (o_off rfl rfl (by decide) rfl (o_off rfl rfl (by decide) rfl (o_off rfl rfl (by decide) rfl (o_off rfl rfl (by decide) rfl (o_offU rfl rfl rfl (o_offU rfl rfl rfl (o_offU rfl rfl rfl (o_offU rfl rfl rfl (o_off rfl rfl (by decide) rfl ?_)))))))))))))))
 refine o_v (v_pick_t rfl rfl) rfl (o_nil ?_)
 refine s_st ?_ (hN4 true hL3)
 exact st_le [0, 0, 0] (lea rfl) rfl (subs [0, 1] rfl)
 replace hL3 := ite_f h10 hL3
 refine o_on rfl rfl (o_v (fa 0 rfl) rfl (o_on rfl rfl (o_v (vl 0 ty3 rfl rfl rfl) rfl (o_on rfl rfl (o_v (fa 0 rfl) rfl (o_on rfl rfl (o_v (vl 2 ty3 rfl rfl rfl) rfl (o_on rfl rfl (o_v (v_bin rfl rfl rfl) rfl (o_v (v_pick_f rfl rfl) rfl (o_v (v_move rfl) rfl ?_)))))))))))
 refine o_split (t := 73) rfl (fun h11 => ?_) (fun h11 => ?_)
 replace hL3 := ite_t h11 hL3
 refine o_off rfl rfl (by decide) rfl (o_off rfl rfl (by decide) rfl (o_off rfl rfl (by decide) rfl (o_off rfl rfl (by decide) rfl (o_offU rfl rfl rfl (o_offU rfl rfl rfl (o_offU rfl rfl rfl (o_offU rfl rfl rfl (o_off rfl rfl (by decide) rfl (o_v (v_pick_t rfl rfl) rfl (o_nil ?_))))))))))
 refine s_st ?_ (hN4 true hL3)
 exact st_le [0, 0, 0] (lea rfl) rfl (subs [0, 1] rfl)
 replace hL3 := ite_f h11 hL3
 refine o_on rfl rfl (o_v (fa 0 rfl) rfl (o_on rfl rfl (o_v (vl 0 ty3 rfl rfl rfl) rfl (o_on rfl rfl (o_v (v_bin rfl rfl rfl) rfl (o_on rfl rfl (o_v (v_move rfl) rfl ?_)))))))
 refine o_split (t := 77) rfl (fun h12 => ?_) (fun h12 => ?_)
 replace hL3 := ite_t h12 hL3
 refine o_on rfl rfl (o_v (fa 1 rfl) rfl (o_on rfl rfl (o_v (vl 0 ty45 rfl rfl rfl) rfl (o_on rfl rfl (o_v (v_build (v := .agg #[.int .u64 0, .int .u64 0, .int .u64 0, .int .u64 0]) rfl (fun _ => by kernel_rfl)) rfl (o_on rfl rfl (o_v (v_agne 2 rfl rfl (eq45 ((at_ ((at_ g_.Rules t36).Rhs) t59).Set.w0) ((at_ ((at_ g_.Rules t36).Rhs) t59).Set.w1) ((at_ ((at_ g_.Rules t36).Rhs) t59).Set.w2) ((at_ ((at_ g_.Rules t36).Rhs) t59).Set.w3) 0 0 0 0) rfl guard45) rfl (o_on rfl rfl (o_v (v_pick_t rfl rfl) rfl (o_v (v_pick_f rfl rfl) rfl (o_nil ?_)))))))))))
 refine s_st ?_ (hN4 (!(S4.eq (S4.mk ((at_ ((at_ g_.Rules t36).Rhs) t59).Set.w0) ((at_ ((at_ g_.Rules t36).Rhs) t59).Set.w1) ((at_ ((at_ g_.Rules t36).Rhs) t59).Set.w2) ((at_ ((at_ g_.Rules t36).Rhs) t59).Set.w3)) (S4.mk 0 0 0 0))) hL3)
 exact st_le [0, 0, 0] (lea rfl) rfl (subs [0, 1] rfl)
 replace hL3 := ite_f h12 hL3
 refine o_off rfl rfl (by decide) rfl (o_off rfl rfl (by decide) rfl (o_off rfl rfl (by decide) rfl (o_off rfl rfl (by decide) rfl (o_on rfl rfl (o_v (v_pick_f rfl rfl) rfl (o_v (v_pick_f rfl rfl) rfl (o_nil ?_)))))))
 refine s_st ?_ (hN4 false hL3)
 exact st_le [0, 0, 0] (lea rfl) rfl (subs [0, 1] rfl)
 intro t83 hL3
 unfold F.facts.Right_j4 at hL3
 refine sat_wc ?_
 refine c_cond rfl (fun h9 => ?_) (fun h9 => ?_)
 replace hL3 := ite_t h9 hL3
 refine c_seq (c_region (o_v (v_assign rfl) rfl (o_seq (c_ret ?_))))
 cases hL3
 obtain rfl := lr_ret hL2
 obtain rfl := lrf_ret hF
 refine s_ret1 rfl (r_tmp rfl) fun a w hs => fin_sel hs [] ⟨rfl, rfl, rfl⟩ rfl sub_nil
 replace hL3 := ite_f h9 hL3
 refine c_skip (sat_wc (c_region (o_v (v_bin rfl rfl rfl) rfl (o_v (v_move rfl) rfl (o_nil ?_)))))
 intro a w hs
 exact ⟨j, Nat.lt_succ_self j, IntKind.wrap .i64 (t59 + 1), hL3, st_le [1, 1] (lea rfl) rfl (subs [0, 1] rfl) a w hs⟩
 replace hL3 := ite_f h7 hL3
 refine c_exit0 ?_
 cases hL3
 refine s_st ?_ (hN3 t59 rfl)
 exact st_le [0, 0] (lea rfl) rfl (subs [0, 1] rfl)
 intro d3 hd
 subst hd
 replace hL2 := lr_done hL2
 refine sat_wc (c_region (o_v (v_bin rfl rfl rfl) rfl (o_v (v_move rfl) rfl (o_nil ?_))))
 intro a w hs
 exact ⟨j, Nat.lt_succ_self j, IntKind.wrap .i64 (t36 + 1), hL2, st_le [1] (lea rfl) rfl (subs [0] rfl) a w hs⟩
 replace hL2 := ite_f h2 hL2
 refine c_exit0 ?_
 cases hL2
 refine s_st ?_ (hN2 () rfl)
 exact st_le [0] (lea rfl) rfl (subs [0] rfl)
 intro d2 hd
 subst hd
 replace hF := lrf_done hF
 refine sat_wc (c_seq (c_region (o_v (v_assign rfl) rfl (o_seq (c_ret ?_)))))
 cases hF
 refine s_ret1 rfl (r_tmp rfl) fun a w hs => fin_sel hs [] ⟨rfl, rfl, rfl⟩ rfl sub_nil
theorem tri83 {s : KSym} {m : List Bool} {sa1 : Option Addr} {sn1 sc1 : Nat} {r : Bool} (hF : F.facts.Nullable_c1 s m = some r) :
  Tri Try.prog 83 [.agg #[.int .i64 s.Nt, .int .u64 s.Set.w0, .int .u64 s.Set.w1, .int .u64 s.Set.w2, .int .u64 s.Set.w3], .slice sa1 sn1 sc1] [] [(.slice sa1 sn1 sc1, .slice 1 (m.map eB))] (fun o H Φ => o = .ret (.bool r) /\ H = [] /\ Φ = []) := by
 unfold F.facts.Nullable_c1 at hF
 refine tri_intro (n := 15) Try.func83 rfl Try.ntmps83 rfl fun w X => c_seq (c_region (o_box rfl rfl rfl fun b => o_v (v_assign rfl) rfl (o_seq (c_seq (c_region (o_v (fa 0 rfl) rfl (o_v (vl 0 ty3 rfl rfl rfl) rfl (o_v (v_bin rfl rfl rfl) rfl (o_v (v_move rfl) rfl ?_)))))))))
 refine o_split (t := 8) rfl (fun h1 => ?_) (fun h1 => ?_)
 replace hF := ite_t h1 hF
 refine o_on rfl rfl (o_v (v_move rfl) rfl (o_on rfl rfl (o_v (fa 0 rfl) rfl (o_on rfl rfl (o_v (vl 0 ty3 rfl rfl rfl) rfl (o_on rfl rfl (ite_some hF fun h2 hF => o_v (v_indexAddr_s (xs := m) (enc := eB) sl79 rfl rfl (.f 0 rfl) h2) rfl (o_on rfl rfl (o_v (v_load_s (xs := m) (enc := eB) ty4 rfl (.f 0 rfl) h2 rfl rfl rfl rfl rfl rfl rfl) rfl (o_v (v_pick_t rfl rfl) rfl (o_v (v_assign rfl) rfl (o_seq (c_ret ?_)))))))))))))
 cases hF
 refine s_ret1 rfl (r_tmp rfl) fun a w hs => fin_sel hs [] ⟨rfl, rfl, rfl⟩ rfl sub_nil
 replace hF := ite_f h1 hF
 refine o_off rfl rfl (by decide) rfl (o_off rfl rfl (by decide) rfl (o_off rfl rfl (by decide) rfl (o_off rfl rfl (by decide) rfl (o_off rfl rfl (by decide) rfl (o_v (v_pick_f rfl rfl) rfl (o_v (v_assign rfl) rfl (o_seq (c_ret ?_))))))))
 cases hF
 refine s_ret1 rfl (r_tmp rfl) fun a w hs => fin_sel hs [] ⟨rfl, rfl, rfl⟩ rfl sub_nil
theorem tri82_83 {k : Nat} {g_ : Gram} {sa1 : Option Addr} {sn1 sc1 : Nat} {r : List Bool} (hF : F.facts.closure_83 k g_ = some r) :
  Tri Try.prog 82 [.agg #[.int .i64 g_.Nts, .int .i64 g_.Start, .slice sa1 sn1 sc1], .func (.func 83) #[] #[]] [] [(.slice sa1 sn1 sc1, .slice 2 (g_.Rules.map eRule))] (fun o H Φ => ∃ (sa8 : Option Addr) (sn8 sc8 : Nat), o = .ret (.slice sa8 sn8 sc8) /\ H = [.row (.slice sa8 sn8 sc8) 4 1 (r.map eB)] /\ Φ = []) := by
 unfold F.facts.closure_83 at hF
 refine tri_intro (n := 44) Try.func82 rfl Try.ntmps82 rfl fun w X => c_seq (c_region (o_box rfl rfl rfl fun b => o_v (v_assign rfl) rfl (o_seq (c_scope (c_seq (c_region (o_v (fa 0 rfl) rfl (o_v (vl 0 ty3 rfl rfl rfl) rfl (ite_some hF fun h1 hF => ite_some hF fun h2 hF => ite_some hF fun h3 hF => o_makeEz (enc := eB) false sl79 zero4 (fun _ _ => .cons (.bool _) (.nil)) rfl rfl h1 h2 h3 rfl fun sa2 sn2 sc2 => o_v (v_assign rfl) rfl ?_)))))))))
 refine o_seq (c_seq (c_label (sat_wc ?_)))
 obtain ⟨o1, ho1, hF⟩ := bd hF
 refine c_block ?_
 refine cL (fun E H Φ j a w => ∃ (marked : List Bool) (sa3 : Option Addr) (sn3 sc3 : Nat), F.facts.closure_83_l1 k g_ j marked = some o1 /\ St E [(0, .agg #[.int .i64 g_.Nts, .int .i64 g_.Start, .slice sa1 sn1 sc1]), (1, .func (.func 83) #[] #[]), (2, .pointer (some ⟨b, 0, none⟩)), (4, .slice none 0 0), (5, .slice sa3 sn3 sc3)] [.box b 24 [.int .i64 g_.Nts, .int .i64 g_.Start, .slice sa1 sn1 sc1], .row (.slice sa3 sn3 sc3) 4 1 (marked.map eB)] Φ a w) k ?_ ?_
 intro a w hs
 exact ⟨(List.replicate (Int.toNat g_.Nts) false), sa2, sn2, sc2, ho1, st_le [1, 0] (lea rfl) rfl (subs [0] rfl) a w hs⟩
 rintro j a w ⟨marked, sa3, sn3, sc3, hL1, hs⟩
 rcases j with _ | j
 cases hL1
 refine wc_app hs ?_
 unfold F.facts.closure_83_l1 at hL1
 refine c_block (c_scope (c_seq (c_label (sat_wc (c_seq (c_seq (c_region (o_v (fa 2 rfl) rfl (o_v (vl 0 ty22 rfl rfl rfl) rfl (o_v (v_lenS (enc := eRule) g_.Rules sl22 rfl (.f 0 rfl)) rfl (o_v (v_move rfl) rfl (o_seq ?_))))))))))))
 obtain ⟨o2, ho2, hL1⟩ := bd hL1
 refine cT (fun E H Φ N' => ∀ (d2 : Int), o2 = .done d2 -> Sat E [(0, .agg #[.int .i64 g_.Nts, .int .i64 g_.Start, .slice sa1 sn1 sc1]), (1, .func (.func 83) #[] #[]), (2, .pointer (some ⟨b, 0, none⟩)), (4, .slice none 0 0), (5, .slice sa3 sn3 sc3), (14, .slice sa1 sn1 sc1), (15, .int .i64 (g_.Rules.length : Int)), (16, .int .i64 d2)] H Φ N') (fun N2 hN2 => ?_) ?_
 refine c_cutX0 (fun E N' => ∀ (dx2 : (List Bool) × Int × (List KSym) × Int × Int × Int) (sa4 : Option Addr) (sn4 sc4 : Nat) (sa5 : Option Addr) (sn5 sc5 : Nat) (b1 : Nat), o2 = .out dx2 -> Sat E [(0, .agg #[.int .i64 g_.Nts, .int .i64 g_.Start, .slice sa1 sn1 sc1]), (1, .func (.func 83) #[] #[]), (2, .pointer (some ⟨b, 0, none⟩)), (4, .slice none 0 0), (5, .slice sa4 sn4 sc4), (7, .pointer (some ⟨b1, 0, none⟩)), (14, .slice sa1 sn1 sc1), (15, .int .i64 (g_.Rules.length : Int)), (16, .int .i64 dx2.2.2.2.1), (26, .slice sa5 sn5 sc5), (27, .int .i64 dx2.2.2.2.2.1), (28, .int .i64 dx2.2.2.2.2.2)] [.box b 24 [.int .i64 g_.Nts, .int .i64 g_.Start, .slice sa1 sn1 sc1], .box b1 50 [.int .i64 dx2.2.1, .slice sa5 sn5 sc5], .row (.slice sa4 sn4 sc4) 4 1 (dx2.1.map eB)] [(.slice sa1 sn1 sc1, .slice 2 (g_.Rules.map eRule)), (.slice sa5 sn5 sc5, .slice 5 (dx2.2.2.1.map eKSym))] N') (fun NX2 hX2 => ?_) ?_
 refine c_block ?_
 refine cL (fun E H Φ j a w => ∃ (t16 : Int), F.facts.closure_83_l2 k g_ marked j t16 = some o2 /\ St E [(0, .agg #[.int .i64 g_.Nts, .int .i64 g_.Start, .slice sa1 sn1 sc1]), (1, .func (.func 83) #[] #[]), (2, .pointer (some ⟨b, 0, none⟩)), (4, .slice none 0 0), (5, .slice sa3 sn3 sc3), (14, .slice sa1 sn1 sc1), (15, .int .i64 (g_.Rules.length : Int)), (16, .int .i64 t16)] H Φ a w) k ?_ ?_
 intro a w hs
 exact ⟨0, ho2, st_le [0, 0] (lea rfl) rfl (subs [0] rfl) a w hs⟩
 rintro j a w ⟨t16, hL2, hs⟩
 rcases j with _ | j
 cases hL2
 refine wc_app hs ?_
 unfold F.facts.closure_83_l2 at hL2
 refine c_seq (c_region (o_v (v_bin rfl rfl rfl) rfl (o_seq (c_seq ?_))))
 refine c_cond rfl (fun h4 => ?_) (fun h4 => ?_)
 replace hL2 := ite_t h4 hL2
 refine c_skip (sat_wc (c_seq ?_))
 refine c_cut (fun E N' => ∀ (sa6 : Option Addr) (sn6 sc6 : Nat) (b2 : Nat), F.facts.closure_83_j3 (F.facts.closure_83_l2 k g_ marked j) t16 = some o2 -> Sat E [(0, .agg #[.int .i64 g_.Nts, .int .i64 g_.Start, .slice sa1 sn1 sc1]), (1, .func (.func 83) #[] #[]), (2, .pointer (some ⟨b, 0, none⟩)), (4, .slice none 0 0), (5, .slice sa3 sn3 sc3), (7, .pointer (some ⟨b2, 0, none⟩)), (14, .slice sa1 sn1 sc1), (15, .int .i64 (g_.Rules.length : Int)), (16, .int .i64 t16)] [.box b 24 [.int .i64 g_.Nts, .int .i64 g_.Start, .slice sa1 sn1 sc1], .box b2 50 [.int .i64 ((at_ g_.Rules t16).Lhs), .slice sa6 sn6 sc6], .row (.slice sa3 sn3 sc3) 4 1 (marked.map eB)] [(.slice sa1 sn1 sc1, .slice 2 (g_.Rules.map eRule)), (.slice sa6 sn6 sc6, .slice 5 (((at_ g_.Rules t16).Rhs).map eKSym))] N') (fun N3 hN3 => ?_) ?_
 refine c_block (c_seq (c_region (ite_some hL2 fun h5 hL2 => o_v (v_indexAddr_s (xs := g_.Rules) (enc := eRule) sl22 rfl rfl (.f 0 rfl) h5) rfl (o_load_s (xs := g_.Rules) (enc := eRule) ty50 rfl (.f 0 rfl) h5 rfl rfl rfl rfl rfl rfl fun sa7 sn7 sc7 => o_alloc zero50 rfl rfl fun b3 => o_store_box 0 rfl ty50 rfl rfl rfl rfl rfl rfl rfl (o_seq (c_seq (c_seq (c_region (o_v (v_move rfl) rfl (o_v (fa 0 rfl) rfl (o_v (vl 0 ty3 rfl rfl rfl) rfl (ite_some hL2 fun h6 hL2 => ?_))))))))))))
 refine o_v (v_indexAddr_s (xs := marked) (enc := eB) sl79 rfl rfl (.r 2 _ rfl) h6) rfl (o_v (v_load_s (xs := marked) (enc := eB) ty4 rfl (.r 2 _ rfl) h6 rfl rfl rfl rfl rfl rfl rfl) rfl (o_seq ?_))
 refine c_cond rfl (fun h7 => ?_) (fun h7 => ?_)
 replace hL2 := ite_t h7 hL2
 refine c_exit0 ?_
 refine s_st ?_ (hN3 sa7 sn7 sc7 b3 hL2)
 exact st_le [1, 0, 0] (lea rfl) rfl (subs [1, 0] rfl)
 replace hL2 := ite_f h7 hL2
 refine c_skip (sat_wc (c_seq (c_seq (c_region (o_v (fa 1 rfl) rfl (o_v (vl 0 ty48 rfl rfl rfl) rfl (o_v (v_lenS (enc := eKSym) ((at_ g_.Rules t16).Rhs) sl48 rfl (.f 0 rfl)) rfl (o_v (v_move rfl) rfl (o_seq ?_)))))))))
 obtain ⟨o4, ho4, hL2⟩ := bd hL2
 refine cT (fun E H Φ N' => ∀ (d4 : Int), o4 = .done d4 -> Sat E [(0, .agg #[.int .i64 g_.Nts, .int .i64 g_.Start, .slice sa1 sn1 sc1]), (1, .func (.func 83) #[] #[]), (2, .pointer (some ⟨b, 0, none⟩)), (4, .slice none 0 0), (5, .slice sa3 sn3 sc3), (7, .pointer (some ⟨b3, 0, none⟩)), (14, .slice sa1 sn1 sc1), (15, .int .i64 (g_.Rules.length : Int)), (16, .int .i64 t16), (26, .slice sa7 sn7 sc7), (27, .int .i64 (((at_ g_.Rules t16).Rhs).length : Int)), (28, .int .i64 d4)] H [(.slice sa1 sn1 sc1, .slice 2 (g_.Rules.map eRule)), (.slice sa7 sn7 sc7, .slice 5 (((at_ g_.Rules t16).Rhs).map eKSym))] N') (fun N4 hN4 => ?_) ?_
 refine c_cutX0 (fun E N' => ∀ (dx4 : Int × S4 × Int) (b4 : Nat), o4 = .out dx4 -> Sat E [(0, .agg #[.int .i64 g_.Nts, .int .i64 g_.Start, .slice sa1 sn1 sc1]), (1, .func (.func 83) #[] #[]), (2, .pointer (some ⟨b, 0, none⟩)), (4, .slice none 0 0), (5, .slice sa3 sn3 sc3), (7, .pointer (some ⟨b3, 0, none⟩)), (9, .pointer (some ⟨b4, 0, none⟩)), (14, .slice sa1 sn1 sc1), (15, .int .i64 (g_.Rules.length : Int)), (16, .int .i64 t16), (26, .slice sa7 sn7 sc7), (27, .int .i64 (((at_ g_.Rules t16).Rhs).length : Int)), (28, .int .i64 dx4.2.2)] [.box b3 50 [.int .i64 ((at_ g_.Rules t16).Lhs), .slice sa7 sn7 sc7], .box b 24 [.int .i64 g_.Nts, .int .i64 g_.Start, .slice sa1 sn1 sc1], .box b4 47 [.int .i64 dx4.1, .int .u64 dx4.2.1.w0, .int .u64 dx4.2.1.w1, .int .u64 dx4.2.1.w2, .int .u64 dx4.2.1.w3], .row (.slice sa3 sn3 sc3) 4 1 (marked.map eB)] [(.slice sa1 sn1 sc1, .slice 2 (g_.Rules.map eRule)), (.slice sa7 sn7 sc7, .slice 5 (((at_ g_.Rules t16).Rhs).map eKSym))] N') (fun NX4 hX4 => ?_) ?_
 refine c_block ?_
 refine cL (fun E H Φ j a w => ∃ (t28 : Int), F.facts.closure_83_l4 g_ t16 marked j t28 = some o4 /\ St E [(0, .agg #[.int .i64 g_.Nts, .int .i64 g_.Start, .slice sa1 sn1 sc1]), (1, .func (.func 83) #[] #[]), (2, .pointer (some ⟨b, 0, none⟩)), (4, .slice none 0 0), (5, .slice sa3 sn3 sc3), (7, .pointer (some ⟨b3, 0, none⟩)), (14, .slice sa1 sn1 sc1), (15, .int .i64 (g_.Rules.length : Int)), (16, .int .i64 t16), (26, .slice sa7 sn7 sc7), (27, .int .i64 (((at_ g_.Rules t16).Rhs).length : Int)), (28, .int .i64 t28)] H [(.slice sa1 sn1 sc1, .slice 2 (g_.Rules.map eRule)), (.slice sa7 sn7 sc7, .slice 5 (((at_ g_.Rules t16).Rhs).map eKSym))] a w) k ?_ ?_
 intro a w hs
 exact ⟨0, ho4, st_le [0, 0, 0] (lea rfl) rfl (subs [1, 0] rfl) a w hs⟩
 rintro j a w ⟨t28, hL4, hs⟩
 rcases j with _ | j
 cases hL4
 refine wc_app hs ?_
 unfold F.facts.closure_83_l4 at hL4
 refine c_seq (c_region (o_v (v_bin rfl rfl rfl) rfl (o_seq (c_seq ?_))))
 refine c_cond rfl (fun h8 => ?_) (fun h8 => ?_)
 replace hL4 := ite_t h8 hL4
 refine c_skip (sat_wc (c_seq (c_block (c_seq (c_region (ite_some hL4 fun h9 hL4 => o_v (v_indexAddr_s (xs := (at_ g_.Rules t16).Rhs) (enc := eKSym) sl48 rfl rfl (.f 1 rfl) h9) rfl (o_v (v_load_s (xs := (at_ g_.Rules t16).Rhs) (enc := eKSym) ty47 rfl (.f 1 rfl) h9 rfl rfl rfl rfl rfl rfl rfl) rfl (o_alloc zero47 rfl rfl fun b5 => o_store_box 0 rfl ty47 rfl rfl rfl rfl rfl rfl rfl (o_seq (c_seq (c_region (o_v (v_move rfl) rfl (o_v (vl 0 ty47 rfl rfl rfl) rfl ?_)))))))))))))
 refine o_v (v_move rfl) rfl ?_
 obtain ⟨v_, h10, hL4⟩ := bd hL4
 refine o_callSBx call83 rfl rfl (lent_r 3 rfl lent_nil) (tri83 h10 :) rfl (o_v (v_not rfl) rfl (o_seq ?_))
 refine c_cond rfl (fun h11 => ?_) (fun h11 => ?_)
 replace hL4 := ite_t h11 hL4
 refine c_exit2 ?_
 cases hL4
 refine s_st ?_ (hX4 ((at_ ((at_ g_.Rules t16).Rhs) t28).Nt, (S4.mk ((at_ ((at_ g_.Rules t16).Rhs) t28).Set.w0) ((at_ ((at_ g_.Rules t16).Rhs) t28).Set.w1) ((at_ ((at_ g_.Rules t16).Rhs) t28).Set.w2) ((at_ ((at_ g_.Rules t16).Rhs) t28).Set.w3)), t28) b5 rfl)
 exact st_le [1, 1, 0, 0] (lea rfl) rfl (subs [0, 1] rfl)
 replace hL4 := ite_f h11 hL4
 refine c_skip (sat_wc (c_region (o_v (v_bin rfl rfl rfl) rfl (o_v (v_move rfl) rfl (o_nil ?_)))))
 intro a w hs
 exact ⟨j, Nat.lt_succ_self j, IntKind.wrap .i64 (t28 + 1), hL4, st_le [1, 1, 1] (lea rfl) rfl (subs [0, 1] rfl) a w hs⟩
 replace hL4 := ite_f h8 hL4
 refine c_exit0 ?_
 cases hL4
 refine s_st ?_ (hN4 t28 rfl)
 exact st_le [0, 0, 0] (lea rfl) rfl (subs [0, 1] rfl)
 intro dx4 b4 hd
 subst hd
 replace hL2 := lxx_out hL2
 refine s_st ?_ (hN3 sa7 sn7 sc7 b3 hL2)
 exact st_le [1, 0, 1] (lea rfl) rfl (subs [0, 1] rfl)
 intro d4 hd
 subst hd
 replace hL2 := lxx_done hL2
 refine sat_wc (c_seq (c_region (o_v (v_move rfl) rfl (o_v (fa 0 rfl) rfl (o_v (vl 0 ty3 rfl rfl rfl) rfl (o_v (v_indexAddr_s (xs := marked) (enc := eB) sl79 rfl rfl (.r 2 _ rfl) h6) rfl (o_store_s (xs := marked) (enc := eB) 2 true rfl ty4 rfl rfl rfl rfl h6 (.s rfl (.nil)) rfl rfl rfl (o_seq (c_exit2 ?_)))))))))
 cases hL2
 refine s_st ?_ (hX2 (set_ marked ((at_ g_.Rules t16).Lhs) true, (at_ g_.Rules t16).Lhs, (at_ g_.Rules t16).Rhs, t16, (((at_ g_.Rules t16).Rhs).length : Int), d4) sa3 sn3 sc3 sa7 sn7 sc7 b3 rfl)
 exact st_le [1, 0, 0] (lea rfl) rfl (subs [0, 1] rfl)
 intro sa6 sn6 sc6 b2 hL2
 unfold F.facts.closure_83_j3 at hL2
 refine sat_wc (c_region (o_v (v_bin rfl rfl rfl) rfl (o_v (v_move rfl) rfl (o_nil ?_))))
 intro a w hs
 exact ⟨j, Nat.lt_succ_self j, IntKind.wrap .i64 (t16 + 1), hL2, st_le [0, 1] (lea rfl) rfl (subs [0] rfl) a w hs⟩
 replace hL2 := ite_f h4 hL2
 refine c_exit0 ?_
 cases hL2
 refine s_st ?_ (hN2 t16 rfl)
 exact st_le [0, 0] (lea rfl) rfl (subs [0] rfl)
 intro dx2 sa4 sn4 sc4 sa5 sn5 sc5 b1 hd
 subst hd
 replace hL1 := lxg_out hL1
 intro a w hs
 exact ⟨j, Nat.lt_succ_self j, dx2.1, sa4, sn4, sc4, hL1, st_le [0, 1] (lea rfl) rfl (subs [0] rfl) a w hs⟩
 intro d2 hd
 subst hd
 replace hL1 := lxg_done hL1
 refine sat_wc (c_seq (c_region (o_v (v_move rfl) rfl (o_v (v_assign rfl) rfl (o_seq (c_ret ?_))))))
 cases hL1
 obtain rfl := lrf_ret hF
 refine s_ret1 rfl (r_tmp rfl) fun a w hs => fin_sel hs [1] ⟨sa3, sn3, sc3, rfl, rfl, rfl⟩ rfl sub_nil
theorem tri70 {k : Nat} {g_ : Gram} {sa1 : Option Addr} {sn1 sc1 : Nat} {r : List Bool × Int} (hF : F.facts.Nullable k g_ = some r) :
  Tri Try.prog 70 [.agg #[.int .i64 g_.Nts, .int .i64 g_.Start, .slice sa1 sn1 sc1]] [] [(.slice sa1 sn1 sc1, .slice 2 (g_.Rules.map eRule))] (fun o H Φ => ∃ (sa3 : Option Addr) (sn3 sc3 : Nat), o = .ret (.tuple #[.slice sa3 sn3 sc3, .int .i64 r.2]) /\ H = [.row (.slice sa3 sn3 sc3) 4 1 (r.1.map eB)] /\ Φ = []) := by
 unfold F.facts.Nullable at hF
 refine tri_intro (n := 12) Try.func70 rfl Try.ntmps70 rfl fun w X => c_seq (c_region (o_box rfl rfl rfl fun b => o_v (v_assign rfl) rfl (o_v (v_assign rfl) rfl (o_seq (c_seq (c_seq (c_region (o_v (vl 0 ty24 rfl rfl rfl) rfl ?_))))))))
 obtain ⟨v_, h1, hF⟩ := bd hF
 refine o_callSB call52 rfl (lent_f 0 rfl lent_nil) (tri52 h1 :) rfl (o_v (v_assign rfl) rfl (o_seq (c_seq (c_region (o_v (v_move rfl) rfl (o_v (v_bin rfl rfl rfl) rfl (o_seq ?_)))))))
 refine c_cond rfl (fun h2 => ?_) (fun h2 => ?_)
 replace hF := ite_t h2 hF
 refine c_seq (c_region (o_v (v_move rfl) rfl (o_v (v_assign rfl) rfl (o_v (v_assign rfl) rfl (o_seq (c_ret ?_))))))
 cases hF
 refine s_st (st_nilrow 4 1) (s_ret2 rfl (r_tmp rfl) (r_tmp rfl) fun a w hs => fin_sel hs [0] ⟨none, 0, 0, rfl, rfl, rfl⟩ rfl sub_nil)
 replace hF := ite_f h2 hF
 refine c_skip (sat_wc (c_seq (c_region (o_v (vl 0 ty24 rfl rfl rfl) rfl ?_))))
 obtain ⟨v_1, h3, hF⟩ := bd hF
 refine o_call0 call82 rfl (subs [0] rfl) (tri82_83 h3 :) rfl ?_
 rintro _ _ _ ⟨sa2, sn2, sc2, rfl, rfl, rfl⟩
 refine o_v (v_assign rfl) rfl (o_v (v_assign rfl) rfl (o_seq (c_ret ?_)))
 cases hF
 refine s_ret2 rfl (r_tmp rfl) (r_tmp rfl) fun a w hs => fin_sel hs [0] ⟨sa2, sn2, sc2, rfl, rfl, rfl⟩ rfl sub_nil
theorem tri71 {k : Nat} {g_ : Gram} {null : List Bool} {sa1 : Option Addr} {sn1 sc1 : Nat} {sa2 : Option Addr} {sn2 sc2 : Nat} {r : List (List Int)} (hF : F.facts.steps k g_ null = some r) :
  Tri Try.prog 71 [.agg #[.int .i64 g_.Nts, .int .i64 g_.Start, .slice sa1 sn1 sc1], .slice sa2 sn2 sc2] [] [(.slice sa1 sn1 sc1, .slice 2 (g_.Rules.map eRule)), (.slice sa2 sn2 sc2, .slice 1 (null.map eB))] (fun o H Φ => ∃ (sa14 : Option Addr) (sn14 sc14 : Nat), o = .ret (.slice sa14 sn14 sc14) /\ H = [] /\ Φ = [(.slice sa14 sn14 sc14, .slice 1 (r.map (eSl 1 eI64)))]) := by
 unfold F.facts.steps at hF
 refine tri_intro (n := 86) Try.func71 rfl Try.ntmps71 rfl fun w X => c_seq (c_region (o_box rfl rfl rfl fun b => o_v (v_assign rfl) rfl (o_seq (c_seq (c_region (o_v (fa 0 rfl) rfl (o_v (vl 0 ty3 rfl rfl rfl) rfl (ite_some hF fun h1 hF => ite_some hF fun h2 hF => ite_some hF fun h3 hF => o_makeDz (α := Int) eI64 3 1 sl87 zero59 rfl rfl h1 h2 h3 rfl fun sa3 sn3 sc3 => o_v (v_assign rfl) rfl (o_seq ?_)))))))))
 refine c_seq (c_seq (c_region (o_v (fa 2 rfl) rfl (o_v (vl 2 ty22 rfl rfl rfl) rfl (o_v (v_lenS (enc := eRule) g_.Rules sl22 rfl (.f 0 rfl)) rfl (o_v (v_move rfl) rfl (o_seq ?_)))))))
 obtain ⟨o1, ho1, hF⟩ := bd hF
 refine c_cut (fun E N' => ∀ (sa5 : Option Addr) (sn5 sc5 : Nat) (gh1 : Nat -> H3), Sat E [(0, .agg #[.int .i64 g_.Nts, .int .i64 g_.Start, .slice sa1 sn1 sc1]), (2, .pointer (some ⟨b, 0, none⟩)), (4, .slice none 0 0), (5, .slice sa5 sn5 sc5), (17, .slice sa1 sn1 sc1)] [.box b 24 [.int .i64 g_.Nts, .int .i64 g_.Start, .slice sa1 sn1 sc1], .row (.slice sa5 sn5 sc5) 59 1 (dcells o1 gh1), .fam (dfam 3 1 eI64 o1 gh1)] [(.slice sa1 sn1 sc1, .slice 2 (g_.Rules.map eRule))] N') (fun N1 hN1 => ?_) ?_
 refine c_block ?_
 refine cL (fun E H Φ j a w => ∃ (out : List (List Int)) (t19 : Int) (sa4 : Option Addr) (sn4 sc4 : Nat) (gh : Nat -> H3), F.facts.steps_l1 k g_ null j out t19 = some o1 /\ St E [(0, .agg #[.int .i64 g_.Nts, .int .i64 g_.Start, .slice sa1 sn1 sc1]), (1, .slice sa2 sn2 sc2), (2, .pointer (some ⟨b, 0, none⟩)), (4, .slice none 0 0), (5, .slice sa4 sn4 sc4), (17, .slice sa1 sn1 sc1), (18, .int .i64 (g_.Rules.length : Int)), (19, .int .i64 t19)] [.box b 24 [.int .i64 g_.Nts, .int .i64 g_.Start, .slice sa1 sn1 sc1], .row (.slice sa4 sn4 sc4) 59 1 (dcells out gh), .fam (dfam 3 1 eI64 out gh)] Φ a w) k ?_ ?_
 intro a w hs
 exact ⟨(List.replicate (Int.toNat g_.Nts) ([] : List Int)), 0, sa3, sn3, sc3, h0, ho1, st_le [2, 1, 0] (lea rfl) rfl (subs [0, 1] rfl) a w hs⟩
 rintro j a w ⟨out, t19, sa4, sn4, sc4, gh, hL1, hs⟩
 rcases j with _ | j
 cases hL1
 refine wc_app hs ?_
 unfold F.facts.steps_l1 at hL1
 refine c_seq (c_region (o_v (v_bin rfl rfl rfl) rfl (o_seq (c_seq ?_))))
 refine c_cond rfl (fun h4 => ?_) (fun h4 => ?_)
 replace hL1 := ite_t h4 hL1
 refine c_skip (sat_wc (c_seq (c_block (c_seq (c_region (ite_some hL1 fun h5 hL1 => o_v (v_indexAddr_s (xs := g_.Rules) (enc := eRule) sl22 rfl rfl (.f 0 rfl) h5) rfl (o_load_s (xs := g_.Rules) (enc := eRule) ty50 rfl (.f 0 rfl) h5 rfl rfl rfl rfl rfl rfl fun sa6 sn6 sc6 => o_alloc zero50 rfl rfl fun b1 => o_store_box 0 rfl ty50 rfl rfl rfl rfl rfl rfl rfl (o_seq (c_seq (c_region (o_v (v_assign rfl) rfl (o_seq ?_))))))))))))
 refine c_seq (c_seq (c_region (o_v (fa 1 rfl) rfl (o_v (vl 0 ty48 rfl rfl rfl) rfl (o_v (v_lenS (enc := eKSym) ((at_ g_.Rules t19).Rhs) sl48 rfl (.f 0 rfl)) rfl (o_v (v_move rfl) rfl (o_seq ?_)))))))
 obtain ⟨o2, ho2, hL1⟩ := bd hL1
 refine cT (fun E H Φ N' => Sat E [(0, .agg #[.int .i64 g_.Nts, .int .i64 g_.Start, .slice sa1 sn1 sc1]), (1, .slice sa2 sn2 sc2), (2, .pointer (some ⟨b, 0, none⟩)), (4, .slice none 0 0), (5, .slice sa4 sn4 sc4), (7, .pointer (some ⟨b1, 0, none⟩)), (8, .int .i64 o2.1), (17, .slice sa1 sn1 sc1), (18, .int .i64 (g_.Rules.length : Int)), (19, .int .i64 t19), (24, .slice sa6 sn6 sc6), (25, .int .i64 (((at_ g_.Rules t19).Rhs).length : Int)), (26, .int .i64 o2.2)] H [(.slice sa1 sn1 sc1, .slice 2 (g_.Rules.map eRule)), (.slice sa2 sn2 sc2, .slice 1 (null.map eB)), (.slice sa6 sn6 sc6, .slice 5 (((at_ g_.Rules t19).Rhs).map eKSym))] N') (fun N2 hN2 => ?_) ?_
 refine c_block ?_
 refine cL (fun E H Φ j a w => ∃ (bad : Int) (t26 : Int), F.facts.steps_l2 g_ t19 null j bad t26 = some o2 /\ St E [(0, .agg #[.int .i64 g_.Nts, .int .i64 g_.Start, .slice sa1 sn1 sc1]), (1, .slice sa2 sn2 sc2), (2, .pointer (some ⟨b, 0, none⟩)), (4, .slice none 0 0), (5, .slice sa4 sn4 sc4), (7, .pointer (some ⟨b1, 0, none⟩)), (8, .int .i64 bad), (17, .slice sa1 sn1 sc1), (18, .int .i64 (g_.Rules.length : Int)), (19, .int .i64 t19), (24, .slice sa6 sn6 sc6), (25, .int .i64 (((at_ g_.Rules t19).Rhs).length : Int)), (26, .int .i64 t26)] H [(.slice sa1 sn1 sc1, .slice 2 (g_.Rules.map eRule)), (.slice sa2 sn2 sc2, .slice 1 (null.map eB)), (.slice sa6 sn6 sc6, .slice 5 (((at_ g_.Rules t19).Rhs).map eKSym))] a w) k ?_ ?_
 intro a w hs
 exact ⟨0, 0, ho2, st_le [0, 0, 0, 0] (lea rfl) rfl (subs [1, 2, 0] rfl) a w hs⟩
 rintro j a w ⟨bad, t26, hL2, hs⟩
 rcases j with _ | j
 cases hL2
 refine wc_app hs ?_
 unfold F.facts.steps_l2 at hL2
 refine c_seq (c_region (o_v (v_bin rfl rfl rfl) rfl (o_seq (c_seq ?_))))
 refine c_cond rfl (fun h6 => ?_) (fun h6 => ?_)
 replace hL2 := ite_t h6 hL2
 refine c_skip (sat_wc (c_seq ?_))
 refine cT (fun E H Φ N' => ∀ (bad1 : Int) (b2 : Nat), F.facts.steps_j3 (F.facts.steps_l2 g_ t19 null j) t26 bad1 = some o2 -> Sat E [(0, .agg #[.int .i64 g_.Nts, .int .i64 g_.Start, .slice sa1 sn1 sc1]), (1, .slice sa2 sn2 sc2), (2, .pointer (some ⟨b, 0, none⟩)), (4, .slice none 0 0), (5, .slice sa4 sn4 sc4), (7, .pointer (some ⟨b1, 0, none⟩)), (8, .int .i64 bad1), (10, .pointer (some ⟨b2, 0, none⟩)), (17, .slice sa1 sn1 sc1), (18, .int .i64 (g_.Rules.length : Int)), (19, .int .i64 t19), (24, .slice sa6 sn6 sc6), (25, .int .i64 (((at_ g_.Rules t19).Rhs).length : Int)), (26, .int .i64 t26)] [.box b1 50 [.int .i64 ((at_ g_.Rules t19).Lhs), .slice sa6 sn6 sc6], .box b 24 [.int .i64 g_.Nts, .int .i64 g_.Start, .slice sa1 sn1 sc1], .box b2 47 [.int .i64 ((at_ ((at_ g_.Rules t19).Rhs) t26).Nt), .int .u64 ((at_ ((at_ g_.Rules t19).Rhs) t26).Set.w0), .int .u64 ((at_ ((at_ g_.Rules t19).Rhs) t26).Set.w1), .int .u64 ((at_ ((at_ g_.Rules t19).Rhs) t26).Set.w2), .int .u64 ((at_ ((at_ g_.Rules t19).Rhs) t26).Set.w3)], .row (.slice sa4 sn4 sc4) 59 1 (dcells out gh), .fam (dfam 3 1 eI64 out gh)] Φ N') (fun N3 hN3 => ?_) ?_
 refine c_block (c_seq (c_region (ite_some hL2 fun h7 hL2 => o_v (v_indexAddr_s (xs := (at_ g_.Rules t19).Rhs) (enc := eKSym) sl48 rfl rfl (.f 2 rfl) h7) rfl (o_v (v_load_s (xs := (at_ g_.Rules t19).Rhs) (enc := eKSym) ty47 rfl (.f 2 rfl) h7 rfl rfl rfl rfl rfl rfl rfl) rfl (o_alloc zero47 rfl rfl fun b3 => o_store_box 0 rfl ty47 rfl rfl rfl rfl rfl rfl rfl (o_seq (c_seq ?_)))))))
 refine cT (fun E H Φ N' => ∀ (t40 : Bool), F.facts.steps_j4 (F.facts.steps_l2 g_ t19 null j) t26 bad t40 = some o2 -> Sat E [(0, .agg #[.int .i64 g_.Nts, .int .i64 g_.Start, .slice sa1 sn1 sc1]), (1, .slice sa2 sn2 sc2), (2, .pointer (some ⟨b, 0, none⟩)), (4, .slice none 0 0), (5, .slice sa4 sn4 sc4), (7, .pointer (some ⟨b1, 0, none⟩)), (8, .int .i64 bad), (10, .pointer (some ⟨b3, 0, none⟩)), (17, .slice sa1 sn1 sc1), (18, .int .i64 (g_.Rules.length : Int)), (19, .int .i64 t19), (24, .slice sa6 sn6 sc6), (25, .int .i64 (((at_ g_.Rules t19).Rhs).length : Int)), (26, .int .i64 t26), (40, .bool t40)] H Φ N') (fun N5 hN5 => ?_) ?_
 refine c_region (o_v (fa 0 rfl) rfl (o_v (vl 0 ty3 rfl rfl rfl) rfl (o_v (v_bin rfl rfl rfl) rfl (o_v (v_move rfl) rfl ?_))))
 refine o_split (t := 33) rfl (fun h9 => ?_) (fun h9 => ?_)
 replace hL2 := ite_t h9 hL2
 refine o_off rfl rfl (by decide) rfl (o_off rfl rfl (by decide) rfl (o_off rfl rfl (by decide) rfl (o_off rfl rfl (by decide) rfl (o_off rfl rfl (by decide) rfl (o_off rfl rfl (by decide) rfl (o_v (v_pick_t rfl rfl) rfl (o_nil ?_)))))))
 refine s_st ?_ (hN5 true hL2)
 exact st_le [0, 0, 0, 0, 0] (lea rfl) rfl (subs [0, 1, 2] rfl)
 replace hL2 := ite_f h9 hL2
 refine o_on rfl rfl (o_v (v_move rfl) rfl (o_on rfl rfl (o_v (fa 0 rfl) rfl (o_on rfl rfl (o_v (vl 0 ty3 rfl rfl rfl) rfl (o_on rfl rfl (ite_some hL2 fun h10 hL2 => o_v (v_indexAddr_s (xs := null) (enc := eB) sl79 rfl rfl (.f 1 rfl) h10) rfl (o_on rfl rfl (o_v (v_load_s (xs := null) (enc := eB) ty4 rfl (.f 1 rfl) h10 rfl rfl rfl rfl rfl rfl rfl) rfl (o_on rfl rfl (o_v (v_not rfl) rfl (o_v (v_pick_f rfl rfl) rfl (o_nil ?_)))))))))))))
 refine s_st ?_ (hN5 (!(at_ null ((at_ ((at_ g_.Rules t19).Rhs) t26).Nt))) hL2)
 exact st_le [0, 0, 0, 0, 0] (lea rfl) rfl (subs [0, 1, 2] rfl)
 intro t40 hL2
 unfold F.facts.steps_j4 at hL2
 refine sat_wc ?_
 refine cT (fun E H Φ N' => ∀ (bad2 : Int), F.facts.steps_j5 (F.facts.steps_l2 g_ t19 null j) t26 bad2 = some o2 -> Sat E [(0, .agg #[.int .i64 g_.Nts, .int .i64 g_.Start, .slice sa1 sn1 sc1]), (1, .slice sa2 sn2 sc2), (2, .pointer (some ⟨b, 0, none⟩)), (4, .slice none 0 0), (5, .slice sa4 sn4 sc4), (7, .pointer (some ⟨b1, 0, none⟩)), (8, .int .i64 bad2), (10, .pointer (some ⟨b3, 0, none⟩)), (17, .slice sa1 sn1 sc1), (18, .int .i64 (g_.Rules.length : Int)), (19, .int .i64 t19), (24, .slice sa6 sn6 sc6), (25, .int .i64 (((at_ g_.Rules t19).Rhs).length : Int)), (26, .int .i64 t26)] H Φ N') (fun N5 hN5 => ?_) ?_
 refine c_cond rfl (fun h8 => ?_) (fun h8 => ?_)
 replace hL2 := ite_t h8 hL2
 refine c_region (o_v (v_move rfl) rfl (o_v (v_bin rfl rfl rfl) rfl (o_v (v_assign rfl) rfl (o_nil ?_))))
 refine s_st ?_ (hN5 (IntKind.wrap .i64 (bad + 1)) hL2)
 exact st_le [0, 0, 0, 0, 0] (lea rfl) rfl (subs [0, 1, 2] rfl)
 replace hL2 := ite_f h8 hL2
 refine c_skip ?_
 refine s_st ?_ (hN5 bad hL2)
 exact st_le [0, 0, 0, 0, 0] (lea rfl) rfl (subs [0, 1, 2] rfl)
 intro bad2 hL2
 unfold F.facts.steps_j5 at hL2
 refine s_st ?_ (hN3 bad2 b3 hL2)
 exact st_le [1, 1, 0, 0, 0] (lea rfl) rfl (subs [0, 1, 2] rfl)
 intro bad1 b2 hL2
 unfold F.facts.steps_j3 at hL2
 refine sat_wc (c_region (o_v (v_bin rfl rfl rfl) rfl (o_v (v_move rfl) rfl (o_nil ?_))))
 intro a w hs
 exact ⟨j, Nat.lt_succ_self j, bad1, IntKind.wrap .i64 (t26 + 1), hL2, st_le [0, 0, 1, 1] (lea rfl) rfl (subs [0, 1, 2] rfl) a w hs⟩
 replace hL2 := ite_f h6 hL2
 refine c_exit0 ?_
 cases hL2
 refine s_st ?_ (hN2)
 exact st_le [0, 0, 0, 0] (lea rfl) rfl (subs [0, 1, 2] rfl)
 refine sat_wc (c_seq (c_region (o_v (fa 1 rfl) rfl (o_v (vl 0 ty48 rfl rfl rfl) rfl (o_v (v_lenS (enc := eKSym) ((at_ g_.Rules t19).Rhs) sl48 rfl (.f 2 rfl)) rfl (o_v (v_move rfl) rfl (o_seq ?_)))))))
 obtain ⟨o6, ho6, hL1⟩ := bd hL1
 refine cT (fun E H Φ N' => ∀ (sa8 : Option Addr) (sn8 sc8 : Nat) (gh3 : Nat -> H3), Sat E [(0, .agg #[.int .i64 g_.Nts, .int .i64 g_.Start, .slice sa1 sn1 sc1]), (1, .slice sa2 sn2 sc2), (2, .pointer (some ⟨b, 0, none⟩)), (4, .slice none 0 0), (5, .slice sa8 sn8 sc8), (7, .pointer (some ⟨b1, 0, none⟩)), (8, .int .i64 o2.1), (17, .slice sa1 sn1 sc1), (18, .int .i64 (g_.Rules.length : Int)), (19, .int .i64 t19), (24, .slice sa6 sn6 sc6), (25, .int .i64 (((at_ g_.Rules t19).Rhs).length : Int)), (26, .int .i64 o2.2), (45, .slice sa6 sn6 sc6), (46, .int .i64 (((at_ g_.Rules t19).Rhs).length : Int)), (47, .int .i64 o6.2)] [.box b1 50 [.int .i64 ((at_ g_.Rules t19).Lhs), .slice sa6 sn6 sc6], .box b 24 [.int .i64 g_.Nts, .int .i64 g_.Start, .slice sa1 sn1 sc1], .row (.slice sa8 sn8 sc8) 59 1 (dcells o6.1 gh3), .fam (dfam 3 1 eI64 o6.1 gh3)] Φ N') (fun N6 hN6 => ?_) ?_
 refine c_block ?_
 refine cL (fun E H Φ j a w => ∃ (out1 : List (List Int)) (t47 : Int) (sa7 : Option Addr) (sn7 sc7 : Nat) (gh2 : Nat -> H3), F.facts.steps_l6 g_ t19 o2 null j out1 t47 = some o6 /\ St E [(0, .agg #[.int .i64 g_.Nts, .int .i64 g_.Start, .slice sa1 sn1 sc1]), (1, .slice sa2 sn2 sc2), (2, .pointer (some ⟨b, 0, none⟩)), (4, .slice none 0 0), (5, .slice sa7 sn7 sc7), (7, .pointer (some ⟨b1, 0, none⟩)), (8, .int .i64 o2.1), (17, .slice sa1 sn1 sc1), (18, .int .i64 (g_.Rules.length : Int)), (19, .int .i64 t19), (24, .slice sa6 sn6 sc6), (25, .int .i64 (((at_ g_.Rules t19).Rhs).length : Int)), (26, .int .i64 o2.2), (45, .slice sa6 sn6 sc6), (46, .int .i64 (((at_ g_.Rules t19).Rhs).length : Int)), (47, .int .i64 t47)] [.box b1 50 [.int .i64 ((at_ g_.Rules t19).Lhs), .slice sa6 sn6 sc6], .box b 24 [.int .i64 g_.Nts, .int .i64 g_.Start, .slice sa1 sn1 sc1], .row (.slice sa7 sn7 sc7) 59 1 (dcells out1 gh2), .fam (dfam 3 1 eI64 out1 gh2)] Φ a w) k ?_ ?_
 intro a w hs
 exact ⟨out, 0, sa4, sn4, sc4, gh, ho6, st_le [0, 0, 0, 0] (lea rfl) rfl (subs [0, 1, 2] rfl) a w hs⟩
 rintro j a w ⟨out1, t47, sa7, sn7, sc7, gh2, hL6, hs⟩
 rcases j with _ | j
 cases hL6
 refine wc_app hs ?_
 unfold F.facts.steps_l6 at hL6
 refine c_seq (c_region (o_v (v_bin rfl rfl rfl) rfl (o_seq (c_seq ?_))))
 refine c_cond rfl (fun h11 => ?_) (fun h11 => ?_)
 replace hL6 := ite_t h11 hL6
 refine c_skip (sat_wc (c_seq ?_))
 refine cT (fun E H Φ N' => ∀ (out2 : List (List Int)) (sa9 : Option Addr) (sn9 sc9 : Nat) (gh4 : Nat -> H3) (b4 : Nat), F.facts.steps_j7 (F.facts.steps_l6 g_ t19 o2 null j) t47 out2 = some o6 -> Sat E [(0, .agg #[.int .i64 g_.Nts, .int .i64 g_.Start, .slice sa1 sn1 sc1]), (1, .slice sa2 sn2 sc2), (2, .pointer (some ⟨b, 0, none⟩)), (4, .slice none 0 0), (5, .slice sa9 sn9 sc9), (7, .pointer (some ⟨b1, 0, none⟩)), (8, .int .i64 o2.1), (12, .pointer (some ⟨b4, 0, none⟩)), (17, .slice sa1 sn1 sc1), (18, .int .i64 (g_.Rules.length : Int)), (19, .int .i64 t19), (24, .slice sa6 sn6 sc6), (25, .int .i64 (((at_ g_.Rules t19).Rhs).length : Int)), (26, .int .i64 o2.2), (45, .slice sa6 sn6 sc6), (46, .int .i64 (((at_ g_.Rules t19).Rhs).length : Int)), (47, .int .i64 t47)] [.box b1 50 [.int .i64 ((at_ g_.Rules t19).Lhs), .slice sa6 sn6 sc6], .box b 24 [.int .i64 g_.Nts, .int .i64 g_.Start, .slice sa1 sn1 sc1], .box b4 47 [.int .i64 ((at_ ((at_ g_.Rules t19).Rhs) t47).Nt), .int .u64 ((at_ ((at_ g_.Rules t19).Rhs) t47).Set.w0), .int .u64 ((at_ ((at_ g_.Rules t19).Rhs) t47).Set.w1), .int .u64 ((at_ ((at_ g_.Rules t19).Rhs) t47).Set.w2), .int .u64 ((at_ ((at_ g_.Rules t19).Rhs) t47).Set.w3)], .row (.slice sa9 sn9 sc9) 59 1 (dcells out2 gh4), .fam (dfam 3 1 eI64 out2 gh4)] Φ N') (fun N7 hN7 => ?_) ?_
 refine c_block (c_seq (c_region (ite_some hL6 fun h12 hL6 => o_v (v_indexAddr_s (xs := (at_ g_.Rules t19).Rhs) (enc := eKSym) sl48 rfl rfl (.f 2 rfl) h12) rfl (o_v (v_load_s (xs := (at_ g_.Rules t19).Rhs) (enc := eKSym) ty47 rfl (.f 2 rfl) h12 rfl rfl rfl rfl rfl rfl rfl) rfl (o_alloc zero47 rfl rfl fun b5 => o_store_box 0 rfl ty47 rfl rfl rfl rfl rfl rfl rfl (o_seq (c_seq ?_)))))))
 refine cT (fun E H Φ N' => ∀ (t69 : Bool), F.facts.steps_j8 g_ t19 out1 t47 (F.facts.steps_l6 g_ t19 o2 null j) t69 = some o6 -> Sat E [(0, .agg #[.int .i64 g_.Nts, .int .i64 g_.Start, .slice sa1 sn1 sc1]), (1, .slice sa2 sn2 sc2), (2, .pointer (some ⟨b, 0, none⟩)), (4, .slice none 0 0), (5, .slice sa7 sn7 sc7), (7, .pointer (some ⟨b1, 0, none⟩)), (8, .int .i64 o2.1), (12, .pointer (some ⟨b5, 0, none⟩)), (17, .slice sa1 sn1 sc1), (18, .int .i64 (g_.Rules.length : Int)), (19, .int .i64 t19), (24, .slice sa6 sn6 sc6), (25, .int .i64 (((at_ g_.Rules t19).Rhs).length : Int)), (26, .int .i64 o2.2), (45, .slice sa6 sn6 sc6), (46, .int .i64 (((at_ g_.Rules t19).Rhs).length : Int)), (47, .int .i64 t47), (69, .bool t69)] H Φ N') (fun N10 hN10 => ?_) ?_
 refine c_region (o_v (fa 0 rfl) rfl (o_v (vl 0 ty3 rfl rfl rfl) rfl (o_v (v_bin rfl rfl rfl) rfl (o_v (v_move rfl) rfl ?_))))
 refine o_split (t := 54) rfl (fun h17 => ?_) (fun h17 => ?_)
 replace hL6 := ite_t h17 hL6
 refine o_on rfl rfl (o_v (v_move rfl) rfl (o_on rfl rfl (o_v (v_bin rfl rfl rfl) rfl (o_on rfl rfl (o_v (v_move rfl) rfl ?_)))))
 refine o_split (t := 57) rfl (fun h18 => ?_) (fun h18 => ?_)
 replace hL6 := ite_t h18 hL6
 refine o_off rfl rfl (by decide) rfl (o_off rfl rfl (by decide) rfl (o_off rfl rfl (by decide) rfl (o_offU rfl rfl rfl (o_offU rfl rfl rfl (o_offU rfl rfl rfl (o_offU rfl rfl rfl (o_offU rfl rfl rfl (o_offU rfl rfl rfl (o_off rfl rfl (by decide) rfl (o_on rfl rfl (o_v (v_pick_t rfl rfl) rfl (o_v (v_pick_t rfl rfl) rfl (o_nil ?_)))))))))))))
 refine s_st ?_ (hN10 true hL6)
 exact st_le [0, 0, 0, 0, 0] (lea rfl) rfl (subs [0, 1, 2] rfl)
 replace hL6 := ite_f h18 hL6
 refine o_on rfl rfl (o_v (v_move rfl) rfl (o_on rfl rfl (o_v (v_bin rfl rfl rfl) rfl (o_on rfl rfl (o_v (v_move rfl) rfl ?_)))))
 refine o_split (t := 60) rfl (fun h19 => ?_) (fun h19 => ?_)
 replace hL6 := ite_t h19 hL6
 refine o_on rfl rfl (o_v (v_move rfl) rfl (o_on rfl rfl (o_v (fa 0 rfl) rfl (o_on rfl rfl (o_v (vl 0 ty3 rfl rfl rfl) rfl (o_on rfl rfl (ite_some hL6 fun h20 hL6 => o_v (v_indexAddr_s (xs := null) (enc := eB) sl79 rfl rfl (.f 1 rfl) h20) rfl (o_on rfl rfl (o_v (v_load_s (xs := null) (enc := eB) ty4 rfl (.f 1 rfl) h20 rfl rfl rfl rfl rfl rfl rfl) rfl (o_on rfl rfl (o_v (v_not rfl) rfl (o_on rfl rfl (o_v (v_pick_t rfl rfl) rfl (o_on rfl rfl ?_))))))))))))))
 refine o_v (v_pick_f rfl rfl) rfl (o_v (v_pick_t rfl rfl) rfl (o_nil ?_))
 refine s_st ?_ (hN10 (!(at_ null ((at_ ((at_ g_.Rules t19).Rhs) t47).Nt))) hL6)
 exact st_le [0, 0, 0, 0, 0] (lea rfl) rfl (subs [0, 1, 2] rfl)
 replace hL6 := ite_f h19 hL6
 refine o_off rfl rfl (by decide) rfl (o_off rfl rfl (by decide) rfl (o_off rfl rfl (by decide) rfl (o_off rfl rfl (by decide) rfl (o_off rfl rfl (by decide) rfl (o_off rfl rfl (by decide) rfl (o_on rfl rfl (o_v (v_pick_f rfl rfl) rfl (o_on rfl rfl (o_v (v_pick_f rfl rfl) rfl (o_v (v_pick_t rfl rfl) rfl (o_nil ?_)))))))))))
 refine s_st ?_ (hN10 false hL6)
 exact st_le [0, 0, 0, 0, 0] (lea rfl) rfl (subs [0, 1, 2] rfl)
 replace hL6 := ite_f h17 hL6
 refine o_off rfl rfl (by decide) rfl (o_off rfl rfl (by decide) rfl (o_off rfl rfl (by decide) rfl (o_offU rfl rfl rfl (o_offU rfl rfl rfl (o_offU rfl rfl rfl (o_offU rfl rfl rfl (o_offU rfl rfl rfl (o_offU rfl rfl rfl (o_offU rfl rfl rfl (o_offU rfl rfl rfl (o_offU rfl rfl rfl (o_offU rfl rfl rfl (o_off rfl rfl (by decide) rfl (o_v (v_pick_f rfl rfl) rfl (o_nil ?_)))))))))))))))
 refine s_st ?_ (hN10 false hL6)
 exact st_le [0, 0, 0, 0, 0] (lea rfl) rfl (subs [0, 1, 2] rfl)
 intro t69 hL6
 unfold F.facts.steps_j8 at hL6
 refine sat_wc ?_
 refine cT (fun E H Φ N' => ∀ (out3 : List (List Int)) (sa10 : Option Addr) (sn10 sc10 : Nat) (gh5 : Nat -> H3), F.facts.steps_j9 (F.facts.steps_l6 g_ t19 o2 null j) t47 out3 = some o6 -> Sat E [(0, .agg #[.int .i64 g_.Nts, .int .i64 g_.Start, .slice sa1 sn1 sc1]), (1, .slice sa2 sn2 sc2), (2, .pointer (some ⟨b, 0, none⟩)), (4, .slice none 0 0), (5, .slice sa10 sn10 sc10), (7, .pointer (some ⟨b1, 0, none⟩)), (8, .int .i64 o2.1), (12, .pointer (some ⟨b5, 0, none⟩)), (17, .slice sa1 sn1 sc1), (18, .int .i64 (g_.Rules.length : Int)), (19, .int .i64 t19), (24, .slice sa6 sn6 sc6), (25, .int .i64 (((at_ g_.Rules t19).Rhs).length : Int)), (26, .int .i64 o2.2), (45, .slice sa6 sn6 sc6), (46, .int .i64 (((at_ g_.Rules t19).Rhs).length : Int)), (47, .int .i64 t47)] [.box b5 47 [.int .i64 ((at_ ((at_ g_.Rules t19).Rhs) t47).Nt), .int .u64 ((at_ ((at_ g_.Rules t19).Rhs) t47).Set.w0), .int .u64 ((at_ ((at_ g_.Rules t19).Rhs) t47).Set.w1), .int .u64 ((at_ ((at_ g_.Rules t19).Rhs) t47).Set.w2), .int .u64 ((at_ ((at_ g_.Rules t19).Rhs) t47).Set.w3)], .box b1 50 [.int .i64 ((at_ g_.Rules t19).Lhs), .slice sa6 sn6 sc6], .box b 24 [.int .i64 g_.Nts, .int .i64 g_.Start, .slice sa1 sn1 sc1], .row (.slice sa10 sn10 sc10) 59 1 (dcells out3 gh5), .fam (dfam 3 1 eI64 out3 gh5)] Φ N') (fun N9 hN9 => ?_) ?_
 refine c_cond rfl (fun h13 => ?_) (fun h13 => ?_)
 replace hL6 := ite_t h13 hL6
 refine cT (fun E H Φ N' => ∀ (out4 : List (List Int)) (sa11 : Option Addr) (sn11 sc11 : Nat) (gh6 : Nat -> H3), F.facts.steps_j10 (F.facts.steps_l6 g_ t19 o2 null j) t47 out4 = some o6 -> Sat E [(0, .agg #[.int .i64 g_.Nts, .int .i64 g_.Start, .slice sa1 sn1 sc1]), (1, .slice sa2 sn2 sc2), (2, .pointer (some ⟨b, 0, none⟩)), (4, .slice none 0 0), (5, .slice sa11 sn11 sc11), (7, .pointer (some ⟨b1, 0, none⟩)), (8, .int .i64 o2.1), (12, .pointer (some ⟨b5, 0, none⟩)), (17, .slice sa1 sn1 sc1), (18, .int .i64 (g_.Rules.length : Int)), (19, .int .i64 t19), (24, .slice sa6 sn6 sc6), (25, .int .i64 (((at_ g_.Rules t19).Rhs).length : Int)), (26, .int .i64 o2.2), (45, .slice sa6 sn6 sc6), (46, .int .i64 (((at_ g_.Rules t19).Rhs).length : Int)), (47, .int .i64 t47)] [.box b5 47 [.int .i64 ((at_ ((at_ g_.Rules t19).Rhs) t47).Nt), .int .u64 ((at_ ((at_ g_.Rules t19).Rhs) t47).Set.w0), .int .u64 ((at_ ((at_ g_.Rules t19).Rhs) t47).Set.w1), .int .u64 ((at_ ((at_ g_.Rules t19).Rhs) t47).Set.w2), .int .u64 ((at_ ((at_ g_.Rules t19).Rhs) t47).Set.w3)], .box b1 50 [.int .i64 ((at_ g_.Rules t19).Lhs), .slice sa6 sn6 sc6], .box b 24 [.int .i64 g_.Nts, .int .i64 g_.Start, .slice sa1 sn1 sc1], .row (.slice sa11 sn11 sc11) 59 1 (dcells out4 gh6), .fam (dfam 3 1 eI64 out4 gh6)] Φ N') (fun N10 hN10 => ?_) ?_
 refine c_draw (n := 14) [0, 0, 0] mixed rfl rfl (dv 0 rfl (v_move rfl) (dv 1 rfl (fa 0 rfl) (dv 2 rfl (vl 1 ty3 rfl rfl rfl) (dv 3 rfl (v_move rfl) (dv 4 rfl (fa 0 rfl) (dv 5 rfl (vl 1 ty3 rfl rfl rfl) (dv 8 rfl (fa 0 rfl) (dv 9 rfl (vl 0 ty3 rfl rfl rfl) (ite_some hL6 fun h14 hL6 => ite_some hL6 fun h15 hL6 => ite_some hL6 fun h16 hL6 => ?_)))))))))
 refine d_all [6, 10] (by kernel_rfl) (by simp) ⟨⟨_, rfl, ?_⟩, ⟨_, rfl, ?_⟩, trivial⟩
 refine o_v (v_indexAddr_d (le := out1) (hs := gh2) 3 sl87 rfl rfl rfl h14) rfl (d_next [0, 0, 0] 0 rfl rfl ?_)
 refine d_all [7, 10] (by kernel_rfl) (by simp) ⟨⟨_, rfl, ?_⟩, ⟨_, rfl, ?_⟩, trivial⟩
 refine o_v (v_load_d (le := out1) (hs := gh2) 3 ty59 rfl rfl h14) rfl (d_next [0, 0, 0] 0 rfl rfl (d_one 10 rfl (by kernel_rfl) (o_buildSlice (enc := eI64) ([(at_ ((at_ g_.Rules t19).Rhs) t47).Nt] : List Int) [.int .i64 ((at_ ((at_ g_.Rules t19).Rhs) t47).Nt)] sl59 rfl (fun _ => by kernel_rfl) rfl rfl rfl (.s rfl (.nil)) rfl fun sa12 sn12 sc12 => d_next [1, 1, 1] 0 rfl rfl (d_one 11 rfl (by kernel_rfl) (o_appendF (enc := eI64) (le := out1) (ys := ([(at_ ((at_ g_.Rules t19).Rhs) t47).Nt] : List Int)) (hs := gh2) 5 sl59 rfl rfl rfl h14 0 rfl h15 h16 rfl fun sa13 sn13 sc13 => d_next [1, 1, 1] 0 rfl rfl (d_one 12 rfl (by kernel_rfl) (o_v (v_indexAddr_d (le := out1) (hs := gh2) 4 sl87 rfl rfl rfl h14) rfl (d_next [1, 1, 1] 0 rfl rfl (d_one 13 rfl (by kernel_rfl) (o_store_d (le := out1) (hs := gh2) (set_ out1 ((at_ g_.Rules t19).Lhs) ((at_ out1 ((at_ g_.Rules t19).Lhs)) ++ ([(at_ ((at_ g_.Rules t19).Rhs) t47).Nt] : List Int))) 4 (set_len _ _ _) rfl ty59 rfl rfl rfl h14 (d_next [1, 1, 1] 0 rfl rfl (d_done (by kernel_rfl) ?_))))))))))))
 refine s_st ?_ (hN10 (set_ out1 ((at_ g_.Rules t19).Lhs) ((at_ out1 ((at_ g_.Rules t19).Lhs)) ++ ([(at_ ((at_ g_.Rules t19).Rhs) t47).Nt] : List Int))) sa7 sn7 sc7 (upd gh2 ((at_ g_.Rules t19).Lhs) (sa13, sn13, sc13)) hL6)
 exact st_le [1, 1, 1, 1, 1] (lea rfl) rfl (subs [0, 1, 2] rfl)
 refine o_buildSlice (enc := eI64) ([(at_ ((at_ g_.Rules t19).Rhs) t47).Nt] : List Int) [.int .i64 ((at_ ((at_ g_.Rules t19).Rhs) t47).Nt)] sl59 rfl (fun _ => by kernel_rfl) rfl rfl rfl (.s rfl (.nil)) rfl fun sa12 sn12 sc12 => d_next [1, 1, 1] 0 rfl rfl (d_one 7 rfl (by kernel_rfl) (o_v (v_load_d (le := out1) (hs := gh2) 4 ty59 rfl rfl h14) rfl (d_next [1, 1, 1] 0 rfl rfl (d_one 11 rfl (by kernel_rfl) (o_appendF (enc := eI64) (le := out1) (ys := ([(at_ ((at_ g_.Rules t19).Rhs) t47).Nt] : List Int)) (hs := gh2) 5 sl59 rfl rfl rfl h14 0 rfl h15 h16 rfl fun sa13 sn13 sc13 => d_next [1, 1, 1] 0 rfl rfl (d_one 12 rfl (by kernel_rfl) (o_v (v_indexAddr_d (le := out1) (hs := gh2) 4 sl87 rfl rfl rfl h14) rfl (d_next [1, 1, 1] 0 rfl rfl (d_one 13 rfl (by kernel_rfl) (o_store_d (le := out1) (hs := gh2) (set_ out1 ((at_ g_.Rules t19).Lhs) ((at_ out1 ((at_ g_.Rules t19).Lhs)) ++ ([(at_ ((at_ g_.Rules t19).Rhs) t47).Nt] : List Int))) 4 (set_len _ _ _) rfl ty59 rfl rfl rfl h14 (d_next [1, 1, 1] 0 rfl rfl (d_done (by kernel_rfl) ?_))))))))))))
 refine s_st ?_ (hN10 (set_ out1 ((at_ g_.Rules t19).Lhs) ((at_ out1 ((at_ g_.Rules t19).Lhs)) ++ ([(at_ ((at_ g_.Rules t19).Rhs) t47).Nt] : List Int))) sa7 sn7 sc7 (upd gh2 ((at_ g_.Rules t19).Lhs) (sa13, sn13, sc13)) hL6)
 exact st_le [1, 1, 1, 1, 1] (lea rfl) rfl (subs [0, 1, 2] rfl)
 refine o_buildSlice (enc := eI64) ([(at_ ((at_ g_.Rules t19).Rhs) t47).Nt] : List Int) [.int .i64 ((at_ ((at_ g_.Rules t19).Rhs) t47).Nt)] sl59 rfl (fun _ => by kernel_rfl) rfl rfl rfl (.s rfl (.nil)) rfl fun sa12 sn12 sc12 => d_next [1, 1, 1] 0 rfl rfl (d_one 6 rfl (by kernel_rfl) (o_v (v_indexAddr_d (le := out1) (hs := gh2) 4 sl87 rfl rfl rfl h14) rfl (d_next [1, 1, 1] 0 rfl rfl (d_one 7 rfl (by kernel_rfl) (o_v (v_load_d (le := out1) (hs := gh2) 4 ty59 rfl rfl h14) rfl (d_next [1, 1, 1] 0 rfl rfl (d_one 11 rfl (by kernel_rfl) (o_appendF (enc := eI64) (le := out1) (ys := ([(at_ ((at_ g_.Rules t19).Rhs) t47).Nt] : List Int)) (hs := gh2) 5 sl59 rfl rfl rfl h14 0 rfl h15 h16 rfl fun sa13 sn13 sc13 => d_next [1, 1, 1] 0 rfl rfl (d_one 12 rfl (by kernel_rfl) (o_v (v_indexAddr_d (le := out1) (hs := gh2) 4 sl87 rfl rfl rfl h14) rfl (d_next [1, 1, 1] 0 rfl rfl (d_one 13 rfl (by kernel_rfl) (o_store_d (le := out1) (hs := gh2) (set_ out1 ((at_ g_.Rules t19).Lhs) ((at_ out1 ((at_ g_.Rules t19).Lhs)) ++ ([(at_ ((at_ g_.Rules t19).Rhs) t47).Nt] : List Int))) 4 (set_len _ _ _) rfl ty59 rfl rfl rfl h14 ?_)))))))))))))
 refine d_next [1, 1, 1] 0 rfl rfl (d_done (by kernel_rfl) ?_)
 refine s_st ?_ (hN10 (set_ out1 ((at_ g_.Rules t19).Lhs) ((at_ out1 ((at_ g_.Rules t19).Lhs)) ++ ([(at_ ((at_ g_.Rules t19).Rhs) t47).Nt] : List Int))) sa7 sn7 sc7 (upd gh2 ((at_ g_.Rules t19).Lhs) (sa13, sn13, sc13)) hL6)
 exact st_le [1, 1, 1, 1, 1] (lea rfl) rfl (subs [0, 1, 2] rfl)
 intro out4 sa11 sn11 sc11 gh6 hL6
 unfold F.facts.steps_j10 at hL6
 refine s_st ?_ (hN9 out4 sa11 sn11 sc11 gh6 hL6)
 exact st_le [0, 0, 0, 0, 0] (lea rfl) rfl (subs [0, 1, 2] rfl)
 replace hL6 := ite_f h13 hL6
 refine c_skip ?_
 refine s_st ?_ (hN9 out1 sa7 sn7 sc7 gh2 hL6)
 exact st_le [0, 0, 0, 0, 0] (lea rfl) rfl (subs [0, 1, 2] rfl)
 intro out3 sa10 sn10 sc10 gh5 hL6
 unfold F.facts.steps_j9 at hL6
 refine s_st ?_ (hN7 out3 sa10 sn10 sc10 gh5 b5 hL6)
 exact st_le [1, 1, 0, 0, 0] (lea rfl) rfl (subs [0, 1, 2] rfl)
 intro out2 sa9 sn9 sc9 gh4 b4 hL6
 unfold F.facts.steps_j7 at hL6
 refine sat_wc (c_region (o_v (v_bin rfl rfl rfl) rfl (o_v (v_move rfl) rfl (o_nil ?_))))
 intro a w hs
 exact ⟨j, Nat.lt_succ_self j, out2, IntKind.wrap .i64 (t47 + 1), sa9, sn9, sc9, gh4, hL6, st_le [0, 0, 1, 1] (lea rfl) rfl (subs [0, 1, 2] rfl) a w hs⟩
 replace hL6 := ite_f h11 hL6
 refine c_exit0 ?_
 cases hL6
 refine s_st ?_ (hN6 sa7 sn7 sc7 gh2)
 exact st_le [0, 0, 0, 0] (lea rfl) rfl (subs [0, 1, 2] rfl)
 intro sa8 sn8 sc8 gh3
 refine sat_wc (c_region (o_v (v_bin rfl rfl rfl) rfl (o_v (v_move rfl) rfl (o_nil ?_))))
 intro a w hs
 exact ⟨j, Nat.lt_succ_self j, o6.1, IntKind.wrap .i64 (t19 + 1), sa8, sn8, sc8, gh3, hL1, st_le [1, 1, 1] (lea rfl) rfl (subs [0, 1] rfl) a w hs⟩
 replace hL1 := ite_f h4 hL1
 refine c_exit0 ?_
 cases hL1
 refine s_st ?_ (hN1 sa4 sn4 sc4 gh)
 exact st_le [0, 0, 0] (lea rfl) rfl (subs [0] rfl)
 intro sa5 sn5 sc5 gh1
 refine sat_wc (c_seq (c_region (o_v (v_move rfl) rfl (o_v (v_assign rfl) rfl (o_seq (c_ret ?_))))))
 cases hF
 refine s_st (st_freezeD 2 1 rfl rfl) (s_ret1 rfl (r_tmp rfl) fun a w hs => fin_sel hs [] ⟨sa5, sn5, sc5, rfl, rfl, rfl⟩ rfl (subs [0] rfl))
theorem tri72_B (k : Nat) (g72 : Int -> List Int -> List (List Int) -> Option (Bool × List Int))
  (hg72 : ∀ {n : Int} {free : List Int} {free1 : List (List Int)} {b : Nat} {b1 : Nat} {b2 : Nat} {sa1 : Option Addr} {sn1 sc1 : Nat} {sa2 : Option Addr} {sn2 sc2 : Nat} {r : Bool × List Int}, g72 n free free1 = some r -> Tri Try.prog 72 [.int .i64 n, .pointer (some ⟨b, 0, none⟩), .pointer (some ⟨b1, 0, none⟩), .pointer (some ⟨b2, 0, none⟩)] [.box b 59 [.slice sa1 sn1 sc1], .row (.slice sa1 sn1 sc1) 3 1 (free.map eI64), .box b1 87 [.slice sa2 sn2 sc2], .box b2 143 [.func (.func 72) #[] #[.pointer (some ⟨b, 0, none⟩), .pointer (some ⟨b1, 0, none⟩), .pointer (some ⟨b2, 0, none⟩)]]] [(.slice sa2 sn2 sc2, .slice 1 (free1.map (eSl 1 eI64)))] (fun o H Φ => ∃ (sa8 : Option Addr) (sn8 sc8 : Nat), o = .ret (.bool r.1) /\ H = [.box b 59 [.slice sa8 sn8 sc8], .row (.slice sa8 sn8 sc8) 3 1 (r.2.map eI64), .box b1 87 [.slice sa2 sn2 sc2], .box b2 143 [.func (.func 72) #[] #[.pointer (some ⟨b, 0, none⟩), .pointer (some ⟨b1, 0, none⟩), .pointer (some ⟨b2, 0, none⟩)]]] /\ Φ = [])) {n : Int} {free : List Int} {free1 : List (List Int)} {b : Nat} {b1 : Nat} {b2 : Nat} {sa1 : Option Addr} {sn1 sc1 : Nat} {sa2 : Option Addr} {sn2 sc2 : Nat} {r : Bool × List Int} (hF : F.facts.Cyclic_c1_B k g72 n free free1 = some r) :
  Tri Try.prog 72 [.int .i64 n, .pointer (some ⟨b, 0, none⟩), .pointer (some ⟨b1, 0, none⟩), .pointer (some ⟨b2, 0, none⟩)] [.box b 59 [.slice sa1 sn1 sc1], .row (.slice sa1 sn1 sc1) 3 1 (free.map eI64), .box b1 87 [.slice sa2 sn2 sc2], .box b2 143 [.func (.func 72) #[] #[.pointer (some ⟨b, 0, none⟩), .pointer (some ⟨b1, 0, none⟩), .pointer (some ⟨b2, 0, none⟩)]]] [(.slice sa2 sn2 sc2, .slice 1 (free1.map (eSl 1 eI64)))] (fun o H Φ => ∃ (sa8 : Option Addr) (sn8 sc8 : Nat), o = .ret (.bool r.1) /\ H = [.box b 59 [.slice sa8 sn8 sc8], .row (.slice sa8 sn8 sc8) 3 1 (r.2.map eI64), .box b1 87 [.slice sa2 sn2 sc2], .box b2 143 [.func (.func 72) #[] #[.pointer (some ⟨b, 0, none⟩), .pointer (some ⟨b1, 0, none⟩), .pointer (some ⟨b2, 0, none⟩)]]] /\ Φ = []) := by
 unfold F.facts.Cyclic_c1_B at hF
 refine tri_intro (n := 41) Try.func72 rfl Try.ntmps72 rfl fun w X => c_seq (c_region (o_v (v_assign rfl) rfl (o_seq (c_seq (c_region (o_v (vl 0 ty59 rfl rfl rfl) rfl (o_v (v_move rfl) rfl (ite_some hF fun h1 hF => o_v (v_indexAddr_s (xs := free) (enc := eI64) sl59 rfl rfl (.r 1 _ rfl) h1) rfl (o_store_s (xs := free) (enc := eI64) 1 1 rfl ty3 rfl rfl rfl rfl h1 (.s rfl (.nil)) rfl rfl rfl (o_seq (c_seq (c_seq (c_region ?_)))))))))))))
 refine o_v (vl 2 ty87 rfl rfl rfl) rfl (o_v (v_move rfl) rfl (ite_some hF fun h2 hF => o_v (v_indexAddr_s (xs := free1) (enc := (eSl 1 eI64)) sl87 rfl rfl (.f 0 rfl) h2) rfl (o_load_s (xs := free1) (enc := (eSl 1 eI64)) ty59 rfl (.f 0 rfl) h2 rfl rfl rfl rfl rfl rfl fun sa3 sn3 sc3 => o_v (v_lenS (enc := eI64) (at_ free1 n) sl59 rfl (.f 0 rfl)) rfl (o_v (v_move rfl) rfl (o_seq ?_)))))
 obtain ⟨o1, ho1, hF⟩ := bd hF
 refine cT (fun E H Φ N' => ∀ (d1 : (List Int)) (sa5 : Option Addr) (sn5 sc5 : Nat), o1 = .done d1 -> Sat E [(0, .int .i64 n), (1, .pointer (some ⟨b, 0, none⟩)), (2, .pointer (some ⟨b1, 0, none⟩)), (5, .bool false), (14, .slice sa3 sn3 sc3)] [.box b 59 [.slice sa5 sn5 sc5], .box b1 87 [.slice sa2 sn2 sc2], .box b2 143 [.func (.func 72) #[] #[.pointer (some ⟨b, 0, none⟩), .pointer (some ⟨b1, 0, none⟩), .pointer (some ⟨b2, 0, none⟩)]], .row (.slice sa5 sn5 sc5) 3 1 (d1.map eI64)] Φ N') (fun N1 hN1 => ?_) ?_
 refine c_block ?_
 refine cL (fun E H Φ j a w => ∃ (t16 : Int) (v_ : List Int) (sa4 : Option Addr) (sn4 sc4 : Nat), F.facts.Cyclic_c1_l1 free1 n g72 j t16 v_ = some o1 /\ St E [(0, .int .i64 n), (1, .pointer (some ⟨b, 0, none⟩)), (2, .pointer (some ⟨b1, 0, none⟩)), (3, .pointer (some ⟨b2, 0, none⟩)), (5, .bool false), (14, .slice sa3 sn3 sc3), (15, .int .i64 ((at_ free1 n).length : Int)), (16, .int .i64 t16)] [.box b 59 [.slice sa4 sn4 sc4], .box b1 87 [.slice sa2 sn2 sc2], .box b2 143 [.func (.func 72) #[] #[.pointer (some ⟨b, 0, none⟩), .pointer (some ⟨b1, 0, none⟩), .pointer (some ⟨b2, 0, none⟩)]], .row (.slice sa4 sn4 sc4) 3 1 (v_.map eI64)] Φ a w) k ?_ ?_
 intro a w hs
 exact ⟨0, set_ free n 1, sa1, sn1, sc1, ho1, st_le [0, 1, 1, 0] (lea rfl) rfl (subs [0, 1] rfl) a w hs⟩
 rintro j a w ⟨t16, v_, sa4, sn4, sc4, hL1, hs⟩
 rcases j with _ | j
 cases hL1
 refine wc_app hs ?_
 unfold F.facts.Cyclic_c1_l1 at hL1
 refine c_seq (c_region (o_v (v_bin rfl rfl rfl) rfl (o_seq (c_seq ?_))))
 refine c_cond rfl (fun h3 => ?_) (fun h3 => ?_)
 replace hL1 := ite_t h3 hL1
 refine c_skip (sat_wc (c_seq ?_))
 refine cT (fun E H Φ N' => ∀ (v_1 : List Int) (sa6 : Option Addr) (sn6 sc6 : Nat), F.facts.Cyclic_c1_j2 (F.facts.Cyclic_c1_l1 free1 n g72 j) t16 v_1 = some o1 -> Sat E [(0, .int .i64 n), (1, .pointer (some ⟨b, 0, none⟩)), (2, .pointer (some ⟨b1, 0, none⟩)), (3, .pointer (some ⟨b2, 0, none⟩)), (5, .bool false), (7, .int .i64 (at_ (at_ free1 n) t16)), (14, .slice sa3 sn3 sc3), (15, .int .i64 ((at_ free1 n).length : Int)), (16, .int .i64 t16)] [.box b 59 [.slice sa6 sn6 sc6], .box b1 87 [.slice sa2 sn2 sc2], .box b2 143 [.func (.func 72) #[] #[.pointer (some ⟨b, 0, none⟩), .pointer (some ⟨b1, 0, none⟩), .pointer (some ⟨b2, 0, none⟩)]], .row (.slice sa6 sn6 sc6) 3 1 (v_1.map eI64)] Φ N') (fun N2 hN2 => ?_) ?_
 refine c_block (c_seq (c_region (ite_some hL1 fun h4 hL1 => o_v (v_indexAddr_s (xs := at_ free1 n) (enc := eI64) sl59 rfl rfl (.f 0 rfl) h4) rfl (o_v (v_load_s (xs := at_ free1 n) (enc := eI64) ty3 rfl (.f 0 rfl) h4 rfl rfl rfl rfl rfl rfl rfl) rfl (o_v (v_assign rfl) rfl (o_seq (c_seq (c_region (o_v (vl 0 ty59 rfl rfl rfl) rfl (o_v (v_move rfl) rfl (ite_some hL1 fun h5 hL1 => o_v (v_indexAddr_s (xs := v_) (enc := eI64) sl59 rfl rfl (.r 3 _ rfl) h5) rfl (o_v (v_load_s (xs := v_) (enc := eI64) ty3 rfl (.r 3 _ rfl) h5 rfl rfl rfl rfl rfl rfl rfl) rfl (o_v (v_bin rfl rfl rfl) rfl ?_)))))))))))))
 refine o_v (v_move rfl) rfl ?_
 refine o_split (t := 25) rfl (fun h6 => ?_) (fun h6 => ?_)
 replace hL1 := ite_t h6 hL1
 refine o_off rfl rfl (by decide) rfl (o_off rfl rfl (by decide) rfl (o_off rfl rfl (by decide) rfl (o_off rfl rfl (by decide) rfl (o_off rfl rfl (by decide) rfl (o_off rfl rfl (by decide) rfl (o_offU rfl rfl rfl (o_offU rfl rfl rfl (o_offU rfl rfl rfl (o_off rfl rfl (by decide) rfl (o_v (v_pick_t rfl rfl) rfl (o_seq ?_)))))))))))
 refine c_cond rfl (fun _ => ?_) (fun h => Bool.noConfusion h)
 refine c_seq (c_region (o_v (v_assign rfl) rfl (o_seq (c_ret ?_))))
 cases hL1
 obtain rfl := lrf_ret hF
 refine s_ret1 rfl (r_tmp rfl) fun a w hs => fin_sel hs [0, 2, 0, 0] ⟨sa4, sn4, sc4, rfl, rfl, rfl⟩ rfl sub_nil
 replace hL1 := ite_f h6 hL1
 refine o_on rfl rfl (o_v (vl 0 ty59 rfl rfl rfl) rfl (o_on rfl rfl (o_v (v_move rfl) rfl (o_on rfl rfl (o_v (v_indexAddr_s (xs := v_) (enc := eI64) sl59 rfl rfl (.r 3 _ rfl) h5) rfl (o_on rfl rfl (o_v (v_load_s (xs := v_) (enc := eI64) ty3 rfl (.r 3 _ rfl) h5 rfl rfl rfl rfl rfl rfl rfl) rfl (o_on rfl rfl (o_v (v_bin rfl rfl rfl) rfl (o_on rfl rfl (o_v (v_move rfl) rfl ?_)))))))))))
 refine o_split (t := 31) rfl (fun h7 => ?_) (fun h7 => ?_)
 replace hL1 := ite_t h7 hL1
 refine o_on rfl rfl (o_v (vl 2 ty143 rfl rfl rfl) rfl (o_on rfl rfl (o_v (v_move rfl) rfl (o_on rfl rfl ?_))))
 obtain ⟨v_2, h8, hL1⟩ := bd hL1
 refine o_call [0, 2, 0, 0] call72 (cap := #[.pointer (some ⟨b, 0, none⟩), .pointer (some ⟨b1, 0, none⟩), .pointer (some ⟨b2, 0, none⟩)]) rfl rfl rfl (subs [1] rfl) (by exact (hg72 h8 :)) rfl ?_
 rintro _ _ _ ⟨sa7, sn7, sc7, rfl, rfl, rfl⟩
 refine o_on rfl rfl (o_v (v_pick_t rfl rfl) rfl (o_v (v_pick_f rfl rfl) rfl (o_seq ?_)))
 refine c_cond rfl (fun h9 => ?_) (fun h9 => ?_)
 replace hL1 := ite_t h9 hL1
 refine c_seq (c_region (o_v (v_assign rfl) rfl (o_seq (c_ret ?_))))
 cases hL1
 obtain rfl := lrf_ret hF
 refine s_ret1 rfl (r_tmp rfl) fun a w hs => fin_sel hs [0, 0, 0, 0] ⟨sa7, sn7, sc7, rfl, rfl, rfl⟩ rfl sub_nil
 replace hL1 := ite_f h9 hL1
 refine c_skip ?_
 refine s_st ?_ (hN2 v_2.2 sa7 sn7 sc7 hL1)
 exact st_le [0, 1, 1, 0] (lea rfl) rfl (subs [0, 1] rfl)
 replace hL1 := ite_f h7 hL1
 refine o_off rfl rfl (by decide) rfl (o_off rfl rfl (by decide) rfl (o_off rfl rfl (by decide) rfl (o_on rfl rfl (o_v (v_pick_f rfl rfl) rfl (o_v (v_pick_f rfl rfl) rfl (o_seq ?_))))))
 refine c_cond rfl (fun h => Bool.noConfusion h) (fun _ => ?_)
 refine c_skip ?_
 refine s_st ?_ (hN2 v_ sa4 sn4 sc4 hL1)
 exact st_le [0, 0, 0, 0] (lea rfl) rfl (subs [0, 1] rfl)
 intro v_1 sa6 sn6 sc6 hL1
 unfold F.facts.Cyclic_c1_j2 at hL1
 refine sat_wc (c_region (o_v (v_bin rfl rfl rfl) rfl (o_v (v_move rfl) rfl (o_nil ?_))))
 intro a w hs
 exact ⟨j, Nat.lt_succ_self j, IntKind.wrap .i64 (t16 + 1), v_1, sa6, sn6, sc6, hL1, st_le [0, 0, 0, 0] (lea rfl) rfl (subs [0, 1] rfl) a w hs⟩
 replace hL1 := ite_f h3 hL1
 refine c_exit0 ?_
 cases hL1
 refine s_st ?_ (hN1 v_ sa4 sn4 sc4 rfl)
 exact st_le [0, 0, 0, 0] (lea rfl) rfl (subs [0, 1] rfl)
 intro d1 sa5 sn5 sc5 hd
 subst hd
 replace hF := lrf_done hF
 refine sat_wc (c_seq (c_region (o_v (vl 0 ty59 rfl rfl rfl) rfl (o_v (v_move rfl) rfl (ite_some hF fun h10 hF => o_v (v_indexAddr_s (xs := d1) (enc := eI64) sl59 rfl rfl (.r 3 _ rfl) h10) rfl (o_store_s (xs := d1) (enc := eI64) 3 2 rfl ty3 rfl rfl rfl rfl h10 (.s rfl (.nil)) rfl rfl rfl (o_seq (c_seq (c_region (o_v (v_assign rfl) rfl (o_seq (c_ret ?_))))))))))))
 cases hF
 refine s_ret1 rfl (r_tmp rfl) fun a w hs => fin_sel hs [0, 2, 0, 0] ⟨sa5, sn5, sc5, rfl, rfl, rfl⟩ rfl sub_nil
theorem tri72 (k : Nat) : (∀ {n : Int} {free : List Int} {free1 : List (List Int)} {b : Nat} {b1 : Nat} {b2 : Nat} {sa1 : Option Addr} {sn1 sc1 : Nat} {sa2 : Option Addr} {sn2 sc2 : Nat} {r : Bool × List Int}, F.facts.Cyclic_c1 k n free free1 = some r -> Tri Try.prog 72 [.int .i64 n, .pointer (some ⟨b, 0, none⟩), .pointer (some ⟨b1, 0, none⟩), .pointer (some ⟨b2, 0, none⟩)] [.box b 59 [.slice sa1 sn1 sc1], .row (.slice sa1 sn1 sc1) 3 1 (free.map eI64), .box b1 87 [.slice sa2 sn2 sc2], .box b2 143 [.func (.func 72) #[] #[.pointer (some ⟨b, 0, none⟩), .pointer (some ⟨b1, 0, none⟩), .pointer (some ⟨b2, 0, none⟩)]]] [(.slice sa2 sn2 sc2, .slice 1 (free1.map (eSl 1 eI64)))] (fun o H Φ => ∃ (sa8 : Option Addr) (sn8 sc8 : Nat), o = .ret (.bool r.1) /\ H = [.box b 59 [.slice sa8 sn8 sc8], .row (.slice sa8 sn8 sc8) 3 1 (r.2.map eI64), .box b1 87 [.slice sa2 sn2 sc2], .box b2 143 [.func (.func 72) #[] #[.pointer (some ⟨b, 0, none⟩), .pointer (some ⟨b1, 0, none⟩), .pointer (some ⟨b2, 0, none⟩)]]] /\ Φ = [])) := by
 induction k with
 | zero => exact fun h => nomatch (show none = some _ from h)
 | succ k ih => exact tri72_B k _ ih
theorem tri53 {k : Nat} {g_ : Gram} {sa1 : Option Addr} {sn1 sc1 : Nat} {r : Bool × Int} (hF : F.facts.Cyclic k g_ = some r) :
  Tri Try.prog 53 [.agg #[.int .i64 g_.Nts, .int .i64 g_.Start, .slice sa1 sn1 sc1]] [] [(.slice sa1 sn1 sc1, .slice 2 (g_.Rules.map eRule))] (fun o H Φ => o = .ret (.tuple #[.bool r.1, .int .i64 r.2]) /\ H = [] /\ Φ = []) := by
 unfold F.facts.Cyclic at hF
 refine tri_intro (n := 41) Try.func53 rfl Try.ntmps53 rfl fun w X => c_seq (c_region (o_box rfl rfl rfl fun b => o_v (v_assign rfl) rfl (o_v (v_assign rfl) rfl (o_seq (c_seq (c_region (o_v (vl 0 ty24 rfl rfl rfl) rfl ?_)))))))
 obtain ⟨v_, h1, hF⟩ := bd hF
 refine o_call0 call70 rfl (subs [0] rfl) (tri70 h1 :) rfl ?_
 rintro _ _ _ ⟨sa2, sn2, sc2, rfl, rfl, rfl⟩
 refine o_v (v_move rfl) rfl (o_v (v_extract rfl rfl) rfl (o_v (v_extract rfl rfl) rfl (o_v (v_assign rfl) rfl (o_v (v_assign rfl) rfl (o_seq (c_seq (c_seq (c_region (o_v (v_move rfl) rfl (o_v (v_bin rfl rfl rfl) rfl (o_seq ?_)))))))))))
 refine c_cond rfl (fun h2 => ?_) (fun h2 => ?_)
 replace hF := ite_t h2 hF
 refine c_seq (c_region (o_v (v_move rfl) rfl (o_v (v_assign rfl) rfl (o_v (v_assign rfl) rfl (o_seq (c_ret ?_))))))
 cases hF
 refine s_ret2 rfl (r_tmp rfl) (r_tmp rfl) fun a w hs => fin_sel hs [] ⟨rfl, rfl, rfl⟩ rfl sub_nil
 replace hF := ite_f h2 hF
 refine c_skip (sat_wc (c_seq (c_region (o_v (vl 1 ty24 rfl rfl rfl) rfl (o_v (v_move rfl) rfl ?_)))))
 obtain ⟨v_1, h3, hF⟩ := bd hF
 refine o_st (st_freeze 0 rfl) (o_call0 call71 rfl (subs [1, 0] rfl) (tri71 h3 :) rfl ?_)
 rintro _ _ _ ⟨sa3, sn3, sc3, rfl, rfl, rfl⟩
 refine o_alloc zero87 rfl rfl fun b1 => o_store_box 0 rfl ty87 rfl rfl rfl rfl rfl rfl rfl (o_seq (c_seq (c_region (o_v (fa 0 rfl) rfl (o_v (vl 1 ty3 rfl rfl rfl) rfl (ite_some hF fun h4 hF => ite_some hF fun h5 hF => ite_some hF fun h6 hF => o_makeEz (enc := eI64) 0 sl59 zero3 (fun _ _ => .cons (.int _ _) (.nil)) rfl rfl h4 h5 h6 rfl fun sa4 sn4 sc4 => o_alloc zero59 rfl rfl fun b2 => o_store_box 0 rfl ty59 rfl rfl rfl rfl rfl rfl rfl (o_seq (c_seq (c_region ?_)))))))))
 refine o_alloc zero143 rfl rfl fun b3 => o_seq (c_seq (c_region (o_v (v_makeFunc (vs := [.pointer (some ⟨b2, 0, none⟩), .pointer (some ⟨b1, 0, none⟩), .pointer (some ⟨b3, 0, none⟩)]) rfl) rfl (o_store_box 0 rfl ty143 rfl rfl rfl rfl rfl rfl rfl (o_seq (c_seq (c_seq (c_region (o_v (fa 0 rfl) rfl (o_v (vl 4 ty3 rfl rfl rfl) rfl (o_v (v_move rfl) rfl (o_seq ?_))))))))))))
 obtain ⟨o1, ho1, hF⟩ := bd hF
 refine c_cut (fun E N' => ∀ (d1 : (List Int)) (sa6 : Option Addr) (sn6 sc6 : Nat), o1 = .done d1 -> Sat E [(0, .agg #[.int .i64 g_.Nts, .int .i64 g_.Start, .slice sa1 sn1 sc1]), (1, .pointer (some ⟨b, 0, none⟩)), (2, .bool false), (3, .int .i64 0), (4, .slice sa2 sn2 sc2), (5, .int .i64 v_.2), (6, .pointer (some ⟨b1, 0, none⟩)), (7, .pointer (some ⟨b2, 0, none⟩)), (8, .pointer (some ⟨b3, 0, none⟩))] [.box b3 143 [.func (.func 72) #[] #[.pointer (some ⟨b2, 0, none⟩), .pointer (some ⟨b1, 0, none⟩), .pointer (some ⟨b3, 0, none⟩)]], .box b2 59 [.slice sa6 sn6 sc6], .box b1 87 [.slice sa3 sn3 sc3], .box b 24 [.int .i64 g_.Nts, .int .i64 g_.Start, .slice sa1 sn1 sc1], .row (.slice sa6 sn6 sc6) 3 1 (d1.map eI64)] [(.slice sa1 sn1 sc1, .slice 2 (g_.Rules.map eRule)), (.slice sa2 sn2 sc2, .slice 1 (v_.1.map eB)), (.slice sa3 sn3 sc3, .slice 1 (v_1.map (eSl 1 eI64)))] N') (fun N1 hN1 => ?_) ?_
 refine c_block ?_
 refine c_loopE (fun E j a w => ∃ (t27 : Int) (state : List Int) (sa5 : Option Addr) (sn5 sc5 : Nat), F.facts.Cyclic_l1 k g_ v_1 j t27 state = some o1 /\ St E [(0, .agg #[.int .i64 g_.Nts, .int .i64 g_.Start, .slice sa1 sn1 sc1]), (1, .pointer (some ⟨b, 0, none⟩)), (2, .bool false), (3, .int .i64 0), (4, .slice sa2 sn2 sc2), (5, .int .i64 v_.2), (6, .pointer (some ⟨b1, 0, none⟩)), (7, .pointer (some ⟨b2, 0, none⟩)), (8, .pointer (some ⟨b3, 0, none⟩)), (26, .int .i64 g_.Nts), (27, .int .i64 t27)] [.box b3 143 [.func (.func 72) #[] #[.pointer (some ⟨b2, 0, none⟩), .pointer (some ⟨b1, 0, none⟩), .pointer (some ⟨b3, 0, none⟩)]], .box b2 59 [.slice sa5 sn5 sc5], .box b1 87 [.slice sa3 sn3 sc3], .box b 24 [.int .i64 g_.Nts, .int .i64 g_.Start, .slice sa1 sn1 sc1], .row (.slice sa5 sn5 sc5) 3 1 (state.map eI64)] [(.slice sa1 sn1 sc1, .slice 2 (g_.Rules.map eRule)), (.slice sa2 sn2 sc2, .slice 1 (v_.1.map eB)), (.slice sa3 sn3 sc3, .slice 1 (v_1.map (eSl 1 eI64)))] a w) k ?_ ?_
 intro a w hs
 exact ⟨0, (List.replicate (Int.toNat g_.Nts) 0), sa4, sn4, sc4, ho1, st_le [0, 0, 1, 1, 0] (lea rfl) rfl (subs [2, 1, 0] rfl) a w hs⟩
 rintro j a w ⟨t27, state, sa5, sn5, sc5, hL1, hs⟩
 rcases j with _ | j
 cases hL1
 refine wc_app hs ?_
 unfold F.facts.Cyclic_l1 at hL1
 refine c_seq (c_region (o_v (v_bin rfl rfl rfl) rfl (o_seq (c_seq ?_))))
 refine c_cond rfl (fun h7 => ?_) (fun h7 => ?_)
 replace hL1 := ite_t h7 hL1
 refine c_skip (sat_wc (c_seq ?_))
 refine cT (fun E H Φ N' => ∀ (state1 : List Int) (sa7 : Option Addr) (sn7 sc7 : Nat), F.facts.Cyclic_j2 (F.facts.Cyclic_l1 k g_ v_1 j) t27 state1 = some o1 -> Sat E [(0, .agg #[.int .i64 g_.Nts, .int .i64 g_.Start, .slice sa1 sn1 sc1]), (1, .pointer (some ⟨b, 0, none⟩)), (2, .bool false), (3, .int .i64 0), (4, .slice sa2 sn2 sc2), (5, .int .i64 v_.2), (6, .pointer (some ⟨b1, 0, none⟩)), (7, .pointer (some ⟨b2, 0, none⟩)), (8, .pointer (some ⟨b3, 0, none⟩)), (9, .int .i64 t27), (26, .int .i64 g_.Nts), (27, .int .i64 t27)] [.box b2 59 [.slice sa7 sn7 sc7], .box b1 87 [.slice sa3 sn3 sc3], .box b3 143 [.func (.func 72) #[] #[.pointer (some ⟨b2, 0, none⟩), .pointer (some ⟨b1, 0, none⟩), .pointer (some ⟨b3, 0, none⟩)]], .box b 24 [.int .i64 g_.Nts, .int .i64 g_.Start, .slice sa1 sn1 sc1], .row (.slice sa7 sn7 sc7) 3 1 (state1.map eI64)] Φ N') (fun N2 hN2 => ?_) ?_
 refine c_block (c_seq (c_region (o_v (v_move rfl) rfl (o_v (v_assign rfl) rfl (o_seq (c_seq ?_))))))
 refine cT (fun E H Φ N' => ∀ (t39 : Bool) (state2 : List Int) (sa8 : Option Addr) (sn8 sc8 : Nat), F.facts.Cyclic_j3 (F.facts.Cyclic_l1 k g_ v_1 j) t27 t39 state2 = some o1 -> Sat E [(0, .agg #[.int .i64 g_.Nts, .int .i64 g_.Start, .slice sa1 sn1 sc1]), (1, .pointer (some ⟨b, 0, none⟩)), (2, .bool false), (3, .int .i64 0), (4, .slice sa2 sn2 sc2), (5, .int .i64 v_.2), (6, .pointer (some ⟨b1, 0, none⟩)), (7, .pointer (some ⟨b2, 0, none⟩)), (8, .pointer (some ⟨b3, 0, none⟩)), (9, .int .i64 t27), (26, .int .i64 g_.Nts), (27, .int .i64 t27), (39, .bool t39)] [.box b2 59 [.slice sa8 sn8 sc8], .box b1 87 [.slice sa3 sn3 sc3], .box b3 143 [.func (.func 72) #[] #[.pointer (some ⟨b2, 0, none⟩), .pointer (some ⟨b1, 0, none⟩), .pointer (some ⟨b3, 0, none⟩)]], .box b 24 [.int .i64 g_.Nts, .int .i64 g_.Start, .slice sa1 sn1 sc1], .row (.slice sa8 sn8 sc8) 3 1 (state2.map eI64)] Φ N') (fun N3 hN3 => ?_) ?_
 refine c_region (o_v (vl 1 ty59 rfl rfl rfl) rfl (o_v (v_move rfl) rfl (ite_some hL1 fun h9 hL1 => o_v (v_indexAddr_s (xs := state) (enc := eI64) sl59 rfl rfl (.r 4 _ rfl) h9) rfl (o_v (v_load_s (xs := state) (enc := eI64) ty3 rfl (.r 4 _ rfl) h9 rfl rfl rfl rfl rfl rfl rfl) rfl (o_v (v_bin rfl rfl rfl) rfl (o_v (v_move rfl) rfl ?_))))))
 refine o_split (t := 35) rfl (fun h10 => ?_) (fun h10 => ?_)
 replace hL1 := ite_t h10 hL1
 refine o_on rfl rfl (o_v (vl 0 ty143 rfl rfl rfl) rfl (o_on rfl rfl (o_v (v_move rfl) rfl (o_on rfl rfl ?_))))
 obtain ⟨v_2, h11, hL1⟩ := bd hL1
 refine o_call [1, 3, 1, 0] call72 (cap := #[.pointer (some ⟨b2, 0, none⟩), .pointer (some ⟨b1, 0, none⟩), .pointer (some ⟨b3, 0, none⟩)]) rfl rfl rfl (subs [2] rfl) (by exact ((tri72 _) h11 :)) rfl ?_
 rintro _ _ _ ⟨sa9, sn9, sc9, rfl, rfl, rfl⟩
 refine o_v (v_pick_t rfl rfl) rfl (o_nil ?_)
 refine s_st ?_ (hN3 v_2.1 v_2.2 sa9 sn9 sc9 hL1)
 exact st_le [0, 1, 1, 1, 0] (lea rfl) rfl (subs [0, 1, 2] rfl)
 replace hL1 := ite_f h10 hL1
 refine o_off rfl rfl (by decide) rfl (o_off rfl rfl (by decide) rfl (o_off rfl rfl (by decide) rfl (o_v (v_pick_f rfl rfl) rfl (o_nil ?_))))
 refine s_st ?_ (hN3 false state sa5 sn5 sc5 hL1)
 exact st_le [1, 1, 0, 0, 0] (lea rfl) rfl (subs [0, 1, 2] rfl)
 intro t39 state2 sa8 sn8 sc8 hL1
 unfold F.facts.Cyclic_j3 at hL1
 refine sat_wc ?_
 refine c_cond rfl (fun h8 => ?_) (fun h8 => ?_)
 replace hL1 := ite_t h8 hL1
 refine c_seq (c_region (o_v (v_assign rfl) rfl (o_v (v_assign rfl) rfl (o_seq (c_ret ?_)))))
 cases hL1
 obtain rfl := lrf_ret hF
 refine s_ret2 rfl (r_tmp rfl) (r_tmp rfl) fun a w hs => fin_sel hs [] ⟨rfl, rfl, rfl⟩ rfl sub_nil
 replace hL1 := ite_f h8 hL1
 refine c_skip ?_
 refine s_st ?_ (hN2 state2 sa8 sn8 sc8 hL1)
 exact st_le [0, 0, 0, 0, 0] (lea rfl) rfl (subs [0, 1, 2] rfl)
 intro state1 sa7 sn7 sc7 hL1
 unfold F.facts.Cyclic_j2 at hL1
 refine sat_wc (c_region (o_v (v_bin rfl rfl rfl) rfl (o_v (v_move rfl) rfl (o_nil ?_))))
 intro a w hs
 exact ⟨j, Nat.lt_succ_self j, IntKind.wrap .i64 (t27 + 1), state1, sa7, sn7, sc7, hL1, st_le [2, 0, 0, 0, 0] (lea rfl) rfl (subs [0, 1, 2] rfl) a w hs⟩
 replace hL1 := ite_f h7 hL1
 refine c_exit0 ?_
 cases hL1
 refine s_st ?_ (hN1 state sa5 sn5 sc5 rfl)
 exact st_le [0, 0, 0, 0, 0] (lea rfl) rfl (subs [0, 1, 2] rfl)
 intro d1 sa6 sn6 sc6 hd
 subst hd
 replace hF := lrf_done hF
 refine sat_wc (c_seq (c_region (o_v (v_assign rfl) rfl (o_v (v_assign rfl) rfl (o_seq (c_ret ?_))))))
 cases hF
 refine s_ret2 rfl (r_tmp rfl) (r_tmp rfl) fun a w hs => fin_sel hs [] ⟨rfl, rfl, rfl⟩ rfl sub_nil
theorem tri30 {k : Nat} {g_ : Gram} {w__ : List Int} {sa1 : Option Addr} {sn1 sc1 : Nat} {sa2 : Option Addr} {sn2 sc2 : Nat} {r : Int} (hF : F.forest.fit k g_ w__ = some r) :
  Tri Try.prog 30 [.agg #[.int .i64 g_.Nts, .int .i64 g_.Start, .slice sa1 sn1 sc1], .slice sa2 sn2 sc2] [] [(.slice sa1 sn1 sc1, .slice 2 (g_.Rules.map eRule)), (.slice sa2 sn2 sc2, .slice 1 (w__.map eU8))] (fun o H Φ => o = .ret (.int .i64 r) /\ H = [] /\ Φ = []) := by
 unfold F.forest.fit at hF
 refine tri_intro (n := 22) Try.func30 rfl Try.ntmps30 rfl fun w X => c_seq (c_region (o_box rfl rfl rfl fun b => o_v (v_assign rfl) rfl (o_seq (c_seq (c_seq (c_region (o_v (vl 0 ty24 rfl rfl rfl) rfl ?_)))))))
 obtain ⟨v_, h1, hF⟩ := bd hF
 refine o_callSB call52 rfl (lent_f 0 rfl lent_nil) (tri52 h1 :) rfl (o_v (v_assign rfl) rfl (o_seq (c_seq (c_region (o_v (v_move rfl) rfl (o_v (v_bin rfl rfl rfl) rfl (o_seq ?_)))))))
 refine c_cond rfl (fun h2 => ?_) (fun h2 => ?_)
 replace hF := ite_t h2 hF
 refine c_seq (c_region (o_v (v_move rfl) rfl (o_v (v_assign rfl) rfl (o_seq (c_ret ?_)))))
 cases hF
 refine s_ret1 rfl (r_tmp rfl) fun a w hs => fin_sel hs [] ⟨rfl, rfl, rfl⟩ rfl sub_nil
 replace hF := ite_f h2 hF
 refine c_skip (sat_wc (c_seq (c_seq (c_region (o_v (v_move rfl) rfl (o_v (v_lenS (enc := eU8) w__ sl25 rfl (.f 1 rfl)) rfl (o_v (v_bin rfl rfl rfl) rfl (o_seq ?_))))))))
 refine c_cond rfl (fun h3 => ?_) (fun h3 => ?_)
 replace hF := ite_t h3 hF
 refine c_seq (c_region (o_v (v_assign rfl) rfl (o_seq (c_ret ?_))))
 cases hF
 refine s_ret1 rfl (r_tmp rfl) fun a w hs => fin_sel hs [] ⟨rfl, rfl, rfl⟩ rfl sub_nil
 replace hF := ite_f h3 hF
 refine c_skip (sat_wc (c_seq (c_seq (c_region (o_v (vl 0 ty24 rfl rfl rfl) rfl ?_)))))
 obtain ⟨v_1, h4, hF⟩ := bd hF
 refine o_callSB call53 rfl (lent_f 0 rfl lent_nil) (tri53 h4 :) rfl (o_v (v_move rfl) rfl (o_v (v_extract rfl rfl) rfl (o_v (v_extract rfl rfl) rfl (o_v (v_assign rfl) rfl (o_v (v_assign rfl) rfl (o_seq (c_seq (c_region (o_v (v_move rfl) rfl (o_seq ?_))))))))))
 refine c_cond rfl (fun h5 => ?_) (fun h5 => ?_)
 replace hF := ite_t h5 hF
 refine c_seq (c_region (o_v (v_assign rfl) rfl (o_seq (c_ret ?_))))
 cases hF
 refine s_ret1 rfl (r_tmp rfl) fun a w hs => fin_sel hs [] ⟨rfl, rfl, rfl⟩ rfl sub_nil
 replace hF := ite_f h5 hF
 refine c_skip (sat_wc (c_seq (c_region (o_v (v_assign rfl) rfl (o_seq (c_ret ?_))))))
 cases hF
 refine s_ret1 rfl (r_tmp rfl) fun a w hs => fin_sel hs [] ⟨rfl, rfl, rfl⟩ rfl sub_nil
theorem tri50 {k : Nat} {g_ : Gram} {w__ : List Int} {sa1 : Option Addr} {sn1 sc1 : Nat} {sa2 : Option Addr} {sn2 sc2 : Nat} {r : Int} (hF : F.earley.fit k g_ w__ = some r) :
  Tri Try.prog 50 [.agg #[.int .i64 g_.Nts, .int .i64 g_.Start, .slice sa1 sn1 sc1], .slice sa2 sn2 sc2] [] [(.slice sa1 sn1 sc1, .slice 2 (g_.Rules.map eRule)), (.slice sa2 sn2 sc2, .slice 1 (w__.map eU8))] (fun o H Φ => o = .ret (.int .i64 r) /\ H = [] /\ Φ = []) := by
 unfold F.earley.fit at hF
 refine tri_intro (n := 14) Try.func50 rfl Try.ntmps50 rfl fun w X => c_seq (c_region (o_box rfl rfl rfl fun b => o_v (v_assign rfl) rfl (o_seq (c_seq (c_seq (c_region (o_v (vl 0 ty24 rfl rfl rfl) rfl ?_)))))))
 obtain ⟨v_, h1, hF⟩ := bd hF
 refine o_callSB call52 rfl (lent_f 0 rfl lent_nil) (tri52 h1 :) rfl (o_v (v_assign rfl) rfl (o_seq (c_seq (c_region (o_v (v_move rfl) rfl (o_v (v_bin rfl rfl rfl) rfl (o_seq ?_)))))))
 refine c_cond rfl (fun h2 => ?_) (fun h2 => ?_)
 replace hF := ite_t h2 hF
 refine c_seq (c_region (o_v (v_move rfl) rfl (o_v (v_assign rfl) rfl (o_seq (c_ret ?_)))))
 cases hF
 refine s_ret1 rfl (r_tmp rfl) fun a w hs => fin_sel hs [] ⟨rfl, rfl, rfl⟩ rfl sub_nil
 replace hF := ite_f h2 hF
 refine c_skip (sat_wc (c_seq (c_seq (c_region (o_v (v_move rfl) rfl (o_v (v_lenS (enc := eU8) w__ sl25 rfl (.f 1 rfl)) rfl (o_v (v_bin rfl rfl rfl) rfl (o_seq ?_))))))))
 refine c_cond rfl (fun h3 => ?_) (fun h3 => ?_)
 replace hF := ite_t h3 hF
 refine c_seq (c_region (o_v (v_assign rfl) rfl (o_seq (c_ret ?_))))
 cases hF
 refine s_ret1 rfl (r_tmp rfl) fun a w hs => fin_sel hs [] ⟨rfl, rfl, rfl⟩ rfl sub_nil
 replace hF := ite_f h3 hF
 refine c_skip (sat_wc (c_seq (c_region (o_v (v_assign rfl) rfl (o_seq (c_ret ?_))))))
 cases hF
 refine s_ret1 rfl (r_tmp rfl) fun a w hs => fin_sel hs [] ⟨rfl, rfl, rfl⟩ rfl sub_nil
theorem tri68 {c : Earley_chart} {j_ : Int} {x_ : EItem} {b : Nat} {sa1 : Option Addr} {sn1 sc1 : Nat} {sa2 : Option Addr} {sn2 sc2 : Nat} {sa3 : Option Addr} {sn3 sc3 : Nat} {sa4 : Option Addr} {sn4 sc4 : Nat} {gh : Nat -> H3} {sa5 : Option Addr} {sn5 sc5 : Nat} {gm : Nat -> Nat} {gv : Value} {r : Earley_chart} (hF : F.earley.chart_add c j_ x_ = some r) :
  Tri Try.prog 68 [.pointer (some ⟨b, 0, none⟩), .int .i64 j_, .agg #[.int .i64 x_.Rule, .int .i64 x_.Dot, .int .i64 x_.From]] [.box b 116 [.int .i64 c.g.Nts, .int .i64 c.g.Start, .slice sa1 sn1 sc1, .slice sa2 sn2 sc2, .slice sa3 sn3 sc3, .slice sa4 sn4 sc4, .slice sa5 sn5 sc5, gv], .row (.slice sa4 sn4 sc4) 111 1 (dcells c.sets gh), .fam (dfam 118 3 eEItem c.sets gh), .row (.slice sa5 sn5 sc5) 138 1 (mcells c.met gm), .fmp (mfam kEItem c.met gm)] [(.slice sa1 sn1 sc1, .slice 2 (c.g.Rules.map eRule)), (.slice sa2 sn2 sc2, .slice 1 (c.w_.map eU8)), (.slice sa3 sn3 sc3, .slice 1 (c.by_.map (eSl 1 eI64)))] (fun o H Φ => ∃ (sa8 : Option Addr) (sn8 sc8 : Nat) (gh1 : Nat -> H3) (sa9 : Option Addr) (sn9 sc9 : Nat) (gm1 : Nat -> Nat), o = .ret (.tuple #[]) /\ H = [.box b 116 [.int .i64 c.g.Nts, .int .i64 c.g.Start, .slice sa1 sn1 sc1, .slice sa2 sn2 sc2, .slice sa3 sn3 sc3, .slice sa8 sn8 sc8, .slice sa9 sn9 sc9, gv], .row (.slice sa8 sn8 sc8) 111 1 (dcells r.sets gh1), .fam (dfam 118 3 eEItem r.sets gh1), .row (.slice sa9 sn9 sc9) 138 1 (mcells r.met gm1), .fmp (mfam kEItem r.met gm1)] /\ Φ = []) := by
 unfold F.earley.chart_add at hF
 refine tri_intro (n := 40) Try.func68 rfl Try.ntmps68 rfl fun w X => c_seq (c_region (o_box rfl rfl rfl fun b1 => o_seq (c_seq (c_seq (c_draw (n := 10) [0, 0, 0, 0, 0, 0] mixed rfl rfl (dv 0 rfl (v_move rfl) (dv 1 rfl (v_nilCheck rfl) (dv 2 rfl (fa 6 rfl) (dv 3 rfl (vl 1 ty113 rfl rfl rfl) (dv 4 rfl (v_move rfl) (ite_some hF fun h1 hF => dv 5 rfl (v_indexAddr_m (le := c.met) (ms := gm) 4 sl113 rfl rfl rfl h1) (dv 6 rfl (v_load_m (le := c.met) (ms := gm) 4 ty138 rfl rfl h1) ?_))))))))))))
 refine dv 7 rfl (vl 0 ty118 rfl rfl rfl) (dv 8 rfl (v_lookF (enc := kEItem) (eq := qEItem) (k := x_) (le := c.met) (ms := gm) 5 Try.underlying138 kt118 zero3 rfl rfl rfl h1) (dv 9 rfl (v_bin rfl rfl rfl) (d_done_seq (by kernel_rfl) ?_)))
 refine c_cond rfl (fun h2 => ?_) (fun h2 => ?_)
 replace hF := ite_t h2 hF
 refine c_ret ?_
 cases hF
 refine s_ret0 rfl fun a w hs => fin_sel hs [1, 1, 1, 1, 1] ⟨sa4, sn4, sc4, gh, sa5, sn5, sc5, gm, rfl, rfl, rfl⟩ rfl sub_nil
 replace hF := ite_f h2 hF
 refine c_skip (sat_wc (c_seq (c_draw (n := 9) [0, 0, 0, 0] mixed rfl rfl (dv 0 rfl (v_move rfl) (dv 1 rfl (v_nilCheck rfl) (dv 2 rfl (fa 6 rfl) (dv 3 rfl (vl 1 ty113 rfl rfl rfl) (dv 4 rfl (v_move rfl) (dv 7 rfl (vl 0 ty118 rfl rfl rfl) (d_one 5 rfl (by kernel_rfl) (o_v (v_indexAddr_m (le := c.met) (ms := gm) 4 sl113 rfl rfl rfl h1) rfl (d_next [0, 0, 0, 0] 0 rfl rfl (d_one 6 rfl (by kernel_rfl) (o_v (v_load_m (le := c.met) (ms := gm) 4 ty138 rfl rfl h1) rfl (d_next [0, 0, 0, 0] 0 rfl rfl ?_)))))))))))))))
 refine d_one 8 rfl (by kernel_rfl) (o_updateF (enc := kEItem) (eq := qEItem) (k := x_) (le := c.met) (ms := gm) 5 Try.underlying138 kt118 rfl rfl rfl rfl h1 (o_st (st_mlen 4 (set_ c.met j_ (tput qEItem x_ 1 (at_ c.met j_))) (set_len _ _ _) rfl) (d_next [0, 0, 0, 0] 0 rfl rfl (d_done_seq (by kernel_rfl) (c_draw (n := 17) [0, 0, 2, 2] mixed rfl rfl (dv 0 rfl (v_move rfl) (dv 1 rfl (v_nilCheck rfl) (dv 2 rfl (fa 5 rfl) (dv 3 rfl (vl 1 ty112 rfl rfl rfl) (dv 4 rfl (v_move rfl) (dv 5 rfl (v_move rfl) (dv 6 rfl (v_nilCheck rfl) (dv 7 rfl (fa 5 rfl) (dv 8 rfl (vl 1 ty112 rfl rfl rfl) (dv 9 rfl (v_move rfl) ?_)))))))))))))))
 refine dv 12 rfl (vl 0 ty118 rfl rfl rfl) (ite_some hF fun h3 hF => ite_some hF fun h4 hF => ite_some hF fun h5 hF => ?_)
 refine d_all [10, 13] (by kernel_rfl) (by simp) ⟨⟨_, rfl, ?_⟩, ⟨_, rfl, ?_⟩, trivial⟩
 refine o_v (v_indexAddr_d (le := c.sets) (hs := gh) 2 sl112 rfl rfl rfl h3) rfl (d_next [0, 0, 2, 2] 0 rfl rfl ?_)
 refine d_all [11, 13] (by kernel_rfl) (by simp) ⟨⟨_, rfl, ?_⟩, ⟨_, rfl, ?_⟩, trivial⟩
 refine o_v (v_load_d (le := c.sets) (hs := gh) 2 ty111 rfl rfl h3) rfl (d_next [0, 0, 2, 2] 0 rfl rfl (d_one 13 rfl (by kernel_rfl) (o_buildSlice (enc := eEItem) ([x_] : List EItem) [.int .i64 x_.Rule, .int .i64 x_.Dot, .int .i64 x_.From] sl111 rfl (fun _ => by kernel_rfl) rfl rfl rfl (.s rfl (.s rfl (.s rfl (.nil)))) rfl fun sa6 sn6 sc6 => d_next [1, 1, 3, 3] 0 rfl rfl (d_one 14 rfl (by kernel_rfl) (o_appendF (enc := eEItem) (le := c.sets) (ys := ([x_] : List EItem)) (hs := gh) 4 sl111 rfl rfl rfl h3 0 rfl h4 h5 rfl fun sa7 sn7 sc7 => o_H [.row (.slice sa6 sn6 sc6) 118 3 (([x_] : List EItem).map eEItem), .box b1 118 [.int .i64 x_.Rule, .int .i64 x_.Dot, .int .i64 x_.From], .box b 116 [.int .i64 c.g.Nts, .int .i64 c.g.Start, .slice sa1 sn1 sc1, .slice sa2 sn2 sc2, .slice sa3 sn3 sc3, .slice sa4 sn4 sc4, .slice sa5 sn5 sc5, gv], .row (.slice sa4 sn4 sc4) 111 1 (dcells c.sets gh), .fam (dfam 118 3 eEItem (set_ c.sets j_ ((at_ c.sets j_) ++ ([x_] : List EItem))) (upd gh j_ (sa7, sn7, sc7))), .row (.slice sa5 sn5 sc5) 138 1 (mcells (set_ c.met j_ (tput qEItem x_ 1 (at_ c.met j_))) gm), .fmp (mfam kEItem (set_ c.met j_ (tput qEItem x_ 1 (at_ c.met j_))) gm)] rfl (d_next [1, 1, 3, 3] 0 rfl rfl (d_one 15 rfl (by kernel_rfl) (o_v (v_indexAddr_d (le := c.sets) (hs := gh) 3 sl112 rfl rfl rfl h3) rfl (d_next [1, 1, 3, 3] 0 rfl rfl (d_one 16 rfl (by kernel_rfl) (o_store_d (le := c.sets) (hs := gh) (set_ c.sets j_ ((at_ c.sets j_) ++ ([x_] : List EItem))) 3 (set_len _ _ _) rfl ty111 rfl rfl rfl h3 (o_H [.row (.slice sa6 sn6 sc6) 118 3 (([x_] : List EItem).map eEItem), .box b1 118 [.int .i64 x_.Rule, .int .i64 x_.Dot, .int .i64 x_.From], .box b 116 [.int .i64 c.g.Nts, .int .i64 c.g.Start, .slice sa1 sn1 sc1, .slice sa2 sn2 sc2, .slice sa3 sn3 sc3, .slice sa4 sn4 sc4, .slice sa5 sn5 sc5, gv], .row (.slice sa4 sn4 sc4) 111 1 (dcells (set_ c.sets j_ ((at_ c.sets j_) ++ ([x_] : List EItem))) (upd gh j_ (sa7, sn7, sc7))), .fam (dfam 118 3 eEItem (set_ c.sets j_ ((at_ c.sets j_) ++ ([x_] : List EItem))) (upd gh j_ (sa7, sn7, sc7))), .row (.slice sa5 sn5 sc5) 138 1 (mcells (set_ c.met j_ (tput qEItem x_ 1 (at_ c.met j_))) gm), .fmp (mfam kEItem (set_ c.met j_ (tput qEItem x_ 1 (at_ c.met j_))) gm)] rfl (d_next [1, 1, 3, 3] 0 rfl rfl ?_)))))))))))))
 refine d_done (by kernel_rfl) ?_
 cases hF
 refine s_ret0 rfl fun a w hs => fin_sel hs [2, 2, 2, 2, 2] ⟨sa4, sn4, sc4, (upd gh j_ (sa7, sn7, sc7)), sa5, sn5, sc5, gm, rfl, rfl, rfl⟩ rfl sub_nil
 refine o_buildSlice (enc := eEItem) ([x_] : List EItem) [.int .i64 x_.Rule, .int .i64 x_.Dot, .int .i64 x_.From] sl111 rfl (fun _ => by kernel_rfl) rfl rfl rfl (.s rfl (.s rfl (.s rfl (.nil)))) rfl fun sa6 sn6 sc6 => d_next [1, 1, 3, 3] 0 rfl rfl (d_one 11 rfl (by kernel_rfl) (o_v (v_load_d (le := c.sets) (hs := gh) 3 ty111 rfl rfl h3) rfl (d_next [1, 1, 3, 3] 0 rfl rfl (d_one 14 rfl (by kernel_rfl) (o_appendF (enc := eEItem) (le := c.sets) (ys := ([x_] : List EItem)) (hs := gh) 4 sl111 rfl rfl rfl h3 0 rfl h4 h5 rfl fun sa7 sn7 sc7 => o_H [.row (.slice sa6 sn6 sc6) 118 3 (([x_] : List EItem).map eEItem), .box b1 118 [.int .i64 x_.Rule, .int .i64 x_.Dot, .int .i64 x_.From], .box b 116 [.int .i64 c.g.Nts, .int .i64 c.g.Start, .slice sa1 sn1 sc1, .slice sa2 sn2 sc2, .slice sa3 sn3 sc3, .slice sa4 sn4 sc4, .slice sa5 sn5 sc5, gv], .row (.slice sa4 sn4 sc4) 111 1 (dcells c.sets gh), .fam (dfam 118 3 eEItem (set_ c.sets j_ ((at_ c.sets j_) ++ ([x_] : List EItem))) (upd gh j_ (sa7, sn7, sc7))), .row (.slice sa5 sn5 sc5) 138 1 (mcells (set_ c.met j_ (tput qEItem x_ 1 (at_ c.met j_))) gm), .fmp (mfam kEItem (set_ c.met j_ (tput qEItem x_ 1 (at_ c.met j_))) gm)] rfl (d_next [1, 1, 3, 3] 0 rfl rfl (d_one 15 rfl (by kernel_rfl) (o_v (v_indexAddr_d (le := c.sets) (hs := gh) 3 sl112 rfl rfl rfl h3) rfl (d_next [1, 1, 3, 3] 0 rfl rfl (d_one 16 rfl (by kernel_rfl) (o_store_d (le := c.sets) (hs := gh) (set_ c.sets j_ ((at_ c.sets j_) ++ ([x_] : List EItem))) 3 (set_len _ _ _) rfl ty111 rfl rfl rfl h3 (o_H [.row (.slice sa6 sn6 sc6) 118 3 (([x_] : List EItem).map eEItem), .box b1 118 [.int .i64 x_.Rule, .int .i64 x_.Dot, .int .i64 x_.From], .box b 116 [.int .i64 c.g.Nts, .int .i64 c.g.Start, .slice sa1 sn1 sc1, .slice sa2 sn2 sc2, .slice sa3 sn3 sc3, .slice sa4 sn4 sc4, .slice sa5 sn5 sc5, gv], .row (.slice sa4 sn4 sc4) 111 1 (dcells (set_ c.sets j_ ((at_ c.sets j_) ++ ([x_] : List EItem))) (upd gh j_ (sa7, sn7, sc7))), .fam (dfam 118 3 eEItem (set_ c.sets j_ ((at_ c.sets j_) ++ ([x_] : List EItem))) (upd gh j_ (sa7, sn7, sc7))), .row (.slice sa5 sn5 sc5) 138 1 (mcells (set_ c.met j_ (tput qEItem x_ 1 (at_ c.met j_))) gm), .fmp (mfam kEItem (set_ c.met j_ (tput qEItem x_ 1 (at_ c.met j_))) gm)] rfl (d_next [1, 1, 3, 3] 0 rfl rfl ?_)))))))))))))
 refine d_done (by kernel_rfl) ?_
 cases hF
 refine s_ret0 rfl fun a w hs => fin_sel hs [2, 2, 2, 2, 2] ⟨sa4, sn4, sc4, (upd gh j_ (sa7, sn7, sc7)), sa5, sn5, sc5, gm, rfl, rfl, rfl⟩ rfl sub_nil
 refine o_buildSlice (enc := eEItem) ([x_] : List EItem) [.int .i64 x_.Rule, .int .i64 x_.Dot, .int .i64 x_.From] sl111 rfl (fun _ => by kernel_rfl) rfl rfl rfl (.s rfl (.s rfl (.s rfl (.nil)))) rfl fun sa6 sn6 sc6 => d_next [1, 1, 3, 3] 0 rfl rfl (d_one 10 rfl (by kernel_rfl) (o_v (v_indexAddr_d (le := c.sets) (hs := gh) 3 sl112 rfl rfl rfl h3) rfl (d_next [1, 1, 3, 3] 0 rfl rfl (d_one 11 rfl (by kernel_rfl) (o_v (v_load_d (le := c.sets) (hs := gh) 3 ty111 rfl rfl h3) rfl (d_next [1, 1, 3, 3] 0 rfl rfl (d_one 14 rfl (by kernel_rfl) (o_appendF (enc := eEItem) (le := c.sets) (ys := ([x_] : List EItem)) (hs := gh) 4 sl111 rfl rfl rfl h3 0 rfl h4 h5 rfl fun sa7 sn7 sc7 => o_H [.row (.slice sa6 sn6 sc6) 118 3 (([x_] : List EItem).map eEItem), .box b1 118 [.int .i64 x_.Rule, .int .i64 x_.Dot, .int .i64 x_.From], .box b 116 [.int .i64 c.g.Nts, .int .i64 c.g.Start, .slice sa1 sn1 sc1, .slice sa2 sn2 sc2, .slice sa3 sn3 sc3, .slice sa4 sn4 sc4, .slice sa5 sn5 sc5, gv], .row (.slice sa4 sn4 sc4) 111 1 (dcells c.sets gh), .fam (dfam 118 3 eEItem (set_ c.sets j_ ((at_ c.sets j_) ++ ([x_] : List EItem))) (upd gh j_ (sa7, sn7, sc7))), .row (.slice sa5 sn5 sc5) 138 1 (mcells (set_ c.met j_ (tput qEItem x_ 1 (at_ c.met j_))) gm), .fmp (mfam kEItem (set_ c.met j_ (tput qEItem x_ 1 (at_ c.met j_))) gm)] rfl (d_next [1, 1, 3, 3] 0 rfl rfl (d_one 15 rfl (by kernel_rfl) (o_v (v_indexAddr_d (le := c.sets) (hs := gh) 3 sl112 rfl rfl rfl h3) rfl (d_next [1, 1, 3, 3] 0 rfl rfl (d_one 16 rfl (by kernel_rfl) ?_)))))))))))))
 refine o_store_d (le := c.sets) (hs := gh) (set_ c.sets j_ ((at_ c.sets j_) ++ ([x_] : List EItem))) 3 (set_len _ _ _) rfl ty111 rfl rfl rfl h3 (o_H [.row (.slice sa6 sn6 sc6) 118 3 (([x_] : List EItem).map eEItem), .box b1 118 [.int .i64 x_.Rule, .int .i64 x_.Dot, .int .i64 x_.From], .box b 116 [.int .i64 c.g.Nts, .int .i64 c.g.Start, .slice sa1 sn1 sc1, .slice sa2 sn2 sc2, .slice sa3 sn3 sc3, .slice sa4 sn4 sc4, .slice sa5 sn5 sc5, gv], .row (.slice sa4 sn4 sc4) 111 1 (dcells (set_ c.sets j_ ((at_ c.sets j_) ++ ([x_] : List EItem))) (upd gh j_ (sa7, sn7, sc7))), .fam (dfam 118 3 eEItem (set_ c.sets j_ ((at_ c.sets j_) ++ ([x_] : List EItem))) (upd gh j_ (sa7, sn7, sc7))), .row (.slice sa5 sn5 sc5) 138 1 (mcells (set_ c.met j_ (tput qEItem x_ 1 (at_ c.met j_))) gm), .fmp (mfam kEItem (set_ c.met j_ (tput qEItem x_ 1 (at_ c.met j_))) gm)] rfl (d_next [1, 1, 3, 3] 0 rfl rfl (d_done (by kernel_rfl) ?_)))
 cases hF
 refine s_ret0 rfl fun a w hs => fin_sel hs [2, 2, 2, 2, 2] ⟨sa4, sn4, sc4, (upd gh j_ (sa7, sn7, sc7)), sa5, sn5, sc5, gm, rfl, rfl, rfl⟩ rfl sub_nil
theorem tri81 {k : Nat} {c : Earley_chart} {j_ : Int} {x_ : EItem} {b : Nat} {sa1 : Option Addr} {sn1 sc1 : Nat} {sa2 : Option Addr} {sn2 sc2 : Nat} {sa3 : Option Addr} {sn3 sc3 : Nat} {sa4 : Option Addr} {sn4 sc4 : Nat} {gh : Nat -> H3} {sa5 : Option Addr} {sn5 sc5 : Nat} {gm : Nat -> Nat} {gb : Nat} {r : Earley_chart} (hF : F.earley.chart_complete k c j_ x_ = some r) :
  Tri Try.prog 81 [.pointer (some ⟨b, 0, none⟩), .int .i64 j_, .agg #[.int .i64 x_.Rule, .int .i64 x_.Dot, .int .i64 x_.From]] [.box b 116 [.int .i64 c.g.Nts, .int .i64 c.g.Start, .slice sa1 sn1 sc1, .slice sa2 sn2 sc2, .slice sa3 sn3 sc3, .slice sa4 sn4 sc4, .slice sa5 sn5 sc5, .map (some gb)], .row (.slice sa4 sn4 sc4) 111 1 (dcells c.sets gh), .fam (dfam 118 3 eEItem c.sets gh), .row (.slice sa5 sn5 sc5) 138 1 (mcells c.met gm), .fmp (mfam kEItem c.met gm), .mp gb (mEnc intK (tenc c.empty))] [(.slice sa1 sn1 sc1, .slice 2 (c.g.Rules.map eRule)), (.slice sa2 sn2 sc2, .slice 1 (c.w_.map eU8)), (.slice sa3 sn3 sc3, .slice 1 (c.by_.map (eSl 1 eI64)))] (fun o H Φ => ∃ (sa18 : Option Addr) (sn18 sc18 : Nat) (gh6 : Nat -> H3) (sa19 : Option Addr) (sn19 sc19 : Nat) (gm6 : Nat -> Nat), o = .ret (.tuple #[]) /\ H = [.box b 116 [.int .i64 c.g.Nts, .int .i64 c.g.Start, .slice sa1 sn1 sc1, .slice sa2 sn2 sc2, .slice sa3 sn3 sc3, .slice sa18 sn18 sc18, .slice sa19 sn19 sc19, .map (some gb)], .row (.slice sa18 sn18 sc18) 111 1 (dcells r.sets gh6), .fam (dfam 118 3 eEItem r.sets gh6), .row (.slice sa19 sn19 sc19) 138 1 (mcells r.met gm6), .fmp (mfam kEItem r.met gm6), .mp gb (mEnc intK (tenc r.empty))] /\ Φ = []) := by
 unfold F.earley.chart_complete at hF
 refine tri_intro (n := 86) Try.func81 rfl Try.ntmps81 rfl fun w X => c_seq (c_region (o_box rfl rfl rfl fun b1 => o_seq (c_seq (c_draw (n := 11) [0, 0, 0, 0, 0, 0, 0] mixed rfl rfl (dv 0 rfl (v_move rfl) (dv 1 rfl (v_nilCheck rfl) (dv 2 rfl (fa 0 rfl) (dv 3 rfl (fa 2 rfl) (dv 4 rfl (vl 1 ty22 rfl rfl rfl) (dv 5 rfl (fa 0 rfl) (dv 6 rfl (vl 0 ty3 rfl rfl rfl) (ite_some hF fun h1 hF => dv 7 rfl (v_indexAddr_s (xs := c.g.Rules) (enc := eRule) sl22 rfl rfl (.f 0 rfl) h1) ?_))))))))))))
 refine dv 8 rfl (v_fieldAddr (v := .pointer (some ⟨blkA sa1, offA sa1 + (Int.toNat x_.Rule * 2 + 0), none⟩)) rfl (fun _ => by kernel_rfl)) (dv 9 rfl (v_load_s (xs := c.g.Rules) (enc := eRule) ty3 rfl (.f 0 rfl) h1 rfl rfl rfl rfl rfl rfl rfl) (dv 10 rfl (v_assign rfl) (d_done_seq (by kernel_rfl) (c_seq (c_seq (c_region (o_v (fa 2 rfl) rfl (o_v (vl 0 ty3 rfl rfl rfl) rfl (o_v (v_move rfl) rfl (o_v (v_bin rfl rfl rfl) rfl (o_seq ?_)))))))))))
 refine cT (fun E H Φ N' => ∀ (v_ : List (Int × Int)), F.earley.chart_complete_j1 k x_ c j_ v_ = some r -> Sat E [(0, .pointer (some ⟨b, 0, none⟩)), (1, .int .i64 j_), (2, .agg #[.int .i64 x_.Rule, .int .i64 x_.Dot, .int .i64 x_.From]), (5, .pointer (some ⟨b1, 0, none⟩)), (6, .int .i64 ((at_ c.g.Rules x_.Rule).Lhs))] [.box b1 118 [.int .i64 x_.Rule, .int .i64 x_.Dot, .int .i64 x_.From], .box b 116 [.int .i64 c.g.Nts, .int .i64 c.g.Start, .slice sa1 sn1 sc1, .slice sa2 sn2 sc2, .slice sa3 sn3 sc3, .slice sa4 sn4 sc4, .slice sa5 sn5 sc5, .map (some gb)], .mp gb (mEnc intK (tenc v_)), .row (.slice sa4 sn4 sc4) 111 1 (dcells c.sets gh), .fam (dfam 118 3 eEItem c.sets gh), .row (.slice sa5 sn5 sc5) 138 1 (mcells c.met gm), .fmp (mfam kEItem c.met gm)] Φ N') (fun N5 hN5 => ?_) ?_
 refine c_cond rfl (fun h10 => ?_) (fun h10 => ?_)
 replace hF := ite_t h10 hF
 refine c_region (o_v (v_move rfl) rfl (o_v (v_nilCheck rfl) rfl (o_v (fa 7 rfl) rfl (o_v (vl 1 ty114 rfl rfl rfl) rfl (o_v (v_move rfl) rfl (o_updateT (enc := intK) (eq := intE) (k := (at_ c.g.Rules x_.Rule).Lhs) (m := c.empty) 6 Try.underlying114 kt3 rfl rfl rfl rfl (o_H [.box b1 118 [.int .i64 x_.Rule, .int .i64 x_.Dot, .int .i64 x_.From], .box b 116 [.int .i64 c.g.Nts, .int .i64 c.g.Start, .slice sa1 sn1 sc1, .slice sa2 sn2 sc2, .slice sa3 sn3 sc3, .slice sa4 sn4 sc4, .slice sa5 sn5 sc5, .map (some gb)], .row (.slice sa4 sn4 sc4) 111 1 (dcells c.sets gh), .fam (dfam 118 3 eEItem c.sets gh), .row (.slice sa5 sn5 sc5) 138 1 (mcells c.met gm), .fmp (mfam kEItem c.met gm), .mp gb (mEnc intK (tenc (tput intE ((at_ c.g.Rules x_.Rule).Lhs) 1 c.empty)))] rfl (o_nil ?_))))))))
 refine s_st ?_ (hN5 (tput intE ((at_ c.g.Rules x_.Rule).Lhs) 1 c.empty) hF)
 exact st_le [0, 0, 4, 0, 0, 0, 0] (lea rfl) rfl (subs [0, 1, 2] rfl)
 replace hF := ite_f h10 hF
 refine c_skip ?_
 refine s_st ?_ (hN5 c.empty hF)
 exact st_le [0, 0, 4, 0, 0, 0, 0] (lea rfl) rfl (subs [0, 1, 2] rfl)
 intro v_ hF
 unfold F.earley.chart_complete_j1 at hF
 refine sat_wc (c_seq (c_region (o_v (v_assign rfl) rfl (o_seq ?_))))
 obtain ⟨o2, ho2, hF⟩ := bd hF
 refine cT (fun E H Φ N' => ∀ (sa8 : Option Addr) (sn8 sc8 : Nat) (gh2 : Nat -> H3) (sa9 : Option Addr) (sn9 sc9 : Nat) (gm2 : Nat -> Nat), Sat E [(0, .pointer (some ⟨b, 0, none⟩)), (1, .int .i64 j_), (2, .agg #[.int .i64 x_.Rule, .int .i64 x_.Dot, .int .i64 x_.From]), (5, .pointer (some ⟨b1, 0, none⟩)), (6, .int .i64 ((at_ c.g.Rules x_.Rule).Lhs))] [.box b1 118 [.int .i64 x_.Rule, .int .i64 x_.Dot, .int .i64 x_.From], .box b 116 [.int .i64 c.g.Nts, .int .i64 c.g.Start, .slice sa1 sn1 sc1, .slice sa2 sn2 sc2, .slice sa3 sn3 sc3, .slice sa8 sn8 sc8, .slice sa9 sn9 sc9, .map (some gb)], .mp gb (mEnc intK (tenc v_)), .row (.slice sa8 sn8 sc8) 111 1 (dcells o2.1 gh2), .fam (dfam 118 3 eEItem o2.1 gh2), .row (.slice sa9 sn9 sc9) 138 1 (mcells o2.2 gm2), .fmp (mfam kEItem o2.2 gm2)] Φ N') (fun N2 hN2 => ?_) ?_
 refine c_block ?_
 refine cL (fun E H Φ j a w => ∃ (i : Int) (sets_ : List (List EItem)) (met_ : List (List (EItem × Int))) (sa6 : Option Addr) (sn6 sc6 : Nat) (gh1 : Nat -> H3) (sa7 : Option Addr) (sn7 sc7 : Nat) (gm1 : Nat -> Nat), F.earley.chart_complete_l2 x_ c v_ j_ j i sets_ met_ = some o2 /\ St E [(0, .pointer (some ⟨b, 0, none⟩)), (1, .int .i64 j_), (2, .agg #[.int .i64 x_.Rule, .int .i64 x_.Dot, .int .i64 x_.From]), (5, .pointer (some ⟨b1, 0, none⟩)), (6, .int .i64 ((at_ c.g.Rules x_.Rule).Lhs)), (7, .int .i64 i)] [.box b1 118 [.int .i64 x_.Rule, .int .i64 x_.Dot, .int .i64 x_.From], .box b 116 [.int .i64 c.g.Nts, .int .i64 c.g.Start, .slice sa1 sn1 sc1, .slice sa2 sn2 sc2, .slice sa3 sn3 sc3, .slice sa6 sn6 sc6, .slice sa7 sn7 sc7, .map (some gb)], .mp gb (mEnc intK (tenc v_)), .row (.slice sa6 sn6 sc6) 111 1 (dcells sets_ gh1), .fam (dfam 118 3 eEItem sets_ gh1), .row (.slice sa7 sn7 sc7) 138 1 (mcells met_ gm1), .fmp (mfam kEItem met_ gm1)] Φ a w) k ?_ ?_
 intro a w hs
 exact ⟨0, c.sets, c.met, sa4, sn4, sc4, gh, sa5, sn5, sc5, gm, ho2, st_le [0, 0, 0, 0, 0, 0, 0] (lea rfl) rfl (subs [0, 1, 2] rfl) a w hs⟩
 rintro j a w ⟨i, sets_, met_, sa6, sn6, sc6, gh1, sa7, sn7, sc7, gm1, hL2, hs⟩
 rcases j with _ | j
 cases hL2
 refine wc_app hs ?_
 unfold F.earley.chart_complete_l2 at hL2
 refine c_seq (c_seq (c_draw (n := 11) [0, 0, 0, 0, 0, 0, 0] mixed rfl rfl (dv 0 rfl (v_move rfl) (dv 1 rfl (v_move rfl) (dv 2 rfl (v_nilCheck rfl) (dv 3 rfl (fa 5 rfl) (dv 4 rfl (vl 1 ty112 rfl rfl rfl) (dv 5 rfl (fa 2 rfl) (dv 6 rfl (vl 0 ty3 rfl rfl rfl) (ite_some hL2 fun h2 hL2 => dv 7 rfl (v_indexAddr_d (le := sets_) (hs := gh1) 3 sl112 rfl rfl rfl h2) (dv 8 rfl (v_load_d (le := sets_) (hs := gh1) 3 ty111 rfl rfl h2) (dv 9 rfl (v_lenS (enc := eEItem) (at_ sets_ x_.From) sl111 rfl (.m 4 _ _ rfl (dfam_get h2))) (dv 10 rfl (v_bin rfl rfl rfl) (d_done_seq (by kernel_rfl) ?_))))))))))))))
 refine c_cond rfl (fun h3 => ?_) (fun h3 => ?_)
 replace hL2 := ite_t h3 hL2
 refine c_skip (sat_wc (c_seq ?_))
 refine c_cut (fun E N' => ∀ (Dot_ : Int) (sets_1 : List (List EItem)) (met_1 : List (List (EItem × Int))) (sa10 : Option Addr) (sn10 sc10 : Nat) (sa11 : Option Addr) (sn11 sc11 : Nat) (gh3 : Nat -> H3) (sa12 : Option Addr) (sn12 sc12 : Nat) (gm3 : Nat -> Nat) (b2 : Nat), F.earley.chart_complete_j3 (F.earley.chart_complete_l2 x_ c v_ j_ j) i Dot_ sets_1 met_1 = some o2 -> Sat E [(0, .pointer (some ⟨b, 0, none⟩)), (1, .int .i64 j_), (2, .agg #[.int .i64 x_.Rule, .int .i64 x_.Dot, .int .i64 x_.From]), (5, .pointer (some ⟨b1, 0, none⟩)), (6, .int .i64 ((at_ c.g.Rules x_.Rule).Lhs)), (7, .int .i64 i), (8, .pointer (some ⟨b2, 0, none⟩)), (9, .slice sa10 sn10 sc10)] [.box b 116 [.int .i64 c.g.Nts, .int .i64 c.g.Start, .slice sa1 sn1 sc1, .slice sa2 sn2 sc2, .slice sa3 sn3 sc3, .slice sa11 sn11 sc11, .slice sa12 sn12 sc12, .map (some gb)], .box b1 118 [.int .i64 x_.Rule, .int .i64 x_.Dot, .int .i64 x_.From], .mp gb (mEnc intK (tenc v_)), .box b2 118 [.int .i64 ((at_ (at_ sets_ x_.From) i).Rule), .int .i64 Dot_, .int .i64 ((at_ (at_ sets_ x_.From) i).From)], .row (.slice sa11 sn11 sc11) 111 1 (dcells sets_1 gh3), .fam (dfam 118 3 eEItem sets_1 gh3), .row (.slice sa12 sn12 sc12) 138 1 (mcells met_1 gm3), .fmp (mfam kEItem met_1 gm3)] [(.slice sa10 sn10 sc10, .slice 5 (((at_ c.g.Rules ((at_ (at_ sets_ x_.From) i).Rule)).Rhs).map eKSym)), (.slice sa1 sn1 sc1, .slice 2 (c.g.Rules.map eRule)), (.slice sa2 sn2 sc2, .slice 1 (c.w_.map eU8)), (.slice sa3 sn3 sc3, .slice 1 (c.by_.map (eSl 1 eI64)))] N') (fun N3 hN3 => ?_) ?_
 refine c_block (c_seq (c_draw (n := 13) [0, 0, 0, 0, 0, 0, 0] mixed rfl rfl (dv 0 rfl (v_move rfl) (dv 1 rfl (v_nilCheck rfl) (dv 2 rfl (fa 5 rfl) (dv 3 rfl (vl 1 ty112 rfl rfl rfl) (dv 4 rfl (fa 2 rfl) (dv 5 rfl (vl 0 ty3 rfl rfl rfl) (dv 6 rfl (v_indexAddr_d (le := sets_) (hs := gh1) 3 sl112 rfl rfl rfl h2) (dv 7 rfl (v_load_d (le := sets_) (hs := gh1) 3 ty111 rfl rfl h2) (dv 8 rfl (v_move rfl) (ite_some hL2 fun h4 hL2 => dv 9 rfl (v_indexAddr_s (xs := (at_ sets_ x_.From)) (enc := eEItem) sl111 rfl rfl (.m 4 _ _ rfl (dfam_get h2)) h4) (dv 10 rfl (v_load_s (xs := (at_ sets_ x_.From)) (enc := eEItem) ty118 rfl (.m 4 _ _ rfl (dfam_get h2)) h4 rfl rfl rfl rfl rfl rfl rfl) (d_one 11 rfl (by kernel_rfl) ?_))))))))))))))
 refine o_alloc zero118 rfl rfl fun b3 => d_next [1, 1, 1, 1, 1, 1, 1] 0 rfl rfl (d_one 12 rfl (by kernel_rfl) (o_store_box 0 rfl ty118 rfl rfl rfl rfl rfl rfl rfl (d_next [1, 1, 1, 1, 1, 1, 1] 0 rfl rfl (d_done_seq (by kernel_rfl) (c_seq (ite_some hL2 fun h5 hL2 => c_elem (xs := c.g.Rules) (enc := eRule) 0 rfl h5 rfl rfl fun sa13 sn13 sc13 => c_draw (n := 11) [0, 0, 0, 0, 0, 0, 0, 0] mixed rfl rfl (dv 0 rfl (v_move rfl) (dv 1 rfl (v_nilCheck rfl) (dv 2 rfl (fa 0 rfl) (dv 3 rfl (fa 2 rfl) (dv 4 rfl (vl 2 ty22 rfl rfl rfl) (dv 5 rfl (fa 0 rfl) ?_))))))))))))
 refine dv 6 rfl (vl 0 ty3 rfl rfl rfl) (dv 7 rfl (v_indexAddr_s (xs := c.g.Rules) (enc := eRule) sl22 rfl rfl (.f 2 rfl) h5) (dv 8 rfl (v_fieldAddr (v := .pointer (some ⟨blkA sa1, offA sa1 + (Int.toNat ((at_ (at_ sets_ x_.From) i).Rule) * 2 + 1), none⟩)) rfl (fun _ => by kernel_rfl)) (dv 9 rfl (v_load_cl 0 ty48 rfl rfl rfl rfl rfl) (dv 10 rfl (v_assign rfl) (d_done_seq (by kernel_rfl) (c_seq ?_))))))
 refine cT (fun E H Φ N' => ∀ (t77 : Bool), F.earley.chart_complete_j4 c sets_ met_ v_ j_ x_ i (F.earley.chart_complete_l2 x_ c v_ j_ j) t77 = some o2 -> Sat E [(0, .pointer (some ⟨b, 0, none⟩)), (1, .int .i64 j_), (2, .agg #[.int .i64 x_.Rule, .int .i64 x_.Dot, .int .i64 x_.From]), (5, .pointer (some ⟨b1, 0, none⟩)), (6, .int .i64 ((at_ c.g.Rules x_.Rule).Lhs)), (7, .int .i64 i), (8, .pointer (some ⟨b3, 0, none⟩)), (9, .slice sa13 sn13 sc13), (77, .bool t77)] H [(.slice sa13 sn13 sc13, .slice 5 (((at_ c.g.Rules ((at_ (at_ sets_ x_.From) i).Rule)).Rhs).map eKSym)), (.slice sa1 sn1 sc1, .slice 2 (c.g.Rules.map eRule)), (.slice sa2 sn2 sc2, .slice 1 (c.w_.map eU8)), (.slice sa3 sn3 sc3, .slice 1 (c.by_.map (eSl 1 eI64)))] N') (fun N5 hN5 => ?_) ?_
 refine c_region (o_v (fa 1 rfl) rfl (o_v (vl 0 ty3 rfl rfl rfl) rfl (o_v (v_move rfl) rfl (o_v (v_lenS (enc := eKSym) ((at_ c.g.Rules ((at_ (at_ sets_ x_.From) i).Rule)).Rhs) sl48 rfl (.f 1 rfl)) rfl (o_v (v_bin rfl rfl rfl) rfl (o_v (v_move rfl) rfl ?_))))))
 refine o_split (t := 68) rfl (fun h8 => ?_) (fun h8 => ?_)
 replace hL2 := ite_t h8 hL2
 refine o_on rfl rfl (o_v (v_move rfl) rfl (o_on rfl rfl (o_v (fa 1 rfl) rfl (o_on rfl rfl (o_v (vl 0 ty3 rfl rfl rfl) rfl (o_on rfl rfl (ite_some hL2 fun h9 hL2 => o_v (v_indexAddr_s (xs := (at_ c.g.Rules ((at_ (at_ sets_ x_.From) i).Rule)).Rhs) (enc := eKSym) sl48 rfl rfl (.f 1 rfl) h9) rfl (o_on rfl rfl (o_v (v_fieldAddr (v := .pointer (some ⟨blkA sa13, offA sa13 + (Int.toNat ((at_ (at_ sets_ x_.From) i).Dot) * 5 + 0), none⟩)) rfl (fun _ => by kernel_rfl)) rfl (o_on rfl rfl (o_v (v_load_s (xs := (at_ c.g.Rules ((at_ (at_ sets_ x_.From) i).Rule)).Rhs) (enc := eKSym) ty3 rfl (.f 1 rfl) h9 rfl rfl rfl rfl rfl rfl rfl) rfl (o_on rfl rfl (o_v (v_move rfl) rfl (o_on rfl rfl ?_))))))))))))))
 refine o_v (v_bin rfl rfl rfl) rfl (o_v (v_pick_t rfl rfl) rfl (o_nil ?_))
 refine s_st ?_ (hN5 (((at_ ((at_ c.g.Rules ((at_ (at_ sets_ x_.From) i).Rule)).Rhs) ((at_ (at_ sets_ x_.From) i).Dot)).Nt) == ((at_ c.g.Rules x_.Rule).Lhs)) hL2)
 exact st_le [0, 0, 0, 0, 0, 0, 0, 0] (lea rfl) rfl (subs [1, 2, 3, 4] rfl)
 replace hL2 := ite_f h8 hL2
 refine o_off rfl rfl (by decide) rfl (o_off rfl rfl (by decide) rfl (o_off rfl rfl (by decide) rfl (o_off rfl rfl (by decide) rfl (o_off rfl rfl (by decide) rfl (o_off rfl rfl (by decide) rfl (o_off rfl rfl (by decide) rfl (o_off rfl rfl (by decide) rfl (o_v (v_pick_f rfl rfl) rfl (o_nil ?_)))))))))
 refine s_st ?_ (hN5 false hL2)
 exact st_le [0, 0, 0, 0, 0, 0, 0, 0] (lea rfl) rfl (subs [1, 2, 3, 4] rfl)
 intro t77 hL2
 unfold F.earley.chart_complete_j4 at hL2
 refine sat_wc ?_
 refine cT (fun E H Φ N' => ∀ (sets_2 : List (List EItem)) (met_2 : List (List (EItem × Int))) (Dot_1 : Int) (sa14 : Option Addr) (sn14 sc14 : Nat) (gh4 : Nat -> H3) (sa15 : Option Addr) (sn15 sc15 : Nat) (gm4 : Nat -> Nat), F.earley.chart_complete_j5 (F.earley.chart_complete_l2 x_ c v_ j_ j) i sets_2 met_2 Dot_1 = some o2 -> Sat E [(0, .pointer (some ⟨b, 0, none⟩)), (1, .int .i64 j_), (2, .agg #[.int .i64 x_.Rule, .int .i64 x_.Dot, .int .i64 x_.From]), (5, .pointer (some ⟨b1, 0, none⟩)), (6, .int .i64 ((at_ c.g.Rules x_.Rule).Lhs)), (7, .int .i64 i), (8, .pointer (some ⟨b3, 0, none⟩)), (9, .slice sa13 sn13 sc13)] [.box b 116 [.int .i64 c.g.Nts, .int .i64 c.g.Start, .slice sa1 sn1 sc1, .slice sa2 sn2 sc2, .slice sa3 sn3 sc3, .slice sa14 sn14 sc14, .slice sa15 sn15 sc15, .map (some gb)], .box b3 118 [.int .i64 ((at_ (at_ sets_ x_.From) i).Rule), .int .i64 Dot_1, .int .i64 ((at_ (at_ sets_ x_.From) i).From)], .box b1 118 [.int .i64 x_.Rule, .int .i64 x_.Dot, .int .i64 x_.From], .mp gb (mEnc intK (tenc v_)), .row (.slice sa14 sn14 sc14) 111 1 (dcells sets_2 gh4), .fam (dfam 118 3 eEItem sets_2 gh4), .row (.slice sa15 sn15 sc15) 138 1 (mcells met_2 gm4), .fmp (mfam kEItem met_2 gm4)] Φ N') (fun N5 hN5 => ?_) ?_
 refine c_cond rfl (fun h6 => ?_) (fun h6 => ?_)
 replace hL2 := ite_t h6 hL2
 refine c_seq (c_region (o_v (fa 1 rfl) rfl (o_v (vl 0 ty3 rfl rfl rfl) rfl (o_v (v_bin rfl rfl rfl) rfl (o_v (fa 1 rfl) rfl (o_store_box 0 rfl ty3 rfl rfl rfl rfl rfl rfl rfl (o_seq (c_region (o_v (v_move rfl) rfl (o_v (v_move rfl) rfl (o_v (vl 0 ty118 rfl rfl rfl) rfl ?_)))))))))))
 obtain ⟨v_1, h7, hL2⟩ := bd hL2
 refine ocl [2, 3, 3, 3, 3] call68 rfl rfl (subs [1, 2, 3] rfl) (tri68 h7 :) ?_
 rintro _ _ _ ⟨sa16, sn16, sc16, gh5, sa17, sn17, sc17, gm5, rfl, rfl, rfl⟩
 refine o_H [.box b 116 [.int .i64 c.g.Nts, .int .i64 c.g.Start, .slice sa1 sn1 sc1, .slice sa2 sn2 sc2, .slice sa3 sn3 sc3, .slice sa16 sn16 sc16, .slice sa17 sn17 sc17, .map (some gb)], .row (.slice sa16 sn16 sc16) 111 1 (dcells v_1.sets gh5), .fam (dfam 118 3 eEItem v_1.sets gh5), .row (.slice sa17 sn17 sc17) 138 1 (mcells v_1.met gm5), .fmp (mfam kEItem v_1.met gm5), .box b3 118 [.int .i64 ((at_ (at_ sets_ x_.From) i).Rule), .int .i64 (IntKind.wrap .i64 (((at_ (at_ sets_ x_.From) i).Dot) + 1)), .int .i64 ((at_ (at_ sets_ x_.From) i).From)], .box b1 118 [.int .i64 x_.Rule, .int .i64 x_.Dot, .int .i64 x_.From], .mp gb (mEnc intK (tenc v_))] rfl (o_nil ?_)
 refine s_st ?_ (hN5 v_1.sets v_1.met (IntKind.wrap .i64 (((at_ (at_ sets_ x_.From) i).Dot) + 1)) sa16 sn16 sc16 gh5 sa17 sn17 sc17 gm5 hL2)
 exact st_le [0, 4, 4, 4, 0, 0, 0, 0] (lea rfl) rfl (subs [0, 1, 2, 3] rfl)
 replace hL2 := ite_f h6 hL2
 refine c_skip ?_
 refine s_st ?_ (hN5 sets_ met_ ((at_ (at_ sets_ x_.From) i).Dot) sa6 sn6 sc6 gh1 sa7 sn7 sc7 gm1 hL2)
 exact st_le [2, 0, 0, 0, 0, 0, 0, 0] (lea rfl) rfl (subs [0, 1, 2, 3] rfl)
 intro sets_2 met_2 Dot_1 sa14 sn14 sc14 gh4 sa15 sn15 sc15 gm4 hL2
 unfold F.earley.chart_complete_j5 at hL2
 refine s_st ?_ (hN3 Dot_1 sets_2 met_2 sa13 sn13 sc13 sa14 sn14 sc14 gh4 sa15 sn15 sc15 gm4 b3 hL2)
 exact st_le [0, 1, 1, 0, 0, 0, 0, 0] (lea rfl) rfl (subs [0, 1, 2, 3] rfl)
 intro Dot_ sets_1 met_1 sa10 sn10 sc10 sa11 sn11 sc11 gh3 sa12 sn12 sc12 gm3 b2 hL2
 unfold F.earley.chart_complete_j3 at hL2
 refine sat_wc (c_region (o_v (v_move rfl) rfl (o_v (v_bin rfl rfl rfl) rfl (o_v (v_assign rfl) rfl (o_nil ?_)))))
 intro a w hs
 exact ⟨j, Nat.lt_succ_self j, IntKind.wrap .i64 (i + 1), sets_1, met_1, sa11, sn11, sc11, gh3, sa12, sn12, sc12, gm3, hL2, st_le [1, 0, 0, 1, 1, 1, 1] (lea rfl) rfl (subs [1, 2, 3] rfl) a w hs⟩
 replace hL2 := ite_f h3 hL2
 refine c_exit0 ?_
 cases hL2
 refine s_st ?_ (hN2 sa6 sn6 sc6 gh1 sa7 sn7 sc7 gm1)
 exact st_le [0, 0, 0, 0, 0, 0, 0] (lea rfl) rfl (subs [0, 1, 2] rfl)
 intro sa8 sn8 sc8 gh2 sa9 sn9 sc9 gm2
 cases hF
 refine s_ret0 rfl fun a w hs => fin_sel hs [1, 2, 2, 2, 2, 1] ⟨sa8, sn8, sc8, gh2, sa9, sn9, sc9, gm2, rfl, rfl, rfl⟩ rfl sub_nil
theorem tri62 {s : S4} {b : Int} {r : Bool} (hF : F.charset.Has s b = some r) :
  Tri Try.prog 62 [.agg #[.int .u64 s.w0, .int .u64 s.w1, .int .u64 s.w2, .int .u64 s.w3], .int .u8 b] [] [] (fun o H Φ => o = .ret (.bool r) /\ H = [] /\ Φ = []) := by
 unfold F.charset.Has at hF
 refine tri_intro (n := 14) Try.func62 rfl Try.ntmps62 rfl fun w X => c_seq (c_region (o_box rfl rfl rfl fun b1 => o_v (v_assign rfl) rfl (o_seq (c_seq (c_region (o_v (v_move rfl) rfl (o_v (v_quo rfl rfl rfl) rfl (ite_some hF fun h1 hF => o_v (v_indexAddr_a ar45 rfl rfl h1) rfl (o_v (v_load_a 0 s ty43 rfl rfl h1) rfl (o_v (v_move rfl) rfl (o_v (v_rem rfl rfl rfl) rfl (ite_none hF fun h2 hF => ?_))))))))))))
 refine o_v (v_shr rfl rfl h2) rfl (o_v (v_bit rfl rfl rfl) rfl (o_v (v_bin rfl rfl rfl) rfl (o_v (v_assign rfl) rfl (o_seq (c_ret ?_)))))
 cases hF
 refine s_ret1 rfl (r_tmp rfl) fun a w hs => fin_sel hs [] ⟨rfl, rfl, rfl⟩ rfl sub_nil
theorem tri69 {k : Nat} {c : Earley_chart} {j_ : Int} {x_ : EItem} {b : Nat} {sa1 : Option Addr} {sn1 sc1 : Nat} {sa2 : Option Addr} {sn2 sc2 : Nat} {sa3 : Option Addr} {sn3 sc3 : Nat} {sa4 : Option Addr} {sn4 sc4 : Nat} {gh : Nat -> H3} {sa5 : Option Addr} {sn5 sc5 : Nat} {gm : Nat -> Nat} {gb : Nat} {r : Earley_chart} (hF : F.earley.chart_step k c j_ x_ = some r) :
  Tri Try.prog 69 [.pointer (some ⟨b, 0, none⟩), .int .i64 j_, .agg #[.int .i64 x_.Rule, .int .i64 x_.Dot, .int .i64 x_.From]] [.box b 116 [.int .i64 c.g.Nts, .int .i64 c.g.Start, .slice sa1 sn1 sc1, .slice sa2 sn2 sc2, .slice sa3 sn3 sc3, .slice sa4 sn4 sc4, .slice sa5 sn5 sc5, .map (some gb)], .row (.slice sa4 sn4 sc4) 111 1 (dcells c.sets gh), .fam (dfam 118 3 eEItem c.sets gh), .row (.slice sa5 sn5 sc5) 138 1 (mcells c.met gm), .fmp (mfam kEItem c.met gm), .mp gb (mEnc intK (tenc c.empty))] [(.slice sa1 sn1 sc1, .slice 2 (c.g.Rules.map eRule)), (.slice sa2 sn2 sc2, .slice 1 (c.w_.map eU8)), (.slice sa3 sn3 sc3, .slice 1 (c.by_.map (eSl 1 eI64)))] (fun o H Φ => ∃ (sa20 : Option Addr) (sn20 sc20 : Nat) (gh7 : Nat -> H3) (sa21 : Option Addr) (sn21 sc21 : Nat) (gm7 : Nat -> Nat), o = .ret (.tuple #[]) /\ H = [.box b 116 [.int .i64 c.g.Nts, .int .i64 c.g.Start, .slice sa1 sn1 sc1, .slice sa2 sn2 sc2, .slice sa3 sn3 sc3, .slice sa20 sn20 sc20, .slice sa21 sn21 sc21, .map (some gb)], .row (.slice sa20 sn20 sc20) 111 1 (dcells r.sets gh7), .fam (dfam 118 3 eEItem r.sets gh7), .row (.slice sa21 sn21 sc21) 138 1 (mcells r.met gm7), .fmp (mfam kEItem r.met gm7), .mp gb (mEnc intK (tenc r.empty))] /\ Φ = []) := by
 unfold F.earley.chart_step at hF
 refine tri_intro (n := 102) Try.func69 rfl Try.ntmps69 rfl fun w X => c_seq (c_region (o_box rfl rfl rfl fun b1 => o_seq (c_seq (ite_some hF fun h1 hF => c_elem (xs := c.g.Rules) (enc := eRule) 0 rfl h1 rfl rfl fun sa6 sn6 sc6 => c_draw (n := 11) [0, 0, 0, 0, 0, 0, 0] mixed rfl rfl (dv 0 rfl (v_move rfl) (dv 1 rfl (v_nilCheck rfl) (dv 2 rfl (fa 0 rfl) (dv 3 rfl (fa 2 rfl) (dv 4 rfl (vl 1 ty22 rfl rfl rfl) (dv 5 rfl (fa 0 rfl) (dv 6 rfl (vl 0 ty3 rfl rfl rfl) ?_)))))))))))
 refine dv 7 rfl (v_indexAddr_s (xs := c.g.Rules) (enc := eRule) sl22 rfl rfl (.f 2 rfl) h1) (dv 8 rfl (v_fieldAddr (v := .pointer (some ⟨blkA sa1, offA sa1 + (Int.toNat x_.Rule * 2 + 1), none⟩)) rfl (fun _ => by kernel_rfl)) (dv 9 rfl (v_load_cl 0 ty48 rfl rfl rfl rfl rfl) (dv 10 rfl (v_assign rfl) (d_done_seq (by kernel_rfl) (c_seq (c_seq (c_region (o_v (fa 1 rfl) rfl (o_v (vl 0 ty3 rfl rfl rfl) rfl (o_v (v_move rfl) rfl (o_v (v_lenS (enc := eKSym) ((at_ c.g.Rules x_.Rule).Rhs) sl48 rfl (.f 1 rfl)) rfl (o_v (v_bin rfl rfl rfl) rfl (o_seq ?_)))))))))))))
 refine c_cond rfl (fun h2 => ?_) (fun h2 => ?_)
 replace hF := ite_t h2 hF
 refine c_seq (c_region (o_v (v_move rfl) rfl (o_v (v_move rfl) rfl (o_v (vl 0 ty118 rfl rfl rfl) rfl ?_))))
 obtain ⟨v_, h3, hF⟩ := bd hF
 refine ocl [1, 1, 1, 1, 1, 1] call81 rfl rfl (subs [2, 3, 4] rfl) (tri81 h3 :) ?_
 rintro _ _ _ ⟨sa7, sn7, sc7, gh1, sa8, sn8, sc8, gm1, rfl, rfl, rfl⟩
 refine o_H [.box b 116 [.int .i64 c.g.Nts, .int .i64 c.g.Start, .slice sa1 sn1 sc1, .slice sa2 sn2 sc2, .slice sa3 sn3 sc3, .slice sa7 sn7 sc7, .slice sa8 sn8 sc8, .map (some gb)], .row (.slice sa7 sn7 sc7) 111 1 (dcells v_.sets gh1), .fam (dfam 118 3 eEItem v_.sets gh1), .row (.slice sa8 sn8 sc8) 138 1 (mcells v_.met gm1), .fmp (mfam kEItem v_.met gm1), .mp gb (mEnc intK (tenc v_.empty)), .box b1 118 [.int .i64 x_.Rule, .int .i64 x_.Dot, .int .i64 x_.From]] rfl (o_seq (c_ret ?_))
 cases hF
 refine s_ret0 rfl fun a w hs => fin_sel hs [0, 0, 0, 0, 0, 0] ⟨sa7, sn7, sc7, gh1, sa8, sn8, sc8, gm1, rfl, rfl, rfl⟩ rfl sub_nil
 replace hF := ite_f h2 hF
 refine c_skip (sat_wc (c_seq (c_region (o_v (v_move rfl) rfl (o_v (fa 1 rfl) rfl (o_v (vl 0 ty3 rfl rfl rfl) rfl (ite_some hF fun h4 hF => o_v (v_indexAddr_s (xs := (at_ c.g.Rules x_.Rule).Rhs) (enc := eKSym) sl48 rfl rfl (.f 1 rfl) h4) rfl (o_v (v_load_s (xs := (at_ c.g.Rules x_.Rule).Rhs) (enc := eKSym) ty47 rfl (.f 1 rfl) h4 rfl rfl rfl rfl rfl rfl rfl) rfl (o_alloc zero47 rfl rfl fun b2 => o_store_box 0 rfl ty47 rfl rfl rfl rfl rfl rfl rfl (o_seq (c_seq (c_region (o_v (fa 0 rfl) rfl ?_)))))))))))))
 refine o_v (vl 1 ty3 rfl rfl rfl) rfl (o_v (fa 1 rfl) rfl (o_v (vl 1 ty3 rfl rfl rfl) rfl (o_v (v_bin rfl rfl rfl) rfl (o_v (fa 2 rfl) rfl (o_v (vl 1 ty3 rfl rfl rfl) rfl (o_v (v_build (v := .agg #[.int .i64 x_.Rule, .int .i64 (IntKind.wrap .i64 (x_.Dot + 1)), .int .i64 x_.From]) rfl (fun _ => by kernel_rfl)) rfl (o_alloc zero118 rfl rfl fun b3 => o_store_box 0 rfl ty118 rfl rfl rfl rfl rfl rfl rfl (o_H [.box b3 118 [.int .i64 x_.Rule, .int .i64 (IntKind.wrap .i64 (x_.Dot + 1)), .int .i64 x_.From], .box b2 47 [.int .i64 ((at_ ((at_ c.g.Rules x_.Rule).Rhs) x_.Dot).Nt), .int .u64 ((at_ ((at_ c.g.Rules x_.Rule).Rhs) x_.Dot).Set.w0), .int .u64 ((at_ ((at_ c.g.Rules x_.Rule).Rhs) x_.Dot).Set.w1), .int .u64 ((at_ ((at_ c.g.Rules x_.Rule).Rhs) x_.Dot).Set.w2), .int .u64 ((at_ ((at_ c.g.Rules x_.Rule).Rhs) x_.Dot).Set.w3)], .box b1 118 [.int .i64 x_.Rule, .int .i64 x_.Dot, .int .i64 x_.From], .box b 116 [.int .i64 c.g.Nts, .int .i64 c.g.Start, .slice sa1 sn1 sc1, .slice sa2 sn2 sc2, .slice sa3 sn3 sc3, .slice sa4 sn4 sc4, .slice sa5 sn5 sc5, .map (some gb)], .row (.slice sa4 sn4 sc4) 111 1 (dcells c.sets gh), .fam (dfam 118 3 eEItem c.sets gh), .row (.slice sa5 sn5 sc5) 138 1 (mcells c.met gm), .fmp (mfam kEItem c.met gm), .mp gb (mEnc intK (tenc c.empty))] rfl (o_seq (c_seq (c_seq (c_region (o_v (fa 0 rfl) rfl (o_v (vl 1 ty3 rfl rfl rfl) rfl ?_))))))))))))))
 refine o_v (v_bin rfl rfl rfl) rfl (o_seq ?_)
 refine c_cond rfl (fun h5 => ?_) (fun h5 => ?_)
 replace hF := ite_t h5 hF
 refine c_seq (c_seq ?_)
 refine c_cut (fun E N' => ∀ (t64 : Bool), F.earley.chart_step_j1 c j_ x_ t64 = some r -> Sat E [(0, .pointer (some ⟨b, 0, none⟩)), (1, .int .i64 j_), (2, .agg #[.int .i64 x_.Rule, .int .i64 x_.Dot, .int .i64 x_.From]), (5, .pointer (some ⟨b1, 0, none⟩)), (6, .slice sa6 sn6 sc6), (7, .pointer (some ⟨b2, 0, none⟩)), (8, .pointer (some ⟨b3, 0, none⟩)), (64, .bool t64)] [.box b3 118 [.int .i64 x_.Rule, .int .i64 (IntKind.wrap .i64 (x_.Dot + 1)), .int .i64 x_.From], .box b2 47 [.int .i64 ((at_ ((at_ c.g.Rules x_.Rule).Rhs) x_.Dot).Nt), .int .u64 ((at_ ((at_ c.g.Rules x_.Rule).Rhs) x_.Dot).Set.w0), .int .u64 ((at_ ((at_ c.g.Rules x_.Rule).Rhs) x_.Dot).Set.w1), .int .u64 ((at_ ((at_ c.g.Rules x_.Rule).Rhs) x_.Dot).Set.w2), .int .u64 ((at_ ((at_ c.g.Rules x_.Rule).Rhs) x_.Dot).Set.w3)], .box b1 118 [.int .i64 x_.Rule, .int .i64 x_.Dot, .int .i64 x_.From], .box b 116 [.int .i64 c.g.Nts, .int .i64 c.g.Start, .slice sa1 sn1 sc1, .slice sa2 sn2 sc2, .slice sa3 sn3 sc3, .slice sa4 sn4 sc4, .slice sa5 sn5 sc5, .map (some gb)], .mp gb (mEnc intK (tenc c.empty)), .row (.slice sa4 sn4 sc4) 111 1 (dcells c.sets gh), .fam (dfam 118 3 eEItem c.sets gh), .row (.slice sa5 sn5 sc5) 138 1 (mcells c.met gm), .fmp (mfam kEItem c.met gm)] [(.slice sa6 sn6 sc6, .slice 5 (((at_ c.g.Rules x_.Rule).Rhs).map eKSym)), (.slice sa1 sn1 sc1, .slice 2 (c.g.Rules.map eRule)), (.slice sa2 sn2 sc2, .slice 1 (c.w_.map eU8)), (.slice sa3 sn3 sc3, .slice 1 (c.by_.map (eSl 1 eI64)))] N') (fun N1 hN1 => ?_) ?_
 refine c_draw (n := 19) [0, 0, 0, 0, 0, 0, 0, 0, 0] mixed rfl rfl (dv 0 rfl (v_move rfl) (dv 1 rfl (v_move rfl) (dv 2 rfl (v_nilCheck rfl) (dv 3 rfl (fa 3 rfl) (dv 4 rfl (vl 3 ty25 rfl rfl rfl) (dv 5 rfl (v_lenS (enc := eU8) c.w_ sl25 rfl (.f 3 rfl)) (dv 6 rfl (v_bin rfl rfl rfl) (dv 7 rfl (v_move rfl) ?_))))))))
 refine d_split (t := 53) rfl (fun h8 => ?_) (fun h8 => ?_)
 replace hF := ite_t h8 hF
 refine dw 8 rfl rfl rfl (fa 1 rfl) (dw 9 rfl rfl rfl (vl 1 ty45 rfl rfl rfl) (dw 10 rfl rfl rfl (v_move rfl) (dw 11 rfl rfl rfl (v_nilCheck rfl) (dw 12 rfl rfl rfl (fa 3 rfl) (dw 13 rfl rfl rfl (vl 3 ty25 rfl rfl rfl) (dw 14 rfl rfl rfl (v_move rfl) (ite_some hF fun h9 hF => dw 15 rfl rfl rfl (v_indexAddr_s (xs := c.w_) (enc := eU8) sl25 rfl rfl (.f 3 rfl) h9) (dw 16 rfl rfl rfl (v_load_s (xs := c.w_) (enc := eU8) ty5 rfl (.f 3 rfl) h9 rfl rfl rfl rfl rfl rfl rfl) (d_one 17 rfl (by kernel_rfl) (o_on rfl rfl ?_))))))))))
 obtain ⟨v_2, h10, hF⟩ := bd hF
 refine o_callSB call62 rfl lent_nil (tri62 h10 :) rfl (d_next [0, 0, 0, 0, 0, 0, 0, 0, 0] 0 rfl rfl (dv 18 rfl (v_pick_t rfl rfl) (d_done (by kernel_rfl) ?_)))
 refine s_st ?_ (hN1 v_2 hF)
 exact st_le [0, 0, 0, 0, 4, 0, 0, 0, 0] (lea rfl) rfl (subs [1, 2, 3, 4] rfl)
 replace hF := ite_f h8 hF
 refine d_off 8 rfl rfl rfl (by decide) pnok (by kernel_rfl) (by kernel_rfl) (by kernel_rfl) rfl (d_off 9 rfl rfl rfl (by decide) pnok (by kernel_rfl) (by kernel_rfl) (by kernel_rfl) rfl (d_off 10 rfl rfl rfl (by decide) pnok (by kernel_rfl) (by kernel_rfl) (by kernel_rfl) rfl (d_off 11 rfl rfl rfl (by decide) pnok (by kernel_rfl) (by kernel_rfl) (by kernel_rfl) rfl (d_off 12 rfl rfl rfl (by decide) pnok (by kernel_rfl) (by kernel_rfl) (by kernel_rfl) rfl (d_off 13 rfl rfl rfl (by decide) pnok (by kernel_rfl) (by kernel_rfl) (by kernel_rfl) rfl (d_off 14 rfl rfl rfl (by decide) pnok (by kernel_rfl) (by kernel_rfl) (by kernel_rfl) rfl (d_off 15 rfl rfl rfl (by decide) pnok (by kernel_rfl) (by kernel_rfl) (by kernel_rfl) rfl (d_off 16 rfl rfl rfl (by decide) pnok (by kernel_rfl) (by kernel_rfl) (by kernel_rfl) rfl (d_off 17 rfl rfl rfl (by decide) pnok (by kernel_rfl) (by kernel_rfl) (by kernel_rfl) rfl (dv 18 rfl (v_pick_f rfl rfl) (d_done (by kernel_rfl) ?_)))))))))))
 refine s_st ?_ (hN1 false hF)
 exact st_le [0, 0, 0, 0, 4, 0, 0, 0, 0] (lea rfl) rfl (subs [1, 2, 3, 4] rfl)
 intro t64 hF
 unfold F.earley.chart_step_j1 at hF
 refine sat_wc ?_
 refine c_cond rfl (fun h6 => ?_) (fun h6 => ?_)
 replace hF := ite_t h6 hF
 refine c_region (o_v (v_move rfl) rfl (o_v (v_move rfl) rfl (o_v (v_bin rfl rfl rfl) rfl (o_v (vl 0 ty118 rfl rfl rfl) rfl ?_))))
 obtain ⟨v_1, h7, hF⟩ := bd hF
 refine ocl [3, 4, 4, 4, 4] call68 rfl rfl (subs [1, 2, 3] rfl) (tri68 h7 :) ?_
 rintro _ _ _ ⟨sa9, sn9, sc9, gh2, sa10, sn10, sc10, gm2, rfl, rfl, rfl⟩
 refine o_H [.box b 116 [.int .i64 c.g.Nts, .int .i64 c.g.Start, .slice sa1 sn1 sc1, .slice sa2 sn2 sc2, .slice sa3 sn3 sc3, .slice sa9 sn9 sc9, .slice sa10 sn10 sc10, .map (some gb)], .row (.slice sa9 sn9 sc9) 111 1 (dcells v_1.sets gh2), .fam (dfam 118 3 eEItem v_1.sets gh2), .row (.slice sa10 sn10 sc10) 138 1 (mcells v_1.met gm2), .fmp (mfam kEItem v_1.met gm2), .box b3 118 [.int .i64 x_.Rule, .int .i64 (IntKind.wrap .i64 (x_.Dot + 1)), .int .i64 x_.From], .box b2 47 [.int .i64 ((at_ ((at_ c.g.Rules x_.Rule).Rhs) x_.Dot).Nt), .int .u64 ((at_ ((at_ c.g.Rules x_.Rule).Rhs) x_.Dot).Set.w0), .int .u64 ((at_ ((at_ c.g.Rules x_.Rule).Rhs) x_.Dot).Set.w1), .int .u64 ((at_ ((at_ c.g.Rules x_.Rule).Rhs) x_.Dot).Set.w2), .int .u64 ((at_ ((at_ c.g.Rules x_.Rule).Rhs) x_.Dot).Set.w3)], .box b1 118 [.int .i64 x_.Rule, .int .i64 x_.Dot, .int .i64 x_.From], .mp gb (mEnc intK (tenc c.empty))] rfl (o_seq (c_ret ?_))
 cases hF
 refine s_ret0 rfl fun a w hs => fin_sel hs [0, 0, 0, 0, 0, 3] ⟨sa9, sn9, sc9, gh2, sa10, sn10, sc10, gm2, rfl, rfl, rfl⟩ rfl sub_nil
 replace hF := ite_f h6 hF
 refine c_skip (sat_wc (c_ret ?_))
 cases hF
 refine s_ret0 rfl fun a w hs => fin_sel hs [3, 4, 4, 4, 4, 3] ⟨sa4, sn4, sc4, gh, sa5, sn5, sc5, gm, rfl, rfl, rfl⟩ rfl sub_nil
 replace hF := ite_f h5 hF
 refine c_skip (sat_wc (c_seq (c_seq (ite_some hF fun h11 hF => c_elem (xs := c.by_) (enc := (eSl 1 eI64)) 4 rfl h11 rfl rfl fun sa11 sn11 sc11 => c_draw (n := 10) [0, 0, 0, 0, 0, 0, 0, 0, 0] mixed rfl rfl (dv 0 rfl (v_move rfl) (dv 1 rfl (v_nilCheck rfl) (dv 2 rfl (fa 4 rfl) (dv 3 rfl (vl 3 ty87 rfl rfl rfl) (dv 4 rfl (fa 0 rfl) (dv 5 rfl (vl 1 ty3 rfl rfl rfl) (dv 6 rfl (v_indexAddr_s (xs := c.by_) (enc := (eSl 1 eI64)) sl87 rfl rfl (.f 6 rfl) h11) (dv 7 rfl (v_load_cl 0 ty59 rfl rfl rfl rfl rfl) (dv 8 rfl (v_lenS (enc := eI64) (at_ c.by_ ((at_ ((at_ c.g.Rules x_.Rule).Rhs) x_.Dot).Nt)) sl59 rfl (.f 1 rfl)) ?_)))))))))))))
 refine dv 9 rfl (v_move rfl) (d_done_seq (by kernel_rfl) ?_)
 obtain ⟨o2, ho2, hF⟩ := bd hF
 refine c_cut (fun E N' => ∀ (sa14 : Option Addr) (sn14 sc14 : Nat) (gh4 : Nat -> H3) (sa15 : Option Addr) (sn15 sc15 : Nat) (gm4 : Nat -> Nat), Sat E [(0, .pointer (some ⟨b, 0, none⟩)), (1, .int .i64 j_), (2, .agg #[.int .i64 x_.Rule, .int .i64 x_.Dot, .int .i64 x_.From]), (5, .pointer (some ⟨b1, 0, none⟩)), (6, .slice sa6 sn6 sc6), (7, .pointer (some ⟨b2, 0, none⟩)), (8, .pointer (some ⟨b3, 0, none⟩)), (77, .slice sa11 sn11 sc11)] [.box b3 118 [.int .i64 x_.Rule, .int .i64 (IntKind.wrap .i64 (x_.Dot + 1)), .int .i64 x_.From], .box b2 47 [.int .i64 ((at_ ((at_ c.g.Rules x_.Rule).Rhs) x_.Dot).Nt), .int .u64 ((at_ ((at_ c.g.Rules x_.Rule).Rhs) x_.Dot).Set.w0), .int .u64 ((at_ ((at_ c.g.Rules x_.Rule).Rhs) x_.Dot).Set.w1), .int .u64 ((at_ ((at_ c.g.Rules x_.Rule).Rhs) x_.Dot).Set.w2), .int .u64 ((at_ ((at_ c.g.Rules x_.Rule).Rhs) x_.Dot).Set.w3)], .box b1 118 [.int .i64 x_.Rule, .int .i64 x_.Dot, .int .i64 x_.From], .box b 116 [.int .i64 c.g.Nts, .int .i64 c.g.Start, .slice sa1 sn1 sc1, .slice sa2 sn2 sc2, .slice sa3 sn3 sc3, .slice sa14 sn14 sc14, .slice sa15 sn15 sc15, .map (some gb)], .mp gb (mEnc intK (tenc c.empty)), .row (.slice sa14 sn14 sc14) 111 1 (dcells o2.1 gh4), .fam (dfam 118 3 eEItem o2.1 gh4), .row (.slice sa15 sn15 sc15) 138 1 (mcells o2.2 gm4), .fmp (mfam kEItem o2.2 gm4)] [(.slice sa6 sn6 sc6, .slice 5 (((at_ c.g.Rules x_.Rule).Rhs).map eKSym)), (.slice sa11 sn11 sc11, .slice 1 ((at_ c.by_ ((at_ ((at_ c.g.Rules x_.Rule).Rhs) x_.Dot).Nt)).map eI64)), (.slice sa1 sn1 sc1, .slice 2 (c.g.Rules.map eRule)), (.slice sa2 sn2 sc2, .slice 1 (c.w_.map eU8)), (.slice sa3 sn3 sc3, .slice 1 (c.by_.map (eSl 1 eI64)))] N') (fun N2 hN2 => ?_) ?_
 refine c_block ?_
 refine c_loopE (fun E j a w => ∃ (t79 : Int) (sets_ : List (List EItem)) (met_ : List (List (EItem × Int))) (sa12 : Option Addr) (sn12 sc12 : Nat) (gh3 : Nat -> H3) (sa13 : Option Addr) (sn13 sc13 : Nat) (gm3 : Nat -> Nat), F.earley.chart_step_l2 c x_ j_ j t79 sets_ met_ = some o2 /\ St E [(0, .pointer (some ⟨b, 0, none⟩)), (1, .int .i64 j_), (2, .agg #[.int .i64 x_.Rule, .int .i64 x_.Dot, .int .i64 x_.From]), (5, .pointer (some ⟨b1, 0, none⟩)), (6, .slice sa6 sn6 sc6), (7, .pointer (some ⟨b2, 0, none⟩)), (8, .pointer (some ⟨b3, 0, none⟩)), (77, .slice sa11 sn11 sc11), (78, .int .i64 ((at_ c.by_ ((at_ ((at_ c.g.Rules x_.Rule).Rhs) x_.Dot).Nt)).length : Int)), (79, .int .i64 t79)] [.box b3 118 [.int .i64 x_.Rule, .int .i64 (IntKind.wrap .i64 (x_.Dot + 1)), .int .i64 x_.From], .box b2 47 [.int .i64 ((at_ ((at_ c.g.Rules x_.Rule).Rhs) x_.Dot).Nt), .int .u64 ((at_ ((at_ c.g.Rules x_.Rule).Rhs) x_.Dot).Set.w0), .int .u64 ((at_ ((at_ c.g.Rules x_.Rule).Rhs) x_.Dot).Set.w1), .int .u64 ((at_ ((at_ c.g.Rules x_.Rule).Rhs) x_.Dot).Set.w2), .int .u64 ((at_ ((at_ c.g.Rules x_.Rule).Rhs) x_.Dot).Set.w3)], .box b1 118 [.int .i64 x_.Rule, .int .i64 x_.Dot, .int .i64 x_.From], .box b 116 [.int .i64 c.g.Nts, .int .i64 c.g.Start, .slice sa1 sn1 sc1, .slice sa2 sn2 sc2, .slice sa3 sn3 sc3, .slice sa12 sn12 sc12, .slice sa13 sn13 sc13, .map (some gb)], .mp gb (mEnc intK (tenc c.empty)), .row (.slice sa12 sn12 sc12) 111 1 (dcells sets_ gh3), .fam (dfam 118 3 eEItem sets_ gh3), .row (.slice sa13 sn13 sc13) 138 1 (mcells met_ gm3), .fmp (mfam kEItem met_ gm3)] [(.slice sa6 sn6 sc6, .slice 5 (((at_ c.g.Rules x_.Rule).Rhs).map eKSym)), (.slice sa11 sn11 sc11, .slice 1 ((at_ c.by_ ((at_ ((at_ c.g.Rules x_.Rule).Rhs) x_.Dot).Nt)).map eI64)), (.slice sa1 sn1 sc1, .slice 2 (c.g.Rules.map eRule)), (.slice sa2 sn2 sc2, .slice 1 (c.w_.map eU8)), (.slice sa3 sn3 sc3, .slice 1 (c.by_.map (eSl 1 eI64)))] a w) k ?_ ?_
 intro a w hs
 exact ⟨0, c.sets, c.met, sa4, sn4, sc4, gh, sa5, sn5, sc5, gm, ho2, st_le [0, 0, 0, 0, 4, 0, 0, 0, 0] (lea rfl) rfl (subs [3, 1, 4, 5, 6] rfl) a w hs⟩
 rintro j a w ⟨t79, sets_, met_, sa12, sn12, sc12, gh3, sa13, sn13, sc13, gm3, hL2, hs⟩
 rcases j with _ | j
 cases hL2
 refine wc_app hs ?_
 unfold F.earley.chart_step_l2 at hL2
 refine c_seq (c_region (o_v (v_bin rfl rfl rfl) rfl (o_seq (c_seq ?_))))
 refine c_cond rfl (fun h12 => ?_) (fun h12 => ?_)
 replace hL2 := ite_t h12 hL2
 refine c_skip (sat_wc (c_seq (c_block (c_seq (c_region (ite_some hL2 fun h13 hL2 => o_v (v_indexAddr_s (xs := at_ c.by_ ((at_ ((at_ c.g.Rules x_.Rule).Rhs) x_.Dot).Nt)) (enc := eI64) sl59 rfl rfl (.f 1 rfl) h13) rfl (o_v (v_load_s (xs := at_ c.by_ ((at_ ((at_ c.g.Rules x_.Rule).Rhs) x_.Dot).Nt)) (enc := eI64) ty3 rfl (.f 1 rfl) h13 rfl rfl rfl rfl rfl rfl rfl) rfl (o_v (v_assign rfl) rfl (o_seq (c_region (o_v (v_move rfl) rfl (o_v (v_move rfl) rfl (o_v (v_move rfl) rfl (o_v (v_move rfl) rfl ?_))))))))))))))
 refine o_v (v_build (v := .agg #[.int .i64 (at_ (at_ c.by_ ((at_ ((at_ c.g.Rules x_.Rule).Rhs) x_.Dot).Nt)) t79), .int .i64 0, .int .i64 j_]) rfl (fun _ => by kernel_rfl)) rfl ?_
 obtain ⟨v_3, h14, hL2⟩ := bd hL2
 refine ocl [3, 4, 4, 4, 4] call68 rfl rfl (subs [2, 3, 4] rfl) (tri68 h14 :) ?_
 rintro _ _ _ ⟨sa16, sn16, sc16, gh5, sa17, sn17, sc17, gm5, rfl, rfl, rfl⟩
 refine o_H [.box b 116 [.int .i64 c.g.Nts, .int .i64 c.g.Start, .slice sa1 sn1 sc1, .slice sa2 sn2 sc2, .slice sa3 sn3 sc3, .slice sa16 sn16 sc16, .slice sa17 sn17 sc17, .map (some gb)], .row (.slice sa16 sn16 sc16) 111 1 (dcells v_3.sets gh5), .fam (dfam 118 3 eEItem v_3.sets gh5), .row (.slice sa17 sn17 sc17) 138 1 (mcells v_3.met gm5), .fmp (mfam kEItem v_3.met gm5), .box b3 118 [.int .i64 x_.Rule, .int .i64 (IntKind.wrap .i64 (x_.Dot + 1)), .int .i64 x_.From], .box b2 47 [.int .i64 ((at_ ((at_ c.g.Rules x_.Rule).Rhs) x_.Dot).Nt), .int .u64 ((at_ ((at_ c.g.Rules x_.Rule).Rhs) x_.Dot).Set.w0), .int .u64 ((at_ ((at_ c.g.Rules x_.Rule).Rhs) x_.Dot).Set.w1), .int .u64 ((at_ ((at_ c.g.Rules x_.Rule).Rhs) x_.Dot).Set.w2), .int .u64 ((at_ ((at_ c.g.Rules x_.Rule).Rhs) x_.Dot).Set.w3)], .box b1 118 [.int .i64 x_.Rule, .int .i64 x_.Dot, .int .i64 x_.From], .mp gb (mEnc intK (tenc c.empty))] rfl (o_nil (sat_wc (c_region (o_v (v_bin rfl rfl rfl) rfl (o_v (v_move rfl) rfl (o_nil ?_))))))
 intro a w hs
 exact ⟨j, Nat.lt_succ_self j, IntKind.wrap .i64 (t79 + 1), v_3.sets, v_3.met, sa16, sn16, sc16, gh5, sa17, sn17, sc17, gm5, hL2, st_le [5, 5, 5, 0, 4, 0, 0, 0, 0] (lea rfl) rfl (subs [0, 1, 2, 3, 4] rfl) a w hs⟩
 replace hL2 := ite_f h12 hL2
 refine c_exit0 ?_
 cases hL2
 refine s_st ?_ (hN2 sa12 sn12 sc12 gh3 sa13 sn13 sc13 gm3)
 exact st_le [0, 0, 0, 0, 0, 0, 0, 0, 0] (lea rfl) rfl (subs [0, 1, 2, 3, 4] rfl)
 intro sa14 sn14 sc14 gh4 sa15 sn15 sc15 gm4
 refine sat_wc (c_seq (c_draw (n := 8) [0, 0, 0, 0, 0, 0, 0, 0, 0] mixed rfl rfl (dv 0 rfl (v_move rfl) (dv 1 rfl (v_nilCheck rfl) (dv 2 rfl (fa 7 rfl) (dv 3 rfl (vl 3 ty114 rfl rfl rfl) (dv 4 rfl (fa 0 rfl) (dv 5 rfl (vl 1 ty3 rfl rfl rfl) (dv 6 rfl (v_lookT (enc := intK) (eq := intE) (k := (at_ ((at_ c.g.Rules x_.Rule).Rhs) x_.Dot).Nt) (m := c.empty) 4 Try.underlying114 kt3 zero3 rfl rfl rfl) (dv 7 rfl (v_bin rfl rfl rfl) (d_done_seq (by kernel_rfl) ?_)))))))))))
 refine c_cond rfl (fun h15 => ?_) (fun h15 => ?_)
 replace hF := ite_t h15 hF
 refine c_region (o_v (v_move rfl) rfl (o_v (v_move rfl) rfl (o_v (vl 0 ty118 rfl rfl rfl) rfl ?_)))
 obtain ⟨v_4, h16, hF⟩ := bd hF
 refine ocl [3, 4, 4, 4, 4] call68 rfl rfl (subs [2, 3, 4] rfl) (tri68 h16 :) ?_
 rintro _ _ _ ⟨sa18, sn18, sc18, gh6, sa19, sn19, sc19, gm6, rfl, rfl, rfl⟩
 refine o_H [.box b 116 [.int .i64 c.g.Nts, .int .i64 c.g.Start, .slice sa1 sn1 sc1, .slice sa2 sn2 sc2, .slice sa3 sn3 sc3, .slice sa18 sn18 sc18, .slice sa19 sn19 sc19, .map (some gb)], .row (.slice sa18 sn18 sc18) 111 1 (dcells v_4.sets gh6), .fam (dfam 118 3 eEItem v_4.sets gh6), .row (.slice sa19 sn19 sc19) 138 1 (mcells v_4.met gm6), .fmp (mfam kEItem v_4.met gm6), .box b3 118 [.int .i64 x_.Rule, .int .i64 (IntKind.wrap .i64 (x_.Dot + 1)), .int .i64 x_.From], .box b2 47 [.int .i64 ((at_ ((at_ c.g.Rules x_.Rule).Rhs) x_.Dot).Nt), .int .u64 ((at_ ((at_ c.g.Rules x_.Rule).Rhs) x_.Dot).Set.w0), .int .u64 ((at_ ((at_ c.g.Rules x_.Rule).Rhs) x_.Dot).Set.w1), .int .u64 ((at_ ((at_ c.g.Rules x_.Rule).Rhs) x_.Dot).Set.w2), .int .u64 ((at_ ((at_ c.g.Rules x_.Rule).Rhs) x_.Dot).Set.w3)], .box b1 118 [.int .i64 x_.Rule, .int .i64 x_.Dot, .int .i64 x_.From], .mp gb (mEnc intK (tenc c.empty))] rfl (o_nil ?_)
 cases hF
 refine s_ret0 rfl fun a w hs => fin_sel hs [0, 0, 0, 0, 0, 3] ⟨sa18, sn18, sc18, gh6, sa19, sn19, sc19, gm6, rfl, rfl, rfl⟩ rfl sub_nil
 replace hF := ite_f h15 hF
 refine c_skip ?_
 cases hF
 refine s_ret0 rfl fun a w hs => fin_sel hs [3, 4, 4, 4, 4, 3] ⟨sa14, sn14, sc14, gh4, sa15, sn15, sc15, gm4, rfl, rfl, rfl⟩ rfl sub_nil
theorem tri51 {k : Nat} {g_ : Gram} {w__ : List Int} {sa1 : Option Addr} {sn1 sc1 : Nat} {sa2 : Option Addr} {sn2 sc2 : Nat} {r : Earley_chart} (hF : F.earley.open_ k g_ w__ = some r) :
  Tri Try.prog 51 [.agg #[.int .i64 g_.Nts, .int .i64 g_.Start, .slice sa1 sn1 sc1], .slice sa2 sn2 sc2] [] [(.slice sa1 sn1 sc1, .slice 2 (g_.Rules.map eRule)), (.slice sa2 sn2 sc2, .slice 1 (w__.map eU8))] (fun o H Φ => ∃ (gb : Nat) (sa36 : Option Addr) (sn36 sc36 : Nat) (sa37 : Option Addr) (sn37 sc37 : Nat) (sa38 : Option Addr) (sn38 sc38 : Nat) (sa39 : Option Addr) (sn39 sc39 : Nat) (gv2 : Value) (gv3 : Value), o = .ret (.pointer (some ⟨gb, 0, none⟩)) /\ H = [.box gb 116 [.int .i64 r.g.Nts, .int .i64 r.g.Start, .slice sa36 sn36 sc36, .slice sa37 sn37 sc37, .slice sa38 sn38 sc38, .slice sa39 sn39 sc39, gv2, gv3]] /\ Φ = [(.slice sa36 sn36 sc36, .slice 2 (r.g.Rules.map eRule)), (.slice sa37 sn37 sc37, .slice 1 (r.w_.map eU8)), (.slice sa38 sn38 sc38, .slice 1 (r.by_.map (eSl 1 eI64))), (.slice sa39 sn39 sc39, .slice 1 (r.sets.map (eSl 3 eEItem)))]) := by
 unfold F.earley.open_ at hF
 refine tri_intro (n := 125) Try.func51 rfl Try.ntmps51 rfl fun w X => c_seq (c_region (o_box rfl rfl rfl fun b => o_v (v_assign rfl) rfl (o_seq (c_seq ?_))))
 refine cT (fun E H Φ N' => ∀ (by__ : List (List Int)) (sets_ : List (List EItem)) (sa3 : Option Addr) (sn3 sc3 : Nat) (gh : Nat -> H3) (sa4 : Option Addr) (sn4 sc4 : Nat) (gh1 : Nat -> H3) (b1 : Nat), F.earley.open__j1 k g_ w__ by__ sets_ = some r -> Sat E [(0, .agg #[.int .i64 g_.Nts, .int .i64 g_.Start, .slice sa1 sn1 sc1]), (2, .pointer (some ⟨b, 0, none⟩)), (5, .pointer (some ⟨b1, 0, none⟩))] [.box b 24 [.int .i64 g_.Nts, .int .i64 g_.Start, .slice sa1 sn1 sc1], .box b1 116 [.int .i64 g_.Nts, .int .i64 g_.Start, .slice sa1 sn1 sc1, .slice sa2 sn2 sc2, .slice sa3 sn3 sc3, .slice sa4 sn4 sc4, .slice none 0 0, .map none], .row (.slice sa3 sn3 sc3) 59 1 (dcells by__ gh), .fam (dfam 3 1 eI64 by__ gh), .row (.slice sa4 sn4 sc4) 111 1 (dcells sets_ gh1), .fam (dfam 118 3 eEItem sets_ gh1)] Φ N') (fun N8 hN8 => ?_) ?_
 refine c_draw (n := 12) [0] mixed rfl rfl (dv 0 rfl (vl 0 ty24 rfl rfl rfl) (dv 1 rfl (v_move rfl) (dv 2 rfl (fa 0 rfl) (dv 3 rfl (vl 0 ty3 rfl rfl rfl) (dv 5 rfl (v_move rfl) (dv 6 rfl (v_lenS (enc := eU8) w__ sl25 rfl (.f 1 rfl)) (dv 7 rfl (v_bin rfl rfl rfl) (ite_some hF fun h18 hF => ite_some hF fun h19 hF => ite_some hF fun h20 hF => ite_some hF fun h21 hF => ite_some hF fun h22 hF => ite_some hF fun h23 hF => ?_))))))))
 refine d_all [4, 8] (by kernel_rfl) (by simp) ⟨⟨_, rfl, ?_⟩, ⟨_, rfl, ?_⟩, trivial⟩
 refine o_makeDz (α := Int) eI64 3 1 sl87 zero59 rfl rfl h18 h19 h20 rfl fun sa34 sn34 sc34 => d_next [2] 0 rfl rfl (d_one 8 rfl (by kernel_rfl) (o_makeDz (α := EItem) eEItem 118 3 sl112 zero111 rfl rfl h21 h22 h23 rfl fun sa35 sn35 sc35 => d_next [4] 0 rfl rfl (dv 9 rfl (v_build (v := .agg #[.int .i64 g_.Nts, .int .i64 g_.Start, .slice sa1 sn1 sc1, .slice sa2 sn2 sc2, .slice sa34 sn34 sc34, .slice sa35 sn35 sc35, .slice none 0 0, .map none]) rfl (fun _ => by kernel_rfl)) (d_one 10 rfl (by kernel_rfl) (o_box rfl rfl rfl fun b6 => d_next [5] 0 rfl rfl (dv 11 rfl (v_assign rfl) (d_done (by kernel_rfl) ?_)))))))
 refine s_st ?_ (hN8 (List.replicate (Int.toNat g_.Nts) ([] : List Int)) (List.replicate (Int.toNat (IntKind.wrap .i64 ((w__.length : Int) + 1))) ([] : List EItem)) sa34 sn34 sc34 h0 sa35 sn35 sc35 h0 b6 hF)
 exact st_le [5, 0, 3, 2, 1, 0] (lea rfl) rfl (subs [0, 1] rfl)
 refine o_makeDz (α := EItem) eEItem 118 3 sl112 zero111 rfl rfl h21 h22 h23 rfl fun sa34 sn34 sc34 => d_next [2] 0 rfl rfl (d_one 4 rfl (by kernel_rfl) (o_makeDz (α := Int) eI64 3 1 sl87 zero59 rfl rfl h18 h19 h20 rfl fun sa35 sn35 sc35 => d_next [4] 0 rfl rfl (dv 9 rfl (v_build (v := .agg #[.int .i64 g_.Nts, .int .i64 g_.Start, .slice sa1 sn1 sc1, .slice sa2 sn2 sc2, .slice sa35 sn35 sc35, .slice sa34 sn34 sc34, .slice none 0 0, .map none]) rfl (fun _ => by kernel_rfl)) (d_one 10 rfl (by kernel_rfl) (o_box rfl rfl rfl fun b6 => d_next [5] 0 rfl rfl (dv 11 rfl (v_assign rfl) (d_done (by kernel_rfl) ?_)))))))
 refine s_st ?_ (hN8 (List.replicate (Int.toNat g_.Nts) ([] : List Int)) (List.replicate (Int.toNat (IntKind.wrap .i64 ((w__.length : Int) + 1))) ([] : List EItem)) sa35 sn35 sc35 h0 sa34 sn34 sc34 h0 b6 hF)
 exact st_le [5, 0, 1, 0, 1, 0] (lea rfl) rfl (subs [0, 1] rfl)
 intro by__ sets_ sa3 sn3 sc3 gh sa4 sn4 sc4 gh1 b1 hF
 unfold F.earley.open__j1 at hF
 refine sat_wc (c_seq (c_seq (c_region (o_v (fa 2 rfl) rfl (o_v (vl 0 ty22 rfl rfl rfl) rfl (o_v (v_lenS (enc := eRule) g_.Rules sl22 rfl (.f 0 rfl)) rfl (o_v (v_move rfl) rfl (o_seq ?_))))))))
 obtain ⟨o2, ho2, hF⟩ := bd hF
 refine cT (fun E H Φ N' => ∀ (sa6 : Option Addr) (sn6 sc6 : Nat) (gh3 : Nat -> H3), Sat E [(0, .agg #[.int .i64 g_.Nts, .int .i64 g_.Start, .slice sa1 sn1 sc1]), (2, .pointer (some ⟨b, 0, none⟩)), (5, .pointer (some ⟨b1, 0, none⟩)), (24, .slice sa1 sn1 sc1)] [.box b 24 [.int .i64 g_.Nts, .int .i64 g_.Start, .slice sa1 sn1 sc1], .box b1 116 [.int .i64 g_.Nts, .int .i64 g_.Start, .slice sa1 sn1 sc1, .slice sa2 sn2 sc2, .slice sa6 sn6 sc6, .slice sa4 sn4 sc4, .slice none 0 0, .map none], .row (.slice sa6 sn6 sc6) 59 1 (dcells o2 gh3), .fam (dfam 3 1 eI64 o2 gh3), .row (.slice sa4 sn4 sc4) 111 1 (dcells sets_ gh1), .fam (dfam 118 3 eEItem sets_ gh1)] Φ N') (fun N2 hN2 => ?_) ?_
 refine c_block ?_
 refine cL (fun E H Φ j a w => ∃ (t26 : Int) (by__1 : List (List Int)) (sa5 : Option Addr) (sn5 sc5 : Nat) (gh2 : Nat -> H3), F.earley.open__l2 g_ j t26 by__1 = some o2 /\ St E [(0, .agg #[.int .i64 g_.Nts, .int .i64 g_.Start, .slice sa1 sn1 sc1]), (2, .pointer (some ⟨b, 0, none⟩)), (5, .pointer (some ⟨b1, 0, none⟩)), (24, .slice sa1 sn1 sc1), (25, .int .i64 (g_.Rules.length : Int)), (26, .int .i64 t26)] [.box b 24 [.int .i64 g_.Nts, .int .i64 g_.Start, .slice sa1 sn1 sc1], .box b1 116 [.int .i64 g_.Nts, .int .i64 g_.Start, .slice sa1 sn1 sc1, .slice sa2 sn2 sc2, .slice sa5 sn5 sc5, .slice sa4 sn4 sc4, .slice none 0 0, .map none], .row (.slice sa5 sn5 sc5) 59 1 (dcells by__1 gh2), .fam (dfam 3 1 eI64 by__1 gh2), .row (.slice sa4 sn4 sc4) 111 1 (dcells sets_ gh1), .fam (dfam 118 3 eEItem sets_ gh1)] Φ a w) k ?_ ?_
 intro a w hs
 exact ⟨0, by__, sa3, sn3, sc3, gh, ho2, st_le [0, 0, 0, 0, 0, 0] (lea rfl) rfl (subs [0, 1] rfl) a w hs⟩
 rintro j a w ⟨t26, by__1, sa5, sn5, sc5, gh2, hL2, hs⟩
 rcases j with _ | j
 cases hL2
 refine wc_app hs ?_
 unfold F.earley.open__l2 at hL2
 refine c_seq (c_region (o_v (v_bin rfl rfl rfl) rfl (o_seq (c_seq ?_))))
 refine c_cond rfl (fun h1 => ?_) (fun h1 => ?_)
 replace hL2 := ite_t h1 hL2
 refine c_skip (sat_wc (c_seq ?_))
 refine c_cut (fun E N' => ∀ (by__2 : List (List Int)) (sa7 : Option Addr) (sn7 sc7 : Nat) (sa8 : Option Addr) (sn8 sc8 : Nat) (gh4 : Nat -> H3) (b2 : Nat), F.earley.open__j3 (F.earley.open__l2 g_ j) t26 by__2 = some o2 -> Sat E [(0, .agg #[.int .i64 g_.Nts, .int .i64 g_.Start, .slice sa1 sn1 sc1]), (2, .pointer (some ⟨b, 0, none⟩)), (5, .pointer (some ⟨b1, 0, none⟩)), (6, .int .i64 t26), (7, .pointer (some ⟨b2, 0, none⟩)), (24, .slice sa1 sn1 sc1), (25, .int .i64 (g_.Rules.length : Int)), (26, .int .i64 t26)] [.box b 24 [.int .i64 g_.Nts, .int .i64 g_.Start, .slice sa1 sn1 sc1], .box b1 116 [.int .i64 g_.Nts, .int .i64 g_.Start, .slice sa1 sn1 sc1, .slice sa2 sn2 sc2, .slice sa8 sn8 sc8, .slice sa4 sn4 sc4, .slice none 0 0, .map none], .box b2 50 [.int .i64 ((at_ g_.Rules t26).Lhs), .slice sa7 sn7 sc7], .row (.slice sa8 sn8 sc8) 59 1 (dcells by__2 gh4), .fam (dfam 3 1 eI64 by__2 gh4), .row (.slice sa4 sn4 sc4) 111 1 (dcells sets_ gh1), .fam (dfam 118 3 eEItem sets_ gh1)] [(.slice sa1 sn1 sc1, .slice 2 (g_.Rules.map eRule)), (.slice sa2 sn2 sc2, .slice 1 (w__.map eU8)), (.slice sa7 sn7 sc7, .slice 5 (((at_ g_.Rules t26).Rhs).map eKSym))] N') (fun N3 hN3 => ?_) ?_
 refine c_block (c_seq (c_region (o_v (v_move rfl) rfl (ite_some hL2 fun h2 hL2 => o_v (v_indexAddr_s (xs := g_.Rules) (enc := eRule) sl22 rfl rfl (.f 0 rfl) h2) rfl (o_load_s (xs := g_.Rules) (enc := eRule) ty50 rfl (.f 0 rfl) h2 rfl rfl rfl rfl rfl rfl fun sa9 sn9 sc9 => o_alloc zero50 rfl rfl fun b3 => o_v (v_assign rfl) rfl (o_store_box 0 rfl ty50 rfl rfl rfl rfl rfl rfl rfl (o_seq ?_)))))))
 refine c_cut (fun E N' => ∀ (by__3 : List (List Int)) (sa10 : Option Addr) (sn10 sc10 : Nat) (gh5 : Nat -> H3), F.earley.open__j4 (F.earley.open__l2 g_ j) t26 by__3 = some o2 -> Sat E [(0, .agg #[.int .i64 g_.Nts, .int .i64 g_.Start, .slice sa1 sn1 sc1]), (2, .pointer (some ⟨b, 0, none⟩)), (5, .pointer (some ⟨b1, 0, none⟩)), (6, .int .i64 t26), (7, .pointer (some ⟨b3, 0, none⟩)), (24, .slice sa1 sn1 sc1), (25, .int .i64 (g_.Rules.length : Int)), (26, .int .i64 t26)] [.box b3 50 [.int .i64 ((at_ g_.Rules t26).Lhs), .slice sa9 sn9 sc9], .box b 24 [.int .i64 g_.Nts, .int .i64 g_.Start, .slice sa1 sn1 sc1], .box b1 116 [.int .i64 g_.Nts, .int .i64 g_.Start, .slice sa1 sn1 sc1, .slice sa2 sn2 sc2, .slice sa10 sn10 sc10, .slice sa4 sn4 sc4, .slice none 0 0, .map none], .row (.slice sa10 sn10 sc10) 59 1 (dcells by__3 gh5), .fam (dfam 3 1 eI64 by__3 gh5), .row (.slice sa4 sn4 sc4) 111 1 (dcells sets_ gh1), .fam (dfam 118 3 eEItem sets_ gh1)] [(.slice sa1 sn1 sc1, .slice 2 (g_.Rules.map eRule)), (.slice sa9 sn9 sc9, .slice 5 (((at_ g_.Rules t26).Rhs).map eKSym)), (.slice sa2 sn2 sc2, .slice 1 (w__.map eU8))] N') (fun N4 hN4 => ?_) ?_
 refine c_draw (n := 19) [0, 0, 0, 2, 2] mixed rfl rfl (dv 0 rfl (v_move rfl) (dv 1 rfl (v_nilCheck rfl) (dv 2 rfl (fa 4 rfl) (dv 3 rfl (vl 2 ty87 rfl rfl rfl) (dv 4 rfl (fa 0 rfl) (dv 5 rfl (vl 0 ty3 rfl rfl rfl) (dv 6 rfl (v_move rfl) (dv 7 rfl (v_nilCheck rfl) (dv 8 rfl (fa 4 rfl) (dv 9 rfl (vl 2 ty87 rfl rfl rfl) (dv 10 rfl (fa 0 rfl) (dv 11 rfl (vl 0 ty3 rfl rfl rfl) (dv 14 rfl (v_move rfl) (ite_some hL2 fun h3 hL2 => ite_some hL2 fun h4 hL2 => ?_))))))))))))))
 refine ite_some hL2 fun h5 hL2 => ?_
 refine d_all [12, 15] (by kernel_rfl) (by simp) ⟨⟨_, rfl, ?_⟩, ⟨_, rfl, ?_⟩, trivial⟩
 refine o_v (v_indexAddr_d (le := by__1) (hs := gh2) 3 sl87 rfl rfl rfl h3) rfl (d_next [0, 0, 0, 2, 2] 0 rfl rfl ?_)
 refine d_all [13, 15] (by kernel_rfl) (by simp) ⟨⟨_, rfl, ?_⟩, ⟨_, rfl, ?_⟩, trivial⟩
 refine o_v (v_load_d (le := by__1) (hs := gh2) 3 ty59 rfl rfl h3) rfl (d_next [0, 0, 0, 2, 2] 0 rfl rfl (d_one 15 rfl (by kernel_rfl) (o_buildSlice (enc := eI64) ([t26] : List Int) [.int .i64 t26] sl59 rfl (fun _ => by kernel_rfl) rfl rfl rfl (.s rfl (.nil)) rfl fun sa11 sn11 sc11 => d_next [1, 1, 1, 3, 3] 0 rfl rfl (d_one 16 rfl (by kernel_rfl) (o_appendF (enc := eI64) (le := by__1) (ys := ([t26] : List Int)) (hs := gh2) 5 sl59 rfl rfl rfl h3 0 rfl h4 h5 rfl fun sa12 sn12 sc12 => o_H [.row (.slice sa11 sn11 sc11) 3 1 (([t26] : List Int).map eI64), .box b3 50 [.int .i64 ((at_ g_.Rules t26).Lhs), .slice sa9 sn9 sc9], .box b 24 [.int .i64 g_.Nts, .int .i64 g_.Start, .slice sa1 sn1 sc1], .box b1 116 [.int .i64 g_.Nts, .int .i64 g_.Start, .slice sa1 sn1 sc1, .slice sa2 sn2 sc2, .slice sa5 sn5 sc5, .slice sa4 sn4 sc4, .slice none 0 0, .map none], .row (.slice sa5 sn5 sc5) 59 1 (dcells by__1 gh2), .fam (dfam 3 1 eI64 (set_ by__1 ((at_ g_.Rules t26).Lhs) ((at_ by__1 ((at_ g_.Rules t26).Lhs)) ++ ([t26] : List Int))) (upd gh2 ((at_ g_.Rules t26).Lhs) (sa12, sn12, sc12))), .row (.slice sa4 sn4 sc4) 111 1 (dcells sets_ gh1), .fam (dfam 118 3 eEItem sets_ gh1)] rfl (d_next [1, 1, 1, 3, 3] 0 rfl rfl (d_one 17 rfl (by kernel_rfl) (o_v (v_indexAddr_d (le := by__1) (hs := gh2) 4 sl87 rfl rfl rfl h3) rfl (d_next [1, 1, 1, 3, 3] 0 rfl rfl (d_one 18 rfl (by kernel_rfl) (o_store_d (le := by__1) (hs := gh2) (set_ by__1 ((at_ g_.Rules t26).Lhs) ((at_ by__1 ((at_ g_.Rules t26).Lhs)) ++ ([t26] : List Int))) 4 (set_len _ _ _) rfl ty59 rfl rfl rfl h3 (o_H [.row (.slice sa11 sn11 sc11) 3 1 (([t26] : List Int).map eI64), .box b3 50 [.int .i64 ((at_ g_.Rules t26).Lhs), .slice sa9 sn9 sc9], .box b 24 [.int .i64 g_.Nts, .int .i64 g_.Start, .slice sa1 sn1 sc1], .box b1 116 [.int .i64 g_.Nts, .int .i64 g_.Start, .slice sa1 sn1 sc1, .slice sa2 sn2 sc2, .slice sa5 sn5 sc5, .slice sa4 sn4 sc4, .slice none 0 0, .map none], .row (.slice sa5 sn5 sc5) 59 1 (dcells (set_ by__1 ((at_ g_.Rules t26).Lhs) ((at_ by__1 ((at_ g_.Rules t26).Lhs)) ++ ([t26] : List Int))) (upd gh2 ((at_ g_.Rules t26).Lhs) (sa12, sn12, sc12))), .fam (dfam 3 1 eI64 (set_ by__1 ((at_ g_.Rules t26).Lhs) ((at_ by__1 ((at_ g_.Rules t26).Lhs)) ++ ([t26] : List Int))) (upd gh2 ((at_ g_.Rules t26).Lhs) (sa12, sn12, sc12))), .row (.slice sa4 sn4 sc4) 111 1 (dcells sets_ gh1), .fam (dfam 118 3 eEItem sets_ gh1)] rfl (d_next [1, 1, 1, 3, 3] 0 rfl rfl ?_)))))))))))))
 refine d_done (by kernel_rfl) ?_
 refine s_st ?_ (hN4 (set_ by__1 ((at_ g_.Rules t26).Lhs) ((at_ by__1 ((at_ g_.Rules t26).Lhs)) ++ ([t26] : List Int))) sa5 sn5 sc5 (upd gh2 ((at_ g_.Rules t26).Lhs) (sa12, sn12, sc12)) hL2)
 exact st_le [1, 1, 1, 1, 1, 1, 1] (lea rfl) rfl (subs [1, 0, 2] rfl)
 refine o_buildSlice (enc := eI64) ([t26] : List Int) [.int .i64 t26] sl59 rfl (fun _ => by kernel_rfl) rfl rfl rfl (.s rfl (.nil)) rfl fun sa11 sn11 sc11 => d_next [1, 1, 1, 3, 3] 0 rfl rfl (d_one 13 rfl (by kernel_rfl) (o_v (v_load_d (le := by__1) (hs := gh2) 4 ty59 rfl rfl h3) rfl (d_next [1, 1, 1, 3, 3] 0 rfl rfl (d_one 16 rfl (by kernel_rfl) (o_appendF (enc := eI64) (le := by__1) (ys := ([t26] : List Int)) (hs := gh2) 5 sl59 rfl rfl rfl h3 0 rfl h4 h5 rfl fun sa12 sn12 sc12 => o_H [.row (.slice sa11 sn11 sc11) 3 1 (([t26] : List Int).map eI64), .box b3 50 [.int .i64 ((at_ g_.Rules t26).Lhs), .slice sa9 sn9 sc9], .box b 24 [.int .i64 g_.Nts, .int .i64 g_.Start, .slice sa1 sn1 sc1], .box b1 116 [.int .i64 g_.Nts, .int .i64 g_.Start, .slice sa1 sn1 sc1, .slice sa2 sn2 sc2, .slice sa5 sn5 sc5, .slice sa4 sn4 sc4, .slice none 0 0, .map none], .row (.slice sa5 sn5 sc5) 59 1 (dcells by__1 gh2), .fam (dfam 3 1 eI64 (set_ by__1 ((at_ g_.Rules t26).Lhs) ((at_ by__1 ((at_ g_.Rules t26).Lhs)) ++ ([t26] : List Int))) (upd gh2 ((at_ g_.Rules t26).Lhs) (sa12, sn12, sc12))), .row (.slice sa4 sn4 sc4) 111 1 (dcells sets_ gh1), .fam (dfam 118 3 eEItem sets_ gh1)] rfl (d_next [1, 1, 1, 3, 3] 0 rfl rfl (d_one 17 rfl (by kernel_rfl) (o_v (v_indexAddr_d (le := by__1) (hs := gh2) 4 sl87 rfl rfl rfl h3) rfl (d_next [1, 1, 1, 3, 3] 0 rfl rfl (d_one 18 rfl (by kernel_rfl) (o_store_d (le := by__1) (hs := gh2) (set_ by__1 ((at_ g_.Rules t26).Lhs) ((at_ by__1 ((at_ g_.Rules t26).Lhs)) ++ ([t26] : List Int))) 4 (set_len _ _ _) rfl ty59 rfl rfl rfl h3 (o_H [.row (.slice sa11 sn11 sc11) 3 1 (([t26] : List Int).map eI64), .box b3 50 [.int .i64 ((at_ g_.Rules t26).Lhs), .slice sa9 sn9 sc9], .box b 24 [.int .i64 g_.Nts, .int .i64 g_.Start, .slice sa1 sn1 sc1], .box b1 116 [.int .i64 g_.Nts, .int .i64 g_.Start, .slice sa1 sn1 sc1, .slice sa2 sn2 sc2, .slice sa5 sn5 sc5, .slice sa4 sn4 sc4, .slice none 0 0, .map none], .row (.slice sa5 sn5 sc5) 59 1 (dcells (set_ by__1 ((at_ g_.Rules t26).Lhs) ((at_ by__1 ((at_ g_.Rules t26).Lhs)) ++ ([t26] : List Int))) (upd gh2 ((at_ g_.Rules t26).Lhs) (sa12, sn12, sc12))), .fam (dfam 3 1 eI64 (set_ by__1 ((at_ g_.Rules t26).Lhs) ((at_ by__1 ((at_ g_.Rules t26).Lhs)) ++ ([t26] : List Int))) (upd gh2 ((at_ g_.Rules t26).Lhs) (sa12, sn12, sc12))), .row (.slice sa4 sn4 sc4) 111 1 (dcells sets_ gh1), .fam (dfam 118 3 eEItem sets_ gh1)] rfl (d_next [1, 1, 1, 3, 3] 0 rfl rfl ?_)))))))))))))
 refine d_done (by kernel_rfl) ?_
 refine s_st ?_ (hN4 (set_ by__1 ((at_ g_.Rules t26).Lhs) ((at_ by__1 ((at_ g_.Rules t26).Lhs)) ++ ([t26] : List Int))) sa5 sn5 sc5 (upd gh2 ((at_ g_.Rules t26).Lhs) (sa12, sn12, sc12)) hL2)
 exact st_le [1, 1, 1, 1, 1, 1, 1] (lea rfl) rfl (subs [1, 0, 2] rfl)
 refine o_buildSlice (enc := eI64) ([t26] : List Int) [.int .i64 t26] sl59 rfl (fun _ => by kernel_rfl) rfl rfl rfl (.s rfl (.nil)) rfl fun sa11 sn11 sc11 => d_next [1, 1, 1, 3, 3] 0 rfl rfl (d_one 12 rfl (by kernel_rfl) (o_v (v_indexAddr_d (le := by__1) (hs := gh2) 4 sl87 rfl rfl rfl h3) rfl (d_next [1, 1, 1, 3, 3] 0 rfl rfl (d_one 13 rfl (by kernel_rfl) (o_v (v_load_d (le := by__1) (hs := gh2) 4 ty59 rfl rfl h3) rfl (d_next [1, 1, 1, 3, 3] 0 rfl rfl (d_one 16 rfl (by kernel_rfl) (o_appendF (enc := eI64) (le := by__1) (ys := ([t26] : List Int)) (hs := gh2) 5 sl59 rfl rfl rfl h3 0 rfl h4 h5 rfl fun sa12 sn12 sc12 => o_H [.row (.slice sa11 sn11 sc11) 3 1 (([t26] : List Int).map eI64), .box b3 50 [.int .i64 ((at_ g_.Rules t26).Lhs), .slice sa9 sn9 sc9], .box b 24 [.int .i64 g_.Nts, .int .i64 g_.Start, .slice sa1 sn1 sc1], .box b1 116 [.int .i64 g_.Nts, .int .i64 g_.Start, .slice sa1 sn1 sc1, .slice sa2 sn2 sc2, .slice sa5 sn5 sc5, .slice sa4 sn4 sc4, .slice none 0 0, .map none], .row (.slice sa5 sn5 sc5) 59 1 (dcells by__1 gh2), .fam (dfam 3 1 eI64 (set_ by__1 ((at_ g_.Rules t26).Lhs) ((at_ by__1 ((at_ g_.Rules t26).Lhs)) ++ ([t26] : List Int))) (upd gh2 ((at_ g_.Rules t26).Lhs) (sa12, sn12, sc12))), .row (.slice sa4 sn4 sc4) 111 1 (dcells sets_ gh1), .fam (dfam 118 3 eEItem sets_ gh1)] rfl (d_next [1, 1, 1, 3, 3] 0 rfl rfl (d_one 17 rfl (by kernel_rfl) (o_v (v_indexAddr_d (le := by__1) (hs := gh2) 4 sl87 rfl rfl rfl h3) rfl (d_next [1, 1, 1, 3, 3] 0 rfl rfl (d_one 18 rfl (by kernel_rfl) ?_)))))))))))))
 refine o_store_d (le := by__1) (hs := gh2) (set_ by__1 ((at_ g_.Rules t26).Lhs) ((at_ by__1 ((at_ g_.Rules t26).Lhs)) ++ ([t26] : List Int))) 4 (set_len _ _ _) rfl ty59 rfl rfl rfl h3 (o_H [.row (.slice sa11 sn11 sc11) 3 1 (([t26] : List Int).map eI64), .box b3 50 [.int .i64 ((at_ g_.Rules t26).Lhs), .slice sa9 sn9 sc9], .box b 24 [.int .i64 g_.Nts, .int .i64 g_.Start, .slice sa1 sn1 sc1], .box b1 116 [.int .i64 g_.Nts, .int .i64 g_.Start, .slice sa1 sn1 sc1, .slice sa2 sn2 sc2, .slice sa5 sn5 sc5, .slice sa4 sn4 sc4, .slice none 0 0, .map none], .row (.slice sa5 sn5 sc5) 59 1 (dcells (set_ by__1 ((at_ g_.Rules t26).Lhs) ((at_ by__1 ((at_ g_.Rules t26).Lhs)) ++ ([t26] : List Int))) (upd gh2 ((at_ g_.Rules t26).Lhs) (sa12, sn12, sc12))), .fam (dfam 3 1 eI64 (set_ by__1 ((at_ g_.Rules t26).Lhs) ((at_ by__1 ((at_ g_.Rules t26).Lhs)) ++ ([t26] : List Int))) (upd gh2 ((at_ g_.Rules t26).Lhs) (sa12, sn12, sc12))), .row (.slice sa4 sn4 sc4) 111 1 (dcells sets_ gh1), .fam (dfam 118 3 eEItem sets_ gh1)] rfl (d_next [1, 1, 1, 3, 3] 0 rfl rfl (d_done (by kernel_rfl) ?_)))
 refine s_st ?_ (hN4 (set_ by__1 ((at_ g_.Rules t26).Lhs) ((at_ by__1 ((at_ g_.Rules t26).Lhs)) ++ ([t26] : List Int))) sa5 sn5 sc5 (upd gh2 ((at_ g_.Rules t26).Lhs) (sa12, sn12, sc12)) hL2)
 exact st_le [1, 1, 1, 1, 1, 1, 1] (lea rfl) rfl (subs [1, 0, 2] rfl)
 intro by__3 sa10 sn10 sc10 gh5 hL2
 unfold F.earley.open__j4 at hL2
 refine s_st ?_ (hN3 by__3 sa9 sn9 sc9 sa10 sn10 sc10 gh5 b3 hL2)
 exact st_le [1, 1, 0, 0, 0, 0, 0] (lea rfl) rfl (subs [0, 2, 1] rfl)
 intro by__2 sa7 sn7 sc7 sa8 sn8 sc8 gh4 b2 hL2
 unfold F.earley.open__j3 at hL2
 refine sat_wc (c_region (o_v (v_bin rfl rfl rfl) rfl (o_v (v_move rfl) rfl (o_nil ?_))))
 intro a w hs
 exact ⟨j, Nat.lt_succ_self j, IntKind.wrap .i64 (t26 + 1), by__2, sa8, sn8, sc8, gh4, hL2, st_le [0, 0, 1, 1, 1, 1] (lea rfl) rfl (subs [0, 1] rfl) a w hs⟩
 replace hL2 := ite_f h1 hL2
 refine c_exit0 ?_
 cases hL2
 refine s_st ?_ (hN2 sa5 sn5 sc5 gh2)
 exact st_le [0, 0, 0, 0, 0, 0] (lea rfl) rfl (subs [0, 1] rfl)
 intro sa6 sn6 sc6 gh3
 refine sat_wc (c_seq (c_seq (c_region (o_v (v_move rfl) rfl (o_v (v_nilCheck rfl) rfl (o_v (fa 5 rfl) rfl (o_v (vl 1 ty112 rfl rfl rfl) rfl (o_v (v_lenD (le := sets_) (hs := gh1) 4 sl112 rfl rfl) rfl (o_v (v_move rfl) rfl (o_seq ?_))))))))))
 obtain ⟨o5, ho5, hF⟩ := bd hF
 refine cT (fun E H Φ N' => ∀ (sa14 : Option Addr) (sn14 sc14 : Nat) (gm1 : Nat -> Nat), Sat E [(0, .agg #[.int .i64 g_.Nts, .int .i64 g_.Start, .slice sa1 sn1 sc1]), (2, .pointer (some ⟨b, 0, none⟩)), (5, .pointer (some ⟨b1, 0, none⟩)), (24, .slice sa1 sn1 sc1)] [.box b 24 [.int .i64 g_.Nts, .int .i64 g_.Start, .slice sa1 sn1 sc1], .box b1 116 [.int .i64 g_.Nts, .int .i64 g_.Start, .slice sa1 sn1 sc1, .slice sa2 sn2 sc2, .slice sa6 sn6 sc6, .slice sa4 sn4 sc4, .slice sa14 sn14 sc14, .map none], .row (.slice sa6 sn6 sc6) 59 1 (dcells o2 gh3), .fam (dfam 3 1 eI64 o2 gh3), .row (.slice sa4 sn4 sc4) 111 1 (dcells sets_ gh1), .fam (dfam 118 3 eEItem sets_ gh1), .row (.slice sa14 sn14 sc14) 138 1 (mcells o5 gm1), .fmp (mfam kEItem o5 gm1)] Φ N') (fun N5 hN5 => ?_) ?_
 refine c_block ?_
 refine cL (fun E H Φ j a w => ∃ (t55 : Int) (met_ : List (List (EItem × Int))) (sa13 : Option Addr) (sn13 sc13 : Nat) (gm : Nat -> Nat), F.earley.open__l5 sets_ j t55 met_ = some o5 /\ St E [(0, .agg #[.int .i64 g_.Nts, .int .i64 g_.Start, .slice sa1 sn1 sc1]), (2, .pointer (some ⟨b, 0, none⟩)), (5, .pointer (some ⟨b1, 0, none⟩)), (24, .slice sa1 sn1 sc1), (54, .int .i64 (sets_.length : Int)), (55, .int .i64 t55)] [.box b 24 [.int .i64 g_.Nts, .int .i64 g_.Start, .slice sa1 sn1 sc1], .box b1 116 [.int .i64 g_.Nts, .int .i64 g_.Start, .slice sa1 sn1 sc1, .slice sa2 sn2 sc2, .slice sa6 sn6 sc6, .slice sa4 sn4 sc4, .slice sa13 sn13 sc13, .map none], .row (.slice sa6 sn6 sc6) 59 1 (dcells o2 gh3), .fam (dfam 3 1 eI64 o2 gh3), .row (.slice sa4 sn4 sc4) 111 1 (dcells sets_ gh1), .fam (dfam 118 3 eEItem sets_ gh1), .row (.slice sa13 sn13 sc13) 138 1 (mcells met_ gm), .fmp (mfam kEItem met_ gm)] Φ a w) k ?_ ?_
 refine s_st (st_nilrow 138 1) (s_st (st_nilfmp) ?_)
 intro a w hs
 exact ⟨0, ([] : List (List (EItem × Int))), none, 0, 0, m0, ho5, st_le [2, 2, 2, 2, 2, 2, 1, 0] (lea rfl) rfl (subs [0, 1] rfl) a w hs⟩
 rintro j a w ⟨t55, met_, sa13, sn13, sc13, gm, hL5, hs⟩
 rcases j with _ | j
 cases hL5
 refine wc_app hs ?_
 unfold F.earley.open__l5 at hL5
 refine c_seq (c_region (o_v (v_bin rfl rfl rfl) rfl (o_seq (c_seq ?_))))
 refine c_cond rfl (fun h6 => ?_) (fun h6 => ?_)
 replace hL5 := ite_t h6 hL5
 refine c_skip (sat_wc (c_seq (c_block (c_region (o_v (v_move rfl) rfl (o_v (v_move rfl) rfl (o_v (v_nilCheck rfl) rfl (o_v (fa 6 rfl) rfl (o_v (vl 1 ty113 rfl rfl rfl) rfl (o_makeMap rfl fun b4 => o_buildSlice (enc := id) ([[Dc.mp b4]] : List (List Dc)) [.map (some b4)] sl113 rfl (fun _ => by kernel_rfl) rfl rfl rfl (.s rfl .nil) rfl fun sa15 sn15 sc15 => ite_some hL5 fun h7 hL5 => ite_some hL5 fun h8 hL5 => o_appendM (enc := kEItem) (le := met_) (ms := gm) ([] : List (EItem × Int)) 8 0 sl113 rfl rfl rfl rfl h7 h8 rfl 1 8 rfl rfl 7 rfl (fun _ => rfl) (by decide) fun sa16 sn16 sc16 => o_v (v_nilCheck rfl) rfl ?_))))))))))
 refine o_v (fa 6 rfl) rfl (o_store_box 2 rfl ty113 rfl rfl rfl rfl rfl rfl rfl (o_nil (sat_wc (c_region (o_v (v_bin rfl rfl rfl) rfl (o_v (v_move rfl) rfl (o_nil ?_)))))))
 intro a w hs
 exact ⟨j, Nat.lt_succ_self j, IntKind.wrap .i64 (t55 + 1), (met_ ++ [([] : List (EItem × Int))]), sa16, sn16, sc16, (upd gm (met_.length : Int) b4), hL5, st_le [1, 1, 1, 1, 1, 1, 1, 1] (lea rfl) rfl (subs [0, 1] rfl) a w hs⟩
 replace hL5 := ite_f h6 hL5
 refine c_exit0 ?_
 cases hL5
 refine s_st ?_ (hN5 sa13 sn13 sc13 gm)
 exact st_le [0, 0, 0, 0, 0, 0, 0, 0] (lea rfl) rfl (subs [0, 1] rfl)
 intro sa14 sn14 sc14 gm1
 refine sat_wc (c_seq (c_seq (c_draw (n := 10) [0, 3, 3, 3, 3] mixed rfl rfl (dv 0 rfl (v_move rfl) (dv 1 rfl (v_nilCheck rfl) (dv 2 rfl (fa 4 rfl) (dv 4 rfl (fa 1 rfl) (dv 5 rfl (vl 0 ty3 rfl rfl rfl) (dv 9 rfl (v_move rfl) (d_one 3 rfl (by kernel_rfl) (o_v (vl 1 ty87 rfl rfl rfl) rfl (d_next [0, 3, 3, 3, 3] 0 rfl rfl (d_one 6 rfl (by kernel_rfl) (ite_some hF fun h9 hF => o_v (v_indexAddr_d (le := o2) (hs := gh3) 2 sl87 rfl rfl rfl h9) rfl ?_))))))))))))))
 refine d_next [0, 3, 3, 3, 3] 0 rfl rfl (d_one 7 rfl (by kernel_rfl) (o_st (st_freezeD 3 2 rfl rfl) (o_load_s (xs := o2) (enc := (eSl 1 eI64)) ty59 rfl (.f 0 rfl) h9 rfl rfl rfl rfl rfl rfl fun sa17 sn17 sc17 => d_next [0, 1, 1, 1, 1] 2 rfl rfl (d_one 8 rfl (by kernel_rfl) (o_v (v_lenS (enc := eI64) (at_ o2 g_.Start) sl59 rfl (.f 0 rfl)) rfl (d_next [0, 1, 1, 1, 1] 2 rfl rfl (d_done_seq (by kernel_rfl) ?_)))))))
 obtain ⟨o6, ho6, hF⟩ := bd hF
 refine c_cut (fun E N' => ∀ (sa20 : Option Addr) (sn20 sc20 : Nat) (gh7 : Nat -> H3) (sa21 : Option Addr) (sn21 sc21 : Nat) (gm3 : Nat -> Nat), Sat E [(0, .agg #[.int .i64 g_.Nts, .int .i64 g_.Start, .slice sa1 sn1 sc1]), (2, .pointer (some ⟨b, 0, none⟩)), (5, .pointer (some ⟨b1, 0, none⟩)), (24, .slice sa1 sn1 sc1), (75, .slice sa17 sn17 sc17)] [.box b 24 [.int .i64 g_.Nts, .int .i64 g_.Start, .slice sa1 sn1 sc1], .box b1 116 [.int .i64 g_.Nts, .int .i64 g_.Start, .slice sa1 sn1 sc1, .slice sa2 sn2 sc2, .slice sa6 sn6 sc6, .slice sa20 sn20 sc20, .slice sa21 sn21 sc21, .map none], .row (.slice sa20 sn20 sc20) 111 1 (dcells o6.1 gh7), .fam (dfam 118 3 eEItem o6.1 gh7), .row (.slice sa21 sn21 sc21) 138 1 (mcells o6.2 gm3), .fmp (mfam kEItem o6.2 gm3)] [(.slice sa1 sn1 sc1, .slice 2 (g_.Rules.map eRule)), (.slice sa17 sn17 sc17, .slice 1 ((at_ o2 g_.Start).map eI64)), (.slice sa2 sn2 sc2, .slice 1 (w__.map eU8)), (.slice sa6 sn6 sc6, .slice 1 (o2.map (eSl 1 eI64)))] N') (fun N6 hN6 => ?_) ?_
 refine c_block ?_
 refine c_loopE (fun E j a w => ∃ (t77 : Int) (sets_1 : List (List EItem)) (met_1 : List (List (EItem × Int))) (sa18 : Option Addr) (sn18 sc18 : Nat) (gh6 : Nat -> H3) (sa19 : Option Addr) (sn19 sc19 : Nat) (gm2 : Nat -> Nat), F.earley.open__l6 o2 g_ w__ j t77 sets_1 met_1 = some o6 /\ St E [(0, .agg #[.int .i64 g_.Nts, .int .i64 g_.Start, .slice sa1 sn1 sc1]), (2, .pointer (some ⟨b, 0, none⟩)), (5, .pointer (some ⟨b1, 0, none⟩)), (24, .slice sa1 sn1 sc1), (75, .slice sa17 sn17 sc17), (76, .int .i64 ((at_ o2 g_.Start).length : Int)), (77, .int .i64 t77)] [.box b 24 [.int .i64 g_.Nts, .int .i64 g_.Start, .slice sa1 sn1 sc1], .box b1 116 [.int .i64 g_.Nts, .int .i64 g_.Start, .slice sa1 sn1 sc1, .slice sa2 sn2 sc2, .slice sa6 sn6 sc6, .slice sa18 sn18 sc18, .slice sa19 sn19 sc19, .map none], .row (.slice sa18 sn18 sc18) 111 1 (dcells sets_1 gh6), .fam (dfam 118 3 eEItem sets_1 gh6), .row (.slice sa19 sn19 sc19) 138 1 (mcells met_1 gm2), .fmp (mfam kEItem met_1 gm2)] [(.slice sa1 sn1 sc1, .slice 2 (g_.Rules.map eRule)), (.slice sa17 sn17 sc17, .slice 1 ((at_ o2 g_.Start).map eI64)), (.slice sa2 sn2 sc2, .slice 1 (w__.map eU8)), (.slice sa6 sn6 sc6, .slice 1 (o2.map (eSl 1 eI64)))] a w) k ?_ ?_
 intro a w hs
 exact ⟨0, sets_, o5, sa4, sn4, sc4, gh1, sa14, sn14, sc14, gm1, ho6, st_le [0, 0, 0, 0, 0, 0] (lea rfl) rfl (subs [2, 0, 3, 1] rfl) a w hs⟩
 rintro j a w ⟨t77, sets_1, met_1, sa18, sn18, sc18, gh6, sa19, sn19, sc19, gm2, hL6, hs⟩
 rcases j with _ | j
 cases hL6
 refine wc_app hs ?_
 unfold F.earley.open__l6 at hL6
 refine c_seq (c_region (o_v (v_bin rfl rfl rfl) rfl (o_seq (c_seq ?_))))
 refine c_cond rfl (fun h10 => ?_) (fun h10 => ?_)
 replace hL6 := ite_t h10 hL6
 refine c_skip (sat_wc (c_seq (c_block (c_seq (c_region (ite_some hL6 fun h11 hL6 => o_v (v_indexAddr_s (xs := at_ o2 g_.Start) (enc := eI64) sl59 rfl rfl (.f 1 rfl) h11) rfl (o_v (v_load_s (xs := at_ o2 g_.Start) (enc := eI64) ty3 rfl (.f 1 rfl) h11 rfl rfl rfl rfl rfl rfl rfl) rfl (o_v (v_assign rfl) rfl (o_seq (c_region (o_v (v_move rfl) rfl (o_v (v_move rfl) rfl (o_v (v_build (v := .agg #[.int .i64 (at_ (at_ o2 g_.Start) t77), .int .i64 0, .int .i64 0]) rfl (fun _ => by kernel_rfl)) rfl ?_)))))))))))))
 obtain ⟨v_, h12, hL6⟩ := bd hL6
 refine ocl [1, 1, 1, 1, 1] call68 rfl rfl (subs [0, 2, 3] rfl) (tri68 h12 :) ?_
 rintro _ _ _ ⟨sa22, sn22, sc22, gh8, sa23, sn23, sc23, gm4, rfl, rfl, rfl⟩
 refine o_H [.box b1 116 [.int .i64 g_.Nts, .int .i64 g_.Start, .slice sa1 sn1 sc1, .slice sa2 sn2 sc2, .slice sa6 sn6 sc6, .slice sa22 sn22 sc22, .slice sa23 sn23 sc23, .map none], .row (.slice sa22 sn22 sc22) 111 1 (dcells v_.sets gh8), .fam (dfam 118 3 eEItem v_.sets gh8), .row (.slice sa23 sn23 sc23) 138 1 (mcells v_.met gm4), .fmp (mfam kEItem v_.met gm4), .box b 24 [.int .i64 g_.Nts, .int .i64 g_.Start, .slice sa1 sn1 sc1]] rfl (o_nil (sat_wc (c_region (o_v (v_bin rfl rfl rfl) rfl (o_v (v_move rfl) rfl (o_nil ?_))))))
 intro a w hs
 exact ⟨j, Nat.lt_succ_self j, IntKind.wrap .i64 (t77 + 1), v_.sets, v_.met, sa22, sn22, sc22, gh8, sa23, sn23, sc23, gm4, hL6, st_le [5, 0, 0, 0, 0, 0] (lea rfl) rfl (subs [0, 1, 2, 3] rfl) a w hs⟩
 replace hL6 := ite_f h10 hL6
 refine c_exit0 ?_
 cases hL6
 refine s_st ?_ (hN6 sa18 sn18 sc18 gh6 sa19 sn19 sc19 gm2)
 exact st_le [0, 0, 0, 0, 0, 0] (lea rfl) rfl (subs [0, 1, 2, 3] rfl)
 intro sa20 sn20 sc20 gh7 sa21 sn21 sc21 gm3
 refine sat_wc (c_seq (c_seq (c_region (o_v (v_move rfl) rfl (o_v (v_nilCheck rfl) rfl (o_v (fa 5 rfl) rfl (o_v (vl 1 ty112 rfl rfl rfl) rfl (o_v (v_lenD (le := o6.1) (hs := gh7) 2 sl112 rfl rfl) rfl (o_v (v_move rfl) rfl (o_seq ?_))))))))))
 obtain ⟨o7, ho7, hF⟩ := bd hF
 refine cT (fun E H Φ N' => ∀ (sa26 : Option Addr) (sn26 sc26 : Nat) (gh10 : Nat -> H3) (sa27 : Option Addr) (sn27 sc27 : Nat) (gm6 : Nat -> Nat) (gv1 : Value), Sat E [(0, .agg #[.int .i64 g_.Nts, .int .i64 g_.Start, .slice sa1 sn1 sc1]), (2, .pointer (some ⟨b, 0, none⟩)), (5, .pointer (some ⟨b1, 0, none⟩)), (24, .slice sa1 sn1 sc1), (75, .slice sa17 sn17 sc17)] [.box b 24 [.int .i64 g_.Nts, .int .i64 g_.Start, .slice sa1 sn1 sc1], .box b1 116 [.int .i64 g_.Nts, .int .i64 g_.Start, .slice sa1 sn1 sc1, .slice sa2 sn2 sc2, .slice sa6 sn6 sc6, .slice sa26 sn26 sc26, .slice sa27 sn27 sc27, gv1], .row (.slice sa26 sn26 sc26) 111 1 (dcells o7.1 gh10), .fam (dfam 118 3 eEItem o7.1 gh10), .row (.slice sa27 sn27 sc27) 138 1 (mcells o7.2 gm6), .fmp (mfam kEItem o7.2 gm6)] Φ N') (fun N7 hN7 => ?_) ?_
 refine c_block ?_
 refine cL (fun E H Φ j a w => ∃ (t91 : Int) (sets_2 : List (List EItem)) (met_2 : List (List (EItem × Int))) (sa24 : Option Addr) (sn24 sc24 : Nat) (gh9 : Nat -> H3) (sa25 : Option Addr) (sn25 sc25 : Nat) (gm5 : Nat -> Nat) (gv : Value), F.earley.open__l7 k o6 g_ w__ o2 j t91 sets_2 met_2 = some o7 /\ St E [(0, .agg #[.int .i64 g_.Nts, .int .i64 g_.Start, .slice sa1 sn1 sc1]), (2, .pointer (some ⟨b, 0, none⟩)), (5, .pointer (some ⟨b1, 0, none⟩)), (24, .slice sa1 sn1 sc1), (75, .slice sa17 sn17 sc17), (90, .int .i64 (o6.1.length : Int)), (91, .int .i64 t91)] [.box b 24 [.int .i64 g_.Nts, .int .i64 g_.Start, .slice sa1 sn1 sc1], .box b1 116 [.int .i64 g_.Nts, .int .i64 g_.Start, .slice sa1 sn1 sc1, .slice sa2 sn2 sc2, .slice sa6 sn6 sc6, .slice sa24 sn24 sc24, .slice sa25 sn25 sc25, gv], .row (.slice sa24 sn24 sc24) 111 1 (dcells sets_2 gh9), .fam (dfam 118 3 eEItem sets_2 gh9), .row (.slice sa25 sn25 sc25) 138 1 (mcells met_2 gm5), .fmp (mfam kEItem met_2 gm5)] Φ a w) k ?_ ?_
 intro a w hs
 exact ⟨0, o6.1, o6.2, sa20, sn20, sc20, gh7, sa21, sn21, sc21, gm3, (.map none), ho7, st_le [0, 0, 0, 0, 0, 0] (lea rfl) rfl (subs [0, 1, 2, 3] rfl) a w hs⟩
 rintro j a w ⟨t91, sets_2, met_2, sa24, sn24, sc24, gh9, sa25, sn25, sc25, gm5, gv, hL7, hs⟩
 rcases j with _ | j
 cases hL7
 refine wc_app hs ?_
 unfold F.earley.open__l7 at hL7
 refine c_seq (c_region (o_v (v_bin rfl rfl rfl) rfl (o_seq (c_seq ?_))))
 refine c_cond rfl (fun h13 => ?_) (fun h13 => ?_)
 replace hL7 := ite_t h13 hL7
 refine c_skip (sat_wc (c_seq (c_block (c_seq (c_region (o_v (v_move rfl) rfl (o_v (v_assign rfl) rfl (o_seq (c_seq (c_region (o_v (v_move rfl) rfl (o_makeMap rfl fun b5 => o_v (v_nilCheck rfl) rfl (o_v (fa 7 rfl) rfl (o_store_box 2 rfl ty114 rfl rfl rfl rfl rfl rfl rfl ?_))))))))))))))
 refine o_seq (c_seq (c_region (o_v (v_assign rfl) rfl (o_seq ?_))))
 obtain ⟨o8, ho8, hL7⟩ := bd hL7
 refine cT (fun E H Φ N' => ∀ (sa30 : Option Addr) (sn30 sc30 : Nat) (gh12 : Nat -> H3) (sa31 : Option Addr) (sn31 sc31 : Nat) (gm8 : Nat -> Nat), Sat E [(0, .agg #[.int .i64 g_.Nts, .int .i64 g_.Start, .slice sa1 sn1 sc1]), (2, .pointer (some ⟨b, 0, none⟩)), (5, .pointer (some ⟨b1, 0, none⟩)), (10, .int .i64 t91), (11, .int .i64 o8.1), (24, .slice sa1 sn1 sc1), (75, .slice sa17 sn17 sc17), (90, .int .i64 (o6.1.length : Int)), (91, .int .i64 t91)] [.mp b5 (mEnc intK (tenc o8.2.2.2)), .box b 24 [.int .i64 g_.Nts, .int .i64 g_.Start, .slice sa1 sn1 sc1], .box b1 116 [.int .i64 g_.Nts, .int .i64 g_.Start, .slice sa1 sn1 sc1, .slice sa2 sn2 sc2, .slice sa6 sn6 sc6, .slice sa30 sn30 sc30, .slice sa31 sn31 sc31, .map (some b5)], .row (.slice sa30 sn30 sc30) 111 1 (dcells o8.2.1 gh12), .fam (dfam 118 3 eEItem o8.2.1 gh12), .row (.slice sa31 sn31 sc31) 138 1 (mcells o8.2.2.1 gm8), .fmp (mfam kEItem o8.2.2.1 gm8)] Φ N') (fun N8 hN8 => ?_) ?_
 refine c_block ?_
 refine cL (fun E H Φ j a w => ∃ (i : Int) (sets_3 : List (List EItem)) (met_3 : List (List (EItem × Int))) (v_1 : List (Int × Int)) (sa28 : Option Addr) (sn28 sc28 : Nat) (gh11 : Nat -> H3) (sa29 : Option Addr) (sn29 sc29 : Nat) (gm7 : Nat -> Nat), F.earley.open__l8 k t91 g_ w__ o2 j i sets_3 met_3 v_1 = some o8 /\ St E [(0, .agg #[.int .i64 g_.Nts, .int .i64 g_.Start, .slice sa1 sn1 sc1]), (2, .pointer (some ⟨b, 0, none⟩)), (5, .pointer (some ⟨b1, 0, none⟩)), (10, .int .i64 t91), (11, .int .i64 i), (24, .slice sa1 sn1 sc1), (75, .slice sa17 sn17 sc17), (90, .int .i64 (o6.1.length : Int)), (91, .int .i64 t91)] [.mp b5 (mEnc intK (tenc v_1)), .box b 24 [.int .i64 g_.Nts, .int .i64 g_.Start, .slice sa1 sn1 sc1], .box b1 116 [.int .i64 g_.Nts, .int .i64 g_.Start, .slice sa1 sn1 sc1, .slice sa2 sn2 sc2, .slice sa6 sn6 sc6, .slice sa28 sn28 sc28, .slice sa29 sn29 sc29, .map (some b5)], .row (.slice sa28 sn28 sc28) 111 1 (dcells sets_3 gh11), .fam (dfam 118 3 eEItem sets_3 gh11), .row (.slice sa29 sn29 sc29) 138 1 (mcells met_3 gm7), .fmp (mfam kEItem met_3 gm7)] Φ a w) k ?_ ?_
 intro a w hs
 exact ⟨0, sets_2, met_2, ([] : List (Int × Int)), sa24, sn24, sc24, gh9, sa25, sn25, sc25, gm5, ho8, st_le [0, 0, 0, 0, 0, 0, 0] (lea rfl) rfl (subs [0, 1, 2, 3] rfl) a w hs⟩
 rintro j a w ⟨i, sets_3, met_3, v_1, sa28, sn28, sc28, gh11, sa29, sn29, sc29, gm7, hL8, hs⟩
 rcases j with _ | j
 cases hL8
 refine wc_app hs ?_
 unfold F.earley.open__l8 at hL8
 refine c_seq (c_seq (c_region (o_v (v_move rfl) rfl (o_v (v_move rfl) rfl (o_v (v_nilCheck rfl) rfl (o_v (fa 5 rfl) rfl (o_v (vl 2 ty112 rfl rfl rfl) rfl (o_v (v_move rfl) rfl (ite_some hL8 fun h14 hL8 => o_v (v_indexAddr_d (le := sets_3) (hs := gh11) 3 sl112 rfl rfl rfl h14) rfl (o_v (v_load_d (le := sets_3) (hs := gh11) 3 ty111 rfl rfl h14) rfl (o_v (v_lenS (enc := eEItem) (at_ sets_3 t91) sl111 rfl (.m 4 _ _ rfl (dfam_get h14))) rfl (o_v (v_bin rfl rfl rfl) rfl (o_seq ?_)))))))))))))
 refine c_cond rfl (fun h15 => ?_) (fun h15 => ?_)
 replace hL8 := ite_t h15 hL8
 refine c_skip (sat_wc (c_seq (c_block (c_region (o_v (v_move rfl) rfl (o_v (v_move rfl) rfl (o_v (v_move rfl) rfl (o_v (v_nilCheck rfl) rfl (o_v (fa 5 rfl) rfl (o_v (vl 2 ty112 rfl rfl rfl) rfl (o_v (v_move rfl) rfl (o_v (v_indexAddr_d (le := sets_3) (hs := gh11) 3 sl112 rfl rfl rfl h14) rfl (o_v (v_load_d (le := sets_3) (hs := gh11) 3 ty111 rfl rfl h14) rfl (o_v (v_move rfl) rfl (ite_some hL8 fun h16 hL8 => ?_)))))))))))))))
 refine o_v (v_indexAddr_s (xs := (at_ sets_3 t91)) (enc := eEItem) sl111 rfl rfl (.m 4 _ _ rfl (dfam_get h14)) h16) rfl (o_v (v_load_s (xs := (at_ sets_3 t91)) (enc := eEItem) ty118 rfl (.m 4 _ _ rfl (dfam_get h14)) h16 rfl rfl rfl rfl rfl rfl rfl) rfl ?_)
 obtain ⟨v_2, h17, hL8⟩ := bd hL8
 refine ocl [2, 2, 2, 2, 2, 0] call69 rfl rfl (subs [0, 2, 3] rfl) (tri69 h17 :) ?_
 rintro _ _ _ ⟨sa32, sn32, sc32, gh13, sa33, sn33, sc33, gm9, rfl, rfl, rfl⟩
 refine o_H [.box b1 116 [.int .i64 g_.Nts, .int .i64 g_.Start, .slice sa1 sn1 sc1, .slice sa2 sn2 sc2, .slice sa6 sn6 sc6, .slice sa32 sn32 sc32, .slice sa33 sn33 sc33, .map (some b5)], .row (.slice sa32 sn32 sc32) 111 1 (dcells v_2.sets gh13), .fam (dfam 118 3 eEItem v_2.sets gh13), .row (.slice sa33 sn33 sc33) 138 1 (mcells v_2.met gm9), .fmp (mfam kEItem v_2.met gm9), .mp b5 (mEnc intK (tenc v_2.empty)), .box b 24 [.int .i64 g_.Nts, .int .i64 g_.Start, .slice sa1 sn1 sc1]] rfl (o_nil (sat_wc (c_region (o_v (v_move rfl) rfl (o_v (v_bin rfl rfl rfl) rfl (o_v (v_assign rfl) rfl (o_nil ?_)))))))
 intro a w hs
 exact ⟨j, Nat.lt_succ_self j, IntKind.wrap .i64 (i + 1), v_2.sets, v_2.met, v_2.empty, sa32, sn32, sc32, gh13, sa33, sn33, sc33, gm9, hL8, st_le [5, 5, 0, 0, 0, 0, 0] (lea rfl) rfl (subs [0, 1, 2, 3] rfl) a w hs⟩
 replace hL8 := ite_f h15 hL8
 refine c_exit0 ?_
 cases hL8
 refine s_st ?_ (hN8 sa28 sn28 sc28 gh11 sa29 sn29 sc29 gm7)
 exact st_le [0, 0, 0, 0, 0, 0, 0] (lea rfl) rfl (subs [0, 1, 2, 3] rfl)
 intro sa30 sn30 sc30 gh12 sa31 sn31 sc31 gm8
 refine sat_wc (c_region (o_v (v_bin rfl rfl rfl) rfl (o_v (v_move rfl) rfl (o_nil ?_))))
 intro a w hs
 exact ⟨j, Nat.lt_succ_self j, IntKind.wrap .i64 (t91 + 1), o8.2.1, o8.2.2.1, sa30, sn30, sc30, gh12, sa31, sn31, sc31, gm8, (.map (some b5)), hL7, st_le [1, 1, 1, 1, 1, 1] (lea rfl) rfl (subs [0, 1, 2, 3] rfl) a w hs⟩
 replace hL7 := ite_f h13 hL7
 refine c_exit0 ?_
 cases hL7
 refine s_st ?_ (hN7 sa24 sn24 sc24 gh9 sa25 sn25 sc25 gm5 gv)
 exact st_le [0, 0, 0, 0, 0, 0] (lea rfl) rfl (subs [0, 1, 2, 3] rfl)
 intro sa26 sn26 sc26 gh10 sa27 sn27 sc27 gm6 gv1
 refine sat_wc (c_seq (c_region (o_v (v_move rfl) rfl (o_v (v_assign rfl) rfl (o_seq (c_ret ?_))))))
 cases hF
 refine s_st (st_freezeD 3 2 rfl rfl) (s_ret1 rfl (r_tmp rfl) fun a w hs => fin_sel hs [1] ⟨b1, sa1, sn1, sc1, sa2, sn2, sc2, sa6, sn6, sc6, sa26, sn26, sc26, (.slice sa27 sn27 sc27), gv1, rfl, rfl, rfl⟩ rfl (subs [1, 3, 4, 0] rfl))
theorem tri74 {x_ : EItem} {free : Gram} {free1 : Int} {b : Nat} {b1 : Nat} {sa1 : Option Addr} {sn1 sc1 : Nat} {r : Bool} (hF : F.earley.Spans_c1 x_ free free1 = some r) :
  Tri Try.prog 74 [.agg #[.int .i64 x_.Rule, .int .i64 x_.Dot, .int .i64 x_.From], .pointer (some ⟨b, 0, none⟩), .pointer (some ⟨b1, 0, none⟩)] [.box b 24 [.int .i64 free.Nts, .int .i64 free.Start, .slice sa1 sn1 sc1], .box b1 3 [.int .i64 free1]] [(.slice sa1 sn1 sc1, .slice 2 (free.Rules.map eRule))] (fun o H Φ => o = .ret (.bool r) /\ H = [.box b 24 [.int .i64 free.Nts, .int .i64 free.Start, .slice sa1 sn1 sc1], .box b1 3 [.int .i64 free1]] /\ Φ = []) := by
 unfold F.earley.Spans_c1 at hF
 refine tri_intro (n := 29) Try.func74 rfl Try.ntmps74 rfl fun w X => c_seq (c_region (o_box rfl rfl rfl fun b2 => o_v (v_assign rfl) rfl (o_seq (c_seq (c_region (o_v (fa 2 rfl) rfl (o_v (vl 1 ty22 rfl rfl rfl) rfl (o_v (fa 0 rfl) rfl (o_v (vl 0 ty3 rfl rfl rfl) rfl (ite_some hF fun h1 hF => o_v (v_indexAddr_s (xs := free.Rules) (enc := eRule) sl22 rfl rfl (.f 0 rfl) h1) rfl (o_load_s (xs := free.Rules) (enc := eRule) ty50 rfl (.f 0 rfl) h1 rfl rfl rfl rfl rfl rfl fun sa2 sn2 sc2 => o_alloc zero50 rfl rfl fun b3 => ?_)))))))))))
 refine o_store_box 0 rfl ty50 rfl rfl rfl rfl rfl rfl rfl (o_seq (c_seq (c_region (o_v (fa 0 rfl) rfl (o_v (vl 0 ty3 rfl rfl rfl) rfl (o_v (vl 3 ty3 rfl rfl rfl) rfl (o_v (v_bin rfl rfl rfl) rfl (o_v (v_move rfl) rfl ?_))))))))
 refine o_split (t := 16) rfl (fun h2 => ?_) (fun h2 => ?_)
 replace hF := ite_t h2 hF
 refine o_on rfl rfl (o_v (fa 2 rfl) rfl (o_on rfl rfl (o_v (vl 1 ty3 rfl rfl rfl) rfl (o_on rfl rfl (o_v (v_bin rfl rfl rfl) rfl (o_v (v_pick_t rfl rfl) rfl (o_v (v_move rfl) rfl ?_)))))))
 refine o_split (t := 21) rfl (fun h3 => ?_) (fun h3 => ?_)
 replace hF := ite_t h3 hF
 refine o_on rfl rfl (o_v (fa 1 rfl) rfl (o_on rfl rfl (o_v (vl 1 ty3 rfl rfl rfl) rfl (o_on rfl rfl (o_v (fa 1 rfl) rfl (o_on rfl rfl (o_v (vl 0 ty48 rfl rfl rfl) rfl (o_on rfl rfl (o_v (v_lenS (enc := eKSym) ((at_ free.Rules x_.Rule).Rhs) sl48 rfl (.f 0 rfl)) rfl (o_on rfl rfl (o_v (v_bin rfl rfl rfl) rfl (o_v (v_pick_t rfl rfl) rfl (o_v (v_assign rfl) rfl (o_seq (c_ret ?_)))))))))))))))
 cases hF
 refine s_ret1 rfl (r_tmp rfl) fun a w hs => fin_sel hs [2, 2] ⟨rfl, rfl, rfl⟩ rfl sub_nil
 replace hF := ite_f h3 hF
 refine o_off rfl rfl (by decide) rfl (o_off rfl rfl (by decide) rfl (o_off rfl rfl (by decide) rfl (o_off rfl rfl (by decide) rfl (o_off rfl rfl (by decide) rfl (o_off rfl rfl (by decide) rfl (o_v (v_pick_f rfl rfl) rfl (o_v (v_assign rfl) rfl (o_seq (c_ret ?_)))))))))
 cases hF
 refine s_ret1 rfl (r_tmp rfl) fun a w hs => fin_sel hs [2, 2] ⟨rfl, rfl, rfl⟩ rfl sub_nil
 replace hF := ite_f h2 hF
 refine o_off rfl rfl (by decide) rfl (o_off rfl rfl (by decide) rfl (o_off rfl rfl (by decide) rfl (o_v (v_pick_f rfl rfl) rfl (o_v (v_move rfl) rfl (o_off rfl rfl (by decide) rfl (o_off rfl rfl (by decide) rfl (o_off rfl rfl (by decide) rfl (o_off rfl rfl (by decide) rfl (o_off rfl rfl (by decide) rfl (o_off rfl rfl (by decide) rfl (o_v (v_pick_f rfl rfl) rfl (o_v (v_assign rfl) rfl (o_seq (c_ret ?_))))))))))))))
 cases hF
 refine s_ret1 rfl (r_tmp rfl) fun a w hs => fin_sel hs [2, 2] ⟨rfl, rfl, rfl⟩ rfl sub_nil
theorem tri84_74 {k : Nat} {s : List EItem} {cap : Gram} {cap1 : Int} {b : Nat} {b1 : Nat} {sa1 : Option Addr} {sn1 sc1 : Nat} {sa2 : Option Addr} {sn2 sc2 : Nat} {r : Int} (hF : F.slices.IndexFunc_f84_74 k s cap cap1 = some r) :
  Tri Try.prog 84 [.slice sa1 sn1 sc1, .func (.func 74) #[] #[.pointer (some ⟨b, 0, none⟩), .pointer (some ⟨b1, 0, none⟩)]] [.box b 24 [.int .i64 cap.Nts, .int .i64 cap.Start, .slice sa2 sn2 sc2], .box b1 3 [.int .i64 cap1]] [(.slice sa1 sn1 sc1, .slice 3 (s.map eEItem)), (.slice sa2 sn2 sc2, .slice 2 (cap.Rules.map eRule))] (fun o H Φ => o = .ret (.int .i64 r) /\ H = [.box b 24 [.int .i64 cap.Nts, .int .i64 cap.Start, .slice sa2 sn2 sc2], .box b1 3 [.int .i64 cap1]] /\ Φ = []) := by
 unfold F.slices.IndexFunc_f84_74 at hF
 refine tri_intro (n := 19) Try.func84 rfl Try.ntmps84 rfl fun w X => c_seq (c_region (o_v (v_assign rfl) rfl (o_seq (c_seq (c_seq (c_region (o_v (v_move rfl) rfl (o_v (v_lenS (enc := eEItem) s sl111 rfl (.f 0 rfl)) rfl (o_v (v_move rfl) rfl (o_seq ?_))))))))))
 obtain ⟨o1, ho1, hF⟩ := bd hF
 refine cT (fun E H Φ N' => ∀ (d1 : Unit), o1 = .done d1 -> Sat E [(0, .slice sa1 sn1 sc1), (4, .int .i64 0)] H Φ N') (fun N1 hN1 => ?_) ?_
 refine c_block ?_
 refine cL (fun E H Φ j a w => ∃ (t8 : Int), F.slices.IndexFunc_f84_74_l1 s cap cap1 j t8 = some o1 /\ St E [(0, .slice sa1 sn1 sc1), (1, .func (.func 74) #[] #[.pointer (some ⟨b, 0, none⟩), .pointer (some ⟨b1, 0, none⟩)]), (4, .int .i64 0), (7, .int .i64 (s.length : Int)), (8, .int .i64 t8)] H Φ a w) k ?_ ?_
 intro a w hs
 exact ⟨0, ho1, st_le [0, 0] (lea rfl) rfl (subs [0, 1] rfl) a w hs⟩
 rintro j a w ⟨t8, hL1, hs⟩
 rcases j with _ | j
 cases hL1
 refine wc_app hs ?_
 unfold F.slices.IndexFunc_f84_74_l1 at hL1
 refine c_seq (c_region (o_v (v_bin rfl rfl rfl) rfl (o_seq (c_seq ?_))))
 refine c_cond rfl (fun h1 => ?_) (fun h1 => ?_)
 replace hL1 := ite_t h1 hL1
 refine c_skip (sat_wc (c_seq (c_block (c_seq (c_region (o_v (v_move rfl) rfl (o_v (v_assign rfl) rfl (o_seq (c_seq (c_region (o_v (v_move rfl) rfl (o_v (v_move rfl) rfl (o_v (v_move rfl) rfl (ite_some hL1 fun h2 hL1 => o_v (v_indexAddr_s (xs := s) (enc := eEItem) sl111 rfl rfl (.f 0 rfl) h2) rfl ?_))))))))))))))
 refine o_v (v_load_s (xs := s) (enc := eEItem) ty118 rfl (.f 0 rfl) h2 rfl rfl rfl rfl rfl rfl rfl) rfl ?_
 obtain ⟨v_, h3, hL1⟩ := bd hL1
 refine o_call [0, 0] call74 (cap := #[.pointer (some ⟨b, 0, none⟩), .pointer (some ⟨b1, 0, none⟩)]) rfl rfl rfl (subs [1] rfl) (by exact (tri74 h3 :)) rfl ?_
 rintro _ _ _ ⟨rfl, rfl, rfl⟩
 refine o_seq ?_
 refine c_cond rfl (fun h4 => ?_) (fun h4 => ?_)
 replace hL1 := ite_t h4 hL1
 refine c_seq (c_region (o_v (v_move rfl) rfl (o_v (v_assign rfl) rfl (o_seq (c_ret ?_)))))
 cases hL1
 obtain rfl := lrf_ret hF
 refine s_ret1 rfl (r_tmp rfl) fun a w hs => fin_sel hs [0, 0] ⟨rfl, rfl, rfl⟩ rfl sub_nil
 replace hL1 := ite_f h4 hL1
 refine c_skip (sat_wc (c_region (o_v (v_bin rfl rfl rfl) rfl (o_v (v_move rfl) rfl (o_nil ?_)))))
 intro a w hs
 exact ⟨j, Nat.lt_succ_self j, IntKind.wrap .i64 (t8 + 1), hL1, st_le [0, 0] (lea rfl) rfl (subs [0, 1] rfl) a w hs⟩
 replace hL1 := ite_f h1 hL1
 refine c_exit0 ?_
 cases hL1
 refine s_st ?_ (hN1 () rfl)
 exact st_le [0, 0] (lea rfl) rfl (subs [0, 1] rfl)
 intro d1 hd
 subst hd
 replace hF := lrf_done hF
 refine sat_wc (c_seq (c_region (o_v (v_assign rfl) rfl (o_seq (c_ret ?_)))))
 cases hF
 refine s_ret1 rfl (r_tmp rfl) fun a w hs => fin_sel hs [0, 0] ⟨rfl, rfl, rfl⟩ rfl sub_nil
theorem tri73_74 {k : Nat} {s : List EItem} {cap : Gram} {cap1 : Int} {b : Nat} {b1 : Nat} {sa1 : Option Addr} {sn1 sc1 : Nat} {sa2 : Option Addr} {sn2 sc2 : Nat} {r : Bool} (hF : F.slices.ContainsFunc_f73_74 k s cap cap1 = some r) :
  Tri Try.prog 73 [.slice sa1 sn1 sc1, .func (.func 74) #[] #[.pointer (some ⟨b, 0, none⟩), .pointer (some ⟨b1, 0, none⟩)]] [.box b 24 [.int .i64 cap.Nts, .int .i64 cap.Start, .slice sa2 sn2 sc2], .box b1 3 [.int .i64 cap1]] [(.slice sa1 sn1 sc1, .slice 3 (s.map eEItem)), (.slice sa2 sn2 sc2, .slice 2 (cap.Rules.map eRule))] (fun o H Φ => o = .ret (.bool r) /\ H = [.box b 24 [.int .i64 cap.Nts, .int .i64 cap.Start, .slice sa2 sn2 sc2], .box b1 3 [.int .i64 cap1]] /\ Φ = []) := by
 unfold F.slices.ContainsFunc_f73_74 at hF
 refine tri_intro (n := 9) Try.func73 rfl Try.ntmps73 rfl fun w X => c_seq (c_region (o_v (v_assign rfl) rfl (o_seq (c_seq (c_region (o_v (v_move rfl) rfl (o_v (v_move rfl) rfl ?_)))))))
 obtain ⟨v_, h1, hF⟩ := bd hF
 refine ocl [0, 0] call84 rfl rfl (subs [0, 1] rfl) (tri84_74 h1 :) ?_
 rintro _ _ _ ⟨rfl, rfl, rfl⟩
 refine o_v (v_bin rfl rfl rfl) rfl (o_v (v_assign rfl) rfl (o_seq (c_ret ?_)))
 cases hF
 refine s_ret1 rfl (r_tmp rfl) fun a w hs => fin_sel hs [0, 0] ⟨rfl, rfl, rfl⟩ rfl sub_nil
theorem tri54 {k : Nat} {g_ : Gram} {w__ : List Int} {nt_ : Int} {sa1 : Option Addr} {sn1 sc1 : Nat} {sa2 : Option Addr} {sn2 sc2 : Nat} {r : List Run × Int} (hF : F.earley.Spans k g_ w__ nt_ = some r) :
  Tri Try.prog 54 [.agg #[.int .i64 g_.Nts, .int .i64 g_.Start, .slice sa1 sn1 sc1], .slice sa2 sn2 sc2, .int .i64 nt_] [] [(.slice sa1 sn1 sc1, .slice 2 (g_.Rules.map eRule)), (.slice sa2 sn2 sc2, .slice 1 (w__.map eU8))] (fun o H Φ => ∃ (sa18 : Option Addr) (sn18 sc18 : Nat), o = .ret (.tuple #[.slice sa18 sn18 sc18, .int .i64 r.2]) /\ H = [.row (.slice sa18 sn18 sc18) 125 2 (r.1.map eRun)] /\ Φ = []) := by
 unfold F.earley.Spans at hF
 refine tri_intro (n := 64) Try.func54 rfl Try.ntmps54 rfl fun w X => c_seq (c_region (o_box rfl rfl rfl fun b => o_box rfl rfl rfl fun b1 => o_v (v_assign rfl) rfl (o_v (v_assign rfl) rfl (o_seq (c_seq (c_seq (c_region (o_v (vl 1 ty24 rfl rfl rfl) rfl (o_v (v_move rfl) rfl ?_)))))))))
 obtain ⟨v_, h1, hF⟩ := bd hF
 refine o_callSB call50 rfl (lent_f 0 rfl (lent_f 1 rfl lent_nil)) (tri50 h1 :) rfl (o_v (v_assign rfl) rfl (o_seq (c_seq (c_region (o_v (v_move rfl) rfl (o_v (v_bin rfl rfl rfl) rfl (o_seq ?_)))))))
 refine c_cond rfl (fun h2 => ?_) (fun h2 => ?_)
 replace hF := ite_t h2 hF
 refine c_seq (c_region (o_v (v_move rfl) rfl (o_v (v_assign rfl) rfl (o_v (v_assign rfl) rfl (o_seq (c_ret ?_))))))
 cases hF
 refine s_st (st_nilrow 125 2) (s_ret2 rfl (r_tmp rfl) (r_tmp rfl) fun a w hs => fin_sel hs [0] ⟨none, 0, 0, rfl, rfl, rfl⟩ rfl sub_nil)
 replace hF := ite_f h2 hF
 refine c_skip (sat_wc (c_seq (c_seq (c_region (o_v (vl 0 ty3 rfl rfl rfl) rfl (o_v (v_bin rfl rfl rfl) rfl (o_v (v_move rfl) rfl ?_)))))))
 refine o_split (t := 22) rfl (fun h3 => ?_) (fun h3 => ?_)
 replace hF := ite_t h3 hF
 refine o_off rfl rfl (by decide) rfl (o_off rfl rfl (by decide) rfl (o_off rfl rfl (by decide) rfl (o_off rfl rfl (by decide) rfl (o_v (v_pick_t rfl rfl) rfl (o_seq ?_)))))
 refine c_cond rfl (fun _ => ?_) (fun h => Bool.noConfusion h)
 refine c_seq (c_region (o_v (v_assign rfl) rfl (o_v (v_assign rfl) rfl (o_seq (c_ret ?_)))))
 cases hF
 refine s_st (st_nilrow 125 2) (s_ret2 rfl (r_tmp rfl) (r_tmp rfl) fun a w hs => fin_sel hs [0] ⟨none, 0, 0, rfl, rfl, rfl⟩ rfl sub_nil)
 replace hF := ite_f h3 hF
 refine o_on rfl rfl (o_v (vl 0 ty3 rfl rfl rfl) rfl (o_on rfl rfl (o_v (fa 0 rfl) rfl (o_on rfl rfl (o_v (vl 1 ty3 rfl rfl rfl) rfl (o_on rfl rfl (o_v (v_bin rfl rfl rfl) rfl (o_v (v_pick_f rfl rfl) rfl (o_seq ?_)))))))))
 refine c_cond rfl (fun h4 => ?_) (fun h4 => ?_)
 replace hF := ite_t h4 hF
 refine c_seq (c_region (o_v (v_assign rfl) rfl (o_v (v_assign rfl) rfl (o_seq (c_ret ?_)))))
 cases hF
 refine s_st (st_nilrow 125 2) (s_ret2 rfl (r_tmp rfl) (r_tmp rfl) fun a w hs => fin_sel hs [0] ⟨none, 0, 0, rfl, rfl, rfl⟩ rfl sub_nil)
 replace hF := ite_f h4 hF
 refine c_skip (sat_wc (c_seq (c_region (o_v (v_assign rfl) rfl (o_seq (c_seq (c_region (o_v (vl 0 ty3 rfl rfl rfl) rfl (o_v (fa 1 rfl) rfl (o_store_box 1 rfl ty3 rfl rfl rfl rfl rfl rfl rfl (o_seq (c_seq (c_seq (c_region (o_v (v_assign rfl) rfl ?_)))))))))))))))
 refine o_seq ?_
 obtain ⟨o1, ho1, hF⟩ := bd hF
 refine cT (fun E H Φ N' => ∀ (sa4 : Option Addr) (sn4 sc4 : Nat), Sat E [(0, .agg #[.int .i64 g_.Nts, .int .i64 g_.Start, .slice sa1 sn1 sc1]), (1, .slice sa2 sn2 sc2), (2, .int .i64 nt_), (3, .pointer (some ⟨b, 0, none⟩)), (5, .pointer (some ⟨b1, 0, none⟩)), (6, .slice none 0 0), (7, .int .i64 0), (8, .int .i64 v_), (9, .slice sa4 sn4 sc4)] [.box b1 3 [.int .i64 nt_], .box b 24 [.int .i64 g_.Nts, .int .i64 nt_, .slice sa1 sn1 sc1], .row (.slice sa4 sn4 sc4) 125 2 (o1.map eRun)] Φ N') (fun N1 hN1 => ?_) ?_
 refine c_block ?_
 refine cL (fun E H Φ j a w => ∃ (out : List Run) (lo : Int) (sa3 : Option Addr) (sn3 sc3 : Nat), F.earley.Spans_l1 k w__ g_ nt_ j out lo = some o1 /\ St E [(0, .agg #[.int .i64 g_.Nts, .int .i64 g_.Start, .slice sa1 sn1 sc1]), (1, .slice sa2 sn2 sc2), (2, .int .i64 nt_), (3, .pointer (some ⟨b, 0, none⟩)), (5, .pointer (some ⟨b1, 0, none⟩)), (6, .slice none 0 0), (7, .int .i64 0), (8, .int .i64 v_), (9, .slice sa3 sn3 sc3), (10, .int .i64 lo)] [.box b1 3 [.int .i64 nt_], .box b 24 [.int .i64 g_.Nts, .int .i64 nt_, .slice sa1 sn1 sc1], .row (.slice sa3 sn3 sc3) 125 2 (out.map eRun)] Φ a w) k ?_ ?_
 refine s_st (st_nilrow 125 2) ?_
 intro a w hs
 exact ⟨([] : List Run), 0, none, 0, 0, ho1, st_le [1, 1, 0] (lea rfl) rfl (subs [0, 1] rfl) a w hs⟩
 rintro j a w ⟨out, lo, sa3, sn3, sc3, hL1, hs⟩
 rcases j with _ | j
 cases hL1
 refine wc_app hs ?_
 unfold F.earley.Spans_l1 at hL1
 refine c_seq (c_seq (c_region (o_v (v_move rfl) rfl (o_v (v_move rfl) rfl (o_v (v_lenS (enc := eU8) w__ sl25 rfl (.f 1 rfl)) rfl (o_v (v_bin rfl rfl rfl) rfl (o_seq ?_)))))))
 refine c_cond rfl (fun h5 => ?_) (fun h5 => ?_)
 replace hL1 := ite_t h5 hL1
 refine c_skip (sat_wc (c_seq (c_block (c_seq (c_draw (n := 6) [0, 0, 0] mixed rfl rfl (dv 0 rfl (vl 1 ty24 rfl rfl rfl) (dv 1 rfl (v_move rfl) (dv 2 rfl (v_move rfl) (d_one 3 rfl (by kernel_rfl) (ite_some hL1 fun h6 hL1 => o_cutS (enc := eU8) (xs := w__) 1 sl25 rfl rfl rfl rfl rfl rfl h6 rfl fun sa5 sn5 sc5 => d_next [0, 0, 0] 1 rfl rfl (d_one 4 rfl (by kernel_rfl) ?_)))))))))))
 obtain ⟨v_1, h7, hL1⟩ := bd hL1
 refine o_call0 call51 rfl (subs [1, 0] rfl) (tri51 h7 :) rfl ?_
 rintro _ _ _ ⟨gb, sa6, sn6, sc6, sa7, sn7, sc7, sa8, sn8, sc8, sa9, sn9, sc9, gv, gv1, rfl, rfl, rfl⟩
 refine d_next [1, 1, 1] 5 rfl rfl (dv 5 rfl (v_assign rfl) (d_done_seq (by kernel_rfl) (c_seq (c_region (o_v (v_move rfl) rfl (o_v (v_nilCheck rfl) rfl (o_v (fa 5 rfl) rfl (o_v (vl 0 ty112 rfl rfl rfl) rfl (o_v (v_lenS (enc := (eSl 3 eEItem)) v_1.sets sl112 rfl (.f 3 rfl)) rfl (o_v (v_move rfl) rfl (o_seq ?_)))))))))))
 obtain ⟨o2, ho2, hL1⟩ := bd hL1
 refine c_cut (fun E N' => ∀ (sa11 : Option Addr) (sn11 sc11 : Nat), Sat E [(0, .agg #[.int .i64 g_.Nts, .int .i64 g_.Start, .slice sa1 sn1 sc1]), (1, .slice sa2 sn2 sc2), (2, .int .i64 nt_), (3, .pointer (some ⟨b, 0, none⟩)), (5, .pointer (some ⟨b1, 0, none⟩)), (6, .slice none 0 0), (7, .int .i64 0), (8, .int .i64 v_), (9, .slice sa11 sn11 sc11), (10, .int .i64 lo), (11, .pointer (some ⟨gb, 0, none⟩)), (44, .slice sa9 sn9 sc9), (45, .int .i64 (v_1.sets.length : Int)), (46, .int .i64 o2.2)] [.box gb 116 [.int .i64 v_1.g.Nts, .int .i64 v_1.g.Start, .slice sa6 sn6 sc6, .slice sa7 sn7 sc7, .slice sa8 sn8 sc8, .slice sa9 sn9 sc9, gv, gv1], .box b1 3 [.int .i64 nt_], .box b 24 [.int .i64 g_.Nts, .int .i64 nt_, .slice sa1 sn1 sc1], .row (.slice sa11 sn11 sc11) 125 2 (o2.1.map eRun)] [(.slice sa1 sn1 sc1, .slice 2 (g_.Rules.map eRule)), (.slice sa2 sn2 sc2, .slice 1 (w__.map eU8)), (.slice sa9 sn9 sc9, .slice 1 (v_1.sets.map (eSl 3 eEItem))), (.slice sa6 sn6 sc6, .slice 2 (v_1.g.Rules.map eRule)), (.slice sa7 sn7 sc7, .slice 1 (v_1.w_.map eU8)), (.slice sa8 sn8 sc8, .slice 1 (v_1.by_.map (eSl 1 eI64)))] N') (fun N2 hN2 => ?_) ?_
 refine c_block ?_
 refine c_loopE (fun E j a w => ∃ (out1 : List Run) (t46 : Int) (sa10 : Option Addr) (sn10 sc10 : Nat), F.earley.Spans_l2 k v_1 g_ nt_ lo j out1 t46 = some o2 /\ St E [(0, .agg #[.int .i64 g_.Nts, .int .i64 g_.Start, .slice sa1 sn1 sc1]), (1, .slice sa2 sn2 sc2), (2, .int .i64 nt_), (3, .pointer (some ⟨b, 0, none⟩)), (5, .pointer (some ⟨b1, 0, none⟩)), (6, .slice none 0 0), (7, .int .i64 0), (8, .int .i64 v_), (9, .slice sa10 sn10 sc10), (10, .int .i64 lo), (11, .pointer (some ⟨gb, 0, none⟩)), (44, .slice sa9 sn9 sc9), (45, .int .i64 (v_1.sets.length : Int)), (46, .int .i64 t46)] [.box gb 116 [.int .i64 v_1.g.Nts, .int .i64 v_1.g.Start, .slice sa6 sn6 sc6, .slice sa7 sn7 sc7, .slice sa8 sn8 sc8, .slice sa9 sn9 sc9, gv, gv1], .box b1 3 [.int .i64 nt_], .box b 24 [.int .i64 g_.Nts, .int .i64 nt_, .slice sa1 sn1 sc1], .row (.slice sa10 sn10 sc10) 125 2 (out1.map eRun)] [(.slice sa1 sn1 sc1, .slice 2 (g_.Rules.map eRule)), (.slice sa2 sn2 sc2, .slice 1 (w__.map eU8)), (.slice sa9 sn9 sc9, .slice 1 (v_1.sets.map (eSl 3 eEItem))), (.slice sa6 sn6 sc6, .slice 2 (v_1.g.Rules.map eRule)), (.slice sa7 sn7 sc7, .slice 1 (v_1.w_.map eU8)), (.slice sa8 sn8 sc8, .slice 1 (v_1.by_.map (eSl 1 eI64)))] a w) k ?_ ?_
 intro a w hs
 exact ⟨out, 0, sa3, sn3, sc3, ho2, st_le [0, 0, 0, 0] (lea rfl) rfl (subs [5, 6, 3, 0, 1, 2] rfl) a w hs⟩
 rintro j a w ⟨out1, t46, sa10, sn10, sc10, hL2, hs⟩
 rcases j with _ | j
 cases hL2
 refine wc_app hs ?_
 unfold F.earley.Spans_l2 at hL2
 refine c_seq (c_region (o_v (v_bin rfl rfl rfl) rfl (o_seq (c_seq ?_))))
 refine c_cond rfl (fun h8 => ?_) (fun h8 => ?_)
 replace hL2 := ite_t h8 hL2
 refine c_skip (sat_wc (c_seq ?_))
 refine c_cut (fun E N' => ∀ (out2 : List Run) (sa12 : Option Addr) (sn12 sc12 : Nat) (sa13 : Option Addr) (sn13 sc13 : Nat), F.earley.Spans_j3 (F.earley.Spans_l2 k v_1 g_ nt_ lo j) t46 out2 = some o2 -> Sat E [(0, .agg #[.int .i64 g_.Nts, .int .i64 g_.Start, .slice sa1 sn1 sc1]), (1, .slice sa2 sn2 sc2), (2, .int .i64 nt_), (3, .pointer (some ⟨b, 0, none⟩)), (5, .pointer (some ⟨b1, 0, none⟩)), (6, .slice none 0 0), (7, .int .i64 0), (8, .int .i64 v_), (9, .slice sa12 sn12 sc12), (10, .int .i64 lo), (11, .pointer (some ⟨gb, 0, none⟩)), (12, .int .i64 t46), (13, .slice sa13 sn13 sc13), (44, .slice sa9 sn9 sc9), (45, .int .i64 (v_1.sets.length : Int)), (46, .int .i64 t46)] [.box b 24 [.int .i64 g_.Nts, .int .i64 nt_, .slice sa1 sn1 sc1], .box b1 3 [.int .i64 nt_], .box gb 116 [.int .i64 v_1.g.Nts, .int .i64 v_1.g.Start, .slice sa6 sn6 sc6, .slice sa7 sn7 sc7, .slice sa8 sn8 sc8, .slice sa9 sn9 sc9, gv, gv1], .row (.slice sa12 sn12 sc12) 125 2 (out2.map eRun)] [(.slice sa1 sn1 sc1, .slice 2 (g_.Rules.map eRule)), (.slice sa2 sn2 sc2, .slice 1 (w__.map eU8)), (.slice sa13 sn13 sc13, .slice 3 ((at_ v_1.sets t46).map eEItem)), (.slice sa9 sn9 sc9, .slice 1 (v_1.sets.map (eSl 3 eEItem))), (.slice sa6 sn6 sc6, .slice 2 (v_1.g.Rules.map eRule)), (.slice sa7 sn7 sc7, .slice 1 (v_1.w_.map eU8)), (.slice sa8 sn8 sc8, .slice 1 (v_1.by_.map (eSl 1 eI64)))] N') (fun N3 hN3 => ?_) ?_
 refine c_block (c_seq (c_region (o_v (v_move rfl) rfl (ite_some hL2 fun h9 hL2 => o_v (v_indexAddr_s (xs := v_1.sets) (enc := (eSl 3 eEItem)) sl112 rfl rfl (.f 2 rfl) h9) rfl (o_load_s (xs := v_1.sets) (enc := (eSl 3 eEItem)) ty111 rfl (.f 2 rfl) h9 rfl rfl rfl rfl rfl rfl fun sa14 sn14 sc14 => o_v (v_assign rfl) rfl (o_v (v_assign rfl) rfl (o_seq (c_seq (c_region (o_v (v_move rfl) rfl (o_v (v_makeFunc (vs := [.pointer (some ⟨b, 0, none⟩), .pointer (some ⟨b1, 0, none⟩)]) rfl) rfl ?_)))))))))))
 obtain ⟨v_2, h10, hL2⟩ := bd hL2
 refine ocl [2, 1] call73 rfl rfl (subs [0, 1] rfl) (tri73_74 h10 :) ?_
 rintro _ _ _ ⟨rfl, rfl, rfl⟩
 refine o_seq ?_
 refine c_cut (fun E N' => ∀ (out3 : List Run) (sa15 : Option Addr) (sn15 sc15 : Nat), F.earley.Spans_j4 (F.earley.Spans_l2 k v_1 g_ nt_ lo j) t46 out3 = some o2 -> Sat E [(0, .agg #[.int .i64 g_.Nts, .int .i64 g_.Start, .slice sa1 sn1 sc1]), (1, .slice sa2 sn2 sc2), (2, .int .i64 nt_), (3, .pointer (some ⟨b, 0, none⟩)), (5, .pointer (some ⟨b1, 0, none⟩)), (6, .slice none 0 0), (7, .int .i64 0), (8, .int .i64 v_), (9, .slice sa15 sn15 sc15), (10, .int .i64 lo), (11, .pointer (some ⟨gb, 0, none⟩)), (12, .int .i64 t46), (13, .slice sa14 sn14 sc14), (44, .slice sa9 sn9 sc9), (45, .int .i64 (v_1.sets.length : Int)), (46, .int .i64 t46)] [.box b 24 [.int .i64 g_.Nts, .int .i64 nt_, .slice sa1 sn1 sc1], .box b1 3 [.int .i64 nt_], .box gb 116 [.int .i64 v_1.g.Nts, .int .i64 v_1.g.Start, .slice sa6 sn6 sc6, .slice sa7 sn7 sc7, .slice sa8 sn8 sc8, .slice sa9 sn9 sc9, gv, gv1], .row (.slice sa15 sn15 sc15) 125 2 (out3.map eRun)] [(.slice sa1 sn1 sc1, .slice 2 (g_.Rules.map eRule)), (.slice sa2 sn2 sc2, .slice 1 (w__.map eU8)), (.slice sa14 sn14 sc14, .slice 3 ((at_ v_1.sets t46).map eEItem)), (.slice sa9 sn9 sc9, .slice 1 (v_1.sets.map (eSl 3 eEItem))), (.slice sa6 sn6 sc6, .slice 2 (v_1.g.Rules.map eRule)), (.slice sa7 sn7 sc7, .slice 1 (v_1.w_.map eU8)), (.slice sa8 sn8 sc8, .slice 1 (v_1.by_.map (eSl 1 eI64)))] N') (fun N4 hN4 => ?_) ?_
 refine c_cond rfl (fun h11 => ?_) (fun h11 => ?_)
 replace hL2 := ite_t h11 hL2
 refine c_region (o_v (v_move rfl) rfl (o_v (v_move rfl) rfl (o_v (v_move rfl) rfl (o_v (v_move rfl) rfl (o_v (v_bin rfl rfl rfl) rfl (o_v (v_build (v := .agg #[.int .i64 lo, .int .i64 (IntKind.wrap .i64 (lo + t46))]) rfl (fun _ => by kernel_rfl)) rfl (o_buildSlice (enc := eRun) ([(Run.mk lo (IntKind.wrap .i64 (lo + t46)))] : List Run) [.int .i64 lo, .int .i64 (IntKind.wrap .i64 (lo + t46))] sl121 rfl (fun _ => by kernel_rfl) rfl rfl rfl (.s rfl (.s rfl (.nil))) rfl fun sa16 sn16 sc16 => ite_some hL2 fun h12 hL2 => ite_some hL2 fun h13 hL2 => o_append (enc := eRun) (xs := out1) (ys := ([(Run.mk lo (IntKind.wrap .i64 (lo + t46)))] : List Run)) 4 sl121 rfl rfl rfl (.r 0 _ rfl) h12 h13 rfl fun sa17 sn17 sc17 => o_v (v_assign rfl) rfl (o_nil ?_))))))))
 refine s_st ?_ (hN4 (out1 ++ ([(Run.mk lo (IntKind.wrap .i64 (lo + t46)))] : List Run)) sa17 sn17 sc17 hL2)
 exact st_le [1, 1, 1, 1] (lea rfl) rfl (subs [1, 2, 0, 3, 4, 5, 6] rfl)
 replace hL2 := ite_f h11 hL2
 refine c_skip ?_
 refine s_st ?_ (hN4 out1 sa10 sn10 sc10 hL2)
 exact st_le [0, 0, 0, 0] (lea rfl) rfl (subs [1, 2, 0, 3, 4, 5, 6] rfl)
 intro out3 sa15 sn15 sc15 hL2
 unfold F.earley.Spans_j4 at hL2
 refine s_st ?_ (hN3 out3 sa15 sn15 sc15 sa14 sn14 sc14 hL2)
 exact st_le [0, 0, 0, 0] (lea rfl) rfl (subs [0, 1, 2, 3, 4, 5, 6] rfl)
 intro out2 sa12 sn12 sc12 sa13 sn13 sc13 hL2
 unfold F.earley.Spans_j3 at hL2
 refine sat_wc (c_region (o_v (v_bin rfl rfl rfl) rfl (o_v (v_move rfl) rfl (o_nil ?_))))
 intro a w hs
 exact ⟨j, Nat.lt_succ_self j, out2, IntKind.wrap .i64 (t46 + 1), sa12, sn12, sc12, hL2, st_le [2, 1, 0, 0] (lea rfl) rfl (subs [0, 1, 3, 4, 5, 6] rfl) a w hs⟩
 replace hL2 := ite_f h8 hL2
 refine c_exit0 ?_
 cases hL2
 refine s_st ?_ (hN2 sa10 sn10 sc10)
 exact st_le [0, 0, 0, 0] (lea rfl) rfl (subs [0, 1, 2, 3, 4, 5] rfl)
 intro sa11 sn11 sc11
 refine sat_wc (c_region (o_v (v_move rfl) rfl (o_v (v_bin rfl rfl rfl) rfl (o_v (v_assign rfl) rfl (o_nil ?_)))))
 intro a w hs
 exact ⟨j, Nat.lt_succ_self j, o2.1, IntKind.wrap .i64 (lo + 1), sa11, sn11, sc11, hL1, st_le [1, 1, 1] (lea rfl) rfl (subs [0, 1] rfl) a w hs⟩
 replace hL1 := ite_f h5 hL1
 refine c_exit0 ?_
 cases hL1
 refine s_st ?_ (hN1 sa3 sn3 sc3)
 exact st_le [0, 0, 0] (lea rfl) rfl (subs [0, 1] rfl)
 intro sa4 sn4 sc4
 refine sat_wc (c_seq (c_region (o_v (v_move rfl) rfl (o_v (v_assign rfl) rfl (o_v (v_assign rfl) rfl (o_seq (c_ret ?_)))))))
 cases hF
 refine s_ret2 rfl (r_tmp rfl) (r_tmp rfl) fun a w hs => fin_sel hs [2] ⟨sa4, sn4, sc4, rfl, rfl, rfl⟩ rfl sub_nil
end Go.Vc
