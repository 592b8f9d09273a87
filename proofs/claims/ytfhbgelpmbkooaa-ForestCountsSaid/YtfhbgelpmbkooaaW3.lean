import Derived.Test.YtfhbgelpmbkooaaW2
set_option linter.unusedVariables false
set_option linter.unusedSimpArgs false
set_option maxRecDepth 8000
set_option maxHeartbeats 2000000
namespace Go.Vc
open Go Go.Proofs
theorem tri36_B (k : Nat) (g61 : Ref08_Counter -> List KSym -> Int -> Int -> Option (Int × Ref08_Counter))
  (hg61 : ∀ {c : Ref08_Counter} {rhs : List KSym} {i : Int} {j_ : Int} {b : Nat} {gb : Nat} {sa1 : Option Addr} {sn1 sc1 : Nat} {sa2 : Option Addr} {sn2 sc2 : Nat} {sa3 : Option Addr} {sn3 sc3 : Nat} {sa4 : Option Addr} {sn4 sc4 : Nat} {sa5 : Option Addr} {sn5 sc5 : Nat} {r : Int × Ref08_Counter}, g61 c rhs i j_ = some r -> Tri Try.prog 61 [.pointer (some ⟨b, 0, none⟩), .slice sa5 sn5 sc5, .int .i64 i, .int .i64 j_] [.box b 130 [.pointer (some ⟨gb, 0, none⟩), .slice sa4 sn4 sc4], .box gb 81 [.int .i64 c.T.G.Nts, .int .i64 c.T.G.Start, .slice sa1 sn1 sc1, .slice sa2 sn2 sc2, .int .i64 c.T.N_, .slice sa3 sn3 sc3], .row (.slice sa3 sn3 sc3) 4 1 (c.T.Yes.map eB), .row (.slice sa4 sn4 sc4) 3 1 (c.Known.map eI64)] [(.slice sa1 sn1 sc1, .slice 2 (c.T.G.Rules.map eRule)), (.slice sa2 sn2 sc2, .slice 1 (c.T.W.map eU8)), (.slice sa5 sn5 sc5, .slice 5 (rhs.map eKSym))] (fun o H Φ => ∃ (sa30 : Option Addr) (sn30 sc30 : Nat), o = .ret (.int .i64 r.1) /\ H = [.box b 130 [.pointer (some ⟨gb, 0, none⟩), .slice sa30 sn30 sc30], .box gb 81 [.int .i64 c.T.G.Nts, .int .i64 c.T.G.Start, .slice sa1 sn1 sc1, .slice sa2 sn2 sc2, .int .i64 c.T.N_, .slice sa3 sn3 sc3], .row (.slice sa3 sn3 sc3) 4 1 (c.T.Yes.map eB), .row (.slice sa30 sn30 sc30) 3 1 (r.2.Known.map eI64)] /\ Φ = [])) {c : Ref08_Counter} {a_ : Int} {i : Int} {j_ : Int} {b : Nat} {gb : Nat} {sa1 : Option Addr} {sn1 sc1 : Nat} {sa2 : Option Addr} {sn2 sc2 : Nat} {sa3 : Option Addr} {sn3 sc3 : Nat} {sa4 : Option Addr} {sn4 sc4 : Nat} {r : Int × Ref08_Counter} (hF : F.ref08.Counter_trees_B k g61 c a_ i j_ = some r) :
  Tri Try.prog 36 [.pointer (some ⟨b, 0, none⟩), .int .i64 a_, .int .i64 i, .int .i64 j_] [.box b 130 [.pointer (some ⟨gb, 0, none⟩), .slice sa4 sn4 sc4], .box gb 81 [.int .i64 c.T.G.Nts, .int .i64 c.T.G.Start, .slice sa1 sn1 sc1, .slice sa2 sn2 sc2, .int .i64 c.T.N_, .slice sa3 sn3 sc3], .row (.slice sa3 sn3 sc3) 4 1 (c.T.Yes.map eB), .row (.slice sa4 sn4 sc4) 3 1 (c.Known.map eI64)] [(.slice sa1 sn1 sc1, .slice 2 (c.T.G.Rules.map eRule)), (.slice sa2 sn2 sc2, .slice 1 (c.T.W.map eU8))] (fun o H Φ => ∃ (sa11 : Option Addr) (sn11 sc11 : Nat), o = .ret (.int .i64 r.1) /\ H = [.box b 130 [.pointer (some ⟨gb, 0, none⟩), .slice sa11 sn11 sc11], .box gb 81 [.int .i64 c.T.G.Nts, .int .i64 c.T.G.Start, .slice sa1 sn1 sc1, .slice sa2 sn2 sc2, .int .i64 c.T.N_, .slice sa3 sn3 sc3], .row (.slice sa3 sn3 sc3) 4 1 (c.T.Yes.map eB), .row (.slice sa11 sn11 sc11) 3 1 (r.2.Known.map eI64)] /\ Φ = []) := by
 unfold F.ref08.Counter_trees_B at hF
 refine tri_intro (n := 112) Try.func36 rfl Try.ntmps36 rfl fun w X => c_seq (c_region (o_v (v_assign rfl) rfl (o_seq (c_seq (c_seq (c_region (o_v (v_move rfl) rfl (o_v (v_nilCheck rfl) rfl (o_v (fa 0 rfl) rfl (o_v (vl 0 ty74 rfl rfl rfl) rfl (o_v (v_move rfl) rfl (o_v (v_move rfl) rfl (o_v (v_move rfl) rfl ?_)))))))))))))
 obtain ⟨v_, h1, hF⟩ := bd hF
 refine ocl [1, 1] call47 rfl rfl (subs [0, 1] rfl) (tri47 h1 :) ?_
 rintro _ _ _ ⟨rfl, rfl, rfl⟩
 refine o_v (v_not rfl) rfl (o_seq ?_)
 refine c_cond rfl (fun h2 => ?_) (fun h2 => ?_)
 replace hF := ite_t h2 hF
 refine c_seq (c_region (o_v (v_assign rfl) rfl (o_seq (c_ret ?_))))
 cases hF
 refine s_ret1 rfl (r_tmp rfl) fun a w hs => fin_sel hs [2, 0, 0, 0] ⟨sa4, sn4, sc4, rfl, rfl, rfl⟩ rfl sub_nil
 replace hF := ite_f h2 hF
 refine c_skip (sat_wc (c_seq (c_draw (n := 24) [0, 0, 0, 0] mixed rfl rfl (dv 0 rfl (v_move rfl) (dv 1 rfl (v_move rfl) (dv 2 rfl (v_nilCheck rfl) (dv 3 rfl (fa 0 rfl) (dv 4 rfl (vl 2 ty74 rfl rfl rfl) (dv 5 rfl (v_nilCheck rfl) (dv 6 rfl (fa 4 rfl) (dv 7 rfl (vl 0 ty3 rfl rfl rfl) (dv 8 rfl (v_bin rfl rfl rfl) (dv 9 rfl (v_bin rfl rfl rfl) (dv 10 rfl (v_move rfl) (dv 11 rfl (v_bin rfl rfl rfl) ?_)))))))))))))))
 refine dv 12 rfl (v_move rfl) (dv 13 rfl (v_nilCheck rfl) (dv 14 rfl (fa 0 rfl) (dv 15 rfl (vl 2 ty74 rfl rfl rfl) (dv 16 rfl (v_nilCheck rfl) (dv 17 rfl (fa 4 rfl) (dv 18 rfl (vl 0 ty3 rfl rfl rfl) (dv 19 rfl (v_bin rfl rfl rfl) (dv 20 rfl (v_bin rfl rfl rfl) (dv 21 rfl (v_move rfl) (dv 22 rfl (v_bin rfl rfl rfl) (dv 23 rfl (v_assign rfl) (d_done_seq (by kernel_rfl) (c_seq (c_seq (c_region ?_)))))))))))))))
 refine o_v (v_move rfl) rfl (o_v (v_nilCheck rfl) rfl (o_v (fa 1 rfl) rfl (o_v (vl 2 ty59 rfl rfl rfl) rfl (o_v (v_move rfl) rfl (ite_some hF fun h3 hF => o_v (v_indexAddr_s (xs := c.Known) (enc := eI64) sl59 rfl rfl (.r 3 _ rfl) h3) rfl (o_v (v_load_s (xs := c.Known) (enc := eI64) ty3 rfl (.r 3 _ rfl) h3 rfl rfl rfl rfl rfl rfl rfl) rfl (o_v (v_bin rfl rfl rfl) rfl (o_seq ?_))))))))
 refine c_cond rfl (fun h4 => ?_) (fun h4 => ?_)
 replace hF := ite_t h4 hF
 refine c_seq (c_region (o_v (v_move rfl) rfl (o_v (v_nilCheck rfl) rfl (o_v (fa 1 rfl) rfl (o_v (vl 2 ty59 rfl rfl rfl) rfl (o_v (v_move rfl) rfl (o_v (v_indexAddr_s (xs := c.Known) (enc := eI64) sl59 rfl rfl (.r 3 _ rfl) h3) rfl (o_v (v_load_s (xs := c.Known) (enc := eI64) ty3 rfl (.r 3 _ rfl) h3 rfl rfl rfl rfl rfl rfl rfl) rfl (o_v (v_assign rfl) rfl (o_seq (c_ret ?_)))))))))))
 cases hF
 refine s_ret1 rfl (r_tmp rfl) fun a w hs => fin_sel hs [2, 0, 0, 0] ⟨sa4, sn4, sc4, rfl, rfl, rfl⟩ rfl sub_nil
 replace hF := ite_f h4 hF
 refine c_skip (sat_wc (c_seq (c_region (o_v (v_assign rfl) rfl (o_seq (c_seq (c_seq (c_region (o_v (v_assign rfl) rfl (o_seq ?_))))))))))
 obtain ⟨o1, ho1, hF⟩ := bd hF
 refine cT (fun E H Φ N' => ∀ (sa6 : Option Addr) (sn6 sc6 : Nat), Sat E [(0, .pointer (some ⟨b, 0, none⟩)), (1, .int .i64 a_), (2, .int .i64 i), (3, .int .i64 j_), (8, .int .i64 0), (9, .int .i64 (IntKind.wrap .i64 ((IntKind.wrap .i64 ((IntKind.wrap .i64 ((IntKind.wrap .i64 (a_ * (IntKind.wrap .i64 (c.T.N_ + 1)))) + i)) * (IntKind.wrap .i64 (c.T.N_ + 1)))) + j_))), (10, .int .i64 o1.1)] [.box gb 81 [.int .i64 c.T.G.Nts, .int .i64 c.T.G.Start, .slice sa1 sn1 sc1, .slice sa2 sn2 sc2, .int .i64 c.T.N_, .slice sa3 sn3 sc3], .box b 130 [.pointer (some ⟨gb, 0, none⟩), .slice sa6 sn6 sc6], .row (.slice sa3 sn3 sc3) 4 1 (c.T.Yes.map eB), .row (.slice sa6 sn6 sc6) 3 1 (o1.2.map eI64)] Φ N') (fun N1 hN1 => ?_) ?_
 refine c_block ?_
 refine cL (fun E H Φ j a w => ∃ (n : Int) (r_ : Int) (Known_ : List Int) (sa5 : Option Addr) (sn5 sc5 : Nat), F.ref08.Counter_trees_l1 c a_ g61 i j_ j n r_ Known_ = some o1 /\ St E [(0, .pointer (some ⟨b, 0, none⟩)), (1, .int .i64 a_), (2, .int .i64 i), (3, .int .i64 j_), (8, .int .i64 0), (9, .int .i64 (IntKind.wrap .i64 ((IntKind.wrap .i64 ((IntKind.wrap .i64 ((IntKind.wrap .i64 (a_ * (IntKind.wrap .i64 (c.T.N_ + 1)))) + i)) * (IntKind.wrap .i64 (c.T.N_ + 1)))) + j_))), (10, .int .i64 n), (11, .int .i64 r_)] [.box gb 81 [.int .i64 c.T.G.Nts, .int .i64 c.T.G.Start, .slice sa1 sn1 sc1, .slice sa2 sn2 sc2, .int .i64 c.T.N_, .slice sa3 sn3 sc3], .box b 130 [.pointer (some ⟨gb, 0, none⟩), .slice sa5 sn5 sc5], .row (.slice sa3 sn3 sc3) 4 1 (c.T.Yes.map eB), .row (.slice sa5 sn5 sc5) 3 1 (Known_.map eI64)] Φ a w) k ?_ ?_
 intro a w hs
 exact ⟨0, 0, c.Known, sa4, sn4, sc4, ho1, st_le [0, 1, 0, 0] (lea rfl) rfl (subs [0, 1] rfl) a w hs⟩
 rintro j a w ⟨n, r_, Known_, sa5, sn5, sc5, hL1, hs⟩
 rcases j with _ | j
 cases hL1
 refine wc_app hs ?_
 unfold F.ref08.Counter_trees_l1 at hL1
 refine c_seq (c_seq (c_region (o_v (v_move rfl) rfl (o_v (v_move rfl) rfl (o_v (v_nilCheck rfl) rfl (o_v (fa 0 rfl) rfl (o_v (vl 1 ty74 rfl rfl rfl) rfl (o_v (v_nilCheck rfl) rfl (o_v (fa 0 rfl) rfl (o_v (fa 2 rfl) rfl (o_v (vl 0 ty22 rfl rfl rfl) rfl (o_v (v_lenS (enc := eRule) c.T.G.Rules sl22 rfl (.f 0 rfl)) rfl (o_v (v_bin rfl rfl rfl) rfl (o_seq ?_))))))))))))))
 refine c_cond rfl (fun h5 => ?_) (fun h5 => ?_)
 replace hL1 := ite_t h5 hL1
 refine c_skip (sat_wc (c_seq ?_))
 refine cT (fun E H Φ N' => ∀ (n1 : Int) (Known_1 : List Int) (sa7 : Option Addr) (sn7 sc7 : Nat), F.ref08.Counter_trees_j2 (F.ref08.Counter_trees_l1 c a_ g61 i j_ j) r_ n1 Known_1 = some o1 -> Sat E [(0, .pointer (some ⟨b, 0, none⟩)), (1, .int .i64 a_), (2, .int .i64 i), (3, .int .i64 j_), (8, .int .i64 0), (9, .int .i64 (IntKind.wrap .i64 ((IntKind.wrap .i64 ((IntKind.wrap .i64 ((IntKind.wrap .i64 (a_ * (IntKind.wrap .i64 (c.T.N_ + 1)))) + i)) * (IntKind.wrap .i64 (c.T.N_ + 1)))) + j_))), (10, .int .i64 n1), (11, .int .i64 r_)] [.box b 130 [.pointer (some ⟨gb, 0, none⟩), .slice sa7 sn7 sc7], .box gb 81 [.int .i64 c.T.G.Nts, .int .i64 c.T.G.Start, .slice sa1 sn1 sc1, .slice sa2 sn2 sc2, .int .i64 c.T.N_, .slice sa3 sn3 sc3], .row (.slice sa7 sn7 sc7) 3 1 (Known_1.map eI64), .row (.slice sa3 sn3 sc3) 4 1 (c.T.Yes.map eB)] Φ N') (fun N2 hN2 => ?_) ?_
 refine c_block (c_seq (c_region (o_v (v_move rfl) rfl (o_v (v_nilCheck rfl) rfl (o_v (fa 0 rfl) rfl (o_v (vl 1 ty74 rfl rfl rfl) rfl (o_v (v_nilCheck rfl) rfl (o_v (fa 0 rfl) rfl (o_v (fa 2 rfl) rfl (o_v (vl 0 ty22 rfl rfl rfl) rfl (o_v (v_move rfl) rfl (ite_some hL1 fun h6 hL1 => o_v (v_indexAddr_s (xs := c.T.G.Rules) (enc := eRule) sl22 rfl rfl (.f 0 rfl) h6) rfl (o_v (v_fieldAddr (v := .pointer (some ⟨blkA sa1, offA sa1 + (Int.toNat r_ * 2 + 0), none⟩)) rfl (fun _ => by kernel_rfl)) rfl (o_v (v_load_s (xs := c.T.G.Rules) (enc := eRule) ty3 rfl (.f 0 rfl) h6 rfl rfl rfl rfl rfl rfl rfl) rfl ?_))))))))))))))
 refine o_v (v_move rfl) rfl (o_v (v_bin rfl rfl rfl) rfl (o_seq ?_))
 refine cT (fun E H Φ N' => ∀ (n2 : Int) (Known_2 : List Int) (sa8 : Option Addr) (sn8 sc8 : Nat), F.ref08.Counter_trees_j3 (F.ref08.Counter_trees_l1 c a_ g61 i j_ j) r_ n2 Known_2 = some o1 -> Sat E [(0, .pointer (some ⟨b, 0, none⟩)), (1, .int .i64 a_), (2, .int .i64 i), (3, .int .i64 j_), (8, .int .i64 0), (9, .int .i64 (IntKind.wrap .i64 ((IntKind.wrap .i64 ((IntKind.wrap .i64 ((IntKind.wrap .i64 (a_ * (IntKind.wrap .i64 (c.T.N_ + 1)))) + i)) * (IntKind.wrap .i64 (c.T.N_ + 1)))) + j_))), (10, .int .i64 n2), (11, .int .i64 r_)] [.box b 130 [.pointer (some ⟨gb, 0, none⟩), .slice sa8 sn8 sc8], .box gb 81 [.int .i64 c.T.G.Nts, .int .i64 c.T.G.Start, .slice sa1 sn1 sc1, .slice sa2 sn2 sc2, .int .i64 c.T.N_, .slice sa3 sn3 sc3], .row (.slice sa8 sn8 sc8) 3 1 (Known_2.map eI64), .row (.slice sa3 sn3 sc3) 4 1 (c.T.Yes.map eB)] Φ N') (fun N3 hN3 => ?_) ?_
 refine c_cond rfl (fun h7 => ?_) (fun h7 => ?_)
 replace hL1 := ite_t h7 hL1
 refine c_region (o_v (v_move rfl) rfl (o_v (v_move rfl) rfl (o_v (v_move rfl) rfl (o_v (v_nilCheck rfl) rfl (o_v (fa 0 rfl) rfl (o_v (vl 1 ty74 rfl rfl rfl) rfl (o_v (v_nilCheck rfl) rfl (o_v (fa 0 rfl) rfl (o_v (fa 2 rfl) rfl (o_v (vl 0 ty22 rfl rfl rfl) rfl (o_v (v_move rfl) rfl (o_v (v_indexAddr_s (xs := c.T.G.Rules) (enc := eRule) sl22 rfl rfl (.f 0 rfl) h6) rfl (o_v (v_fieldAddr (v := .pointer (some ⟨blkA sa1, offA sa1 + (Int.toNat r_ * 2 + 1), none⟩)) rfl (fun _ => by kernel_rfl)) rfl (o_load_s (xs := c.T.G.Rules) (enc := eRule) ty48 rfl (.f 0 rfl) h6 rfl rfl rfl rfl rfl rfl fun sa9 sn9 sc9 => o_v (v_move rfl) rfl ?_))))))))))))))
 refine o_v (v_move rfl) rfl ?_
 obtain ⟨v_1, h8, hL1⟩ := bd hL1
 refine ocl [1, 0, 0, 0] call61 rfl rfl (subs [1, 2, 0] rfl) (hg61 h8 :) ?_
 rintro _ _ _ ⟨sa10, sn10, sc10, rfl, rfl, rfl⟩
 obtain ⟨v_2, h9, hL1⟩ := bd hL1
 refine o_callSB call60 rfl lent_nil (tri60 h9 :) rfl (o_v (v_assign rfl) rfl (o_nil ?_))
 refine s_st ?_ (hN3 v_2 v_1.2.Known sa10 sn10 sc10 hL1)
 exact st_le [0, 0, 1, 0] (lea rfl) rfl (subs [1, 2] rfl)
 replace hL1 := ite_f h7 hL1
 refine c_skip ?_
 refine s_st ?_ (hN3 n Known_ sa5 sn5 sc5 hL1)
 exact st_le [1, 0, 1, 0] (lea rfl) rfl (subs [0, 1] rfl)
 intro n2 Known_2 sa8 sn8 sc8 hL1
 unfold F.ref08.Counter_trees_j3 at hL1
 refine s_st ?_ (hN2 n2 Known_2 sa8 sn8 sc8 hL1)
 exact st_le [0, 0, 0, 0] (lea rfl) rfl (subs [0, 1] rfl)
 intro n1 Known_1 sa7 sn7 sc7 hL1
 unfold F.ref08.Counter_trees_j2 at hL1
 refine sat_wc (c_region (o_v (v_move rfl) rfl (o_v (v_bin rfl rfl rfl) rfl (o_v (v_assign rfl) rfl (o_nil ?_)))))
 intro a w hs
 exact ⟨j, Nat.lt_succ_self j, n1, IntKind.wrap .i64 (r_ + 1), Known_1, sa7, sn7, sc7, hL1, st_le [1, 0, 1, 0] (lea rfl) rfl (subs [0, 1] rfl) a w hs⟩
 replace hL1 := ite_f h5 hL1
 refine c_exit0 ?_
 cases hL1
 refine s_st ?_ (hN1 sa5 sn5 sc5)
 exact st_le [0, 0, 0, 0] (lea rfl) rfl (subs [0, 1] rfl)
 intro sa6 sn6 sc6
 refine sat_wc (c_seq (c_region (o_v (v_move rfl) rfl (o_v (v_nilCheck rfl) rfl (o_v (fa 1 rfl) rfl (o_v (vl 1 ty59 rfl rfl rfl) rfl (o_v (v_move rfl) rfl (o_v (v_move rfl) rfl (ite_some hF fun h10 hF => o_v (v_indexAddr_s (xs := o1.2) (enc := eI64) sl59 rfl rfl (.r 3 _ rfl) h10) rfl (o_store_s (xs := o1.2) (enc := eI64) 3 o1.1 rfl ty3 rfl rfl rfl rfl h10 (.s rfl (.nil)) rfl rfl rfl (o_seq (c_seq (c_region (o_v (v_move rfl) rfl ?_))))))))))))))
 refine o_v (v_assign rfl) rfl (o_seq (c_ret ?_))
 cases hF
 refine s_ret1 rfl (r_tmp rfl) fun a w hs => fin_sel hs [1, 0, 0, 0] ⟨sa6, sn6, sc6, rfl, rfl, rfl⟩ rfl sub_nil
theorem tri61_B (k : Nat) (g36 : Ref08_Counter -> Int -> Int -> Int -> Option (Int × Ref08_Counter))
  (hg36 : ∀ {c : Ref08_Counter} {a_ : Int} {i : Int} {j_ : Int} {b : Nat} {gb : Nat} {sa1 : Option Addr} {sn1 sc1 : Nat} {sa2 : Option Addr} {sn2 sc2 : Nat} {sa3 : Option Addr} {sn3 sc3 : Nat} {sa4 : Option Addr} {sn4 sc4 : Nat} {r : Int × Ref08_Counter}, g36 c a_ i j_ = some r -> Tri Try.prog 36 [.pointer (some ⟨b, 0, none⟩), .int .i64 a_, .int .i64 i, .int .i64 j_] [.box b 130 [.pointer (some ⟨gb, 0, none⟩), .slice sa4 sn4 sc4], .box gb 81 [.int .i64 c.T.G.Nts, .int .i64 c.T.G.Start, .slice sa1 sn1 sc1, .slice sa2 sn2 sc2, .int .i64 c.T.N_, .slice sa3 sn3 sc3], .row (.slice sa3 sn3 sc3) 4 1 (c.T.Yes.map eB), .row (.slice sa4 sn4 sc4) 3 1 (c.Known.map eI64)] [(.slice sa1 sn1 sc1, .slice 2 (c.T.G.Rules.map eRule)), (.slice sa2 sn2 sc2, .slice 1 (c.T.W.map eU8))] (fun o H Φ => ∃ (sa11 : Option Addr) (sn11 sc11 : Nat), o = .ret (.int .i64 r.1) /\ H = [.box b 130 [.pointer (some ⟨gb, 0, none⟩), .slice sa11 sn11 sc11], .box gb 81 [.int .i64 c.T.G.Nts, .int .i64 c.T.G.Start, .slice sa1 sn1 sc1, .slice sa2 sn2 sc2, .int .i64 c.T.N_, .slice sa3 sn3 sc3], .row (.slice sa3 sn3 sc3) 4 1 (c.T.Yes.map eB), .row (.slice sa11 sn11 sc11) 3 1 (r.2.Known.map eI64)] /\ Φ = [])) {c : Ref08_Counter} {rhs : List KSym} {i : Int} {j_ : Int} {b : Nat} {gb : Nat} {sa1 : Option Addr} {sn1 sc1 : Nat} {sa2 : Option Addr} {sn2 sc2 : Nat} {sa3 : Option Addr} {sn3 sc3 : Nat} {sa4 : Option Addr} {sn4 sc4 : Nat} {sa5 : Option Addr} {sn5 sc5 : Nat} {r : Int × Ref08_Counter} (hF : F.ref08.Counter_rows_B k g36 c rhs i j_ = some r) :
  Tri Try.prog 61 [.pointer (some ⟨b, 0, none⟩), .slice sa5 sn5 sc5, .int .i64 i, .int .i64 j_] [.box b 130 [.pointer (some ⟨gb, 0, none⟩), .slice sa4 sn4 sc4], .box gb 81 [.int .i64 c.T.G.Nts, .int .i64 c.T.G.Start, .slice sa1 sn1 sc1, .slice sa2 sn2 sc2, .int .i64 c.T.N_, .slice sa3 sn3 sc3], .row (.slice sa3 sn3 sc3) 4 1 (c.T.Yes.map eB), .row (.slice sa4 sn4 sc4) 3 1 (c.Known.map eI64)] [(.slice sa1 sn1 sc1, .slice 2 (c.T.G.Rules.map eRule)), (.slice sa2 sn2 sc2, .slice 1 (c.T.W.map eU8)), (.slice sa5 sn5 sc5, .slice 5 (rhs.map eKSym))] (fun o H Φ => ∃ (sa30 : Option Addr) (sn30 sc30 : Nat), o = .ret (.int .i64 r.1) /\ H = [.box b 130 [.pointer (some ⟨gb, 0, none⟩), .slice sa30 sn30 sc30], .box gb 81 [.int .i64 c.T.G.Nts, .int .i64 c.T.G.Start, .slice sa1 sn1 sc1, .slice sa2 sn2 sc2, .int .i64 c.T.N_, .slice sa3 sn3 sc3], .row (.slice sa3 sn3 sc3) 4 1 (c.T.Yes.map eB), .row (.slice sa30 sn30 sc30) 3 1 (r.2.Known.map eI64)] /\ Φ = []) := by
 unfold F.ref08.Counter_rows_B at hF
 refine tri_intro (n := 110) Try.func61 rfl Try.ntmps61 rfl fun w X => c_seq (c_region (o_v (v_assign rfl) rfl (o_seq (c_seq (c_region (o_v (v_assign rfl) rfl (o_seq (c_seq (c_seq (c_region (o_v (v_assign rfl) rfl (o_seq ?_))))))))))))
 obtain ⟨o1, ho1, hF⟩ := bd hF
 refine c_cut (fun E N' => ∀ (sa7 : Option Addr) (sn7 sc7 : Nat), Sat E [(0, .pointer (some ⟨b, 0, none⟩)), (1, .slice sa5 sn5 sc5), (2, .int .i64 i), (3, .int .i64 j_), (8, .int .i64 0), (9, .slice sa7 sn7 sc7)] [.box b 130 [.pointer (some ⟨gb, 0, none⟩), .slice sa4 sn4 sc4], .box gb 81 [.int .i64 c.T.G.Nts, .int .i64 c.T.G.Start, .slice sa1 sn1 sc1, .slice sa2 sn2 sc2, .int .i64 c.T.N_, .slice sa3 sn3 sc3], .row (.slice sa7 sn7 sc7) 3 1 (o1.map eI64), .row (.slice sa4 sn4 sc4) 3 1 (c.Known.map eI64), .row (.slice sa3 sn3 sc3) 4 1 (c.T.Yes.map eB)] [(.slice sa5 sn5 sc5, .slice 5 (rhs.map eKSym)), (.slice sa1 sn1 sc1, .slice 2 (c.T.G.Rules.map eRule)), (.slice sa2 sn2 sc2, .slice 1 (c.T.W.map eU8))] N') (fun N1 hN1 => ?_) ?_
 refine c_block ?_
 refine c_loopE (fun E j a w => ∃ (now : List Int) (m : Int) (sa6 : Option Addr) (sn6 sc6 : Nat), F.ref08.Counter_rows_l1 j_ i j now m = some o1 /\ St E [(0, .pointer (some ⟨b, 0, none⟩)), (1, .slice sa5 sn5 sc5), (2, .int .i64 i), (3, .int .i64 j_), (8, .int .i64 0), (9, .slice sa6 sn6 sc6), (10, .int .i64 m)] [.box b 130 [.pointer (some ⟨gb, 0, none⟩), .slice sa4 sn4 sc4], .box gb 81 [.int .i64 c.T.G.Nts, .int .i64 c.T.G.Start, .slice sa1 sn1 sc1, .slice sa2 sn2 sc2, .int .i64 c.T.N_, .slice sa3 sn3 sc3], .row (.slice sa6 sn6 sc6) 3 1 (now.map eI64), .row (.slice sa4 sn4 sc4) 3 1 (c.Known.map eI64), .row (.slice sa3 sn3 sc3) 4 1 (c.T.Yes.map eB)] [(.slice sa5 sn5 sc5, .slice 5 (rhs.map eKSym)), (.slice sa1 sn1 sc1, .slice 2 (c.T.G.Rules.map eRule)), (.slice sa2 sn2 sc2, .slice 1 (c.T.W.map eU8))] a w) k ?_ ?_
 refine s_st (st_nilrow 3 1) ?_
 intro a w hs
 exact ⟨([] : List Int), 0, none, 0, 0, ho1, st_le [1, 1, 0, 1, 0] (lea rfl) rfl (subs [2, 0, 1] rfl) a w hs⟩
 rintro j a w ⟨now, m, sa6, sn6, sc6, hL1, hs⟩
 rcases j with _ | j
 cases hL1
 refine wc_app hs ?_
 unfold F.ref08.Counter_rows_l1 at hL1
 refine c_seq (c_seq (c_region (o_v (v_move rfl) rfl (o_v (v_move rfl) rfl (o_v (v_bin rfl rfl rfl) rfl (o_seq ?_))))))
 refine c_cond rfl (fun h1 => ?_) (fun h1 => ?_)
 replace hL1 := ite_t h1 hL1
 refine c_skip (sat_wc (c_seq ?_))
 refine cT (fun E H Φ N' => ∀ (now1 : List Int) (sa8 : Option Addr) (sn8 sc8 : Nat), F.ref08.Counter_rows_j2 (F.ref08.Counter_rows_l1 j_ i j) m now1 = some o1 -> Sat E [(0, .pointer (some ⟨b, 0, none⟩)), (1, .slice sa5 sn5 sc5), (2, .int .i64 i), (3, .int .i64 j_), (8, .int .i64 0), (9, .slice sa8 sn8 sc8), (10, .int .i64 m)] [.box b 130 [.pointer (some ⟨gb, 0, none⟩), .slice sa4 sn4 sc4], .box gb 81 [.int .i64 c.T.G.Nts, .int .i64 c.T.G.Start, .slice sa1 sn1 sc1, .slice sa2 sn2 sc2, .int .i64 c.T.N_, .slice sa3 sn3 sc3], .row (.slice sa8 sn8 sc8) 3 1 (now1.map eI64), .row (.slice sa4 sn4 sc4) 3 1 (c.Known.map eI64), .row (.slice sa3 sn3 sc3) 4 1 (c.T.Yes.map eB)] Φ N') (fun N2 hN2 => ?_) ?_
 refine c_block (c_seq (c_region (o_v (v_move rfl) rfl (o_v (v_move rfl) rfl (o_v (v_bin rfl rfl rfl) rfl (o_seq ?_))))))
 refine cT (fun E H Φ N' => ∀ (now2 : List Int) (sa9 : Option Addr) (sn9 sc9 : Nat), F.ref08.Counter_rows_j3 (F.ref08.Counter_rows_l1 j_ i j) m now2 = some o1 -> Sat E [(0, .pointer (some ⟨b, 0, none⟩)), (1, .slice sa5 sn5 sc5), (2, .int .i64 i), (3, .int .i64 j_), (8, .int .i64 0), (9, .slice sa9 sn9 sc9), (10, .int .i64 m)] [.box b 130 [.pointer (some ⟨gb, 0, none⟩), .slice sa4 sn4 sc4], .box gb 81 [.int .i64 c.T.G.Nts, .int .i64 c.T.G.Start, .slice sa1 sn1 sc1, .slice sa2 sn2 sc2, .int .i64 c.T.N_, .slice sa3 sn3 sc3], .row (.slice sa9 sn9 sc9) 3 1 (now2.map eI64), .row (.slice sa4 sn4 sc4) 3 1 (c.Known.map eI64), .row (.slice sa3 sn3 sc3) 4 1 (c.T.Yes.map eB)] Φ N') (fun N3 hN3 => ?_) ?_
 refine c_cond rfl (fun h2 => ?_) (fun h2 => ?_)
 replace hL1 := ite_t h2 hL1
 refine c_region (o_v (v_move rfl) rfl (o_buildSlice (enc := eI64) ([1] : List Int) [.int .i64 1] sl59 rfl (fun _ => by kernel_rfl) rfl rfl rfl (.s rfl (.nil)) rfl fun sa10 sn10 sc10 => ite_some hL1 fun h3 hL1 => ite_some hL1 fun h4 hL1 => o_append (enc := eI64) (xs := now) (ys := ([1] : List Int)) 3 sl59 rfl rfl rfl (.r 0 _ rfl) h3 h4 rfl fun sa11 sn11 sc11 => o_v (v_assign rfl) rfl (o_nil ?_)))
 refine s_st ?_ (hN3 (now ++ ([1] : List Int)) sa11 sn11 sc11 hL1)
 exact st_le [1, 1, 1, 1, 1] (lea rfl) rfl (subs [0, 1, 2] rfl)
 replace hL1 := ite_f h2 hL1
 refine c_region (o_v (v_move rfl) rfl (o_buildSlice (enc := eI64) ([0] : List Int) [.int .i64 0] sl59 rfl (fun _ => by kernel_rfl) rfl rfl rfl (.s rfl (.nil)) rfl fun sa12 sn12 sc12 => ite_some hL1 fun h5 hL1 => ite_some hL1 fun h6 hL1 => o_append (enc := eI64) (xs := now) (ys := ([0] : List Int)) 3 sl59 rfl rfl rfl (.r 0 _ rfl) h5 h6 rfl fun sa13 sn13 sc13 => o_v (v_assign rfl) rfl (o_nil ?_)))
 refine s_st ?_ (hN3 (now ++ ([0] : List Int)) sa13 sn13 sc13 hL1)
 exact st_le [1, 1, 1, 1, 1] (lea rfl) rfl (subs [0, 1, 2] rfl)
 intro now2 sa9 sn9 sc9 hL1
 unfold F.ref08.Counter_rows_j3 at hL1
 refine s_st ?_ (hN2 now2 sa9 sn9 sc9 hL1)
 exact st_le [0, 0, 0, 0, 0] (lea rfl) rfl (subs [0, 1, 2] rfl)
 intro now1 sa8 sn8 sc8 hL1
 unfold F.ref08.Counter_rows_j2 at hL1
 refine sat_wc (c_region (o_v (v_move rfl) rfl (o_v (v_bin rfl rfl rfl) rfl (o_v (v_assign rfl) rfl (o_nil ?_)))))
 intro a w hs
 exact ⟨j, Nat.lt_succ_self j, now1, IntKind.wrap .i64 (m + 1), sa8, sn8, sc8, hL1, st_le [0, 0, 0, 0, 0] (lea rfl) rfl (subs [0, 1, 2] rfl) a w hs⟩
 replace hL1 := ite_f h1 hL1
 refine c_exit0 ?_
 cases hL1
 refine s_st ?_ (hN1 sa6 sn6 sc6)
 exact st_le [0, 0, 0, 0, 0] (lea rfl) rfl (subs [0, 1, 2] rfl)
 intro sa7 sn7 sc7
 refine sat_wc (c_seq (c_seq (c_region (o_v (v_assign rfl) rfl (o_seq ?_)))))
 obtain ⟨o4, ho4, hF⟩ := bd hF
 refine c_cut (fun E N' => ∀ (sa16 : Option Addr) (sn16 sc16 : Nat) (sa17 : Option Addr) (sn17 sc17 : Nat), Sat E [(2, .int .i64 i), (3, .int .i64 j_), (8, .int .i64 0), (9, .slice sa16 sn16 sc16)] [.box b 130 [.pointer (some ⟨gb, 0, none⟩), .slice sa17 sn17 sc17], .box gb 81 [.int .i64 c.T.G.Nts, .int .i64 c.T.G.Start, .slice sa1 sn1 sc1, .slice sa2 sn2 sc2, .int .i64 c.T.N_, .slice sa3 sn3 sc3], .row (.slice sa16 sn16 sc16) 3 1 (o4.1.map eI64), .row (.slice sa17 sn17 sc17) 3 1 (o4.2.map eI64), .row (.slice sa3 sn3 sc3) 4 1 (c.T.Yes.map eB)] [(.slice sa1 sn1 sc1, .slice 2 (c.T.G.Rules.map eRule)), (.slice sa2 sn2 sc2, .slice 1 (c.T.W.map eU8))] N') (fun N4 hN4 => ?_) ?_
 refine c_block ?_
 refine cL (fun E H Φ j a w => ∃ (now3 : List Int) (k_ : Int) (Known_ : List Int) (sa14 : Option Addr) (sn14 sc14 : Nat) (sa15 : Option Addr) (sn15 sc15 : Nat), F.ref08.Counter_rows_l4 k rhs j_ g36 c i j now3 k_ Known_ = some o4 /\ St E [(0, .pointer (some ⟨b, 0, none⟩)), (1, .slice sa5 sn5 sc5), (2, .int .i64 i), (3, .int .i64 j_), (8, .int .i64 0), (9, .slice sa14 sn14 sc14), (11, .int .i64 k_)] [.box b 130 [.pointer (some ⟨gb, 0, none⟩), .slice sa15 sn15 sc15], .box gb 81 [.int .i64 c.T.G.Nts, .int .i64 c.T.G.Start, .slice sa1 sn1 sc1, .slice sa2 sn2 sc2, .int .i64 c.T.N_, .slice sa3 sn3 sc3], .row (.slice sa14 sn14 sc14) 3 1 (now3.map eI64), .row (.slice sa15 sn15 sc15) 3 1 (Known_.map eI64), .row (.slice sa3 sn3 sc3) 4 1 (c.T.Yes.map eB)] Φ a w) k ?_ ?_
 intro a w hs
 exact ⟨o1, 0, c.Known, sa7, sn7, sc7, sa4, sn4, sc4, ho4, st_le [0, 0, 0, 0, 0] (lea rfl) rfl (subs [0, 1, 2] rfl) a w hs⟩
 rintro j a w ⟨now3, k_, Known_, sa14, sn14, sc14, sa15, sn15, sc15, hL4, hs⟩
 rcases j with _ | j
 cases hL4
 refine wc_app hs ?_
 unfold F.ref08.Counter_rows_l4 at hL4
 refine c_seq (c_seq (c_region (o_v (v_move rfl) rfl (o_v (v_move rfl) rfl (o_v (v_lenS (enc := eKSym) rhs sl48 rfl (.f 0 rfl)) rfl (o_v (v_bin rfl rfl rfl) rfl (o_seq ?_)))))))
 refine c_cond rfl (fun h7 => ?_) (fun h7 => ?_)
 replace hL4 := ite_t h7 hL4
 refine c_skip (sat_wc (c_seq (c_block (c_seq (c_region (o_v (v_assign rfl) rfl (o_seq (c_seq (c_seq (c_region (o_v (v_assign rfl) rfl (o_seq ?_))))))))))))
 obtain ⟨o5, ho5, hL4⟩ := bd hL4
 refine cT (fun E H Φ N' => ∀ (sa20 : Option Addr) (sn20 sc20 : Nat) (sa21 : Option Addr) (sn21 sc21 : Nat), Sat E [(0, .pointer (some ⟨b, 0, none⟩)), (1, .slice sa5 sn5 sc5), (2, .int .i64 i), (3, .int .i64 j_), (8, .int .i64 0), (9, .slice sa14 sn14 sc14), (11, .int .i64 k_), (12, .slice sa20 sn20 sc20), (13, .int .i64 o5.2.1)] [.box b 130 [.pointer (some ⟨gb, 0, none⟩), .slice sa21 sn21 sc21], .box gb 81 [.int .i64 c.T.G.Nts, .int .i64 c.T.G.Start, .slice sa1 sn1 sc1, .slice sa2 sn2 sc2, .int .i64 c.T.N_, .slice sa3 sn3 sc3], .row (.slice sa14 sn14 sc14) 3 1 (now3.map eI64), .row (.slice sa20 sn20 sc20) 3 1 (o5.1.map eI64), .row (.slice sa21 sn21 sc21) 3 1 (o5.2.2.map eI64), .row (.slice sa3 sn3 sc3) 4 1 (c.T.Yes.map eB)] Φ N') (fun N5 hN5 => ?_) ?_
 refine c_block ?_
 refine cL (fun E H Φ j a w => ∃ (next_ : List Int) (m1 : Int) (Known_1 : List Int) (sa18 : Option Addr) (sn18 sc18 : Nat) (sa19 : Option Addr) (sn19 sc19 : Nat), F.ref08.Counter_rows_l5 k j_ now3 k_ rhs g36 c i j next_ m1 Known_1 = some o5 /\ St E [(0, .pointer (some ⟨b, 0, none⟩)), (1, .slice sa5 sn5 sc5), (2, .int .i64 i), (3, .int .i64 j_), (8, .int .i64 0), (9, .slice sa14 sn14 sc14), (11, .int .i64 k_), (12, .slice sa18 sn18 sc18), (13, .int .i64 m1)] [.box b 130 [.pointer (some ⟨gb, 0, none⟩), .slice sa19 sn19 sc19], .box gb 81 [.int .i64 c.T.G.Nts, .int .i64 c.T.G.Start, .slice sa1 sn1 sc1, .slice sa2 sn2 sc2, .int .i64 c.T.N_, .slice sa3 sn3 sc3], .row (.slice sa14 sn14 sc14) 3 1 (now3.map eI64), .row (.slice sa18 sn18 sc18) 3 1 (next_.map eI64), .row (.slice sa19 sn19 sc19) 3 1 (Known_1.map eI64), .row (.slice sa3 sn3 sc3) 4 1 (c.T.Yes.map eB)] Φ a w) k ?_ ?_
 refine s_st (st_nilrow 3 1) ?_
 intro a w hs
 exact ⟨([] : List Int), 0, Known_, none, 0, 0, sa15, sn15, sc15, ho5, st_le [1, 1, 1, 0, 0, 0] (lea rfl) rfl (subs [0, 1, 2] rfl) a w hs⟩
 rintro j a w ⟨next_, m1, Known_1, sa18, sn18, sc18, sa19, sn19, sc19, hL5, hs⟩
 rcases j with _ | j
 cases hL5
 refine wc_app hs ?_
 unfold F.ref08.Counter_rows_l5 at hL5
 refine c_seq (c_seq (c_region (o_v (v_move rfl) rfl (o_v (v_move rfl) rfl (o_v (v_bin rfl rfl rfl) rfl (o_seq ?_))))))
 refine c_cond rfl (fun h8 => ?_) (fun h8 => ?_)
 replace hL5 := ite_t h8 hL5
 refine c_skip (sat_wc (c_seq (c_block (c_seq (c_region (o_v (v_assign rfl) rfl (o_seq (c_seq (c_seq (c_region (o_v (v_move rfl) rfl (o_v (v_assign rfl) rfl (o_seq ?_)))))))))))))
 obtain ⟨o6, ho6, hL5⟩ := bd hL5
 refine cT (fun E H Φ N' => ∀ (sa23 : Option Addr) (sn23 sc23 : Nat), Sat E [(0, .pointer (some ⟨b, 0, none⟩)), (1, .slice sa5 sn5 sc5), (2, .int .i64 i), (3, .int .i64 j_), (8, .int .i64 0), (9, .slice sa14 sn14 sc14), (11, .int .i64 k_), (12, .slice sa18 sn18 sc18), (13, .int .i64 m1), (14, .int .i64 o6.1), (15, .int .i64 o6.2.1)] [.box b 130 [.pointer (some ⟨gb, 0, none⟩), .slice sa23 sn23 sc23], .box gb 81 [.int .i64 c.T.G.Nts, .int .i64 c.T.G.Start, .slice sa1 sn1 sc1, .slice sa2 sn2 sc2, .int .i64 c.T.N_, .slice sa3 sn3 sc3], .row (.slice sa14 sn14 sc14) 3 1 (now3.map eI64), .row (.slice sa18 sn18 sc18) 3 1 (next_.map eI64), .row (.slice sa23 sn23 sc23) 3 1 (o6.2.2.map eI64), .row (.slice sa3 sn3 sc3) 4 1 (c.T.Yes.map eB)] Φ N') (fun N6 hN6 => ?_) ?_
 refine c_block ?_
 refine cL (fun E H Φ j a w => ∃ (n : Int) (p : Int) (Known_2 : List Int) (sa22 : Option Addr) (sn22 sc22 : Nat), F.ref08.Counter_rows_l6 k m1 now3 k_ rhs g36 c j_ j n p Known_2 = some o6 /\ St E [(0, .pointer (some ⟨b, 0, none⟩)), (1, .slice sa5 sn5 sc5), (2, .int .i64 i), (3, .int .i64 j_), (8, .int .i64 0), (9, .slice sa14 sn14 sc14), (11, .int .i64 k_), (12, .slice sa18 sn18 sc18), (13, .int .i64 m1), (14, .int .i64 n), (15, .int .i64 p)] [.box b 130 [.pointer (some ⟨gb, 0, none⟩), .slice sa22 sn22 sc22], .box gb 81 [.int .i64 c.T.G.Nts, .int .i64 c.T.G.Start, .slice sa1 sn1 sc1, .slice sa2 sn2 sc2, .int .i64 c.T.N_, .slice sa3 sn3 sc3], .row (.slice sa14 sn14 sc14) 3 1 (now3.map eI64), .row (.slice sa18 sn18 sc18) 3 1 (next_.map eI64), .row (.slice sa22 sn22 sc22) 3 1 (Known_2.map eI64), .row (.slice sa3 sn3 sc3) 4 1 (c.T.Yes.map eB)] Φ a w) k ?_ ?_
 intro a w hs
 exact ⟨0, i, Known_1, sa19, sn19, sc19, ho6, st_le [0, 0, 0, 0, 0, 0] (lea rfl) rfl (subs [0, 1, 2] rfl) a w hs⟩
 rintro j a w ⟨n, p, Known_2, sa22, sn22, sc22, hL6, hs⟩
 rcases j with _ | j
 cases hL6
 refine wc_app hs ?_
 unfold F.ref08.Counter_rows_l6 at hL6
 refine c_seq (c_seq (c_region (o_v (v_move rfl) rfl (o_v (v_move rfl) rfl (o_v (v_bin rfl rfl rfl) rfl (o_seq ?_))))))
 refine c_cond rfl (fun h9 => ?_) (fun h9 => ?_)
 replace hL6 := ite_t h9 hL6
 refine c_skip (sat_wc (c_seq ?_))
 refine cT (fun E H Φ N' => ∀ (n1 : Int) (Known_3 : List Int) (sa24 : Option Addr) (sn24 sc24 : Nat), F.ref08.Counter_rows_j7 (F.ref08.Counter_rows_l6 k m1 now3 k_ rhs g36 c j_ j) p n1 Known_3 = some o6 -> Sat E [(0, .pointer (some ⟨b, 0, none⟩)), (1, .slice sa5 sn5 sc5), (2, .int .i64 i), (3, .int .i64 j_), (8, .int .i64 0), (9, .slice sa14 sn14 sc14), (11, .int .i64 k_), (12, .slice sa18 sn18 sc18), (13, .int .i64 m1), (14, .int .i64 n1), (15, .int .i64 p)] [.box b 130 [.pointer (some ⟨gb, 0, none⟩), .slice sa24 sn24 sc24], .box gb 81 [.int .i64 c.T.G.Nts, .int .i64 c.T.G.Start, .slice sa1 sn1 sc1, .slice sa2 sn2 sc2, .int .i64 c.T.N_, .slice sa3 sn3 sc3], .row (.slice sa14 sn14 sc14) 3 1 (now3.map eI64), .row (.slice sa18 sn18 sc18) 3 1 (next_.map eI64), .row (.slice sa24 sn24 sc24) 3 1 (Known_3.map eI64), .row (.slice sa3 sn3 sc3) 4 1 (c.T.Yes.map eB)] Φ N') (fun N7 hN7 => ?_) ?_
 refine c_block (c_seq (c_seq ?_))
 refine cT (fun E H Φ N' => ∀ (t77 : Bool), F.ref08.Counter_rows_j8 (F.ref08.Counter_rows_l6 k m1 now3 k_ rhs g36 c j_ j) p n Known_2 k_ rhs g36 c m1 now3 t77 = some o6 -> Sat E [(0, .pointer (some ⟨b, 0, none⟩)), (1, .slice sa5 sn5 sc5), (2, .int .i64 i), (3, .int .i64 j_), (8, .int .i64 0), (9, .slice sa14 sn14 sc14), (11, .int .i64 k_), (12, .slice sa18 sn18 sc18), (13, .int .i64 m1), (14, .int .i64 n), (15, .int .i64 p), (77, .bool t77)] H Φ N') (fun N9 hN9 => ?_) ?_
 refine c_draw (n := 30) [0, 0, 0, 0, 0, 0] mixed rfl rfl (dv 0 rfl (v_move rfl) (dv 1 rfl (v_move rfl) (ite_some hL6 fun h17 hL6 => dv 2 rfl (v_indexAddr_s (xs := now3) (enc := eI64) sl59 rfl rfl (.r 2 _ rfl) h17) (dv 3 rfl (v_load_s (xs := now3) (enc := eI64) ty3 rfl (.r 2 _ rfl) h17 rfl rfl rfl rfl rfl rfl rfl) (dv 4 rfl (v_bin rfl rfl rfl) (dv 5 rfl (v_move rfl) ?_))))))
 refine d_split (t := 53) rfl (fun h18 => ?_) (fun h18 => ?_)
 replace hL6 := ite_t h18 hL6
 refine d_off 6 rfl rfl rfl (by decide) pnok (by kernel_rfl) (by kernel_rfl) (by kernel_rfl) rfl (d_off 7 rfl rfl rfl (by decide) pnok (by kernel_rfl) (by kernel_rfl) (by kernel_rfl) rfl (d_off 8 rfl rfl rfl (by decide) pnok (by kernel_rfl) (by kernel_rfl) (by kernel_rfl) rfl (d_off 9 rfl rfl rfl (by decide) pnok (by kernel_rfl) (by kernel_rfl) (by kernel_rfl) rfl (d_off 10 rfl rfl rfl (by decide) pnok (by kernel_rfl) (by kernel_rfl) (by kernel_rfl) rfl (d_off 11 rfl rfl rfl (by decide) pnok (by kernel_rfl) (by kernel_rfl) (by kernel_rfl) rfl (d_off 12 rfl rfl rfl (by decide) pnok (by kernel_rfl) (by kernel_rfl) (by kernel_rfl) rfl (d_off 13 rfl rfl rfl (by decide) pnok (by kernel_rfl) (by kernel_rfl) (by kernel_rfl) rfl (d_off 14 rfl rfl rfl (by decide) pnok (by kernel_rfl) (by kernel_rfl) (by kernel_rfl) rfl (d_off 15 rfl rfl rfl (by decide) pnok (by kernel_rfl) (by kernel_rfl) (by kernel_rfl) rfl (d_off 16 rfl rfl rfl (by decide) pnok (by kernel_rfl) (by kernel_rfl) (by kernel_rfl) rfl (d_off 17 rfl rfl rfl (by decide) pnok (by kernel_rfl) (by kernel_rfl) (by kernel_rfl) rfl (dv 18 rfl (v_pick_t rfl rfl) (dv 19 rfl (v_move rfl) (d_off 20 rfl rfl rfl (by decide) pnok (by kernel_rfl) (by kernel_rfl) (by kernel_rfl) rfl (d_off 21 rfl rfl rfl (by decide) pnok (by kernel_rfl) (by kernel_rfl) (by kernel_rfl) rfl ?_)))))))))))))))
 refine d_off 22 rfl rfl rfl (by decide) pnok (by kernel_rfl) (by kernel_rfl) (by kernel_rfl) rfl (d_off 23 rfl rfl rfl (by decide) pnok (by kernel_rfl) (by kernel_rfl) (by kernel_rfl) rfl (d_off 24 rfl rfl rfl (by decide) pnok (by kernel_rfl) (by kernel_rfl) (by kernel_rfl) rfl (d_off 25 rfl rfl rfl (by decide) pnok (by kernel_rfl) (by kernel_rfl) (by kernel_rfl) rfl (d_off 26 rfl rfl rfl (by decide) pnok (by kernel_rfl) (by kernel_rfl) (by kernel_rfl) rfl (d_off 27 rfl rfl rfl (by decide) pnok (by kernel_rfl) (by kernel_rfl) (by kernel_rfl) rfl (d_off 28 rfl rfl rfl (by decide) pnok (by kernel_rfl) (by kernel_rfl) (by kernel_rfl) rfl (dv 29 rfl (v_pick_t rfl rfl) (d_done (by kernel_rfl) ?_))))))))
 refine s_st ?_ (hN9 true hL6)
 exact st_le [0, 0, 0, 0, 0, 0] (lea rfl) rfl (subs [0, 1, 2] rfl)
 replace hL6 := ite_f h18 hL6
 refine dw 6 rfl rfl rfl (v_move rfl) (dw 7 rfl rfl rfl (v_nilCheck rfl) (dw 8 rfl rfl rfl (fa 0 rfl) (dw 9 rfl rfl rfl (vl 0 ty74 rfl rfl rfl) (dw 10 rfl rfl rfl (v_move rfl) (dw 11 rfl rfl rfl (v_move rfl) (ite_some hL6 fun h19 hL6 => dw 12 rfl rfl rfl (v_indexAddr_s (xs := rhs) (enc := eKSym) sl48 rfl rfl (.f 0 rfl) h19) (dw 13 rfl rfl rfl (v_load_s (xs := rhs) (enc := eKSym) ty47 rfl (.f 0 rfl) h19 rfl rfl rfl rfl rfl rfl rfl) (dw 14 rfl rfl rfl (v_move rfl) (dw 15 rfl rfl rfl (v_move rfl) (d_one 16 rfl (by kernel_rfl) (o_on rfl rfl ?_)))))))))))
 obtain ⟨v_3, h20, hL6⟩ := bd hL6
 refine ocl [1, 4] call67 rfl rfl (subs [1, 2] rfl) (tri67 h20 :) ?_
 rintro _ _ _ ⟨rfl, rfl, rfl⟩
 refine o_H [.box gb 81 [.int .i64 c.T.G.Nts, .int .i64 c.T.G.Start, .slice sa1 sn1 sc1, .slice sa2 sn2 sc2, .int .i64 c.T.N_, .slice sa3 sn3 sc3], .row (.slice sa3 sn3 sc3) 4 1 (c.T.Yes.map eB), .box b 130 [.pointer (some ⟨gb, 0, none⟩), .slice sa22 sn22 sc22], .row (.slice sa14 sn14 sc14) 3 1 (now3.map eI64), .row (.slice sa18 sn18 sc18) 3 1 (next_.map eI64), .row (.slice sa22 sn22 sc22) 3 1 (Known_2.map eI64)] rfl (d_next [2, 0, 1, 1, 1, 0] 0 rfl rfl (dw 17 rfl rfl rfl (v_not rfl) (dv 18 rfl (v_pick_f rfl rfl) (dv 19 rfl (v_move rfl) ?_))))
 refine d_split (t := 67) rfl (fun h21 => ?_) (fun h21 => ?_)
 replace hL6 := ite_t h21 hL6
 refine d_off 20 rfl rfl rfl (by decide) pnok (by kernel_rfl) (by kernel_rfl) (by kernel_rfl) rfl (d_off 21 rfl rfl rfl (by decide) pnok (by kernel_rfl) (by kernel_rfl) (by kernel_rfl) rfl (d_off 22 rfl rfl rfl (by decide) pnok (by kernel_rfl) (by kernel_rfl) (by kernel_rfl) rfl (d_off 23 rfl rfl rfl (by decide) pnok (by kernel_rfl) (by kernel_rfl) (by kernel_rfl) rfl (d_off 24 rfl rfl rfl (by decide) pnok (by kernel_rfl) (by kernel_rfl) (by kernel_rfl) rfl (d_off 25 rfl rfl rfl (by decide) pnok (by kernel_rfl) (by kernel_rfl) (by kernel_rfl) rfl (d_off 26 rfl rfl rfl (by decide) pnok (by kernel_rfl) (by kernel_rfl) (by kernel_rfl) rfl (d_off 27 rfl rfl rfl (by decide) pnok (by kernel_rfl) (by kernel_rfl) (by kernel_rfl) rfl (d_off 28 rfl rfl rfl (by decide) pnok (by kernel_rfl) (by kernel_rfl) (by kernel_rfl) rfl (dv 29 rfl (v_pick_t rfl rfl) (d_done (by kernel_rfl) ?_))))))))))
 refine s_st ?_ (hN9 true hL6)
 exact st_le [2, 0, 1, 1, 1, 0] (lea rfl) rfl (subs [0, 1, 2] rfl)
 replace hL6 := ite_f h21 hL6
 refine dw 20 rfl rfl rfl (v_move rfl) (dw 21 rfl rfl rfl (v_move rfl) (dw 22 rfl rfl rfl (v_move rfl) (dw 23 rfl rfl rfl (v_bin rfl rfl rfl) (dw 25 rfl rfl rfl (v_move rfl) (dw 26 rfl rfl rfl (v_move rfl) (d_one 24 rfl (by kernel_rfl) (o_on rfl rfl (ite_some hL6 fun h22 hL6 => o_cutS (enc := eKSym) (xs := rhs) 0 sl48 rfl rfl rfl rfl rfl rfl h22 rfl fun sa27 sn27 sc27 => d_next [2, 0, 1, 1, 1, 0] 1 rfl rfl (d_one 27 rfl (by kernel_rfl) (o_on rfl rfl ?_))))))))))
 obtain ⟨v_4, h23, hL6⟩ := bd hL6
 refine ocl [2, 0, 0, 2] call79 rfl rfl (subs [2, 3, 0] rfl) (tri79 h23 :) ?_
 rintro _ _ _ ⟨rfl, rfl, rfl⟩
 refine o_H [.box b 130 [.pointer (some ⟨gb, 0, none⟩), .slice sa22 sn22 sc22], .box gb 81 [.int .i64 c.T.G.Nts, .int .i64 c.T.G.Start, .slice sa1 sn1 sc1, .slice sa2 sn2 sc2, .int .i64 c.T.N_, .slice sa3 sn3 sc3], .row (.slice sa3 sn3 sc3) 4 1 (c.T.Yes.map eB), .row (.slice sa22 sn22 sc22) 3 1 (Known_2.map eI64), .row (.slice sa14 sn14 sc14) 3 1 (now3.map eI64), .row (.slice sa18 sn18 sc18) 3 1 (next_.map eI64)] rfl (d_next [0, 0, 2, 2, 1, 0] 1 rfl rfl (dw 28 rfl rfl rfl (v_not rfl) (dv 29 rfl (v_pick_f rfl rfl) (d_done (by kernel_rfl) ?_))))
 refine s_st ?_ (hN9 (!v_4) hL6)
 exact st_le [0, 0, 2, 2, 1, 0] (lea rfl) rfl (subs [1, 2, 3] rfl)
 intro t77 hL6
 unfold F.ref08.Counter_rows_j8 at hL6
 refine sat_wc ?_
 refine c_cond rfl (fun h10 => ?_) (fun h10 => ?_)
 replace hL6 := ite_t h10 hL6
 refine c_exit0 ?_
 refine s_st ?_ (hN7 n Known_2 sa22 sn22 sc22 hL6)
 exact st_le [0, 0, 0, 0, 0, 0] (lea rfl) rfl (subs [0, 1, 2] rfl)
 replace hL6 := ite_f h10 hL6
 refine c_skip (sat_wc (c_seq (c_region (o_v (v_assign rfl) rfl (o_seq (c_seq (c_seq (c_region (o_v (v_move rfl) rfl (o_v (v_move rfl) rfl (ite_some hL6 fun h11 hL6 => o_v (v_indexAddr_s (xs := rhs) (enc := eKSym) sl48 rfl rfl (.f 0 rfl) h11) rfl (o_v (v_fieldAddr (v := .pointer (some ⟨blkA sa5, offA sa5 + (Int.toNat k_ * 5 + 0), none⟩)) rfl (fun _ => by kernel_rfl)) rfl (o_v (v_load_s (xs := rhs) (enc := eKSym) ty3 rfl (.f 0 rfl) h11 rfl rfl rfl rfl rfl rfl rfl) rfl (o_v (v_bin rfl rfl rfl) rfl ?_))))))))))))))
 refine o_seq ?_
 refine cT (fun E H Φ N' => ∀ (kid : Int) (Known_4 : List Int) (sa25 : Option Addr) (sn25 sc25 : Nat), F.ref08.Counter_rows_j9 p now3 n (F.ref08.Counter_rows_l6 k m1 now3 k_ rhs g36 c j_ j) kid Known_4 = some o6 -> Sat E [(0, .pointer (some ⟨b, 0, none⟩)), (1, .slice sa5 sn5 sc5), (2, .int .i64 i), (3, .int .i64 j_), (8, .int .i64 0), (9, .slice sa14 sn14 sc14), (11, .int .i64 k_), (12, .slice sa18 sn18 sc18), (13, .int .i64 m1), (14, .int .i64 n), (15, .int .i64 p), (16, .int .i64 kid)] [.box b 130 [.pointer (some ⟨gb, 0, none⟩), .slice sa25 sn25 sc25], .box gb 81 [.int .i64 c.T.G.Nts, .int .i64 c.T.G.Start, .slice sa1 sn1 sc1, .slice sa2 sn2 sc2, .int .i64 c.T.N_, .slice sa3 sn3 sc3], .row (.slice sa14 sn14 sc14) 3 1 (now3.map eI64), .row (.slice sa18 sn18 sc18) 3 1 (next_.map eI64), .row (.slice sa25 sn25 sc25) 3 1 (Known_4.map eI64), .row (.slice sa3 sn3 sc3) 4 1 (c.T.Yes.map eB)] Φ N') (fun N9 hN9 => ?_) ?_
 refine c_cond rfl (fun h15 => ?_) (fun h15 => ?_)
 replace hL6 := ite_t h15 hL6
 refine c_region (o_v (v_move rfl) rfl (o_v (v_move rfl) rfl (o_v (v_move rfl) rfl (o_v (v_indexAddr_s (xs := rhs) (enc := eKSym) sl48 rfl rfl (.f 0 rfl) h11) rfl (o_v (v_fieldAddr (v := .pointer (some ⟨blkA sa5, offA sa5 + (Int.toNat k_ * 5 + 0), none⟩)) rfl (fun _ => by kernel_rfl)) rfl (o_v (v_load_s (xs := rhs) (enc := eKSym) ty3 rfl (.f 0 rfl) h11 rfl rfl rfl rfl rfl rfl rfl) rfl (o_v (v_move rfl) rfl (o_v (v_move rfl) rfl ?_))))))))
 obtain ⟨v_2, h16, hL6⟩ := bd hL6
 refine ocl [0, 0, 3, 2] call36 rfl rfl (subs [1, 2] rfl) (hg36 h16 :) ?_
 rintro _ _ _ ⟨sa26, sn26, sc26, rfl, rfl, rfl⟩
 refine o_H [.box b 130 [.pointer (some ⟨gb, 0, none⟩), .slice sa26 sn26 sc26], .box gb 81 [.int .i64 c.T.G.Nts, .int .i64 c.T.G.Start, .slice sa1 sn1 sc1, .slice sa2 sn2 sc2, .int .i64 c.T.N_, .slice sa3 sn3 sc3], .row (.slice sa3 sn3 sc3) 4 1 (c.T.Yes.map eB), .row (.slice sa26 sn26 sc26) 3 1 (v_2.2.Known.map eI64), .row (.slice sa14 sn14 sc14) 3 1 (now3.map eI64), .row (.slice sa18 sn18 sc18) 3 1 (next_.map eI64)] rfl (o_v (v_assign rfl) rfl (o_nil ?_))
 refine s_st ?_ (hN9 v_2.1 v_2.2.Known sa26 sn26 sc26 hL6)
 exact st_le [0, 0, 2, 2, 1, 0] (lea rfl) rfl (subs [0, 1, 2] rfl)
 replace hL6 := ite_f h15 hL6
 refine c_skip ?_
 refine s_st ?_ (hN9 1 Known_2 sa22 sn22 sc22 hL6)
 exact st_le [0, 0, 0, 0, 0, 0] (lea rfl) rfl (subs [0, 1, 2] rfl)
 intro kid Known_4 sa25 sn25 sc25 hL6
 unfold F.ref08.Counter_rows_j9 at hL6
 refine sat_wc (c_region (o_v (v_move rfl) rfl (o_v (v_move rfl) rfl (o_v (v_move rfl) rfl (ite_some hL6 fun h12 hL6 => o_v (v_indexAddr_s (xs := now3) (enc := eI64) sl59 rfl rfl (.r 2 _ rfl) h12) rfl (o_v (v_load_s (xs := now3) (enc := eI64) ty3 rfl (.r 2 _ rfl) h12 rfl rfl rfl rfl rfl rfl rfl) rfl (o_v (v_move rfl) rfl ?_)))))))
 obtain ⟨v_, h13, hL6⟩ := bd hL6
 refine o_callSB call80 rfl lent_nil (tri80 h13 :) rfl ?_
 obtain ⟨v_1, h14, hL6⟩ := bd hL6
 refine o_callSB call60 rfl lent_nil (tri60 h14 :) rfl (o_v (v_assign rfl) rfl (o_nil ?_))
 refine s_st ?_ (hN7 v_1 Known_4 sa25 sn25 sc25 hL6)
 exact st_le [0, 0, 0, 0, 0, 0] (lea rfl) rfl (subs [0, 1, 2] rfl)
 intro n1 Known_3 sa24 sn24 sc24 hL6
 unfold F.ref08.Counter_rows_j7 at hL6
 refine sat_wc (c_region (o_v (v_move rfl) rfl (o_v (v_bin rfl rfl rfl) rfl (o_v (v_assign rfl) rfl (o_nil ?_)))))
 intro a w hs
 exact ⟨j, Nat.lt_succ_self j, n1, IntKind.wrap .i64 (p + 1), Known_3, sa24, sn24, sc24, hL6, st_le [0, 0, 0, 0, 0, 0] (lea rfl) rfl (subs [0, 1, 2] rfl) a w hs⟩
 replace hL6 := ite_f h9 hL6
 refine c_exit0 ?_
 cases hL6
 refine s_st ?_ (hN6 sa22 sn22 sc22)
 exact st_le [0, 0, 0, 0, 0, 0] (lea rfl) rfl (subs [0, 1, 2] rfl)
 intro sa23 sn23 sc23
 refine sat_wc (c_region (o_v (v_move rfl) rfl (o_v (v_move rfl) rfl (o_buildSlice (enc := eI64) ([o6.1] : List Int) [.int .i64 o6.1] sl59 rfl (fun _ => by kernel_rfl) rfl rfl rfl (.s rfl (.nil)) rfl fun sa28 sn28 sc28 => ite_some hL5 fun h24 hL5 => ite_some hL5 fun h25 hL5 => o_append (enc := eI64) (xs := next_) (ys := ([o6.1] : List Int)) 4 sl59 rfl rfl rfl (.r 0 _ rfl) h24 h25 rfl fun sa29 sn29 sc29 => o_H [.row (.slice sa28 sn28 sc28) 3 1 (([o6.1] : List Int).map eI64), .box b 130 [.pointer (some ⟨gb, 0, none⟩), .slice sa23 sn23 sc23], .box gb 81 [.int .i64 c.T.G.Nts, .int .i64 c.T.G.Start, .slice sa1 sn1 sc1, .slice sa2 sn2 sc2, .int .i64 c.T.N_, .slice sa3 sn3 sc3], .row (.slice sa14 sn14 sc14) 3 1 (now3.map eI64), .row (.slice sa29 sn29 sc29) 3 1 ((next_ ++ ([o6.1] : List Int)).map eI64), .row (.slice sa23 sn23 sc23) 3 1 (o6.2.2.map eI64), .row (.slice sa3 sn3 sc3) 4 1 (c.T.Yes.map eB)] rfl (o_v (v_assign rfl) rfl (o_nil (sat_wc (c_region (o_v (v_move rfl) rfl (o_v (v_bin rfl rfl rfl) rfl (o_v (v_assign rfl) rfl ?_)))))))))))
 refine o_nil ?_
 intro a w hs
 exact ⟨j, Nat.lt_succ_self j, (next_ ++ ([o6.1] : List Int)), IntKind.wrap .i64 (m1 + 1), o6.2.2, sa29, sn29, sc29, sa23, sn23, sc23, hL5, st_le [1, 1, 1, 1, 1, 1] (lea rfl) rfl (subs [0, 1, 2] rfl) a w hs⟩
 replace hL5 := ite_f h8 hL5
 refine c_exit0 ?_
 cases hL5
 refine s_st ?_ (hN5 sa18 sn18 sc18 sa19 sn19 sc19)
 exact st_le [0, 0, 0, 0, 0, 0] (lea rfl) rfl (subs [0, 1, 2] rfl)
 intro sa20 sn20 sc20 sa21 sn21 sc21
 refine sat_wc (c_region (o_v (v_move rfl) rfl (o_v (v_assign rfl) rfl (o_nil (sat_wc (c_region (o_v (v_move rfl) rfl (o_v (v_bin rfl rfl rfl) rfl (o_v (v_assign rfl) rfl (o_nil ?_))))))))))
 intro a w hs
 exact ⟨j, Nat.lt_succ_self j, o5.1, IntKind.wrap .i64 (k_ + 1), o5.2.2, sa20, sn20, sc20, sa21, sn21, sc21, hL4, st_le [0, 0, 1, 1, 1] (lea rfl) rfl (subs [0, 1, 2] rfl) a w hs⟩
 replace hL4 := ite_f h7 hL4
 refine c_exit0 ?_
 cases hL4
 refine s_st ?_ (hN4 sa14 sn14 sc14 sa15 sn15 sc15)
 exact st_le [0, 0, 0, 0, 0] (lea rfl) rfl (subs [1, 2] rfl)
 intro sa16 sn16 sc16 sa17 sn17 sc17
 refine sat_wc (c_seq (c_region (o_v (v_move rfl) rfl (o_v (v_move rfl) rfl (ite_some hF fun h26 hF => o_v (v_indexAddr_s (xs := o4.1) (enc := eI64) sl59 rfl rfl (.r 2 _ rfl) h26) rfl (o_v (v_load_s (xs := o4.1) (enc := eI64) ty3 rfl (.r 2 _ rfl) h26 rfl rfl rfl rfl rfl rfl rfl) rfl (o_v (v_assign rfl) rfl (o_seq (c_ret ?_)))))))))
 cases hF
 refine s_ret1 rfl (r_tmp rfl) fun a w hs => fin_sel hs [0, 0, 2, 1] ⟨sa17, sn17, sc17, rfl, rfl, rfl⟩ rfl sub_nil
theorem tri36_G (k : Nat) : (∀ {c : Ref08_Counter} {a_ : Int} {i : Int} {j_ : Int} {b : Nat} {gb : Nat} {sa1 : Option Addr} {sn1 sc1 : Nat} {sa2 : Option Addr} {sn2 sc2 : Nat} {sa3 : Option Addr} {sn3 sc3 : Nat} {sa4 : Option Addr} {sn4 sc4 : Nat} {r : Int × Ref08_Counter}, F.ref08.Counter_trees k c a_ i j_ = some r -> Tri Try.prog 36 [.pointer (some ⟨b, 0, none⟩), .int .i64 a_, .int .i64 i, .int .i64 j_] [.box b 130 [.pointer (some ⟨gb, 0, none⟩), .slice sa4 sn4 sc4], .box gb 81 [.int .i64 c.T.G.Nts, .int .i64 c.T.G.Start, .slice sa1 sn1 sc1, .slice sa2 sn2 sc2, .int .i64 c.T.N_, .slice sa3 sn3 sc3], .row (.slice sa3 sn3 sc3) 4 1 (c.T.Yes.map eB), .row (.slice sa4 sn4 sc4) 3 1 (c.Known.map eI64)] [(.slice sa1 sn1 sc1, .slice 2 (c.T.G.Rules.map eRule)), (.slice sa2 sn2 sc2, .slice 1 (c.T.W.map eU8))] (fun o H Φ => ∃ (sa11 : Option Addr) (sn11 sc11 : Nat), o = .ret (.int .i64 r.1) /\ H = [.box b 130 [.pointer (some ⟨gb, 0, none⟩), .slice sa11 sn11 sc11], .box gb 81 [.int .i64 c.T.G.Nts, .int .i64 c.T.G.Start, .slice sa1 sn1 sc1, .slice sa2 sn2 sc2, .int .i64 c.T.N_, .slice sa3 sn3 sc3], .row (.slice sa3 sn3 sc3) 4 1 (c.T.Yes.map eB), .row (.slice sa11 sn11 sc11) 3 1 (r.2.Known.map eI64)] /\ Φ = [])) /\ (∀ {c : Ref08_Counter} {rhs : List KSym} {i : Int} {j_ : Int} {b : Nat} {gb : Nat} {sa1 : Option Addr} {sn1 sc1 : Nat} {sa2 : Option Addr} {sn2 sc2 : Nat} {sa3 : Option Addr} {sn3 sc3 : Nat} {sa4 : Option Addr} {sn4 sc4 : Nat} {sa5 : Option Addr} {sn5 sc5 : Nat} {r : Int × Ref08_Counter}, F.ref08.Counter_rows k c rhs i j_ = some r -> Tri Try.prog 61 [.pointer (some ⟨b, 0, none⟩), .slice sa5 sn5 sc5, .int .i64 i, .int .i64 j_] [.box b 130 [.pointer (some ⟨gb, 0, none⟩), .slice sa4 sn4 sc4], .box gb 81 [.int .i64 c.T.G.Nts, .int .i64 c.T.G.Start, .slice sa1 sn1 sc1, .slice sa2 sn2 sc2, .int .i64 c.T.N_, .slice sa3 sn3 sc3], .row (.slice sa3 sn3 sc3) 4 1 (c.T.Yes.map eB), .row (.slice sa4 sn4 sc4) 3 1 (c.Known.map eI64)] [(.slice sa1 sn1 sc1, .slice 2 (c.T.G.Rules.map eRule)), (.slice sa2 sn2 sc2, .slice 1 (c.T.W.map eU8)), (.slice sa5 sn5 sc5, .slice 5 (rhs.map eKSym))] (fun o H Φ => ∃ (sa30 : Option Addr) (sn30 sc30 : Nat), o = .ret (.int .i64 r.1) /\ H = [.box b 130 [.pointer (some ⟨gb, 0, none⟩), .slice sa30 sn30 sc30], .box gb 81 [.int .i64 c.T.G.Nts, .int .i64 c.T.G.Start, .slice sa1 sn1 sc1, .slice sa2 sn2 sc2, .int .i64 c.T.N_, .slice sa3 sn3 sc3], .row (.slice sa3 sn3 sc3) 4 1 (c.T.Yes.map eB), .row (.slice sa30 sn30 sc30) 3 1 (r.2.Known.map eI64)] /\ Φ = [])) := by
 induction k with
 | zero => exact ⟨(fun h => nomatch (show none = some _ from h)), (fun h => nomatch (show none = some _ from h))⟩
 | succ k ih => exact ⟨tri36_B k _ ih.2, tri61_B k _ ih.1⟩
theorem tri36 {k : Nat} {c : Ref08_Counter} {a_ : Int} {i : Int} {j_ : Int} {b : Nat} {gb : Nat} {sa1 : Option Addr} {sn1 sc1 : Nat} {sa2 : Option Addr} {sn2 sc2 : Nat} {sa3 : Option Addr} {sn3 sc3 : Nat} {sa4 : Option Addr} {sn4 sc4 : Nat} {r : Int × Ref08_Counter} (hF : F.ref08.Counter_trees k c a_ i j_ = some r) :
  Tri Try.prog 36 [.pointer (some ⟨b, 0, none⟩), .int .i64 a_, .int .i64 i, .int .i64 j_] [.box b 130 [.pointer (some ⟨gb, 0, none⟩), .slice sa4 sn4 sc4], .box gb 81 [.int .i64 c.T.G.Nts, .int .i64 c.T.G.Start, .slice sa1 sn1 sc1, .slice sa2 sn2 sc2, .int .i64 c.T.N_, .slice sa3 sn3 sc3], .row (.slice sa3 sn3 sc3) 4 1 (c.T.Yes.map eB), .row (.slice sa4 sn4 sc4) 3 1 (c.Known.map eI64)] [(.slice sa1 sn1 sc1, .slice 2 (c.T.G.Rules.map eRule)), (.slice sa2 sn2 sc2, .slice 1 (c.T.W.map eU8))] (fun o H Φ => ∃ (sa11 : Option Addr) (sn11 sc11 : Nat), o = .ret (.int .i64 r.1) /\ H = [.box b 130 [.pointer (some ⟨gb, 0, none⟩), .slice sa11 sn11 sc11], .box gb 81 [.int .i64 c.T.G.Nts, .int .i64 c.T.G.Start, .slice sa1 sn1 sc1, .slice sa2 sn2 sc2, .int .i64 c.T.N_, .slice sa3 sn3 sc3], .row (.slice sa3 sn3 sc3) 4 1 (c.T.Yes.map eB), .row (.slice sa11 sn11 sc11) 3 1 (r.2.Known.map eI64)] /\ Φ = []) := (tri36_G k).1 hF
theorem tri14 {k : Nat} {g_ : Gram} {w__ : List Int} {sa1 : Option Addr} {sn1 sc1 : Nat} {sa2 : Option Addr} {sn2 sc2 : Nat} {r : Int × Int} (hF : F.ref08.Count k g_ w__ = some r) :
  Tri Try.prog 14 [.agg #[.int .i64 g_.Nts, .int .i64 g_.Start, .slice sa1 sn1 sc1], .slice sa2 sn2 sc2] [] [(.slice sa1 sn1 sc1, .slice 2 (g_.Rules.map eRule)), (.slice sa2 sn2 sc2, .slice 1 (w__.map eU8))] (fun o H Φ => o = .ret (.tuple #[.int .i64 r.1, .int .i64 r.2]) /\ H = [] /\ Φ = []) := by
 unfold F.ref08.Count at hF
 refine tri_intro (n := 27) Try.func14 rfl Try.ntmps14 rfl fun w X => c_seq (c_region (o_box rfl rfl rfl fun b => o_v (v_assign rfl) rfl (o_v (v_assign rfl) rfl (o_seq (c_seq (c_region (o_v (vl 0 ty24 rfl rfl rfl) rfl (o_v (v_move rfl) rfl ?_))))))))
 obtain ⟨v_, h1, hF⟩ := bd hF
 refine o_callSB call33 rfl (lent_f 0 rfl (lent_f 1 rfl lent_nil)) (tri33 h1 :) rfl (o_v (v_assign rfl) rfl (o_seq (c_seq (c_seq (c_region (o_v (v_move rfl) rfl (o_v (v_bin rfl rfl rfl) rfl (o_seq ?_))))))))
 refine c_cond rfl (fun h2 => ?_) (fun h2 => ?_)
 replace hF := ite_t h2 hF
 refine c_seq (c_region (o_v (v_move rfl) rfl (o_v (v_assign rfl) rfl (o_v (v_assign rfl) rfl (o_seq (c_ret ?_))))))
 cases hF
 refine s_ret2 rfl (r_tmp rfl) (r_tmp rfl) fun a w hs => fin_sel hs [] ⟨rfl, rfl, rfl⟩ rfl sub_nil
 replace hF := ite_f h2 hF
 refine c_skip (sat_wc (c_seq (c_region (o_v (vl 0 ty24 rfl rfl rfl) rfl (o_v (v_move rfl) rfl ?_)))))
 obtain ⟨v_1, h3, hF⟩ := bd hF
 refine o_call0 call34 rfl (subs [0, 1] rfl) (tri34 h3 :) rfl ?_
 rintro _ _ _ ⟨gb, sa3, sn3, sc3, sa4, sn4, sc4, sa5, sn5, sc5, rfl, rfl, rfl⟩
 refine o_v (v_assign rfl) rfl (o_seq (c_seq (c_draw (n := 12) [1, 1] mixed rfl rfl (dv 0 rfl (v_move rfl) (dv 2 rfl (fa 1 rfl) (dv 3 rfl (vl 1 ty3 rfl rfl rfl) (dv 4 rfl (v_move rfl) (dv 5 rfl (v_nilCheck rfl) (dv 6 rfl (fa 4 rfl) (dv 9 rfl (v_move rfl) ?_))))))))))
 obtain ⟨v_2, h4, hF⟩ := bd hF
 obtain ⟨v_3, h5, hF⟩ := bd hF
 refine d_all [1, 7] (by kernel_rfl) (by simp) ⟨⟨_, rfl, ?_⟩, ⟨_, rfl, ?_⟩, trivial⟩
 refine ocl [0, 0] call35 rfl rfl (subs [0, 1] rfl) (tri35 h4 :) ?_
 rintro _ _ _ ⟨gb1, sa6, sn6, sc6, rfl, rfl, rfl⟩
 refine d_next [1, 3] 0 rfl rfl (d_one 7 rfl (by kernel_rfl) (o_v (vl 0 ty3 rfl rfl rfl) rfl (d_next [1, 3] 0 rfl rfl (d_one 8 rfl (by kernel_rfl) (ocl [2, 0, 0, 0] call36 rfl rfl (subs [0, 1] rfl) (tri36 h5 :) ?_)))))
 rintro _ _ _ ⟨sa7, sn7, sc7, rfl, rfl, rfl⟩
 refine d_next [2, 3] 0 rfl rfl (dv 10 rfl (v_assign rfl) (dv 11 rfl (v_assign rfl) (d_done_seq (by kernel_rfl) (c_ret ?_))))
 cases hF
 refine s_ret2 rfl (r_tmp rfl) (r_tmp rfl) fun a w hs => fin_sel hs [] ⟨rfl, rfl, rfl⟩ rfl sub_nil
 refine o_v (vl 0 ty3 rfl rfl rfl) rfl (d_next [1, 1] 0 rfl rfl (d_one 1 rfl (by kernel_rfl) (ocl [0, 0] call35 rfl rfl (subs [0, 1] rfl) (tri35 h4 :) ?_)))
 rintro _ _ _ ⟨gb1, sa6, sn6, sc6, rfl, rfl, rfl⟩
 refine d_next [1, 3] 0 rfl rfl (d_one 8 rfl (by kernel_rfl) (ocl [2, 0, 0, 0] call36 rfl rfl (subs [0, 1] rfl) (tri36 h5 :) ?_))
 rintro _ _ _ ⟨sa7, sn7, sc7, rfl, rfl, rfl⟩
 refine d_next [2, 3] 0 rfl rfl (dv 10 rfl (v_assign rfl) (dv 11 rfl (v_assign rfl) (d_done_seq (by kernel_rfl) (c_ret ?_))))
 cases hF
 refine s_ret2 rfl (r_tmp rfl) (r_tmp rfl) fun a w hs => fin_sel hs [] ⟨rfl, rfl, rfl⟩ rfl sub_nil
theorem tri3 {k : Nat} {g_ : Gram} {w__ : List Int} {sa1 : Option Addr} {sn1 sc1 : Nat} {sa2 : Option Addr} {sn2 sc2 : Nat} {r : Bool} (hF : F.law08.ForestCounts k g_ w__ = some r) :
  Tri Try.prog 3 [.agg #[.int .i64 g_.Nts, .int .i64 g_.Start, .slice sa1 sn1 sc1], .slice sa2 sn2 sc2] [] [(.slice sa1 sn1 sc1, .slice 2 (g_.Rules.map eRule)), (.slice sa2 sn2 sc2, .slice 1 (w__.map eU8))] (fun o H Φ => o = .ret (.bool r) /\ H = [] /\ Φ = []) := by
 unfold F.law08.ForestCounts at hF
 refine tri_intro (n := 36) Try.func3 rfl Try.ntmps3 rfl fun w X => c_seq (c_region (o_box rfl rfl rfl fun b => o_v (v_assign rfl) rfl (o_seq (c_seq (c_seq (c_region (o_v (vl 0 ty24 rfl rfl rfl) rfl (o_v (v_move rfl) rfl ?_))))))))
 obtain ⟨v_, h1, hF⟩ := bd hF
 refine o_callSB call11 rfl (lent_f 0 rfl (lent_f 1 rfl lent_nil)) (tri11 h1 :) rfl (o_seq ?_)
 refine c_cond rfl (fun h2 => ?_) (fun h2 => ?_)
 replace hF := ite_t h2 hF
 refine c_seq (c_region ?_)
 obtain ⟨v_1, h3, hF⟩ := bd hF
 refine o_callSB call12 rfl lent_nil (tri12 h3 :) rfl (o_v (v_assign rfl) rfl (o_seq (c_ret ?_)))
 cases hF
 refine s_ret1 rfl (r_tmp rfl) fun a w hs => fin_sel hs [] ⟨rfl, rfl, rfl⟩ rfl sub_nil
 replace hF := ite_f h2 hF
 refine c_skip (sat_wc (c_seq (c_region (o_v (vl 0 ty24 rfl rfl rfl) rfl (o_v (v_move rfl) rfl ?_)))))
 obtain ⟨v_2, h4, hF⟩ := bd hF
 refine o_callSB call13 rfl (lent_f 0 rfl (lent_f 1 rfl lent_nil)) (tri13 h4 :) rfl (o_v (v_move rfl) rfl (o_v (v_extract rfl rfl) rfl (o_v (v_extract rfl rfl) rfl (o_v (v_assign rfl) rfl (o_v (v_assign rfl) rfl (o_seq (c_seq (c_region (o_v (vl 0 ty24 rfl rfl rfl) rfl (o_v (v_move rfl) rfl ?_))))))))))
 obtain ⟨v_3, h5, hF⟩ := bd hF
 refine o_callSB call14 rfl (lent_f 0 rfl (lent_f 1 rfl lent_nil)) (tri14 h5 :) rfl (o_v (v_move rfl) rfl (o_v (v_extract rfl rfl) rfl (o_v (v_extract rfl rfl) rfl (o_v (v_assign rfl) rfl (o_v (v_assign rfl) rfl (o_seq (c_seq (c_region ?_))))))))
 obtain ⟨v_4, h6, hF⟩ := bd hF
 refine o_callSB call12 rfl lent_nil (tri12 h6 :) rfl (o_v (v_move rfl) rfl ?_)
 refine o_split (t := 26) rfl (fun h7 => ?_) (fun h7 => ?_)
 replace hF := ite_t h7 hF
 refine o_on rfl rfl (o_v (v_move rfl) rfl (o_on rfl rfl (o_v (v_move rfl) rfl (o_on rfl rfl (o_v (v_bin rfl rfl rfl) rfl (o_v (v_pick_t rfl rfl) rfl (o_v (v_move rfl) rfl ?_)))))))
 refine o_split (t := 31) rfl (fun h8 => ?_) (fun h8 => ?_)
 replace hF := ite_t h8 hF
 refine o_on rfl rfl (o_v (v_move rfl) rfl (o_on rfl rfl (o_v (v_move rfl) rfl (o_on rfl rfl (o_v (v_bin rfl rfl rfl) rfl (o_v (v_pick_t rfl rfl) rfl (o_v (v_assign rfl) rfl (o_seq (c_ret ?_)))))))))
 cases hF
 refine s_ret1 rfl (r_tmp rfl) fun a w hs => fin_sel hs [] ⟨rfl, rfl, rfl⟩ rfl sub_nil
 replace hF := ite_f h8 hF
 refine o_off rfl rfl (by decide) rfl (o_off rfl rfl (by decide) rfl (o_off rfl rfl (by decide) rfl (o_v (v_pick_f rfl rfl) rfl (o_v (v_assign rfl) rfl (o_seq (c_ret ?_))))))
 cases hF
 refine s_ret1 rfl (r_tmp rfl) fun a w hs => fin_sel hs [] ⟨rfl, rfl, rfl⟩ rfl sub_nil
 replace hF := ite_f h7 hF
 refine o_off rfl rfl (by decide) rfl (o_off rfl rfl (by decide) rfl (o_off rfl rfl (by decide) rfl (o_v (v_pick_f rfl rfl) rfl (o_v (v_move rfl) rfl (o_off rfl rfl (by decide) rfl (o_off rfl rfl (by decide) rfl (o_off rfl rfl (by decide) rfl (o_v (v_pick_f rfl rfl) rfl (o_v (v_assign rfl) rfl (o_seq (c_ret ?_)))))))))))
 cases hF
 refine s_ret1 rfl (r_tmp rfl) fun a w hs => fin_sel hs [] ⟨rfl, rfl, rfl⟩ rfl sub_nil
end Go.Vc
