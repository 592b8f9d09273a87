import Derived.Test.YtfhbgelpmbkooaaW1
set_option linter.unusedVariables false
set_option linter.unusedSimpArgs false
set_option maxRecDepth 8000
set_option maxHeartbeats 2000000
namespace Go.Vc
open Go Go.Proofs
theorem tri46 {k : Nat} {p : Forest_packer} {n : FNode} {b : Nat} {gb : Nat} {sa1 : Option Addr} {sn1 sc1 : Nat} {sa2 : Option Addr} {sn2 sc2 : Nat} {sa3 : Option Addr} {sn3 sc3 : Nat} {gb1 : Nat} {gb2 : Nat} {gb3 : Nat} {gb4 : Nat} {gb5 : Nat} {sa4 : Option Addr} {sn4 sc4 : Nat} {sa5 : Option Addr} {sn5 sc5 : Nat} {sa6 : Option Addr} {sn6 sc6 : Nat} {r : List Alt × Forest_packer} (hF : F.forest.packer_ways k p n = some r) :
  Tri Try.prog 46 [.pointer (some ⟨b, 0, none⟩), .agg #[.int .i64 n.Nt, .int .i64 n.Rule, .int .i64 n.Dot, .int .i64 n.From, .int .i64 n.To, .slice sa5 sn5 sc5, .slice sa6 sn6 sc6]] [.box b 100 [.pointer (some ⟨gb, 0, none⟩), .map (some gb4), .map (some gb5), .int .i64 p.f.Root, .slice sa4 sn4 sc4], .box gb 91 [.int .i64 p.v.g.Nts, .int .i64 p.v.g.Start, .slice sa1 sn1 sc1, .slice sa2 sn2 sc2, .slice sa3 sn3 sc3, .map (some gb1), .map (some gb2), .map (some gb3)], .mp gb1 (mEnc kForest_span (tenc p.v.whole)), .mp gb2 (mEnc kForest_span (tenc p.v.counts)), .mp gb3 (mEnc kForest_part (tenc p.v.rows)), .mp gb4 (mEnc kForest_span (tenc p.spans)), .mp gb5 (mEnc kForest_part (tenc p.parts)), .row (.slice sa4 sn4 sc4) 62 7 (p.f.Nodes.map eFNode)] [(.slice sa1 sn1 sc1, .slice 2 (p.v.g.Rules.map eRule)), (.slice sa2 sn2 sc2, .slice 1 (p.v.w_.map eU8)), (.slice sa3 sn3 sc3, .slice 1 (p.v.by_.map (eSl 1 eI64))), (.slice sa5 sn5 sc5, .slice 1 (n.Ban.map eI64)), (.slice sa6 sn6 sc6, .slice 4 (n.Alts.map eAlt))] (fun o H Φ => ∃ (sa33 : Option Addr) (sn33 sc33 : Nat) (sa34 : Option Addr) (sn34 sc34 : Nat), o = .ret (.slice sa33 sn33 sc33) /\ H = [.box b 100 [.pointer (some ⟨gb, 0, none⟩), .map (some gb4), .map (some gb5), .int .i64 p.f.Root, .slice sa34 sn34 sc34], .box gb 91 [.int .i64 p.v.g.Nts, .int .i64 p.v.g.Start, .slice sa1 sn1 sc1, .slice sa2 sn2 sc2, .slice sa3 sn3 sc3, .map (some gb1), .map (some gb2), .map (some gb3)], .mp gb1 (mEnc kForest_span (tenc r.2.v.whole)), .mp gb2 (mEnc kForest_span (tenc r.2.v.counts)), .mp gb3 (mEnc kForest_part (tenc r.2.v.rows)), .mp gb4 (mEnc kForest_span (tenc r.2.spans)), .mp gb5 (mEnc kForest_part (tenc r.2.parts)), .row (.slice sa34 sn34 sc34) 62 7 (r.2.f.Nodes.map eFNode), .row (.slice sa33 sn33 sc33) 108 4 (r.1.map eAlt)] /\ Φ = []) := by
 unfold F.forest.packer_ways at hF
 refine tri_intro (n := 146) Try.func46 rfl Try.ntmps46 rfl fun w X => c_seq (c_region (o_box rfl rfl rfl fun b1 => o_v (v_assign rfl) rfl (o_seq (c_seq (c_region (o_v (v_assign rfl) rfl (o_seq (c_seq (c_seq (c_region (o_v (fa 2 rfl) rfl (o_v (vl 0 ty3 rfl rfl rfl) rfl (o_v (v_bin rfl rfl rfl) rfl ?_)))))))))))))
 refine o_seq ?_
 refine c_cond rfl (fun h1 => ?_) (fun h1 => ?_)
 replace hF := ite_t h1 hF
 refine c_seq (c_seq (ite_some hF fun h2 hF => c_elem (xs := p.v.by_) (enc := (eSl 1 eI64)) 2 rfl h2 rfl rfl fun sa7 sn7 sc7 => c_draw (n := 13) [0, 0, 0, 0, 0, 0, 0, 0, 0] mixed rfl rfl (dv 0 rfl (v_move rfl) (dv 1 rfl (v_nilCheck rfl) (dv 2 rfl (fa 0 rfl) (dv 3 rfl (vl 1 ty69 rfl rfl rfl) (dv 4 rfl (v_nilCheck rfl) (dv 5 rfl (fa 4 rfl) (dv 6 rfl (vl 2 ty87 rfl rfl rfl) (dv 7 rfl (fa 0 rfl) (dv 8 rfl (vl 0 ty3 rfl rfl rfl) (dv 9 rfl (v_indexAddr_s (xs := p.v.by_) (enc := (eSl 1 eI64)) sl87 rfl rfl (.f 4 rfl) h2) (dv 10 rfl (v_load_cl 0 ty59 rfl rfl rfl rfl rfl) ?_)))))))))))))
 refine dv 11 rfl (v_lenS (enc := eI64) (at_ p.v.by_ n.Nt) sl59 rfl (.f 1 rfl)) (dv 12 rfl (v_move rfl) (d_done_seq (by kernel_rfl) ?_))
 obtain ⟨o1, ho1, hF⟩ := bd hF
 refine c_cut (fun E N' => ∀ (sa10 : Option Addr) (sn10 sc10 : Nat) (sa11 : Option Addr) (sn11 sc11 : Nat), Sat E [(0, .pointer (some ⟨b, 0, none⟩)), (1, .agg #[.int .i64 n.Nt, .int .i64 n.Rule, .int .i64 n.Dot, .int .i64 n.From, .int .i64 n.To, .slice sa5 sn5 sc5, .slice sa6 sn6 sc6]), (3, .pointer (some ⟨b1, 0, none⟩)), (4, .slice none 0 0), (5, .slice sa10 sn10 sc10), (26, .slice sa7 sn7 sc7)] [.box b1 62 [.int .i64 n.Nt, .int .i64 n.Rule, .int .i64 n.Dot, .int .i64 n.From, .int .i64 n.To, .slice sa5 sn5 sc5, .slice sa6 sn6 sc6], .box b 100 [.pointer (some ⟨gb, 0, none⟩), .map (some gb4), .map (some gb5), .int .i64 p.f.Root, .slice sa11 sn11 sc11], .box gb 91 [.int .i64 p.v.g.Nts, .int .i64 p.v.g.Start, .slice sa1 sn1 sc1, .slice sa2 sn2 sc2, .slice sa3 sn3 sc3, .map (some gb1), .map (some gb2), .map (some gb3)], .mp gb1 (mEnc kForest_span (tenc o1.2.2.1)), .mp gb2 (mEnc kForest_span (tenc o1.2.2.2.1)), .mp gb3 (mEnc kForest_part (tenc o1.2.2.2.2.1)), .mp gb4 (mEnc kForest_span (tenc o1.2.2.2.2.2.1)), .mp gb5 (mEnc kForest_part (tenc o1.2.2.2.2.2.2)), .row (.slice sa10 sn10 sc10) 108 4 (o1.1.map eAlt), .row (.slice sa11 sn11 sc11) 62 7 (o1.2.1.map eFNode)] [(.slice sa5 sn5 sc5, .slice 1 (n.Ban.map eI64)), (.slice sa6 sn6 sc6, .slice 4 (n.Alts.map eAlt)), (.slice sa7 sn7 sc7, .slice 1 ((at_ p.v.by_ n.Nt).map eI64)), (.slice sa1 sn1 sc1, .slice 2 (p.v.g.Rules.map eRule)), (.slice sa2 sn2 sc2, .slice 1 (p.v.w_.map eU8)), (.slice sa3 sn3 sc3, .slice 1 (p.v.by_.map (eSl 1 eI64)))] N') (fun N1 hN1 => ?_) ?_
 refine c_block ?_
 refine c_loopE (fun E j a w => ∃ (out : List Alt) (t28 : Int) (Nodes_ : List FNode) (v_ : List (Forest_span × Int)) (v_1 : List (Forest_span × Int)) (v_2 : List (Forest_part × Int)) (v_3 : List (Forest_span × Int)) (v_4 : List (Forest_part × Int)) (sa8 : Option Addr) (sn8 sc8 : Nat) (sa9 : Option Addr) (sn9 sc9 : Nat), F.forest.packer_ways_l1 k p n j out t28 Nodes_ v_ v_1 v_2 v_3 v_4 = some o1 /\ St E [(0, .pointer (some ⟨b, 0, none⟩)), (1, .agg #[.int .i64 n.Nt, .int .i64 n.Rule, .int .i64 n.Dot, .int .i64 n.From, .int .i64 n.To, .slice sa5 sn5 sc5, .slice sa6 sn6 sc6]), (3, .pointer (some ⟨b1, 0, none⟩)), (4, .slice none 0 0), (5, .slice sa8 sn8 sc8), (26, .slice sa7 sn7 sc7), (27, .int .i64 ((at_ p.v.by_ n.Nt).length : Int)), (28, .int .i64 t28)] [.box b1 62 [.int .i64 n.Nt, .int .i64 n.Rule, .int .i64 n.Dot, .int .i64 n.From, .int .i64 n.To, .slice sa5 sn5 sc5, .slice sa6 sn6 sc6], .box b 100 [.pointer (some ⟨gb, 0, none⟩), .map (some gb4), .map (some gb5), .int .i64 p.f.Root, .slice sa9 sn9 sc9], .box gb 91 [.int .i64 p.v.g.Nts, .int .i64 p.v.g.Start, .slice sa1 sn1 sc1, .slice sa2 sn2 sc2, .slice sa3 sn3 sc3, .map (some gb1), .map (some gb2), .map (some gb3)], .mp gb1 (mEnc kForest_span (tenc v_)), .mp gb2 (mEnc kForest_span (tenc v_1)), .mp gb3 (mEnc kForest_part (tenc v_2)), .mp gb4 (mEnc kForest_span (tenc v_3)), .mp gb5 (mEnc kForest_part (tenc v_4)), .row (.slice sa8 sn8 sc8) 108 4 (out.map eAlt), .row (.slice sa9 sn9 sc9) 62 7 (Nodes_.map eFNode)] [(.slice sa5 sn5 sc5, .slice 1 (n.Ban.map eI64)), (.slice sa6 sn6 sc6, .slice 4 (n.Alts.map eAlt)), (.slice sa7 sn7 sc7, .slice 1 ((at_ p.v.by_ n.Nt).map eI64)), (.slice sa1 sn1 sc1, .slice 2 (p.v.g.Rules.map eRule)), (.slice sa2 sn2 sc2, .slice 1 (p.v.w_.map eU8)), (.slice sa3 sn3 sc3, .slice 1 (p.v.by_.map (eSl 1 eI64)))] a w) k ?_ ?_
 refine s_st (st_nilrow 108 4) ?_
 intro a w hs
 exact ⟨([] : List Alt), 0, p.f.Nodes, p.v.whole, p.v.counts, p.v.rows, p.spans, p.parts, none, 0, 0, sa4, sn4, sc4, ho1, st_le [1, 1, 1, 1, 1, 1, 1, 1, 0, 0] (lea rfl) rfl (subs [5, 6, 1, 2, 3, 4] rfl) a w hs⟩
 rintro j a w ⟨out, t28, Nodes_, v_, v_1, v_2, v_3, v_4, sa8, sn8, sc8, sa9, sn9, sc9, hL1, hs⟩
 rcases j with _ | j
 cases hL1
 refine wc_app hs ?_
 unfold F.forest.packer_ways_l1 at hL1
 refine c_seq (c_region (o_v (v_bin rfl rfl rfl) rfl (o_seq (c_seq ?_))))
 refine c_cond rfl (fun h3 => ?_) (fun h3 => ?_)
 replace hL1 := ite_t h3 hL1
 refine c_skip (sat_wc (c_seq ?_))
 refine cT (fun E H Φ N' => ∀ (out1 : List Alt) (Nodes_1 : List FNode) (v_5 : List (Forest_span × Int)) (v_6 : List (Forest_span × Int)) (v_7 : List (Forest_part × Int)) (v_8 : List (Forest_span × Int)) (v_9 : List (Forest_part × Int)) (sa12 : Option Addr) (sn12 sc12 : Nat) (sa13 : Option Addr) (sn13 sc13 : Nat) (b2 : Nat), F.forest.packer_ways_j2 (F.forest.packer_ways_l1 k p n j) t28 out1 Nodes_1 v_5 v_6 v_7 v_8 v_9 = some o1 -> Sat E [(0, .pointer (some ⟨b, 0, none⟩)), (1, .agg #[.int .i64 n.Nt, .int .i64 n.Rule, .int .i64 n.Dot, .int .i64 n.From, .int .i64 n.To, .slice sa5 sn5 sc5, .slice sa6 sn6 sc6]), (3, .pointer (some ⟨b1, 0, none⟩)), (4, .slice none 0 0), (5, .slice sa12 sn12 sc12), (7, .int .i64 (at_ (at_ p.v.by_ n.Nt) t28)), (8, .pointer (some ⟨b2, 0, none⟩)), (26, .slice sa7 sn7 sc7), (27, .int .i64 ((at_ p.v.by_ n.Nt).length : Int)), (28, .int .i64 t28)] [.box b 100 [.pointer (some ⟨gb, 0, none⟩), .map (some gb4), .map (some gb5), .int .i64 p.f.Root, .slice sa13 sn13 sc13], .box gb 91 [.int .i64 p.v.g.Nts, .int .i64 p.v.g.Start, .slice sa1 sn1 sc1, .slice sa2 sn2 sc2, .slice sa3 sn3 sc3, .map (some gb1), .map (some gb2), .map (some gb3)], .mp gb1 (mEnc kForest_span (tenc v_5)), .mp gb2 (mEnc kForest_span (tenc v_6)), .mp gb3 (mEnc kForest_part (tenc v_7)), .mp gb4 (mEnc kForest_span (tenc v_8)), .mp gb5 (mEnc kForest_part (tenc v_9)), .box b1 62 [.int .i64 n.Nt, .int .i64 n.Rule, .int .i64 n.Dot, .int .i64 n.From, .int .i64 n.To, .slice sa5 sn5 sc5, .slice sa6 sn6 sc6], .box b2 85 [.int .i64 (at_ (at_ p.v.by_ n.Nt) t28), .int .i64 (((at_ p.v.g.Rules (at_ (at_ p.v.by_ n.Nt) t28)).Rhs).length : Int), .int .i64 n.From, .int .i64 n.To], .row (.slice sa12 sn12 sc12) 108 4 (out1.map eAlt), .row (.slice sa13 sn13 sc13) 62 7 (Nodes_1.map eFNode)] Φ N') (fun N2 hN2 => ?_) ?_
 refine c_block (c_seq (c_region (ite_some hL1 fun h4 hL1 => o_v (v_indexAddr_s (xs := at_ p.v.by_ n.Nt) (enc := eI64) sl59 rfl rfl (.f 2 rfl) h4) rfl (o_v (v_load_s (xs := at_ p.v.by_ n.Nt) (enc := eI64) ty3 rfl (.f 2 rfl) h4 rfl rfl rfl rfl rfl rfl rfl) rfl (o_v (v_assign rfl) rfl (o_seq (c_seq (ite_some hL1 fun h5 hL1 => c_elem (xs := p.v.g.Rules) (enc := eRule) 3 rfl h5 rfl rfl fun sa14 sn14 sc14 => c_draw (n := 21) [0, 0, 0, 0, 0, 0, 0, 0, 0, 0] mixed rfl rfl (dv 0 rfl (v_move rfl) (dv 1 rfl (v_move rfl) (dv 2 rfl (v_nilCheck rfl) (dv 3 rfl (fa 0 rfl) ?_))))))))))))
 refine dv 4 rfl (vl 1 ty69 rfl rfl rfl) (dv 5 rfl (v_nilCheck rfl) (dv 6 rfl (fa 0 rfl) (dv 7 rfl (fa 2 rfl) (dv 8 rfl (vl 2 ty22 rfl rfl rfl) (dv 9 rfl (v_move rfl) (dv 10 rfl (v_indexAddr_s (xs := p.v.g.Rules) (enc := eRule) sl22 rfl rfl (.f 5 rfl) h5) (dv 11 rfl (v_fieldAddr (v := .pointer (some ⟨blkA sa1, offA sa1 + (Int.toNat (at_ (at_ p.v.by_ n.Nt) t28) * 2 + 1), none⟩)) rfl (fun _ => by kernel_rfl)) (dv 12 rfl (v_load_cl 0 ty48 rfl rfl rfl rfl rfl) (dv 13 rfl (v_lenS (enc := eKSym) ((at_ p.v.g.Rules (at_ (at_ p.v.by_ n.Nt) t28)).Rhs) sl48 rfl (.f 1 rfl)) (dv 14 rfl (fa 3 rfl) (dv 15 rfl (vl 0 ty3 rfl rfl rfl) (dv 16 rfl (fa 4 rfl) (dv 17 rfl (vl 0 ty3 rfl rfl rfl) (dv 18 rfl (v_build (v := .agg #[.int .i64 (at_ (at_ p.v.by_ n.Nt) t28), .int .i64 (((at_ p.v.g.Rules (at_ (at_ p.v.by_ n.Nt) t28)).Rhs).length : Int), .int .i64 n.From, .int .i64 n.To]) rfl (fun _ => by kernel_rfl)) (d_one 19 rfl (by kernel_rfl) ?_)))))))))))))))
 refine o_alloc zero85 rfl rfl fun b3 => d_next [1, 1, 1, 1, 1, 1, 1, 1, 1, 1] 0 rfl rfl (d_one 20 rfl (by kernel_rfl) (o_store_box 0 rfl ty85 rfl rfl rfl rfl rfl rfl rfl (d_next [1, 1, 1, 1, 1, 1, 1, 1, 1, 1] 0 rfl rfl (d_done_seq (by kernel_rfl) (c_seq (c_draw (n := 7) [0, 0, 0, 4, 4, 4, 4] mixed rfl rfl (dv 0 rfl (v_move rfl) (dv 1 rfl (v_nilCheck rfl) (dv 2 rfl (fa 0 rfl) (dv 3 rfl (vl 2 ty69 rfl rfl rfl) (dv 4 rfl (vl 0 ty85 rfl rfl rfl) (d_one 5 rfl (by kernel_rfl) ?_))))))))))))
 obtain ⟨v_10, h6, hL1⟩ := bd hL1
 refine ocl [3, 3, 3, 3] call39 rfl rfl (subs [5, 6, 7] rfl) (tri39 h6 :) ?_
 rintro _ _ _ ⟨rfl, rfl, rfl⟩
 refine o_H [.box gb 91 [.int .i64 p.v.g.Nts, .int .i64 p.v.g.Start, .slice sa1 sn1 sc1, .slice sa2 sn2 sc2, .slice sa3 sn3 sc3, .map (some gb1), .map (some gb2), .map (some gb3)], .mp gb1 (mEnc kForest_span (tenc v_10.2.whole)), .mp gb2 (mEnc kForest_span (tenc v_10.2.counts)), .mp gb3 (mEnc kForest_part (tenc v_10.2.rows)), .box b3 85 [.int .i64 (at_ (at_ p.v.by_ n.Nt) t28), .int .i64 (((at_ p.v.g.Rules (at_ (at_ p.v.by_ n.Nt) t28)).Rhs).length : Int), .int .i64 n.From, .int .i64 n.To], .box b1 62 [.int .i64 n.Nt, .int .i64 n.Rule, .int .i64 n.Dot, .int .i64 n.From, .int .i64 n.To, .slice sa5 sn5 sc5, .slice sa6 sn6 sc6], .box b 100 [.pointer (some ⟨gb, 0, none⟩), .map (some gb4), .map (some gb5), .int .i64 p.f.Root, .slice sa9 sn9 sc9], .mp gb4 (mEnc kForest_span (tenc v_3)), .mp gb5 (mEnc kForest_part (tenc v_4)), .row (.slice sa8 sn8 sc8) 108 4 (out.map eAlt), .row (.slice sa9 sn9 sc9) 62 7 (Nodes_.map eFNode)] rfl (d_next [4, 4, 4, 4, 4, 4, 4] 0 rfl rfl (dv 6 rfl (v_bin rfl rfl rfl) (d_done_seq (by kernel_rfl) ?_)))
 refine c_cut (fun E N' => ∀ (out2 : List Alt) (Nodes_2 : List FNode) (v_11 : List (Forest_span × Int)) (v_12 : List (Forest_span × Int)) (v_13 : List (Forest_part × Int)) (v_14 : List (Forest_span × Int)) (v_15 : List (Forest_part × Int)) (sa15 : Option Addr) (sn15 sc15 : Nat) (sa16 : Option Addr) (sn16 sc16 : Nat), F.forest.packer_ways_j3 (F.forest.packer_ways_l1 k p n j) t28 out2 Nodes_2 v_11 v_12 v_13 v_14 v_15 = some o1 -> Sat E [(0, .pointer (some ⟨b, 0, none⟩)), (1, .agg #[.int .i64 n.Nt, .int .i64 n.Rule, .int .i64 n.Dot, .int .i64 n.From, .int .i64 n.To, .slice sa5 sn5 sc5, .slice sa6 sn6 sc6]), (3, .pointer (some ⟨b1, 0, none⟩)), (4, .slice none 0 0), (5, .slice sa15 sn15 sc15), (7, .int .i64 (at_ (at_ p.v.by_ n.Nt) t28)), (8, .pointer (some ⟨b3, 0, none⟩)), (26, .slice sa7 sn7 sc7), (27, .int .i64 ((at_ p.v.by_ n.Nt).length : Int)), (28, .int .i64 t28)] [.box b 100 [.pointer (some ⟨gb, 0, none⟩), .map (some gb4), .map (some gb5), .int .i64 p.f.Root, .slice sa16 sn16 sc16], .box gb 91 [.int .i64 p.v.g.Nts, .int .i64 p.v.g.Start, .slice sa1 sn1 sc1, .slice sa2 sn2 sc2, .slice sa3 sn3 sc3, .map (some gb1), .map (some gb2), .map (some gb3)], .mp gb1 (mEnc kForest_span (tenc v_11)), .mp gb2 (mEnc kForest_span (tenc v_12)), .mp gb3 (mEnc kForest_part (tenc v_13)), .mp gb4 (mEnc kForest_span (tenc v_14)), .mp gb5 (mEnc kForest_part (tenc v_15)), .box b3 85 [.int .i64 (at_ (at_ p.v.by_ n.Nt) t28), .int .i64 (((at_ p.v.g.Rules (at_ (at_ p.v.by_ n.Nt) t28)).Rhs).length : Int), .int .i64 n.From, .int .i64 n.To], .box b1 62 [.int .i64 n.Nt, .int .i64 n.Rule, .int .i64 n.Dot, .int .i64 n.From, .int .i64 n.To, .slice sa5 sn5 sc5, .slice sa6 sn6 sc6], .row (.slice sa15 sn15 sc15) 108 4 (out2.map eAlt), .row (.slice sa16 sn16 sc16) 62 7 (Nodes_2.map eFNode)] [(.slice sa5 sn5 sc5, .slice 1 (n.Ban.map eI64)), (.slice sa6 sn6 sc6, .slice 4 (n.Alts.map eAlt)), (.slice sa7 sn7 sc7, .slice 1 ((at_ p.v.by_ n.Nt).map eI64)), (.slice sa1 sn1 sc1, .slice 2 (p.v.g.Rules.map eRule)), (.slice sa2 sn2 sc2, .slice 1 (p.v.w_.map eU8)), (.slice sa3 sn3 sc3, .slice 1 (p.v.by_.map (eSl 1 eI64)))] N') (fun N3 hN3 => ?_) ?_
 refine c_cond rfl (fun h7 => ?_) (fun h7 => ?_)
 replace hL1 := ite_t h7 hL1
 refine c_region (o_v (v_move rfl) rfl (o_v (v_move rfl) rfl (o_v (v_move rfl) rfl (o_v (vl 4 ty85 rfl rfl rfl) rfl ?_))))
 obtain ⟨v_16, h8, hL1⟩ := bd hL1
 refine ocl [6, 0, 0, 0, 0, 2, 2, 3] call65 rfl rfl (subs [5, 6, 7] rfl) (tri65 h8 :) ?_
 rintro _ _ _ ⟨sa17, sn17, sc17, rfl, rfl, rfl⟩
 refine o_H [.box b 100 [.pointer (some ⟨gb, 0, none⟩), .map (some gb4), .map (some gb5), .int .i64 p.f.Root, .slice sa17 sn17 sc17], .box gb 91 [.int .i64 p.v.g.Nts, .int .i64 p.v.g.Start, .slice sa1 sn1 sc1, .slice sa2 sn2 sc2, .slice sa3 sn3 sc3, .map (some gb1), .map (some gb2), .map (some gb3)], .mp gb1 (mEnc kForest_span (tenc v_16.2.v.whole)), .mp gb2 (mEnc kForest_span (tenc v_16.2.v.counts)), .mp gb3 (mEnc kForest_part (tenc v_16.2.v.rows)), .mp gb4 (mEnc kForest_span (tenc v_16.2.spans)), .mp gb5 (mEnc kForest_part (tenc v_16.2.parts)), .row (.slice sa17 sn17 sc17) 62 7 (v_16.2.f.Nodes.map eFNode), .box b3 85 [.int .i64 (at_ (at_ p.v.by_ n.Nt) t28), .int .i64 (((at_ p.v.g.Rules (at_ (at_ p.v.by_ n.Nt) t28)).Rhs).length : Int), .int .i64 n.From, .int .i64 n.To], .box b1 62 [.int .i64 n.Nt, .int .i64 n.Rule, .int .i64 n.Dot, .int .i64 n.From, .int .i64 n.To, .slice sa5 sn5 sc5, .slice sa6 sn6 sc6], .row (.slice sa8 sn8 sc8) 108 4 (out.map eAlt)] rfl (o_v (v_build (v := .agg #[.int .i64 (at_ (at_ p.v.by_ n.Nt) t28), .int .i64 0, .int .i64 v_16.1, .int .i64 (-1)]) rfl (fun _ => by kernel_rfl)) rfl (o_buildSlice (enc := eAlt) ([(Alt.mk (at_ (at_ p.v.by_ n.Nt) t28) 0 v_16.1 (-1))] : List Alt) [.int .i64 (at_ (at_ p.v.by_ n.Nt) t28), .int .i64 0, .int .i64 v_16.1, .int .i64 (-1)] sl60 rfl (fun _ => by kernel_rfl) rfl rfl rfl (.s rfl (.s rfl (.s rfl (.s rfl (.nil))))) rfl fun sa18 sn18 sc18 => ite_some hL1 fun h9 hL1 => ite_some hL1 fun h10 hL1 => o_append (enc := eAlt) (xs := out) (ys := ([(Alt.mk (at_ (at_ p.v.by_ n.Nt) t28) 0 v_16.1 (-1))] : List Alt)) 11 sl60 rfl rfl rfl (.r 0 _ rfl) h9 h10 rfl fun sa19 sn19 sc19 => o_H [.row (.slice sa18 sn18 sc18) 108 4 (([(Alt.mk (at_ (at_ p.v.by_ n.Nt) t28) 0 v_16.1 (-1))] : List Alt).map eAlt), .box b 100 [.pointer (some ⟨gb, 0, none⟩), .map (some gb4), .map (some gb5), .int .i64 p.f.Root, .slice sa17 sn17 sc17], .box gb 91 [.int .i64 p.v.g.Nts, .int .i64 p.v.g.Start, .slice sa1 sn1 sc1, .slice sa2 sn2 sc2, .slice sa3 sn3 sc3, .map (some gb1), .map (some gb2), .map (some gb3)], .mp gb1 (mEnc kForest_span (tenc v_16.2.v.whole)), .mp gb2 (mEnc kForest_span (tenc v_16.2.v.counts)), .mp gb3 (mEnc kForest_part (tenc v_16.2.v.rows)), .mp gb4 (mEnc kForest_span (tenc v_16.2.spans)), .mp gb5 (mEnc kForest_part (tenc v_16.2.parts)), .row (.slice sa17 sn17 sc17) 62 7 (v_16.2.f.Nodes.map eFNode), .box b3 85 [.int .i64 (at_ (at_ p.v.by_ n.Nt) t28), .int .i64 (((at_ p.v.g.Rules (at_ (at_ p.v.by_ n.Nt) t28)).Rhs).length : Int), .int .i64 n.From, .int .i64 n.To], .box b1 62 [.int .i64 n.Nt, .int .i64 n.Rule, .int .i64 n.Dot, .int .i64 n.From, .int .i64 n.To, .slice sa5 sn5 sc5, .slice sa6 sn6 sc6], .row (.slice sa19 sn19 sc19) 108 4 ((out ++ ([(Alt.mk (at_ (at_ p.v.by_ n.Nt) t28) 0 v_16.1 (-1))] : List Alt)).map eAlt)] rfl (o_v (v_assign rfl) rfl (o_nil ?_))))
 refine s_st ?_ (hN3 (out ++ ([(Alt.mk (at_ (at_ p.v.by_ n.Nt) t28) 0 v_16.1 (-1))] : List Alt)) v_16.2.f.Nodes v_16.2.v.whole v_16.2.v.counts v_16.2.v.rows v_16.2.spans v_16.2.parts sa19 sn19 sc19 sa17 sn17 sc17 hL1)
 exact st_le [1, 1, 1, 1, 1, 1, 1, 2, 2, 2, 1] (lea rfl) rfl (subs [2, 3, 4, 5, 6, 7] rfl)
 replace hL1 := ite_f h7 hL1
 refine c_skip ?_
 refine s_st ?_ (hN3 out Nodes_ v_10.2.whole v_10.2.counts v_10.2.rows v_3 v_4 sa8 sn8 sc8 sa9 sn9 sc9 hL1)
 exact st_le [6, 0, 0, 0, 0, 2, 2, 0, 0, 0, 0] (lea rfl) rfl (subs [2, 3, 4, 5, 6, 7] rfl)
 intro out2 Nodes_2 v_11 v_12 v_13 v_14 v_15 sa15 sn15 sc15 sa16 sn16 sc16 hL1
 unfold F.forest.packer_ways_j3 at hL1
 refine s_st ?_ (hN2 out2 Nodes_2 v_11 v_12 v_13 v_14 v_15 sa15 sn15 sc15 sa16 sn16 sc16 b3 hL1)
 exact st_le [0, 0, 0, 0, 0, 0, 0, 1, 0, 0, 0] (lea rfl) rfl (subs [0, 1, 2, 3, 4, 5] rfl)
 intro out1 Nodes_1 v_5 v_6 v_7 v_8 v_9 sa12 sn12 sc12 sa13 sn13 sc13 b2 hL1
 unfold F.forest.packer_ways_j2 at hL1
 refine sat_wc (c_region (o_v (v_bin rfl rfl rfl) rfl (o_v (v_move rfl) rfl (o_nil ?_))))
 intro a w hs
 exact ⟨j, Nat.lt_succ_self j, out1, IntKind.wrap .i64 (t28 + 1), Nodes_1, v_5, v_6, v_7, v_8, v_9, sa12, sn12, sc12, sa13, sn13, sc13, hL1, st_le [7, 0, 0, 0, 0, 0, 0, 0, 1, 1] (lea rfl) rfl (subs [0, 1, 2, 3, 4, 5] rfl) a w hs⟩
 replace hL1 := ite_f h3 hL1
 refine c_exit0 ?_
 cases hL1
 refine s_st ?_ (hN1 sa8 sn8 sc8 sa9 sn9 sc9)
 exact st_le [0, 0, 0, 0, 0, 0, 0, 0, 0, 0] (lea rfl) rfl (subs [0, 1, 2, 3, 4, 5] rfl)
 intro sa10 sn10 sc10 sa11 sn11 sc11
 refine sat_wc (c_seq (c_region (o_v (v_move rfl) rfl (o_v (v_assign rfl) rfl (o_seq (c_ret ?_))))))
 cases hF
 refine s_ret1 rfl (r_tmp rfl) fun a w hs => fin_sel hs [1, 1, 1, 1, 1, 1, 1, 2, 1] ⟨sa10, sn10, sc10, sa11, sn11, sc11, rfl, rfl, rfl⟩ rfl sub_nil
 replace hF := ite_f h1 hF
 refine c_skip (sat_wc (c_seq (ite_some hF fun h11 hF => c_elem (xs := p.v.g.Rules) (enc := eRule) 0 rfl h11 rfl rfl fun sa20 sn20 sc20 => c_draw (n := 20) [0, 0, 0, 0, 0, 0, 0, 0, 0] mixed rfl rfl (dv 0 rfl (v_move rfl) (dv 1 rfl (v_nilCheck rfl) (dv 2 rfl (fa 0 rfl) (dv 3 rfl (vl 1 ty69 rfl rfl rfl) (dv 4 rfl (v_nilCheck rfl) (dv 5 rfl (fa 0 rfl) (dv 6 rfl (fa 2 rfl) (dv 7 rfl (vl 2 ty22 rfl rfl rfl) (dv 8 rfl (fa 1 rfl) (dv 9 rfl (vl 0 ty3 rfl rfl rfl) ?_)))))))))))))
 refine dv 10 rfl (v_indexAddr_s (xs := p.v.g.Rules) (enc := eRule) sl22 rfl rfl (.f 2 rfl) h11) (dv 11 rfl (v_fieldAddr (v := .pointer (some ⟨blkA sa1, offA sa1 + (Int.toNat n.Rule * 2 + 1), none⟩)) rfl (fun _ => by kernel_rfl)) (dv 12 rfl (v_load_cl 0 ty48 rfl rfl rfl rfl rfl) (dv 13 rfl (fa 2 rfl) (dv 14 rfl (vl 0 ty3 rfl rfl rfl) (dv 15 rfl (v_bin rfl rfl rfl) (ite_some hF fun h12 hF => dv 16 rfl (v_indexAddr_s (xs := (at_ p.v.g.Rules n.Rule).Rhs) (enc := eKSym) sl48 rfl rfl (.f 1 rfl) h12) (dv 17 rfl (v_load_s (xs := (at_ p.v.g.Rules n.Rule).Rhs) (enc := eKSym) ty47 rfl (.f 1 rfl) h12 rfl rfl rfl rfl rfl rfl rfl) (d_one 18 rfl (by kernel_rfl) (o_alloc zero47 rfl rfl fun b4 => d_next [1, 1, 1, 1, 1, 1, 1, 1, 1] 0 rfl rfl (d_one 19 rfl (by kernel_rfl) (o_store_box 0 rfl ty47 rfl rfl rfl rfl rfl rfl rfl (d_next [1, 1, 1, 1, 1, 1, 1, 1, 1] 0 rfl rfl (d_done_seq (by kernel_rfl) ?_)))))))))))))
 refine c_seq (c_seq (c_region (o_v (fa 3 rfl) rfl (o_v (vl 1 ty3 rfl rfl rfl) rfl (o_v (v_assign rfl) rfl (o_seq ?_))))))
 obtain ⟨o4, ho4, hF⟩ := bd hF
 refine c_cut (fun E N' => ∀ (sa23 : Option Addr) (sn23 sc23 : Nat) (sa24 : Option Addr) (sn24 sc24 : Nat), Sat E [(0, .pointer (some ⟨b, 0, none⟩)), (1, .agg #[.int .i64 n.Nt, .int .i64 n.Rule, .int .i64 n.Dot, .int .i64 n.From, .int .i64 n.To, .slice sa5 sn5 sc5, .slice sa6 sn6 sc6]), (3, .pointer (some ⟨b1, 0, none⟩)), (4, .slice none 0 0), (5, .slice sa23 sn23 sc23), (9, .pointer (some ⟨b4, 0, none⟩))] [.box b4 47 [.int .i64 ((at_ ((at_ p.v.g.Rules n.Rule).Rhs) (IntKind.wrap .i64 (n.Dot - 1))).Nt), .int .u64 ((at_ ((at_ p.v.g.Rules n.Rule).Rhs) (IntKind.wrap .i64 (n.Dot - 1))).Set.w0), .int .u64 ((at_ ((at_ p.v.g.Rules n.Rule).Rhs) (IntKind.wrap .i64 (n.Dot - 1))).Set.w1), .int .u64 ((at_ ((at_ p.v.g.Rules n.Rule).Rhs) (IntKind.wrap .i64 (n.Dot - 1))).Set.w2), .int .u64 ((at_ ((at_ p.v.g.Rules n.Rule).Rhs) (IntKind.wrap .i64 (n.Dot - 1))).Set.w3)], .box b1 62 [.int .i64 n.Nt, .int .i64 n.Rule, .int .i64 n.Dot, .int .i64 n.From, .int .i64 n.To, .slice sa5 sn5 sc5, .slice sa6 sn6 sc6], .box b 100 [.pointer (some ⟨gb, 0, none⟩), .map (some gb4), .map (some gb5), .int .i64 p.f.Root, .slice sa24 sn24 sc24], .box gb 91 [.int .i64 p.v.g.Nts, .int .i64 p.v.g.Start, .slice sa1 sn1 sc1, .slice sa2 sn2 sc2, .slice sa3 sn3 sc3, .map (some gb1), .map (some gb2), .map (some gb3)], .mp gb1 (mEnc kForest_span (tenc o4.2.2.1)), .mp gb2 (mEnc kForest_span (tenc o4.2.2.2.1)), .mp gb3 (mEnc kForest_part (tenc o4.2.2.2.2.1)), .mp gb4 (mEnc kForest_span (tenc o4.2.2.2.2.2.1)), .mp gb5 (mEnc kForest_part (tenc o4.2.2.2.2.2.2)), .row (.slice sa23 sn23 sc23) 108 4 (o4.1.map eAlt), .row (.slice sa24 sn24 sc24) 62 7 (o4.2.1.map eFNode)] [(.slice sa5 sn5 sc5, .slice 1 (n.Ban.map eI64)), (.slice sa6 sn6 sc6, .slice 4 (n.Alts.map eAlt)), (.slice sa1 sn1 sc1, .slice 2 (p.v.g.Rules.map eRule)), (.slice sa2 sn2 sc2, .slice 1 (p.v.w_.map eU8)), (.slice sa3 sn3 sc3, .slice 1 (p.v.by_.map (eSl 1 eI64)))] N') (fun N4 hN4 => ?_) ?_
 refine c_block ?_
 refine c_loopE (fun E j a w => ∃ (out3 : List Alt) (m : Int) (Nodes_3 : List FNode) (v_17 : List (Forest_span × Int)) (v_18 : List (Forest_span × Int)) (v_19 : List (Forest_part × Int)) (v_20 : List (Forest_span × Int)) (v_21 : List (Forest_part × Int)) (sa21 : Option Addr) (sn21 sc21 : Nat) (sa22 : Option Addr) (sn22 sc22 : Nat), F.forest.packer_ways_l4 k n p j out3 m Nodes_3 v_17 v_18 v_19 v_20 v_21 = some o4 /\ St E [(0, .pointer (some ⟨b, 0, none⟩)), (1, .agg #[.int .i64 n.Nt, .int .i64 n.Rule, .int .i64 n.Dot, .int .i64 n.From, .int .i64 n.To, .slice sa5 sn5 sc5, .slice sa6 sn6 sc6]), (3, .pointer (some ⟨b1, 0, none⟩)), (4, .slice none 0 0), (5, .slice sa21 sn21 sc21), (9, .pointer (some ⟨b4, 0, none⟩)), (10, .int .i64 m)] [.box b4 47 [.int .i64 ((at_ ((at_ p.v.g.Rules n.Rule).Rhs) (IntKind.wrap .i64 (n.Dot - 1))).Nt), .int .u64 ((at_ ((at_ p.v.g.Rules n.Rule).Rhs) (IntKind.wrap .i64 (n.Dot - 1))).Set.w0), .int .u64 ((at_ ((at_ p.v.g.Rules n.Rule).Rhs) (IntKind.wrap .i64 (n.Dot - 1))).Set.w1), .int .u64 ((at_ ((at_ p.v.g.Rules n.Rule).Rhs) (IntKind.wrap .i64 (n.Dot - 1))).Set.w2), .int .u64 ((at_ ((at_ p.v.g.Rules n.Rule).Rhs) (IntKind.wrap .i64 (n.Dot - 1))).Set.w3)], .box b1 62 [.int .i64 n.Nt, .int .i64 n.Rule, .int .i64 n.Dot, .int .i64 n.From, .int .i64 n.To, .slice sa5 sn5 sc5, .slice sa6 sn6 sc6], .box b 100 [.pointer (some ⟨gb, 0, none⟩), .map (some gb4), .map (some gb5), .int .i64 p.f.Root, .slice sa22 sn22 sc22], .box gb 91 [.int .i64 p.v.g.Nts, .int .i64 p.v.g.Start, .slice sa1 sn1 sc1, .slice sa2 sn2 sc2, .slice sa3 sn3 sc3, .map (some gb1), .map (some gb2), .map (some gb3)], .mp gb1 (mEnc kForest_span (tenc v_17)), .mp gb2 (mEnc kForest_span (tenc v_18)), .mp gb3 (mEnc kForest_part (tenc v_19)), .mp gb4 (mEnc kForest_span (tenc v_20)), .mp gb5 (mEnc kForest_part (tenc v_21)), .row (.slice sa21 sn21 sc21) 108 4 (out3.map eAlt), .row (.slice sa22 sn22 sc22) 62 7 (Nodes_3.map eFNode)] [(.slice sa5 sn5 sc5, .slice 1 (n.Ban.map eI64)), (.slice sa6 sn6 sc6, .slice 4 (n.Alts.map eAlt)), (.slice sa1 sn1 sc1, .slice 2 (p.v.g.Rules.map eRule)), (.slice sa2 sn2 sc2, .slice 1 (p.v.w_.map eU8)), (.slice sa3 sn3 sc3, .slice 1 (p.v.by_.map (eSl 1 eI64)))] a w) k ?_ ?_
 refine s_st (st_nilrow 108 4) ?_
 intro a w hs
 exact ⟨([] : List Alt), n.From, p.f.Nodes, p.v.whole, p.v.counts, p.v.rows, p.spans, p.parts, none, 0, 0, sa4, sn4, sc4, ho4, st_le [1, 1, 1, 1, 1, 1, 1, 1, 1, 0, 0] (lea rfl) rfl (subs [5, 6, 2, 3, 4] rfl) a w hs⟩
 rintro j a w ⟨out3, m, Nodes_3, v_17, v_18, v_19, v_20, v_21, sa21, sn21, sc21, sa22, sn22, sc22, hL4, hs⟩
 rcases j with _ | j
 cases hL4
 refine wc_app hs ?_
 unfold F.forest.packer_ways_l4 at hL4
 refine c_seq (c_seq (c_region (o_v (v_move rfl) rfl (o_v (fa 4 rfl) rfl (o_v (vl 1 ty3 rfl rfl rfl) rfl (o_v (v_bin rfl rfl rfl) rfl (o_seq ?_)))))))
 refine c_cond rfl (fun h13 => ?_) (fun h13 => ?_)
 replace hL4 := ite_t h13 hL4
 refine c_skip (sat_wc (c_seq ?_))
 refine cT (fun E H Φ N' => ∀ (out4 : List Alt) (v_22 : List (Forest_span × Int)) (v_23 : List (Forest_span × Int)) (v_24 : List (Forest_part × Int)) (Nodes_4 : List FNode) (v_25 : List (Forest_span × Int)) (v_26 : List (Forest_part × Int)) (sa25 : Option Addr) (sn25 sc25 : Nat) (sa26 : Option Addr) (sn26 sc26 : Nat) (b5 : Nat), F.forest.packer_ways_j5 (F.forest.packer_ways_l4 k n p j) m out4 v_22 v_23 v_24 Nodes_4 v_25 v_26 = some o4 -> Sat E [(0, .pointer (some ⟨b, 0, none⟩)), (1, .agg #[.int .i64 n.Nt, .int .i64 n.Rule, .int .i64 n.Dot, .int .i64 n.From, .int .i64 n.To, .slice sa5 sn5 sc5, .slice sa6 sn6 sc6]), (3, .pointer (some ⟨b1, 0, none⟩)), (4, .slice none 0 0), (5, .slice sa25 sn25 sc25), (9, .pointer (some ⟨b4, 0, none⟩)), (10, .int .i64 m), (11, .pointer (some ⟨b5, 0, none⟩))] [.box gb 91 [.int .i64 p.v.g.Nts, .int .i64 p.v.g.Start, .slice sa1 sn1 sc1, .slice sa2 sn2 sc2, .slice sa3 sn3 sc3, .map (some gb1), .map (some gb2), .map (some gb3)], .mp gb1 (mEnc kForest_span (tenc v_22)), .mp gb2 (mEnc kForest_span (tenc v_23)), .mp gb3 (mEnc kForest_part (tenc v_24)), .box b4 47 [.int .i64 ((at_ ((at_ p.v.g.Rules n.Rule).Rhs) (IntKind.wrap .i64 (n.Dot - 1))).Nt), .int .u64 ((at_ ((at_ p.v.g.Rules n.Rule).Rhs) (IntKind.wrap .i64 (n.Dot - 1))).Set.w0), .int .u64 ((at_ ((at_ p.v.g.Rules n.Rule).Rhs) (IntKind.wrap .i64 (n.Dot - 1))).Set.w1), .int .u64 ((at_ ((at_ p.v.g.Rules n.Rule).Rhs) (IntKind.wrap .i64 (n.Dot - 1))).Set.w2), .int .u64 ((at_ ((at_ p.v.g.Rules n.Rule).Rhs) (IntKind.wrap .i64 (n.Dot - 1))).Set.w3)], .box b1 62 [.int .i64 n.Nt, .int .i64 n.Rule, .int .i64 n.Dot, .int .i64 n.From, .int .i64 n.To, .slice sa5 sn5 sc5, .slice sa6 sn6 sc6], .box b 100 [.pointer (some ⟨gb, 0, none⟩), .map (some gb4), .map (some gb5), .int .i64 p.f.Root, .slice sa26 sn26 sc26], .mp gb4 (mEnc kForest_span (tenc v_25)), .mp gb5 (mEnc kForest_part (tenc v_26)), .box b5 85 [.int .i64 n.Rule, .int .i64 (IntKind.wrap .i64 (n.Dot - 1)), .int .i64 n.From, .int .i64 m], .row (.slice sa25 sn25 sc25) 108 4 (out4.map eAlt), .row (.slice sa26 sn26 sc26) 62 7 (Nodes_4.map eFNode)] Φ N') (fun N5 hN5 => ?_) ?_
 refine c_block (c_seq (c_region (o_v (fa 1 rfl) rfl (o_v (vl 1 ty3 rfl rfl rfl) rfl (o_v (fa 2 rfl) rfl (o_v (vl 1 ty3 rfl rfl rfl) rfl (o_v (v_bin rfl rfl rfl) rfl (o_v (fa 3 rfl) rfl (o_v (vl 1 ty3 rfl rfl rfl) rfl (o_v (v_move rfl) rfl (o_v (v_build (v := .agg #[.int .i64 n.Rule, .int .i64 (IntKind.wrap .i64 (n.Dot - 1)), .int .i64 n.From, .int .i64 m]) rfl (fun _ => by kernel_rfl)) rfl (o_alloc zero85 rfl rfl fun b6 => o_store_box 0 rfl ty85 rfl rfl rfl rfl rfl rfl rfl (o_seq (c_seq ?_))))))))))))))
 refine c_seq ?_
 refine cT (fun E H Φ N' => ∀ (t121 : Bool) (v_27 : List (Forest_span × Int)) (v_28 : List (Forest_span × Int)) (v_29 : List (Forest_part × Int)), F.forest.packer_ways_j6 (F.forest.packer_ways_l4 k n p j) m out3 Nodes_3 v_20 v_21 p n t121 v_27 v_28 v_29 = some o4 -> Sat E [(0, .pointer (some ⟨b, 0, none⟩)), (1, .agg #[.int .i64 n.Nt, .int .i64 n.Rule, .int .i64 n.Dot, .int .i64 n.From, .int .i64 n.To, .slice sa5 sn5 sc5, .slice sa6 sn6 sc6]), (3, .pointer (some ⟨b1, 0, none⟩)), (4, .slice none 0 0), (5, .slice sa21 sn21 sc21), (9, .pointer (some ⟨b4, 0, none⟩)), (10, .int .i64 m), (11, .pointer (some ⟨b6, 0, none⟩)), (121, .bool t121)] [.box gb 91 [.int .i64 p.v.g.Nts, .int .i64 p.v.g.Start, .slice sa1 sn1 sc1, .slice sa2 sn2 sc2, .slice sa3 sn3 sc3, .map (some gb1), .map (some gb2), .map (some gb3)], .mp gb1 (mEnc kForest_span (tenc v_27)), .mp gb2 (mEnc kForest_span (tenc v_28)), .mp gb3 (mEnc kForest_part (tenc v_29)), .box b6 85 [.int .i64 n.Rule, .int .i64 (IntKind.wrap .i64 (n.Dot - 1)), .int .i64 n.From, .int .i64 m], .box b4 47 [.int .i64 ((at_ ((at_ p.v.g.Rules n.Rule).Rhs) (IntKind.wrap .i64 (n.Dot - 1))).Nt), .int .u64 ((at_ ((at_ p.v.g.Rules n.Rule).Rhs) (IntKind.wrap .i64 (n.Dot - 1))).Set.w0), .int .u64 ((at_ ((at_ p.v.g.Rules n.Rule).Rhs) (IntKind.wrap .i64 (n.Dot - 1))).Set.w1), .int .u64 ((at_ ((at_ p.v.g.Rules n.Rule).Rhs) (IntKind.wrap .i64 (n.Dot - 1))).Set.w2), .int .u64 ((at_ ((at_ p.v.g.Rules n.Rule).Rhs) (IntKind.wrap .i64 (n.Dot - 1))).Set.w3)], .box b1 62 [.int .i64 n.Nt, .int .i64 n.Rule, .int .i64 n.Dot, .int .i64 n.From, .int .i64 n.To, .slice sa5 sn5 sc5, .slice sa6 sn6 sc6], .box b 100 [.pointer (some ⟨gb, 0, none⟩), .map (some gb4), .map (some gb5), .int .i64 p.f.Root, .slice sa22 sn22 sc22], .mp gb4 (mEnc kForest_span (tenc v_20)), .mp gb5 (mEnc kForest_part (tenc v_21)), .row (.slice sa21 sn21 sc21) 108 4 (out3.map eAlt), .row (.slice sa22 sn22 sc22) 62 7 (Nodes_3.map eFNode)] Φ N') (fun N8 hN8 => ?_) ?_
 refine c_draw (n := 19) [0, 0, 0, 0, 4, 4, 4, 4] mixed rfl rfl (dv 0 rfl (v_move rfl) (dv 1 rfl (v_nilCheck rfl) (dv 2 rfl (fa 0 rfl) (dv 3 rfl (vl 3 ty69 rfl rfl rfl) (dv 4 rfl (vl 1 ty47 rfl rfl rfl) (dv 5 rfl (v_move rfl) (dv 6 rfl (fa 4 rfl) (dv 7 rfl (vl 2 ty3 rfl rfl rfl) (d_one 8 rfl (by kernel_rfl) ?_)))))))))
 obtain ⟨v_42, h20, hL4⟩ := bd hL4
 refine ocl [4, 4, 4, 4] call38 rfl rfl (subs [2, 3, 4] rfl) (tri38 h20 :) ?_
 rintro _ _ _ ⟨rfl, rfl, rfl⟩
 refine o_H [.box gb 91 [.int .i64 p.v.g.Nts, .int .i64 p.v.g.Start, .slice sa1 sn1 sc1, .slice sa2 sn2 sc2, .slice sa3 sn3 sc3, .map (some gb1), .map (some gb2), .map (some gb3)], .mp gb1 (mEnc kForest_span (tenc v_17)), .mp gb2 (mEnc kForest_span (tenc v_18)), .mp gb3 (mEnc kForest_part (tenc v_19)), .box b6 85 [.int .i64 n.Rule, .int .i64 (IntKind.wrap .i64 (n.Dot - 1)), .int .i64 n.From, .int .i64 m], .box b4 47 [.int .i64 ((at_ ((at_ p.v.g.Rules n.Rule).Rhs) (IntKind.wrap .i64 (n.Dot - 1))).Nt), .int .u64 ((at_ ((at_ p.v.g.Rules n.Rule).Rhs) (IntKind.wrap .i64 (n.Dot - 1))).Set.w0), .int .u64 ((at_ ((at_ p.v.g.Rules n.Rule).Rhs) (IntKind.wrap .i64 (n.Dot - 1))).Set.w1), .int .u64 ((at_ ((at_ p.v.g.Rules n.Rule).Rhs) (IntKind.wrap .i64 (n.Dot - 1))).Set.w2), .int .u64 ((at_ ((at_ p.v.g.Rules n.Rule).Rhs) (IntKind.wrap .i64 (n.Dot - 1))).Set.w3)], .box b1 62 [.int .i64 n.Nt, .int .i64 n.Rule, .int .i64 n.Dot, .int .i64 n.From, .int .i64 n.To, .slice sa5 sn5 sc5, .slice sa6 sn6 sc6], .box b 100 [.pointer (some ⟨gb, 0, none⟩), .map (some gb4), .map (some gb5), .int .i64 p.f.Root, .slice sa22 sn22 sc22], .mp gb4 (mEnc kForest_span (tenc v_20)), .mp gb5 (mEnc kForest_part (tenc v_21)), .row (.slice sa21 sn21 sc21) 108 4 (out3.map eAlt), .row (.slice sa22 sn22 sc22) 62 7 (Nodes_3.map eFNode)] rfl (d_next [4, 4, 4, 4, 4, 4, 4, 4] 0 rfl rfl (dv 9 rfl (v_not rfl) (dv 10 rfl (v_move rfl) ?_)))
 refine d_split (t := 113) rfl (fun h21 => ?_) (fun h21 => ?_)
 replace hL4 := ite_t h21 hL4
 refine d_off 11 rfl rfl rfl (by decide) pnok (by kernel_rfl) (by kernel_rfl) (by kernel_rfl) rfl (d_off 12 rfl rfl rfl (by decide) pnok (by kernel_rfl) (by kernel_rfl) (by kernel_rfl) rfl (d_off 13 rfl rfl rfl (by decide) pnok (by kernel_rfl) (by kernel_rfl) (by kernel_rfl) rfl (d_off 14 rfl rfl rfl (by decide) pnok (by kernel_rfl) (by kernel_rfl) (by kernel_rfl) rfl (d_off 15 rfl rfl rfl (by decide) pnok (by kernel_rfl) (by kernel_rfl) (by kernel_rfl) rfl (d_off 16 rfl rfl rfl (by decide) pnok (by kernel_rfl) (by kernel_rfl) (by kernel_rfl) rfl (d_off 17 rfl rfl rfl (by decide) pnok (by kernel_rfl) (by kernel_rfl) (by kernel_rfl) rfl (dv 18 rfl (v_pick_t rfl rfl) (d_done (by kernel_rfl) ?_))))))))
 refine s_st ?_ (hN8 true v_17 v_18 v_19 hL4)
 exact st_le [0, 0, 0, 0, 0, 0, 0, 0, 0, 0, 0, 0] (lea rfl) rfl (subs [0, 1, 2, 3, 4] rfl)
 replace hL4 := ite_f h21 hL4
 refine dw 11 rfl rfl rfl (v_move rfl) (dw 12 rfl rfl rfl (v_nilCheck rfl) (dw 13 rfl rfl rfl (fa 0 rfl) (dw 14 rfl rfl rfl (vl 3 ty69 rfl rfl rfl) (dw 15 rfl rfl rfl (vl 0 ty85 rfl rfl rfl) (d_one 16 rfl (by kernel_rfl) (o_on rfl rfl ?_))))))
 obtain ⟨v_43, h22, hL4⟩ := bd hL4
 refine ocl [0, 0, 0, 0] call39 rfl rfl (subs [2, 3, 4] rfl) (tri39 h22 :) ?_
 rintro _ _ _ ⟨rfl, rfl, rfl⟩
 refine o_H [.box gb 91 [.int .i64 p.v.g.Nts, .int .i64 p.v.g.Start, .slice sa1 sn1 sc1, .slice sa2 sn2 sc2, .slice sa3 sn3 sc3, .map (some gb1), .map (some gb2), .map (some gb3)], .mp gb1 (mEnc kForest_span (tenc v_43.2.whole)), .mp gb2 (mEnc kForest_span (tenc v_43.2.counts)), .mp gb3 (mEnc kForest_part (tenc v_43.2.rows)), .box b6 85 [.int .i64 n.Rule, .int .i64 (IntKind.wrap .i64 (n.Dot - 1)), .int .i64 n.From, .int .i64 m], .box b4 47 [.int .i64 ((at_ ((at_ p.v.g.Rules n.Rule).Rhs) (IntKind.wrap .i64 (n.Dot - 1))).Nt), .int .u64 ((at_ ((at_ p.v.g.Rules n.Rule).Rhs) (IntKind.wrap .i64 (n.Dot - 1))).Set.w0), .int .u64 ((at_ ((at_ p.v.g.Rules n.Rule).Rhs) (IntKind.wrap .i64 (n.Dot - 1))).Set.w1), .int .u64 ((at_ ((at_ p.v.g.Rules n.Rule).Rhs) (IntKind.wrap .i64 (n.Dot - 1))).Set.w2), .int .u64 ((at_ ((at_ p.v.g.Rules n.Rule).Rhs) (IntKind.wrap .i64 (n.Dot - 1))).Set.w3)], .box b1 62 [.int .i64 n.Nt, .int .i64 n.Rule, .int .i64 n.Dot, .int .i64 n.From, .int .i64 n.To, .slice sa5 sn5 sc5, .slice sa6 sn6 sc6], .box b 100 [.pointer (some ⟨gb, 0, none⟩), .map (some gb4), .map (some gb5), .int .i64 p.f.Root, .slice sa22 sn22 sc22], .mp gb4 (mEnc kForest_span (tenc v_20)), .mp gb5 (mEnc kForest_part (tenc v_21)), .row (.slice sa21 sn21 sc21) 108 4 (out3.map eAlt), .row (.slice sa22 sn22 sc22) 62 7 (Nodes_3.map eFNode)] rfl (d_next [4, 4, 4, 4, 4, 4, 4, 4] 0 rfl rfl (dw 17 rfl rfl rfl (v_bin rfl rfl rfl) (dv 18 rfl (v_pick_f rfl rfl) (d_done (by kernel_rfl) ?_))))
 refine s_st ?_ (hN8 (v_43.1 == 0) v_43.2.whole v_43.2.counts v_43.2.rows hL4)
 exact st_le [0, 0, 0, 0, 0, 0, 0, 0, 0, 0, 0, 0] (lea rfl) rfl (subs [0, 1, 2, 3, 4] rfl)
 intro t121 v_27 v_28 v_29 hL4
 unfold F.forest.packer_ways_j6 at hL4
 refine sat_wc ?_
 refine c_cond rfl (fun h14 => ?_) (fun h14 => ?_)
 replace hL4 := ite_t h14 hL4
 refine c_exit0 ?_
 refine s_st ?_ (hN5 out3 v_27 v_28 v_29 Nodes_3 v_20 v_21 sa21 sn21 sc21 sa22 sn22 sc22 b6 hL4)
 exact st_le [0, 0, 0, 0, 1, 1, 1, 1, 1, 0, 0, 0] (lea rfl) rfl (subs [0, 1, 2, 3, 4] rfl)
 replace hL4 := ite_f h14 hL4
 refine c_skip (sat_wc (c_seq ?_))
 refine cT (fun E H Φ N' => ∀ (Left_ : Int) (Nodes_5 : List FNode) (v_30 : List (Forest_span × Int)) (v_31 : List (Forest_span × Int)) (v_32 : List (Forest_part × Int)) (v_33 : List (Forest_span × Int)) (v_34 : List (Forest_part × Int)) (sa27 : Option Addr) (sn27 sc27 : Nat) (b7 : Nat), F.forest.packer_ways_j7 p n m out3 (F.forest.packer_ways_l4 k n p j) Left_ Nodes_5 v_30 v_31 v_32 v_33 v_34 = some o4 -> Sat E [(0, .pointer (some ⟨b, 0, none⟩)), (1, .agg #[.int .i64 n.Nt, .int .i64 n.Rule, .int .i64 n.Dot, .int .i64 n.From, .int .i64 n.To, .slice sa5 sn5 sc5, .slice sa6 sn6 sc6]), (3, .pointer (some ⟨b1, 0, none⟩)), (4, .slice none 0 0), (5, .slice sa21 sn21 sc21), (9, .pointer (some ⟨b4, 0, none⟩)), (10, .int .i64 m), (11, .pointer (some ⟨b6, 0, none⟩)), (12, .pointer (some ⟨b7, 0, none⟩))] [.box b 100 [.pointer (some ⟨gb, 0, none⟩), .map (some gb4), .map (some gb5), .int .i64 p.f.Root, .slice sa27 sn27 sc27], .box gb 91 [.int .i64 p.v.g.Nts, .int .i64 p.v.g.Start, .slice sa1 sn1 sc1, .slice sa2 sn2 sc2, .slice sa3 sn3 sc3, .map (some gb1), .map (some gb2), .map (some gb3)], .mp gb1 (mEnc kForest_span (tenc v_30)), .mp gb2 (mEnc kForest_span (tenc v_31)), .mp gb3 (mEnc kForest_part (tenc v_32)), .mp gb4 (mEnc kForest_span (tenc v_33)), .mp gb5 (mEnc kForest_part (tenc v_34)), .box b6 85 [.int .i64 n.Rule, .int .i64 (IntKind.wrap .i64 (n.Dot - 1)), .int .i64 n.From, .int .i64 m], .box b4 47 [.int .i64 ((at_ ((at_ p.v.g.Rules n.Rule).Rhs) (IntKind.wrap .i64 (n.Dot - 1))).Nt), .int .u64 ((at_ ((at_ p.v.g.Rules n.Rule).Rhs) (IntKind.wrap .i64 (n.Dot - 1))).Set.w0), .int .u64 ((at_ ((at_ p.v.g.Rules n.Rule).Rhs) (IntKind.wrap .i64 (n.Dot - 1))).Set.w1), .int .u64 ((at_ ((at_ p.v.g.Rules n.Rule).Rhs) (IntKind.wrap .i64 (n.Dot - 1))).Set.w2), .int .u64 ((at_ ((at_ p.v.g.Rules n.Rule).Rhs) (IntKind.wrap .i64 (n.Dot - 1))).Set.w3)], .box b1 62 [.int .i64 n.Nt, .int .i64 n.Rule, .int .i64 n.Dot, .int .i64 n.From, .int .i64 n.To, .slice sa5 sn5 sc5, .slice sa6 sn6 sc6], .box b7 108 [.int .i64 n.Rule, .int .i64 m, .int .i64 Left_, .int .i64 (-1)], .row (.slice sa21 sn21 sc21) 108 4 (out3.map eAlt), .row (.slice sa27 sn27 sc27) 62 7 (Nodes_5.map eFNode)] Φ N') (fun N8 hN8 => ?_) ?_
 refine c_draw (n := 9) [4, 4, 4, 7] mixed rfl rfl (dv 0 rfl (fa 1 rfl) (dv 1 rfl (vl 2 ty3 rfl rfl rfl) (dv 2 rfl (v_move rfl) (dv 3 rfl (v_move rfl) (dv 4 rfl (vl 0 ty85 rfl rfl rfl) ?_)))))
 obtain ⟨v_41, h19, hL4⟩ := bd hL4
 refine d_all [5, 7] (by kernel_rfl) (by simp) ⟨⟨_, rfl, ?_⟩, ⟨_, rfl, ?_⟩, trivial⟩
 refine ocl [7, 0, 0, 0, 0, 3, 3, 4] call65 rfl rfl (subs [2, 3, 4] rfl) (tri65 h19 :) ?_
 rintro _ _ _ ⟨sa32, sn32, sc32, rfl, rfl, rfl⟩
 refine o_H [.box b 100 [.pointer (some ⟨gb, 0, none⟩), .map (some gb4), .map (some gb5), .int .i64 p.f.Root, .slice sa32 sn32 sc32], .box gb 91 [.int .i64 p.v.g.Nts, .int .i64 p.v.g.Start, .slice sa1 sn1 sc1, .slice sa2 sn2 sc2, .slice sa3 sn3 sc3, .map (some gb1), .map (some gb2), .map (some gb3)], .mp gb1 (mEnc kForest_span (tenc v_41.2.v.whole)), .mp gb2 (mEnc kForest_span (tenc v_41.2.v.counts)), .mp gb3 (mEnc kForest_part (tenc v_41.2.v.rows)), .mp gb4 (mEnc kForest_span (tenc v_41.2.spans)), .mp gb5 (mEnc kForest_part (tenc v_41.2.parts)), .row (.slice sa32 sn32 sc32) 62 7 (v_41.2.f.Nodes.map eFNode), .box b6 85 [.int .i64 n.Rule, .int .i64 (IntKind.wrap .i64 (n.Dot - 1)), .int .i64 n.From, .int .i64 m], .box b4 47 [.int .i64 ((at_ ((at_ p.v.g.Rules n.Rule).Rhs) (IntKind.wrap .i64 (n.Dot - 1))).Nt), .int .u64 ((at_ ((at_ p.v.g.Rules n.Rule).Rhs) (IntKind.wrap .i64 (n.Dot - 1))).Set.w0), .int .u64 ((at_ ((at_ p.v.g.Rules n.Rule).Rhs) (IntKind.wrap .i64 (n.Dot - 1))).Set.w1), .int .u64 ((at_ ((at_ p.v.g.Rules n.Rule).Rhs) (IntKind.wrap .i64 (n.Dot - 1))).Set.w2), .int .u64 ((at_ ((at_ p.v.g.Rules n.Rule).Rhs) (IntKind.wrap .i64 (n.Dot - 1))).Set.w3)], .box b1 62 [.int .i64 n.Nt, .int .i64 n.Rule, .int .i64 n.Dot, .int .i64 n.From, .int .i64 n.To, .slice sa5 sn5 sc5, .slice sa6 sn6 sc6], .row (.slice sa21 sn21 sc21) 108 4 (out3.map eAlt)] rfl (d_next [8, 8, 8, 8] 0 rfl rfl (dv 6 rfl (v_build (v := .agg #[.int .i64 n.Rule, .int .i64 m, .int .i64 v_41.1, .int .i64 (-1)]) rfl (fun _ => by kernel_rfl)) (d_one 7 rfl (by kernel_rfl) (o_alloc zero108 rfl rfl fun b8 => d_next [9, 9, 9, 9] 0 rfl rfl (d_one 8 rfl (by kernel_rfl) (o_store_box 0 rfl ty108 rfl rfl rfl rfl rfl rfl rfl (d_next [9, 9, 9, 9] 0 rfl rfl (d_done (by kernel_rfl) ?_))))))))
 refine s_st ?_ (hN8 v_41.1 v_41.2.f.Nodes v_41.2.v.whole v_41.2.v.counts v_41.2.v.rows v_41.2.spans v_41.2.parts sa32 sn32 sc32 b8 hL4)
 exact st_le [1, 1, 1, 1, 1, 1, 1, 2, 2, 2, 0, 1, 0] (lea rfl) rfl (subs [0, 1, 2, 3, 4] rfl)
 refine o_alloc zero108 rfl rfl fun b8 => d_next [5, 5, 5, 8] 0 rfl rfl (d_one 5 rfl (by kernel_rfl) (ocl [8, 1, 1, 1, 1, 4, 4, 5] call65 rfl rfl (subs [2, 3, 4] rfl) (tri65 h19 :) ?_))
 rintro _ _ _ ⟨sa32, sn32, sc32, rfl, rfl, rfl⟩
 refine o_H [.box b 100 [.pointer (some ⟨gb, 0, none⟩), .map (some gb4), .map (some gb5), .int .i64 p.f.Root, .slice sa32 sn32 sc32], .box gb 91 [.int .i64 p.v.g.Nts, .int .i64 p.v.g.Start, .slice sa1 sn1 sc1, .slice sa2 sn2 sc2, .slice sa3 sn3 sc3, .map (some gb1), .map (some gb2), .map (some gb3)], .mp gb1 (mEnc kForest_span (tenc v_41.2.v.whole)), .mp gb2 (mEnc kForest_span (tenc v_41.2.v.counts)), .mp gb3 (mEnc kForest_part (tenc v_41.2.v.rows)), .mp gb4 (mEnc kForest_span (tenc v_41.2.spans)), .mp gb5 (mEnc kForest_part (tenc v_41.2.parts)), .row (.slice sa32 sn32 sc32) 62 7 (v_41.2.f.Nodes.map eFNode), .box b8 108 [.int .i64 0, .int .i64 0, .int .i64 0, .int .i64 0], .box b6 85 [.int .i64 n.Rule, .int .i64 (IntKind.wrap .i64 (n.Dot - 1)), .int .i64 n.From, .int .i64 m], .box b4 47 [.int .i64 ((at_ ((at_ p.v.g.Rules n.Rule).Rhs) (IntKind.wrap .i64 (n.Dot - 1))).Nt), .int .u64 ((at_ ((at_ p.v.g.Rules n.Rule).Rhs) (IntKind.wrap .i64 (n.Dot - 1))).Set.w0), .int .u64 ((at_ ((at_ p.v.g.Rules n.Rule).Rhs) (IntKind.wrap .i64 (n.Dot - 1))).Set.w1), .int .u64 ((at_ ((at_ p.v.g.Rules n.Rule).Rhs) (IntKind.wrap .i64 (n.Dot - 1))).Set.w2), .int .u64 ((at_ ((at_ p.v.g.Rules n.Rule).Rhs) (IntKind.wrap .i64 (n.Dot - 1))).Set.w3)], .box b1 62 [.int .i64 n.Nt, .int .i64 n.Rule, .int .i64 n.Dot, .int .i64 n.From, .int .i64 n.To, .slice sa5 sn5 sc5, .slice sa6 sn6 sc6], .row (.slice sa21 sn21 sc21) 108 4 (out3.map eAlt)] rfl (d_next [9, 9, 9, 9] 0 rfl rfl (dv 6 rfl (v_build (v := .agg #[.int .i64 n.Rule, .int .i64 m, .int .i64 v_41.1, .int .i64 (-1)]) rfl (fun _ => by kernel_rfl)) (d_one 8 rfl (by kernel_rfl) (o_store_box 8 rfl ty108 rfl rfl rfl rfl rfl rfl rfl (d_next [9, 9, 9, 9] 0 rfl rfl (d_done (by kernel_rfl) ?_))))))
 refine s_st ?_ (hN8 v_41.1 v_41.2.f.Nodes v_41.2.v.whole v_41.2.v.counts v_41.2.v.rows v_41.2.spans v_41.2.parts sa32 sn32 sc32 b8 hL4)
 exact st_le [0, 0, 0, 0, 0, 0, 0, 2, 2, 2, 1, 1, 0] (lea rfl) rfl (subs [0, 1, 2, 3, 4] rfl)
 intro Left_ Nodes_5 v_30 v_31 v_32 v_33 v_34 sa27 sn27 sc27 b7 hL4
 unfold F.forest.packer_ways_j7 at hL4
 refine sat_wc (c_seq (c_seq (c_region (o_v (fa 0 rfl) rfl (o_v (vl 8 ty3 rfl rfl rfl) rfl (o_v (v_bin rfl rfl rfl) rfl (o_seq ?_)))))))
 refine cT (fun E H Φ N' => ∀ (Nodes_6 : List FNode) (v_35 : List (Forest_span × Int)) (v_36 : List (Forest_span × Int)) (v_37 : List (Forest_part × Int)) (v_38 : List (Forest_span × Int)) (v_39 : List (Forest_part × Int)) (Right_ : Int) (sa28 : Option Addr) (sn28 sc28 : Nat), F.forest.packer_ways_j8 out3 n m Left_ (F.forest.packer_ways_l4 k n p j) Nodes_6 v_35 v_36 v_37 v_38 v_39 Right_ = some o4 -> Sat E [(0, .pointer (some ⟨b, 0, none⟩)), (1, .agg #[.int .i64 n.Nt, .int .i64 n.Rule, .int .i64 n.Dot, .int .i64 n.From, .int .i64 n.To, .slice sa5 sn5 sc5, .slice sa6 sn6 sc6]), (3, .pointer (some ⟨b1, 0, none⟩)), (4, .slice none 0 0), (5, .slice sa21 sn21 sc21), (9, .pointer (some ⟨b4, 0, none⟩)), (10, .int .i64 m), (11, .pointer (some ⟨b6, 0, none⟩)), (12, .pointer (some ⟨b7, 0, none⟩))] [.box b 100 [.pointer (some ⟨gb, 0, none⟩), .map (some gb4), .map (some gb5), .int .i64 p.f.Root, .slice sa28 sn28 sc28], .box gb 91 [.int .i64 p.v.g.Nts, .int .i64 p.v.g.Start, .slice sa1 sn1 sc1, .slice sa2 sn2 sc2, .slice sa3 sn3 sc3, .map (some gb1), .map (some gb2), .map (some gb3)], .mp gb1 (mEnc kForest_span (tenc v_35)), .mp gb2 (mEnc kForest_span (tenc v_36)), .mp gb3 (mEnc kForest_part (tenc v_37)), .mp gb4 (mEnc kForest_span (tenc v_38)), .mp gb5 (mEnc kForest_part (tenc v_39)), .box b6 85 [.int .i64 n.Rule, .int .i64 (IntKind.wrap .i64 (n.Dot - 1)), .int .i64 n.From, .int .i64 m], .box b4 47 [.int .i64 ((at_ ((at_ p.v.g.Rules n.Rule).Rhs) (IntKind.wrap .i64 (n.Dot - 1))).Nt), .int .u64 ((at_ ((at_ p.v.g.Rules n.Rule).Rhs) (IntKind.wrap .i64 (n.Dot - 1))).Set.w0), .int .u64 ((at_ ((at_ p.v.g.Rules n.Rule).Rhs) (IntKind.wrap .i64 (n.Dot - 1))).Set.w1), .int .u64 ((at_ ((at_ p.v.g.Rules n.Rule).Rhs) (IntKind.wrap .i64 (n.Dot - 1))).Set.w2), .int .u64 ((at_ ((at_ p.v.g.Rules n.Rule).Rhs) (IntKind.wrap .i64 (n.Dot - 1))).Set.w3)], .box b1 62 [.int .i64 n.Nt, .int .i64 n.Rule, .int .i64 n.Dot, .int .i64 n.From, .int .i64 n.To, .slice sa5 sn5 sc5, .slice sa6 sn6 sc6], .box b7 108 [.int .i64 n.Rule, .int .i64 m, .int .i64 Left_, .int .i64 Right_], .row (.slice sa21 sn21 sc21) 108 4 (out3.map eAlt), .row (.slice sa28 sn28 sc28) 62 7 (Nodes_6.map eFNode)] Φ N') (fun N8 hN8 => ?_) ?_
 refine c_cond rfl (fun h17 => ?_) (fun h17 => ?_)
 replace hL4 := ite_t h17 hL4
 refine c_region (o_v (v_move rfl) rfl (o_v (fa 0 rfl) rfl (o_v (vl 8 ty3 rfl rfl rfl) rfl (o_v (v_move rfl) rfl (o_v (fa 4 rfl) rfl (o_v (vl 9 ty3 rfl rfl rfl) rfl (o_v (v_build (v := .agg #[.int .i64 ((at_ ((at_ p.v.g.Rules n.Rule).Rhs) (IntKind.wrap .i64 (n.Dot - 1))).Nt), .int .i64 m, .int .i64 n.To]) rfl (fun _ => by kernel_rfl)) rfl ?_)))))))
 obtain ⟨v_40, h18, hL4⟩ := bd hL4
 refine ocl [0, 0, 0, 0, 0, 0, 0, 5] call45 rfl rfl (subs [2, 3, 4] rfl) (tri45 h18 :) ?_
 rintro _ _ _ ⟨sa31, sn31, sc31, rfl, rfl, rfl⟩
 refine o_H [.box b 100 [.pointer (some ⟨gb, 0, none⟩), .map (some gb4), .map (some gb5), .int .i64 p.f.Root, .slice sa31 sn31 sc31], .box gb 91 [.int .i64 p.v.g.Nts, .int .i64 p.v.g.Start, .slice sa1 sn1 sc1, .slice sa2 sn2 sc2, .slice sa3 sn3 sc3, .map (some gb1), .map (some gb2), .map (some gb3)], .mp gb1 (mEnc kForest_span (tenc v_40.2.v.whole)), .mp gb2 (mEnc kForest_span (tenc v_40.2.v.counts)), .mp gb3 (mEnc kForest_part (tenc v_40.2.v.rows)), .mp gb4 (mEnc kForest_span (tenc v_40.2.spans)), .mp gb5 (mEnc kForest_part (tenc v_40.2.parts)), .row (.slice sa31 sn31 sc31) 62 7 (v_40.2.f.Nodes.map eFNode), .box b6 85 [.int .i64 n.Rule, .int .i64 (IntKind.wrap .i64 (n.Dot - 1)), .int .i64 n.From, .int .i64 m], .box b4 47 [.int .i64 ((at_ ((at_ p.v.g.Rules n.Rule).Rhs) (IntKind.wrap .i64 (n.Dot - 1))).Nt), .int .u64 ((at_ ((at_ p.v.g.Rules n.Rule).Rhs) (IntKind.wrap .i64 (n.Dot - 1))).Set.w0), .int .u64 ((at_ ((at_ p.v.g.Rules n.Rule).Rhs) (IntKind.wrap .i64 (n.Dot - 1))).Set.w1), .int .u64 ((at_ ((at_ p.v.g.Rules n.Rule).Rhs) (IntKind.wrap .i64 (n.Dot - 1))).Set.w2), .int .u64 ((at_ ((at_ p.v.g.Rules n.Rule).Rhs) (IntKind.wrap .i64 (n.Dot - 1))).Set.w3)], .box b1 62 [.int .i64 n.Nt, .int .i64 n.Rule, .int .i64 n.Dot, .int .i64 n.From, .int .i64 n.To, .slice sa5 sn5 sc5, .slice sa6 sn6 sc6], .box b7 108 [.int .i64 n.Rule, .int .i64 m, .int .i64 Left_, .int .i64 (-1)], .row (.slice sa21 sn21 sc21) 108 4 (out3.map eAlt)] rfl (o_v (fa 3 rfl) rfl (o_store_box 11 rfl ty3 rfl rfl rfl rfl rfl rfl rfl (o_nil ?_)))
 refine s_st ?_ (hN8 v_40.2.f.Nodes v_40.2.v.whole v_40.2.v.counts v_40.2.v.rows v_40.2.spans v_40.2.parts v_40.1 sa31 sn31 sc31 hL4)
 exact st_le [0, 0, 0, 0, 0, 0, 0, 1, 1, 1, 1, 1, 0] (lea rfl) rfl (subs [0, 1, 2, 3, 4] rfl)
 replace hL4 := ite_f h17 hL4
 refine c_skip ?_
 refine s_st ?_ (hN8 Nodes_5 v_30 v_31 v_32 v_33 v_34 (-1) sa27 sn27 sc27 hL4)
 exact st_le [0, 0, 0, 0, 0, 0, 0, 0, 0, 0, 0, 0, 0] (lea rfl) rfl (subs [0, 1, 2, 3, 4] rfl)
 intro Nodes_6 v_35 v_36 v_37 v_38 v_39 Right_ sa28 sn28 sc28 hL4
 unfold F.forest.packer_ways_j8 at hL4
 refine sat_wc (c_region (o_v (v_move rfl) rfl (o_v (vl 10 ty108 rfl rfl rfl) rfl (o_buildSlice (enc := eAlt) ([(Alt.mk n.Rule m Left_ Right_)] : List Alt) [.int .i64 n.Rule, .int .i64 m, .int .i64 Left_, .int .i64 Right_] sl60 rfl (fun _ => by kernel_rfl) rfl rfl rfl (.s rfl (.s rfl (.s rfl (.s rfl (.nil))))) rfl fun sa29 sn29 sc29 => ite_some hL4 fun h15 hL4 => ite_some hL4 fun h16 hL4 => o_append (enc := eAlt) (xs := out3) (ys := ([(Alt.mk n.Rule m Left_ Right_)] : List Alt)) 12 sl60 rfl rfl rfl (.r 0 _ rfl) h15 h16 rfl fun sa30 sn30 sc30 => o_H [.row (.slice sa29 sn29 sc29) 108 4 (([(Alt.mk n.Rule m Left_ Right_)] : List Alt).map eAlt), .box b 100 [.pointer (some ⟨gb, 0, none⟩), .map (some gb4), .map (some gb5), .int .i64 p.f.Root, .slice sa28 sn28 sc28], .box gb 91 [.int .i64 p.v.g.Nts, .int .i64 p.v.g.Start, .slice sa1 sn1 sc1, .slice sa2 sn2 sc2, .slice sa3 sn3 sc3, .map (some gb1), .map (some gb2), .map (some gb3)], .mp gb1 (mEnc kForest_span (tenc v_35)), .mp gb2 (mEnc kForest_span (tenc v_36)), .mp gb3 (mEnc kForest_part (tenc v_37)), .mp gb4 (mEnc kForest_span (tenc v_38)), .mp gb5 (mEnc kForest_part (tenc v_39)), .box b6 85 [.int .i64 n.Rule, .int .i64 (IntKind.wrap .i64 (n.Dot - 1)), .int .i64 n.From, .int .i64 m], .box b4 47 [.int .i64 ((at_ ((at_ p.v.g.Rules n.Rule).Rhs) (IntKind.wrap .i64 (n.Dot - 1))).Nt), .int .u64 ((at_ ((at_ p.v.g.Rules n.Rule).Rhs) (IntKind.wrap .i64 (n.Dot - 1))).Set.w0), .int .u64 ((at_ ((at_ p.v.g.Rules n.Rule).Rhs) (IntKind.wrap .i64 (n.Dot - 1))).Set.w1), .int .u64 ((at_ ((at_ p.v.g.Rules n.Rule).Rhs) (IntKind.wrap .i64 (n.Dot - 1))).Set.w2), .int .u64 ((at_ ((at_ p.v.g.Rules n.Rule).Rhs) (IntKind.wrap .i64 (n.Dot - 1))).Set.w3)], .box b1 62 [.int .i64 n.Nt, .int .i64 n.Rule, .int .i64 n.Dot, .int .i64 n.From, .int .i64 n.To, .slice sa5 sn5 sc5, .slice sa6 sn6 sc6], .box b7 108 [.int .i64 n.Rule, .int .i64 m, .int .i64 Left_, .int .i64 Right_], .row (.slice sa30 sn30 sc30) 108 4 ((out3 ++ ([(Alt.mk n.Rule m Left_ Right_)] : List Alt)).map eAlt), .row (.slice sa28 sn28 sc28) 62 7 (Nodes_6.map eFNode)] rfl (o_v (v_assign rfl) rfl (o_nil ?_))))))
 refine s_st ?_ (hN5 (out3 ++ ([(Alt.mk n.Rule m Left_ Right_)] : List Alt)) v_35 v_36 v_37 Nodes_6 v_38 v_39 sa30 sn30 sc30 sa28 sn28 sc28 b6 hL4)
 exact st_le [2, 2, 2, 2, 5, 5, 1, 1, 1, 1, 2, 2] (lea rfl) rfl (subs [0, 1, 2, 3, 4] rfl)
 intro out4 v_22 v_23 v_24 Nodes_4 v_25 v_26 sa25 sn25 sc25 sa26 sn26 sc26 b5 hL4
 unfold F.forest.packer_ways_j5 at hL4
 refine sat_wc (c_region (o_v (v_move rfl) rfl (o_v (v_bin rfl rfl rfl) rfl (o_v (v_assign rfl) rfl (o_nil ?_)))))
 intro a w hs
 exact ⟨j, Nat.lt_succ_self j, out4, IntKind.wrap .i64 (m + 1), Nodes_4, v_22, v_23, v_24, v_25, v_26, sa25, sn25, sc25, sa26, sn26, sc26, hL4, st_le [4, 4, 4, 0, 0, 0, 0, 0, 0, 1, 1] (lea rfl) rfl (subs [0, 1, 2, 3, 4] rfl) a w hs⟩
 replace hL4 := ite_f h13 hL4
 refine c_exit0 ?_
 cases hL4
 refine s_st ?_ (hN4 sa21 sn21 sc21 sa22 sn22 sc22)
 exact st_le [0, 0, 0, 0, 0, 0, 0, 0, 0, 0, 0] (lea rfl) rfl (subs [0, 1, 2, 3, 4] rfl)
 intro sa23 sn23 sc23 sa24 sn24 sc24
 refine sat_wc (c_seq (c_region (o_v (v_move rfl) rfl (o_v (v_assign rfl) rfl (o_seq (c_ret ?_))))))
 cases hF
 refine s_ret1 rfl (r_tmp rfl) fun a w hs => fin_sel hs [2, 2, 2, 2, 2, 2, 2, 3, 2] ⟨sa23, sn23, sc23, sa24, sn24, sc24, rfl, rfl, rfl⟩ rfl sub_nil
theorem tri22 {k : Nat} {g_ : Gram} {w__ : List Int} {sa1 : Option Addr} {sn1 sc1 : Nat} {sa2 : Option Addr} {sn2 sc2 : Nat} {r : Forest × Int} (hF : F.forest.Build k g_ w__ = some r) :
  Tri Try.prog 22 [.agg #[.int .i64 g_.Nts, .int .i64 g_.Start, .slice sa1 sn1 sc1], .slice sa2 sn2 sc2] [] [(.slice sa1 sn1 sc1, .slice 2 (g_.Rules.map eRule)), (.slice sa2 sn2 sc2, .slice 1 (w__.map eU8))] (fun o H Φ => ∃ (sa13 : Option Addr) (sn13 sc13 : Nat), o = .ret (.tuple #[.agg #[.int .i64 r.1.Root, .slice sa13 sn13 sc13], .int .i64 r.2]) /\ H = [] /\ Φ = [(.slice sa13 sn13 sc13, .slice 7 (r.1.Nodes.map eFNode))]) := by
 unfold F.forest.Build at hF
 refine tri_intro (n := 74) Try.func22 rfl Try.ntmps22 rfl fun w X => c_seq (c_region (o_box rfl rfl rfl fun b => o_alloc zero53 rfl rfl fun b1 => o_v (v_assign rfl) rfl (o_seq (c_seq (c_seq (c_region (o_v (vl 1 ty24 rfl rfl rfl) rfl (o_v (v_move rfl) rfl ?_))))))))
 obtain ⟨v_, h1, hF⟩ := bd hF
 refine o_callSB call30 rfl (lent_f 0 rfl (lent_f 1 rfl lent_nil)) (tri30 h1 :) rfl (o_v (v_assign rfl) rfl (o_seq (c_seq (c_region (o_v (v_move rfl) rfl (o_v (v_bin rfl rfl rfl) rfl (o_seq ?_)))))))
 refine c_cond rfl (fun h2 => ?_) (fun h2 => ?_)
 replace hF := ite_t h2 hF
 refine c_seq (c_region (o_v (v_build (v := .agg #[.int .i64 0, .slice none 0 0]) rfl (fun _ => by kernel_rfl)) rfl (o_v (v_move rfl) rfl (o_store_box 0 rfl ty53 rfl rfl rfl rfl rfl rfl rfl (o_v (v_assign rfl) rfl (o_seq (c_ret ?_)))))))
 cases hF
 refine s_st (st_nilfact 7) (s_ret2 rfl (r_cell 0 rfl ty53 rfl rfl rfl rfl) (r_tmp rfl) fun a w hs => fin_sel hs [] ⟨none, 0, 0, rfl, rfl, rfl⟩ rfl (subs [0] rfl))
 replace hF := ite_f h2 hF
 refine c_skip (sat_wc (c_seq (c_region (o_v (vl 1 ty24 rfl rfl rfl) rfl (o_v (v_move rfl) rfl ?_)))))
 obtain ⟨v_1, h3, hF⟩ := bd hF
 refine o_call0 call31 rfl (subs [0, 1] rfl) (tri31 h3 :) rfl ?_
 rintro _ _ _ ⟨gb, sa3, sn3, sc3, sa4, sn4, sc4, sa5, sn5, sc5, gb1, gb2, gb3, rfl, rfl, rfl⟩
 refine o_makeMap rfl fun b2 => o_makeMap rfl fun b3 => o_v (v_build (v := .agg #[.pointer (some ⟨gb, 0, none⟩), .map (some b2), .map (some b3), .int .i64 0, .slice none 0 0]) rfl (fun _ => by kernel_rfl)) rfl (o_box rfl rfl rfl fun b4 => o_v (v_assign rfl) rfl (o_seq (c_seq (c_region (o_v (fa 1 rfl) rfl (o_v (vl 8 ty3 rfl rfl rfl) rfl (o_v (v_move rfl) rfl (o_v (v_lenS (enc := eU8) w__ sl25 rfl (.f 4 rfl)) rfl (o_v (v_build (v := .agg #[.int .i64 g_.Start, .int .i64 0, .int .i64 (w__.length : Int)]) rfl (fun _ => by kernel_rfl)) rfl (o_alloc zero73 rfl rfl fun b5 => o_store_box 0 rfl ty73 rfl rfl rfl rfl rfl rfl rfl (o_seq ?_)))))))))))
 refine c_seq (c_seq (c_draw (n := 7) [0, 0, 0, 0, 4, 4] mixed rfl rfl (dv 0 rfl (v_move rfl) (dv 1 rfl (v_nilCheck rfl) (dv 2 rfl (fa 0 rfl) (dv 3 rfl (vl 1 ty69 rfl rfl rfl) (dv 4 rfl (vl 0 ty73 rfl rfl rfl) (d_one 5 rfl (by kernel_rfl) ?_))))))))
 obtain ⟨v_2, h4, hF⟩ := bd hF
 refine ocl [4, 4, 4, 4] call32 rfl rfl (subs [0, 1, 2] rfl) (tri32 h4 :) ?_
 rintro _ _ _ ⟨rfl, rfl, rfl⟩
 refine o_H [.box gb 91 [.int .i64 v_1.g.Nts, .int .i64 v_1.g.Start, .slice sa3 sn3 sc3, .slice sa4 sn4 sc4, .slice sa5 sn5 sc5, .map (some gb1), .map (some gb2), .map (some gb3)], .mp gb1 (mEnc kForest_span (tenc v_2.2.whole)), .mp gb2 (mEnc kForest_span (tenc v_2.2.counts)), .mp gb3 (mEnc kForest_part (tenc v_2.2.rows)), .box b5 73 [.int .i64 g_.Start, .int .i64 0, .int .i64 (w__.length : Int)], .box b4 100 [.pointer (some ⟨gb, 0, none⟩), .map (some b2), .map (some b3), .int .i64 0, .slice none 0 0], .mp b3 (mEnc kForest_part (tenc ([] : List (Forest_part × Int)))), .mp b2 (mEnc kForest_span (tenc ([] : List (Forest_span × Int)))), .box b1 53 [.int .i64 0, .slice none 0 0], .box b 24 [.int .i64 g_.Nts, .int .i64 g_.Start, .slice sa1 sn1 sc1]] rfl (d_next [4, 4, 4, 4, 4, 4] 0 rfl rfl (dv 6 rfl (v_bin rfl rfl rfl) (d_done_seq (by kernel_rfl) ?_)))
 refine c_cond rfl (fun h5 => ?_) (fun h5 => ?_)
 replace hF := ite_t h5 hF
 refine c_seq (c_region (o_v (v_build (v := .agg #[.int .i64 (-1), .slice none 0 0]) rfl (fun _ => by kernel_rfl)) rfl (o_store_box 8 rfl ty53 rfl rfl rfl rfl rfl rfl rfl (o_v (v_assign rfl) rfl (o_seq (c_ret ?_))))))
 cases hF
 refine s_st (st_nilfact 7) (s_ret2 rfl (r_cell 8 rfl ty53 rfl rfl rfl rfl) (r_tmp rfl) fun a w hs => fin_sel hs [] ⟨none, 0, 0, rfl, rfl, rfl⟩ rfl (subs [0] rfl))
 replace hF := ite_f h5 hF
 refine c_skip (sat_wc (c_seq (c_region (o_v (v_move rfl) rfl (o_v (vl 4 ty73 rfl rfl rfl) rfl ?_)))))
 obtain ⟨v_3, h6, hF⟩ := bd hF
 refine o_st (st_nilrow 62 7) (ocl [6, 1, 1, 1, 1, 3, 2, 0] call45 rfl rfl (subs [0, 1, 2] rfl) (tri45 h6 :) ?_)
 rintro _ _ _ ⟨sa6, sn6, sc6, rfl, rfl, rfl⟩
 refine o_H [.box b4 100 [.pointer (some ⟨gb, 0, none⟩), .map (some b2), .map (some b3), .int .i64 0, .slice sa6 sn6 sc6], .box gb 91 [.int .i64 v_1.g.Nts, .int .i64 v_1.g.Start, .slice sa3 sn3 sc3, .slice sa4 sn4 sc4, .slice sa5 sn5 sc5, .map (some gb1), .map (some gb2), .map (some gb3)], .mp gb1 (mEnc kForest_span (tenc v_3.2.v.whole)), .mp gb2 (mEnc kForest_span (tenc v_3.2.v.counts)), .mp gb3 (mEnc kForest_part (tenc v_3.2.v.rows)), .mp b2 (mEnc kForest_span (tenc v_3.2.spans)), .mp b3 (mEnc kForest_part (tenc v_3.2.parts)), .row (.slice sa6 sn6 sc6) 62 7 (v_3.2.f.Nodes.map eFNode), .box b5 73 [.int .i64 g_.Start, .int .i64 0, .int .i64 (w__.length : Int)], .box b1 53 [.int .i64 0, .slice none 0 0], .box b 24 [.int .i64 g_.Nts, .int .i64 g_.Start, .slice sa1 sn1 sc1]] rfl (o_seq (c_seq (c_seq (c_region (o_v (v_assign rfl) rfl (o_seq ?_))))))
 obtain ⟨o1, ho1, hF⟩ := bd hF
 refine c_cut (fun E N' => ∀ (sa8 : Option Addr) (sn8 sc8 : Nat), Sat E [(0, .agg #[.int .i64 g_.Nts, .int .i64 g_.Start, .slice sa1 sn1 sc1]), (1, .slice sa2 sn2 sc2), (2, .pointer (some ⟨b, 0, none⟩)), (4, .pointer (some ⟨b1, 0, none⟩)), (5, .int .i64 0), (6, .int .i64 v_), (7, .pointer (some ⟨b4, 0, none⟩)), (8, .pointer (some ⟨b5, 0, none⟩))] [.box b4 100 [.pointer (some ⟨gb, 0, none⟩), .map (some b2), .map (some b3), .int .i64 0, .slice sa8 sn8 sc8], .box gb 91 [.int .i64 v_1.g.Nts, .int .i64 v_1.g.Start, .slice sa3 sn3 sc3, .slice sa4 sn4 sc4, .slice sa5 sn5 sc5, .map (some gb1), .map (some gb2), .map (some gb3)], .mp gb1 (mEnc kForest_span (tenc o1.2.1)), .mp gb2 (mEnc kForest_span (tenc o1.2.2.1)), .mp gb3 (mEnc kForest_part (tenc o1.2.2.2.1)), .mp b2 (mEnc kForest_span (tenc o1.2.2.2.2.1)), .mp b3 (mEnc kForest_part (tenc o1.2.2.2.2.2)), .box b5 73 [.int .i64 g_.Start, .int .i64 0, .int .i64 (w__.length : Int)], .box b1 53 [.int .i64 0, .slice none 0 0], .box b 24 [.int .i64 g_.Nts, .int .i64 g_.Start, .slice sa1 sn1 sc1], .row (.slice sa8 sn8 sc8) 62 7 (o1.1.map eFNode)] [(.slice sa1 sn1 sc1, .slice 2 (g_.Rules.map eRule)), (.slice sa2 sn2 sc2, .slice 1 (w__.map eU8)), (.slice sa3 sn3 sc3, .slice 2 (v_1.g.Rules.map eRule)), (.slice sa4 sn4 sc4, .slice 1 (v_1.w_.map eU8)), (.slice sa5 sn5 sc5, .slice 1 (v_1.by_.map (eSl 1 eI64)))] N') (fun N1 hN1 => ?_) ?_
 refine c_block ?_
 refine c_loopE (fun E j a w => ∃ (i : Int) (Nodes_ : List FNode) (v_4 : List (Forest_span × Int)) (v_5 : List (Forest_span × Int)) (v_6 : List (Forest_part × Int)) (v_7 : List (Forest_span × Int)) (v_8 : List (Forest_part × Int)) (sa7 : Option Addr) (sn7 sc7 : Nat), F.forest.Build_l1 k v_1 j i Nodes_ v_4 v_5 v_6 v_7 v_8 = some o1 /\ St E [(0, .agg #[.int .i64 g_.Nts, .int .i64 g_.Start, .slice sa1 sn1 sc1]), (1, .slice sa2 sn2 sc2), (2, .pointer (some ⟨b, 0, none⟩)), (4, .pointer (some ⟨b1, 0, none⟩)), (5, .int .i64 0), (6, .int .i64 v_), (7, .pointer (some ⟨b4, 0, none⟩)), (8, .pointer (some ⟨b5, 0, none⟩)), (9, .int .i64 i)] [.box b4 100 [.pointer (some ⟨gb, 0, none⟩), .map (some b2), .map (some b3), .int .i64 0, .slice sa7 sn7 sc7], .box gb 91 [.int .i64 v_1.g.Nts, .int .i64 v_1.g.Start, .slice sa3 sn3 sc3, .slice sa4 sn4 sc4, .slice sa5 sn5 sc5, .map (some gb1), .map (some gb2), .map (some gb3)], .mp gb1 (mEnc kForest_span (tenc v_4)), .mp gb2 (mEnc kForest_span (tenc v_5)), .mp gb3 (mEnc kForest_part (tenc v_6)), .mp b2 (mEnc kForest_span (tenc v_7)), .mp b3 (mEnc kForest_part (tenc v_8)), .box b5 73 [.int .i64 g_.Start, .int .i64 0, .int .i64 (w__.length : Int)], .box b1 53 [.int .i64 0, .slice none 0 0], .box b 24 [.int .i64 g_.Nts, .int .i64 g_.Start, .slice sa1 sn1 sc1], .row (.slice sa7 sn7 sc7) 62 7 (Nodes_.map eFNode)] [(.slice sa1 sn1 sc1, .slice 2 (g_.Rules.map eRule)), (.slice sa2 sn2 sc2, .slice 1 (w__.map eU8)), (.slice sa3 sn3 sc3, .slice 2 (v_1.g.Rules.map eRule)), (.slice sa4 sn4 sc4, .slice 1 (v_1.w_.map eU8)), (.slice sa5 sn5 sc5, .slice 1 (v_1.by_.map (eSl 1 eI64)))] a w) k ?_ ?_
 intro a w hs
 exact ⟨0, v_3.2.f.Nodes, v_3.2.v.whole, v_3.2.v.counts, v_3.2.v.rows, v_3.2.spans, v_3.2.parts, sa6, sn6, sc6, ho1, st_le [0, 0, 0, 0, 0, 0, 0, 1, 1, 1, 0] (lea rfl) rfl (subs [3, 4, 0, 1, 2] rfl) a w hs⟩
 rintro j a w ⟨i, Nodes_, v_4, v_5, v_6, v_7, v_8, sa7, sn7, sc7, hL1, hs⟩
 rcases j with _ | j
 cases hL1
 refine wc_app hs ?_
 unfold F.forest.Build_l1 at hL1
 refine c_seq (c_seq (c_region (o_v (v_move rfl) rfl (o_v (v_move rfl) rfl (o_v (v_nilCheck rfl) rfl (o_v (fa 3 rfl) rfl (o_v (fa 4 rfl) rfl (o_v (vl 0 ty51 rfl rfl rfl) rfl (o_v (v_lenS (enc := eFNode) Nodes_ sl51 rfl (.r 10 _ rfl)) rfl (o_v (v_bin rfl rfl rfl) rfl (o_seq ?_)))))))))))
 refine c_cond rfl (fun h7 => ?_) (fun h7 => ?_)
 replace hL1 := ite_t h7 hL1
 refine c_skip (sat_wc (c_seq (c_block (c_seq (c_region (o_v (v_move rfl) rfl (o_v (v_move rfl) rfl (o_v (v_nilCheck rfl) rfl (o_v (fa 3 rfl) rfl (o_v (fa 4 rfl) rfl (o_v (vl 0 ty51 rfl rfl rfl) rfl (o_v (v_move rfl) rfl (ite_some hL1 fun h8 hL1 => o_v (v_indexAddr_s (xs := Nodes_) (enc := eFNode) sl51 rfl rfl (.r 10 _ rfl) h8) rfl (o_load_s (xs := Nodes_) (enc := eFNode) ty62 rfl (.r 10 _ rfl) h8 rfl rfl rfl rfl rfl rfl fun sa9 sn9 sc9 sa10 sn10 sc10 => ?_))))))))))))))
 obtain ⟨v_9, h9, hL1⟩ := bd hL1
 refine ocl [0, 0, 0, 0, 0, 0, 0, 3] call46 rfl rfl (subs [4, 5, 6, 0, 1] rfl) (tri46 h9 :) ?_
 rintro _ _ _ ⟨sa11, sn11, sc11, sa12, sn12, sc12, rfl, rfl, rfl⟩
 refine o_H [.box b4 100 [.pointer (some ⟨gb, 0, none⟩), .map (some b2), .map (some b3), .int .i64 0, .slice sa12 sn12 sc12], .box gb 91 [.int .i64 v_1.g.Nts, .int .i64 v_1.g.Start, .slice sa3 sn3 sc3, .slice sa4 sn4 sc4, .slice sa5 sn5 sc5, .map (some gb1), .map (some gb2), .map (some gb3)], .mp gb1 (mEnc kForest_span (tenc v_9.2.v.whole)), .mp gb2 (mEnc kForest_span (tenc v_9.2.v.counts)), .mp gb3 (mEnc kForest_part (tenc v_9.2.v.rows)), .mp b2 (mEnc kForest_span (tenc v_9.2.spans)), .mp b3 (mEnc kForest_part (tenc v_9.2.parts)), .row (.slice sa12 sn12 sc12) 62 7 (v_9.2.f.Nodes.map eFNode), .row (.slice sa11 sn11 sc11) 108 4 (v_9.1.map eAlt), .box b5 73 [.int .i64 g_.Start, .int .i64 0, .int .i64 (w__.length : Int)], .box b1 53 [.int .i64 0, .slice none 0 0], .box b 24 [.int .i64 g_.Nts, .int .i64 g_.Start, .slice sa1 sn1 sc1]] rfl (o_v (v_assign rfl) rfl (o_seq (c_region (o_v (v_move rfl) rfl (o_v (v_nilCheck rfl) rfl (o_v (fa 3 rfl) rfl (o_v (fa 4 rfl) rfl (o_v (vl 0 ty51 rfl rfl rfl) rfl (o_v (v_move rfl) rfl (o_v (v_move rfl) rfl (ite_some hL1 fun h10 hL1 => o_v (v_indexAddr_s (xs := v_9.2.f.Nodes) (enc := eFNode) sl51 rfl rfl (.r 7 _ rfl) h10) rfl (o_v (v_fieldAddr (v := .pointer (some ⟨blkA sa12, offA sa12 + (Int.toNat i * 7 + 6), none⟩)) rfl (fun _ => by kernel_rfl)) rfl (o_st (st_freeze 8 rfl) (o_store_s (xs := v_9.2.f.Nodes) (enc := eFNode) 7 (FNode.mk ((at_ v_9.2.f.Nodes i).Nt) ((at_ v_9.2.f.Nodes i).Rule) ((at_ v_9.2.f.Nodes i).Dot) ((at_ v_9.2.f.Nodes i).From) ((at_ v_9.2.f.Nodes i).To) ((at_ v_9.2.f.Nodes i).Ban) v_9.1) rfl ty60 rfl rfl rfl rfl h10 (.f 0 rfl (.nil)) rfl rfl rfl ?_))))))))))))))
 refine o_H [.box b4 100 [.pointer (some ⟨gb, 0, none⟩), .map (some b2), .map (some b3), .int .i64 0, .slice sa12 sn12 sc12], .box gb 91 [.int .i64 v_1.g.Nts, .int .i64 v_1.g.Start, .slice sa3 sn3 sc3, .slice sa4 sn4 sc4, .slice sa5 sn5 sc5, .map (some gb1), .map (some gb2), .map (some gb3)], .mp gb1 (mEnc kForest_span (tenc v_9.2.v.whole)), .mp gb2 (mEnc kForest_span (tenc v_9.2.v.counts)), .mp gb3 (mEnc kForest_part (tenc v_9.2.v.rows)), .mp b2 (mEnc kForest_span (tenc v_9.2.spans)), .mp b3 (mEnc kForest_part (tenc v_9.2.parts)), .row (.slice sa12 sn12 sc12) 62 7 ((set_ v_9.2.f.Nodes i (FNode.mk ((at_ v_9.2.f.Nodes i).Nt) ((at_ v_9.2.f.Nodes i).Rule) ((at_ v_9.2.f.Nodes i).Dot) ((at_ v_9.2.f.Nodes i).From) ((at_ v_9.2.f.Nodes i).To) ((at_ v_9.2.f.Nodes i).Ban) v_9.1)).map eFNode), .box b5 73 [.int .i64 g_.Start, .int .i64 0, .int .i64 (w__.length : Int)], .box b1 53 [.int .i64 0, .slice none 0 0], .box b 24 [.int .i64 g_.Nts, .int .i64 g_.Start, .slice sa1 sn1 sc1]] rfl (o_nil (sat_wc (c_region (o_v (v_move rfl) rfl (o_v (v_bin rfl rfl rfl) rfl (o_v (v_assign rfl) rfl (o_nil ?_)))))))
 intro a w hs
 exact ⟨j, Nat.lt_succ_self j, IntKind.wrap .i64 (i + 1), set_ v_9.2.f.Nodes i (FNode.mk ((at_ v_9.2.f.Nodes i).Nt) ((at_ v_9.2.f.Nodes i).Rule) ((at_ v_9.2.f.Nodes i).Dot) ((at_ v_9.2.f.Nodes i).From) ((at_ v_9.2.f.Nodes i).To) ((at_ v_9.2.f.Nodes i).Ban) v_9.1), v_9.2.v.whole, v_9.2.v.counts, v_9.2.v.rows, v_9.2.spans, v_9.2.parts, sa12, sn12, sc12, hL1, st_le [0, 0, 0, 0, 0, 0, 0, 1, 1, 1, 0] (lea rfl) rfl (subs [3, 4, 5, 6, 7] rfl) a w hs⟩
 replace hL1 := ite_f h7 hL1
 refine c_exit0 ?_
 cases hL1
 refine s_st ?_ (hN1 sa7 sn7 sc7)
 exact st_le [0, 0, 0, 0, 0, 0, 0, 0, 0, 0, 0] (lea rfl) rfl (subs [0, 1, 2, 3, 4] rfl)
 intro sa8 sn8 sc8
 refine sat_wc (c_seq (c_region (o_v (v_move rfl) rfl (o_v (v_nilCheck rfl) rfl (o_v (fa 3 rfl) rfl (o_v (vl 0 ty53 rfl rfl rfl) rfl (o_store_box 8 rfl ty53 rfl rfl rfl rfl rfl rfl rfl (o_v (v_assign rfl) rfl (o_seq (c_ret ?_))))))))))
 cases hF
 refine s_st (st_freeze 10 rfl) (s_ret2 rfl (r_cell 8 rfl ty53 rfl rfl rfl rfl) (r_tmp rfl) fun a w hs => fin_sel hs [] ⟨sa8, sn8, sc8, rfl, rfl, rfl⟩ rfl (subs [0] rfl))
theorem tri12 {k : Nat} {r : Bool} (hF : F.law08.alive k = some r) :
  Tri Try.prog 12 [] [] [] (fun o H Φ => o = .ret (.bool r) /\ H = [] /\ Φ = []) := by
 unfold F.law08.alive at hF
 refine tri_intro (n := 86) Try.func12 rfl Try.ntmps12 rfl fun w X => c_seq (c_region (o_v (v_assign rfl) rfl (o_seq (c_seq (c_region ?_)))))
 obtain ⟨v_, h1, hF⟩ := bd hF
 refine o_call0 call29 rfl sub_nil (tri29 h1 :) rfl ?_
 rintro _ _ _ ⟨sa1, sn1, sc1, rfl, rfl, rfl⟩
 refine o_buildSlice (enc := eU8) ([49, 43, 49, 43, 49] : List Int) [.int .u8 49, .int .u8 43, .int .u8 49, .int .u8 43, .int .u8 49] sl25 rfl (fun _ => by kernel_rfl) rfl rfl rfl (.s rfl (.s rfl (.s rfl (.s rfl (.s rfl (.nil)))))) rfl fun sa2 sn2 sc2 => o_convBytes 0 Try.underlying25 Try.underlying5 rfl rfl rfl rfl ?_
 obtain ⟨v_1, h2, hF⟩ := bd hF
 refine o_callSB call13 rfl (lent_f 1 rfl (lent_f 0 rfl lent_nil)) (tri13 h2 :) rfl (o_v (v_move rfl) rfl (o_v (v_extract rfl rfl) rfl (o_v (v_extract rfl rfl) rfl (o_v (v_assign rfl) rfl (o_v (v_assign rfl) rfl (o_seq (c_seq (c_region (o_call0 call29 rfl sub_nil (tri29 h1 :) rfl ?_)))))))))
 rintro _ _ _ ⟨sa3, sn3, sc3, rfl, rfl, rfl⟩
 refine o_buildSlice (enc := eU8) ([49, 43, 49, 43, 49] : List Int) [.int .u8 49, .int .u8 43, .int .u8 49, .int .u8 43, .int .u8 49] sl25 rfl (fun _ => by kernel_rfl) rfl rfl rfl (.s rfl (.s rfl (.s rfl (.s rfl (.s rfl (.nil)))))) rfl fun sa4 sn4 sc4 => o_convBytes 0 Try.underlying25 Try.underlying5 rfl rfl rfl rfl ?_
 obtain ⟨v_2, h3, hF⟩ := bd hF
 refine o_call0 call15 rfl (subs [1, 0] rfl) (tri15 h3 :) rfl ?_
 rintro _ _ _ ⟨sa5, sn5, sc5, rfl, rfl, rfl⟩
 refine o_v (v_move rfl) rfl (o_v (v_extract rfl rfl) rfl (o_v (v_extract rfl rfl) rfl (o_v (v_assign rfl) rfl (o_v (v_assign rfl) rfl (o_seq (c_seq (c_region (o_call0 call29 rfl sub_nil (tri29 h1 :) rfl ?_))))))))
 rintro _ _ _ ⟨sa6, sn6, sc6, rfl, rfl, rfl⟩
 refine o_buildSlice (enc := eU8) ([49] : List Int) [.int .u8 49] sl25 rfl (fun _ => by kernel_rfl) rfl rfl rfl (.s rfl (.nil)) rfl fun sa7 sn7 sc7 => o_convBytes 0 Try.underlying25 Try.underlying5 rfl rfl rfl rfl ?_
 obtain ⟨v_3, h4, hF⟩ := bd hF
 refine o_call0 call22 rfl (subs [1, 0] rfl) (tri22 h4 :) rfl ?_
 rintro _ _ _ ⟨sa8, sn8, sc8, rfl, rfl, rfl⟩
 refine o_v (v_move rfl) rfl (o_v (v_extract rfl rfl) rfl (o_v (v_extract rfl rfl) rfl (o_alloc zero53 rfl rfl fun b => o_store_box 0 rfl ty53 rfl rfl rfl rfl rfl rfl rfl (o_v (v_assign rfl) rfl (o_seq (c_seq (c_region (o_v (v_build (v := .agg #[.int .i64 0, .int .u64 0, .int .u64 0, .int .u64 0, .int .u64 0]) rfl (fun _ => by kernel_rfl)) rfl (o_buildSlice (enc := eKSym) ([(KSym.mk 0 (S4.mk 0 0 0 0))] : List KSym) [.int .i64 0, .int .u64 0, .int .u64 0, .int .u64 0, .int .u64 0] sl48 rfl (fun _ => by kernel_rfl) rfl rfl rfl (.s rfl (.s rfl (.s rfl (.s rfl (.s rfl (.nil)))))) rfl fun sa9 sn9 sc9 => o_v (v_build (v := .agg #[.int .i64 0, .slice sa9 sn9 sc9]) rfl (fun _ => by kernel_rfl)) rfl (o_st (st_freeze 0 rfl) (o_buildSlice (enc := eRule) ([(Rule.mk 0 ([(KSym.mk 0 (S4.mk 0 0 0 0))] : List KSym))] : List Rule) [.int .i64 0, .slice sa9 sn9 sc9] sl22 rfl (fun _ => by kernel_rfl) rfl rfl rfl (.s rfl (.f 0 rfl (.nil))) rfl fun sa10 sn10 sc10 => o_v (v_build (v := .agg #[.int .i64 1, .int .i64 0, .slice sa10 sn10 sc10]) rfl (fun _ => by kernel_rfl)) rfl ?_)))))))))))
 obtain ⟨v_4, h5, hF⟩ := bd hF
 refine o_st (st_nilfact 1) (o_callSB call13 rfl (lent_r 0 rfl (lent_f 0 rfl lent_nil)) (tri13 h5 :) rfl (o_v (v_move rfl) rfl (o_v (v_extract rfl rfl) rfl (o_v (v_extract rfl rfl) rfl (o_v (v_assign rfl) rfl (o_v (v_assign rfl) rfl (o_seq (c_seq ?_))))))))
 refine c_cut (fun E N' => ∀ (t0 : Bool), F.law08.alive_j1 t0 = some r -> Sat E [(0, .bool t0), (5, .pointer (some ⟨b, 0, none⟩))] [.box b 53 [.int .i64 v_3.1.Root, .slice sa8 sn8 sc8]] [(.slice sa8 sn8 sc8, .slice 7 (v_3.1.Nodes.map eFNode))] N') (fun N1 hN1 => ?_) ?_
 refine c_region (o_v (v_move rfl) rfl (o_v (v_bin rfl rfl rfl) rfl (o_v (v_move rfl) rfl ?_)))
 refine o_split (t := 41) rfl (fun h6 => ?_) (fun h6 => ?_)
 replace hF := ite_t h6 hF
 refine o_on rfl rfl (o_v (v_move rfl) rfl (o_on rfl rfl (o_v (v_bin rfl rfl rfl) rfl (o_v (v_pick_t rfl rfl) rfl (o_v (v_move rfl) rfl ?_)))))
 refine o_split (t := 45) rfl (fun h7 => ?_) (fun h7 => ?_)
 replace hF := ite_t h7 hF
 refine o_on rfl rfl (o_v (v_move rfl) rfl (o_on rfl rfl (o_v (v_bin rfl rfl rfl) rfl (o_v (v_pick_t rfl rfl) rfl (o_v (v_move rfl) rfl ?_)))))
 refine o_split (t := 49) rfl (fun h8 => ?_) (fun h8 => ?_)
 replace hF := ite_t h8 hF
 refine o_on rfl rfl (o_v (v_move rfl) rfl (o_on rfl rfl (o_v (v_lenS (enc := eTree) v_2.1 sl31 rfl (.r 2 _ rfl)) rfl (o_on rfl rfl (o_v (v_bin rfl rfl rfl) rfl (o_v (v_pick_t rfl rfl) rfl (o_v (v_move rfl) rfl ?_)))))))
 refine o_split (t := 54) rfl (fun h9 => ?_) (fun h9 => ?_)
 replace hF := ite_t h9 hF
 refine o_on rfl rfl (o_v (v_move rfl) rfl (o_on rfl rfl (ite_some hF fun h10 hF => o_v (v_indexAddr_s (xs := v_2.1) (enc := eTree) sl31 rfl rfl (.r 2 _ rfl) h10) rfl (o_on rfl rfl (o_v (v_fieldAddr (v := .pointer (some ⟨blkA sa5, offA sa5 + (Int.toNat 0 * 3 + 2), none⟩)) rfl (fun _ => by kernel_rfl)) rfl (o_on rfl rfl (o_load_s (ds := [.slice 3 (((at_ v_2.1 0).Kids).map eTree)]) (xs := v_2.1) (enc := eTree) ty31 rfl (.r 2 _ rfl) h10 (by simp only [eTree_eq] <;> rfl) rfl rfl rfl rfl rfl fun sa11 sn11 sc11 => o_on rfl rfl (o_v (v_lenS (enc := eTree) ((at_ v_2.1 0).Kids) sl31 rfl (.f 0 rfl)) rfl (o_on rfl rfl (o_v (v_bin rfl rfl rfl) rfl (o_v (v_pick_t rfl rfl) rfl (o_v (v_move rfl) rfl ?_))))))))))))
 refine o_split (t := 62) rfl (fun h11 => ?_) (fun h11 => ?_)
 replace hF := ite_t h11 hF
 refine o_on rfl rfl (o_v (v_move rfl) rfl (o_on rfl rfl (o_v (v_indexAddr_s (xs := v_2.1) (enc := eTree) sl31 rfl rfl (.r 2 _ rfl) h10) rfl (o_on rfl rfl (o_v (v_fieldAddr (v := .pointer (some ⟨blkA sa5, offA sa5 + (Int.toNat 0 * 3 + 2), none⟩)) rfl (fun _ => by kernel_rfl)) rfl (o_on rfl rfl (o_load_s (ds := [.slice 3 (((at_ v_2.1 0).Kids).map eTree)]) (xs := v_2.1) (enc := eTree) ty31 rfl (.r 2 _ rfl) h10 (by simp only [eTree_eq] <;> rfl) rfl rfl rfl rfl rfl fun sa12 sn12 sc12 => o_on rfl rfl (ite_some hF fun h12 hF => o_v (v_indexAddr_s (xs := (at_ v_2.1 0).Kids) (enc := eTree) sl31 rfl rfl (.f 0 rfl) h12) rfl (o_on rfl rfl (o_v (v_fieldAddr (v := .pointer (some ⟨blkA sa12, offA sa12 + (Int.toNat 0 * 3 + 0), none⟩)) rfl (fun _ => by kernel_rfl)) rfl (o_on rfl rfl (o_v (v_load_s (ds := [.int .i64 ((at_ ((at_ v_2.1 0).Kids) 0).Rule)]) (xs := (at_ v_2.1 0).Kids) (enc := eTree) ty3 rfl (.f 0 rfl) h12 (by simp only [eTree_eq] <;> rfl) rfl rfl rfl rfl rfl rfl) rfl (o_on rfl rfl ?_)))))))))))))
 refine o_v (v_bin rfl rfl rfl) rfl (o_v (v_pick_t rfl rfl) rfl (o_v (v_move rfl) rfl ?_))
 refine o_split (t := 72) rfl (fun h13 => ?_) (fun h13 => ?_)
 replace hF := ite_t h13 hF
 refine o_on rfl rfl (o_v (v_move rfl) rfl (o_on rfl rfl (o_v (v_bin rfl rfl rfl) rfl (o_v (v_pick_t rfl rfl) rfl (o_v (v_move rfl) rfl ?_)))))
 refine o_split (t := 76) rfl (fun h14 => ?_) (fun h14 => ?_)
 replace hF := ite_t h14 hF
 refine o_on rfl rfl (o_v (fa 1 rfl) rfl (o_on rfl rfl (o_v (vl 1 ty51 rfl rfl rfl) rfl (o_on rfl rfl (o_v (v_lenS (enc := eFNode) v_3.1.Nodes sl51 rfl (.f 4 rfl)) rfl (o_on rfl rfl (o_v (v_bin rfl rfl rfl) rfl (o_v (v_pick_t rfl rfl) rfl (o_v (v_move rfl) rfl ?_)))))))))
 refine o_split (t := 82) rfl (fun h15 => ?_) (fun h15 => ?_)
 replace hF := ite_t h15 hF
 refine o_on rfl rfl (o_v (v_move rfl) rfl (o_on rfl rfl (o_v (v_bin rfl rfl rfl) rfl (o_v (v_pick_t rfl rfl) rfl (o_v (v_assign rfl) rfl (o_nil ?_))))))
 refine s_st ?_ (hN1 (v_4.2 == 48) hF)
 exact st_le [1] (lea rfl) rfl (subs [4] rfl)
 replace hF := ite_f h15 hF
 refine o_off rfl rfl (by decide) rfl (o_off rfl rfl (by decide) rfl (o_v (v_pick_f rfl rfl) rfl (o_v (v_assign rfl) rfl (o_nil ?_))))
 refine s_st ?_ (hN1 false hF)
 exact st_le [1] (lea rfl) rfl (subs [4] rfl)
 replace hF := ite_f h14 hF
 refine o_off rfl rfl (by decide) rfl (o_off rfl rfl (by decide) rfl (o_off rfl rfl (by decide) rfl (o_off rfl rfl (by decide) rfl (o_v (v_pick_f rfl rfl) rfl (o_v (v_move rfl) rfl (o_off rfl rfl (by decide) rfl (o_off rfl rfl (by decide) rfl (o_v (v_pick_f rfl rfl) rfl (o_v (v_assign rfl) rfl (o_nil ?_))))))))))
 refine s_st ?_ (hN1 false hF)
 exact st_le [1] (lea rfl) rfl (subs [4] rfl)
 replace hF := ite_f h13 hF
 refine o_off rfl rfl (by decide) rfl (o_off rfl rfl (by decide) rfl (o_v (v_pick_f rfl rfl) rfl (o_v (v_move rfl) rfl (o_off rfl rfl (by decide) rfl (o_off rfl rfl (by decide) rfl (o_off rfl rfl (by decide) rfl (o_off rfl rfl (by decide) rfl (o_v (v_pick_f rfl rfl) rfl (o_v (v_move rfl) rfl (o_off rfl rfl (by decide) rfl (o_off rfl rfl (by decide) rfl (o_v (v_pick_f rfl rfl) rfl (o_v (v_assign rfl) rfl (o_nil ?_))))))))))))))
 refine s_st ?_ (hN1 false hF)
 exact st_le [1] (lea rfl) rfl (subs [4] rfl)
 replace hF := ite_f h11 hF
 refine o_off rfl rfl (by decide) rfl (o_off rfl rfl (by decide) rfl (o_off rfl rfl (by decide) rfl (o_off rfl rfl (by decide) rfl (o_off rfl rfl (by decide) rfl (o_off rfl rfl (by decide) rfl (o_off rfl rfl (by decide) rfl (o_off rfl rfl (by decide) rfl (o_v (v_pick_f rfl rfl) rfl (o_v (v_move rfl) rfl (o_off rfl rfl (by decide) rfl (o_off rfl rfl (by decide) rfl (o_v (v_pick_f rfl rfl) rfl (o_v (v_move rfl) rfl (o_off rfl rfl (by decide) rfl (o_off rfl rfl (by decide) rfl ?_)))))))))))))))
 refine o_off rfl rfl (by decide) rfl (o_off rfl rfl (by decide) rfl (o_v (v_pick_f rfl rfl) rfl (o_v (v_move rfl) rfl (o_off rfl rfl (by decide) rfl (o_off rfl rfl (by decide) rfl (o_v (v_pick_f rfl rfl) rfl (o_v (v_assign rfl) rfl (o_nil ?_))))))))
 refine s_st ?_ (hN1 false hF)
 exact st_le [1] (lea rfl) rfl (subs [3] rfl)
 replace hF := ite_f h9 hF
 refine o_off rfl rfl (by decide) rfl (o_off rfl rfl (by decide) rfl (o_off rfl rfl (by decide) rfl (o_off rfl rfl (by decide) rfl (o_off rfl rfl (by decide) rfl (o_off rfl rfl (by decide) rfl (o_v (v_pick_f rfl rfl) rfl (o_v (v_move rfl) rfl (o_off rfl rfl (by decide) rfl (o_off rfl rfl (by decide) rfl (o_off rfl rfl (by decide) rfl (o_off rfl rfl (by decide) rfl (o_off rfl rfl (by decide) rfl (o_off rfl rfl (by decide) rfl (o_off rfl rfl (by decide) rfl (o_off rfl rfl (by decide) rfl ?_)))))))))))))))
 refine o_v (v_pick_f rfl rfl) rfl (o_v (v_move rfl) rfl (o_off rfl rfl (by decide) rfl (o_off rfl rfl (by decide) rfl (o_v (v_pick_f rfl rfl) rfl (o_v (v_move rfl) rfl (o_off rfl rfl (by decide) rfl (o_off rfl rfl (by decide) rfl (o_off rfl rfl (by decide) rfl (o_off rfl rfl (by decide) rfl (o_v (v_pick_f rfl rfl) rfl (o_v (v_move rfl) rfl (o_off rfl rfl (by decide) rfl (o_off rfl rfl (by decide) rfl (o_v (v_pick_f rfl rfl) rfl (o_v (v_assign rfl) rfl ?_)))))))))))))))
 refine o_nil ?_
 refine s_st ?_ (hN1 false hF)
 exact st_le [1] (lea rfl) rfl (subs [2] rfl)
 replace hF := ite_f h8 hF
 refine o_off rfl rfl (by decide) rfl (o_off rfl rfl (by decide) rfl (o_off rfl rfl (by decide) rfl (o_v (v_pick_f rfl rfl) rfl (o_v (v_move rfl) rfl (o_off rfl rfl (by decide) rfl (o_off rfl rfl (by decide) rfl (o_off rfl rfl (by decide) rfl (o_off rfl rfl (by decide) rfl (o_off rfl rfl (by decide) rfl (o_off rfl rfl (by decide) rfl (o_v (v_pick_f rfl rfl) rfl (o_v (v_move rfl) rfl (o_off rfl rfl (by decide) rfl (o_off rfl rfl (by decide) rfl (o_off rfl rfl (by decide) rfl ?_)))))))))))))))
 refine o_off rfl rfl (by decide) rfl (o_off rfl rfl (by decide) rfl (o_off rfl rfl (by decide) rfl (o_off rfl rfl (by decide) rfl (o_off rfl rfl (by decide) rfl (o_v (v_pick_f rfl rfl) rfl (o_v (v_move rfl) rfl (o_off rfl rfl (by decide) rfl (o_off rfl rfl (by decide) rfl (o_v (v_pick_f rfl rfl) rfl (o_v (v_move rfl) rfl (o_off rfl rfl (by decide) rfl (o_off rfl rfl (by decide) rfl (o_off rfl rfl (by decide) rfl (o_off rfl rfl (by decide) rfl (o_v (v_pick_f rfl rfl) rfl ?_)))))))))))))))
 refine o_v (v_move rfl) rfl (o_off rfl rfl (by decide) rfl (o_off rfl rfl (by decide) rfl (o_v (v_pick_f rfl rfl) rfl (o_v (v_assign rfl) rfl (o_nil ?_)))))
 refine s_st ?_ (hN1 false hF)
 exact st_le [1] (lea rfl) rfl (subs [2] rfl)
 replace hF := ite_f h7 hF
 refine o_off rfl rfl (by decide) rfl (o_off rfl rfl (by decide) rfl (o_v (v_pick_f rfl rfl) rfl (o_v (v_move rfl) rfl (o_off rfl rfl (by decide) rfl (o_off rfl rfl (by decide) rfl (o_off rfl rfl (by decide) rfl (o_v (v_pick_f rfl rfl) rfl (o_v (v_move rfl) rfl (o_off rfl rfl (by decide) rfl (o_off rfl rfl (by decide) rfl (o_off rfl rfl (by decide) rfl (o_off rfl rfl (by decide) rfl (o_off rfl rfl (by decide) rfl (o_off rfl rfl (by decide) rfl (o_v (v_pick_f rfl rfl) rfl ?_)))))))))))))))
 refine o_v (v_move rfl) rfl (o_off rfl rfl (by decide) rfl (o_off rfl rfl (by decide) rfl (o_off rfl rfl (by decide) rfl (o_off rfl rfl (by decide) rfl (o_off rfl rfl (by decide) rfl (o_off rfl rfl (by decide) rfl (o_off rfl rfl (by decide) rfl (o_off rfl rfl (by decide) rfl (o_v (v_pick_f rfl rfl) rfl (o_v (v_move rfl) rfl (o_off rfl rfl (by decide) rfl (o_off rfl rfl (by decide) rfl (o_v (v_pick_f rfl rfl) rfl (o_v (v_move rfl) rfl (o_off rfl rfl (by decide) rfl ?_)))))))))))))))
 refine o_off rfl rfl (by decide) rfl (o_off rfl rfl (by decide) rfl (o_off rfl rfl (by decide) rfl (o_v (v_pick_f rfl rfl) rfl (o_v (v_move rfl) rfl (o_off rfl rfl (by decide) rfl (o_off rfl rfl (by decide) rfl (o_v (v_pick_f rfl rfl) rfl (o_v (v_assign rfl) rfl (o_nil ?_)))))))))
 refine s_st ?_ (hN1 false hF)
 exact st_le [1] (lea rfl) rfl (subs [2] rfl)
 replace hF := ite_f h6 hF
 refine o_off rfl rfl (by decide) rfl (o_off rfl rfl (by decide) rfl (o_v (v_pick_f rfl rfl) rfl (o_v (v_move rfl) rfl (o_off rfl rfl (by decide) rfl (o_off rfl rfl (by decide) rfl (o_v (v_pick_f rfl rfl) rfl (o_v (v_move rfl) rfl (o_off rfl rfl (by decide) rfl (o_off rfl rfl (by decide) rfl (o_off rfl rfl (by decide) rfl (o_v (v_pick_f rfl rfl) rfl (o_v (v_move rfl) rfl (o_off rfl rfl (by decide) rfl (o_off rfl rfl (by decide) rfl (o_off rfl rfl (by decide) rfl ?_)))))))))))))))
 refine o_off rfl rfl (by decide) rfl (o_off rfl rfl (by decide) rfl (o_off rfl rfl (by decide) rfl (o_v (v_pick_f rfl rfl) rfl (o_v (v_move rfl) rfl (o_off rfl rfl (by decide) rfl (o_off rfl rfl (by decide) rfl (o_off rfl rfl (by decide) rfl (o_off rfl rfl (by decide) rfl (o_off rfl rfl (by decide) rfl (o_off rfl rfl (by decide) rfl (o_off rfl rfl (by decide) rfl (o_off rfl rfl (by decide) rfl (o_v (v_pick_f rfl rfl) rfl (o_v (v_move rfl) rfl (o_off rfl rfl (by decide) rfl ?_)))))))))))))))
 refine o_off rfl rfl (by decide) rfl (o_v (v_pick_f rfl rfl) rfl (o_v (v_move rfl) rfl (o_off rfl rfl (by decide) rfl (o_off rfl rfl (by decide) rfl (o_off rfl rfl (by decide) rfl (o_off rfl rfl (by decide) rfl (o_v (v_pick_f rfl rfl) rfl (o_v (v_move rfl) rfl (o_off rfl rfl (by decide) rfl (o_off rfl rfl (by decide) rfl (o_v (v_pick_f rfl rfl) rfl (o_v (v_assign rfl) rfl (o_nil ?_)))))))))))))
 refine s_st ?_ (hN1 false hF)
 exact st_le [1] (lea rfl) rfl (subs [2] rfl)
 intro t0 hF
 unfold F.law08.alive_j1 at hF
 refine sat_wc (c_ret ?_)
 cases hF
 refine s_ret1 rfl (r_tmp rfl) fun a w hs => fin_sel hs [] ⟨rfl, rfl, rfl⟩ rfl sub_nil
theorem tri75 {k : Nat} {g_ : Gram} {sa1 : Option Addr} {sn1 sc1 : Nat} {r : Int} (hF : F.ref06.Right k g_ = some r) :
  Tri Try.prog 75 [.agg #[.int .i64 g_.Nts, .int .i64 g_.Start, .slice sa1 sn1 sc1]] [] [(.slice sa1 sn1 sc1, .slice 2 (g_.Rules.map eRule))] (fun o H Φ => o = .ret (.int .i64 r) /\ H = [] /\ Φ = []) := by
 unfold F.ref06.Right at hF
 refine tri_intro (n := 94) Try.func75 rfl Try.ntmps75 rfl fun w X => c_seq (c_region (o_box rfl rfl rfl fun b => o_v (v_assign rfl) rfl (o_seq (c_seq (c_seq ?_)))))
 refine cT (fun E H Φ N' => ∀ (t32 : Bool), F.ref06.Right_j1 k g_ t32 = some r -> Sat E [(0, .agg #[.int .i64 g_.Nts, .int .i64 g_.Start, .slice sa1 sn1 sc1]), (1, .pointer (some ⟨b, 0, none⟩)), (2, .int .i64 0), (32, .bool t32)] H Φ N') (fun N4 hN4 => ?_) ?_
 refine c_region (o_v (fa 0 rfl) rfl (o_v (vl 0 ty3 rfl rfl rfl) rfl (o_v (v_bin rfl rfl rfl) rfl (o_v (v_move rfl) rfl ?_))))
 refine o_split (t := 10) rfl (fun h13 => ?_) (fun h13 => ?_)
 replace hF := ite_t h13 hF
 refine o_off rfl rfl (by decide) rfl (o_off rfl rfl (by decide) rfl (o_off rfl rfl (by decide) rfl (o_v (v_pick_t rfl rfl) rfl (o_v (v_move rfl) rfl (o_off rfl rfl (by decide) rfl (o_off rfl rfl (by decide) rfl (o_off rfl rfl (by decide) rfl (o_v (v_pick_t rfl rfl) rfl (o_v (v_move rfl) rfl (o_off rfl rfl (by decide) rfl (o_off rfl rfl (by decide) rfl (o_off rfl rfl (by decide) rfl (o_off rfl rfl (by decide) rfl (o_off rfl rfl (by decide) rfl (o_v (v_pick_t rfl rfl) rfl ?_)))))))))))))))
 refine o_v (v_move rfl) rfl (o_off rfl rfl (by decide) rfl (o_off rfl rfl (by decide) rfl (o_off rfl rfl (by decide) rfl (o_off rfl rfl (by decide) rfl (o_v (v_pick_t rfl rfl) rfl (o_nil ?_))))))
 refine s_st ?_ (hN4 true hF)
 exact st_le [0] (lea rfl) rfl (subs [0] rfl)
 replace hF := ite_f h13 hF
 refine o_on rfl rfl (o_v (fa 0 rfl) rfl (o_on rfl rfl (o_v (vl 0 ty3 rfl rfl rfl) rfl (o_on rfl rfl (o_v (v_bin rfl rfl rfl) rfl (o_v (v_pick_f rfl rfl) rfl (o_v (v_move rfl) rfl ?_)))))))
 refine o_split (t := 15) rfl (fun h14 => ?_) (fun h14 => ?_)
 replace hF := ite_t h14 hF
 refine o_off rfl rfl (by decide) rfl (o_off rfl rfl (by decide) rfl (o_off rfl rfl (by decide) rfl (o_v (v_pick_t rfl rfl) rfl (o_v (v_move rfl) rfl (o_off rfl rfl (by decide) rfl (o_off rfl rfl (by decide) rfl (o_off rfl rfl (by decide) rfl (o_off rfl rfl (by decide) rfl (o_off rfl rfl (by decide) rfl (o_v (v_pick_t rfl rfl) rfl (o_v (v_move rfl) rfl (o_off rfl rfl (by decide) rfl (o_off rfl rfl (by decide) rfl (o_off rfl rfl (by decide) rfl (o_off rfl rfl (by decide) rfl ?_)))))))))))))))
 refine o_v (v_pick_t rfl rfl) rfl (o_nil ?_)
 refine s_st ?_ (hN4 true hF)
 exact st_le [0] (lea rfl) rfl (subs [0] rfl)
 replace hF := ite_f h14 hF
 refine o_on rfl rfl (o_v (fa 1 rfl) rfl (o_on rfl rfl (o_v (vl 0 ty3 rfl rfl rfl) rfl (o_on rfl rfl (o_v (v_bin rfl rfl rfl) rfl (o_v (v_pick_f rfl rfl) rfl (o_v (v_move rfl) rfl ?_)))))))
 refine o_split (t := 20) rfl (fun h15 => ?_) (fun h15 => ?_)
 replace hF := ite_t h15 hF
 refine o_off rfl rfl (by decide) rfl (o_off rfl rfl (by decide) rfl (o_off rfl rfl (by decide) rfl (o_off rfl rfl (by decide) rfl (o_off rfl rfl (by decide) rfl (o_v (v_pick_t rfl rfl) rfl (o_v (v_move rfl) rfl (o_off rfl rfl (by decide) rfl (o_off rfl rfl (by decide) rfl (o_off rfl rfl (by decide) rfl (o_off rfl rfl (by decide) rfl (o_v (v_pick_t rfl rfl) rfl (o_nil ?_))))))))))))
 refine s_st ?_ (hN4 true hF)
 exact st_le [0] (lea rfl) rfl (subs [0] rfl)
 replace hF := ite_f h15 hF
 refine o_on rfl rfl (o_v (fa 1 rfl) rfl (o_on rfl rfl (o_v (vl 0 ty3 rfl rfl rfl) rfl (o_on rfl rfl (o_v (fa 0 rfl) rfl (o_on rfl rfl (o_v (vl 0 ty3 rfl rfl rfl) rfl (o_on rfl rfl (o_v (v_bin rfl rfl rfl) rfl (o_v (v_pick_f rfl rfl) rfl (o_v (v_move rfl) rfl ?_)))))))))))
 refine o_split (t := 27) rfl (fun h16 => ?_) (fun h16 => ?_)
 replace hF := ite_t h16 hF
 refine o_off rfl rfl (by decide) rfl (o_off rfl rfl (by decide) rfl (o_off rfl rfl (by decide) rfl (o_off rfl rfl (by decide) rfl (o_v (v_pick_t rfl rfl) rfl (o_nil ?_)))))
 refine s_st ?_ (hN4 true hF)
 exact st_le [0] (lea rfl) rfl (subs [0] rfl)
 replace hF := ite_f h16 hF
 refine o_on rfl rfl (o_v (fa 2 rfl) rfl (o_on rfl rfl (o_v (vl 0 ty22 rfl rfl rfl) rfl (o_on rfl rfl (o_v (v_lenS (enc := eRule) g_.Rules sl22 rfl (.f 0 rfl)) rfl (o_on rfl rfl (o_v (v_bin rfl rfl rfl) rfl (o_v (v_pick_f rfl rfl) rfl (o_nil ?_)))))))))
 refine s_st ?_ (hN4 (decide (8192 < (g_.Rules.length : Int))) hF)
 exact st_le [0] (lea rfl) rfl (subs [0] rfl)
 intro t32 hF
 unfold F.ref06.Right_j1 at hF
 refine sat_wc ?_
 refine c_cond rfl (fun h1 => ?_) (fun h1 => ?_)
 replace hF := ite_t h1 hF
 refine c_seq (c_region (o_v (v_assign rfl) rfl (o_seq (c_ret ?_))))
 cases hF
 refine s_ret1 rfl (r_tmp rfl) fun a w hs => fin_sel hs [] ⟨rfl, rfl, rfl⟩ rfl sub_nil
 replace hF := ite_f h1 hF
 refine c_skip (sat_wc (c_seq (c_seq (c_region (o_v (v_assign rfl) rfl (o_seq ?_))))))
 obtain ⟨o2, ho2, hF⟩ := bd hF
 refine cT (fun E H Φ N' => ∀ (d2 : Unit), o2 = .done d2 -> Sat E [(0, .agg #[.int .i64 g_.Nts, .int .i64 g_.Start, .slice sa1 sn1 sc1]), (1, .pointer (some ⟨b, 0, none⟩)), (2, .int .i64 0)] H Φ N') (fun N2 hN2 => ?_) ?_
 refine c_block ?_
 refine cL (fun E H Φ j a w => ∃ (i : Int), F.ref06.Right_l2 k g_ j i = some o2 /\ St E [(0, .agg #[.int .i64 g_.Nts, .int .i64 g_.Start, .slice sa1 sn1 sc1]), (1, .pointer (some ⟨b, 0, none⟩)), (2, .int .i64 0), (3, .int .i64 i)] H Φ a w) k ?_ ?_
 intro a w hs
 exact ⟨0, ho2, st_le [0] (lea rfl) rfl (subs [0] rfl) a w hs⟩
 rintro j a w ⟨i, hL2, hs⟩
 rcases j with _ | j
 cases hL2
 refine wc_app hs ?_
 unfold F.ref06.Right_l2 at hL2
 refine c_seq (c_seq (c_region (o_v (v_move rfl) rfl (o_v (fa 2 rfl) rfl (o_v (vl 0 ty22 rfl rfl rfl) rfl (o_v (v_lenS (enc := eRule) g_.Rules sl22 rfl (.f 0 rfl)) rfl (o_v (v_bin rfl rfl rfl) rfl (o_seq ?_))))))))
 refine c_cond rfl (fun h2 => ?_) (fun h2 => ?_)
 replace hL2 := ite_t h2 hL2
 refine c_skip (sat_wc (c_seq (c_block (c_seq (c_region (o_v (fa 2 rfl) rfl (o_v (vl 0 ty22 rfl rfl rfl) rfl (o_v (v_move rfl) rfl (ite_some hL2 fun h3 hL2 => o_v (v_indexAddr_s (xs := g_.Rules) (enc := eRule) sl22 rfl rfl (.f 0 rfl) h3) rfl (o_load_s (xs := g_.Rules) (enc := eRule) ty50 rfl (.f 0 rfl) h3 rfl rfl rfl rfl rfl rfl fun sa2 sn2 sc2 => o_alloc zero50 rfl rfl fun b1 => o_store_box 0 rfl ty50 rfl rfl rfl rfl rfl rfl rfl (o_seq (c_seq ?_))))))))))))
 refine c_seq (c_region (o_v (fa 0 rfl) rfl (o_v (vl 0 ty3 rfl rfl rfl) rfl (o_v (v_bin rfl rfl rfl) rfl (o_v (v_move rfl) rfl ?_)))))
 refine o_split (t := 48) rfl (fun h4 => ?_) (fun h4 => ?_)
 replace hL2 := ite_t h4 hL2
 refine o_off rfl rfl (by decide) rfl (o_off rfl rfl (by decide) rfl (o_off rfl rfl (by decide) rfl (o_off rfl rfl (by decide) rfl (o_off rfl rfl (by decide) rfl (o_v (v_pick_t rfl rfl) rfl (o_v (v_move rfl) rfl (o_off rfl rfl (by decide) rfl (o_off rfl rfl (by decide) rfl (o_off rfl rfl (by decide) rfl (o_off rfl rfl (by decide) rfl (o_v (v_pick_t rfl rfl) rfl (o_seq ?_))))))))))))
 refine c_cond rfl (fun _ => ?_) (fun h => Bool.noConfusion h)
 refine c_seq (c_region (o_v (v_assign rfl) rfl (o_seq (c_ret ?_))))
 cases hL2
 obtain rfl := lrf_ret hF
 refine s_ret1 rfl (r_tmp rfl) fun a w hs => fin_sel hs [] ⟨rfl, rfl, rfl⟩ rfl sub_nil
 replace hL2 := ite_f h4 hL2
 refine o_on rfl rfl (o_v (fa 0 rfl) rfl (o_on rfl rfl (o_v (vl 0 ty3 rfl rfl rfl) rfl (o_on rfl rfl (o_v (fa 0 rfl) rfl (o_on rfl rfl (o_v (vl 1 ty3 rfl rfl rfl) rfl (o_on rfl rfl (o_v (v_bin rfl rfl rfl) rfl (o_v (v_pick_f rfl rfl) rfl (o_v (v_move rfl) rfl ?_)))))))))))
 refine o_split (t := 55) rfl (fun h5 => ?_) (fun h5 => ?_)
 replace hL2 := ite_t h5 hL2
 refine o_off rfl rfl (by decide) rfl (o_off rfl rfl (by decide) rfl (o_off rfl rfl (by decide) rfl (o_off rfl rfl (by decide) rfl (o_v (v_pick_t rfl rfl) rfl (o_seq ?_)))))
 refine c_cond rfl (fun _ => ?_) (fun h => Bool.noConfusion h)
 refine c_seq (c_region (o_v (v_assign rfl) rfl (o_seq (c_ret ?_))))
 cases hL2
 obtain rfl := lrf_ret hF
 refine s_ret1 rfl (r_tmp rfl) fun a w hs => fin_sel hs [] ⟨rfl, rfl, rfl⟩ rfl sub_nil
 replace hL2 := ite_f h5 hL2
 refine o_on rfl rfl (o_v (fa 1 rfl) rfl (o_on rfl rfl (o_v (vl 0 ty48 rfl rfl rfl) rfl (o_on rfl rfl (o_v (v_lenS (enc := eKSym) ((at_ g_.Rules i).Rhs) sl48 rfl (.f 0 rfl)) rfl (o_on rfl rfl (o_v (v_bin rfl rfl rfl) rfl (o_v (v_pick_f rfl rfl) rfl (o_seq ?_)))))))))
 refine c_cond rfl (fun h6 => ?_) (fun h6 => ?_)
 replace hL2 := ite_t h6 hL2
 refine c_seq (c_region (o_v (v_assign rfl) rfl (o_seq (c_ret ?_))))
 cases hL2
 obtain rfl := lrf_ret hF
 refine s_ret1 rfl (r_tmp rfl) fun a w hs => fin_sel hs [] ⟨rfl, rfl, rfl⟩ rfl sub_nil
 replace hL2 := ite_f h6 hL2
 refine c_skip (sat_wc (c_seq (c_region (o_v (v_assign rfl) rfl (o_seq ?_)))))
 obtain ⟨o3, ho3, hL2⟩ := bd hL2
 refine cT (fun E H Φ N' => ∀ (d3 : Int), o3 = .done d3 -> Sat E [(0, .agg #[.int .i64 g_.Nts, .int .i64 g_.Start, .slice sa1 sn1 sc1]), (1, .pointer (some ⟨b, 0, none⟩)), (2, .int .i64 0), (3, .int .i64 i), (4, .pointer (some ⟨b1, 0, none⟩)), (5, .int .i64 d3)] H [(.slice sa1 sn1 sc1, .slice 2 (g_.Rules.map eRule)), (.slice sa2 sn2 sc2, .slice 5 (((at_ g_.Rules i).Rhs).map eKSym))] N') (fun N3 hN3 => ?_) ?_
 refine c_block ?_
 refine cL (fun E H Φ j a w => ∃ (k_ : Int), F.ref06.Right_l3 g_ i j k_ = some o3 /\ St E [(0, .agg #[.int .i64 g_.Nts, .int .i64 g_.Start, .slice sa1 sn1 sc1]), (1, .pointer (some ⟨b, 0, none⟩)), (2, .int .i64 0), (3, .int .i64 i), (4, .pointer (some ⟨b1, 0, none⟩)), (5, .int .i64 k_)] H [(.slice sa1 sn1 sc1, .slice 2 (g_.Rules.map eRule)), (.slice sa2 sn2 sc2, .slice 5 (((at_ g_.Rules i).Rhs).map eKSym))] a w) k ?_ ?_
 intro a w hs
 exact ⟨0, ho3, st_le [0, 0] (lea rfl) rfl (subs [1, 0] rfl) a w hs⟩
 rintro j a w ⟨k_, hL3, hs⟩
 rcases j with _ | j
 cases hL3
 refine wc_app hs ?_
 unfold F.ref06.Right_l3 at hL3
 refine c_seq (c_seq (c_region (o_v (v_move rfl) rfl (o_v (fa 1 rfl) rfl (o_v (vl 0 ty48 rfl rfl rfl) rfl (o_v (v_lenS (enc := eKSym) ((at_ g_.Rules i).Rhs) sl48 rfl (.f 1 rfl)) rfl (o_v (v_bin rfl rfl rfl) rfl (o_seq ?_))))))))
 refine c_cond rfl (fun h7 => ?_) (fun h7 => ?_)
 replace hL3 := ite_t h7 hL3
 refine c_skip (sat_wc (c_seq (c_block (c_seq (c_region (o_v (fa 1 rfl) rfl (o_v (vl 0 ty48 rfl rfl rfl) rfl (o_v (v_move rfl) rfl (ite_some hL3 fun h8 hL3 => o_v (v_indexAddr_s (xs := (at_ g_.Rules i).Rhs) (enc := eKSym) sl48 rfl rfl (.f 1 rfl) h8) rfl (o_v (v_load_s (xs := (at_ g_.Rules i).Rhs) (enc := eKSym) ty47 rfl (.f 1 rfl) h8 rfl rfl rfl rfl rfl rfl rfl) rfl (o_alloc zero47 rfl rfl fun b2 => o_store_box 0 rfl ty47 rfl rfl rfl rfl rfl rfl rfl (o_seq (c_seq ?_)))))))))))))
 refine cT (fun E H Φ N' => ∀ (t93 : Bool), F.ref06.Right_j4 (F.ref06.Right_l3 g_ i j) k_ t93 = some o3 -> Sat E [(0, .agg #[.int .i64 g_.Nts, .int .i64 g_.Start, .slice sa1 sn1 sc1]), (1, .pointer (some ⟨b, 0, none⟩)), (2, .int .i64 0), (3, .int .i64 i), (4, .pointer (some ⟨b1, 0, none⟩)), (5, .int .i64 k_), (6, .pointer (some ⟨b2, 0, none⟩)), (93, .bool t93)] H Φ N') (fun N4 hN4 => ?_) ?_
 refine c_region (o_v (fa 0 rfl) rfl (o_v (vl 0 ty3 rfl rfl rfl) rfl (o_v (v_bin rfl rfl rfl) rfl (o_v (v_move rfl) rfl ?_))))
 refine o_split (t := 76) rfl (fun h10 => ?_) (fun h10 => ?_)
 replace hL3 := ite_t h10 hL3
 refine o_on rfl rfl (o_v (fa 0 rfl) rfl (o_on rfl rfl (o_v (vl 0 ty3 rfl rfl rfl) rfl (o_on rfl rfl (o_v (v_bin rfl rfl rfl) rfl (o_on rfl rfl (o_v (v_move rfl) rfl ?_)))))))
 refine o_split (t := 80) rfl (fun h11 => ?_) (fun h11 => ?_)
 replace hL3 := ite_t h11 hL3
 refine o_off rfl rfl (by decide) rfl (o_off rfl rfl (by decide) rfl (o_off rfl rfl (by decide) rfl (o_off rfl rfl (by decide) rfl (o_off rfl rfl (by decide) rfl (o_on rfl rfl (o_v (v_pick_t rfl rfl) rfl (o_on rfl rfl (o_v (v_move rfl) rfl (o_off rfl rfl (by decide) rfl (o_off rfl rfl (by decide) rfl (o_off rfl rfl (by decide) rfl (o_off rfl rfl (by decide) rfl (o_on rfl rfl (o_v (v_pick_t rfl rfl) rfl (o_v (v_pick_t rfl rfl) rfl ?_)))))))))))))))
 refine o_nil ?_
 refine s_st ?_ (hN4 true hL3)
 exact st_le [0, 0, 0] (lea rfl) rfl (subs [0, 1] rfl)
 replace hL3 := ite_f h11 hL3
 refine o_on rfl rfl (o_v (fa 0 rfl) rfl (o_on rfl rfl (o_v (vl 0 ty3 rfl rfl rfl) rfl (o_on rfl rfl (o_v (fa 0 rfl) rfl (o_on rfl rfl (o_v (vl 2 ty3 rfl rfl rfl) rfl (o_on rfl rfl (o_v (v_bin rfl rfl rfl) rfl (o_on rfl rfl (o_v (v_pick_f rfl rfl) rfl (o_on rfl rfl (o_v (v_move rfl) rfl ?_)))))))))))))
 refine o_split (t := 87) rfl (fun h12 => ?_) (fun h12 => ?_)
 replace hL3 := ite_t h12 hL3
 refine o_off rfl rfl (by decide) rfl (o_off rfl rfl (by decide) rfl (o_off rfl rfl (by decide) rfl (o_off rfl rfl (by decide) rfl (o_on rfl rfl (o_v (v_pick_t rfl rfl) rfl (o_v (v_pick_t rfl rfl) rfl (o_nil ?_)))))))
 refine s_st ?_ (hN4 true hL3)
 exact st_le [0, 0, 0] (lea rfl) rfl (subs [0, 1] rfl)
 replace hL3 := ite_f h12 hL3
 refine o_on rfl rfl (o_v (fa 1 rfl) rfl (o_on rfl rfl (o_v (vl 0 ty45 rfl rfl rfl) rfl (o_on rfl rfl (o_v (v_build (v := .agg #[.int .u64 0, .int .u64 0, .int .u64 0, .int .u64 0]) rfl (fun _ => by kernel_rfl)) rfl (o_on rfl rfl (o_v (v_agne 2 rfl rfl (eq45 ((at_ ((at_ g_.Rules i).Rhs) k_).Set.w0) ((at_ ((at_ g_.Rules i).Rhs) k_).Set.w1) ((at_ ((at_ g_.Rules i).Rhs) k_).Set.w2) ((at_ ((at_ g_.Rules i).Rhs) k_).Set.w3) 0 0 0 0) rfl guard45) rfl (o_on rfl rfl (o_v (v_pick_f rfl rfl) rfl (o_v (v_pick_t rfl rfl) rfl (o_nil ?_)))))))))))
 refine s_st ?_ (hN4 (!(S4.eq (S4.mk ((at_ ((at_ g_.Rules i).Rhs) k_).Set.w0) ((at_ ((at_ g_.Rules i).Rhs) k_).Set.w1) ((at_ ((at_ g_.Rules i).Rhs) k_).Set.w2) ((at_ ((at_ g_.Rules i).Rhs) k_).Set.w3)) (S4.mk 0 0 0 0))) hL3)
 exact st_le [0, 0, 0] (lea rfl) rfl (subs [0, 1] rfl)
 replace hL3 := ite_f h10 hL3
 refine o_off rfl rfl (by decide) rfl (o_off rfl rfl (by decide) rfl (o_off rfl rfl (by decide) rfl (o_off rfl rfl (by decide) rfl (o_offU rfl rfl rfl (o_offU rfl rfl rfl (o_offU rfl rfl rfl (o_offU rfl rfl rfl (o_offU rfl rfl rfl (o_off rfl rfl (by decide) rfl (o_off rfl rfl (by decide) rfl (o_offU rfl rfl rfl (o_offU rfl rfl rfl (o_offU rfl rfl rfl (o_offU rfl rfl rfl (o_off rfl rfl (by decide) rfl ?_)))))))))))))))
 refine o_v (v_pick_f rfl rfl) rfl (o_nil ?_)
 refine s_st ?_ (hN4 false hL3)
 exact st_le [0, 0, 0] (lea rfl) rfl (subs [0, 1] rfl)
 intro t93 hL3
 unfold F.ref06.Right_j4 at hL3
 refine sat_wc ?_
 refine c_cond rfl (fun h9 => ?_) (fun h9 => ?_)
 replace hL3 := ite_t h9 hL3
 refine c_seq (c_region (o_v (v_assign rfl) rfl (o_seq (c_ret ?_))))
 cases hL3
 obtain rfl := lr_ret hL2
 obtain rfl := lrf_ret hF
 refine s_ret1 rfl (r_tmp rfl) fun a w hs => fin_sel hs [] ⟨rfl, rfl, rfl⟩ rfl sub_nil
 replace hL3 := ite_f h9 hL3
 refine c_skip (sat_wc (c_region (o_v (v_move rfl) rfl (o_v (v_bin rfl rfl rfl) rfl (o_v (v_assign rfl) rfl (o_nil ?_))))))
 intro a w hs
 exact ⟨j, Nat.lt_succ_self j, IntKind.wrap .i64 (k_ + 1), hL3, st_le [1, 1] (lea rfl) rfl (subs [0, 1] rfl) a w hs⟩
 replace hL3 := ite_f h7 hL3
 refine c_exit0 ?_
 cases hL3
 refine s_st ?_ (hN3 k_ rfl)
 exact st_le [0, 0] (lea rfl) rfl (subs [0, 1] rfl)
 intro d3 hd
 subst hd
 replace hL2 := lr_done hL2
 refine sat_wc (c_region (o_v (v_move rfl) rfl (o_v (v_bin rfl rfl rfl) rfl (o_v (v_assign rfl) rfl (o_nil ?_)))))
 intro a w hs
 exact ⟨j, Nat.lt_succ_self j, IntKind.wrap .i64 (i + 1), hL2, st_le [1] (lea rfl) rfl (subs [0] rfl) a w hs⟩
 replace hL2 := ite_f h2 hL2
 refine c_exit0 ?_
 cases hL2
 refine s_st ?_ (hN2 () rfl)
 exact st_le [0] (lea rfl) rfl (subs [0] rfl)
 intro d2 hd
 subst hd
 replace hF := lrf_done hF
 refine sat_wc (c_seq (c_region (o_v (v_assign rfl) rfl (o_seq (c_ret ?_)))))
 cases hF
 refine s_ret1 rfl (r_tmp rfl) fun a w hs => fin_sel hs [] ⟨rfl, rfl, rfl⟩ rfl sub_nil
theorem tri56 {k : Nat} {g_ : Gram} {w__ : List Int} {sa1 : Option Addr} {sn1 sc1 : Nat} {sa2 : Option Addr} {sn2 sc2 : Nat} {r : Int} (hF : F.ref07.Fit k g_ w__ = some r) :
  Tri Try.prog 56 [.agg #[.int .i64 g_.Nts, .int .i64 g_.Start, .slice sa1 sn1 sc1], .slice sa2 sn2 sc2] [] [(.slice sa1 sn1 sc1, .slice 2 (g_.Rules.map eRule)), (.slice sa2 sn2 sc2, .slice 1 (w__.map eU8))] (fun o H Φ => o = .ret (.int .i64 r) /\ H = [] /\ Φ = []) := by
 unfold F.ref07.Fit at hF
 refine tri_intro (n := 16) Try.func56 rfl Try.ntmps56 rfl fun w X => c_seq (c_region (o_box rfl rfl rfl fun b => o_v (v_assign rfl) rfl (o_seq (c_seq (c_region (o_v (vl 0 ty24 rfl rfl rfl) rfl ?_))))))
 obtain ⟨v_, h1, hF⟩ := bd hF
 refine o_callSB call75 rfl (lent_f 0 rfl lent_nil) (tri75 h1 :) rfl (o_v (v_assign rfl) rfl (o_seq (c_seq (c_seq ?_))))
 refine cT (fun E H Φ N' => ∀ (t14 : Bool), F.ref07.Fit_j1 v_ t14 = some r -> Sat E [(0, .agg #[.int .i64 g_.Nts, .int .i64 g_.Start, .slice sa1 sn1 sc1]), (2, .pointer (some ⟨b, 0, none⟩)), (4, .int .i64 0), (5, .int .i64 v_), (14, .bool t14)] H [(.slice sa1 sn1 sc1, .slice 2 (g_.Rules.map eRule))] N') (fun N1 hN1 => ?_) ?_
 refine c_region (o_v (v_move rfl) rfl (o_v (v_bin rfl rfl rfl) rfl (o_v (v_move rfl) rfl ?_)))
 refine o_split (t := 10) rfl (fun h3 => ?_) (fun h3 => ?_)
 replace hF := ite_t h3 hF
 refine o_on rfl rfl (o_v (v_move rfl) rfl (o_on rfl rfl (o_v (v_lenS (enc := eU8) w__ sl25 rfl (.f 1 rfl)) rfl (o_on rfl rfl (o_v (v_bin rfl rfl rfl) rfl (o_v (v_pick_t rfl rfl) rfl (o_nil ?_)))))))
 refine s_st ?_ (hN1 (decide (512 < (w__.length : Int))) hF)
 exact st_le [0] (lea rfl) rfl (subs [0] rfl)
 replace hF := ite_f h3 hF
 refine o_off rfl rfl (by decide) rfl (o_off rfl rfl (by decide) rfl (o_off rfl rfl (by decide) rfl (o_v (v_pick_f rfl rfl) rfl (o_nil ?_))))
 refine s_st ?_ (hN1 false hF)
 exact st_le [0] (lea rfl) rfl (subs [0] rfl)
 intro t14 hF
 unfold F.ref07.Fit_j1 at hF
 refine sat_wc ?_
 refine c_cond rfl (fun h2 => ?_) (fun h2 => ?_)
 replace hF := ite_t h2 hF
 refine c_seq (c_region (o_v (v_assign rfl) rfl (o_seq (c_ret ?_))))
 cases hF
 refine s_ret1 rfl (r_tmp rfl) fun a w hs => fin_sel hs [] ⟨rfl, rfl, rfl⟩ rfl sub_nil
 replace hF := ite_f h2 hF
 refine c_skip (sat_wc (c_seq (c_region (o_v (v_move rfl) rfl (o_v (v_assign rfl) rfl (o_seq (c_ret ?_)))))))
 cases hF
 refine s_ret1 rfl (r_tmp rfl) fun a w hs => fin_sel hs [] ⟨rfl, rfl, rfl⟩ rfl sub_nil
theorem tri77 {k : Nat} {n : Int} {r : List Bool} (hF : F.ref06.none_ k n = some r) :
  Tri Try.prog 77 [.int .i64 n] [] [] (fun o H Φ => ∃ (sa5 : Option Addr) (sn5 sc5 : Nat), o = .ret (.slice sa5 sn5 sc5) /\ H = [.row (.slice sa5 sn5 sc5) 4 1 (r.map eB)] /\ Φ = []) := by
 unfold F.ref06.none_ at hF
 refine tri_intro (n := 14) Try.func77 rfl Try.ntmps77 rfl fun w X => c_seq (c_region (o_v (v_assign rfl) rfl (o_seq (c_seq (c_region (o_v (v_assign rfl) rfl (o_seq (c_seq (c_seq (c_region (o_v (v_assign rfl) rfl (o_seq ?_))))))))))))
 obtain ⟨o1, ho1, hF⟩ := bd hF
 refine c_cut (fun E N' => ∀ (sa2 : Option Addr) (sn2 sc2 : Nat), Sat E [(2, .slice none 0 0), (3, .slice sa2 sn2 sc2)] [.row (.slice sa2 sn2 sc2) 4 1 (o1.map eB)] [] N') (fun N1 hN1 => ?_) ?_
 refine c_block ?_
 refine c_loopE (fun E j a w => ∃ (out : List Bool) (i : Int) (sa1 : Option Addr) (sn1 sc1 : Nat), F.ref06.none__l1 n j out i = some o1 /\ St E [(0, .int .i64 n), (2, .slice none 0 0), (3, .slice sa1 sn1 sc1), (4, .int .i64 i)] [.row (.slice sa1 sn1 sc1) 4 1 (out.map eB)] [] a w) k ?_ ?_
 refine s_st (st_nilrow 4 1) ?_
 intro a w hs
 exact ⟨([] : List Bool), 0, none, 0, 0, ho1, st_le [0] (lea rfl) rfl sub_nil a w hs⟩
 rintro j a w ⟨out, i, sa1, sn1, sc1, hL1, hs⟩
 rcases j with _ | j
 cases hL1
 refine wc_app hs ?_
 unfold F.ref06.none__l1 at hL1
 refine c_seq (c_seq (c_region (o_v (v_move rfl) rfl (o_v (v_move rfl) rfl (o_v (v_bin rfl rfl rfl) rfl (o_seq ?_))))))
 refine c_cond rfl (fun h1 => ?_) (fun h1 => ?_)
 replace hL1 := ite_t h1 hL1
 refine c_skip (sat_wc (c_seq (c_block (c_region (o_v (v_move rfl) rfl (o_buildSlice (enc := eB) ([false] : List Bool) [.bool false] sl79 rfl (fun _ => by kernel_rfl) rfl rfl rfl (.s rfl (.nil)) rfl fun sa3 sn3 sc3 => ite_some hL1 fun h2 hL1 => ite_some hL1 fun h3 hL1 => o_append (enc := eB) (xs := out) (ys := ([false] : List Bool)) 1 sl79 rfl rfl rfl (.r 0 _ rfl) h2 h3 rfl fun sa4 sn4 sc4 => o_v (v_assign rfl) rfl (o_nil (sat_wc (c_region (o_v (v_move rfl) rfl (o_v (v_bin rfl rfl rfl) rfl ?_)))))))))))
 refine o_v (v_assign rfl) rfl (o_nil ?_)
 intro a w hs
 exact ⟨j, Nat.lt_succ_self j, (out ++ ([false] : List Bool)), IntKind.wrap .i64 (i + 1), sa4, sn4, sc4, hL1, st_le [1] (lea rfl) rfl sub_nil a w hs⟩
 replace hL1 := ite_f h1 hL1
 refine c_exit0 ?_
 cases hL1
 refine s_st ?_ (hN1 sa1 sn1 sc1)
 exact st_le [0] (lea rfl) rfl sub_nil
 intro sa2 sn2 sc2
 refine sat_wc (c_seq (c_region (o_v (v_move rfl) rfl (o_v (v_assign rfl) rfl (o_seq (c_ret ?_))))))
 cases hF
 refine s_ret1 rfl (r_tmp rfl) fun a w hs => fin_sel hs [0] ⟨sa2, sn2, sc2, rfl, rfl, rfl⟩ rfl sub_nil
theorem tri86 {s : KSym} {m : List Bool} {null : Bool} {sa1 : Option Addr} {sn1 sc1 : Nat} {r : Bool} (hF : F.ref06.so s m null = some r) :
  Tri Try.prog 86 [.agg #[.int .i64 s.Nt, .int .u64 s.Set.w0, .int .u64 s.Set.w1, .int .u64 s.Set.w2, .int .u64 s.Set.w3], .slice sa1 sn1 sc1, .bool null] [] [(.slice sa1 sn1 sc1, .slice 1 (m.map eB))] (fun o H Φ => o = .ret (.bool r) /\ H = [] /\ Φ = []) := by
 unfold F.ref06.so at hF
 refine tri_intro (n := 30) Try.func86 rfl Try.ntmps86 rfl fun w X => c_seq (c_region (o_box rfl rfl rfl fun b => o_v (v_assign rfl) rfl (o_seq (c_seq (c_seq ?_)))))
 refine cT (fun E H Φ N' => ∀ (t16 : Bool), F.ref06.so_j1 s m null t16 = some r -> Sat E [(0, .agg #[.int .i64 s.Nt, .int .u64 s.Set.w0, .int .u64 s.Set.w1, .int .u64 s.Set.w2, .int .u64 s.Set.w3]), (1, .slice sa1 sn1 sc1), (2, .bool null), (3, .pointer (some ⟨b, 0, none⟩)), (6, .bool false), (16, .bool t16)] H Φ N') (fun N1 hN1 => ?_) ?_
 refine c_region (o_v (fa 0 rfl) rfl (o_v (vl 0 ty3 rfl rfl rfl) rfl (o_v (v_bin rfl rfl rfl) rfl (o_v (v_move rfl) rfl ?_))))
 refine o_split (t := 10) rfl (fun h4 => ?_) (fun h4 => ?_)
 replace hF := ite_t h4 hF
 refine o_on rfl rfl (o_v (fa 0 rfl) rfl (o_on rfl rfl (o_v (vl 0 ty3 rfl rfl rfl) rfl (o_on rfl rfl (o_v (v_move rfl) rfl (o_on rfl rfl (o_v (v_lenS (enc := eB) m sl79 rfl (.f 0 rfl)) rfl (o_on rfl rfl (o_v (v_bin rfl rfl rfl) rfl (o_v (v_pick_t rfl rfl) rfl (o_nil ?_)))))))))))
 refine s_st ?_ (hN1 (decide (s.Nt < (m.length : Int))) hF)
 exact st_le [0] (lea rfl) rfl (subs [0] rfl)
 replace hF := ite_f h4 hF
 refine o_off rfl rfl (by decide) rfl (o_off rfl rfl (by decide) rfl (o_off rfl rfl (by decide) rfl (o_off rfl rfl (by decide) rfl (o_off rfl rfl (by decide) rfl (o_v (v_pick_f rfl rfl) rfl (o_nil ?_))))))
 refine s_st ?_ (hN1 false hF)
 exact st_le [0] (lea rfl) rfl (subs [0] rfl)
 intro t16 hF
 unfold F.ref06.so_j1 at hF
 refine sat_wc ?_
 refine c_cond rfl (fun h1 => ?_) (fun h1 => ?_)
 replace hF := ite_t h1 hF
 refine c_seq (c_region (o_v (v_move rfl) rfl (o_v (fa 0 rfl) rfl (o_v (vl 0 ty3 rfl rfl rfl) rfl (ite_some hF fun h2 hF => o_v (v_indexAddr_s (xs := m) (enc := eB) sl79 rfl rfl (.f 0 rfl) h2) rfl (o_v (v_load_s (xs := m) (enc := eB) ty4 rfl (.f 0 rfl) h2 rfl rfl rfl rfl rfl rfl rfl) rfl (o_v (v_assign rfl) rfl (o_seq (c_ret ?_)))))))))
 cases hF
 refine s_ret1 rfl (r_tmp rfl) fun a w hs => fin_sel hs [] ⟨rfl, rfl, rfl⟩ rfl sub_nil
 replace hF := ite_f h1 hF
 refine c_skip (sat_wc (c_seq (c_region (o_v (v_move rfl) rfl (o_v (v_not rfl) rfl (o_v (v_move rfl) rfl ?_))))))
 refine o_split (t := 24) rfl (fun h3 => ?_) (fun h3 => ?_)
 replace hF := ite_t h3 hF
 refine o_on rfl rfl (o_v (fa 1 rfl) rfl (o_on rfl rfl (o_v (vl 0 ty45 rfl rfl rfl) rfl (o_on rfl rfl (o_v (v_build (v := .agg #[.int .u64 0, .int .u64 0, .int .u64 0, .int .u64 0]) rfl (fun _ => by kernel_rfl)) rfl (o_on rfl rfl (o_v (v_agne 2 rfl rfl (eq45 s.Set.w0 s.Set.w1 s.Set.w2 s.Set.w3 0 0 0 0) rfl guard45) rfl (o_v (v_pick_t rfl rfl) rfl (o_v (v_assign rfl) rfl (o_seq (c_ret ?_)))))))))))
 cases hF
 refine s_ret1 rfl (r_tmp rfl) fun a w hs => fin_sel hs [] ⟨rfl, rfl, rfl⟩ rfl sub_nil
 replace hF := ite_f h3 hF
 refine o_off rfl rfl (by decide) rfl (o_off rfl rfl (by decide) rfl (o_off rfl rfl (by decide) rfl (o_off rfl rfl (by decide) rfl (o_v (v_pick_f rfl rfl) rfl (o_v (v_assign rfl) rfl (o_seq (c_ret ?_)))))))
 cases hF
 refine s_ret1 rfl (r_tmp rfl) fun a w hs => fin_sel hs [] ⟨rfl, rfl, rfl⟩ rfl sub_nil
theorem tri88 {k : Nat} {r_ : Rule} {m : List Bool} {null : Bool} {sa1 : Option Addr} {sn1 sc1 : Nat} {sa2 : Option Addr} {sn2 sc2 : Nat} {r : Bool} (hF : F.ref06.all k r_ m null = some r) :
  Tri Try.prog 88 [.agg #[.int .i64 r_.Lhs, .slice sa1 sn1 sc1], .slice sa2 sn2 sc2, .bool null] [] [(.slice sa1 sn1 sc1, .slice 5 (r_.Rhs.map eKSym)), (.slice sa2 sn2 sc2, .slice 1 (m.map eB))] (fun o H Φ => o = .ret (.bool r) /\ H = [] /\ Φ = []) := by
 unfold F.ref06.all at hF
 refine tri_intro (n := 24) Try.func88 rfl Try.ntmps88 rfl fun w X => c_seq (c_region (o_box rfl rfl rfl fun b => o_v (v_assign rfl) rfl (o_seq (c_seq (c_seq (c_region (o_v (v_assign rfl) rfl (o_seq ?_))))))))
 obtain ⟨o1, ho1, hF⟩ := bd hF
 refine c_cut (fun E N' => ∀ (d1 : Unit), o1 = .done d1 -> Sat E [(0, .agg #[.int .i64 r_.Lhs, .slice sa1 sn1 sc1]), (6, .bool false)] [] [(.slice sa1 sn1 sc1, .slice 5 (r_.Rhs.map eKSym))] N') (fun N1 hN1 => ?_) ?_
 refine c_block ?_
 refine cL (fun E H Φ j a w => ∃ (i : Int), F.ref06.all_l1 r_ m null j i = some o1 /\ St E [(0, .agg #[.int .i64 r_.Lhs, .slice sa1 sn1 sc1]), (1, .slice sa2 sn2 sc2), (2, .bool null), (3, .pointer (some ⟨b, 0, none⟩)), (6, .bool false), (7, .int .i64 i)] H Φ a w) k ?_ ?_
 intro a w hs
 exact ⟨0, ho1, st_le [0] (lea rfl) rfl (subs [0, 1] rfl) a w hs⟩
 rintro j a w ⟨i, hL1, hs⟩
 rcases j with _ | j
 cases hL1
 refine wc_app hs ?_
 unfold F.ref06.all_l1 at hL1
 refine c_seq (c_seq (c_region (o_v (v_move rfl) rfl (o_v (fa 1 rfl) rfl (o_v (vl 0 ty48 rfl rfl rfl) rfl (o_v (v_lenS (enc := eKSym) r_.Rhs sl48 rfl (.f 0 rfl)) rfl (o_v (v_bin rfl rfl rfl) rfl (o_seq ?_))))))))
 refine c_cond rfl (fun h1 => ?_) (fun h1 => ?_)
 replace hL1 := ite_t h1 hL1
 refine c_skip (sat_wc (c_seq (c_block (c_seq (c_region (o_v (fa 1 rfl) rfl (o_v (vl 0 ty48 rfl rfl rfl) rfl (o_v (v_move rfl) rfl (ite_some hL1 fun h2 hL1 => o_v (v_indexAddr_s (xs := r_.Rhs) (enc := eKSym) sl48 rfl rfl (.f 0 rfl) h2) rfl (o_v (v_load_s (xs := r_.Rhs) (enc := eKSym) ty47 rfl (.f 0 rfl) h2 rfl rfl rfl rfl rfl rfl rfl) rfl (o_v (v_move rfl) rfl (o_v (v_move rfl) rfl ?_))))))))))))
 obtain ⟨v_, h3, hL1⟩ := bd hL1
 refine o_callSB call86 rfl (lent_f 1 rfl lent_nil) (tri86 h3 :) rfl (o_v (v_not rfl) rfl (o_seq ?_))
 refine c_cond rfl (fun h4 => ?_) (fun h4 => ?_)
 replace hL1 := ite_t h4 hL1
 refine c_seq (c_region (o_v (v_assign rfl) rfl (o_seq (c_ret ?_))))
 cases hL1
 obtain rfl := lrf_ret hF
 refine s_ret1 rfl (r_tmp rfl) fun a w hs => fin_sel hs [] ⟨rfl, rfl, rfl⟩ rfl sub_nil
 replace hL1 := ite_f h4 hL1
 refine c_skip (sat_wc (c_region (o_v (v_move rfl) rfl (o_v (v_bin rfl rfl rfl) rfl (o_v (v_assign rfl) rfl (o_nil ?_))))))
 intro a w hs
 exact ⟨j, Nat.lt_succ_self j, IntKind.wrap .i64 (i + 1), hL1, st_le [0] (lea rfl) rfl (subs [0, 1] rfl) a w hs⟩
 replace hL1 := ite_f h1 hL1
 refine c_exit0 ?_
 cases hL1
 refine s_st ?_ (hN1 () rfl)
 exact st_le [] (lea rfl) rfl (subs [0] rfl)
 intro d1 hd
 subst hd
 replace hF := lrf_done hF
 refine sat_wc (c_seq (c_region (o_v (v_assign rfl) rfl (o_seq (c_ret ?_)))))
 cases hF
 refine s_ret1 rfl (r_tmp rfl) fun a w hs => fin_sel hs [] ⟨rfl, rfl, rfl⟩ rfl sub_nil
theorem tri87 {k : Nat} {g_ : Gram} {m : List Bool} {null : Bool} {sa1 : Option Addr} {sn1 sc1 : Nat} {sa2 : Option Addr} {sn2 sc2 : Nat} {r : List Bool} (hF : F.ref06.round k g_ m null = some r) :
  Tri Try.prog 87 [.agg #[.int .i64 g_.Nts, .int .i64 g_.Start, .slice sa1 sn1 sc1], .slice sa2 sn2 sc2, .bool null] [] [(.slice sa1 sn1 sc1, .slice 2 (g_.Rules.map eRule)), (.slice sa2 sn2 sc2, .slice 1 (m.map eB))] (fun o H Φ => ∃ (sa9 : Option Addr) (sn9 sc9 : Nat), o = .ret (.slice sa9 sn9 sc9) /\ H = [.row (.slice sa9 sn9 sc9) 4 1 (r.map eB)] /\ Φ = []) := by
 unfold F.ref06.round at hF
 refine tri_intro (n := 36) Try.func87 rfl Try.ntmps87 rfl fun w X => c_seq (c_region (o_box rfl rfl rfl fun b => o_v (v_assign rfl) rfl (o_seq (c_seq (c_region (o_v (fa 0 rfl) rfl (o_v (vl 0 ty3 rfl rfl rfl) rfl ?_)))))))
 obtain ⟨v_, h1, hF⟩ := bd hF
 refine o_call0 call77 rfl sub_nil (tri77 h1 :) rfl ?_
 rintro _ _ _ ⟨sa3, sn3, sc3, rfl, rfl, rfl⟩
 refine o_v (v_assign rfl) rfl (o_seq (c_seq (c_seq (c_region (o_v (v_assign rfl) rfl (o_seq ?_))))))
 obtain ⟨o1, ho1, hF⟩ := bd hF
 refine c_cut (fun E N' => ∀ (sa5 : Option Addr) (sn5 sc5 : Nat), Sat E [(0, .agg #[.int .i64 g_.Nts, .int .i64 g_.Start, .slice sa1 sn1 sc1]), (3, .pointer (some ⟨b, 0, none⟩)), (6, .slice none 0 0), (7, .slice sa5 sn5 sc5)] [.box b 24 [.int .i64 g_.Nts, .int .i64 g_.Start, .slice sa1 sn1 sc1], .row (.slice sa5 sn5 sc5) 4 1 (o1.map eB)] [(.slice sa1 sn1 sc1, .slice 2 (g_.Rules.map eRule))] N') (fun N1 hN1 => ?_) ?_
 refine c_block ?_
 refine cL (fun E H Φ j a w => ∃ (out : List Bool) (i : Int) (sa4 : Option Addr) (sn4 sc4 : Nat), F.ref06.round_l1 k g_ m null j out i = some o1 /\ St E [(0, .agg #[.int .i64 g_.Nts, .int .i64 g_.Start, .slice sa1 sn1 sc1]), (1, .slice sa2 sn2 sc2), (2, .bool null), (3, .pointer (some ⟨b, 0, none⟩)), (6, .slice none 0 0), (7, .slice sa4 sn4 sc4), (8, .int .i64 i)] [.box b 24 [.int .i64 g_.Nts, .int .i64 g_.Start, .slice sa1 sn1 sc1], .row (.slice sa4 sn4 sc4) 4 1 (out.map eB)] Φ a w) k ?_ ?_
 intro a w hs
 exact ⟨v_, 0, sa3, sn3, sc3, ho1, st_le [1, 0] (lea rfl) rfl (subs [0, 1] rfl) a w hs⟩
 rintro j a w ⟨out, i, sa4, sn4, sc4, hL1, hs⟩
 rcases j with _ | j
 cases hL1
 refine wc_app hs ?_
 unfold F.ref06.round_l1 at hL1
 refine c_seq (c_seq (c_region (o_v (v_move rfl) rfl (o_v (fa 2 rfl) rfl (o_v (vl 0 ty22 rfl rfl rfl) rfl (o_v (v_lenS (enc := eRule) g_.Rules sl22 rfl (.f 0 rfl)) rfl (o_v (v_bin rfl rfl rfl) rfl (o_seq ?_))))))))
 refine c_cond rfl (fun h2 => ?_) (fun h2 => ?_)
 replace hL1 := ite_t h2 hL1
 refine c_skip (sat_wc (c_seq ?_))
 refine cT (fun E H Φ N' => ∀ (out1 : List Bool) (sa6 : Option Addr) (sn6 sc6 : Nat), F.ref06.round_j2 (F.ref06.round_l1 k g_ m null j) i out1 = some o1 -> Sat E [(0, .agg #[.int .i64 g_.Nts, .int .i64 g_.Start, .slice sa1 sn1 sc1]), (1, .slice sa2 sn2 sc2), (2, .bool null), (3, .pointer (some ⟨b, 0, none⟩)), (6, .slice none 0 0), (7, .slice sa6 sn6 sc6), (8, .int .i64 i)] [.box b 24 [.int .i64 g_.Nts, .int .i64 g_.Start, .slice sa1 sn1 sc1], .row (.slice sa6 sn6 sc6) 4 1 (out1.map eB)] Φ N') (fun N2 hN2 => ?_) ?_
 refine c_block (c_seq (c_region (o_v (fa 2 rfl) rfl (o_v (vl 0 ty22 rfl rfl rfl) rfl (o_v (v_move rfl) rfl (ite_some hL1 fun h3 hL1 => o_v (v_indexAddr_s (xs := g_.Rules) (enc := eRule) sl22 rfl rfl (.f 0 rfl) h3) rfl (o_load_s (xs := g_.Rules) (enc := eRule) ty50 rfl (.f 0 rfl) h3 rfl rfl rfl rfl rfl rfl fun sa7 sn7 sc7 => o_v (v_move rfl) rfl (o_v (v_move rfl) rfl ?_))))))))
 obtain ⟨v_1, h4, hL1⟩ := bd hL1
 refine o_callSB call88 rfl (lent_f 0 rfl (lent_f 2 rfl lent_nil)) (tri88 h4 :) rfl (o_seq ?_)
 refine c_cut (fun E N' => ∀ (out2 : List Bool) (sa8 : Option Addr) (sn8 sc8 : Nat), F.ref06.round_j3 (F.ref06.round_l1 k g_ m null j) i out2 = some o1 -> Sat E [(0, .agg #[.int .i64 g_.Nts, .int .i64 g_.Start, .slice sa1 sn1 sc1]), (1, .slice sa2 sn2 sc2), (2, .bool null), (3, .pointer (some ⟨b, 0, none⟩)), (6, .slice none 0 0), (7, .slice sa8 sn8 sc8), (8, .int .i64 i)] [.box b 24 [.int .i64 g_.Nts, .int .i64 g_.Start, .slice sa1 sn1 sc1], .row (.slice sa8 sn8 sc8) 4 1 (out2.map eB)] [(.slice sa1 sn1 sc1, .slice 2 (g_.Rules.map eRule)), (.slice sa2 sn2 sc2, .slice 1 (m.map eB))] N') (fun N3 hN3 => ?_) ?_
 refine c_cond rfl (fun h5 => ?_) (fun h5 => ?_)
 replace hL1 := ite_t h5 hL1
 refine c_region (o_v (v_move rfl) rfl (o_v (fa 2 rfl) rfl (o_v (vl 0 ty22 rfl rfl rfl) rfl (o_v (v_move rfl) rfl (o_v (v_indexAddr_s (xs := g_.Rules) (enc := eRule) sl22 rfl rfl (.f 1 rfl) h3) rfl (o_v (v_fieldAddr (v := .pointer (some ⟨blkA sa1, offA sa1 + (Int.toNat i * 2 + 0), none⟩)) rfl (fun _ => by kernel_rfl)) rfl (o_v (v_load_s (xs := g_.Rules) (enc := eRule) ty3 rfl (.f 1 rfl) h3 rfl rfl rfl rfl rfl rfl rfl) rfl (ite_some hL1 fun h6 hL1 => o_v (v_indexAddr_s (xs := out) (enc := eB) sl79 rfl rfl (.r 1 _ rfl) h6) rfl (o_store_s (xs := out) (enc := eB) 1 true rfl ty4 rfl rfl rfl rfl h6 (.s rfl (.nil)) rfl rfl rfl (o_nil ?_))))))))))
 refine s_st ?_ (hN3 (set_ out ((at_ g_.Rules i).Lhs) true) sa4 sn4 sc4 hL1)
 exact st_le [0, 0] (lea rfl) rfl (subs [1, 2] rfl)
 replace hL1 := ite_f h5 hL1
 refine c_skip ?_
 refine s_st ?_ (hN3 out sa4 sn4 sc4 hL1)
 exact st_le [0, 0] (lea rfl) rfl (subs [1, 2] rfl)
 intro out2 sa8 sn8 sc8 hL1
 unfold F.ref06.round_j3 at hL1
 refine s_st ?_ (hN2 out2 sa8 sn8 sc8 hL1)
 exact st_le [0, 0] (lea rfl) rfl (subs [0, 1] rfl)
 intro out1 sa6 sn6 sc6 hL1
 unfold F.ref06.round_j2 at hL1
 refine sat_wc (c_region (o_v (v_move rfl) rfl (o_v (v_bin rfl rfl rfl) rfl (o_v (v_assign rfl) rfl (o_nil ?_)))))
 intro a w hs
 exact ⟨j, Nat.lt_succ_self j, out1, IntKind.wrap .i64 (i + 1), sa6, sn6, sc6, hL1, st_le [0, 0] (lea rfl) rfl (subs [0, 1] rfl) a w hs⟩
 replace hL1 := ite_f h2 hL1
 refine c_exit0 ?_
 cases hL1
 refine s_st ?_ (hN1 sa4 sn4 sc4)
 exact st_le [0, 0] (lea rfl) rfl (subs [0] rfl)
 intro sa5 sn5 sc5
 refine sat_wc (c_seq (c_region (o_v (v_move rfl) rfl (o_v (v_assign rfl) rfl (o_seq (c_ret ?_))))))
 cases hF
 refine s_ret1 rfl (r_tmp rfl) fun a w hs => fin_sel hs [1] ⟨sa5, sn5, sc5, rfl, rfl, rfl⟩ rfl sub_nil
theorem tri85 {k : Nat} {g_ : Gram} {null : Bool} {sa1 : Option Addr} {sn1 sc1 : Nat} {r : List Bool} (hF : F.ref06.marks k g_ null = some r) :
  Tri Try.prog 85 [.agg #[.int .i64 g_.Nts, .int .i64 g_.Start, .slice sa1 sn1 sc1], .bool null] [] [(.slice sa1 sn1 sc1, .slice 2 (g_.Rules.map eRule))] (fun o H Φ => ∃ (sa6 : Option Addr) (sn6 sc6 : Nat), o = .ret (.slice sa6 sn6 sc6) /\ H = [.row (.slice sa6 sn6 sc6) 4 1 (r.map eB)] /\ Φ = []) := by
 unfold F.ref06.marks at hF
 refine tri_intro (n := 21) Try.func85 rfl Try.ntmps85 rfl fun w X => c_seq (c_region (o_box rfl rfl rfl fun b => o_v (v_assign rfl) rfl (o_seq (c_seq (c_region (o_v (fa 0 rfl) rfl (o_v (vl 0 ty3 rfl rfl rfl) rfl ?_)))))))
 obtain ⟨v_, h1, hF⟩ := bd hF
 refine o_call0 call77 rfl sub_nil (tri77 h1 :) rfl ?_
 rintro _ _ _ ⟨sa2, sn2, sc2, rfl, rfl, rfl⟩
 refine o_v (v_assign rfl) rfl (o_seq (c_seq (c_seq (c_region (o_v (v_assign rfl) rfl (o_seq ?_))))))
 obtain ⟨o1, ho1, hF⟩ := bd hF
 refine cT (fun E H Φ N' => ∀ (sa4 : Option Addr) (sn4 sc4 : Nat), Sat E [(0, .agg #[.int .i64 g_.Nts, .int .i64 g_.Start, .slice sa1 sn1 sc1]), (2, .pointer (some ⟨b, 0, none⟩)), (4, .slice none 0 0), (5, .slice sa4 sn4 sc4)] [.box b 24 [.int .i64 g_.Nts, .int .i64 g_.Start, .slice sa1 sn1 sc1], .row (.slice sa4 sn4 sc4) 4 1 (o1.map eB)] Φ N') (fun N1 hN1 => ?_) ?_
 refine c_block ?_
 refine cL (fun E H Φ j a w => ∃ (m : List Bool) (i : Int) (sa3 : Option Addr) (sn3 sc3 : Nat), F.ref06.marks_l1 k g_ null j m i = some o1 /\ St E [(0, .agg #[.int .i64 g_.Nts, .int .i64 g_.Start, .slice sa1 sn1 sc1]), (1, .bool null), (2, .pointer (some ⟨b, 0, none⟩)), (4, .slice none 0 0), (5, .slice sa3 sn3 sc3), (6, .int .i64 i)] [.box b 24 [.int .i64 g_.Nts, .int .i64 g_.Start, .slice sa1 sn1 sc1], .row (.slice sa3 sn3 sc3) 4 1 (m.map eB)] Φ a w) k ?_ ?_
 intro a w hs
 exact ⟨v_, 0, sa2, sn2, sc2, ho1, st_le [1, 0] (lea rfl) rfl (subs [0] rfl) a w hs⟩
 rintro j a w ⟨m, i, sa3, sn3, sc3, hL1, hs⟩
 rcases j with _ | j
 cases hL1
 refine wc_app hs ?_
 unfold F.ref06.marks_l1 at hL1
 refine c_seq (c_seq (c_region (o_v (v_move rfl) rfl (o_v (fa 0 rfl) rfl (o_v (vl 0 ty3 rfl rfl rfl) rfl (o_v (v_bin rfl rfl rfl) rfl (o_seq ?_)))))))
 refine c_cond rfl (fun h2 => ?_) (fun h2 => ?_)
 replace hL1 := ite_t h2 hL1
 refine c_skip (sat_wc (c_seq (c_block (c_region (o_v (vl 0 ty24 rfl rfl rfl) rfl (o_v (v_move rfl) rfl (o_v (v_move rfl) rfl ?_)))))))
 obtain ⟨v_1, h3, hL1⟩ := bd hL1
 refine o_st (st_freeze 1 rfl) (o_call0 call87 rfl (subs [1, 0] rfl) (tri87 h3 :) rfl ?_)
 rintro _ _ _ ⟨sa5, sn5, sc5, rfl, rfl, rfl⟩
 refine o_v (v_assign rfl) rfl (o_nil (sat_wc (c_region (o_v (v_move rfl) rfl (o_v (v_bin rfl rfl rfl) rfl (o_v (v_assign rfl) rfl (o_nil ?_)))))))
 intro a w hs
 exact ⟨j, Nat.lt_succ_self j, v_1, IntKind.wrap .i64 (i + 1), sa5, sn5, sc5, hL1, st_le [1, 0] (lea rfl) rfl (subs [1] rfl) a w hs⟩
 replace hL1 := ite_f h2 hL1
 refine c_exit0 ?_
 cases hL1
 refine s_st ?_ (hN1 sa3 sn3 sc3)
 exact st_le [0, 0] (lea rfl) rfl (subs [0] rfl)
 intro sa4 sn4 sc4
 refine sat_wc (c_seq (c_region (o_v (v_move rfl) rfl (o_v (v_assign rfl) rfl (o_seq (c_ret ?_))))))
 cases hF
 refine s_ret1 rfl (r_tmp rfl) fun a w hs => fin_sel hs [1] ⟨sa4, sn4, sc4, rfl, rfl, rfl⟩ rfl sub_nil
theorem tri76 {k : Nat} {g_ : Gram} {sa1 : Option Addr} {sn1 sc1 : Nat} {r : List Bool × Int} (hF : F.ref06.Nullable k g_ = some r) :
  Tri Try.prog 76 [.agg #[.int .i64 g_.Nts, .int .i64 g_.Start, .slice sa1 sn1 sc1]] [] [(.slice sa1 sn1 sc1, .slice 2 (g_.Rules.map eRule))] (fun o H Φ => ∃ (sa3 : Option Addr) (sn3 sc3 : Nat), o = .ret (.tuple #[.slice sa3 sn3 sc3, .int .i64 r.2]) /\ H = [.row (.slice sa3 sn3 sc3) 4 1 (r.1.map eB)] /\ Φ = []) := by
 unfold F.ref06.Nullable at hF
 refine tri_intro (n := 13) Try.func76 rfl Try.ntmps76 rfl fun w X => c_seq (c_region (o_box rfl rfl rfl fun b => o_v (v_assign rfl) rfl (o_v (v_assign rfl) rfl (o_seq (c_seq (c_region (o_v (vl 0 ty24 rfl rfl rfl) rfl ?_)))))))
 obtain ⟨v_, h1, hF⟩ := bd hF
 refine o_callSB call75 rfl (lent_f 0 rfl lent_nil) (tri75 h1 :) rfl (o_v (v_assign rfl) rfl (o_seq (c_seq (c_seq (c_region (o_v (v_move rfl) rfl (o_v (v_bin rfl rfl rfl) rfl (o_seq ?_))))))))
 refine c_cond rfl (fun h2 => ?_) (fun h2 => ?_)
 replace hF := ite_t h2 hF
 refine c_seq (c_region (o_v (v_move rfl) rfl (o_v (v_assign rfl) rfl (o_v (v_assign rfl) rfl (o_seq (c_ret ?_))))))
 cases hF
 refine s_st (st_nilrow 4 1) (s_ret2 rfl (r_tmp rfl) (r_tmp rfl) fun a w hs => fin_sel hs [0] ⟨none, 0, 0, rfl, rfl, rfl⟩ rfl sub_nil)
 replace hF := ite_f h2 hF
 refine c_skip (sat_wc (c_seq (c_region (o_v (vl 0 ty24 rfl rfl rfl) rfl ?_))))
 obtain ⟨v_1, h3, hF⟩ := bd hF
 refine o_call0 call85 rfl (subs [0] rfl) (tri85 h3 :) rfl ?_
 rintro _ _ _ ⟨sa2, sn2, sc2, rfl, rfl, rfl⟩
 refine o_v (v_move rfl) rfl (o_v (v_assign rfl) rfl (o_v (v_assign rfl) rfl (o_seq (c_ret ?_))))
 cases hF
 refine s_ret2 rfl (r_tmp rfl) (r_tmp rfl) fun a w hs => fin_sel hs [0] ⟨sa2, sn2, sc2, rfl, rfl, rfl⟩ rfl sub_nil
theorem tri78 {k : Nat} {r_ : Rule} {at__ : Int} {null : List Bool} {sa1 : Option Addr} {sn1 sc1 : Nat} {sa2 : Option Addr} {sn2 sc2 : Nat} {r : Bool} (hF : F.ref06.leads k r_ at__ null = some r) :
  Tri Try.prog 78 [.agg #[.int .i64 r_.Lhs, .slice sa1 sn1 sc1], .int .i64 at__, .slice sa2 sn2 sc2] [] [(.slice sa1 sn1 sc1, .slice 5 (r_.Rhs.map eKSym)), (.slice sa2 sn2 sc2, .slice 1 (null.map eB))] (fun o H Φ => o = .ret (.bool r) /\ H = [] /\ Φ = []) := by
 unfold F.ref06.leads at hF
 refine tri_intro (n := 35) Try.func78 rfl Try.ntmps78 rfl fun w X => c_seq (c_region (o_box rfl rfl rfl fun b => o_v (v_assign rfl) rfl (o_seq (c_seq (c_seq (c_region (o_v (v_assign rfl) rfl (o_seq ?_))))))))
 obtain ⟨o1, ho1, hF⟩ := bd hF
 refine cT (fun E H Φ N' => ∀ (d1 : Unit), o1 = .done d1 -> Sat E [(0, .agg #[.int .i64 r_.Lhs, .slice sa1 sn1 sc1]), (1, .int .i64 at__), (3, .pointer (some ⟨b, 0, none⟩)), (6, .bool false)] H [(.slice sa1 sn1 sc1, .slice 5 (r_.Rhs.map eKSym))] N') (fun N1 hN1 => ?_) ?_
 refine c_block ?_
 refine cL (fun E H Φ j a w => ∃ (i : Int), F.ref06.leads_l1 r_ at__ null j i = some o1 /\ St E [(0, .agg #[.int .i64 r_.Lhs, .slice sa1 sn1 sc1]), (1, .int .i64 at__), (2, .slice sa2 sn2 sc2), (3, .pointer (some ⟨b, 0, none⟩)), (6, .bool false), (7, .int .i64 i)] H Φ a w) k ?_ ?_
 intro a w hs
 exact ⟨0, ho1, st_le [0] (lea rfl) rfl (subs [0, 1] rfl) a w hs⟩
 rintro j a w ⟨i, hL1, hs⟩
 rcases j with _ | j
 cases hL1
 refine wc_app hs ?_
 unfold F.ref06.leads_l1 at hL1
 refine c_seq (c_seq (c_region (o_v (v_move rfl) rfl (o_v (fa 1 rfl) rfl (o_v (vl 0 ty48 rfl rfl rfl) rfl (o_v (v_lenS (enc := eKSym) r_.Rhs sl48 rfl (.f 0 rfl)) rfl (o_v (v_bin rfl rfl rfl) rfl (o_seq ?_))))))))
 refine c_cond rfl (fun h1 => ?_) (fun h1 => ?_)
 replace hL1 := ite_t h1 hL1
 refine c_skip (sat_wc (c_seq ?_))
 refine cT (fun E H Φ N' => F.ref06.leads_j2 (F.ref06.leads_l1 r_ at__ null j) i = some o1 -> Sat E [(0, .agg #[.int .i64 r_.Lhs, .slice sa1 sn1 sc1]), (1, .int .i64 at__), (2, .slice sa2 sn2 sc2), (3, .pointer (some ⟨b, 0, none⟩)), (6, .bool false), (7, .int .i64 i)] H Φ N') (fun N2 hN2 => ?_) ?_
 refine c_block (c_seq ?_)
 refine cT (fun E H Φ N' => ∀ (t27 : Bool), F.ref06.leads_j3 (F.ref06.leads_l1 r_ at__ null j) i t27 = some o1 -> Sat E [(0, .agg #[.int .i64 r_.Lhs, .slice sa1 sn1 sc1]), (1, .int .i64 at__), (2, .slice sa2 sn2 sc2), (3, .pointer (some ⟨b, 0, none⟩)), (6, .bool false), (7, .int .i64 i), (27, .bool t27)] H Φ N') (fun N3 hN3 => ?_) ?_
 refine c_region (o_v (v_move rfl) rfl (o_v (v_move rfl) rfl (o_v (v_bin rfl rfl rfl) rfl (o_v (v_move rfl) rfl ?_))))
 refine o_split (t := 18) rfl (fun h3 => ?_) (fun h3 => ?_)
 replace hL1 := ite_t h3 hL1
 refine o_on rfl rfl (o_v (fa 1 rfl) rfl (o_on rfl rfl (o_v (vl 0 ty48 rfl rfl rfl) rfl (o_on rfl rfl (o_v (v_move rfl) rfl (o_on rfl rfl (ite_some hL1 fun h4 hL1 => o_v (v_indexAddr_s (xs := r_.Rhs) (enc := eKSym) sl48 rfl rfl (.f 0 rfl) h4) rfl (o_on rfl rfl (o_v (v_load_s (xs := r_.Rhs) (enc := eKSym) ty47 rfl (.f 0 rfl) h4 rfl rfl rfl rfl rfl rfl rfl) rfl (o_on rfl rfl (o_v (v_move rfl) rfl (o_on rfl rfl ?_))))))))))))
 obtain ⟨v_, h5, hL1⟩ := bd hL1
 refine o_callSB call86 rfl (lent_f 1 rfl lent_nil) (tri86 h5 :) rfl (o_on rfl rfl (o_v (v_not rfl) rfl (o_v (v_pick_t rfl rfl) rfl (o_nil ?_))))
 refine s_st ?_ (hN3 (!v_) hL1)
 exact st_le [0] (lea rfl) rfl (subs [0, 1] rfl)
 replace hL1 := ite_f h3 hL1
 refine o_off rfl rfl (by decide) rfl (o_off rfl rfl (by decide) rfl (o_off rfl rfl (by decide) rfl (o_off rfl rfl (by decide) rfl (o_off rfl rfl (by decide) rfl (o_off rfl rfl (by decide) rfl (o_off rfl rfl (by decide) rfl (o_off rfl rfl (by decide) rfl (o_v (v_pick_f rfl rfl) rfl (o_nil ?_)))))))))
 refine s_st ?_ (hN3 false hL1)
 exact st_le [0] (lea rfl) rfl (subs [0, 1] rfl)
 intro t27 hL1
 unfold F.ref06.leads_j3 at hL1
 refine sat_wc ?_
 refine c_cond rfl (fun h2 => ?_) (fun h2 => ?_)
 replace hL1 := ite_t h2 hL1
 refine c_seq (c_region (o_v (v_assign rfl) rfl (o_seq (c_ret ?_))))
 cases hL1
 obtain rfl := lrf_ret hF
 refine s_ret1 rfl (r_tmp rfl) fun a w hs => fin_sel hs [] ⟨rfl, rfl, rfl⟩ rfl sub_nil
 replace hL1 := ite_f h2 hL1
 refine c_skip ?_
 refine s_st ?_ (hN2 hL1)
 exact st_le [0] (lea rfl) rfl (subs [0, 1] rfl)
 intro hL1
 unfold F.ref06.leads_j2 at hL1
 refine sat_wc (c_region (o_v (v_move rfl) rfl (o_v (v_bin rfl rfl rfl) rfl (o_v (v_assign rfl) rfl (o_nil ?_)))))
 intro a w hs
 exact ⟨j, Nat.lt_succ_self j, IntKind.wrap .i64 (i + 1), hL1, st_le [0] (lea rfl) rfl (subs [0, 1] rfl) a w hs⟩
 replace hL1 := ite_f h1 hL1
 refine c_exit0 ?_
 cases hL1
 refine s_st ?_ (hN1 () rfl)
 exact st_le [0] (lea rfl) rfl (subs [0] rfl)
 intro d1 hd
 subst hd
 replace hF := lrf_done hF
 refine sat_wc (c_seq (c_region (o_v (fa 1 rfl) rfl (o_v (vl 0 ty48 rfl rfl rfl) rfl (o_v (v_move rfl) rfl (ite_some hF fun h6 hF => o_v (v_indexAddr_s (xs := r_.Rhs) (enc := eKSym) sl48 rfl rfl (.f 0 rfl) h6) rfl (o_v (v_fieldAddr (v := .pointer (some ⟨blkA sa1, offA sa1 + (Int.toNat at__ * 5 + 0), none⟩)) rfl (fun _ => by kernel_rfl)) rfl (o_v (v_load_s (xs := r_.Rhs) (enc := eKSym) ty3 rfl (.f 0 rfl) h6 rfl rfl rfl rfl rfl rfl rfl) rfl (o_v (v_bin rfl rfl rfl) rfl (o_v (v_assign rfl) rfl (o_seq (c_ret ?_))))))))))))
 cases hF
 refine s_ret1 rfl (r_tmp rfl) fun a w hs => fin_sel hs [] ⟨rfl, rfl, rfl⟩ rfl sub_nil
theorem tri57 {k : Nat} {g_ : Gram} {sa1 : Option Addr} {sn1 sc1 : Nat} {r : Bool × Int} (hF : F.ref06.Cyclic k g_ = some r) :
  Tri Try.prog 57 [.agg #[.int .i64 g_.Nts, .int .i64 g_.Start, .slice sa1 sn1 sc1]] [] [(.slice sa1 sn1 sc1, .slice 2 (g_.Rules.map eRule))] (fun o H Φ => o = .ret (.tuple #[.bool r.1, .int .i64 r.2]) /\ H = [] /\ Φ = []) := by
 unfold F.ref06.Cyclic at hF
 refine tri_intro (n := 96) Try.func57 rfl Try.ntmps57 rfl fun w X => c_seq (c_region (o_box rfl rfl rfl fun b => o_v (v_assign rfl) rfl (o_v (v_assign rfl) rfl (o_seq (c_seq (c_region (o_v (vl 0 ty24 rfl rfl rfl) rfl ?_)))))))
 obtain ⟨v_, h1, hF⟩ := bd hF
 refine o_call0 call76 rfl (subs [0] rfl) (tri76 h1 :) rfl ?_
 rintro _ _ _ ⟨sa2, sn2, sc2, rfl, rfl, rfl⟩
 refine o_v (v_move rfl) rfl (o_v (v_extract rfl rfl) rfl (o_v (v_extract rfl rfl) rfl (o_v (v_assign rfl) rfl (o_v (v_assign rfl) rfl (o_seq (c_seq (c_seq (c_region (o_v (v_move rfl) rfl (o_v (v_bin rfl rfl rfl) rfl (o_seq ?_)))))))))))
 refine c_cond rfl (fun h2 => ?_) (fun h2 => ?_)
 replace hF := ite_t h2 hF
 refine c_seq (c_region (o_v (v_move rfl) rfl (o_v (v_assign rfl) rfl (o_v (v_assign rfl) rfl (o_seq (c_ret ?_))))))
 cases hF
 refine s_ret2 rfl (r_tmp rfl) (r_tmp rfl) fun a w hs => fin_sel hs [] ⟨rfl, rfl, rfl⟩ rfl sub_nil
 replace hF := ite_f h2 hF
 refine c_skip (sat_wc (c_seq (c_region (o_v (fa 0 rfl) rfl (o_v (vl 1 ty3 rfl rfl rfl) rfl ?_)))))
 obtain ⟨v_1, h3, hF⟩ := bd hF
 refine o_call0 call77 rfl sub_nil (tri77 h3 :) rfl ?_
 rintro _ _ _ ⟨sa3, sn3, sc3, rfl, rfl, rfl⟩
 refine o_v (v_assign rfl) rfl (o_seq (c_seq (c_region (o_v (fa 0 rfl) rfl (o_v (vl 2 ty3 rfl rfl rfl) rfl (o_v (v_assign rfl) rfl (o_seq (c_seq (c_seq (c_region (o_v (v_assign rfl) rfl (o_seq ?_))))))))))))
 obtain ⟨o1, ho1, hF⟩ := bd hF
 refine cT (fun E H Φ N' => Sat E [(0, .agg #[.int .i64 g_.Nts, .int .i64 g_.Start, .slice sa1 sn1 sc1]), (1, .pointer (some ⟨b, 0, none⟩)), (2, .bool false), (3, .int .i64 0), (5, .int .i64 v_.2), (7, .int .i64 o1)] [.box b 24 [.int .i64 g_.Nts, .int .i64 g_.Start, .slice sa1 sn1 sc1]] Φ N') (fun N1 hN1 => ?_) ?_
 refine c_block ?_
 refine cL (fun E H Φ j a w => ∃ (struck : List Bool) (left : Int) (n : Int) (sa4 : Option Addr) (sn4 sc4 : Nat), F.ref06.Cyclic_l1 k g_ v_ j struck left n = some o1 /\ St E [(0, .agg #[.int .i64 g_.Nts, .int .i64 g_.Start, .slice sa1 sn1 sc1]), (1, .pointer (some ⟨b, 0, none⟩)), (2, .bool false), (3, .int .i64 0), (4, .slice sa2 sn2 sc2), (5, .int .i64 v_.2), (6, .slice sa4 sn4 sc4), (7, .int .i64 left), (8, .int .i64 n)] [.box b 24 [.int .i64 g_.Nts, .int .i64 g_.Start, .slice sa1 sn1 sc1], .row (.slice sa2 sn2 sc2) 4 1 (v_.1.map eB), .row (.slice sa4 sn4 sc4) 4 1 (struck.map eB)] Φ a w) k ?_ ?_
 intro a w hs
 exact ⟨v_1, g_.Nts, 0, sa3, sn3, sc3, ho1, st_le [2, 1, 0] (lea rfl) rfl (subs [0] rfl) a w hs⟩
 rintro j a w ⟨struck, left, n, sa4, sn4, sc4, hL1, hs⟩
 rcases j with _ | j
 cases hL1
 refine wc_app hs ?_
 unfold F.ref06.Cyclic_l1 at hL1
 refine c_seq (c_seq (c_region (o_v (v_move rfl) rfl (o_v (fa 0 rfl) rfl (o_v (vl 0 ty3 rfl rfl rfl) rfl (o_v (v_bin rfl rfl rfl) rfl (o_seq ?_)))))))
 refine c_cond rfl (fun h4 => ?_) (fun h4 => ?_)
 replace hL1 := ite_t h4 hL1
 refine c_skip (sat_wc (c_seq (c_block (c_seq (c_region (o_v (v_assign rfl) rfl (o_seq ?_)))))))
 obtain ⟨o2, ho2, hL1⟩ := bd hL1
 refine cT (fun E H Φ N' => ∀ (sa6 : Option Addr) (sn6 sc6 : Nat), Sat E [(0, .agg #[.int .i64 g_.Nts, .int .i64 g_.Start, .slice sa1 sn1 sc1]), (1, .pointer (some ⟨b, 0, none⟩)), (2, .bool false), (3, .int .i64 0), (4, .slice sa2 sn2 sc2), (5, .int .i64 v_.2), (6, .slice sa6 sn6 sc6), (7, .int .i64 o2.2.1), (8, .int .i64 n), (9, .int .i64 o2.2.2)] [.box b 24 [.int .i64 g_.Nts, .int .i64 g_.Start, .slice sa1 sn1 sc1], .row (.slice sa2 sn2 sc2) 4 1 (v_.1.map eB), .row (.slice sa6 sn6 sc6) 4 1 (o2.1.map eB)] Φ N') (fun N2 hN2 => ?_) ?_
 refine c_block ?_
 refine cL (fun E H Φ j a w => ∃ (struck1 : List Bool) (left1 : Int) (a_ : Int) (sa5 : Option Addr) (sn5 sc5 : Nat), F.ref06.Cyclic_l2 k g_ v_ j struck1 left1 a_ = some o2 /\ St E [(0, .agg #[.int .i64 g_.Nts, .int .i64 g_.Start, .slice sa1 sn1 sc1]), (1, .pointer (some ⟨b, 0, none⟩)), (2, .bool false), (3, .int .i64 0), (4, .slice sa2 sn2 sc2), (5, .int .i64 v_.2), (6, .slice sa5 sn5 sc5), (7, .int .i64 left1), (8, .int .i64 n), (9, .int .i64 a_)] [.box b 24 [.int .i64 g_.Nts, .int .i64 g_.Start, .slice sa1 sn1 sc1], .row (.slice sa2 sn2 sc2) 4 1 (v_.1.map eB), .row (.slice sa5 sn5 sc5) 4 1 (struck1.map eB)] Φ a w) k ?_ ?_
 intro a w hs
 exact ⟨struck, left, 0, sa4, sn4, sc4, ho2, st_le [0, 0, 0] (lea rfl) rfl (subs [0] rfl) a w hs⟩
 rintro j a w ⟨struck1, left1, a_, sa5, sn5, sc5, hL2, hs⟩
 rcases j with _ | j
 cases hL2
 refine wc_app hs ?_
 unfold F.ref06.Cyclic_l2 at hL2
 refine c_seq (c_seq (c_region (o_v (v_move rfl) rfl (o_v (fa 0 rfl) rfl (o_v (vl 0 ty3 rfl rfl rfl) rfl (o_v (v_bin rfl rfl rfl) rfl (o_seq ?_)))))))
 refine c_cond rfl (fun h5 => ?_) (fun h5 => ?_)
 replace hL2 := ite_t h5 hL2
 refine c_skip (sat_wc (c_seq ?_))
 refine cT (fun E H Φ N' => ∀ (struck2 : List Bool) (left2 : Int) (sa7 : Option Addr) (sn7 sc7 : Nat), F.ref06.Cyclic_j3 (F.ref06.Cyclic_l2 k g_ v_ j) a_ struck2 left2 = some o2 -> Sat E [(0, .agg #[.int .i64 g_.Nts, .int .i64 g_.Start, .slice sa1 sn1 sc1]), (1, .pointer (some ⟨b, 0, none⟩)), (2, .bool false), (3, .int .i64 0), (4, .slice sa2 sn2 sc2), (5, .int .i64 v_.2), (6, .slice sa7 sn7 sc7), (7, .int .i64 left2), (8, .int .i64 n), (9, .int .i64 a_)] [.box b 24 [.int .i64 g_.Nts, .int .i64 g_.Start, .slice sa1 sn1 sc1], .row (.slice sa2 sn2 sc2) 4 1 (v_.1.map eB), .row (.slice sa7 sn7 sc7) 4 1 (struck2.map eB)] Φ N') (fun N3 hN3 => ?_) ?_
 refine c_block (c_seq (c_seq (c_region (o_v (v_move rfl) rfl (o_v (v_move rfl) rfl (ite_some hL2 fun h6 hL2 => o_v (v_indexAddr_s (xs := struck1) (enc := eB) sl79 rfl rfl (.r 2 _ rfl) h6) rfl (o_v (v_load_s (xs := struck1) (enc := eB) ty4 rfl (.r 2 _ rfl) h6 rfl rfl rfl rfl rfl rfl rfl) rfl (o_seq ?_))))))))
 refine c_cond rfl (fun h7 => ?_) (fun h7 => ?_)
 replace hL2 := ite_t h7 hL2
 refine c_exit0 ?_
 refine s_st ?_ (hN3 struck1 left1 sa5 sn5 sc5 hL2)
 exact st_le [0, 0, 0] (lea rfl) rfl (subs [0] rfl)
 replace hL2 := ite_f h7 hL2
 refine c_skip (sat_wc (c_seq (c_region (o_v (v_assign rfl) rfl (o_seq (c_seq (c_seq (c_region (o_v (v_assign rfl) rfl (o_seq ?_))))))))))
 obtain ⟨o4, ho4, hL2⟩ := bd hL2
 refine cT (fun E H Φ N' => Sat E [(0, .agg #[.int .i64 g_.Nts, .int .i64 g_.Start, .slice sa1 sn1 sc1]), (1, .pointer (some ⟨b, 0, none⟩)), (2, .bool false), (3, .int .i64 0), (4, .slice sa2 sn2 sc2), (5, .int .i64 v_.2), (6, .slice sa5 sn5 sc5), (7, .int .i64 left1), (8, .int .i64 n), (9, .int .i64 a_), (10, .bool o4.1), (11, .int .i64 o4.2)] H Φ N') (fun N4 hN4 => ?_) ?_
 refine c_block ?_
 refine cL (fun E H Φ j a w => ∃ (free : Bool) (i : Int), F.ref06.Cyclic_l4 k g_ v_ struck1 a_ j free i = some o4 /\ St E [(0, .agg #[.int .i64 g_.Nts, .int .i64 g_.Start, .slice sa1 sn1 sc1]), (1, .pointer (some ⟨b, 0, none⟩)), (2, .bool false), (3, .int .i64 0), (4, .slice sa2 sn2 sc2), (5, .int .i64 v_.2), (6, .slice sa5 sn5 sc5), (7, .int .i64 left1), (8, .int .i64 n), (9, .int .i64 a_), (10, .bool free), (11, .int .i64 i)] H Φ a w) k ?_ ?_
 intro a w hs
 exact ⟨true, 0, ho4, st_le [0, 0, 0] (lea rfl) rfl (subs [0] rfl) a w hs⟩
 rintro j a w ⟨free, i, hL4, hs⟩
 rcases j with _ | j
 cases hL4
 refine wc_app hs ?_
 unfold F.ref06.Cyclic_l4 at hL4
 refine c_seq (c_seq ?_)
 refine cT (fun E H Φ N' => ∀ (t50 : Bool), F.ref06.Cyclic_j5 k i g_ v_ struck1 a_ free (F.ref06.Cyclic_l4 k g_ v_ struck1 a_ j) t50 = some o4 -> Sat E [(0, .agg #[.int .i64 g_.Nts, .int .i64 g_.Start, .slice sa1 sn1 sc1]), (1, .pointer (some ⟨b, 0, none⟩)), (2, .bool false), (3, .int .i64 0), (4, .slice sa2 sn2 sc2), (5, .int .i64 v_.2), (6, .slice sa5 sn5 sc5), (7, .int .i64 left1), (8, .int .i64 n), (9, .int .i64 a_), (10, .bool free), (11, .int .i64 i), (50, .bool t50)] H Φ N') (fun N10 hN10 => ?_) ?_
 refine c_region (o_v (v_move rfl) rfl (o_v (fa 2 rfl) rfl (o_v (vl 0 ty22 rfl rfl rfl) rfl (o_v (v_lenS (enc := eRule) g_.Rules sl22 rfl (.f 0 rfl)) rfl (o_v (v_bin rfl rfl rfl) rfl (o_v (v_move rfl) rfl ?_))))))
 refine o_split (t := 48) rfl (fun h17 => ?_) (fun h17 => ?_)
 replace hL4 := ite_t h17 hL4
 refine o_on rfl rfl (o_v (v_move rfl) rfl (o_v (v_pick_t rfl rfl) rfl (o_nil ?_)))
 refine s_st ?_ (hN10 free hL4)
 exact st_le [0, 0, 0] (lea rfl) rfl (subs [0] rfl)
 replace hL4 := ite_f h17 hL4
 refine o_off rfl rfl (by decide) rfl (o_v (v_pick_f rfl rfl) rfl (o_nil ?_))
 refine s_st ?_ (hN10 false hL4)
 exact st_le [0, 0, 0] (lea rfl) rfl (subs [0] rfl)
 intro t50 hL4
 unfold F.ref06.Cyclic_j5 at hL4
 refine sat_wc ?_
 refine c_cond rfl (fun h8 => ?_) (fun h8 => ?_)
 replace hL4 := ite_t h8 hL4
 refine c_skip (sat_wc (c_seq (c_block (c_seq (c_region (o_v (fa 2 rfl) rfl (o_v (vl 0 ty22 rfl rfl rfl) rfl (o_v (v_move rfl) rfl (ite_some hL4 fun h9 hL4 => o_v (v_indexAddr_s (xs := g_.Rules) (enc := eRule) sl22 rfl rfl (.f 0 rfl) h9) rfl (o_load_s (xs := g_.Rules) (enc := eRule) ty50 rfl (.f 0 rfl) h9 rfl rfl rfl rfl rfl rfl fun sa8 sn8 sc8 => o_alloc zero50 rfl rfl fun b1 => o_store_box 0 rfl ty50 rfl rfl rfl rfl rfl rfl rfl (o_seq (c_seq ?_))))))))))))
 refine c_region (o_v (v_assign rfl) rfl (o_seq ?_))
 obtain ⟨o6, ho6, hL4⟩ := bd hL4
 refine cT (fun E H Φ N' => Sat E [(0, .agg #[.int .i64 g_.Nts, .int .i64 g_.Start, .slice sa1 sn1 sc1]), (1, .pointer (some ⟨b, 0, none⟩)), (2, .bool false), (3, .int .i64 0), (4, .slice sa2 sn2 sc2), (5, .int .i64 v_.2), (6, .slice sa5 sn5 sc5), (7, .int .i64 left1), (8, .int .i64 n), (9, .int .i64 a_), (10, .bool o6.1), (11, .int .i64 i), (12, .pointer (some ⟨b1, 0, none⟩)), (13, .int .i64 o6.2)] H [(.slice sa1 sn1 sc1, .slice 2 (g_.Rules.map eRule)), (.slice sa8 sn8 sc8, .slice 5 (((at_ g_.Rules i).Rhs).map eKSym))] N') (fun N6 hN6 => ?_) ?_
 refine c_block ?_
 refine cL (fun E H Φ j a w => ∃ (free1 : Bool) (k_ : Int), F.ref06.Cyclic_l6 k g_ i v_ struck1 a_ j free1 k_ = some o6 /\ St E [(0, .agg #[.int .i64 g_.Nts, .int .i64 g_.Start, .slice sa1 sn1 sc1]), (1, .pointer (some ⟨b, 0, none⟩)), (2, .bool false), (3, .int .i64 0), (4, .slice sa2 sn2 sc2), (5, .int .i64 v_.2), (6, .slice sa5 sn5 sc5), (7, .int .i64 left1), (8, .int .i64 n), (9, .int .i64 a_), (10, .bool free1), (11, .int .i64 i), (12, .pointer (some ⟨b1, 0, none⟩)), (13, .int .i64 k_)] H [(.slice sa1 sn1 sc1, .slice 2 (g_.Rules.map eRule)), (.slice sa8 sn8 sc8, .slice 5 (((at_ g_.Rules i).Rhs).map eKSym))] a w) k ?_ ?_
 intro a w hs
 exact ⟨free, 0, ho6, st_le [0, 0, 0, 0] (lea rfl) rfl (subs [1, 0] rfl) a w hs⟩
 rintro j a w ⟨free1, k_, hL6, hs⟩
 rcases j with _ | j
 cases hL6
 refine wc_app hs ?_
 unfold F.ref06.Cyclic_l6 at hL6
 refine c_seq (c_seq ?_)
 refine cT (fun E H Φ N' => ∀ (t68 : Bool), F.ref06.Cyclic_j7 k g_ i k_ v_ struck1 (F.ref06.Cyclic_l6 k g_ i v_ struck1 a_ j) free1 t68 = some o6 -> Sat E [(0, .agg #[.int .i64 g_.Nts, .int .i64 g_.Start, .slice sa1 sn1 sc1]), (1, .pointer (some ⟨b, 0, none⟩)), (2, .bool false), (3, .int .i64 0), (4, .slice sa2 sn2 sc2), (5, .int .i64 v_.2), (6, .slice sa5 sn5 sc5), (7, .int .i64 left1), (8, .int .i64 n), (9, .int .i64 a_), (10, .bool free1), (11, .int .i64 i), (12, .pointer (some ⟨b1, 0, none⟩)), (13, .int .i64 k_), (68, .bool t68)] H Φ N') (fun N10 hN10 => ?_) ?_
 refine c_region (o_v (v_move rfl) rfl (o_v (fa 1 rfl) rfl (o_v (vl 0 ty48 rfl rfl rfl) rfl (o_v (v_lenS (enc := eKSym) ((at_ g_.Rules i).Rhs) sl48 rfl (.f 1 rfl)) rfl (o_v (v_bin rfl rfl rfl) rfl (o_v (v_move rfl) rfl ?_))))))
 refine o_split (t := 63) rfl (fun h16 => ?_) (fun h16 => ?_)
 replace hL6 := ite_t h16 hL6
 refine o_on rfl rfl (o_v (fa 0 rfl) rfl (o_on rfl rfl (o_v (vl 0 ty3 rfl rfl rfl) rfl (o_on rfl rfl (o_v (v_move rfl) rfl (o_on rfl rfl (o_v (v_bin rfl rfl rfl) rfl (o_v (v_pick_t rfl rfl) rfl (o_nil ?_)))))))))
 refine s_st ?_ (hN10 (((at_ g_.Rules i).Lhs) == a_) hL6)
 exact st_le [0, 0, 0, 0] (lea rfl) rfl (subs [0, 1] rfl)
 replace hL6 := ite_f h16 hL6
 refine o_off rfl rfl (by decide) rfl (o_off rfl rfl (by decide) rfl (o_off rfl rfl (by decide) rfl (o_off rfl rfl (by decide) rfl (o_v (v_pick_f rfl rfl) rfl (o_nil ?_)))))
 refine s_st ?_ (hN10 false hL6)
 exact st_le [0, 0, 0, 0] (lea rfl) rfl (subs [0, 1] rfl)
 intro t68 hL6
 unfold F.ref06.Cyclic_j7 at hL6
 refine sat_wc ?_
 refine c_cond rfl (fun h10 => ?_) (fun h10 => ?_)
 replace hL6 := ite_t h10 hL6
 refine c_skip (sat_wc (c_seq ?_))
 refine cT (fun E H Φ N' => ∀ (free2 : Bool), F.ref06.Cyclic_j8 (F.ref06.Cyclic_l6 k g_ i v_ struck1 a_ j) k_ free2 = some o6 -> Sat E [(0, .agg #[.int .i64 g_.Nts, .int .i64 g_.Start, .slice sa1 sn1 sc1]), (1, .pointer (some ⟨b, 0, none⟩)), (2, .bool false), (3, .int .i64 0), (4, .slice sa2 sn2 sc2), (5, .int .i64 v_.2), (6, .slice sa5 sn5 sc5), (7, .int .i64 left1), (8, .int .i64 n), (9, .int .i64 a_), (10, .bool free2), (11, .int .i64 i), (12, .pointer (some ⟨b1, 0, none⟩)), (13, .int .i64 k_)] H Φ N') (fun N8 hN8 => ?_) ?_
 refine c_block (c_seq ?_)
 refine cT (fun E H Φ N' => ∀ (t86 : Bool), F.ref06.Cyclic_j9 (F.ref06.Cyclic_l6 k g_ i v_ struck1 a_ j) k_ free1 t86 = some o6 -> Sat E [(0, .agg #[.int .i64 g_.Nts, .int .i64 g_.Start, .slice sa1 sn1 sc1]), (1, .pointer (some ⟨b, 0, none⟩)), (2, .bool false), (3, .int .i64 0), (4, .slice sa2 sn2 sc2), (5, .int .i64 v_.2), (6, .slice sa5 sn5 sc5), (7, .int .i64 left1), (8, .int .i64 n), (9, .int .i64 a_), (10, .bool free1), (11, .int .i64 i), (12, .pointer (some ⟨b1, 0, none⟩)), (13, .int .i64 k_), (86, .bool t86)] H Φ N') (fun N10 hN10 => ?_) ?_
 refine c_region (o_v (vl 0 ty50 rfl rfl rfl) rfl (o_v (v_move rfl) rfl (o_v (v_move rfl) rfl ?_)))
 obtain ⟨v_2, h12, hL6⟩ := bd hL6
 refine o_callSB call78 rfl (lent_f 1 rfl (lent_r 2 rfl lent_nil)) (tri78 h12 :) rfl (o_v (v_move rfl) rfl ?_)
 refine o_split (t := 75) rfl (fun h13 => ?_) (fun h13 => ?_)
 replace hL6 := ite_t h13 hL6
 refine o_on rfl rfl (o_v (v_move rfl) rfl (o_on rfl rfl (o_v (fa 1 rfl) rfl (o_on rfl rfl (o_v (vl 0 ty48 rfl rfl rfl) rfl (o_on rfl rfl (o_v (v_move rfl) rfl (o_on rfl rfl (ite_some hL6 fun h14 hL6 => o_v (v_indexAddr_s (xs := (at_ g_.Rules i).Rhs) (enc := eKSym) sl48 rfl rfl (.f 1 rfl) h14) rfl (o_on rfl rfl (o_v (v_fieldAddr (v := .pointer (some ⟨blkA sa8, offA sa8 + (Int.toNat k_ * 5 + 0), none⟩)) rfl (fun _ => by kernel_rfl)) rfl (o_on rfl rfl (o_v (v_load_s (xs := (at_ g_.Rules i).Rhs) (enc := eKSym) ty3 rfl (.f 1 rfl) h14 rfl rfl rfl rfl rfl rfl rfl) rfl (o_on rfl rfl ?_))))))))))))))
 refine ite_some hL6 fun h15 hL6 => o_v (v_indexAddr_s (xs := struck1) (enc := eB) sl79 rfl rfl (.r 3 _ rfl) h15) rfl (o_on rfl rfl (o_v (v_load_s (xs := struck1) (enc := eB) ty4 rfl (.r 3 _ rfl) h15 rfl rfl rfl rfl rfl rfl rfl) rfl (o_on rfl rfl (o_v (v_not rfl) rfl (o_v (v_pick_t rfl rfl) rfl (o_nil ?_))))))
 refine s_st ?_ (hN10 (!(at_ struck1 ((at_ ((at_ g_.Rules i).Rhs) k_).Nt))) hL6)
 exact st_le [0, 0, 0, 0] (lea rfl) rfl (subs [0, 1] rfl)
 replace hL6 := ite_f h13 hL6
 refine o_off rfl rfl (by decide) rfl (o_off rfl rfl (by decide) rfl (o_off rfl rfl (by decide) rfl (o_off rfl rfl (by decide) rfl (o_off rfl rfl (by decide) rfl (o_off rfl rfl (by decide) rfl (o_off rfl rfl (by decide) rfl (o_off rfl rfl (by decide) rfl (o_off rfl rfl (by decide) rfl (o_off rfl rfl (by decide) rfl (o_v (v_pick_f rfl rfl) rfl (o_nil ?_)))))))))))
 refine s_st ?_ (hN10 false hL6)
 exact st_le [0, 0, 0, 0] (lea rfl) rfl (subs [0, 1] rfl)
 intro t86 hL6
 unfold F.ref06.Cyclic_j9 at hL6
 refine sat_wc ?_
 refine cT (fun E H Φ N' => ∀ (free3 : Bool), F.ref06.Cyclic_j10 (F.ref06.Cyclic_l6 k g_ i v_ struck1 a_ j) k_ free3 = some o6 -> Sat E [(0, .agg #[.int .i64 g_.Nts, .int .i64 g_.Start, .slice sa1 sn1 sc1]), (1, .pointer (some ⟨b, 0, none⟩)), (2, .bool false), (3, .int .i64 0), (4, .slice sa2 sn2 sc2), (5, .int .i64 v_.2), (6, .slice sa5 sn5 sc5), (7, .int .i64 left1), (8, .int .i64 n), (9, .int .i64 a_), (10, .bool free3), (11, .int .i64 i), (12, .pointer (some ⟨b1, 0, none⟩)), (13, .int .i64 k_)] H Φ N') (fun N10 hN10 => ?_) ?_
 refine c_cond rfl (fun h11 => ?_) (fun h11 => ?_)
 replace hL6 := ite_t h11 hL6
 refine c_region (o_v (v_assign rfl) rfl (o_nil ?_))
 refine s_st ?_ (hN10 false hL6)
 exact st_le [0, 0, 0, 0] (lea rfl) rfl (subs [0, 1] rfl)
 replace hL6 := ite_f h11 hL6
 refine c_skip ?_
 refine s_st ?_ (hN10 free1 hL6)
 exact st_le [0, 0, 0, 0] (lea rfl) rfl (subs [0, 1] rfl)
 intro free3 hL6
 unfold F.ref06.Cyclic_j10 at hL6
 refine s_st ?_ (hN8 free3 hL6)
 exact st_le [0, 0, 0, 0] (lea rfl) rfl (subs [0, 1] rfl)
 intro free2 hL6
 unfold F.ref06.Cyclic_j8 at hL6
 refine sat_wc (c_region (o_v (v_move rfl) rfl (o_v (v_bin rfl rfl rfl) rfl (o_v (v_assign rfl) rfl (o_nil ?_)))))
 intro a w hs
 exact ⟨j, Nat.lt_succ_self j, free2, IntKind.wrap .i64 (k_ + 1), hL6, st_le [0, 0, 0, 0] (lea rfl) rfl (subs [0, 1] rfl) a w hs⟩
 replace hL6 := ite_f h10 hL6
 refine c_exit0 ?_
 cases hL6
 refine s_st ?_ (hN6)
 exact st_le [0, 0, 0, 0] (lea rfl) rfl (subs [0, 1] rfl)
 refine sat_wc (c_region (o_v (v_move rfl) rfl (o_v (v_bin rfl rfl rfl) rfl (o_v (v_assign rfl) rfl (o_nil ?_)))))
 intro a w hs
 exact ⟨j, Nat.lt_succ_self j, o6.1, IntKind.wrap .i64 (i + 1), hL4, st_le [1, 1, 1] (lea rfl) rfl (subs [0] rfl) a w hs⟩
 replace hL4 := ite_f h8 hL4
 refine c_exit0 ?_
 cases hL4
 refine s_st ?_ (hN4)
 exact st_le [0, 0, 0] (lea rfl) rfl (subs [0] rfl)
 refine sat_wc (c_seq (c_region (o_v (v_move rfl) rfl (o_seq ?_))))
 refine cT (fun E H Φ N' => ∀ (struck3 : List Bool) (left3 : Int) (sa9 : Option Addr) (sn9 sc9 : Nat), F.ref06.Cyclic_j11 (F.ref06.Cyclic_l2 k g_ v_ j) a_ struck3 left3 = some o2 -> Sat E [(0, .agg #[.int .i64 g_.Nts, .int .i64 g_.Start, .slice sa1 sn1 sc1]), (1, .pointer (some ⟨b, 0, none⟩)), (2, .bool false), (3, .int .i64 0), (4, .slice sa2 sn2 sc2), (5, .int .i64 v_.2), (6, .slice sa9 sn9 sc9), (7, .int .i64 left3), (8, .int .i64 n), (9, .int .i64 a_), (10, .bool o4.1), (11, .int .i64 o4.2)] [.box b 24 [.int .i64 g_.Nts, .int .i64 g_.Start, .slice sa1 sn1 sc1], .row (.slice sa2 sn2 sc2) 4 1 (v_.1.map eB), .row (.slice sa9 sn9 sc9) 4 1 (struck3.map eB)] Φ N') (fun N11 hN11 => ?_) ?_
 refine c_cond rfl (fun h18 => ?_) (fun h18 => ?_)
 replace hL2 := ite_t h18 hL2
 refine c_seq (c_region (o_v (v_move rfl) rfl (o_v (v_move rfl) rfl (o_v (v_indexAddr_s (xs := struck1) (enc := eB) sl79 rfl rfl (.r 2 _ rfl) h6) rfl (o_store_s (xs := struck1) (enc := eB) 2 true rfl ty4 rfl rfl rfl rfl h6 (.s rfl (.nil)) rfl rfl rfl (o_seq (c_region (o_v (v_move rfl) rfl (o_v (v_bin rfl rfl rfl) rfl (o_v (v_assign rfl) rfl (o_nil ?_)))))))))))
 refine s_st ?_ (hN11 (set_ struck1 a_ true) (IntKind.wrap .i64 (left1 - 1)) sa5 sn5 sc5 hL2)
 exact st_le [0, 0, 0] (lea rfl) rfl (subs [0] rfl)
 replace hL2 := ite_f h18 hL2
 refine c_skip ?_
 refine s_st ?_ (hN11 struck1 left1 sa5 sn5 sc5 hL2)
 exact st_le [0, 0, 0] (lea rfl) rfl (subs [0] rfl)
 intro struck3 left3 sa9 sn9 sc9 hL2
 unfold F.ref06.Cyclic_j11 at hL2
 refine s_st ?_ (hN3 struck3 left3 sa9 sn9 sc9 hL2)
 exact st_le [0, 0, 0] (lea rfl) rfl (subs [0] rfl)
 intro struck2 left2 sa7 sn7 sc7 hL2
 unfold F.ref06.Cyclic_j3 at hL2
 refine sat_wc (c_region (o_v (v_move rfl) rfl (o_v (v_bin rfl rfl rfl) rfl (o_v (v_assign rfl) rfl (o_nil ?_)))))
 intro a w hs
 exact ⟨j, Nat.lt_succ_self j, struck2, left2, IntKind.wrap .i64 (a_ + 1), sa7, sn7, sc7, hL2, st_le [0, 0, 0] (lea rfl) rfl (subs [0] rfl) a w hs⟩
 replace hL2 := ite_f h5 hL2
 refine c_exit0 ?_
 cases hL2
 refine s_st ?_ (hN2 sa5 sn5 sc5)
 exact st_le [0, 0, 0] (lea rfl) rfl (subs [0] rfl)
 intro sa6 sn6 sc6
 refine sat_wc (c_region (o_v (v_move rfl) rfl (o_v (v_bin rfl rfl rfl) rfl (o_v (v_assign rfl) rfl (o_nil ?_)))))
 intro a w hs
 exact ⟨j, Nat.lt_succ_self j, o2.1, o2.2.1, IntKind.wrap .i64 (n + 1), sa6, sn6, sc6, hL1, st_le [0, 0, 0] (lea rfl) rfl (subs [0] rfl) a w hs⟩
 replace hL1 := ite_f h4 hL1
 refine c_exit0 ?_
 cases hL1
 refine s_st ?_ (hN1)
 exact st_le [0] (lea rfl) rfl (subs [0] rfl)
 refine sat_wc (c_seq (c_region (o_v (v_move rfl) rfl (o_v (v_bin rfl rfl rfl) rfl (o_v (v_move rfl) rfl (o_v (v_assign rfl) rfl (o_v (v_assign rfl) rfl (o_seq (c_ret ?_)))))))))
 cases hF
 refine s_ret2 rfl (r_tmp rfl) (r_tmp rfl) fun a w hs => fin_sel hs [] ⟨rfl, rfl, rfl⟩ rfl sub_nil
theorem tri33 {k : Nat} {g_ : Gram} {w__ : List Int} {sa1 : Option Addr} {sn1 sc1 : Nat} {sa2 : Option Addr} {sn2 sc2 : Nat} {r : Int} (hF : F.ref08.Fit k g_ w__ = some r) :
  Tri Try.prog 33 [.agg #[.int .i64 g_.Nts, .int .i64 g_.Start, .slice sa1 sn1 sc1], .slice sa2 sn2 sc2] [] [(.slice sa1 sn1 sc1, .slice 2 (g_.Rules.map eRule)), (.slice sa2 sn2 sc2, .slice 1 (w__.map eU8))] (fun o H Φ => o = .ret (.int .i64 r) /\ H = [] /\ Φ = []) := by
 unfold F.ref08.Fit at hF
 refine tri_intro (n := 21) Try.func33 rfl Try.ntmps33 rfl fun w X => c_seq (c_region (o_box rfl rfl rfl fun b => o_v (v_assign rfl) rfl (o_seq (c_seq (c_region (o_v (vl 0 ty24 rfl rfl rfl) rfl (o_v (v_move rfl) rfl ?_)))))))
 obtain ⟨v_, h1, hF⟩ := bd hF
 refine o_callSB call56 rfl (lent_f 0 rfl (lent_f 1 rfl lent_nil)) (tri56 h1 :) rfl (o_v (v_assign rfl) rfl (o_seq (c_seq (c_seq (c_region (o_v (v_move rfl) rfl (o_v (v_bin rfl rfl rfl) rfl (o_seq ?_))))))))
 refine c_cond rfl (fun h2 => ?_) (fun h2 => ?_)
 replace hF := ite_t h2 hF
 refine c_seq (c_region (o_v (v_move rfl) rfl (o_v (v_assign rfl) rfl (o_seq (c_ret ?_)))))
 cases hF
 refine s_ret1 rfl (r_tmp rfl) fun a w hs => fin_sel hs [] ⟨rfl, rfl, rfl⟩ rfl sub_nil
 replace hF := ite_f h2 hF
 refine c_skip (sat_wc (c_seq (c_region (o_v (vl 0 ty24 rfl rfl rfl) rfl ?_))))
 obtain ⟨v_1, h3, hF⟩ := bd hF
 refine o_callSB call57 rfl (lent_f 0 rfl lent_nil) (tri57 h3 :) rfl (o_v (v_move rfl) rfl (o_v (v_extract rfl rfl) rfl (o_v (v_extract rfl rfl) rfl (o_v (v_assign rfl) rfl (o_v (v_assign rfl) rfl (o_seq (c_seq (c_seq (c_region (o_v (v_move rfl) rfl (o_seq ?_)))))))))))
 refine c_cond rfl (fun h4 => ?_) (fun h4 => ?_)
 replace hF := ite_t h4 hF
 refine c_seq (c_region (o_v (v_assign rfl) rfl (o_seq (c_ret ?_))))
 cases hF
 refine s_ret1 rfl (r_tmp rfl) fun a w hs => fin_sel hs [] ⟨rfl, rfl, rfl⟩ rfl sub_nil
 replace hF := ite_f h4 hF
 refine c_skip (sat_wc (c_seq (c_region (o_v (v_move rfl) rfl (o_v (v_assign rfl) rfl (o_seq (c_ret ?_)))))))
 cases hF
 refine s_ret1 rfl (r_tmp rfl) fun a w hs => fin_sel hs [] ⟨rfl, rfl, rfl⟩ rfl sub_nil
theorem tri59 {t : Ref07_Table} {a_ : Int} {i : Int} {j_ : Int} {b : Nat} {sa1 : Option Addr} {sn1 sc1 : Nat} {sa2 : Option Addr} {sn2 sc2 : Nat} {sa3 : Option Addr} {sn3 sc3 : Nat} {r : Int} (hF : F.ref07.Table_at t a_ i j_ = some r) :
  Tri Try.prog 59 [.pointer (some ⟨b, 0, none⟩), .int .i64 a_, .int .i64 i, .int .i64 j_] [.box b 81 [.int .i64 t.G.Nts, .int .i64 t.G.Start, .slice sa1 sn1 sc1, .slice sa2 sn2 sc2, .int .i64 t.N_, .slice sa3 sn3 sc3], .row (.slice sa3 sn3 sc3) 4 1 (t.Yes.map eB)] [(.slice sa1 sn1 sc1, .slice 2 (t.G.Rules.map eRule)), (.slice sa2 sn2 sc2, .slice 1 (t.W.map eU8))] (fun o H Φ => o = .ret (.int .i64 r) /\ H = [.box b 81 [.int .i64 t.G.Nts, .int .i64 t.G.Start, .slice sa1 sn1 sc1, .slice sa2 sn2 sc2, .int .i64 t.N_, .slice sa3 sn3 sc3], .row (.slice sa3 sn3 sc3) 4 1 (t.Yes.map eB)] /\ Φ = []) := by
 unfold F.ref07.Table_at at hF
 refine tri_intro (n := 26) Try.func59 rfl Try.ntmps59 rfl fun w X => c_seq (c_region (o_v (v_assign rfl) rfl (o_seq (c_seq (c_draw (n := 18) [0, 0] mixed rfl rfl (dv 0 rfl (v_move rfl) (dv 1 rfl (v_move rfl) (dv 2 rfl (v_nilCheck rfl) (dv 3 rfl (fa 4 rfl) (dv 4 rfl (vl 0 ty3 rfl rfl rfl) (dv 5 rfl (v_bin rfl rfl rfl) (dv 6 rfl (v_bin rfl rfl rfl) (dv 7 rfl (v_move rfl) (dv 8 rfl (v_bin rfl rfl rfl) ?_))))))))))))))
 refine dv 9 rfl (v_move rfl) (dv 10 rfl (v_nilCheck rfl) (dv 11 rfl (fa 4 rfl) (dv 12 rfl (vl 0 ty3 rfl rfl rfl) (dv 13 rfl (v_bin rfl rfl rfl) (dv 14 rfl (v_bin rfl rfl rfl) (dv 15 rfl (v_move rfl) (dv 16 rfl (v_bin rfl rfl rfl) (dv 17 rfl (v_assign rfl) (d_done_seq (by kernel_rfl) (c_ret ?_))))))))))
 cases hF
 refine s_ret1 rfl (r_tmp rfl) fun a w hs => fin_sel hs [0, 0] ⟨rfl, rfl, rfl⟩ rfl sub_nil
theorem tri47 {t : Ref07_Table} {a_ : Int} {i : Int} {j_ : Int} {b : Nat} {sa1 : Option Addr} {sn1 sc1 : Nat} {sa2 : Option Addr} {sn2 sc2 : Nat} {sa3 : Option Addr} {sn3 sc3 : Nat} {r : Bool} (hF : F.ref07.Table_Has t a_ i j_ = some r) :
  Tri Try.prog 47 [.pointer (some ⟨b, 0, none⟩), .int .i64 a_, .int .i64 i, .int .i64 j_] [.box b 81 [.int .i64 t.G.Nts, .int .i64 t.G.Start, .slice sa1 sn1 sc1, .slice sa2 sn2 sc2, .int .i64 t.N_, .slice sa3 sn3 sc3], .row (.slice sa3 sn3 sc3) 4 1 (t.Yes.map eB)] [(.slice sa1 sn1 sc1, .slice 2 (t.G.Rules.map eRule)), (.slice sa2 sn2 sc2, .slice 1 (t.W.map eU8))] (fun o H Φ => o = .ret (.bool r) /\ H = [.box b 81 [.int .i64 t.G.Nts, .int .i64 t.G.Start, .slice sa1 sn1 sc1, .slice sa2 sn2 sc2, .int .i64 t.N_, .slice sa3 sn3 sc3], .row (.slice sa3 sn3 sc3) 4 1 (t.Yes.map eB)] /\ Φ = []) := by
 unfold F.ref07.Table_Has at hF
 refine tri_intro (n := 20) Try.func47 rfl Try.ntmps47 rfl fun w X => c_seq (c_region (o_v (v_assign rfl) rfl (o_seq (c_seq (c_draw (n := 12) [0, 0] mixed rfl rfl (dv 0 rfl (v_move rfl) (dv 1 rfl (v_nilCheck rfl) (dv 2 rfl (fa 5 rfl) (dv 3 rfl (vl 0 ty79 rfl rfl rfl) (dv 4 rfl (v_move rfl) (dv 5 rfl (v_move rfl) (dv 6 rfl (v_move rfl) (dv 7 rfl (v_move rfl) (d_one 8 rfl (by kernel_rfl) ?_))))))))))))))
 obtain ⟨v_, h1, hF⟩ := bd hF
 refine ocl [0, 0] call59 rfl rfl (subs [0, 1] rfl) (tri59 h1 :) ?_
 rintro _ _ _ ⟨rfl, rfl, rfl⟩
 refine d_next [0, 0] 0 rfl rfl (ite_some hF fun h2 hF => dv 9 rfl (v_indexAddr_s (xs := t.Yes) (enc := eB) sl79 rfl rfl (.r 1 _ rfl) h2) (dv 10 rfl (v_load_s (xs := t.Yes) (enc := eB) ty4 rfl (.r 1 _ rfl) h2 rfl rfl rfl rfl rfl rfl rfl) (dv 11 rfl (v_assign rfl) (d_done_seq (by kernel_rfl) (c_ret ?_)))))
 cases hF
 refine s_ret1 rfl (r_tmp rfl) fun a w hs => fin_sel hs [0, 0] ⟨rfl, rfl, rfl⟩ rfl sub_nil
theorem tri44 {k : Nat} {s : S4} {n : Int} {r : Bool} (hF : F.ref01.Has k s n = some r) :
  Tri Try.prog 44 [.agg #[.int .u64 s.w0, .int .u64 s.w1, .int .u64 s.w2, .int .u64 s.w3], .int .i64 n] [] [] (fun o H Φ => o = .ret (.bool r) /\ H = [] /\ Φ = []) := by
 unfold F.ref01.Has at hF
 refine tri_intro (n := 40) Try.func44 rfl Try.ntmps44 rfl fun w X => c_seq (c_region (o_box rfl rfl rfl fun b => o_v (v_assign rfl) rfl (o_seq (c_seq (c_seq (c_region (o_v (v_move rfl) rfl (o_v (v_bin rfl rfl rfl) rfl (o_v (v_move rfl) rfl ?_)))))))))
 refine o_split (t := 9) rfl (fun h1 => ?_) (fun h1 => ?_)
 replace hF := ite_t h1 hF
 refine o_off rfl rfl (by decide) rfl (o_off rfl rfl (by decide) rfl (o_v (v_pick_t rfl rfl) rfl (o_seq ?_)))
 refine c_cond rfl (fun _ => ?_) (fun h => Bool.noConfusion h)
 refine c_seq (c_region (o_v (v_assign rfl) rfl (o_seq (c_ret ?_))))
 cases hF
 refine s_ret1 rfl (r_tmp rfl) fun a w hs => fin_sel hs [] ⟨rfl, rfl, rfl⟩ rfl sub_nil
 replace hF := ite_f h1 hF
 refine o_on rfl rfl (o_v (v_move rfl) rfl (o_on rfl rfl (o_v (v_bin rfl rfl rfl) rfl (o_v (v_pick_f rfl rfl) rfl (o_seq ?_)))))
 refine c_cond rfl (fun h2 => ?_) (fun h2 => ?_)
 replace hF := ite_t h2 hF
 refine c_seq (c_region (o_v (v_assign rfl) rfl (o_seq (c_ret ?_))))
 cases hF
 refine s_ret1 rfl (r_tmp rfl) fun a w hs => fin_sel hs [] ⟨rfl, rfl, rfl⟩ rfl sub_nil
 replace hF := ite_f h2 hF
 refine c_skip (sat_wc (c_seq (c_region (o_v (v_indexAddr_a ar45 rfl rfl rfl) rfl (o_v (vl 0 ty43 rfl rfl rfl) rfl (o_v (v_assign rfl) rfl (o_seq (c_seq (c_seq (c_region (o_v (v_move rfl) rfl (o_v (v_quo rfl rfl rfl) rfl (o_seq ?_)))))))))))))
 refine cT (fun E H Φ N' => ∀ (w__ : Int), F.ref01.Has_j1 k n w__ = some r -> Sat E [(0, .agg #[.int .u64 s.w0, .int .u64 s.w1, .int .u64 s.w2, .int .u64 s.w3]), (1, .int .i64 n), (2, .pointer (some ⟨b, 0, none⟩)), (4, .bool false), (5, .int .u64 w__)] H [] N') (fun N2 hN2 => ?_) ?_
 refine c_block (c_seq (c_region (o_v (v_bin rfl rfl rfl) rfl (o_v (v_assign rfl) rfl (o_seq ?_)))))
 refine c_cond rfl (fun h4 => ?_) (fun h4 => ?_)
 replace hF := ite_t h4 hF
 refine c_region (o_v (v_indexAddr_a ar45 rfl rfl rfl) rfl (o_v (vl 0 ty43 rfl rfl rfl) rfl (o_v (v_assign rfl) rfl (o_nil ?_))))
 refine s_st ?_ (hN2 s.w1 hF)
 exact st_le [0] (lea rfl) rfl sub_nil
 replace hF := ite_f h4 hF
 refine c_seq (c_region (o_v (v_bin rfl rfl rfl) rfl (o_v (v_assign rfl) rfl (o_seq ?_))))
 refine cT (fun E H Φ N' => ∀ (w__2 : Int), F.ref01.Has_j3 k n w__2 = some r -> Sat E [(0, .agg #[.int .u64 s.w0, .int .u64 s.w1, .int .u64 s.w2, .int .u64 s.w3]), (1, .int .i64 n), (2, .pointer (some ⟨b, 0, none⟩)), (4, .bool false), (5, .int .u64 w__2), (16, .int .i64 (gquo .i64 n 64))] H [] N') (fun N3 hN3 => ?_) ?_
 refine c_cond rfl (fun h5 => ?_) (fun h5 => ?_)
 replace hF := ite_t h5 hF
 refine c_region (o_v (v_indexAddr_a ar45 rfl rfl rfl) rfl (o_v (vl 0 ty43 rfl rfl rfl) rfl (o_v (v_assign rfl) rfl (o_nil ?_))))
 refine s_st ?_ (hN3 s.w2 hF)
 exact st_le [0] (lea rfl) rfl sub_nil
 replace hF := ite_f h5 hF
 refine c_seq (c_region (o_v (v_bin rfl rfl rfl) rfl (o_v (v_assign rfl) rfl (o_seq ?_))))
 refine c_cond rfl (fun h6 => ?_) (fun h6 => ?_)
 replace hF := ite_t h6 hF
 refine c_region (o_v (v_indexAddr_a ar45 rfl rfl rfl) rfl (o_v (vl 0 ty43 rfl rfl rfl) rfl (o_v (v_assign rfl) rfl (o_nil ?_))))
 refine s_st ?_ (hN3 s.w3 hF)
 exact st_le [0] (lea rfl) rfl sub_nil
 replace hF := ite_f h6 hF
 refine c_skip ?_
 refine s_st ?_ (hN3 s.w0 hF)
 exact st_le [0] (lea rfl) rfl sub_nil
 intro w__2 hF
 unfold F.ref01.Has_j3 at hF
 refine s_st ?_ (hN2 w__2 hF)
 exact st_le [0] (lea rfl) rfl sub_nil
 intro w__ hF
 unfold F.ref01.Has_j1 at hF
 refine sat_wc (c_seq (c_seq (c_region (o_v (v_assign rfl) rfl (o_seq ?_)))))
 obtain ⟨o2, ho2, hF⟩ := bd hF
 refine cT (fun E H Φ N' => Sat E [(0, .agg #[.int .u64 s.w0, .int .u64 s.w1, .int .u64 s.w2, .int .u64 s.w3]), (1, .int .i64 n), (2, .pointer (some ⟨b, 0, none⟩)), (4, .bool false), (5, .int .u64 o2)] H [] N') (fun N2 hN2 => ?_) ?_
 refine c_block ?_
 refine cL (fun E H Φ j a w => ∃ (w__1 : Int) (i : Int), F.ref01.Has_l2 n j w__1 i = some o2 /\ St E [(0, .agg #[.int .u64 s.w0, .int .u64 s.w1, .int .u64 s.w2, .int .u64 s.w3]), (1, .int .i64 n), (2, .pointer (some ⟨b, 0, none⟩)), (4, .bool false), (5, .int .u64 w__1), (6, .int .i64 i)] H [] a w) k ?_ ?_
 intro a w hs
 exact ⟨w__, 0, ho2, st_le [0] (lea rfl) rfl sub_nil a w hs⟩
 rintro j a w ⟨w__1, i, hL2, hs⟩
 rcases j with _ | j
 cases hL2
 refine wc_app hs ?_
 unfold F.ref01.Has_l2 at hL2
 refine c_seq (c_seq (c_region (o_v (v_move rfl) rfl (o_v (v_move rfl) rfl (o_v (v_rem rfl rfl rfl) rfl (o_v (v_bin rfl rfl rfl) rfl (o_seq ?_)))))))
 refine c_cond rfl (fun h3 => ?_) (fun h3 => ?_)
 replace hL2 := ite_t h3 hL2
 refine c_skip (sat_wc (c_seq (c_block (c_region (o_v (v_move rfl) rfl (o_v (v_quo rfl rfl rfl) rfl (o_v (v_assign rfl) rfl (o_nil (sat_wc (c_region (o_v (v_move rfl) rfl (o_v (v_bin rfl rfl rfl) rfl (o_v (v_assign rfl) rfl (o_nil ?_))))))))))))))
 intro a w hs
 exact ⟨j, Nat.lt_succ_self j, gquo .u64 w__1 2, IntKind.wrap .i64 (i + 1), hL2, st_le [0] (lea rfl) rfl sub_nil a w hs⟩
 replace hL2 := ite_f h3 hL2
 refine c_exit0 ?_
 cases hL2
 refine s_st ?_ (hN2)
 exact st_le [0] (lea rfl) rfl sub_nil
 refine sat_wc (c_seq (c_region (o_v (v_move rfl) rfl (o_v (v_rem rfl rfl rfl) rfl (o_v (v_bin rfl rfl rfl) rfl (o_v (v_assign rfl) rfl (o_seq (c_ret ?_))))))))
 cases hF
 refine s_ret1 rfl (r_tmp rfl) fun a w hs => fin_sel hs [] ⟨rfl, rfl, rfl⟩ rfl sub_nil
theorem tri67 {k : Nat} {t : Ref07_Table} {s : KSym} {i : Int} {j_ : Int} {b : Nat} {sa1 : Option Addr} {sn1 sc1 : Nat} {sa2 : Option Addr} {sn2 sc2 : Nat} {sa3 : Option Addr} {sn3 sc3 : Nat} {r : Bool} (hF : F.ref07.Table_Sym k t s i j_ = some r) :
  Tri Try.prog 67 [.pointer (some ⟨b, 0, none⟩), .agg #[.int .i64 s.Nt, .int .u64 s.Set.w0, .int .u64 s.Set.w1, .int .u64 s.Set.w2, .int .u64 s.Set.w3], .int .i64 i, .int .i64 j_] [.box b 81 [.int .i64 t.G.Nts, .int .i64 t.G.Start, .slice sa1 sn1 sc1, .slice sa2 sn2 sc2, .int .i64 t.N_, .slice sa3 sn3 sc3], .row (.slice sa3 sn3 sc3) 4 1 (t.Yes.map eB)] [(.slice sa1 sn1 sc1, .slice 2 (t.G.Rules.map eRule)), (.slice sa2 sn2 sc2, .slice 1 (t.W.map eU8))] (fun o H Φ => o = .ret (.bool r) /\ H = [.box b 81 [.int .i64 t.G.Nts, .int .i64 t.G.Start, .slice sa1 sn1 sc1, .slice sa2 sn2 sc2, .int .i64 t.N_, .slice sa3 sn3 sc3], .row (.slice sa3 sn3 sc3) 4 1 (t.Yes.map eB)] /\ Φ = []) := by
 unfold F.ref07.Table_Sym at hF
 refine tri_intro (n := 35) Try.func67 rfl Try.ntmps67 rfl fun w X => c_seq (c_region (o_box rfl rfl rfl fun b1 => o_v (v_assign rfl) rfl (o_seq (c_seq (c_seq (c_region (o_v (fa 0 rfl) rfl (o_v (vl 0 ty3 rfl rfl rfl) rfl (o_v (v_bin rfl rfl rfl) rfl (o_seq ?_))))))))))
 refine c_cond rfl (fun h1 => ?_) (fun h1 => ?_)
 replace hF := ite_t h1 hF
 refine c_seq (c_region (o_v (v_move rfl) rfl (o_v (fa 0 rfl) rfl (o_v (vl 0 ty3 rfl rfl rfl) rfl (o_v (v_move rfl) rfl (o_v (v_move rfl) rfl ?_))))))
 obtain ⟨v_, h2, hF⟩ := bd hF
 refine ocl [1, 1] call47 rfl rfl (subs [0, 1] rfl) (tri47 h2 :) ?_
 rintro _ _ _ ⟨rfl, rfl, rfl⟩
 refine o_v (v_assign rfl) rfl (o_seq (c_ret ?_))
 cases hF
 refine s_ret1 rfl (r_tmp rfl) fun a w hs => fin_sel hs [0, 0] ⟨rfl, rfl, rfl⟩ rfl sub_nil
 replace hF := ite_f h1 hF
 refine c_skip (sat_wc (c_seq (c_draw (n := 18) [0, 0, 0] mixed rfl rfl (dv 0 rfl (v_move rfl) (dv 1 rfl (v_move rfl) (dv 2 rfl (v_bin rfl rfl rfl) (dv 3 rfl (v_bin rfl rfl rfl) (dv 4 rfl (v_move rfl) ?_))))))))
 refine d_split (t := 22) rfl (fun h3 => ?_) (fun h3 => ?_)
 replace hF := ite_t h3 hF
 refine dw 5 rfl rfl rfl (fa 1 rfl) (dw 6 rfl rfl rfl (vl 0 ty45 rfl rfl rfl) (dw 7 rfl rfl rfl (v_move rfl) (dw 8 rfl rfl rfl (v_nilCheck rfl) (dw 9 rfl rfl rfl (fa 3 rfl) (dw 10 rfl rfl rfl (vl 1 ty25 rfl rfl rfl) (dw 11 rfl rfl rfl (v_move rfl) (ite_some hF fun h4 hF => dw 12 rfl rfl rfl (v_indexAddr_s (xs := t.W) (enc := eU8) sl25 rfl rfl (.f 1 rfl) h4) (dw 13 rfl rfl rfl (v_load_s (xs := t.W) (enc := eU8) ty5 rfl (.f 1 rfl) h4 rfl rfl rfl rfl rfl rfl rfl) (dw 14 rfl rfl rfl (v_convert (v := .int .i64 (IntKind.wrap .i64 (at_ t.W i))) rfl (fun _ => by kernel_rfl)) (d_one 15 rfl (by kernel_rfl) (o_on rfl rfl ?_)))))))))))
 obtain ⟨v_1, h5, hF⟩ := bd hF
 refine o_callSB call44 rfl lent_nil (tri44 h5 :) rfl (d_next [0, 0, 0] 0 rfl rfl (dv 16 rfl (v_pick_t rfl rfl) (dv 17 rfl (v_assign rfl) (d_done_seq (by kernel_rfl) (c_ret ?_)))))
 cases hF
 refine s_ret1 rfl (r_tmp rfl) fun a w hs => fin_sel hs [1, 1] ⟨rfl, rfl, rfl⟩ rfl sub_nil
 replace hF := ite_f h3 hF
 refine d_off 5 rfl rfl rfl (by decide) pnok (by kernel_rfl) (by kernel_rfl) (by kernel_rfl) rfl (d_off 6 rfl rfl rfl (by decide) pnok (by kernel_rfl) (by kernel_rfl) (by kernel_rfl) rfl (d_off 7 rfl rfl rfl (by decide) pnok (by kernel_rfl) (by kernel_rfl) (by kernel_rfl) rfl (d_off 8 rfl rfl rfl (by decide) pnok (by kernel_rfl) (by kernel_rfl) (by kernel_rfl) rfl (d_off 9 rfl rfl rfl (by decide) pnok (by kernel_rfl) (by kernel_rfl) (by kernel_rfl) rfl (d_off 10 rfl rfl rfl (by decide) pnok (by kernel_rfl) (by kernel_rfl) (by kernel_rfl) rfl (d_off 11 rfl rfl rfl (by decide) pnok (by kernel_rfl) (by kernel_rfl) (by kernel_rfl) rfl (d_off 12 rfl rfl rfl (by decide) pnok (by kernel_rfl) (by kernel_rfl) (by kernel_rfl) rfl (d_off 13 rfl rfl rfl (by decide) pnok (by kernel_rfl) (by kernel_rfl) (by kernel_rfl) rfl (d_off 14 rfl rfl rfl (by decide) pnok (by kernel_rfl) (by kernel_rfl) (by kernel_rfl) rfl (d_off 15 rfl rfl rfl (by decide) pnok (by kernel_rfl) (by kernel_rfl) (by kernel_rfl) rfl (dv 16 rfl (v_pick_f rfl rfl) (dv 17 rfl (v_assign rfl) (d_done_seq (by kernel_rfl) (c_ret ?_))))))))))))))
 cases hF
 refine s_ret1 rfl (r_tmp rfl) fun a w hs => fin_sel hs [1, 1] ⟨rfl, rfl, rfl⟩ rfl sub_nil
theorem tri58 {k : Nat} {t : Ref07_Table} {rhs : List KSym} {i : Int} {b : Nat} {sa1 : Option Addr} {sn1 sc1 : Nat} {sa2 : Option Addr} {sn2 sc2 : Nat} {sa3 : Option Addr} {sn3 sc3 : Nat} {sa4 : Option Addr} {sn4 sc4 : Nat} {r : List Bool} (hF : F.ref07.Table_Ends k t rhs i = some r) :
  Tri Try.prog 58 [.pointer (some ⟨b, 0, none⟩), .slice sa4 sn4 sc4, .int .i64 i] [.box b 81 [.int .i64 t.G.Nts, .int .i64 t.G.Start, .slice sa1 sn1 sc1, .slice sa2 sn2 sc2, .int .i64 t.N_, .slice sa3 sn3 sc3], .row (.slice sa3 sn3 sc3) 4 1 (t.Yes.map eB)] [(.slice sa1 sn1 sc1, .slice 2 (t.G.Rules.map eRule)), (.slice sa2 sn2 sc2, .slice 1 (t.W.map eU8)), (.slice sa4 sn4 sc4, .slice 5 (rhs.map eKSym))] (fun o H Φ => ∃ (sa15 : Option Addr) (sn15 sc15 : Nat), o = .ret (.slice sa15 sn15 sc15) /\ H = [.box b 81 [.int .i64 t.G.Nts, .int .i64 t.G.Start, .slice sa1 sn1 sc1, .slice sa2 sn2 sc2, .int .i64 t.N_, .slice sa3 sn3 sc3], .row (.slice sa3 sn3 sc3) 4 1 (t.Yes.map eB), .row (.slice sa15 sn15 sc15) 4 1 (r.map eB)] /\ Φ = []) := by
 unfold F.ref07.Table_Ends at hF
 refine tri_intro (n := 72) Try.func58 rfl Try.ntmps58 rfl fun w X => c_seq (c_region (o_v (v_assign rfl) rfl (o_seq (c_seq (c_region (o_v (v_assign rfl) rfl (o_seq (c_seq (c_seq (c_region (o_v (v_assign rfl) rfl (o_seq ?_))))))))))))
 obtain ⟨o1, ho1, hF⟩ := bd hF
 refine c_cut (fun E N' => ∀ (sa6 : Option Addr) (sn6 sc6 : Nat), Sat E [(0, .pointer (some ⟨b, 0, none⟩)), (1, .slice sa4 sn4 sc4), (2, .int .i64 i), (6, .slice none 0 0), (7, .slice sa6 sn6 sc6)] [.box b 81 [.int .i64 t.G.Nts, .int .i64 t.G.Start, .slice sa1 sn1 sc1, .slice sa2 sn2 sc2, .int .i64 t.N_, .slice sa3 sn3 sc3], .row (.slice sa6 sn6 sc6) 4 1 (o1.map eB), .row (.slice sa3 sn3 sc3) 4 1 (t.Yes.map eB)] [(.slice sa4 sn4 sc4, .slice 5 (rhs.map eKSym)), (.slice sa1 sn1 sc1, .slice 2 (t.G.Rules.map eRule)), (.slice sa2 sn2 sc2, .slice 1 (t.W.map eU8))] N') (fun N1 hN1 => ?_) ?_
 refine c_block ?_
 refine c_loopE (fun E j a w => ∃ (now : List Bool) (j_ : Int) (sa5 : Option Addr) (sn5 sc5 : Nat), F.ref07.Table_Ends_l1 t i j now j_ = some o1 /\ St E [(0, .pointer (some ⟨b, 0, none⟩)), (1, .slice sa4 sn4 sc4), (2, .int .i64 i), (6, .slice none 0 0), (7, .slice sa5 sn5 sc5), (8, .int .i64 j_)] [.box b 81 [.int .i64 t.G.Nts, .int .i64 t.G.Start, .slice sa1 sn1 sc1, .slice sa2 sn2 sc2, .int .i64 t.N_, .slice sa3 sn3 sc3], .row (.slice sa5 sn5 sc5) 4 1 (now.map eB), .row (.slice sa3 sn3 sc3) 4 1 (t.Yes.map eB)] [(.slice sa4 sn4 sc4, .slice 5 (rhs.map eKSym)), (.slice sa1 sn1 sc1, .slice 2 (t.G.Rules.map eRule)), (.slice sa2 sn2 sc2, .slice 1 (t.W.map eU8))] a w) k ?_ ?_
 refine s_st (st_nilrow 4 1) ?_
 intro a w hs
 exact ⟨([] : List Bool), 0, none, 0, 0, ho1, st_le [1, 0, 0] (lea rfl) rfl (subs [2, 0, 1] rfl) a w hs⟩
 rintro j a w ⟨now, j_, sa5, sn5, sc5, hL1, hs⟩
 rcases j with _ | j
 cases hL1
 refine wc_app hs ?_
 unfold F.ref07.Table_Ends_l1 at hL1
 refine c_seq (c_seq (c_region (o_v (v_move rfl) rfl (o_v (v_move rfl) rfl (o_v (v_nilCheck rfl) rfl (o_v (fa 4 rfl) rfl (o_v (vl 0 ty3 rfl rfl rfl) rfl (o_v (v_bin rfl rfl rfl) rfl (o_seq ?_)))))))))
 refine c_cond rfl (fun h1 => ?_) (fun h1 => ?_)
 replace hL1 := ite_t h1 hL1
 refine c_skip (sat_wc (c_seq (c_block (c_region (o_v (v_move rfl) rfl (o_v (v_move rfl) rfl (o_v (v_move rfl) rfl (o_v (v_bin rfl rfl rfl) rfl (o_buildSlice (enc := eB) ([(j_ == i)] : List Bool) [.bool (j_ == i)] sl79 rfl (fun _ => by kernel_rfl) rfl rfl rfl (.s rfl (.nil)) rfl fun sa7 sn7 sc7 => ite_some hL1 fun h2 hL1 => ite_some hL1 fun h3 hL1 => o_append (enc := eB) (xs := now) (ys := ([(j_ == i)] : List Bool)) 2 sl79 rfl rfl rfl (.r 0 _ rfl) h2 h3 rfl fun sa8 sn8 sc8 => o_v (v_assign rfl) rfl (o_nil (sat_wc ?_)))))))))))
 refine c_region (o_v (v_move rfl) rfl (o_v (v_bin rfl rfl rfl) rfl (o_v (v_assign rfl) rfl (o_nil ?_))))
 intro a w hs
 exact ⟨j, Nat.lt_succ_self j, (now ++ ([(j_ == i)] : List Bool)), IntKind.wrap .i64 (j_ + 1), sa8, sn8, sc8, hL1, st_le [1, 1, 1] (lea rfl) rfl (subs [0, 1, 2] rfl) a w hs⟩
 replace hL1 := ite_f h1 hL1
 refine c_exit0 ?_
 cases hL1
 refine s_st ?_ (hN1 sa5 sn5 sc5)
 exact st_le [0, 0, 0] (lea rfl) rfl (subs [0, 1, 2] rfl)
 intro sa6 sn6 sc6
 refine sat_wc (c_seq (c_seq (c_region (o_v (v_assign rfl) rfl (o_seq ?_)))))
 obtain ⟨o2, ho2, hF⟩ := bd hF
 refine c_cut (fun E N' => ∀ (sa10 : Option Addr) (sn10 sc10 : Nat), Sat E [(0, .pointer (some ⟨b, 0, none⟩)), (2, .int .i64 i), (6, .slice none 0 0), (7, .slice sa10 sn10 sc10)] [.box b 81 [.int .i64 t.G.Nts, .int .i64 t.G.Start, .slice sa1 sn1 sc1, .slice sa2 sn2 sc2, .int .i64 t.N_, .slice sa3 sn3 sc3], .row (.slice sa10 sn10 sc10) 4 1 (o2.map eB), .row (.slice sa3 sn3 sc3) 4 1 (t.Yes.map eB)] [(.slice sa1 sn1 sc1, .slice 2 (t.G.Rules.map eRule)), (.slice sa2 sn2 sc2, .slice 1 (t.W.map eU8))] N') (fun N2 hN2 => ?_) ?_
 refine c_block ?_
 refine cL (fun E H Φ j a w => ∃ (now1 : List Bool) (k_ : Int) (sa9 : Option Addr) (sn9 sc9 : Nat), F.ref07.Table_Ends_l2 k rhs t i j now1 k_ = some o2 /\ St E [(0, .pointer (some ⟨b, 0, none⟩)), (1, .slice sa4 sn4 sc4), (2, .int .i64 i), (6, .slice none 0 0), (7, .slice sa9 sn9 sc9), (9, .int .i64 k_)] [.box b 81 [.int .i64 t.G.Nts, .int .i64 t.G.Start, .slice sa1 sn1 sc1, .slice sa2 sn2 sc2, .int .i64 t.N_, .slice sa3 sn3 sc3], .row (.slice sa9 sn9 sc9) 4 1 (now1.map eB), .row (.slice sa3 sn3 sc3) 4 1 (t.Yes.map eB)] Φ a w) k ?_ ?_
 intro a w hs
 exact ⟨o1, 0, sa6, sn6, sc6, ho2, st_le [0, 0, 0] (lea rfl) rfl (subs [0, 1, 2] rfl) a w hs⟩
 rintro j a w ⟨now1, k_, sa9, sn9, sc9, hL2, hs⟩
 rcases j with _ | j
 cases hL2
 refine wc_app hs ?_
 unfold F.ref07.Table_Ends_l2 at hL2
 refine c_seq (c_seq (c_region (o_v (v_move rfl) rfl (o_v (v_move rfl) rfl (o_v (v_lenS (enc := eKSym) rhs sl48 rfl (.f 0 rfl)) rfl (o_v (v_bin rfl rfl rfl) rfl (o_seq ?_)))))))
 refine c_cond rfl (fun h4 => ?_) (fun h4 => ?_)
 replace hL2 := ite_t h4 hL2
 refine c_skip (sat_wc (c_seq (c_block (c_seq (c_region (o_v (v_assign rfl) rfl (o_seq (c_seq (c_seq (c_region (o_v (v_assign rfl) rfl (o_seq ?_))))))))))))
 obtain ⟨o3, ho3, hL2⟩ := bd hL2
 refine cT (fun E H Φ N' => ∀ (sa12 : Option Addr) (sn12 sc12 : Nat), Sat E [(0, .pointer (some ⟨b, 0, none⟩)), (1, .slice sa4 sn4 sc4), (2, .int .i64 i), (6, .slice none 0 0), (7, .slice sa9 sn9 sc9), (9, .int .i64 k_), (10, .slice sa12 sn12 sc12), (11, .int .i64 o3.2)] [.box b 81 [.int .i64 t.G.Nts, .int .i64 t.G.Start, .slice sa1 sn1 sc1, .slice sa2 sn2 sc2, .int .i64 t.N_, .slice sa3 sn3 sc3], .row (.slice sa9 sn9 sc9) 4 1 (now1.map eB), .row (.slice sa12 sn12 sc12) 4 1 (o3.1.map eB), .row (.slice sa3 sn3 sc3) 4 1 (t.Yes.map eB)] Φ N') (fun N3 hN3 => ?_) ?_
 refine c_block ?_
 refine cL (fun E H Φ j a w => ∃ (next_ : List Bool) (j_1 : Int) (sa11 : Option Addr) (sn11 sc11 : Nat), F.ref07.Table_Ends_l3 k t now1 k_ rhs i j next_ j_1 = some o3 /\ St E [(0, .pointer (some ⟨b, 0, none⟩)), (1, .slice sa4 sn4 sc4), (2, .int .i64 i), (6, .slice none 0 0), (7, .slice sa9 sn9 sc9), (9, .int .i64 k_), (10, .slice sa11 sn11 sc11), (11, .int .i64 j_1)] [.box b 81 [.int .i64 t.G.Nts, .int .i64 t.G.Start, .slice sa1 sn1 sc1, .slice sa2 sn2 sc2, .int .i64 t.N_, .slice sa3 sn3 sc3], .row (.slice sa9 sn9 sc9) 4 1 (now1.map eB), .row (.slice sa11 sn11 sc11) 4 1 (next_.map eB), .row (.slice sa3 sn3 sc3) 4 1 (t.Yes.map eB)] Φ a w) k ?_ ?_
 refine s_st (st_nilrow 4 1) ?_
 intro a w hs
 exact ⟨([] : List Bool), 0, none, 0, 0, ho3, st_le [1, 1, 0, 0] (lea rfl) rfl (subs [0, 1, 2] rfl) a w hs⟩
 rintro j a w ⟨next_, j_1, sa11, sn11, sc11, hL3, hs⟩
 rcases j with _ | j
 cases hL3
 refine wc_app hs ?_
 unfold F.ref07.Table_Ends_l3 at hL3
 refine c_seq (c_seq (c_region (o_v (v_move rfl) rfl (o_v (v_move rfl) rfl (o_v (v_nilCheck rfl) rfl (o_v (fa 4 rfl) rfl (o_v (vl 0 ty3 rfl rfl rfl) rfl (o_v (v_bin rfl rfl rfl) rfl (o_seq ?_)))))))))
 refine c_cond rfl (fun h5 => ?_) (fun h5 => ?_)
 replace hL3 := ite_t h5 hL3
 refine c_skip (sat_wc (c_seq (c_block (c_seq (c_region (o_v (v_assign rfl) rfl (o_seq (c_seq (c_seq (c_region (o_v (v_move rfl) rfl (o_v (v_assign rfl) rfl (o_seq ?_)))))))))))))
 obtain ⟨o4, ho4, hL3⟩ := bd hL3
 refine cT (fun E H Φ N' => Sat E [(0, .pointer (some ⟨b, 0, none⟩)), (1, .slice sa4 sn4 sc4), (2, .int .i64 i), (6, .slice none 0 0), (7, .slice sa9 sn9 sc9), (9, .int .i64 k_), (10, .slice sa11 sn11 sc11), (11, .int .i64 j_1), (12, .bool o4.1), (13, .int .i64 o4.2)] H Φ N') (fun N4 hN4 => ?_) ?_
 refine c_block ?_
 refine cL (fun E H Φ j a w => ∃ (is : Bool) (m : Int), F.ref07.Table_Ends_l4 k j_1 now1 k_ rhs t j is m = some o4 /\ St E [(0, .pointer (some ⟨b, 0, none⟩)), (1, .slice sa4 sn4 sc4), (2, .int .i64 i), (6, .slice none 0 0), (7, .slice sa9 sn9 sc9), (9, .int .i64 k_), (10, .slice sa11 sn11 sc11), (11, .int .i64 j_1), (12, .bool is), (13, .int .i64 m)] H Φ a w) k ?_ ?_
 intro a w hs
 exact ⟨false, i, ho4, st_le [0, 0, 0, 0] (lea rfl) rfl (subs [0, 1, 2] rfl) a w hs⟩
 rintro j a w ⟨is, m, hL4, hs⟩
 rcases j with _ | j
 cases hL4
 refine wc_app hs ?_
 unfold F.ref07.Table_Ends_l4 at hL4
 refine c_seq (c_seq ?_)
 refine cT (fun E H Φ N' => ∀ (t49 : Bool), F.ref07.Table_Ends_j5 k m now1 k_ rhs t j_1 (F.ref07.Table_Ends_l4 k j_1 now1 k_ rhs t j) is t49 = some o4 -> Sat E [(0, .pointer (some ⟨b, 0, none⟩)), (1, .slice sa4 sn4 sc4), (2, .int .i64 i), (6, .slice none 0 0), (7, .slice sa9 sn9 sc9), (9, .int .i64 k_), (10, .slice sa11 sn11 sc11), (11, .int .i64 j_1), (12, .bool is), (13, .int .i64 m), (49, .bool t49)] H Φ N') (fun N7 hN7 => ?_) ?_
 refine c_region (o_v (v_move rfl) rfl (o_v (v_move rfl) rfl (o_v (v_bin rfl rfl rfl) rfl (o_v (v_move rfl) rfl ?_))))
 refine o_split (t := 46) rfl (fun h11 => ?_) (fun h11 => ?_)
 replace hL4 := ite_t h11 hL4
 refine o_on rfl rfl (o_v (v_move rfl) rfl (o_on rfl rfl (o_v (v_not rfl) rfl (o_v (v_pick_t rfl rfl) rfl (o_nil ?_)))))
 refine s_st ?_ (hN7 (!is) hL4)
 exact st_le [0, 0, 0, 0] (lea rfl) rfl (subs [0, 1, 2] rfl)
 replace hL4 := ite_f h11 hL4
 refine o_off rfl rfl (by decide) rfl (o_off rfl rfl (by decide) rfl (o_v (v_pick_f rfl rfl) rfl (o_nil ?_)))
 refine s_st ?_ (hN7 false hL4)
 exact st_le [0, 0, 0, 0] (lea rfl) rfl (subs [0, 1, 2] rfl)
 intro t49 hL4
 unfold F.ref07.Table_Ends_j5 at hL4
 refine sat_wc ?_
 refine c_cond rfl (fun h6 => ?_) (fun h6 => ?_)
 replace hL4 := ite_t h6 hL4
 refine c_skip (sat_wc (c_seq ?_))
 refine cT (fun E H Φ N' => ∀ (is1 : Bool), F.ref07.Table_Ends_j6 (F.ref07.Table_Ends_l4 k j_1 now1 k_ rhs t j) m is1 = some o4 -> Sat E [(0, .pointer (some ⟨b, 0, none⟩)), (1, .slice sa4 sn4 sc4), (2, .int .i64 i), (6, .slice none 0 0), (7, .slice sa9 sn9 sc9), (9, .int .i64 k_), (10, .slice sa11 sn11 sc11), (11, .int .i64 j_1), (12, .bool is1), (13, .int .i64 m)] H Φ N') (fun N6 hN6 => ?_) ?_
 refine c_block ?_
 refine cT (fun E H Φ N' => ∀ (is2 : Bool), F.ref07.Table_Ends_j7 (F.ref07.Table_Ends_l4 k j_1 now1 k_ rhs t j) m is2 = some o4 -> Sat E [(0, .pointer (some ⟨b, 0, none⟩)), (1, .slice sa4 sn4 sc4), (2, .int .i64 i), (6, .slice none 0 0), (7, .slice sa9 sn9 sc9), (9, .int .i64 k_), (10, .slice sa11 sn11 sc11), (11, .int .i64 j_1), (12, .bool is2), (13, .int .i64 m)] H Φ N') (fun N7 hN7 => ?_) ?_
 refine c_region (o_v (v_move rfl) rfl (o_v (v_move rfl) rfl (ite_some hL4 fun h7 hL4 => o_v (v_indexAddr_s (xs := now1) (enc := eB) sl79 rfl rfl (.r 1 _ rfl) h7) rfl (o_v (v_load_s (xs := now1) (enc := eB) ty4 rfl (.r 1 _ rfl) h7 rfl rfl rfl rfl rfl rfl rfl) rfl (o_v (v_move rfl) rfl ?_)))))
 refine o_split (t := 56) rfl (fun h8 => ?_) (fun h8 => ?_)
 replace hL4 := ite_t h8 hL4
 refine o_on rfl rfl (o_v (v_move rfl) rfl (o_on rfl rfl (o_v (v_move rfl) rfl (o_on rfl rfl (o_v (v_move rfl) rfl (o_on rfl rfl (ite_some hL4 fun h9 hL4 => o_v (v_indexAddr_s (xs := rhs) (enc := eKSym) sl48 rfl rfl (.f 0 rfl) h9) rfl (o_on rfl rfl (o_v (v_load_s (xs := rhs) (enc := eKSym) ty47 rfl (.f 0 rfl) h9 rfl rfl rfl rfl rfl rfl rfl) rfl (o_on rfl rfl (o_v (v_move rfl) rfl (o_on rfl rfl (o_v (v_move rfl) rfl (o_on rfl rfl ?_))))))))))))))
 obtain ⟨v_, h10, hL4⟩ := bd hL4
 refine ocl [0, 2] call67 rfl rfl (subs [1, 2] rfl) (tri67 h10 :) ?_
 rintro _ _ _ ⟨rfl, rfl, rfl⟩
 refine o_v (v_pick_t rfl rfl) rfl (o_v (v_assign rfl) rfl (o_nil ?_))
 refine s_st ?_ (hN7 v_ hL4)
 exact st_le [0, 1, 1, 0] (lea rfl) rfl (subs [0, 1, 2] rfl)
 replace hL4 := ite_f h8 hL4
 refine o_off rfl rfl (by decide) rfl (o_off rfl rfl (by decide) rfl (o_off rfl rfl (by decide) rfl (o_off rfl rfl (by decide) rfl (o_off rfl rfl (by decide) rfl (o_off rfl rfl (by decide) rfl (o_off rfl rfl (by decide) rfl (o_off rfl rfl (by decide) rfl (o_v (v_pick_f rfl rfl) rfl (o_v (v_assign rfl) rfl (o_nil ?_))))))))))
 refine s_st ?_ (hN7 false hL4)
 exact st_le [0, 0, 0, 0] (lea rfl) rfl (subs [0, 1, 2] rfl)
 intro is2 hL4
 unfold F.ref07.Table_Ends_j7 at hL4
 refine s_st ?_ (hN6 is2 hL4)
 exact st_le [0, 0, 0, 0] (lea rfl) rfl (subs [0, 1, 2] rfl)
 intro is1 hL4
 unfold F.ref07.Table_Ends_j6 at hL4
 refine sat_wc (c_region (o_v (v_move rfl) rfl (o_v (v_bin rfl rfl rfl) rfl (o_v (v_assign rfl) rfl (o_nil ?_)))))
 intro a w hs
 exact ⟨j, Nat.lt_succ_self j, is1, IntKind.wrap .i64 (m + 1), hL4, st_le [0, 0, 0, 0] (lea rfl) rfl (subs [0, 1, 2] rfl) a w hs⟩
 replace hL4 := ite_f h6 hL4
 refine c_exit0 ?_
 cases hL4
 refine s_st ?_ (hN4)
 exact st_le [0, 0, 0, 0] (lea rfl) rfl (subs [0, 1, 2] rfl)
 refine sat_wc (c_region (o_v (v_move rfl) rfl (o_v (v_move rfl) rfl (o_buildSlice (enc := eB) ([o4.1] : List Bool) [.bool o4.1] sl79 rfl (fun _ => by kernel_rfl) rfl rfl rfl (.s rfl (.nil)) rfl fun sa13 sn13 sc13 => ite_some hL3 fun h12 hL3 => ite_some hL3 fun h13 hL3 => o_append (enc := eB) (xs := next_) (ys := ([o4.1] : List Bool)) 3 sl79 rfl rfl rfl (.r 0 _ rfl) h12 h13 rfl fun sa14 sn14 sc14 => o_v (v_assign rfl) rfl (o_nil (sat_wc (c_region (o_v (v_move rfl) rfl (o_v (v_bin rfl rfl rfl) rfl (o_v (v_assign rfl) rfl (o_nil ?_)))))))))))
 intro a w hs
 exact ⟨j, Nat.lt_succ_self j, (next_ ++ ([o4.1] : List Bool)), IntKind.wrap .i64 (j_1 + 1), sa14, sn14, sc14, hL3, st_le [1, 1, 1, 1] (lea rfl) rfl (subs [0, 1, 2] rfl) a w hs⟩
 replace hL3 := ite_f h5 hL3
 refine c_exit0 ?_
 cases hL3
 refine s_st ?_ (hN3 sa11 sn11 sc11)
 exact st_le [0, 0, 0, 0] (lea rfl) rfl (subs [0, 1, 2] rfl)
 intro sa12 sn12 sc12
 refine sat_wc (c_region (o_v (v_move rfl) rfl (o_v (v_assign rfl) rfl (o_nil (sat_wc (c_region (o_v (v_move rfl) rfl (o_v (v_bin rfl rfl rfl) rfl (o_v (v_assign rfl) rfl (o_nil ?_))))))))))
 intro a w hs
 exact ⟨j, Nat.lt_succ_self j, o3.1, IntKind.wrap .i64 (k_ + 1), sa12, sn12, sc12, hL2, st_le [0, 1, 1] (lea rfl) rfl (subs [0, 1, 2] rfl) a w hs⟩
 replace hL2 := ite_f h4 hL2
 refine c_exit0 ?_
 cases hL2
 refine s_st ?_ (hN2 sa9 sn9 sc9)
 exact st_le [0, 0, 0] (lea rfl) rfl (subs [1, 2] rfl)
 intro sa10 sn10 sc10
 refine sat_wc (c_seq (c_region (o_v (v_move rfl) rfl (o_v (v_assign rfl) rfl (o_seq (c_ret ?_))))))
 cases hF
 refine s_ret1 rfl (r_tmp rfl) fun a w hs => fin_sel hs [0, 1, 0] ⟨sa10, sn10, sc10, rfl, rfl, rfl⟩ rfl sub_nil
theorem tri34 {k : Nat} {g_ : Gram} {w__ : List Int} {sa1 : Option Addr} {sn1 sc1 : Nat} {sa2 : Option Addr} {sn2 sc2 : Nat} {r : Ref07_Table} (hF : F.ref07.Fill k g_ w__ = some r) :
  Tri Try.prog 34 [.agg #[.int .i64 g_.Nts, .int .i64 g_.Start, .slice sa1 sn1 sc1], .slice sa2 sn2 sc2] [] [(.slice sa1 sn1 sc1, .slice 2 (g_.Rules.map eRule)), (.slice sa2 sn2 sc2, .slice 1 (w__.map eU8))] (fun o H Φ => ∃ (gb : Nat) (sa19 : Option Addr) (sn19 sc19 : Nat) (sa20 : Option Addr) (sn20 sc20 : Nat) (sa21 : Option Addr) (sn21 sc21 : Nat), o = .ret (.pointer (some ⟨gb, 0, none⟩)) /\ H = [.box gb 81 [.int .i64 r.G.Nts, .int .i64 r.G.Start, .slice sa19 sn19 sc19, .slice sa20 sn20 sc20, .int .i64 r.N_, .slice sa21 sn21 sc21], .row (.slice sa21 sn21 sc21) 4 1 (r.Yes.map eB)] /\ Φ = [(.slice sa19 sn19 sc19, .slice 2 (r.G.Rules.map eRule)), (.slice sa20 sn20 sc20, .slice 1 (r.W.map eU8))]) := by
 unfold F.ref07.Fill at hF
 refine tri_intro (n := 111) Try.func34 rfl Try.ntmps34 rfl fun w X => c_seq (c_region (o_box rfl rfl rfl fun b => o_v (v_assign rfl) rfl (o_seq (c_seq (c_region (o_v (vl 0 ty24 rfl rfl rfl) rfl (o_v (v_move rfl) rfl (o_v (v_move rfl) rfl (o_v (v_lenS (enc := eU8) w__ sl25 rfl (.f 1 rfl)) rfl (o_v (v_build (v := .agg #[.int .i64 g_.Nts, .int .i64 g_.Start, .slice sa1 sn1 sc1, .slice sa2 sn2 sc2, .int .i64 (w__.length : Int), .slice none 0 0]) rfl (fun _ => by kernel_rfl)) rfl (o_box rfl rfl rfl fun b1 => o_v (v_assign rfl) rfl (o_seq ?_))))))))))))
 refine c_seq (c_seq (c_region (o_v (v_assign rfl) rfl (o_seq ?_))))
 obtain ⟨o1, ho1, hF⟩ := bd hF
 refine cT (fun E H Φ N' => ∀ (sa4 : Option Addr) (sn4 sc4 : Nat), Sat E [(0, .agg #[.int .i64 g_.Nts, .int .i64 g_.Start, .slice sa1 sn1 sc1]), (1, .slice sa2 sn2 sc2), (2, .pointer (some ⟨b, 0, none⟩)), (5, .pointer (some ⟨b1, 0, none⟩))] [.box b1 81 [.int .i64 g_.Nts, .int .i64 g_.Start, .slice sa1 sn1 sc1, .slice sa2 sn2 sc2, .int .i64 (w__.length : Int), .slice sa4 sn4 sc4], .box b 24 [.int .i64 g_.Nts, .int .i64 g_.Start, .slice sa1 sn1 sc1], .row (.slice sa4 sn4 sc4) 4 1 (o1.map eB)] Φ N') (fun N1 hN1 => ?_) ?_
 refine c_block ?_
 refine cL (fun E H Φ j a w => ∃ (i : Int) (Yes_ : List Bool) (sa3 : Option Addr) (sn3 sc3 : Nat), F.ref07.Fill_l1 g_ w__ j i Yes_ = some o1 /\ St E [(0, .agg #[.int .i64 g_.Nts, .int .i64 g_.Start, .slice sa1 sn1 sc1]), (1, .slice sa2 sn2 sc2), (2, .pointer (some ⟨b, 0, none⟩)), (5, .pointer (some ⟨b1, 0, none⟩)), (6, .int .i64 i)] [.box b1 81 [.int .i64 g_.Nts, .int .i64 g_.Start, .slice sa1 sn1 sc1, .slice sa2 sn2 sc2, .int .i64 (w__.length : Int), .slice sa3 sn3 sc3], .box b 24 [.int .i64 g_.Nts, .int .i64 g_.Start, .slice sa1 sn1 sc1], .row (.slice sa3 sn3 sc3) 4 1 (Yes_.map eB)] Φ a w) k ?_ ?_
 refine s_st (st_nilrow 4 1) ?_
 intro a w hs
 exact ⟨0, ([] : List Bool), none, 0, 0, ho1, st_le [1, 1, 0] (lea rfl) rfl (subs [0, 1] rfl) a w hs⟩
 rintro j a w ⟨i, Yes_, sa3, sn3, sc3, hL1, hs⟩
 rcases j with _ | j
 cases hL1
 refine wc_app hs ?_
 unfold F.ref07.Fill_l1 at hL1
 refine c_seq (c_seq (c_draw (n := 16) [0, 0, 0] mixed rfl rfl (dv 0 rfl (v_move rfl) (dv 1 rfl (fa 0 rfl) (dv 2 rfl (vl 1 ty3 rfl rfl rfl) (dv 3 rfl (v_move rfl) (dv 4 rfl (v_nilCheck rfl) (dv 5 rfl (fa 4 rfl) (dv 6 rfl (vl 0 ty3 rfl rfl rfl) (dv 7 rfl (v_bin rfl rfl rfl) (dv 8 rfl (v_bin rfl rfl rfl) (dv 9 rfl (v_move rfl) (dv 10 rfl (v_nilCheck rfl) (dv 11 rfl (fa 4 rfl) (dv 12 rfl (vl 0 ty3 rfl rfl rfl) ?_)))))))))))))))
 refine dv 13 rfl (v_bin rfl rfl rfl) (dv 14 rfl (v_bin rfl rfl rfl) (dv 15 rfl (v_bin rfl rfl rfl) (d_done_seq (by kernel_rfl) ?_)))
 refine c_cond rfl (fun h1 => ?_) (fun h1 => ?_)
 replace hL1 := ite_t h1 hL1
 refine c_skip (sat_wc (c_seq (c_block (c_region (o_v (v_move rfl) rfl (o_v (v_move rfl) rfl (o_v (v_nilCheck rfl) rfl (o_v (fa 5 rfl) rfl (o_v (vl 0 ty79 rfl rfl rfl) rfl (o_buildSlice (enc := eB) ([false] : List Bool) [.bool false] sl79 rfl (fun _ => by kernel_rfl) rfl rfl rfl (.s rfl (.nil)) rfl fun sa5 sn5 sc5 => ite_some hL1 fun h2 hL1 => ite_some hL1 fun h3 hL1 => o_append (enc := eB) (xs := Yes_) (ys := ([false] : List Bool)) 3 sl79 rfl rfl rfl (.r 0 _ rfl) h2 h3 rfl fun sa6 sn6 sc6 => o_v (v_nilCheck rfl) rfl (o_v (fa 5 rfl) rfl ?_)))))))))))
 refine o_store_box 1 rfl ty79 rfl rfl rfl rfl rfl rfl rfl (o_nil (sat_wc (c_region (o_v (v_move rfl) rfl (o_v (v_bin rfl rfl rfl) rfl (o_v (v_assign rfl) rfl (o_nil ?_)))))))
 intro a w hs
 exact ⟨j, Nat.lt_succ_self j, IntKind.wrap .i64 (i + 1), (Yes_ ++ ([false] : List Bool)), sa6, sn6, sc6, hL1, st_le [1, 1, 1] (lea rfl) rfl (subs [0, 1] rfl) a w hs⟩
 replace hL1 := ite_f h1 hL1
 refine c_exit0 ?_
 cases hL1
 refine s_st ?_ (hN1 sa3 sn3 sc3)
 exact st_le [0, 0, 0] (lea rfl) rfl (subs [0, 1] rfl)
 intro sa4 sn4 sc4
 refine sat_wc (c_seq (c_region (o_v (v_assign rfl) rfl (o_seq (c_seq ?_)))))
 obtain ⟨o2, ho2, hF⟩ := bd hF
 refine cT (fun E H Φ N' => ∀ (sa8 : Option Addr) (sn8 sc8 : Nat), Sat E [(0, .agg #[.int .i64 g_.Nts, .int .i64 g_.Start, .slice sa1 sn1 sc1]), (1, .slice sa2 sn2 sc2), (2, .pointer (some ⟨b, 0, none⟩)), (5, .pointer (some ⟨b1, 0, none⟩))] [.box b1 81 [.int .i64 g_.Nts, .int .i64 g_.Start, .slice sa1 sn1 sc1, .slice sa2 sn2 sc2, .int .i64 (w__.length : Int), .slice sa8 sn8 sc8], .box b 24 [.int .i64 g_.Nts, .int .i64 g_.Start, .slice sa1 sn1 sc1], .row (.slice sa8 sn8 sc8) 4 1 (o2.map eB)] Φ N') (fun N2 hN2 => ?_) ?_
 refine c_block ?_
 refine cL (fun E H Φ j a w => ∃ (more : Bool) (Yes_1 : List Bool) (sa7 : Option Addr) (sn7 sc7 : Nat), F.ref07.Fill_l2 k g_ w__ j more Yes_1 = some o2 /\ St E [(0, .agg #[.int .i64 g_.Nts, .int .i64 g_.Start, .slice sa1 sn1 sc1]), (1, .slice sa2 sn2 sc2), (2, .pointer (some ⟨b, 0, none⟩)), (5, .pointer (some ⟨b1, 0, none⟩)), (7, .bool more)] [.box b1 81 [.int .i64 g_.Nts, .int .i64 g_.Start, .slice sa1 sn1 sc1, .slice sa2 sn2 sc2, .int .i64 (w__.length : Int), .slice sa7 sn7 sc7], .box b 24 [.int .i64 g_.Nts, .int .i64 g_.Start, .slice sa1 sn1 sc1], .row (.slice sa7 sn7 sc7) 4 1 (Yes_1.map eB)] Φ a w) k ?_ ?_
 intro a w hs
 exact ⟨true, o1, sa4, sn4, sc4, ho2, st_le [0, 0, 0] (lea rfl) rfl (subs [0, 1] rfl) a w hs⟩
 rintro j a w ⟨more, Yes_1, sa7, sn7, sc7, hL2, hs⟩
 rcases j with _ | j
 cases hL2
 refine wc_app hs ?_
 unfold F.ref07.Fill_l2 at hL2
 refine c_seq (c_seq (c_region (o_v (v_move rfl) rfl (o_seq ?_))))
 refine c_cond rfl (fun h4 => ?_) (fun h4 => ?_)
 replace hL2 := ite_t h4 hL2
 refine c_skip (sat_wc (c_block (c_seq (c_region (o_v (v_assign rfl) rfl (o_seq (c_seq (c_region (o_v (v_assign rfl) rfl (o_seq ?_))))))))))
 obtain ⟨o3, ho3, hL2⟩ := bd hL2
 refine cT (fun E H Φ N' => ∀ (sa10 : Option Addr) (sn10 sc10 : Nat), Sat E [(0, .agg #[.int .i64 g_.Nts, .int .i64 g_.Start, .slice sa1 sn1 sc1]), (1, .slice sa2 sn2 sc2), (2, .pointer (some ⟨b, 0, none⟩)), (5, .pointer (some ⟨b1, 0, none⟩)), (7, .bool o3.1), (8, .int .i64 o3.2.1)] [.box b1 81 [.int .i64 g_.Nts, .int .i64 g_.Start, .slice sa1 sn1 sc1, .slice sa2 sn2 sc2, .int .i64 (w__.length : Int), .slice sa10 sn10 sc10], .box b 24 [.int .i64 g_.Nts, .int .i64 g_.Start, .slice sa1 sn1 sc1], .row (.slice sa10 sn10 sc10) 4 1 (o3.2.2.map eB)] Φ N') (fun N3 hN3 => ?_) ?_
 refine c_block ?_
 refine cL (fun E H Φ j a w => ∃ (more1 : Bool) (r_ : Int) (Yes_2 : List Bool) (sa9 : Option Addr) (sn9 sc9 : Nat), F.ref07.Fill_l3 k g_ w__ j more1 r_ Yes_2 = some o3 /\ St E [(0, .agg #[.int .i64 g_.Nts, .int .i64 g_.Start, .slice sa1 sn1 sc1]), (1, .slice sa2 sn2 sc2), (2, .pointer (some ⟨b, 0, none⟩)), (5, .pointer (some ⟨b1, 0, none⟩)), (7, .bool more1), (8, .int .i64 r_)] [.box b1 81 [.int .i64 g_.Nts, .int .i64 g_.Start, .slice sa1 sn1 sc1, .slice sa2 sn2 sc2, .int .i64 (w__.length : Int), .slice sa9 sn9 sc9], .box b 24 [.int .i64 g_.Nts, .int .i64 g_.Start, .slice sa1 sn1 sc1], .row (.slice sa9 sn9 sc9) 4 1 (Yes_2.map eB)] Φ a w) k ?_ ?_
 intro a w hs
 exact ⟨false, 0, Yes_1, sa7, sn7, sc7, ho3, st_le [0, 0, 0] (lea rfl) rfl (subs [0, 1] rfl) a w hs⟩
 rintro j a w ⟨more1, r_, Yes_2, sa9, sn9, sc9, hL3, hs⟩
 rcases j with _ | j
 cases hL3
 refine wc_app hs ?_
 unfold F.ref07.Fill_l3 at hL3
 refine c_seq (c_seq (c_region (o_v (v_move rfl) rfl (o_v (fa 2 rfl) rfl (o_v (vl 1 ty22 rfl rfl rfl) rfl (o_v (v_lenS (enc := eRule) g_.Rules sl22 rfl (.f 0 rfl)) rfl (o_v (v_bin rfl rfl rfl) rfl (o_seq ?_))))))))
 refine c_cond rfl (fun h5 => ?_) (fun h5 => ?_)
 replace hL3 := ite_t h5 hL3
 refine c_skip (sat_wc (c_seq (c_block (c_seq (c_region (o_v (v_assign rfl) rfl (o_seq ?_)))))))
 obtain ⟨o4, ho4, hL3⟩ := bd hL3
 refine cT (fun E H Φ N' => ∀ (sa12 : Option Addr) (sn12 sc12 : Nat), Sat E [(0, .agg #[.int .i64 g_.Nts, .int .i64 g_.Start, .slice sa1 sn1 sc1]), (1, .slice sa2 sn2 sc2), (2, .pointer (some ⟨b, 0, none⟩)), (5, .pointer (some ⟨b1, 0, none⟩)), (7, .bool o4.1), (8, .int .i64 r_), (9, .int .i64 o4.2.1)] [.box b1 81 [.int .i64 g_.Nts, .int .i64 g_.Start, .slice sa1 sn1 sc1, .slice sa2 sn2 sc2, .int .i64 (w__.length : Int), .slice sa12 sn12 sc12], .box b 24 [.int .i64 g_.Nts, .int .i64 g_.Start, .slice sa1 sn1 sc1], .row (.slice sa12 sn12 sc12) 4 1 (o4.2.2.map eB)] Φ N') (fun N4 hN4 => ?_) ?_
 refine c_block ?_
 refine cL (fun E H Φ j a w => ∃ (more2 : Bool) (i1 : Int) (Yes_3 : List Bool) (sa11 : Option Addr) (sn11 sc11 : Nat), F.ref07.Fill_l4 k w__ r_ g_ j more2 i1 Yes_3 = some o4 /\ St E [(0, .agg #[.int .i64 g_.Nts, .int .i64 g_.Start, .slice sa1 sn1 sc1]), (1, .slice sa2 sn2 sc2), (2, .pointer (some ⟨b, 0, none⟩)), (5, .pointer (some ⟨b1, 0, none⟩)), (7, .bool more2), (8, .int .i64 r_), (9, .int .i64 i1)] [.box b1 81 [.int .i64 g_.Nts, .int .i64 g_.Start, .slice sa1 sn1 sc1, .slice sa2 sn2 sc2, .int .i64 (w__.length : Int), .slice sa11 sn11 sc11], .box b 24 [.int .i64 g_.Nts, .int .i64 g_.Start, .slice sa1 sn1 sc1], .row (.slice sa11 sn11 sc11) 4 1 (Yes_3.map eB)] Φ a w) k ?_ ?_
 intro a w hs
 exact ⟨more1, 0, Yes_2, sa9, sn9, sc9, ho4, st_le [0, 0, 0] (lea rfl) rfl (subs [0, 1] rfl) a w hs⟩
 rintro j a w ⟨more2, i1, Yes_3, sa11, sn11, sc11, hL4, hs⟩
 rcases j with _ | j
 cases hL4
 refine wc_app hs ?_
 unfold F.ref07.Fill_l4 at hL4
 refine c_seq (c_seq (c_region (o_v (v_move rfl) rfl (o_v (v_move rfl) rfl (o_v (v_nilCheck rfl) rfl (o_v (fa 4 rfl) rfl (o_v (vl 0 ty3 rfl rfl rfl) rfl (o_v (v_bin rfl rfl rfl) rfl (o_seq ?_)))))))))
 refine c_cond rfl (fun h6 => ?_) (fun h6 => ?_)
 replace hL4 := ite_t h6 hL4
 refine c_skip (sat_wc (c_seq (c_block (c_seq (c_region (o_v (v_move rfl) rfl (o_v (fa 2 rfl) rfl (o_v (vl 1 ty22 rfl rfl rfl) rfl (o_v (v_move rfl) rfl (ite_some hL4 fun h7 hL4 => o_v (v_indexAddr_s (xs := g_.Rules) (enc := eRule) sl22 rfl rfl (.f 0 rfl) h7) rfl (o_v (v_fieldAddr (v := .pointer (some ⟨blkA sa1, offA sa1 + (Int.toNat r_ * 2 + 1), none⟩)) rfl (fun _ => by kernel_rfl)) rfl (o_load_s (xs := g_.Rules) (enc := eRule) ty48 rfl (.f 0 rfl) h7 rfl rfl rfl rfl rfl rfl fun sa13 sn13 sc13 => o_v (v_move rfl) rfl ?_))))))))))))
 obtain ⟨v_, h8, hL4⟩ := bd hL4
 refine ocl [0, 1] call58 rfl rfl (subs [1, 2, 0] rfl) (tri58 h8 :) ?_
 rintro _ _ _ ⟨sa14, sn14, sc14, rfl, rfl, rfl⟩
 refine o_v (v_assign rfl) rfl (o_seq (c_seq (c_region (o_v (v_move rfl) rfl (o_v (v_assign rfl) rfl (o_seq ?_))))))
 obtain ⟨o5, ho5, hL4⟩ := bd hL4
 refine c_cut (fun E N' => ∀ (sa16 : Option Addr) (sn16 sc16 : Nat), Sat E [(0, .agg #[.int .i64 g_.Nts, .int .i64 g_.Start, .slice sa1 sn1 sc1]), (1, .slice sa2 sn2 sc2), (2, .pointer (some ⟨b, 0, none⟩)), (5, .pointer (some ⟨b1, 0, none⟩)), (7, .bool o5.1), (8, .int .i64 r_), (9, .int .i64 i1), (10, .slice sa14 sn14 sc14), (11, .int .i64 o5.2.1)] [.box b1 81 [.int .i64 g_.Nts, .int .i64 g_.Start, .slice sa1 sn1 sc1, .slice sa2 sn2 sc2, .int .i64 (w__.length : Int), .slice sa16 sn16 sc16], .box b 24 [.int .i64 g_.Nts, .int .i64 g_.Start, .slice sa1 sn1 sc1], .row (.slice sa14 sn14 sc14) 4 1 (v_.map eB), .row (.slice sa16 sn16 sc16) 4 1 (o5.2.2.map eB)] [(.slice sa1 sn1 sc1, .slice 2 (g_.Rules.map eRule)), (.slice sa2 sn2 sc2, .slice 1 (w__.map eU8))] N') (fun N5 hN5 => ?_) ?_
 refine c_block ?_
 refine c_loopE (fun E j a w => ∃ (more3 : Bool) (j_ : Int) (Yes_4 : List Bool) (sa15 : Option Addr) (sn15 sc15 : Nat), F.ref07.Fill_l5 w__ g_ r_ i1 v_ j more3 j_ Yes_4 = some o5 /\ St E [(0, .agg #[.int .i64 g_.Nts, .int .i64 g_.Start, .slice sa1 sn1 sc1]), (1, .slice sa2 sn2 sc2), (2, .pointer (some ⟨b, 0, none⟩)), (5, .pointer (some ⟨b1, 0, none⟩)), (7, .bool more3), (8, .int .i64 r_), (9, .int .i64 i1), (10, .slice sa14 sn14 sc14), (11, .int .i64 j_)] [.box b1 81 [.int .i64 g_.Nts, .int .i64 g_.Start, .slice sa1 sn1 sc1, .slice sa2 sn2 sc2, .int .i64 (w__.length : Int), .slice sa15 sn15 sc15], .box b 24 [.int .i64 g_.Nts, .int .i64 g_.Start, .slice sa1 sn1 sc1], .row (.slice sa14 sn14 sc14) 4 1 (v_.map eB), .row (.slice sa15 sn15 sc15) 4 1 (Yes_4.map eB)] [(.slice sa1 sn1 sc1, .slice 2 (g_.Rules.map eRule)), (.slice sa2 sn2 sc2, .slice 1 (w__.map eU8))] a w) k ?_ ?_
 intro a w hs
 exact ⟨more2, i1, Yes_3, sa11, sn11, sc11, ho5, st_le [0, 2, 1, 0] (lea rfl) rfl (subs [1, 2] rfl) a w hs⟩
 rintro j a w ⟨more3, j_, Yes_4, sa15, sn15, sc15, hL5, hs⟩
 rcases j with _ | j
 cases hL5
 refine wc_app hs ?_
 unfold F.ref07.Fill_l5 at hL5
 refine c_seq (c_seq (c_region (o_v (v_move rfl) rfl (o_v (v_move rfl) rfl (o_v (v_nilCheck rfl) rfl (o_v (fa 4 rfl) rfl (o_v (vl 0 ty3 rfl rfl rfl) rfl (o_v (v_bin rfl rfl rfl) rfl (o_seq ?_)))))))))
 refine c_cond rfl (fun h9 => ?_) (fun h9 => ?_)
 replace hL5 := ite_t h9 hL5
 refine c_skip (sat_wc (c_seq ?_))
 refine cT (fun E H Φ N' => ∀ (more4 : Bool) (at__ : Int) (Yes_5 : List Bool) (sa17 : Option Addr) (sn17 sc17 : Nat), F.ref07.Fill_j6 (F.ref07.Fill_l5 w__ g_ r_ i1 v_ j) j_ more4 at__ Yes_5 = some o5 -> Sat E [(0, .agg #[.int .i64 g_.Nts, .int .i64 g_.Start, .slice sa1 sn1 sc1]), (1, .slice sa2 sn2 sc2), (2, .pointer (some ⟨b, 0, none⟩)), (5, .pointer (some ⟨b1, 0, none⟩)), (7, .bool more4), (8, .int .i64 r_), (9, .int .i64 i1), (10, .slice sa14 sn14 sc14), (11, .int .i64 j_), (12, .int .i64 at__)] [.box b1 81 [.int .i64 g_.Nts, .int .i64 g_.Start, .slice sa1 sn1 sc1, .slice sa2 sn2 sc2, .int .i64 (w__.length : Int), .slice sa17 sn17 sc17], .box b 24 [.int .i64 g_.Nts, .int .i64 g_.Start, .slice sa1 sn1 sc1], .row (.slice sa14 sn14 sc14) 4 1 (v_.map eB), .row (.slice sa17 sn17 sc17) 4 1 (Yes_5.map eB)] Φ N') (fun N6 hN6 => ?_) ?_
 refine c_block (c_seq (c_region (o_v (v_move rfl) rfl (o_v (fa 2 rfl) rfl (o_v (vl 1 ty22 rfl rfl rfl) rfl (o_v (v_move rfl) rfl (o_v (v_indexAddr_s (xs := g_.Rules) (enc := eRule) sl22 rfl rfl (.f 0 rfl) h7) rfl (o_v (v_fieldAddr (v := .pointer (some ⟨blkA sa1, offA sa1 + (Int.toNat r_ * 2 + 0), none⟩)) rfl (fun _ => by kernel_rfl)) rfl (o_v (v_load_s (xs := g_.Rules) (enc := eRule) ty3 rfl (.f 0 rfl) h7 rfl rfl rfl rfl rfl rfl rfl) rfl (o_v (v_move rfl) rfl (o_v (v_move rfl) rfl ?_)))))))))))
 obtain ⟨v_1, h10, hL5⟩ := bd hL5
 refine ocl [0, 2] call59 rfl rfl (subs [0, 1] rfl) (tri59 h10 :) ?_
 rintro _ _ _ ⟨rfl, rfl, rfl⟩
 refine o_v (v_assign rfl) rfl (o_seq (c_seq ?_))
 refine cT (fun E H Φ N' => ∀ (t103 : Bool), F.ref07.Fill_j7 v_1 Yes_4 (F.ref07.Fill_l5 w__ g_ r_ i1 v_ j) j_ more3 t103 = some o5 -> Sat E [(0, .agg #[.int .i64 g_.Nts, .int .i64 g_.Start, .slice sa1 sn1 sc1]), (1, .slice sa2 sn2 sc2), (2, .pointer (some ⟨b, 0, none⟩)), (5, .pointer (some ⟨b1, 0, none⟩)), (7, .bool more3), (8, .int .i64 r_), (9, .int .i64 i1), (10, .slice sa14 sn14 sc14), (11, .int .i64 j_), (12, .int .i64 v_1), (103, .bool t103)] [.box b1 81 [.int .i64 g_.Nts, .int .i64 g_.Start, .slice sa1 sn1 sc1, .slice sa2 sn2 sc2, .int .i64 (w__.length : Int), .slice sa15 sn15 sc15], .box b 24 [.int .i64 g_.Nts, .int .i64 g_.Start, .slice sa1 sn1 sc1], .row (.slice sa14 sn14 sc14) 4 1 (v_.map eB), .row (.slice sa15 sn15 sc15) 4 1 (Yes_4.map eB)] Φ N') (fun N8 hN8 => ?_) ?_
 refine c_region (o_v (v_move rfl) rfl (o_v (v_move rfl) rfl (ite_some hL5 fun h13 hL5 => o_v (v_indexAddr_s (xs := v_) (enc := eB) sl79 rfl rfl (.r 3 _ rfl) h13) rfl (o_v (v_load_s (xs := v_) (enc := eB) ty4 rfl (.r 3 _ rfl) h13 rfl rfl rfl rfl rfl rfl rfl) rfl (o_v (v_move rfl) rfl ?_)))))
 refine o_split (t := 94) rfl (fun h14 => ?_) (fun h14 => ?_)
 replace hL5 := ite_t h14 hL5
 refine o_on rfl rfl (o_v (v_move rfl) rfl (o_on rfl rfl (o_v (v_nilCheck rfl) rfl (o_on rfl rfl (o_v (fa 5 rfl) rfl (o_on rfl rfl (o_v (vl 0 ty79 rfl rfl rfl) rfl (o_on rfl rfl (o_v (v_move rfl) rfl (o_on rfl rfl (ite_some hL5 fun h15 hL5 => o_v (v_indexAddr_s (xs := Yes_4) (enc := eB) sl79 rfl rfl (.r 1 _ rfl) h15) rfl (o_on rfl rfl (o_v (v_load_s (xs := Yes_4) (enc := eB) ty4 rfl (.r 1 _ rfl) h15 rfl rfl rfl rfl rfl rfl rfl) rfl (o_on rfl rfl ?_))))))))))))))
 refine o_v (v_not rfl) rfl (o_v (v_pick_t rfl rfl) rfl (o_nil ?_))
 refine s_st ?_ (hN8 (!(at_ Yes_4 v_1)) hL5)
 exact st_le [0, 1, 1, 0] (lea rfl) rfl (subs [0, 1] rfl)
 replace hL5 := ite_f h14 hL5
 refine o_off rfl rfl (by decide) rfl (o_off rfl rfl (by decide) rfl (o_off rfl rfl (by decide) rfl (o_off rfl rfl (by decide) rfl (o_off rfl rfl (by decide) rfl (o_off rfl rfl (by decide) rfl (o_off rfl rfl (by decide) rfl (o_off rfl rfl (by decide) rfl (o_v (v_pick_f rfl rfl) rfl (o_nil ?_)))))))))
 refine s_st ?_ (hN8 false hL5)
 exact st_le [0, 1, 1, 0] (lea rfl) rfl (subs [0, 1] rfl)
 intro t103 hL5
 unfold F.ref07.Fill_j7 at hL5
 refine sat_wc ?_
 refine cT (fun E H Φ N' => ∀ (more5 : Bool) (Yes_6 : List Bool) (sa18 : Option Addr) (sn18 sc18 : Nat), F.ref07.Fill_j8 (F.ref07.Fill_l5 w__ g_ r_ i1 v_ j) j_ v_1 more5 Yes_6 = some o5 -> Sat E [(0, .agg #[.int .i64 g_.Nts, .int .i64 g_.Start, .slice sa1 sn1 sc1]), (1, .slice sa2 sn2 sc2), (2, .pointer (some ⟨b, 0, none⟩)), (5, .pointer (some ⟨b1, 0, none⟩)), (7, .bool more5), (8, .int .i64 r_), (9, .int .i64 i1), (10, .slice sa14 sn14 sc14), (11, .int .i64 j_), (12, .int .i64 v_1)] [.box b1 81 [.int .i64 g_.Nts, .int .i64 g_.Start, .slice sa1 sn1 sc1, .slice sa2 sn2 sc2, .int .i64 (w__.length : Int), .slice sa18 sn18 sc18], .box b 24 [.int .i64 g_.Nts, .int .i64 g_.Start, .slice sa1 sn1 sc1], .row (.slice sa14 sn14 sc14) 4 1 (v_.map eB), .row (.slice sa18 sn18 sc18) 4 1 (Yes_6.map eB)] Φ N') (fun N8 hN8 => ?_) ?_
 refine c_cond rfl (fun h11 => ?_) (fun h11 => ?_)
 replace hL5 := ite_t h11 hL5
 refine c_seq (c_region (o_v (v_move rfl) rfl (o_v (v_nilCheck rfl) rfl (o_v (fa 5 rfl) rfl (o_v (vl 0 ty79 rfl rfl rfl) rfl (o_v (v_move rfl) rfl (ite_some hL5 fun h12 hL5 => o_v (v_indexAddr_s (xs := Yes_4) (enc := eB) sl79 rfl rfl (.r 3 _ rfl) h12) rfl (o_store_s (xs := Yes_4) (enc := eB) 3 true rfl ty4 rfl rfl rfl rfl h12 (.s rfl (.nil)) rfl rfl rfl (o_seq (c_region (o_v (v_assign rfl) rfl (o_nil ?_))))))))))))
 refine s_st ?_ (hN8 true (set_ Yes_4 v_1 true) sa15 sn15 sc15 hL5)
 exact st_le [0, 0, 0, 0] (lea rfl) rfl (subs [0, 1] rfl)
 replace hL5 := ite_f h11 hL5
 refine c_skip ?_
 refine s_st ?_ (hN8 more3 Yes_4 sa15 sn15 sc15 hL5)
 exact st_le [0, 0, 0, 0] (lea rfl) rfl (subs [0, 1] rfl)
 intro more5 Yes_6 sa18 sn18 sc18 hL5
 unfold F.ref07.Fill_j8 at hL5
 refine s_st ?_ (hN6 more5 v_1 Yes_6 sa18 sn18 sc18 hL5)
 exact st_le [0, 0, 0, 0] (lea rfl) rfl (subs [0, 1] rfl)
 intro more4 at__ Yes_5 sa17 sn17 sc17 hL5
 unfold F.ref07.Fill_j6 at hL5
 refine sat_wc (c_region (o_v (v_move rfl) rfl (o_v (v_bin rfl rfl rfl) rfl (o_v (v_assign rfl) rfl (o_nil ?_)))))
 intro a w hs
 exact ⟨j, Nat.lt_succ_self j, more4, IntKind.wrap .i64 (j_ + 1), Yes_5, sa17, sn17, sc17, hL5, st_le [0, 0, 0, 0] (lea rfl) rfl (subs [0, 1] rfl) a w hs⟩
 replace hL5 := ite_f h9 hL5
 refine c_exit0 ?_
 cases hL5
 refine s_st ?_ (hN5 sa15 sn15 sc15)
 exact st_le [0, 0, 0, 0] (lea rfl) rfl (subs [0, 1] rfl)
 intro sa16 sn16 sc16
 refine sat_wc (c_region (o_v (v_move rfl) rfl (o_v (v_bin rfl rfl rfl) rfl (o_v (v_assign rfl) rfl (o_nil ?_)))))
 intro a w hs
 exact ⟨j, Nat.lt_succ_self j, o5.1, IntKind.wrap .i64 (i1 + 1), o5.2.2, sa16, sn16, sc16, hL4, st_le [0, 0, 1] (lea rfl) rfl (subs [0, 1] rfl) a w hs⟩
 replace hL4 := ite_f h6 hL4
 refine c_exit0 ?_
 cases hL4
 refine s_st ?_ (hN4 sa11 sn11 sc11)
 exact st_le [0, 0, 0] (lea rfl) rfl (subs [0, 1] rfl)
 intro sa12 sn12 sc12
 refine sat_wc (c_region (o_v (v_move rfl) rfl (o_v (v_bin rfl rfl rfl) rfl (o_v (v_assign rfl) rfl (o_nil ?_)))))
 intro a w hs
 exact ⟨j, Nat.lt_succ_self j, o4.1, IntKind.wrap .i64 (r_ + 1), o4.2.2, sa12, sn12, sc12, hL3, st_le [0, 0, 0] (lea rfl) rfl (subs [0, 1] rfl) a w hs⟩
 replace hL3 := ite_f h5 hL3
 refine c_exit0 ?_
 cases hL3
 refine s_st ?_ (hN3 sa9 sn9 sc9)
 exact st_le [0, 0, 0] (lea rfl) rfl (subs [0, 1] rfl)
 intro sa10 sn10 sc10
 intro a w hs
 exact ⟨j, Nat.lt_succ_self j, o3.1, o3.2.2, sa10, sn10, sc10, hL2, st_le [0, 0, 0] (lea rfl) rfl (subs [0, 1] rfl) a w hs⟩
 replace hL2 := ite_f h4 hL2
 refine c_exit0 ?_
 cases hL2
 refine s_st ?_ (hN2 sa7 sn7 sc7)
 exact st_le [0, 0, 0] (lea rfl) rfl (subs [0, 1] rfl)
 intro sa8 sn8 sc8
 refine sat_wc (c_seq (c_region (o_v (v_move rfl) rfl (o_v (v_assign rfl) rfl (o_seq (c_ret ?_))))))
 cases hF
 refine s_ret1 rfl (r_tmp rfl) fun a w hs => fin_sel hs [0, 1] ⟨b1, sa1, sn1, sc1, sa2, sn2, sc2, sa8, sn8, sc8, rfl, rfl, rfl⟩ rfl (subs [0, 1] rfl)
theorem tri35 {k : Nat} {t : Ref07_Table} {b : Nat} {sa1 : Option Addr} {sn1 sc1 : Nat} {sa2 : Option Addr} {sn2 sc2 : Nat} {sa3 : Option Addr} {sn3 sc3 : Nat} {r : Ref08_Counter} (hF : F.ref08.counter k t = some r) :
  Tri Try.prog 35 [.pointer (some ⟨b, 0, none⟩)] [.box b 81 [.int .i64 t.G.Nts, .int .i64 t.G.Start, .slice sa1 sn1 sc1, .slice sa2 sn2 sc2, .int .i64 t.N_, .slice sa3 sn3 sc3], .row (.slice sa3 sn3 sc3) 4 1 (t.Yes.map eB)] [(.slice sa1 sn1 sc1, .slice 2 (t.G.Rules.map eRule)), (.slice sa2 sn2 sc2, .slice 1 (t.W.map eU8))] (fun o H Φ => ∃ (gb : Nat) (sa8 : Option Addr) (sn8 sc8 : Nat), o = .ret (.pointer (some ⟨gb, 0, none⟩)) /\ H = [.box b 81 [.int .i64 t.G.Nts, .int .i64 t.G.Start, .slice sa1 sn1 sc1, .slice sa2 sn2 sc2, .int .i64 t.N_, .slice sa3 sn3 sc3], .row (.slice sa3 sn3 sc3) 4 1 (t.Yes.map eB), .box gb 130 [.pointer (some ⟨b, 0, none⟩), .slice sa8 sn8 sc8], .row (.slice sa8 sn8 sc8) 3 1 (r.Known.map eI64)] /\ Φ = []) := by
 unfold F.ref08.counter at hF
 refine tri_intro (n := 27) Try.func35 rfl Try.ntmps35 rfl fun w X => c_seq (c_region (o_v (v_assign rfl) rfl (o_seq (c_seq (c_region (o_v (v_move rfl) rfl (o_v (v_build (v := .agg #[.pointer (some ⟨b, 0, none⟩), .slice none 0 0]) rfl (fun _ => by kernel_rfl)) rfl (o_box rfl rfl rfl fun b1 => o_v (v_assign rfl) rfl (o_seq (c_seq (c_seq (c_region (o_v (v_assign rfl) rfl ?_)))))))))))))
 refine o_seq ?_
 obtain ⟨o1, ho1, hF⟩ := bd hF
 refine cT (fun E H Φ N' => ∀ (sa5 : Option Addr) (sn5 sc5 : Nat), Sat E [(0, .pointer (some ⟨b, 0, none⟩)), (3, .pointer (some ⟨b1, 0, none⟩))] [.box b1 130 [.pointer (some ⟨b, 0, none⟩), .slice sa5 sn5 sc5], .box b 81 [.int .i64 t.G.Nts, .int .i64 t.G.Start, .slice sa1 sn1 sc1, .slice sa2 sn2 sc2, .int .i64 t.N_, .slice sa3 sn3 sc3], .row (.slice sa5 sn5 sc5) 3 1 (o1.map eI64), .row (.slice sa3 sn3 sc3) 4 1 (t.Yes.map eB)] Φ N') (fun N1 hN1 => ?_) ?_
 refine c_block ?_
 refine cL (fun E H Φ j a w => ∃ (i : Int) (Known_ : List Int) (sa4 : Option Addr) (sn4 sc4 : Nat), F.ref08.counter_l1 t j i Known_ = some o1 /\ St E [(0, .pointer (some ⟨b, 0, none⟩)), (3, .pointer (some ⟨b1, 0, none⟩)), (4, .int .i64 i)] [.box b1 130 [.pointer (some ⟨b, 0, none⟩), .slice sa4 sn4 sc4], .box b 81 [.int .i64 t.G.Nts, .int .i64 t.G.Start, .slice sa1 sn1 sc1, .slice sa2 sn2 sc2, .int .i64 t.N_, .slice sa3 sn3 sc3], .row (.slice sa4 sn4 sc4) 3 1 (Known_.map eI64), .row (.slice sa3 sn3 sc3) 4 1 (t.Yes.map eB)] Φ a w) k ?_ ?_
 refine s_st (st_nilrow 3 1) ?_
 intro a w hs
 exact ⟨0, ([] : List Int), none, 0, 0, ho1, st_le [1, 1, 0, 0] (lea rfl) rfl (subs [0, 1] rfl) a w hs⟩
 rintro j a w ⟨i, Known_, sa4, sn4, sc4, hL1, hs⟩
 rcases j with _ | j
 cases hL1
 refine wc_app hs ?_
 unfold F.ref08.counter_l1 at hL1
 refine c_seq (c_seq (c_region (o_v (v_move rfl) rfl (o_v (v_move rfl) rfl (o_v (v_nilCheck rfl) rfl (o_v (fa 5 rfl) rfl (o_v (vl 1 ty79 rfl rfl rfl) rfl (o_v (v_lenS (enc := eB) t.Yes sl79 rfl (.r 3 _ rfl)) rfl (o_v (v_bin rfl rfl rfl) rfl (o_seq ?_))))))))))
 refine c_cond rfl (fun h1 => ?_) (fun h1 => ?_)
 replace hL1 := ite_t h1 hL1
 refine c_skip (sat_wc (c_seq (c_block (c_region (o_v (v_move rfl) rfl (o_v (v_move rfl) rfl (o_v (v_nilCheck rfl) rfl (o_v (fa 1 rfl) rfl (o_v (vl 0 ty59 rfl rfl rfl) rfl (o_buildSlice (enc := eI64) ([0] : List Int) [.int .i64 0] sl59 rfl (fun _ => by kernel_rfl) rfl rfl rfl (.s rfl (.nil)) rfl fun sa6 sn6 sc6 => ite_some hL1 fun h2 hL1 => ite_some hL1 fun h3 hL1 => o_append (enc := eI64) (xs := Known_) (ys := ([0] : List Int)) 3 sl59 rfl rfl rfl (.r 0 _ rfl) h2 h3 rfl fun sa7 sn7 sc7 => o_v (v_nilCheck rfl) rfl (o_v (fa 1 rfl) rfl ?_)))))))))))
 refine o_store_box 1 rfl ty59 rfl rfl rfl rfl rfl rfl rfl (o_nil (sat_wc (c_region (o_v (v_move rfl) rfl (o_v (v_bin rfl rfl rfl) rfl (o_v (v_assign rfl) rfl (o_nil ?_)))))))
 intro a w hs
 exact ⟨j, Nat.lt_succ_self j, IntKind.wrap .i64 (i + 1), (Known_ ++ ([0] : List Int)), sa7, sn7, sc7, hL1, st_le [1, 1, 1, 1] (lea rfl) rfl (subs [0, 1] rfl) a w hs⟩
 replace hL1 := ite_f h1 hL1
 refine c_exit0 ?_
 cases hL1
 refine s_st ?_ (hN1 sa4 sn4 sc4)
 exact st_le [0, 0, 0, 0] (lea rfl) rfl (subs [0, 1] rfl)
 intro sa5 sn5 sc5
 refine sat_wc (c_seq (c_region (o_v (v_move rfl) rfl (o_v (v_assign rfl) rfl (o_seq (c_ret ?_))))))
 cases hF
 refine s_ret1 rfl (r_tmp rfl) fun a w hs => fin_sel hs [1, 2, 0, 0] ⟨b1, sa5, sn5, sc5, rfl, rfl, rfl⟩ rfl sub_nil
theorem tri79 {k : Nat} {c : Ref08_Counter} {rhs : List KSym} {m : Int} {j_ : Int} {b : Nat} {gb : Nat} {sa1 : Option Addr} {sn1 sc1 : Nat} {sa2 : Option Addr} {sn2 sc2 : Nat} {sa3 : Option Addr} {sn3 sc3 : Nat} {sa4 : Option Addr} {sn4 sc4 : Nat} {sa5 : Option Addr} {sn5 sc5 : Nat} {r : Bool} (hF : F.ref08.Counter_ends k c rhs m j_ = some r) :
  Tri Try.prog 79 [.pointer (some ⟨b, 0, none⟩), .slice sa5 sn5 sc5, .int .i64 m, .int .i64 j_] [.box b 130 [.pointer (some ⟨gb, 0, none⟩), .slice sa4 sn4 sc4], .box gb 81 [.int .i64 c.T.G.Nts, .int .i64 c.T.G.Start, .slice sa1 sn1 sc1, .slice sa2 sn2 sc2, .int .i64 c.T.N_, .slice sa3 sn3 sc3], .row (.slice sa3 sn3 sc3) 4 1 (c.T.Yes.map eB), .row (.slice sa4 sn4 sc4) 3 1 (c.Known.map eI64)] [(.slice sa1 sn1 sc1, .slice 2 (c.T.G.Rules.map eRule)), (.slice sa2 sn2 sc2, .slice 1 (c.T.W.map eU8)), (.slice sa5 sn5 sc5, .slice 5 (rhs.map eKSym))] (fun o H Φ => o = .ret (.bool r) /\ H = [.box b 130 [.pointer (some ⟨gb, 0, none⟩), .slice sa4 sn4 sc4], .box gb 81 [.int .i64 c.T.G.Nts, .int .i64 c.T.G.Start, .slice sa1 sn1 sc1, .slice sa2 sn2 sc2, .int .i64 c.T.N_, .slice sa3 sn3 sc3], .row (.slice sa3 sn3 sc3) 4 1 (c.T.Yes.map eB), .row (.slice sa4 sn4 sc4) 3 1 (c.Known.map eI64)] /\ Φ = []) := by
 unfold F.ref08.Counter_ends at hF
 refine tri_intro (n := 21) Try.func79 rfl Try.ntmps79 rfl fun w X => c_seq (c_region (o_v (v_assign rfl) rfl (o_seq (c_seq (c_region (o_v (v_move rfl) rfl (o_v (v_nilCheck rfl) rfl (o_v (fa 0 rfl) rfl (o_v (vl 0 ty74 rfl rfl rfl) rfl (o_v (v_move rfl) rfl (o_v (v_move rfl) rfl ?_)))))))))))
 obtain ⟨v_, h1, hF⟩ := bd hF
 refine ocl [1, 1] call58 rfl rfl (subs [0, 1, 2] rfl) (tri58 h1 :) ?_
 rintro _ _ _ ⟨sa6, sn6, sc6, rfl, rfl, rfl⟩
 refine o_v (v_assign rfl) rfl (o_seq (c_seq (c_region (o_v (v_move rfl) rfl (o_v (v_move rfl) rfl (ite_some hF fun h2 hF => o_v (v_indexAddr_s (xs := v_) (enc := eB) sl79 rfl rfl (.r 2 _ rfl) h2) rfl (o_v (v_load_s (xs := v_) (enc := eB) ty4 rfl (.r 2 _ rfl) h2 rfl rfl rfl rfl rfl rfl rfl) rfl (o_v (v_assign rfl) rfl (o_seq (c_ret ?_))))))))))
 cases hF
 refine s_ret1 rfl (r_tmp rfl) fun a w hs => fin_sel hs [3, 0, 0, 1] ⟨rfl, rfl, rfl⟩ rfl sub_nil
theorem tri60 {a_ : Int} {b : Int} {r : Int} (hF : F.ref08.plus a_ b = some r) :
  Tri Try.prog 60 [.int .i64 a_, .int .i64 b] [] [] (fun o H Φ => o = .ret (.int .i64 r) /\ H = [] /\ Φ = []) := by
 unfold F.ref08.plus at hF
 refine tri_intro (n := 12) Try.func60 rfl Try.ntmps60 rfl fun w X => c_seq (c_region (o_v (v_assign rfl) rfl (o_seq (c_seq (c_seq (c_region (o_v (v_move rfl) rfl (o_v (v_move rfl) rfl (o_v (v_bin rfl rfl rfl) rfl (o_v (v_bin rfl rfl rfl) rfl (o_seq ?_)))))))))))
 refine c_cond rfl (fun h1 => ?_) (fun h1 => ?_)
 replace hF := ite_t h1 hF
 refine c_seq (c_region (o_v (v_assign rfl) rfl (o_seq (c_ret ?_))))
 cases hF
 refine s_ret1 rfl (r_tmp rfl) fun a w hs => fin_sel hs [] ⟨rfl, rfl, rfl⟩ rfl sub_nil
 replace hF := ite_f h1 hF
 refine c_skip (sat_wc (c_seq (c_region (o_v (v_move rfl) rfl (o_v (v_move rfl) rfl (o_v (v_bin rfl rfl rfl) rfl (o_v (v_assign rfl) rfl (o_seq (c_ret ?_)))))))))
 cases hF
 refine s_ret1 rfl (r_tmp rfl) fun a w hs => fin_sel hs [] ⟨rfl, rfl, rfl⟩ rfl sub_nil
theorem tri80 {a_ : Int} {b : Int} {r : Int} (hF : F.ref08.times a_ b = some r) :
  Tri Try.prog 80 [.int .i64 a_, .int .i64 b] [] [] (fun o H Φ => o = .ret (.int .i64 r) /\ H = [] /\ Φ = []) := by
 unfold F.ref08.times at hF
 refine tri_intro (n := 20) Try.func80 rfl Try.ntmps80 rfl fun w X => c_seq (c_region (o_v (v_assign rfl) rfl (o_seq (c_seq (c_seq (c_region (o_v (v_move rfl) rfl (o_v (v_bin rfl rfl rfl) rfl (o_v (v_move rfl) rfl ?_)))))))))
 refine o_split (t := 7) rfl (fun h1 => ?_) (fun h1 => ?_)
 replace hF := ite_t h1 hF
 refine o_off rfl rfl (by decide) rfl (o_off rfl rfl (by decide) rfl (o_v (v_pick_t rfl rfl) rfl (o_seq ?_)))
 refine c_cond rfl (fun _ => ?_) (fun h => Bool.noConfusion h)
 refine c_seq (c_region (o_v (v_assign rfl) rfl (o_seq (c_ret ?_))))
 cases hF
 refine s_ret1 rfl (r_tmp rfl) fun a w hs => fin_sel hs [] ⟨rfl, rfl, rfl⟩ rfl sub_nil
 replace hF := ite_f h1 hF
 refine o_on rfl rfl (o_v (v_move rfl) rfl (o_on rfl rfl (o_v (v_bin rfl rfl rfl) rfl (o_v (v_pick_f rfl rfl) rfl (o_seq ?_)))))
 refine c_cond rfl (fun h2 => ?_) (fun h2 => ?_)
 replace hF := ite_t h2 hF
 refine c_seq (c_region (o_v (v_assign rfl) rfl (o_seq (c_ret ?_))))
 cases hF
 refine s_ret1 rfl (r_tmp rfl) fun a w hs => fin_sel hs [] ⟨rfl, rfl, rfl⟩ rfl sub_nil
 replace hF := ite_f h2 hF
 refine c_skip (sat_wc (c_seq (c_seq (c_region (o_v (v_move rfl) rfl (o_v (v_move rfl) rfl (o_v (v_quo rfl rfl h2) rfl (o_v (v_bin rfl rfl rfl) rfl (o_v (v_bin rfl rfl rfl) rfl (o_seq ?_))))))))))
 refine c_cond rfl (fun h3 => ?_) (fun h3 => ?_)
 replace hF := ite_t h3 hF
 refine c_seq (c_region (o_v (v_assign rfl) rfl (o_seq (c_ret ?_))))
 cases hF
 refine s_ret1 rfl (r_tmp rfl) fun a w hs => fin_sel hs [] ⟨rfl, rfl, rfl⟩ rfl sub_nil
 replace hF := ite_f h3 hF
 refine c_skip (sat_wc (c_seq (c_region (o_v (v_move rfl) rfl (o_v (v_move rfl) rfl (o_v (v_bin rfl rfl rfl) rfl ?_))))))
 obtain ⟨v_, h4, hF⟩ := bd hF
 refine o_callSB call60 rfl lent_nil (tri60 h4 :) rfl (o_v (v_assign rfl) rfl (o_seq (c_ret ?_)))
 cases hF
 refine s_ret1 rfl (r_tmp rfl) fun a w hs => fin_sel hs [] ⟨rfl, rfl, rfl⟩ rfl sub_nil
end Go.Vc
