import Derived.Test.YtfhbgelpmbkooaaW1
set_option linter.unusedVariables false
set_option linter.unusedSimpArgs false
set_option maxRecDepth 8000
set_option maxHeartbeats 2000000
namespace Go.Vc
open Go Go.Proofs
theorem tri46 {k : Nat} {p : Forest_packer} {n : FNode} {b : Nat} {gb : Nat} {sa1 : Option Addr} {sn1 sc1 : Nat} {sa2 : Option Addr} {sn2 sc2 : Nat} {sa3 : Option Addr} {sn3 sc3 : Nat} {gb1 : Nat} {gb2 : Nat} {gb3 : Nat} {gb4 : Nat} {gb5 : Nat} {sa4 : Option Addr} {sn4 sc4 : Nat} {sa5 : Option Addr} {sn5 sc5 : Nat} {sa6 : Option Addr} {sn6 sc6 : Nat} {r : List Alt × Forest_packer} (hF : F.forest.packer_ways k p n = some r) :
    Tri Try.prog 46 [.pointer (some ⟨b, 0, none⟩), .agg #[.int .i64 n.Nt, .int .i64 n.Rule, .int .i64 n.Dot, .int .i64 n.From, .int .i64 n.To, .slice sa5 sn5 sc5, .slice sa6 sn6 sc6]] [.box b 100 [.pointer (some ⟨gb, 0, none⟩), .map (some gb4), .map (some gb5), .int .i64 p.f.Root, .slice sa4 sn4 sc4], .box gb 91 [.int .i64 p.v.g.Nts, .int .i64 p.v.g.Start, .slice sa1 sn1 sc1, .slice sa2 sn2 sc2, .slice sa3 sn3 sc3, .map (some gb1), .map (some gb2), .map (some gb3)], .mp gb1 (mEnc kForest_span (tenc p.v.whole)), .mp gb2 (mEnc kForest_span (tenc p.v.counts)), .mp gb3 (mEnc kForest_part (tenc p.v.rows)), .mp gb4 (mEnc kForest_span (tenc p.spans)), .mp gb5 (mEnc kForest_part (tenc p.parts)), .row (.slice sa4 sn4 sc4) 62 7 (p.f.Nodes.map eFNode)] [(.slice sa1 sn1 sc1, .slice 2 (p.v.g.Rules.map eRule)), (.slice sa2 sn2 sc2, .slice 1 (p.v.w_.map eU8)), (.slice sa3 sn3 sc3, .slice 1 (p.v.by_.map (eSl 1 eI64))), (.slice sa5 sn5 sc5, .slice 1 (n.Ban.map eI64)), (.slice sa6 sn6 sc6, .slice 4 (n.Alts.map eAlt))] (fun o H Φ => ∃ (sa33 : Option Addr) (sn33 sc33 : Nat) (sa34 : Option Addr) (sn34 sc34 : Nat), o = .ret (.slice sa33 sn33 sc33) ∧ H = [.box b 100 [.pointer (some ⟨gb, 0, none⟩), .map (some gb4), .map (some gb5), .int .i64 p.f.Root, .slice sa34 sn34 sc34], .box gb 91 [.int .i64 p.v.g.Nts, .int .i64 p.v.g.Start, .slice sa1 sn1 sc1, .slice sa2 sn2 sc2, .slice sa3 sn3 sc3, .map (some gb1), .map (some gb2), .map (some gb3)], .mp gb1 (mEnc kForest_span (tenc r.2.v.whole)), .mp gb2 (mEnc kForest_span (tenc r.2.v.counts)), .mp gb3 (mEnc kForest_part (tenc r.2.v.rows)), .mp gb4 (mEnc kForest_span (tenc r.2.spans)), .mp gb5 (mEnc kForest_part (tenc r.2.parts)), .row (.slice sa34 sn34 sc34) 62 7 (r.2.f.Nodes.map eFNode), .row (.slice sa33 sn33 sc33) 108 4 (r.1.map eAlt)] ∧ Φ = []) := by
  unfold F.forest.packer_ways at hF
  refine tri_intro (n := 146) Try.func46 rfl Try.ntmps46 rfl fun w X => c_seq (c_region (o_box rfl rfl rfl fun b1 => o_v (v_assign rfl) rfl (o_seq (c_seq (c_region (o_v (v_assign rfl) rfl (o_seq (c_seq (c_seq (c_region (o_v (fa 2 rfl) rfl (o_v (vl 0 ty3 rfl rfl rfl) rfl (o_v (v_bin rfl rfl rfl) rfl ?_)))))))))))))
  refine o_seq ?_
  refine c_cond rfl (fun h1 => ?_) (fun h1 => ?_)
  replace hF := ite_t h1 hF
  refine c_seq (c_seq (ite_some hF fun h2 hF => c_elem (xs := p.v.by_) (enc := (eSl 1 eI64)) 2 rfl h2 rfl rfl fun sa7 sn7 sc7 => c_draw (n := 13) [0, 0, 0, 0, 0, 0, 0, 0, 0] mixed rfl rfl (dv 0 rfl (v_move rfl) (dv 1 rfl (v_nilCheck rfl) (dv 2 rfl (fa 0 rfl) (dv 3 rfl (vl 1 ty69 rfl rfl rfl) (dv 4 rfl (v_nilCheck rfl) (dv 5 rfl (fa 4 rfl) (dv 6 rfl (vl 2 ty87 rfl rfl rfl) (dv 7 rfl (fa 0 rfl) (dv 8 rfl (vl 0 ty3 rfl rfl rfl) (dv 9 rfl (v_indexAddr_s (xs := p.v.by_) (enc := (eSl 1 eI64)) sl87 rfl rfl (.f 4 rfl) h2) (dv 10 rfl (v_load_cl 0 ty59 rfl rfl rfl rfl rfl) ?_)))))))))))))
  refine dv 11 rfl (v_lenS (enc := eI64) (at_ p.v.by_ n.Nt) sl59 rfl (.f 1 rfl)) (dv 12 rfl (v_move rfl) (d_done_seq (by kernel_rfl) ?_))
  obtain ⟨o1, ho1, hF⟩ := bd hF
  refine c_cut (fun E N' => ∀ (sa10 : Option Addr) (sn10 sc10 : Nat) (sa11 : Option Addr) (sn11 sc11 : Nat), Sat E [(0, .pointer (some ⟨b, 0, none⟩)), (1, .agg #[.int .i64 n.Nt, .int .i64 n.Rule, .int .i64 n.Dot, .int .i64 n.From, .int .i64 n.To, .slice sa5 sn5 sc5, .slice sa6 sn6 sc6]), (3, .pointer (some ⟨b1, 0, none⟩)), (4, .slice none 0 0), (5, .slice sa10 sn10 sc10), (26, .slice sa7 sn7 sc7)] [.box b1 62 [.int .i64 n.Nt, .int .i64 n.Rule, .int .i64 n.Dot, .int .i64 n.From, .int .i64 n.To, .slice sa5 sn5 sc5, .slice sa6 sn6 sc6], .box b 100 [.pointer (some ⟨gb, 0, none⟩), .map (some gb4), .map (some gb5), .int .i64 p.f.Root, .slice sa11 sn11 sc11], .box gb 91 [.int .i64 p.v.g.Nts, .int .i64 p.v.g.Start, .slice sa1 sn1 sc1, .slice sa2 sn2 sc2, .slice sa3 sn3 sc3, .map (some gb1), .map (some gb2), .map (some gb3)], .mp gb1 (mEnc kForest_span (tenc o1.2.2.1)), .mp gb2 (mEnc kForest_span (tenc o1.2.2.2.1)), .mp gb3 (mEnc kForest_part (tenc o1.2.2.2.2.1)), .mp gb4 (mEnc kForest_span (tenc o1.2.2.2.2.2.1)), .mp gb5 (mEnc kForest_part (tenc o1.2.2.2.2.2.2)), .row (.slice sa10 sn10 sc10) 108 4 (o1.1.map eAlt), .row (.slice sa11 sn11 sc11) 62 7 (o1.2.1.map eFNode)] [(.slice sa5 sn5 sc5, .slice 1 (n.Ban.map eI64)), (.slice sa6 sn6 sc6, .slice 4 (n.Alts.map eAlt)), (.slice sa7 sn7 sc7, .slice 1 ((at_ p.v.by_ n.Nt).map eI64)), (.slice sa1 sn1 sc1, .slice 2 (p.v.g.Rules.map eRule)), (.slice sa2 sn2 sc2, .slice 1 (p.v.w_.map eU8)), (.slice sa3 sn3 sc3, .slice 1 (p.v.by_.map (eSl 1 eI64)))] N') (fun N1 hN1 => ?_) ?_
  refine c_block ?_
  refine c_loopE (fun E j a w => ∃ (out : List Alt) (t28 : Int) (Nodes_ : List FNode) (v_ : List (Forest_span × Int)) (v_1 : List (Forest_span × Int)) (v_2 : List (Forest_part × Int)) (v_3 : List (Forest_span × Int)) (v_4 : List (Forest_part × Int)) (sa8 : Option Addr) (sn8 sc8 : Nat) (sa9 : Option Addr) (sn9 sc9 : Nat), F.forest.packer_ways_l1 k p n j out t28 Nodes_ v_ v_1 v_2 v_3 v_4 = some o1 ∧ St E [(0, .pointer (some ⟨b, 0, none⟩)), (1, .agg #[.int .i64 n.Nt, .int .i64 n.Rule, .int .i64 n.Dot, .int .i64 n.From, .int .i64 n.To, .slice sa5 sn5 sc5, .slice sa6 sn6 sc6]), (3, .pointer (some ⟨b1, 0, none⟩)), (4, .slice none 0 0), (5, .slice sa8 sn8 sc8), (26, .slice sa7 sn7 sc7), (27, .int .i64 ((at_ p.v.by_ n.Nt).length : Int)), (28, .int .i64 t28)] [.box b1 62 [.int .i64 n.Nt, .int .i64 n.Rule, .int .i64 n.Dot, .int .i64 n.From, .int .i64 n.To, .slice sa5 sn5 sc5, .slice sa6 sn6 sc6], .box b 100 [.pointer (some ⟨gb, 0, none⟩), .map (some gb4), .map (some gb5), .int .i64 p.f.Root, .slice sa9 sn9 sc9], .box gb 91 [.int .i64 p.v.g.Nts, .int .i64 p.v.g.Start, .slice sa1 sn1 sc1, .slice sa2 sn2 sc2, .slice sa3 sn3 sc3, .map (some gb1), .map (some gb2), .map (some gb3)], .mp gb1 (mEnc kForest_span (tenc v_)), .mp gb2 (mEnc kForest_span (tenc v_1)), .mp gb3 (mEnc kForest_part (tenc v_2)), .mp gb4 (mEnc kForest_span (tenc v_3)), .mp gb5 (mEnc kForest_part (tenc v_4)), .row (.slice sa8 sn8 sc8) 108 4 (out.map eAlt), .row (.slice sa9 sn9 sc9) 62 7 (Nodes_.map eFNode)] [(.slice sa5 sn5 sc5, .slice 1 (n.Ban.map eI64)), (.slice sa6 sn6 sc6, .slice 4 (n.Alts.map eAlt)), (.slice sa7 sn7 sc7, .slice 1 ((at_ p.v.by_ n.Nt).map eI64)), (.slice sa1 sn1 sc1, .slice 2 (p.v.g.Rules.map eRule)), (.slice sa2 sn2 sc2, .slice 1 (p.v.w_.map eU8)), (.slice sa3 sn3 sc3, .slice 1 (p.v.by_.map (eSl 1 eI64)))] a w) k ?_ ?_
  refine s_st (st_nilrow 108 4) ?_
  intro a w hs
  exact ⟨([] : List Alt), 0, p.f.Nodes, p.v.whole, p.v.counts, p.v.rows, p.spans, p.parts, none, 0, 0, sa4, sn4, sc4, ho1, st_le [1, 1, 1, 1, 1, 1, 1, 1, 0, 0] (lea rfl) rfl (subs [5, 6, 1, 2, 3, 4] rfl) a w hs⟩
  rintro j a w ⟨out, t28, Nodes_, v_, v_1, v_2, v_3, v_4, sa8, sn8, sc8, sa9, sn9, sc9, hL1, hs⟩
  rcases j with _ | j
  cases hL1
  refine wc_app hs ?_
  unfold F.forest.packer_ways_l1 at hL1
  refine c_seq (c_region (o_v (v_bin rfl rfl rfl) rfl (o_seq (c_seq ?_))))
  refine c_cond rfl (fun h3 => ?_) (fun h3 => ?_)
  replace hL1 := ite_t h3 hL1
  refine c_skip (sat_wc (c_seq ?_))
  refine cT (fun E H Φ N' => ∀ (out1 : List Alt) (Nodes_1 : List FNode) (v_5 : List (Forest_span × Int)) (v_6 : List (Forest_span × Int)) (v_7 : List (Forest_part × Int)) (v_8 : List (Forest_span × Int)) (v_9 : List (Forest_part × Int)) (sa12 : Option Addr) (sn12 sc12 : Nat) (sa13 : Option Addr) (sn13 sc13 : Nat) (b2 : Nat), F.forest.packer_ways_j2 (F.forest.packer_ways_l1 k p n j) t28 out1 Nodes_1 v_5 v_6 v_7 v_8 v_9 = some o1 → Sat E [(0, .pointer (some ⟨b, 0, none⟩)), (1, .agg #[.int .i64 n.Nt, .int .i64 n.Rule, .int .i64 n.Dot, .int .i64 n.From, .int .i64 n.To, .slice sa5 sn5 sc5, .slice sa6 sn6 sc6]), (3, .pointer (some ⟨b1, 0, none⟩)), (4, .slice none 0 0), (5, .slice sa12 sn12 sc12), (7, .int .i64 (at_ (at_ p.v.by_ n.Nt) t28)), (8, .pointer (some ⟨b2, 0, none⟩)), (26, .slice sa7 sn7 sc7), (27, .int .i64 ((at_ p.v.by_ n.Nt).length : Int)), (28, .int .i64 t28)] [.box b 100 [.pointer (some ⟨gb, 0, none⟩), .map (some gb4), .map (some gb5), .int .i64 p.f.Root, .slice sa13 sn13 sc13], .box gb 91 [.int .i64 p.v.g.Nts, .int .i64 p.v.g.Start, .slice sa1 sn1 sc1, .slice sa2 sn2 sc2, .slice sa3 sn3 sc3, .map (some gb1), .map (some gb2), .map (some gb3)], .mp gb1 (mEnc kForest_span (tenc v_5)), .mp gb2 (mEnc kForest_span (tenc v_6)), .mp gb3 (mEnc kForest_part (tenc v_7)), .mp gb4 (mEnc kForest_span (tenc v_8)), .mp gb5 (mEnc kForest_part (tenc v_9)), .box b1 62 [.int .i64 n.Nt, .int .i64 n.Rule, .int .i64 n.Dot, .int .i64 n.From, .int .i64 n.To, .slice sa5 sn5 sc5, .slice sa6 sn6 sc6], .box b2 85 [.int .i64 (at_ (at_ p.v.by_ n.Nt) t28), .int .i64 (((at_ p.v.g.Rules (at_ (at_ p.v.by_ n.Nt) t28)).Rhs).length : Int), .int .i64 n.From, .int .i64 n.To], .row (.slice sa12 sn12 sc12) 108 4 (out1.map eAlt), .row (.slice sa13 sn13 sc13) 62 7 (Nodes_1.map eFNode)] Φ N') (fun N2 hN2 => ?_) ?_
  refine c_block (c_seq (c_region (ite_some hL1 fun h4 hL1 => o_v (v_indexAddr_s (xs := at_ p.v.by_ n.Nt) (enc := eI64) sl59 rfl rfl (.f 2 rfl) h4) rfl (o_v (v_load_s (xs := at_ p.v.by_ n.Nt) (enc := eI64) ty3 rfl (.f 2 rfl) h4 rfl rfl rfl rfl rfl rfl rfl) rfl (o_v (v_assign rfl) rfl (o_seq (c_seq (ite_some hL1 fun h5 hL1 => c_elem (xs := p.v.g.Rules) (enc := eRule) 3 rfl h5 rfl rfl fun sa14 sn14 sc14 => c_draw (n := 21) [0, 0, 0, 0, 0, 0, 0, 0, 0, 0] mixed rfl rfl (dv 0 rfl (v_move rfl) (dv 1 rfl (v_move rfl) (dv 2 rfl (v_nilCheck rfl) (dv 3 rfl (fa 0 rfl) ?_))))))))))))
  refine dv 4 rfl (vl 1 ty69 rfl rfl rfl) (dv 5 rfl (v_nilCheck rfl) (dv 6 rfl (fa 0 rfl) (dv 7 rfl (fa 2 rfl) (dv 8 rfl (vl 2 ty22 rfl rfl rfl) (dv 9 rfl (v_move rfl) (dv 10 rfl (v_indexAddr_s (xs := p.v.g.Rules) (enc := eRule) sl22 rfl rfl (.f 5 rfl) h5) (dv 11 rfl (v_fieldAddr (v := .pointer (some ⟨blkA sa1, offA sa1 + (Int.toNat (at_ (at_ p.v.by_ n.Nt) t28) * 2 + 1), none⟩)) rfl (fun _ => by kernel_rfl)) (dv 12 rfl (v_load_cl 0 ty48 rfl rfl rfl rfl rfl) (dv 13 rfl (v_lenS (enc := eKSym) ((at_ p.v.g.Rules (at_ (at_ p.v.by_ n.Nt) t28)).Rhs) sl48 rfl (.f 1 rfl)) (dv 14 rfl (fa 3 rfl) (dv 15 rfl (vl 0 ty3 rfl rfl rfl) (dv 16 rfl (fa 4 rfl) (dv 17 rfl (vl 0 ty3 rfl rfl rfl) (dv 18 rfl (v_build (v := .agg #[.int .i64 (at_ (at_ p.v.by_ n.Nt) t28), .int .i64 (((at_ p.v.g.Rules (at_ (at_ p.v.by_ n.Nt) t28)).Rhs).length : Int), .int .i64 n.From, .int .i64 n.To]) rfl (fun _ => by kernel_rfl)) (d_one 19 rfl (by kernel_rfl) ?_)))))))))))))))
  refine o_alloc zero85 rfl rfl fun b3 => d_next [1, 1, 1, 1, 1, 1, 1, 1, 1, 1] 0 rfl rfl (d_one 20 rfl (by kernel_rfl) (o_store_box 0 rfl ty85 rfl rfl rfl rfl rfl rfl rfl (d_next [1, 1, 1, 1, 1, 1, 1, 1, 1, 1] 0 rfl rfl (d_done_seq (by kernel_rfl) (c_seq (c_draw (n := 7) [0, 0, 0, 4, 4, 4, 4] mixed rfl rfl (dv 0 rfl (v_move rfl) (dv 1 rfl (v_nilCheck rfl) (dv 2 rfl (fa 0 rfl) (dv 3 rfl (vl 2 ty69 rfl rfl rfl) (dv 4 rfl (vl 0 ty85 rfl rfl rfl) (d_one 5 rfl (by kernel_rfl) ?_))))))))))))
  obtain ⟨v_10, h6, hL1⟩ := bd hL1
  refine ocl [3, 3, 3, 3] call39 rfl rfl (subs [5, 6, 7] rfl) (tri39 h6 :) ?_
  rintro _ _ _ ⟨rfl, rfl, rfl⟩
  refine o_H [.box gb 91 [.int .i64 p.v.g.Nts, .int .i64 p.v.g.Start, .slice sa1 sn1 sc1, .slice sa2 sn2 sc2, .slice sa3 sn3 sc3, .map (some gb1), .map (some gb2), .map (some gb3)], .mp gb1 (mEnc kForest_span (tenc v_10.2.whole)), .mp gb2 (mEnc kForest_span (tenc v_10.2.counts)), .mp gb3 (mEnc kForest_part (tenc v_10.2.rows)), .box b3 85 [.int .i64 (at_ (at_ p.v.by_ n.Nt) t28), .int .i64 (((at_ p.v.g.Rules (at_ (at_ p.v.by_ n.Nt) t28)).Rhs).length : Int), .int .i64 n.From, .int .i64 n.To], .box b1 62 [.int .i64 n.Nt, .int .i64 n.Rule, .int .i64 n.Dot, .int .i64 n.From, .int .i64 n.To, .slice sa5 sn5 sc5, .slice sa6 sn6 sc6], .box b 100 [.pointer (some ⟨gb, 0, none⟩), .map (some gb4), .map (some gb5), .int .i64 p.f.Root, .slice sa9 sn9 sc9], .mp gb4 (mEnc kForest_span (tenc v_3)), .mp gb5 (mEnc kForest_part (tenc v_4)), .row (.slice sa8 sn8 sc8) 108 4 (out.map eAlt), .row (.slice sa9 sn9 sc9) 62 7 (Nodes_.map eFNode)] rfl (d_next [4, 4, 4, 4, 4, 4, 4] 0 rfl rfl (dv 6 rfl (v_bin rfl rfl rfl) (d_done_seq (by kernel_rfl) ?_)))
  refine c_cut (fun E N' => ∀ (out2 : List Alt) (Nodes_2 : List FNode) (v_11 : List (Forest_span × Int)) (v_12 : List (Forest_span × Int)) (v_13 : List (Forest_part × Int)) (v_14 : List (Forest_span × Int)) (v_15 : List (Forest_part × Int)) (sa15 : Option Addr) (sn15 sc15 : Nat) (sa16 : Option Addr) (sn16 sc16 : Nat), F.forest.packer_ways_j3 (F.forest.packer_ways_l1 k p n j) t28 out2 Nodes_2 v_11 v_12 v_13 v_14 v_15 = some o1 → Sat E [(0, .pointer (some ⟨b, 0, none⟩)), (1, .agg #[.int .i64 n.Nt, .int .i64 n.Rule, .int .i64 n.Dot, .int .i64 n.From, .int .i64 n.To, .slice sa5 sn5 sc5, .slice sa6 sn6 sc6]), (3, .pointer (some ⟨b1, 0, none⟩)), (4, .slice none 0 0), (5, .slice sa15 sn15 sc15), (7, .int .i64 (at_ (at_ p.v.by_ n.Nt) t28)), (8, .pointer (some ⟨b3, 0, none⟩)), (26, .slice sa7 sn7 sc7), (27, .int .i64 ((at_ p.v.by_ n.Nt).length : Int)), (28, .int .i64 t28)] [.box b 100 [.pointer (some ⟨gb, 0, none⟩), .map (some gb4), .map (some gb5), .int .i64 p.f.Root, .slice sa16 sn16 sc16], .box gb 91 [.int .i64 p.v.g.Nts, .int .i64 p.v.g.Start, .slice sa1 sn1 sc1, .slice sa2 sn2 sc2, .slice sa3 sn3 sc3, .map (some gb1), .map (some gb2), .map (some gb3)], .mp gb1 (mEnc kForest_span (tenc v_11)), .mp gb2 (mEnc kForest_span (tenc v_12)), .mp gb3 (mEnc kForest_part (tenc v_13)), .mp gb4 (mEnc kForest_span (tenc v_14)), .mp gb5 (mEnc kForest_part (tenc v_15)), .box b3 85 [.int .i64 (at_ (at_ p.v.by_ n.Nt) t28), .int .i64 (((at_ p.v.g.Rules (at_ (at_ p.v.by_ n.Nt) t28)).Rhs).length : Int), .int .i64 n.From, .int .i64 n.To], .box b1 62 [.int .i64 n.Nt, .int .i64 n.Rule, .int .i64 n.Dot, .int .i64 n.From, .int .i64 n.To, .slice sa5 sn5 sc5, .slice sa6 sn6 sc6], .row (.slice sa15 sn15 sc15) 108 4 (out2.map eAlt), .row (.slice sa16 sn16 sc16) 62 7 (Nodes_2.map eFNode)] [(.slice sa5 sn5 sc5, .slice 1 (n.Ban.map eI64)), (.slice sa6 sn6 sc6, .slice 4 (n.Alts.map eAlt)), (.slice sa7 sn7 sc7, .slice 1 ((at_ p.v.by_ n.Nt).map eI64)), (.slice sa1 sn1 sc1, .slice 2 (p.v.g.Rules.map eRule)), (.slice sa2 sn2 sc2, .slice 1 (p.v.w_.map eU8)), (.slice sa3 sn3 sc3, .slice 1 (p.v.by_.map (eSl 1 eI64)))] N') (fun N3 hN3 => ?_) ?_
  refine c_cond rfl (fun h7 => ?_) (fun h7 => ?_)
  replace hL1 := ite_t h7 hL1
  refine c_region (o_v (v_move rfl) rfl (o_v (v_move rfl) rfl (o_v (v_move rfl) rfl (o_v (vl 4 ty85 rfl rfl rfl) rfl ?_))))
  obtain ⟨v_16, h8, hL1⟩ := bd hL1
  refine ocl [6, 0, 0, 0, 0, 2, 2, 3] call65 rfl rfl (subs [5, 6, 7] rfl) (tri65 h8 :) ?_
  rintro _ _ _ ⟨sa17, sn17, sc17, rfl, rfl, rfl⟩
  refine o_H [.box b 100 [.pointer (some ⟨gb, 0, none⟩), .map (some gb4), .map (some gb5), .int .i64 p.f.Root, .slice sa17 sn17 sc17], .box gb 91 [.int .i64 p.v.g.Nts, .int .i64 p.v.g.Start, .slice sa1 sn1 sc1, .slice sa2 sn2 sc2, .slice sa3 sn3 sc3, .map (some gb1), .map (some gb2), .map (some gb3)], .mp gb1 (mEnc kForest_span (tenc v_16.2.v.whole)), .mp gb2 (mEnc kForest_span (tenc v_16.2.v.counts)), .mp gb3 (mEnc kForest_part (tenc v_16.2.v.rows)), .mp gb4 (mEnc kForest_span (tenc v_16.2.spans)), .mp gb5 (mEnc kForest_part (tenc v_16.2.parts)), .row (.slice sa17 sn17 sc17) 62 7 (v_16.2.f.Nodes.map eFNode), .box b3 85 [.int .i64 (at_ (at_ p.v.by_ n.Nt) t28), .int .i64 (((at_ p.v.g.Rules (at_ (at_ p.v.by_ n.Nt) t28)).Rhs).length : Int), .int .i64 n.From, .int .i64 n.To], .box b1 62 [.int .i64 n.Nt, .int .i64 n.Rule, .int .i64 n.Dot, .int .i64 n.From, .int .i64 n.To, .slice sa5 sn5 sc5, .slice sa6 sn6 sc6], .row (.slice sa8 sn8 sc8) 108 4 (out.map eAlt)] rfl (o_v (v_build (v := .agg #[.int .i64 (at_ (at_ p.v.by_ n.Nt) t28), .int .i64 0, .int .i64 v_16.1, .int .i64 (-1)]) rfl (fun _ => by kernel_rfl)) rfl (o_buildSlice (enc := eAlt) ([(Alt.mk (at_ (at_ p.v.by_ n.Nt) t28) 0 v_16.1 (-1))] : List Alt) [.int .i64 (at_ (at_ p.v.by_ n.Nt) t28), .int .i64 0, .int .i64 v_16.1, .int .i64 (-1)] sl60 rfl (fun _ => by kernel_rfl) rfl rfl rfl (.s rfl (.s rfl (.s rfl (.s rfl (.nil))))) rfl fun sa18 sn18 sc18 => ite_some hL1 fun h9 hL1 => ite_some hL1 fun h10 hL1 => o_append (enc := eAlt) (xs := out) (ys := ([(Alt.mk (at_ (at_ p.v.by_ n.Nt) t28) 0 v_16.1 (-1))] : List Alt)) 11 sl60 rfl rfl rfl (.r 0 _ rfl) h9 h10 rfl fun sa19 sn19 sc19 => o_H [.row (.slice sa18 sn18 sc18) 108 4 (([(Alt.mk (at_ (at_ p.v.by_ n.Nt) t28) 0 v_16.1 (-1))] : List Alt).map eAlt), .box b 100 [.pointer (some ⟨gb, 0, none⟩), .map (some gb4), .map (some gb5), .int .i64 p.f.Root, .slice sa17 sn17 sc17], .box gb 91 [.int .i64 p.v.g.Nts, .int .i64 p.v.g.Start, .slice sa1 sn1 sc1, .slice sa2 sn2 sc2, .slice sa3 sn3 sc3, .map (some gb1), .map (some gb2), .map (some gb3)], .mp gb1 (mEnc kForest_span (tenc v_16.2.v.whole)), .mp gb2 (mEnc kForest_span (tenc v_16.2.v.counts)), .mp gb3 (mEnc kForest_part (tenc v_16.2.v.rows)), .mp gb4 (mEnc kForest_span (tenc v_16.2.spans)), .mp gb5 (mEnc kForest_part (tenc v_16.2.parts)), .row (.slice sa17 sn17 sc17) 62 7 (v_16.2.f.Nodes.map eFNode), .box b3 85 [.int .i64 (at_ (at_ p.v.by_ n.Nt) t28), .int .i64 (((at_ p.v.g.Rules (at_ (at_ p.v.by_ n.Nt) t28)).Rhs).length : Int), .int .i64 n.From, .int .i64 n.To], .box b1 62 [.int .i64 n.Nt, .int .i64 n.Rule, .int .i64 n.Dot, .int .i64 n.From, .int .i64 n.To, .slice sa5 sn5 sc5, .slice sa6 sn6 sc6], .row (.slice sa19 sn19 sc19) 108 4 ((out ++ ([(Alt.mk (at_ (at_ p.v.by_ n.Nt) t28) 0 v_16.1 (-1))] : List Alt)).map eAlt)] rfl (o_v (v_assign rfl) rfl (o_nil ?_))))
  refine s_st ?_ (hN3 (out ++ ([(Alt.mk (at_ (at_ p.v.by_ n.Nt) t28) 0 v_16.1 (-1))] : List Alt)) v_16.2.f.Nodes v_16.2.v.whole v_16.2.v.counts v_16.2.v.rows v_16.2.spans v_16.2.parts sa19 sn19 sc19 sa17 sn17 sc17 hL1)
  exact st_le [1, 1, 1, 1, 1, 1, 1, 2, 2, 2, 1] (lea rfl) rfl (subs [2, 3, 4, 5, 6, 7] rfl)
  replace hL1 := ite_f h7 hL1
  refine c_skip ?_
  refine s_st ?_ (hN3 out Nodes_ v_10.2.whole v_10.2.counts v_10.2.rows v_3 v_4 sa8 sn8 sc8 sa9 sn9 sc9 hL1)
  exact st_le [6, 0, 0, 0, 0, 2, 2, 0, 0, 0, 0] (lea rfl) rfl (subs [2, 3, 4, 5, 6, 7] rfl)
  intro out2 Nodes_2 v_11 v_12 v_13 v_14 v_15 sa15 sn15 sc15 sa16 sn16 sc16 hL1
  unfold F.forest.packer_ways_j3 at hL1
  refine s_st ?_ (hN2 out2 Nodes_2 v_11 v_12 v_13 v_14 v_15 sa15 sn15 sc15 sa16 sn16 sc16 b3 hL1)
  exact st_le [0, 0, 0, 0, 0, 0, 0, 1, 0, 0, 0] (lea rfl) rfl (subs [0, 1, 2, 3, 4, 5] rfl)
  intro out1 Nodes_1 v_5 v_6 v_7 v_8 v_9 sa12 sn12 sc12 sa13 sn13 sc13 b2 hL1
  unfold F.forest.packer_ways_j2 at hL1
  refine sat_wc (c_region (o_v (v_bin rfl rfl rfl) rfl (o_v (v_move rfl) rfl (o_nil ?_))))
  intro a w hs
  exact ⟨j, Nat.lt_succ_self j, out1, IntKind.wrap .i64 (t28 + 1), Nodes_1, v_5, v_6, v_7, v_8, v_9, sa12, sn12, sc12, sa13, sn13, sc13, hL1, st_le [7, 0, 0, 0, 0, 0, 0, 0, 1, 1] (lea rfl) rfl (subs [0, 1, 2, 3, 4, 5] rfl) a w hs⟩
  replace hL1 := ite_f h3 hL1
  refine c_exit0 ?_
  cases hL1
  refine s_st ?_ (hN1 sa8 sn8 sc8 sa9 sn9 sc9)
  exact st_le [0, 0, 0, 0, 0, 0, 0, 0, 0, 0] (lea rfl) rfl (subs [0, 1, 2, 3, 4, 5] rfl)
  intro sa10 sn10 sc10 sa11 sn11 sc11
  refine sat_wc (c_seq (c_region (o_v (v_move rfl) rfl (o_v (v_assign rfl) rfl (o_seq (c_ret ?_))))))
  cases hF
  refine s_ret1 rfl (r_tmp rfl) fun a w hs => fin_sel hs [1, 1, 1, 1, 1, 1, 1, 2, 1] ⟨sa10, sn10, sc10, sa11, sn11, sc11, rfl, rfl, rfl⟩ rfl sub_nil
  replace hF := ite_f h1 hF
  refine c_skip (sat_wc (c_seq (ite_some hF fun h11 hF => c_elem (xs := p.v.g.Rules) (enc := eRule) 0 rfl h11 rfl rfl fun sa20 sn20 sc20 => c_draw (n := 20) [0, 0, 0, 0, 0, 0, 0, 0, 0] mixed rfl rfl (dv 0 rfl (v_move rfl) (dv 1 rfl (v_nilCheck rfl) (dv 2 rfl (fa 0 rfl) (dv 3 rfl (vl 1 ty69 rfl rfl rfl) (dv 4 rfl (v_nilCheck rfl) (dv 5 rfl (fa 0 rfl) (dv 6 rfl (fa 2 rfl) (dv 7 rfl (vl 2 ty22 rfl rfl rfl) (dv 8 rfl (fa 1 rfl) (dv 9 rfl (vl 0 ty3 rfl rfl rfl) ?_)))))))))))))
  refine dv 10 rfl (v_indexAddr_s (xs := p.v.g.Rules) (enc := eRule) sl22 rfl rfl (.f 2 rfl) h11) (dv 11 rfl (v_fieldAddr (v := .pointer (some ⟨blkA sa1, offA sa1 + (Int.toNat n.Rule * 2 + 1), none⟩)) rfl (fun _ => by kernel_rfl)) (dv 12 rfl (v_load_cl 0 ty48 rfl rfl rfl rfl rfl) (dv 13 rfl (fa 2 rfl) (dv 14 rfl (vl 0 ty3 rfl rfl rfl) (dv 15 rfl (v_bin rfl rfl rfl) (ite_some hF fun h12 hF => dv 16 rfl (v_indexAddr_s (xs := (at_ p.v.g.Rules n.Rule).Rhs) (enc := eKSym) sl48 rfl rfl (.f 1 rfl) h12) (dv 17 rfl (v_load_s (xs := (at_ p.v.g.Rules n.Rule).Rhs) (enc := eKSym) ty47 rfl (.f 1 rfl) h12 rfl rfl rfl rfl rfl rfl rfl) (d_one 18 rfl (by kernel_rfl) (o_alloc zero47 rfl rfl fun b4 => d_next [1, 1, 1, 1, 1, 1, 1, 1, 1] 0 rfl rfl (d_one 19 rfl (by kernel_rfl) (o_store_box 0 rfl ty47 rfl rfl rfl rfl rfl rfl rfl (d_next [1, 1, 1, 1, 1, 1, 1, 1, 1] 0 rfl rfl (d_done_seq (by kernel_rfl) ?_)))))))))))))
  refine c_seq (c_seq (c_region (o_v (fa 3 rfl) rfl (o_v (vl 1 ty3 rfl rfl rfl) rfl (o_v (v_assign rfl) rfl (o_seq ?_))))))
  obtain ⟨o4, ho4, hF⟩ := bd hF
  refine c_cut (fun E N' => ∀ (sa23 : Option Addr) (sn23 sc23 : Nat) (sa24 : Option Addr) (sn24 sc24 : Nat), Sat E [(0, .pointer (some ⟨b, 0, none⟩)), (1, .agg #[.int .i64 n.Nt, .int .i64 n.Rule, .int .i64 n.Dot, .int .i64 n.From, .int .i64 n.To, .slice sa5 sn5 sc5, .slice sa6 sn6 sc6]), (3, .pointer (some ⟨b1, 0, none⟩)), (4, .slice none 0 0), (5, .slice sa23 sn23 sc23), (9, .pointer (some ⟨b4, 0, none⟩))] [.box b4 47 [.int .i64 ((at_ ((at_ p.v.g.Rules n.Rule).Rhs) (IntKind.wrap .i64 (n.Dot - 1))).Nt), .int .u64 ((at_ ((at_ p.v.g.Rules n.Rule).Rhs) (IntKind.wrap .i64 (n.Dot - 1))).Set.w0), .int .u64 ((at_ ((at_ p.v.g.Rules n.Rule).Rhs) (IntKind.wrap .i64 (n.Dot - 1))).Set.w1), .int .u64 ((at_ ((at_ p.v.g.Rules n.Rule).Rhs) (IntKind.wrap .i64 (n.Dot - 1))).Set.w2), .int .u64 ((at_ ((at_ p.v.g.Rules n.Rule).Rhs) (IntKind.wrap .i64 (n.Dot - 1))).Set.w3)], .box b1 62 [.int .i64 n.Nt, .int .i64 n.Rule, .int .i64 n.Dot, .int .i64 n.From, .int .i64 n.To, .slice sa5 sn5 sc5, .slice sa6 sn6 sc6], .box b 100 [.pointer (some ⟨gb, 0, none⟩), .map (some gb4), .map (some gb5), .int .i64 p.f.Root, .slice sa24 sn24 sc24], .box gb 91 [.int .i64 p.v.g.Nts, .int .i64 p.v.g.Start, .slice sa1 sn1 sc1, .slice sa2 sn2 sc2, .slice sa3 sn3 sc3, .map (some gb1), .map (some gb2), .map (some gb3)], .mp gb1 (mEnc kForest_span (tenc o4.2.2.1)), .mp gb2 (mEnc kForest_span (tenc o4.2.2.2.1)), .mp gb3 (mEnc kForest_part (tenc o4.2.2.2.2.1)), .mp gb4 (mEnc kForest_span (tenc o4.2.2.2.2.2.1)), .mp gb5 (mEnc kForest_part (tenc o4.2.2.2.2.2.2)), .row (.slice sa23 sn23 sc23) 108 4 (o4.1.map eAlt), .row (.slice sa24 sn24 sc24) 62 7 (o4.2.1.map eFNode)] [(.slice sa5 sn5 sc5, .slice 1 (n.Ban.map eI64)), (.slice sa6 sn6 sc6, .slice 4 (n.Alts.map eAlt)), (.slice sa1 sn1 sc1, .slice 2 (p.v.g.Rules.map eRule)), (.slice sa2 sn2 sc2, .slice 1 (p.v.w_.map eU8)), (.slice sa3 sn3 sc3, .slice 1 (p.v.by_.map (eSl 1 eI64)))] N') (fun N4 hN4 => ?_) ?_
  refine c_block ?_
  refine c_loopE (fun E j a w => ∃ (out3 : List Alt) (m : Int) (Nodes_3 : List FNode) (v_17 : List (Forest_span × Int)) (v_18 : List (Forest_span × Int)) (v_19 : List (Forest_part × Int)) (v_20 : List (Forest_span × Int)) (v_21 : List (Forest_part × Int)) (sa21 : Option Addr) (sn21 sc21 : Nat) (sa22 : Option Addr) (sn22 sc22 : Nat), F.forest.packer_ways_l4 k n p j out3 m Nodes_3 v_17 v_18 v_19 v_20 v_21 = some o4 ∧ St E [(0, .pointer (some ⟨b, 0, none⟩)), (1, .agg #[.int .i64 n.Nt, .int .i64 n.Rule, .int .i64 n.Dot, .int .i64 n.From, .int .i64 n.To, .slice sa5 sn5 sc5, .slice sa6 sn6 sc6]), (3, .pointer (some ⟨b1, 0, none⟩)), (4, .slice none 0 0), (5, .slice sa21 sn21 sc21), (9, .pointer (some ⟨b4, 0, none⟩)), (10, .int .i64 m)] [.box b4 47 [.int .i64 ((at_ ((at_ p.v.g.Rules n.Rule).Rhs) (IntKind.wrap .i64 (n.Dot - 1))).Nt), .int .u64 ((at_ ((at_ p.v.g.Rules n.Rule).Rhs) (IntKind.wrap .i64 (n.Dot - 1))).Set.w0), .int .u64 ((at_ ((at_ p.v.g.Rules n.Rule).Rhs) (IntKind.wrap .i64 (n.Dot - 1))).Set.w1), .int .u64 ((at_ ((at_ p.v.g.Rules n.Rule).Rhs) (IntKind.wrap .i64 (n.Dot - 1))).Set.w2), .int .u64 ((at_ ((at_ p.v.g.Rules n.Rule).Rhs) (IntKind.wrap .i64 (n.Dot - 1))).Set.w3)], .box b1 62 [.int .i64 n.Nt, .int .i64 n.Rule, .int .i64 n.Dot, .int .i64 n.From, .int .i64 n.To, .slice sa5 sn5 sc5, .slice sa6 sn6 sc6], .box b 100 [.pointer (some ⟨gb, 0, none⟩), .map (some gb4), .map (some gb5), .int .i64 p.f.Root, .slice sa22 sn22 sc22], .box gb 91 [.int .i64 p.v.g.Nts, .int .i64 p.v.g.Start, .slice sa1 sn1 sc1, .slice sa2 sn2 sc2, .slice sa3 sn3 sc3, .map (some gb1), .map (some gb2), .map (some gb3)], .mp gb1 (mEnc kForest_span (tenc v_17)), .mp gb2 (mEnc kForest_span (tenc v_18)), .mp gb3 (mEnc kForest_part (tenc v_19)), .mp gb4 (mEnc kForest_span (tenc v_20)), .mp gb5 (mEnc kForest_part (tenc v_21)), .row (.slice sa21 sn21 sc21) 108 4 (out3.map eAlt), .row (.slice sa22 sn22 sc22) 62 7 (Nodes_3.map eFNode)] [(.slice sa5 sn5 sc5, .slice 1 (n.Ban.map eI64)), (.slice sa6 sn6 sc6, .slice 4 (n.Alts.map eAlt)), (.slice sa1 sn1 sc1, .slice 2 (p.v.g.Rules.map eRule)), (.slice sa2 sn2 sc2, .slice 1 (p.v.w_.map eU8)), (.slice sa3 sn3 sc3, .slice 1 (p.v.by_.map (eSl 1 eI64)))] a w) k ?_ ?_
  refine s_st (st_nilrow 108 4) ?_
  intro a w hs
  exact ⟨([] : List Alt), n.From, p.f.Nodes, p.v.whole, p.v.counts, p.v.rows, p.spans, p.parts, none, 0, 0, sa4, sn4, sc4, ho4, st_le [1, 1, 1, 1, 1, 1, 1, 1, 1, 0, 0] (lea rfl) rfl (subs [5, 6, 2, 3, 4] rfl) a w hs⟩
  rintro j a w ⟨out3, m, Nodes_3, v_17, v_18, v_19, v_20, v_21, sa21, sn21, sc21, sa22, sn22, sc22, hL4, hs⟩
  rcases j with _ | j
  cases hL4
  refine wc_app hs ?_
  unfold F.forest.packer_ways_l4 at hL4
  refine c_seq (c_seq (c_region (o_v (v_move rfl) rfl (o_v (fa 4 rfl) rfl (o_v (vl 1 ty3 rfl rfl rfl) rfl (o_v (v_bin rfl rfl rfl) rfl (o_seq ?_)))))))
  refine c_cond rfl (fun h13 => ?_) (fun h13 => ?_)
  replace hL4 := ite_t h13 hL4
  refine c_skip (sat_wc (c_seq ?_))
  refine cT (fun E H Φ N' => ∀ (out4 : List Alt) (v_22 : List (Forest_span × Int)) (v_23 : List (Forest_span × Int)) (v_24 : List (Forest_part × Int)) (Nodes_4 : List FNode) (v_25 : List (Forest_span × Int)) (v_26 : List (Forest_part × Int)) (sa25 : Option Addr) (sn25 sc25 : Nat) (sa26 : Option Addr) (sn26 sc26 : Nat) (b5 : Nat), F.forest.packer_ways_j5 (F.forest.packer_ways_l4 k n p j) m out4 v_22 v_23 v_24 Nodes_4 v_25 v_26 = some o4 → Sat E [(0, .pointer (some ⟨b, 0, none⟩)), (1, .agg #[.int .i64 n.Nt, .int .i64 n.Rule, .int .i64 n.Dot, .int .i64 n.From, .int .i64 n.To, .slice sa5 sn5 sc5, .slice sa6 sn6 sc6]), (3, .pointer (some ⟨b1, 0, none⟩)), (4, .slice none 0 0), (5, .slice sa25 sn25 sc25), (9, .pointer (some ⟨b4, 0, none⟩)), (10, .int .i64 m), (11, .pointer (some ⟨b5, 0, none⟩))] [.box gb 91 [.int .i64 p.v.g.Nts, .int .i64 p.v.g.Start, .slice sa1 sn1 sc1, .slice sa2 sn2 sc2, .slice sa3 sn3 sc3, .map (some gb1), .map (some gb2), .map (some gb3)], .mp gb1 (mEnc kForest_span (tenc v_22)), .mp gb2 (mEnc kForest_span (tenc v_23)), .mp gb3 (mEnc kForest_part (tenc v_24)), .box b4 47 [.int .i64 ((at_ ((at_ p.v.g.Rules n.Rule).Rhs) (IntKind.wrap .i64 (n.Dot - 1))).Nt), .int .u64 ((at_ ((at_ p.v.g.Rules n.Rule).Rhs) (IntKind.wrap .i64 (n.Dot - 1))).Set.w0), .int .u64 ((at_ ((at_ p.v.g.Rules n.Rule).Rhs) (IntKind.wrap .i64 (n.Dot - 1))).Set.w1), .int .u64 ((at_ ((at_ p.v.g.Rules n.Rule).Rhs) (IntKind.wrap .i64 (n.Dot - 1))).Set.w2), .int .u64 ((at_ ((at_ p.v.g.Rules n.Rule).Rhs) (IntKind.wrap .i64 (n.Dot - 1))).Set.w3)], .box b1 62 [.int .i64 n.Nt, .int .i64 n.Rule, .int .i64 n.Dot, .int .i64 n.From, .int .i64 n.To, .slice sa5 sn5 sc5, .slice sa6 sn6 sc6], .box b 100 [.pointer (some ⟨gb, 0, none⟩), .map (some gb4), .map (some gb5), .int .i64 p.f.Root, .slice sa26 sn26 sc26], .mp gb4 (mEnc kForest_span (tenc v_25)), .mp gb5 (mEnc kForest_part (tenc v_26)), .box b5 85 [.int .i64 n.Rule, .int .i64 (IntKind.wrap .i64 (n.Dot - 1)), .int .i64 n.From, .int .i64 m], .row (.slice sa25 sn25 sc25) 108 4 (out4.map eAlt), .row (.slice sa26 sn26 sc26) 62 7 (Nodes_4.map eFNode)] Φ N') (fun N5 hN5 => ?_) ?_
  refine c_block (c_seq (c_region (o_v (fa 1 rfl) rfl (o_v (vl 1 ty3 rfl rfl rfl) rfl (o_v (fa 2 rfl) rfl (o_v (vl 1 ty3 rfl rfl rfl) rfl (o_v (v_bin rfl rfl rfl) rfl (o_v (fa 3 rfl) rfl (o_v (vl 1 ty3 rfl rfl rfl) rfl (o_v (v_move rfl) rfl (o_v (v_build (v := .agg #[.int .i64 n.Rule, .int .i64 (IntKind.wrap .i64 (n.Dot - 1)), .int .i64 n.From, .int .i64 m]) rfl (fun _ => by kernel_rfl)) rfl (o_alloc zero85 rfl rfl fun b6 => o_store_box 0 rfl ty85 rfl rfl rfl rfl rfl rfl rfl (o_seq (c_seq ?_))))))))))))))
  refine c_seq ?_
  refine cT (fun E H Φ N' => ∀ (t121 : Bool) (v_27 : List (Forest_span × Int)) (v_28 : List (Forest_span × Int)) (v_29 : List (Forest_part × Int)), F.forest.packer_ways_j6 (F.forest.packer_ways_l4 k n p j) m out3 Nodes_3 v_20 v_21 p n t121 v_27 v_28 v_29 = some o4 → Sat E [(0, .pointer (some ⟨b, 0, none⟩)), (1, .agg #[.int .i64 n.Nt, .int .i64 n.Rule, .int .i64 n.Dot, .int .i64 n.From, .int .i64 n.To, .slice sa5 sn5 sc5, .slice sa6 sn6 sc6]), (3, .pointer (some ⟨b1, 0, none⟩)), (4, .slice none 0 0), (5, .slice sa21 sn21 sc21), (9, .pointer (some ⟨b4, 0, none⟩)), (10, .int .i64 m), (11, .pointer (some ⟨b6, 0, none⟩)), (121, .bool t121)] [.box gb 91 [.int .i64 p.v.g.Nts, .int .i64 p.v.g.Start, .slice sa1 sn1 sc1, .slice sa2 sn2 sc2, .slice sa3 sn3 sc3, .map (some gb1), .map (some gb2), .map (some gb3)], .mp gb1 (mEnc kForest_span (tenc v_27)), .mp gb2 (mEnc kForest_span (tenc v_28)), .mp gb3 (mEnc kForest_part (tenc v_29)), .box b6 85 [.int .i64 n.Rule, .int .i64 (IntKind.wrap .i64 (n.Dot - 1)), .int .i64 n.From, .int .i64 m], .box b4 47 [.int .i64 ((at_ ((at_ p.v.g.Rules n.Rule).Rhs) (IntKind.wrap .i64 (n.Dot - 1))).Nt), .int .u64 ((at_ ((at_ p.v.g.Rules n.Rule).Rhs) (IntKind.wrap .i64 (n.Dot - 1))).Set.w0), .int .u64 ((at_ ((at_ p.v.g.Rules n.Rule).Rhs) (IntKind.wrap .i64 (n.Dot - 1))).Set.w1), .int .u64 ((at_ ((at_ p.v.g.Rules n.Rule).Rhs) (IntKind.wrap .i64 (n.Dot - 1))).Set.w2), .int .u64 ((at_ ((at_ p.v.g.Rules n.Rule).Rhs) (IntKind.wrap .i64 (n.Dot - 1))).Set.w3)], .box b1 62 [.int .i64 n.Nt, .int .i64 n.Rule, .int .i64 n.Dot, .int .i64 n.From, .int .i64 n.To, .slice sa5 sn5 sc5, .slice sa6 sn6 sc6], .box b 100 [.pointer (some ⟨gb, 0, none⟩), .map (some gb4), .map (some gb5), .int .i64 p.f.Root, .slice sa22 sn22 sc22], .mp gb4 (mEnc kForest_span (tenc v_20)), .mp gb5 (mEnc kForest_part (tenc v_21)), .row (.slice sa21 sn21 sc21) 108 4 (out3.map eAlt), .row (.slice sa22 sn22 sc22) 62 7 (Nodes_3.map eFNode)] Φ N') (fun N8 hN8 => ?_) ?_
  refine c_draw (n := 19) [0, 0, 0, 0, 4, 4, 4, 4] mixed rfl rfl (dv 0 rfl (v_move rfl) (dv 1 rfl (v_nilCheck rfl) (dv 2 rfl (fa 0 rfl) (dv 3 rfl (vl 3 ty69 rfl rfl rfl) (dv 4 rfl (vl 1 ty47 rfl rfl rfl) (dv 5 rfl (v_move rfl) (dv 6 rfl (fa 4 rfl) (dv 7 rfl (vl 2 ty3 rfl rfl rfl) (d_one 8 rfl (by kernel_rfl) ?_)))))))))
  obtain ⟨v_42, h20, hL4⟩ := bd hL4
  refine ocl [4, 4, 4, 4] call38 rfl rfl (subs [2, 3, 4] rfl) (tri38 h20 :) ?_
  rintro _ _ _ ⟨rfl, rfl, rfl⟩
  refine o_H [.box gb 91 [.int .i64 p.v.g.Nts, .int .i64 p.v.g.Start, .slice sa1 sn1 sc1, .slice sa2 sn2 sc2, .slice sa3 sn3 sc3, .map (some gb1), .map (some gb2), .map (some gb3)], .mp gb1 (mEnc kForest_span (tenc v_17)), .mp gb2 (mEnc kForest_span (tenc v_18)), .mp gb3 (mEnc kForest_part (tenc v_19)), .box b6 85 [.int .i64 n.Rule, .int .i64 (IntKind.wrap .i64 (n.Dot - 1)), .int .i64 n.From, .int .i64 m], .box b4 47 [.int .i64 ((at_ ((at_ p.v.g.Rules n.Rule).Rhs) (IntKind.wrap .i64 (n.Dot - 1))).Nt), .int .u64 ((at_ ((at_ p.v.g.Rules n.Rule).Rhs) (IntKind.wrap .i64 (n.Dot - 1))).Set.w0), .int .u64 ((at_ ((at_ p.v.g.Rules n.Rule).Rhs) (IntKind.wrap .i64 (n.Dot - 1))).Set.w1), .int .u64 ((at_ ((at_ p.v.g.Rules n.Rule).Rhs) (IntKind.wrap .i64 (n.Dot - 1))).Set.w2), .int .u64 ((at_ ((at_ p.v.g.Rules n.Rule).Rhs) (IntKind.wrap .i64 (n.Dot - 1))).Set.w3)], .box b1 62 [.int .i64 n.Nt, .int .i64 n.Rule, .int .i64 n.Dot, .int .i64 n.From, .int .i64 n.To, .slice sa5 sn5 sc5, .slice sa6 sn6 sc6], .box b 100 [.pointer (some ⟨gb, 0, none⟩), .map (some gb4), .map (some gb5), .int .i64 p.f.Root, .slice sa22 sn22 sc22], .mp gb4 (mEnc kForest_span (tenc v_20)), .mp gb5 (mEnc kForest_part (tenc v_21)), .row (.slice sa21 sn21 sc21) 108 4 (out3.map eAlt), .row (.slice sa22 sn22 sc22) 62 7 (Nodes_3.map eFNode)] rfl (d_next [4, 4, 4, 4, 4, 4, 4, 4] 0 rfl rfl (dv 9 rfl (v_not rfl) (dv 10 rfl (v_move rfl) ?_)))
  refine d_split (t := 113) rfl (fun h21 => ?_) (fun h21 => ?_)
  replace hL4 := ite_t h21 hL4
  refine d_off 11 rfl rfl rfl (by decide) pnok (by kernel_rfl) (by kernel_rfl) (by kernel_rfl) rfl (d_off 12 rfl rfl rfl (by decide) pnok (by kernel_rfl) (by kernel_rfl) (by kernel_rfl) rfl (d_off 13 rfl rfl rfl (by decide) pnok (by kernel_rfl) (by kernel_rfl) (by kernel_rfl) rfl (d_off 14 rfl rfl rfl (by decide) pnok (by kernel_rfl) (by kernel_rfl) (by kernel_rfl) rfl (d_off 15 rfl rfl rfl (by decide) pnok (by kernel_rfl) (by kernel_rfl) (by kernel_rfl) rfl (d_off 16 rfl rfl rfl (by decide) pnok (by kernel_rfl) (by kernel_rfl) (by kernel_rfl) rfl (d_off 17 rfl rfl rfl (by decide) pnok (by kernel_rfl) (by kernel_rfl) (by kernel_rfl) rfl (dv 18 rfl (v_pick_t rfl rfl) (d_done (by kernel_rfl) ?_))))))))
  refine s_st ?_ (hN8 true v_17 v_18 v_19 hL4)
  exact st_le [0, 0, 0, 0, 0, 0, 0, 0, 0, 0, 0, 0] (lea rfl) rfl (subs [0, 1, 2, 3, 4] rfl)
  replace hL4 := ite_f h21 hL4
  refine dw 11 rfl rfl rfl (v_move rfl) (dw 12 rfl rfl rfl (v_nilCheck rfl) (dw 13 rfl rfl rfl (fa 0 rfl) (dw 14 rfl rfl rfl (vl 3 ty69 rfl rfl rfl) (dw 15 rfl rfl rfl (vl 0 ty85 rfl rfl rfl) (d_one 16 rfl (by kernel_rfl) (o_on rfl rfl ?_))))))
  obtain ⟨v_43, h22, hL4⟩ := bd hL4
  refine ocl [0, 0, 0, 0] call39 rfl rfl (subs [2, 3, 4] rfl) (tri39 h22 :) ?_
  rintro _ _ _ ⟨rfl, rfl, rfl⟩
  refine o_H [.box gb 91 [.int .i64 p.v.g.Nts, .int .i64 p.v.g.Start, .slice sa1 sn1 sc1, .slice sa2 sn2 sc2, .slice sa3 sn3 sc3, .map (some gb1), .map (some gb2), .map (some gb3)], .mp gb1 (mEnc kForest_span (tenc v_43.2.whole)), .mp gb2 (mEnc kForest_span (tenc v_43.2.counts)), .mp gb3 (mEnc kForest_part (tenc v_43.2.rows)), .box b6 85 [.int .i64 n.Rule, .int .i64 (IntKind.wrap .i64 (n.Dot - 1)), .int .i64 n.From, .int .i64 m], .box b4 47 [.int .i64 ((at_ ((at_ p.v.g.Rules n.Rule).Rhs) (IntKind.wrap .i64 (n.Dot - 1))).Nt), .int .u64 ((at_ ((at_ p.v.g.Rules n.Rule).Rhs) (IntKind.wrap .i64 (n.Dot - 1))).Set.w0), .int .u64 ((at_ ((at_ p.v.g.Rules n.Rule).Rhs) (IntKind.wrap .i64 (n.Dot - 1))).Set.w1), .int .u64 ((at_ ((at_ p.v.g.Rules n.Rule).Rhs) (IntKind.wrap .i64 (n.Dot - 1))).Set.w2), .int .u64 ((at_ ((at_ p.v.g.Rules n.Rule).Rhs) (IntKind.wrap .i64 (n.Dot - 1))).Set.w3)], .box b1 62 [.int .i64 n.Nt, .int .i64 n.Rule, .int .i64 n.Dot, .int .i64 n.From, .int .i64 n.To, .slice sa5 sn5 sc5, .slice sa6 sn6 sc6], .box b 100 [.pointer (some ⟨gb, 0, none⟩), .map (some gb4), .map (some gb5), .int .i64 p.f.Root, .slice sa22 sn22 sc22], .mp gb4 (mEnc kForest_span (tenc v_20)), .mp gb5 (mEnc kForest_part (tenc v_21)), .row (.slice sa21 sn21 sc21) 108 4 (out3.map eAlt), .row (.slice sa22 sn22 sc22) 62 7 (Nodes_3.map eFNode)] rfl (d_next [4, 4, 4, 4, 4, 4, 4, 4] 0 rfl rfl (dw 17 rfl rfl rfl (v_bin rfl rfl rfl) (dv 18 rfl (v_pick_f rfl rfl) (d_done (by kernel_rfl) ?_))))
  refine s_st ?_ (hN8 (v_43.1 == 0) v_43.2.whole v_43.2.counts v_43.2.rows hL4)
  exact st_le [0, 0, 0, 0, 0, 0, 0, 0, 0, 0, 0, 0] (lea rfl) rfl (subs [0, 1, 2, 3, 4] rfl)
  intro t121 v_27 v_28 v_29 hL4
  unfold F.forest.packer_ways_j6 at hL4
  refine sat_wc ?_
  refine c_cond rfl (fun h14 => ?_) (fun h14 => ?_)
  replace hL4 := ite_t h14 hL4
  refine c_exit0 ?_
  refine s_st ?_ (hN5 out3 v_27 v_28 v_29 Nodes_3 v_20 v_21 sa21 sn21 sc21 sa22 sn22 sc22 b6 hL4)
  exact st_le [0, 0, 0, 0, 1, 1, 1, 1, 1, 0, 0, 0] (lea rfl) rfl (subs [0, 1, 2, 3, 4] rfl)
  replace hL4 := ite_f h14 hL4
  refine c_skip (sat_wc (c_seq ?_))
  refine cT (fun E H Φ N' => ∀ (Left_ : Int) (Nodes_5 : List FNode) (v_30 : List (Forest_span × Int)) (v_31 : List (Forest_span × Int)) (v_32 : List (Forest_part × Int)) (v_33 : List (Forest_span × Int)) (v_34 : List (Forest_part × Int)) (sa27 : Option Addr) (sn27 sc27 : Nat) (b7 : Nat), F.forest.packer_ways_j7 p n m out3 (F.forest.packer_ways_l4 k n p j) Left_ Nodes_5 v_30 v_31 v_32 v_33 v_34 = some o4 → Sat E [(0, .pointer (some ⟨b, 0, none⟩)), (1, .agg #[.int .i64 n.Nt, .int .i64 n.Rule, .int .i64 n.Dot, .int .i64 n.From, .int .i64 n.To, .slice sa5 sn5 sc5, .slice sa6 sn6 sc6]), (3, .pointer (some ⟨b1, 0, none⟩)), (4, .slice none 0 0), (5, .slice sa21 sn21 sc21), (9, .pointer (some ⟨b4, 0, none⟩)), (10, .int .i64 m), (11, .pointer (some ⟨b6, 0, none⟩)), (12, .pointer (some ⟨b7, 0, none⟩))] [.box b 100 [.pointer (some ⟨gb, 0, none⟩), .map (some gb4), .map (some gb5), .int .i64 p.f.Root, .slice sa27 sn27 sc27], .box gb 91 [.int .i64 p.v.g.Nts, .int .i64 p.v.g.Start, .slice sa1 sn1 sc1, .slice sa2 sn2 sc2, .slice sa3 sn3 sc3, .map (some gb1), .map (some gb2), .map (some gb3)], .mp gb1 (mEnc kForest_span (tenc v_30)), .mp gb2 (mEnc kForest_span (tenc v_31)), .mp gb3 (mEnc kForest_part (tenc v_32)), .mp gb4 (mEnc kForest_span (tenc v_33)), .mp gb5 (mEnc kForest_part (tenc v_34)), .box b6 85 [.int .i64 n.Rule, .int .i64 (IntKind.wrap .i64 (n.Dot - 1)), .int .i64 n.From, .int .i64 m], .box b4 47 [.int .i64 ((at_ ((at_ p.v.g.Rules n.Rule).Rhs) (IntKind.wrap .i64 (n.Dot - 1))).Nt), .int .u64 ((at_ ((at_ p.v.g.Rules n.Rule).Rhs) (IntKind.wrap .i64 (n.Dot - 1))).Set.w0), .int .u64 ((at_ ((at_ p.v.g.Rules n.Rule).Rhs) (IntKind.wrap .i64 (n.Dot - 1))).Set.w1), .int .u64 ((at_ ((at_ p.v.g.Rules n.Rule).Rhs) (IntKind.wrap .i64 (n.Dot - 1))).Set.w2), .int .u64 ((at_ ((at_ p.v.g.Rules n.Rule).Rhs) (IntKind.wrap .i64 (n.Dot - 1))).Set.w3)], .box b1 62 [.int .i64 n.Nt, .int .i64 n.Rule, .int .i64 n.Dot, .int .i64 n.From, .int .i64 n.To, .slice sa5 sn5 sc5, .slice sa6 sn6 sc6], .box b7 108 [.int .i64 n.Rule, .int .i64 m, .int .i64 Left_, .int .i64 (-1)], .row (.slice sa21 sn21 sc21) 108 4 (out3.map eAlt), .row (.slice sa27 sn27 sc27) 62 7 (Nodes_5.map eFNode)] Φ N') (fun N8 hN8 => ?_) ?_
  refine c_draw (n := 9) [4, 4, 4, 7] mixed rfl rfl (dv 0 rfl (fa 1 rfl) (dv 1 rfl (vl 2 ty3 rfl rfl rfl) (dv 2 rfl (v_move rfl) (dv 3 rfl (v_move rfl) (dv 4 rfl (vl 0 ty85 rfl rfl rfl) ?_)))))
  obtain ⟨v_41, h19, hL4⟩ := bd hL4
  refine d_all [5, 7] (by kernel_rfl) (by simp) ⟨⟨_, rfl, ?_⟩, ⟨_, rfl, ?_⟩, trivial⟩
  refine ocl [7, 0, 0, 0, 0, 3, 3, 4] call65 rfl rfl (subs [2, 3, 4] rfl) (tri65 h19 :) ?_
  rintro _ _ _ ⟨sa32, sn32, sc32, rfl, rfl, rfl⟩
  refine o_H [.box b 100 [.pointer (some ⟨gb, 0, none⟩), .map (some gb4), .map (some gb5), .int .i64 p.f.Root, .slice sa32 sn32 sc32], .box gb 91 [.int .i64 p.v.g.Nts, .int .i64 p.v.g.Start, .slice sa1 sn1 sc1, .slice sa2 sn2 sc2, .slice sa3 sn3 sc3, .map (some gb1), .map (some gb2), .map (some gb3)], .mp gb1 (mEnc kForest_span (tenc v_41.2.v.whole)), .mp gb2 (mEnc kForest_span (tenc v_41.2.v.counts)), .mp gb3 (mEnc kForest_part (tenc v_41.2.v.rows)), .mp gb4 (mEnc kForest_span (tenc v_41.2.spans)), .mp gb5 (mEnc kForest_part (tenc v_41.2.parts)), .row (.slice sa32 sn32 sc32) 62 7 (v_41.2.f.Nodes.map eFNode), .box b6 85 [.int .i64 n.Rule, .int .i64 (IntKind.wrap .i64 (n.Dot - 1)), .int .i64 n.From, .int .i64 m], .box b4 47 [.int .i64 ((at_ ((at_ p.v.g.Rules n.Rule).Rhs) (IntKind.wrap .i64 (n.Dot - 1))).Nt), .int .u64 ((at_ ((at_ p.v.g.Rules n.Rule).Rhs) (IntKind.wrap .i64 (n.Dot - 1))).Set.w0), .int .u64 ((at_ ((at_ p.v.g.Rules n.Rule).Rhs) (IntKind.wrap .i64 (n.Dot - 1))).Set.w1), .int .u64 ((at_ ((at_ p.v.g.Rules n.Rule).Rhs) (IntKind.wrap .i64 (n.Dot - 1))).Set.w2), .int .u64 ((at_ ((at_ p.v.g.Rules n.Rule).Rhs) (IntKind.wrap .i64 (n.Dot - 1))).Set.w3)], .box b1 62 [.int .i64 n.Nt, .int .i64 n.Rule, .int .i64 n.Dot, .int .i64 n.From, .int .i64 n.To, .slice sa5 sn5 sc5, .slice sa6 sn6 sc6], .row (.slice sa21 sn21 sc21) 108 4 (out3.map eAlt)] rfl (d_next [8, 8, 8, 8] 0 rfl rfl (dv 6 rfl (v_build (v := .agg #[.int .i64 n.Rule, .int .i64 m, .int .i64 v_41.1, .int .i64 (-1)]) rfl (fun _ => by kernel_rfl)) (d_one 7 rfl (by kernel_rfl) (o_alloc zero108 rfl rfl fun b8 => d_next [9, 9, 9, 9] 0 rfl rfl (d_one 8 rfl (by kernel_rfl) (o_store_box 0 rfl ty108 rfl rfl rfl rfl rfl rfl rfl (d_next [9, 9, 9, 9] 0 rfl rfl (d_done (by kernel_rfl) ?_))))))))
  refine s_st ?_ (hN8 v_41.1 v_41.2.f.Nodes v_41.2.v.whole v_41.2.v.counts v_41.2.v.rows v_41.2.spans v_41.2.parts sa32 sn32 sc32 b8 hL4)
  exact st_le [1, 1, 1, 1, 1, 1, 1, 2, 2, 2, 0, 1, 0] (lea rfl) rfl (subs [0, 1, 2, 3, 4] rfl)
  refine o_alloc zero108 rfl rfl fun b8 => d_next [5, 5, 5, 8] 0 rfl rfl (d_one 5 rfl (by kernel_rfl) (ocl [8, 1, 1, 1, 1, 4, 4, 5] call65 rfl rfl (subs [2, 3, 4] rfl) (tri65 h19 :) ?_))
  rintro _ _ _ ⟨sa32, sn32, sc32, rfl, rfl, rfl⟩
  refine o_H [.box b 100 [.pointer (some ⟨gb, 0, none⟩), .map (some gb4), .map (some gb5), .int .i64 p.f.Root, .slice sa32 sn32 sc32], .box gb 91 [.int .i64 p.v.g.Nts, .int .i64 p.v.g.Start, .slice sa1 sn1 sc1, .slice sa2 sn2 sc2, .slice sa3 sn3 sc3, .map (some gb1), .map (some gb2), .map (some gb3)], .mp gb1 (mEnc kForest_span (tenc v_41.2.v.whole)), .mp gb2 (mEnc kForest_span (tenc v_41.2.v.counts)), .mp gb3 (mEnc kForest_part (tenc v_41.2.v.rows)), .mp gb4 (mEnc kForest_span (tenc v_41.2.spans)), .mp gb5 (mEnc kForest_part (tenc v_41.2.parts)), .row (.slice sa32 sn32 sc32) 62 7 (v_41.2.f.Nodes.map eFNode), .box b8 108 [.int .i64 0, .int .i64 0, .int .i64 0, .int .i64 0], .box b6 85 [.int .i64 n.Rule, .int .i64 (IntKind.wrap .i64 (n.Dot - 1)), .int .i64 n.From, .int .i64 m], .box b4 47 [.int .i64 ((at_ ((at_ p.v.g.Rules n.Rule).Rhs) (IntKind.wrap .i64 (n.Dot - 1))).Nt), .int .u64 ((at_ ((at_ p.v.g.Rules n.Rule).Rhs) (IntKind.wrap .i64 (n.Dot - 1))).Set.w0), .int .u64 ((at_ ((at_ p.v.g.Rules n.Rule).Rhs) (IntKind.wrap .i64 (n.Dot - 1))).Set.w1), .int .u64 ((at_ ((at_ p.v.g.Rules n.Rule).Rhs) (IntKind.wrap .i64 (n.Dot - 1))).Set.w2), .int .u64 ((at_ ((at_ p.v.g.Rules n.Rule).Rhs) (IntKind.wrap .i64 (n.Dot - 1))).Set.w3)], .box b1 62 [.int .i64 n.Nt, .int .i64 n.Rule, .int .i64 n.Dot, .int .i64 n.From, .int .i64 n.To, .slice sa5 sn5 sc5, .slice sa6 sn6 sc6], .row (.slice sa21 sn21 sc21) 108 4 (out3.map eAlt)] rfl (d_next [9, 9, 9, 9] 0 rfl rfl (dv 6 rfl (v_build (v := .agg #[.int .i64 n.Rule, .int .i64 m, .int .i64 v_41.1, .int .i64 (-1)]) rfl (fun _ => by kernel_rfl)) (d_one 8 rfl (by kernel_rfl) (o_store_box 8 rfl ty108 rfl rfl rfl rfl rfl rfl rfl (d_next [9, 9, 9, 9] 0 rfl rfl (d_done (by kernel_rfl) ?_))))))
  refine s_st ?_ (hN8 v_41.1 v_41.2.f.Nodes v_41.2.v.whole v_41.2.v.counts v_41.2.v.rows v_41.2.spans v_41.2.parts sa32 sn32 sc32 b8 hL4)
  exact st_le [0, 0, 0, 0, 0, 0, 0, 2, 2, 2, 1, 1, 0] (lea rfl) rfl (subs [0, 1, 2, 3, 4] rfl)
  intro Left_ Nodes_5 v_30 v_31 v_32 v_33 v_34 sa27 sn27 sc27 b7 hL4
  unfold F.forest.packer_ways_j7 at hL4
  refine sat_wc (c_seq (c_seq (c_region (o_v (fa 0 rfl) rfl (o_v (vl 8 ty3 rfl rfl rfl) rfl (o_v (v_bin rfl rfl rfl) rfl (o_seq ?_)))))))
  refine cT (fun E H Φ N' => ∀ (Nodes_6 : List FNode) (v_35 : List (Forest_span × Int)) (v_36 : List (Forest_span × Int)) (v_37 : List (Forest_part × Int)) (v_38 : List (Forest_span × Int)) (v_39 : List (Forest_part × Int)) (Right_ : Int) (sa28 : Option Addr) (sn28 sc28 : Nat), F.forest.packer_ways_j8 out3 n m Left_ (F.forest.packer_ways_l4 k n p j) Nodes_6 v_35 v_36 v_37 v_38 v_39 Right_ = some o4 → Sat E [(0, .pointer (some ⟨b, 0, none⟩)), (1, .agg #[.int .i64 n.Nt, .int .i64 n.Rule, .int .i64 n.Dot, .int .i64 n.From, .int .i64 n.To, .slice sa5 sn5 sc5, .slice sa6 sn6 sc6]), (3, .pointer (some ⟨b1, 0, none⟩)), (4, .slice none 0 0), (5, .slice sa21 sn21 sc21), (9, .pointer (some ⟨b4, 0, none⟩)), (10, .int .i64 m), (11, .pointer (some ⟨b6, 0, none⟩)), (12, .pointer (some ⟨b7, 0, none⟩))] [.box b 100 [.pointer (some ⟨gb, 0, none⟩), .map (some gb4), .map (some gb5), .int .i64 p.f.Root, .slice sa28 sn28 sc28], .box gb 91 [.int .i64 p.v.g.Nts, .int .i64 p.v.g.Start, .slice sa1 sn1 sc1, .slice sa2 sn2 sc2, .slice sa3 sn3 sc3, .map (some gb1), .map (some gb2), .map (some gb3)], .mp gb1 (mEnc kForest_span (tenc v_35)), .mp gb2 (mEnc kForest_span (tenc v_36)), .mp gb3 (mEnc kForest_part (tenc v_37)), .mp gb4 (mEnc kForest_span (tenc v_38)), .mp gb5 (mEnc kForest_part (tenc v_39)), .box b6 85 [.int .i64 n.Rule, .int .i64 (IntKind.wrap .i64 (n.Dot - 1)), .int .i64 n.From, .int .i64 m], .box b4 47 [.int .i64 ((at_ ((at_ p.v.g.Rules n.Rule).Rhs) (IntKind.wrap .i64 (n.Dot - 1))).Nt), .int .u64 ((at_ ((at_ p.v.g.Rules n.Rule).Rhs) (IntKind.wrap .i64 (n.Dot - 1))).Set.w0), .int .u64 ((at_ ((at_ p.v.g.Rules n.Rule).Rhs) (IntKind.wrap .i64 (n.Dot - 1))).Set.w1), .int .u64 ((at_ ((at_ p.v.g.Rules n.Rule).Rhs) (IntKind.wrap .i64 (n.Dot - 1))).Set.w2), .int .u64 ((at_ ((at_ p.v.g.Rules n.Rule).Rhs) (IntKind.wrap .i64 (n.Dot - 1))).Set.w3)], .box b1 62 [.int .i64 n.Nt, .int .i64 n.Rule, .int .i64 n.Dot, .int .i64 n.From, .int .i64 n.To, .slice sa5 sn5 sc5, .slice sa6 sn6 sc6], .box b7 108 [.int .i64 n.Rule, .int .i64 m, .int .i64 Left_, .int .i64 Right_], .row (.slice sa21 sn21 sc21) 108 4 (out3.map eAlt), .row (.slice sa28 sn28 sc28) 62 7 (Nodes_6.map eFNode)] Φ N') (fun N8 hN8 => ?_) ?_
  refine c_cond rfl (fun h17 => ?_) (fun h17 => ?_)
  replace hL4 := ite_t h17 hL4
  refine c_region (o_v (v_move rfl) rfl (o_v (fa 0 rfl) rfl (o_v (vl 8 ty3 rfl rfl rfl) rfl (o_v (v_move rfl) rfl (o_v (fa 4 rfl) rfl (o_v (vl 9 ty3 rfl rfl rfl) rfl (o_v (v_build (v := .agg #[.int .i64 ((at_ ((at_ p.v.g.Rules n.Rule).Rhs) (IntKind.wrap .i64 (n.Dot - 1))).Nt), .int .i64 m, .int .i64 n.To]) rfl (fun _ => by kernel_rfl)) rfl ?_)))))))
  obtain ⟨v_40, h18, hL4⟩ := bd hL4
  refine ocl [0, 0, 0, 0, 0, 0, 0, 5] call45 rfl rfl (subs [2, 3, 4] rfl) (tri45 h18 :) ?_
  rintro _ _ _ ⟨sa31, sn31, sc31, rfl, rfl, rfl⟩
  refine o_H [.box b 100 [.pointer (some ⟨gb, 0, none⟩), .map (some gb4), .map (some gb5), .int .i64 p.f.Root, .slice sa31 sn31 sc31], .box gb 91 [.int .i64 p.v.g.Nts, .int .i64 p.v.g.Start, .slice sa1 sn1 sc1, .slice sa2 sn2 sc2, .slice sa3 sn3 sc3, .map (some gb1), .map (some gb2), .map (some gb3)], .mp gb1 (mEnc kForest_span (tenc v_40.2.v.whole)), .mp gb2 (mEnc kForest_span (tenc v_40.2.v.counts)), .mp gb3 (mEnc kForest_part (tenc v_40.2.v.rows)), .mp gb4 (mEnc kForest_span (tenc v_40.2.spans)), .mp gb5 (mEnc kForest_part (tenc v_40.2.parts)), .row (.slice sa31 sn31 sc31) 62 7 (v_40.2.f.Nodes.map eFNode), .box b6 85 [.int .i64 n.Rule, .int .i64 (IntKind.wrap .i64 (n.Dot - 1)), .int .i64 n.From, .int .i64 m], .box b4 47 [.int .i64 ((at_ ((at_ p.v.g.Rules n.Rule).Rhs) (IntKind.wrap .i64 (n.Dot - 1))).Nt), .int .u64 ((at_ ((at_ p.v.g.Rules n.Rule).Rhs) (IntKind.wrap .i64 (n.Dot - 1))).Set.w0), .int .u64 ((at_ ((at_ p.v.g.Rules n.Rule).Rhs) (IntKind.wrap .i64 (n.Dot - 1))).Set.w1), .int .u64 ((at_ ((at_ p.v.g.Rules n.Rule).Rhs) (IntKind.wrap .i64 (n.Dot - 1))).Set.w2), .int .u64 ((at_ ((at_ p.v.g.Rules n.Rule).Rhs) (IntKind.wrap .i64 (n.Dot - 1))).Set.w3)], .box b1 62 [.int .i64 n.Nt, .int .i64 n.Rule, .int .i64 n.Dot, .int .i64 n.From, .int .i64 n.To, .slice sa5 sn5 sc5, .slice sa6 sn6 sc6], .box b7 108 [.int .i64 n.Rule, .int .i64 m, .int .i64 Left_, .int .i64 (-1)], .row (.slice sa21 sn21 sc21) 108 4 (out3.map eAlt)] rfl (o_v (fa 3 rfl) rfl (o_store_box 11 rfl ty3 rfl rfl rfl rfl rfl rfl rfl (o_nil ?_)))
  refine s_st ?_ (hN8 v_40.2.f.Nodes v_40.2.v.whole v_40.2.v.counts v_40.2.v.rows v_40.2.spans v_40.2.parts v_40.1 sa31 sn31 sc31 hL4)
  exact st_le [0, 0, 0, 0, 0, 0, 0, 1, 1, 1, 1, 1, 0] (lea rfl) rfl (subs [0, 1, 2, 3, 4] rfl)
  replace hL4 := ite_f h17 hL4
  refine c_skip ?_
  refine s_st ?_ (hN8 Nodes_5 v_30 v_31 v_32 v_33 v_34 (-1) sa27 sn27 sc27 hL4)
  exact st_le [0, 0, 0, 0, 0, 0, 0, 0, 0, 0, 0, 0, 0] (lea rfl) rfl (subs [0, 1, 2, 3, 4] rfl)
  intro Nodes_6 v_35 v_36 v_37 v_38 v_39 Right_ sa28 sn28 sc28 hL4
  unfold F.forest.packer_ways_j8 at hL4
  refine sat_wc (c_region (o_v (v_move rfl) rfl (o_v (vl 10 ty108 rfl rfl rfl) rfl (o_buildSlice (enc := eAlt) ([(Alt.mk n.Rule m Left_ Right_)] : List Alt) [.int .i64 n.Rule, .int .i64 m, .int .i64 Left_, .int .i64 Right_] sl60 rfl (fun _ => by kernel_rfl) rfl rfl rfl (.s rfl (.s rfl (.s rfl (.s rfl (.nil))))) rfl fun sa29 sn29 sc29 => ite_some hL4 fun h15 hL4 => ite_some hL4 fun h16 hL4 => o_append (enc := eAlt) (xs := out3) (ys := ([(Alt.mk n.Rule m Left_ Right_)] : List Alt)) 12 sl60 rfl rfl rfl (.r 0 _ rfl) h15 h16 rfl fun sa30 sn30 sc30 => o_H [.row (.slice sa29 sn29 sc29) 108 4 (([(Alt.mk n.Rule m Left_ Right_)] : List Alt).map eAlt), .box b 100 [.pointer (some ⟨gb, 0, none⟩), .map (some gb4), .map (some gb5), .int .i64 p.f.Root, .slice sa28 sn28 sc28], .box gb 91 [.int .i64 p.v.g.Nts, .int .i64 p.v.g.Start, .slice sa1 sn1 sc1, .slice sa2 sn2 sc2, .slice sa3 sn3 sc3, .map (some gb1), .map (some gb2), .map (some gb3)], .mp gb1 (mEnc kForest_span (tenc v_35)), .mp gb2 (mEnc kForest_span (tenc v_36)), .mp gb3 (mEnc kForest_part (tenc v_37)), .mp gb4 (mEnc kForest_span (tenc v_38)), .mp gb5 (mEnc kForest_part (tenc v_39)), .box b6 85 [.int .i64 n.Rule, .int .i64 (IntKind.wrap .i64 (n.Dot - 1)), .int .i64 n.From, .int .i64 m], .box b4 47 [.int .i64 ((at_ ((at_ p.v.g.Rules n.Rule).Rhs) (IntKind.wrap .i64 (n.Dot - 1))).Nt), .int .u64 ((at_ ((at_ p.v.g.Rules n.Rule).Rhs) (IntKind.wrap .i64 (n.Dot - 1))).Set.w0), .int .u64 ((at_ ((at_ p.v.g.Rules n.Rule).Rhs) (IntKind.wrap .i64 (n.Dot - 1))).Set.w1), .int .u64 ((at_ ((at_ p.v.g.Rules n.Rule).Rhs) (IntKind.wrap .i64 (n.Dot - 1))).Set.w2), .int .u64 ((at_ ((at_ p.v.g.Rules n.Rule).Rhs) (IntKind.wrap .i64 (n.Dot - 1))).Set.w3)], .box b1 62 [.int .i64 n.Nt, .int .i64 n.Rule, .int .i64 n.Dot, .int .i64 n.From, .int .i64 n.To, .slice sa5 sn5 sc5, .slice sa6 sn6 sc6], .box b7 108 [.int .i64 n.Rule, .int .i64 m, .int .i64 Left_, .int .i64 Right_], .row (.slice sa30 sn30 sc30) 108 4 ((out3 ++ ([(Alt.mk n.Rule m Left_ Right_)] : List Alt)).map eAlt), .row (.slice sa28 sn28 sc28) 62 7 (Nodes_6.map eFNode)] rfl (o_v (v_assign rfl) rfl (o_nil ?_))))))
  refine s_st ?_ (hN5 (out3 ++ ([(Alt.mk n.Rule m Left_ Right_)] : List Alt)) v_35 v_36 v_37 Nodes_6 v_38 v_39 sa30 sn30 sc30 sa28 sn28 sc28 b6 hL4)
  exact st_le [2, 2, 2, 2, 5, 5, 1, 1, 1, 1, 2, 2] (lea rfl) rfl (subs [0, 1, 2, 3, 4] rfl)
  intro out4 v_22 v_23 v_24 Nodes_4 v_25 v_26 sa25 sn25 sc25 sa26 sn26 sc26 b5 hL4
  unfold F.forest.packer_ways_j5 at hL4
  refine sat_wc (c_region (o_v (v_move rfl) rfl (o_v (v_bin rfl rfl rfl) rfl (o_v (v_assign rfl) rfl (o_nil ?_)))))
  intro a w hs
  exact ⟨j, Nat.lt_succ_self j, out4, IntKind.wrap .i64 (m + 1), Nodes_4, v_22, v_23, v_24, v_25, v_26, sa25, sn25, sc25, sa26, sn26, sc26, hL4, st_le [4, 4, 4, 0, 0, 0, 0, 0, 0, 1, 1] (lea rfl) rfl (subs [0, 1, 2, 3, 4] rfl) a w hs⟩
  replace hL4 := ite_f h13 hL4
  refine c_exit0 ?_
  cases hL4
  refine s_st ?_ (hN4 sa21 sn21 sc21 sa22 sn22 sc22)
  exact st_le [0, 0, 0, 0, 0, 0, 0, 0, 0, 0, 0] (lea rfl) rfl (subs [0, 1, 2, 3, 4] rfl)
  intro sa23 sn23 sc23 sa24 sn24 sc24
  refine sat_wc (c_seq (c_region (o_v (v_move rfl) rfl (o_v (v_assign rfl) rfl (o_seq (c_ret ?_))))))
  cases hF
  refine s_ret1 rfl (r_tmp rfl) fun a w hs => fin_sel hs [2, 2, 2, 2, 2, 2, 2, 3, 2] ⟨sa23, sn23, sc23, sa24, sn24, sc24, rfl, rfl, rfl⟩ rfl sub_nil
theorem tri22 {k : Nat} {g_ : Gram} {w__ : List Int} {sa1 : Option Addr} {sn1 sc1 : Nat} {sa2 : Option Addr} {sn2 sc2 : Nat} {r : Forest × Int} (hF : F.forest.Build k g_ w__ = some r) :
    Tri Try.prog 22 [.agg #[.int .i64 g_.Nts, .int .i64 g_.Start, .slice sa1 sn1 sc1], .slice sa2 sn2 sc2] [] [(.slice sa1 sn1 sc1, .slice 2 (g_.Rules.map eRule)), (.slice sa2 sn2 sc2, .slice 1 (w__.map eU8))] (fun o H Φ => ∃ (sa13 : Option Addr) (sn13 sc13 : Nat), o = .ret (.tuple #[.agg #[.int .i64 r.1.Root, .slice sa13 sn13 sc13], .int .i64 r.2]) ∧ H = [] ∧ Φ = [(.slice sa13 sn13 sc13, .slice 7 (r.1.Nodes.map eFNode))]) := by
  unfold F.forest.Build at hF
  refine tri_intro (n := 74) Try.func22 rfl Try.ntmps22 rfl fun w X => c_seq (c_region (o_box rfl rfl rfl fun b => o_alloc zero53 rfl rfl fun b1 => o_v (v_assign rfl) rfl (o_seq (c_seq (c_seq (c_region (o_v (vl 1 ty24 rfl rfl rfl) rfl (o_v (v_move rfl) rfl ?_))))))))
  obtain ⟨v_, h1, hF⟩ := bd hF
  refine o_callSB call30 rfl (lent_f 0 rfl (lent_f 1 rfl lent_nil)) (tri30 h1 :) rfl (o_v (v_assign rfl) rfl (o_seq (c_seq (c_region (o_v (v_move rfl) rfl (o_v (v_bin rfl rfl rfl) rfl (o_seq ?_)))))))
  refine c_cond rfl (fun h2 => ?_) (fun h2 => ?_)
  replace hF := ite_t h2 hF
  refine c_seq (c_region (o_v (v_build (v := .agg #[.int .i64 0, .slice none 0 0]) rfl (fun _ => by kernel_rfl)) rfl (o_v (v_move rfl) rfl (o_store_box 0 rfl ty53 rfl rfl rfl rfl rfl rfl rfl (o_v (v_assign rfl) rfl (o_seq (c_ret ?_)))))))
  cases hF
  refine s_st (st_nilfact 7) (s_ret2 rfl (r_cell 0 rfl ty53 rfl rfl rfl rfl) (r_tmp rfl) fun a w hs => fin_sel hs [] ⟨none, 0, 0, rfl, rfl, rfl⟩ rfl (subs [0] rfl))
  replace hF := ite_f h2 hF
  refine c_skip (sat_wc (c_seq (c_region (o_v (vl 1 ty24 rfl rfl rfl) rfl (o_v (v_move rfl) rfl ?_)))))
  obtain ⟨v_1, h3, hF⟩ := bd hF
  refine o_call0 call31 rfl (subs [0, 1] rfl) (tri31 h3 :) rfl ?_
  rintro _ _ _ ⟨gb, sa3, sn3, sc3, sa4, sn4, sc4, sa5, sn5, sc5, gb1, gb2, gb3, rfl, rfl, rfl⟩
  refine o_makeMap rfl fun b2 => o_makeMap rfl fun b3 => o_v (v_build (v := .agg #[.pointer (some ⟨gb, 0, none⟩), .map (some b2), .map (some b3), .int .i64 0, .slice none 0 0]) rfl (fun _ => by kernel_rfl)) rfl (o_box rfl rfl rfl fun b4 => o_v (v_assign rfl) rfl (o_seq (c_seq (c_region (o_v (fa 1 rfl) rfl (o_v (vl 8 ty3 rfl rfl rfl) rfl (o_v (v_move rfl) rfl (o_v (v_lenS (enc := eU8) w__ sl25 rfl (.f 4 rfl)) rfl (o_v (v_build (v := .agg #[.int .i64 g_.Start, .int .i64 0, .int .i64 (w__.length : Int)]) rfl (fun _ => by kernel_rfl)) rfl (o_alloc zero73 rfl rfl fun b5 => o_store_box 0 rfl ty73 rfl rfl rfl rfl rfl rfl rfl (o_seq ?_)))))))))))
  refine c_seq (c_seq (c_draw (n := 7) [0, 0, 0, 0, 4, 4] mixed rfl rfl (dv 0 rfl (v_move rfl) (dv 1 rfl (v_nilCheck rfl) (dv 2 rfl (fa 0 rfl) (dv 3 rfl (vl 1 ty69 rfl rfl rfl) (dv 4 rfl (vl 0 ty73 rfl rfl rfl) (d_one 5 rfl (by kernel_rfl) ?_))))))))
  obtain ⟨v_2, h4, hF⟩ := bd hF
  refine ocl [4, 4, 4, 4] call32 rfl rfl (subs [0, 1, 2] rfl) (tri32 h4 :) ?_
  rintro _ _ _ ⟨rfl, rfl, rfl⟩
  refine o_H [.box gb 91 [.int .i64 v_1.g.Nts, .int .i64 v_1.g.Start, .slice sa3 sn3 sc3, .slice sa4 sn4 sc4, .slice sa5 sn5 sc5, .map (some gb1), .map (some gb2), .map (some gb3)], .mp gb1 (mEnc kForest_span (tenc v_2.2.whole)), .mp gb2 (mEnc kForest_span (tenc v_2.2.counts)), .mp gb3 (mEnc kForest_part (tenc v_2.2.rows)), .box b5 73 [.int .i64 g_.Start, .int .i64 0, .int .i64 (w__.length : Int)], .box b4 100 [.pointer (some ⟨gb, 0, none⟩), .map (some b2), .map (some b3), .int .i64 0, .slice none 0 0], .mp b3 (mEnc kForest_part (tenc ([] : List (Forest_part × Int)))), .mp b2 (mEnc kForest_span (tenc ([] : List (Forest_span × Int)))), .box b1 53 [.int .i64 0, .slice none 0 0], .box b 24 [.int .i64 g_.Nts, .int .i64 g_.Start, .slice sa1 sn1 sc1]] rfl (d_next [4, 4, 4, 4, 4, 4] 0 rfl rfl (dv 6 rfl (v_bin rfl rfl rfl) (d_done_seq (by kernel_rfl) ?_)))
  refine c_cond rfl (fun h5 => ?_) (fun h5 => ?_)
  replace hF := ite_t h5 hF
  refine c_seq (c_region (o_v (v_build (v := .agg #[.int .i64 (-1), .slice none 0 0]) rfl (fun _ => by kernel_rfl)) rfl (o_store_box 8 rfl ty53 rfl rfl rfl rfl rfl rfl rfl (o_v (v_assign rfl) rfl (o_seq (c_ret ?_))))))
  cases hF
  refine s_st (st_nilfact 7) (s_ret2 rfl (r_cell 8 rfl ty53 rfl rfl rfl rfl) (r_tmp rfl) fun a w hs => fin_sel hs [] ⟨none, 0, 0, rfl, rfl, rfl⟩ rfl (subs [0] rfl))
  replace hF := ite_f h5 hF
  refine c_skip (sat_wc (c_seq (c_region (o_v (v_move rfl) rfl (o_v (vl 4 ty73 rfl rfl rfl) rfl ?_)))))
  obtain ⟨v_3, h6, hF⟩ := bd hF
  refine o_st (st_nilrow 62 7) (ocl [6, 1, 1, 1, 1, 3, 2, 0] call45 rfl rfl (subs [0, 1, 2] rfl) (tri45 h6 :) ?_)
  rintro _ _ _ ⟨sa6, sn6, sc6, rfl, rfl, rfl⟩
  refine o_H [.box b4 100 [.pointer (some ⟨gb, 0, none⟩), .map (some b2), .map (some b3), .int .i64 0, .slice sa6 sn6 sc6], .box gb 91 [.int .i64 v_1.g.Nts, .int .i64 v_1.g.Start, .slice sa3 sn3 sc3, .slice sa4 sn4 sc4, .slice sa5 sn5 sc5, .map (some gb1), .map (some gb2), .map (some gb3)], .mp gb1 (mEnc kForest_span (tenc v_3.2.v.whole)), .mp gb2 (mEnc kForest_span (tenc v_3.2.v.counts)), .mp gb3 (mEnc kForest_part (tenc v_3.2.v.rows)), .mp b2 (mEnc kForest_span (tenc v_3.2.spans)), .mp b3 (mEnc kForest_part (tenc v_3.2.parts)), .row (.slice sa6 sn6 sc6) 62 7 (v_3.2.f.Nodes.map eFNode), .box b5 73 [.int .i64 g_.Start, .int .i64 0, .int .i64 (w__.length : Int)], .box b1 53 [.int .i64 0, .slice none 0 0], .box b 24 [.int .i64 g_.Nts, .int .i64 g_.Start, .slice sa1 sn1 sc1]] rfl (o_seq (c_seq (c_seq (c_region (o_v (v_assign rfl) rfl (o_seq ?_))))))
  obtain ⟨o1, ho1, hF⟩ := bd hF
  refine c_cut (fun E N' => ∀ (sa8 : Option Addr) (sn8 sc8 : Nat), Sat E [(0, .agg #[.int .i64 g_.Nts, .int .i64 g_.Start, .slice sa1 sn1 sc1]), (1, .slice sa2 sn2 sc2), (2, .pointer (some ⟨b, 0, none⟩)), (4, .pointer (some ⟨b1, 0, none⟩)), (5, .int .i64 0), (6, .int .i64 v_), (7, .pointer (some ⟨b4, 0, none⟩)), (8, .pointer (some ⟨b5, 0, none⟩))] [.box b4 100 [.pointer (some ⟨gb, 0, none⟩), .map (some b2), .map (some b3), .int .i64 0, .slice sa8 sn8 sc8], .box gb 91 [.int .i64 v_1.g.Nts, .int .i64 v_1.g.Start, .slice sa3 sn3 sc3, .slice sa4 sn4 sc4, .slice sa5 sn5 sc5, .map (some gb1), .map (some gb2), .map (some gb3)], .mp gb1 (mEnc kForest_span (tenc o1.2.1)), .mp gb2 (mEnc kForest_span (tenc o1.2.2.1)), .mp gb3 (mEnc kForest_part (tenc o1.2.2.2.1)), .mp b2 (mEnc kForest_span (tenc o1.2.2.2.2.1)), .mp b3 (mEnc kForest_part (tenc o1.2.2.2.2.2)), .box b5 73 [.int .i64 g_.Start, .int .i64 0, .int .i64 (w__.length : Int)], .box b1 53 [.int .i64 0, .slice none 0 0], .box b 24 [.int .i64 g_.Nts, .int .i64 g_.Start, .slice sa1 sn1 sc1], .row (.slice sa8 sn8 sc8) 62 7 (o1.1.map eFNode)] [(.slice sa1 sn1 sc1, .slice 2 (g_.Rules.map eRule)), (.slice sa2 sn2 sc2, .slice 1 (w__.map eU8)), (.slice sa3 sn3 sc3, .slice 2 (v_1.g.Rules.map eRule)), (.slice sa4 sn4 sc4, .slice 1 (v_1.w_.map eU8)), (.slice sa5 sn5 sc5, .slice 1 (v_1.by_.map (eSl 1 eI64)))] N') (fun N1 hN1 => ?_) ?_
  refine c_block ?_
  refine c_loopE (fun E j a w => ∃ (i : Int) (Nodes_ : List FNode) (v_4 : List (Forest_span × Int)) (v_5 : List (Forest_span × Int)) (v_6 : List (Forest_part × Int)) (v_7 : List (Forest_span × Int)) (v_8 : List (Forest_part × Int)) (sa7 : Option Addr) (sn7 sc7 : Nat), F.forest.Build_l1 k v_1 j i Nodes_ v_4 v_5 v_6 v_7 v_8 = some o1 ∧ St E [(0, .agg #[.int .i64 g_.Nts, .int .i64 g_.Start, .slice sa1 sn1 sc1]), (1, .slice sa2 sn2 sc2), (2, .pointer (some ⟨b, 0, none⟩)), (4, .pointer (some ⟨b1, 0, none⟩)), (5, .int .i64 0), (6, .int .i64 v_), (7, .pointer (some ⟨b4, 0, none⟩)), (8, .pointer (some ⟨b5, 0, none⟩)), (9, .int .i64 i)] [.box b4 100 [.pointer (some ⟨gb, 0, none⟩), .map (some b2), .map (some b3), .int .i64 0, .slice sa7 sn7 sc7], .box gb 91 [.int .i64 v_1.g.Nts, .int .i64 v_1.g.Start, .slice sa3 sn3 sc3, .slice sa4 sn4 sc4, .slice sa5 sn5 sc5, .map (some gb1), .map (some gb2), .map (some gb3)], .mp gb1 (mEnc kForest_span (tenc v_4)), .mp gb2 (mEnc kForest_span (tenc v_5)), .mp gb3 (mEnc kForest_part (tenc v_6)), .mp b2 (mEnc kForest_span (tenc v_7)), .mp b3 (mEnc kForest_part (tenc v_8)), .box b5 73 [.int .i64 g_.Start, .int .i64 0, .int .i64 (w__.length : Int)], .box b1 53 [.int .i64 0, .slice none 0 0], .box b 24 [.int .i64 g_.Nts, .int .i64 g_.Start, .slice sa1 sn1 sc1], .row (.slice sa7 sn7 sc7) 62 7 (Nodes_.map eFNode)] [(.slice sa1 sn1 sc1, .slice 2 (g_.Rules.map eRule)), (.slice sa2 sn2 sc2, .slice 1 (w__.map eU8)), (.slice sa3 sn3 sc3, .slice 2 (v_1.g.Rules.map eRule)), (.slice sa4 sn4 sc4, .slice 1 (v_1.w_.map eU8)), (.slice sa5 sn5 sc5, .slice 1 (v_1.by_.map (eSl 1 eI64)))] a w) k ?_ ?_
  intro a w hs
  exact ⟨0, v_3.2.f.Nodes, v_3.2.v.whole, v_3.2.v.counts, v_3.2.v.rows, v_3.2.spans, v_3.2.parts, sa6, sn6, sc6, ho1, st_le [0, 0, 0, 0, 0, 0, 0, 1, 1, 1, 0] (lea rfl) rfl (subs [3, 4, 0, 1, 2] rfl) a w hs⟩
  rintro j a w ⟨i, Nodes_, v_4, v_5, v_6, v_7, v_8, sa7, sn7, sc7, hL1, hs⟩
  rcases j with _ | j
  cases hL1
  refine wc_app hs ?_
  unfold F.forest.Build_l1 at hL1
  refine c_seq (c_seq (c_region (o_v (v_move rfl) rfl (o_v (v_move rfl) rfl (o_v (v_nilCheck rfl) rfl (o_v (fa 3 rfl) rfl (o_v (fa 4 rfl) rfl (o_v (vl 0 ty51 rfl rfl rfl) rfl (o_v (v_lenS (enc := eFNode) Nodes_ sl51 rfl (.r 10 _ rfl)) rfl (o_v (v_bin rfl rfl rfl) rfl (o_seq ?_)))))))))))
  refine c_cond rfl (fun h7 => ?_) (fun h7 => ?_)
  replace hL1 := ite_t h7 hL1
  refine c_skip (sat_wc (c_seq (c_block (c_seq (c_region (o_v (v_move rfl) rfl (o_v (v_move rfl) rfl (o_v (v_nilCheck rfl) rfl (o_v (fa 3 rfl) rfl (o_v (fa 4 rfl) rfl (o_v (vl 0 ty51 rfl rfl rfl) rfl (o_v (v_move rfl) rfl (ite_some hL1 fun h8 hL1 => o_v (v_indexAddr_s (xs := Nodes_) (enc := eFNode) sl51 rfl rfl (.r 10 _ rfl) h8) rfl (o_load_s (xs := Nodes_) (enc := eFNode) ty62 rfl (.r 10 _ rfl) h8 rfl rfl rfl rfl rfl rfl fun sa9 sn9 sc9 sa10 sn10 sc10 => ?_))))))))))))))
  obtain ⟨v_9, h9, hL1⟩ := bd hL1
  refine ocl [0, 0, 0, 0, 0, 0, 0, 3] call46 rfl rfl (subs [4, 5, 6, 0, 1] rfl) (tri46 h9 :) ?_
  rintro _ _ _ ⟨sa11, sn11, sc11, sa12, sn12, sc12, rfl, rfl, rfl⟩
  refine o_H [.box b4 100 [.pointer (some ⟨gb, 0, none⟩), .map (some b2), .map (some b3), .int .i64 0, .slice sa12 sn12 sc12], .box gb 91 [.int .i64 v_1.g.Nts, .int .i64 v_1.g.Start, .slice sa3 sn3 sc3, .slice sa4 sn4 sc4, .slice sa5 sn5 sc5, .map (some gb1), .map (some gb2), .map (some gb3)], .mp gb1 (mEnc kForest_span (tenc v_9.2.v.whole)), .mp gb2 (mEnc kForest_span (tenc v_9.2.v.counts)), .mp gb3 (mEnc kForest_part (tenc v_9.2.v.rows)), .mp b2 (mEnc kForest_span (tenc v_9.2.spans)), .mp b3 (mEnc kForest_part (tenc v_9.2.parts)), .row (.slice sa12 sn12 sc12) 62 7 (v_9.2.f.Nodes.map eFNode), .row (.slice sa11 sn11 sc11) 108 4 (v_9.1.map eAlt), .box b5 73 [.int .i64 g_.Start, .int .i64 0, .int .i64 (w__.length : Int)], .box b1 53 [.int .i64 0, .slice none 0 0], .box b 24 [.int .i64 g_.Nts, .int .i64 g_.Start, .slice sa1 sn1 sc1]] rfl (o_v (v_assign rfl) rfl (o_seq (c_region (o_v (v_move rfl) rfl (o_v (v_nilCheck rfl) rfl (o_v (fa 3 rfl) rfl (o_v (fa 4 rfl) rfl (o_v (vl 0 ty51 rfl rfl rfl) rfl (o_v (v_move rfl) rfl (o_v (v_move rfl) rfl (ite_some hL1 fun h10 hL1 => o_v (v_indexAddr_s (xs := v_9.2.f.Nodes) (enc := eFNode) sl51 rfl rfl (.r 7 _ rfl) h10) rfl (o_v (v_fieldAddr (v := .pointer (some ⟨blkA sa12, offA sa12 + (Int.toNat i * 7 + 6), none⟩)) rfl (fun _ => by kernel_rfl)) rfl (o_st (st_freeze 8 rfl) (o_store_s (xs := v_9.2.f.Nodes) (enc := eFNode) 7 (FNode.mk ((at_ v_9.2.f.Nodes i).Nt) ((at_ v_9.2.f.Nodes i).Rule) ((at_ v_9.2.f.Nodes i).Dot) ((at_ v_9.2.f.Nodes i).From) ((at_ v_9.2.f.Nodes i).To) ((at_ v_9.2.f.Nodes i).Ban) v_9.1) rfl ty60 rfl rfl rfl rfl h10 (.f 0 rfl (.nil)) rfl rfl rfl ?_))))))))))))))
  refine o_H [.box b4 100 [.pointer (some ⟨gb, 0, none⟩), .map (some b2), .map (some b3), .int .i64 0, .slice sa12 sn12 sc12], .box gb 91 [.int .i64 v_1.g.Nts, .int .i64 v_1.g.Start, .slice sa3 sn3 sc3, .slice sa4 sn4 sc4, .slice sa5 sn5 sc5, .map (some gb1), .map (some gb2), .map (some gb3)], .mp gb1 (mEnc kForest_span (tenc v_9.2.v.whole)), .mp gb2 (mEnc kForest_span (tenc v_9.2.v.counts)), .mp gb3 (mEnc kForest_part (tenc v_9.2.v.rows)), .mp b2 (mEnc kForest_span (tenc v_9.2.spans)), .mp b3 (mEnc kForest_part (tenc v_9.2.parts)), .row (.slice sa12 sn12 sc12) 62 7 ((set_ v_9.2.f.Nodes i (FNode.mk ((at_ v_9.2.f.Nodes i).Nt) ((at_ v_9.2.f.Nodes i).Rule) ((at_ v_9.2.f.Nodes i).Dot) ((at_ v_9.2.f.Nodes i).From) ((at_ v_9.2.f.Nodes i).To) ((at_ v_9.2.f.Nodes i).Ban) v_9.1)).map eFNode), .box b5 73 [.int .i64 g_.Start, .int .i64 0, .int .i64 (w__.length : Int)], .box b1 53 [.int .i64 0, .slice none 0 0], .box b 24 [.int .i64 g_.Nts, .int .i64 g_.Start, .slice sa1 sn1 sc1]] rfl (o_nil (sat_wc (c_region (o_v (v_move rfl) rfl (o_v (v_bin rfl rfl rfl) rfl (o_v (v_assign rfl) rfl (o_nil ?_)))))))
  intro a w hs
  exact ⟨j, Nat.lt_succ_self j, IntKind.wrap .i64 (i + 1), set_ v_9.2.f.Nodes i (FNode.mk ((at_ v_9.2.f.Nodes i).Nt) ((at_ v_9.2.f.Nodes i).Rule) ((at_ v_9.2.f.Nodes i).Dot) ((at_ v_9.2.f.Nodes i).From) ((at_ v_9.2.f.Nodes i).To) ((at_ v_9.2.f.Nodes i).Ban) v_9.1), v_9.2.v.whole, v_9.2.v.counts, v_9.2.v.rows, v_9.2.spans, v_9.2.parts, sa12, sn12, sc12, hL1, st_le [0, 0, 0, 0, 0, 0, 0, 1, 1, 1, 0] (lea rfl) rfl (subs [3, 4, 5, 6, 7] rfl) a w hs⟩
  replace hL1 := ite_f h7 hL1
  refine c_exit0 ?_
  cases hL1
  refine s_st ?_ (hN1 sa7 sn7 sc7)
  exact st_le [0, 0, 0, 0, 0, 0, 0, 0, 0, 0, 0] (lea rfl) rfl (subs [0, 1, 2, 3, 4] rfl)
  intro sa8 sn8 sc8
  refine sat_wc (c_seq (c_region (o_v (v_move rfl) rfl (o_v (v_nilCheck rfl) rfl (o_v (fa 3 rfl) rfl (o_v (vl 0 ty53 rfl rfl rfl) rfl (o_store_box 8 rfl ty53 rfl rfl rfl rfl rfl rfl rfl (o_v (v_assign rfl) rfl (o_seq (c_ret ?_))))))))))
  cases hF
  refine s_st (st_freeze 10 rfl) (s_ret2 rfl (r_cell 8 rfl ty53 rfl rfl rfl rfl) (r_tmp rfl) fun a w hs => fin_sel hs [] ⟨sa8, sn8, sc8, rfl, rfl, rfl⟩ rfl (subs [0] rfl))
theorem tri12 {k : Nat} {r : Bool} (hF : F.law08.alive k = some r) :
    Tri Try.prog 12 [] [] [] (fun o H Φ => o = .ret (.bool r) ∧ H = [] ∧ Φ = []) := by
  unfold F.law08.alive at hF
  refine tri_intro (n := 86) Try.func12 rfl Try.ntmps12 rfl fun w X => c_seq (c_region (o_v (v_assign rfl) rfl (o_seq (c_seq (c_region ?_)))))
  obtain ⟨v_, h1, hF⟩ := bd hF
  refine o_call0 call29 rfl sub_nil (tri29 h1 :) rfl ?_
  rintro _ _ _ ⟨sa1, sn1, sc1, rfl, rfl, rfl⟩
  refine o_buildSlice (enc := eU8) ([49, 43, 49, 43, 49] : List Int) [.int .u8 49, .int .u8 43, .int .u8 49, .int .u8 43, .int .u8 49] sl25 rfl (fun _ => by kernel_rfl) rfl rfl rfl (.s rfl (.s rfl (.s rfl (.s rfl (.s rfl (.nil)))))) rfl fun sa2 sn2 sc2 => o_convBytes 0 Try.underlying25 Try.underlying5 rfl rfl rfl rfl ?_
  obtain ⟨v_1, h2, hF⟩ := bd hF
  refine o_callSB call13 rfl (lent_f 1 rfl (lent_f 0 rfl lent_nil)) (tri13 h2 :) rfl (o_v (v_move rfl) rfl (o_v (v_extract rfl rfl) rfl (o_v (v_extract rfl rfl) rfl (o_v (v_assign rfl) rfl (o_v (v_assign rfl) rfl (o_seq (c_seq (c_region (o_call0 call29 rfl sub_nil (tri29 h1 :) rfl ?_)))))))))
  rintro _ _ _ ⟨sa3, sn3, sc3, rfl, rfl, rfl⟩
  refine o_buildSlice (enc := eU8) ([49, 43, 49, 43, 49] : List Int) [.int .u8 49, .int .u8 43, .int .u8 49, .int .u8 43, .int .u8 49] sl25 rfl (fun _ => by kernel_rfl) rfl rfl rfl (.s rfl (.s rfl (.s rfl (.s rfl (.s rfl (.nil)))))) rfl fun sa4 sn4 sc4 => o_convBytes 0 Try.underlying25 Try.underlying5 rfl rfl rfl rfl ?_
  obtain ⟨v_2, h3, hF⟩ := bd hF
  refine o_call0 call15 rfl (subs [1, 0] rfl) (tri15 h3 :) rfl ?_
  rintro _ _ _ ⟨sa5, sn5, sc5, rfl, rfl, rfl⟩
  refine o_v (v_move rfl) rfl (o_v (v_extract rfl rfl) rfl (o_v (v_extract rfl rfl) rfl (o_v (v_assign rfl) rfl (o_v (v_assign rfl) rfl (o_seq (c_seq (c_region (o_call0 call29 rfl sub_nil (tri29 h1 :) rfl ?_))))))))
  rintro _ _ _ ⟨sa6, sn6, sc6, rfl, rfl, rfl⟩
  refine o_buildSlice (enc := eU8) ([49] : List Int) [.int .u8 49] sl25 rfl (fun _ => by kernel_rfl) rfl rfl rfl (.s rfl (.nil)) rfl fun sa7 sn7 sc7 => o_convBytes 0 Try.underlying25 Try.underlying5 rfl rfl rfl rfl ?_
  obtain ⟨v_3, h4, hF⟩ := bd hF
  refine o_call0 call22 rfl (subs [1, 0] rfl) (tri22 h4 :) rfl ?_
  rintro _ _ _ ⟨sa8, sn8, sc8, rfl, rfl, rfl⟩
  refine o_v (v_move rfl) rfl (o_v (v_extract rfl rfl) rfl (o_v (v_extract rfl rfl) rfl (o_alloc zero53 rfl rfl fun b => o_store_box 0 rfl ty53 rfl rfl rfl rfl rfl rfl rfl (o_v (v_assign rfl) rfl (o_seq (c_seq (c_region (o_v (v_build (v := .agg #[.int .i64 0, .int .u64 0, .int .u64 0, .int .u64 0, .int .u64 0]) rfl (fun _ => by kernel_rfl)) rfl (o_buildSlice (enc := eKSym) ([(KSym.mk 0 (S4.mk 0 0 0 0))] : List KSym) [.int .i64 0, .int .u64 0, .int .u64 0, .int .u64 0, .int .u64 0] sl48 rfl (fun _ => by kernel_rfl) rfl rfl rfl (.s rfl (.s rfl (.s rfl (.s rfl (.s rfl (.nil)))))) rfl fun sa9 sn9 sc9 => o_v (v_build (v := .agg #[.int .i64 0, .slice sa9 sn9 sc9]) rfl (fun _ => by kernel_rfl)) rfl (o_st (st_freeze 0 rfl) (o_buildSlice (enc := eRule) ([(Rule.mk 0 ([(KSym.mk 0 (S4.mk 0 0 0 0))] : List KSym))] : List Rule) [.int .i64 0, .slice sa9 sn9 sc9] sl22 rfl (fun _ => by kernel_rfl) rfl rfl rfl (.s rfl (.f 0 rfl (.nil))) rfl fun sa10 sn10 sc10 => o_v (v_build (v := .agg #[.int .i64 1, .int .i64 0, .slice sa10 sn10 sc10]) rfl (fun _ => by kernel_rfl)) rfl ?_)))))))))))
  obtain ⟨v_4, h5, hF⟩ := bd hF
  refine o_st (st_nilfact 1) (o_callSB call13 rfl (lent_r 0 rfl (lent_f 0 rfl lent_nil)) (tri13 h5 :) rfl (o_v (v_move rfl) rfl (o_v (v_extract rfl rfl) rfl (o_v (v_extract rfl rfl) rfl (o_v (v_assign rfl) rfl (o_v (v_assign rfl) rfl (o_seq (c_seq ?_))))))))
  refine c_cut (fun E N' => ∀ (t0 : Bool), F.law08.alive_j1 t0 = some r → Sat E [(0, .bool t0), (5, .pointer (some ⟨b, 0, none⟩))] [.box b 53 [.int .i64 v_3.1.Root, .slice sa8 sn8 sc8]] [(.slice sa8 sn8 sc8, .slice 7 (v_3.1.Nodes.map eFNode))] N') (fun N1 hN1 => ?_) ?_
  refine c_region (o_v (v_move rfl) rfl (o_v (v_bin rfl rfl rfl) rfl (o_v (v_move rfl) rfl ?_)))
  refine o_split (t := 41) rfl (fun h6 => ?_) (fun h6 => ?_)
  replace hF := ite_t h6 hF
  refine o_on rfl rfl (o_v (v_move rfl) rfl (o_on rfl rfl (o_v (v_bin rfl rfl rfl) rfl (o_v (v_pick_t rfl rfl) rfl (o_v (v_move rfl) rfl ?_)))))
  refine o_split (t := 45) rfl (fun h7 => ?_) (fun h7 => ?_)
  replace hF := ite_t h7 hF
  refine o_on rfl rfl (o_v (v_move rfl) rfl (o_on rfl rfl (o_v (v_bin rfl rfl rfl) rfl (o_v (v_pick_t rfl rfl) rfl (o_v (v_move rfl) rfl ?_)))))
  refine o_split (t := 49) rfl (fun h8 => ?_) (fun h8 => ?_)
  replace hF := ite_t h8 hF
  refine o_on rfl rfl (o_v (v_move rfl) rfl (o_on rfl rfl (o_v (v_lenS (enc := eTree) v_2.1 sl31 rfl (.r 2 _ rfl)) rfl (o_on rfl rfl (o_v (v_bin rfl rfl rfl) rfl (o_v (v_pick_t rfl rfl) rfl (o_v (v_move rfl) rfl ?_)))))))
  refine o_split (t := 54) rfl (fun h9 => ?_) (fun h9 => ?_)
  replace hF := ite_t h9 hF
  refine o_on rfl rfl (o_v (v_move rfl) rfl (o_on rfl rfl (ite_some hF fun h10 hF => o_v (v_indexAddr_s (xs := v_2.1) (enc := eTree) sl31 rfl rfl (.r 2 _ rfl) h10) rfl (o_on rfl rfl (o_v (v_fieldAddr (v := .pointer (some ⟨blkA sa5, offA sa5 + (Int.toNat 0 * 3 + 2), none⟩)) rfl (fun _ => by kernel_rfl)) rfl (o_on rfl rfl (o_load_s (ds := [.slice 3 (((at_ v_2.1 0).Kids).map eTree)]) (xs := v_2.1) (enc := eTree) ty31 rfl (.r 2 _ rfl) h10 (by simp only [eTree_eq] <;> rfl) rfl rfl rfl rfl rfl fun sa11 sn11 sc11 => o_on rfl rfl (o_v (v_lenS (enc := eTree) ((at_ v_2.1 0).Kids) sl31 rfl (.f 0 rfl)) rfl (o_on rfl rfl (o_v (v_bin rfl rfl rfl) rfl (o_v (v_pick_t rfl rfl) rfl (o_v (v_move rfl) rfl ?_))))))))))))
  refine o_split (t := 62) rfl (fun h11 => ?_) (fun h11 => ?_)
  replace hF := ite_t h11 hF
  refine o_on rfl rfl (o_v (v_move rfl) rfl (o_on rfl rfl (o_v (v_indexAddr_s (xs := v_2.1) (enc := eTree) sl31 rfl rfl (.r 2 _ rfl) h10) rfl (o_on rfl rfl (o_v (v_fieldAddr (v := .pointer (some ⟨blkA sa5, offA sa5 + (Int.toNat 0 * 3 + 2), none⟩)) rfl (fun _ => by kernel_rfl)) rfl (o_on rfl rfl (o_load_s (ds := [.slice 3 (((at_ v_2.1 0).Kids).map eTree)]) (xs := v_2.1) (enc := eTree) ty31 rfl (.r 2 _ rfl) h10 (by simp only [eTree_eq] <;> rfl) rfl rfl rfl rfl rfl fun sa12 sn12 sc12 => o_on rfl rfl (ite_some hF fun h12 hF => o_v (v_indexAddr_s (xs := (at_ v_2.1 0).Kids) (enc := eTree) sl31 rfl rfl (.f 0 rfl) h12) rfl (o_on rfl rfl (o_v (v_fieldAddr (v := .pointer (some ⟨blkA sa12, offA sa12 + (Int.toNat 0 * 3 + 0), none⟩)) rfl (fun _ => by kernel_rfl)) rfl (o_on rfl rfl (o_v (v_load_s (ds := [.int .i64 ((at_ ((at_ v_2.1 0).Kids) 0).Rule)]) (xs := (at_ v_2.1 0).Kids) (enc := eTree) ty3 rfl (.f 0 rfl) h12 (by simp only [eTree_eq] <;> rfl) rfl rfl rfl rfl rfl rfl) rfl (o_on rfl rfl ?_)))))))))))))
  refine o_v (v_bin rfl rfl rfl) rfl (o_v (v_pick_t rfl rfl) rfl (o_v (v_move rfl) rfl ?_))
  refine o_split (t := 72) rfl (fun h13 => ?_) (fun h13 => ?_)
  replace hF := ite_t h13 hF
  refine o_on rfl rfl (o_v (v_move rfl) rfl (o_on rfl rfl (o_v (v_bin rfl rfl rfl) rfl (o_v (v_pick_t rfl rfl) rfl (o_v (v_move rfl) rfl ?_)))))
  refine o_split (t := 76) rfl (fun h14 => ?_) (fun h14 => ?_)
  replace hF := ite_t h14 hF
  refine o_on rfl rfl (o_v (fa 1 rfl) rfl (o_on rfl rfl (o_v (vl 1 ty51 rfl rfl rfl) rfl (o_on rfl rfl (o_v (v_lenS (enc := eFNode) v_3.1.Nodes sl51 rfl (.f 4 rfl)) rfl (o_on rfl rfl (o_v (v_bin rfl rfl rfl) rfl (o_v (v_pick_t rfl rfl) rfl (o_v (v_move rfl) rfl ?_)))))))))
  refine o_split (t := 82) rfl (fun h15 => ?_) (fun h15 => ?_)
  replace hF := ite_t h15 hF
  refine o_on rfl rfl (o_v (v_move rfl) rfl (o_on rfl rfl (o_v (v_bin rfl rfl rfl) rfl (o_v (v_pick_t rfl rfl) rfl (o_v (v_assign rfl) rfl (o_nil ?_))))))
  refine s_st ?_ (hN1 (v_4.2 == 48) hF)
  exact st_le [1] (lea rfl) rfl (subs [4] rfl)
  replace hF := ite_f h15 hF
  refine o_off rfl rfl (by decide) rfl (o_off rfl rfl (by decide) rfl (o_v (v_pick_f rfl rfl) rfl (o_v (v_assign rfl) rfl (o_nil ?_))))
  refine s_st ?_ (hN1 false hF)
  exact st_le [1] (lea rfl) rfl (subs [4] rfl)
  replace hF := ite_f h14 hF
  refine o_off rfl rfl (by decide) rfl (o_off rfl rfl (by decide) rfl (o_off rfl rfl (by decide) rfl (o_off rfl rfl (by decide) rfl (o_v (v_pick_f rfl rfl) rfl (o_v (v_move rfl) rfl (o_off rfl rfl (by decide) rfl (o_off rfl rfl (by decide) rfl (o_v (v_pick_f rfl rfl) rfl (o_v (v_assign rfl) rfl (o_nil ?_))))))))))
  refine s_st ?_ (hN1 false hF)
  exact st_le [1] (lea rfl) rfl (subs [4] rfl)
  replace hF := ite_f h13 hF
  refine o_off rfl rfl (by decide) rfl (o_off rfl rfl (by decide) rfl (o_v (v_pick_f rfl rfl) rfl (o_v (v_move rfl) rfl (o_off rfl rfl (by decide) rfl (o_off rfl rfl (by decide) rfl (o_off rfl rfl (by decide) rfl (o_off rfl rfl (by decide) rfl (o_v (v_pick_f rfl rfl) rfl (o_v (v_move rfl) rfl (o_off rfl rfl (by decide) rfl (o_off rfl rfl (by decide) rfl (o_v (v_pick_f rfl rfl) rfl (o_v (v_assign rfl) rfl (o_nil ?_))))))))))))))
  refine s_st ?_ (hN1 false hF)
  exact st_le [1] (lea rfl) rfl (subs [4] rfl)
  replace hF := ite_f h11 hF
  refine o_off rfl rfl (by decide) rfl (o_off rfl rfl (by decide) rfl (o_off rfl rfl (by decide) rfl (o_off rfl rfl (by decide) rfl (o_off rfl rfl (by decide) rfl (o_off rfl rfl (by decide) rfl (o_off rfl rfl (by decide) rfl (o_off rfl rfl (by decide) rfl (o_v (v_pick_f rfl rfl) rfl (o_v (v_move rfl) rfl (o_off rfl rfl (by decide) rfl (o_off rfl rfl (by decide) rfl (o_v (v_pick_f rfl rfl) rfl (o_v (v_move rfl) rfl (o_off rfl rfl (by decide) rfl (o_off rfl rfl (by decide) rfl ?_)))))))))))))))
  refine o_off rfl rfl (by decide) rfl (o_off rfl rfl (by decide) rfl (o_v (v_pick_f rfl rfl) rfl (o_v (v_move rfl) rfl (o_off rfl rfl (by decide) rfl (o_off rfl rfl (by decide) rfl (o_v (v_pick_f rfl rfl) rfl (o_v (v_assign rfl) rfl (o_nil ?_))))))))
  refine s_st ?_ (hN1 false hF)
  exact st_le [1] (lea rfl) rfl (subs [3] rfl)
  replace hF := ite_f h9 hF
  refine o_off rfl rfl (by decide) rfl (o_off rfl rfl (by decide) rfl (o_off rfl rfl (by decide) rfl (o_off rfl rfl (by decide) rfl (o_off rfl rfl (by decide) rfl (o_off rfl rfl (by decide) rfl (o_v (v_pick_f rfl rfl) rfl (o_v (v_move rfl) rfl (o_off rfl rfl (by decide) rfl (o_off rfl rfl (by decide) rfl (o_off rfl rfl (by decide) rfl (o_off rfl rfl (by decide) rfl (o_off rfl rfl (by decide) rfl (o_off rfl rfl (by decide) rfl (o_off rfl rfl (by decide) rfl (o_off rfl rfl (by decide) rfl ?_)))))))))))))))
  refine o_v (v_pick_f rfl rfl) rfl (o_v (v_move rfl) rfl (o_off rfl rfl (by decide) rfl (o_off rfl rfl (by decide) rfl (o_v (v_pick_f rfl rfl) rfl (o_v (v_move rfl) rfl (o_off rfl rfl (by decide) rfl (o_off rfl rfl (by decide) rfl (o_off rfl rfl (by decide) rfl (o_off rfl rfl (by decide) rfl (o_v (v_pick_f rfl rfl) rfl (o_v (v_move rfl) rfl (o_off rfl rfl (by decide) rfl (o_off rfl rfl (by decide) rfl (o_v (v_pick_f rfl rfl) rfl (o_v (v_assign rfl) rfl ?_)))))))))))))))
  refine o_nil ?_
  refine s_st ?_ (hN1 false hF)
  exact st_le [1] (lea rfl) rfl (subs [2] rfl)
  replace hF := ite_f h8 hF
  refine o_off rfl rfl (by decide) rfl (o_off rfl rfl (by decide) rfl (o_off rfl rfl (by decide) rfl (o_v (v_pick_f rfl rfl) rfl (o_v (v_move rfl) rfl (o_off rfl rfl (by decide) rfl (o_off rfl rfl (by decide) rfl (o_off rfl rfl (by decide) rfl (o_off rfl rfl (by decide) rfl (o_off rfl rfl (by decide) rfl (o_off rfl rfl (by decide) rfl (o_v (v_pick_f rfl rfl) rfl (o_v (v_move rfl) rfl (o_off rfl rfl (by decide) rfl (o_off rfl rfl (by decide) rfl (o_off rfl rfl (by decide) rfl ?_)))))))))))))))
  refine o_off rfl rfl (by decide) rfl (o_off rfl rfl (by decide) rfl (o_off rfl rfl (by decide) rfl (o_off rfl rfl (by decide) rfl (o_off rfl rfl (by decide) rfl (o_v (v_pick_f rfl rfl) rfl (o_v (v_move rfl) rfl (o_off rfl rfl (by decide) rfl (o_off rfl rfl (by decide) rfl (o_v (v_pick_f rfl rfl) rfl (o_v (v_move rfl) rfl (o_off rfl rfl (by decide) rfl (o_off rfl rfl (by decide) rfl (o_off rfl rfl (by decide) rfl (o_off rfl rfl (by decide) rfl (o_v (v_pick_f rfl rfl) rfl ?_)))))))))))))))
  refine o_v (v_move rfl) rfl (o_off rfl rfl (by decide) rfl (o_off rfl rfl (by decide) rfl (o_v (v_pick_f rfl rfl) rfl (o_v (v_assign rfl) rfl (o_nil ?_)))))
  refine s_st ?_ (hN1 false hF)
  exact st_le [1] (lea rfl) rfl (subs [2] rfl)
  replace hF := ite_f h7 hF
  refine o_off rfl rfl (by decide) rfl (o_off rfl rfl (by decide) rfl (o_v (v_pick_f rfl rfl) rfl (o_v (v_move rfl) rfl (o_off rfl rfl (by decide) rfl (o_off rfl rfl (by decide) rfl (o_off rfl rfl (by decide) rfl (o_v (v_pick_f rfl rfl) rfl (o_v (v_move rfl) rfl (o_off rfl rfl (by decide) rfl (o_off rfl rfl (by decide) rfl (o_off rfl rfl (by decide) rfl (o_off rfl rfl (by decide) rfl (o_off rfl rfl (by decide) rfl (o_off rfl rfl (by decide) rfl (o_v (v_pick_f rfl rfl) rfl ?_)))))))))))))))
  refine o_v (v_move rfl) rfl (o_off rfl rfl (by decide) rfl (o_off rfl rfl (by decide) rfl (o_off rfl rfl (by decide) rfl (o_off rfl rfl (by decide) rfl (o_off rfl rfl (by decide) rfl (o_off rfl rfl (by decide) rfl (o_off rfl rfl (by decide) rfl (o_off rfl rfl (by decide) rfl (o_v (v_pick_f rfl rfl) rfl (o_v (v_move rfl) rfl (o_off rfl rfl (by decide) rfl (o_off rfl rfl (by decide) rfl (o_v (v_pick_f rfl rfl) rfl (o_v (v_move rfl) rfl (o_off rfl rfl (by decide) rfl ?_)))))))))))))))
  refine o_off rfl rfl (by decide) rfl (o_off rfl rfl (by decide) rfl (o_off rfl rfl (by decide) rfl (o_v (v_pick_f rfl rfl) rfl (o_v (v_move rfl) rfl (o_off rfl rfl (by decide) rfl (o_off rfl rfl (by decide) rfl (o_v (v_pick_f rfl rfl) rfl (o_v (v_assign rfl) rfl (o_nil ?_)))))))))
  refine s_st ?_ (hN1 false hF)
  exact st_le [1] (lea rfl) rfl (subs [2] rfl)
  replace hF := ite_f h6 hF
  refine o_off rfl rfl (by decide) rfl (o_off rfl rfl (by decide) rfl (o_v (v_pick_f rfl rfl) rfl (o_v (v_move rfl) rfl (o_off rfl rfl (by decide) rfl (o_off rfl rfl (by decide) rfl (o_v (v_pick_f rfl rfl) rfl (o_v (v_move rfl) rfl (o_off rfl rfl (by decide) rfl (o_off rfl rfl (by decide) rfl (o_off rfl rfl (by decide) rfl (o_v (v_pick_f rfl rfl) rfl (o_v (v_move rfl) rfl (o_off rfl rfl (by decide) rfl (o_off rfl rfl (by decide) rfl (o_off rfl rfl (by decide) rfl ?_)))))))))))))))
  refine o_off rfl rfl (by decide) rfl (o_off rfl rfl (by decide) rfl (o_off rfl rfl (by decide) rfl (o_v (v_pick_f rfl rfl) rfl (o_v (v_move rfl) rfl (o_off rfl rfl (by decide) rfl (o_off rfl rfl (by decide) rfl (o_off rfl rfl (by decide) rfl (o_off rfl rfl (by decide) rfl (o_off rfl rfl (by decide) rfl (o_off rfl rfl (by decide) rfl (o_off rfl rfl (by decide) rfl (o_off rfl rfl (by decide) rfl (o_v (v_pick_f rfl rfl) rfl (o_v (v_move rfl) rfl (o_off rfl rfl (by decide) rfl ?_)))))))))))))))
  refine o_off rfl rfl (by decide) rfl (o_v (v_pick_f rfl rfl) rfl (o_v (v_move rfl) rfl (o_off rfl rfl (by decide) rfl (o_off rfl rfl (by decide) rfl (o_off rfl rfl (by decide) rfl (o_off rfl rfl (by decide) rfl (o_v (v_pick_f rfl rfl) rfl (o_v (v_move rfl) rfl (o_off rfl rfl (by decide) rfl (o_off rfl rfl (by decide) rfl (o_v (v_pick_f rfl rfl) rfl (o_v (v_assign rfl) rfl (o_nil ?_)))))))))))))
  refine s_st ?_ (hN1 false hF)
  exact st_le [1] (lea rfl) rfl (subs [2] rfl)
  intro t0 hF
  unfold F.law08.alive_j1 at hF
  refine sat_wc (c_ret ?_)
  cases hF
  refine s_ret1 rfl (r_tmp rfl) fun a w hs => fin_sel hs [] ⟨rfl, rfl, rfl⟩ rfl sub_nil
theorem tri44 {k : Nat} {s : S4} {n : Int} {r : Bool} (hF : F.ref01.Has k s n = some r) :
    Tri Try.prog 44 [.agg #[.int .u64 s.w0, .int .u64 s.w1, .int .u64 s.w2, .int .u64 s.w3], .int .i64 n] [] [] (fun o H Φ => o = .ret (.bool r) ∧ H = [] ∧ Φ = []) := by
  unfold F.ref01.Has at hF
  refine tri_intro (n := 40) Try.func44 rfl Try.ntmps44 rfl fun w X => c_seq (c_region (o_box rfl rfl rfl fun b => o_v (v_assign rfl) rfl (o_seq (c_seq (c_seq (c_region (o_v (v_move rfl) rfl (o_v (v_bin rfl rfl rfl) rfl (o_v (v_move rfl) rfl ?_)))))))))
  refine o_split (t := 9) rfl (fun h1 => ?_) (fun h1 => ?_)
  replace hF := ite_t h1 hF
  refine o_off rfl rfl (by decide) rfl (o_off rfl rfl (by decide) rfl (o_v (v_pick_t rfl rfl) rfl (o_seq ?_)))
  refine c_cond rfl (fun _ => ?_) (fun h => Bool.noConfusion h)
  refine c_seq (c_region (o_v (v_assign rfl) rfl (o_seq (c_ret ?_))))
  cases hF
  refine s_ret1 rfl (r_tmp rfl) fun a w hs => fin_sel hs [] ⟨rfl, rfl, rfl⟩ rfl sub_nil
  replace hF := ite_f h1 hF
  refine o_on rfl rfl (o_v (v_move rfl) rfl (o_on rfl rfl (o_v (v_bin rfl rfl rfl) rfl (o_v (v_pick_f rfl rfl) rfl (o_seq ?_)))))
  refine c_cond rfl (fun h2 => ?_) (fun h2 => ?_)
  replace hF := ite_t h2 hF
  refine c_seq (c_region (o_v (v_assign rfl) rfl (o_seq (c_ret ?_))))
  cases hF
  refine s_ret1 rfl (r_tmp rfl) fun a w hs => fin_sel hs [] ⟨rfl, rfl, rfl⟩ rfl sub_nil
  replace hF := ite_f h2 hF
  refine c_skip (sat_wc (c_seq (c_region (o_v (v_indexAddr_a ar45 rfl rfl rfl) rfl (o_v (vl 0 ty43 rfl rfl rfl) rfl (o_v (v_assign rfl) rfl (o_seq (c_seq (c_seq (c_region (o_v (v_move rfl) rfl (o_v (v_quo rfl rfl rfl) rfl (o_seq ?_)))))))))))))
  refine cT (fun E H Φ N' => ∀ (w__ : Int), F.ref01.Has_j1 k n w__ = some r → Sat E [(0, .agg #[.int .u64 s.w0, .int .u64 s.w1, .int .u64 s.w2, .int .u64 s.w3]), (1, .int .i64 n), (2, .pointer (some ⟨b, 0, none⟩)), (4, .bool false), (5, .int .u64 w__)] H [] N') (fun N2 hN2 => ?_) ?_
  refine c_block (c_seq (c_region (o_v (v_bin rfl rfl rfl) rfl (o_v (v_assign rfl) rfl (o_seq ?_)))))
  refine c_cond rfl (fun h4 => ?_) (fun h4 => ?_)
  replace hF := ite_t h4 hF
  refine c_region (o_v (v_indexAddr_a ar45 rfl rfl rfl) rfl (o_v (vl 0 ty43 rfl rfl rfl) rfl (o_v (v_assign rfl) rfl (o_nil ?_))))
  refine s_st ?_ (hN2 s.w1 hF)
  exact st_le [0] (lea rfl) rfl sub_nil
  replace hF := ite_f h4 hF
  refine c_seq (c_region (o_v (v_bin rfl rfl rfl) rfl (o_v (v_assign rfl) rfl (o_seq ?_))))
  refine cT (fun E H Φ N' => ∀ (w__2 : Int), F.ref01.Has_j3 k n w__2 = some r → Sat E [(0, .agg #[.int .u64 s.w0, .int .u64 s.w1, .int .u64 s.w2, .int .u64 s.w3]), (1, .int .i64 n), (2, .pointer (some ⟨b, 0, none⟩)), (4, .bool false), (5, .int .u64 w__2), (16, .int .i64 (gquo .i64 n 64))] H [] N') (fun N3 hN3 => ?_) ?_
  refine c_cond rfl (fun h5 => ?_) (fun h5 => ?_)
  replace hF := ite_t h5 hF
  refine c_region (o_v (v_indexAddr_a ar45 rfl rfl rfl) rfl (o_v (vl 0 ty43 rfl rfl rfl) rfl (o_v (v_assign rfl) rfl (o_nil ?_))))
  refine s_st ?_ (hN3 s.w2 hF)
  exact st_le [0] (lea rfl) rfl sub_nil
  replace hF := ite_f h5 hF
  refine c_seq (c_region (o_v (v_bin rfl rfl rfl) rfl (o_v (v_assign rfl) rfl (o_seq ?_))))
  refine c_cond rfl (fun h6 => ?_) (fun h6 => ?_)
  replace hF := ite_t h6 hF
  refine c_region (o_v (v_indexAddr_a ar45 rfl rfl rfl) rfl (o_v (vl 0 ty43 rfl rfl rfl) rfl (o_v (v_assign rfl) rfl (o_nil ?_))))
  refine s_st ?_ (hN3 s.w3 hF)
  exact st_le [0] (lea rfl) rfl sub_nil
  replace hF := ite_f h6 hF
  refine c_skip ?_
  refine s_st ?_ (hN3 s.w0 hF)
  exact st_le [0] (lea rfl) rfl sub_nil
  intro w__2 hF
  unfold F.ref01.Has_j3 at hF
  refine s_st ?_ (hN2 w__2 hF)
  exact st_le [0] (lea rfl) rfl sub_nil
  intro w__ hF
  unfold F.ref01.Has_j1 at hF
  refine sat_wc (c_seq (c_seq (c_region (o_v (v_assign rfl) rfl (o_seq ?_)))))
  obtain ⟨o2, ho2, hF⟩ := bd hF
  refine cT (fun E H Φ N' => Sat E [(0, .agg #[.int .u64 s.w0, .int .u64 s.w1, .int .u64 s.w2, .int .u64 s.w3]), (1, .int .i64 n), (2, .pointer (some ⟨b, 0, none⟩)), (4, .bool false), (5, .int .u64 o2)] H [] N') (fun N2 hN2 => ?_) ?_
  refine c_block ?_
  refine cL (fun E H Φ j a w => ∃ (w__1 : Int) (i : Int), F.ref01.Has_l2 n j w__1 i = some o2 ∧ St E [(0, .agg #[.int .u64 s.w0, .int .u64 s.w1, .int .u64 s.w2, .int .u64 s.w3]), (1, .int .i64 n), (2, .pointer (some ⟨b, 0, none⟩)), (4, .bool false), (5, .int .u64 w__1), (6, .int .i64 i)] H [] a w) k ?_ ?_
  intro a w hs
  exact ⟨w__, 0, ho2, st_le [0] (lea rfl) rfl sub_nil a w hs⟩
  rintro j a w ⟨w__1, i, hL2, hs⟩
  rcases j with _ | j
  cases hL2
  refine wc_app hs ?_
  unfold F.ref01.Has_l2 at hL2
  refine c_seq (c_seq (c_region (o_v (v_move rfl) rfl (o_v (v_move rfl) rfl (o_v (v_rem rfl rfl rfl) rfl (o_v (v_bin rfl rfl rfl) rfl (o_seq ?_)))))))
  refine c_cond rfl (fun h3 => ?_) (fun h3 => ?_)
  replace hL2 := ite_t h3 hL2
  refine c_skip (sat_wc (c_seq (c_block (c_region (o_v (v_move rfl) rfl (o_v (v_quo rfl rfl rfl) rfl (o_v (v_assign rfl) rfl (o_nil (sat_wc (c_region (o_v (v_move rfl) rfl (o_v (v_bin rfl rfl rfl) rfl (o_v (v_assign rfl) rfl (o_nil ?_))))))))))))))
  intro a w hs
  exact ⟨j, Nat.lt_succ_self j, gquo .u64 w__1 2, IntKind.wrap .i64 (i + 1), hL2, st_le [0] (lea rfl) rfl sub_nil a w hs⟩
  replace hL2 := ite_f h3 hL2
  refine c_exit0 ?_
  cases hL2
  refine s_st ?_ (hN2)
  exact st_le [0] (lea rfl) rfl sub_nil
  refine sat_wc (c_seq (c_region (o_v (v_move rfl) rfl (o_v (v_rem rfl rfl rfl) rfl (o_v (v_bin rfl rfl rfl) rfl (o_v (v_assign rfl) rfl (o_seq (c_ret ?_))))))))
  cases hF
  refine s_ret1 rfl (r_tmp rfl) fun a w hs => fin_sel hs [] ⟨rfl, rfl, rfl⟩ rfl sub_nil
theorem tri20_B (k : Nat) (g20 : Gram → Int → Tree → List Int → Int → Option Int)
    (hg20 : ∀ {g_ : Gram} {nt_ : Int} {t : Tree} {w__ : List Int} {i : Int} {sa1 : Option Addr} {sn1 sc1 : Nat} {sa2 : Option Addr} {sn2 sc2 : Nat} {sa3 : Option Addr} {sn3 sc3 : Nat} {r : Int}, g20 g_ nt_ t w__ i = some r → Tri Try.prog 20 [.agg #[.int .i64 g_.Nts, .int .i64 g_.Start, .slice sa1 sn1 sc1], .int .i64 nt_, .agg #[.int .i64 t.Rule, .int .u8 t.Byte, .slice sa2 sn2 sc2], .slice sa3 sn3 sc3, .int .i64 i] [] [(.slice sa1 sn1 sc1, .slice 2 (g_.Rules.map eRule)), (.slice sa2 sn2 sc2, .slice 3 (t.Kids.map eTree)), (.slice sa3 sn3 sc3, .slice 1 (w__.map eU8))] (fun o H Φ => o = .ret (.int .i64 r) ∧ H = [] ∧ Φ = [])) {g_ : Gram} {nt_ : Int} {t : Tree} {w__ : List Int} {i : Int} {sa1 : Option Addr} {sn1 sc1 : Nat} {sa2 : Option Addr} {sn2 sc2 : Nat} {sa3 : Option Addr} {sn3 sc3 : Nat} {r : Int} (hF : F.law08.is_B k g20 g_ nt_ t w__ i = some r) :
    Tri Try.prog 20 [.agg #[.int .i64 g_.Nts, .int .i64 g_.Start, .slice sa1 sn1 sc1], .int .i64 nt_, .agg #[.int .i64 t.Rule, .int .u8 t.Byte, .slice sa2 sn2 sc2], .slice sa3 sn3 sc3, .int .i64 i] [] [(.slice sa1 sn1 sc1, .slice 2 (g_.Rules.map eRule)), (.slice sa2 sn2 sc2, .slice 3 (t.Kids.map eTree)), (.slice sa3 sn3 sc3, .slice 1 (w__.map eU8))] (fun o H Φ => o = .ret (.int .i64 r) ∧ H = [] ∧ Φ = []) := by
  unfold F.law08.is_B at hF
  refine tri_intro (n := 129) Try.func20 rfl Try.ntmps20 rfl fun w X => c_seq (c_region (o_box rfl rfl rfl fun b => o_box rfl rfl rfl fun b1 => o_v (v_assign rfl) rfl (o_seq (c_seq (c_seq ?_)))))
  refine cT (fun E H Φ N' => ∀ (t54 : Bool), F.law08.is_j1 k t g_ g20 w__ i t54 = some r → Sat E [(0, .agg #[.int .i64 g_.Nts, .int .i64 g_.Start, .slice sa1 sn1 sc1]), (2, .agg #[.int .i64 t.Rule, .int .u8 t.Byte, .slice sa2 sn2 sc2]), (3, .slice sa3 sn3 sc3), (4, .int .i64 i), (5, .pointer (some ⟨b, 0, none⟩)), (7, .pointer (some ⟨b1, 0, none⟩)), (10, .int .i64 0), (54, .bool t54)] H Φ N') (fun N5 hN5 => ?_) ?_
  refine c_draw (n := 41) [0, 0] mixed rfl rfl (dv 0 rfl (fa 0 rfl) (dv 1 rfl (vl 0 ty3 rfl rfl rfl) (dv 2 rfl (v_bin rfl rfl rfl) (dv 3 rfl (v_move rfl) ?_))))
  refine d_split (t := 17) rfl (fun h16 => ?_) (fun h16 => ?_)
  replace hF := ite_t h16 hF
  refine d_off 4 rfl rfl rfl (by decide) pnok (by kernel_rfl) (by kernel_rfl) (by kernel_rfl) rfl (d_off 5 rfl rfl rfl (by decide) pnok (by kernel_rfl) (by kernel_rfl) (by kernel_rfl) rfl (d_off 6 rfl rfl rfl (by decide) pnok (by kernel_rfl) (by kernel_rfl) (by kernel_rfl) rfl (d_off 7 rfl rfl rfl (by decide) pnok (by kernel_rfl) (by kernel_rfl) (by kernel_rfl) rfl (d_off 8 rfl rfl rfl (by decide) pnok (by kernel_rfl) (by kernel_rfl) (by kernel_rfl) rfl (d_off 9 rfl rfl rfl (by decide) pnok (by kernel_rfl) (by kernel_rfl) (by kernel_rfl) rfl (dv 10 rfl (v_pick_t rfl rfl) (dv 11 rfl (v_move rfl) (d_off 12 rfl rfl rfl (by decide) pnok (by kernel_rfl) (by kernel_rfl) (by kernel_rfl) rfl (d_off 13 rfl rfl rfl (by decide) pnok (by kernel_rfl) (by kernel_rfl) (by kernel_rfl) rfl (d_off 14 rfl rfl rfl (by decide) pnok (by kernel_rfl) (by kernel_rfl) (by kernel_rfl) rfl (d_off 15 rfl rfl rfl (by decide) pnok (by kernel_rfl) (by kernel_rfl) (by kernel_rfl) rfl (d_off 16 rfl rfl rfl (by decide) pnok (by kernel_rfl) (by kernel_rfl) (by kernel_rfl) rfl (d_off 17 rfl rfl rfl (by decide) pnok (by kernel_rfl) (by kernel_rfl) (by kernel_rfl) rfl (d_off 18 rfl rfl rfl (by decide) pnok (by kernel_rfl) (by kernel_rfl) (by kernel_rfl) rfl (d_off 19 rfl rfl rfl (by decide) pnok (by kernel_rfl) (by kernel_rfl) (by kernel_rfl) rfl ?_)))))))))))))))
  refine d_off 20 rfl rfl rfl (by decide) pnok (by kernel_rfl) (by kernel_rfl) (by kernel_rfl) rfl (dv 21 rfl (v_pick_t rfl rfl) (dv 22 rfl (v_move rfl) (d_off 23 rfl rfl rfl (by decide) pnok (by kernel_rfl) (by kernel_rfl) (by kernel_rfl) rfl (d_off 24 rfl rfl rfl (by decide) pnok (by kernel_rfl) (by kernel_rfl) (by kernel_rfl) rfl (d_off 25 rfl rfl rfl (by decide) pnok (by kernel_rfl) (by kernel_rfl) (by kernel_rfl) rfl (d_off 26 rfl rfl rfl (by decide) pnok (by kernel_rfl) (by kernel_rfl) (by kernel_rfl) rfl (d_off 27 rfl rfl rfl (by decide) pnok (by kernel_rfl) (by kernel_rfl) (by kernel_rfl) rfl (d_off 28 rfl rfl rfl (by decide) pnok (by kernel_rfl) (by kernel_rfl) (by kernel_rfl) rfl (d_off 29 rfl rfl rfl (by decide) pnok (by kernel_rfl) (by kernel_rfl) (by kernel_rfl) rfl (d_off 30 rfl rfl rfl (by decide) pnok (by kernel_rfl) (by kernel_rfl) (by kernel_rfl) rfl (d_off 31 rfl rfl rfl (by decide) pnok (by kernel_rfl) (by kernel_rfl) (by kernel_rfl) rfl (d_off 32 rfl rfl rfl (by decide) pnok (by kernel_rfl) (by kernel_rfl) (by kernel_rfl) rfl (d_off 33 rfl rfl rfl (by decide) pnok (by kernel_rfl) (by kernel_rfl) (by kernel_rfl) rfl (d_off 34 rfl rfl rfl (by decide) pnok (by kernel_rfl) (by kernel_rfl) (by kernel_rfl) rfl (dv 35 rfl (v_pick_t rfl rfl) ?_)))))))))))))))
  refine dv 36 rfl (v_move rfl) (d_off 37 rfl rfl rfl (by decide) pnok (by kernel_rfl) (by kernel_rfl) (by kernel_rfl) rfl (d_off 38 rfl rfl rfl (by decide) pnok (by kernel_rfl) (by kernel_rfl) (by kernel_rfl) rfl (d_off 39 rfl rfl rfl (by decide) pnok (by kernel_rfl) (by kernel_rfl) (by kernel_rfl) rfl (dv 40 rfl (v_pick_t rfl rfl) (d_done (by kernel_rfl) ?_)))))
  refine s_st ?_ (hN5 true hF)
  exact st_le [0, 0] (lea rfl) rfl (subs [0, 1, 2] rfl)
  replace hF := ite_f h16 hF
  refine dw 4 rfl rfl rfl (fa 0 rfl) (dw 5 rfl rfl rfl (vl 0 ty3 rfl rfl rfl) (dw 6 rfl rfl rfl (fa 2 rfl) (dw 7 rfl rfl rfl (vl 1 ty22 rfl rfl rfl) (dw 8 rfl rfl rfl (v_lenS (enc := eRule) g_.Rules sl22 rfl (.f 0 rfl)) (dw 9 rfl rfl rfl (v_bin rfl rfl rfl) (dv 10 rfl (v_pick_f rfl rfl) (dv 11 rfl (v_move rfl) ?_)))))))
  refine d_split (t := 25) rfl (fun h17 => ?_) (fun h17 => ?_)
  replace hF := ite_t h17 hF
  refine d_off 12 rfl rfl rfl (by decide) pnok (by kernel_rfl) (by kernel_rfl) (by kernel_rfl) rfl (d_off 13 rfl rfl rfl (by decide) pnok (by kernel_rfl) (by kernel_rfl) (by kernel_rfl) rfl (d_off 14 rfl rfl rfl (by decide) pnok (by kernel_rfl) (by kernel_rfl) (by kernel_rfl) rfl (d_off 15 rfl rfl rfl (by decide) pnok (by kernel_rfl) (by kernel_rfl) (by kernel_rfl) rfl (d_off 16 rfl rfl rfl (by decide) pnok (by kernel_rfl) (by kernel_rfl) (by kernel_rfl) rfl (d_off 17 rfl rfl rfl (by decide) pnok (by kernel_rfl) (by kernel_rfl) (by kernel_rfl) rfl (d_off 18 rfl rfl rfl (by decide) pnok (by kernel_rfl) (by kernel_rfl) (by kernel_rfl) rfl (d_off 19 rfl rfl rfl (by decide) pnok (by kernel_rfl) (by kernel_rfl) (by kernel_rfl) rfl (d_off 20 rfl rfl rfl (by decide) pnok (by kernel_rfl) (by kernel_rfl) (by kernel_rfl) rfl (dv 21 rfl (v_pick_t rfl rfl) (dv 22 rfl (v_move rfl) (d_off 23 rfl rfl rfl (by decide) pnok (by kernel_rfl) (by kernel_rfl) (by kernel_rfl) rfl (d_off 24 rfl rfl rfl (by decide) pnok (by kernel_rfl) (by kernel_rfl) (by kernel_rfl) rfl (d_off 25 rfl rfl rfl (by decide) pnok (by kernel_rfl) (by kernel_rfl) (by kernel_rfl) rfl (d_off 26 rfl rfl rfl (by decide) pnok (by kernel_rfl) (by kernel_rfl) (by kernel_rfl) rfl (d_off 27 rfl rfl rfl (by decide) pnok (by kernel_rfl) (by kernel_rfl) (by kernel_rfl) rfl ?_)))))))))))))))
  refine d_off 28 rfl rfl rfl (by decide) pnok (by kernel_rfl) (by kernel_rfl) (by kernel_rfl) rfl (d_off 29 rfl rfl rfl (by decide) pnok (by kernel_rfl) (by kernel_rfl) (by kernel_rfl) rfl (d_off 30 rfl rfl rfl (by decide) pnok (by kernel_rfl) (by kernel_rfl) (by kernel_rfl) rfl (d_off 31 rfl rfl rfl (by decide) pnok (by kernel_rfl) (by kernel_rfl) (by kernel_rfl) rfl (d_off 32 rfl rfl rfl (by decide) pnok (by kernel_rfl) (by kernel_rfl) (by kernel_rfl) rfl (d_off 33 rfl rfl rfl (by decide) pnok (by kernel_rfl) (by kernel_rfl) (by kernel_rfl) rfl (d_off 34 rfl rfl rfl (by decide) pnok (by kernel_rfl) (by kernel_rfl) (by kernel_rfl) rfl (dv 35 rfl (v_pick_t rfl rfl) (dv 36 rfl (v_move rfl) (d_off 37 rfl rfl rfl (by decide) pnok (by kernel_rfl) (by kernel_rfl) (by kernel_rfl) rfl (d_off 38 rfl rfl rfl (by decide) pnok (by kernel_rfl) (by kernel_rfl) (by kernel_rfl) rfl (d_off 39 rfl rfl rfl (by decide) pnok (by kernel_rfl) (by kernel_rfl) (by kernel_rfl) rfl (dv 40 rfl (v_pick_t rfl rfl) (d_done (by kernel_rfl) ?_)))))))))))))
  refine s_st ?_ (hN5 true hF)
  exact st_le [0, 0] (lea rfl) rfl (subs [0, 1, 2] rfl)
  replace hF := ite_f h17 hF
  refine dw 12 rfl rfl rfl (fa 2 rfl) (dw 13 rfl rfl rfl (vl 1 ty22 rfl rfl rfl) (dw 14 rfl rfl rfl (fa 0 rfl) (dw 15 rfl rfl rfl (vl 0 ty3 rfl rfl rfl) (ite_some hF fun h18 hF => dw 16 rfl rfl rfl (v_indexAddr_s (xs := g_.Rules) (enc := eRule) sl22 rfl rfl (.f 0 rfl) h18) (dw 17 rfl rfl rfl (v_fieldAddr (v := .pointer (some ⟨blkA sa1, offA sa1 + (Int.toNat t.Rule * 2 + 0), none⟩)) rfl (fun _ => by kernel_rfl)) (dw 18 rfl rfl rfl (v_load_s (xs := g_.Rules) (enc := eRule) ty3 rfl (.f 0 rfl) h18 rfl rfl rfl rfl rfl rfl rfl) (dw 19 rfl rfl rfl (v_move rfl) (dw 20 rfl rfl rfl (v_bin rfl rfl rfl) (dv 21 rfl (v_pick_f rfl rfl) (dv 22 rfl (v_move rfl) ?_))))))))))
  refine d_split (t := 36) rfl (fun h19 => ?_) (fun h19 => ?_)
  replace hF := ite_t h19 hF
  refine d_off 23 rfl rfl rfl (by decide) pnok (by kernel_rfl) (by kernel_rfl) (by kernel_rfl) rfl (d_off 24 rfl rfl rfl (by decide) pnok (by kernel_rfl) (by kernel_rfl) (by kernel_rfl) rfl (d_off 25 rfl rfl rfl (by decide) pnok (by kernel_rfl) (by kernel_rfl) (by kernel_rfl) rfl (d_off 26 rfl rfl rfl (by decide) pnok (by kernel_rfl) (by kernel_rfl) (by kernel_rfl) rfl (d_off 27 rfl rfl rfl (by decide) pnok (by kernel_rfl) (by kernel_rfl) (by kernel_rfl) rfl (d_off 28 rfl rfl rfl (by decide) pnok (by kernel_rfl) (by kernel_rfl) (by kernel_rfl) rfl (d_off 29 rfl rfl rfl (by decide) pnok (by kernel_rfl) (by kernel_rfl) (by kernel_rfl) rfl (d_off 30 rfl rfl rfl (by decide) pnok (by kernel_rfl) (by kernel_rfl) (by kernel_rfl) rfl (d_off 31 rfl rfl rfl (by decide) pnok (by kernel_rfl) (by kernel_rfl) (by kernel_rfl) rfl (d_off 32 rfl rfl rfl (by decide) pnok (by kernel_rfl) (by kernel_rfl) (by kernel_rfl) rfl (d_off 33 rfl rfl rfl (by decide) pnok (by kernel_rfl) (by kernel_rfl) (by kernel_rfl) rfl (d_off 34 rfl rfl rfl (by decide) pnok (by kernel_rfl) (by kernel_rfl) (by kernel_rfl) rfl (dv 35 rfl (v_pick_t rfl rfl) (dv 36 rfl (v_move rfl) (d_off 37 rfl rfl rfl (by decide) pnok (by kernel_rfl) (by kernel_rfl) (by kernel_rfl) rfl (d_off 38 rfl rfl rfl (by decide) pnok (by kernel_rfl) (by kernel_rfl) (by kernel_rfl) rfl ?_)))))))))))))))
  refine d_off 39 rfl rfl rfl (by decide) pnok (by kernel_rfl) (by kernel_rfl) (by kernel_rfl) rfl (dv 40 rfl (v_pick_t rfl rfl) (d_done (by kernel_rfl) ?_))
  refine s_st ?_ (hN5 true hF)
  exact st_le [0, 0] (lea rfl) rfl (subs [0, 1, 2] rfl)
  replace hF := ite_f h19 hF
  refine dw 23 rfl rfl rfl (fa 2 rfl) (dw 24 rfl rfl rfl (vl 0 ty31 rfl rfl rfl) (dw 25 rfl rfl rfl (v_lenS (enc := eTree) t.Kids sl31 rfl (.f 1 rfl)) (dw 26 rfl rfl rfl (fa 2 rfl) (dw 27 rfl rfl rfl (vl 1 ty22 rfl rfl rfl) (dw 28 rfl rfl rfl (fa 0 rfl) (dw 29 rfl rfl rfl (vl 0 ty3 rfl rfl rfl) (dw 30 rfl rfl rfl (v_indexAddr_s (xs := g_.Rules) (enc := eRule) sl22 rfl rfl (.f 0 rfl) h18) (dw 31 rfl rfl rfl (v_fieldAddr (v := .pointer (some ⟨blkA sa1, offA sa1 + (Int.toNat t.Rule * 2 + 1), none⟩)) rfl (fun _ => by kernel_rfl)) (d_one 32 rfl (by kernel_rfl) (o_on rfl rfl (o_load_s (xs := g_.Rules) (enc := eRule) ty48 rfl (.f 0 rfl) h18 rfl rfl rfl rfl rfl rfl fun sa7 sn7 sc7 => d_next [0, 0] 1 rfl rfl (d_one 33 rfl (by kernel_rfl) (o_on rfl rfl (o_v (v_lenS (enc := eKSym) ((at_ g_.Rules t.Rule).Rhs) sl48 rfl (.f 0 rfl)) rfl ?_))))))))))))))
  refine d_next [0, 0] 1 rfl rfl (dw 34 rfl rfl rfl (v_bin rfl rfl rfl) (dv 35 rfl (v_pick_f rfl rfl) (dv 36 rfl (v_move rfl) ?_)))
  refine d_split (t := 50) rfl (fun h20 => ?_) (fun h20 => ?_)
  replace hF := ite_t h20 hF
  refine d_off 37 rfl rfl rfl (by decide) pnok (by kernel_rfl) (by kernel_rfl) (by kernel_rfl) rfl (d_off 38 rfl rfl rfl (by decide) pnok (by kernel_rfl) (by kernel_rfl) (by kernel_rfl) rfl (d_off 39 rfl rfl rfl (by decide) pnok (by kernel_rfl) (by kernel_rfl) (by kernel_rfl) rfl (dv 40 rfl (v_pick_t rfl rfl) (d_done (by kernel_rfl) ?_))))
  refine s_st ?_ (hN5 true hF)
  exact st_le [0, 0] (lea rfl) rfl (subs [1, 2, 3] rfl)
  replace hF := ite_f h20 hF
  refine dw 37 rfl rfl rfl (fa 1 rfl) (dw 38 rfl rfl rfl (vl 0 ty5 rfl rfl rfl) (dw 39 rfl rfl rfl (v_bin rfl rfl rfl) (dv 40 rfl (v_pick_f rfl rfl) (d_done (by kernel_rfl) ?_))))
  refine s_st ?_ (hN5 (t.Byte != 0) hF)
  exact st_le [0, 0] (lea rfl) rfl (subs [1, 2, 3] rfl)
  intro t54 hF
  unfold F.law08.is_j1 at hF
  refine sat_wc ?_
  refine c_cond rfl (fun h1 => ?_) (fun h1 => ?_)
  replace hF := ite_t h1 hF
  refine c_seq (c_region (o_v (v_assign rfl) rfl (o_seq (c_ret ?_))))
  cases hF
  refine s_ret1 rfl (r_tmp rfl) fun a w hs => fin_sel hs [] ⟨rfl, rfl, rfl⟩ rfl sub_nil
  replace hF := ite_f h1 hF
  refine c_skip (sat_wc (c_seq (c_seq (c_region (o_v (v_assign rfl) rfl (o_seq ?_))))))
  obtain ⟨o2, ho2, hF⟩ := bd hF
  refine cT (fun E H Φ N' => ∀ (d2 : Int), o2 = .done d2 → Sat E [(0, .agg #[.int .i64 g_.Nts, .int .i64 g_.Start, .slice sa1 sn1 sc1]), (2, .agg #[.int .i64 t.Rule, .int .u8 t.Byte, .slice sa2 sn2 sc2]), (4, .int .i64 d2), (5, .pointer (some ⟨b, 0, none⟩)), (7, .pointer (some ⟨b1, 0, none⟩)), (10, .int .i64 0)] H [(.slice sa1 sn1 sc1, .slice 2 (g_.Rules.map eRule)), (.slice sa2 sn2 sc2, .slice 3 (t.Kids.map eTree))] N') (fun N2 hN2 => ?_) ?_
  refine c_block ?_
  refine cL (fun E H Φ j a w => ∃ (i1 : Int) (k_ : Int), F.law08.is_l2 k t g_ g20 w__ j i1 k_ = some o2 ∧ St E [(0, .agg #[.int .i64 g_.Nts, .int .i64 g_.Start, .slice sa1 sn1 sc1]), (2, .agg #[.int .i64 t.Rule, .int .u8 t.Byte, .slice sa2 sn2 sc2]), (3, .slice sa3 sn3 sc3), (4, .int .i64 i1), (5, .pointer (some ⟨b, 0, none⟩)), (7, .pointer (some ⟨b1, 0, none⟩)), (10, .int .i64 0), (11, .int .i64 k_)] H Φ a w) k ?_ ?_
  intro a w hs
  exact ⟨i, 0, ho2, st_le [0, 0] (lea rfl) rfl (subs [0, 1, 2] rfl) a w hs⟩
  rintro j a w ⟨i1, k_, hL2, hs⟩
  rcases j with _ | j
  cases hL2
  refine wc_app hs ?_
  unfold F.law08.is_l2 at hL2
  refine c_seq (c_seq ?_)
  refine cT (fun E H Φ N' => ∀ (t63 : Bool), F.law08.is_j3 k t g_ k_ g20 w__ i1 (F.law08.is_l2 k t g_ g20 w__ j) t63 = some o2 → Sat E [(0, .agg #[.int .i64 g_.Nts, .int .i64 g_.Start, .slice sa1 sn1 sc1]), (2, .agg #[.int .i64 t.Rule, .int .u8 t.Byte, .slice sa2 sn2 sc2]), (3, .slice sa3 sn3 sc3), (4, .int .i64 i1), (5, .pointer (some ⟨b, 0, none⟩)), (7, .pointer (some ⟨b1, 0, none⟩)), (10, .int .i64 0), (11, .int .i64 k_), (63, .bool t63)] H Φ N') (fun N5 hN5 => ?_) ?_
  refine c_region (o_v (v_move rfl) rfl (o_v (fa 2 rfl) rfl (o_v (vl 0 ty31 rfl rfl rfl) rfl (o_v (v_lenS (enc := eTree) t.Kids sl31 rfl (.f 1 rfl)) rfl (o_v (v_bin rfl rfl rfl) rfl (o_v (v_move rfl) rfl ?_))))))
  refine o_split (t := 60) rfl (fun h15 => ?_) (fun h15 => ?_)
  replace hL2 := ite_t h15 hL2
  refine o_on rfl rfl (o_v (v_move rfl) rfl (o_on rfl rfl (o_v (v_bin rfl rfl rfl) rfl (o_v (v_pick_t rfl rfl) rfl (o_nil ?_)))))
  refine s_st ?_ (hN5 (decide (0 ≤ i1)) hL2)
  exact st_le [0, 0] (lea rfl) rfl (subs [0, 1, 2] rfl)
  replace hL2 := ite_f h15 hL2
  refine o_off rfl rfl (by decide) rfl (o_off rfl rfl (by decide) rfl (o_v (v_pick_f rfl rfl) rfl (o_nil ?_)))
  refine s_st ?_ (hN5 false hL2)
  exact st_le [0, 0] (lea rfl) rfl (subs [0, 1, 2] rfl)
  intro t63 hL2
  unfold F.law08.is_j3 at hL2
  refine sat_wc ?_
  refine c_cond rfl (fun h2 => ?_) (fun h2 => ?_)
  replace hL2 := ite_t h2 hL2
  refine c_skip (sat_wc (c_seq ?_))
  refine c_cut (fun E N' => ∀ (i2 : Int) (sa4 : Option Addr) (sn4 sc4 : Nat) (b2 : Nat) (b3 : Nat), F.law08.is_j4 (F.law08.is_l2 k t g_ g20 w__ j) k_ i2 = some o2 → Sat E [(0, .agg #[.int .i64 g_.Nts, .int .i64 g_.Start, .slice sa1 sn1 sc1]), (2, .agg #[.int .i64 t.Rule, .int .u8 t.Byte, .slice sa2 sn2 sc2]), (3, .slice sa3 sn3 sc3), (4, .int .i64 i2), (5, .pointer (some ⟨b, 0, none⟩)), (7, .pointer (some ⟨b1, 0, none⟩)), (10, .int .i64 0), (11, .int .i64 k_), (12, .pointer (some ⟨b2, 0, none⟩)), (13, .pointer (some ⟨b3, 0, none⟩))] [.box b1 37 [.int .i64 t.Rule, .int .u8 t.Byte, .slice sa2 sn2 sc2], .box b 24 [.int .i64 g_.Nts, .int .i64 g_.Start, .slice sa1 sn1 sc1], .box b2 47 [.int .i64 ((at_ ((at_ g_.Rules t.Rule).Rhs) k_).Nt), .int .u64 ((at_ ((at_ g_.Rules t.Rule).Rhs) k_).Set.w0), .int .u64 ((at_ ((at_ g_.Rules t.Rule).Rhs) k_).Set.w1), .int .u64 ((at_ ((at_ g_.Rules t.Rule).Rhs) k_).Set.w2), .int .u64 ((at_ ((at_ g_.Rules t.Rule).Rhs) k_).Set.w3)], .box b3 37 [.int .i64 ((at_ t.Kids k_).Rule), .int .u8 ((at_ t.Kids k_).Byte), .slice sa4 sn4 sc4]] [(.slice sa1 sn1 sc1, .slice 2 (g_.Rules.map eRule)), (.slice sa2 sn2 sc2, .slice 3 (t.Kids.map eTree)), (.slice sa3 sn3 sc3, .slice 1 (w__.map eU8)), (.slice sa4 sn4 sc4, .slice 3 (((at_ t.Kids k_).Kids).map eTree))] N') (fun N4 hN4 => ?_) ?_
  refine c_block (c_seq (c_region (o_v (fa 2 rfl) rfl (o_v (vl 1 ty22 rfl rfl rfl) rfl (o_v (fa 0 rfl) rfl (o_v (vl 0 ty3 rfl rfl rfl) rfl (ite_some hL2 fun h3 hL2 => o_v (v_indexAddr_s (xs := g_.Rules) (enc := eRule) sl22 rfl rfl (.f 0 rfl) h3) rfl (o_v (v_fieldAddr (v := .pointer (some ⟨blkA sa1, offA sa1 + (Int.toNat t.Rule * 2 + 1), none⟩)) rfl (fun _ => by kernel_rfl)) rfl (o_load_s (xs := g_.Rules) (enc := eRule) ty48 rfl (.f 0 rfl) h3 rfl rfl rfl rfl rfl rfl fun sa5 sn5 sc5 => o_v (v_move rfl) rfl (ite_some hL2 fun h4 hL2 => o_v (v_indexAddr_s (xs := (at_ g_.Rules t.Rule).Rhs) (enc := eKSym) sl48 rfl rfl (.f 0 rfl) h4) rfl (o_v (v_load_s (xs := (at_ g_.Rules t.Rule).Rhs) (enc := eKSym) ty47 rfl (.f 0 rfl) h4 rfl rfl rfl rfl rfl rfl rfl) rfl (o_alloc zero47 rfl rfl fun b4 => ?_))))))))))))
  refine o_store_box 0 rfl ty47 rfl rfl rfl rfl rfl rfl rfl (o_seq (c_seq (c_region (o_v (fa 2 rfl) rfl (o_v (vl 1 ty31 rfl rfl rfl) rfl (o_v (v_move rfl) rfl (ite_some hL2 fun h5 hL2 => o_v (v_indexAddr_s (xs := t.Kids) (enc := eTree) sl31 rfl rfl (.f 2 rfl) h5) rfl (o_load_s (ds := [.int .i64 ((at_ t.Kids k_).Rule), .int .u8 ((at_ t.Kids k_).Byte), .slice 3 (((at_ t.Kids k_).Kids).map eTree)]) (xs := t.Kids) (enc := eTree) ty37 rfl (.f 2 rfl) h5 (by simp only [eTree_eq] <;> rfl) rfl rfl rfl rfl rfl fun sa6 sn6 sc6 => o_alloc zero37 rfl rfl fun b5 => o_store_box 0 rfl ty37 rfl rfl rfl rfl rfl rfl rfl (o_seq (c_seq (c_seq (c_region ?_))))))))))))
  refine o_v (fa 0 rfl) rfl (o_v (vl 1 ty3 rfl rfl rfl) rfl (o_v (v_bin rfl rfl rfl) rfl (o_seq ?_)))
  refine c_cond rfl (fun h6 => ?_) (fun h6 => ?_)
  replace hL2 := ite_t h6 hL2
  refine c_seq (c_region (o_v (vl 3 ty24 rfl rfl rfl) rfl (o_v (fa 0 rfl) rfl (o_v (vl 1 ty3 rfl rfl rfl) rfl (o_v (vl 0 ty37 rfl rfl rfl) rfl (o_v (v_move rfl) rfl (o_v (v_move rfl) rfl ?_)))))))
  obtain ⟨v_, h7, hL2⟩ := bd hL2
  refine o_callSB call20 rfl (lent_f 2 rfl (lent_f 0 rfl (lent_f 4 rfl lent_nil))) (hg20 h7 :) rfl (o_v (v_assign rfl) rfl (o_seq (c_exit0 ?_)))
  refine s_st ?_ (hN4 v_ sa6 sn6 sc6 b4 b5 hL2)
  exact st_le [2, 2, 1, 0] (lea rfl) rfl (subs [2, 3, 4, 0] rfl)
  replace hL2 := ite_f h6 hL2
  refine c_skip (sat_wc (c_seq (c_seq ?_)))
  refine cT (fun E H Φ N' => ∀ (t125 : Bool), F.law08.is_j5 (F.law08.is_l2 k t g_ g20 w__ j) k_ i1 t125 = some o2 → Sat E [(0, .agg #[.int .i64 g_.Nts, .int .i64 g_.Start, .slice sa1 sn1 sc1]), (2, .agg #[.int .i64 t.Rule, .int .u8 t.Byte, .slice sa2 sn2 sc2]), (3, .slice sa3 sn3 sc3), (4, .int .i64 i1), (5, .pointer (some ⟨b, 0, none⟩)), (7, .pointer (some ⟨b1, 0, none⟩)), (10, .int .i64 0), (11, .int .i64 k_), (12, .pointer (some ⟨b4, 0, none⟩)), (13, .pointer (some ⟨b5, 0, none⟩)), (125, .bool t125)] H [(.slice sa1 sn1 sc1, .slice 2 (g_.Rules.map eRule)), (.slice sa2 sn2 sc2, .slice 3 (t.Kids.map eTree)), (.slice sa3 sn3 sc3, .slice 1 (w__.map eU8)), (.slice sa6 sn6 sc6, .slice 3 (((at_ t.Kids k_).Kids).map eTree))] N') (fun N5 hN5 => ?_) ?_
  refine c_draw (n := 35) [0, 0, 0, 0] mixed rfl rfl (dv 0 rfl (fa 0 rfl) (dv 1 rfl (vl 0 ty3 rfl rfl rfl) (dv 2 rfl (v_bin rfl rfl rfl) (dv 3 rfl (v_move rfl) ?_))))
  refine d_split (t := 94) rfl (fun h9 => ?_) (fun h9 => ?_)
  replace hL2 := ite_t h9 hL2
  refine d_off 4 rfl rfl rfl (by decide) pnok (by kernel_rfl) (by kernel_rfl) (by kernel_rfl) rfl (d_off 5 rfl rfl rfl (by decide) pnok (by kernel_rfl) (by kernel_rfl) (by kernel_rfl) rfl (d_off 6 rfl rfl rfl (by decide) pnok (by kernel_rfl) (by kernel_rfl) (by kernel_rfl) rfl (d_off 7 rfl rfl rfl (by decide) pnok (by kernel_rfl) (by kernel_rfl) (by kernel_rfl) rfl (dv 8 rfl (v_pick_t rfl rfl) (dv 9 rfl (v_move rfl) (d_off 10 rfl rfl rfl (by decide) pnok (by kernel_rfl) (by kernel_rfl) (by kernel_rfl) rfl (d_off 11 rfl rfl rfl (by decide) pnok (by kernel_rfl) (by kernel_rfl) (by kernel_rfl) rfl (d_off 12 rfl rfl rfl (by decide) pnok (by kernel_rfl) (by kernel_rfl) (by kernel_rfl) rfl (d_off 13 rfl rfl rfl (by decide) pnok (by kernel_rfl) (by kernel_rfl) (by kernel_rfl) rfl (dv 14 rfl (v_pick_t rfl rfl) (dv 15 rfl (v_move rfl) (d_off 16 rfl rfl rfl (by decide) pnok (by kernel_rfl) (by kernel_rfl) (by kernel_rfl) rfl (d_off 17 rfl rfl rfl (by decide) pnok (by kernel_rfl) (by kernel_rfl) (by kernel_rfl) rfl (d_off 18 rfl rfl rfl (by decide) pnok (by kernel_rfl) (by kernel_rfl) (by kernel_rfl) rfl (d_off 19 rfl rfl rfl (by decide) pnok (by kernel_rfl) (by kernel_rfl) (by kernel_rfl) rfl ?_)))))))))))))))
  refine d_off 20 rfl rfl rfl (by decide) pnok (by kernel_rfl) (by kernel_rfl) (by kernel_rfl) rfl (d_off 21 rfl rfl rfl (by decide) pnok (by kernel_rfl) (by kernel_rfl) (by kernel_rfl) rfl (d_off 22 rfl rfl rfl (by decide) pnok (by kernel_rfl) (by kernel_rfl) (by kernel_rfl) rfl (dv 23 rfl (v_pick_t rfl rfl) (dv 24 rfl (v_move rfl) (d_off 25 rfl rfl rfl (by decide) pnok (by kernel_rfl) (by kernel_rfl) (by kernel_rfl) rfl (d_off 26 rfl rfl rfl (by decide) pnok (by kernel_rfl) (by kernel_rfl) (by kernel_rfl) rfl (d_off 27 rfl rfl rfl (by decide) pnok (by kernel_rfl) (by kernel_rfl) (by kernel_rfl) rfl (d_off 28 rfl rfl rfl (by decide) pnok (by kernel_rfl) (by kernel_rfl) (by kernel_rfl) rfl (d_off 29 rfl rfl rfl (by decide) pnok (by kernel_rfl) (by kernel_rfl) (by kernel_rfl) rfl (d_off 30 rfl rfl rfl (by decide) pnok (by kernel_rfl) (by kernel_rfl) (by kernel_rfl) rfl (d_off 31 rfl rfl rfl (by decide) pnok (by kernel_rfl) (by kernel_rfl) (by kernel_rfl) rfl (d_off 32 rfl rfl rfl (by decide) pnok (by kernel_rfl) (by kernel_rfl) (by kernel_rfl) rfl (d_off 33 rfl rfl rfl (by decide) pnok (by kernel_rfl) (by kernel_rfl) (by kernel_rfl) rfl (dv 34 rfl (v_pick_t rfl rfl) (d_done (by kernel_rfl) ?_)))))))))))))))
  refine s_st ?_ (hN5 true hL2)
  exact st_le [0, 0, 0, 0] (lea rfl) rfl (subs [2, 3, 4, 0] rfl)
  replace hL2 := ite_f h9 hL2
  refine dw 4 rfl rfl rfl (fa 2 rfl) (dw 5 rfl rfl rfl (vl 0 ty31 rfl rfl rfl) (dw 6 rfl rfl rfl (v_lenS (enc := eTree) ((at_ t.Kids k_).Kids) sl31 rfl (.f 0 rfl)) (dw 7 rfl rfl rfl (v_bin rfl rfl rfl) (dv 8 rfl (v_pick_f rfl rfl) (dv 9 rfl (v_move rfl) ?_)))))
  refine d_split (t := 100) rfl (fun h10 => ?_) (fun h10 => ?_)
  replace hL2 := ite_t h10 hL2
  refine d_off 10 rfl rfl rfl (by decide) pnok (by kernel_rfl) (by kernel_rfl) (by kernel_rfl) rfl (d_off 11 rfl rfl rfl (by decide) pnok (by kernel_rfl) (by kernel_rfl) (by kernel_rfl) rfl (d_off 12 rfl rfl rfl (by decide) pnok (by kernel_rfl) (by kernel_rfl) (by kernel_rfl) rfl (d_off 13 rfl rfl rfl (by decide) pnok (by kernel_rfl) (by kernel_rfl) (by kernel_rfl) rfl (dv 14 rfl (v_pick_t rfl rfl) (dv 15 rfl (v_move rfl) (d_off 16 rfl rfl rfl (by decide) pnok (by kernel_rfl) (by kernel_rfl) (by kernel_rfl) rfl (d_off 17 rfl rfl rfl (by decide) pnok (by kernel_rfl) (by kernel_rfl) (by kernel_rfl) rfl (d_off 18 rfl rfl rfl (by decide) pnok (by kernel_rfl) (by kernel_rfl) (by kernel_rfl) rfl (d_off 19 rfl rfl rfl (by decide) pnok (by kernel_rfl) (by kernel_rfl) (by kernel_rfl) rfl (d_off 20 rfl rfl rfl (by decide) pnok (by kernel_rfl) (by kernel_rfl) (by kernel_rfl) rfl (d_off 21 rfl rfl rfl (by decide) pnok (by kernel_rfl) (by kernel_rfl) (by kernel_rfl) rfl (d_off 22 rfl rfl rfl (by decide) pnok (by kernel_rfl) (by kernel_rfl) (by kernel_rfl) rfl (dv 23 rfl (v_pick_t rfl rfl) (dv 24 rfl (v_move rfl) (d_off 25 rfl rfl rfl (by decide) pnok (by kernel_rfl) (by kernel_rfl) (by kernel_rfl) rfl ?_)))))))))))))))
  refine d_off 26 rfl rfl rfl (by decide) pnok (by kernel_rfl) (by kernel_rfl) (by kernel_rfl) rfl (d_off 27 rfl rfl rfl (by decide) pnok (by kernel_rfl) (by kernel_rfl) (by kernel_rfl) rfl (d_off 28 rfl rfl rfl (by decide) pnok (by kernel_rfl) (by kernel_rfl) (by kernel_rfl) rfl (d_off 29 rfl rfl rfl (by decide) pnok (by kernel_rfl) (by kernel_rfl) (by kernel_rfl) rfl (d_off 30 rfl rfl rfl (by decide) pnok (by kernel_rfl) (by kernel_rfl) (by kernel_rfl) rfl (d_off 31 rfl rfl rfl (by decide) pnok (by kernel_rfl) (by kernel_rfl) (by kernel_rfl) rfl (d_off 32 rfl rfl rfl (by decide) pnok (by kernel_rfl) (by kernel_rfl) (by kernel_rfl) rfl (d_off 33 rfl rfl rfl (by decide) pnok (by kernel_rfl) (by kernel_rfl) (by kernel_rfl) rfl (dv 34 rfl (v_pick_t rfl rfl) (d_done (by kernel_rfl) ?_)))))))))
  refine s_st ?_ (hN5 true hL2)
  exact st_le [0, 0, 0, 0] (lea rfl) rfl (subs [2, 3, 4, 0] rfl)
  replace hL2 := ite_f h10 hL2
  refine dw 10 rfl rfl rfl (v_move rfl) (dw 11 rfl rfl rfl (v_move rfl) (dw 12 rfl rfl rfl (v_lenS (enc := eU8) w__ sl25 rfl (.f 4 rfl)) (dw 13 rfl rfl rfl (v_bin rfl rfl rfl) (dv 14 rfl (v_pick_f rfl rfl) (dv 15 rfl (v_move rfl) ?_)))))
  refine d_split (t := 106) rfl (fun h11 => ?_) (fun h11 => ?_)
  replace hL2 := ite_t h11 hL2
  refine d_off 16 rfl rfl rfl (by decide) pnok (by kernel_rfl) (by kernel_rfl) (by kernel_rfl) rfl (d_off 17 rfl rfl rfl (by decide) pnok (by kernel_rfl) (by kernel_rfl) (by kernel_rfl) rfl (d_off 18 rfl rfl rfl (by decide) pnok (by kernel_rfl) (by kernel_rfl) (by kernel_rfl) rfl (d_off 19 rfl rfl rfl (by decide) pnok (by kernel_rfl) (by kernel_rfl) (by kernel_rfl) rfl (d_off 20 rfl rfl rfl (by decide) pnok (by kernel_rfl) (by kernel_rfl) (by kernel_rfl) rfl (d_off 21 rfl rfl rfl (by decide) pnok (by kernel_rfl) (by kernel_rfl) (by kernel_rfl) rfl (d_off 22 rfl rfl rfl (by decide) pnok (by kernel_rfl) (by kernel_rfl) (by kernel_rfl) rfl (dv 23 rfl (v_pick_t rfl rfl) (dv 24 rfl (v_move rfl) (d_off 25 rfl rfl rfl (by decide) pnok (by kernel_rfl) (by kernel_rfl) (by kernel_rfl) rfl (d_off 26 rfl rfl rfl (by decide) pnok (by kernel_rfl) (by kernel_rfl) (by kernel_rfl) rfl (d_off 27 rfl rfl rfl (by decide) pnok (by kernel_rfl) (by kernel_rfl) (by kernel_rfl) rfl (d_off 28 rfl rfl rfl (by decide) pnok (by kernel_rfl) (by kernel_rfl) (by kernel_rfl) rfl (d_off 29 rfl rfl rfl (by decide) pnok (by kernel_rfl) (by kernel_rfl) (by kernel_rfl) rfl (d_off 30 rfl rfl rfl (by decide) pnok (by kernel_rfl) (by kernel_rfl) (by kernel_rfl) rfl (d_off 31 rfl rfl rfl (by decide) pnok (by kernel_rfl) (by kernel_rfl) (by kernel_rfl) rfl ?_)))))))))))))))
  refine d_off 32 rfl rfl rfl (by decide) pnok (by kernel_rfl) (by kernel_rfl) (by kernel_rfl) rfl (d_off 33 rfl rfl rfl (by decide) pnok (by kernel_rfl) (by kernel_rfl) (by kernel_rfl) rfl (dv 34 rfl (v_pick_t rfl rfl) (d_done (by kernel_rfl) ?_)))
  refine s_st ?_ (hN5 true hL2)
  exact st_le [0, 0, 0, 0] (lea rfl) rfl (subs [2, 3, 4, 0] rfl)
  replace hL2 := ite_f h11 hL2
  refine dw 16 rfl rfl rfl (fa 1 rfl) (dw 17 rfl rfl rfl (vl 0 ty5 rfl rfl rfl) (dw 18 rfl rfl rfl (v_move rfl) (dw 19 rfl rfl rfl (v_move rfl) (ite_some hL2 fun h12 hL2 => dw 20 rfl rfl rfl (v_indexAddr_s (xs := w__) (enc := eU8) sl25 rfl rfl (.f 4 rfl) h12) (dw 21 rfl rfl rfl (v_load_s (xs := w__) (enc := eU8) ty5 rfl (.f 4 rfl) h12 rfl rfl rfl rfl rfl rfl rfl) (dw 22 rfl rfl rfl (v_bin rfl rfl rfl) (dv 23 rfl (v_pick_f rfl rfl) (dv 24 rfl (v_move rfl) ?_))))))))
  refine d_split (t := 115) rfl (fun h13 => ?_) (fun h13 => ?_)
  replace hL2 := ite_t h13 hL2
  refine d_off 25 rfl rfl rfl (by decide) pnok (by kernel_rfl) (by kernel_rfl) (by kernel_rfl) rfl (d_off 26 rfl rfl rfl (by decide) pnok (by kernel_rfl) (by kernel_rfl) (by kernel_rfl) rfl (d_off 27 rfl rfl rfl (by decide) pnok (by kernel_rfl) (by kernel_rfl) (by kernel_rfl) rfl (d_off 28 rfl rfl rfl (by decide) pnok (by kernel_rfl) (by kernel_rfl) (by kernel_rfl) rfl (d_off 29 rfl rfl rfl (by decide) pnok (by kernel_rfl) (by kernel_rfl) (by kernel_rfl) rfl (d_off 30 rfl rfl rfl (by decide) pnok (by kernel_rfl) (by kernel_rfl) (by kernel_rfl) rfl (d_off 31 rfl rfl rfl (by decide) pnok (by kernel_rfl) (by kernel_rfl) (by kernel_rfl) rfl (d_off 32 rfl rfl rfl (by decide) pnok (by kernel_rfl) (by kernel_rfl) (by kernel_rfl) rfl (d_off 33 rfl rfl rfl (by decide) pnok (by kernel_rfl) (by kernel_rfl) (by kernel_rfl) rfl (dv 34 rfl (v_pick_t rfl rfl) (d_done (by kernel_rfl) ?_))))))))))
  refine s_st ?_ (hN5 true hL2)
  exact st_le [0, 0, 0, 0] (lea rfl) rfl (subs [2, 3, 4, 0] rfl)
  replace hL2 := ite_f h13 hL2
  refine dw 25 rfl rfl rfl (fa 1 rfl) (dw 26 rfl rfl rfl (vl 1 ty45 rfl rfl rfl) (dw 27 rfl rfl rfl (v_move rfl) (dw 28 rfl rfl rfl (v_move rfl) (dw 29 rfl rfl rfl (v_indexAddr_s (xs := w__) (enc := eU8) sl25 rfl rfl (.f 4 rfl) h12) (dw 30 rfl rfl rfl (v_load_s (xs := w__) (enc := eU8) ty5 rfl (.f 4 rfl) h12 rfl rfl rfl rfl rfl rfl rfl) (dw 31 rfl rfl rfl (v_convert (v := .int .i64 (IntKind.wrap .i64 (at_ w__ i1))) rfl (fun _ => by kernel_rfl)) (d_one 32 rfl (by kernel_rfl) (o_on rfl rfl ?_))))))))
  obtain ⟨v_1, h14, hL2⟩ := bd hL2
  refine o_callSB call44 rfl lent_nil (tri44 h14 :) rfl (d_next [0, 0, 0, 0] 0 rfl rfl (dw 33 rfl rfl rfl (v_not rfl) (dv 34 rfl (v_pick_f rfl rfl) (d_done (by kernel_rfl) ?_))))
  refine s_st ?_ (hN5 (!v_1) hL2)
  exact st_le [0, 0, 0, 0] (lea rfl) rfl (subs [2, 3, 4, 0] rfl)
  intro t125 hL2
  unfold F.law08.is_j5 at hL2
  refine sat_wc ?_
  refine c_cond rfl (fun h8 => ?_) (fun h8 => ?_)
  replace hL2 := ite_t h8 hL2
  refine c_seq (c_region (o_v (v_assign rfl) rfl (o_seq (c_ret ?_))))
  cases hL2
  obtain rfl := lrf_ret hF
  refine s_ret1 rfl (r_tmp rfl) fun a w hs => fin_sel hs [] ⟨rfl, rfl, rfl⟩ rfl sub_nil
  replace hL2 := ite_f h8 hL2
  refine c_skip (sat_wc (c_region (o_v (v_move rfl) rfl (o_v (v_bin rfl rfl rfl) rfl (o_v (v_assign rfl) rfl (o_nil ?_))))))
  refine s_st ?_ (hN4 (IntKind.wrap .i64 (i1 + 1)) sa6 sn6 sc6 b4 b5 hL2)
  exact st_le [2, 2, 1, 0] (lea rfl) rfl (subs [0, 1, 2, 3] rfl)
  intro i2 sa4 sn4 sc4 b2 b3 hL2
  unfold F.law08.is_j4 at hL2
  refine sat_wc (c_region (o_v (v_move rfl) rfl (o_v (v_bin rfl rfl rfl) rfl (o_v (v_assign rfl) rfl (o_nil ?_)))))
  intro a w hs
  exact ⟨j, Nat.lt_succ_self j, i2, IntKind.wrap .i64 (k_ + 1), hL2, st_le [0, 0] (lea rfl) rfl (subs [0, 1, 2] rfl) a w hs⟩
  replace hL2 := ite_f h2 hL2
  refine c_exit0 ?_
  cases hL2
  refine s_st ?_ (hN2 i1 rfl)
  exact st_le [0, 0] (lea rfl) rfl (subs [0, 1] rfl)
  intro d2 hd
  subst hd
  replace hF := lrf_done hF
  refine sat_wc (c_seq (c_region (o_v (v_move rfl) rfl (o_v (v_assign rfl) rfl (o_seq (c_ret ?_))))))
  cases hF
  refine s_ret1 rfl (r_tmp rfl) fun a w hs => fin_sel hs [] ⟨rfl, rfl, rfl⟩ rfl sub_nil
theorem tri20 (k : Nat) : (∀ {g_ : Gram} {nt_ : Int} {t : Tree} {w__ : List Int} {i : Int} {sa1 : Option Addr} {sn1 sc1 : Nat} {sa2 : Option Addr} {sn2 sc2 : Nat} {sa3 : Option Addr} {sn3 sc3 : Nat} {r : Int}, F.law08.is k g_ nt_ t w__ i = some r → Tri Try.prog 20 [.agg #[.int .i64 g_.Nts, .int .i64 g_.Start, .slice sa1 sn1 sc1], .int .i64 nt_, .agg #[.int .i64 t.Rule, .int .u8 t.Byte, .slice sa2 sn2 sc2], .slice sa3 sn3 sc3, .int .i64 i] [] [(.slice sa1 sn1 sc1, .slice 2 (g_.Rules.map eRule)), (.slice sa2 sn2 sc2, .slice 3 (t.Kids.map eTree)), (.slice sa3 sn3 sc3, .slice 1 (w__.map eU8))] (fun o H Φ => o = .ret (.int .i64 r) ∧ H = [] ∧ Φ = [])) := by
  induction k with
  | zero => exact fun h => nomatch (show none = some _ from h)
  | succ k ih => exact tri20_B k _ ih
theorem tri19_B (k : Nat) (g19 : Tree → Tree → Option Bool)
    (hg19 : ∀ {a_ : Tree} {b : Tree} {sa1 : Option Addr} {sn1 sc1 : Nat} {sa2 : Option Addr} {sn2 sc2 : Nat} {r : Bool}, g19 a_ b = some r → Tri Try.prog 19 [.agg #[.int .i64 a_.Rule, .int .u8 a_.Byte, .slice sa1 sn1 sc1], .agg #[.int .i64 b.Rule, .int .u8 b.Byte, .slice sa2 sn2 sc2]] [] [(.slice sa1 sn1 sc1, .slice 3 (a_.Kids.map eTree)), (.slice sa2 sn2 sc2, .slice 3 (b.Kids.map eTree))] (fun o H Φ => o = .ret (.bool r) ∧ H = [] ∧ Φ = [])) {a_ : Tree} {b : Tree} {sa1 : Option Addr} {sn1 sc1 : Nat} {sa2 : Option Addr} {sn2 sc2 : Nat} {r : Bool} (hF : F.ref08.SameTree_B k g19 a_ b = some r) :
    Tri Try.prog 19 [.agg #[.int .i64 a_.Rule, .int .u8 a_.Byte, .slice sa1 sn1 sc1], .agg #[.int .i64 b.Rule, .int .u8 b.Byte, .slice sa2 sn2 sc2]] [] [(.slice sa1 sn1 sc1, .slice 3 (a_.Kids.map eTree)), (.slice sa2 sn2 sc2, .slice 3 (b.Kids.map eTree))] (fun o H Φ => o = .ret (.bool r) ∧ H = [] ∧ Φ = []) := by
  unfold F.ref08.SameTree_B at hF
  refine tri_intro (n := 46) Try.func19 rfl Try.ntmps19 rfl fun w X => c_seq (c_region (o_box rfl rfl rfl fun b1 => o_box rfl rfl rfl fun b2 => o_v (v_assign rfl) rfl (o_seq (c_seq (c_seq (c_region (o_v (fa 0 rfl) rfl (o_v (vl 1 ty3 rfl rfl rfl) rfl (o_v (fa 0 rfl) rfl (o_v (vl 0 ty3 rfl rfl rfl) rfl (o_v (v_bin rfl rfl rfl) rfl (o_v (v_move rfl) rfl ?_))))))))))))
  refine o_split (t := 11) rfl (fun h1 => ?_) (fun h1 => ?_)
  replace hF := ite_t h1 hF
  refine o_off rfl rfl (by decide) rfl (o_off rfl rfl (by decide) rfl (o_off rfl rfl (by decide) rfl (o_off rfl rfl (by decide) rfl (o_off rfl rfl (by decide) rfl (o_v (v_pick_t rfl rfl) rfl (o_v (v_move rfl) rfl (o_off rfl rfl (by decide) rfl (o_off rfl rfl (by decide) rfl (o_off rfl rfl (by decide) rfl (o_off rfl rfl (by decide) rfl (o_off rfl rfl (by decide) rfl (o_off rfl rfl (by decide) rfl (o_off rfl rfl (by decide) rfl (o_v (v_pick_t rfl rfl) rfl (o_seq ?_)))))))))))))))
  refine c_cond rfl (fun _ => ?_) (fun h => Bool.noConfusion h)
  refine c_seq (c_region (o_v (v_assign rfl) rfl (o_seq (c_ret ?_))))
  cases hF
  refine s_ret1 rfl (r_tmp rfl) fun a w hs => fin_sel hs [] ⟨rfl, rfl, rfl⟩ rfl sub_nil
  replace hF := ite_f h1 hF
  refine o_on rfl rfl (o_v (fa 1 rfl) rfl (o_on rfl rfl (o_v (vl 1 ty5 rfl rfl rfl) rfl (o_on rfl rfl (o_v (fa 1 rfl) rfl (o_on rfl rfl (o_v (vl 0 ty5 rfl rfl rfl) rfl (o_on rfl rfl (o_v (v_bin rfl rfl rfl) rfl (o_v (v_pick_f rfl rfl) rfl (o_v (v_move rfl) rfl ?_)))))))))))
  refine o_split (t := 18) rfl (fun h2 => ?_) (fun h2 => ?_)
  replace hF := ite_t h2 hF
  refine o_off rfl rfl (by decide) rfl (o_off rfl rfl (by decide) rfl (o_off rfl rfl (by decide) rfl (o_off rfl rfl (by decide) rfl (o_off rfl rfl (by decide) rfl (o_off rfl rfl (by decide) rfl (o_off rfl rfl (by decide) rfl (o_v (v_pick_t rfl rfl) rfl (o_seq ?_))))))))
  refine c_cond rfl (fun _ => ?_) (fun h => Bool.noConfusion h)
  refine c_seq (c_region (o_v (v_assign rfl) rfl (o_seq (c_ret ?_))))
  cases hF
  refine s_ret1 rfl (r_tmp rfl) fun a w hs => fin_sel hs [] ⟨rfl, rfl, rfl⟩ rfl sub_nil
  replace hF := ite_f h2 hF
  refine o_on rfl rfl (o_v (fa 2 rfl) rfl (o_on rfl rfl (o_v (vl 1 ty31 rfl rfl rfl) rfl (o_on rfl rfl (o_v (v_lenS (enc := eTree) a_.Kids sl31 rfl (.f 0 rfl)) rfl (o_on rfl rfl (o_v (fa 2 rfl) rfl (o_on rfl rfl (o_v (vl 0 ty31 rfl rfl rfl) rfl (o_on rfl rfl (o_v (v_lenS (enc := eTree) b.Kids sl31 rfl (.f 1 rfl)) rfl (o_on rfl rfl (o_v (v_bin rfl rfl rfl) rfl (o_v (v_pick_f rfl rfl) rfl (o_seq ?_)))))))))))))))
  refine c_cond rfl (fun h3 => ?_) (fun h3 => ?_)
  replace hF := ite_t h3 hF
  refine c_seq (c_region (o_v (v_assign rfl) rfl (o_seq (c_ret ?_))))
  cases hF
  refine s_ret1 rfl (r_tmp rfl) fun a w hs => fin_sel hs [] ⟨rfl, rfl, rfl⟩ rfl sub_nil
  replace hF := ite_f h3 hF
  refine c_skip (sat_wc (c_seq (c_seq (c_region (o_v (v_assign rfl) rfl (o_seq ?_))))))
  obtain ⟨o1, ho1, hF⟩ := bd hF
  refine cT (fun E H Φ N' => ∀ (d1 : Unit), o1 = .done d1 → Sat E [(0, .agg #[.int .i64 a_.Rule, .int .u8 a_.Byte, .slice sa1 sn1 sc1]), (1, .agg #[.int .i64 b.Rule, .int .u8 b.Byte, .slice sa2 sn2 sc2]), (2, .pointer (some ⟨b1, 0, none⟩)), (3, .pointer (some ⟨b2, 0, none⟩)), (4, .bool false)] H Φ N') (fun N1 hN1 => ?_) ?_
  refine c_block ?_
  refine cL (fun E H Φ j a w => ∃ (i : Int), F.ref08.SameTree_l1 a_ b g19 j i = some o1 ∧ St E [(0, .agg #[.int .i64 a_.Rule, .int .u8 a_.Byte, .slice sa1 sn1 sc1]), (1, .agg #[.int .i64 b.Rule, .int .u8 b.Byte, .slice sa2 sn2 sc2]), (2, .pointer (some ⟨b1, 0, none⟩)), (3, .pointer (some ⟨b2, 0, none⟩)), (4, .bool false), (5, .int .i64 i)] H Φ a w) k ?_ ?_
  intro a w hs
  exact ⟨0, ho1, st_le [0, 0] (lea rfl) rfl (subs [0, 1] rfl) a w hs⟩
  rintro j a w ⟨i, hL1, hs⟩
  rcases j with _ | j
  cases hL1
  refine wc_app hs ?_
  unfold F.ref08.SameTree_l1 at hL1
  refine c_seq (c_seq (c_region (o_v (v_move rfl) rfl (o_v (fa 2 rfl) rfl (o_v (vl 1 ty31 rfl rfl rfl) rfl (o_v (v_lenS (enc := eTree) a_.Kids sl31 rfl (.f 0 rfl)) rfl (o_v (v_bin rfl rfl rfl) rfl (o_seq ?_))))))))
  refine c_cond rfl (fun h4 => ?_) (fun h4 => ?_)
  replace hL1 := ite_t h4 hL1
  refine c_skip (sat_wc (c_seq (c_block (c_seq (ite_some hL1 fun h5 hL1 => c_elem (ds := [.int .i64 ((at_ a_.Kids i).Rule), .int .u8 ((at_ a_.Kids i).Byte), .slice 3 (((at_ a_.Kids i).Kids).map eTree)]) (xs := a_.Kids) (enc := eTree) 0 rfl h5 (by simp only [eTree_eq] <;> rfl) rfl fun sa3 sn3 sc3 => ite_some hL1 fun h6 hL1 => c_elem (ds := [.int .i64 ((at_ b.Kids i).Rule), .int .u8 ((at_ b.Kids i).Byte), .slice 3 (((at_ b.Kids i).Kids).map eTree)]) (xs := b.Kids) (enc := eTree) 3 rfl h6 (by simp only [eTree_eq] <;> rfl) rfl fun sa4 sn4 sc4 => c_draw (n := 12) [0, 0] mixed rfl rfl (dv 0 rfl (fa 2 rfl) (dv 1 rfl (vl 1 ty31 rfl rfl rfl) (dv 2 rfl (v_move rfl) (dv 3 rfl (v_indexAddr_s (xs := a_.Kids) (enc := eTree) sl31 rfl rfl (.f 4 rfl) h5) (dv 4 rfl (v_load_cl 2 ty37 rfl rfl rfl rfl rfl) (dv 5 rfl (fa 2 rfl) ?_)))))))))))
  refine dv 6 rfl (vl 0 ty31 rfl rfl rfl) (dv 7 rfl (v_move rfl) (dv 8 rfl (v_indexAddr_s (xs := b.Kids) (enc := eTree) sl31 rfl rfl (.f 5 rfl) h6) (dv 9 rfl (v_load_cl 0 ty37 rfl rfl rfl rfl rfl) (d_one 10 rfl (by kernel_rfl) ?_))))
  obtain ⟨v_, h7, hL1⟩ := bd hL1
  refine o_callSB call19 rfl (lent_f 3 rfl (lent_f 1 rfl lent_nil)) (hg19 h7 :) rfl (d_next [0, 0] 0 rfl rfl (dv 11 rfl (v_not rfl) (d_done_seq (by kernel_rfl) ?_)))
  refine c_cond rfl (fun h8 => ?_) (fun h8 => ?_)
  replace hL1 := ite_t h8 hL1
  refine c_seq (c_region (o_v (v_assign rfl) rfl (o_seq (c_ret ?_))))
  cases hL1
  obtain rfl := lrf_ret hF
  refine s_ret1 rfl (r_tmp rfl) fun a w hs => fin_sel hs [] ⟨rfl, rfl, rfl⟩ rfl sub_nil
  replace hL1 := ite_f h8 hL1
  refine c_skip (sat_wc (c_region (o_v (v_move rfl) rfl (o_v (v_bin rfl rfl rfl) rfl (o_v (v_assign rfl) rfl (o_nil ?_))))))
  intro a w hs
  exact ⟨j, Nat.lt_succ_self j, IntKind.wrap .i64 (i + 1), hL1, st_le [0, 0] (lea rfl) rfl (subs [4, 5] rfl) a w hs⟩
  replace hL1 := ite_f h4 hL1
  refine c_exit0 ?_
  cases hL1
  refine s_st ?_ (hN1 () rfl)
  exact st_le [0, 0] (lea rfl) rfl (subs [0, 1] rfl)
  intro d1 hd
  subst hd
  replace hF := lrf_done hF
  refine sat_wc (c_seq (c_region (o_v (v_assign rfl) rfl (o_seq (c_ret ?_)))))
  cases hF
  refine s_ret1 rfl (r_tmp rfl) fun a w hs => fin_sel hs [] ⟨rfl, rfl, rfl⟩ rfl sub_nil
theorem tri19 (k : Nat) : (∀ {a_ : Tree} {b : Tree} {sa1 : Option Addr} {sn1 sc1 : Nat} {sa2 : Option Addr} {sn2 sc2 : Nat} {r : Bool}, F.ref08.SameTree k a_ b = some r → Tri Try.prog 19 [.agg #[.int .i64 a_.Rule, .int .u8 a_.Byte, .slice sa1 sn1 sc1], .agg #[.int .i64 b.Rule, .int .u8 b.Byte, .slice sa2 sn2 sc2]] [] [(.slice sa1 sn1 sc1, .slice 3 (a_.Kids.map eTree)), (.slice sa2 sn2 sc2, .slice 3 (b.Kids.map eTree))] (fun o H Φ => o = .ret (.bool r) ∧ H = [] ∧ Φ = [])) := by
  induction k with
  | zero => exact fun h => nomatch (show none = some _ from h)
  | succ k ih => exact tri19_B k _ ih
theorem tri5 {k : Nat} {g_ : Gram} {w__ : List Int} {most : Int} {sa1 : Option Addr} {sn1 sc1 : Nat} {sa2 : Option Addr} {sn2 sc2 : Nat} {r : Bool} (hF : F.law08.ForestSound k g_ w__ most = some r) :
    Tri Try.prog 5 [.agg #[.int .i64 g_.Nts, .int .i64 g_.Start, .slice sa1 sn1 sc1], .slice sa2 sn2 sc2, .int .i64 most] [] [(.slice sa1 sn1 sc1, .slice 2 (g_.Rules.map eRule)), (.slice sa2 sn2 sc2, .slice 1 (w__.map eU8))] (fun o H Φ => o = .ret (.bool r) ∧ H = [] ∧ Φ = []) := by
  unfold F.law08.ForestSound at hF
  refine tri_intro (n := 96) Try.func5 rfl Try.ntmps5 rfl fun w X => c_seq (c_region (o_box rfl rfl rfl fun b => o_v (v_assign rfl) rfl (o_seq (c_seq (c_seq (c_region (o_v (vl 0 ty24 rfl rfl rfl) rfl (o_v (v_move rfl) rfl ?_))))))))
  obtain ⟨v_, h1, hF⟩ := bd hF
  refine o_callSB call11 rfl (lent_f 0 rfl (lent_f 1 rfl lent_nil)) (tri11 h1 :) rfl (o_v (v_move rfl) rfl ?_)
  refine o_split (t := 16) rfl (fun h2 => ?_) (fun h2 => ?_)
  replace hF := ite_t h2 hF
  refine o_off rfl rfl (by decide) rfl (o_off rfl rfl (by decide) rfl (o_v (v_pick_t rfl rfl) rfl (o_seq ?_)))
  refine c_cond rfl (fun _ => ?_) (fun h => Bool.noConfusion h)
  refine c_seq (c_region ?_)
  obtain ⟨v_1, h3, hF⟩ := bd hF
  refine o_callSB call12 rfl lent_nil (tri12 h3 :) rfl (o_v (v_assign rfl) rfl (o_seq (c_ret ?_)))
  cases hF
  refine s_ret1 rfl (r_tmp rfl) fun a w hs => fin_sel hs [] ⟨rfl, rfl, rfl⟩ rfl sub_nil
  replace hF := ite_f h2 hF
  refine o_on rfl rfl (o_v (v_move rfl) rfl (o_on rfl rfl (o_v (v_bin rfl rfl rfl) rfl (o_v (v_pick_f rfl rfl) rfl (o_seq ?_)))))
  refine c_cond rfl (fun h4 => ?_) (fun h4 => ?_)
  replace hF := ite_t h4 hF
  refine c_seq (c_region ?_)
  obtain ⟨v_2, h5, hF⟩ := bd hF
  refine o_callSB call12 rfl lent_nil (tri12 h5 :) rfl (o_v (v_assign rfl) rfl (o_seq (c_ret ?_)))
  cases hF
  refine s_ret1 rfl (r_tmp rfl) fun a w hs => fin_sel hs [] ⟨rfl, rfl, rfl⟩ rfl sub_nil
  replace hF := ite_f h4 hF
  refine c_skip (sat_wc (c_seq (c_region (o_v (vl 0 ty24 rfl rfl rfl) rfl (o_v (v_move rfl) rfl (o_v (v_move rfl) rfl ?_))))))
  obtain ⟨v_3, h6, hF⟩ := bd hF
  refine o_call0 call15 rfl (subs [0, 1] rfl) (tri15 h6 :) rfl ?_
  rintro _ _ _ ⟨sa3, sn3, sc3, rfl, rfl, rfl⟩
  refine o_v (v_move rfl) rfl (o_v (v_extract rfl rfl) rfl (o_v (v_extract rfl rfl) rfl (o_v (v_assign rfl) rfl (o_v (v_assign rfl) rfl (o_seq (c_seq (c_region (o_v (vl 1 ty24 rfl rfl rfl) rfl (o_v (v_move rfl) rfl ?_)))))))))
  obtain ⟨v_4, h7, hF⟩ := bd hF
  refine o_callSB call13 rfl (lent_f 0 rfl (lent_f 1 rfl lent_nil)) (tri13 h7 :) rfl (o_v (v_move rfl) rfl (o_v (v_extract rfl rfl) rfl (o_v (v_extract rfl rfl) rfl (o_v (v_assign rfl) rfl (o_v (v_assign rfl) rfl (o_seq (c_seq (c_seq ?_))))))))
  refine cT (fun E H Φ N' => ∀ (t39 : Bool), F.law08.ForestSound_j1 k v_3 g_ w__ v_4 most t39 = some r → Sat E [(0, .agg #[.int .i64 g_.Nts, .int .i64 g_.Start, .slice sa1 sn1 sc1]), (1, .slice sa2 sn2 sc2), (2, .int .i64 most), (3, .pointer (some ⟨b, 0, none⟩)), (6, .bool false), (7, .slice sa3 sn3 sc3), (9, .int .i64 v_4.1), (39, .bool t39)] [.box b 24 [.int .i64 g_.Nts, .int .i64 g_.Start, .slice sa1 sn1 sc1], .row (.slice sa3 sn3 sc3) 37 3 (v_3.1.map eTree)] Φ N') (fun N6 hN6 => ?_) ?_
  refine c_region (o_v (v_move rfl) rfl (o_v (v_bin rfl rfl rfl) rfl (o_v (v_move rfl) rfl ?_)))
  refine o_split (t := 36) rfl (fun h23 => ?_) (fun h23 => ?_)
  replace hF := ite_t h23 hF
  refine o_off rfl rfl (by decide) rfl (o_off rfl rfl (by decide) rfl (o_v (v_pick_t rfl rfl) rfl (o_nil ?_)))
  refine s_st ?_ (hN6 true hF)
  exact st_le [1, 0] (lea rfl) rfl (subs [0, 1] rfl)
  replace hF := ite_f h23 hF
  refine o_on rfl rfl (o_v (v_move rfl) rfl (o_on rfl rfl (o_v (v_bin rfl rfl rfl) rfl (o_v (v_pick_f rfl rfl) rfl (o_nil ?_)))))
  refine s_st ?_ (hN6 (v_4.2 != 0) hF)
  exact st_le [1, 0] (lea rfl) rfl (subs [0, 1] rfl)
  intro t39 hF
  unfold F.law08.ForestSound_j1 at hF
  refine sat_wc ?_
  refine c_cond rfl (fun h8 => ?_) (fun h8 => ?_)
  replace hF := ite_t h8 hF
  refine c_seq (c_region ?_)
  obtain ⟨v_5, h9, hF⟩ := bd hF
  refine o_callSB call12 rfl lent_nil (tri12 h9 :) rfl (o_v (v_move rfl) rfl ?_)
  refine o_split (t := 41) rfl (fun h10 => ?_) (fun h10 => ?_)
  replace hF := ite_t h10 hF
  refine o_on rfl rfl (o_v (v_move rfl) rfl (o_on rfl rfl (o_v (v_lenS (enc := eTree) v_3.1 sl31 rfl (.r 1 _ rfl)) rfl (o_on rfl rfl (o_v (v_bin rfl rfl rfl) rfl (o_v (v_pick_t rfl rfl) rfl (o_v (v_assign rfl) rfl (o_seq (c_ret ?_)))))))))
  cases hF
  refine s_ret1 rfl (r_tmp rfl) fun a w hs => fin_sel hs [] ⟨rfl, rfl, rfl⟩ rfl sub_nil
  replace hF := ite_f h10 hF
  refine o_off rfl rfl (by decide) rfl (o_off rfl rfl (by decide) rfl (o_off rfl rfl (by decide) rfl (o_v (v_pick_f rfl rfl) rfl (o_v (v_assign rfl) rfl (o_seq (c_ret ?_))))))
  cases hF
  refine s_ret1 rfl (r_tmp rfl) fun a w hs => fin_sel hs [] ⟨rfl, rfl, rfl⟩ rfl sub_nil
  replace hF := ite_f h8 hF
  refine c_skip (sat_wc (c_seq (c_seq (c_region (o_v (v_assign rfl) rfl (o_seq ?_))))))
  obtain ⟨o2, ho2, hF⟩ := bd hF
  refine cT (fun E H Φ N' => ∀ (d2 : Unit), o2 = .done d2 → Sat E [(0, .agg #[.int .i64 g_.Nts, .int .i64 g_.Start, .slice sa1 sn1 sc1]), (1, .slice sa2 sn2 sc2), (2, .int .i64 most), (3, .pointer (some ⟨b, 0, none⟩)), (6, .bool false), (7, .slice sa3 sn3 sc3), (9, .int .i64 v_4.1)] H Φ N') (fun N2 hN2 => ?_) ?_
  refine c_block ?_
  refine cL (fun E H Φ j a w => ∃ (i : Int), F.law08.ForestSound_l2 k v_3 g_ w__ j i = some o2 ∧ St E [(0, .agg #[.int .i64 g_.Nts, .int .i64 g_.Start, .slice sa1 sn1 sc1]), (1, .slice sa2 sn2 sc2), (2, .int .i64 most), (3, .pointer (some ⟨b, 0, none⟩)), (6, .bool false), (7, .slice sa3 sn3 sc3), (9, .int .i64 v_4.1), (11, .int .i64 i)] H Φ a w) k ?_ ?_
  intro a w hs
  exact ⟨0, ho2, st_le [0, 0] (lea rfl) rfl (subs [0, 1] rfl) a w hs⟩
  rintro j a w ⟨i, hL2, hs⟩
  rcases j with _ | j
  cases hL2
  refine wc_app hs ?_
  unfold F.law08.ForestSound_l2 at hL2
  refine c_seq (c_seq (c_region (o_v (v_move rfl) rfl (o_v (v_move rfl) rfl (o_v (v_lenS (enc := eTree) v_3.1 sl31 rfl (.r 1 _ rfl)) rfl (o_v (v_bin rfl rfl rfl) rfl (o_seq ?_)))))))
  refine c_cond rfl (fun h11 => ?_) (fun h11 => ?_)
  replace hL2 := ite_t h11 hL2
  refine c_skip (sat_wc (c_seq (c_block (c_seq (c_seq (c_draw (n := 12) [0, 0] mixed rfl rfl (dv 0 rfl (vl 0 ty24 rfl rfl rfl) (dv 1 rfl (fa 1 rfl) (dv 2 rfl (vl 0 ty3 rfl rfl rfl) (dv 3 rfl (v_move rfl) (dv 4 rfl (v_move rfl) (ite_some hL2 fun h12 hL2 => dv 5 rfl (v_indexAddr_s (xs := v_3.1) (enc := eTree) sl31 rfl rfl (.r 1 _ rfl) h12) (dv 7 rfl (v_move rfl) (dv 9 rfl (v_move rfl) ?_))))))))))))))
  refine dv 10 rfl (v_lenS (enc := eU8) w__ sl25 rfl (.f 1 rfl)) (d_one 6 rfl (by kernel_rfl) (o_load_s (ds := [.int .i64 ((at_ v_3.1 i).Rule), .int .u8 ((at_ v_3.1 i).Byte), .slice 3 (((at_ v_3.1 i).Kids).map eTree)]) (xs := v_3.1) (enc := eTree) ty37 rfl (.r 1 _ rfl) h12 (by simp only [eTree_eq] <;> rfl) rfl rfl rfl rfl rfl fun sa4 sn4 sc4 => d_next [0, 0] 1 rfl rfl (d_one 8 rfl (by kernel_rfl) ?_)))
  obtain ⟨v_6, h13, hL2⟩ := bd hL2
  refine o_callSB call20 rfl (lent_f 1 rfl (lent_f 0 rfl (lent_f 2 rfl lent_nil))) ((tri20 _) h13 :) rfl (d_next [0, 0] 1 rfl rfl (dv 11 rfl (v_bin rfl rfl rfl) (d_done_seq (by kernel_rfl) ?_)))
  refine c_cond rfl (fun h14 => ?_) (fun h14 => ?_)
  replace hL2 := ite_t h14 hL2
  refine c_seq (c_region (o_v (v_assign rfl) rfl (o_seq (c_ret ?_))))
  cases hL2
  obtain rfl := lrf_ret hF
  refine s_ret1 rfl (r_tmp rfl) fun a w hs => fin_sel hs [] ⟨rfl, rfl, rfl⟩ rfl sub_nil
  replace hL2 := ite_f h14 hL2
  refine c_skip (sat_wc (c_seq (c_region (o_v (v_assign rfl) rfl (o_seq ?_)))))
  obtain ⟨o3, ho3, hL2⟩ := bd hL2
  refine cT (fun E H Φ N' => ∀ (d3 : Int), o3 = .done d3 → Sat E [(0, .agg #[.int .i64 g_.Nts, .int .i64 g_.Start, .slice sa1 sn1 sc1]), (1, .slice sa2 sn2 sc2), (2, .int .i64 most), (3, .pointer (some ⟨b, 0, none⟩)), (6, .bool false), (7, .slice sa3 sn3 sc3), (9, .int .i64 v_4.1), (11, .int .i64 i), (12, .int .i64 d3)] H [(.slice sa1 sn1 sc1, .slice 2 (g_.Rules.map eRule)), (.slice sa2 sn2 sc2, .slice 1 (w__.map eU8))] N') (fun N3 hN3 => ?_) ?_
  refine c_block ?_
  refine cL (fun E H Φ j a w => ∃ (k_ : Int), F.law08.ForestSound_l3 k i v_3 j k_ = some o3 ∧ St E [(0, .agg #[.int .i64 g_.Nts, .int .i64 g_.Start, .slice sa1 sn1 sc1]), (1, .slice sa2 sn2 sc2), (2, .int .i64 most), (3, .pointer (some ⟨b, 0, none⟩)), (6, .bool false), (7, .slice sa3 sn3 sc3), (9, .int .i64 v_4.1), (11, .int .i64 i), (12, .int .i64 k_)] H [(.slice sa1 sn1 sc1, .slice 2 (g_.Rules.map eRule)), (.slice sa2 sn2 sc2, .slice 1 (w__.map eU8))] a w) k ?_ ?_
  intro a w hs
  exact ⟨0, ho3, st_le [0, 0] (lea rfl) rfl (subs [1, 2] rfl) a w hs⟩
  rintro j a w ⟨k_, hL3, hs⟩
  rcases j with _ | j
  cases hL3
  refine wc_app hs ?_
  unfold F.law08.ForestSound_l3 at hL3
  refine c_seq (c_seq (c_region (o_v (v_move rfl) rfl (o_v (v_move rfl) rfl (o_v (v_bin rfl rfl rfl) rfl (o_seq ?_))))))
  refine c_cond rfl (fun h15 => ?_) (fun h15 => ?_)
  replace hL3 := ite_t h15 hL3
  refine c_skip (sat_wc (c_seq ?_))
  refine cT (fun E H Φ N' => F.law08.ForestSound_j4 (F.law08.ForestSound_l3 k i v_3 j) k_ = some o3 → Sat E [(0, .agg #[.int .i64 g_.Nts, .int .i64 g_.Start, .slice sa1 sn1 sc1]), (1, .slice sa2 sn2 sc2), (2, .int .i64 most), (3, .pointer (some ⟨b, 0, none⟩)), (6, .bool false), (7, .slice sa3 sn3 sc3), (9, .int .i64 v_4.1), (11, .int .i64 i), (12, .int .i64 k_)] H Φ N') (fun N4 hN4 => ?_) ?_
  refine c_block (c_seq ?_)
  refine cT (fun E H Φ N' => ∀ (t77 : Bool), F.law08.ForestSound_j5 (F.law08.ForestSound_l3 k i v_3 j) k_ t77 = some o3 → Sat E [(0, .agg #[.int .i64 g_.Nts, .int .i64 g_.Start, .slice sa1 sn1 sc1]), (1, .slice sa2 sn2 sc2), (2, .int .i64 most), (3, .pointer (some ⟨b, 0, none⟩)), (6, .bool false), (7, .slice sa3 sn3 sc3), (9, .int .i64 v_4.1), (11, .int .i64 i), (12, .int .i64 k_), (77, .bool t77)] H Φ N') (fun N5 hN5 => ?_) ?_
  refine c_draw (n := 9) [0, 0] mixed rfl rfl (dv 0 rfl (v_move rfl) (dv 1 rfl (v_move rfl) (dv 2 rfl (v_indexAddr_s (xs := v_3.1) (enc := eTree) sl31 rfl rfl (.r 1 _ rfl) h12) (dv 4 rfl (v_move rfl) (dv 5 rfl (v_move rfl) (ite_some hL3 fun h17 hL3 => dv 6 rfl (v_indexAddr_s (xs := v_3.1) (enc := eTree) sl31 rfl rfl (.r 1 _ rfl) h17) ?_))))))
  obtain ⟨v_7, h18, hL3⟩ := bd hL3
  refine d_all [3, 7] (by kernel_rfl) (by simp) ⟨⟨_, rfl, ?_⟩, ⟨_, rfl, ?_⟩, trivial⟩
  refine o_load_s (ds := [.int .i64 ((at_ v_3.1 i).Rule), .int .u8 ((at_ v_3.1 i).Byte), .slice 3 (((at_ v_3.1 i).Kids).map eTree)]) (xs := v_3.1) (enc := eTree) ty37 rfl (.r 1 _ rfl) h12 (by simp only [eTree_eq] <;> rfl) rfl rfl rfl rfl rfl fun sa5 sn5 sc5 => d_next [0, 0] 1 rfl rfl (d_one 7 rfl (by kernel_rfl) (o_load_s (ds := [.int .i64 ((at_ v_3.1 k_).Rule), .int .u8 ((at_ v_3.1 k_).Byte), .slice 3 (((at_ v_3.1 k_).Kids).map eTree)]) (xs := v_3.1) (enc := eTree) ty37 rfl (.r 1 _ rfl) h17 (by simp only [eTree_eq] <;> rfl) rfl rfl rfl rfl rfl fun sa6 sn6 sc6 => d_next [0, 0] 2 rfl rfl (d_one 8 rfl (by kernel_rfl) (o_callSB call19 rfl (lent_f 1 rfl (lent_f 0 rfl lent_nil)) ((tri19 _) h18 :) rfl (d_next [0, 0] 2 rfl rfl (d_done (by kernel_rfl) ?_))))))
  refine s_st ?_ (hN5 v_7 hL3)
  exact st_le [0, 0] (lea rfl) rfl (subs [2, 3] rfl)
  refine o_load_s (ds := [.int .i64 ((at_ v_3.1 k_).Rule), .int .u8 ((at_ v_3.1 k_).Byte), .slice 3 (((at_ v_3.1 k_).Kids).map eTree)]) (xs := v_3.1) (enc := eTree) ty37 rfl (.r 1 _ rfl) h17 (by simp only [eTree_eq] <;> rfl) rfl rfl rfl rfl rfl fun sa5 sn5 sc5 => d_next [0, 0] 1 rfl rfl (d_one 3 rfl (by kernel_rfl) (o_load_s (ds := [.int .i64 ((at_ v_3.1 i).Rule), .int .u8 ((at_ v_3.1 i).Byte), .slice 3 (((at_ v_3.1 i).Kids).map eTree)]) (xs := v_3.1) (enc := eTree) ty37 rfl (.r 1 _ rfl) h12 (by simp only [eTree_eq] <;> rfl) rfl rfl rfl rfl rfl fun sa6 sn6 sc6 => d_next [0, 0] 2 rfl rfl (d_one 8 rfl (by kernel_rfl) (o_callSB call19 rfl (lent_f 0 rfl (lent_f 1 rfl lent_nil)) ((tri19 _) h18 :) rfl (d_next [0, 0] 2 rfl rfl (d_done (by kernel_rfl) ?_))))))
  refine s_st ?_ (hN5 v_7 hL3)
  exact st_le [0, 0] (lea rfl) rfl (subs [2, 3] rfl)
  intro t77 hL3
  unfold F.law08.ForestSound_j5 at hL3
  refine sat_wc ?_
  refine c_cond rfl (fun h16 => ?_) (fun h16 => ?_)
  replace hL3 := ite_t h16 hL3
  refine c_seq (c_region (o_v (v_assign rfl) rfl (o_seq (c_ret ?_))))
  cases hL3
  obtain rfl := lr_ret hL2
  obtain rfl := lrf_ret hF
  refine s_ret1 rfl (r_tmp rfl) fun a w hs => fin_sel hs [] ⟨rfl, rfl, rfl⟩ rfl sub_nil
  replace hL3 := ite_f h16 hL3
  refine c_skip ?_
  refine s_st ?_ (hN4 hL3)
  exact st_le [0, 0] (lea rfl) rfl (subs [0, 1] rfl)
  intro hL3
  unfold F.law08.ForestSound_j4 at hL3
  refine sat_wc (c_region (o_v (v_move rfl) rfl (o_v (v_bin rfl rfl rfl) rfl (o_v (v_assign rfl) rfl (o_nil ?_)))))
  intro a w hs
  exact ⟨j, Nat.lt_succ_self j, IntKind.wrap .i64 (k_ + 1), hL3, st_le [0, 0] (lea rfl) rfl (subs [0, 1] rfl) a w hs⟩
  replace hL3 := ite_f h15 hL3
  refine c_exit0 ?_
  cases hL3
  refine s_st ?_ (hN3 k_ rfl)
  exact st_le [0, 0] (lea rfl) rfl (subs [0, 1] rfl)
  intro d3 hd
  subst hd
  replace hL2 := lr_done hL2
  refine sat_wc (c_region (o_v (v_move rfl) rfl (o_v (v_bin rfl rfl rfl) rfl (o_v (v_assign rfl) rfl (o_nil ?_)))))
  intro a w hs
  exact ⟨j, Nat.lt_succ_self j, IntKind.wrap .i64 (i + 1), hL2, st_le [0, 0] (lea rfl) rfl (subs [0, 1] rfl) a w hs⟩
  replace hL2 := ite_f h11 hL2
  refine c_exit0 ?_
  cases hL2
  refine s_st ?_ (hN2 () rfl)
  exact st_le [0, 0] (lea rfl) rfl (subs [0, 1] rfl)
  intro d2 hd
  subst hd
  replace hF := lrf_done hF
  refine sat_wc (c_seq ?_)
  refine cT (fun E H Φ N' => ∀ (t6 : Bool), F.law08.ForestSound_j6 t6 = some r → Sat E [(0, .agg #[.int .i64 g_.Nts, .int .i64 g_.Start, .slice sa1 sn1 sc1]), (1, .slice sa2 sn2 sc2), (2, .int .i64 most), (3, .pointer (some ⟨b, 0, none⟩)), (6, .bool t6), (7, .slice sa3 sn3 sc3)] H Φ N') (fun N6 hN6 => ?_) ?_
  refine c_region ?_
  obtain ⟨v_8, h19, hF⟩ := bd hF
  refine o_callSB call12 rfl lent_nil (tri12 h19 :) rfl (o_v (v_move rfl) rfl ?_)
  refine o_split (t := 79) rfl (fun h20 => ?_) (fun h20 => ?_)
  replace hF := ite_t h20 hF
  refine o_on rfl rfl (o_v (v_move rfl) rfl (o_on rfl rfl (o_v (v_lenS (enc := eTree) v_3.1 sl31 rfl (.r 1 _ rfl)) rfl (o_on rfl rfl (o_v (v_move rfl) rfl (o_on rfl rfl (o_v (v_bin rfl rfl rfl) rfl (o_on rfl rfl (o_v (v_move rfl) rfl ?_)))))))))
  refine o_split (t := 84) rfl (fun h21 => ?_) (fun h21 => ?_)
  replace hF := ite_t h21 hF
  refine o_off rfl rfl (by decide) rfl (o_off rfl rfl (by decide) rfl (o_off rfl rfl (by decide) rfl (o_off rfl rfl (by decide) rfl (o_off rfl rfl (by decide) rfl (o_offU rfl rfl rfl (o_offU rfl rfl rfl (o_offU rfl rfl rfl (o_off rfl rfl (by decide) rfl (o_on rfl rfl (o_v (v_pick_t rfl rfl) rfl (o_v (v_pick_t rfl rfl) rfl (o_v (v_assign rfl) rfl (o_nil ?_)))))))))))))
  refine s_st ?_ (hN6 true hF)
  exact st_le [0, 0] (lea rfl) rfl (subs [0, 1] rfl)
  replace hF := ite_f h21 hF
  refine o_on rfl rfl (o_v (v_move rfl) rfl (o_on rfl rfl (o_v (v_lenS (enc := eTree) v_3.1 sl31 rfl (.r 1 _ rfl)) rfl (o_on rfl rfl (o_v (v_move rfl) rfl (o_on rfl rfl (o_v (v_bin rfl rfl rfl) rfl (o_on rfl rfl (o_v (v_move rfl) rfl ?_)))))))))
  refine o_split (t := 89) rfl (fun h22 => ?_) (fun h22 => ?_)
  replace hF := ite_t h22 hF
  refine o_on rfl rfl (o_v (v_move rfl) rfl (o_on rfl rfl (o_v (v_move rfl) rfl (o_on rfl rfl (o_v (v_bin rfl rfl rfl) rfl (o_on rfl rfl (o_v (v_pick_t rfl rfl) rfl (o_on rfl rfl (o_v (v_pick_f rfl rfl) rfl (o_v (v_pick_t rfl rfl) rfl (o_v (v_assign rfl) rfl (o_nil ?_))))))))))))
  refine s_st ?_ (hN6 (decide (most < v_4.1)) hF)
  exact st_le [0, 0] (lea rfl) rfl (subs [0, 1] rfl)
  replace hF := ite_f h22 hF
  refine o_off rfl rfl (by decide) rfl (o_off rfl rfl (by decide) rfl (o_off rfl rfl (by decide) rfl (o_on rfl rfl (o_v (v_pick_f rfl rfl) rfl (o_on rfl rfl (o_v (v_pick_f rfl rfl) rfl (o_v (v_pick_t rfl rfl) rfl (o_v (v_assign rfl) rfl (o_nil ?_)))))))))
  refine s_st ?_ (hN6 false hF)
  exact st_le [0, 0] (lea rfl) rfl (subs [0, 1] rfl)
  replace hF := ite_f h20 hF
  refine o_off rfl rfl (by decide) rfl (o_off rfl rfl (by decide) rfl (o_off rfl rfl (by decide) rfl (o_off rfl rfl (by decide) rfl (o_off rfl rfl (by decide) rfl (o_offU rfl rfl rfl (o_offU rfl rfl rfl (o_offU rfl rfl rfl (o_offU rfl rfl rfl (o_offU rfl rfl rfl (o_offU rfl rfl rfl (o_offU rfl rfl rfl (o_offU rfl rfl rfl (o_offU rfl rfl rfl (o_off rfl rfl (by decide) rfl (o_v (v_pick_f rfl rfl) rfl ?_)))))))))))))))
  refine o_v (v_assign rfl) rfl (o_nil ?_)
  refine s_st ?_ (hN6 false hF)
  exact st_le [0, 0] (lea rfl) rfl (subs [0, 1] rfl)
  intro t6 hF
  unfold F.law08.ForestSound_j6 at hF
  refine sat_wc (c_ret ?_)
  cases hF
  refine s_ret1 rfl (r_tmp rfl) fun a w hs => fin_sel hs [] ⟨rfl, rfl, rfl⟩ rfl sub_nil
end Go.Vc
