import Derived.Test.YtfhbgelpmbkooaaW1
set_option linter.unusedVariables false
set_option linter.unusedSimpArgs false
set_option maxRecDepth 8000
set_option maxHeartbeats 2000000
namespace Go.Vc
open Go Go.Proofs
variable {A1 A2 A3 A4 A5 A6 A7 A8 A9 A10 A11 A12 A13 A14 A15 A16 A17 A18 A19 A20 A21 A22 A23 A24 A25 A26 A27 A28 A29 A30 A31 A32 A33 A34 : OA} {L1 C1 L2 C2 L3 C3 L4 C4 L5 C5 L6 C6 L7 C7 L8 C8 L9 C9 L10 C10 L11 C11 L12 C12 L13 C13 L14 C14 L15 C15 L16 C16 L17 C17 L18 C18 L19 C19 L20 C20 L21 C21 L22 C22 L23 C23 L24 C24 L25 C25 L26 C26 L27 C27 L28 C28 L29 C29 L30 C30 L31 C31 L32 C32 L33 C33 L34 C34 : Nat}
theorem tri46 {k : Nat} {p : Forest_packer} {n : FNode} {b : Nat} {gb : Nat} {gb1 : Nat} {gb2 : Nat} {gb3 : Nat} {gb4 : Nat} {gb5 : Nat} {r : List Alt × Forest_packer} (hF : F.forest.packer_ways k p n = some r) :
    Tri Try.prog 46 [pt b, .agg (vFNode n A5 L5 C5 A6 L6 C6).toArray] [.box b 100 [pt gb, .map (some gb4), .map (some gb5), iI p.f.Root, sl A4 L4 C4], .box gb 91 [iI p.v.g.Nts, iI p.v.g.Start, sl A1 L1 C1, sl A2 L2 C2, sl A3 L3 C3, .map (some gb1), .map (some gb2), .map (some gb3)], .mp gb1 (mEnc kForest_span (tenc p.v.whole)), .mp gb2 (mEnc kForest_span (tenc p.v.counts)), .mp gb3 (mEnc kForest_part (tenc p.v.rows)), .mp gb4 (mEnc kForest_span (tenc p.spans)), .mp gb5 (mEnc kForest_part (tenc p.parts)), rW A4 L4 C4 62 7 eFNode p.f.Nodes] [fS A1 L1 C1 2 eRule p.v.g.Rules, fS A2 L2 C2 1 eU8 p.v.w_, fS A3 L3 C3 1 (eSl 1 eI64) p.v.by_, fS A5 L5 C5 1 eI64 n.Ban, fS A6 L6 C6 4 eAlt n.Alts] (fun o H Φ => ∃ (A33 : OA) (L33 C33 : Nat) (A34 : OA) (L34 C34 : Nat), o = .ret (sl A33 L33 C33) ∧ H = [.box b 100 [pt gb, .map (some gb4), .map (some gb5), iI p.f.Root, sl A34 L34 C34], .box gb 91 [iI p.v.g.Nts, iI p.v.g.Start, sl A1 L1 C1, sl A2 L2 C2, sl A3 L3 C3, .map (some gb1), .map (some gb2), .map (some gb3)], .mp gb1 (mEnc kForest_span (tenc r.2.v.whole)), .mp gb2 (mEnc kForest_span (tenc r.2.v.counts)), .mp gb3 (mEnc kForest_part (tenc r.2.v.rows)), .mp gb4 (mEnc kForest_span (tenc r.2.spans)), .mp gb5 (mEnc kForest_part (tenc r.2.parts)), rW A34 L34 C34 62 7 eFNode r.2.f.Nodes, rW A33 L33 C33 108 4 eAlt r.1] ∧ Φ = []) := by
 unfold F.forest.packer_ways at hF
 refine tri_intro (n := 146) Try.func46 rfl Try.ntmps46 rfl fun w X => cR (o_box rfl rfl rfl fun b1 => oV vA (o_seq (cR (oV vA (o_seq (c_seq (cR ((fD 2) (oV (vL 0 ty3) (oV vB ?_))))))))))
 refine o_seq ?_
 refine cC hF (fun hF => ?_) (fun hF => ?_)
 refine c_seq (c_seq (ite_some hF fun h2 hF => c_elem (xs := p.v.by_) (enc := (eSl 1 eI64)) 2 rfl h2 rfl rfl fun A7 L7 C7 => c_draw (n := 13) [0, 0, 0, 0, 0, 0, 0, 0, 0] mixed rfl rfl (dv 0 rfl vM (dv 1 rfl vC (dv 2 rfl (vF 0) (dv 3 rfl (vL 1 ty69) (dv 4 rfl vC (dv 5 rfl (vF 4) (dv 6 rfl (vL 2 ty87) (dv 7 rfl (vF 0) (dv 8 rfl (vL 0 ty3) (dv 9 rfl (v_indexAddr_s (xs := p.v.by_) (enc := (eSl 1 eI64)) sl87 rfl rfl (.f 4 rfl) h2) (dv 10 rfl (v_load_cl 0 ty59 rfl rfl rfl rfl rfl) ?_)))))))))))))
 refine dv 11 rfl (v_lenS (enc := eI64) (at_ p.v.by_ n.Nt) sl59 rfl (.f 1 rfl)) (dv 12 rfl vM (d_done_seq (by kernel_rfl) ?_))
 obtain ⟨o1, ho1, hF⟩ := bd hF
 refine c_cut (fun E N' => ∀ (A10 : OA) (L10 C10 : Nat) (A11 : OA) (L11 C11 : Nat), Sat E [(0, pt b), (1, .agg (vFNode n A5 L5 C5 A6 L6 C6).toArray), (3, pt b1), (4, nS), (5, sl A10 L10 C10), (26, sl A7 L7 C7)] [.box b1 62 (vFNode n A5 L5 C5 A6 L6 C6), .box b 100 [pt gb, .map (some gb4), .map (some gb5), iI p.f.Root, sl A11 L11 C11], .box gb 91 [iI p.v.g.Nts, iI p.v.g.Start, sl A1 L1 C1, sl A2 L2 C2, sl A3 L3 C3, .map (some gb1), .map (some gb2), .map (some gb3)], .mp gb1 (mEnc kForest_span (tenc o1.2.2.1)), .mp gb2 (mEnc kForest_span (tenc o1.2.2.2.1)), .mp gb3 (mEnc kForest_part (tenc o1.2.2.2.2.1)), .mp gb4 (mEnc kForest_span (tenc o1.2.2.2.2.2.1)), .mp gb5 (mEnc kForest_part (tenc o1.2.2.2.2.2.2)), rW A10 L10 C10 108 4 eAlt o1.1, rW A11 L11 C11 62 7 eFNode o1.2.1] [fS A5 L5 C5 1 eI64 n.Ban, fS A6 L6 C6 4 eAlt n.Alts, fS A7 L7 C7 1 eI64 (at_ p.v.by_ n.Nt), fS A1 L1 C1 2 eRule p.v.g.Rules, fS A2 L2 C2 1 eU8 p.v.w_, fS A3 L3 C3 1 (eSl 1 eI64) p.v.by_] N') (fun N1 hN1 => ?_) ?_
 refine c_block ?_
 refine c_loopE (fun E j a w => ∃ (out : List Alt) (t28 : Int) (Nodes_ : List FNode) (v_ : List (Forest_span × Int)) (v_1 : List (Forest_span × Int)) (v_2 : List (Forest_part × Int)) (v_3 : List (Forest_span × Int)) (v_4 : List (Forest_part × Int)) (A8 : OA) (L8 C8 : Nat) (A9 : OA) (L9 C9 : Nat), F.forest.packer_ways_l1 k p n j out t28 Nodes_ v_ v_1 v_2 v_3 v_4 = some o1 ∧ St E [(0, pt b), (1, .agg (vFNode n A5 L5 C5 A6 L6 C6).toArray), (3, pt b1), (4, nS), (5, sl A8 L8 C8), (26, sl A7 L7 C7), (27, iI ((at_ p.v.by_ n.Nt).length : Int)), (28, iI t28)] [.box b1 62 (vFNode n A5 L5 C5 A6 L6 C6), .box b 100 [pt gb, .map (some gb4), .map (some gb5), iI p.f.Root, sl A9 L9 C9], .box gb 91 [iI p.v.g.Nts, iI p.v.g.Start, sl A1 L1 C1, sl A2 L2 C2, sl A3 L3 C3, .map (some gb1), .map (some gb2), .map (some gb3)], .mp gb1 (mEnc kForest_span (tenc v_)), .mp gb2 (mEnc kForest_span (tenc v_1)), .mp gb3 (mEnc kForest_part (tenc v_2)), .mp gb4 (mEnc kForest_span (tenc v_3)), .mp gb5 (mEnc kForest_part (tenc v_4)), rW A8 L8 C8 108 4 eAlt out, rW A9 L9 C9 62 7 eFNode Nodes_] [fS A5 L5 C5 1 eI64 n.Ban, fS A6 L6 C6 4 eAlt n.Alts, fS A7 L7 C7 1 eI64 (at_ p.v.by_ n.Nt), fS A1 L1 C1 2 eRule p.v.g.Rules, fS A2 L2 C2 1 eU8 p.v.w_, fS A3 L3 C3 1 (eSl 1 eI64) p.v.by_] a w) k ?_ ?_
 refine s_st (st_nilrow 108 4) ?_
 exact lq [1, 1, 1, 1, 1, 1, 1, 1, 0, 0] [5, 6, 1, 2, 3, 4] fun a w hs => ⟨([] : List Alt), 0, p.f.Nodes, p.v.whole, p.v.counts, p.v.rows, p.spans, p.parts, none, 0, 0, A4, L4, C4, ho1, hs⟩
 rintro j a w ⟨out, t28, Nodes_, v_, v_1, v_2, v_3, v_4, A8, L8, C8, A9, L9, C9, hL1, hs⟩
 rcases j with _ | j
 cases hL1
 refine wc_app hs ?_
 unfold F.forest.packer_ways_l1 at hL1
 refine cR (oV vB (o_seq (c_seq ?_)))
 refine cC hL1 (fun hL1 => ?_) (fun hL1 => ?_)
 refine c_skip (sat_wc (c_seq ?_))
 refine cT (fun E H Φ N' => ∀ (out1 : List Alt) (Nodes_1 : List FNode) (v_5 : List (Forest_span × Int)) (v_6 : List (Forest_span × Int)) (v_7 : List (Forest_part × Int)) (v_8 : List (Forest_span × Int)) (v_9 : List (Forest_part × Int)) (A12 : OA) (L12 C12 : Nat) (A13 : OA) (L13 C13 : Nat) (b2 : Nat), F.forest.packer_ways_j2 (F.forest.packer_ways_l1 k p n j) t28 out1 Nodes_1 v_5 v_6 v_7 v_8 v_9 = some o1 → Sat E [(0, pt b), (1, .agg (vFNode n A5 L5 C5 A6 L6 C6).toArray), (3, pt b1), (4, nS), (5, sl A12 L12 C12), (7, iI (at_ (at_ p.v.by_ n.Nt) t28)), (8, pt b2), (26, sl A7 L7 C7), (27, iI ((at_ p.v.by_ n.Nt).length : Int)), (28, iI t28)] [.box b 100 [pt gb, .map (some gb4), .map (some gb5), iI p.f.Root, sl A13 L13 C13], .box gb 91 [iI p.v.g.Nts, iI p.v.g.Start, sl A1 L1 C1, sl A2 L2 C2, sl A3 L3 C3, .map (some gb1), .map (some gb2), .map (some gb3)], .mp gb1 (mEnc kForest_span (tenc v_5)), .mp gb2 (mEnc kForest_span (tenc v_6)), .mp gb3 (mEnc kForest_part (tenc v_7)), .mp gb4 (mEnc kForest_span (tenc v_8)), .mp gb5 (mEnc kForest_part (tenc v_9)), .box b1 62 (vFNode n A5 L5 C5 A6 L6 C6), .box b2 85 [iI (at_ (at_ p.v.by_ n.Nt) t28), iI (((at_ p.v.g.Rules (at_ (at_ p.v.by_ n.Nt) t28)).Rhs).length : Int), iI n.From, iI n.To], rW A12 L12 C12 108 4 eAlt out1, rW A13 L13 C13 62 7 eFNode Nodes_1] Φ N') (fun N2 hN2 => ?_) ?_
 refine c_block (cR (ite_some hL1 fun h4 hL1 => oV (v_indexAddr_s (xs := at_ p.v.by_ n.Nt) (enc := eI64) sl59 rfl rfl (.f 2 rfl) h4) (oV (v_load_s (xs := at_ p.v.by_ n.Nt) (enc := eI64) ty3 rfl (.f 2 rfl) h4 rfl rfl rfl rfl rfl rfl rfl) (oV vA (o_seq (c_seq (ite_some hL1 ?_)))))))
 intro h5 hL1
 refine c_elem (xs := p.v.g.Rules) (enc := eRule) 3 rfl h5 rfl rfl fun A14 L14 C14 => c_draw (n := 21) [0, 0, 0, 0, 0, 0, 0, 0, 0, 0] mixed rfl rfl (dv 0 rfl vM (dv 1 rfl vM (dv 2 rfl vC (dv 3 rfl (vF 0) ?_))))
 refine dv 4 rfl (vL 1 ty69) (dv 5 rfl vC (dv 6 rfl (vF 0) (dv 7 rfl (vF 2) (dv 8 rfl (vL 2 ty22) (dv 9 rfl vM (dv 10 rfl (v_indexAddr_s (xs := p.v.g.Rules) (enc := eRule) sl22 rfl rfl (.f 5 rfl) h5) (dv 11 rfl (v_fieldAddr (v := .pointer (some ⟨blkA A1, offA A1 + (Int.toNat (at_ (at_ p.v.by_ n.Nt) t28) * 2 + 1), none⟩)) rfl (fun _ => by kernel_rfl)) (dv 12 rfl (v_load_cl 0 ty48 rfl rfl rfl rfl rfl) (dv 13 rfl (v_lenS (enc := eKSym) ((at_ p.v.g.Rules (at_ (at_ p.v.by_ n.Nt) t28)).Rhs) sl48 rfl (.f 1 rfl)) (dv 14 rfl (vF 3) (dv 15 rfl (vL 0 ty3) (dv 16 rfl (vF 4) (dv 17 rfl (vL 0 ty3) (dv 18 rfl (v_build (v := .agg #[iI (at_ (at_ p.v.by_ n.Nt) t28), iI (((at_ p.v.g.Rules (at_ (at_ p.v.by_ n.Nt) t28)).Rhs).length : Int), iI n.From, iI n.To]) rfl (fun _ => by kernel_rfl)) (dO 19 rfl ?_)))))))))))))))
 refine o_alloc zero85 rfl rfl fun b3 => dN [1, 1, 1, 1, 1, 1, 1, 1, 1, 1] 0 (dO 20 rfl ((sT 0 ty85) (dN [1, 1, 1, 1, 1, 1, 1, 1, 1, 1] 0 (d_done_seq (by kernel_rfl) (c_seq (c_draw (n := 7) [0, 0, 0, 4, 4, 4, 4] mixed rfl rfl (dv 0 rfl vM (dv 1 rfl vC (dv 2 rfl (vF 0) (dv 3 rfl (vL 2 ty69) (dv 4 rfl (vL 0 ty85) (dO 5 rfl ?_))))))))))))
 obtain ⟨v_10, h6, hL1⟩ := bd hL1
 refine ocl [3, 3, 3, 3] call39 rfl rfl (subs [5, 6, 7] rfl) (tri39 h6 :) ?_
 rintro _ _ _ ⟨rfl, rfl, rfl⟩
 refine o_H [.box gb 91 [iI p.v.g.Nts, iI p.v.g.Start, sl A1 L1 C1, sl A2 L2 C2, sl A3 L3 C3, .map (some gb1), .map (some gb2), .map (some gb3)], .mp gb1 (mEnc kForest_span (tenc v_10.2.whole)), .mp gb2 (mEnc kForest_span (tenc v_10.2.counts)), .mp gb3 (mEnc kForest_part (tenc v_10.2.rows)), .box b3 85 [iI (at_ (at_ p.v.by_ n.Nt) t28), iI (((at_ p.v.g.Rules (at_ (at_ p.v.by_ n.Nt) t28)).Rhs).length : Int), iI n.From, iI n.To], .box b1 62 (vFNode n A5 L5 C5 A6 L6 C6), .box b 100 [pt gb, .map (some gb4), .map (some gb5), iI p.f.Root, sl A9 L9 C9], .mp gb4 (mEnc kForest_span (tenc v_3)), .mp gb5 (mEnc kForest_part (tenc v_4)), rW A8 L8 C8 108 4 eAlt out, rW A9 L9 C9 62 7 eFNode Nodes_] rfl (dN [4, 4, 4, 4, 4, 4, 4] 0 (dv 6 rfl vB (d_done_seq (by kernel_rfl) ?_)))
 refine c_cut (fun E N' => ∀ (out2 : List Alt) (Nodes_2 : List FNode) (v_11 : List (Forest_span × Int)) (v_12 : List (Forest_span × Int)) (v_13 : List (Forest_part × Int)) (v_14 : List (Forest_span × Int)) (v_15 : List (Forest_part × Int)) (A15 : OA) (L15 C15 : Nat) (A16 : OA) (L16 C16 : Nat), F.forest.packer_ways_j3 (F.forest.packer_ways_l1 k p n j) t28 out2 Nodes_2 v_11 v_12 v_13 v_14 v_15 = some o1 → Sat E [(0, pt b), (1, .agg (vFNode n A5 L5 C5 A6 L6 C6).toArray), (3, pt b1), (4, nS), (5, sl A15 L15 C15), (7, iI (at_ (at_ p.v.by_ n.Nt) t28)), (8, pt b3), (26, sl A7 L7 C7), (27, iI ((at_ p.v.by_ n.Nt).length : Int)), (28, iI t28)] [.box b 100 [pt gb, .map (some gb4), .map (some gb5), iI p.f.Root, sl A16 L16 C16], .box gb 91 [iI p.v.g.Nts, iI p.v.g.Start, sl A1 L1 C1, sl A2 L2 C2, sl A3 L3 C3, .map (some gb1), .map (some gb2), .map (some gb3)], .mp gb1 (mEnc kForest_span (tenc v_11)), .mp gb2 (mEnc kForest_span (tenc v_12)), .mp gb3 (mEnc kForest_part (tenc v_13)), .mp gb4 (mEnc kForest_span (tenc v_14)), .mp gb5 (mEnc kForest_part (tenc v_15)), .box b3 85 [iI (at_ (at_ p.v.by_ n.Nt) t28), iI (((at_ p.v.g.Rules (at_ (at_ p.v.by_ n.Nt) t28)).Rhs).length : Int), iI n.From, iI n.To], .box b1 62 (vFNode n A5 L5 C5 A6 L6 C6), rW A15 L15 C15 108 4 eAlt out2, rW A16 L16 C16 62 7 eFNode Nodes_2] [fS A5 L5 C5 1 eI64 n.Ban, fS A6 L6 C6 4 eAlt n.Alts, fS A7 L7 C7 1 eI64 (at_ p.v.by_ n.Nt), fS A1 L1 C1 2 eRule p.v.g.Rules, fS A2 L2 C2 1 eU8 p.v.w_, fS A3 L3 C3 1 (eSl 1 eI64) p.v.by_] N') (fun N3 hN3 => ?_) ?_
 refine cC hL1 (fun hL1 => ?_) (fun hL1 => ?_)
 refine c_region (oV vM (oV vM (oV vM (oV (vL 4 ty85) ?_))))
 obtain ⟨v_16, h8, hL1⟩ := bd hL1
 refine ocl [6, 0, 0, 0, 0, 2, 2, 3] call65 rfl rfl (subs [5, 6, 7] rfl) (tri65 h8 :) ?_
 rintro _ _ _ ⟨A17, L17, C17, rfl, rfl, rfl⟩
 refine o_H [.box b 100 [pt gb, .map (some gb4), .map (some gb5), iI p.f.Root, sl A17 L17 C17], .box gb 91 [iI p.v.g.Nts, iI p.v.g.Start, sl A1 L1 C1, sl A2 L2 C2, sl A3 L3 C3, .map (some gb1), .map (some gb2), .map (some gb3)], .mp gb1 (mEnc kForest_span (tenc v_16.2.v.whole)), .mp gb2 (mEnc kForest_span (tenc v_16.2.v.counts)), .mp gb3 (mEnc kForest_part (tenc v_16.2.v.rows)), .mp gb4 (mEnc kForest_span (tenc v_16.2.spans)), .mp gb5 (mEnc kForest_part (tenc v_16.2.parts)), rW A17 L17 C17 62 7 eFNode v_16.2.f.Nodes, .box b3 85 [iI (at_ (at_ p.v.by_ n.Nt) t28), iI (((at_ p.v.g.Rules (at_ (at_ p.v.by_ n.Nt) t28)).Rhs).length : Int), iI n.From, iI n.To], .box b1 62 (vFNode n A5 L5 C5 A6 L6 C6), rW A8 L8 C8 108 4 eAlt out] rfl (oV (vU (.agg #[iI (at_ (at_ p.v.by_ n.Nt) t28), iI 0, iI v_16.1, iI (-1)])) (o_buildSlice (enc := eAlt) ([(Alt.mk (at_ (at_ p.v.by_ n.Nt) t28) 0 v_16.1 (-1))] : List Alt) [iI (at_ (at_ p.v.by_ n.Nt) t28), iI 0, iI v_16.1, iI (-1)] sl60 rfl (fun _ => by kernel_rfl) rfl rfl rfl (.s rfl (.s rfl (.s rfl (.s rfl (.nil))))) rfl ?_))
 intro A18 L18 C18
 refine ite_some hL1 fun h9 hL1 => ite_some hL1 fun h10 hL1 => o_append (enc := eAlt) (xs := out) (ys := ([(Alt.mk (at_ (at_ p.v.by_ n.Nt) t28) 0 v_16.1 (-1))] : List Alt)) 11 sl60 rfl rfl rfl (.r 0 _ rfl) h9 h10 rfl fun A19 L19 C19 => o_H [.row (sl A18 L18 C18) 108 4 (([(Alt.mk (at_ (at_ p.v.by_ n.Nt) t28) 0 v_16.1 (-1))] : List Alt).map eAlt), .box b 100 [pt gb, .map (some gb4), .map (some gb5), iI p.f.Root, sl A17 L17 C17], .box gb 91 [iI p.v.g.Nts, iI p.v.g.Start, sl A1 L1 C1, sl A2 L2 C2, sl A3 L3 C3, .map (some gb1), .map (some gb2), .map (some gb3)], .mp gb1 (mEnc kForest_span (tenc v_16.2.v.whole)), .mp gb2 (mEnc kForest_span (tenc v_16.2.v.counts)), .mp gb3 (mEnc kForest_part (tenc v_16.2.v.rows)), .mp gb4 (mEnc kForest_span (tenc v_16.2.spans)), .mp gb5 (mEnc kForest_part (tenc v_16.2.parts)), rW A17 L17 C17 62 7 eFNode v_16.2.f.Nodes, .box b3 85 [iI (at_ (at_ p.v.by_ n.Nt) t28), iI (((at_ p.v.g.Rules (at_ (at_ p.v.by_ n.Nt) t28)).Rhs).length : Int), iI n.From, iI n.To], .box b1 62 (vFNode n A5 L5 C5 A6 L6 C6), .row (sl A19 L19 C19) 108 4 ((out ++ ([(Alt.mk (at_ (at_ p.v.by_ n.Nt) t28) 0 v_16.1 (-1))] : List Alt)).map eAlt)] rfl (oV vA (o_nil ?_))
 exact sK [1, 1, 1, 1, 1, 1, 1, 2, 2, 2, 1] [2, 3, 4, 5, 6, 7] (hN3 (out ++ ([(Alt.mk (at_ (at_ p.v.by_ n.Nt) t28) 0 v_16.1 (-1))] : List Alt)) v_16.2.f.Nodes v_16.2.v.whole v_16.2.v.counts v_16.2.v.rows v_16.2.spans v_16.2.parts A19 L19 C19 A17 L17 C17 hL1)
 refine c_skip ?_
 exact sK [6, 0, 0, 0, 0, 2, 2, 0, 0, 0, 0] [2, 3, 4, 5, 6, 7] (hN3 out Nodes_ v_10.2.whole v_10.2.counts v_10.2.rows v_3 v_4 A8 L8 C8 A9 L9 C9 hL1)
 intro out2 Nodes_2 v_11 v_12 v_13 v_14 v_15 A15 L15 C15 A16 L16 C16 hL1
 unfold F.forest.packer_ways_j3 at hL1
 exact sK [0, 0, 0, 0, 0, 0, 0, 1, 0, 0, 0] [0, 1, 2, 3, 4, 5] (hN2 out2 Nodes_2 v_11 v_12 v_13 v_14 v_15 A15 L15 C15 A16 L16 C16 b3 hL1)
 intro out1 Nodes_1 v_5 v_6 v_7 v_8 v_9 A12 L12 C12 A13 L13 C13 b2 hL1
 unfold F.forest.packer_ways_j2 at hL1
 refine sat_wc (c_region (oV vB (oV vM (o_nil ?_))))
 exact lp [7, 0, 0, 0, 0, 0, 0, 0, 1, 1] [0, 1, 2, 3, 4, 5] fun a w hs => ⟨out1, IntKind.wrap .i64 (t28 + 1), Nodes_1, v_5, v_6, v_7, v_8, v_9, A12, L12, C12, A13, L13, C13, hL1, hs⟩
 refine c_exit0 ?_
 cases hL1
 exact sK [0, 0, 0, 0, 0, 0, 0, 0, 0, 0] [0, 1, 2, 3, 4, 5] (hN1 A8 L8 C8 A9 L9 C9)
 intro A10 L10 C10 A11 L11 C11
 refine sat_wc (cR (oV vM (oV vA (o_seq (c_ret ?_)))))
 cases hF
 refine s_ret1 rfl (r_tmp rfl) fun a w hs => fin_sel hs [1, 1, 1, 1, 1, 1, 1, 2, 1] ⟨A10, L10, C10, A11, L11, C11, rfl, rfl, rfl⟩ rfl sub_nil
 refine c_skip (sat_wc (c_seq (ite_some hF fun h11 hF => c_elem (xs := p.v.g.Rules) (enc := eRule) 0 rfl h11 rfl rfl fun A20 L20 C20 => c_draw (n := 20) [0, 0, 0, 0, 0, 0, 0, 0, 0] mixed rfl rfl (dv 0 rfl vM (dv 1 rfl vC (dv 2 rfl (vF 0) (dv 3 rfl (vL 1 ty69) (dv 4 rfl vC (dv 5 rfl (vF 0) (dv 6 rfl (vF 2) (dv 7 rfl (vL 2 ty22) (dv 8 rfl (vF 1) (dv 9 rfl (vL 0 ty3) ?_)))))))))))))
 refine dv 10 rfl (v_indexAddr_s (xs := p.v.g.Rules) (enc := eRule) sl22 rfl rfl (.f 2 rfl) h11) (dv 11 rfl (v_fieldAddr (v := .pointer (some ⟨blkA A1, offA A1 + (Int.toNat n.Rule * 2 + 1), none⟩)) rfl (fun _ => by kernel_rfl)) (dv 12 rfl (v_load_cl 0 ty48 rfl rfl rfl rfl rfl) (dv 13 rfl (vF 2) (dv 14 rfl (vL 0 ty3) (dv 15 rfl vB (ite_some hF ?_))))))
 intro h12 hF
 refine dv 16 rfl (v_indexAddr_s (xs := (at_ p.v.g.Rules n.Rule).Rhs) (enc := eKSym) sl48 rfl rfl (.f 1 rfl) h12) (dv 17 rfl (v_load_s (xs := (at_ p.v.g.Rules n.Rule).Rhs) (enc := eKSym) ty47 rfl (.f 1 rfl) h12 rfl rfl rfl rfl rfl rfl rfl) (dO 18 rfl (o_alloc zero47 rfl rfl ?_)))
 intro b4
 refine dN [1, 1, 1, 1, 1, 1, 1, 1, 1] 0 (dO 19 rfl ((sT 0 ty47) (dN [1, 1, 1, 1, 1, 1, 1, 1, 1] 0 (d_done_seq (by kernel_rfl) ?_))))
 refine c_seq (cR ((fD 3) (oV (vL 1 ty3) (oV vA (o_seq ?_)))))
 obtain ⟨o4, ho4, hF⟩ := bd hF
 refine c_cut (fun E N' => ∀ (A23 : OA) (L23 C23 : Nat) (A24 : OA) (L24 C24 : Nat), Sat E [(0, pt b), (1, .agg (vFNode n A5 L5 C5 A6 L6 C6).toArray), (3, pt b1), (4, nS), (5, sl A23 L23 C23), (9, pt b4)] [.box b4 47 [iI ((at_ ((at_ p.v.g.Rules n.Rule).Rhs) (IntKind.wrap .i64 (n.Dot - 1))).Nt), iU ((at_ ((at_ p.v.g.Rules n.Rule).Rhs) (IntKind.wrap .i64 (n.Dot - 1))).Set.w0), iU ((at_ ((at_ p.v.g.Rules n.Rule).Rhs) (IntKind.wrap .i64 (n.Dot - 1))).Set.w1), iU ((at_ ((at_ p.v.g.Rules n.Rule).Rhs) (IntKind.wrap .i64 (n.Dot - 1))).Set.w2), iU ((at_ ((at_ p.v.g.Rules n.Rule).Rhs) (IntKind.wrap .i64 (n.Dot - 1))).Set.w3)], .box b1 62 (vFNode n A5 L5 C5 A6 L6 C6), .box b 100 [pt gb, .map (some gb4), .map (some gb5), iI p.f.Root, sl A24 L24 C24], .box gb 91 [iI p.v.g.Nts, iI p.v.g.Start, sl A1 L1 C1, sl A2 L2 C2, sl A3 L3 C3, .map (some gb1), .map (some gb2), .map (some gb3)], .mp gb1 (mEnc kForest_span (tenc o4.2.2.1)), .mp gb2 (mEnc kForest_span (tenc o4.2.2.2.1)), .mp gb3 (mEnc kForest_part (tenc o4.2.2.2.2.1)), .mp gb4 (mEnc kForest_span (tenc o4.2.2.2.2.2.1)), .mp gb5 (mEnc kForest_part (tenc o4.2.2.2.2.2.2)), rW A23 L23 C23 108 4 eAlt o4.1, rW A24 L24 C24 62 7 eFNode o4.2.1] [fS A5 L5 C5 1 eI64 n.Ban, fS A6 L6 C6 4 eAlt n.Alts, fS A1 L1 C1 2 eRule p.v.g.Rules, fS A2 L2 C2 1 eU8 p.v.w_, fS A3 L3 C3 1 (eSl 1 eI64) p.v.by_] N') (fun N4 hN4 => ?_) ?_
 refine c_block ?_
 refine c_loopE (fun E j a w => ∃ (out3 : List Alt) (m : Int) (Nodes_3 : List FNode) (v_17 : List (Forest_span × Int)) (v_18 : List (Forest_span × Int)) (v_19 : List (Forest_part × Int)) (v_20 : List (Forest_span × Int)) (v_21 : List (Forest_part × Int)) (A21 : OA) (L21 C21 : Nat) (A22 : OA) (L22 C22 : Nat), F.forest.packer_ways_l4 k n p j out3 m Nodes_3 v_17 v_18 v_19 v_20 v_21 = some o4 ∧ St E [(0, pt b), (1, .agg (vFNode n A5 L5 C5 A6 L6 C6).toArray), (3, pt b1), (4, nS), (5, sl A21 L21 C21), (9, pt b4), (10, iI m)] [.box b4 47 [iI ((at_ ((at_ p.v.g.Rules n.Rule).Rhs) (IntKind.wrap .i64 (n.Dot - 1))).Nt), iU ((at_ ((at_ p.v.g.Rules n.Rule).Rhs) (IntKind.wrap .i64 (n.Dot - 1))).Set.w0), iU ((at_ ((at_ p.v.g.Rules n.Rule).Rhs) (IntKind.wrap .i64 (n.Dot - 1))).Set.w1), iU ((at_ ((at_ p.v.g.Rules n.Rule).Rhs) (IntKind.wrap .i64 (n.Dot - 1))).Set.w2), iU ((at_ ((at_ p.v.g.Rules n.Rule).Rhs) (IntKind.wrap .i64 (n.Dot - 1))).Set.w3)], .box b1 62 (vFNode n A5 L5 C5 A6 L6 C6), .box b 100 [pt gb, .map (some gb4), .map (some gb5), iI p.f.Root, sl A22 L22 C22], .box gb 91 [iI p.v.g.Nts, iI p.v.g.Start, sl A1 L1 C1, sl A2 L2 C2, sl A3 L3 C3, .map (some gb1), .map (some gb2), .map (some gb3)], .mp gb1 (mEnc kForest_span (tenc v_17)), .mp gb2 (mEnc kForest_span (tenc v_18)), .mp gb3 (mEnc kForest_part (tenc v_19)), .mp gb4 (mEnc kForest_span (tenc v_20)), .mp gb5 (mEnc kForest_part (tenc v_21)), rW A21 L21 C21 108 4 eAlt out3, rW A22 L22 C22 62 7 eFNode Nodes_3] [fS A5 L5 C5 1 eI64 n.Ban, fS A6 L6 C6 4 eAlt n.Alts, fS A1 L1 C1 2 eRule p.v.g.Rules, fS A2 L2 C2 1 eU8 p.v.w_, fS A3 L3 C3 1 (eSl 1 eI64) p.v.by_] a w) k ?_ ?_
 refine s_st (st_nilrow 108 4) ?_
 exact lq [1, 1, 1, 1, 1, 1, 1, 1, 1, 0, 0] [5, 6, 2, 3, 4] fun a w hs => ⟨([] : List Alt), n.From, p.f.Nodes, p.v.whole, p.v.counts, p.v.rows, p.spans, p.parts, none, 0, 0, A4, L4, C4, ho4, hs⟩
 rintro j a w ⟨out3, m, Nodes_3, v_17, v_18, v_19, v_20, v_21, A21, L21, C21, A22, L22, C22, hL4, hs⟩
 rcases j with _ | j
 cases hL4
 refine wc_app hs ?_
 unfold F.forest.packer_ways_l4 at hL4
 refine c_seq (cR (oV vM ((fD 4) (oV (vL 1 ty3) (oV vB (o_seq ?_))))))
 refine cC hL4 (fun hL4 => ?_) (fun hL4 => ?_)
 refine c_skip (sat_wc (c_seq ?_))
 refine cT (fun E H Φ N' => ∀ (out4 : List Alt) (v_22 : List (Forest_span × Int)) (v_23 : List (Forest_span × Int)) (v_24 : List (Forest_part × Int)) (Nodes_4 : List FNode) (v_25 : List (Forest_span × Int)) (v_26 : List (Forest_part × Int)) (A25 : OA) (L25 C25 : Nat) (A26 : OA) (L26 C26 : Nat) (b5 : Nat), F.forest.packer_ways_j5 (F.forest.packer_ways_l4 k n p j) m out4 v_22 v_23 v_24 Nodes_4 v_25 v_26 = some o4 → Sat E [(0, pt b), (1, .agg (vFNode n A5 L5 C5 A6 L6 C6).toArray), (3, pt b1), (4, nS), (5, sl A25 L25 C25), (9, pt b4), (10, iI m), (11, pt b5)] [.box gb 91 [iI p.v.g.Nts, iI p.v.g.Start, sl A1 L1 C1, sl A2 L2 C2, sl A3 L3 C3, .map (some gb1), .map (some gb2), .map (some gb3)], .mp gb1 (mEnc kForest_span (tenc v_22)), .mp gb2 (mEnc kForest_span (tenc v_23)), .mp gb3 (mEnc kForest_part (tenc v_24)), .box b4 47 [iI ((at_ ((at_ p.v.g.Rules n.Rule).Rhs) (IntKind.wrap .i64 (n.Dot - 1))).Nt), iU ((at_ ((at_ p.v.g.Rules n.Rule).Rhs) (IntKind.wrap .i64 (n.Dot - 1))).Set.w0), iU ((at_ ((at_ p.v.g.Rules n.Rule).Rhs) (IntKind.wrap .i64 (n.Dot - 1))).Set.w1), iU ((at_ ((at_ p.v.g.Rules n.Rule).Rhs) (IntKind.wrap .i64 (n.Dot - 1))).Set.w2), iU ((at_ ((at_ p.v.g.Rules n.Rule).Rhs) (IntKind.wrap .i64 (n.Dot - 1))).Set.w3)], .box b1 62 (vFNode n A5 L5 C5 A6 L6 C6), .box b 100 [pt gb, .map (some gb4), .map (some gb5), iI p.f.Root, sl A26 L26 C26], .mp gb4 (mEnc kForest_span (tenc v_25)), .mp gb5 (mEnc kForest_part (tenc v_26)), .box b5 85 [iI n.Rule, iI (IntKind.wrap .i64 (n.Dot - 1)), iI n.From, iI m], rW A25 L25 C25 108 4 eAlt out4, rW A26 L26 C26 62 7 eFNode Nodes_4] Φ N') (fun N5 hN5 => ?_) ?_
 refine c_block (cR ((fD 1) (oV (vL 1 ty3) ((fD 2) (oV (vL 1 ty3) (oV vB ((fD 3) (oV (vL 1 ty3) (oV vM (oV (vU (.agg #[iI n.Rule, iI (IntKind.wrap .i64 (n.Dot - 1)), iI n.From, iI m])) (o_alloc zero85 rfl rfl ?_)))))))))))
 intro b6
 refine (sT 0 ty85) (o_seq (c_seq ?_))
 refine c_seq ?_
 refine cT (fun E H Φ N' => ∀ (t121 : Bool) (v_27 : List (Forest_span × Int)) (v_28 : List (Forest_span × Int)) (v_29 : List (Forest_part × Int)), F.forest.packer_ways_j6 (F.forest.packer_ways_l4 k n p j) m out3 Nodes_3 v_20 v_21 p n t121 v_27 v_28 v_29 = some o4 → Sat E [(0, pt b), (1, .agg (vFNode n A5 L5 C5 A6 L6 C6).toArray), (3, pt b1), (4, nS), (5, sl A21 L21 C21), (9, pt b4), (10, iI m), (11, pt b6), (121, bV t121)] [.box gb 91 [iI p.v.g.Nts, iI p.v.g.Start, sl A1 L1 C1, sl A2 L2 C2, sl A3 L3 C3, .map (some gb1), .map (some gb2), .map (some gb3)], .mp gb1 (mEnc kForest_span (tenc v_27)), .mp gb2 (mEnc kForest_span (tenc v_28)), .mp gb3 (mEnc kForest_part (tenc v_29)), .box b6 85 [iI n.Rule, iI (IntKind.wrap .i64 (n.Dot - 1)), iI n.From, iI m], .box b4 47 [iI ((at_ ((at_ p.v.g.Rules n.Rule).Rhs) (IntKind.wrap .i64 (n.Dot - 1))).Nt), iU ((at_ ((at_ p.v.g.Rules n.Rule).Rhs) (IntKind.wrap .i64 (n.Dot - 1))).Set.w0), iU ((at_ ((at_ p.v.g.Rules n.Rule).Rhs) (IntKind.wrap .i64 (n.Dot - 1))).Set.w1), iU ((at_ ((at_ p.v.g.Rules n.Rule).Rhs) (IntKind.wrap .i64 (n.Dot - 1))).Set.w2), iU ((at_ ((at_ p.v.g.Rules n.Rule).Rhs) (IntKind.wrap .i64 (n.Dot - 1))).Set.w3)], .box b1 62 (vFNode n A5 L5 C5 A6 L6 C6), .box b 100 [pt gb, .map (some gb4), .map (some gb5), iI p.f.Root, sl A22 L22 C22], .mp gb4 (mEnc kForest_span (tenc v_20)), .mp gb5 (mEnc kForest_part (tenc v_21)), rW A21 L21 C21 108 4 eAlt out3, rW A22 L22 C22 62 7 eFNode Nodes_3] Φ N') (fun N8 hN8 => ?_) ?_
 refine c_draw (n := 19) [0, 0, 0, 0, 4, 4, 4, 4] mixed rfl rfl (dv 0 rfl vM (dv 1 rfl vC (dv 2 rfl (vF 0) (dv 3 rfl (vL 3 ty69) (dv 4 rfl (vL 1 ty47) (dv 5 rfl vM (dv 6 rfl (vF 4) (dv 7 rfl (vL 2 ty3) (dO 8 rfl ?_)))))))))
 obtain ⟨v_42, h20, hL4⟩ := bd hL4
 refine ocl [4, 4, 4, 4] call38 rfl rfl (subs [2, 3, 4] rfl) (tri38 h20 :) ?_
 rintro _ _ _ ⟨rfl, rfl, rfl⟩
 refine o_H [.box gb 91 [iI p.v.g.Nts, iI p.v.g.Start, sl A1 L1 C1, sl A2 L2 C2, sl A3 L3 C3, .map (some gb1), .map (some gb2), .map (some gb3)], .mp gb1 (mEnc kForest_span (tenc v_17)), .mp gb2 (mEnc kForest_span (tenc v_18)), .mp gb3 (mEnc kForest_part (tenc v_19)), .box b6 85 [iI n.Rule, iI (IntKind.wrap .i64 (n.Dot - 1)), iI n.From, iI m], .box b4 47 [iI ((at_ ((at_ p.v.g.Rules n.Rule).Rhs) (IntKind.wrap .i64 (n.Dot - 1))).Nt), iU ((at_ ((at_ p.v.g.Rules n.Rule).Rhs) (IntKind.wrap .i64 (n.Dot - 1))).Set.w0), iU ((at_ ((at_ p.v.g.Rules n.Rule).Rhs) (IntKind.wrap .i64 (n.Dot - 1))).Set.w1), iU ((at_ ((at_ p.v.g.Rules n.Rule).Rhs) (IntKind.wrap .i64 (n.Dot - 1))).Set.w2), iU ((at_ ((at_ p.v.g.Rules n.Rule).Rhs) (IntKind.wrap .i64 (n.Dot - 1))).Set.w3)], .box b1 62 (vFNode n A5 L5 C5 A6 L6 C6), .box b 100 [pt gb, .map (some gb4), .map (some gb5), iI p.f.Root, sl A22 L22 C22], .mp gb4 (mEnc kForest_span (tenc v_20)), .mp gb5 (mEnc kForest_part (tenc v_21)), rW A21 L21 C21 108 4 eAlt out3, rW A22 L22 C22 62 7 eFNode Nodes_3] rfl (dN [4, 4, 4, 4, 4, 4, 4, 4] 0 (dv 9 rfl vN (dv 10 rfl vM ?_)))
 refine d_split (t := 113) rfl (fun h21 => ?_) (fun h21 => ?_)
 replace hL4 := ite_t h21 hL4
 refine dF 11 rfl (dF 12 rfl (dF 13 rfl (dF 14 rfl (dF 15 rfl (dF 16 rfl (dF 17 rfl (dv 18 rfl vPt (dD ?_))))))))
 exact sK [0, 0, 0, 0, 0, 0, 0, 0, 0, 0, 0, 0] [0, 1, 2, 3, 4] (hN8 true v_17 v_18 v_19 hL4)
 replace hL4 := ite_f h21 hL4
 refine dw 11 rfl rfl rfl vM (dw 12 rfl rfl rfl vC (dw 13 rfl rfl rfl (vF 0) (dw 14 rfl rfl rfl (vL 3 ty69) (dw 15 rfl rfl rfl (vL 0 ty85) (dO 16 rfl (oN ?_))))))
 obtain ⟨v_43, h22, hL4⟩ := bd hL4
 refine ocl [0, 0, 0, 0] call39 rfl rfl (subs [2, 3, 4] rfl) (tri39 h22 :) ?_
 rintro _ _ _ ⟨rfl, rfl, rfl⟩
 refine o_H [.box gb 91 [iI p.v.g.Nts, iI p.v.g.Start, sl A1 L1 C1, sl A2 L2 C2, sl A3 L3 C3, .map (some gb1), .map (some gb2), .map (some gb3)], .mp gb1 (mEnc kForest_span (tenc v_43.2.whole)), .mp gb2 (mEnc kForest_span (tenc v_43.2.counts)), .mp gb3 (mEnc kForest_part (tenc v_43.2.rows)), .box b6 85 [iI n.Rule, iI (IntKind.wrap .i64 (n.Dot - 1)), iI n.From, iI m], .box b4 47 [iI ((at_ ((at_ p.v.g.Rules n.Rule).Rhs) (IntKind.wrap .i64 (n.Dot - 1))).Nt), iU ((at_ ((at_ p.v.g.Rules n.Rule).Rhs) (IntKind.wrap .i64 (n.Dot - 1))).Set.w0), iU ((at_ ((at_ p.v.g.Rules n.Rule).Rhs) (IntKind.wrap .i64 (n.Dot - 1))).Set.w1), iU ((at_ ((at_ p.v.g.Rules n.Rule).Rhs) (IntKind.wrap .i64 (n.Dot - 1))).Set.w2), iU ((at_ ((at_ p.v.g.Rules n.Rule).Rhs) (IntKind.wrap .i64 (n.Dot - 1))).Set.w3)], .box b1 62 (vFNode n A5 L5 C5 A6 L6 C6), .box b 100 [pt gb, .map (some gb4), .map (some gb5), iI p.f.Root, sl A22 L22 C22], .mp gb4 (mEnc kForest_span (tenc v_20)), .mp gb5 (mEnc kForest_part (tenc v_21)), rW A21 L21 C21 108 4 eAlt out3, rW A22 L22 C22 62 7 eFNode Nodes_3] rfl (dN [4, 4, 4, 4, 4, 4, 4, 4] 0 (dw 17 rfl rfl rfl vB (dv 18 rfl vPf (dD ?_))))
 exact sK [0, 0, 0, 0, 0, 0, 0, 0, 0, 0, 0, 0] [0, 1, 2, 3, 4] (hN8 (v_43.1 == 0) v_43.2.whole v_43.2.counts v_43.2.rows hL4)
 intro t121 v_27 v_28 v_29 hL4
 unfold F.forest.packer_ways_j6 at hL4
 refine sat_wc ?_
 refine cC hL4 (fun hL4 => ?_) (fun hL4 => ?_)
 refine c_exit0 ?_
 exact sK [0, 0, 0, 0, 1, 1, 1, 1, 1, 0, 0, 0] [0, 1, 2, 3, 4] (hN5 out3 v_27 v_28 v_29 Nodes_3 v_20 v_21 A21 L21 C21 A22 L22 C22 b6 hL4)
 refine c_skip (sat_wc (c_seq ?_))
 refine cT (fun E H Φ N' => ∀ (Left_ : Int) (Nodes_5 : List FNode) (v_30 : List (Forest_span × Int)) (v_31 : List (Forest_span × Int)) (v_32 : List (Forest_part × Int)) (v_33 : List (Forest_span × Int)) (v_34 : List (Forest_part × Int)) (A27 : OA) (L27 C27 : Nat) (b7 : Nat), F.forest.packer_ways_j7 p n m out3 (F.forest.packer_ways_l4 k n p j) Left_ Nodes_5 v_30 v_31 v_32 v_33 v_34 = some o4 → Sat E [(0, pt b), (1, .agg (vFNode n A5 L5 C5 A6 L6 C6).toArray), (3, pt b1), (4, nS), (5, sl A21 L21 C21), (9, pt b4), (10, iI m), (11, pt b6), (12, pt b7)] [.box b 100 [pt gb, .map (some gb4), .map (some gb5), iI p.f.Root, sl A27 L27 C27], .box gb 91 [iI p.v.g.Nts, iI p.v.g.Start, sl A1 L1 C1, sl A2 L2 C2, sl A3 L3 C3, .map (some gb1), .map (some gb2), .map (some gb3)], .mp gb1 (mEnc kForest_span (tenc v_30)), .mp gb2 (mEnc kForest_span (tenc v_31)), .mp gb3 (mEnc kForest_part (tenc v_32)), .mp gb4 (mEnc kForest_span (tenc v_33)), .mp gb5 (mEnc kForest_part (tenc v_34)), .box b6 85 [iI n.Rule, iI (IntKind.wrap .i64 (n.Dot - 1)), iI n.From, iI m], .box b4 47 [iI ((at_ ((at_ p.v.g.Rules n.Rule).Rhs) (IntKind.wrap .i64 (n.Dot - 1))).Nt), iU ((at_ ((at_ p.v.g.Rules n.Rule).Rhs) (IntKind.wrap .i64 (n.Dot - 1))).Set.w0), iU ((at_ ((at_ p.v.g.Rules n.Rule).Rhs) (IntKind.wrap .i64 (n.Dot - 1))).Set.w1), iU ((at_ ((at_ p.v.g.Rules n.Rule).Rhs) (IntKind.wrap .i64 (n.Dot - 1))).Set.w2), iU ((at_ ((at_ p.v.g.Rules n.Rule).Rhs) (IntKind.wrap .i64 (n.Dot - 1))).Set.w3)], .box b1 62 (vFNode n A5 L5 C5 A6 L6 C6), .box b7 108 [iI n.Rule, iI m, iI Left_, iI (-1)], rW A21 L21 C21 108 4 eAlt out3, rW A27 L27 C27 62 7 eFNode Nodes_5] Φ N') (fun N8 hN8 => ?_) ?_
 refine c_draw (n := 9) [4, 4, 4, 7] mixed rfl rfl (dv 0 rfl (vF 1) (dv 1 rfl (vL 2 ty3) (dv 2 rfl vM (dv 3 rfl vM (dv 4 rfl (vL 0 ty85) ?_)))))
 obtain ⟨v_41, h19, hL4⟩ := bd hL4
 refine d_all [5, 7] (by kernel_rfl) (by simp) ⟨⟨_, rfl, ?_⟩, ⟨_, rfl, ?_⟩, trivial⟩
 refine ocl [7, 0, 0, 0, 0, 3, 3, 4] call65 rfl rfl (subs [2, 3, 4] rfl) (tri65 h19 :) ?_
 rintro _ _ _ ⟨A32, L32, C32, rfl, rfl, rfl⟩
 refine o_H [.box b 100 [pt gb, .map (some gb4), .map (some gb5), iI p.f.Root, sl A32 L32 C32], .box gb 91 [iI p.v.g.Nts, iI p.v.g.Start, sl A1 L1 C1, sl A2 L2 C2, sl A3 L3 C3, .map (some gb1), .map (some gb2), .map (some gb3)], .mp gb1 (mEnc kForest_span (tenc v_41.2.v.whole)), .mp gb2 (mEnc kForest_span (tenc v_41.2.v.counts)), .mp gb3 (mEnc kForest_part (tenc v_41.2.v.rows)), .mp gb4 (mEnc kForest_span (tenc v_41.2.spans)), .mp gb5 (mEnc kForest_part (tenc v_41.2.parts)), rW A32 L32 C32 62 7 eFNode v_41.2.f.Nodes, .box b6 85 [iI n.Rule, iI (IntKind.wrap .i64 (n.Dot - 1)), iI n.From, iI m], .box b4 47 [iI ((at_ ((at_ p.v.g.Rules n.Rule).Rhs) (IntKind.wrap .i64 (n.Dot - 1))).Nt), iU ((at_ ((at_ p.v.g.Rules n.Rule).Rhs) (IntKind.wrap .i64 (n.Dot - 1))).Set.w0), iU ((at_ ((at_ p.v.g.Rules n.Rule).Rhs) (IntKind.wrap .i64 (n.Dot - 1))).Set.w1), iU ((at_ ((at_ p.v.g.Rules n.Rule).Rhs) (IntKind.wrap .i64 (n.Dot - 1))).Set.w2), iU ((at_ ((at_ p.v.g.Rules n.Rule).Rhs) (IntKind.wrap .i64 (n.Dot - 1))).Set.w3)], .box b1 62 (vFNode n A5 L5 C5 A6 L6 C6), rW A21 L21 C21 108 4 eAlt out3] rfl (dN [8, 8, 8, 8] 0 (dv 6 rfl (v_build (v := .agg #[iI n.Rule, iI m, iI v_41.1, iI (-1)]) rfl (fun _ => by kernel_rfl)) (dO 7 rfl (o_alloc zero108 rfl rfl ?_))))
 intro b8
 refine dN [9, 9, 9, 9] 0 (dO 8 rfl ((sT 0 ty108) (dN [9, 9, 9, 9] 0 (dD ?_))))
 exact sK [1, 1, 1, 1, 1, 1, 1, 2, 2, 2, 0, 1, 0] [0, 1, 2, 3, 4] (hN8 v_41.1 v_41.2.f.Nodes v_41.2.v.whole v_41.2.v.counts v_41.2.v.rows v_41.2.spans v_41.2.parts A32 L32 C32 b8 hL4)
 refine o_alloc zero108 rfl rfl fun b8 => dN [5, 5, 5, 8] 0 (dO 5 rfl (ocl [8, 1, 1, 1, 1, 4, 4, 5] call65 rfl rfl (subs [2, 3, 4] rfl) (tri65 h19 :) ?_))
 rintro _ _ _ ⟨A32, L32, C32, rfl, rfl, rfl⟩
 refine o_H [.box b 100 [pt gb, .map (some gb4), .map (some gb5), iI p.f.Root, sl A32 L32 C32], .box gb 91 [iI p.v.g.Nts, iI p.v.g.Start, sl A1 L1 C1, sl A2 L2 C2, sl A3 L3 C3, .map (some gb1), .map (some gb2), .map (some gb3)], .mp gb1 (mEnc kForest_span (tenc v_41.2.v.whole)), .mp gb2 (mEnc kForest_span (tenc v_41.2.v.counts)), .mp gb3 (mEnc kForest_part (tenc v_41.2.v.rows)), .mp gb4 (mEnc kForest_span (tenc v_41.2.spans)), .mp gb5 (mEnc kForest_part (tenc v_41.2.parts)), rW A32 L32 C32 62 7 eFNode v_41.2.f.Nodes, .box b8 108 [iI 0, iI 0, iI 0, iI 0], .box b6 85 [iI n.Rule, iI (IntKind.wrap .i64 (n.Dot - 1)), iI n.From, iI m], .box b4 47 [iI ((at_ ((at_ p.v.g.Rules n.Rule).Rhs) (IntKind.wrap .i64 (n.Dot - 1))).Nt), iU ((at_ ((at_ p.v.g.Rules n.Rule).Rhs) (IntKind.wrap .i64 (n.Dot - 1))).Set.w0), iU ((at_ ((at_ p.v.g.Rules n.Rule).Rhs) (IntKind.wrap .i64 (n.Dot - 1))).Set.w1), iU ((at_ ((at_ p.v.g.Rules n.Rule).Rhs) (IntKind.wrap .i64 (n.Dot - 1))).Set.w2), iU ((at_ ((at_ p.v.g.Rules n.Rule).Rhs) (IntKind.wrap .i64 (n.Dot - 1))).Set.w3)], .box b1 62 (vFNode n A5 L5 C5 A6 L6 C6), rW A21 L21 C21 108 4 eAlt out3] rfl (dN [9, 9, 9, 9] 0 (dv 6 rfl (v_build (v := .agg #[iI n.Rule, iI m, iI v_41.1, iI (-1)]) rfl (fun _ => by kernel_rfl)) (dO 8 rfl ((sT 8 ty108) (dN [9, 9, 9, 9] 0 (dD ?_))))))
 exact sK [0, 0, 0, 0, 0, 0, 0, 2, 2, 2, 1, 1, 0] [0, 1, 2, 3, 4] (hN8 v_41.1 v_41.2.f.Nodes v_41.2.v.whole v_41.2.v.counts v_41.2.v.rows v_41.2.spans v_41.2.parts A32 L32 C32 b8 hL4)
 intro Left_ Nodes_5 v_30 v_31 v_32 v_33 v_34 A27 L27 C27 b7 hL4
 unfold F.forest.packer_ways_j7 at hL4
 refine sat_wc (c_seq (cR ((fD 0) (oV (vL 8 ty3) (oV vB (o_seq ?_))))))
 refine cT (fun E H Φ N' => ∀ (Nodes_6 : List FNode) (v_35 : List (Forest_span × Int)) (v_36 : List (Forest_span × Int)) (v_37 : List (Forest_part × Int)) (v_38 : List (Forest_span × Int)) (v_39 : List (Forest_part × Int)) (Right_ : Int) (A28 : OA) (L28 C28 : Nat), F.forest.packer_ways_j8 out3 n m Left_ (F.forest.packer_ways_l4 k n p j) Nodes_6 v_35 v_36 v_37 v_38 v_39 Right_ = some o4 → Sat E [(0, pt b), (1, .agg (vFNode n A5 L5 C5 A6 L6 C6).toArray), (3, pt b1), (4, nS), (5, sl A21 L21 C21), (9, pt b4), (10, iI m), (11, pt b6), (12, pt b7)] [.box b 100 [pt gb, .map (some gb4), .map (some gb5), iI p.f.Root, sl A28 L28 C28], .box gb 91 [iI p.v.g.Nts, iI p.v.g.Start, sl A1 L1 C1, sl A2 L2 C2, sl A3 L3 C3, .map (some gb1), .map (some gb2), .map (some gb3)], .mp gb1 (mEnc kForest_span (tenc v_35)), .mp gb2 (mEnc kForest_span (tenc v_36)), .mp gb3 (mEnc kForest_part (tenc v_37)), .mp gb4 (mEnc kForest_span (tenc v_38)), .mp gb5 (mEnc kForest_part (tenc v_39)), .box b6 85 [iI n.Rule, iI (IntKind.wrap .i64 (n.Dot - 1)), iI n.From, iI m], .box b4 47 [iI ((at_ ((at_ p.v.g.Rules n.Rule).Rhs) (IntKind.wrap .i64 (n.Dot - 1))).Nt), iU ((at_ ((at_ p.v.g.Rules n.Rule).Rhs) (IntKind.wrap .i64 (n.Dot - 1))).Set.w0), iU ((at_ ((at_ p.v.g.Rules n.Rule).Rhs) (IntKind.wrap .i64 (n.Dot - 1))).Set.w1), iU ((at_ ((at_ p.v.g.Rules n.Rule).Rhs) (IntKind.wrap .i64 (n.Dot - 1))).Set.w2), iU ((at_ ((at_ p.v.g.Rules n.Rule).Rhs) (IntKind.wrap .i64 (n.Dot - 1))).Set.w3)], .box b1 62 (vFNode n A5 L5 C5 A6 L6 C6), .box b7 108 [iI n.Rule, iI m, iI Left_, iI Right_], rW A21 L21 C21 108 4 eAlt out3, rW A28 L28 C28 62 7 eFNode Nodes_6] Φ N') (fun N8 hN8 => ?_) ?_
 refine cC hL4 (fun hL4 => ?_) (fun hL4 => ?_)
 refine c_region (oV vM ((fD 0) (oV (vL 8 ty3) (oV vM ((fD 4) (oV (vL 9 ty3) (oV (vU (.agg #[iI ((at_ ((at_ p.v.g.Rules n.Rule).Rhs) (IntKind.wrap .i64 (n.Dot - 1))).Nt), iI m, iI n.To])) ?_)))))))
 obtain ⟨v_40, h18, hL4⟩ := bd hL4
 refine ocl [0, 0, 0, 0, 0, 0, 0, 5] call45 rfl rfl (subs [2, 3, 4] rfl) (tri45 h18 :) ?_
 rintro _ _ _ ⟨A31, L31, C31, rfl, rfl, rfl⟩
 refine o_H [.box b 100 [pt gb, .map (some gb4), .map (some gb5), iI p.f.Root, sl A31 L31 C31], .box gb 91 [iI p.v.g.Nts, iI p.v.g.Start, sl A1 L1 C1, sl A2 L2 C2, sl A3 L3 C3, .map (some gb1), .map (some gb2), .map (some gb3)], .mp gb1 (mEnc kForest_span (tenc v_40.2.v.whole)), .mp gb2 (mEnc kForest_span (tenc v_40.2.v.counts)), .mp gb3 (mEnc kForest_part (tenc v_40.2.v.rows)), .mp gb4 (mEnc kForest_span (tenc v_40.2.spans)), .mp gb5 (mEnc kForest_part (tenc v_40.2.parts)), rW A31 L31 C31 62 7 eFNode v_40.2.f.Nodes, .box b6 85 [iI n.Rule, iI (IntKind.wrap .i64 (n.Dot - 1)), iI n.From, iI m], .box b4 47 [iI ((at_ ((at_ p.v.g.Rules n.Rule).Rhs) (IntKind.wrap .i64 (n.Dot - 1))).Nt), iU ((at_ ((at_ p.v.g.Rules n.Rule).Rhs) (IntKind.wrap .i64 (n.Dot - 1))).Set.w0), iU ((at_ ((at_ p.v.g.Rules n.Rule).Rhs) (IntKind.wrap .i64 (n.Dot - 1))).Set.w1), iU ((at_ ((at_ p.v.g.Rules n.Rule).Rhs) (IntKind.wrap .i64 (n.Dot - 1))).Set.w2), iU ((at_ ((at_ p.v.g.Rules n.Rule).Rhs) (IntKind.wrap .i64 (n.Dot - 1))).Set.w3)], .box b1 62 (vFNode n A5 L5 C5 A6 L6 C6), .box b7 108 [iI n.Rule, iI m, iI Left_, iI (-1)], rW A21 L21 C21 108 4 eAlt out3] rfl ((fD 3) ((sT 11 ty3) (o_nil ?_)))
 exact sK [0, 0, 0, 0, 0, 0, 0, 1, 1, 1, 1, 1, 0] [0, 1, 2, 3, 4] (hN8 v_40.2.f.Nodes v_40.2.v.whole v_40.2.v.counts v_40.2.v.rows v_40.2.spans v_40.2.parts v_40.1 A31 L31 C31 hL4)
 refine c_skip ?_
 exact sK [0, 0, 0, 0, 0, 0, 0, 0, 0, 0, 0, 0, 0] [0, 1, 2, 3, 4] (hN8 Nodes_5 v_30 v_31 v_32 v_33 v_34 (-1) A27 L27 C27 hL4)
 intro Nodes_6 v_35 v_36 v_37 v_38 v_39 Right_ A28 L28 C28 hL4
 unfold F.forest.packer_ways_j8 at hL4
 refine sat_wc (c_region (oV vM (oV (vL 10 ty108) (o_buildSlice (enc := eAlt) ([(Alt.mk n.Rule m Left_ Right_)] : List Alt) [iI n.Rule, iI m, iI Left_, iI Right_] sl60 rfl (fun _ => by kernel_rfl) rfl rfl rfl (.s rfl (.s rfl (.s rfl (.s rfl (.nil))))) rfl ?_))))
 intro A29 L29 C29
 refine ite_some hL4 fun h15 hL4 => ite_some hL4 fun h16 hL4 => o_append (enc := eAlt) (xs := out3) (ys := ([(Alt.mk n.Rule m Left_ Right_)] : List Alt)) 12 sl60 rfl rfl rfl (.r 0 _ rfl) h15 h16 rfl fun A30 L30 C30 => o_H [rW A29 L29 C29 108 4 eAlt ([(Alt.mk n.Rule m Left_ Right_)] : List Alt), .box b 100 [pt gb, .map (some gb4), .map (some gb5), iI p.f.Root, sl A28 L28 C28], .box gb 91 [iI p.v.g.Nts, iI p.v.g.Start, sl A1 L1 C1, sl A2 L2 C2, sl A3 L3 C3, .map (some gb1), .map (some gb2), .map (some gb3)], .mp gb1 (mEnc kForest_span (tenc v_35)), .mp gb2 (mEnc kForest_span (tenc v_36)), .mp gb3 (mEnc kForest_part (tenc v_37)), .mp gb4 (mEnc kForest_span (tenc v_38)), .mp gb5 (mEnc kForest_part (tenc v_39)), .box b6 85 [iI n.Rule, iI (IntKind.wrap .i64 (n.Dot - 1)), iI n.From, iI m], .box b4 47 [iI ((at_ ((at_ p.v.g.Rules n.Rule).Rhs) (IntKind.wrap .i64 (n.Dot - 1))).Nt), iU ((at_ ((at_ p.v.g.Rules n.Rule).Rhs) (IntKind.wrap .i64 (n.Dot - 1))).Set.w0), iU ((at_ ((at_ p.v.g.Rules n.Rule).Rhs) (IntKind.wrap .i64 (n.Dot - 1))).Set.w1), iU ((at_ ((at_ p.v.g.Rules n.Rule).Rhs) (IntKind.wrap .i64 (n.Dot - 1))).Set.w2), iU ((at_ ((at_ p.v.g.Rules n.Rule).Rhs) (IntKind.wrap .i64 (n.Dot - 1))).Set.w3)], .box b1 62 (vFNode n A5 L5 C5 A6 L6 C6), .box b7 108 [iI n.Rule, iI m, iI Left_, iI Right_], .row (sl A30 L30 C30) 108 4 ((out3 ++ ([(Alt.mk n.Rule m Left_ Right_)] : List Alt)).map eAlt), rW A28 L28 C28 62 7 eFNode Nodes_6] rfl (oV vA (o_nil ?_))
 exact sK [2, 2, 2, 2, 5, 5, 1, 1, 1, 1, 2, 2] [0, 1, 2, 3, 4] (hN5 (out3 ++ ([(Alt.mk n.Rule m Left_ Right_)] : List Alt)) v_35 v_36 v_37 Nodes_6 v_38 v_39 A30 L30 C30 A28 L28 C28 b6 hL4)
 intro out4 v_22 v_23 v_24 Nodes_4 v_25 v_26 A25 L25 C25 A26 L26 C26 b5 hL4
 unfold F.forest.packer_ways_j5 at hL4
 refine sat_wc (c_region (oV vM (oV vB (oV vA (o_nil ?_)))))
 exact lp [4, 4, 4, 0, 0, 0, 0, 0, 0, 1, 1] [0, 1, 2, 3, 4] fun a w hs => ⟨out4, IntKind.wrap .i64 (m + 1), Nodes_4, v_22, v_23, v_24, v_25, v_26, A25, L25, C25, A26, L26, C26, hL4, hs⟩
 refine c_exit0 ?_
 cases hL4
 exact sK [0, 0, 0, 0, 0, 0, 0, 0, 0, 0, 0] [0, 1, 2, 3, 4] (hN4 A21 L21 C21 A22 L22 C22)
 intro A23 L23 C23 A24 L24 C24
 refine sat_wc (cR (oV vM (oV vA (o_seq (c_ret ?_)))))
 cases hF
 refine s_ret1 rfl (r_tmp rfl) fun a w hs => fin_sel hs [2, 2, 2, 2, 2, 2, 2, 3, 2] ⟨A23, L23, C23, A24, L24, C24, rfl, rfl, rfl⟩ rfl sub_nil
theorem tri22 {k : Nat} {g_ : Gram} {w__ : List Int} {r : Forest × Int} (hF : F.forest.Build k g_ w__ = some r) :
    Tri Try.prog 22 [.agg (vGram g_ A1 L1 C1).toArray, sl A2 L2 C2] [] [fS A1 L1 C1 2 eRule g_.Rules, fS A2 L2 C2 1 eU8 w__] (fun o H Φ => ∃ (A13 : OA) (L13 C13 : Nat), o = .ret (.tuple #[.agg #[iI r.1.Root, sl A13 L13 C13], iI r.2]) ∧ H = [] ∧ Φ = [fS A13 L13 C13 7 eFNode r.1.Nodes]) := by
 unfold F.forest.Build at hF
 refine tri_intro (n := 74) Try.func22 rfl Try.ntmps22 rfl fun w X => cR (o_box rfl rfl rfl fun b => o_alloc zero53 rfl rfl fun b1 => oV vA (o_seq (c_seq (cR (oV (vL 1 ty24) (oV vM ?_))))))
 obtain ⟨v_, h1, hF⟩ := bd hF
 refine o_callSB call30 rfl (lent_f 0 rfl (lent_f 1 rfl lent_nil)) (tri30 h1 :) rfl (oV vA (o_seq (cR (oV vM (oV vB (o_seq ?_))))))
 refine cC hF (fun hF => ?_) (fun hF => ?_)
 refine cR (oV (vU (.agg #[iI 0, nS])) (oV vM ((sT 0 ty53) (oV vA (o_seq (c_ret ?_))))))
 cases hF
 refine s_st (st_nilfact 7) (s_ret2 rfl (r_cell 0 rfl ty53 rfl rfl rfl rfl) (r_tmp rfl) fun a w hs => fin_sel hs [] ⟨none, 0, 0, rfl, rfl, rfl⟩ rfl (subs [0] rfl))
 refine c_skip (sat_wc (cR (oV (vL 1 ty24) (oV vM ?_))))
 obtain ⟨v_1, h3, hF⟩ := bd hF
 refine o_call0 call31 rfl (subs [0, 1] rfl) (tri31 h3 :) rfl ?_
 rintro _ _ _ ⟨gb, A3, L3, C3, A4, L4, C4, A5, L5, C5, gb1, gb2, gb3, rfl, rfl, rfl⟩
 refine o_makeMap rfl fun b2 => o_makeMap rfl fun b3 => oV (vU (.agg #[pt gb, .map (some b2), .map (some b3), iI 0, nS])) (o_box rfl rfl rfl ?_)
 intro b4
 refine oV vA (o_seq (cR ((fD 1) (oV (vL 8 ty3) (oV vM (oV (v_lenS (enc := eU8) w__ sl25 rfl (.f 4 rfl)) (oV (vU (.agg #[iI g_.Start, iI 0, iI (w__.length : Int)])) (o_alloc zero73 rfl rfl ?_))))))))
 intro b5
 refine (sT 0 ty73) (o_seq ?_)
 refine c_seq (c_seq (c_draw (n := 7) [0, 0, 0, 0, 4, 4] mixed rfl rfl (dv 0 rfl vM (dv 1 rfl vC (dv 2 rfl (vF 0) (dv 3 rfl (vL 1 ty69) (dv 4 rfl (vL 0 ty73) (dO 5 rfl ?_))))))))
 obtain ⟨v_2, h4, hF⟩ := bd hF
 refine ocl [4, 4, 4, 4] call32 rfl rfl (subs [0, 1, 2] rfl) (tri32 h4 :) ?_
 rintro _ _ _ ⟨rfl, rfl, rfl⟩
 refine o_H [.box gb 91 [iI v_1.g.Nts, iI v_1.g.Start, sl A3 L3 C3, sl A4 L4 C4, sl A5 L5 C5, .map (some gb1), .map (some gb2), .map (some gb3)], .mp gb1 (mEnc kForest_span (tenc v_2.2.whole)), .mp gb2 (mEnc kForest_span (tenc v_2.2.counts)), .mp gb3 (mEnc kForest_part (tenc v_2.2.rows)), .box b5 73 [iI g_.Start, iI 0, iI (w__.length : Int)], .box b4 100 [pt gb, .map (some b2), .map (some b3), iI 0, nS], .mp b3 (mEnc kForest_part (tenc ([] : List (Forest_part × Int)))), .mp b2 (mEnc kForest_span (tenc ([] : List (Forest_span × Int)))), .box b1 53 [iI 0, nS], .box b 24 (vGram g_ A1 L1 C1)] rfl (dN [4, 4, 4, 4, 4, 4] 0 (dv 6 rfl vB (d_done_seq (by kernel_rfl) ?_)))
 refine cC hF (fun hF => ?_) (fun hF => ?_)
 refine cR (oV (vU (.agg #[iI (-1), nS])) ((sT 8 ty53) (oV vA (o_seq (c_ret ?_)))))
 cases hF
 refine s_st (st_nilfact 7) (s_ret2 rfl (r_cell 8 rfl ty53 rfl rfl rfl rfl) (r_tmp rfl) fun a w hs => fin_sel hs [] ⟨none, 0, 0, rfl, rfl, rfl⟩ rfl (subs [0] rfl))
 refine c_skip (sat_wc (cR (oV vM (oV (vL 4 ty73) ?_))))
 obtain ⟨v_3, h6, hF⟩ := bd hF
 refine o_st (st_nilrow 62 7) (ocl [6, 1, 1, 1, 1, 3, 2, 0] call45 rfl rfl (subs [0, 1, 2] rfl) (tri45 h6 :) ?_)
 rintro _ _ _ ⟨A6, L6, C6, rfl, rfl, rfl⟩
 refine o_H [.box b4 100 [pt gb, .map (some b2), .map (some b3), iI 0, sl A6 L6 C6], .box gb 91 [iI v_1.g.Nts, iI v_1.g.Start, sl A3 L3 C3, sl A4 L4 C4, sl A5 L5 C5, .map (some gb1), .map (some gb2), .map (some gb3)], .mp gb1 (mEnc kForest_span (tenc v_3.2.v.whole)), .mp gb2 (mEnc kForest_span (tenc v_3.2.v.counts)), .mp gb3 (mEnc kForest_part (tenc v_3.2.v.rows)), .mp b2 (mEnc kForest_span (tenc v_3.2.spans)), .mp b3 (mEnc kForest_part (tenc v_3.2.parts)), rW A6 L6 C6 62 7 eFNode v_3.2.f.Nodes, .box b5 73 [iI g_.Start, iI 0, iI (w__.length : Int)], .box b1 53 [iI 0, nS], .box b 24 (vGram g_ A1 L1 C1)] rfl (o_seq (c_seq (cR (oV vA (o_seq ?_)))))
 obtain ⟨o1, ho1, hF⟩ := bd hF
 refine c_cut (fun E N' => ∀ (A8 : OA) (L8 C8 : Nat), Sat E [(0, .agg (vGram g_ A1 L1 C1).toArray), (1, sl A2 L2 C2), (2, pt b), (4, pt b1), (5, iI 0), (6, iI v_), (7, pt b4), (8, pt b5)] [.box b4 100 [pt gb, .map (some b2), .map (some b3), iI 0, sl A8 L8 C8], .box gb 91 [iI v_1.g.Nts, iI v_1.g.Start, sl A3 L3 C3, sl A4 L4 C4, sl A5 L5 C5, .map (some gb1), .map (some gb2), .map (some gb3)], .mp gb1 (mEnc kForest_span (tenc o1.2.1)), .mp gb2 (mEnc kForest_span (tenc o1.2.2.1)), .mp gb3 (mEnc kForest_part (tenc o1.2.2.2.1)), .mp b2 (mEnc kForest_span (tenc o1.2.2.2.2.1)), .mp b3 (mEnc kForest_part (tenc o1.2.2.2.2.2)), .box b5 73 [iI g_.Start, iI 0, iI (w__.length : Int)], .box b1 53 [iI 0, nS], .box b 24 (vGram g_ A1 L1 C1), rW A8 L8 C8 62 7 eFNode o1.1] [fS A1 L1 C1 2 eRule g_.Rules, fS A2 L2 C2 1 eU8 w__, fS A3 L3 C3 2 eRule v_1.g.Rules, fS A4 L4 C4 1 eU8 v_1.w_, fS A5 L5 C5 1 (eSl 1 eI64) v_1.by_] N') (fun N1 hN1 => ?_) ?_
 refine c_block ?_
 refine c_loopE (fun E j a w => ∃ (i : Int) (Nodes_ : List FNode) (v_4 : List (Forest_span × Int)) (v_5 : List (Forest_span × Int)) (v_6 : List (Forest_part × Int)) (v_7 : List (Forest_span × Int)) (v_8 : List (Forest_part × Int)) (A7 : OA) (L7 C7 : Nat), F.forest.Build_l1 k v_1 j i Nodes_ v_4 v_5 v_6 v_7 v_8 = some o1 ∧ St E [(0, .agg (vGram g_ A1 L1 C1).toArray), (1, sl A2 L2 C2), (2, pt b), (4, pt b1), (5, iI 0), (6, iI v_), (7, pt b4), (8, pt b5), (9, iI i)] [.box b4 100 [pt gb, .map (some b2), .map (some b3), iI 0, sl A7 L7 C7], .box gb 91 [iI v_1.g.Nts, iI v_1.g.Start, sl A3 L3 C3, sl A4 L4 C4, sl A5 L5 C5, .map (some gb1), .map (some gb2), .map (some gb3)], .mp gb1 (mEnc kForest_span (tenc v_4)), .mp gb2 (mEnc kForest_span (tenc v_5)), .mp gb3 (mEnc kForest_part (tenc v_6)), .mp b2 (mEnc kForest_span (tenc v_7)), .mp b3 (mEnc kForest_part (tenc v_8)), .box b5 73 [iI g_.Start, iI 0, iI (w__.length : Int)], .box b1 53 [iI 0, nS], .box b 24 (vGram g_ A1 L1 C1), rW A7 L7 C7 62 7 eFNode Nodes_] [fS A1 L1 C1 2 eRule g_.Rules, fS A2 L2 C2 1 eU8 w__, fS A3 L3 C3 2 eRule v_1.g.Rules, fS A4 L4 C4 1 eU8 v_1.w_, fS A5 L5 C5 1 (eSl 1 eI64) v_1.by_] a w) k ?_ ?_
 exact lq [0, 0, 0, 0, 0, 0, 0, 1, 1, 1, 0] [3, 4, 0, 1, 2] fun a w hs => ⟨0, v_3.2.f.Nodes, v_3.2.v.whole, v_3.2.v.counts, v_3.2.v.rows, v_3.2.spans, v_3.2.parts, A6, L6, C6, ho1, hs⟩
 rintro j a w ⟨i, Nodes_, v_4, v_5, v_6, v_7, v_8, A7, L7, C7, hL1, hs⟩
 rcases j with _ | j
 cases hL1
 refine wc_app hs ?_
 unfold F.forest.Build_l1 at hL1
 refine c_seq (cR (oV vM (oV vM (oV vC ((fD 3) ((fD 4) (oV (vL 0 ty51) (oV (v_lenS (enc := eFNode) Nodes_ sl51 rfl (.r 10 _ rfl)) (oV vB (o_seq ?_))))))))))
 refine cC hL1 (fun hL1 => ?_) (fun hL1 => ?_)
 refine c_skip (sat_wc (c_seq (c_block (cR (oV vM (oV vM (oV vC ((fD 3) ((fD 4) (oV (vL 0 ty51) (oV vM (ite_some hL1 ?_))))))))))))
 intro h8 hL1
 refine oV (v_indexAddr_s (xs := Nodes_) (enc := eFNode) sl51 rfl rfl (.r 10 _ rfl) h8) (o_load_s (xs := Nodes_) (enc := eFNode) ty62 rfl (.r 10 _ rfl) h8 rfl rfl rfl rfl rfl rfl ?_)
 intro A9 L9 C9 A10 L10 C10
 refine ?_
 obtain ⟨v_9, h9, hL1⟩ := bd hL1
 refine ocl [0, 0, 0, 0, 0, 0, 0, 3] call46 rfl rfl (subs [4, 5, 6, 0, 1] rfl) (tri46 h9 :) ?_
 rintro _ _ _ ⟨A11, L11, C11, A12, L12, C12, rfl, rfl, rfl⟩
 refine o_H [.box b4 100 [pt gb, .map (some b2), .map (some b3), iI 0, sl A12 L12 C12], .box gb 91 [iI v_1.g.Nts, iI v_1.g.Start, sl A3 L3 C3, sl A4 L4 C4, sl A5 L5 C5, .map (some gb1), .map (some gb2), .map (some gb3)], .mp gb1 (mEnc kForest_span (tenc v_9.2.v.whole)), .mp gb2 (mEnc kForest_span (tenc v_9.2.v.counts)), .mp gb3 (mEnc kForest_part (tenc v_9.2.v.rows)), .mp b2 (mEnc kForest_span (tenc v_9.2.spans)), .mp b3 (mEnc kForest_part (tenc v_9.2.parts)), rW A12 L12 C12 62 7 eFNode v_9.2.f.Nodes, rW A11 L11 C11 108 4 eAlt v_9.1, .box b5 73 [iI g_.Start, iI 0, iI (w__.length : Int)], .box b1 53 [iI 0, nS], .box b 24 (vGram g_ A1 L1 C1)] rfl (oV vA (o_seq (c_region (oV vM (oV vC ((fD 3) ((fD 4) (oV (vL 0 ty51) (oV vM (oV vM (ite_some hL1 ?_)))))))))))
 intro h10 hL1
 refine oV (v_indexAddr_s (xs := v_9.2.f.Nodes) (enc := eFNode) sl51 rfl rfl (.r 7 _ rfl) h10) (oV (v_fieldAddr (v := .pointer (some ⟨blkA A12, offA A12 + (Int.toNat i * 7 + 6), none⟩)) rfl (fun _ => by kernel_rfl)) (o_st (st_freeze 8 rfl) (o_store_s (xs := v_9.2.f.Nodes) (enc := eFNode) 7 (FNode.mk ((at_ v_9.2.f.Nodes i).Nt) ((at_ v_9.2.f.Nodes i).Rule) ((at_ v_9.2.f.Nodes i).Dot) ((at_ v_9.2.f.Nodes i).From) ((at_ v_9.2.f.Nodes i).To) ((at_ v_9.2.f.Nodes i).Ban) v_9.1) rfl ty60 rfl rfl rfl rfl h10 (.f 0 rfl (.nil)) rfl rfl rfl ?_)))
 refine o_H [.box b4 100 [pt gb, .map (some b2), .map (some b3), iI 0, sl A12 L12 C12], .box gb 91 [iI v_1.g.Nts, iI v_1.g.Start, sl A3 L3 C3, sl A4 L4 C4, sl A5 L5 C5, .map (some gb1), .map (some gb2), .map (some gb3)], .mp gb1 (mEnc kForest_span (tenc v_9.2.v.whole)), .mp gb2 (mEnc kForest_span (tenc v_9.2.v.counts)), .mp gb3 (mEnc kForest_part (tenc v_9.2.v.rows)), .mp b2 (mEnc kForest_span (tenc v_9.2.spans)), .mp b3 (mEnc kForest_part (tenc v_9.2.parts)), .row (sl A12 L12 C12) 62 7 ((set_ v_9.2.f.Nodes i (FNode.mk ((at_ v_9.2.f.Nodes i).Nt) ((at_ v_9.2.f.Nodes i).Rule) ((at_ v_9.2.f.Nodes i).Dot) ((at_ v_9.2.f.Nodes i).From) ((at_ v_9.2.f.Nodes i).To) ((at_ v_9.2.f.Nodes i).Ban) v_9.1)).map eFNode), .box b5 73 [iI g_.Start, iI 0, iI (w__.length : Int)], .box b1 53 [iI 0, nS], .box b 24 (vGram g_ A1 L1 C1)] rfl (o_nil (sat_wc (c_region (oV vM (oV vB (oV vA (o_nil ?_)))))))
 exact lp [0, 0, 0, 0, 0, 0, 0, 1, 1, 1, 0] [3, 4, 5, 6, 7] fun a w hs => ⟨IntKind.wrap .i64 (i + 1), set_ v_9.2.f.Nodes i (FNode.mk ((at_ v_9.2.f.Nodes i).Nt) ((at_ v_9.2.f.Nodes i).Rule) ((at_ v_9.2.f.Nodes i).Dot) ((at_ v_9.2.f.Nodes i).From) ((at_ v_9.2.f.Nodes i).To) ((at_ v_9.2.f.Nodes i).Ban) v_9.1), v_9.2.v.whole, v_9.2.v.counts, v_9.2.v.rows, v_9.2.spans, v_9.2.parts, A12, L12, C12, hL1, hs⟩
 refine c_exit0 ?_
 cases hL1
 exact sK [0, 0, 0, 0, 0, 0, 0, 0, 0, 0, 0] [0, 1, 2, 3, 4] (hN1 A7 L7 C7)
 intro A8 L8 C8
 refine sat_wc (cR (oV vM (oV vC ((fD 3) (oV (vL 0 ty53) ((sT 8 ty53) (oV vA (o_seq (c_ret ?_)))))))))
 cases hF
 refine s_st (st_freeze 10 rfl) (s_ret2 rfl (r_cell 8 rfl ty53 rfl rfl rfl rfl) (r_tmp rfl) fun a w hs => fin_sel hs [] ⟨A8, L8, C8, rfl, rfl, rfl⟩ rfl (subs [0] rfl))
theorem tri12 {k : Nat} {r : Bool} (hF : F.law08.alive k = some r) :
    Tri Try.prog 12 [] [] [] (oR (bV r)) := by
 unfold F.law08.alive at hF
 refine tri_intro (n := 86) Try.func12 rfl Try.ntmps12 rfl fun w X => cR (oV vA (o_seq (cR ?_)))
 obtain ⟨v_, h1, hF⟩ := bd hF
 refine o_call0 call29 rfl sub_nil (tri29 h1 :) rfl ?_
 rintro _ _ _ ⟨A1, L1, C1, rfl, rfl, rfl⟩
 refine o_buildSlice (enc := eU8) ([49, 43, 49, 43, 49] : List Int) [iB 49, iB 43, iB 49, iB 43, iB 49] sl25 rfl (fun _ => by kernel_rfl) rfl rfl rfl (.s rfl (.s rfl (.s rfl (.s rfl (.s rfl (.nil)))))) rfl fun A2 L2 C2 => o_convBytes 0 Try.underlying25 Try.underlying5 rfl rfl rfl rfl ?_
 obtain ⟨v_1, h2, hF⟩ := bd hF
 refine o_callSB call13 rfl (lent_f 1 rfl (lent_f 0 rfl lent_nil)) (tri13 h2 :) rfl (oV vM (oV vX (oV vX (oV vA (oV vA (o_seq (cR (o_call0 call29 rfl sub_nil (tri29 h1 :) rfl ?_))))))))
 rintro _ _ _ ⟨A3, L3, C3, rfl, rfl, rfl⟩
 refine o_buildSlice (enc := eU8) ([49, 43, 49, 43, 49] : List Int) [iB 49, iB 43, iB 49, iB 43, iB 49] sl25 rfl (fun _ => by kernel_rfl) rfl rfl rfl (.s rfl (.s rfl (.s rfl (.s rfl (.s rfl (.nil)))))) rfl fun A4 L4 C4 => o_convBytes 0 Try.underlying25 Try.underlying5 rfl rfl rfl rfl ?_
 obtain ⟨v_2, h3, hF⟩ := bd hF
 refine o_call0 call15 rfl (subs [1, 0] rfl) (tri15 h3 :) rfl ?_
 rintro _ _ _ ⟨A5, L5, C5, rfl, rfl, rfl⟩
 refine oV vM (oV vX (oV vX (oV vA (oV vA (o_seq (cR (o_call0 call29 rfl sub_nil (tri29 h1 :) rfl ?_)))))))
 rintro _ _ _ ⟨A6, L6, C6, rfl, rfl, rfl⟩
 refine o_buildSlice (enc := eU8) ([49] : List Int) [iB 49] sl25 rfl (fun _ => by kernel_rfl) rfl rfl rfl (.s rfl (.nil)) rfl fun A7 L7 C7 => o_convBytes 0 Try.underlying25 Try.underlying5 rfl rfl rfl rfl ?_
 obtain ⟨v_3, h4, hF⟩ := bd hF
 refine o_call0 call22 rfl (subs [1, 0] rfl) (tri22 h4 :) rfl ?_
 rintro _ _ _ ⟨A8, L8, C8, rfl, rfl, rfl⟩
 refine oV vM (oV vX (oV vX (o_alloc zero53 rfl rfl ?_)))
 intro b
 refine (sT 0 ty53) (oV vA (o_seq (cR (oV (vU (.agg #[iI 0, iU 0, iU 0, iU 0, iU 0])) (o_buildSlice (enc := eKSym) ([(KSym.mk 0 (S4.mk 0 0 0 0))] : List KSym) [iI 0, iU 0, iU 0, iU 0, iU 0] sl48 rfl (fun _ => by kernel_rfl) rfl rfl rfl (.s rfl (.s rfl (.s rfl (.s rfl (.s rfl (.nil)))))) rfl ?_)))))
 intro A9 L9 C9
 refine oV (vU (.agg #[iI 0, sl A9 L9 C9])) (o_st (st_freeze 0 rfl) (o_buildSlice (enc := eRule) ([(Rule.mk 0 ([(KSym.mk 0 (S4.mk 0 0 0 0))] : List KSym))] : List Rule) [iI 0, sl A9 L9 C9] sl22 rfl (fun _ => by kernel_rfl) rfl rfl rfl (.s rfl (.f 0 rfl (.nil))) rfl ?_))
 intro A10 L10 C10
 refine oV (vU (.agg #[iI 1, iI 0, sl A10 L10 C10])) ?_
 obtain ⟨v_4, h5, hF⟩ := bd hF
 refine o_st (st_nilfact 1) (o_callSB call13 rfl (lent_r 0 rfl (lent_f 0 rfl lent_nil)) (tri13 h5 :) rfl (oV vM (oV vX (oV vX (oV vA (oV vA (o_seq (c_seq ?_))))))))
 refine c_cut (fun E N' => ∀ (t0 : Bool), F.law08.alive_j1 t0 = some r → Sat E [(0, bV t0), (5, pt b)] [.box b 53 [iI v_3.1.Root, sl A8 L8 C8]] [fS A8 L8 C8 7 eFNode v_3.1.Nodes] N') (fun N1 hN1 => ?_) ?_
 refine c_region (oV vM (oV vB (oV vM ?_)))
 refine oS 41 hF (fun hF => ?_) (fun hF => ?_)
 refine oN (oV vM (oN (oV vB (oV vPt (oV vM ?_)))))
 refine oS 45 hF (fun hF => ?_) (fun hF => ?_)
 refine oN (oV vM (oN (oV vB (oV vPt (oV vM ?_)))))
 refine oS 49 hF (fun hF => ?_) (fun hF => ?_)
 refine oN (oV vM (oN (oV (v_lenS (enc := eTree) v_2.1 sl31 rfl (.r 2 _ rfl)) (oN (oV vB (oV vPt (oV vM ?_)))))))
 refine oS 54 hF (fun hF => ?_) (fun hF => ?_)
 refine oN (oV vM (oN (ite_some hF ?_)))
 intro h10 hF
 refine oV (v_indexAddr_s (xs := v_2.1) (enc := eTree) sl31 rfl rfl (.r 2 _ rfl) h10) (oN (oV (v_fieldAddr (v := .pointer (some ⟨blkA A5, offA A5 + (Int.toNat 0 * 3 + 2), none⟩)) rfl (fun _ => by kernel_rfl)) (oN (o_load_s (ds := [.slice 3 (((at_ v_2.1 0).Kids).map eTree)]) (xs := v_2.1) (enc := eTree) ty31 rfl (.r 2 _ rfl) h10 (by simp only [eTree_eq] <;> rfl) rfl rfl rfl rfl rfl ?_))))
 intro A11 L11 C11
 refine oN (oV (v_lenS (enc := eTree) ((at_ v_2.1 0).Kids) sl31 rfl (.f 0 rfl)) (oN (oV vB (oV vPt (oV vM ?_)))))
 refine oS 62 hF (fun hF => ?_) (fun hF => ?_)
 refine oN (oV vM (oN (oV (v_indexAddr_s (xs := v_2.1) (enc := eTree) sl31 rfl rfl (.r 2 _ rfl) h10) (oN (oV (v_fieldAddr (v := .pointer (some ⟨blkA A5, offA A5 + (Int.toNat 0 * 3 + 2), none⟩)) rfl (fun _ => by kernel_rfl)) (oN (o_load_s (ds := [.slice 3 (((at_ v_2.1 0).Kids).map eTree)]) (xs := v_2.1) (enc := eTree) ty31 rfl (.r 2 _ rfl) h10 (by simp only [eTree_eq] <;> rfl) rfl rfl rfl rfl rfl ?_)))))))
 intro A12 L12 C12
 refine oN (ite_some hF ?_)
 intro h12 hF
 refine oV (v_indexAddr_s (xs := (at_ v_2.1 0).Kids) (enc := eTree) sl31 rfl rfl (.f 0 rfl) h12) (oN (oV (v_fieldAddr (v := .pointer (some ⟨blkA A12, offA A12 + (Int.toNat 0 * 3 + 0), none⟩)) rfl (fun _ => by kernel_rfl)) (oN (oV (v_load_s (ds := [.int .i64 ((at_ ((at_ v_2.1 0).Kids) 0).Rule)]) (xs := (at_ v_2.1 0).Kids) (enc := eTree) ty3 rfl (.f 0 rfl) h12 (by simp only [eTree_eq] <;> rfl) rfl rfl rfl rfl rfl rfl) (oN ?_)))))
 refine oV vB (oV vPt (oV vM ?_))
 refine oS 72 hF (fun hF => ?_) (fun hF => ?_)
 refine oN (oV vM (oN (oV vB (oV vPt (oV vM ?_)))))
 refine oS 76 hF (fun hF => ?_) (fun hF => ?_)
 refine oN ((fD 1) (oN (oV (vL 1 ty51) (oN (oV (v_lenS (enc := eFNode) v_3.1.Nodes sl51 rfl (.f 4 rfl)) (oN (oV vB (oV vPt (oV vM ?_)))))))))
 refine oS 82 hF (fun hF => ?_) (fun hF => ?_)
 refine oN (oV vM (oN (oV vB (oV vPt (oV vA (o_nil ?_))))))
 exact sK [1] [4] (hN1 (v_4.2 == 48) hF)
 refine oF (oF (oV vPf (oV vA (o_nil ?_))))
 exact sK [1] [4] (hN1 false hF)
 refine oF (oF (oF (oF (oV vPf (oV vM (oF (oF (oV vPf (oV vA (o_nil ?_))))))))))
 exact sK [1] [4] (hN1 false hF)
 refine oF (oF (oV vPf (oV vM (oF (oF (oF (oF (oV vPf (oV vM (oF (oF (oV vPf (oV vA (o_nil ?_))))))))))))))
 exact sK [1] [4] (hN1 false hF)
 refine oF (oF (oF (oF (oF (oF (oF (oF (oV vPf (oV vM (oF (oF (oV vPf (oV vM (oF (oF ?_)))))))))))))))
 refine oF (oF (oV vPf (oV vM (oF (oF (oV vPf (oV vA (o_nil ?_))))))))
 exact sK [1] [3] (hN1 false hF)
 refine oF (oF (oF (oF (oF (oF (oV vPf (oV vM (oF (oF (oF (oF (oF (oF (oF (oF ?_)))))))))))))))
 refine oV vPf (oV vM (oF (oF (oV vPf (oV vM (oF (oF (oF (oF (oV vPf (oV vM (oF (oF (oV vPf (oV vA ?_)))))))))))))))
 refine o_nil ?_
 exact sK [1] [2] (hN1 false hF)
 refine oF (oF (oF (oV vPf (oV vM (oF (oF (oF (oF (oF (oF (oV vPf (oV vM (oF (oF (oF ?_)))))))))))))))
 refine oF (oF (oF (oF (oF (oV vPf (oV vM (oF (oF (oV vPf (oV vM (oF (oF (oF (oF (oV vPf ?_)))))))))))))))
 refine oV vM (oF (oF (oV vPf (oV vA (o_nil ?_)))))
 exact sK [1] [2] (hN1 false hF)
 refine oF (oF (oV vPf (oV vM (oF (oF (oF (oV vPf (oV vM (oF (oF (oF (oF (oF (oF (oV vPf ?_)))))))))))))))
 refine oV vM (oF (oF (oF (oF (oF (oF (oF (oF (oV vPf (oV vM (oF (oF (oV vPf (oV vM (oF ?_)))))))))))))))
 refine oF (oF (oF (oV vPf (oV vM (oF (oF (oV vPf (oV vA (o_nil ?_)))))))))
 exact sK [1] [2] (hN1 false hF)
 refine oF (oF (oV vPf (oV vM (oF (oF (oV vPf (oV vM (oF (oF (oF (oV vPf (oV vM (oF (oF (oF ?_)))))))))))))))
 refine oF (oF (oF (oV vPf (oV vM (oF (oF (oF (oF (oF (oF (oF (oF (oV vPf (oV vM (oF ?_)))))))))))))))
 refine oF (oV vPf (oV vM (oF (oF (oF (oF (oV vPf (oV vM (oF (oF (oV vPf (oV vA (o_nil ?_)))))))))))))
 exact sK [1] [2] (hN1 false hF)
 intro t0 hF
 unfold F.law08.alive_j1 at hF
 refine sat_wc (c_ret ?_)
 cases hF
 exact sR
theorem tri75 {k : Nat} {g_ : Gram} {r : Int} (hF : F.ref06.Right k g_ = some r) :
    Tri Try.prog 75 [.agg (vGram g_ A1 L1 C1).toArray] [] [fS A1 L1 C1 2 eRule g_.Rules] (oR (iI r)) := by
 unfold F.ref06.Right at hF
 refine tri_intro (n := 94) Try.func75 rfl Try.ntmps75 rfl fun w X => cR (o_box rfl rfl rfl fun b => oV vA (o_seq (c_seq (c_seq ?_))))
 refine cT (fun E H Φ N' => ∀ (t32 : Bool), F.ref06.Right_j1 k g_ t32 = some r → Sat E [(0, .agg (vGram g_ A1 L1 C1).toArray), (1, pt b), (2, iI 0), (32, bV t32)] H Φ N') (fun N4 hN4 => ?_) ?_
 refine c_region ((fD 0) (oV (vL 0 ty3) (oV vB (oV vM ?_))))
 refine oS 10 hF (fun hF => ?_) (fun hF => ?_)
 refine oF (oF (oF (oV vPt (oV vM (oF (oF (oF (oV vPt (oV vM (oF (oF (oF (oF (oF (oV vPt ?_)))))))))))))))
 refine oV vM (oF (oF (oF (oF (oV vPt (o_nil ?_))))))
 exact sK [0] [0] (hN4 true hF)
 refine oN ((fD 0) (oN (oV (vL 0 ty3) (oN (oV vB (oV vPf (oV vM ?_)))))))
 refine oS 15 hF (fun hF => ?_) (fun hF => ?_)
 refine oF (oF (oF (oV vPt (oV vM (oF (oF (oF (oF (oF (oV vPt (oV vM (oF (oF (oF (oF ?_)))))))))))))))
 refine oV vPt (o_nil ?_)
 exact sK [0] [0] (hN4 true hF)
 refine oN ((fD 1) (oN (oV (vL 0 ty3) (oN (oV vB (oV vPf (oV vM ?_)))))))
 refine oS 20 hF (fun hF => ?_) (fun hF => ?_)
 refine oF (oF (oF (oF (oF (oV vPt (oV vM (oF (oF (oF (oF (oV vPt (o_nil ?_))))))))))))
 exact sK [0] [0] (hN4 true hF)
 refine oN ((fD 1) (oN (oV (vL 0 ty3) (oN ((fD 0) (oN (oV (vL 0 ty3) (oN (oV vB (oV vPf (oV vM ?_)))))))))))
 refine oS 27 hF (fun hF => ?_) (fun hF => ?_)
 refine oF (oF (oF (oF (oV vPt (o_nil ?_)))))
 exact sK [0] [0] (hN4 true hF)
 refine oN ((fD 2) (oN (oV (vL 0 ty22) (oN (oV (v_lenS (enc := eRule) g_.Rules sl22 rfl (.f 0 rfl)) (oN (oV vB (oV vPf (o_nil ?_)))))))))
 exact sK [0] [0] (hN4 (decide (8192 < (g_.Rules.length : Int))) hF)
 intro t32 hF
 unfold F.ref06.Right_j1 at hF
 refine sat_wc ?_
 refine cC hF (fun hF => ?_) (fun hF => ?_)
 refine cR (oV vA (o_seq (c_ret ?_)))
 cases hF
 exact sR
 refine c_skip (sat_wc (c_seq (cR (oV vA (o_seq ?_)))))
 obtain ⟨o2, ho2, hF⟩ := bd hF
 refine cT (fun E H Φ N' => ∀ (d2 : Unit), o2 = .done d2 → Sat E [(0, .agg (vGram g_ A1 L1 C1).toArray), (1, pt b), (2, iI 0)] H Φ N') (fun N2 hN2 => ?_) ?_
 refine c_block ?_
 refine cL (fun E H Φ j a w => ∃ (i : Int), F.ref06.Right_l2 k g_ j i = some o2 ∧ St E [(0, .agg (vGram g_ A1 L1 C1).toArray), (1, pt b), (2, iI 0), (3, iI i)] H Φ a w) k ?_ ?_
 exact lq [0] [0] fun a w hs => ⟨0, ho2, hs⟩
 rintro j a w ⟨i, hL2, hs⟩
 rcases j with _ | j
 cases hL2
 refine wc_app hs ?_
 unfold F.ref06.Right_l2 at hL2
 refine c_seq (cR (oV vM ((fD 2) (oV (vL 0 ty22) (oV (v_lenS (enc := eRule) g_.Rules sl22 rfl (.f 0 rfl)) (oV vB (o_seq ?_)))))))
 refine cC hL2 (fun hL2 => ?_) (fun hL2 => ?_)
 refine c_skip (sat_wc (c_seq (c_block (cR ((fD 2) (oV (vL 0 ty22) (oV vM (ite_some hL2 ?_))))))))
 intro h3 hL2
 refine oV (v_indexAddr_s (xs := g_.Rules) (enc := eRule) sl22 rfl rfl (.f 0 rfl) h3) (o_load_s (xs := g_.Rules) (enc := eRule) ty50 rfl (.f 0 rfl) h3 rfl rfl rfl rfl rfl rfl ?_)
 intro A2 L2 C2
 refine o_alloc zero50 rfl rfl fun b1 => (sT 0 ty50) (o_seq (c_seq ?_))
 refine cR ((fD 0) (oV (vL 0 ty3) (oV vB (oV vM ?_))))
 refine oS 48 hL2 (fun hL2 => ?_) (fun hL2 => ?_)
 refine oF (oF (oF (oF (oF (oV vPt (oV vM (oF (oF (oF (oF (oV vPt (o_seq ?_))))))))))))
 refine c_cond rfl (fun _ => ?_) (fun h => Bool.noConfusion h)
 refine cR (oV vA (o_seq (c_ret ?_)))
 cases hL2
 obtain rfl := lrf_ret hF
 exact sR
 refine oN ((fD 0) (oN (oV (vL 0 ty3) (oN ((fD 0) (oN (oV (vL 1 ty3) (oN (oV vB (oV vPf (oV vM ?_)))))))))))
 refine oS 55 hL2 (fun hL2 => ?_) (fun hL2 => ?_)
 refine oF (oF (oF (oF (oV vPt (o_seq ?_)))))
 refine c_cond rfl (fun _ => ?_) (fun h => Bool.noConfusion h)
 refine cR (oV vA (o_seq (c_ret ?_)))
 cases hL2
 obtain rfl := lrf_ret hF
 exact sR
 refine oN ((fD 1) (oN (oV (vL 0 ty48) (oN (oV (v_lenS (enc := eKSym) ((at_ g_.Rules i).Rhs) sl48 rfl (.f 0 rfl)) (oN (oV vB (oV vPf (o_seq ?_)))))))))
 refine cC hL2 (fun hL2 => ?_) (fun hL2 => ?_)
 refine cR (oV vA (o_seq (c_ret ?_)))
 cases hL2
 obtain rfl := lrf_ret hF
 exact sR
 refine c_skip (sat_wc (cR (oV vA (o_seq ?_))))
 obtain ⟨o3, ho3, hL2⟩ := bd hL2
 refine cT (fun E H Φ N' => ∀ (d3 : Int), o3 = .done d3 → Sat E [(0, .agg (vGram g_ A1 L1 C1).toArray), (1, pt b), (2, iI 0), (3, iI i), (4, pt b1), (5, iI d3)] H [fS A1 L1 C1 2 eRule g_.Rules, fS A2 L2 C2 5 eKSym ((at_ g_.Rules i).Rhs)] N') (fun N3 hN3 => ?_) ?_
 refine c_block ?_
 refine cL (fun E H Φ j a w => ∃ (k_ : Int), F.ref06.Right_l3 g_ i j k_ = some o3 ∧ St E [(0, .agg (vGram g_ A1 L1 C1).toArray), (1, pt b), (2, iI 0), (3, iI i), (4, pt b1), (5, iI k_)] H [fS A1 L1 C1 2 eRule g_.Rules, fS A2 L2 C2 5 eKSym ((at_ g_.Rules i).Rhs)] a w) k ?_ ?_
 exact lq [0, 0] [1, 0] fun a w hs => ⟨0, ho3, hs⟩
 rintro j a w ⟨k_, hL3, hs⟩
 rcases j with _ | j
 cases hL3
 refine wc_app hs ?_
 unfold F.ref06.Right_l3 at hL3
 refine c_seq (cR (oV vM ((fD 1) (oV (vL 0 ty48) (oV (v_lenS (enc := eKSym) ((at_ g_.Rules i).Rhs) sl48 rfl (.f 1 rfl)) (oV vB (o_seq ?_)))))))
 refine cC hL3 (fun hL3 => ?_) (fun hL3 => ?_)
 refine c_skip (sat_wc (c_seq (c_block (cR ((fD 1) (oV (vL 0 ty48) (oV vM (ite_some hL3 ?_))))))))
 intro h8 hL3
 refine oV (v_indexAddr_s (xs := (at_ g_.Rules i).Rhs) (enc := eKSym) sl48 rfl rfl (.f 1 rfl) h8) (oV (v_load_s (xs := (at_ g_.Rules i).Rhs) (enc := eKSym) ty47 rfl (.f 1 rfl) h8 rfl rfl rfl rfl rfl rfl rfl) (o_alloc zero47 rfl rfl ?_))
 intro b2
 refine (sT 0 ty47) (o_seq (c_seq ?_))
 refine cT (fun E H Φ N' => ∀ (t93 : Bool), F.ref06.Right_j4 (F.ref06.Right_l3 g_ i j) k_ t93 = some o3 → Sat E [(0, .agg (vGram g_ A1 L1 C1).toArray), (1, pt b), (2, iI 0), (3, iI i), (4, pt b1), (5, iI k_), (6, pt b2), (93, bV t93)] H Φ N') (fun N4 hN4 => ?_) ?_
 refine c_region ((fD 0) (oV (vL 0 ty3) (oV vB (oV vM ?_))))
 refine oS 76 hL3 (fun hL3 => ?_) (fun hL3 => ?_)
 refine oN ((fD 0) (oN (oV (vL 0 ty3) (oN (oV vB (oN (oV vM ?_)))))))
 refine oS 80 hL3 (fun hL3 => ?_) (fun hL3 => ?_)
 refine oF (oF (oF (oF (oF (oN (oV vPt (oN (oV vM (oF (oF (oF (oF (oN (oV vPt (oV vPt ?_)))))))))))))))
 refine o_nil ?_
 exact sK [0, 0, 0] [0, 1] (hN4 true hL3)
 refine oN ((fD 0) (oN (oV (vL 0 ty3) (oN ((fD 0) (oN (oV (vL 2 ty3) (oN (oV vB (oN (oV vPf (oN (oV vM ?_)))))))))))))
 refine oS 87 hL3 (fun hL3 => ?_) (fun hL3 => ?_)
 refine oF (oF (oF (oF (oN (oV vPt (oV vPt (o_nil ?_)))))))
 exact sK [0, 0, 0] [0, 1] (hN4 true hL3)
 refine oN ((fD 1) (oN (oV (vL 0 ty45) (oN (oV (vU (.agg #[iU 0, iU 0, iU 0, iU 0])) (oN (oV (v_agne 2 rfl rfl (eq45 ((at_ ((at_ g_.Rules i).Rhs) k_).Set.w0) ((at_ ((at_ g_.Rules i).Rhs) k_).Set.w1) ((at_ ((at_ g_.Rules i).Rhs) k_).Set.w2) ((at_ ((at_ g_.Rules i).Rhs) k_).Set.w3) 0 0 0 0) rfl guard45) (oN (oV vPf (oV vPt (o_nil ?_)))))))))))
 exact sK [0, 0, 0] [0, 1] (hN4 (!(S4.eq (S4.mk ((at_ ((at_ g_.Rules i).Rhs) k_).Set.w0) ((at_ ((at_ g_.Rules i).Rhs) k_).Set.w1) ((at_ ((at_ g_.Rules i).Rhs) k_).Set.w2) ((at_ ((at_ g_.Rules i).Rhs) k_).Set.w3)) (S4.mk 0 0 0 0))) hL3)
 refine oF (oF (oF (oF (oU (oU (oU (oU (oU (oF (oF (oU (oU (oU (oU (oF ?_)))))))))))))))
 refine oV vPf (o_nil ?_)
 exact sK [0, 0, 0] [0, 1] (hN4 false hL3)
 intro t93 hL3
 unfold F.ref06.Right_j4 at hL3
 refine sat_wc ?_
 refine cC hL3 (fun hL3 => ?_) (fun hL3 => ?_)
 refine cR (oV vA (o_seq (c_ret ?_)))
 cases hL3
 obtain rfl := lr_ret hL2
 obtain rfl := lrf_ret hF
 exact sR
 refine c_skip (sat_wc (c_region (oV vM (oV vB (oV vA (o_nil ?_))))))
 exact lp [1, 1] [0, 1] fun a w hs => ⟨IntKind.wrap .i64 (k_ + 1), hL3, hs⟩
 refine c_exit0 ?_
 cases hL3
 exact sK [0, 0] [0, 1] (hN3 k_ rfl)
 intro d3 hd
 subst hd
 replace hL2 := lr_done hL2
 refine sat_wc (c_region (oV vM (oV vB (oV vA (o_nil ?_)))))
 exact lp [1] [0] fun a w hs => ⟨IntKind.wrap .i64 (i + 1), hL2, hs⟩
 refine c_exit0 ?_
 cases hL2
 exact sK [0] [0] (hN2 () rfl)
 intro d2 hd
 subst hd
 replace hF := lrf_done hF
 refine sat_wc (cR (oV vA (o_seq (c_ret ?_))))
 cases hF
 exact sR
theorem tri56 {k : Nat} {g_ : Gram} {w__ : List Int} {r : Int} (hF : F.ref07.Fit k g_ w__ = some r) :
    Tri Try.prog 56 [.agg (vGram g_ A1 L1 C1).toArray, sl A2 L2 C2] [] [fS A1 L1 C1 2 eRule g_.Rules, fS A2 L2 C2 1 eU8 w__] (oR (iI r)) := by
 unfold F.ref07.Fit at hF
 refine tri_intro (n := 16) Try.func56 rfl Try.ntmps56 rfl fun w X => cR (o_box rfl rfl rfl fun b => oV vA (o_seq (cR (oV (vL 0 ty24) ?_))))
 obtain ⟨v_, h1, hF⟩ := bd hF
 refine o_callSB call75 rfl (lent_f 0 rfl lent_nil) (tri75 h1 :) rfl (oV vA (o_seq (c_seq (c_seq ?_))))
 refine cT (fun E H Φ N' => ∀ (t14 : Bool), F.ref07.Fit_j1 v_ t14 = some r → Sat E [(0, .agg (vGram g_ A1 L1 C1).toArray), (2, pt b), (4, iI 0), (5, iI v_), (14, bV t14)] H [fS A1 L1 C1 2 eRule g_.Rules] N') (fun N1 hN1 => ?_) ?_
 refine c_region (oV vM (oV vB (oV vM ?_)))
 refine oS 10 hF (fun hF => ?_) (fun hF => ?_)
 refine oN (oV vM (oN (oV (v_lenS (enc := eU8) w__ sl25 rfl (.f 1 rfl)) (oN (oV vB (oV vPt (o_nil ?_)))))))
 exact sK [0] [0] (hN1 (decide (512 < (w__.length : Int))) hF)
 refine oF (oF (oF (oV vPf (o_nil ?_))))
 exact sK [0] [0] (hN1 false hF)
 intro t14 hF
 unfold F.ref07.Fit_j1 at hF
 refine sat_wc ?_
 refine cC hF (fun hF => ?_) (fun hF => ?_)
 refine cR (oV vA (o_seq (c_ret ?_)))
 cases hF
 exact sR
 refine c_skip (sat_wc (cR (oV vM (oV vA (o_seq (c_ret ?_))))))
 cases hF
 exact sR
theorem tri77 {k : Nat} {n : Int} {r : List Bool} (hF : F.ref06.none_ k n = some r) :
    Tri Try.prog 77 [iI n] [] [] (fun o H Φ => ∃ (A5 : OA) (L5 C5 : Nat), o = .ret (sl A5 L5 C5) ∧ H = [rW A5 L5 C5 4 1 eB r] ∧ Φ = []) := by
 unfold F.ref06.none_ at hF
 refine tri_intro (n := 14) Try.func77 rfl Try.ntmps77 rfl fun w X => cR (oV vA (o_seq (cR (oV vA (o_seq (c_seq (cR (oV vA (o_seq ?_)))))))))
 obtain ⟨o1, ho1, hF⟩ := bd hF
 refine c_cut (fun E N' => ∀ (A2 : OA) (L2 C2 : Nat), Sat E [(2, nS), (3, sl A2 L2 C2)] [rW A2 L2 C2 4 1 eB o1] [] N') (fun N1 hN1 => ?_) ?_
 refine c_block ?_
 refine c_loopE (fun E j a w => ∃ (out : List Bool) (i : Int) (A1 : OA) (L1 C1 : Nat), F.ref06.none__l1 n j out i = some o1 ∧ St E [(0, iI n), (2, nS), (3, sl A1 L1 C1), (4, iI i)] [rW A1 L1 C1 4 1 eB out] [] a w) k ?_ ?_
 refine s_st (st_nilrow 4 1) ?_
 exact lq [0] [] fun a w hs => ⟨([] : List Bool), 0, none, 0, 0, ho1, hs⟩
 rintro j a w ⟨out, i, A1, L1, C1, hL1, hs⟩
 rcases j with _ | j
 cases hL1
 refine wc_app hs ?_
 unfold F.ref06.none__l1 at hL1
 refine c_seq (cR (oV vM (oV vM (oV vB (o_seq ?_)))))
 refine cC hL1 (fun hL1 => ?_) (fun hL1 => ?_)
 refine c_skip (sat_wc (c_seq (c_block (c_region (oV vM (o_buildSlice (enc := eB) ([false] : List Bool) [bV false] sl79 rfl (fun _ => by kernel_rfl) rfl rfl rfl (.s rfl (.nil)) rfl ?_))))))
 intro A3 L3 C3
 refine ite_some hL1 fun h2 hL1 => ite_some hL1 fun h3 hL1 => o_append (enc := eB) (xs := out) (ys := ([false] : List Bool)) 1 sl79 rfl rfl rfl (.r 0 _ rfl) h2 h3 rfl fun A4 L4 C4 => oV vA (o_nil (sat_wc (c_region (oV vM (oV vB ?_)))))
 refine oV vA (o_nil ?_)
 exact lp [1] [] fun a w hs => ⟨(out ++ ([false] : List Bool)), IntKind.wrap .i64 (i + 1), A4, L4, C4, hL1, hs⟩
 refine c_exit0 ?_
 cases hL1
 exact sK [0] [] (hN1 A1 L1 C1)
 intro A2 L2 C2
 refine sat_wc (cR (oV vM (oV vA (o_seq (c_ret ?_)))))
 cases hF
 refine s_ret1 rfl (r_tmp rfl) fun a w hs => fin_sel hs [0] ⟨A2, L2, C2, rfl, rfl, rfl⟩ rfl sub_nil
theorem tri86 {s : KSym} {m : List Bool} {null : Bool} {r : Bool} (hF : F.ref06.so s m null = some r) :
    Tri Try.prog 86 [.agg (vKSym s).toArray, sl A1 L1 C1, bV null] [] [fS A1 L1 C1 1 eB m] (oR (bV r)) := by
 unfold F.ref06.so at hF
 refine tri_intro (n := 30) Try.func86 rfl Try.ntmps86 rfl fun w X => cR (o_box rfl rfl rfl fun b => oV vA (o_seq (c_seq (c_seq ?_))))
 refine cT (fun E H Φ N' => ∀ (t16 : Bool), F.ref06.so_j1 s m null t16 = some r → Sat E [(0, .agg (vKSym s).toArray), (1, sl A1 L1 C1), (2, bV null), (3, pt b), (6, bV false), (16, bV t16)] H Φ N') (fun N1 hN1 => ?_) ?_
 refine c_region ((fD 0) (oV (vL 0 ty3) (oV vB (oV vM ?_))))
 refine oS 10 hF (fun hF => ?_) (fun hF => ?_)
 refine oN ((fD 0) (oN (oV (vL 0 ty3) (oN (oV vM (oN (oV (v_lenS (enc := eB) m sl79 rfl (.f 0 rfl)) (oN (oV vB (oV vPt (o_nil ?_)))))))))))
 exact sK [0] [0] (hN1 (decide (s.Nt < (m.length : Int))) hF)
 refine oF (oF (oF (oF (oF (oV vPf (o_nil ?_))))))
 exact sK [0] [0] (hN1 false hF)
 intro t16 hF
 unfold F.ref06.so_j1 at hF
 refine sat_wc ?_
 refine cC hF (fun hF => ?_) (fun hF => ?_)
 refine cR (oV vM ((fD 0) (oV (vL 0 ty3) (ite_some hF ?_))))
 intro h2 hF
 refine oV (v_indexAddr_s (xs := m) (enc := eB) sl79 rfl rfl (.f 0 rfl) h2) (oV (v_load_s (xs := m) (enc := eB) ty4 rfl (.f 0 rfl) h2 rfl rfl rfl rfl rfl rfl rfl) (oV vA (o_seq (c_ret ?_))))
 cases hF
 exact sR
 refine c_skip (sat_wc (cR (oV vM (oV vN (oV vM ?_)))))
 refine oS 24 hF (fun hF => ?_) (fun hF => ?_)
 refine oN ((fD 1) (oN (oV (vL 0 ty45) (oN (oV (vU (.agg #[iU 0, iU 0, iU 0, iU 0])) (oN (oV (v_agne 2 rfl rfl (eq45 s.Set.w0 s.Set.w1 s.Set.w2 s.Set.w3 0 0 0 0) rfl guard45) (oV vPt (oV vA (o_seq (c_ret ?_)))))))))))
 cases hF
 exact sR
 refine oF (oF (oF (oF (oV vPf (oV vA (o_seq (c_ret ?_)))))))
 cases hF
 exact sR
theorem tri88 {k : Nat} {r_ : Rule} {m : List Bool} {null : Bool} {r : Bool} (hF : F.ref06.all k r_ m null = some r) :
    Tri Try.prog 88 [.agg #[iI r_.Lhs, sl A1 L1 C1], sl A2 L2 C2, bV null] [] [fS A1 L1 C1 5 eKSym r_.Rhs, fS A2 L2 C2 1 eB m] (oR (bV r)) := by
 unfold F.ref06.all at hF
 refine tri_intro (n := 24) Try.func88 rfl Try.ntmps88 rfl fun w X => cR (o_box rfl rfl rfl fun b => oV vA (o_seq (c_seq (cR (oV vA (o_seq ?_))))))
 obtain ⟨o1, ho1, hF⟩ := bd hF
 refine c_cut (fun E N' => ∀ (d1 : Unit), o1 = .done d1 → Sat E [(0, .agg #[iI r_.Lhs, sl A1 L1 C1]), (6, bV false)] [] [fS A1 L1 C1 5 eKSym r_.Rhs] N') (fun N1 hN1 => ?_) ?_
 refine c_block ?_
 refine cL (fun E H Φ j a w => ∃ (i : Int), F.ref06.all_l1 r_ m null j i = some o1 ∧ St E [(0, .agg #[iI r_.Lhs, sl A1 L1 C1]), (1, sl A2 L2 C2), (2, bV null), (3, pt b), (6, bV false), (7, iI i)] H Φ a w) k ?_ ?_
 exact lq [0] [0, 1] fun a w hs => ⟨0, ho1, hs⟩
 rintro j a w ⟨i, hL1, hs⟩
 rcases j with _ | j
 cases hL1
 refine wc_app hs ?_
 unfold F.ref06.all_l1 at hL1
 refine c_seq (cR (oV vM ((fD 1) (oV (vL 0 ty48) (oV (v_lenS (enc := eKSym) r_.Rhs sl48 rfl (.f 0 rfl)) (oV vB (o_seq ?_)))))))
 refine cC hL1 (fun hL1 => ?_) (fun hL1 => ?_)
 refine c_skip (sat_wc (c_seq (c_block (cR ((fD 1) (oV (vL 0 ty48) (oV vM (ite_some hL1 ?_))))))))
 intro h2 hL1
 refine oV (v_indexAddr_s (xs := r_.Rhs) (enc := eKSym) sl48 rfl rfl (.f 0 rfl) h2) (oV (v_load_s (xs := r_.Rhs) (enc := eKSym) ty47 rfl (.f 0 rfl) h2 rfl rfl rfl rfl rfl rfl rfl) (oV vM (oV vM ?_)))
 obtain ⟨v_, h3, hL1⟩ := bd hL1
 refine o_callSB call86 rfl (lent_f 1 rfl lent_nil) (tri86 h3 :) rfl (oV vN (o_seq ?_))
 refine cC hL1 (fun hL1 => ?_) (fun hL1 => ?_)
 refine cR (oV vA (o_seq (c_ret ?_)))
 cases hL1
 obtain rfl := lrf_ret hF
 exact sR
 refine c_skip (sat_wc (c_region (oV vM (oV vB (oV vA (o_nil ?_))))))
 exact lp [0] [0, 1] fun a w hs => ⟨IntKind.wrap .i64 (i + 1), hL1, hs⟩
 refine c_exit0 ?_
 cases hL1
 exact sK [] [0] (hN1 () rfl)
 intro d1 hd
 subst hd
 replace hF := lrf_done hF
 refine sat_wc (cR (oV vA (o_seq (c_ret ?_))))
 cases hF
 exact sR
theorem tri87 {k : Nat} {g_ : Gram} {m : List Bool} {null : Bool} {r : List Bool} (hF : F.ref06.round k g_ m null = some r) :
    Tri Try.prog 87 [.agg (vGram g_ A1 L1 C1).toArray, sl A2 L2 C2, bV null] [] [fS A1 L1 C1 2 eRule g_.Rules, fS A2 L2 C2 1 eB m] (fun o H Φ => ∃ (A9 : OA) (L9 C9 : Nat), o = .ret (sl A9 L9 C9) ∧ H = [rW A9 L9 C9 4 1 eB r] ∧ Φ = []) := by
 unfold F.ref06.round at hF
 refine tri_intro (n := 36) Try.func87 rfl Try.ntmps87 rfl fun w X => cR (o_box rfl rfl rfl fun b => oV vA (o_seq (cR ((fD 0) (oV (vL 0 ty3) ?_)))))
 obtain ⟨v_, h1, hF⟩ := bd hF
 refine o_call0 call77 rfl sub_nil (tri77 h1 :) rfl ?_
 rintro _ _ _ ⟨A3, L3, C3, rfl, rfl, rfl⟩
 refine oV vA (o_seq (c_seq (cR (oV vA (o_seq ?_)))))
 obtain ⟨o1, ho1, hF⟩ := bd hF
 refine c_cut (fun E N' => ∀ (A5 : OA) (L5 C5 : Nat), Sat E [(0, .agg (vGram g_ A1 L1 C1).toArray), (3, pt b), (6, nS), (7, sl A5 L5 C5)] [.box b 24 (vGram g_ A1 L1 C1), rW A5 L5 C5 4 1 eB o1] [fS A1 L1 C1 2 eRule g_.Rules] N') (fun N1 hN1 => ?_) ?_
 refine c_block ?_
 refine cL (fun E H Φ j a w => ∃ (out : List Bool) (i : Int) (A4 : OA) (L4 C4 : Nat), F.ref06.round_l1 k g_ m null j out i = some o1 ∧ St E [(0, .agg (vGram g_ A1 L1 C1).toArray), (1, sl A2 L2 C2), (2, bV null), (3, pt b), (6, nS), (7, sl A4 L4 C4), (8, iI i)] [.box b 24 (vGram g_ A1 L1 C1), rW A4 L4 C4 4 1 eB out] Φ a w) k ?_ ?_
 exact lq [1, 0] [0, 1] fun a w hs => ⟨v_, 0, A3, L3, C3, ho1, hs⟩
 rintro j a w ⟨out, i, A4, L4, C4, hL1, hs⟩
 rcases j with _ | j
 cases hL1
 refine wc_app hs ?_
 unfold F.ref06.round_l1 at hL1
 refine c_seq (cR (oV vM ((fD 2) (oV (vL 0 ty22) (oV (v_lenS (enc := eRule) g_.Rules sl22 rfl (.f 0 rfl)) (oV vB (o_seq ?_)))))))
 refine cC hL1 (fun hL1 => ?_) (fun hL1 => ?_)
 refine c_skip (sat_wc (c_seq ?_))
 refine cT (fun E H Φ N' => ∀ (out1 : List Bool) (A6 : OA) (L6 C6 : Nat), F.ref06.round_j2 (F.ref06.round_l1 k g_ m null j) i out1 = some o1 → Sat E [(0, .agg (vGram g_ A1 L1 C1).toArray), (1, sl A2 L2 C2), (2, bV null), (3, pt b), (6, nS), (7, sl A6 L6 C6), (8, iI i)] [.box b 24 (vGram g_ A1 L1 C1), rW A6 L6 C6 4 1 eB out1] Φ N') (fun N2 hN2 => ?_) ?_
 refine c_block (cR ((fD 2) (oV (vL 0 ty22) (oV vM (ite_some hL1 ?_)))))
 intro h3 hL1
 refine oV (v_indexAddr_s (xs := g_.Rules) (enc := eRule) sl22 rfl rfl (.f 0 rfl) h3) (o_load_s (xs := g_.Rules) (enc := eRule) ty50 rfl (.f 0 rfl) h3 rfl rfl rfl rfl rfl rfl ?_)
 intro A7 L7 C7
 refine oV vM (oV vM ?_)
 obtain ⟨v_1, h4, hL1⟩ := bd hL1
 refine o_callSB call88 rfl (lent_f 0 rfl (lent_f 2 rfl lent_nil)) (tri88 h4 :) rfl (o_seq ?_)
 refine c_cut (fun E N' => ∀ (out2 : List Bool) (A8 : OA) (L8 C8 : Nat), F.ref06.round_j3 (F.ref06.round_l1 k g_ m null j) i out2 = some o1 → Sat E [(0, .agg (vGram g_ A1 L1 C1).toArray), (1, sl A2 L2 C2), (2, bV null), (3, pt b), (6, nS), (7, sl A8 L8 C8), (8, iI i)] [.box b 24 (vGram g_ A1 L1 C1), rW A8 L8 C8 4 1 eB out2] [fS A1 L1 C1 2 eRule g_.Rules, fS A2 L2 C2 1 eB m] N') (fun N3 hN3 => ?_) ?_
 refine cC hL1 (fun hL1 => ?_) (fun hL1 => ?_)
 refine c_region (oV vM ((fD 2) (oV (vL 0 ty22) (oV vM (oV (v_indexAddr_s (xs := g_.Rules) (enc := eRule) sl22 rfl rfl (.f 1 rfl) h3) (oV (v_fieldAddr (v := .pointer (some ⟨blkA A1, offA A1 + (Int.toNat i * 2 + 0), none⟩)) rfl (fun _ => by kernel_rfl)) (oV (v_load_s (xs := g_.Rules) (enc := eRule) ty3 rfl (.f 1 rfl) h3 rfl rfl rfl rfl rfl rfl rfl) (ite_some hL1 ?_))))))))
 intro h6 hL1
 refine oV (v_indexAddr_s (xs := out) (enc := eB) sl79 rfl rfl (.r 1 _ rfl) h6) (o_store_s (xs := out) (enc := eB) 1 true rfl ty4 rfl rfl rfl rfl h6 (.s rfl (.nil)) rfl rfl rfl (o_nil ?_))
 exact sK [0, 0] [1, 2] (hN3 (set_ out ((at_ g_.Rules i).Lhs) true) A4 L4 C4 hL1)
 refine c_skip ?_
 exact sK [0, 0] [1, 2] (hN3 out A4 L4 C4 hL1)
 intro out2 A8 L8 C8 hL1
 unfold F.ref06.round_j3 at hL1
 exact sK [0, 0] [0, 1] (hN2 out2 A8 L8 C8 hL1)
 intro out1 A6 L6 C6 hL1
 unfold F.ref06.round_j2 at hL1
 refine sat_wc (c_region (oV vM (oV vB (oV vA (o_nil ?_)))))
 exact lp [0, 0] [0, 1] fun a w hs => ⟨out1, IntKind.wrap .i64 (i + 1), A6, L6, C6, hL1, hs⟩
 refine c_exit0 ?_
 cases hL1
 exact sK [0, 0] [0] (hN1 A4 L4 C4)
 intro A5 L5 C5
 refine sat_wc (cR (oV vM (oV vA (o_seq (c_ret ?_)))))
 cases hF
 refine s_ret1 rfl (r_tmp rfl) fun a w hs => fin_sel hs [1] ⟨A5, L5, C5, rfl, rfl, rfl⟩ rfl sub_nil
theorem tri85 {k : Nat} {g_ : Gram} {null : Bool} {r : List Bool} (hF : F.ref06.marks k g_ null = some r) :
    Tri Try.prog 85 [.agg (vGram g_ A1 L1 C1).toArray, bV null] [] [fS A1 L1 C1 2 eRule g_.Rules] (fun o H Φ => ∃ (A6 : OA) (L6 C6 : Nat), o = .ret (sl A6 L6 C6) ∧ H = [rW A6 L6 C6 4 1 eB r] ∧ Φ = []) := by
 unfold F.ref06.marks at hF
 refine tri_intro (n := 21) Try.func85 rfl Try.ntmps85 rfl fun w X => cR (o_box rfl rfl rfl fun b => oV vA (o_seq (cR ((fD 0) (oV (vL 0 ty3) ?_)))))
 obtain ⟨v_, h1, hF⟩ := bd hF
 refine o_call0 call77 rfl sub_nil (tri77 h1 :) rfl ?_
 rintro _ _ _ ⟨A2, L2, C2, rfl, rfl, rfl⟩
 refine oV vA (o_seq (c_seq (cR (oV vA (o_seq ?_)))))
 obtain ⟨o1, ho1, hF⟩ := bd hF
 refine cT (fun E H Φ N' => ∀ (A4 : OA) (L4 C4 : Nat), Sat E [(0, .agg (vGram g_ A1 L1 C1).toArray), (2, pt b), (4, nS), (5, sl A4 L4 C4)] [.box b 24 (vGram g_ A1 L1 C1), rW A4 L4 C4 4 1 eB o1] Φ N') (fun N1 hN1 => ?_) ?_
 refine c_block ?_
 refine cL (fun E H Φ j a w => ∃ (m : List Bool) (i : Int) (A3 : OA) (L3 C3 : Nat), F.ref06.marks_l1 k g_ null j m i = some o1 ∧ St E [(0, .agg (vGram g_ A1 L1 C1).toArray), (1, bV null), (2, pt b), (4, nS), (5, sl A3 L3 C3), (6, iI i)] [.box b 24 (vGram g_ A1 L1 C1), rW A3 L3 C3 4 1 eB m] Φ a w) k ?_ ?_
 exact lq [1, 0] [0] fun a w hs => ⟨v_, 0, A2, L2, C2, ho1, hs⟩
 rintro j a w ⟨m, i, A3, L3, C3, hL1, hs⟩
 rcases j with _ | j
 cases hL1
 refine wc_app hs ?_
 unfold F.ref06.marks_l1 at hL1
 refine c_seq (cR (oV vM ((fD 0) (oV (vL 0 ty3) (oV vB (o_seq ?_))))))
 refine cC hL1 (fun hL1 => ?_) (fun hL1 => ?_)
 refine c_skip (sat_wc (c_seq (c_block (c_region (oV (vL 0 ty24) (oV vM (oV vM ?_)))))))
 obtain ⟨v_1, h3, hL1⟩ := bd hL1
 refine o_st (st_freeze 1 rfl) (o_call0 call87 rfl (subs [1, 0] rfl) (tri87 h3 :) rfl ?_)
 rintro _ _ _ ⟨A5, L5, C5, rfl, rfl, rfl⟩
 refine oV vA (o_nil (sat_wc (c_region (oV vM (oV vB (oV vA (o_nil ?_)))))))
 exact lp [1, 0] [1] fun a w hs => ⟨v_1, IntKind.wrap .i64 (i + 1), A5, L5, C5, hL1, hs⟩
 refine c_exit0 ?_
 cases hL1
 exact sK [0, 0] [0] (hN1 A3 L3 C3)
 intro A4 L4 C4
 refine sat_wc (cR (oV vM (oV vA (o_seq (c_ret ?_)))))
 cases hF
 refine s_ret1 rfl (r_tmp rfl) fun a w hs => fin_sel hs [1] ⟨A4, L4, C4, rfl, rfl, rfl⟩ rfl sub_nil
theorem tri76 {k : Nat} {g_ : Gram} {r : List Bool × Int} (hF : F.ref06.Nullable k g_ = some r) :
    Tri Try.prog 76 [.agg (vGram g_ A1 L1 C1).toArray] [] [fS A1 L1 C1 2 eRule g_.Rules] (fun o H Φ => ∃ (A3 : OA) (L3 C3 : Nat), o = .ret (.tuple #[sl A3 L3 C3, iI r.2]) ∧ H = [rW A3 L3 C3 4 1 eB r.1] ∧ Φ = []) := by
 unfold F.ref06.Nullable at hF
 refine tri_intro (n := 13) Try.func76 rfl Try.ntmps76 rfl fun w X => cR (o_box rfl rfl rfl fun b => oV vA (oV vA (o_seq (cR (oV (vL 0 ty24) ?_)))))
 obtain ⟨v_, h1, hF⟩ := bd hF
 refine o_callSB call75 rfl (lent_f 0 rfl lent_nil) (tri75 h1 :) rfl (oV vA (o_seq (c_seq (cR (oV vM (oV vB (o_seq ?_)))))))
 refine cC hF (fun hF => ?_) (fun hF => ?_)
 refine cR (oV vM (oV vA (oV vA (o_seq (c_ret ?_)))))
 cases hF
 refine s_st (st_nilrow 4 1) (s_ret2 rfl (r_tmp rfl) (r_tmp rfl) fun a w hs => fin_sel hs [0] ⟨none, 0, 0, rfl, rfl, rfl⟩ rfl sub_nil)
 refine c_skip (sat_wc (cR (oV (vL 0 ty24) ?_)))
 obtain ⟨v_1, h3, hF⟩ := bd hF
 refine o_call0 call85 rfl (subs [0] rfl) (tri85 h3 :) rfl ?_
 rintro _ _ _ ⟨A2, L2, C2, rfl, rfl, rfl⟩
 refine oV vM (oV vA (oV vA (o_seq (c_ret ?_))))
 cases hF
 refine s_ret2 rfl (r_tmp rfl) (r_tmp rfl) fun a w hs => fin_sel hs [0] ⟨A2, L2, C2, rfl, rfl, rfl⟩ rfl sub_nil
theorem tri78 {k : Nat} {r_ : Rule} {at__ : Int} {null : List Bool} {r : Bool} (hF : F.ref06.leads k r_ at__ null = some r) :
    Tri Try.prog 78 [.agg #[iI r_.Lhs, sl A1 L1 C1], iI at__, sl A2 L2 C2] [] [fS A1 L1 C1 5 eKSym r_.Rhs, fS A2 L2 C2 1 eB null] (oR (bV r)) := by
 unfold F.ref06.leads at hF
 refine tri_intro (n := 35) Try.func78 rfl Try.ntmps78 rfl fun w X => cR (o_box rfl rfl rfl fun b => oV vA (o_seq (c_seq (cR (oV vA (o_seq ?_))))))
 obtain ⟨o1, ho1, hF⟩ := bd hF
 refine cT (fun E H Φ N' => ∀ (d1 : Unit), o1 = .done d1 → Sat E [(0, .agg #[iI r_.Lhs, sl A1 L1 C1]), (1, iI at__), (3, pt b), (6, bV false)] H [fS A1 L1 C1 5 eKSym r_.Rhs] N') (fun N1 hN1 => ?_) ?_
 refine c_block ?_
 refine cL (fun E H Φ j a w => ∃ (i : Int), F.ref06.leads_l1 r_ at__ null j i = some o1 ∧ St E [(0, .agg #[iI r_.Lhs, sl A1 L1 C1]), (1, iI at__), (2, sl A2 L2 C2), (3, pt b), (6, bV false), (7, iI i)] H Φ a w) k ?_ ?_
 exact lq [0] [0, 1] fun a w hs => ⟨0, ho1, hs⟩
 rintro j a w ⟨i, hL1, hs⟩
 rcases j with _ | j
 cases hL1
 refine wc_app hs ?_
 unfold F.ref06.leads_l1 at hL1
 refine c_seq (cR (oV vM ((fD 1) (oV (vL 0 ty48) (oV (v_lenS (enc := eKSym) r_.Rhs sl48 rfl (.f 0 rfl)) (oV vB (o_seq ?_)))))))
 refine cC hL1 (fun hL1 => ?_) (fun hL1 => ?_)
 refine c_skip (sat_wc (c_seq ?_))
 refine cT (fun E H Φ N' => F.ref06.leads_j2 (F.ref06.leads_l1 r_ at__ null j) i = some o1 → Sat E [(0, .agg #[iI r_.Lhs, sl A1 L1 C1]), (1, iI at__), (2, sl A2 L2 C2), (3, pt b), (6, bV false), (7, iI i)] H Φ N') (fun N2 hN2 => ?_) ?_
 refine c_block (c_seq ?_)
 refine cT (fun E H Φ N' => ∀ (t27 : Bool), F.ref06.leads_j3 (F.ref06.leads_l1 r_ at__ null j) i t27 = some o1 → Sat E [(0, .agg #[iI r_.Lhs, sl A1 L1 C1]), (1, iI at__), (2, sl A2 L2 C2), (3, pt b), (6, bV false), (7, iI i), (27, bV t27)] H Φ N') (fun N3 hN3 => ?_) ?_
 refine c_region (oV vM (oV vM (oV vB (oV vM ?_))))
 refine oS 18 hL1 (fun hL1 => ?_) (fun hL1 => ?_)
 refine oN ((fD 1) (oN (oV (vL 0 ty48) (oN (oV vM (oN (ite_some hL1 ?_)))))))
 intro h4 hL1
 refine oV (v_indexAddr_s (xs := r_.Rhs) (enc := eKSym) sl48 rfl rfl (.f 0 rfl) h4) (oN (oV (v_load_s (xs := r_.Rhs) (enc := eKSym) ty47 rfl (.f 0 rfl) h4 rfl rfl rfl rfl rfl rfl rfl) (oN (oV vM (oN ?_)))))
 obtain ⟨v_, h5, hL1⟩ := bd hL1
 refine o_callSB call86 rfl (lent_f 1 rfl lent_nil) (tri86 h5 :) rfl (oN (oV vN (oV vPt (o_nil ?_))))
 exact sK [0] [0, 1] (hN3 (!v_) hL1)
 refine oF (oF (oF (oF (oF (oF (oF (oF (oV vPf (o_nil ?_)))))))))
 exact sK [0] [0, 1] (hN3 false hL1)
 intro t27 hL1
 unfold F.ref06.leads_j3 at hL1
 refine sat_wc ?_
 refine cC hL1 (fun hL1 => ?_) (fun hL1 => ?_)
 refine cR (oV vA (o_seq (c_ret ?_)))
 cases hL1
 obtain rfl := lrf_ret hF
 exact sR
 refine c_skip ?_
 exact sK [0] [0, 1] (hN2 hL1)
 intro hL1
 unfold F.ref06.leads_j2 at hL1
 refine sat_wc (c_region (oV vM (oV vB (oV vA (o_nil ?_)))))
 exact lp [0] [0, 1] fun a w hs => ⟨IntKind.wrap .i64 (i + 1), hL1, hs⟩
 refine c_exit0 ?_
 cases hL1
 exact sK [0] [0] (hN1 () rfl)
 intro d1 hd
 subst hd
 replace hF := lrf_done hF
 refine sat_wc (cR ((fD 1) (oV (vL 0 ty48) (oV vM (ite_some hF ?_)))))
 intro h6 hF
 refine oV (v_indexAddr_s (xs := r_.Rhs) (enc := eKSym) sl48 rfl rfl (.f 0 rfl) h6) (oV (v_fieldAddr (v := .pointer (some ⟨blkA A1, offA A1 + (Int.toNat at__ * 5 + 0), none⟩)) rfl (fun _ => by kernel_rfl)) (oV (v_load_s (xs := r_.Rhs) (enc := eKSym) ty3 rfl (.f 0 rfl) h6 rfl rfl rfl rfl rfl rfl rfl) (oV vB (oV vA (o_seq (c_ret ?_))))))
 cases hF
 exact sR
theorem tri57 {k : Nat} {g_ : Gram} {r : Bool × Int} (hF : F.ref06.Cyclic k g_ = some r) :
    Tri Try.prog 57 [.agg (vGram g_ A1 L1 C1).toArray] [] [fS A1 L1 C1 2 eRule g_.Rules] (oR (.tuple #[bV r.1, iI r.2])) := by
 unfold F.ref06.Cyclic at hF
 refine tri_intro (n := 96) Try.func57 rfl Try.ntmps57 rfl fun w X => cR (o_box rfl rfl rfl fun b => oV vA (oV vA (o_seq (cR (oV (vL 0 ty24) ?_)))))
 obtain ⟨v_, h1, hF⟩ := bd hF
 refine o_call0 call76 rfl (subs [0] rfl) (tri76 h1 :) rfl ?_
 rintro _ _ _ ⟨A2, L2, C2, rfl, rfl, rfl⟩
 refine oV vM (oV vX (oV vX (oV vA (oV vA (o_seq (c_seq (cR (oV vM (oV vB (o_seq ?_))))))))))
 refine cC hF (fun hF => ?_) (fun hF => ?_)
 refine cR (oV vM (oV vA (oV vA (o_seq (c_ret ?_)))))
 cases hF
 refine s_ret2 rfl (r_tmp rfl) (r_tmp rfl) fun a w hs => fin_sel hs [] ⟨rfl, rfl, rfl⟩ rfl sub_nil
 refine c_skip (sat_wc (cR ((fD 0) (oV (vL 1 ty3) ?_))))
 obtain ⟨v_1, h3, hF⟩ := bd hF
 refine o_call0 call77 rfl sub_nil (tri77 h3 :) rfl ?_
 rintro _ _ _ ⟨A3, L3, C3, rfl, rfl, rfl⟩
 refine oV vA (o_seq (cR ((fD 0) (oV (vL 2 ty3) (oV vA (o_seq (c_seq (cR (oV vA (o_seq ?_))))))))))
 obtain ⟨o1, ho1, hF⟩ := bd hF
 refine cT (fun E H Φ N' => Sat E [(0, .agg (vGram g_ A1 L1 C1).toArray), (1, pt b), (2, bV false), (3, iI 0), (5, iI v_.2), (7, iI o1)] [.box b 24 (vGram g_ A1 L1 C1)] Φ N') (fun N1 hN1 => ?_) ?_
 refine c_block ?_
 refine cL (fun E H Φ j a w => ∃ (struck : List Bool) (left : Int) (n : Int) (A4 : OA) (L4 C4 : Nat), F.ref06.Cyclic_l1 k g_ v_ j struck left n = some o1 ∧ St E [(0, .agg (vGram g_ A1 L1 C1).toArray), (1, pt b), (2, bV false), (3, iI 0), (4, sl A2 L2 C2), (5, iI v_.2), (6, sl A4 L4 C4), (7, iI left), (8, iI n)] [.box b 24 (vGram g_ A1 L1 C1), rW A2 L2 C2 4 1 eB v_.1, rW A4 L4 C4 4 1 eB struck] Φ a w) k ?_ ?_
 exact lq [2, 1, 0] [0] fun a w hs => ⟨v_1, g_.Nts, 0, A3, L3, C3, ho1, hs⟩
 rintro j a w ⟨struck, left, n, A4, L4, C4, hL1, hs⟩
 rcases j with _ | j
 cases hL1
 refine wc_app hs ?_
 unfold F.ref06.Cyclic_l1 at hL1
 refine c_seq (cR (oV vM ((fD 0) (oV (vL 0 ty3) (oV vB (o_seq ?_))))))
 refine cC hL1 (fun hL1 => ?_) (fun hL1 => ?_)
 refine c_skip (sat_wc (c_seq (c_block (cR (oV vA (o_seq ?_))))))
 obtain ⟨o2, ho2, hL1⟩ := bd hL1
 refine cT (fun E H Φ N' => ∀ (A6 : OA) (L6 C6 : Nat), Sat E [(0, .agg (vGram g_ A1 L1 C1).toArray), (1, pt b), (2, bV false), (3, iI 0), (4, sl A2 L2 C2), (5, iI v_.2), (6, sl A6 L6 C6), (7, iI o2.2.1), (8, iI n), (9, iI o2.2.2)] [.box b 24 (vGram g_ A1 L1 C1), rW A2 L2 C2 4 1 eB v_.1, rW A6 L6 C6 4 1 eB o2.1] Φ N') (fun N2 hN2 => ?_) ?_
 refine c_block ?_
 refine cL (fun E H Φ j a w => ∃ (struck1 : List Bool) (left1 : Int) (a_ : Int) (A5 : OA) (L5 C5 : Nat), F.ref06.Cyclic_l2 k g_ v_ j struck1 left1 a_ = some o2 ∧ St E [(0, .agg (vGram g_ A1 L1 C1).toArray), (1, pt b), (2, bV false), (3, iI 0), (4, sl A2 L2 C2), (5, iI v_.2), (6, sl A5 L5 C5), (7, iI left1), (8, iI n), (9, iI a_)] [.box b 24 (vGram g_ A1 L1 C1), rW A2 L2 C2 4 1 eB v_.1, rW A5 L5 C5 4 1 eB struck1] Φ a w) k ?_ ?_
 exact lq [0, 0, 0] [0] fun a w hs => ⟨struck, left, 0, A4, L4, C4, ho2, hs⟩
 rintro j a w ⟨struck1, left1, a_, A5, L5, C5, hL2, hs⟩
 rcases j with _ | j
 cases hL2
 refine wc_app hs ?_
 unfold F.ref06.Cyclic_l2 at hL2
 refine c_seq (cR (oV vM ((fD 0) (oV (vL 0 ty3) (oV vB (o_seq ?_))))))
 refine cC hL2 (fun hL2 => ?_) (fun hL2 => ?_)
 refine c_skip (sat_wc (c_seq ?_))
 refine cT (fun E H Φ N' => ∀ (struck2 : List Bool) (left2 : Int) (A7 : OA) (L7 C7 : Nat), F.ref06.Cyclic_j3 (F.ref06.Cyclic_l2 k g_ v_ j) a_ struck2 left2 = some o2 → Sat E [(0, .agg (vGram g_ A1 L1 C1).toArray), (1, pt b), (2, bV false), (3, iI 0), (4, sl A2 L2 C2), (5, iI v_.2), (6, sl A7 L7 C7), (7, iI left2), (8, iI n), (9, iI a_)] [.box b 24 (vGram g_ A1 L1 C1), rW A2 L2 C2 4 1 eB v_.1, rW A7 L7 C7 4 1 eB struck2] Φ N') (fun N3 hN3 => ?_) ?_
 refine c_block (c_seq (cR (oV vM (oV vM (ite_some hL2 ?_)))))
 intro h6 hL2
 refine oV (v_indexAddr_s (xs := struck1) (enc := eB) sl79 rfl rfl (.r 2 _ rfl) h6) (oV (v_load_s (xs := struck1) (enc := eB) ty4 rfl (.r 2 _ rfl) h6 rfl rfl rfl rfl rfl rfl rfl) (o_seq ?_))
 refine cC hL2 (fun hL2 => ?_) (fun hL2 => ?_)
 refine c_exit0 ?_
 exact sK [0, 0, 0] [0] (hN3 struck1 left1 A5 L5 C5 hL2)
 refine c_skip (sat_wc (cR (oV vA (o_seq (c_seq (cR (oV vA (o_seq ?_))))))))
 obtain ⟨o4, ho4, hL2⟩ := bd hL2
 refine cT (fun E H Φ N' => Sat E [(0, .agg (vGram g_ A1 L1 C1).toArray), (1, pt b), (2, bV false), (3, iI 0), (4, sl A2 L2 C2), (5, iI v_.2), (6, sl A5 L5 C5), (7, iI left1), (8, iI n), (9, iI a_), (10, bV o4.1), (11, iI o4.2)] H Φ N') (fun N4 hN4 => ?_) ?_
 refine c_block ?_
 refine cL (fun E H Φ j a w => ∃ (free : Bool) (i : Int), F.ref06.Cyclic_l4 k g_ v_ struck1 a_ j free i = some o4 ∧ St E [(0, .agg (vGram g_ A1 L1 C1).toArray), (1, pt b), (2, bV false), (3, iI 0), (4, sl A2 L2 C2), (5, iI v_.2), (6, sl A5 L5 C5), (7, iI left1), (8, iI n), (9, iI a_), (10, bV free), (11, iI i)] H Φ a w) k ?_ ?_
 exact lq [0, 0, 0] [0] fun a w hs => ⟨true, 0, ho4, hs⟩
 rintro j a w ⟨free, i, hL4, hs⟩
 rcases j with _ | j
 cases hL4
 refine wc_app hs ?_
 unfold F.ref06.Cyclic_l4 at hL4
 refine c_seq (c_seq ?_)
 refine cT (fun E H Φ N' => ∀ (t50 : Bool), F.ref06.Cyclic_j5 k i g_ v_ struck1 a_ free (F.ref06.Cyclic_l4 k g_ v_ struck1 a_ j) t50 = some o4 → Sat E [(0, .agg (vGram g_ A1 L1 C1).toArray), (1, pt b), (2, bV false), (3, iI 0), (4, sl A2 L2 C2), (5, iI v_.2), (6, sl A5 L5 C5), (7, iI left1), (8, iI n), (9, iI a_), (10, bV free), (11, iI i), (50, bV t50)] H Φ N') (fun N10 hN10 => ?_) ?_
 refine c_region (oV vM ((fD 2) (oV (vL 0 ty22) (oV (v_lenS (enc := eRule) g_.Rules sl22 rfl (.f 0 rfl)) (oV vB (oV vM ?_))))))
 refine oS 48 hL4 (fun hL4 => ?_) (fun hL4 => ?_)
 refine oN (oV vM (oV vPt (o_nil ?_)))
 exact sK [0, 0, 0] [0] (hN10 free hL4)
 refine oF (oV vPf (o_nil ?_))
 exact sK [0, 0, 0] [0] (hN10 false hL4)
 intro t50 hL4
 unfold F.ref06.Cyclic_j5 at hL4
 refine sat_wc ?_
 refine cC hL4 (fun hL4 => ?_) (fun hL4 => ?_)
 refine c_skip (sat_wc (c_seq (c_block (cR ((fD 2) (oV (vL 0 ty22) (oV vM (ite_some hL4 ?_))))))))
 intro h9 hL4
 refine oV (v_indexAddr_s (xs := g_.Rules) (enc := eRule) sl22 rfl rfl (.f 0 rfl) h9) (o_load_s (xs := g_.Rules) (enc := eRule) ty50 rfl (.f 0 rfl) h9 rfl rfl rfl rfl rfl rfl ?_)
 intro A8 L8 C8
 refine o_alloc zero50 rfl rfl fun b1 => (sT 0 ty50) (o_seq (c_seq ?_))
 refine c_region (oV vA (o_seq ?_))
 obtain ⟨o6, ho6, hL4⟩ := bd hL4
 refine cT (fun E H Φ N' => Sat E [(0, .agg (vGram g_ A1 L1 C1).toArray), (1, pt b), (2, bV false), (3, iI 0), (4, sl A2 L2 C2), (5, iI v_.2), (6, sl A5 L5 C5), (7, iI left1), (8, iI n), (9, iI a_), (10, bV o6.1), (11, iI i), (12, pt b1), (13, iI o6.2)] H [fS A1 L1 C1 2 eRule g_.Rules, fS A8 L8 C8 5 eKSym ((at_ g_.Rules i).Rhs)] N') (fun N6 hN6 => ?_) ?_
 refine c_block ?_
 refine cL (fun E H Φ j a w => ∃ (free1 : Bool) (k_ : Int), F.ref06.Cyclic_l6 k g_ i v_ struck1 a_ j free1 k_ = some o6 ∧ St E [(0, .agg (vGram g_ A1 L1 C1).toArray), (1, pt b), (2, bV false), (3, iI 0), (4, sl A2 L2 C2), (5, iI v_.2), (6, sl A5 L5 C5), (7, iI left1), (8, iI n), (9, iI a_), (10, bV free1), (11, iI i), (12, pt b1), (13, iI k_)] H [fS A1 L1 C1 2 eRule g_.Rules, fS A8 L8 C8 5 eKSym ((at_ g_.Rules i).Rhs)] a w) k ?_ ?_
 exact lq [0, 0, 0, 0] [1, 0] fun a w hs => ⟨free, 0, ho6, hs⟩
 rintro j a w ⟨free1, k_, hL6, hs⟩
 rcases j with _ | j
 cases hL6
 refine wc_app hs ?_
 unfold F.ref06.Cyclic_l6 at hL6
 refine c_seq (c_seq ?_)
 refine cT (fun E H Φ N' => ∀ (t68 : Bool), F.ref06.Cyclic_j7 k g_ i k_ v_ struck1 (F.ref06.Cyclic_l6 k g_ i v_ struck1 a_ j) free1 t68 = some o6 → Sat E [(0, .agg (vGram g_ A1 L1 C1).toArray), (1, pt b), (2, bV false), (3, iI 0), (4, sl A2 L2 C2), (5, iI v_.2), (6, sl A5 L5 C5), (7, iI left1), (8, iI n), (9, iI a_), (10, bV free1), (11, iI i), (12, pt b1), (13, iI k_), (68, bV t68)] H Φ N') (fun N10 hN10 => ?_) ?_
 refine c_region (oV vM ((fD 1) (oV (vL 0 ty48) (oV (v_lenS (enc := eKSym) ((at_ g_.Rules i).Rhs) sl48 rfl (.f 1 rfl)) (oV vB (oV vM ?_))))))
 refine oS 63 hL6 (fun hL6 => ?_) (fun hL6 => ?_)
 refine oN ((fD 0) (oN (oV (vL 0 ty3) (oN (oV vM (oN (oV vB (oV vPt (o_nil ?_)))))))))
 exact sK [0, 0, 0, 0] [0, 1] (hN10 (((at_ g_.Rules i).Lhs) == a_) hL6)
 refine oF (oF (oF (oF (oV vPf (o_nil ?_)))))
 exact sK [0, 0, 0, 0] [0, 1] (hN10 false hL6)
 intro t68 hL6
 unfold F.ref06.Cyclic_j7 at hL6
 refine sat_wc ?_
 refine cC hL6 (fun hL6 => ?_) (fun hL6 => ?_)
 refine c_skip (sat_wc (c_seq ?_))
 refine cT (fun E H Φ N' => ∀ (free2 : Bool), F.ref06.Cyclic_j8 (F.ref06.Cyclic_l6 k g_ i v_ struck1 a_ j) k_ free2 = some o6 → Sat E [(0, .agg (vGram g_ A1 L1 C1).toArray), (1, pt b), (2, bV false), (3, iI 0), (4, sl A2 L2 C2), (5, iI v_.2), (6, sl A5 L5 C5), (7, iI left1), (8, iI n), (9, iI a_), (10, bV free2), (11, iI i), (12, pt b1), (13, iI k_)] H Φ N') (fun N8 hN8 => ?_) ?_
 refine c_block (c_seq ?_)
 refine cT (fun E H Φ N' => ∀ (t86 : Bool), F.ref06.Cyclic_j9 (F.ref06.Cyclic_l6 k g_ i v_ struck1 a_ j) k_ free1 t86 = some o6 → Sat E [(0, .agg (vGram g_ A1 L1 C1).toArray), (1, pt b), (2, bV false), (3, iI 0), (4, sl A2 L2 C2), (5, iI v_.2), (6, sl A5 L5 C5), (7, iI left1), (8, iI n), (9, iI a_), (10, bV free1), (11, iI i), (12, pt b1), (13, iI k_), (86, bV t86)] H Φ N') (fun N10 hN10 => ?_) ?_
 refine c_region (oV (vL 0 ty50) (oV vM (oV vM ?_)))
 obtain ⟨v_2, h12, hL6⟩ := bd hL6
 refine o_callSB call78 rfl (lent_f 1 rfl (lent_r 2 rfl lent_nil)) (tri78 h12 :) rfl (oV vM ?_)
 refine oS 75 hL6 (fun hL6 => ?_) (fun hL6 => ?_)
 refine oN (oV vM (oN ((fD 1) (oN (oV (vL 0 ty48) (oN (oV vM (oN (ite_some hL6 ?_)))))))))
 intro h14 hL6
 refine oV (v_indexAddr_s (xs := (at_ g_.Rules i).Rhs) (enc := eKSym) sl48 rfl rfl (.f 1 rfl) h14) (oN (oV (v_fieldAddr (v := .pointer (some ⟨blkA A8, offA A8 + (Int.toNat k_ * 5 + 0), none⟩)) rfl (fun _ => by kernel_rfl)) (oN (oV (v_load_s (xs := (at_ g_.Rules i).Rhs) (enc := eKSym) ty3 rfl (.f 1 rfl) h14 rfl rfl rfl rfl rfl rfl rfl) (oN ?_)))))
 refine ite_some hL6 fun h15 hL6 => oV (v_indexAddr_s (xs := struck1) (enc := eB) sl79 rfl rfl (.r 3 _ rfl) h15) (oN (oV (v_load_s (xs := struck1) (enc := eB) ty4 rfl (.r 3 _ rfl) h15 rfl rfl rfl rfl rfl rfl rfl) (oN (oV vN (oV vPt (o_nil ?_))))))
 exact sK [0, 0, 0, 0] [0, 1] (hN10 (!(at_ struck1 ((at_ ((at_ g_.Rules i).Rhs) k_).Nt))) hL6)
 refine oF (oF (oF (oF (oF (oF (oF (oF (oF (oF (oV vPf (o_nil ?_)))))))))))
 exact sK [0, 0, 0, 0] [0, 1] (hN10 false hL6)
 intro t86 hL6
 unfold F.ref06.Cyclic_j9 at hL6
 refine sat_wc ?_
 refine cT (fun E H Φ N' => ∀ (free3 : Bool), F.ref06.Cyclic_j10 (F.ref06.Cyclic_l6 k g_ i v_ struck1 a_ j) k_ free3 = some o6 → Sat E [(0, .agg (vGram g_ A1 L1 C1).toArray), (1, pt b), (2, bV false), (3, iI 0), (4, sl A2 L2 C2), (5, iI v_.2), (6, sl A5 L5 C5), (7, iI left1), (8, iI n), (9, iI a_), (10, bV free3), (11, iI i), (12, pt b1), (13, iI k_)] H Φ N') (fun N10 hN10 => ?_) ?_
 refine cC hL6 (fun hL6 => ?_) (fun hL6 => ?_)
 refine c_region (oV vA (o_nil ?_))
 exact sK [0, 0, 0, 0] [0, 1] (hN10 false hL6)
 refine c_skip ?_
 exact sK [0, 0, 0, 0] [0, 1] (hN10 free1 hL6)
 intro free3 hL6
 unfold F.ref06.Cyclic_j10 at hL6
 exact sK [0, 0, 0, 0] [0, 1] (hN8 free3 hL6)
 intro free2 hL6
 unfold F.ref06.Cyclic_j8 at hL6
 refine sat_wc (c_region (oV vM (oV vB (oV vA (o_nil ?_)))))
 exact lp [0, 0, 0, 0] [0, 1] fun a w hs => ⟨free2, IntKind.wrap .i64 (k_ + 1), hL6, hs⟩
 refine c_exit0 ?_
 cases hL6
 exact sK [0, 0, 0, 0] [0, 1] (hN6)
 refine sat_wc (c_region (oV vM (oV vB (oV vA (o_nil ?_)))))
 exact lp [1, 1, 1] [0] fun a w hs => ⟨o6.1, IntKind.wrap .i64 (i + 1), hL4, hs⟩
 refine c_exit0 ?_
 cases hL4
 exact sK [0, 0, 0] [0] (hN4)
 refine sat_wc (cR (oV vM (o_seq ?_)))
 refine cT (fun E H Φ N' => ∀ (struck3 : List Bool) (left3 : Int) (A9 : OA) (L9 C9 : Nat), F.ref06.Cyclic_j11 (F.ref06.Cyclic_l2 k g_ v_ j) a_ struck3 left3 = some o2 → Sat E [(0, .agg (vGram g_ A1 L1 C1).toArray), (1, pt b), (2, bV false), (3, iI 0), (4, sl A2 L2 C2), (5, iI v_.2), (6, sl A9 L9 C9), (7, iI left3), (8, iI n), (9, iI a_), (10, bV o4.1), (11, iI o4.2)] [.box b 24 (vGram g_ A1 L1 C1), rW A2 L2 C2 4 1 eB v_.1, rW A9 L9 C9 4 1 eB struck3] Φ N') (fun N11 hN11 => ?_) ?_
 refine cC hL2 (fun hL2 => ?_) (fun hL2 => ?_)
 refine cR (oV vM (oV vM (oV (v_indexAddr_s (xs := struck1) (enc := eB) sl79 rfl rfl (.r 2 _ rfl) h6) (o_store_s (xs := struck1) (enc := eB) 2 true rfl ty4 rfl rfl rfl rfl h6 (.s rfl (.nil)) rfl rfl rfl (o_seq (c_region (oV vM (oV vB (oV vA (o_nil ?_))))))))))
 exact sK [0, 0, 0] [0] (hN11 (set_ struck1 a_ true) (IntKind.wrap .i64 (left1 - 1)) A5 L5 C5 hL2)
 refine c_skip ?_
 exact sK [0, 0, 0] [0] (hN11 struck1 left1 A5 L5 C5 hL2)
 intro struck3 left3 A9 L9 C9 hL2
 unfold F.ref06.Cyclic_j11 at hL2
 exact sK [0, 0, 0] [0] (hN3 struck3 left3 A9 L9 C9 hL2)
 intro struck2 left2 A7 L7 C7 hL2
 unfold F.ref06.Cyclic_j3 at hL2
 refine sat_wc (c_region (oV vM (oV vB (oV vA (o_nil ?_)))))
 exact lp [0, 0, 0] [0] fun a w hs => ⟨struck2, left2, IntKind.wrap .i64 (a_ + 1), A7, L7, C7, hL2, hs⟩
 refine c_exit0 ?_
 cases hL2
 exact sK [0, 0, 0] [0] (hN2 A5 L5 C5)
 intro A6 L6 C6
 refine sat_wc (c_region (oV vM (oV vB (oV vA (o_nil ?_)))))
 exact lp [0, 0, 0] [0] fun a w hs => ⟨o2.1, o2.2.1, IntKind.wrap .i64 (n + 1), A6, L6, C6, hL1, hs⟩
 refine c_exit0 ?_
 cases hL1
 exact sK [0] [0] (hN1)
 refine sat_wc (cR (oV vM (oV vB (oV vM (oV vA (oV vA (o_seq (c_ret ?_))))))))
 cases hF
 refine s_ret2 rfl (r_tmp rfl) (r_tmp rfl) fun a w hs => fin_sel hs [] ⟨rfl, rfl, rfl⟩ rfl sub_nil
theorem tri33 {k : Nat} {g_ : Gram} {w__ : List Int} {r : Int} (hF : F.ref08.Fit k g_ w__ = some r) :
    Tri Try.prog 33 [.agg (vGram g_ A1 L1 C1).toArray, sl A2 L2 C2] [] [fS A1 L1 C1 2 eRule g_.Rules, fS A2 L2 C2 1 eU8 w__] (oR (iI r)) := by
 unfold F.ref08.Fit at hF
 refine tri_intro (n := 21) Try.func33 rfl Try.ntmps33 rfl fun w X => cR (o_box rfl rfl rfl fun b => oV vA (o_seq (cR (oV (vL 0 ty24) (oV vM ?_)))))
 obtain ⟨v_, h1, hF⟩ := bd hF
 refine o_callSB call56 rfl (lent_f 0 rfl (lent_f 1 rfl lent_nil)) (tri56 h1 :) rfl (oV vA (o_seq (c_seq (cR (oV vM (oV vB (o_seq ?_)))))))
 refine cC hF (fun hF => ?_) (fun hF => ?_)
 refine cR (oV vM (oV vA (o_seq (c_ret ?_))))
 cases hF
 exact sR
 refine c_skip (sat_wc (cR (oV (vL 0 ty24) ?_)))
 obtain ⟨v_1, h3, hF⟩ := bd hF
 refine o_callSB call57 rfl (lent_f 0 rfl lent_nil) (tri57 h3 :) rfl (oV vM (oV vX (oV vX (oV vA (oV vA (o_seq (c_seq (cR (oV vM (o_seq ?_))))))))))
 refine cC hF (fun hF => ?_) (fun hF => ?_)
 refine cR (oV vA (o_seq (c_ret ?_)))
 cases hF
 exact sR
 refine c_skip (sat_wc (cR (oV vM (oV vA (o_seq (c_ret ?_))))))
 cases hF
 exact sR
theorem tri59 {t : Ref07_Table} {a_ : Int} {i : Int} {j_ : Int} {b : Nat} {r : Int} (hF : F.ref07.Table_at t a_ i j_ = some r) :
    Tri Try.prog 59 [pt b, iI a_, iI i, iI j_] [.box b 81 (vRef07_Table t A1 L1 C1 A2 L2 C2 A3 L3 C3), rW A3 L3 C3 4 1 eB t.Yes] [fS A1 L1 C1 2 eRule t.G.Rules, fS A2 L2 C2 1 eU8 t.W] (fun o H Φ => o = .ret (iI r) ∧ H = [.box b 81 (vRef07_Table t A1 L1 C1 A2 L2 C2 A3 L3 C3), rW A3 L3 C3 4 1 eB t.Yes] ∧ Φ = []) := by
 unfold F.ref07.Table_at at hF
 refine tri_intro (n := 26) Try.func59 rfl Try.ntmps59 rfl fun w X => cR (oV vA (o_seq (c_seq (c_draw (n := 18) [0, 0] mixed rfl rfl (dv 0 rfl vM (dv 1 rfl vM (dv 2 rfl vC (dv 3 rfl (vF 4) (dv 4 rfl (vL 0 ty3) (dv 5 rfl vB (dv 6 rfl vB (dv 7 rfl vM (dv 8 rfl vB ?_)))))))))))))
 refine dv 9 rfl vM (dv 10 rfl vC (dv 11 rfl (vF 4) (dv 12 rfl (vL 0 ty3) (dv 13 rfl vB (dv 14 rfl vB (dv 15 rfl vM (dv 16 rfl vB (dv 17 rfl vA (d_done_seq (by kernel_rfl) (c_ret ?_))))))))))
 cases hF
 refine s_ret1 rfl (r_tmp rfl) fun a w hs => fin_sel hs [0, 0] ⟨rfl, rfl, rfl⟩ rfl sub_nil
theorem tri47 {t : Ref07_Table} {a_ : Int} {i : Int} {j_ : Int} {b : Nat} {r : Bool} (hF : F.ref07.Table_Has t a_ i j_ = some r) :
    Tri Try.prog 47 [pt b, iI a_, iI i, iI j_] [.box b 81 (vRef07_Table t A1 L1 C1 A2 L2 C2 A3 L3 C3), rW A3 L3 C3 4 1 eB t.Yes] [fS A1 L1 C1 2 eRule t.G.Rules, fS A2 L2 C2 1 eU8 t.W] (fun o H Φ => o = .ret (bV r) ∧ H = [.box b 81 (vRef07_Table t A1 L1 C1 A2 L2 C2 A3 L3 C3), rW A3 L3 C3 4 1 eB t.Yes] ∧ Φ = []) := by
 unfold F.ref07.Table_Has at hF
 refine tri_intro (n := 20) Try.func47 rfl Try.ntmps47 rfl fun w X => cR (oV vA (o_seq (c_seq (c_draw (n := 12) [0, 0] mixed rfl rfl (dv 0 rfl vM (dv 1 rfl vC (dv 2 rfl (vF 5) (dv 3 rfl (vL 0 ty79) (dv 4 rfl vM (dv 5 rfl vM (dv 6 rfl vM (dv 7 rfl vM (dO 8 rfl ?_)))))))))))))
 obtain ⟨v_, h1, hF⟩ := bd hF
 refine ocl [0, 0] call59 rfl rfl (subs [0, 1] rfl) (tri59 h1 :) ?_
 rintro _ _ _ ⟨rfl, rfl, rfl⟩
 refine dN [0, 0] 0 (ite_some hF ?_)
 intro h2 hF
 refine dv 9 rfl (v_indexAddr_s (xs := t.Yes) (enc := eB) sl79 rfl rfl (.r 1 _ rfl) h2) (dv 10 rfl (v_load_s (xs := t.Yes) (enc := eB) ty4 rfl (.r 1 _ rfl) h2 rfl rfl rfl rfl rfl rfl rfl) (dv 11 rfl vA (d_done_seq (by kernel_rfl) (c_ret ?_))))
 cases hF
 refine s_ret1 rfl (r_tmp rfl) fun a w hs => fin_sel hs [0, 0] ⟨rfl, rfl, rfl⟩ rfl sub_nil
theorem tri44 {k : Nat} {s : S4} {n : Int} {r : Bool} (hF : F.ref01.Has k s n = some r) :
    Tri Try.prog 44 [.agg s.vs.toArray, iI n] [] [] (oR (bV r)) := by
 unfold F.ref01.Has at hF
 refine tri_intro (n := 40) Try.func44 rfl Try.ntmps44 rfl fun w X => cR (o_box rfl rfl rfl fun b => oV vA (o_seq (c_seq (cR (oV vM (oV vB (oV vM ?_)))))))
 refine oS 9 hF (fun hF => ?_) (fun hF => ?_)
 refine oF (oF (oV vPt (o_seq ?_)))
 refine c_cond rfl (fun _ => ?_) (fun h => Bool.noConfusion h)
 refine cR (oV vA (o_seq (c_ret ?_)))
 cases hF
 exact sR
 refine oN (oV vM (oN (oV vB (oV vPf (o_seq ?_)))))
 refine cC hF (fun hF => ?_) (fun hF => ?_)
 refine cR (oV vA (o_seq (c_ret ?_)))
 cases hF
 exact sR
 refine c_skip (sat_wc (cR (oV (v_indexAddr_a ar45 rfl rfl rfl) (oV (vL 0 ty43) (oV vA (o_seq (c_seq (cR (oV vM (oV (v_quo rfl rfl rfl) (o_seq ?_)))))))))))
 refine cT (fun E H Φ N' => ∀ (w__ : Int), F.ref01.Has_j1 k n w__ = some r → Sat E [(0, .agg s.vs.toArray), (1, iI n), (2, pt b), (4, bV false), (5, iU w__)] H [] N') (fun N2 hN2 => ?_) ?_
 refine c_block (cR (oV vB (oV vA (o_seq ?_))))
 refine cC hF (fun hF => ?_) (fun hF => ?_)
 refine c_region (oV (v_indexAddr_a ar45 rfl rfl rfl) (oV (vL 0 ty43) (oV vA (o_nil ?_))))
 exact sK [0] [] (hN2 s.w1 hF)
 refine cR (oV vB (oV vA (o_seq ?_)))
 refine cT (fun E H Φ N' => ∀ (w__2 : Int), F.ref01.Has_j3 k n w__2 = some r → Sat E [(0, .agg s.vs.toArray), (1, iI n), (2, pt b), (4, bV false), (5, iU w__2), (16, iI (gquo .i64 n 64))] H [] N') (fun N3 hN3 => ?_) ?_
 refine cC hF (fun hF => ?_) (fun hF => ?_)
 refine c_region (oV (v_indexAddr_a ar45 rfl rfl rfl) (oV (vL 0 ty43) (oV vA (o_nil ?_))))
 exact sK [0] [] (hN3 s.w2 hF)
 refine cR (oV vB (oV vA (o_seq ?_)))
 refine cC hF (fun hF => ?_) (fun hF => ?_)
 refine c_region (oV (v_indexAddr_a ar45 rfl rfl rfl) (oV (vL 0 ty43) (oV vA (o_nil ?_))))
 exact sK [0] [] (hN3 s.w3 hF)
 refine c_skip ?_
 exact sK [0] [] (hN3 s.w0 hF)
 intro w__2 hF
 unfold F.ref01.Has_j3 at hF
 exact sK [0] [] (hN2 w__2 hF)
 intro w__ hF
 unfold F.ref01.Has_j1 at hF
 refine sat_wc (c_seq (cR (oV vA (o_seq ?_))))
 obtain ⟨o2, ho2, hF⟩ := bd hF
 refine cT (fun E H Φ N' => Sat E [(0, .agg s.vs.toArray), (1, iI n), (2, pt b), (4, bV false), (5, iU o2)] H [] N') (fun N2 hN2 => ?_) ?_
 refine c_block ?_
 refine cL (fun E H Φ j a w => ∃ (w__1 : Int) (i : Int), F.ref01.Has_l2 n j w__1 i = some o2 ∧ St E [(0, .agg s.vs.toArray), (1, iI n), (2, pt b), (4, bV false), (5, iU w__1), (6, iI i)] H [] a w) k ?_ ?_
 exact lq [0] [] fun a w hs => ⟨w__, 0, ho2, hs⟩
 rintro j a w ⟨w__1, i, hL2, hs⟩
 rcases j with _ | j
 cases hL2
 refine wc_app hs ?_
 unfold F.ref01.Has_l2 at hL2
 refine c_seq (cR (oV vM (oV vM (oV (v_rem rfl rfl rfl) (oV vB (o_seq ?_))))))
 refine cC hL2 (fun hL2 => ?_) (fun hL2 => ?_)
 refine c_skip (sat_wc (c_seq (c_block (c_region (oV vM (oV (v_quo rfl rfl rfl) (oV vA (o_nil (sat_wc (c_region (oV vM (oV vB (oV vA (o_nil ?_))))))))))))))
 exact lp [0] [] fun a w hs => ⟨gquo .u64 w__1 2, IntKind.wrap .i64 (i + 1), hL2, hs⟩
 refine c_exit0 ?_
 cases hL2
 exact sK [0] [] (hN2)
 refine sat_wc (cR (oV vM (oV (v_rem rfl rfl rfl) (oV vB (oV vA (o_seq (c_ret ?_)))))))
 cases hF
 exact sR
theorem tri67 {k : Nat} {t : Ref07_Table} {s : KSym} {i : Int} {j_ : Int} {b : Nat} {r : Bool} (hF : F.ref07.Table_Sym k t s i j_ = some r) :
    Tri Try.prog 67 [pt b, .agg (vKSym s).toArray, iI i, iI j_] [.box b 81 (vRef07_Table t A1 L1 C1 A2 L2 C2 A3 L3 C3), rW A3 L3 C3 4 1 eB t.Yes] [fS A1 L1 C1 2 eRule t.G.Rules, fS A2 L2 C2 1 eU8 t.W] (fun o H Φ => o = .ret (bV r) ∧ H = [.box b 81 (vRef07_Table t A1 L1 C1 A2 L2 C2 A3 L3 C3), rW A3 L3 C3 4 1 eB t.Yes] ∧ Φ = []) := by
 unfold F.ref07.Table_Sym at hF
 refine tri_intro (n := 35) Try.func67 rfl Try.ntmps67 rfl fun w X => cR (o_box rfl rfl rfl fun b1 => oV vA (o_seq (c_seq (cR ((fD 0) (oV (vL 0 ty3) (oV vB (o_seq ?_))))))))
 refine cC hF (fun hF => ?_) (fun hF => ?_)
 refine cR (oV vM ((fD 0) (oV (vL 0 ty3) (oV vM (oV vM ?_)))))
 obtain ⟨v_, h2, hF⟩ := bd hF
 refine ocl [1, 1] call47 rfl rfl (subs [0, 1] rfl) (tri47 h2 :) ?_
 rintro _ _ _ ⟨rfl, rfl, rfl⟩
 refine oV vA (o_seq (c_ret ?_))
 cases hF
 refine s_ret1 rfl (r_tmp rfl) fun a w hs => fin_sel hs [0, 0] ⟨rfl, rfl, rfl⟩ rfl sub_nil
 refine c_skip (sat_wc (c_seq (c_draw (n := 18) [0, 0, 0] mixed rfl rfl (dv 0 rfl vM (dv 1 rfl vM (dv 2 rfl vB (dv 3 rfl vB (dv 4 rfl vM ?_))))))))
 refine d_split (t := 22) rfl (fun h3 => ?_) (fun h3 => ?_)
 replace hF := ite_t h3 hF
 refine dw 5 rfl rfl rfl (vF 1) (dw 6 rfl rfl rfl (vL 0 ty45) (dw 7 rfl rfl rfl vM (dw 8 rfl rfl rfl vC (dw 9 rfl rfl rfl (vF 3) (dw 10 rfl rfl rfl (vL 1 ty25) (dw 11 rfl rfl rfl vM (ite_some hF ?_)))))))
 intro h4 hF
 refine dw 12 rfl rfl rfl (v_indexAddr_s (xs := t.W) (enc := eU8) sl25 rfl rfl (.f 1 rfl) h4) (dw 13 rfl rfl rfl (v_load_s (xs := t.W) (enc := eU8) ty5 rfl (.f 1 rfl) h4 rfl rfl rfl rfl rfl rfl rfl) (dw 14 rfl rfl rfl (v_convert (v := iI (IntKind.wrap .i64 (at_ t.W i))) rfl (fun _ => by kernel_rfl)) (dO 15 rfl (oN ?_))))
 obtain ⟨v_1, h5, hF⟩ := bd hF
 refine o_callSB call44 rfl lent_nil (tri44 h5 :) rfl (dN [0, 0, 0] 0 (dv 16 rfl vPt (dv 17 rfl vA (d_done_seq (by kernel_rfl) (c_ret ?_)))))
 cases hF
 refine s_ret1 rfl (r_tmp rfl) fun a w hs => fin_sel hs [1, 1] ⟨rfl, rfl, rfl⟩ rfl sub_nil
 replace hF := ite_f h3 hF
 refine dF 5 rfl (dF 6 rfl (dF 7 rfl (dF 8 rfl (dF 9 rfl (dF 10 rfl (dF 11 rfl (dF 12 rfl (dF 13 rfl (dF 14 rfl (dF 15 rfl (dv 16 rfl vPf (dv 17 rfl vA (d_done_seq (by kernel_rfl) (c_ret ?_))))))))))))))
 cases hF
 refine s_ret1 rfl (r_tmp rfl) fun a w hs => fin_sel hs [1, 1] ⟨rfl, rfl, rfl⟩ rfl sub_nil
theorem tri58 {k : Nat} {t : Ref07_Table} {rhs : List KSym} {i : Int} {b : Nat} {r : List Bool} (hF : F.ref07.Table_Ends k t rhs i = some r) :
    Tri Try.prog 58 [pt b, sl A4 L4 C4, iI i] [.box b 81 (vRef07_Table t A1 L1 C1 A2 L2 C2 A3 L3 C3), rW A3 L3 C3 4 1 eB t.Yes] [fS A1 L1 C1 2 eRule t.G.Rules, fS A2 L2 C2 1 eU8 t.W, fS A4 L4 C4 5 eKSym rhs] (fun o H Φ => ∃ (A15 : OA) (L15 C15 : Nat), o = .ret (sl A15 L15 C15) ∧ H = [.box b 81 (vRef07_Table t A1 L1 C1 A2 L2 C2 A3 L3 C3), rW A3 L3 C3 4 1 eB t.Yes, rW A15 L15 C15 4 1 eB r] ∧ Φ = []) := by
 unfold F.ref07.Table_Ends at hF
 refine tri_intro (n := 72) Try.func58 rfl Try.ntmps58 rfl fun w X => cR (oV vA (o_seq (cR (oV vA (o_seq (c_seq (cR (oV vA (o_seq ?_)))))))))
 obtain ⟨o1, ho1, hF⟩ := bd hF
 refine c_cut (fun E N' => ∀ (A6 : OA) (L6 C6 : Nat), Sat E [(0, pt b), (1, sl A4 L4 C4), (2, iI i), (6, nS), (7, sl A6 L6 C6)] [.box b 81 (vRef07_Table t A1 L1 C1 A2 L2 C2 A3 L3 C3), rW A6 L6 C6 4 1 eB o1, rW A3 L3 C3 4 1 eB t.Yes] [fS A4 L4 C4 5 eKSym rhs, fS A1 L1 C1 2 eRule t.G.Rules, fS A2 L2 C2 1 eU8 t.W] N') (fun N1 hN1 => ?_) ?_
 refine c_block ?_
 refine c_loopE (fun E j a w => ∃ (now : List Bool) (j_ : Int) (A5 : OA) (L5 C5 : Nat), F.ref07.Table_Ends_l1 t i j now j_ = some o1 ∧ St E [(0, pt b), (1, sl A4 L4 C4), (2, iI i), (6, nS), (7, sl A5 L5 C5), (8, iI j_)] [.box b 81 (vRef07_Table t A1 L1 C1 A2 L2 C2 A3 L3 C3), rW A5 L5 C5 4 1 eB now, rW A3 L3 C3 4 1 eB t.Yes] [fS A4 L4 C4 5 eKSym rhs, fS A1 L1 C1 2 eRule t.G.Rules, fS A2 L2 C2 1 eU8 t.W] a w) k ?_ ?_
 refine s_st (st_nilrow 4 1) ?_
 exact lq [1, 0, 0] [2, 0, 1] fun a w hs => ⟨([] : List Bool), 0, none, 0, 0, ho1, hs⟩
 rintro j a w ⟨now, j_, A5, L5, C5, hL1, hs⟩
 rcases j with _ | j
 cases hL1
 refine wc_app hs ?_
 unfold F.ref07.Table_Ends_l1 at hL1
 refine c_seq (cR (oV vM (oV vM (oV vC ((fD 4) (oV (vL 0 ty3) (oV vB (o_seq ?_))))))))
 refine cC hL1 (fun hL1 => ?_) (fun hL1 => ?_)
 refine c_skip (sat_wc (c_seq (c_block (c_region (oV vM (oV vM (oV vM (oV vB (o_buildSlice (enc := eB) ([(j_ == i)] : List Bool) [bV (j_ == i)] sl79 rfl (fun _ => by kernel_rfl) rfl rfl rfl (.s rfl (.nil)) rfl ?_)))))))))
 intro A7 L7 C7
 refine ite_some hL1 fun h2 hL1 => ite_some hL1 fun h3 hL1 => o_append (enc := eB) (xs := now) (ys := ([(j_ == i)] : List Bool)) 2 sl79 rfl rfl rfl (.r 0 _ rfl) h2 h3 rfl fun A8 L8 C8 => oV vA (o_nil (sat_wc ?_))
 refine c_region (oV vM (oV vB (oV vA (o_nil ?_))))
 exact lp [1, 1, 1] [0, 1, 2] fun a w hs => ⟨(now ++ ([(j_ == i)] : List Bool)), IntKind.wrap .i64 (j_ + 1), A8, L8, C8, hL1, hs⟩
 refine c_exit0 ?_
 cases hL1
 exact sK [0, 0, 0] [0, 1, 2] (hN1 A5 L5 C5)
 intro A6 L6 C6
 refine sat_wc (c_seq (cR (oV vA (o_seq ?_))))
 obtain ⟨o2, ho2, hF⟩ := bd hF
 refine c_cut (fun E N' => ∀ (A10 : OA) (L10 C10 : Nat), Sat E [(0, pt b), (2, iI i), (6, nS), (7, sl A10 L10 C10)] [.box b 81 (vRef07_Table t A1 L1 C1 A2 L2 C2 A3 L3 C3), rW A10 L10 C10 4 1 eB o2, rW A3 L3 C3 4 1 eB t.Yes] [fS A1 L1 C1 2 eRule t.G.Rules, fS A2 L2 C2 1 eU8 t.W] N') (fun N2 hN2 => ?_) ?_
 refine c_block ?_
 refine cL (fun E H Φ j a w => ∃ (now1 : List Bool) (k_ : Int) (A9 : OA) (L9 C9 : Nat), F.ref07.Table_Ends_l2 k rhs t i j now1 k_ = some o2 ∧ St E [(0, pt b), (1, sl A4 L4 C4), (2, iI i), (6, nS), (7, sl A9 L9 C9), (9, iI k_)] [.box b 81 (vRef07_Table t A1 L1 C1 A2 L2 C2 A3 L3 C3), rW A9 L9 C9 4 1 eB now1, rW A3 L3 C3 4 1 eB t.Yes] Φ a w) k ?_ ?_
 exact lq [0, 0, 0] [0, 1, 2] fun a w hs => ⟨o1, 0, A6, L6, C6, ho2, hs⟩
 rintro j a w ⟨now1, k_, A9, L9, C9, hL2, hs⟩
 rcases j with _ | j
 cases hL2
 refine wc_app hs ?_
 unfold F.ref07.Table_Ends_l2 at hL2
 refine c_seq (cR (oV vM (oV vM (oV (v_lenS (enc := eKSym) rhs sl48 rfl (.f 0 rfl)) (oV vB (o_seq ?_))))))
 refine cC hL2 (fun hL2 => ?_) (fun hL2 => ?_)
 refine c_skip (sat_wc (c_seq (c_block (cR (oV vA (o_seq (c_seq (cR (oV vA (o_seq ?_))))))))))
 obtain ⟨o3, ho3, hL2⟩ := bd hL2
 refine cT (fun E H Φ N' => ∀ (A12 : OA) (L12 C12 : Nat), Sat E [(0, pt b), (1, sl A4 L4 C4), (2, iI i), (6, nS), (7, sl A9 L9 C9), (9, iI k_), (10, sl A12 L12 C12), (11, iI o3.2)] [.box b 81 (vRef07_Table t A1 L1 C1 A2 L2 C2 A3 L3 C3), rW A9 L9 C9 4 1 eB now1, rW A12 L12 C12 4 1 eB o3.1, rW A3 L3 C3 4 1 eB t.Yes] Φ N') (fun N3 hN3 => ?_) ?_
 refine c_block ?_
 refine cL (fun E H Φ j a w => ∃ (next_ : List Bool) (j_1 : Int) (A11 : OA) (L11 C11 : Nat), F.ref07.Table_Ends_l3 k t now1 k_ rhs i j next_ j_1 = some o3 ∧ St E [(0, pt b), (1, sl A4 L4 C4), (2, iI i), (6, nS), (7, sl A9 L9 C9), (9, iI k_), (10, sl A11 L11 C11), (11, iI j_1)] [.box b 81 (vRef07_Table t A1 L1 C1 A2 L2 C2 A3 L3 C3), rW A9 L9 C9 4 1 eB now1, rW A11 L11 C11 4 1 eB next_, rW A3 L3 C3 4 1 eB t.Yes] Φ a w) k ?_ ?_
 refine s_st (st_nilrow 4 1) ?_
 exact lq [1, 1, 0, 0] [0, 1, 2] fun a w hs => ⟨([] : List Bool), 0, none, 0, 0, ho3, hs⟩
 rintro j a w ⟨next_, j_1, A11, L11, C11, hL3, hs⟩
 rcases j with _ | j
 cases hL3
 refine wc_app hs ?_
 unfold F.ref07.Table_Ends_l3 at hL3
 refine c_seq (cR (oV vM (oV vM (oV vC ((fD 4) (oV (vL 0 ty3) (oV vB (o_seq ?_))))))))
 refine cC hL3 (fun hL3 => ?_) (fun hL3 => ?_)
 refine c_skip (sat_wc (c_seq (c_block (cR (oV vA (o_seq (c_seq (cR (oV vM (oV vA (o_seq ?_)))))))))))
 obtain ⟨o4, ho4, hL3⟩ := bd hL3
 refine cT (fun E H Φ N' => Sat E [(0, pt b), (1, sl A4 L4 C4), (2, iI i), (6, nS), (7, sl A9 L9 C9), (9, iI k_), (10, sl A11 L11 C11), (11, iI j_1), (12, bV o4.1), (13, iI o4.2)] H Φ N') (fun N4 hN4 => ?_) ?_
 refine c_block ?_
 refine cL (fun E H Φ j a w => ∃ (is : Bool) (m : Int), F.ref07.Table_Ends_l4 k j_1 now1 k_ rhs t j is m = some o4 ∧ St E [(0, pt b), (1, sl A4 L4 C4), (2, iI i), (6, nS), (7, sl A9 L9 C9), (9, iI k_), (10, sl A11 L11 C11), (11, iI j_1), (12, bV is), (13, iI m)] H Φ a w) k ?_ ?_
 exact lq [0, 0, 0, 0] [0, 1, 2] fun a w hs => ⟨false, i, ho4, hs⟩
 rintro j a w ⟨is, m, hL4, hs⟩
 rcases j with _ | j
 cases hL4
 refine wc_app hs ?_
 unfold F.ref07.Table_Ends_l4 at hL4
 refine c_seq (c_seq ?_)
 refine cT (fun E H Φ N' => ∀ (t49 : Bool), F.ref07.Table_Ends_j5 k m now1 k_ rhs t j_1 (F.ref07.Table_Ends_l4 k j_1 now1 k_ rhs t j) is t49 = some o4 → Sat E [(0, pt b), (1, sl A4 L4 C4), (2, iI i), (6, nS), (7, sl A9 L9 C9), (9, iI k_), (10, sl A11 L11 C11), (11, iI j_1), (12, bV is), (13, iI m), (49, bV t49)] H Φ N') (fun N7 hN7 => ?_) ?_
 refine c_region (oV vM (oV vM (oV vB (oV vM ?_))))
 refine oS 46 hL4 (fun hL4 => ?_) (fun hL4 => ?_)
 refine oN (oV vM (oN (oV vN (oV vPt (o_nil ?_)))))
 exact sK [0, 0, 0, 0] [0, 1, 2] (hN7 (!is) hL4)
 refine oF (oF (oV vPf (o_nil ?_)))
 exact sK [0, 0, 0, 0] [0, 1, 2] (hN7 false hL4)
 intro t49 hL4
 unfold F.ref07.Table_Ends_j5 at hL4
 refine sat_wc ?_
 refine cC hL4 (fun hL4 => ?_) (fun hL4 => ?_)
 refine c_skip (sat_wc (c_seq ?_))
 refine cT (fun E H Φ N' => ∀ (is1 : Bool), F.ref07.Table_Ends_j6 (F.ref07.Table_Ends_l4 k j_1 now1 k_ rhs t j) m is1 = some o4 → Sat E [(0, pt b), (1, sl A4 L4 C4), (2, iI i), (6, nS), (7, sl A9 L9 C9), (9, iI k_), (10, sl A11 L11 C11), (11, iI j_1), (12, bV is1), (13, iI m)] H Φ N') (fun N6 hN6 => ?_) ?_
 refine c_block ?_
 refine cT (fun E H Φ N' => ∀ (is2 : Bool), F.ref07.Table_Ends_j7 (F.ref07.Table_Ends_l4 k j_1 now1 k_ rhs t j) m is2 = some o4 → Sat E [(0, pt b), (1, sl A4 L4 C4), (2, iI i), (6, nS), (7, sl A9 L9 C9), (9, iI k_), (10, sl A11 L11 C11), (11, iI j_1), (12, bV is2), (13, iI m)] H Φ N') (fun N7 hN7 => ?_) ?_
 refine c_region (oV vM (oV vM (ite_some hL4 ?_)))
 intro h7 hL4
 refine oV (v_indexAddr_s (xs := now1) (enc := eB) sl79 rfl rfl (.r 1 _ rfl) h7) (oV (v_load_s (xs := now1) (enc := eB) ty4 rfl (.r 1 _ rfl) h7 rfl rfl rfl rfl rfl rfl rfl) (oV vM ?_))
 refine oS 56 hL4 (fun hL4 => ?_) (fun hL4 => ?_)
 refine oN (oV vM (oN (oV vM (oN (oV vM (oN (ite_some hL4 ?_)))))))
 intro h9 hL4
 refine oV (v_indexAddr_s (xs := rhs) (enc := eKSym) sl48 rfl rfl (.f 0 rfl) h9) (oN (oV (v_load_s (xs := rhs) (enc := eKSym) ty47 rfl (.f 0 rfl) h9 rfl rfl rfl rfl rfl rfl rfl) (oN (oV vM (oN (oV vM (oN ?_)))))))
 obtain ⟨v_, h10, hL4⟩ := bd hL4
 refine ocl [0, 2] call67 rfl rfl (subs [1, 2] rfl) (tri67 h10 :) ?_
 rintro _ _ _ ⟨rfl, rfl, rfl⟩
 refine oV vPt (oV vA (o_nil ?_))
 exact sK [0, 1, 1, 0] [0, 1, 2] (hN7 v_ hL4)
 refine oF (oF (oF (oF (oF (oF (oF (oF (oV vPf (oV vA (o_nil ?_))))))))))
 exact sK [0, 0, 0, 0] [0, 1, 2] (hN7 false hL4)
 intro is2 hL4
 unfold F.ref07.Table_Ends_j7 at hL4
 exact sK [0, 0, 0, 0] [0, 1, 2] (hN6 is2 hL4)
 intro is1 hL4
 unfold F.ref07.Table_Ends_j6 at hL4
 refine sat_wc (c_region (oV vM (oV vB (oV vA (o_nil ?_)))))
 exact lp [0, 0, 0, 0] [0, 1, 2] fun a w hs => ⟨is1, IntKind.wrap .i64 (m + 1), hL4, hs⟩
 refine c_exit0 ?_
 cases hL4
 exact sK [0, 0, 0, 0] [0, 1, 2] (hN4)
 refine sat_wc (c_region (oV vM (oV vM (o_buildSlice (enc := eB) ([o4.1] : List Bool) [bV o4.1] sl79 rfl (fun _ => by kernel_rfl) rfl rfl rfl (.s rfl (.nil)) rfl ?_))))
 intro A13 L13 C13
 refine ite_some hL3 fun h12 hL3 => ite_some hL3 fun h13 hL3 => o_append (enc := eB) (xs := next_) (ys := ([o4.1] : List Bool)) 3 sl79 rfl rfl rfl (.r 0 _ rfl) h12 h13 rfl fun A14 L14 C14 => oV vA (o_nil (sat_wc (c_region (oV vM (oV vB (oV vA (o_nil ?_)))))))
 exact lp [1, 1, 1, 1] [0, 1, 2] fun a w hs => ⟨(next_ ++ ([o4.1] : List Bool)), IntKind.wrap .i64 (j_1 + 1), A14, L14, C14, hL3, hs⟩
 refine c_exit0 ?_
 cases hL3
 exact sK [0, 0, 0, 0] [0, 1, 2] (hN3 A11 L11 C11)
 intro A12 L12 C12
 refine sat_wc (c_region (oV vM (oV vA (o_nil (sat_wc (c_region (oV vM (oV vB (oV vA (o_nil ?_))))))))))
 exact lp [0, 1, 1] [0, 1, 2] fun a w hs => ⟨o3.1, IntKind.wrap .i64 (k_ + 1), A12, L12, C12, hL2, hs⟩
 refine c_exit0 ?_
 cases hL2
 exact sK [0, 0, 0] [1, 2] (hN2 A9 L9 C9)
 intro A10 L10 C10
 refine sat_wc (cR (oV vM (oV vA (o_seq (c_ret ?_)))))
 cases hF
 refine s_ret1 rfl (r_tmp rfl) fun a w hs => fin_sel hs [0, 1, 0] ⟨A10, L10, C10, rfl, rfl, rfl⟩ rfl sub_nil
theorem tri34 {k : Nat} {g_ : Gram} {w__ : List Int} {r : Ref07_Table} (hF : F.ref07.Fill k g_ w__ = some r) :
    Tri Try.prog 34 [.agg (vGram g_ A1 L1 C1).toArray, sl A2 L2 C2] [] [fS A1 L1 C1 2 eRule g_.Rules, fS A2 L2 C2 1 eU8 w__] (fun o H Φ => ∃ (gb : Nat) (A19 : OA) (L19 C19 : Nat) (A20 : OA) (L20 C20 : Nat) (A21 : OA) (L21 C21 : Nat), o = .ret (pt gb) ∧ H = [.box gb 81 (vRef07_Table r A19 L19 C19 A20 L20 C20 A21 L21 C21), rW A21 L21 C21 4 1 eB r.Yes] ∧ Φ = [fS A19 L19 C19 2 eRule r.G.Rules, fS A20 L20 C20 1 eU8 r.W]) := by
 unfold F.ref07.Fill at hF
 refine tri_intro (n := 111) Try.func34 rfl Try.ntmps34 rfl fun w X => cR (o_box rfl rfl rfl fun b => oV vA (o_seq (cR (oV (vL 0 ty24) (oV vM (oV vM (oV (v_lenS (enc := eU8) w__ sl25 rfl (.f 1 rfl)) (oV (vU (.agg #[iI g_.Nts, iI g_.Start, sl A1 L1 C1, sl A2 L2 C2, iI (w__.length : Int), nS])) (o_box rfl rfl rfl ?_)))))))))
 intro b1
 refine oV vA (o_seq ?_)
 refine c_seq (cR (oV vA (o_seq ?_)))
 obtain ⟨o1, ho1, hF⟩ := bd hF
 refine cT (fun E H Φ N' => ∀ (A4 : OA) (L4 C4 : Nat), Sat E [(0, .agg (vGram g_ A1 L1 C1).toArray), (1, sl A2 L2 C2), (2, pt b), (5, pt b1)] [.box b1 81 [iI g_.Nts, iI g_.Start, sl A1 L1 C1, sl A2 L2 C2, iI (w__.length : Int), sl A4 L4 C4], .box b 24 (vGram g_ A1 L1 C1), rW A4 L4 C4 4 1 eB o1] Φ N') (fun N1 hN1 => ?_) ?_
 refine c_block ?_
 refine cL (fun E H Φ j a w => ∃ (i : Int) (Yes_ : List Bool) (A3 : OA) (L3 C3 : Nat), F.ref07.Fill_l1 g_ w__ j i Yes_ = some o1 ∧ St E [(0, .agg (vGram g_ A1 L1 C1).toArray), (1, sl A2 L2 C2), (2, pt b), (5, pt b1), (6, iI i)] [.box b1 81 [iI g_.Nts, iI g_.Start, sl A1 L1 C1, sl A2 L2 C2, iI (w__.length : Int), sl A3 L3 C3], .box b 24 (vGram g_ A1 L1 C1), rW A3 L3 C3 4 1 eB Yes_] Φ a w) k ?_ ?_
 refine s_st (st_nilrow 4 1) ?_
 exact lq [1, 1, 0] [0, 1] fun a w hs => ⟨0, ([] : List Bool), none, 0, 0, ho1, hs⟩
 rintro j a w ⟨i, Yes_, A3, L3, C3, hL1, hs⟩
 rcases j with _ | j
 cases hL1
 refine wc_app hs ?_
 unfold F.ref07.Fill_l1 at hL1
 refine c_seq (c_seq (c_draw (n := 16) [0, 0, 0] mixed rfl rfl (dv 0 rfl vM (dv 1 rfl (vF 0) (dv 2 rfl (vL 1 ty3) (dv 3 rfl vM (dv 4 rfl vC (dv 5 rfl (vF 4) (dv 6 rfl (vL 0 ty3) (dv 7 rfl vB (dv 8 rfl vB (dv 9 rfl vM (dv 10 rfl vC (dv 11 rfl (vF 4) (dv 12 rfl (vL 0 ty3) ?_)))))))))))))))
 refine dv 13 rfl vB (dv 14 rfl vB (dv 15 rfl vB (d_done_seq (by kernel_rfl) ?_)))
 refine cC hL1 (fun hL1 => ?_) (fun hL1 => ?_)
 refine c_skip (sat_wc (c_seq (c_block (c_region (oV vM (oV vM (oV vC ((fD 5) (oV (vL 0 ty79) (o_buildSlice (enc := eB) ([false] : List Bool) [bV false] sl79 rfl (fun _ => by kernel_rfl) rfl rfl rfl (.s rfl (.nil)) rfl ?_))))))))))
 intro A5 L5 C5
 refine ite_some hL1 fun h2 hL1 => ite_some hL1 fun h3 hL1 => o_append (enc := eB) (xs := Yes_) (ys := ([false] : List Bool)) 3 sl79 rfl rfl rfl (.r 0 _ rfl) h2 h3 rfl fun A6 L6 C6 => oV vC ((fD 5) ?_)
 refine (sT 1 ty79) (o_nil (sat_wc (c_region (oV vM (oV vB (oV vA (o_nil ?_)))))))
 exact lp [1, 1, 1] [0, 1] fun a w hs => ⟨IntKind.wrap .i64 (i + 1), (Yes_ ++ ([false] : List Bool)), A6, L6, C6, hL1, hs⟩
 refine c_exit0 ?_
 cases hL1
 exact sK [0, 0, 0] [0, 1] (hN1 A3 L3 C3)
 intro A4 L4 C4
 refine sat_wc (cR (oV vA (o_seq (c_seq ?_))))
 obtain ⟨o2, ho2, hF⟩ := bd hF
 refine cT (fun E H Φ N' => ∀ (A8 : OA) (L8 C8 : Nat), Sat E [(0, .agg (vGram g_ A1 L1 C1).toArray), (1, sl A2 L2 C2), (2, pt b), (5, pt b1)] [.box b1 81 [iI g_.Nts, iI g_.Start, sl A1 L1 C1, sl A2 L2 C2, iI (w__.length : Int), sl A8 L8 C8], .box b 24 (vGram g_ A1 L1 C1), rW A8 L8 C8 4 1 eB o2] Φ N') (fun N2 hN2 => ?_) ?_
 refine c_block ?_
 refine cL (fun E H Φ j a w => ∃ (more : Bool) (Yes_1 : List Bool) (A7 : OA) (L7 C7 : Nat), F.ref07.Fill_l2 k g_ w__ j more Yes_1 = some o2 ∧ St E [(0, .agg (vGram g_ A1 L1 C1).toArray), (1, sl A2 L2 C2), (2, pt b), (5, pt b1), (7, bV more)] [.box b1 81 [iI g_.Nts, iI g_.Start, sl A1 L1 C1, sl A2 L2 C2, iI (w__.length : Int), sl A7 L7 C7], .box b 24 (vGram g_ A1 L1 C1), rW A7 L7 C7 4 1 eB Yes_1] Φ a w) k ?_ ?_
 exact lq [0, 0, 0] [0, 1] fun a w hs => ⟨true, o1, A4, L4, C4, ho2, hs⟩
 rintro j a w ⟨more, Yes_1, A7, L7, C7, hL2, hs⟩
 rcases j with _ | j
 cases hL2
 refine wc_app hs ?_
 unfold F.ref07.Fill_l2 at hL2
 refine c_seq (cR (oV vM (o_seq ?_)))
 refine cC hL2 (fun hL2 => ?_) (fun hL2 => ?_)
 refine c_skip (sat_wc (c_block (cR (oV vA (o_seq (cR (oV vA (o_seq ?_))))))))
 obtain ⟨o3, ho3, hL2⟩ := bd hL2
 refine cT (fun E H Φ N' => ∀ (A10 : OA) (L10 C10 : Nat), Sat E [(0, .agg (vGram g_ A1 L1 C1).toArray), (1, sl A2 L2 C2), (2, pt b), (5, pt b1), (7, bV o3.1), (8, iI o3.2.1)] [.box b1 81 [iI g_.Nts, iI g_.Start, sl A1 L1 C1, sl A2 L2 C2, iI (w__.length : Int), sl A10 L10 C10], .box b 24 (vGram g_ A1 L1 C1), rW A10 L10 C10 4 1 eB o3.2.2] Φ N') (fun N3 hN3 => ?_) ?_
 refine c_block ?_
 refine cL (fun E H Φ j a w => ∃ (more1 : Bool) (r_ : Int) (Yes_2 : List Bool) (A9 : OA) (L9 C9 : Nat), F.ref07.Fill_l3 k g_ w__ j more1 r_ Yes_2 = some o3 ∧ St E [(0, .agg (vGram g_ A1 L1 C1).toArray), (1, sl A2 L2 C2), (2, pt b), (5, pt b1), (7, bV more1), (8, iI r_)] [.box b1 81 [iI g_.Nts, iI g_.Start, sl A1 L1 C1, sl A2 L2 C2, iI (w__.length : Int), sl A9 L9 C9], .box b 24 (vGram g_ A1 L1 C1), rW A9 L9 C9 4 1 eB Yes_2] Φ a w) k ?_ ?_
 exact lq [0, 0, 0] [0, 1] fun a w hs => ⟨false, 0, Yes_1, A7, L7, C7, ho3, hs⟩
 rintro j a w ⟨more1, r_, Yes_2, A9, L9, C9, hL3, hs⟩
 rcases j with _ | j
 cases hL3
 refine wc_app hs ?_
 unfold F.ref07.Fill_l3 at hL3
 refine c_seq (cR (oV vM ((fD 2) (oV (vL 1 ty22) (oV (v_lenS (enc := eRule) g_.Rules sl22 rfl (.f 0 rfl)) (oV vB (o_seq ?_)))))))
 refine cC hL3 (fun hL3 => ?_) (fun hL3 => ?_)
 refine c_skip (sat_wc (c_seq (c_block (cR (oV vA (o_seq ?_))))))
 obtain ⟨o4, ho4, hL3⟩ := bd hL3
 refine cT (fun E H Φ N' => ∀ (A12 : OA) (L12 C12 : Nat), Sat E [(0, .agg (vGram g_ A1 L1 C1).toArray), (1, sl A2 L2 C2), (2, pt b), (5, pt b1), (7, bV o4.1), (8, iI r_), (9, iI o4.2.1)] [.box b1 81 [iI g_.Nts, iI g_.Start, sl A1 L1 C1, sl A2 L2 C2, iI (w__.length : Int), sl A12 L12 C12], .box b 24 (vGram g_ A1 L1 C1), rW A12 L12 C12 4 1 eB o4.2.2] Φ N') (fun N4 hN4 => ?_) ?_
 refine c_block ?_
 refine cL (fun E H Φ j a w => ∃ (more2 : Bool) (i1 : Int) (Yes_3 : List Bool) (A11 : OA) (L11 C11 : Nat), F.ref07.Fill_l4 k w__ r_ g_ j more2 i1 Yes_3 = some o4 ∧ St E [(0, .agg (vGram g_ A1 L1 C1).toArray), (1, sl A2 L2 C2), (2, pt b), (5, pt b1), (7, bV more2), (8, iI r_), (9, iI i1)] [.box b1 81 [iI g_.Nts, iI g_.Start, sl A1 L1 C1, sl A2 L2 C2, iI (w__.length : Int), sl A11 L11 C11], .box b 24 (vGram g_ A1 L1 C1), rW A11 L11 C11 4 1 eB Yes_3] Φ a w) k ?_ ?_
 exact lq [0, 0, 0] [0, 1] fun a w hs => ⟨more1, 0, Yes_2, A9, L9, C9, ho4, hs⟩
 rintro j a w ⟨more2, i1, Yes_3, A11, L11, C11, hL4, hs⟩
 rcases j with _ | j
 cases hL4
 refine wc_app hs ?_
 unfold F.ref07.Fill_l4 at hL4
 refine c_seq (cR (oV vM (oV vM (oV vC ((fD 4) (oV (vL 0 ty3) (oV vB (o_seq ?_))))))))
 refine cC hL4 (fun hL4 => ?_) (fun hL4 => ?_)
 refine c_skip (sat_wc (c_seq (c_block (cR (oV vM ((fD 2) (oV (vL 1 ty22) (oV vM (ite_some hL4 ?_)))))))))
 intro h7 hL4
 refine oV (v_indexAddr_s (xs := g_.Rules) (enc := eRule) sl22 rfl rfl (.f 0 rfl) h7) (oV (v_fieldAddr (v := .pointer (some ⟨blkA A1, offA A1 + (Int.toNat r_ * 2 + 1), none⟩)) rfl (fun _ => by kernel_rfl)) (o_load_s (xs := g_.Rules) (enc := eRule) ty48 rfl (.f 0 rfl) h7 rfl rfl rfl rfl rfl rfl ?_))
 intro A13 L13 C13
 refine oV vM ?_
 obtain ⟨v_, h8, hL4⟩ := bd hL4
 refine ocl [0, 1] call58 rfl rfl (subs [1, 2, 0] rfl) (tri58 h8 :) ?_
 rintro _ _ _ ⟨A14, L14, C14, rfl, rfl, rfl⟩
 refine oV vA (o_seq (cR (oV vM (oV vA (o_seq ?_)))))
 obtain ⟨o5, ho5, hL4⟩ := bd hL4
 refine c_cut (fun E N' => ∀ (A16 : OA) (L16 C16 : Nat), Sat E [(0, .agg (vGram g_ A1 L1 C1).toArray), (1, sl A2 L2 C2), (2, pt b), (5, pt b1), (7, bV o5.1), (8, iI r_), (9, iI i1), (10, sl A14 L14 C14), (11, iI o5.2.1)] [.box b1 81 [iI g_.Nts, iI g_.Start, sl A1 L1 C1, sl A2 L2 C2, iI (w__.length : Int), sl A16 L16 C16], .box b 24 (vGram g_ A1 L1 C1), rW A14 L14 C14 4 1 eB v_, rW A16 L16 C16 4 1 eB o5.2.2] [fS A1 L1 C1 2 eRule g_.Rules, fS A2 L2 C2 1 eU8 w__] N') (fun N5 hN5 => ?_) ?_
 refine c_block ?_
 refine c_loopE (fun E j a w => ∃ (more3 : Bool) (j_ : Int) (Yes_4 : List Bool) (A15 : OA) (L15 C15 : Nat), F.ref07.Fill_l5 w__ g_ r_ i1 v_ j more3 j_ Yes_4 = some o5 ∧ St E [(0, .agg (vGram g_ A1 L1 C1).toArray), (1, sl A2 L2 C2), (2, pt b), (5, pt b1), (7, bV more3), (8, iI r_), (9, iI i1), (10, sl A14 L14 C14), (11, iI j_)] [.box b1 81 [iI g_.Nts, iI g_.Start, sl A1 L1 C1, sl A2 L2 C2, iI (w__.length : Int), sl A15 L15 C15], .box b 24 (vGram g_ A1 L1 C1), rW A14 L14 C14 4 1 eB v_, rW A15 L15 C15 4 1 eB Yes_4] [fS A1 L1 C1 2 eRule g_.Rules, fS A2 L2 C2 1 eU8 w__] a w) k ?_ ?_
 exact lq [0, 2, 1, 0] [1, 2] fun a w hs => ⟨more2, i1, Yes_3, A11, L11, C11, ho5, hs⟩
 rintro j a w ⟨more3, j_, Yes_4, A15, L15, C15, hL5, hs⟩
 rcases j with _ | j
 cases hL5
 refine wc_app hs ?_
 unfold F.ref07.Fill_l5 at hL5
 refine c_seq (cR (oV vM (oV vM (oV vC ((fD 4) (oV (vL 0 ty3) (oV vB (o_seq ?_))))))))
 refine cC hL5 (fun hL5 => ?_) (fun hL5 => ?_)
 refine c_skip (sat_wc (c_seq ?_))
 refine cT (fun E H Φ N' => ∀ (more4 : Bool) (at__ : Int) (Yes_5 : List Bool) (A17 : OA) (L17 C17 : Nat), F.ref07.Fill_j6 (F.ref07.Fill_l5 w__ g_ r_ i1 v_ j) j_ more4 at__ Yes_5 = some o5 → Sat E [(0, .agg (vGram g_ A1 L1 C1).toArray), (1, sl A2 L2 C2), (2, pt b), (5, pt b1), (7, bV more4), (8, iI r_), (9, iI i1), (10, sl A14 L14 C14), (11, iI j_), (12, iI at__)] [.box b1 81 [iI g_.Nts, iI g_.Start, sl A1 L1 C1, sl A2 L2 C2, iI (w__.length : Int), sl A17 L17 C17], .box b 24 (vGram g_ A1 L1 C1), rW A14 L14 C14 4 1 eB v_, rW A17 L17 C17 4 1 eB Yes_5] Φ N') (fun N6 hN6 => ?_) ?_
 refine c_block (cR (oV vM ((fD 2) (oV (vL 1 ty22) (oV vM (oV (v_indexAddr_s (xs := g_.Rules) (enc := eRule) sl22 rfl rfl (.f 0 rfl) h7) (oV (v_fieldAddr (v := .pointer (some ⟨blkA A1, offA A1 + (Int.toNat r_ * 2 + 0), none⟩)) rfl (fun _ => by kernel_rfl)) (oV (v_load_s (xs := g_.Rules) (enc := eRule) ty3 rfl (.f 0 rfl) h7 rfl rfl rfl rfl rfl rfl rfl) (oV vM (oV vM ?_))))))))))
 obtain ⟨v_1, h10, hL5⟩ := bd hL5
 refine ocl [0, 2] call59 rfl rfl (subs [0, 1] rfl) (tri59 h10 :) ?_
 rintro _ _ _ ⟨rfl, rfl, rfl⟩
 refine oV vA (o_seq (c_seq ?_))
 refine cT (fun E H Φ N' => ∀ (t103 : Bool), F.ref07.Fill_j7 v_1 Yes_4 (F.ref07.Fill_l5 w__ g_ r_ i1 v_ j) j_ more3 t103 = some o5 → Sat E [(0, .agg (vGram g_ A1 L1 C1).toArray), (1, sl A2 L2 C2), (2, pt b), (5, pt b1), (7, bV more3), (8, iI r_), (9, iI i1), (10, sl A14 L14 C14), (11, iI j_), (12, iI v_1), (103, bV t103)] [.box b1 81 [iI g_.Nts, iI g_.Start, sl A1 L1 C1, sl A2 L2 C2, iI (w__.length : Int), sl A15 L15 C15], .box b 24 (vGram g_ A1 L1 C1), rW A14 L14 C14 4 1 eB v_, rW A15 L15 C15 4 1 eB Yes_4] Φ N') (fun N8 hN8 => ?_) ?_
 refine c_region (oV vM (oV vM (ite_some hL5 ?_)))
 intro h13 hL5
 refine oV (v_indexAddr_s (xs := v_) (enc := eB) sl79 rfl rfl (.r 3 _ rfl) h13) (oV (v_load_s (xs := v_) (enc := eB) ty4 rfl (.r 3 _ rfl) h13 rfl rfl rfl rfl rfl rfl rfl) (oV vM ?_))
 refine oS 94 hL5 (fun hL5 => ?_) (fun hL5 => ?_)
 refine oN (oV vM (oN (oV vC (oN ((fD 5) (oN (oV (vL 0 ty79) (oN (oV vM (oN (ite_some hL5 ?_)))))))))))
 intro h15 hL5
 refine oV (v_indexAddr_s (xs := Yes_4) (enc := eB) sl79 rfl rfl (.r 1 _ rfl) h15) (oN (oV (v_load_s (xs := Yes_4) (enc := eB) ty4 rfl (.r 1 _ rfl) h15 rfl rfl rfl rfl rfl rfl rfl) (oN ?_)))
 refine oV vN (oV vPt (o_nil ?_))
 exact sK [0, 1, 1, 0] [0, 1] (hN8 (!(at_ Yes_4 v_1)) hL5)
 refine oF (oF (oF (oF (oF (oF (oF (oF (oV vPf (o_nil ?_)))))))))
 exact sK [0, 1, 1, 0] [0, 1] (hN8 false hL5)
 intro t103 hL5
 unfold F.ref07.Fill_j7 at hL5
 refine sat_wc ?_
 refine cT (fun E H Φ N' => ∀ (more5 : Bool) (Yes_6 : List Bool) (A18 : OA) (L18 C18 : Nat), F.ref07.Fill_j8 (F.ref07.Fill_l5 w__ g_ r_ i1 v_ j) j_ v_1 more5 Yes_6 = some o5 → Sat E [(0, .agg (vGram g_ A1 L1 C1).toArray), (1, sl A2 L2 C2), (2, pt b), (5, pt b1), (7, bV more5), (8, iI r_), (9, iI i1), (10, sl A14 L14 C14), (11, iI j_), (12, iI v_1)] [.box b1 81 [iI g_.Nts, iI g_.Start, sl A1 L1 C1, sl A2 L2 C2, iI (w__.length : Int), sl A18 L18 C18], .box b 24 (vGram g_ A1 L1 C1), rW A14 L14 C14 4 1 eB v_, rW A18 L18 C18 4 1 eB Yes_6] Φ N') (fun N8 hN8 => ?_) ?_
 refine cC hL5 (fun hL5 => ?_) (fun hL5 => ?_)
 refine cR (oV vM (oV vC ((fD 5) (oV (vL 0 ty79) (oV vM (ite_some hL5 ?_))))))
 intro h12 hL5
 refine oV (v_indexAddr_s (xs := Yes_4) (enc := eB) sl79 rfl rfl (.r 3 _ rfl) h12) (o_store_s (xs := Yes_4) (enc := eB) 3 true rfl ty4 rfl rfl rfl rfl h12 (.s rfl (.nil)) rfl rfl rfl (o_seq (c_region (oV vA (o_nil ?_)))))
 exact sK [0, 0, 0, 0] [0, 1] (hN8 true (set_ Yes_4 v_1 true) A15 L15 C15 hL5)
 refine c_skip ?_
 exact sK [0, 0, 0, 0] [0, 1] (hN8 more3 Yes_4 A15 L15 C15 hL5)
 intro more5 Yes_6 A18 L18 C18 hL5
 unfold F.ref07.Fill_j8 at hL5
 exact sK [0, 0, 0, 0] [0, 1] (hN6 more5 v_1 Yes_6 A18 L18 C18 hL5)
 intro more4 at__ Yes_5 A17 L17 C17 hL5
 unfold F.ref07.Fill_j6 at hL5
 refine sat_wc (c_region (oV vM (oV vB (oV vA (o_nil ?_)))))
 exact lp [0, 0, 0, 0] [0, 1] fun a w hs => ⟨more4, IntKind.wrap .i64 (j_ + 1), Yes_5, A17, L17, C17, hL5, hs⟩
 refine c_exit0 ?_
 cases hL5
 exact sK [0, 0, 0, 0] [0, 1] (hN5 A15 L15 C15)
 intro A16 L16 C16
 refine sat_wc (c_region (oV vM (oV vB (oV vA (o_nil ?_)))))
 exact lp [0, 0, 1] [0, 1] fun a w hs => ⟨o5.1, IntKind.wrap .i64 (i1 + 1), o5.2.2, A16, L16, C16, hL4, hs⟩
 refine c_exit0 ?_
 cases hL4
 exact sK [0, 0, 0] [0, 1] (hN4 A11 L11 C11)
 intro A12 L12 C12
 refine sat_wc (c_region (oV vM (oV vB (oV vA (o_nil ?_)))))
 exact lp [0, 0, 0] [0, 1] fun a w hs => ⟨o4.1, IntKind.wrap .i64 (r_ + 1), o4.2.2, A12, L12, C12, hL3, hs⟩
 refine c_exit0 ?_
 cases hL3
 exact sK [0, 0, 0] [0, 1] (hN3 A9 L9 C9)
 intro A10 L10 C10
 exact lp [0, 0, 0] [0, 1] fun a w hs => ⟨o3.1, o3.2.2, A10, L10, C10, hL2, hs⟩
 refine c_exit0 ?_
 cases hL2
 exact sK [0, 0, 0] [0, 1] (hN2 A7 L7 C7)
 intro A8 L8 C8
 refine sat_wc (cR (oV vM (oV vA (o_seq (c_ret ?_)))))
 cases hF
 refine s_ret1 rfl (r_tmp rfl) fun a w hs => fin_sel hs [0, 1] ⟨b1, A1, L1, C1, A2, L2, C2, A8, L8, C8, rfl, rfl, rfl⟩ rfl (subs [0, 1] rfl)
theorem tri48 {k : Nat} {p : Ref08_Packer} {x_ : FNode} {b : Nat} {gb : Nat} {r : Int × Ref08_Packer} (hF : F.ref08.Packer_number k p x_ = some r) :
    Tri Try.prog 48 [pt b, .agg (vFNode x_ A5 L5 C5 A6 L6 C6).toArray] [.box b 104 [pt gb, iI p.F.Root, sl A4 L4 C4], .box gb 81 (vRef07_Table p.T A1 L1 C1 A2 L2 C2 A3 L3 C3), rW A3 L3 C3 4 1 eB p.T.Yes, rW A4 L4 C4 62 7 eFNode p.F.Nodes] [fS A1 L1 C1 2 eRule p.T.G.Rules, fS A2 L2 C2 1 eU8 p.T.W, fS A5 L5 C5 1 eI64 x_.Ban, fS A6 L6 C6 4 eAlt x_.Alts] (fun o H Φ => ∃ (A14 : OA) (L14 C14 : Nat), o = .ret (iI r.1) ∧ H = [.box b 104 [pt gb, iI p.F.Root, sl A14 L14 C14], .box gb 81 (vRef07_Table p.T A1 L1 C1 A2 L2 C2 A3 L3 C3), rW A3 L3 C3 4 1 eB p.T.Yes, rW A14 L14 C14 62 7 eFNode r.2.F.Nodes] ∧ Φ = []) := by
 unfold F.ref08.Packer_number at hF
 refine tri_intro (n := 78) Try.func48 rfl Try.ntmps48 rfl fun w X => cR (o_box rfl rfl rfl fun b1 => oV vA (o_seq (c_seq (cR (oV vA (o_seq ?_))))))
 obtain ⟨o1, ho1, hF⟩ := bd hF
 refine c_cut (fun E N' => ∀ (d1 : Unit), o1 = .done d1 → Sat E [(0, pt b), (1, .agg (vFNode x_ A5 L5 C5 A6 L6 C6).toArray), (3, pt b1), (4, iI 0)] [.box b1 62 (vFNode x_ A5 L5 C5 A6 L6 C6), .box b 104 [pt gb, iI p.F.Root, sl A4 L4 C4], .box gb 81 (vRef07_Table p.T A1 L1 C1 A2 L2 C2 A3 L3 C3), rW A4 L4 C4 62 7 eFNode p.F.Nodes, rW A3 L3 C3 4 1 eB p.T.Yes] [fS A5 L5 C5 1 eI64 x_.Ban, fS A6 L6 C6 4 eAlt x_.Alts, fS A1 L1 C1 2 eRule p.T.G.Rules, fS A2 L2 C2 1 eU8 p.T.W] N') (fun N1 hN1 => ?_) ?_
 refine c_block ?_
 refine c_loopE (fun E j a w => ∃ (i : Int), F.ref08.Packer_number_l1 p x_ j i = some o1 ∧ St E [(0, pt b), (1, .agg (vFNode x_ A5 L5 C5 A6 L6 C6).toArray), (3, pt b1), (4, iI 0), (5, iI i)] [.box b1 62 (vFNode x_ A5 L5 C5 A6 L6 C6), .box b 104 [pt gb, iI p.F.Root, sl A4 L4 C4], .box gb 81 (vRef07_Table p.T A1 L1 C1 A2 L2 C2 A3 L3 C3), rW A4 L4 C4 62 7 eFNode p.F.Nodes, rW A3 L3 C3 4 1 eB p.T.Yes] [fS A5 L5 C5 1 eI64 x_.Ban, fS A6 L6 C6 4 eAlt x_.Alts, fS A1 L1 C1 2 eRule p.T.G.Rules, fS A2 L2 C2 1 eU8 p.T.W] a w) k ?_ ?_
 exact lq [0, 0, 0, 1, 0] [2, 3, 0, 1] fun a w hs => ⟨0, ho1, hs⟩
 rintro j a w ⟨i, hL1, hs⟩
 rcases j with _ | j
 cases hL1
 refine wc_app hs ?_
 unfold F.ref08.Packer_number_l1 at hL1
 refine c_seq (cR (oV vM (oV vM (oV vC ((fD 1) ((fD 2) (oV (vL 1 ty51) (oV (v_lenS (enc := eFNode) p.F.Nodes sl51 rfl (.r 3 _ rfl)) (oV vB (o_seq ?_))))))))))
 refine cC hL1 (fun hL1 => ?_) (fun hL1 => ?_)
 refine c_skip (sat_wc (c_seq ?_))
 refine c_cut (fun E N' => ∀ (A7 : OA) (L7 C7 : Nat) (A8 : OA) (L8 C8 : Nat) (b2 : Nat), F.ref08.Packer_number_j2 (F.ref08.Packer_number_l1 p x_ j) i = some o1 → Sat E [(0, pt b), (1, .agg (vFNode x_ A5 L5 C5 A6 L6 C6).toArray), (3, pt b1), (4, iI 0), (5, iI i), (6, pt b2)] [.box b1 62 (vFNode x_ A5 L5 C5 A6 L6 C6), .box b 104 [pt gb, iI p.F.Root, sl A4 L4 C4], .box gb 81 (vRef07_Table p.T A1 L1 C1 A2 L2 C2 A3 L3 C3), .box b2 62 (vFNode (at_ p.F.Nodes i) A7 L7 C7 A8 L8 C8), rW A4 L4 C4 62 7 eFNode p.F.Nodes, rW A3 L3 C3 4 1 eB p.T.Yes] [fS A5 L5 C5 1 eI64 x_.Ban, fS A6 L6 C6 4 eAlt x_.Alts, fS A1 L1 C1 2 eRule p.T.G.Rules, fS A2 L2 C2 1 eU8 p.T.W, fS A7 L7 C7 1 eI64 ((at_ p.F.Nodes i).Ban), fS A8 L8 C8 4 eAlt ((at_ p.F.Nodes i).Alts)] N') (fun N2 hN2 => ?_) ?_
 refine c_block (cR (oV vM (oV vC ((fD 1) ((fD 2) (oV (vL 1 ty51) (oV vM (ite_some hL1 ?_))))))))
 intro h2 hL1
 refine oV (v_indexAddr_s (xs := p.F.Nodes) (enc := eFNode) sl51 rfl rfl (.r 3 _ rfl) h2) (o_load_s (xs := p.F.Nodes) (enc := eFNode) ty62 rfl (.r 3 _ rfl) h2 rfl rfl rfl rfl rfl rfl ?_)
 intro A9 L9 C9 A10 L10 C10
 refine o_alloc zero62 rfl rfl fun b3 => (sT 0 ty62) (o_seq (c_seq ?_))
 refine cT (fun E H Φ N' => ∀ (t57 : Bool), F.ref08.Packer_number_j3 i p (F.ref08.Packer_number_l1 p x_ j) t57 = some o1 → Sat E [(0, pt b), (1, .agg (vFNode x_ A5 L5 C5 A6 L6 C6).toArray), (3, pt b1), (4, iI 0), (5, iI i), (6, pt b3), (57, bV t57)] H [fS A5 L5 C5 1 eI64 x_.Ban, fS A6 L6 C6 4 eAlt x_.Alts, fS A9 L9 C9 1 eI64 ((at_ p.F.Nodes i).Ban), fS A10 L10 C10 4 eAlt ((at_ p.F.Nodes i).Alts), fS A1 L1 C1 2 eRule p.T.G.Rules, fS A2 L2 C2 1 eU8 p.T.W] N') (fun N3 hN3 => ?_) ?_
 refine c_region ((fD 0) (oV (vL 0 ty3) ((fD 0) (oV (vL 1 ty3) (oV vB (oV vM ?_))))))
 refine oS 30 hL1 (fun hL1 => ?_) (fun hL1 => ?_)
 refine oN ((fD 1) (oN (oV (vL 0 ty3) (oN ((fD 1) (oN (oV (vL 1 ty3) (oN (oV vB (oV vPt (oV vM ?_)))))))))))
 refine oS 37 hL1 (fun hL1 => ?_) (fun hL1 => ?_)
 refine oN ((fD 2) (oN (oV (vL 0 ty3) (oN ((fD 2) (oN (oV (vL 1 ty3) (oN (oV vB (oV vPt (oV vM ?_)))))))))))
 refine oS 44 hL1 (fun hL1 => ?_) (fun hL1 => ?_)
 refine oN ((fD 3) (oN (oV (vL 0 ty3) (oN ((fD 3) (oN (oV (vL 1 ty3) (oN (oV vB (oV vPt (oV vM ?_)))))))))))
 refine oS 51 hL1 (fun hL1 => ?_) (fun hL1 => ?_)
 refine oN ((fD 4) (oN (oV (vL 0 ty3) (oN ((fD 4) (oN (oV (vL 1 ty3) (oN (oV vB (oV vPt (o_nil ?_)))))))))))
 exact sK [0, 0, 0, 0, 0, 0] [2, 3, 0, 1, 4, 5] (hN3 (((at_ p.F.Nodes i).To) == x_.To) hL1)
 refine oF (oF (oF (oF (oF (oV vPf (o_nil ?_))))))
 exact sK [0, 0, 0, 0, 0, 0] [2, 3, 0, 1, 4, 5] (hN3 false hL1)
 refine oF (oF (oF (oF (oF (oV vPf (oV vM (oF (oF (oF (oF (oF (oV vPf (o_nil ?_)))))))))))))
 exact sK [0, 0, 0, 0, 0, 0] [2, 3, 0, 1, 4, 5] (hN3 false hL1)
 refine oF (oF (oF (oF (oF (oV vPf (oV vM (oF (oF (oF (oF (oF (oV vPf (oV vM (oF (oF ?_)))))))))))))))
 refine oF (oF (oF (oV vPf (o_nil ?_))))
 exact sK [0, 0, 0, 0, 0, 0] [2, 3, 0, 1, 4, 5] (hN3 false hL1)
 refine oF (oF (oF (oF (oF (oV vPf (oV vM (oF (oF (oF (oF (oF (oV vPf (oV vM (oF (oF ?_)))))))))))))))
 refine oF (oF (oF (oV vPf (oV vM (oF (oF (oF (oF (oF (oV vPf (o_nil ?_)))))))))))
 exact sK [0, 0, 0, 0, 0, 0] [2, 3, 0, 1, 4, 5] (hN3 false hL1)
 intro t57 hL1
 unfold F.ref08.Packer_number_j3 at hL1
 refine sat_wc ?_
 refine cC hL1 (fun hL1 => ?_) (fun hL1 => ?_)
 refine cR (oV vM (oV vA (o_seq (c_ret ?_))))
 cases hL1
 obtain rfl := lrf_ret hF
 refine s_ret1 rfl (r_tmp rfl) fun a w hs => fin_sel hs [2, 2, 3, 2] ⟨A4, L4, C4, rfl, rfl, rfl⟩ rfl sub_nil
 refine c_skip ?_
 exact sK [1, 1, 1, 0, 0, 0] [0, 1, 4, 5, 2, 3] (hN2 A9 L9 C9 A10 L10 C10 b3 hL1)
 intro A7 L7 C7 A8 L8 C8 b2 hL1
 unfold F.ref08.Packer_number_j2 at hL1
 refine sat_wc (c_region (oV vM (oV vB (oV vA (o_nil ?_)))))
 exact lp [0, 0, 0, 1, 1] [0, 1, 2, 3] fun a w hs => ⟨IntKind.wrap .i64 (i + 1), hL1, hs⟩
 refine c_exit0 ?_
 cases hL1
 exact sK [0, 0, 0, 0, 0] [0, 1, 2, 3] (hN1 () rfl)
 intro d1 hd
 subst hd
 replace hF := lrf_done hF
 refine sat_wc (c_seq ?_)
 refine cT (fun E H Φ N' => ∀ (A11 : OA) (L11 C11 : Nat), F.ref08.Packer_number_j4 p x_ = some r → Sat E [(0, pt b), (1, .agg (vFNode x_ A5 L5 C5 A6 L6 C6).toArray), (3, pt b1), (4, iI 0)] [.box b1 62 (vFNode x_ A5 L5 C5 A6 L6 C6), .box b 104 [pt gb, iI p.F.Root, sl A11 L11 C11], .box gb 81 (vRef07_Table p.T A1 L1 C1 A2 L2 C2 A3 L3 C3), rW A11 L11 C11 62 7 eFNode (p.F.Nodes ++ ([x_] : List FNode)), rW A3 L3 C3 4 1 eB p.T.Yes] Φ N') (fun N4 hN4 => ?_) ?_
 refine c_draw (n := 13) [0, 1, 2] mixed rfl rfl (dv 0 rfl vM (dv 1 rfl vM (dv 2 rfl vC (dv 3 rfl (vF 1) (dv 4 rfl (vF 2) (dv 6 rfl (vL 0 ty62) (ite_some hF ?_)))))))
 intro h8 hF
 refine ite_some hF fun h9 hF => ?_
 refine d_all [5, 7] (by kernel_rfl) (by simp) ⟨⟨_, rfl, ?_⟩, ⟨_, rfl, ?_⟩, trivial⟩
 refine oV (vL 1 ty51) (dN [0, 1, 2] 0 (dO 7 rfl (o_buildSlice (enc := eFNode) ([x_] : List FNode) (vFNode x_ A5 L5 C5 A6 L6 C6) sl51 rfl (fun _ => by kernel_rfl) rfl rfl rfl (.s rfl (.s rfl (.s rfl (.s rfl (.s rfl (.f 0 rfl (.f 1 rfl (.nil)))))))) rfl ?_)))
 intro A12 L12 C12
 refine dN [1, 2, 3] 0 (dO 8 rfl (o_append (enc := eFNode) (xs := p.F.Nodes) (ys := ([x_] : List FNode)) 4 sl51 rfl rfl rfl (.r 0 _ rfl) h8 h9 rfl ?_))
 intro A13 L13 C13
 refine dN [1, 2, 3] 0 (dv 9 rfl vC (dv 10 rfl (vF 1) (dv 11 rfl (vF 2) (dO 12 rfl ((sT 2 ty51) (dN [1, 2, 3] 0 (dD ?_)))))))
 exact sK [1, 1, 1, 1, 1] [0, 1, 2, 3] (hN4 A13 L13 C13 hF)
 refine o_buildSlice (enc := eFNode) ([x_] : List FNode) (vFNode x_ A5 L5 C5 A6 L6 C6) sl51 rfl (fun _ => by kernel_rfl) rfl rfl rfl (.s rfl (.s rfl (.s rfl (.s rfl (.s rfl (.f 0 rfl (.f 1 rfl (.nil)))))))) rfl ?_
 intro A12 L12 C12
 refine dN [1, 2, 3] 0 (dO 5 rfl (oV (vL 2 ty51) (dN [1, 2, 3] 0 (dO 8 rfl (o_append (enc := eFNode) (xs := p.F.Nodes) (ys := ([x_] : List FNode)) 4 sl51 rfl rfl rfl (.r 0 _ rfl) h8 h9 rfl ?_)))))
 intro A13 L13 C13
 refine dN [1, 2, 3] 0 (dv 9 rfl vC (dv 10 rfl (vF 1) (dv 11 rfl (vF 2) (dO 12 rfl ((sT 2 ty51) (dN [1, 2, 3] 0 (dD ?_)))))))
 exact sK [1, 1, 1, 1, 1] [0, 1, 2, 3] (hN4 A13 L13 C13 hF)
 intro A11 L11 C11 hF
 unfold F.ref08.Packer_number_j4 at hF
 refine sat_wc (cR (oV vM (oV vC ((fD 1) ((fD 2) (oV (vL 1 ty51) (oV (v_lenS (enc := eFNode) (p.F.Nodes ++ ([x_] : List FNode)) sl51 rfl (.r 3 _ rfl)) (oV vB (oV vA (o_seq (c_ret ?_)))))))))))
 cases hF
 refine s_ret1 rfl (r_tmp rfl) fun a w hs => fin_sel hs [1, 1, 2, 1] ⟨A11, L11, C11, rfl, rfl, rfl⟩ rfl sub_nil
theorem tri66 {k : Nat} {p : Ref08_Packer} {r_ : Int} {d_ : Int} {i : Int} {j_ : Int} {b : Nat} {gb : Nat} {r : Int × Ref08_Packer} (hF : F.ref08.Packer_piece k p r_ d_ i j_ = some r) :
    Tri Try.prog 66 [pt b, iI r_, iI d_, iI i, iI j_] [.box b 104 [pt gb, iI p.F.Root, sl A4 L4 C4], .box gb 81 (vRef07_Table p.T A1 L1 C1 A2 L2 C2 A3 L3 C3), rW A3 L3 C3 4 1 eB p.T.Yes, rW A4 L4 C4 62 7 eFNode p.F.Nodes] [fS A1 L1 C1 2 eRule p.T.G.Rules, fS A2 L2 C2 1 eU8 p.T.W] (fun o H Φ => ∃ (A6 : OA) (L6 C6 : Nat), o = .ret (iI r.1) ∧ H = [.box b 104 [pt gb, iI p.F.Root, sl A6 L6 C6], .box gb 81 (vRef07_Table p.T A1 L1 C1 A2 L2 C2 A3 L3 C3), rW A3 L3 C3 4 1 eB p.T.Yes, rW A6 L6 C6 62 7 eFNode r.2.F.Nodes] ∧ Φ = []) := by
 unfold F.ref08.Packer_piece at hF
 refine tri_intro (n := 20) Try.func66 rfl Try.ntmps66 rfl fun w X => cR (oV vA (o_seq (c_seq (cR (oV vM (oV vB (o_seq ?_)))))))
 refine cC hF (fun hF => ?_) (fun hF => ?_)
 refine cR (oV vA (o_seq (c_ret ?_)))
 cases hF
 refine s_ret1 rfl (r_tmp rfl) fun a w hs => fin_sel hs [0, 0, 0, 0] ⟨A4, L4, C4, rfl, rfl, rfl⟩ rfl sub_nil
 refine c_skip (sat_wc (cR (oV vM (oV vM (oV vM (oV vM (oV vM (oV (vU (.agg #[iI (-1), iI r_, iI d_, iI i, iI j_, nS, nS])) ?_))))))))
 obtain ⟨v_, h2, hF⟩ := bd hF
 refine o_st (st_nilfact 1) (o_st (st_nilfact 4) (ocl [0, 0, 0, 0] call48 rfl rfl (subs [2, 3, 1, 0] rfl) (tri48 h2 :) ?_))
 rintro _ _ _ ⟨A5, L5, C5, rfl, rfl, rfl⟩
 refine oV vA (o_seq (c_ret ?_))
 cases hF
 refine s_ret1 rfl (r_tmp rfl) fun a w hs => fin_sel hs [0, 0, 0, 0] ⟨A5, L5, C5, rfl, rfl, rfl⟩ rfl sub_nil
end Go.Vc
