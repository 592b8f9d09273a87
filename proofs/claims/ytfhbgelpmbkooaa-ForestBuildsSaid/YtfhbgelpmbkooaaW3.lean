import Derived.Test.YtfhbgelpmbkooaaW2
set_option linter.unusedVariables false
set_option linter.unusedSimpArgs false
set_option maxRecDepth 8000
set_option maxHeartbeats 2000000
namespace Go.Vc
open Go Go.Proofs
variable {A1 A2 A3 A4 A5 A6 A7 A8 A9 A10 A11 A12 A13 A14 A15 A16 A17 A18 A19 A20 A21 A22 A23 A24 A25 A26 A27 A28 A29 A30 A31 A32 A33 A34 A35 A36 A37 : OA} {L1 C1 L2 C2 L3 C3 L4 C4 L5 C5 L6 C6 L7 C7 L8 C8 L9 C9 L10 C10 L11 C11 L12 C12 L13 C13 L14 C14 L15 C15 L16 C16 L17 C17 L18 C18 L19 C19 L20 C20 L21 C21 L22 C22 L23 C23 L24 C24 L25 C25 L26 C26 L27 C27 L28 C28 L29 C29 L30 C30 L31 C31 L32 C32 L33 C33 L34 C34 L35 C35 L36 C36 L37 C37 : Nat}
theorem tri49 {k : Nat} {p : Ref08_Packer} {x_ : FNode} {b : Nat} {gb : Nat} {r : List Alt × Ref08_Packer} (hF : F.ref08.Packer_ways k p x_ = some r) :
    Tri Try.prog 49 [pt b, .agg (vFNode x_ A5 L5 C5 A6 L6 C6).toArray] [.box b 104 [pt gb, iI p.F.Root, sl A4 L4 C4], .box gb 81 (vRef07_Table p.T A1 L1 C1 A2 L2 C2 A3 L3 C3), rW A3 L3 C3 4 1 eB p.T.Yes, rW A4 L4 C4 62 7 eFNode p.F.Nodes] [fS A1 L1 C1 2 eRule p.T.G.Rules, fS A2 L2 C2 1 eU8 p.T.W, fS A5 L5 C5 1 eI64 x_.Ban, fS A6 L6 C6 4 eAlt x_.Alts] (fun o H Φ => ∃ (A36 : OA) (L36 C36 : Nat) (A37 : OA) (L37 C37 : Nat), o = .ret (sl A36 L36 C36) ∧ H = [.box b 104 [pt gb, iI p.F.Root, sl A37 L37 C37], .box gb 81 (vRef07_Table p.T A1 L1 C1 A2 L2 C2 A3 L3 C3), rW A3 L3 C3 4 1 eB p.T.Yes, rW A37 L37 C37 62 7 eFNode r.2.F.Nodes, rW A36 L36 C36 108 4 eAlt r.1] ∧ Φ = []) := by
 unfold F.ref08.Packer_ways at hF
 refine tri_intro (n := 168) Try.func49 rfl Try.ntmps49 rfl fun w X => cR (o_box rfl rfl rfl fun b1 => oV vA (o_seq (cR (oV vA (o_seq (cR (oV vM (oV vC ((fD 0) (oV (vL 1 ty74) ?_))))))))))
 refine oV vC ((fD 0) (oV (vL 2 ty24) (o_alloc zero24 rfl rfl ?_)))
 intro b2
 refine (sT 0 ty24) (o_seq (c_seq (cR ((fD 2) (oV (vL 1 ty3) (oV vB (o_seq ?_)))))))
 refine cC hF (fun hF => ?_) (fun hF => ?_)
 refine c_seq (cR (oV vA (o_seq ?_)))
 obtain ⟨o1, ho1, hF⟩ := bd hF
 refine c_cut (fun E N' => ∀ (A9 : OA) (L9 C9 : Nat) (A10 : OA) (L10 C10 : Nat), Sat E [(0, pt b), (1, .agg (vFNode x_ A5 L5 C5 A6 L6 C6).toArray), (3, pt b1), (4, nS), (5, sl A9 L9 C9), (6, pt b2)] [.box b2 24 (vGram p.T.G A1 L1 C1), .box b1 62 (vFNode x_ A5 L5 C5 A6 L6 C6), .box b 104 [pt gb, iI p.F.Root, sl A10 L10 C10], .box gb 81 (vRef07_Table p.T A1 L1 C1 A2 L2 C2 A3 L3 C3), rW A9 L9 C9 108 4 eAlt o1.1, rW A10 L10 C10 62 7 eFNode o1.2, rW A3 L3 C3 4 1 eB p.T.Yes] [fS A5 L5 C5 1 eI64 x_.Ban, fS A6 L6 C6 4 eAlt x_.Alts, fS A1 L1 C1 2 eRule p.T.G.Rules, fS A2 L2 C2 1 eU8 p.T.W] N') (fun N1 hN1 => ?_) ?_
 refine c_block ?_
 refine c_loopE (fun E j a w => ∃ (out : List Alt) (r_ : Int) (Nodes_ : List FNode) (A7 : OA) (L7 C7 : Nat) (A8 : OA) (L8 C8 : Nat), F.ref08.Packer_ways_l1 k p x_ j out r_ Nodes_ = some o1 ∧ St E [(0, pt b), (1, .agg (vFNode x_ A5 L5 C5 A6 L6 C6).toArray), (3, pt b1), (4, nS), (5, sl A7 L7 C7), (6, pt b2), (7, iI r_)] [.box b2 24 (vGram p.T.G A1 L1 C1), .box b1 62 (vFNode x_ A5 L5 C5 A6 L6 C6), .box b 104 [pt gb, iI p.F.Root, sl A8 L8 C8], .box gb 81 (vRef07_Table p.T A1 L1 C1 A2 L2 C2 A3 L3 C3), rW A7 L7 C7 108 4 eAlt out, rW A8 L8 C8 62 7 eFNode Nodes_, rW A3 L3 C3 4 1 eB p.T.Yes] [fS A5 L5 C5 1 eI64 x_.Ban, fS A6 L6 C6 4 eAlt x_.Alts, fS A1 L1 C1 2 eRule p.T.G.Rules, fS A2 L2 C2 1 eU8 p.T.W] a w) k ?_ ?_
 refine s_st (st_nilrow 108 4) ?_
 exact lq [1, 1, 1, 1, 0, 1, 0] [2, 3, 0, 1] fun a w hs => ⟨([] : List Alt), 0, p.F.Nodes, none, 0, 0, A4, L4, C4, ho1, hs⟩
 rintro j a w ⟨out, r_, Nodes_, A7, L7, C7, A8, L8, C8, hL1, hs⟩
 rcases j with _ | j
 cases hL1
 refine wc_app hs ?_
 unfold F.ref08.Packer_ways_l1 at hL1
 refine c_seq (cR (oV vM ((fD 2) (oV (vL 0 ty22) (oV (v_lenS (enc := eRule) p.T.G.Rules sl22 rfl (.f 2 rfl)) (oV vB (o_seq ?_)))))))
 refine cC hL1 (fun hL1 => ?_) (fun hL1 => ?_)
 refine c_skip (sat_wc (c_seq ?_))
 refine cT (fun E H Φ N' => ∀ (out1 : List Alt) (ends : List Bool) (Nodes_1 : List FNode) (A11 : OA) (L11 C11 : Nat) (A12 : OA) (L12 C12 : Nat) (A13 : OA) (L13 C13 : Nat), F.ref08.Packer_ways_j2 (F.ref08.Packer_ways_l1 k p x_ j) r_ out1 ends Nodes_1 = some o1 → Sat E [(0, pt b), (1, .agg (vFNode x_ A5 L5 C5 A6 L6 C6).toArray), (3, pt b1), (4, nS), (5, sl A11 L11 C11), (6, pt b2), (7, iI r_), (8, sl A12 L12 C12)] [.box b 104 [pt gb, iI p.F.Root, sl A13 L13 C13], .box gb 81 (vRef07_Table p.T A1 L1 C1 A2 L2 C2 A3 L3 C3), .box b2 24 (vGram p.T.G A1 L1 C1), .box b1 62 (vFNode x_ A5 L5 C5 A6 L6 C6), rW A11 L11 C11 108 4 eAlt out1, rW A12 L12 C12 4 1 eB ends, rW A13 L13 C13 62 7 eFNode Nodes_1, rW A3 L3 C3 4 1 eB p.T.Yes] Φ N') (fun N2 hN2 => ?_) ?_
 refine c_block (c_seq (ite_some hL1 fun h3 hL1 => c_elem (xs := p.T.G.Rules) (enc := eRule) 2 rfl h3 rfl rfl fun A14 L14 C14 => c_draw (n := 14) [0, 0, 0, 0, 0, 0, 0] mixed rfl rfl (dv 0 rfl vM (dv 1 rfl vC (dv 2 rfl (vF 0) (dv 3 rfl (vL 2 ty74) (dv 4 rfl (vF 2) (dv 5 rfl (vL 0 ty22) (dv 6 rfl vM (dv 7 rfl (v_indexAddr_s (xs := p.T.G.Rules) (enc := eRule) sl22 rfl rfl (.f 4 rfl) h3) (dv 8 rfl (v_fieldAddr (v := .pointer (some ⟨blkA A1, offA A1 + (Int.toNat r_ * 2 + 1), none⟩)) rfl (fun _ => by kernel_rfl)) (dv 9 rfl (v_load_cl 0 ty48 rfl rfl rfl rfl rfl) (dv 10 rfl (vF 3) ?_)))))))))))))
 refine dv 11 rfl (vL 1 ty3) (dO 12 rfl ?_)
 obtain ⟨v_, h4, hL1⟩ := bd hL1
 refine ocl [3, 5] call58 rfl rfl (subs [4, 5, 1] rfl) (tri58 h4 :) ?_
 rintro _ _ _ ⟨A15, L15, C15, rfl, rfl, rfl⟩
 refine o_H [.box gb 81 (vRef07_Table p.T A1 L1 C1 A2 L2 C2 A3 L3 C3), rW A3 L3 C3 4 1 eB p.T.Yes, rW A15 L15 C15 4 1 eB v_, .box b2 24 (vGram p.T.G A1 L1 C1), .box b1 62 (vFNode x_ A5 L5 C5 A6 L6 C6), .box b 104 [pt gb, iI p.F.Root, sl A8 L8 C8], rW A7 L7 C7 108 4 eAlt out, rW A8 L8 C8 62 7 eFNode Nodes_] rfl (dN [3, 3, 3, 0, 2, 2, 0] 0 (dv 13 rfl vA (d_done_seq (by kernel_rfl) (c_seq ?_))))
 refine c_cut (fun E N' => ∀ (t59 : Bool), F.ref08.Packer_ways_j3 k p Nodes_ r_ x_ out (F.ref08.Packer_ways_l1 k p x_ j) v_ t59 = some o1 → Sat E [(0, pt b), (1, .agg (vFNode x_ A5 L5 C5 A6 L6 C6).toArray), (3, pt b1), (4, nS), (5, sl A7 L7 C7), (6, pt b2), (7, iI r_), (8, sl A15 L15 C15), (59, bV t59)] [.box gb 81 (vRef07_Table p.T A1 L1 C1 A2 L2 C2 A3 L3 C3), .box b2 24 (vGram p.T.G A1 L1 C1), .box b1 62 (vFNode x_ A5 L5 C5 A6 L6 C6), .box b 104 [pt gb, iI p.F.Root, sl A8 L8 C8], rW A7 L7 C7 108 4 eAlt out, rW A15 L15 C15 4 1 eB v_, rW A3 L3 C3 4 1 eB p.T.Yes, rW A8 L8 C8 62 7 eFNode Nodes_] [fS A5 L5 C5 1 eI64 x_.Ban, fS A6 L6 C6 4 eAlt x_.Alts, fS A1 L1 C1 2 eRule p.T.G.Rules, fS A2 L2 C2 1 eU8 p.T.W] N') (fun N4 hN4 => ?_) ?_
 refine c_draw (n := 16) [0, 0, 0, 0, 0, 0, 0, 0] mixed rfl rfl (dv 0 rfl (vF 2) (dv 1 rfl (vL 3 ty22) (dv 2 rfl vM (dv 3 rfl (v_indexAddr_s (xs := p.T.G.Rules) (enc := eRule) sl22 rfl rfl (.f 4 rfl) h3) (dv 4 rfl (v_fieldAddr (v := .pointer (some ⟨blkA A1, offA A1 + (Int.toNat r_ * 2 + 0), none⟩)) rfl (fun _ => by kernel_rfl)) (dv 5 rfl (v_load_s (xs := p.T.G.Rules) (enc := eRule) ty3 rfl (.f 4 rfl) h3 rfl rfl rfl rfl rfl rfl rfl) (dv 6 rfl (vF 0) (dv 7 rfl (vL 4 ty3) (dv 8 rfl vB (dv 9 rfl vM ?_))))))))))
 refine d_split (t := 53) rfl (fun h9 => ?_) (fun h9 => ?_)
 replace hL1 := ite_t h9 hL1
 refine dw 10 rfl rfl rfl vM (dw 11 rfl rfl rfl (vF 4) (dw 12 rfl rfl rfl (vL 4 ty3) (ite_some hL1 ?_)))
 intro h10 hL1
 refine dw 13 rfl rfl rfl (v_indexAddr_s (xs := v_) (enc := eB) sl79 rfl rfl (.r 2 _ rfl) h10) (dw 14 rfl rfl rfl (v_load_s (xs := v_) (enc := eB) ty4 rfl (.r 2 _ rfl) h10 rfl rfl rfl rfl rfl rfl rfl) (dv 15 rfl vPt (dD ?_)))
 exact sK [0, 2, 2, 2, 2, 1, 0, 0] [2, 3, 4, 5] (hN4 (at_ v_ x_.To) hL1)
 replace hL1 := ite_f h9 hL1
 refine dF 10 rfl (dF 11 rfl (dF 12 rfl (dF 13 rfl (dF 14 rfl (dv 15 rfl vPf (dD ?_))))))
 exact sK [0, 2, 2, 2, 2, 1, 0, 0] [2, 3, 4, 5] (hN4 false hL1)
 intro t59 hL1
 unfold F.ref08.Packer_ways_j3 at hL1
 refine sat_wc ?_
 refine cT (fun E H Φ N' => ∀ (out2 : List Alt) (Nodes_2 : List FNode) (A16 : OA) (L16 C16 : Nat) (A17 : OA) (L17 C17 : Nat), F.ref08.Packer_ways_j4 (F.ref08.Packer_ways_l1 k p x_ j) r_ v_ out2 Nodes_2 = some o1 → Sat E [(0, pt b), (1, .agg (vFNode x_ A5 L5 C5 A6 L6 C6).toArray), (3, pt b1), (4, nS), (5, sl A16 L16 C16), (6, pt b2), (7, iI r_), (8, sl A15 L15 C15)] [.box b 104 [pt gb, iI p.F.Root, sl A17 L17 C17], .box gb 81 (vRef07_Table p.T A1 L1 C1 A2 L2 C2 A3 L3 C3), .box b2 24 (vGram p.T.G A1 L1 C1), .box b1 62 (vFNode x_ A5 L5 C5 A6 L6 C6), rW A16 L16 C16 108 4 eAlt out2, rW A15 L15 C15 4 1 eB v_, rW A17 L17 C17 62 7 eFNode Nodes_2, rW A3 L3 C3 4 1 eB p.T.Yes] Φ N') (fun N4 hN4 => ?_) ?_
 refine cC hL1 (fun hL1 => ?_) (fun hL1 => ?_)
 refine c_seq (c_elem (xs := p.T.G.Rules) (enc := eRule) 2 rfl h3 rfl rfl fun A18 L18 C18 => c_draw (n := 15) [1, 1, 2, 2, 2] mixed rfl rfl (dv 0 rfl vM (dv 1 rfl vM (dv 2 rfl (vF 2) (dv 3 rfl (vL 0 ty22) (dv 4 rfl vM (dv 5 rfl (v_indexAddr_s (xs := p.T.G.Rules) (enc := eRule) sl22 rfl rfl (.f 4 rfl) h3) (dv 6 rfl (v_fieldAddr (v := .pointer (some ⟨blkA A1, offA A1 + (Int.toNat r_ * 2 + 1), none⟩)) rfl (fun _ => by kernel_rfl)) (dv 7 rfl (v_load_cl 0 ty48 rfl rfl rfl rfl rfl) (dv 8 rfl (v_lenS (enc := eKSym) ((at_ p.T.G.Rules r_).Rhs) sl48 rfl (.f 1 rfl)) (dv 9 rfl (vF 3) (dv 10 rfl (vL 1 ty3) (dv 11 rfl (vF 4) (dv 12 rfl (vL 1 ty3) ?_))))))))))))))
 refine dO 13 rfl ?_
 obtain ⟨v_1, h6, hL1⟩ := bd hL1
 refine ocl [3, 0, 4, 4] call66 rfl rfl (subs [4, 5] rfl) (tri66 h6 :) ?_
 rintro _ _ _ ⟨A19, L19, C19, rfl, rfl, rfl⟩
 refine o_H [.box b 104 [pt gb, iI p.F.Root, sl A19 L19 C19], .box gb 81 (vRef07_Table p.T A1 L1 C1 A2 L2 C2 A3 L3 C3), rW A3 L3 C3 4 1 eB p.T.Yes, rW A19 L19 C19 62 7 eFNode v_1.2.F.Nodes, .box b2 24 (vGram p.T.G A1 L1 C1), .box b1 62 (vFNode x_ A5 L5 C5 A6 L6 C6), rW A7 L7 C7 108 4 eAlt out, rW A15 L15 C15 4 1 eB v_] rfl (dN [4, 4, 4, 4, 2] 0 (dv 14 rfl vA (d_done_seq (by kernel_rfl) (c_region (oV vM (oV vM (oV vM (oV (vU (.agg #[iI r_, iI 0, iI v_1.1, iI (-1)])) (o_buildSlice (enc := eAlt) ([(Alt.mk r_ 0 v_1.1 (-1))] : List Alt) [iI r_, iI 0, iI v_1.1, iI (-1)] sl60 rfl (fun _ => by kernel_rfl) rfl rfl rfl (.s rfl (.s rfl (.s rfl (.s rfl (.nil))))) rfl ?_)))))))))
 intro A20 L20 C20
 refine ite_some hL1 fun h7 hL1 => ite_some hL1 fun h8 hL1 => o_append (enc := eAlt) (xs := out) (ys := ([(Alt.mk r_ 0 v_1.1 (-1))] : List Alt)) 7 sl60 rfl rfl rfl (.r 0 _ rfl) h7 h8 rfl fun A21 L21 C21 => o_H [.row (sl A20 L20 C20) 108 4 (([(Alt.mk r_ 0 v_1.1 (-1))] : List Alt).map eAlt), .box b 104 [pt gb, iI p.F.Root, sl A19 L19 C19], .box gb 81 (vRef07_Table p.T A1 L1 C1 A2 L2 C2 A3 L3 C3), rW A3 L3 C3 4 1 eB p.T.Yes, rW A19 L19 C19 62 7 eFNode v_1.2.F.Nodes, .box b2 24 (vGram p.T.G A1 L1 C1), .box b1 62 (vFNode x_ A5 L5 C5 A6 L6 C6), .row (sl A21 L21 C21) 108 4 ((out ++ ([(Alt.mk r_ 0 v_1.1 (-1))] : List Alt)).map eAlt), rW A15 L15 C15 4 1 eB v_] rfl (oV vA (o_nil ?_))
 exact sK [1, 1, 3, 3, 3, 3, 2, 1] [2, 3, 4, 5] (hN4 (out ++ ([(Alt.mk r_ 0 v_1.1 (-1))] : List Alt)) v_1.2.F.Nodes A21 L21 C21 A19 L19 C19 hL1)
 refine c_skip ?_
 exact sK [3, 0, 0, 0, 0, 0, 1, 0] [0, 1, 2, 3] (hN4 out Nodes_ A7 L7 C7 A8 L8 C8 hL1)
 intro out2 Nodes_2 A16 L16 C16 A17 L17 C17 hL1
 unfold F.ref08.Packer_ways_j4 at hL1
 exact sK [0, 0, 0, 0, 0, 0, 0, 0] [0, 1, 2, 3] (hN2 out2 v_ Nodes_2 A16 L16 C16 A15 L15 C15 A17 L17 C17 hL1)
 intro out1 ends Nodes_1 A11 L11 C11 A12 L12 C12 A13 L13 C13 hL1
 unfold F.ref08.Packer_ways_j2 at hL1
 refine sat_wc (c_region (oV vM (oV vB (oV vA (o_nil ?_)))))
 exact lp [2, 2, 0, 0, 0, 1, 1] [0, 1, 2, 3] fun a w hs => ⟨out1, IntKind.wrap .i64 (r_ + 1), Nodes_1, A11, L11, C11, A13, L13, C13, hL1, hs⟩
 refine c_exit0 ?_
 cases hL1
 exact sK [0, 0, 0, 0, 0, 0, 0] [0, 1, 2, 3] (hN1 A7 L7 C7 A8 L8 C8)
 intro A9 L9 C9 A10 L10 C10
 refine sat_wc (cR (oV vM (oV vA (o_seq (c_ret ?_)))))
 cases hF
 refine s_ret1 rfl (r_tmp rfl) fun a w hs => fin_sel hs [2, 2, 4, 3, 2] ⟨A9, L9, C9, A10, L10, C10, rfl, rfl, rfl⟩ rfl sub_nil
 refine c_skip (sat_wc (c_seq (ite_some hF fun h11 hF => c_elem (xs := p.T.G.Rules) (enc := eRule) 0 rfl h11 rfl rfl fun A22 L22 C22 => c_draw (n := 14) [0, 0, 0, 0, 0, 0] mixed rfl rfl (dv 0 rfl (vF 2) (dv 1 rfl (vL 0 ty22) (dv 2 rfl (vF 1) (dv 3 rfl (vL 1 ty3) (dv 4 rfl (v_indexAddr_s (xs := p.T.G.Rules) (enc := eRule) sl22 rfl rfl (.f 2 rfl) h11) (dv 5 rfl (v_fieldAddr (v := .pointer (some ⟨blkA A1, offA A1 + (Int.toNat x_.Rule * 2 + 1), none⟩)) rfl (fun _ => by kernel_rfl)) (dv 6 rfl (v_load_cl 0 ty48 rfl rfl rfl rfl rfl) (dv 7 rfl (vF 2) (dv 8 rfl (vL 1 ty3) (dv 9 rfl vB ?_)))))))))))))
 refine ite_some hF fun h12 hF => dv 10 rfl (v_indexAddr_s (xs := (at_ p.T.G.Rules x_.Rule).Rhs) (enc := eKSym) sl48 rfl rfl (.f 1 rfl) h12) (dv 11 rfl (v_load_s (xs := (at_ p.T.G.Rules x_.Rule).Rhs) (enc := eKSym) ty47 rfl (.f 1 rfl) h12 rfl rfl rfl rfl rfl rfl rfl) (dO 12 rfl (o_alloc zero47 rfl rfl ?_)))
 intro b3
 refine dN [1, 1, 1, 1, 1, 1] 0 (dO 13 rfl ((sT 0 ty47) (o_H [.box b3 47 [iI ((at_ ((at_ p.T.G.Rules x_.Rule).Rhs) (IntKind.wrap .i64 (x_.Dot - 1))).Nt), iU ((at_ ((at_ p.T.G.Rules x_.Rule).Rhs) (IntKind.wrap .i64 (x_.Dot - 1))).Set.w0), iU ((at_ ((at_ p.T.G.Rules x_.Rule).Rhs) (IntKind.wrap .i64 (x_.Dot - 1))).Set.w1), iU ((at_ ((at_ p.T.G.Rules x_.Rule).Rhs) (IntKind.wrap .i64 (x_.Dot - 1))).Set.w2), iU ((at_ ((at_ p.T.G.Rules x_.Rule).Rhs) (IntKind.wrap .i64 (x_.Dot - 1))).Set.w3)], .box b2 24 (vGram p.T.G A1 L1 C1), .box b1 62 (vFNode x_ A5 L5 C5 A6 L6 C6), .box b 104 [pt gb, iI p.F.Root, sl A4 L4 C4], .box gb 81 (vRef07_Table p.T A1 L1 C1 A2 L2 C2 A3 L3 C3), rW A3 L3 C3 4 1 eB p.T.Yes, rW A4 L4 C4 62 7 eFNode p.F.Nodes] rfl (dN [1, 1, 1, 1, 1, 1] 0 (d_done_seq (by kernel_rfl) (c_seq (c_draw (n := 19) [0, 0, 0, 0, 0, 0, 0] mixed rfl rfl (dv 0 rfl vM (dv 1 rfl vC (dv 2 rfl (vF 0) ?_))))))))))
 refine dv 3 rfl (vL 3 ty74) (dv 4 rfl (vF 2) (dv 5 rfl (vL 1 ty22) (dv 6 rfl (vF 1) (dv 7 rfl (vL 2 ty3) (dv 8 rfl (v_indexAddr_s (xs := p.T.G.Rules) (enc := eRule) sl22 rfl rfl (.f 2 rfl) h11) (dv 9 rfl (v_fieldAddr (v := .pointer (some ⟨blkA A1, offA A1 + (Int.toNat x_.Rule * 2 + 1), none⟩)) rfl (fun _ => by kernel_rfl)) (dv 10 rfl (v_load_cl 0 ty48 rfl rfl rfl rfl rfl) (dv 11 rfl (vF 2) (dv 12 rfl (vL 2 ty3) (dv 13 rfl vB (dv 15 rfl (vF 3) (dv 16 rfl (vL 2 ty3) (dO 14 rfl (ite_some hF ?_))))))))))))))
 intro h13 hF
 refine o_cutS (enc := eKSym) (xs := (at_ p.T.G.Rules x_.Rule).Rhs) 1 sl48 rfl rfl rfl rfl rfl rfl h13 rfl fun A23 L23 C23 => ?_
 refine dN [0, 0, 0, 0, 0, 0, 0] 1 (dO 17 rfl ?_)
 obtain ⟨v_2, h14, hF⟩ := bd hF
 refine ocl [4, 4] call58 rfl rfl (subs [3, 4, 0] rfl) (tri58 h14 :) ?_
 rintro _ _ _ ⟨A24, L24, C24, rfl, rfl, rfl⟩
 refine o_H [.box gb 81 (vRef07_Table p.T A1 L1 C1 A2 L2 C2 A3 L3 C3), rW A3 L3 C3 4 1 eB p.T.Yes, rW A24 L24 C24 4 1 eB v_2, .box b3 47 [iI ((at_ ((at_ p.T.G.Rules x_.Rule).Rhs) (IntKind.wrap .i64 (x_.Dot - 1))).Nt), iU ((at_ ((at_ p.T.G.Rules x_.Rule).Rhs) (IntKind.wrap .i64 (x_.Dot - 1))).Set.w0), iU ((at_ ((at_ p.T.G.Rules x_.Rule).Rhs) (IntKind.wrap .i64 (x_.Dot - 1))).Set.w1), iU ((at_ ((at_ p.T.G.Rules x_.Rule).Rhs) (IntKind.wrap .i64 (x_.Dot - 1))).Set.w2), iU ((at_ ((at_ p.T.G.Rules x_.Rule).Rhs) (IntKind.wrap .i64 (x_.Dot - 1))).Set.w3)], .box b2 24 (vGram p.T.G A1 L1 C1), .box b1 62 (vFNode x_ A5 L5 C5 A6 L6 C6), .box b 104 [pt gb, iI p.F.Root, sl A4 L4 C4], rW A4 L4 C4 62 7 eFNode p.F.Nodes] rfl (dN [3, 3, 3, 3, 0, 0, 1] 1 (dv 18 rfl vA (d_done_seq (by kernel_rfl) (c_seq (cR ((fD 3) (oV (vL 5 ty3) (oV vA (o_seq ?_)))))))))
 obtain ⟨o5, ho5, hF⟩ := bd hF
 refine c_cut (fun E N' => ∀ (A27 : OA) (L27 C27 : Nat) (A28 : OA) (L28 C28 : Nat), Sat E [(0, pt b), (1, .agg (vFNode x_ A5 L5 C5 A6 L6 C6).toArray), (3, pt b1), (4, nS), (5, sl A27 L27 C27), (6, pt b2), (10, pt b3)] [.box gb 81 (vRef07_Table p.T A1 L1 C1 A2 L2 C2 A3 L3 C3), .box b3 47 [iI ((at_ ((at_ p.T.G.Rules x_.Rule).Rhs) (IntKind.wrap .i64 (x_.Dot - 1))).Nt), iU ((at_ ((at_ p.T.G.Rules x_.Rule).Rhs) (IntKind.wrap .i64 (x_.Dot - 1))).Set.w0), iU ((at_ ((at_ p.T.G.Rules x_.Rule).Rhs) (IntKind.wrap .i64 (x_.Dot - 1))).Set.w1), iU ((at_ ((at_ p.T.G.Rules x_.Rule).Rhs) (IntKind.wrap .i64 (x_.Dot - 1))).Set.w2), iU ((at_ ((at_ p.T.G.Rules x_.Rule).Rhs) (IntKind.wrap .i64 (x_.Dot - 1))).Set.w3)], .box b2 24 (vGram p.T.G A1 L1 C1), .box b1 62 (vFNode x_ A5 L5 C5 A6 L6 C6), .box b 104 [pt gb, iI p.F.Root, sl A28 L28 C28], rW A27 L27 C27 108 4 eAlt o5.1, rW A3 L3 C3 4 1 eB p.T.Yes, rW A28 L28 C28 62 7 eFNode o5.2] [fS A5 L5 C5 1 eI64 x_.Ban, fS A6 L6 C6 4 eAlt x_.Alts, fS A1 L1 C1 2 eRule p.T.G.Rules, fS A2 L2 C2 1 eU8 p.T.W] N') (fun N5 hN5 => ?_) ?_
 refine c_block ?_
 refine c_loopE (fun E j a w => ∃ (out3 : List Alt) (m : Int) (Nodes_3 : List FNode) (A25 : OA) (L25 C25 : Nat) (A26 : OA) (L26 C26 : Nat), F.ref08.Packer_ways_l5 k x_ v_2 p j out3 m Nodes_3 = some o5 ∧ St E [(0, pt b), (1, .agg (vFNode x_ A5 L5 C5 A6 L6 C6).toArray), (3, pt b1), (4, nS), (5, sl A25 L25 C25), (6, pt b2), (10, pt b3), (11, sl A24 L24 C24), (12, iI m)] [.box gb 81 (vRef07_Table p.T A1 L1 C1 A2 L2 C2 A3 L3 C3), .box b3 47 [iI ((at_ ((at_ p.T.G.Rules x_.Rule).Rhs) (IntKind.wrap .i64 (x_.Dot - 1))).Nt), iU ((at_ ((at_ p.T.G.Rules x_.Rule).Rhs) (IntKind.wrap .i64 (x_.Dot - 1))).Set.w0), iU ((at_ ((at_ p.T.G.Rules x_.Rule).Rhs) (IntKind.wrap .i64 (x_.Dot - 1))).Set.w1), iU ((at_ ((at_ p.T.G.Rules x_.Rule).Rhs) (IntKind.wrap .i64 (x_.Dot - 1))).Set.w2), iU ((at_ ((at_ p.T.G.Rules x_.Rule).Rhs) (IntKind.wrap .i64 (x_.Dot - 1))).Set.w3)], .box b2 24 (vGram p.T.G A1 L1 C1), .box b1 62 (vFNode x_ A5 L5 C5 A6 L6 C6), .box b 104 [pt gb, iI p.F.Root, sl A26 L26 C26], rW A25 L25 C25 108 4 eAlt out3, rW A24 L24 C24 4 1 eB v_2, rW A3 L3 C3 4 1 eB p.T.Yes, rW A26 L26 C26 62 7 eFNode Nodes_3] [fS A5 L5 C5 1 eI64 x_.Ban, fS A6 L6 C6 4 eAlt x_.Alts, fS A1 L1 C1 2 eRule p.T.G.Rules, fS A2 L2 C2 1 eU8 p.T.W] a w) k ?_ ?_
 refine s_st (st_nilrow 108 4) ?_
 exact lq [1, 3, 3, 3, 3, 0, 1, 0, 0] [5, 6, 3, 4] fun a w hs => ⟨([] : List Alt), x_.From, p.F.Nodes, none, 0, 0, A4, L4, C4, ho5, hs⟩
 rintro j a w ⟨out3, m, Nodes_3, A25, L25, C25, A26, L26, C26, hL5, hs⟩
 rcases j with _ | j
 cases hL5
 refine wc_app hs ?_
 unfold F.ref08.Packer_ways_l5 at hL5
 refine c_seq (cR (oV vM ((fD 4) (oV (vL 3 ty3) (oV vB (o_seq ?_))))))
 refine cC hL5 (fun hL5 => ?_) (fun hL5 => ?_)
 refine c_skip (sat_wc (c_seq ?_))
 refine cT (fun E H Φ N' => ∀ (out4 : List Alt) (Nodes_4 : List FNode) (A29 : OA) (L29 C29 : Nat) (A30 : OA) (L30 C30 : Nat), F.ref08.Packer_ways_j6 (F.ref08.Packer_ways_l5 k x_ v_2 p j) m out4 Nodes_4 = some o5 → Sat E [(0, pt b), (1, .agg (vFNode x_ A5 L5 C5 A6 L6 C6).toArray), (3, pt b1), (4, nS), (5, sl A29 L29 C29), (6, pt b2), (10, pt b3), (11, sl A24 L24 C24), (12, iI m)] [.box gb 81 (vRef07_Table p.T A1 L1 C1 A2 L2 C2 A3 L3 C3), .box b3 47 [iI ((at_ ((at_ p.T.G.Rules x_.Rule).Rhs) (IntKind.wrap .i64 (x_.Dot - 1))).Nt), iU ((at_ ((at_ p.T.G.Rules x_.Rule).Rhs) (IntKind.wrap .i64 (x_.Dot - 1))).Set.w0), iU ((at_ ((at_ p.T.G.Rules x_.Rule).Rhs) (IntKind.wrap .i64 (x_.Dot - 1))).Set.w1), iU ((at_ ((at_ p.T.G.Rules x_.Rule).Rhs) (IntKind.wrap .i64 (x_.Dot - 1))).Set.w2), iU ((at_ ((at_ p.T.G.Rules x_.Rule).Rhs) (IntKind.wrap .i64 (x_.Dot - 1))).Set.w3)], .box b2 24 (vGram p.T.G A1 L1 C1), .box b1 62 (vFNode x_ A5 L5 C5 A6 L6 C6), .box b 104 [pt gb, iI p.F.Root, sl A30 L30 C30], rW A29 L29 C29 108 4 eAlt out4, rW A24 L24 C24 4 1 eB v_2, rW A3 L3 C3 4 1 eB p.T.Yes, rW A30 L30 C30 62 7 eFNode Nodes_4] Φ N') (fun N6 hN6 => ?_) ?_
 refine c_block (c_seq (c_seq ?_))
 refine cT (fun E H Φ N' => ∀ (t135 : Bool), F.ref08.Packer_ways_j7 k (F.ref08.Packer_ways_l5 k x_ v_2 p j) m out3 Nodes_3 p x_ t135 = some o5 → Sat E [(0, pt b), (1, .agg (vFNode x_ A5 L5 C5 A6 L6 C6).toArray), (3, pt b1), (4, nS), (5, sl A25 L25 C25), (6, pt b2), (10, pt b3), (11, sl A24 L24 C24), (12, iI m), (135, bV t135)] H Φ N') (fun N8 hN8 => ?_) ?_
 refine c_draw (n := 17) [0, 0, 0, 0, 0, 0, 0, 0, 0] mixed rfl rfl (dv 0 rfl vM (dv 1 rfl vM (ite_some hL5 ?_)))
 intro h22 hL5
 refine dv 2 rfl (v_indexAddr_s (xs := v_2) (enc := eB) sl79 rfl rfl (.r 6 _ rfl) h22) (dv 3 rfl (v_load_s (xs := v_2) (enc := eB) ty4 rfl (.r 6 _ rfl) h22 rfl rfl rfl rfl rfl rfl rfl) (dv 4 rfl vN (dv 5 rfl vM ?_)))
 refine d_split (t := 124) rfl (fun h23 => ?_) (fun h23 => ?_)
 replace hL5 := ite_t h23 hL5
 refine dF 6 rfl (dF 7 rfl (dF 8 rfl (dF 9 rfl (dF 10 rfl (dF 11 rfl (dF 12 rfl (dF 13 rfl (dF 14 rfl (dF 15 rfl (dv 16 rfl vPt (dD ?_)))))))))))
 exact sK [0, 0, 0, 0, 0, 0, 0, 0, 0] [0, 1, 2, 3] (hN8 true hL5)
 replace hL5 := ite_f h23 hL5
 refine dw 6 rfl rfl rfl vM (dw 7 rfl rfl rfl vC (dw 8 rfl rfl rfl (vF 0) (dw 9 rfl rfl rfl (vL 4 ty74) (dw 10 rfl rfl rfl (vL 1 ty47) (dw 11 rfl rfl rfl vM (dw 12 rfl rfl rfl (vF 4) (dw 13 rfl rfl rfl (vL 3 ty3) (dO 14 rfl (oN ?_)))))))))
 obtain ⟨v_5, h24, hL5⟩ := bd hL5
 refine ocl [0, 6] call67 rfl rfl (subs [2, 3] rfl) (tri67 h24 :) ?_
 rintro _ _ _ ⟨rfl, rfl, rfl⟩
 refine o_H [.box gb 81 (vRef07_Table p.T A1 L1 C1 A2 L2 C2 A3 L3 C3), rW A3 L3 C3 4 1 eB p.T.Yes, .box b3 47 [iI ((at_ ((at_ p.T.G.Rules x_.Rule).Rhs) (IntKind.wrap .i64 (x_.Dot - 1))).Nt), iU ((at_ ((at_ p.T.G.Rules x_.Rule).Rhs) (IntKind.wrap .i64 (x_.Dot - 1))).Set.w0), iU ((at_ ((at_ p.T.G.Rules x_.Rule).Rhs) (IntKind.wrap .i64 (x_.Dot - 1))).Set.w1), iU ((at_ ((at_ p.T.G.Rules x_.Rule).Rhs) (IntKind.wrap .i64 (x_.Dot - 1))).Set.w2), iU ((at_ ((at_ p.T.G.Rules x_.Rule).Rhs) (IntKind.wrap .i64 (x_.Dot - 1))).Set.w3)], .box b2 24 (vGram p.T.G A1 L1 C1), .box b1 62 (vFNode x_ A5 L5 C5 A6 L6 C6), .box b 104 [pt gb, iI p.F.Root, sl A26 L26 C26], rW A25 L25 C25 108 4 eAlt out3, rW A24 L24 C24 4 1 eB v_2, rW A26 L26 C26 62 7 eFNode Nodes_3] rfl (dN [0, 1, 1, 1, 1, 1, 1, 0, 0] 0 (dw 15 rfl rfl rfl vN (dv 16 rfl vPf (dD ?_))))
 exact sK [0, 1, 1, 1, 1, 1, 1, 0, 0] [0, 1, 2, 3] (hN8 (!v_5) hL5)
 intro t135 hL5
 unfold F.ref08.Packer_ways_j7 at hL5
 refine sat_wc ?_
 refine cC hL5 (fun hL5 => ?_) (fun hL5 => ?_)
 refine c_exit0 ?_
 exact sK [0, 0, 0, 0, 0, 0, 0, 0, 0] [0, 1, 2, 3] (hN6 out3 Nodes_3 A25 L25 C25 A26 L26 C26 hL5)
 refine c_skip (sat_wc (cR ((fD 1) (oV (vL 3 ty3) (oV vM (oV (vU (.agg #[iI x_.Rule, iI m, iI 0, iI (-1)])) (o_alloc zero108 rfl rfl ?_)))))))
 intro b4
 refine (sT 0 ty108) (o_seq (cR (oV vM ((fD 1) (oV (vL 4 ty3) ?_)))))
 refine (fD 2) (oV (vL 4 ty3) (oV vB ((fD 3) (oV (vL 4 ty3) (oV vM ?_)))))
 obtain ⟨v_3, h17, hL5⟩ := bd hL5
 refine ocl [5, 1, 6, 6] call66 rfl rfl (subs [2, 3] rfl) (tri66 h17 :) ?_
 rintro _ _ _ ⟨A31, L31, C31, rfl, rfl, rfl⟩
 refine o_H [.box b 104 [pt gb, iI p.F.Root, sl A31 L31 C31], .box gb 81 (vRef07_Table p.T A1 L1 C1 A2 L2 C2 A3 L3 C3), rW A3 L3 C3 4 1 eB p.T.Yes, rW A31 L31 C31 62 7 eFNode v_3.2.F.Nodes, .box b4 108 [iI x_.Rule, iI m, iI 0, iI (-1)], .box b3 47 [iI ((at_ ((at_ p.T.G.Rules x_.Rule).Rhs) (IntKind.wrap .i64 (x_.Dot - 1))).Nt), iU ((at_ ((at_ p.T.G.Rules x_.Rule).Rhs) (IntKind.wrap .i64 (x_.Dot - 1))).Set.w0), iU ((at_ ((at_ p.T.G.Rules x_.Rule).Rhs) (IntKind.wrap .i64 (x_.Dot - 1))).Set.w1), iU ((at_ ((at_ p.T.G.Rules x_.Rule).Rhs) (IntKind.wrap .i64 (x_.Dot - 1))).Set.w2), iU ((at_ ((at_ p.T.G.Rules x_.Rule).Rhs) (IntKind.wrap .i64 (x_.Dot - 1))).Set.w3)], .box b2 24 (vGram p.T.G A1 L1 C1), .box b1 62 (vFNode x_ A5 L5 C5 A6 L6 C6), rW A25 L25 C25 108 4 eAlt out3, rW A24 L24 C24 4 1 eB v_2] rfl ((fD 2) ((sT 4 ty3) (o_seq (c_seq (cR ((fD 0) (oV (vL 5 ty3) (oV vB (o_seq ?_)))))))))
 refine cT (fun E H Φ N' => ∀ (Nodes_5 : List FNode) (Right_ : Int) (A32 : OA) (L32 C32 : Nat), F.ref08.Packer_ways_j8 out3 x_ m v_3 (F.ref08.Packer_ways_l5 k x_ v_2 p j) Nodes_5 Right_ = some o5 → Sat E [(0, pt b), (1, .agg (vFNode x_ A5 L5 C5 A6 L6 C6).toArray), (3, pt b1), (4, nS), (5, sl A25 L25 C25), (6, pt b2), (10, pt b3), (11, sl A24 L24 C24), (12, iI m), (13, pt b4)] [.box b 104 [pt gb, iI p.F.Root, sl A32 L32 C32], .box gb 81 (vRef07_Table p.T A1 L1 C1 A2 L2 C2 A3 L3 C3), .box b4 108 [iI x_.Rule, iI m, iI v_3.1, iI Right_], .box b3 47 [iI ((at_ ((at_ p.T.G.Rules x_.Rule).Rhs) (IntKind.wrap .i64 (x_.Dot - 1))).Nt), iU ((at_ ((at_ p.T.G.Rules x_.Rule).Rhs) (IntKind.wrap .i64 (x_.Dot - 1))).Set.w0), iU ((at_ ((at_ p.T.G.Rules x_.Rule).Rhs) (IntKind.wrap .i64 (x_.Dot - 1))).Set.w1), iU ((at_ ((at_ p.T.G.Rules x_.Rule).Rhs) (IntKind.wrap .i64 (x_.Dot - 1))).Set.w2), iU ((at_ ((at_ p.T.G.Rules x_.Rule).Rhs) (IntKind.wrap .i64 (x_.Dot - 1))).Set.w3)], .box b2 24 (vGram p.T.G A1 L1 C1), .box b1 62 (vFNode x_ A5 L5 C5 A6 L6 C6), rW A25 L25 C25 108 4 eAlt out3, rW A24 L24 C24 4 1 eB v_2, rW A32 L32 C32 62 7 eFNode Nodes_5, rW A3 L3 C3 4 1 eB p.T.Yes] Φ N') (fun N8 hN8 => ?_) ?_
 refine cC hL5 (fun hL5 => ?_) (fun hL5 => ?_)
 refine c_region (oV vM ((fD 0) (oV (vL 5 ty3) (oV vM ((fD 4) (oV (vL 7 ty3) (oV (vU (.agg #[iI ((at_ ((at_ p.T.G.Rules x_.Rule).Rhs) (IntKind.wrap .i64 (x_.Dot - 1))).Nt), iI (-1), iI (-1), iI m, iI x_.To, nS, nS])) ?_)))))))
 obtain ⟨v_4, h21, hL5⟩ := bd hL5
 refine o_st (st_nilfact 1) (o_st (st_nilfact 4) (ocl [0, 0, 0, 0] call48 rfl rfl (subs [4, 5, 1, 0] rfl) (tri48 h21 :) ?_))
 rintro _ _ _ ⟨A35, L35, C35, rfl, rfl, rfl⟩
 refine o_H [.box b 104 [pt gb, iI p.F.Root, sl A35 L35 C35], .box gb 81 (vRef07_Table p.T A1 L1 C1 A2 L2 C2 A3 L3 C3), rW A3 L3 C3 4 1 eB p.T.Yes, rW A35 L35 C35 62 7 eFNode v_4.2.F.Nodes, .box b4 108 [iI x_.Rule, iI m, iI v_3.1, iI (-1)], .box b3 47 [iI ((at_ ((at_ p.T.G.Rules x_.Rule).Rhs) (IntKind.wrap .i64 (x_.Dot - 1))).Nt), iU ((at_ ((at_ p.T.G.Rules x_.Rule).Rhs) (IntKind.wrap .i64 (x_.Dot - 1))).Set.w0), iU ((at_ ((at_ p.T.G.Rules x_.Rule).Rhs) (IntKind.wrap .i64 (x_.Dot - 1))).Set.w1), iU ((at_ ((at_ p.T.G.Rules x_.Rule).Rhs) (IntKind.wrap .i64 (x_.Dot - 1))).Set.w2), iU ((at_ ((at_ p.T.G.Rules x_.Rule).Rhs) (IntKind.wrap .i64 (x_.Dot - 1))).Set.w3)], .box b2 24 (vGram p.T.G A1 L1 C1), .box b1 62 (vFNode x_ A5 L5 C5 A6 L6 C6), rW A25 L25 C25 108 4 eAlt out3, rW A24 L24 C24 4 1 eB v_2] rfl ((fD 3) ((sT 4 ty3) (o_nil ?_)))
 exact sK [0, 0, 2, 2, 2, 2, 2, 2, 1, 0] [2, 3, 4, 5] (hN8 v_4.2.F.Nodes v_4.1 A35 L35 C35 hL5)
 refine c_skip ?_
 exact sK [0, 0, 2, 2, 2, 2, 2, 2, 1, 0] [0, 1, 2, 3] (hN8 v_3.2.F.Nodes (-1) A31 L31 C31 hL5)
 intro Nodes_5 Right_ A32 L32 C32 hL5
 unfold F.ref08.Packer_ways_j8 at hL5
 refine sat_wc (c_region (oV vM (oV (vL 2 ty108) (o_buildSlice (enc := eAlt) ([(Alt.mk x_.Rule m v_3.1 Right_)] : List Alt) [iI x_.Rule, iI m, iI v_3.1, iI Right_] sl60 rfl (fun _ => by kernel_rfl) rfl rfl rfl (.s rfl (.s rfl (.s rfl (.s rfl (.nil))))) rfl ?_))))
 intro A33 L33 C33
 refine ite_some hL5 fun h18 hL5 => ite_some hL5 fun h19 hL5 => o_append (enc := eAlt) (xs := out3) (ys := ([(Alt.mk x_.Rule m v_3.1 Right_)] : List Alt)) 7 sl60 rfl rfl rfl (.r 0 _ rfl) h18 h19 rfl fun A34 L34 C34 => o_H [rW A33 L33 C33 108 4 eAlt ([(Alt.mk x_.Rule m v_3.1 Right_)] : List Alt), .box b 104 [pt gb, iI p.F.Root, sl A32 L32 C32], .box gb 81 (vRef07_Table p.T A1 L1 C1 A2 L2 C2 A3 L3 C3), .box b4 108 [iI x_.Rule, iI m, iI v_3.1, iI Right_], .box b3 47 [iI ((at_ ((at_ p.T.G.Rules x_.Rule).Rhs) (IntKind.wrap .i64 (x_.Dot - 1))).Nt), iU ((at_ ((at_ p.T.G.Rules x_.Rule).Rhs) (IntKind.wrap .i64 (x_.Dot - 1))).Set.w0), iU ((at_ ((at_ p.T.G.Rules x_.Rule).Rhs) (IntKind.wrap .i64 (x_.Dot - 1))).Set.w1), iU ((at_ ((at_ p.T.G.Rules x_.Rule).Rhs) (IntKind.wrap .i64 (x_.Dot - 1))).Set.w2), iU ((at_ ((at_ p.T.G.Rules x_.Rule).Rhs) (IntKind.wrap .i64 (x_.Dot - 1))).Set.w3)], .box b2 24 (vGram p.T.G A1 L1 C1), .box b1 62 (vFNode x_ A5 L5 C5 A6 L6 C6), .row (sl A34 L34 C34) 108 4 ((out3 ++ ([(Alt.mk x_.Rule m v_3.1 Right_)] : List Alt)).map eAlt), rW A24 L24 C24 4 1 eB v_2, rW A32 L32 C32 62 7 eFNode Nodes_5, rW A3 L3 C3 4 1 eB p.T.Yes] rfl (oV vA (o_nil ?_))
 exact sK [2, 3, 3, 3, 1, 2, 2, 3, 2] [0, 1, 2, 3] (hN6 (out3 ++ ([(Alt.mk x_.Rule m v_3.1 Right_)] : List Alt)) Nodes_5 A34 L34 C34 A32 L32 C32 hL5)
 intro out4 Nodes_4 A29 L29 C29 A30 L30 C30 hL5
 unfold F.ref08.Packer_ways_j6 at hL5
 refine sat_wc (c_region (oV vM (oV vB (oV vA (o_nil ?_)))))
 exact lp [0, 0, 0, 0, 0, 0, 0, 0, 0] [0, 1, 2, 3] fun a w hs => ⟨out4, IntKind.wrap .i64 (m + 1), Nodes_4, A29, L29, C29, A30, L30, C30, hL5, hs⟩
 refine c_exit0 ?_
 cases hL5
 exact sK [0, 0, 0, 0, 0, 0, 1, 1] [0, 1, 2, 3] (hN5 A25 L25 C25 A26 L26 C26)
 intro A27 L27 C27 A28 L28 C28
 refine sat_wc (cR (oV vM (oV vA (o_seq (c_ret ?_)))))
 cases hF
 refine s_ret1 rfl (r_tmp rfl) fun a w hs => fin_sel hs [4, 0, 4, 4, 3] ⟨A27, L27, C27, A28, L28, C28, rfl, rfl, rfl⟩ rfl sub_nil
theorem tri23 {k : Nat} {g_ : Gram} {w__ : List Int} {r : Forest × Int} (hF : F.ref08.Build k g_ w__ = some r) :
    Tri Try.prog 23 [.agg (vGram g_ A1 L1 C1).toArray, sl A2 L2 C2] [] [fS A1 L1 C1 2 eRule g_.Rules, fS A2 L2 C2 1 eU8 w__] (fun o H Φ => ∃ (A13 : OA) (L13 C13 : Nat), o = .ret (.tuple #[.agg #[iI r.1.Root, sl A13 L13 C13], iI r.2]) ∧ H = [] ∧ Φ = [fS A13 L13 C13 7 eFNode r.1.Nodes]) := by
 unfold F.ref08.Build at hF
 refine tri_intro (n := 85) Try.func23 rfl Try.ntmps23 rfl fun w X => cR (o_box rfl rfl rfl fun b => o_alloc zero53 rfl rfl fun b1 => oV vA (o_seq (cR (oV (vL 1 ty24) (oV vM ?_)))))
 obtain ⟨v_, h1, hF⟩ := bd hF
 refine o_callSB call33 rfl (lent_f 0 rfl (lent_f 1 rfl lent_nil)) (tri33 h1 :) rfl (oV vA (o_seq (c_seq (cR (oV vM (oV vB (o_seq ?_)))))))
 refine cC hF (fun hF => ?_) (fun hF => ?_)
 refine cR (oV (vU (.agg #[iI 0, nS])) (oV vM ((sT 0 ty53) (oV vA (o_seq (c_ret ?_))))))
 cases hF
 refine s_st (st_nilfact 7) (s_ret2 rfl (r_cell 0 rfl ty53 rfl rfl rfl rfl) (r_tmp rfl) fun a w hs => fin_sel hs [] ⟨none, 0, 0, rfl, rfl, rfl⟩ rfl (subs [0] rfl))
 refine c_skip (sat_wc (cR (oV (vL 1 ty24) (oV vM ?_))))
 obtain ⟨v_1, h3, hF⟩ := bd hF
 refine o_call0 call34 rfl (subs [0, 1] rfl) (tri34 h3 :) rfl ?_
 rintro _ _ _ ⟨gb, A3, L3, C3, A4, L4, C4, A5, L5, C5, rfl, rfl, rfl⟩
 refine oV (vU (.agg #[pt gb, iI 0, nS])) (o_box rfl rfl rfl ?_)
 intro b2
 refine oV vA (o_seq (c_seq (c_seq (c_draw (n := 15) [0, 0, 0, 0, 0] mixed rfl rfl (dv 0 rfl vM (dv 1 rfl vC (dv 2 rfl (vF 0) (dv 3 rfl (vL 0 ty74) (dv 4 rfl (vF 1) (dv 5 rfl (vL 4 ty3) (dv 6 rfl vM (dv 7 rfl vC (dv 8 rfl (vF 0) ?_)))))))))))))
 refine dv 9 rfl (vL 0 ty74) (dv 10 rfl vC (dv 11 rfl (vF 4) (dv 12 rfl (vL 1 ty3) (dO 13 rfl ?_))))
 obtain ⟨v_2, h4, hF⟩ := bd hF
 refine ocl [1, 1] call47 rfl rfl (subs [0, 1] rfl) (tri47 h4 :) ?_
 rintro _ _ _ ⟨rfl, rfl, rfl⟩
 refine dN [2, 0, 0, 0, 0] 0 (dv 14 rfl vN (d_done_seq (by kernel_rfl) ?_))
 refine cC hF (fun hF => ?_) (fun hF => ?_)
 refine cR (oV (vU (.agg #[iI (-1), nS])) (oV vM ((sT 3 ty53) (oV vA (o_seq (c_ret ?_))))))
 cases hF
 refine s_st (st_nilfact 7) (s_ret2 rfl (r_cell 3 rfl ty53 rfl rfl rfl rfl) (r_tmp rfl) fun a w hs => fin_sel hs [] ⟨none, 0, 0, rfl, rfl, rfl⟩ rfl (subs [0] rfl))
 refine c_skip (sat_wc (c_seq (c_draw (n := 12) [1, 2, 2] mixed rfl rfl (dv 0 rfl vM (dv 1 rfl (vF 1) (dv 2 rfl (vL 2 ty3) (dv 3 rfl vM (dv 4 rfl vC (dv 5 rfl (vF 0) (dO 6 rfl (oV (vL 2 ty74) (dN [1, 2, 2] 0 (dv 7 rfl vC (dv 8 rfl (vF 4) (dO 9 rfl ?_)))))))))))))))
 refine oV (vL 0 ty3) (dN [1, 2, 2] 0 (dv 10 rfl (v_build (v := .agg #[iI g_.Start, iI (-1), iI (-1), iI 0, iI v_1.N_, nS, nS]) rfl (fun _ => by kernel_rfl)) (dO 11 rfl ?_)))
 obtain ⟨v_3, h6, hF⟩ := bd hF
 refine o_st (st_nilrow 62 7) (o_st (st_nilfact 1) (o_st (st_nilfact 4) (ocl [3, 1, 1, 0] call48 rfl rfl (subs [2, 3, 1, 0] rfl) (tri48 h6 :) ?_)))
 rintro _ _ _ ⟨A6, L6, C6, rfl, rfl, rfl⟩
 refine o_H [.box b2 104 [pt gb, iI 0, sl A6 L6 C6], .box gb 81 (vRef07_Table v_1 A3 L3 C3 A4 L4 C4 A5 L5 C5), rW A5 L5 C5 4 1 eB v_1.Yes, rW A6 L6 C6 62 7 eFNode v_3.2.F.Nodes, .box b1 53 [iI 0, nS], .box b 24 (vGram g_ A1 L1 C1)] rfl (dN [2, 3, 3] 2 (d_done_seq (by kernel_rfl) (c_seq (cR (oV vA (o_seq ?_))))))
 obtain ⟨o1, ho1, hF⟩ := bd hF
 refine c_cut (fun E N' => ∀ (A8 : OA) (L8 C8 : Nat), Sat E [(0, .agg (vGram g_ A1 L1 C1).toArray), (1, sl A2 L2 C2), (2, pt b), (4, pt b1), (5, iI 0), (6, iI v_), (7, pt b2)] [.box b2 104 [pt gb, iI 0, sl A8 L8 C8], .box gb 81 (vRef07_Table v_1 A3 L3 C3 A4 L4 C4 A5 L5 C5), .box b1 53 [iI 0, nS], .box b 24 (vGram g_ A1 L1 C1), rW A8 L8 C8 62 7 eFNode o1, rW A5 L5 C5 4 1 eB v_1.Yes] [fS A1 L1 C1 2 eRule g_.Rules, fS A2 L2 C2 1 eU8 w__, fS A3 L3 C3 2 eRule v_1.G.Rules, fS A4 L4 C4 1 eU8 v_1.W] N') (fun N1 hN1 => ?_) ?_
 refine c_block ?_
 refine c_loopE (fun E j a w => ∃ (i : Int) (Nodes_ : List FNode) (A7 : OA) (L7 C7 : Nat), F.ref08.Build_l1 k v_1 j i Nodes_ = some o1 ∧ St E [(0, .agg (vGram g_ A1 L1 C1).toArray), (1, sl A2 L2 C2), (2, pt b), (4, pt b1), (5, iI 0), (6, iI v_), (7, pt b2), (8, iI i)] [.box b2 104 [pt gb, iI 0, sl A7 L7 C7], .box gb 81 (vRef07_Table v_1 A3 L3 C3 A4 L4 C4 A5 L5 C5), .box b1 53 [iI 0, nS], .box b 24 (vGram g_ A1 L1 C1), rW A7 L7 C7 62 7 eFNode Nodes_, rW A5 L5 C5 4 1 eB v_1.Yes] [fS A1 L1 C1 2 eRule g_.Rules, fS A2 L2 C2 1 eU8 w__, fS A3 L3 C3 2 eRule v_1.G.Rules, fS A4 L4 C4 1 eU8 v_1.W] a w) k ?_ ?_
 exact lq [0, 0, 2, 2, 1, 0] [4, 5, 2, 3] fun a w hs => ⟨0, v_3.2.F.Nodes, A6, L6, C6, ho1, hs⟩
 rintro j a w ⟨i, Nodes_, A7, L7, C7, hL1, hs⟩
 rcases j with _ | j
 cases hL1
 refine wc_app hs ?_
 unfold F.ref08.Build_l1 at hL1
 refine c_seq (cR (oV vM (oV vM (oV vC ((fD 1) ((fD 2) (oV (vL 0 ty51) (oV (v_lenS (enc := eFNode) Nodes_ sl51 rfl (.r 4 _ rfl)) (oV vB (o_seq ?_))))))))))
 refine cC hL1 (fun hL1 => ?_) (fun hL1 => ?_)
 refine c_skip (sat_wc (c_seq (c_block (cR (oV vM (oV vM (oV vC ((fD 1) ((fD 2) (oV (vL 0 ty51) (oV vM (ite_some hL1 ?_))))))))))))
 intro h8 hL1
 refine oV (v_indexAddr_s (xs := Nodes_) (enc := eFNode) sl51 rfl rfl (.r 4 _ rfl) h8) (o_load_s (xs := Nodes_) (enc := eFNode) ty62 rfl (.r 4 _ rfl) h8 rfl rfl rfl rfl rfl rfl ?_)
 intro A9 L9 C9 A10 L10 C10
 refine ?_
 obtain ⟨v_4, h9, hL1⟩ := bd hL1
 refine ocl [0, 0, 3, 2] call49 rfl rfl (subs [4, 5, 0, 1] rfl) (tri49 h9 :) ?_
 rintro _ _ _ ⟨A11, L11, C11, A12, L12, C12, rfl, rfl, rfl⟩
 refine o_H [.box b2 104 [pt gb, iI 0, sl A12 L12 C12], .box gb 81 (vRef07_Table v_1 A3 L3 C3 A4 L4 C4 A5 L5 C5), rW A5 L5 C5 4 1 eB v_1.Yes, rW A12 L12 C12 62 7 eFNode v_4.2.F.Nodes, rW A11 L11 C11 108 4 eAlt v_4.1, .box b1 53 [iI 0, nS], .box b 24 (vGram g_ A1 L1 C1)] rfl (oV vA (o_seq (c_region (oV vM (oV vC ((fD 1) ((fD 2) (oV (vL 0 ty51) (oV vM (oV vM (ite_some hL1 ?_)))))))))))
 intro h10 hL1
 refine oV (v_indexAddr_s (xs := v_4.2.F.Nodes) (enc := eFNode) sl51 rfl rfl (.r 3 _ rfl) h10) (oV (v_fieldAddr (v := .pointer (some ⟨blkA A12, offA A12 + (Int.toNat i * 7 + 6), none⟩)) rfl (fun _ => by kernel_rfl)) (o_st (st_freeze 4 rfl) (o_store_s (xs := v_4.2.F.Nodes) (enc := eFNode) 3 (FNode.mk ((at_ v_4.2.F.Nodes i).Nt) ((at_ v_4.2.F.Nodes i).Rule) ((at_ v_4.2.F.Nodes i).Dot) ((at_ v_4.2.F.Nodes i).From) ((at_ v_4.2.F.Nodes i).To) ((at_ v_4.2.F.Nodes i).Ban) v_4.1) rfl ty60 rfl rfl rfl rfl h10 (.f 0 rfl (.nil)) rfl rfl rfl ?_)))
 refine o_nil (sat_wc (c_region (oV vM (oV vB (oV vA (o_nil ?_))))))
 exact lp [0, 0, 2, 2, 1, 0] [3, 4, 5, 6] fun a w hs => ⟨IntKind.wrap .i64 (i + 1), set_ v_4.2.F.Nodes i (FNode.mk ((at_ v_4.2.F.Nodes i).Nt) ((at_ v_4.2.F.Nodes i).Rule) ((at_ v_4.2.F.Nodes i).Dot) ((at_ v_4.2.F.Nodes i).From) ((at_ v_4.2.F.Nodes i).To) ((at_ v_4.2.F.Nodes i).Ban) v_4.1), A12, L12, C12, hL1, hs⟩
 refine c_exit0 ?_
 cases hL1
 exact sK [0, 0, 0, 0, 0, 0] [0, 1, 2, 3] (hN1 A7 L7 C7)
 intro A8 L8 C8
 refine sat_wc (cR (oV vM (oV vC ((fD 1) (oV (vL 0 ty53) (oV vM ((sT 2 ty53) (oV vA (o_seq (c_ret ?_))))))))))
 cases hF
 refine s_st (st_freeze 4 rfl) (s_ret2 rfl (r_cell 2 rfl ty53 rfl rfl rfl rfl) (r_tmp rfl) fun a w hs => fin_sel hs [] ⟨A8, L8, C8, rfl, rfl, rfl⟩ rfl (subs [0] rfl))
theorem tri24 {k : Nat} {a_ : Forest} {b : Forest} {r : Bool} (hF : F.ref08.SameForest k a_ b = some r) :
    Tri Try.prog 24 [.agg #[iI a_.Root, sl A1 L1 C1], .agg #[iI b.Root, sl A2 L2 C2]] [] [fS A1 L1 C1 7 eFNode a_.Nodes, fS A2 L2 C2 7 eFNode b.Nodes] (oR (bV r)) := by
 unfold F.ref08.SameForest at hF
 refine tri_intro (n := 109) Try.func24 rfl Try.ntmps24 rfl fun w X => cR (o_box rfl rfl rfl fun b1 => o_box rfl rfl rfl fun b2 => oV vA (o_seq (c_seq (cR ((fD 0) (oV (vL 1 ty3) ((fD 0) (oV (vL 0 ty3) (oV vB (oV vM ?_))))))))))
 refine oS 14 hF (fun hF => ?_) (fun hF => ?_)
 refine oF (oF (oF (oF (oF (oF (oF (oV vPt (o_seq ?_))))))))
 refine c_cond rfl (fun _ => ?_) (fun h => Bool.noConfusion h)
 refine cR (oV vA (o_seq (c_ret ?_)))
 cases hF
 exact sR
 refine oN ((fD 1) (oN (oV (vL 1 ty51) (oN (oV (v_lenS (enc := eFNode) a_.Nodes sl51 rfl (.f 0 rfl)) (oN ((fD 1) (oN (oV (vL 0 ty51) (oN (oV (v_lenS (enc := eFNode) b.Nodes sl51 rfl (.f 1 rfl)) (oN (oV vB (oV vPf (o_seq ?_)))))))))))))))
 refine cC hF (fun hF => ?_) (fun hF => ?_)
 refine cR (oV vA (o_seq (c_ret ?_)))
 cases hF
 exact sR
 refine c_skip (sat_wc (c_seq (cR (oV vA (o_seq ?_)))))
 obtain ⟨o1, ho1, hF⟩ := bd hF
 refine cT (fun E H Φ N' => ∀ (d1 : Unit), o1 = .done d1 → Sat E [(0, .agg #[iI a_.Root, sl A1 L1 C1]), (1, .agg #[iI b.Root, sl A2 L2 C2]), (2, pt b1), (3, pt b2), (4, bV false)] H Φ N') (fun N1 hN1 => ?_) ?_
 refine c_block ?_
 refine cL (fun E H Φ j a w => ∃ (i : Int), F.ref08.SameForest_l1 k a_ b j i = some o1 ∧ St E [(0, .agg #[iI a_.Root, sl A1 L1 C1]), (1, .agg #[iI b.Root, sl A2 L2 C2]), (2, pt b1), (3, pt b2), (4, bV false), (5, iI i)] H Φ a w) k ?_ ?_
 exact lq [0, 0] [0, 1] fun a w hs => ⟨0, ho1, hs⟩
 rintro j a w ⟨i, hL1, hs⟩
 rcases j with _ | j
 cases hL1
 refine wc_app hs ?_
 unfold F.ref08.SameForest_l1 at hL1
 refine c_seq (cR (oV vM ((fD 1) (oV (vL 1 ty51) (oV (v_lenS (enc := eFNode) a_.Nodes sl51 rfl (.f 0 rfl)) (oV vB (o_seq ?_)))))))
 refine cC hL1 (fun hL1 => ?_) (fun hL1 => ?_)
 refine c_skip (sat_wc (c_seq ?_))
 refine c_cut (fun E N' => ∀ (k_ : Int) (A3 : OA) (L3 C3 : Nat) (A4 : OA) (L4 C4 : Nat) (A5 : OA) (L5 C5 : Nat) (A6 : OA) (L6 C6 : Nat) (b3 : Nat) (b4 : Nat), F.ref08.SameForest_j2 (F.ref08.SameForest_l1 k a_ b j) i k_ = some o1 → Sat E [(0, .agg #[iI a_.Root, sl A1 L1 C1]), (1, .agg #[iI b.Root, sl A2 L2 C2]), (2, pt b1), (3, pt b2), (4, bV false), (5, iI i), (6, pt b3), (7, pt b4), (8, iI k_)] [.box b2 53 [iI b.Root, sl A2 L2 C2], .box b1 53 [iI a_.Root, sl A1 L1 C1], .box b3 62 (vFNode (at_ a_.Nodes i) A3 L3 C3 A4 L4 C4), .box b4 62 (vFNode (at_ b.Nodes i) A5 L5 C5 A6 L6 C6)] [fS A1 L1 C1 7 eFNode a_.Nodes, fS A2 L2 C2 7 eFNode b.Nodes, fS A3 L3 C3 1 eI64 ((at_ a_.Nodes i).Ban), fS A4 L4 C4 4 eAlt ((at_ a_.Nodes i).Alts), fS A5 L5 C5 1 eI64 ((at_ b.Nodes i).Ban), fS A6 L6 C6 4 eAlt ((at_ b.Nodes i).Alts)] N') (fun N2 hN2 => ?_) ?_
 refine c_block (c_seq ?_)
 refine c_cut (fun E N' => ∀ (A7 : OA) (L7 C7 : Nat) (A8 : OA) (L8 C8 : Nat) (A9 : OA) (L9 C9 : Nat) (A10 : OA) (L10 C10 : Nat) (b5 : Nat) (b6 : Nat), F.ref08.SameForest_j3 k a_ i b (F.ref08.SameForest_l1 k a_ b j) = some o1 → Sat E [(0, .agg #[iI a_.Root, sl A1 L1 C1]), (1, .agg #[iI b.Root, sl A2 L2 C2]), (2, pt b1), (3, pt b2), (4, bV false), (5, iI i), (6, pt b5), (7, pt b6)] [.box b2 53 [iI b.Root, sl A2 L2 C2], .box b1 53 [iI a_.Root, sl A1 L1 C1], .box b5 62 (vFNode (at_ a_.Nodes i) A7 L7 C7 A8 L8 C8), .box b6 62 (vFNode (at_ b.Nodes i) A9 L9 C9 A10 L10 C10)] [fS A1 L1 C1 7 eFNode a_.Nodes, fS A2 L2 C2 7 eFNode b.Nodes, fS A7 L7 C7 1 eI64 ((at_ a_.Nodes i).Ban), fS A8 L8 C8 4 eAlt ((at_ a_.Nodes i).Alts), fS A9 L9 C9 1 eI64 ((at_ b.Nodes i).Ban), fS A10 L10 C10 4 eAlt ((at_ b.Nodes i).Alts)] N') (fun N5 hN5 => ?_) ?_
 refine ite_some hL1 fun h15 hL1 => c_elem (xs := a_.Nodes) (enc := eFNode) 0 rfl h15 rfl rfl fun A11 L11 C11 A12 L12 C12 => ite_some hL1 fun h16 hL1 => c_elem (xs := b.Nodes) (enc := eFNode) 4 rfl h16 rfl rfl fun A13 L13 C13 A14 L14 C14 => c_draw (n := 14) [0, 0] mixed rfl rfl (dv 0 rfl (vF 1) (dv 1 rfl (vL 1 ty51) (dv 2 rfl vM (dv 3 rfl (v_indexAddr_s (xs := a_.Nodes) (enc := eFNode) sl51 rfl rfl (.f 6 rfl) h15) (dv 4 rfl (v_load_cl 3 ty62 rfl rfl rfl rfl rfl) (dv 5 rfl (vF 1) (dv 6 rfl (vL 0 ty51) (dv 7 rfl vM (dv 8 rfl (v_indexAddr_s (xs := b.Nodes) (enc := eFNode) sl51 rfl rfl (.f 7 rfl) h16) (dv 9 rfl (v_load_cl 0 ty62 rfl rfl rfl rfl rfl) ?_))))))))))
 refine d_all [10, 11] (by kernel_rfl) (by simp) ⟨⟨_, rfl, ?_⟩, ⟨_, rfl, ?_⟩, trivial⟩
 refine o_alloc zero62 rfl rfl fun b7 => dN [1, 1] 0 (dO 11 rfl (o_alloc zero62 rfl rfl ?_))
 intro b8
 refine dN [2, 2] 0 (dO 12 rfl ((sT 1 ty62) (dN [2, 2] 0 (dO 13 rfl ((sT 0 ty62) (dN [2, 2] 0 (dD ?_)))))))
 exact sK [2, 2, 1, 0] [6, 7, 4, 5, 1, 2] (hN5 A11 L11 C11 A12 L12 C12 A13 L13 C13 A14 L14 C14 b7 b8 hL1)
 refine o_alloc zero62 rfl rfl fun b7 => dN [1, 1] 0 (dO 10 rfl (o_alloc zero62 rfl rfl ?_))
 intro b8
 refine dN [2, 2] 0 (dO 12 rfl ((sT 0 ty62) (dN [2, 2] 0 (dO 13 rfl ((sT 1 ty62) (dN [2, 2] 0 (dD ?_)))))))
 exact sK [2, 2, 0, 0] [6, 7, 4, 5, 1, 2] (hN5 A11 L11 C11 A12 L12 C12 A13 L13 C13 A14 L14 C14 b8 b7 hL1)
 intro A7 L7 C7 A8 L8 C8 A9 L9 C9 A10 L10 C10 b5 b6 hL1
 unfold F.ref08.SameForest_j3 at hL1
 refine sat_wc (c_seq (c_seq ?_))
 refine cT (fun E H Φ N' => ∀ (t90 : Bool), F.ref08.SameForest_j4 k a_ i b (F.ref08.SameForest_l1 k a_ b j) t90 = some o1 → Sat E [(0, .agg #[iI a_.Root, sl A1 L1 C1]), (1, .agg #[iI b.Root, sl A2 L2 C2]), (2, pt b1), (3, pt b2), (4, bV false), (5, iI i), (6, pt b5), (7, pt b6), (90, bV t90)] H Φ N') (fun N5 hN5 => ?_) ?_
 refine c_region ((fD 0) (oV (vL 2 ty3) ((fD 0) (oV (vL 3 ty3) (oV vB (oV vM ?_))))))
 refine oS 45 hL1 (fun hL1 => ?_) (fun hL1 => ?_)
 refine oF (oF (oF (oF (oF (oV vPt (oV vM (oF (oF (oF (oF (oF (oV vPt (oV vM (oF (oF ?_)))))))))))))))
 refine oF (oF (oF (oV vPt (oV vM (oF (oF (oF (oF (oF (oV vPt (oV vM (oF (oF (oF (oF ?_)))))))))))))))
 refine oF (oF (oF (oV vPt (oV vM (oF (oF (oF (oF (oF (oF (oF (oV vPt (o_nil ?_)))))))))))))
 exact sK [0, 0, 0, 0] [0, 1, 2, 3, 4, 5] (hN5 true hL1)
 refine oN ((fD 1) (oN (oV (vL 2 ty3) (oN ((fD 1) (oN (oV (vL 3 ty3) (oN (oV vB (oV vPf (oV vM ?_)))))))))))
 refine oS 52 hL1 (fun hL1 => ?_) (fun hL1 => ?_)
 refine oF (oF (oF (oF (oF (oV vPt (oV vM (oF (oF (oF (oF (oF (oV vPt (oV vM (oF (oF ?_)))))))))))))))
 refine oF (oF (oF (oV vPt (oV vM (oF (oF (oF (oF (oF (oF (oF (oV vPt (oV vM (oF (oF ?_)))))))))))))))
 refine oF (oF (oF (oF (oF (oV vPt (o_nil ?_))))))
 exact sK [0, 0, 0, 0] [0, 1, 2, 3, 4, 5] (hN5 true hL1)
 refine oN ((fD 2) (oN (oV (vL 2 ty3) (oN ((fD 2) (oN (oV (vL 3 ty3) (oN (oV vB (oV vPf (oV vM ?_)))))))))))
 refine oS 59 hL1 (fun hL1 => ?_) (fun hL1 => ?_)
 refine oF (oF (oF (oF (oF (oV vPt (oV vM (oF (oF (oF (oF (oF (oV vPt (oV vM (oF (oF ?_)))))))))))))))
 refine oF (oF (oF (oF (oF (oV vPt (oV vM (oF (oF (oF (oF (oF (oF (oF (oV vPt (o_nil ?_)))))))))))))))
 exact sK [0, 0, 0, 0] [0, 1, 2, 3, 4, 5] (hN5 true hL1)
 refine oN ((fD 3) (oN (oV (vL 2 ty3) (oN ((fD 3) (oN (oV (vL 3 ty3) (oN (oV vB (oV vPf (oV vM ?_)))))))))))
 refine oS 66 hL1 (fun hL1 => ?_) (fun hL1 => ?_)
 refine oF (oF (oF (oF (oF (oV vPt (oV vM (oF (oF (oF (oF (oF (oF (oF (oV vPt (oV vM ?_)))))))))))))))
 refine oF (oF (oF (oF (oF (oF (oF (oV vPt (o_nil ?_))))))))
 exact sK [0, 0, 0, 0] [0, 1, 2, 3, 4, 5] (hN5 true hL1)
 refine oN ((fD 4) (oN (oV (vL 2 ty3) (oN ((fD 4) (oN (oV (vL 3 ty3) (oN (oV vB (oV vPf (oV vM ?_)))))))))))
 refine oS 73 hL1 (fun hL1 => ?_) (fun hL1 => ?_)
 refine oF (oF (oF (oF (oF (oF (oF (oV vPt (oV vM (oF (oF (oF (oF (oF (oF (oF ?_)))))))))))))))
 refine oV vPt (o_nil ?_)
 exact sK [0, 0, 0, 0] [0, 1, 2, 3, 4, 5] (hN5 true hL1)
 refine oN ((fD 6) (oN (oV (vL 2 ty60) (oN (oV (v_lenS (enc := eAlt) ((at_ a_.Nodes i).Alts) sl60 rfl (.f 3 rfl)) (oN ((fD 6) (oN (oV (vL 3 ty60) (oN (oV (v_lenS (enc := eAlt) ((at_ b.Nodes i).Alts) sl60 rfl (.f 5 rfl)) (oN (oV vB (oV vPf (oV vM ?_)))))))))))))))
 refine oS 82 hL1 (fun hL1 => ?_) (fun hL1 => ?_)
 refine oF (oF (oF (oF (oF (oF (oF (oV vPt (o_nil ?_))))))))
 exact sK [0, 0, 0, 0] [0, 1, 2, 3, 4, 5] (hN5 true hL1)
 refine oN ((fD 5) (oN (oV (vL 2 ty59) (oN (oV (v_lenS (enc := eI64) ((at_ a_.Nodes i).Ban) sl59 rfl (.f 2 rfl)) (oN ((fD 5) (oN (oV (vL 3 ty59) (oN (oV (v_lenS (enc := eI64) ((at_ b.Nodes i).Ban) sl59 rfl (.f 4 rfl)) (oN (oV vB (oV vPf (o_nil ?_)))))))))))))))
 exact sK [0, 0, 0, 0] [0, 1, 2, 3, 4, 5] (hN5 ((((at_ a_.Nodes i).Ban).length : Int) != (((at_ b.Nodes i).Ban).length : Int)) hL1)
 intro t90 hL1
 unfold F.ref08.SameForest_j4 at hL1
 refine sat_wc ?_
 refine cC hL1 (fun hL1 => ?_) (fun hL1 => ?_)
 refine cR (oV vA (o_seq (c_ret ?_)))
 cases hL1
 obtain rfl := lrf_ret hF
 exact sR
 refine c_skip (sat_wc (cR (oV vA (o_seq ?_))))
 obtain ⟨o5, ho5, hL1⟩ := bd hL1
 refine cT (fun E H Φ N' => ∀ (d5 : Int), o5 = .done d5 → Sat E [(0, .agg #[iI a_.Root, sl A1 L1 C1]), (1, .agg #[iI b.Root, sl A2 L2 C2]), (2, pt b1), (3, pt b2), (4, bV false), (5, iI i), (6, pt b5), (7, pt b6), (8, iI d5)] H Φ N') (fun N5 hN5 => ?_) ?_
 refine c_block ?_
 refine cL (fun E H Φ j a w => ∃ (k_1 : Int), F.ref08.SameForest_l5 a_ i b j k_1 = some o5 ∧ St E [(0, .agg #[iI a_.Root, sl A1 L1 C1]), (1, .agg #[iI b.Root, sl A2 L2 C2]), (2, pt b1), (3, pt b2), (4, bV false), (5, iI i), (6, pt b5), (7, pt b6), (8, iI k_1)] H Φ a w) k ?_ ?_
 exact lq [0, 0, 0, 0] [0, 1, 2, 3, 4, 5] fun a w hs => ⟨0, ho5, hs⟩
 rintro j a w ⟨k_1, hL5, hs⟩
 rcases j with _ | j
 cases hL5
 refine wc_app hs ?_
 unfold F.ref08.SameForest_l5 at hL5
 refine c_seq (cR (oV vM ((fD 6) (oV (vL 2 ty60) (oV (v_lenS (enc := eAlt) ((at_ a_.Nodes i).Alts) sl60 rfl (.f 3 rfl)) (oV vB (o_seq ?_)))))))
 refine cC hL5 (fun hL5 => ?_) (fun hL5 => ?_)
 refine c_skip (sat_wc (c_seq (c_block (c_seq (c_draw (n := 11) [0, 0, 0, 0] mixed rfl rfl (dv 0 rfl (vF 6) (dv 1 rfl (vL 2 ty60) (dv 2 rfl vM (ite_some hL5 ?_)))))))))
 intro h6 hL5
 refine dv 3 rfl (v_indexAddr_s (xs := (at_ a_.Nodes i).Alts) (enc := eAlt) sl60 rfl rfl (.f 3 rfl) h6) (dv 4 rfl (v_load_s (xs := (at_ a_.Nodes i).Alts) (enc := eAlt) ty108 rfl (.f 3 rfl) h6 rfl rfl rfl rfl rfl rfl rfl) (dv 5 rfl (vF 6) (dv 6 rfl (vL 3 ty60) (dv 7 rfl vM (ite_some hL5 ?_)))))
 intro h7 hL5
 refine ?_
 refine dv 8 rfl (v_indexAddr_s (xs := (at_ b.Nodes i).Alts) (enc := eAlt) sl60 rfl rfl (.f 5 rfl) h7) (dv 9 rfl (v_load_s (xs := (at_ b.Nodes i).Alts) (enc := eAlt) ty108 rfl (.f 5 rfl) h7 rfl rfl rfl rfl rfl rfl rfl) (dv 10 rfl (v_agne 2 rfl rfl (eq108 ((at_ ((at_ a_.Nodes i).Alts) k_1).Rule) ((at_ ((at_ a_.Nodes i).Alts) k_1).Mid) ((at_ ((at_ a_.Nodes i).Alts) k_1).Left) ((at_ ((at_ a_.Nodes i).Alts) k_1).Right) ((at_ ((at_ b.Nodes i).Alts) k_1).Rule) ((at_ ((at_ b.Nodes i).Alts) k_1).Mid) ((at_ ((at_ b.Nodes i).Alts) k_1).Left) ((at_ ((at_ b.Nodes i).Alts) k_1).Right)) rfl guard108) (d_done_seq (by kernel_rfl) ?_)))
 refine cC hL5 (fun hL5 => ?_) (fun hL5 => ?_)
 refine cR (oV vA (o_seq (c_ret ?_)))
 cases hL5
 obtain rfl := lr_ret hL1
 obtain rfl := lrf_ret hF
 exact sR
 refine c_skip (sat_wc (c_region (oV vM (oV vB (oV vA (o_nil ?_))))))
 exact lp [0, 0, 0, 0] [0, 1, 2, 3, 4, 5] fun a w hs => ⟨IntKind.wrap .i64 (k_1 + 1), hL5, hs⟩
 refine c_exit0 ?_
 cases hL5
 exact sK [0, 0, 0, 0] [0, 1, 2, 3, 4, 5] (hN5 k_1 rfl)
 intro d5 hd
 subst hd
 replace hL1 := lr_done hL1
 exact sK [0, 0, 0, 0] [0, 1, 2, 3, 4, 5] (hN2 d5 A7 L7 C7 A8 L8 C8 A9 L9 C9 A10 L10 C10 b5 b6 hL1)
 intro k_ A3 L3 C3 A4 L4 C4 A5 L5 C5 A6 L6 C6 b3 b4 hL1
 unfold F.ref08.SameForest_j2 at hL1
 refine sat_wc (c_region (oV vM (oV vB (oV vA (o_nil ?_)))))
 exact lp [0, 0] [0, 1] fun a w hs => ⟨IntKind.wrap .i64 (i + 1), hL1, hs⟩
 refine c_exit0 ?_
 cases hL1
 exact sK [0, 0] [0, 1] (hN1 () rfl)
 intro d1 hd
 subst hd
 replace hF := lrf_done hF
 refine sat_wc (cR (oV vA (o_seq (c_ret ?_))))
 cases hF
 exact sR
theorem tri25 {k : Nat} {f_ : Forest} {r : Int × Int} (hF : F.forest.Size k f_ = some r) :
    Tri Try.prog 25 [.agg #[iI f_.Root, sl A1 L1 C1]] [] [fS A1 L1 C1 7 eFNode f_.Nodes] (oR (.tuple #[iI r.1, iI r.2])) := by
 unfold F.forest.Size at hF
 refine tri_intro (n := 24) Try.func25 rfl Try.ntmps25 rfl fun w X => cR (o_box rfl rfl rfl fun b => oV vA (oV vA (o_seq (cR (oV vA (o_seq (c_seq (cR ((fD 1) (oV (vL 0 ty51) ?_))))))))))
 refine oV (v_lenS (enc := eFNode) f_.Nodes sl51 rfl (.f 0 rfl)) (oV vM (o_seq ?_))
 obtain ⟨o1, ho1, hF⟩ := bd hF
 refine cT (fun E H Φ N' => Sat E [(0, .agg #[iI f_.Root, sl A1 L1 C1]), (1, pt b), (2, iI 0), (3, iI 0), (4, iI o1), (8, sl A1 L1 C1)] H Φ N') (fun N1 hN1 => ?_) ?_
 refine c_block ?_
 refine cL (fun E H Φ j a w => ∃ (n : Int) (t10 : Int), F.forest.Size_l1 f_ j n t10 = some o1 ∧ St E [(0, .agg #[iI f_.Root, sl A1 L1 C1]), (1, pt b), (2, iI 0), (3, iI 0), (4, iI n), (8, sl A1 L1 C1), (9, iI (f_.Nodes.length : Int)), (10, iI t10)] H Φ a w) k ?_ ?_
 exact lq [0] [0] fun a w hs => ⟨0, 0, ho1, hs⟩
 rintro j a w ⟨n, t10, hL1, hs⟩
 rcases j with _ | j
 cases hL1
 refine wc_app hs ?_
 unfold F.forest.Size_l1 at hL1
 refine cR (oV vB (o_seq (c_seq ?_)))
 refine cC hL1 (fun hL1 => ?_) (fun hL1 => ?_)
 refine c_skip (sat_wc (c_seq (c_block (cR (ite_some hL1 fun h2 hL1 => oV (v_indexAddr_s (xs := f_.Nodes) (enc := eFNode) sl51 rfl rfl (.f 0 rfl) h2) (o_load_s (xs := f_.Nodes) (enc := eFNode) ty62 rfl (.f 0 rfl) h2 rfl rfl rfl rfl rfl rfl ?_))))))
 intro A2 L2 C2 A3 L3 C3
 refine o_alloc zero62 rfl rfl fun b1 => (sT 0 ty62) (o_seq (c_region (oV vM ((fD 6) (oV (vL 0 ty60) ?_)))))
 refine oV (v_lenS (enc := eAlt) ((at_ f_.Nodes t10).Alts) sl60 rfl (.f 1 rfl)) (oV vB (oV vA (o_nil (sat_wc (c_region (oV vB (oV vM (o_nil ?_))))))))
 exact lp [1] [2] fun a w hs => ⟨IntKind.wrap .i64 (n + (((at_ f_.Nodes t10).Alts).length : Int)), IntKind.wrap .i64 (t10 + 1), hL1, hs⟩
 refine c_exit0 ?_
 cases hL1
 exact sK [0] [0] (hN1)
 refine sat_wc (cR ((fD 1) (oV (vL 0 ty51) (oV (v_lenS (enc := eFNode) f_.Nodes sl51 rfl (.f 0 rfl)) (oV vM (oV vA (oV vA (o_seq (c_ret ?_)))))))))
 cases hF
 refine s_ret2 rfl (r_tmp rfl) (r_tmp rfl) fun a w hs => fin_sel hs [] ⟨rfl, rfl, rfl⟩ rfl sub_nil
theorem tri8 {k : Nat} {g_ : Gram} {w__ : List Int} {r : Bool} (hF : F.law08.ForestBuilds k g_ w__ = some r) :
    Tri Try.prog 8 [.agg (vGram g_ A1 L1 C1).toArray, sl A2 L2 C2] [] [fS A1 L1 C1 2 eRule g_.Rules, fS A2 L2 C2 1 eU8 w__] (oR (bV r)) := by
 unfold F.law08.ForestBuilds at hF
 refine tri_intro (n := 72) Try.func8 rfl Try.ntmps8 rfl fun w X => cR (o_box rfl rfl rfl fun b => oV vA (o_seq (c_seq (cR (oV (vL 0 ty24) (oV vM ?_))))))
 obtain ⟨v_, h1, hF⟩ := bd hF
 refine o_callSB call11 rfl (lent_f 0 rfl (lent_f 1 rfl lent_nil)) (tri11 h1 :) rfl (o_seq ?_)
 refine cC hF (fun hF => ?_) (fun hF => ?_)
 refine cR ?_
 obtain ⟨v_1, h3, hF⟩ := bd hF
 refine o_callSB call12 rfl lent_nil (tri12 h3 :) rfl (oV vA (o_seq (c_ret ?_)))
 cases hF
 exact sR
 refine c_skip (sat_wc (cR (oV (vL 0 ty24) (oV vM ?_))))
 obtain ⟨v_2, h4, hF⟩ := bd hF
 refine o_call0 call22 rfl (subs [0, 1] rfl) (tri22 h4 :) rfl ?_
 rintro _ _ _ ⟨A3, L3, C3, rfl, rfl, rfl⟩
 refine oV vM (oV vX (oV vX (o_alloc zero53 rfl rfl ?_)))
 intro b1
 refine (sT 0 ty53) (oV vA (o_seq (cR (oV (vL 1 ty24) (oV vM ?_)))))
 obtain ⟨v_3, h5, hF⟩ := bd hF
 refine o_call0 call23 rfl (subs [1, 2] rfl) (tri23 h5 :) rfl ?_
 rintro _ _ _ ⟨A4, L4, C4, rfl, rfl, rfl⟩
 refine oV vM (oV vX (oV vX (o_alloc zero53 rfl rfl ?_)))
 intro b2
 refine (sT 0 ty53) (oV vA (o_seq (c_seq (cR (oV vM (oV vM (oV vB (oV vM ?_))))))))
 refine oS 32 hF (fun hF => ?_) (fun hF => ?_)
 refine oF (oF (oF (oF (oV vPt (o_seq ?_)))))
 refine c_cond rfl (fun _ => ?_) (fun h => Bool.noConfusion h)
 refine cR (oV vA (o_seq (c_ret ?_)))
 cases hF
 exact sR
 refine oN (oV (vL 1 ty53) (oN (oV (vL 0 ty53) (oN ?_))))
 obtain ⟨v_4, h7, hF⟩ := bd hF
 refine o_callSB call24 rfl (lent_f 1 rfl (lent_f 0 rfl lent_nil)) (tri24 h7 :) rfl (oN (oV vN (oV vPf (o_seq ?_))))
 refine cC hF (fun hF => ?_) (fun hF => ?_)
 refine cR (oV vA (o_seq (c_ret ?_)))
 cases hF
 exact sR
 refine c_skip (sat_wc (cR (oV (vL 1 ty53) ?_)))
 obtain ⟨v_5, h9, hF⟩ := bd hF
 refine o_callSB call25 rfl (lent_f 1 rfl lent_nil) (tri25 h9 :) rfl (oV vM (oV vX (oV vX (oV vA (oV vA (o_seq (cR (oV vA (o_seq (c_seq (cR (oV vA (o_seq ?_)))))))))))))
 obtain ⟨o1, ho1, hF⟩ := bd hF
 refine cT (fun E H Φ N' => Sat E [(0, .agg (vGram g_ A1 L1 C1).toArray), (1, sl A2 L2 C2), (2, pt b), (4, bV false), (5, pt b1), (6, iI v_2.2), (7, pt b2), (8, iI v_3.2), (9, iI v_5.1), (10, iI v_5.2), (11, iI o1)] H [fS A1 L1 C1 2 eRule g_.Rules, fS A2 L2 C2 1 eU8 w__, fS A4 L4 C4 7 eFNode v_3.1.Nodes, fS A3 L3 C3 7 eFNode v_2.1.Nodes] N') (fun N1 hN1 => ?_) ?_
 refine c_block ?_
 refine cL (fun E H Φ j a w => ∃ (ways : Int) (i : Int), F.law08.ForestBuilds_l1 v_3 j ways i = some o1 ∧ St E [(0, .agg (vGram g_ A1 L1 C1).toArray), (1, sl A2 L2 C2), (2, pt b), (4, bV false), (5, pt b1), (6, iI v_2.2), (7, pt b2), (8, iI v_3.2), (9, iI v_5.1), (10, iI v_5.2), (11, iI ways), (12, iI i)] H [fS A1 L1 C1 2 eRule g_.Rules, fS A2 L2 C2 1 eU8 w__, fS A4 L4 C4 7 eFNode v_3.1.Nodes, fS A3 L3 C3 7 eFNode v_2.1.Nodes] a w) k ?_ ?_
 exact lq [0, 0, 0] [2, 3, 0, 1] fun a w hs => ⟨0, 0, ho1, hs⟩
 rintro j a w ⟨ways, i, hL1, hs⟩
 rcases j with _ | j
 cases hL1
 refine wc_app hs ?_
 unfold F.law08.ForestBuilds_l1 at hL1
 refine c_seq (cR (oV vM ((fD 1) (oV (vL 0 ty51) (oV (v_lenS (enc := eFNode) v_3.1.Nodes sl51 rfl (.f 2 rfl)) (oV vB (o_seq ?_)))))))
 refine cC hL1 (fun hL1 => ?_) (fun hL1 => ?_)
 refine c_skip (sat_wc (c_seq (c_block (c_region (oV vM ((fD 1) (oV (vL 0 ty51) (oV vM (ite_some hL1 ?_)))))))))
 intro h11 hL1
 refine oV (v_indexAddr_s (xs := v_3.1.Nodes) (enc := eFNode) sl51 rfl rfl (.f 2 rfl) h11) (oV (v_fieldAddr (v := .pointer (some ⟨blkA A4, offA A4 + (Int.toNat i * 7 + 6), none⟩)) rfl (fun _ => by kernel_rfl)) (o_load_s (xs := v_3.1.Nodes) (enc := eFNode) ty60 rfl (.f 2 rfl) h11 rfl rfl rfl rfl rfl rfl ?_))
 intro A5 L5 C5
 refine oV (v_lenS (enc := eAlt) ((at_ v_3.1.Nodes i).Alts) sl60 rfl (.f 0 rfl)) (oV vB (oV vA ?_))
 refine o_nil (sat_wc (c_region (oV vM (oV vB (oV vA (o_nil ?_))))))
 exact lp [0, 0, 0] [1, 2, 3, 4] fun a w hs => ⟨IntKind.wrap .i64 (ways + (((at_ v_3.1.Nodes i).Alts).length : Int)), IntKind.wrap .i64 (i + 1), hL1, hs⟩
 refine c_exit0 ?_
 cases hL1
 exact sK [0, 0, 0] [0, 1, 2, 3] (hN1)
 refine sat_wc (cR ?_)
 obtain ⟨v_6, h12, hF⟩ := bd hF
 refine o_callSB call12 rfl lent_nil (tri12 h12 :) rfl (oV vM ?_)
 refine oS 60 hF (fun hF => ?_) (fun hF => ?_)
 refine oN (oV vM (oN ((fD 1) (oN (oV (vL 0 ty51) (oN (oV (v_lenS (enc := eFNode) v_3.1.Nodes sl51 rfl (.f 2 rfl)) (oN (oV vB (oV vPt (oV vM ?_)))))))))))
 refine oS 67 hF (fun hF => ?_) (fun hF => ?_)
 refine oN (oV vM (oN (oV vM (oN (oV vB (oV vPt (oV vA (o_seq (c_ret ?_)))))))))
 cases hF
 exact sR
 refine oF (oF (oF (oV vPf (oV vA (o_seq (c_ret ?_))))))
 cases hF
 exact sR
 refine oF (oF (oF (oF (oF (oV vPf (oV vM (oF (oF (oF (oV vPf (oV vA (o_seq (c_ret ?_)))))))))))))
 cases hF
 exact sR
end Go.Vc
