import Derived.Test.YtdbnoblklhgdoaaGreatDoorW2
set_option linter.unusedVariables false
set_option linter.unusedSimpArgs false
set_option maxRecDepth 8000
set_option maxHeartbeats 2000000
namespace Go.Vc
open Go Go.Proofs
variable {A1 A2 A3 A4 A5 A6 A7 A8 A9 A10 A11 A12 A13 A14 A15 A16 A17 A18 A19 A20 A21 A22 A23 A24 A25 A26 A27 A28 A29 A30 A31 A32 A33 A34 A35 A36 A37 A38 A39 : OA} {L1 C1 L2 C2 L3 C3 L4 C4 L5 C5 L6 C6 L7 C7 L8 C8 L9 C9 L10 C10 L11 C11 L12 C12 L13 C13 L14 C14 L15 C15 L16 C16 L17 C17 L18 C18 L19 C19 L20 C20 L21 C21 L22 C22 L23 C23 L24 C24 L25 C25 L26 C26 L27 C27 L28 C28 L29 C29 L30 C30 L31 C31 L32 C32 L33 C33 L34 C34 L35 C35 L36 C36 L37 C37 L38 C38 L39 C39 : Nat}
theorem tri31_B (k : Nat) (g31 : List Item → Option (List UInt8))
    (hg31 : ∀ {l__ : List Item} {A1 : OA} {L1 C1 : Nat} {r : Tx}, g31 l__ = some r → Tri Tryz.prog 31 [sl A1 L1 C1] [] [gf10 1, fS A1 L1 C1 4 eItem l__] (oR (sV r))) {l__ : List Item} {A1 : OA} {L1 C1 : Nat} {r : Tx} (hF : F.defs.itemsText_B k g31 l__ = some r) :
    Tri Tryz.prog 31 [sl A1 L1 C1] [] [gf10 1, fS A1 L1 C1 4 eItem l__] (oR (sV r)) := by
 unfold F.defs.itemsText_B at hF
 refine tri_intro (n := 64) Tryz.func31 rfl Tryz.ntmps31 rfl fun w X => cR (oV vA (o_seq (cR (oV vA (o_seq (c_seq (cR (oV vM (oV (v_lenS (enc := eItem) l__ sl62 rfl (.f 1 rfl)) (oV vM (o_seq ?_)))))))))))
 obtain ⟨o1, ho1, hF⟩ := bd hF
 refine cT (fun E H Φ N' => Sat E [(0, sl A1 L1 C1), (2, sV ([] : Tx)), (3, sV o1), (6, sl A1 L1 C1)] [] Φ N') (fun N1 hN1 => ?_) ?_
 refine c_block ?_
 refine cL (fun E H Φ j a w => ∃ (out_ : Tx) (t8 : Int), F.defs.itemsText_l1 k l__ g31 j out_ t8 = some o1 ∧ St E [(0, sl A1 L1 C1), (2, sV ([] : Tx)), (3, sV out_), (6, sl A1 L1 C1), (7, iI (l__.length : Int)), (8, iI t8)] [] Φ a w) k ?_ ?_
 exact lq [] [0, 1] fun a w hs => ⟨([] : Tx), 0, ho1, hs⟩
 rintro j a w ⟨out_, t8, hL1, hs⟩
 rcases j with _ | j
 cases hL1
 refine wc_app hs ?_
 unfold F.defs.itemsText_l1 at hL1
 refine cR (oV vB (o_seq (c_seq ?_)))
 refine cC hL1 (fun hL1 => ?_) (fun hL1 => ?_)
 refine c_skip (sat_wc (c_seq ?_))
 refine c_cut (fun E N' => ∀ (out_1 : Tx) (A2 : OA) (L2 C2 : Nat) (b : Nat), F.defs.itemsText_j2 (F.defs.itemsText_l1 k l__ g31 j) t8 out_1 = some o1 → Sat E [(0, sl A1 L1 C1), (2, sV ([] : Tx)), (3, sV out_1), (5, pt b), (6, sl A1 L1 C1), (7, iI (l__.length : Int)), (8, iI t8), (13, iI ((at_ l__ t8).Kind))] [.box b 124 (vItem (at_ l__ t8) A2 L2 C2)] [gf10 1, fS A1 L1 C1 4 eItem l__, fS A2 L2 C2 4 eItem ((at_ l__ t8).Items)] N') (fun N2 hN2 => ?_) ?_
 refine c_block (cR (ite_some hL1 fun h2 hL1 => oV (v_indexAddr_s (xs := l__) (enc := eItem) sl62 rfl rfl (.f 1 rfl) h2) (o_load_s (ds := [.int .i64 ((at_ l__ t8).Kind), .str ((at_ l__ t8).Text), .int .i64 ((at_ l__ t8).N_), .slice 4 (((at_ l__ t8).Items).map eItem)]) (xs := l__) (enc := eItem) ty124 rfl (.f 1 rfl) h2 (by simp only [eItem_eq] <;> rfl) rfl rfl rfl rfl rfl ?_)))
 intro A3 L3 C3
 refine o_alloc zero124 rfl rfl fun b1 => (sT 0 ty124) (o_seq (cR ((fD 0) (oV (vL 0 ty3) (o_seq ?_)))))
 refine cT (fun E H Φ N' => ∀ (out_2 : Tx), F.defs.itemsText_j3 (F.defs.itemsText_l1 k l__ g31 j) t8 out_2 = some o1 → Sat E [(0, sl A1 L1 C1), (2, sV ([] : Tx)), (3, sV out_2), (5, pt b1), (6, sl A1 L1 C1), (7, iI (l__.length : Int)), (8, iI t8), (13, iI ((at_ l__ t8).Kind))] H [gf10 1, fS A1 L1 C1 4 eItem l__, fS A3 L3 C3 4 eItem ((at_ l__ t8).Items)] N') (fun N3 hN3 => ?_) ?_
 refine c_block (cR (oV vB (oV vA (o_seq ?_))))
 refine cT (fun E H Φ N' => ∀ (out_3 : Tx), F.defs.itemsText_j4 (F.defs.itemsText_l1 k l__ g31 j) t8 out_3 = some o1 → Sat E [(0, sl A1 L1 C1), (2, sV ([] : Tx)), (3, sV out_3), (5, pt b1), (6, sl A1 L1 C1), (7, iI (l__.length : Int)), (8, iI t8), (13, iI ((at_ l__ t8).Kind))] H [gf10 1, fS A1 L1 C1 4 eItem l__, fS A3 L3 C3 4 eItem ((at_ l__ t8).Items)] N') (fun N4 hN4 => ?_) ?_
 refine cC hL1 (fun hL1 => ?_) (fun hL1 => ?_)
 refine c_region (oV vM ((fD 1) (oV (vL 0 ty9) (o_strBytes Tryz.underlying9 Tryz.underlying67 Tryz.underlying5 rfl rfl ?_))))
 intro A4 L4 C4
 refine ?_
 obtain ⟨v, h4, hL1⟩ := bd hL1
 refine o_callSB call72 rfl (lent_f 0 rfl lent_nil) (tri72 h4 :) rfl (ite_some hL1 fun h5 hL1 => oV (vS h5) (ite_some hL1 ?_))
 intro h6 hL1
 refine oV (vS h6) (oV vA (o_nil ?_))
 exact sK [0] [2, 3, 1] (hN4 (out_ ++ (([32] : Tx) ++ v)) hL1)
 refine cR (oV vB (oV vA (o_seq ?_)))
 refine cT (fun E H Φ N' => ∀ (out_4 : Tx), F.defs.itemsText_j5 (F.defs.itemsText_l1 k l__ g31 j) t8 out_4 = some o1 → Sat E [(0, sl A1 L1 C1), (2, sV ([] : Tx)), (3, sV out_4), (5, pt b1), (6, sl A1 L1 C1), (7, iI (l__.length : Int)), (8, iI t8), (13, iI ((at_ l__ t8).Kind))] H [gf10 1, fS A1 L1 C1 4 eItem l__, fS A3 L3 C3 4 eItem ((at_ l__ t8).Items)] N') (fun N5 hN5 => ?_) ?_
 refine cC hL1 (fun hL1 => ?_) (fun hL1 => ?_)
 refine c_region (oV vM ((fD 2) (oV (vL 0 ty3) ?_)))
 obtain ⟨v1, h8, hL1⟩ := bd hL1
 refine o_callSB call73 rfl (lent_f 1 rfl lent_nil) (tri73 ((at_ l__ t8).N_) v1 h8) rfl (ite_some hL1 fun h9 hL1 => oV (vS h9) (ite_some hL1 ?_))
 intro h10 hL1
 refine oV (vS h10) (oV vA (o_nil ?_))
 exact sK [0] [1, 2, 0] (hN5 (out_ ++ (([32] : Tx) ++ v1)) hL1)
 refine cR (oV vB (oV vA (o_seq ?_)))
 refine cT (fun E H Φ N' => ∀ (out_5 : Tx), F.defs.itemsText_j6 (F.defs.itemsText_l1 k l__ g31 j) t8 out_5 = some o1 → Sat E [(0, sl A1 L1 C1), (2, sV ([] : Tx)), (3, sV out_5), (5, pt b1), (6, sl A1 L1 C1), (7, iI (l__.length : Int)), (8, iI t8), (13, iI ((at_ l__ t8).Kind))] H [gf10 1, fS A1 L1 C1 4 eItem l__, fS A3 L3 C3 4 eItem ((at_ l__ t8).Items)] N') (fun N6 hN6 => ?_) ?_
 refine cC hL1 (fun hL1 => ?_) (fun hL1 => ?_)
 refine c_region (oV vM (ite_some hL1 ?_))
 intro h12 hL1
 refine oV (vS h12) (oV vA (o_nil ?_))
 exact sK [0] [1, 2, 0] (hN6 (out_ ++ ([32, 95] : Tx)) hL1)
 refine cR (oV vB (oV vA (o_seq ?_)))
 refine cT (fun E H Φ N' => ∀ (out_6 : Tx), F.defs.itemsText_j7 (F.defs.itemsText_l1 k l__ g31 j) t8 out_6 = some o1 → Sat E [(0, sl A1 L1 C1), (2, sV ([] : Tx)), (3, sV out_6), (5, pt b1), (6, sl A1 L1 C1), (7, iI (l__.length : Int)), (8, iI t8), (13, iI ((at_ l__ t8).Kind))] H [gf10 1, fS A1 L1 C1 4 eItem l__, fS A3 L3 C3 4 eItem ((at_ l__ t8).Items)] N') (fun N7 hN7 => ?_) ?_
 refine cC hL1 (fun hL1 => ?_) (fun hL1 => ?_)
 refine c_region (oV vM (ite_some hL1 ?_))
 intro h14 hL1
 refine oV (vS h14) (oV vA (o_nil ?_))
 exact sK [0] [1, 2, 0] (hN7 (out_ ++ ([32, 47] : Tx)) hL1)
 refine cR (oV vB (oV vA (o_seq ?_)))
 refine cT (fun E H Φ N' => ∀ (out_7 : Tx), F.defs.itemsText_j8 (F.defs.itemsText_l1 k l__ g31 j) t8 out_7 = some o1 → Sat E [(0, sl A1 L1 C1), (2, sV ([] : Tx)), (3, sV out_7), (5, pt b1), (6, sl A1 L1 C1), (7, iI (l__.length : Int)), (8, iI t8), (13, iI ((at_ l__ t8).Kind))] H [gf10 1, fS A1 L1 C1 4 eItem l__, fS A3 L3 C3 4 eItem ((at_ l__ t8).Items)] N') (fun N8 hN8 => ?_) ?_
 refine cC hL1 (fun hL1 => ?_) (fun hL1 => ?_)
 refine c_draw (n := 13) [0] mixed rfl rfl (dv 0 rfl vM (dv 1 rfl (vF 2) (dv 2 rfl (vL 0 ty3) (dv 6 rfl (vF 3) (dv 7 rfl (vL 0 ty62) (dO 3 rfl ?_))))))
 obtain ⟨v2, h16, hL1⟩ := bd hL1
 refine o_callSB call73 rfl (lent_f 1 rfl lent_nil) (tri73 ((at_ l__ t8).N_) v2 h16) rfl (dN [0] 0 (ite_some hL1 ?_))
 intro h17 hL1
 refine dv 4 rfl (vS h17) (ite_some hL1 ?_)
 intro h18 hL1
 refine dv 5 rfl (vS h18) (dO 8 rfl ?_)
 obtain ⟨v3, h19, hL1⟩ := bd hL1
 refine o_callSB call31 rfl (lent_f 1 rfl (lent_f 0 rfl lent_nil)) (hg31 h19 :) rfl (dN [0] 0 (ite_some hL1 ?_))
 intro h20 hL1
 refine dv 9 rfl (vS h20) (ite_some hL1 ?_)
 intro h21 hL1
 refine dv 10 rfl (vS h21) (ite_some hL1 ?_)
 intro h22 hL1
 refine dv 11 rfl (vS h22) (dv 12 rfl vA (dD ?_))
 exact sK [0] [1, 2, 0] (hN8 (out_ ++ ((((([32, 110, 101, 115, 116, 32] : Tx) ++ v2) ++ ([32, 40] : Tx)) ++ v3) ++ ([32, 41] : Tx))) hL1)
 refine cR (oV vB (oV vA (o_seq ?_)))
 refine cT (fun E H Φ N' => ∀ (out_8 : Tx), F.defs.itemsText_j9 (F.defs.itemsText_l1 k l__ g31 j) t8 out_8 = some o1 → Sat E [(0, sl A1 L1 C1), (2, sV ([] : Tx)), (3, sV out_8), (5, pt b1), (6, sl A1 L1 C1), (7, iI (l__.length : Int)), (8, iI t8), (13, iI ((at_ l__ t8).Kind))] H [gf10 1, fS A1 L1 C1 4 eItem l__, fS A3 L3 C3 4 eItem ((at_ l__ t8).Items)] N') (fun N9 hN9 => ?_) ?_
 refine cC hL1 (fun hL1 => ?_) (fun hL1 => ?_)
 refine c_region (oV vM ((fD 3) (oV (vL 0 ty62) ?_)))
 obtain ⟨v4, h24, hL1⟩ := bd hL1
 refine o_callSB call31 rfl (lent_f 1 rfl (lent_f 0 rfl lent_nil)) (hg31 h24 :) rfl (ite_some hL1 fun h25 hL1 => oV (vS h25) (ite_some hL1 ?_))
 intro h26 hL1
 refine oV (vS h26) (ite_some hL1 ?_)
 intro h27 hL1
 refine oV (vS h27) (oV vA (o_nil ?_))
 exact sK [0] [1, 2, 0] (hN9 (out_ ++ ((([32, 103, 114, 111, 117, 112, 32, 40] : Tx) ++ v4) ++ ([32, 41] : Tx))) hL1)
 refine c_skip ?_
 exact sK [0] [1, 2, 0] (hN9 out_ hL1)
 intro out_8 hL1
 unfold F.defs.itemsText_j9 at hL1
 exact sK [0] [0, 1, 2] (hN8 out_8 hL1)
 intro out_7 hL1
 unfold F.defs.itemsText_j8 at hL1
 exact sK [0] [0, 1, 2] (hN7 out_7 hL1)
 intro out_6 hL1
 unfold F.defs.itemsText_j7 at hL1
 exact sK [0] [0, 1, 2] (hN6 out_6 hL1)
 intro out_5 hL1
 unfold F.defs.itemsText_j6 at hL1
 exact sK [0] [0, 1, 2] (hN5 out_5 hL1)
 intro out_4 hL1
 unfold F.defs.itemsText_j5 at hL1
 exact sK [0] [0, 1, 2] (hN4 out_4 hL1)
 intro out_3 hL1
 unfold F.defs.itemsText_j4 at hL1
 exact sK [0] [0, 1, 2] (hN3 out_3 hL1)
 intro out_2 hL1
 unfold F.defs.itemsText_j3 at hL1
 exact sK [0] [0, 1, 2] (hN2 out_2 A3 L3 C3 b1 hL1)
 intro out_1 A2 L2 C2 b hL1
 unfold F.defs.itemsText_j2 at hL1
 refine sat_wc (c_region (oV vB (oV vM (o_nil ?_))))
 exact lp [] [0, 1] fun a w hs => ⟨out_1, IntKind.wrap .i64 (t8 + 1), hL1, hs⟩
 refine c_exit0 ?_
 cases hL1
 exact sK [] [0, 1] (hN1)
 refine sat_wc (cR (oV vM (oV vA (o_seq (c_ret ?_)))))
 cases hF
 exact sR
theorem tri31 (k : Nat) : (∀ {l__ : List Item} {A1 : OA} {L1 C1 : Nat} {r : Tx}, F.defs.itemsText k l__ = some r → Tri Tryz.prog 31 [sl A1 L1 C1] [] [gf10 1, fS A1 L1 C1 4 eItem l__] (oR (sV r))) := by
 induction k with
 | zero => exact fun h => nomatch (show none = some _ from h)
 | succ k ih => exact tri31_B k _ ih
theorem tri13 {k : Nat} {d_ : Def} {r : List UInt8 × Int} (hF : F.defs.Print k d_ = some r) :
    Tri Tryz.prog 13 [.agg (vDef d_ A1 L1 C1 A2 L2 C2 A3 L3 C3 A4 L4 C4 A5 L5 C5).toArray] [] [gf10 1, fS A1 L1 C1 5 eProd d_.Prods, fS A2 L2 C2 1 (eSl 2 eGroup) d_.Chains, fS A3 L3 C3 5 eFollow d_.Follows, fS A4 L4 C4 2 eReject d_.Rejects, fS A5 L5 C5 2 eBox d_.Boxes] (oR (.tuple #[sV r.1, iI r.2])) := by
 unfold F.defs.Print at hF
 refine tri_intro (n := 159) Tryz.func13 rfl Tryz.ntmps13 rfl fun w X => cR (o_box rfl rfl rfl fun b => oV vA (oV vA (o_seq (c_seq (cR (oV (vL 0 ty28) ?_))))))
 obtain ⟨v, h1, hF⟩ := bd hF
 refine o_callSB call17 rfl (lent_f 1 rfl (lent_f 2 rfl (lent_f 3 rfl (lent_f 4 rfl (lent_f 5 rfl lent_nil))))) (tri17 h1 :) rfl (oV vN (o_seq ?_))
 refine cC hF (fun hF => ?_) (fun hF => ?_)
 refine cR (oV vA (oV vA (o_seq (c_ret ?_))))
 cases hF
 refine s_ret2 rfl (r_tmp rfl) (r_tmp rfl) fun a w hs => fin_sel hs [] ⟨rfl, rfl, rfl⟩ rfl sub_nil
 refine c_skip (sat_wc (cR (o_alloc zero69 rfl rfl fun b1 => o_seq (cR (oV (v_makeFunc (vs := [pt b1]) rfl) (oV vA (o_seq (c_seq (cR ((fD 0) (oV (vL 1 ty9) ?_)))))))))))
 refine oV (v_strne rfl rfl) (o_seq ?_)
 refine cT (fun E H Φ N' => ∀ (addr_ : Bool) (buf_ : List Int) (A6 : OA) (L6 C6 : Nat), F.defs.Print_j1 k d_ addr_ buf_ = some r → Sat E [(0, .agg (vDef d_ A1 L1 C1 A2 L2 C2 A3 L3 C3 A4 L4 C4 A5 L5 C5).toArray), (1, pt b), (2, sV ([] : Tx)), (3, iI 0), (4, pt b1), (5, .func (.func 26) #[] #[pt b1])] [.box b1 69 [bptr b1 addr_, sl A6 L6 C6], .box b 28 (vDef d_ A1 L1 C1 A2 L2 C2 A3 L3 C3 A4 L4 C4 A5 L5 C5), rW A6 L6 C6 5 1 eU8 buf_] Φ N') (fun N12 hN12 => ?_) ?_
 refine cC hF (fun hF => ?_) (fun hF => ?_)
 refine c_region (oV vM ((fD 0) (oV (vL 1 ty9) (ite_some hF ?_))))
 intro h46 hF
 refine oV (vS h46) (ite_some hF ?_)
 intro h47 hF
 refine oV (vS h47) ?_
 obtain ⟨v12, h48, hF⟩ := bd hF
 refine o_st (st_nilrow 5 1) (o_call [1, 0] call26 (cap := #[pt b1]) rfl rfl rfl sub_nil (by exact (tri26 h48 :)) rfl ?_)
 rintro _ _ _ ⟨A27, L27, C27, rfl, rfl, rfl⟩
 refine o_nil ?_
 exact sK [0, 1, 0] [0, 1, 2, 3, 4, 5] (hN12 v12.2.addr v12.2.buf A27 L27 C27 hF)
 refine c_skip (s_st (st_nilrow 5 1) ?_)
 exact sK [1, 1, 0] [0, 1, 2, 3, 4, 5] (hN12 false ([] : List Int) none 0 0 hF)
 intro addr_ buf_ A6 L6 C6 hF
 unfold F.defs.Print_j1 at hF
 refine sat_wc (c_seq (cR ((fD 1) (oV (vL 1 ty9) (oV (v_strne rfl rfl) (o_seq ?_))))))
 refine cT (fun E H Φ N' => ∀ (addr_1 : Bool) (buf_1 : List Int) (A7 : OA) (L7 C7 : Nat), F.defs.Print_j2 k d_ addr_1 buf_1 = some r → Sat E [(0, .agg (vDef d_ A1 L1 C1 A2 L2 C2 A3 L3 C3 A4 L4 C4 A5 L5 C5).toArray), (1, pt b), (2, sV ([] : Tx)), (3, iI 0), (4, pt b1), (5, .func (.func 26) #[] #[pt b1])] [.box b1 69 [bptr b1 addr_1, sl A7 L7 C7], .box b 28 (vDef d_ A1 L1 C1 A2 L2 C2 A3 L3 C3 A4 L4 C4 A5 L5 C5), rW A7 L7 C7 5 1 eU8 buf_1] Φ N') (fun N12 hN12 => ?_) ?_
 refine cC hF (fun hF => ?_) (fun hF => ?_)
 refine c_region (oV vM ((fD 1) (oV (vL 1 ty9) (ite_some hF ?_))))
 intro h42 hF
 refine oV (vS h42) (ite_some hF ?_)
 intro h43 hF
 refine oV (vS h43) ?_
 obtain ⟨v11, h44, hF⟩ := bd hF
 refine o_call [0, 1] call26 (cap := #[pt b1]) rfl rfl rfl sub_nil (by exact (tri26 h44 :)) rfl ?_
 rintro _ _ _ ⟨A26, L26, C26, rfl, rfl, rfl⟩
 refine o_nil ?_
 exact sK [0, 1, 0] [0, 1, 2, 3, 4, 5] (hN12 v11.2.addr v11.2.buf A26 L26 C26 hF)
 refine c_skip ?_
 exact sK [0, 0, 0] [0, 1, 2, 3, 4, 5] (hN12 addr_ buf_ A6 L6 C6 hF)
 intro addr_1 buf_1 A7 L7 C7 hF
 unfold F.defs.Print_j2 at hF
 refine sat_wc (cR (oV vA (o_seq (c_seq (cR (oV vA (o_seq ?_)))))))
 obtain ⟨o3, ho3, hF⟩ := bd hF
 refine cT (fun E H Φ N' => ∀ (A9 : OA) (L9 C9 : Nat), Sat E [(0, .agg (vDef d_ A1 L1 C1 A2 L2 C2 A3 L3 C3 A4 L4 C4 A5 L5 C5).toArray), (1, pt b), (2, sV ([] : Tx)), (3, iI 0), (4, pt b1), (5, .func (.func 26) #[] #[pt b1]), (6, bV o3.1)] [.box b1 69 [bptr b1 o3.2.1, sl A9 L9 C9], .box b 28 (vDef d_ A1 L1 C1 A2 L2 C2 A3 L3 C3 A4 L4 C4 A5 L5 C5), rW A9 L9 C9 5 1 eU8 o3.2.2] Φ N') (fun N3 hN3 => ?_) ?_
 refine c_block ?_
 refine cL (fun E H Φ j a w => ∃ (ok_ : Bool) (i : Int) (addr_2 : Bool) (buf_2 : List Int) (A8 : OA) (L8 C8 : Nat), F.defs.Print_l3 k d_ j ok_ i addr_2 buf_2 = some o3 ∧ St E [(0, .agg (vDef d_ A1 L1 C1 A2 L2 C2 A3 L3 C3 A4 L4 C4 A5 L5 C5).toArray), (1, pt b), (2, sV ([] : Tx)), (3, iI 0), (4, pt b1), (5, .func (.func 26) #[] #[pt b1]), (6, bV ok_), (7, iI i)] [.box b1 69 [bptr b1 addr_2, sl A8 L8 C8], .box b 28 (vDef d_ A1 L1 C1 A2 L2 C2 A3 L3 C3 A4 L4 C4 A5 L5 C5), rW A8 L8 C8 5 1 eU8 buf_2] Φ a w) k ?_ ?_
 exact lq [0, 0, 0] [0, 1, 2, 3, 4, 5] fun a w hs => ⟨true, 0, addr_1, buf_1, A7, L7, C7, ho3, hs⟩
 rintro j a w ⟨ok_, i, addr_2, buf_2, A8, L8, C8, hL3, hs⟩
 rcases j with _ | j
 cases hL3
 refine wc_app hs ?_
 unfold F.defs.Print_l3 at hL3
 refine c_seq (c_seq ?_)
 refine cT (fun E H Φ N' => ∀ (t41 : Bool), F.defs.Print_j4 k i d_ addr_2 buf_2 (F.defs.Print_l3 k d_ j) ok_ t41 = some o3 → Sat E [(0, .agg (vDef d_ A1 L1 C1 A2 L2 C2 A3 L3 C3 A4 L4 C4 A5 L5 C5).toArray), (1, pt b), (2, sV ([] : Tx)), (3, iI 0), (4, pt b1), (5, .func (.func 26) #[] #[pt b1]), (6, bV ok_), (7, iI i), (41, bV t41)] H Φ N') (fun N4 hN4 => ?_) ?_
 refine c_region (oV vM ((fD 2) (oV (vL 1 ty22) (oV (v_lenS (enc := eProd) d_.Prods sl22 rfl (.f 1 rfl)) (oV vB (oV vM ?_))))))
 refine oS 39 hL3 (fun hL3 => ?_) (fun hL3 => ?_)
 refine oN (oV vM (oV vPt (o_nil ?_)))
 exact sK [0, 0, 0] [0, 1, 2, 3, 4, 5] (hN4 ok_ hL3)
 refine oF (oV vPf (o_nil ?_))
 exact sK [0, 0, 0] [0, 1, 2, 3, 4, 5] (hN4 false hL3)
 intro t41 hL3
 unfold F.defs.Print_j4 at hL3
 refine sat_wc ?_
 refine cC hL3 (fun hL3 => ?_) (fun hL3 => ?_)
 refine c_skip (sat_wc (c_seq (c_block (c_region (oV vM ((fD 2) (oV (vL 1 ty22) (oV vM (ite_some hL3 ?_)))))))))
 intro h4 hL3
 refine oV (v_indexAddr_s (xs := d_.Prods) (enc := eProd) sl22 rfl rfl (.f 1 rfl) h4) (o_load_s (xs := d_.Prods) (enc := eProd) ty57 rfl (.f 1 rfl) h4 rfl rfl rfl rfl rfl rfl ?_)
 intro A10 L10 C10
 refine ?_
 obtain ⟨v1, h5, hL3⟩ := bd hL3
 refine o_callSB call29 rfl (lent_f 0 rfl lent_nil) (tri29 h5 :) rfl ?_
 obtain ⟨v2, h6, hL3⟩ := bd hL3
 refine o_call [0, 1] call26 (cap := #[pt b1]) rfl rfl rfl sub_nil (by exact (tri26 h6 :)) rfl ?_
 rintro _ _ _ ⟨A11, L11, C11, rfl, rfl, rfl⟩
 refine oV vA (o_nil (sat_wc (c_region (oV vM (oV vB (oV vA (o_nil ?_)))))))
 exact lp [0, 1, 0] [1, 2, 3, 4, 5, 6] fun a w hs => ⟨v2.1, IntKind.wrap .i64 (i + 1), v2.2.addr, v2.2.buf, A11, L11, C11, hL3, hs⟩
 refine c_exit0 ?_
 cases hL3
 exact sK [0, 0, 0] [0, 1, 2, 3, 4, 5] (hN3 A8 L8 C8)
 intro A9 L9 C9
 refine sat_wc (c_seq (cR (oV vA (o_seq ?_))))
 obtain ⟨o5, ho5, hF⟩ := bd hF
 refine cT (fun E H Φ N' => ∀ (A13 : OA) (L13 C13 : Nat), Sat E [(0, .agg (vDef d_ A1 L1 C1 A2 L2 C2 A3 L3 C3 A4 L4 C4 A5 L5 C5).toArray), (1, pt b), (2, sV ([] : Tx)), (3, iI 0), (4, pt b1), (5, .func (.func 26) #[] #[pt b1]), (6, bV o5.1)] [.box b1 69 [bptr b1 o5.2.1, sl A13 L13 C13], .box b 28 (vDef d_ A1 L1 C1 A2 L2 C2 A3 L3 C3 A4 L4 C4 A5 L5 C5), rW A13 L13 C13 5 1 eU8 o5.2.2] Φ N') (fun N5 hN5 => ?_) ?_
 refine c_block ?_
 refine cL (fun E H Φ j a w => ∃ (ok_1 : Bool) (i1 : Int) (addr_3 : Bool) (buf_3 : List Int) (A12 : OA) (L12 C12 : Nat), F.defs.Print_l5 k d_ j ok_1 i1 addr_3 buf_3 = some o5 ∧ St E [(0, .agg (vDef d_ A1 L1 C1 A2 L2 C2 A3 L3 C3 A4 L4 C4 A5 L5 C5).toArray), (1, pt b), (2, sV ([] : Tx)), (3, iI 0), (4, pt b1), (5, .func (.func 26) #[] #[pt b1]), (6, bV ok_1), (8, iI i1)] [.box b1 69 [bptr b1 addr_3, sl A12 L12 C12], .box b 28 (vDef d_ A1 L1 C1 A2 L2 C2 A3 L3 C3 A4 L4 C4 A5 L5 C5), rW A12 L12 C12 5 1 eU8 buf_3] Φ a w) k ?_ ?_
 exact lq [0, 0, 0] [0, 1, 2, 3, 4, 5] fun a w hs => ⟨o3.1, 0, o3.2.1, o3.2.2, A9, L9, C9, ho5, hs⟩
 rintro j a w ⟨ok_1, i1, addr_3, buf_3, A12, L12, C12, hL5, hs⟩
 rcases j with _ | j
 cases hL5
 refine wc_app hs ?_
 unfold F.defs.Print_l5 at hL5
 refine c_seq (c_seq ?_)
 refine cT (fun E H Φ N' => ∀ (t59 : Bool), F.defs.Print_j6 k i1 d_ addr_3 buf_3 (F.defs.Print_l5 k d_ j) ok_1 t59 = some o5 → Sat E [(0, .agg (vDef d_ A1 L1 C1 A2 L2 C2 A3 L3 C3 A4 L4 C4 A5 L5 C5).toArray), (1, pt b), (2, sV ([] : Tx)), (3, iI 0), (4, pt b1), (5, .func (.func 26) #[] #[pt b1]), (6, bV ok_1), (8, iI i1), (59, bV t59)] H Φ N') (fun N6 hN6 => ?_) ?_
 refine c_region (oV vM ((fD 3) (oV (vL 1 ty23) (oV (v_lenS (enc := (eSl 2 eGroup)) d_.Chains sl23 rfl (.f 2 rfl)) (oV vB (oV vM ?_))))))
 refine oS 57 hL5 (fun hL5 => ?_) (fun hL5 => ?_)
 refine oN (oV vM (oV vPt (o_nil ?_)))
 exact sK [0, 0, 0] [0, 1, 2, 3, 4, 5] (hN6 ok_1 hL5)
 refine oF (oV vPf (o_nil ?_))
 exact sK [0, 0, 0] [0, 1, 2, 3, 4, 5] (hN6 false hL5)
 intro t59 hL5
 unfold F.defs.Print_j6 at hL5
 refine sat_wc ?_
 refine cC hL5 (fun hL5 => ?_) (fun hL5 => ?_)
 refine c_skip (sat_wc (c_seq (c_block (c_region (oV vM ((fD 3) (oV (vL 1 ty23) (oV vM (ite_some hL5 ?_)))))))))
 intro h9 hL5
 refine oV (v_indexAddr_s (xs := d_.Chains) (enc := (eSl 2 eGroup)) sl23 rfl rfl (.f 2 rfl) h9) (o_load_s (xs := d_.Chains) (enc := (eSl 2 eGroup)) ty58 rfl (.f 2 rfl) h9 rfl rfl rfl rfl rfl rfl ?_)
 intro A14 L14 C14
 refine ?_
 obtain ⟨v3, h10, hL5⟩ := bd hL5
 refine o_callSB call30 rfl (lent_f 0 rfl lent_nil) (tri30 h10 :) rfl ?_
 obtain ⟨v4, h11, hL5⟩ := bd hL5
 refine o_call [0, 1] call26 (cap := #[pt b1]) rfl rfl rfl sub_nil (by exact (tri26 h11 :)) rfl ?_
 rintro _ _ _ ⟨A15, L15, C15, rfl, rfl, rfl⟩
 refine oV vA (o_nil (sat_wc (c_region (oV vM (oV vB (oV vA (o_nil ?_)))))))
 exact lp [0, 1, 0] [1, 2, 3, 4, 5, 6] fun a w hs => ⟨v4.1, IntKind.wrap .i64 (i1 + 1), v4.2.addr, v4.2.buf, A15, L15, C15, hL5, hs⟩
 refine c_exit0 ?_
 cases hL5
 exact sK [0, 0, 0] [0, 1, 2, 3, 4, 5] (hN5 A12 L12 C12)
 intro A13 L13 C13
 refine sat_wc (c_seq (cR (oV vA (o_seq ?_))))
 obtain ⟨o7, ho7, hF⟩ := bd hF
 refine cT (fun E H Φ N' => ∀ (A17 : OA) (L17 C17 : Nat), Sat E [(0, .agg (vDef d_ A1 L1 C1 A2 L2 C2 A3 L3 C3 A4 L4 C4 A5 L5 C5).toArray), (1, pt b), (2, sV ([] : Tx)), (3, iI 0), (4, pt b1), (5, .func (.func 26) #[] #[pt b1]), (6, bV o7.1)] [.box b1 69 [bptr b1 o7.2.1, sl A17 L17 C17], .box b 28 (vDef d_ A1 L1 C1 A2 L2 C2 A3 L3 C3 A4 L4 C4 A5 L5 C5), rW A17 L17 C17 5 1 eU8 o7.2.2] Φ N') (fun N7 hN7 => ?_) ?_
 refine c_block ?_
 refine cL (fun E H Φ j a w => ∃ (ok_2 : Bool) (i2 : Int) (addr_4 : Bool) (buf_4 : List Int) (A16 : OA) (L16 C16 : Nat), F.defs.Print_l7 k d_ j ok_2 i2 addr_4 buf_4 = some o7 ∧ St E [(0, .agg (vDef d_ A1 L1 C1 A2 L2 C2 A3 L3 C3 A4 L4 C4 A5 L5 C5).toArray), (1, pt b), (2, sV ([] : Tx)), (3, iI 0), (4, pt b1), (5, .func (.func 26) #[] #[pt b1]), (6, bV ok_2), (9, iI i2)] [.box b1 69 [bptr b1 addr_4, sl A16 L16 C16], .box b 28 (vDef d_ A1 L1 C1 A2 L2 C2 A3 L3 C3 A4 L4 C4 A5 L5 C5), rW A16 L16 C16 5 1 eU8 buf_4] Φ a w) k ?_ ?_
 exact lq [0, 0, 0] [0, 1, 2, 3, 4, 5] fun a w hs => ⟨o5.1, 0, o5.2.1, o5.2.2, A13, L13, C13, ho7, hs⟩
 rintro j a w ⟨ok_2, i2, addr_4, buf_4, A16, L16, C16, hL7, hs⟩
 rcases j with _ | j
 cases hL7
 refine wc_app hs ?_
 unfold F.defs.Print_l7 at hL7
 refine c_seq (c_seq ?_)
 refine cT (fun E H Φ N' => ∀ (t77 : Bool), F.defs.Print_j8 k i2 d_ addr_4 buf_4 (F.defs.Print_l7 k d_ j) ok_2 t77 = some o7 → Sat E [(0, .agg (vDef d_ A1 L1 C1 A2 L2 C2 A3 L3 C3 A4 L4 C4 A5 L5 C5).toArray), (1, pt b), (2, sV ([] : Tx)), (3, iI 0), (4, pt b1), (5, .func (.func 26) #[] #[pt b1]), (6, bV ok_2), (9, iI i2), (77, bV t77)] H Φ N') (fun N8 hN8 => ?_) ?_
 refine c_region (oV vM ((fD 4) (oV (vL 1 ty24) (oV (v_lenS (enc := eFollow) d_.Follows sl24 rfl (.f 3 rfl)) (oV vB (oV vM ?_))))))
 refine oS 75 hL7 (fun hL7 => ?_) (fun hL7 => ?_)
 refine oN (oV vM (oV vPt (o_nil ?_)))
 exact sK [0, 0, 0] [0, 1, 2, 3, 4, 5] (hN8 ok_2 hL7)
 refine oF (oV vPf (o_nil ?_))
 exact sK [0, 0, 0] [0, 1, 2, 3, 4, 5] (hN8 false hL7)
 intro t77 hL7
 unfold F.defs.Print_j8 at hL7
 refine sat_wc ?_
 refine cC hL7 (fun hL7 => ?_) (fun hL7 => ?_)
 refine c_skip (sat_wc (c_seq (c_block (c_draw (n := 20) [1] mixed rfl rfl (dv 0 rfl vM (dv 1 rfl (vF 4) (dv 2 rfl (vL 0 ty24) (dv 3 rfl vM (ite_some hL7 ?_)))))))))
 intro h14 hL7
 refine dv 4 rfl (v_indexAddr_s (xs := d_.Follows) (enc := eFollow) sl24 rfl rfl (.f 3 rfl) h14) (dv 5 rfl (v_fieldAddr (v := .pointer (some ⟨blkA A3, offA A3 + (Int.toNat i2 * 5 + 0), none⟩)) rfl (fun _ => by kernel_rfl)) (dv 6 rfl (v_load_s (xs := d_.Follows) (enc := eFollow) ty9 rfl (.f 3 rfl) h14 rfl rfl rfl rfl rfl rfl rfl) (ite_some hL7 fun h15 hL7 => dv 7 rfl (vS h15) (ite_some hL7 ?_))))
 intro h16 hL7
 refine ?_
 refine dv 8 rfl (vS h16) (dv 9 rfl (vF 4) (dv 10 rfl (vL 0 ty24) (dv 11 rfl vM (dv 12 rfl (v_indexAddr_s (xs := d_.Follows) (enc := eFollow) sl24 rfl rfl (.f 3 rfl) h14) (dv 13 rfl (v_fieldAddr (v := .pointer (some ⟨blkA A3, offA A3 + (Int.toNat i2 * 5 + 1), none⟩)) rfl (fun _ => by kernel_rfl)) (dv 14 rfl (v_load_s (xs := d_.Follows) (enc := eFollow) ty44 rfl (.f 3 rfl) h14 rfl rfl rfl rfl rfl rfl rfl) (dO 15 rfl ?_)))))))
 obtain ⟨v5, h17, hL7⟩ := bd hL7
 refine o_callSB call19 rfl lent_nil (tri19 h17 :) rfl (dN [1] 0 (ite_some hL7 ?_))
 intro h18 hL7
 refine dv 16 rfl (vS h18) (ite_some hL7 ?_)
 intro h19 hL7
 refine dv 17 rfl (vS h19) (dO 18 rfl ?_)
 obtain ⟨v6, h20, hL7⟩ := bd hL7
 refine o_call [0, 1] call26 (cap := #[pt b1]) rfl rfl rfl sub_nil (by exact (tri26 h20 :)) rfl ?_
 rintro _ _ _ ⟨A18, L18, C18, rfl, rfl, rfl⟩
 refine dN [2] 0 (dv 19 rfl vA (dD (sat_wc (c_region (oV vM (oV vB (oV vA (o_nil ?_))))))))
 exact lp [0, 1, 0] [0, 1, 2, 3, 4, 5] fun a w hs => ⟨v6.1, IntKind.wrap .i64 (i2 + 1), v6.2.addr, v6.2.buf, A18, L18, C18, hL7, hs⟩
 refine c_exit0 ?_
 cases hL7
 exact sK [0, 0, 0] [0, 1, 2, 3, 4, 5] (hN7 A16 L16 C16)
 intro A17 L17 C17
 refine sat_wc (c_seq (cR (oV vA (o_seq ?_))))
 obtain ⟨o9, ho9, hF⟩ := bd hF
 refine cT (fun E H Φ N' => ∀ (A20 : OA) (L20 C20 : Nat), Sat E [(0, .agg (vDef d_ A1 L1 C1 A2 L2 C2 A3 L3 C3 A4 L4 C4 A5 L5 C5).toArray), (1, pt b), (2, sV ([] : Tx)), (3, iI 0), (4, pt b1), (5, .func (.func 26) #[] #[pt b1]), (6, bV o9.1)] [.box b1 69 [bptr b1 o9.2.1, sl A20 L20 C20], .box b 28 (vDef d_ A1 L1 C1 A2 L2 C2 A3 L3 C3 A4 L4 C4 A5 L5 C5), rW A20 L20 C20 5 1 eU8 o9.2.2] Φ N') (fun N9 hN9 => ?_) ?_
 refine c_block ?_
 refine cL (fun E H Φ j a w => ∃ (ok_3 : Bool) (i3 : Int) (addr_5 : Bool) (buf_5 : List Int) (A19 : OA) (L19 C19 : Nat), F.defs.Print_l9 d_ j ok_3 i3 addr_5 buf_5 = some o9 ∧ St E [(0, .agg (vDef d_ A1 L1 C1 A2 L2 C2 A3 L3 C3 A4 L4 C4 A5 L5 C5).toArray), (1, pt b), (2, sV ([] : Tx)), (3, iI 0), (4, pt b1), (5, .func (.func 26) #[] #[pt b1]), (6, bV ok_3), (10, iI i3)] [.box b1 69 [bptr b1 addr_5, sl A19 L19 C19], .box b 28 (vDef d_ A1 L1 C1 A2 L2 C2 A3 L3 C3 A4 L4 C4 A5 L5 C5), rW A19 L19 C19 5 1 eU8 buf_5] Φ a w) k ?_ ?_
 exact lq [0, 0, 0] [0, 1, 2, 3, 4, 5] fun a w hs => ⟨o7.1, 0, o7.2.1, o7.2.2, A17, L17, C17, ho9, hs⟩
 rintro j a w ⟨ok_3, i3, addr_5, buf_5, A19, L19, C19, hL9, hs⟩
 rcases j with _ | j
 cases hL9
 refine wc_app hs ?_
 unfold F.defs.Print_l9 at hL9
 refine c_seq (c_seq ?_)
 refine cT (fun E H Φ N' => ∀ (t106 : Bool), F.defs.Print_j10 i3 d_ addr_5 buf_5 (F.defs.Print_l9 d_ j) ok_3 t106 = some o9 → Sat E [(0, .agg (vDef d_ A1 L1 C1 A2 L2 C2 A3 L3 C3 A4 L4 C4 A5 L5 C5).toArray), (1, pt b), (2, sV ([] : Tx)), (3, iI 0), (4, pt b1), (5, .func (.func 26) #[] #[pt b1]), (6, bV ok_3), (10, iI i3), (106, bV t106)] H Φ N') (fun N10 hN10 => ?_) ?_
 refine c_region (oV vM ((fD 5) (oV (vL 1 ty25) (oV (v_lenS (enc := eReject) d_.Rejects sl25 rfl (.f 4 rfl)) (oV vB (oV vM ?_))))))
 refine oS 104 hL9 (fun hL9 => ?_) (fun hL9 => ?_)
 refine oN (oV vM (oV vPt (o_nil ?_)))
 exact sK [0, 0, 0] [0, 1, 2, 3, 4, 5] (hN10 ok_3 hL9)
 refine oF (oV vPf (o_nil ?_))
 exact sK [0, 0, 0] [0, 1, 2, 3, 4, 5] (hN10 false hL9)
 intro t106 hL9
 unfold F.defs.Print_j10 at hL9
 refine sat_wc ?_
 refine cC hL9 (fun hL9 => ?_) (fun hL9 => ?_)
 refine c_skip (sat_wc (c_seq (c_block (c_draw (n := 19) [1] mixed rfl rfl (dv 0 rfl vM (dv 1 rfl (vF 5) (dv 2 rfl (vL 0 ty25) (dv 3 rfl vM (ite_some hL9 ?_)))))))))
 intro h23 hL9
 refine dv 4 rfl (v_indexAddr_s (xs := d_.Rejects) (enc := eReject) sl25 rfl rfl (.f 4 rfl) h23) (dv 5 rfl (v_fieldAddr (v := .pointer (some ⟨blkA A4, offA A4 + (Int.toNat i3 * 2 + 0), none⟩)) rfl (fun _ => by kernel_rfl)) (dv 6 rfl (v_load_s (xs := d_.Rejects) (enc := eReject) ty9 rfl (.f 4 rfl) h23 rfl rfl rfl rfl rfl rfl rfl) (ite_some hL9 fun h24 hL9 => dv 7 rfl (vS h24) (ite_some hL9 ?_))))
 intro h25 hL9
 refine ?_
 refine dv 8 rfl (vS h25) (dv 9 rfl (vF 5) (dv 10 rfl (vL 0 ty25) (dv 11 rfl vM (dv 12 rfl (v_indexAddr_s (xs := d_.Rejects) (enc := eReject) sl25 rfl rfl (.f 4 rfl) h23) (dv 13 rfl (v_fieldAddr (v := .pointer (some ⟨blkA A4, offA A4 + (Int.toNat i3 * 2 + 1), none⟩)) rfl (fun _ => by kernel_rfl)) (dv 14 rfl (v_load_s (xs := d_.Rejects) (enc := eReject) ty9 rfl (.f 4 rfl) h23 rfl rfl rfl rfl rfl rfl rfl) (ite_some hL9 ?_)))))))
 intro h26 hL9
 refine dv 15 rfl (vS h26) (ite_some hL9 ?_)
 intro h27 hL9
 refine dv 16 rfl (vS h27) (dO 17 rfl ?_)
 obtain ⟨v7, h28, hL9⟩ := bd hL9
 refine o_call [0, 1] call26 (cap := #[pt b1]) rfl rfl rfl sub_nil (by exact (tri26 h28 :)) rfl ?_
 rintro _ _ _ ⟨A21, L21, C21, rfl, rfl, rfl⟩
 refine dN [2] 0 (dv 18 rfl vA (dD (sat_wc (c_region (oV vM (oV vB (oV vA (o_nil ?_))))))))
 exact lp [0, 1, 0] [0, 1, 2, 3, 4, 5] fun a w hs => ⟨v7.1, IntKind.wrap .i64 (i3 + 1), v7.2.addr, v7.2.buf, A21, L21, C21, hL9, hs⟩
 refine c_exit0 ?_
 cases hL9
 exact sK [0, 0, 0] [0, 1, 2, 3, 4, 5] (hN9 A19 L19 C19)
 intro A20 L20 C20
 refine sat_wc (c_seq (cR (oV vA (o_seq ?_))))
 obtain ⟨o11, ho11, hF⟩ := bd hF
 refine cT (fun E H Φ N' => ∀ (A23 : OA) (L23 C23 : Nat), Sat E [(0, .agg (vDef d_ A1 L1 C1 A2 L2 C2 A3 L3 C3 A4 L4 C4 A5 L5 C5).toArray), (1, pt b), (2, sV ([] : Tx)), (3, iI 0), (4, pt b1), (5, .func (.func 26) #[] #[pt b1]), (6, bV o11.1)] [.box b1 69 [bptr b1 o11.2.1, sl A23 L23 C23], .box b 28 (vDef d_ A1 L1 C1 A2 L2 C2 A3 L3 C3 A4 L4 C4 A5 L5 C5), rW A23 L23 C23 5 1 eU8 o11.2.2] Φ N') (fun N11 hN11 => ?_) ?_
 refine c_block ?_
 refine cL (fun E H Φ j a w => ∃ (ok_4 : Bool) (i4 : Int) (addr_6 : Bool) (buf_6 : List Int) (A22 : OA) (L22 C22 : Nat), F.defs.Print_l11 k d_ j ok_4 i4 addr_6 buf_6 = some o11 ∧ St E [(0, .agg (vDef d_ A1 L1 C1 A2 L2 C2 A3 L3 C3 A4 L4 C4 A5 L5 C5).toArray), (1, pt b), (2, sV ([] : Tx)), (3, iI 0), (4, pt b1), (5, .func (.func 26) #[] #[pt b1]), (6, bV ok_4), (11, iI i4)] [.box b1 69 [bptr b1 addr_6, sl A22 L22 C22], .box b 28 (vDef d_ A1 L1 C1 A2 L2 C2 A3 L3 C3 A4 L4 C4 A5 L5 C5), rW A22 L22 C22 5 1 eU8 buf_6] Φ a w) k ?_ ?_
 exact lq [0, 0, 0] [0, 1, 2, 3, 4, 5] fun a w hs => ⟨o9.1, 0, o9.2.1, o9.2.2, A20, L20, C20, ho11, hs⟩
 rintro j a w ⟨ok_4, i4, addr_6, buf_6, A22, L22, C22, hL11, hs⟩
 rcases j with _ | j
 cases hL11
 refine wc_app hs ?_
 unfold F.defs.Print_l11 at hL11
 refine c_seq (c_seq ?_)
 refine cT (fun E H Φ N' => ∀ (t134 : Bool), F.defs.Print_j12 k i4 d_ addr_6 buf_6 (F.defs.Print_l11 k d_ j) ok_4 t134 = some o11 → Sat E [(0, .agg (vDef d_ A1 L1 C1 A2 L2 C2 A3 L3 C3 A4 L4 C4 A5 L5 C5).toArray), (1, pt b), (2, sV ([] : Tx)), (3, iI 0), (4, pt b1), (5, .func (.func 26) #[] #[pt b1]), (6, bV ok_4), (11, iI i4), (134, bV t134)] H Φ N') (fun N12 hN12 => ?_) ?_
 refine c_region (oV vM ((fD 6) (oV (vL 1 ty26) (oV (v_lenS (enc := eBox) d_.Boxes sl26 rfl (.f 5 rfl)) (oV vB (oV vM ?_))))))
 refine oS 132 hL11 (fun hL11 => ?_) (fun hL11 => ?_)
 refine oN (oV vM (oV vPt (o_nil ?_)))
 exact sK [0, 0, 0] [0, 1, 2, 3, 4, 5] (hN12 ok_4 hL11)
 refine oF (oV vPf (o_nil ?_))
 exact sK [0, 0, 0] [0, 1, 2, 3, 4, 5] (hN12 false hL11)
 intro t134 hL11
 unfold F.defs.Print_j12 at hL11
 refine sat_wc ?_
 refine cC hL11 (fun hL11 => ?_) (fun hL11 => ?_)
 refine c_skip (sat_wc (c_seq (c_block (ite_some hL11 fun h31 hL11 => c_elem (xs := d_.Boxes) (enc := eBox) 5 rfl h31 rfl rfl fun A24 L24 C24 => c_draw (n := 20) [1] mixed rfl rfl (dv 0 rfl vM (dv 1 rfl (vF 6) (dv 2 rfl (vL 0 ty26) (dv 3 rfl vM (dv 4 rfl (v_indexAddr_s (xs := d_.Boxes) (enc := eBox) sl26 rfl rfl (.f 7 rfl) h31) (dv 5 rfl (v_fieldAddr (v := .pointer (some ⟨blkA A5, offA A5 + (Int.toNat i4 * 2 + 0), none⟩)) rfl (fun _ => by kernel_rfl)) (dv 6 rfl (v_load_s (xs := d_.Boxes) (enc := eBox) ty9 rfl (.f 7 rfl) h31 rfl rfl rfl rfl rfl rfl rfl) (ite_some hL11 ?_))))))))))))
 intro h32 hL11
 refine dv 7 rfl (vS h32) ?_
 refine ite_some hL11 fun h33 hL11 => dv 8 rfl (vS h33) (dv 9 rfl (vF 6) (dv 10 rfl (vL 0 ty26) (dv 11 rfl vM (dv 12 rfl (v_indexAddr_s (xs := d_.Boxes) (enc := eBox) sl26 rfl rfl (.f 7 rfl) h31) (dv 13 rfl (v_fieldAddr (v := .pointer (some ⟨blkA A5, offA A5 + (Int.toNat i4 * 2 + 1), none⟩)) rfl (fun _ => by kernel_rfl)) (dv 14 rfl (v_load_cl 0 ty62 rfl rfl rfl rfl rfl) (dO 15 rfl ?_)))))))
 obtain ⟨v8, h34, hL11⟩ := bd hL11
 refine o_callSB call31 rfl (lent_f 2 rfl (lent_f 1 rfl lent_nil)) ((tri31 _) h34 :) rfl (dN [1] 0 (ite_some hL11 ?_))
 intro h35 hL11
 refine dv 16 rfl (vS h35) (ite_some hL11 ?_)
 intro h36 hL11
 refine dv 17 rfl (vS h36) (dO 18 rfl ?_)
 obtain ⟨v9, h37, hL11⟩ := bd hL11
 refine o_call [0, 1] call26 (cap := #[pt b1]) rfl rfl rfl sub_nil (by exact (tri26 h37 :)) rfl ?_
 rintro _ _ _ ⟨A25, L25, C25, rfl, rfl, rfl⟩
 refine dN [2] 0 (dv 19 rfl vA (dD (sat_wc (c_region (oV vM (oV vB (oV vA (o_nil ?_))))))))
 exact lp [0, 1, 0] [2, 3, 4, 5, 6, 7] fun a w hs => ⟨v9.1, IntKind.wrap .i64 (i4 + 1), v9.2.addr, v9.2.buf, A25, L25, C25, hL11, hs⟩
 refine c_exit0 ?_
 cases hL11
 exact sK [0, 0, 0] [0, 1, 2, 3, 4, 5] (hN11 A22 L22 C22)
 intro A23 L23 C23
 refine sat_wc (c_seq (cR (oV vM (oV vN (o_seq ?_)))))
 refine cC hF (fun hF => ?_) (fun hF => ?_)
 refine cR (oV vA (oV vA (o_seq (c_ret ?_))))
 cases hF
 refine s_ret2 rfl (r_tmp rfl) (r_tmp rfl) fun a w hs => fin_sel hs [] ⟨rfl, rfl, rfl⟩ rfl sub_nil
 refine c_skip (sat_wc (cR ?_))
 obtain ⟨v10, h40, hF⟩ := bd hF
 refine ocl [0, 1] call32 rfl rfl sub_nil (tri32 (Strings_Builder.mk o11.2.1 o11.2.2) b1 A23 L23 C23 v10 h40) ?_
 rintro _ _ _ ⟨rfl, rfl, rfl⟩
 refine oV vA (oV vA (o_seq (c_ret ?_)))
 cases hF
 refine s_ret2 rfl (r_tmp rfl) (r_tmp rfl) fun a w hs => fin_sel hs [] ⟨rfl, rfl, rfl⟩ rfl sub_nil
theorem tri11 {k : Nat} {r : Bool} (hF : F.law03.alive k = some r) :
    Tri Tryz.prog 11 [] [] [gf10 1] (oR (bV r)) := by
 unfold F.law03.alive at hF
 refine tri_intro (n := 42) Tryz.func11 rfl Tryz.ntmps11 rfl fun w X => cR (oV vA (o_seq (cR ?_)))
 obtain ⟨v, h1, hF⟩ := bd hF
 refine o_call0 call16 rfl sub_nil (tri16 h1 :) rfl ?_
 rintro _ _ _ ⟨A1, L1, C1, A2, L2, C2, A3, L3, C3, A4, L4, C4, A5, L5, C5, rfl, rfl, rfl⟩
 refine oV vM (oV vX (oV vX (o_alloc zero28 rfl rfl ?_)))
 intro b
 refine o_alloc zero37 rfl rfl fun b1 => (sT 1 ty28) ((sT 0 ty37) (o_seq (cR (oV (vL 1 ty28) ?_))))
 obtain ⟨v1, h2, hF⟩ := bd hF
 refine o_callSB call13 rfl (lent_f 5 rfl (lent_f 0 rfl (lent_f 1 rfl (lent_f 2 rfl (lent_f 3 rfl (lent_f 4 rfl lent_nil)))))) (tri13 h2 :) rfl (oV vM (oV vX (oV vX (oV vA (oV vA (o_seq (cR ?_)))))))
 obtain ⟨v2, h3, hF⟩ := bd hF
 refine o_call0 call16 rfl sub_nil (tri16 h3 :) rfl ?_
 rintro _ _ _ ⟨A6, L6, C6, A7, L7, C7, A8, L8, C8, A9, L9, C9, A10, L10, C10, rfl, rfl, rfl⟩
 refine oV vM (oV vX (oV vX (o_alloc zero28 rfl rfl ?_)))
 intro b2
 refine o_alloc zero37 rfl rfl fun b3 => (sT 1 ty28) ((sT 0 ty37) (o_seq (c_seq ?_)))
 refine c_cut (fun E N' => ∀ (t0 : Bool), F.law03.alive_j1 t0 = some r → Sat E [(0, bV t0), (1, pt b), (2, pt b1), (6, pt b3)] [.box b3 37 [iI v2.2.At, iI v2.2.Code], .box b1 37 [iI v.2.At, iI v.2.Code], .box b 28 (vDef v.1 A1 L1 C1 A2 L2 C2 A3 L3 C3 A4 L4 C4 A5 L5 C5)] [gf10 1, fS A1 L1 C1 5 eProd v.1.Prods, fS A2 L2 C2 1 (eSl 2 eGroup) v.1.Chains, fS A3 L3 C3 5 eFollow v.1.Follows, fS A4 L4 C4 2 eReject v.1.Rejects, fS A5 L5 C5 2 eBox v.1.Boxes] N') (fun N1 hN1 => ?_) ?_
 refine c_region (oV (vL 2 ty37) (oV (vU (.agg #[iI 0, iI 0])) (oV (v_ageq 2 rfl rfl (eq37 v.2.At v.2.Code 0 0) rfl guard37) (oV vM ?_))))
 refine oS 23 hF (fun hF => ?_) (fun hF => ?_)
 refine oN ((fD 2) (oN (oV (vL 3 ty22) (oN (oV (v_lenS (enc := eProd) v.1.Prods sl22 rfl (.f 5 rfl)) (oN (oV vB (oV vPt (oV vM ?_)))))))))
 refine oS 29 hF (fun hF => ?_) (fun hF => ?_)
 refine oN (oV vM (oN (oV vB (oV vPt (oV vM ?_)))))
 refine oS 33 hF (fun hF => ?_) (fun hF => ?_)
 refine oN (oV vM (oN (oV (v_streq rfl rfl) (oV vPt (oV vM ?_)))))
 refine oS 37 hF (fun hF => ?_) (fun hF => ?_)
 refine oN (oV (vL 0 ty37) (oN (oV (vU (.agg #[iI 8, iI 30])) (oN (oV (v_ageq 2 rfl rfl (eq37 v2.2.At v2.2.Code 8 30) rfl guard37) (oV vPt (oV vA (o_nil ?_))))))))
 exact sK [0, 1, 1] [10, 5, 6, 7, 8, 9] (hN1 ((v2.2.At == 8) && ((v2.2.Code == 30) && true)) hF)
 refine oF (oF (oF (oV vPf (oV vA (o_nil ?_)))))
 exact sK [0, 1, 1] [10, 5, 6, 7, 8, 9] (hN1 false hF)
 refine oF (oF (oV vPf (oV vM (oF (oF (oF (oV vPf (oV vA (o_nil ?_)))))))))
 exact sK [0, 1, 1] [10, 5, 6, 7, 8, 9] (hN1 false hF)
 refine oF (oF (oV vPf (oV vM (oF (oF (oV vPf (oV vM (oF (oF (oF (oV vPf (oV vA (o_nil ?_)))))))))))))
 exact sK [0, 1, 1] [10, 5, 6, 7, 8, 9] (hN1 false hF)
 refine oF (oF (oF (oF (oV vPf (oV vM (oF (oF (oV vPf (oV vM (oF (oF (oV vPf (oV vM (oF (oF ?_)))))))))))))))
 refine oF (oV vPf (oV vA (o_nil ?_)))
 exact sK [0, 1, 1] [10, 5, 6, 7, 8, 9] (hN1 false hF)
 intro t0 hF
 unfold F.law03.alive_j1 at hF
 refine sat_wc (c_ret ?_)
 cases hF
 exact sR
theorem tri25_B (k : Nat) (g25 : List Item → Option (List Item))
    (hg25 : ∀ {l__ : List Item} {A1 : OA} {L1 C1 : Nat} {r : List Item}, g25 l__ = some r → Tri Tryz.prog 25 [sl A1 L1 C1] [] [fS A1 L1 C1 4 eItem l__] (fun o H Φ => ∃ (A8 : OA) (L8 C8 : Nat), o = .ret (sl A8 L8 C8) ∧ H = [rW A8 L8 C8 124 4 eItem r] ∧ Φ = [])) {l__ : List Item} {A1 : OA} {L1 C1 : Nat} {r : List Item} (hF : F.ref03.copyItems_B k g25 l__ = some r) :
    Tri Tryz.prog 25 [sl A1 L1 C1] [] [fS A1 L1 C1 4 eItem l__] (fun o H Φ => ∃ (A8 : OA) (L8 C8 : Nat), o = .ret (sl A8 L8 C8) ∧ H = [rW A8 L8 C8 124 4 eItem r] ∧ Φ = []) := by
 unfold F.ref03.copyItems_B at hF
 refine tri_intro (n := 25) Tryz.func25 rfl Tryz.ntmps25 rfl fun w X => cR (oV vA (o_seq (cR (oV vA (o_seq (c_seq (cR (oV vA (o_seq ?_)))))))))
 obtain ⟨o1, ho1, hF⟩ := bd hF
 refine c_cut (fun E N' => ∀ (A3 : OA) (L3 C3 : Nat), Sat E [(2, nS), (3, sl A3 L3 C3)] [rW A3 L3 C3 124 4 eItem o1] [] N') (fun N1 hN1 => ?_) ?_
 refine c_block ?_
 refine cL (fun E H Φ j a w => ∃ (out_ : List Item) (i : Int) (A2 : OA) (L2 C2 : Nat), F.ref03.copyItems_l1 l__ g25 j out_ i = some o1 ∧ St E [(0, sl A1 L1 C1), (2, nS), (3, sl A2 L2 C2), (4, iI i)] [rW A2 L2 C2 124 4 eItem out_] Φ a w) k ?_ ?_
 refine s_st (st_nilrow 124 4) ?_
 exact lq [0] [0] fun a w hs => ⟨([] : List Item), 0, none, 0, 0, ho1, hs⟩
 rintro j a w ⟨out_, i, A2, L2, C2, hL1, hs⟩
 rcases j with _ | j
 cases hL1
 refine wc_app hs ?_
 unfold F.ref03.copyItems_l1 at hL1
 refine c_seq (cR (oV vM (oV vM (oV (v_lenS (enc := eItem) l__ sl62 rfl (.f 0 rfl)) (oV vB (o_seq ?_))))))
 refine cC hL1 (fun hL1 => ?_) (fun hL1 => ?_)
 refine c_skip (sat_wc (c_seq (c_block (cR (oV vM (oV vM (ite_some hL1 ?_)))))))
 intro h2 hL1
 refine oV (v_indexAddr_s (xs := l__) (enc := eItem) sl62 rfl rfl (.f 0 rfl) h2) (o_load_s (ds := [.int .i64 ((at_ l__ i).Kind), .str ((at_ l__ i).Text), .int .i64 ((at_ l__ i).N_), .slice 4 (((at_ l__ i).Items).map eItem)]) (xs := l__) (enc := eItem) ty124 rfl (.f 0 rfl) h2 (by simp only [eItem_eq] <;> rfl) rfl rfl rfl rfl rfl ?_)
 intro A4 L4 C4
 refine o_alloc zero124 rfl rfl fun b => (sT 0 ty124) (o_seq (cR ?_))
 refine (fD 3) (oV (vL 0 ty62) ?_)
 obtain ⟨v, h3, hL1⟩ := bd hL1
 refine o_call0 call25 rfl (subs [0] rfl) (hg25 h3 :) rfl ?_
 rintro _ _ _ ⟨A5, L5, C5, rfl, rfl, rfl⟩
 refine (fD 3) ((sT 1 ty62) (o_seq (c_region (oV vM (oV (vL 1 ty124) (o_st (st_freeze 0 rfl) (o_buildSlice (enc := eItem) ([(Item.mk ((at_ l__ i).Kind) ((at_ l__ i).Text) ((at_ l__ i).N_) v)] : List Item) (vItem (at_ l__ i) A5 L5 C5) sl62 rfl (fun _ => by kernel_rfl) rfl rfl (by simp only [List.map, List.all, eItem_eq] <;> rfl) (cp_of (ds := [.int .i64 ((at_ l__ i).Kind), .str ((at_ l__ i).Text), .int .i64 ((at_ l__ i).N_), .slice 4 (v.map eItem)]) (by simp only [List.map, List.flatten, eItem_eq] <;> rfl) (.s rfl (.s rfl (.s rfl (.f 0 rfl (.nil)))))) rfl ?_)))))))
 intro A6 L6 C6
 refine ite_some hL1 fun h4 hL1 => ite_some hL1 fun h5 hL1 => o_append (enc := eItem) (xs := out_) (ys := ([(Item.mk ((at_ l__ i).Kind) ((at_ l__ i).Text) ((at_ l__ i).N_) v)] : List Item)) 2 sl62 rfl rfl rfl (.r 0 _ rfl) h4 h5 rfl fun A7 L7 C7 => oV vA (o_nil (sat_wc (c_region (oV vM ?_))))
 refine oV vB (oV vA (o_nil ?_))
 exact lp [2] [2] fun a w hs => ⟨(out_ ++ ([(Item.mk ((at_ l__ i).Kind) ((at_ l__ i).Text) ((at_ l__ i).N_) v)] : List Item)), IntKind.wrap .i64 (i + 1), A7, L7, C7, hL1, hs⟩
 refine c_exit0 ?_
 cases hL1
 exact sK [0] [] (hN1 A2 L2 C2)
 intro A3 L3 C3
 refine sat_wc (cR (oV vM (oV vA (o_seq (c_ret ?_)))))
 cases hF
 refine s_ret1 rfl (r_tmp rfl) fun a w hs => fin_sel hs [0] ⟨A3, L3, C3, rfl, rfl, rfl⟩ rfl sub_nil
theorem tri25 (k : Nat) : (∀ {l__ : List Item} {A1 : OA} {L1 C1 : Nat} {r : List Item}, F.ref03.copyItems k l__ = some r → Tri Tryz.prog 25 [sl A1 L1 C1] [] [fS A1 L1 C1 4 eItem l__] (fun o H Φ => ∃ (A8 : OA) (L8 C8 : Nat), o = .ret (sl A8 L8 C8) ∧ H = [rW A8 L8 C8 124 4 eItem r] ∧ Φ = [])) := by
 induction k with
 | zero => exact fun h => nomatch (show none = some _ from h)
 | succ k ih => exact tri25_B k _ ih
theorem tri12 {k : Nat} {d_ : Def} {r : Def} (hF : F.ref03.Copy k d_ = some r) :
    Tri Tryz.prog 12 [.agg (vDef d_ A1 L1 C1 A2 L2 C2 A3 L3 C3 A4 L4 C4 A5 L5 C5).toArray] [] [fS A1 L1 C1 5 eProd d_.Prods, fS A2 L2 C2 1 (eSl 2 eGroup) d_.Chains, fS A3 L3 C3 5 eFollow d_.Follows, fS A4 L4 C4 2 eReject d_.Rejects, fS A5 L5 C5 2 eBox d_.Boxes] (fun o H Φ => ∃ (A35 : OA) (L35 C35 : Nat) (A36 : OA) (L36 C36 : Nat) (A37 : OA) (L37 C37 : Nat) (A38 : OA) (L38 C38 : Nat) (A39 : OA) (L39 C39 : Nat), o = .ret (.agg (vDef r A35 L35 C35 A36 L36 C36 A37 L37 C37 A38 L38 C38 A39 L39 C39).toArray) ∧ H = [rW A35 L35 C35 57 5 eProd r.Prods, rW A36 L36 C36 58 1 (eSl 2 eGroup) r.Chains, rW A37 L37 C37 48 5 eFollow r.Follows, rW A38 L38 C38 78 2 eReject r.Rejects, rW A39 L39 C39 64 2 eBox r.Boxes] ∧ Φ = []) := by
 unfold F.ref03.Copy at hF
 refine tri_intro (n := 130) Tryz.func12 rfl Tryz.ntmps12 rfl fun w X => cR (o_box rfl rfl rfl fun b => o_alloc zero28 rfl rfl fun b1 => o_seq (cR ((fD 0) (oV (vL 1 ty9) ((fD 1) (oV (vL 1 ty9) (oV (vU (.agg (vDef d_ none 0 0 none 0 0 none 0 0 none 0 0 none 0 0).toArray)) (o_alloc zero28 rfl rfl ?_))))))))
 intro b2
 refine (sT 0 ty28) (o_seq ?_)
 refine c_seq (cR (oV vA (o_seq ?_)))
 obtain ⟨o1, ho1, hF⟩ := bd hF
 refine cT (fun E H Φ N' => ∀ (A7 : OA) (L7 C7 : Nat), Sat E [(0, .agg (vDef d_ A1 L1 C1 A2 L2 C2 A3 L3 C3 A4 L4 C4 A5 L5 C5).toArray), (1, pt b), (2, pt b1), (3, pt b2)] [.box b2 28 (vDef d_ A7 L7 C7 none 0 0 none 0 0 none 0 0 none 0 0), .box b1 28 [sV ([] : Tx), sV ([] : Tx), nS, nS, nS, nS, nS], .box b 28 (vDef d_ A1 L1 C1 A2 L2 C2 A3 L3 C3 A4 L4 C4 A5 L5 C5), rW A7 L7 C7 57 5 eProd o1] Φ N') (fun N1 hN1 => ?_) ?_
 refine c_block ?_
 refine cL (fun E H Φ j a w => ∃ (i : Int) (q3 : List Prod) (A6 : OA) (L6 C6 : Nat), F.ref03.Copy_l1 d_ j i q3 = some o1 ∧ St E [(0, .agg (vDef d_ A1 L1 C1 A2 L2 C2 A3 L3 C3 A4 L4 C4 A5 L5 C5).toArray), (1, pt b), (2, pt b1), (3, pt b2), (4, iI i)] [.box b2 28 (vDef d_ A6 L6 C6 none 0 0 none 0 0 none 0 0 none 0 0), .box b1 28 [sV ([] : Tx), sV ([] : Tx), nS, nS, nS, nS, nS], .box b 28 (vDef d_ A1 L1 C1 A2 L2 C2 A3 L3 C3 A4 L4 C4 A5 L5 C5), rW A6 L6 C6 57 5 eProd q3] Φ a w) k ?_ ?_
 refine s_st (st_nilrow 57 5) ?_
 exact lq [1, 1, 1, 0] [0, 1, 2, 3, 4] fun a w hs => ⟨0, ([] : List Prod), none, 0, 0, ho1, hs⟩
 rintro j a w ⟨i, q3, A6, L6, C6, hL1, hs⟩
 rcases j with _ | j
 cases hL1
 refine wc_app hs ?_
 unfold F.ref03.Copy_l1 at hL1
 refine c_seq (cR (oV vM ((fD 2) (oV (vL 2 ty22) (oV (v_lenS (enc := eProd) d_.Prods sl22 rfl (.f 0 rfl)) (oV vB (o_seq ?_)))))))
 refine cC hL1 (fun hL1 => ?_) (fun hL1 => ?_)
 refine c_skip (sat_wc (c_seq (c_block (cR ((fD 2) (oV (vL 2 ty22) (oV vM (ite_some hL1 ?_))))))))
 intro h2 hL1
 refine oV (v_indexAddr_s (xs := d_.Prods) (enc := eProd) sl22 rfl rfl (.f 0 rfl) h2) (o_load_s (xs := d_.Prods) (enc := eProd) ty57 rfl (.f 0 rfl) h2 rfl rfl rfl rfl rfl rfl ?_)
 intro A8 L8 C8
 refine o_alloc zero57 rfl rfl fun b3 => (sT 0 ty57) (o_seq (c_seq ?_))
 refine c_region (oV vA (o_seq (cR (oV vM ((fD 4) (oV (vL 0 ty55) (ite_some hL1 ?_)))))))
 intro h3 hL1
 refine ite_some hL1 fun h4 hL1 => o_st (st_nilrow 114 8) (o_append (enc := eSym) (xs := ([] : List Sym)) (ys := (at_ d_.Prods i).Syms) 0 sl55 rfl rfl rfl (.f 0 rfl) h3 h4 rfl fun A9 L9 C9 => oV vA (o_seq (cR ?_)))
 refine oV vM ((fD 4) ((sT 1 ty55) (o_seq (c_region ((fD 2) (oV (vL 2 ty22) (oV (vL 1 ty57) (o_st (st_freeze 0 rfl) (o_buildSlice (enc := eProd) ([(Prod.mk ((at_ d_.Prods i).Lex) ((at_ d_.Prods i).Sort_) ((at_ d_.Prods i).Cons) ((at_ d_.Prods i).Bracket) (([] : List Sym) ++ ((at_ d_.Prods i).Syms)))] : List Prod) (vProd (at_ d_.Prods i) A9 L9 C9) sl22 rfl (fun _ => by kernel_rfl) rfl rfl rfl (.s rfl (.s rfl (.s rfl (.s rfl (.f 0 rfl (.nil)))))) rfl ?_)))))))))
 intro A10 L10 C10
 refine ite_some hL1 fun h5 hL1 => ite_some hL1 fun h6 hL1 => o_append (enc := eProd) (xs := q3) (ys := ([(Prod.mk ((at_ d_.Prods i).Lex) ((at_ d_.Prods i).Sort_) ((at_ d_.Prods i).Cons) ((at_ d_.Prods i).Bracket) (([] : List Sym) ++ ((at_ d_.Prods i).Syms)))] : List Prod)) 5 sl22 rfl rfl rfl (.r 0 _ rfl) h5 h6 rfl fun A11 L11 C11 => (fD 2) ((sT 2 ty22) (o_nil ?_))
 refine sat_wc (c_region (oV vM (oV vB (oV vA (o_nil ?_)))))
 exact lp [2, 2, 2, 2] [2, 3, 4, 5, 6] fun a w hs => ⟨IntKind.wrap .i64 (i + 1), (q3 ++ ([(Prod.mk ((at_ d_.Prods i).Lex) ((at_ d_.Prods i).Sort_) ((at_ d_.Prods i).Cons) ((at_ d_.Prods i).Bracket) (([] : List Sym) ++ ((at_ d_.Prods i).Syms)))] : List Prod)), A11, L11, C11, hL1, hs⟩
 refine c_exit0 ?_
 cases hL1
 exact sK [0, 0, 0, 0] [0, 1, 2, 3, 4] (hN1 A6 L6 C6)
 intro A7 L7 C7
 refine sat_wc (c_seq (cR (oV vA (o_seq ?_))))
 obtain ⟨o2, ho2, hF⟩ := bd hF
 refine cT (fun E H Φ N' => ∀ (A13 : OA) (L13 C13 : Nat), Sat E [(0, .agg (vDef d_ A1 L1 C1 A2 L2 C2 A3 L3 C3 A4 L4 C4 A5 L5 C5).toArray), (1, pt b), (2, pt b1), (3, pt b2)] [.box b2 28 (vDef d_ A7 L7 C7 A13 L13 C13 none 0 0 none 0 0 none 0 0), .box b1 28 [sV ([] : Tx), sV ([] : Tx), nS, nS, nS, nS, nS], .box b 28 (vDef d_ A1 L1 C1 A2 L2 C2 A3 L3 C3 A4 L4 C4 A5 L5 C5), rW A7 L7 C7 57 5 eProd o1, rW A13 L13 C13 58 1 (eSl 2 eGroup) o2] Φ N') (fun N2 hN2 => ?_) ?_
 refine c_block ?_
 refine cL (fun E H Φ j a w => ∃ (i1 : Int) (q4 : List (List Group)) (A12 : OA) (L12 C12 : Nat), F.ref03.Copy_l2 k d_ j i1 q4 = some o2 ∧ St E [(0, .agg (vDef d_ A1 L1 C1 A2 L2 C2 A3 L3 C3 A4 L4 C4 A5 L5 C5).toArray), (1, pt b), (2, pt b1), (3, pt b2), (7, iI i1)] [.box b2 28 (vDef d_ A7 L7 C7 A12 L12 C12 none 0 0 none 0 0 none 0 0), .box b1 28 [sV ([] : Tx), sV ([] : Tx), nS, nS, nS, nS, nS], .box b 28 (vDef d_ A1 L1 C1 A2 L2 C2 A3 L3 C3 A4 L4 C4 A5 L5 C5), rW A7 L7 C7 57 5 eProd o1, rW A12 L12 C12 58 1 (eSl 2 eGroup) q4] Φ a w) k ?_ ?_
 refine s_st (st_nilrow 58 1) ?_
 exact lq [1, 1, 1, 1, 0] [0, 1, 2, 3, 4] fun a w hs => ⟨0, ([] : List (List Group)), none, 0, 0, ho2, hs⟩
 rintro j a w ⟨i1, q4, A12, L12, C12, hL2, hs⟩
 rcases j with _ | j
 cases hL2
 refine wc_app hs ?_
 unfold F.ref03.Copy_l2 at hL2
 refine c_seq (cR (oV vM ((fD 3) (oV (vL 2 ty23) (oV (v_lenS (enc := (eSl 2 eGroup)) d_.Chains sl23 rfl (.f 1 rfl)) (oV vB (o_seq ?_)))))))
 refine cC hL2 (fun hL2 => ?_) (fun hL2 => ?_)
 refine c_skip (sat_wc (c_seq (c_block (cR (oV vA (o_seq (c_seq (cR (oV vA (o_seq ?_))))))))))
 obtain ⟨o3, ho3, hL2⟩ := bd hL2
 refine cT (fun E H Φ N' => ∀ (A15 : OA) (L15 C15 : Nat), Sat E [(0, .agg (vDef d_ A1 L1 C1 A2 L2 C2 A3 L3 C3 A4 L4 C4 A5 L5 C5).toArray), (1, pt b), (2, pt b1), (3, pt b2), (7, iI i1), (8, sl A15 L15 C15), (9, iI o3.2)] [.box b2 28 (vDef d_ A7 L7 C7 A12 L12 C12 none 0 0 none 0 0 none 0 0), .box b1 28 [sV ([] : Tx), sV ([] : Tx), nS, nS, nS, nS, nS], .box b 28 (vDef d_ A1 L1 C1 A2 L2 C2 A3 L3 C3 A4 L4 C4 A5 L5 C5), rW A15 L15 C15 61 2 eGroup o3.1, rW A7 L7 C7 57 5 eProd o1, rW A12 L12 C12 58 1 (eSl 2 eGroup) q4] Φ N') (fun N3 hN3 => ?_) ?_
 refine c_block ?_
 refine cL (fun E H Φ j a w => ∃ (l__ : List Group) (k_ : Int) (A14 : OA) (L14 C14 : Nat), F.ref03.Copy_l3 i1 d_ j l__ k_ = some o3 ∧ St E [(0, .agg (vDef d_ A1 L1 C1 A2 L2 C2 A3 L3 C3 A4 L4 C4 A5 L5 C5).toArray), (1, pt b), (2, pt b1), (3, pt b2), (7, iI i1), (8, sl A14 L14 C14), (9, iI k_)] [.box b2 28 (vDef d_ A7 L7 C7 A12 L12 C12 none 0 0 none 0 0 none 0 0), .box b1 28 [sV ([] : Tx), sV ([] : Tx), nS, nS, nS, nS, nS], .box b 28 (vDef d_ A1 L1 C1 A2 L2 C2 A3 L3 C3 A4 L4 C4 A5 L5 C5), rW A14 L14 C14 61 2 eGroup l__, rW A7 L7 C7 57 5 eProd o1, rW A12 L12 C12 58 1 (eSl 2 eGroup) q4] Φ a w) k ?_ ?_
 refine s_st (st_nilrow 61 2) ?_
 exact lq [1, 1, 1, 0, 0, 0] [0, 1, 2, 3, 4] fun a w hs => ⟨([] : List Group), 0, none, 0, 0, ho3, hs⟩
 rintro j a w ⟨l__, k_, A14, L14, C14, hL3, hs⟩
 rcases j with _ | j
 cases hL3
 refine wc_app hs ?_
 unfold F.ref03.Copy_l3 at hL3
 refine c_seq (cR (oV vM ((fD 3) (oV (vL 2 ty23) (oV vM (ite_some hL3 ?_))))))
 intro h8 hL3
 refine oV (v_indexAddr_s (xs := d_.Chains) (enc := (eSl 2 eGroup)) sl23 rfl rfl (.f 1 rfl) h8) (o_load_s (xs := d_.Chains) (enc := (eSl 2 eGroup)) ty58 rfl (.f 1 rfl) h8 rfl rfl rfl rfl rfl rfl ?_)
 intro A16 L16 C16
 refine oV (v_lenS (enc := eGroup) (at_ d_.Chains i1) sl58 rfl (.f 0 rfl)) (oV vB (o_seq ?_))
 refine cC hL3 (fun hL3 => ?_) (fun hL3 => ?_)
 refine c_skip (sat_wc (c_seq (c_block (cR ((fD 3) (oV (vL 2 ty23) (oV vM (oV (v_indexAddr_s (xs := d_.Chains) (enc := (eSl 2 eGroup)) sl23 rfl rfl (.f 2 rfl) h8) (o_load_s (xs := d_.Chains) (enc := (eSl 2 eGroup)) ty58 rfl (.f 2 rfl) h8 rfl rfl rfl rfl rfl rfl ?_)))))))))
 intro A17 L17 C17
 refine oV vM (ite_some hL3 ?_)
 intro h10 hL3
 refine oV (v_indexAddr_s (xs := at_ d_.Chains i1) (enc := eGroup) sl58 rfl rfl (.f 0 rfl) h10) (oV (v_fieldAddr (v := .pointer (some ⟨blkA A17, offA A17 + (Int.toNat k_ * 2 + 0), none⟩)) rfl (fun _ => by kernel_rfl)) (oV (v_load_s (xs := at_ d_.Chains i1) (enc := eGroup) ty3 rfl (.f 0 rfl) h10 rfl rfl rfl rfl rfl rfl rfl) ?_))
 refine oV (vU (.agg #[iI ((at_ (at_ d_.Chains i1) k_).Assoc), nS])) (o_alloc zero61 rfl rfl ?_)
 intro b4
 refine (sT 0 ty61) (o_seq (c_seq (c_elem (xs := d_.Chains) (enc := (eSl 2 eGroup)) 3 rfl h8 rfl rfl ?_)))
 intro A18 L18 C18
 refine c_elem (xs := at_ d_.Chains i1) (enc := eGroup) 1 rfl h10 rfl rfl fun A19 L19 C19 => c_draw (n := 14) [1, 1, 1, 1, 1, 1] mixed rfl rfl (dv 0 rfl (vF 1) (dv 2 rfl (vF 3) (dv 3 rfl (vL 2 ty23) (dv 4 rfl vM (dv 5 rfl (v_indexAddr_s (xs := d_.Chains) (enc := (eSl 2 eGroup)) sl23 rfl rfl (.f 7 rfl) h8) (dv 6 rfl (v_load_cl 2 ty58 rfl rfl rfl rfl rfl) (dv 7 rfl vM (dv 8 rfl (v_indexAddr_s (xs := at_ d_.Chains i1) (enc := eGroup) sl58 rfl rfl (.f 3 rfl) h10) ?_))))))))
 refine dv 9 rfl (v_fieldAddr (v := .pointer (some ⟨blkA A18, offA A18 + (Int.toNat k_ * 2 + 1), none⟩)) rfl (fun _ => by kernel_rfl)) (dv 10 rfl (v_load_cl 0 ty59 rfl rfl rfl rfl rfl) (dO 1 rfl (oV (vL 0 ty59) (dN [1, 1, 1, 1, 1, 1] 0 (dO 11 rfl (ite_some hL3 ?_))))))
 intro h11 hL3
 refine ite_some hL3 fun h12 hL3 => o_st (st_nilrow 9 1) (o_append (enc := eStr) (xs := ([] : List (List UInt8))) (ys := (at_ (at_ d_.Chains i1) k_).Cons) 0 sl59 rfl rfl rfl (.f 1 rfl) h11 h12 rfl fun A20 L20 C20 => dN [2, 2, 2, 2, 2, 2] 0 (dv 12 rfl (vF 1) (dO 13 rfl ((sT 1 ty59) (dN [2, 2, 2, 2, 2, 2] 0 (d_done_seq (by kernel_rfl) ?_))))))
 refine c_region (oV vM (oV (vL 1 ty61) (o_st (st_freeze 0 rfl) (o_buildSlice (enc := eGroup) ([(Group.mk ((at_ (at_ d_.Chains i1) k_).Assoc) (([] : List (List UInt8)) ++ ((at_ (at_ d_.Chains i1) k_).Cons)))] : List Group) [iI ((at_ (at_ d_.Chains i1) k_).Assoc), sl A20 L20 C20] sl58 rfl (fun _ => by kernel_rfl) rfl rfl rfl (.s rfl (.f 0 rfl (.nil))) rfl ?_))))
 intro A21 L21 C21
 refine ite_some hL3 fun h13 hL3 => ite_some hL3 fun h14 hL3 => o_append (enc := eGroup) (xs := l__) (ys := ([(Group.mk ((at_ (at_ d_.Chains i1) k_).Assoc) (([] : List (List UInt8)) ++ ((at_ (at_ d_.Chains i1) k_).Cons)))] : List Group)) 5 sl58 rfl rfl rfl (.r 0 _ rfl) h13 h14 rfl fun A22 L22 C22 => oV vA (o_nil (sat_wc (c_region (oV vM (oV vB (oV vA (o_nil ?_)))))))
 exact lp [2, 2, 2, 2, 2, 2] [7, 8, 9, 10, 11] fun a w hs => ⟨(l__ ++ ([(Group.mk ((at_ (at_ d_.Chains i1) k_).Assoc) (([] : List (List UInt8)) ++ ((at_ (at_ d_.Chains i1) k_).Cons)))] : List Group)), IntKind.wrap .i64 (k_ + 1), A22, L22, C22, hL3, hs⟩
 refine c_exit0 ?_
 cases hL3
 exact sK [0, 0, 0, 0, 0, 0] [1, 2, 3, 4, 5] (hN3 A14 L14 C14)
 intro A15 L15 C15
 refine sat_wc (c_region ((fD 3) (oV (vL 0 ty23) (oV vM (o_st (st_freeze 3 rfl) (o_buildSlice (enc := (eSl 2 eGroup)) ([o3.1] : List (List Group)) [sl A15 L15 C15] sl23 rfl (fun _ => by kernel_rfl) rfl rfl rfl (.f 0 rfl (.nil)) rfl ?_))))))
 intro A23 L23 C23
 refine ite_some hL2 fun h15 hL2 => ite_some hL2 fun h16 hL2 => o_append (enc := (eSl 2 eGroup)) (xs := q4) (ys := ([o3.1] : List (List Group))) 5 sl23 rfl rfl rfl (.r 0 _ rfl) h15 h16 rfl fun A24 L24 C24 => (fD 3) ((sT 1 ty23) (o_nil (sat_wc (c_region (oV vM ?_)))))
 refine oV vB (oV vA (o_nil ?_))
 exact lp [1, 1, 1, 1, 1] [1, 2, 3, 4, 5] fun a w hs => ⟨IntKind.wrap .i64 (i1 + 1), (q4 ++ ([o3.1] : List (List Group))), A24, L24, C24, hL2, hs⟩
 refine c_exit0 ?_
 cases hL2
 exact sK [0, 0, 0, 0, 0] [0, 1, 2, 3, 4] (hN2 A12 L12 C12)
 intro A13 L13 C13
 refine sat_wc (cR ((fD 4) (oV (vL 0 ty24) ((fD 4) (oV (vL 2 ty24) (ite_some hF ?_))))))
 intro h17 hF
 refine ite_some hF fun h18 hF => o_st (st_nilrow 48 5) (o_append (enc := eFollow) (xs := ([] : List Follow)) (ys := d_.Follows) 0 sl24 rfl rfl rfl (.f 2 rfl) h17 h18 rfl fun A25 L25 C25 => (fD 4) ((sT 1 ty24) (o_seq (cR ?_))))
 refine (fD 5) (oV (vL 1 ty25) ((fD 5) (oV (vL 3 ty25) (ite_some hF ?_))))
 intro h19 hF
 refine ite_some hF fun h20 hF => o_st (st_nilrow 78 2) (o_append (enc := eReject) (xs := ([] : List Reject)) (ys := d_.Rejects) 0 sl25 rfl rfl rfl (.f 3 rfl) h19 h20 rfl fun A26 L26 C26 => (fD 5) ((sT 2 ty25) (o_seq (c_seq (cR (oV vA (o_seq ?_)))))))
 obtain ⟨o4, ho4, hF⟩ := bd hF
 refine cT (fun E H Φ N' => ∀ (A28 : OA) (L28 C28 : Nat), Sat E [(0, .agg (vDef d_ A1 L1 C1 A2 L2 C2 A3 L3 C3 A4 L4 C4 A5 L5 C5).toArray), (1, pt b), (2, pt b1), (3, pt b2)] [.box b2 28 (vDef d_ A7 L7 C7 A13 L13 C13 A25 L25 C25 A26 L26 C26 A28 L28 C28), .box b1 28 [sV ([] : Tx), sV ([] : Tx), nS, nS, nS, nS, nS], .box b 28 (vDef d_ A1 L1 C1 A2 L2 C2 A3 L3 C3 A4 L4 C4 A5 L5 C5), rW A7 L7 C7 57 5 eProd o1, rW A13 L13 C13 58 1 (eSl 2 eGroup) o2, rW A25 L25 C25 48 5 eFollow (([] : List Follow) ++ d_.Follows), rW A26 L26 C26 78 2 eReject (([] : List Reject) ++ d_.Rejects), rW A28 L28 C28 64 2 eBox o4] Φ N') (fun N4 hN4 => ?_) ?_
 refine c_block ?_
 refine cL (fun E H Φ j a w => ∃ (i2 : Int) (q7 : List Box) (A27 : OA) (L27 C27 : Nat), F.ref03.Copy_l4 k d_ j i2 q7 = some o4 ∧ St E [(0, .agg (vDef d_ A1 L1 C1 A2 L2 C2 A3 L3 C3 A4 L4 C4 A5 L5 C5).toArray), (1, pt b), (2, pt b1), (3, pt b2), (11, iI i2)] [.box b2 28 (vDef d_ A7 L7 C7 A13 L13 C13 A25 L25 C25 A26 L26 C26 A27 L27 C27), .box b1 28 [sV ([] : Tx), sV ([] : Tx), nS, nS, nS, nS, nS], .box b 28 (vDef d_ A1 L1 C1 A2 L2 C2 A3 L3 C3 A4 L4 C4 A5 L5 C5), rW A7 L7 C7 57 5 eProd o1, rW A13 L13 C13 58 1 (eSl 2 eGroup) o2, rW A25 L25 C25 48 5 eFollow (([] : List Follow) ++ d_.Follows), rW A26 L26 C26 78 2 eReject (([] : List Reject) ++ d_.Rejects), rW A27 L27 C27 64 2 eBox q7] Φ a w) k ?_ ?_
 refine s_st (st_nilrow 64 2) ?_
 exact lq [3, 3, 3, 3, 3, 2, 1, 0] [0, 1, 2, 3, 4] fun a w hs => ⟨0, ([] : List Box), none, 0, 0, ho4, hs⟩
 rintro j a w ⟨i2, q7, A27, L27, C27, hL4, hs⟩
 rcases j with _ | j
 cases hL4
 refine wc_app hs ?_
 unfold F.ref03.Copy_l4 at hL4
 refine c_seq (cR (oV vM ((fD 6) (oV (vL 2 ty26) (oV (v_lenS (enc := eBox) d_.Boxes sl26 rfl (.f 4 rfl)) (oV vB (o_seq ?_)))))))
 refine cC hL4 (fun hL4 => ?_) (fun hL4 => ?_)
 refine c_skip (sat_wc (c_seq ?_))
 refine cT (fun E H Φ N' => ∀ (q7_1 : List Box) (A29 : OA) (L29 C29 : Nat), F.ref03.Copy_j5 (F.ref03.Copy_l4 k d_ j) i2 q7_1 = some o4 → Sat E [(0, .agg (vDef d_ A1 L1 C1 A2 L2 C2 A3 L3 C3 A4 L4 C4 A5 L5 C5).toArray), (1, pt b), (2, pt b1), (3, pt b2), (11, iI i2)] [.box b2 28 (vDef d_ A7 L7 C7 A13 L13 C13 A25 L25 C25 A26 L26 C26 A29 L29 C29), .box b1 28 [sV ([] : Tx), sV ([] : Tx), nS, nS, nS, nS, nS], .box b 28 (vDef d_ A1 L1 C1 A2 L2 C2 A3 L3 C3 A4 L4 C4 A5 L5 C5), rW A7 L7 C7 57 5 eProd o1, rW A13 L13 C13 58 1 (eSl 2 eGroup) o2, rW A25 L25 C25 48 5 eFollow (([] : List Follow) ++ d_.Follows), rW A26 L26 C26 78 2 eReject (([] : List Reject) ++ d_.Rejects), rW A29 L29 C29 64 2 eBox q7_1] Φ N') (fun N5 hN5 => ?_) ?_
 refine c_block ?_
 refine cT (fun E H Φ N' => ∀ (q7_2 : List Box) (A30 : OA) (L30 C30 : Nat), F.ref03.Copy_j6 (F.ref03.Copy_l4 k d_ j) i2 q7_2 = some o4 → Sat E [(0, .agg (vDef d_ A1 L1 C1 A2 L2 C2 A3 L3 C3 A4 L4 C4 A5 L5 C5).toArray), (1, pt b), (2, pt b1), (3, pt b2), (11, iI i2)] [.box b2 28 (vDef d_ A7 L7 C7 A13 L13 C13 A25 L25 C25 A26 L26 C26 A30 L30 C30), .box b1 28 [sV ([] : Tx), sV ([] : Tx), nS, nS, nS, nS, nS], .box b 28 (vDef d_ A1 L1 C1 A2 L2 C2 A3 L3 C3 A4 L4 C4 A5 L5 C5), rW A7 L7 C7 57 5 eProd o1, rW A13 L13 C13 58 1 (eSl 2 eGroup) o2, rW A25 L25 C25 48 5 eFollow (([] : List Follow) ++ d_.Follows), rW A26 L26 C26 78 2 eReject (([] : List Reject) ++ d_.Rejects), rW A30 L30 C30 64 2 eBox q7_2] Φ N') (fun N6 hN6 => ?_) ?_
 refine ite_some hL4 fun h22 hL4 => c_elem (xs := d_.Boxes) (enc := eBox) 4 rfl h22 rfl rfl fun A31 L31 C31 => c_draw (n := 20) [1, 1, 1, 1, 1, 1] mixed rfl rfl (dv 0 rfl (vF 6) (dv 2 rfl (vF 6) (dv 3 rfl (vL 1 ty26) (dv 4 rfl vM (dv 5 rfl (v_indexAddr_s (xs := d_.Boxes) (enc := eBox) sl26 rfl rfl (.f 6 rfl) h22) (dv 6 rfl (v_fieldAddr (v := .pointer (some ⟨blkA A5, offA A5 + (Int.toNat i2 * 2 + 0), none⟩)) rfl (fun _ => by kernel_rfl)) (dv 7 rfl (v_load_s (xs := d_.Boxes) (enc := eBox) ty9 rfl (.f 6 rfl) h22 rfl rfl rfl rfl rfl rfl rfl) (dv 8 rfl (vF 6) (dv 9 rfl (vL 1 ty26) (dv 10 rfl vM (dv 11 rfl (v_indexAddr_s (xs := d_.Boxes) (enc := eBox) sl26 rfl rfl (.f 6 rfl) h22) (dv 12 rfl (v_fieldAddr (v := .pointer (some ⟨blkA A5, offA A5 + (Int.toNat i2 * 2 + 1), none⟩)) rfl (fun _ => by kernel_rfl)) (dv 13 rfl (v_load_cl 0 ty62 rfl rfl rfl rfl rfl) ?_)))))))))))))
 obtain ⟨v, h23, hL4⟩ := bd hL4
 refine d_all [1, 14] (by kernel_rfl) (by simp) ⟨⟨_, rfl, ?_⟩, ⟨_, rfl, ?_⟩, trivial⟩
 refine oV (vL 0 ty26) (dN [1, 1, 1, 1, 1, 1] 0 (dO 14 rfl (o_call0 call25 rfl (subs [1] rfl) ((tri25 _) h23 :) rfl ?_)))
 rintro _ _ _ ⟨A32, L32, C32, rfl, rfl, rfl⟩
 refine dN [2, 2, 2, 2, 2, 2] 0 (dv 15 rfl (v_build (v := .agg #[sV ((at_ d_.Boxes i2).Cons), sl A32 L32 C32]) rfl (fun _ => by kernel_rfl)) (dO 16 rfl (o_st (st_freeze 0 rfl) (o_buildSlice (enc := eBox) ([(Box.mk ((at_ d_.Boxes i2).Cons) v)] : List Box) [sV ((at_ d_.Boxes i2).Cons), sl A32 L32 C32] sl26 rfl (fun _ => by kernel_rfl) rfl rfl rfl (.s rfl (.f 0 rfl (.nil))) rfl ?_))))
 intro A33 L33 C33
 refine dN [2, 2, 2, 2, 2, 2] 1 (dO 17 rfl (ite_some hL4 ?_))
 intro h24 hL4
 refine ite_some hL4 fun h25 hL4 => o_append (enc := eBox) (xs := q7) (ys := ([(Box.mk ((at_ d_.Boxes i2).Cons) v)] : List Box)) 8 sl26 rfl rfl rfl (.r 0 _ rfl) h24 h25 rfl fun A34 L34 C34 => dN [2, 2, 2, 2, 2, 2] 1 (dv 18 rfl (vF 6) (dO 19 rfl ((sT 1 ty26) (dN [2, 2, 2, 2, 2, 2] 1 (dD ?_)))))
 exact sK [1, 1, 1, 1, 1, 1, 1, 1] [3, 4, 5, 6, 7] (hN6 (q7 ++ ([(Box.mk ((at_ d_.Boxes i2).Cons) v)] : List Box)) A34 L34 C34 hL4)
 refine o_call0 call25 rfl (subs [1] rfl) ((tri25 _) h23 :) rfl ?_
 rintro _ _ _ ⟨A32, L32, C32, rfl, rfl, rfl⟩
 refine dN [2, 2, 2, 2, 2, 2] 0 (dv 15 rfl (v_build (v := .agg #[sV ((at_ d_.Boxes i2).Cons), sl A32 L32 C32]) rfl (fun _ => by kernel_rfl)) ?_)
 refine d_all [1, 16] (by kernel_rfl) (by simp) ⟨⟨_, rfl, ?_⟩, ⟨_, rfl, ?_⟩, trivial⟩
 refine oV (vL 1 ty26) (dN [2, 2, 2, 2, 2, 2] 0 (dO 16 rfl (o_st (st_freeze 0 rfl) (o_buildSlice (enc := eBox) ([(Box.mk ((at_ d_.Boxes i2).Cons) v)] : List Box) [sV ((at_ d_.Boxes i2).Cons), sl A32 L32 C32] sl26 rfl (fun _ => by kernel_rfl) rfl rfl rfl (.s rfl (.f 0 rfl (.nil))) rfl ?_))))
 intro A33 L33 C33
 refine dN [2, 2, 2, 2, 2, 2] 1 (dO 17 rfl (ite_some hL4 ?_))
 intro h24 hL4
 refine ite_some hL4 fun h25 hL4 => o_append (enc := eBox) (xs := q7) (ys := ([(Box.mk ((at_ d_.Boxes i2).Cons) v)] : List Box)) 8 sl26 rfl rfl rfl (.r 0 _ rfl) h24 h25 rfl fun A34 L34 C34 => dN [2, 2, 2, 2, 2, 2] 1 (dv 18 rfl (vF 6) (dO 19 rfl ((sT 1 ty26) (dN [2, 2, 2, 2, 2, 2] 1 (dD ?_)))))
 exact sK [1, 1, 1, 1, 1, 1, 1, 1] [3, 4, 5, 6, 7] (hN6 (q7 ++ ([(Box.mk ((at_ d_.Boxes i2).Cons) v)] : List Box)) A34 L34 C34 hL4)
 refine o_st (st_freeze 0 rfl) (o_buildSlice (enc := eBox) ([(Box.mk ((at_ d_.Boxes i2).Cons) v)] : List Box) [sV ((at_ d_.Boxes i2).Cons), sl A32 L32 C32] sl26 rfl (fun _ => by kernel_rfl) rfl rfl rfl (.s rfl (.f 0 rfl (.nil))) rfl fun A33 L33 C33 => dN [2, 2, 2, 2, 2, 2] 1 (dO 1 rfl (oV (vL 1 ty26) (dN [2, 2, 2, 2, 2, 2] 1 (dO 17 rfl (ite_some hL4 ?_))))))
 intro h24 hL4
 refine ite_some hL4 fun h25 hL4 => o_append (enc := eBox) (xs := q7) (ys := ([(Box.mk ((at_ d_.Boxes i2).Cons) v)] : List Box)) 8 sl26 rfl rfl rfl (.r 0 _ rfl) h24 h25 rfl fun A34 L34 C34 => dN [2, 2, 2, 2, 2, 2] 1 (dv 18 rfl (vF 6) (dO 19 rfl ((sT 1 ty26) (dN [2, 2, 2, 2, 2, 2] 1 (dD ?_)))))
 exact sK [1, 1, 1, 1, 1, 1, 1, 1] [3, 4, 5, 6, 7] (hN6 (q7 ++ ([(Box.mk ((at_ d_.Boxes i2).Cons) v)] : List Box)) A34 L34 C34 hL4)
 intro q7_2 A30 L30 C30 hL4
 unfold F.ref03.Copy_j6 at hL4
 exact sK [0, 0, 0, 0, 0, 0, 0, 0] [0, 1, 2, 3, 4] (hN5 q7_2 A30 L30 C30 hL4)
 intro q7_1 A29 L29 C29 hL4
 unfold F.ref03.Copy_j5 at hL4
 refine sat_wc (c_region (oV vM (oV vB (oV vA (o_nil ?_)))))
 exact lp [0, 0, 0, 0, 0, 0, 0, 0] [0, 1, 2, 3, 4] fun a w hs => ⟨IntKind.wrap .i64 (i2 + 1), q7_1, A29, L29, C29, hL4, hs⟩
 refine c_exit0 ?_
 cases hL4
 exact sK [0, 0, 0, 0, 0, 0, 0, 0] [0, 1, 2, 3, 4] (hN4 A27 L27 C27)
 intro A28 L28 C28
 refine sat_wc (cR (oV (vL 0 ty28) ((sT 1 ty28) (o_seq (c_ret ?_)))))
 cases hF
 refine s_ret1 rfl (r_cell 1 rfl ty28 rfl rfl rfl rfl) fun a w hs => fin_sel hs [3, 3, 3, 3, 3] ⟨A7, L7, C7, A13, L13, C13, A25, L25, C25, A26, L26, C26, A28, L28, C28, rfl, rfl, rfl⟩ rfl sub_nil
theorem tri127 {c : Int} {r : Int} (hF : F.ref02.class_ c = some r) :
    Tri Tryz.prog 127 [iB c] [] [] (oR (iI r)) := by
 unfold F.ref02.class_ at hF
 refine tri_intro (n := 24) Tryz.func127 rfl Tryz.ntmps127 rfl fun w X => cR (oV vA (o_seq (c_seq ?_)))
 refine c_cut (fun E N' => F.ref02.class__j1 = some r → Sat E [(2, iI 0)] [] [] N') (fun N1 hN1 => ?_) ?_
 refine c_block (c_seq ?_)
 refine c_cut (fun E N' => ∀ (t3 : Bool), F.ref02.class__j2 c t3 = some r → Sat E [(0, iB c), (2, iI 0), (3, bV t3)] [] [] N') (fun N5 hN5 => ?_) ?_
 refine c_region (oV vM (oV vB (oV vM ?_)))
 refine oS 6 hF (fun hF => ?_) (fun hF => ?_)
 refine oN (oV vM (oN (oV vB (oV vPt (oV vA (o_nil ?_))))))
 exact sK [] [] (hN5 (decide (c ≤ 90)) hF)
 refine oF (oF (oV vPf (oV vA (o_nil ?_))))
 exact sK [] [] (hN5 false hF)
 intro t3 hF
 unfold F.ref02.class__j2 at hF
 refine sat_wc ?_
 refine c_cut (fun E N' => F.ref02.class__j3 = some r → Sat E [(0, iB c), (2, iI 0)] [] [] N') (fun N3 hN3 => ?_) ?_
 refine cC hF (fun hF => ?_) (fun hF => ?_)
 refine cR (oV vA (o_seq (c_ret ?_)))
 cases hF
 exact sR
 refine c_seq ?_
 refine c_cut (fun E N' => ∀ (t10 : Bool), F.ref02.class__j4 c t10 = some r → Sat E [(0, iB c), (2, iI 0), (10, bV t10)] [] [] N') (fun N5 hN5 => ?_) ?_
 refine c_region (oV vM (oV vB (oV vM ?_)))
 refine oS 13 hF (fun hF => ?_) (fun hF => ?_)
 refine oN (oV vM (oN (oV vB (oV vPt (oV vA (o_nil ?_))))))
 exact sK [] [] (hN5 (decide (c ≤ 122)) hF)
 refine oF (oF (oV vPf (oV vA (o_nil ?_))))
 exact sK [] [] (hN5 false hF)
 intro t10 hF
 unfold F.ref02.class__j4 at hF
 refine sat_wc ?_
 refine cC hF (fun hF => ?_) (fun hF => ?_)
 refine cR (oV vA (o_seq (c_ret ?_)))
 cases hF
 exact sR
 refine c_seq ?_
 refine c_cut (fun E N' => ∀ (t17 : Bool), F.ref02.class__j5 t17 = some r → Sat E [(0, iB c), (2, iI 0), (17, bV t17)] [] [] N') (fun N5 hN5 => ?_) ?_
 refine c_region (oV vM (oV vB (oV vM ?_)))
 refine oS 20 hF (fun hF => ?_) (fun hF => ?_)
 refine oN (oV vM (oN (oV vB (oV vPt (oV vA (o_nil ?_))))))
 exact sK [] [] (hN5 (decide (c ≤ 57)) hF)
 refine oF (oF (oV vPf (oV vA (o_nil ?_))))
 exact sK [] [] (hN5 false hF)
 intro t17 hF
 unfold F.ref02.class__j5 at hF
 refine sat_wc ?_
 refine cC hF (fun hF => ?_) (fun hF => ?_)
 refine cR (oV vA (o_seq (c_ret ?_)))
 cases hF
 exact sR
 refine c_skip ?_
 exact sK [] [] (hN3 hF)
 intro hF
 unfold F.ref02.class__j3 at hF
 exact sK [] [] (hN1 hF)
 intro hF
 unfold F.ref02.class__j1 at hF
 refine sat_wc (cR (oV vA (o_seq (c_ret ?_))))
 cases hF
 exact sR
theorem tri128 {k : Nat} {s : Tx} {at__ : Int} {r : Int} (hF : F.ref02.Far k s at__ = some r) :
    Tri Tryz.prog 128 [sV s, iI at__] [] [] (oR (iI r)) := by
 unfold F.ref02.Far at hF
 refine tri_intro (n := 19) Tryz.func128 rfl Tryz.ntmps128 rfl fun w X => cR (oV vA (o_seq (c_seq ?_)))
 obtain ⟨o1, ho1, hF⟩ := bd hF
 refine c_cut (fun E N' => Sat E [(1, iI o1), (4, iI 0)] [] [] N') (fun N1 hN1 => ?_) ?_
 refine c_block ?_
 refine c_loopE (fun E j a w => ∃ (at__1 : Int), F.ref02.Far_l1 s j at__1 = some o1 ∧ St E [(0, sV s), (1, iI at__1), (4, iI 0)] [] [] a w) k ?_ ?_
 exact lq [] [] fun a w hs => ⟨at__, ho1, hs⟩
 rintro j a w ⟨at__1, hL1, hs⟩
 rcases j with _ | j
 cases hL1
 refine wc_app hs ?_
 unfold F.ref02.Far_l1 at hL1
 refine c_seq (c_seq ?_)
 refine c_cut (fun E N' => ∀ (t15 : Bool), F.ref02.Far_j2 (F.ref02.Far_l1 s j) at__1 t15 = some o1 → Sat E [(0, sV s), (1, iI at__1), (4, iI 0), (15, bV t15)] [] [] N') (fun N2 hN2 => ?_) ?_
 refine c_region (oV vM (oV vM (oV (v_len_str Tryz.underlying9 rfl) (oV vB (oV vM ?_)))))
 refine oS 9 hL1 (fun hL1 => ?_) (fun hL1 => ?_)
 refine oN (oV vM (oN (oV vM (oN (ite_some hL1 ?_)))))
 intro h3 hL1
 refine oV (v_sindex Tryz.underlying9 rfl rfl h3) (oN ?_)
 obtain ⟨v, h4, hL1⟩ := bd hL1
 refine o_callSB call127 rfl lent_nil (tri127 h4 :) rfl (oN (oV vB (oV vPt (o_nil ?_))))
 exact sK [] [] (hN2 (decide (0 < v)) hL1)
 refine oF (oF (oF (oF (oF (oV vPf (o_nil ?_))))))
 exact sK [] [] (hN2 false hL1)
 intro t15 hL1
 unfold F.ref02.Far_j2 at hL1
 refine sat_wc ?_
 refine cC hL1 (fun hL1 => ?_) (fun hL1 => ?_)
 refine c_skip (sat_wc (c_block (c_region (oV vM (oV vB (oV vA (o_nil ?_)))))))
 exact lp [] [] fun a w hs => ⟨IntKind.wrap .i64 (at__1 + 1), hL1, hs⟩
 refine c_exit0 ?_
 cases hL1
 exact sK [] [] (hN1)
 refine sat_wc (cR (oV vM (oV vA (o_seq (c_ret ?_)))))
 cases hF
 exact sR
theorem tri103 {k : Nat} {s : Tx} {r : Bool} (hF : F.ref02.IsName k s = some r) :
    Tri Tryz.prog 103 [sV s] [] [] (oR (bV r)) := by
 unfold F.ref02.IsName at hF
 refine tri_intro (n := 24) Tryz.func103 rfl Tryz.ntmps103 rfl fun w X => cR (oV vA (o_seq (c_seq ?_)))
 refine c_cut (fun E N' => ∀ (t2 : Bool), F.ref02.IsName_j1 t2 = some r → Sat E [(2, bV t2)] [] [] N') (fun N1 hN1 => ?_) ?_
 refine c_region (oV vM (oV (v_len_str Tryz.underlying9 rfl) (oV vB (oV vM ?_))))
 refine oS 6 hF (fun hF => ?_) (fun hF => ?_)
 refine oN (oV vM (oN (oV (v_len_str Tryz.underlying9 rfl) (oN (oV vB (oV vPt (oV vM ?_)))))))
 refine oS 11 hF (fun hF => ?_) (fun hF => ?_)
 refine oN (oV vM (oN (ite_some hF ?_)))
 intro h3 hF
 refine oV (v_sindex Tryz.underlying9 rfl rfl h3) (oN ?_)
 obtain ⟨v, h4, hF⟩ := bd hF
 refine o_callSB call127 rfl lent_nil (tri127 h4 :) rfl (oN (oV vB (oV vPt (oV vM ?_))))
 refine oS 17 hF (fun hF => ?_) (fun hF => ?_)
 refine oN (oV vM (oN ?_))
 obtain ⟨v1, h6, hF⟩ := bd hF
 refine o_callSB call128 rfl lent_nil (tri128 h6 :) rfl (oN (oV vM (oN (oV (v_len_str Tryz.underlying9 rfl) (oN (oV vB (oV vPt (oV vA (o_nil ?_)))))))))
 exact sK [] [] (hN1 (v1 == (s.length : Int)) hF)
 refine oF (oF (oF (oF (oF (oV vPf (oV vA (o_nil ?_)))))))
 exact sK [] [] (hN1 false hF)
 refine oF (oF (oF (oF (oV vPf (oV vM (oF (oF (oF (oF (oF (oV vPf (oV vA (o_nil ?_)))))))))))))
 exact sK [] [] (hN1 false hF)
 refine oF (oF (oF (oV vPf (oV vM (oF (oF (oF (oF (oV vPf (oV vM (oF (oF (oF (oF (oF ?_)))))))))))))))
 refine oV vPf (oV vA (o_nil ?_))
 exact sK [] [] (hN1 false hF)
 intro t2 hF
 unfold F.ref02.IsName_j1 at hF
 refine sat_wc (c_ret ?_)
 cases hF
 exact sR
theorem tri51 {k : Nat} {s : Tx} {empty : Bool} {r : Bool} (hF : F.ref03.name k s empty = some r) :
    Tri Tryz.prog 51 [sV s, bV empty] [] [] (oR (bV r)) := by
 unfold F.ref03.name at hF
 refine tri_intro (n := 14) Tryz.func51 rfl Tryz.ntmps51 rfl fun w X => cR (oV vA (o_seq (cR (oV vM (oV vM ?_)))))
 refine oS 6 hF (fun hF => ?_) (fun hF => ?_)
 refine oN (oV vM (oN (oV (v_streq rfl rfl) (oV vPt (oV vM ?_)))))
 refine oS 10 hF (fun hF => ?_) (fun hF => ?_)
 refine oF (oF (oV vPt (oV vA (o_seq (c_ret ?_)))))
 cases hF
 exact sR
 refine oN (oV vM (oN ?_))
 obtain ⟨v, h3, hF⟩ := bd hF
 refine o_callSB call103 rfl lent_nil (tri103 h3 :) rfl (oV vPf (oV vA (o_seq (c_ret ?_))))
 cases hF
 exact sR
 refine oF (oF (oV vPf (oV vM (oN (oV vM (oN ?_))))))
 obtain ⟨v1, h4, hF⟩ := bd hF
 refine o_callSB call103 rfl lent_nil (tri103 h4 :) rfl (oV vPf (oV vA (o_seq (c_ret ?_))))
 cases hF
 exact sR
theorem tri104 {k : Nat} {s : Sym} {r : Bool} (hF : F.ref03.RightSym k s = some r) :
    Tri Tryz.prog 104 [.agg (vSym s).toArray] [] [] (oR (bV r)) := by
 unfold F.ref03.RightSym at hF
 refine tri_intro (n := 66) Tryz.func104 rfl Tryz.ntmps104 rfl fun w X => cR (o_box rfl rfl rfl fun b => oV vA (o_seq (cR ((fD 0) (oV (vL 0 ty3) (oV (vU (.agg #[iI s.Kind, sV ([] : Tx), iU 0, iU 0, iU 0, iU 0, sV ([] : Tx), sV ([] : Tx)])) (o_alloc zero114 rfl rfl ?_)))))))
 intro b1
 refine (sT 0 ty114) (o_seq (c_seq (c_seq ?_)))
 refine c_region ((fD 0) (oV (vL 1 ty3) (o_seq ?_)))
 refine c_cut (fun E N' => ∀ (Text_ : Tx) (Set_ : S4) (Name_ : Tx) (Sep_ : Tx), F.ref03.RightSym_j1 k s Text_ Set_ Name_ Sep_ = some r → Sat E [(0, .agg (vSym s).toArray), (1, pt b), (2, bV false), (3, pt b1)] [.box b1 114 [iI s.Kind, sV Text_, iU Set_.w0, iU Set_.w1, iU Set_.w2, iU Set_.w3, sV Name_, sV Sep_], .box b 114 (vSym s)] [] N') (fun N2 hN2 => ?_) ?_
 refine c_block (cR (oV vB (oV vA (o_seq ?_))))
 refine c_cut (fun E N' => ∀ (Text_1 : Tx) (Set_1 : S4) (Name_1 : Tx) (Sep_1 : Tx), F.ref03.RightSym_j3 k s Text_1 Set_1 Name_1 Sep_1 = some r → Sat E [(0, .agg (vSym s).toArray), (1, pt b), (2, bV false), (3, pt b1), (8, iI s.Kind)] [.box b1 114 [iI s.Kind, sV Text_1, iU Set_1.w0, iU Set_1.w1, iU Set_1.w2, iU Set_1.w3, sV Name_1, sV Sep_1], .box b 114 (vSym s)] [] N') (fun N3 hN3 => ?_) ?_
 refine cC hF (fun hF => ?_) (fun hF => ?_)
 refine c_region ((fD 1) (oV (vL 1 ty9) ((fD 1) ((sT 0 ty9) (o_nil ?_)))))
 exact sK [0, 0] [] (hN3 s.Text (S4.mk 0 0 0 0) ([] : Tx) ([] : Tx) hF)
 refine cR (oV vB (oV vA (o_seq ?_)))
 refine cC hF (fun hF => ?_) (fun hF => ?_)
 refine c_region ((fD 2) (oV (vL 1 ty44) ((fD 2) ((sT 0 ty44) (o_nil ?_)))))
 exact sK [0, 0] [] (hN3 ([] : Tx) s.Set ([] : Tx) ([] : Tx) hF)
 refine cR (oV vB (oV vA (o_seq ?_)))
 refine c_cut (fun E N' => ∀ (Set_2 : S4) (Sep_2 : Tx), F.ref03.RightSym_j4 k s Set_2 Sep_2 = some r → Sat E [(0, .agg (vSym s).toArray), (1, pt b), (2, bV false), (3, pt b1), (8, iI s.Kind)] [.box b1 114 [iI s.Kind, sV ([] : Tx), iU Set_2.w0, iU Set_2.w1, iU Set_2.w2, iU Set_2.w3, sV s.Name, sV Sep_2], .box b 114 (vSym s)] [] N') (fun N4 hN4 => ?_) ?_
 refine cC hF (fun hF => ?_) (fun hF => ?_)
 refine c_region ((fD 6) (oV (vL 1 ty9) ((fD 6) ((sT 0 ty9) (o_nil ?_)))))
 exact sK [0, 0] [] (hN4 (S4.mk 0 0 0 0) ([] : Tx) hF)
 refine c_seq (cR (oV vB (oV vA (o_seq ?_))))
 refine cT (fun E H Φ N' => ∀ (t24 : Bool), F.ref03.RightSym_j5 k s t24 = some r → Sat E [(0, .agg (vSym s).toArray), (1, pt b), (2, bV false), (3, pt b1), (8, iI s.Kind), (24, bV t24)] H [] N') (fun N6 hN6 => ?_) ?_
 refine cC hF (fun hF => ?_) (fun hF => ?_)
 refine c_skip ?_
 exact sK [0, 0] [] (hN6 (s.Kind == 4) hF)
 refine cR (oV vB (oV vA (o_seq ?_)))
 refine cC hF (fun hF => ?_) (fun hF => ?_)
 refine c_skip ?_
 exact sK [0, 0] [] (hN6 (s.Kind == 5) hF)
 refine c_region (oV vB (oV vA (o_nil ?_)))
 exact sK [0, 0] [] (hN6 (s.Kind == 6) hF)
 intro t24 hF
 unfold F.ref03.RightSym_j5 at hF
 refine sat_wc ?_
 refine cC hF (fun hF => ?_) (fun hF => ?_)
 refine cR ((fD 6) (oV (vL 1 ty9) ((fD 6) ((sT 0 ty9) (o_seq (cR ((fD 6) (oV (vL 1 ty9) (oV (v_streq rfl rfl) (o_seq ?_))))))))))
 refine c_cut (fun E N' => ∀ (Set_3 : S4) (Sep_3 : Tx), F.ref03.RightSym_j6 k s Set_3 Sep_3 = some r → Sat E [(0, .agg (vSym s).toArray), (1, pt b), (2, bV false), (3, pt b1), (8, iI s.Kind), (24, bV t24)] [.box b1 114 [iI s.Kind, sV ([] : Tx), iU Set_3.w0, iU Set_3.w1, iU Set_3.w2, iU Set_3.w3, sV s.Name, sV Sep_3], .box b 114 (vSym s)] [] N') (fun N6 hN6 => ?_) ?_
 refine cC hF (fun hF => ?_) (fun hF => ?_)
 refine c_region ((fD 2) (oV (vL 1 ty44) ((fD 2) ((sT 0 ty44) (o_nil ?_)))))
 exact sK [0, 0] [] (hN6 s.Set ([] : Tx) hF)
 refine cR ((fD 0) (oV (vL 1 ty3) (oV vB (o_seq ?_))))
 refine cC hF (fun hF => ?_) (fun hF => ?_)
 refine c_region ((fD 7) (oV (vL 1 ty9) ((fD 7) ((sT 0 ty9) (o_nil ?_)))))
 exact sK [0, 0] [] (hN6 (S4.mk 0 0 0 0) s.Sep hF)
 refine c_skip ?_
 exact sK [0, 0] [] (hN6 (S4.mk 0 0 0 0) ([] : Tx) hF)
 intro Set_3 Sep_3 hF
 unfold F.ref03.RightSym_j6 at hF
 exact sK [0, 0] [] (hN4 Set_3 Sep_3 hF)
 refine cR (oV vA (o_seq (c_ret ?_)))
 cases hF
 exact sR
 intro Set_2 Sep_2 hF
 unfold F.ref03.RightSym_j4 at hF
 exact sK [0, 0] [] (hN3 ([] : Tx) Set_2 s.Name Sep_2 hF)
 intro Text_1 Set_1 Name_1 Sep_1 hF
 unfold F.ref03.RightSym_j3 at hF
 exact sK [0, 0] [] (hN2 Text_1 Set_1 Name_1 Sep_1 hF)
 intro Text_ Set_ Name_ Sep_ hF
 unfold F.ref03.RightSym_j1 at hF
 refine sat_wc (c_seq ?_)
 refine cT (fun E H Φ N' => ∀ (t2 : Bool), F.ref03.RightSym_j2 t2 = some r → Sat E [(0, .agg (vSym s).toArray), (1, pt b), (2, bV t2), (3, pt b1)] H [] N') (fun N2 hN2 => ?_) ?_
 refine c_region (oV (vL 1 ty114) (oV (vL 0 ty114) (oV (v_ageq 3 rfl rfl (eq114 s.Kind s.Text s.Set.w0 s.Set.w1 s.Set.w2 s.Set.w3 s.Name s.Sep s.Kind Text_ Set_.w0 Set_.w1 Set_.w2 Set_.w3 Name_ Sep_) rfl guard114) (oV vM ?_))))
 refine oS 46 hF (fun hF => ?_) (fun hF => ?_)
 refine oN ((fD 1) (oN (oV (vL 1 ty9) (oN (oV (v_len_str Tryz.underlying9 rfl) (oN (oV vB (oV vPt (oV vM ?_)))))))))
 refine oS 52 hF (fun hF => ?_) (fun hF => ?_)
 refine oN ((fD 7) (oN (oV (vL 1 ty9) (oN (oV (v_len_str Tryz.underlying9 rfl) (oN (oV vB (oV vPt (oV vM ?_)))))))))
 refine oS 58 hF (fun hF => ?_) (fun hF => ?_)
 refine oN ((fD 6) (oN (oV (vL 1 ty9) (oN ((fD 0) (oN (oV (vL 1 ty3) (oN (oV vB (oN ?_))))))))))
 obtain ⟨v, h4, hF⟩ := bd hF
 refine o_callSB call51 rfl lent_nil (tri51 h4 :) rfl (oV vPt (oV vA (o_nil ?_)))
 exact sK [0, 0] [] (hN2 v hF)
 refine oF (oF (oF (oF (oF (oF (oV vPf (oV vA (o_nil ?_))))))))
 exact sK [0, 0] [] (hN2 false hF)
 refine oF (oF (oF (oF (oV vPf (oV vM (oF (oF (oF (oF (oF (oF (oV vPf (oV vA (o_nil ?_))))))))))))))
 exact sK [0, 0] [] (hN2 false hF)
 refine oF (oF (oF (oF (oV vPf (oV vM (oF (oF (oF (oF (oV vPf (oV vM (oF (oF (oF (oF ?_)))))))))))))))
 refine oF (oF (oV vPf (oV vA (o_nil ?_))))
 exact sK [0, 0] [] (hN2 false hF)
 intro t2 hF
 unfold F.ref03.RightSym_j2 at hF
 refine sat_wc (c_ret ?_)
 cases hF
 exact sR
theorem tri52 {k : Nat} {p : Prod} {r : Bool} (hF : F.ref03.rightProd k p = some r) :
    Tri Tryz.prog 52 [.agg (vProd p A1 L1 C1).toArray] [] [fS A1 L1 C1 8 eSym p.Syms] (oR (bV r)) := by
 unfold F.ref03.rightProd at hF
 refine tri_intro (n := 70) Tryz.func52 rfl Tryz.ntmps52 rfl fun w X => cR (o_box rfl rfl rfl fun b => oV vA (o_seq (c_seq (c_seq ?_))))
 refine cT (fun E H Φ N' => ∀ (t25 : Bool), F.ref03.rightProd_j1 k p t25 = some r → Sat E [(0, .agg (vProd p A1 L1 C1).toArray), (1, pt b), (2, bV false), (25, bV t25)] H Φ N') (fun N3 hN3 => ?_) ?_
 refine c_region ((fD 1) (oV (vL 0 ty9) ?_))
 obtain ⟨v1, h18, hF⟩ := bd hF
 refine o_callSB call51 rfl lent_nil (tri51 h18 :) rfl (oV vN (oV vM ?_))
 refine oS 8 hF (fun hF => ?_) (fun hF => ?_)
 refine oF (oF (oF (oF (oV vPt (oV vM (oF (oF (oF (oF (oV vPt (oV vM (oF (oF (oF (oF ?_)))))))))))))))
 refine oV vPt (o_nil ?_)
 exact sK [0] [0] (hN3 true hF)
 refine oN ((fD 2) (oN (oV (vL 0 ty9) (oN ?_))))
 obtain ⟨v2, h20, hF⟩ := bd hF
 refine o_callSB call51 rfl lent_nil (tri51 h20 :) rfl (oN (oV vN (oV vPf (oV vM ?_))))
 refine oS 14 hF (fun hF => ?_) (fun hF => ?_)
 refine oF (oF (oF (oF (oV vPt (oV vM (oF (oF (oF (oF (oV vPt (o_nil ?_)))))))))))
 exact sK [0] [0] (hN3 true hF)
 refine oN ((fD 4) (oN (oV (vL 0 ty55) (oN (oV (v_lenS (enc := eSym) p.Syms sl55 rfl (.f 0 rfl)) (oN (oV vB (oV vPf (oV vM ?_)))))))))
 refine oS 20 hF (fun hF => ?_) (fun hF => ?_)
 refine oF (oF (oF (oF (oV vPt (o_nil ?_)))))
 exact sK [0] [0] (hN3 true hF)
 refine oN ((fD 4) (oN (oV (vL 0 ty55) (oN (oV (v_lenS (enc := eSym) p.Syms sl55 rfl (.f 0 rfl)) (oN (oV vB (oV vPf (o_nil ?_)))))))))
 exact sK [0] [0] (hN3 (decide (12 < (p.Syms.length : Int))) hF)
 intro t25 hF
 unfold F.ref03.rightProd_j1 at hF
 refine sat_wc ?_
 refine cC hF (fun hF => ?_) (fun hF => ?_)
 refine cR (oV vA (o_seq (c_ret ?_)))
 cases hF
 exact sR
 refine c_skip (sat_wc (c_seq (c_seq ?_)))
 refine cT (fun E H Φ N' => ∀ (t55 : Bool), F.ref03.rightProd_j2 k p t55 = some r → Sat E [(0, .agg (vProd p A1 L1 C1).toArray), (1, pt b), (2, bV false), (55, bV t55)] H Φ N') (fun N3 hN3 => ?_) ?_
 refine c_region ((fD 0) (oV (vL 0 ty4) (oV vM ?_)))
 refine oS 28 hF (fun hF => ?_) (fun hF => ?_)
 refine oN ((fD 3) (oN (oV (vL 0 ty4) (oV vPt (oV vM ?_)))))
 refine o_split (t := 32) rfl (fun h8 => ?_) (fun h8 => ?_)
 replace hF := ite_t h8 hF
 refine oF (oF (oF (oF (oU (oU (oU (oF (oF (oU (oU (oU (oF (oV vPt (oV vM (oF ?_)))))))))))))))
 refine oF (oF (oU (oU (oU (oF (oV vPt (o_nil ?_)))))))
 exact sK [0] [0] (hN3 true hF)
 replace hF := ite_f h8 hF
 refine oN ((fD 0) (oN (oV (vL 0 ty4) (oN (oV vN (oN (oV vM ?_)))))))
 refine oS 36 hF (fun hF => ?_) (fun hF => ?_)
 refine oN ((fD 3) (oN (oV (vL 0 ty4) (oN (oV vN (oN (oV vPt (oN (oV vM ?_)))))))))
 refine oS 41 hF (fun hF => ?_) (fun hF => ?_)
 refine oN ((fD 2) (oN (oV (vL 0 ty9) (oN (oV (v_streq rfl rfl) (oN (oV vPt (oV vPf (oV vM ?_)))))))))
 refine oS 47 hF (fun hF => ?_) (fun hF => ?_)
 refine oF (oF (oF (oU (oU (oU (oF (oV vPt (o_nil ?_))))))))
 exact sK [0] [0] (hN3 true hF)
 refine oN ((fD 3) (oN (oV (vL 0 ty4) (oN (oV vM (o_know (t := 50) rfl h8 (oF (oF (oF (oN (oV vPf (oV vPf (o_nil ?_)))))))))))))
 exact sK [0] [0] (hN3 false hF)
 refine oF (oF (oF (oN (oV vPf (oV vPf (oV vM (oN ((fD 3) (oN (oV (vL 0 ty4) (oN (oV vM (o_know (t := 50) rfl h8 (oF (oF ?_)))))))))))))))
 refine oF (oN (oV vPf (oV vPf (o_nil ?_))))
 exact sK [0] [0] (hN3 false hF)
 refine oF (oF (oF (oN (oV vPf (oN (oV vM (oF (oF (oF (oN (oV vPf (oV vPf (oV vM (oN ((fD 3) ?_)))))))))))))))
 refine oN (oV (vL 0 ty4) (oN (oV vM (o_know (t := 50) rfl h8 (oF (oF (oF (oN (oV vPf (oV vPf (o_nil ?_)))))))))))
 exact sK [0] [0] (hN3 false hF)
 refine oF (oF (oV vPf (oV vM (oN ((fD 0) (oN (oV (vL 0 ty4) (oN (oV vN (oN (oV vM ?_)))))))))))
 refine oS 36 hF (fun hF => ?_) (fun hF => ?_)
 refine oN ((fD 3) (oN (oV (vL 0 ty4) (oN (oV vN (oN (oV vPt (oN (oV vM ?_)))))))))
 refine oS 41 hF (fun hF => ?_) (fun hF => ?_)
 refine oN ((fD 2) (oN (oV (vL 0 ty9) (oN (oV (v_streq rfl rfl) (oN (oV vPt (oV vPf (oV vM ?_)))))))))
 refine oS 47 hF (fun hF => ?_) (fun hF => ?_)
 refine oF (oF (oF (oU (oU (oU (oF (oV vPt (o_nil ?_))))))))
 exact sK [0] [0] (hN3 true hF)
 refine oN ((fD 3) (oN (oV (vL 0 ty4) (oN (oV vM ?_)))))
 refine oS 50 hF (fun hF => ?_) (fun hF => ?_)
 refine oN ((fD 2) (oN (oV (vL 0 ty9) (oN (oV (v_strne rfl rfl) (oN (oV vPt (oV vPf (o_nil ?_)))))))))
 exact sK [0] [0] (hN3 (!(p.Cons == ([] : Tx))) hF)
 refine oF (oF (oF (oN (oV vPf (oV vPf (o_nil ?_))))))
 exact sK [0] [0] (hN3 false hF)
 refine oF (oF (oF (oN (oV vPf (oV vPf (oV vM (oN ((fD 3) (oN (oV (vL 0 ty4) (oN (oV vM ?_))))))))))))
 refine oS 50 hF (fun hF => ?_) (fun hF => ?_)
 refine oN ((fD 2) (oN (oV (vL 0 ty9) (oN (oV (v_strne rfl rfl) (oN (oV vPt (oV vPf (o_nil ?_)))))))))
 exact sK [0] [0] (hN3 (!(p.Cons == ([] : Tx))) hF)
 refine oF (oF (oF (oN (oV vPf (oV vPf (o_nil ?_))))))
 exact sK [0] [0] (hN3 false hF)
 refine oF (oF (oF (oN (oV vPf (oN (oV vM (oF (oF (oF (oN (oV vPf (oV vPf (oV vM (oN ((fD 3) ?_)))))))))))))))
 refine oN (oV (vL 0 ty4) (oN (oV vM ?_)))
 refine oS 50 hF (fun hF => ?_) (fun hF => ?_)
 refine oN ((fD 2) (oN (oV (vL 0 ty9) (oN (oV (v_strne rfl rfl) (oN (oV vPt (oV vPf (o_nil ?_)))))))))
 exact sK [0] [0] (hN3 (!(p.Cons == ([] : Tx))) hF)
 refine oF (oF (oF (oN (oV vPf (oV vPf (o_nil ?_))))))
 exact sK [0] [0] (hN3 false hF)
 intro t55 hF
 unfold F.ref03.rightProd_j2 at hF
 refine sat_wc ?_
 refine cC hF (fun hF => ?_) (fun hF => ?_)
 refine cR (oV vA (o_seq (c_ret ?_)))
 cases hF
 exact sR
 refine c_skip (sat_wc (c_seq (cR (oV vA (o_seq ?_)))))
 obtain ⟨o3, ho3, hF⟩ := bd hF
 refine cT (fun E H Φ N' => ∀ (d3 : Unit), o3 = .done d3 → Sat E [(0, .agg (vProd p A1 L1 C1).toArray), (1, pt b), (2, bV false)] H Φ N') (fun N3 hN3 => ?_) ?_
 refine c_block ?_
 refine cL (fun E H Φ j a w => ∃ (i : Int), F.ref03.rightProd_l3 k p j i = some o3 ∧ St E [(0, .agg (vProd p A1 L1 C1).toArray), (1, pt b), (2, bV false), (3, iI i)] H Φ a w) k ?_ ?_
 exact lq [0] [0] fun a w hs => ⟨0, ho3, hs⟩
 rintro j a w ⟨i, hL3, hs⟩
 rcases j with _ | j
 cases hL3
 refine wc_app hs ?_
 unfold F.ref03.rightProd_l3 at hL3
 refine c_seq (cR (oV vM ((fD 4) (oV (vL 0 ty55) (oV (v_lenS (enc := eSym) p.Syms sl55 rfl (.f 0 rfl)) (oV vB (o_seq ?_)))))))
 refine cC hL3 (fun hL3 => ?_) (fun hL3 => ?_)
 refine c_skip (sat_wc (c_seq (c_block (cR ((fD 4) (oV (vL 0 ty55) (oV vM (ite_some hL3 ?_))))))))
 intro h4 hL3
 refine oV (v_indexAddr_s (xs := p.Syms) (enc := eSym) sl55 rfl rfl (.f 0 rfl) h4) (oV (v_load_s (xs := p.Syms) (enc := eSym) ty114 rfl (.f 0 rfl) h4 rfl rfl rfl rfl rfl rfl rfl) ?_)
 obtain ⟨v, h5, hL3⟩ := bd hL3
 refine o_callSB call104 rfl lent_nil (tri104 h5 :) rfl (oV vN (o_seq ?_))
 refine cC hL3 (fun hL3 => ?_) (fun hL3 => ?_)
 refine cR (oV vA (o_seq (c_ret ?_)))
 cases hL3
 obtain rfl := lrf_ret hF
 exact sR
 refine c_skip (sat_wc (c_region (oV vM (oV vB (oV vA (o_nil ?_))))))
 exact lp [0] [0] fun a w hs => ⟨IntKind.wrap .i64 (i + 1), hL3, hs⟩
 refine c_exit0 ?_
 cases hL3
 exact sK [0] [0] (hN3 () rfl)
 intro d3 hd
 subst hd
 replace hF := lrf_done hF
 refine sat_wc (cR (oV vA (o_seq (c_ret ?_))))
 cases hF
 exact sR
theorem tri53 {k : Nat} {l__ : List Group} {r : Bool} (hF : F.ref03.rightChain k l__ = some r) :
    Tri Tryz.prog 53 [sl A1 L1 C1] [] [fS A1 L1 C1 2 eGroup l__] (oR (bV r)) := by
 unfold F.ref03.rightChain at hF
 refine tri_intro (n := 58) Tryz.func53 rfl Tryz.ntmps53 rfl fun w X => cR (oV vA (o_seq (c_seq (cR (oV vM (oV (v_lenS (enc := eGroup) l__ sl58 rfl (.f 0 rfl)) (oV vB (oV vM ?_))))))))
 refine oS 9 hF (fun hF => ?_) (fun hF => ?_)
 refine oF (oF (oF (oV vPt (o_seq ?_))))
 refine c_cond rfl (fun _ => ?_) (fun h => Bool.noConfusion h)
 refine cR (oV vA (o_seq (c_ret ?_)))
 cases hF
 exact sR
 refine oN (oV vM (oN (oV (v_lenS (enc := eGroup) l__ sl58 rfl (.f 0 rfl)) (oN (oV vB (oV vPf (o_seq ?_)))))))
 refine cC hF (fun hF => ?_) (fun hF => ?_)
 refine cR (oV vA (o_seq (c_ret ?_)))
 cases hF
 exact sR
 refine c_skip (sat_wc (c_seq (cR (oV vA (o_seq ?_)))))
 obtain ⟨o1, ho1, hF⟩ := bd hF
 refine cT (fun E H Φ N' => ∀ (d1 : Unit), o1 = .done d1 → Sat E [(0, sl A1 L1 C1), (2, bV false)] [] Φ N') (fun N1 hN1 => ?_) ?_
 refine c_block ?_
 refine cL (fun E H Φ j a w => ∃ (i : Int), F.ref03.rightChain_l1 k l__ j i = some o1 ∧ St E [(0, sl A1 L1 C1), (2, bV false), (3, iI i)] [] Φ a w) k ?_ ?_
 exact lq [] [0] fun a w hs => ⟨0, ho1, hs⟩
 rintro j a w ⟨i, hL1, hs⟩
 rcases j with _ | j
 cases hL1
 refine wc_app hs ?_
 unfold F.ref03.rightChain_l1 at hL1
 refine c_seq (cR (oV vM (oV vM (oV (v_lenS (enc := eGroup) l__ sl58 rfl (.f 0 rfl)) (oV vB (o_seq ?_))))))
 refine cC hL1 (fun hL1 => ?_) (fun hL1 => ?_)
 refine c_skip (sat_wc (c_seq (c_block (cR (oV vM (oV vM (ite_some hL1 ?_)))))))
 intro h4 hL1
 refine oV (v_indexAddr_s (xs := l__) (enc := eGroup) sl58 rfl rfl (.f 0 rfl) h4) (o_load_s (xs := l__) (enc := eGroup) ty61 rfl (.f 0 rfl) h4 rfl rfl rfl rfl rfl rfl ?_)
 intro A2 L2 C2
 refine o_alloc zero61 rfl rfl fun b => (sT 0 ty61) (o_seq (c_seq (c_seq ?_)))
 refine cT (fun E H Φ N' => ∀ (t43 : Bool), F.ref03.rightChain_j2 k l__ i (F.ref03.rightChain_l1 k l__ j) t43 = some o1 → Sat E [(0, sl A1 L1 C1), (2, bV false), (3, iI i), (4, pt b), (43, bV t43)] H [fS A1 L1 C1 2 eGroup l__, fS A2 L2 C2 1 eStr ((at_ l__ i).Cons)] N') (fun N3 hN3 => ?_) ?_
 refine c_region ((fD 0) (oV (vL 0 ty3) (oV vB (oV vM ?_))))
 refine oS 27 hL1 (fun hL1 => ?_) (fun hL1 => ?_)
 refine oF (oF (oF (oV vPt (oV vM (oF (oF (oF (oF (oV vPt (oV vM (oF (oF (oF (oF (oV vPt ?_)))))))))))))))
 refine o_nil ?_
 exact sK [0] [1, 0] (hN3 true hL1)
 refine oN ((fD 0) (oN (oV (vL 0 ty3) (oN (oV vB (oV vPf (oV vM ?_)))))))
 refine oS 32 hL1 (fun hL1 => ?_) (fun hL1 => ?_)
 refine oF (oF (oF (oF (oV vPt (oV vM (oF (oF (oF (oF (oV vPt (o_nil ?_)))))))))))
 exact sK [0] [1, 0] (hN3 true hL1)
 refine oN ((fD 1) (oN (oV (vL 0 ty59) (oN (oV (v_lenS (enc := eStr) ((at_ l__ i).Cons) sl59 rfl (.f 0 rfl)) (oN (oV vB (oV vPf (oV vM ?_)))))))))
 refine oS 38 hL1 (fun hL1 => ?_) (fun hL1 => ?_)
 refine oF (oF (oF (oF (oV vPt (o_nil ?_)))))
 exact sK [0] [1, 0] (hN3 true hL1)
 refine oN ((fD 1) (oN (oV (vL 0 ty59) (oN (oV (v_lenS (enc := eStr) ((at_ l__ i).Cons) sl59 rfl (.f 0 rfl)) (oN (oV vB (oV vPf (o_nil ?_)))))))))
 exact sK [0] [1, 0] (hN3 (decide (16 < (((at_ l__ i).Cons).length : Int))) hL1)
 intro t43 hL1
 unfold F.ref03.rightChain_j2 at hL1
 refine sat_wc ?_
 refine cC hL1 (fun hL1 => ?_) (fun hL1 => ?_)
 refine cR (oV vA (o_seq (c_ret ?_)))
 cases hL1
 obtain rfl := lrf_ret hF
 exact sR
 refine c_skip (sat_wc (cR (oV vA (o_seq ?_))))
 obtain ⟨o3, ho3, hL1⟩ := bd hL1
 refine cT (fun E H Φ N' => ∀ (d3 : Int), o3 = .done d3 → Sat E [(0, sl A1 L1 C1), (2, bV false), (3, iI i), (4, pt b), (5, iI d3)] H Φ N') (fun N3 hN3 => ?_) ?_
 refine c_block ?_
 refine cL (fun E H Φ j a w => ∃ (k_ : Int), F.ref03.rightChain_l3 k l__ i j k_ = some o3 ∧ St E [(0, sl A1 L1 C1), (2, bV false), (3, iI i), (4, pt b), (5, iI k_)] H Φ a w) k ?_ ?_
 exact lq [0] [0, 1] fun a w hs => ⟨0, ho3, hs⟩
 rintro j a w ⟨k_, hL3, hs⟩
 rcases j with _ | j
 cases hL3
 refine wc_app hs ?_
 unfold F.ref03.rightChain_l3 at hL3
 refine c_seq (cR (oV vM ((fD 1) (oV (vL 0 ty59) (oV (v_lenS (enc := eStr) ((at_ l__ i).Cons) sl59 rfl (.f 1 rfl)) (oV vB (o_seq ?_)))))))
 refine cC hL3 (fun hL3 => ?_) (fun hL3 => ?_)
 refine c_skip (sat_wc (c_seq (c_block (cR ((fD 1) (oV (vL 0 ty59) (oV vM (ite_some hL3 ?_))))))))
 intro h7 hL3
 refine oV (v_indexAddr_s (xs := (at_ l__ i).Cons) (enc := eStr) sl59 rfl rfl (.f 1 rfl) h7) (oV (v_load_s (xs := (at_ l__ i).Cons) (enc := eStr) ty9 rfl (.f 1 rfl) h7 rfl rfl rfl rfl rfl rfl rfl) ?_)
 obtain ⟨v, h8, hL3⟩ := bd hL3
 refine o_callSB call51 rfl lent_nil (tri51 h8 :) rfl (oV vN (o_seq ?_))
 refine cC hL3 (fun hL3 => ?_) (fun hL3 => ?_)
 refine cR (oV vA (o_seq (c_ret ?_)))
 cases hL3
 obtain rfl := lr_ret hL1
 obtain rfl := lrf_ret hF
 exact sR
 refine c_skip (sat_wc (c_region (oV vM (oV vB (oV vA (o_nil ?_))))))
 exact lp [0] [0, 1] fun a w hs => ⟨IntKind.wrap .i64 (k_ + 1), hL3, hs⟩
 refine c_exit0 ?_
 cases hL3
 exact sK [0] [0, 1] (hN3 k_ rfl)
 intro d3 hd
 subst hd
 replace hL1 := lr_done hL1
 refine sat_wc (c_region (oV vM (oV vB (oV vA (o_nil ?_)))))
 exact lp [] [0] fun a w hs => ⟨IntKind.wrap .i64 (i + 1), hL1, hs⟩
 refine c_exit0 ?_
 cases hL1
 exact sK [] [0] (hN1 () rfl)
 intro d1 hd
 subst hd
 replace hF := lrf_done hF
 refine sat_wc (cR (oV vA (o_seq (c_ret ?_))))
 cases hF
 exact sR
theorem tri54_B (k : Nat) (g54 : List Item → Int → Option Int)
    (hg54 : ∀ {l__ : List Item} {n : Int} {A1 : OA} {L1 C1 : Nat} {r : Int}, g54 l__ n = some r → Tri Tryz.prog 54 [sl A1 L1 C1, iI n] [] [fS A1 L1 C1 4 eItem l__] (oR (iI r))) {l__ : List Item} {n : Int} {A1 : OA} {L1 C1 : Nat} {r : Int} (hF : F.ref03.rightItems_B k g54 l__ n = some r) :
    Tri Tryz.prog 54 [sl A1 L1 C1, iI n] [] [fS A1 L1 C1 4 eItem l__] (oR (iI r)) := by
 unfold F.ref03.rightItems_B at hF
 refine tri_intro (n := 88) Tryz.func54 rfl Tryz.ntmps54 rfl fun w X => cR (oV vA (o_seq (c_seq (cR (oV vA (o_seq ?_))))))
 obtain ⟨o1, ho1, hF⟩ := bd hF
 refine c_cut (fun E N' => ∀ (d1 : Int), o1 = .done d1 → Sat E [(1, iI d1), (4, iI 0)] [] [] N') (fun N1 hN1 => ?_) ?_
 refine c_block ?_
 refine cL (fun E H Φ j a w => ∃ (n1 : Int) (i : Int), F.ref03.rightItems_l1 l__ g54 j n1 i = some o1 ∧ St E [(0, sl A1 L1 C1), (1, iI n1), (4, iI 0), (5, iI i)] [] Φ a w) k ?_ ?_
 exact lq [] [0] fun a w hs => ⟨n, 0, ho1, hs⟩
 rintro j a w ⟨n1, i, hL1, hs⟩
 rcases j with _ | j
 cases hL1
 refine wc_app hs ?_
 unfold F.ref03.rightItems_l1 at hL1
 refine c_seq (cR (oV vM (oV vM (oV (v_lenS (enc := eItem) l__ sl62 rfl (.f 0 rfl)) (oV vB (o_seq ?_))))))
 refine cC hL1 (fun hL1 => ?_) (fun hL1 => ?_)
 refine c_skip (sat_wc (c_seq (c_block (cR (oV vM (oV vB (oV vA (o_seq (cR (oV vM (oV vM (ite_some hL1 ?_))))))))))))
 intro h2 hL1
 refine oV (v_indexAddr_s (xs := l__) (enc := eItem) sl62 rfl rfl (.f 0 rfl) h2) ?_
 refine o_load_s (ds := [.int .i64 ((at_ l__ i).Kind), .str ((at_ l__ i).Text), .int .i64 ((at_ l__ i).N_), .slice 4 (((at_ l__ i).Items).map eItem)]) (xs := l__) (enc := eItem) ty124 rfl (.f 0 rfl) h2 (by simp only [eItem_eq] <;> rfl) rfl rfl rfl rfl rfl fun A2 L2 C2 => o_alloc zero124 rfl rfl fun b => (sT 0 ty124) (o_seq (c_seq (c_seq ?_)))
 refine cT (fun E H Φ N' => ∀ (t46 : Bool), F.ref03.rightItems_j2 l__ i g54 n1 (F.ref03.rightItems_l1 l__ g54 j) t46 = some o1 → Sat E [(0, sl A1 L1 C1), (1, iI (IntKind.wrap .i64 (n1 + 1))), (4, iI 0), (5, iI i), (6, pt b), (46, bV t46)] H [fS A1 L1 C1 4 eItem l__, fS A2 L2 C2 4 eItem ((at_ l__ i).Items)] N') (fun N3 hN3 => ?_) ?_
 refine c_region (oV vM (oV vB (oV vM ?_)))
 refine oS 21 hL1 (fun hL1 => ?_) (fun hL1 => ?_)
 refine oF (oF (oF (oV vPt (oV vM (oF (oF (oF (oV vPt (oV vM (oF (oF (oF (oF (oV vPt (oV vM ?_)))))))))))))))
 refine oF (oF (oF (oV vPt (oV vM (oF (oF (oF (oV vPt (o_nil ?_)))))))))
 exact sK [0] [1, 0] (hN3 true hL1)
 refine oN ((fD 2) (oN (oV (vL 0 ty3) (oN (oV vB (oV vPf (oV vM ?_)))))))
 refine oS 26 hL1 (fun hL1 => ?_) (fun hL1 => ?_)
 refine oF (oF (oF (oV vPt (oV vM (oF (oF (oF (oF (oV vPt (oV vM (oF (oF (oF (oV vPt (oV vM ?_)))))))))))))))
 refine oF (oF (oF (oV vPt (o_nil ?_))))
 exact sK [0] [1, 0] (hN3 true hL1)
 refine oN ((fD 2) (oN (oV (vL 0 ty3) (oN (oV vB (oV vPf (oV vM ?_)))))))
 refine oS 31 hL1 (fun hL1 => ?_) (fun hL1 => ?_)
 refine oF (oF (oF (oF (oV vPt (oV vM (oF (oF (oF (oV vPt (oV vM (oF (oF (oF (oV vPt (o_nil ?_)))))))))))))))
 exact sK [0] [1, 0] (hN3 true hL1)
 refine oN ((fD 1) (oN (oV (vL 0 ty9) (oN (oV (v_len_str Tryz.underlying9 rfl) (oN (oV vB (oV vPf (oV vM ?_)))))))))
 refine oS 37 hL1 (fun hL1 => ?_) (fun hL1 => ?_)
 refine oF (oF (oF (oV vPt (oV vM (oF (oF (oF (oV vPt (o_nil ?_)))))))))
 exact sK [0] [1, 0] (hN3 true hL1)
 refine oN ((fD 0) (oN (oV (vL 0 ty3) (oN (oV vB (oV vPf (oV vM ?_)))))))
 refine oS 42 hL1 (fun hL1 => ?_) (fun hL1 => ?_)
 refine oF (oF (oF (oV vPt (o_nil ?_))))
 exact sK [0] [1, 0] (hN3 true hL1)
 refine oN ((fD 0) (oN (oV (vL 0 ty3) (oN (oV vB (oV vPf (o_nil ?_)))))))
 exact sK [0] [1, 0] (hN3 (decide (6 < ((at_ l__ i).Kind))) hL1)
 intro t46 hL1
 unfold F.ref03.rightItems_j2 at hL1
 refine sat_wc ?_
 refine cC hL1 (fun hL1 => ?_) (fun hL1 => ?_)
 refine cR (oV vA (o_seq (c_ret ?_)))
 cases hL1
 obtain rfl := lrf_ret hF
 exact sR
 refine c_skip (sat_wc (c_seq (c_seq ?_)))
 refine cT (fun E H Φ N' => ∀ (t80 : Bool), F.ref03.rightItems_j3 g54 l__ i n1 (F.ref03.rightItems_l1 l__ g54 j) t80 = some o1 → Sat E [(0, sl A1 L1 C1), (1, iI (IntKind.wrap .i64 (n1 + 1))), (4, iI 0), (5, iI i), (6, pt b), (80, bV t80)] H Φ N') (fun N3 hN3 => ?_) ?_
 refine c_region ((fD 0) (oV (vL 0 ty3) (oV vB (oV vM ?_))))
 refine oS 50 hL1 (fun hL1 => ?_) (fun hL1 => ?_)
 refine oN ((fD 1) (oN (oV (vL 0 ty9) (oN (oV (v_strne rfl rfl) (oV vPt (oV vM ?_)))))))
 refine oS 55 hL1 (fun hL1 => ?_) (fun hL1 => ?_)
 refine oF (oF (oF (oF (oU (oU (oU (oF (oF (oU (oU (oU (oF (oV vPt (oV vM (oF ?_)))))))))))))))
 refine oF (oF (oF (oU (oU (oU (oU (oF (oV vPt (o_nil ?_)))))))))
 exact sK [0] [0, 1] (hN3 true hL1)
 refine oN ((fD 0) (oN (oV (vL 0 ty3) (oN (oV vB (oN (oV vM ?_)))))))
 refine oS 59 hL1 (fun hL1 => ?_) (fun hL1 => ?_)
 refine oN ((fD 0) (oN (oV (vL 0 ty3) (oN (oV vB (oN (oV vPt (oN (oV vM ?_)))))))))
 refine oS 64 hL1 (fun hL1 => ?_) (fun hL1 => ?_)
 refine oN ((fD 2) (oN (oV (vL 0 ty3) (oN (oV vB (oN (oV vPt (oV vPf (oV vM ?_)))))))))
 refine oS 70 hL1 (fun hL1 => ?_) (fun hL1 => ?_)
 refine oF (oF (oF (oF (oU (oU (oU (oU (oF (oV vPt (o_nil ?_))))))))))
 exact sK [0] [0, 1] (hN3 true hL1)
 refine oN ((fD 0) (oN (oV (vL 0 ty3) (oN (oV vB (oN (oV vM ?_)))))))
 refine oS 74 hL1 (fun hL1 => ?_) (fun hL1 => ?_)
 refine oN ((fD 3) (oN (oV (vL 0 ty62) (oN (oV (v_lenS (enc := eItem) ((at_ l__ i).Items) sl62 rfl (.f 1 rfl)) (oN (oV vB (oN (oV vPt (oV vPf (o_nil ?_)))))))))))
 exact sK [0] [0, 1] (hN3 (decide (0 < (((at_ l__ i).Items).length : Int))) hL1)
 refine oF (oF (oF (oF (oN (oV vPf (oV vPf (o_nil ?_)))))))
 exact sK [0] [0, 1] (hN3 false hL1)
 refine oF (oF (oF (oN (oV vPf (oV vPf (oV vM (oN ((fD 0) (oN (oV (vL 0 ty3) (oN (oV vB (oN (oV vM ?_))))))))))))))
 refine oS 74 hL1 (fun hL1 => ?_) (fun hL1 => ?_)
 refine oN ((fD 3) (oN (oV (vL 0 ty62) (oN (oV (v_lenS (enc := eItem) ((at_ l__ i).Items) sl62 rfl (.f 1 rfl)) (oN (oV vB (oN (oV vPt (oV vPf (o_nil ?_)))))))))))
 exact sK [0] [0, 1] (hN3 (decide (0 < (((at_ l__ i).Items).length : Int))) hL1)
 refine oF (oF (oF (oF (oN (oV vPf (oV vPf (o_nil ?_)))))))
 exact sK [0] [0, 1] (hN3 false hL1)
 refine oF (oF (oF (oN (oV vPf (oN (oV vM (oF (oF (oF (oN (oV vPf (oV vPf (oV vM (oN ((fD 0) ?_)))))))))))))))
 refine oN (oV (vL 0 ty3) (oN (oV vB (oN (oV vM ?_)))))
 refine oS 74 hL1 (fun hL1 => ?_) (fun hL1 => ?_)
 refine oN ((fD 3) (oN (oV (vL 0 ty62) (oN (oV (v_lenS (enc := eItem) ((at_ l__ i).Items) sl62 rfl (.f 1 rfl)) (oN (oV vB (oN (oV vPt (oV vPf (o_nil ?_)))))))))))
 exact sK [0] [0, 1] (hN3 (decide (0 < (((at_ l__ i).Items).length : Int))) hL1)
 refine oF (oF (oF (oF (oN (oV vPf (oV vPf (o_nil ?_)))))))
 exact sK [0] [0, 1] (hN3 false hL1)
 refine oF (oF (oF (oV vPf (oV vM (oN ((fD 0) (oN (oV (vL 0 ty3) (oN (oV vB (oN (oV vM ?_))))))))))))
 refine oS 59 hL1 (fun hL1 => ?_) (fun hL1 => ?_)
 refine oN ((fD 0) (oN (oV (vL 0 ty3) (oN (oV vB (oN (oV vPt (oN (oV vM ?_)))))))))
 refine oS 64 hL1 (fun hL1 => ?_) (fun hL1 => ?_)
 refine oN ((fD 2) (oN (oV (vL 0 ty3) (oN (oV vB (oN (oV vPt (oV vPf (oV vM ?_)))))))))
 refine oS 70 hL1 (fun hL1 => ?_) (fun hL1 => ?_)
 refine oF (oF (oF (oF (oU (oU (oU (oU (oF (oV vPt (o_nil ?_))))))))))
 exact sK [0] [0, 1] (hN3 true hL1)
 refine oN ((fD 0) (oN (oV (vL 0 ty3) (oN (oV vB (oN (oV vM ?_)))))))
 refine oS 74 hL1 (fun hL1 => ?_) (fun hL1 => ?_)
 refine oN ((fD 3) (oN (oV (vL 0 ty62) (oN (oV (v_lenS (enc := eItem) ((at_ l__ i).Items) sl62 rfl (.f 1 rfl)) (oN (oV vB (oN (oV vPt (oV vPf (o_nil ?_)))))))))))
 exact sK [0] [0, 1] (hN3 (decide (0 < (((at_ l__ i).Items).length : Int))) hL1)
 refine oF (oF (oF (oF (oN (oV vPf (oV vPf (o_nil ?_)))))))
 exact sK [0] [0, 1] (hN3 false hL1)
 refine oF (oF (oF (oN (oV vPf (oV vPf (oV vM (oN ((fD 0) (oN (oV (vL 0 ty3) (oN (oV vB (oN (oV vM ?_))))))))))))))
 refine oS 74 hL1 (fun hL1 => ?_) (fun hL1 => ?_)
 refine oN ((fD 3) (oN (oV (vL 0 ty62) (oN (oV (v_lenS (enc := eItem) ((at_ l__ i).Items) sl62 rfl (.f 1 rfl)) (oN (oV vB (oN (oV vPt (oV vPf (o_nil ?_)))))))))))
 exact sK [0] [0, 1] (hN3 (decide (0 < (((at_ l__ i).Items).length : Int))) hL1)
 refine oF (oF (oF (oF (oN (oV vPf (oV vPf (o_nil ?_)))))))
 exact sK [0] [0, 1] (hN3 false hL1)
 refine oF (oF (oF (oN (oV vPf (oN (oV vM (oF (oF (oF (oN (oV vPf (oV vPf (oV vM (oN ((fD 0) ?_)))))))))))))))
 refine oN (oV (vL 0 ty3) (oN (oV vB (oN (oV vM ?_)))))
 refine oS 74 hL1 (fun hL1 => ?_) (fun hL1 => ?_)
 refine oN ((fD 3) (oN (oV (vL 0 ty62) (oN (oV (v_lenS (enc := eItem) ((at_ l__ i).Items) sl62 rfl (.f 1 rfl)) (oN (oV vB (oN (oV vPt (oV vPf (o_nil ?_)))))))))))
 exact sK [0] [0, 1] (hN3 (decide (0 < (((at_ l__ i).Items).length : Int))) hL1)
 refine oF (oF (oF (oF (oN (oV vPf (oV vPf (o_nil ?_)))))))
 exact sK [0] [0, 1] (hN3 false hL1)
 intro t80 hL1
 unfold F.ref03.rightItems_j3 at hL1
 refine sat_wc ?_
 refine cC hL1 (fun hL1 => ?_) (fun hL1 => ?_)
 refine cR (oV vA (o_seq (c_ret ?_)))
 cases hL1
 obtain rfl := lrf_ret hF
 exact sR
 refine c_skip (sat_wc (cR ((fD 3) (oV (vL 0 ty62) (oV vM ?_)))))
 obtain ⟨v, h5, hL1⟩ := bd hL1
 refine o_callSB call54 rfl (lent_f 1 rfl lent_nil) (hg54 h5 :) rfl (oV vA (o_seq (cR (oV vM (oV vB (o_seq ?_))))))
 refine cC hL1 (fun hL1 => ?_) (fun hL1 => ?_)
 refine cR (oV vA (o_seq (c_ret ?_)))
 cases hL1
 obtain rfl := lrf_ret hF
 exact sR
 refine c_skip (sat_wc (c_region (oV vM (oV vB (oV vA (o_nil ?_))))))
 exact lp [] [0] fun a w hs => ⟨v, IntKind.wrap .i64 (i + 1), hL1, hs⟩
 refine c_exit0 ?_
 cases hL1
 exact sK [] [] (hN1 n1 rfl)
 intro d1 hd
 subst hd
 replace hF := lrf_done hF
 refine sat_wc (cR (oV vM (oV vA (o_seq (c_ret ?_)))))
 cases hF
 exact sR
theorem tri54 (k : Nat) : (∀ {l__ : List Item} {n : Int} {A1 : OA} {L1 C1 : Nat} {r : Int}, F.ref03.rightItems k l__ n = some r → Tri Tryz.prog 54 [sl A1 L1 C1, iI n] [] [fS A1 L1 C1 4 eItem l__] (oR (iI r))) := by
 induction k with
 | zero => exact fun h => nomatch (show none = some _ from h)
 | succ k ih => exact tri54_B k _ ih
theorem tri22 {k : Nat} {d_ : Def} {r : Bool} (hF : F.ref03.Right k d_ = some r) :
    Tri Tryz.prog 22 [.agg (vDef d_ A1 L1 C1 A2 L2 C2 A3 L3 C3 A4 L4 C4 A5 L5 C5).toArray] [] [fS A1 L1 C1 5 eProd d_.Prods, fS A2 L2 C2 1 (eSl 2 eGroup) d_.Chains, fS A3 L3 C3 5 eFollow d_.Follows, fS A4 L4 C4 2 eReject d_.Rejects, fS A5 L5 C5 2 eBox d_.Boxes] (oR (bV r)) := by
 unfold F.ref03.Right at hF
 refine tri_intro (n := 117) Tryz.func22 rfl Tryz.ntmps22 rfl fun w X => cR (o_box rfl rfl rfl fun b => oV vA (o_seq (c_seq (cR ((fD 0) (oV (vL 0 ty9) ?_))))))
 obtain ⟨v, h1, hF⟩ := bd hF
 refine o_callSB call51 rfl lent_nil (tri51 h1 :) rfl (oV vN (oV vM ?_))
 refine oS 12 hF (fun hF => ?_) (fun hF => ?_)
 refine oF (oF (oF (oF (oV vPt (oV vM (oF (oF (oF (oF (oV vPt (o_seq ?_)))))))))))
 refine c_cond rfl (fun _ => ?_) (fun h => Bool.noConfusion h)
 refine cR (oV vA (o_seq (c_ret ?_)))
 cases hF
 exact sR
 refine oN ((fD 1) (oN (oV (vL 0 ty9) (oN ?_))))
 obtain ⟨v1, h3, hF⟩ := bd hF
 refine o_callSB call51 rfl lent_nil (tri51 h3 :) rfl (oN (oV vN (oV vPf (oV vM ?_))))
 refine oS 18 hF (fun hF => ?_) (fun hF => ?_)
 refine oF (oF (oF (oF (oV vPt (o_seq ?_)))))
 refine c_cond rfl (fun _ => ?_) (fun h => Bool.noConfusion h)
 refine cR (oV vA (o_seq (c_ret ?_)))
 cases hF
 exact sR
 refine oN ((fD 2) (oN (oV (vL 0 ty22) (oN (oV (v_lenS (enc := eProd) d_.Prods sl22 rfl (.f 0 rfl)) (oN (oV vB (oV vPf (o_seq ?_)))))))))
 refine cC hF (fun hF => ?_) (fun hF => ?_)
 refine cR (oV vA (o_seq (c_ret ?_)))
 cases hF
 exact sR
 refine c_skip (sat_wc (c_seq (cR (oV vA (o_seq ?_)))))
 obtain ⟨o1, ho1, hF⟩ := bd hF
 refine cT (fun E H Φ N' => ∀ (d1 : Unit), o1 = .done d1 → Sat E [(0, .agg (vDef d_ A1 L1 C1 A2 L2 C2 A3 L3 C3 A4 L4 C4 A5 L5 C5).toArray), (1, pt b), (2, bV false)] H Φ N') (fun N1 hN1 => ?_) ?_
 refine c_block ?_
 refine cL (fun E H Φ j a w => ∃ (i : Int), F.ref03.Right_l1 k d_ j i = some o1 ∧ St E [(0, .agg (vDef d_ A1 L1 C1 A2 L2 C2 A3 L3 C3 A4 L4 C4 A5 L5 C5).toArray), (1, pt b), (2, bV false), (3, iI i)] H Φ a w) k ?_ ?_
 exact lq [0] [0, 1, 2, 3, 4] fun a w hs => ⟨0, ho1, hs⟩
 rintro j a w ⟨i, hL1, hs⟩
 rcases j with _ | j
 cases hL1
 refine wc_app hs ?_
 unfold F.ref03.Right_l1 at hL1
 refine c_seq (cR (oV vM ((fD 2) (oV (vL 0 ty22) (oV (v_lenS (enc := eProd) d_.Prods sl22 rfl (.f 0 rfl)) (oV vB (o_seq ?_)))))))
 refine cC hL1 (fun hL1 => ?_) (fun hL1 => ?_)
 refine c_skip (sat_wc (c_seq (c_block (cR ((fD 2) (oV (vL 0 ty22) (oV vM (ite_some hL1 ?_))))))))
 intro h7 hL1
 refine oV (v_indexAddr_s (xs := d_.Prods) (enc := eProd) sl22 rfl rfl (.f 0 rfl) h7) (o_load_s (xs := d_.Prods) (enc := eProd) ty57 rfl (.f 0 rfl) h7 rfl rfl rfl rfl rfl rfl ?_)
 intro A6 L6 C6
 refine ?_
 obtain ⟨v2, h8, hL1⟩ := bd hL1
 refine o_callSB call52 rfl (lent_f 0 rfl lent_nil) (tri52 h8 :) rfl (oV vN (o_seq ?_))
 refine cC hL1 (fun hL1 => ?_) (fun hL1 => ?_)
 refine cR (oV vA (o_seq (c_ret ?_)))
 cases hL1
 obtain rfl := lrf_ret hF
 exact sR
 refine c_skip (sat_wc (c_region (oV vM (oV vB (oV vA (o_nil ?_))))))
 exact lp [0] [1, 2, 3, 4, 5] fun a w hs => ⟨IntKind.wrap .i64 (i + 1), hL1, hs⟩
 refine c_exit0 ?_
 cases hL1
 exact sK [0] [0, 1, 2, 3, 4] (hN1 () rfl)
 intro d1 hd
 subst hd
 replace hF := lrf_done hF
 refine sat_wc (c_seq (cR (oV vA (o_seq ?_))))
 obtain ⟨o2, ho2, hF⟩ := bd hF
 refine cT (fun E H Φ N' => ∀ (d2 : Unit), o2 = .done d2 → Sat E [(0, .agg (vDef d_ A1 L1 C1 A2 L2 C2 A3 L3 C3 A4 L4 C4 A5 L5 C5).toArray), (1, pt b), (2, bV false)] H Φ N') (fun N2 hN2 => ?_) ?_
 refine c_block ?_
 refine cL (fun E H Φ j a w => ∃ (i1 : Int), F.ref03.Right_l2 k d_ j i1 = some o2 ∧ St E [(0, .agg (vDef d_ A1 L1 C1 A2 L2 C2 A3 L3 C3 A4 L4 C4 A5 L5 C5).toArray), (1, pt b), (2, bV false), (4, iI i1)] H Φ a w) k ?_ ?_
 exact lq [0] [0, 1, 2, 3, 4] fun a w hs => ⟨0, ho2, hs⟩
 rintro j a w ⟨i1, hL2, hs⟩
 rcases j with _ | j
 cases hL2
 refine wc_app hs ?_
 unfold F.ref03.Right_l2 at hL2
 refine c_seq (cR (oV vM ((fD 3) (oV (vL 0 ty23) (oV (v_lenS (enc := (eSl 2 eGroup)) d_.Chains sl23 rfl (.f 1 rfl)) (oV vB (o_seq ?_)))))))
 refine cC hL2 (fun hL2 => ?_) (fun hL2 => ?_)
 refine c_skip (sat_wc (c_seq (c_block (cR ((fD 3) (oV (vL 0 ty23) (oV vM (ite_some hL2 ?_))))))))
 intro h11 hL2
 refine oV (v_indexAddr_s (xs := d_.Chains) (enc := (eSl 2 eGroup)) sl23 rfl rfl (.f 1 rfl) h11) (o_load_s (xs := d_.Chains) (enc := (eSl 2 eGroup)) ty58 rfl (.f 1 rfl) h11 rfl rfl rfl rfl rfl rfl ?_)
 intro A7 L7 C7
 refine ?_
 obtain ⟨v3, h12, hL2⟩ := bd hL2
 refine o_callSB call53 rfl (lent_f 0 rfl lent_nil) (tri53 h12 :) rfl (oV vN (o_seq ?_))
 refine cC hL2 (fun hL2 => ?_) (fun hL2 => ?_)
 refine cR (oV vA (o_seq (c_ret ?_)))
 cases hL2
 obtain rfl := lrf_ret hF
 exact sR
 refine c_skip (sat_wc (c_region (oV vM (oV vB (oV vA (o_nil ?_))))))
 exact lp [0] [1, 2, 3, 4, 5] fun a w hs => ⟨IntKind.wrap .i64 (i1 + 1), hL2, hs⟩
 refine c_exit0 ?_
 cases hL2
 exact sK [0] [0, 1, 2, 3, 4] (hN2 () rfl)
 intro d2 hd
 subst hd
 replace hF := lrf_done hF
 refine sat_wc (c_seq (cR (oV vA (o_seq ?_))))
 obtain ⟨o3, ho3, hF⟩ := bd hF
 refine cT (fun E H Φ N' => ∀ (d3 : Unit), o3 = .done d3 → Sat E [(0, .agg (vDef d_ A1 L1 C1 A2 L2 C2 A3 L3 C3 A4 L4 C4 A5 L5 C5).toArray), (1, pt b), (2, bV false)] H Φ N') (fun N3 hN3 => ?_) ?_
 refine c_block ?_
 refine cL (fun E H Φ j a w => ∃ (i2 : Int), F.ref03.Right_l3 k d_ j i2 = some o3 ∧ St E [(0, .agg (vDef d_ A1 L1 C1 A2 L2 C2 A3 L3 C3 A4 L4 C4 A5 L5 C5).toArray), (1, pt b), (2, bV false), (5, iI i2)] H Φ a w) k ?_ ?_
 exact lq [0] [0, 1, 2, 3, 4] fun a w hs => ⟨0, ho3, hs⟩
 rintro j a w ⟨i2, hL3, hs⟩
 rcases j with _ | j
 cases hL3
 refine wc_app hs ?_
 unfold F.ref03.Right_l3 at hL3
 refine c_seq (cR (oV vM ((fD 4) (oV (vL 0 ty24) (oV (v_lenS (enc := eFollow) d_.Follows sl24 rfl (.f 2 rfl)) (oV vB (o_seq ?_)))))))
 refine cC hL3 (fun hL3 => ?_) (fun hL3 => ?_)
 refine c_skip (sat_wc (c_seq (c_block (cR ((fD 4) (oV (vL 0 ty24) (oV vM (ite_some hL3 ?_))))))))
 intro h15 hL3
 refine oV (v_indexAddr_s (xs := d_.Follows) (enc := eFollow) sl24 rfl rfl (.f 2 rfl) h15) (oV (v_fieldAddr (v := .pointer (some ⟨blkA A3, offA A3 + (Int.toNat i2 * 5 + 0), none⟩)) rfl (fun _ => by kernel_rfl)) (oV (v_load_s (xs := d_.Follows) (enc := eFollow) ty9 rfl (.f 2 rfl) h15 rfl rfl rfl rfl rfl rfl rfl) ?_))
 obtain ⟨v4, h16, hL3⟩ := bd hL3
 refine o_callSB call51 rfl lent_nil (tri51 h16 :) rfl (oV vN (o_seq ?_))
 refine cC hL3 (fun hL3 => ?_) (fun hL3 => ?_)
 refine cR (oV vA (o_seq (c_ret ?_)))
 cases hL3
 obtain rfl := lrf_ret hF
 exact sR
 refine c_skip (sat_wc (c_region (oV vM (oV vB (oV vA (o_nil ?_))))))
 exact lp [0] [0, 1, 2, 3, 4] fun a w hs => ⟨IntKind.wrap .i64 (i2 + 1), hL3, hs⟩
 refine c_exit0 ?_
 cases hL3
 exact sK [0] [0, 1, 2, 3, 4] (hN3 () rfl)
 intro d3 hd
 subst hd
 replace hF := lrf_done hF
 refine sat_wc (c_seq (cR (oV vA (o_seq ?_))))
 obtain ⟨o4, ho4, hF⟩ := bd hF
 refine cT (fun E H Φ N' => ∀ (d4 : Unit), o4 = .done d4 → Sat E [(0, .agg (vDef d_ A1 L1 C1 A2 L2 C2 A3 L3 C3 A4 L4 C4 A5 L5 C5).toArray), (1, pt b), (2, bV false)] H Φ N') (fun N4 hN4 => ?_) ?_
 refine c_block ?_
 refine cL (fun E H Φ j a w => ∃ (i3 : Int), F.ref03.Right_l4 k d_ j i3 = some o4 ∧ St E [(0, .agg (vDef d_ A1 L1 C1 A2 L2 C2 A3 L3 C3 A4 L4 C4 A5 L5 C5).toArray), (1, pt b), (2, bV false), (6, iI i3)] H Φ a w) k ?_ ?_
 exact lq [0] [0, 1, 2, 3, 4] fun a w hs => ⟨0, ho4, hs⟩
 rintro j a w ⟨i3, hL4, hs⟩
 rcases j with _ | j
 cases hL4
 refine wc_app hs ?_
 unfold F.ref03.Right_l4 at hL4
 refine c_seq (cR (oV vM ((fD 5) (oV (vL 0 ty25) (oV (v_lenS (enc := eReject) d_.Rejects sl25 rfl (.f 3 rfl)) (oV vB (o_seq ?_)))))))
 refine cC hL4 (fun hL4 => ?_) (fun hL4 => ?_)
 refine c_skip (sat_wc (c_seq (c_block (cR ((fD 5) (oV (vL 0 ty25) (oV vM (ite_some hL4 ?_))))))))
 intro h19 hL4
 refine oV (v_indexAddr_s (xs := d_.Rejects) (enc := eReject) sl25 rfl rfl (.f 3 rfl) h19) (oV (v_fieldAddr (v := .pointer (some ⟨blkA A4, offA A4 + (Int.toNat i3 * 2 + 0), none⟩)) rfl (fun _ => by kernel_rfl)) (oV (v_load_s (xs := d_.Rejects) (enc := eReject) ty9 rfl (.f 3 rfl) h19 rfl rfl rfl rfl rfl rfl rfl) ?_))
 obtain ⟨v5, h20, hL4⟩ := bd hL4
 refine o_callSB call51 rfl lent_nil (tri51 h20 :) rfl (oV vN (oV vM ?_))
 refine oS 82 hL4 (fun hL4 => ?_) (fun hL4 => ?_)
 refine oF (oF (oF (oF (oF (oF (oF (oF (oV vPt (o_seq ?_)))))))))
 refine c_cond rfl (fun _ => ?_) (fun h => Bool.noConfusion h)
 refine cR (oV vA (o_seq (c_ret ?_)))
 cases hL4
 obtain rfl := lrf_ret hF
 exact sR
 refine oN ((fD 5) (oN (oV (vL 0 ty25) (oN (oV vM (oN (oV (v_indexAddr_s (xs := d_.Rejects) (enc := eReject) sl25 rfl rfl (.f 3 rfl) h19) (oN (oV (v_fieldAddr (v := .pointer (some ⟨blkA A4, offA A4 + (Int.toNat i3 * 2 + 1), none⟩)) rfl (fun _ => by kernel_rfl)) (oN (oV (v_load_s (xs := d_.Rejects) (enc := eReject) ty9 rfl (.f 3 rfl) h19 rfl rfl rfl rfl rfl rfl rfl) (oN ?_))))))))))))
 obtain ⟨v6, h22, hL4⟩ := bd hL4
 refine o_callSB call51 rfl lent_nil (tri51 h22 :) rfl (oN (oV vN (oV vPf (o_seq ?_))))
 refine cC hL4 (fun hL4 => ?_) (fun hL4 => ?_)
 refine cR (oV vA (o_seq (c_ret ?_)))
 cases hL4
 obtain rfl := lrf_ret hF
 exact sR
 refine c_skip (sat_wc (c_region (oV vM (oV vB (oV vA (o_nil ?_))))))
 exact lp [0] [0, 1, 2, 3, 4] fun a w hs => ⟨IntKind.wrap .i64 (i3 + 1), hL4, hs⟩
 refine c_exit0 ?_
 cases hL4
 exact sK [0] [0, 1, 2, 3, 4] (hN4 () rfl)
 intro d4 hd
 subst hd
 replace hF := lrf_done hF
 refine sat_wc (c_seq (cR (oV vA (o_seq ?_))))
 obtain ⟨o5, ho5, hF⟩ := bd hF
 refine cT (fun E H Φ N' => ∀ (d5 : Unit), o5 = .done d5 → Sat E [(0, .agg (vDef d_ A1 L1 C1 A2 L2 C2 A3 L3 C3 A4 L4 C4 A5 L5 C5).toArray), (1, pt b), (2, bV false)] H Φ N') (fun N5 hN5 => ?_) ?_
 refine c_block ?_
 refine cL (fun E H Φ j a w => ∃ (i4 : Int), F.ref03.Right_l5 k d_ j i4 = some o5 ∧ St E [(0, .agg (vDef d_ A1 L1 C1 A2 L2 C2 A3 L3 C3 A4 L4 C4 A5 L5 C5).toArray), (1, pt b), (2, bV false), (7, iI i4)] H Φ a w) k ?_ ?_
 exact lq [0] [0, 1, 2, 3, 4] fun a w hs => ⟨0, ho5, hs⟩
 rintro j a w ⟨i4, hL5, hs⟩
 rcases j with _ | j
 cases hL5
 refine wc_app hs ?_
 unfold F.ref03.Right_l5 at hL5
 refine c_seq (cR (oV vM ((fD 6) (oV (vL 0 ty26) (oV (v_lenS (enc := eBox) d_.Boxes sl26 rfl (.f 4 rfl)) (oV vB (o_seq ?_)))))))
 refine cC hL5 (fun hL5 => ?_) (fun hL5 => ?_)
 refine c_skip (sat_wc (c_seq (c_block (cR ((fD 6) (oV (vL 0 ty26) (oV vM (ite_some hL5 ?_))))))))
 intro h25 hL5
 refine oV (v_indexAddr_s (xs := d_.Boxes) (enc := eBox) sl26 rfl rfl (.f 4 rfl) h25) (oV (v_fieldAddr (v := .pointer (some ⟨blkA A5, offA A5 + (Int.toNat i4 * 2 + 0), none⟩)) rfl (fun _ => by kernel_rfl)) (oV (v_load_s (xs := d_.Boxes) (enc := eBox) ty9 rfl (.f 4 rfl) h25 rfl rfl rfl rfl rfl rfl rfl) ?_))
 obtain ⟨v7, h26, hL5⟩ := bd hL5
 refine o_callSB call51 rfl lent_nil (tri51 h26 :) rfl (oV vN (oV vM ?_))
 refine oS 107 hL5 (fun hL5 => ?_) (fun hL5 => ?_)
 refine oF (oF (oF (oF (oF (oF (oF (oF (oV vPt (o_seq ?_)))))))))
 refine c_cond rfl (fun _ => ?_) (fun h => Bool.noConfusion h)
 refine cR (oV vA (o_seq (c_ret ?_)))
 cases hL5
 obtain rfl := lrf_ret hF
 exact sR
 refine oN ((fD 6) (oN (oV (vL 0 ty26) (oN (oV vM (oN (oV (v_indexAddr_s (xs := d_.Boxes) (enc := eBox) sl26 rfl rfl (.f 4 rfl) h25) (oN (oV (v_fieldAddr (v := .pointer (some ⟨blkA A5, offA A5 + (Int.toNat i4 * 2 + 1), none⟩)) rfl (fun _ => by kernel_rfl)) (oN (o_load_s (xs := d_.Boxes) (enc := eBox) ty62 rfl (.f 4 rfl) h25 rfl rfl rfl rfl rfl rfl ?_)))))))))))
 intro A8 L8 C8
 refine oN ?_
 obtain ⟨v8, h28, hL5⟩ := bd hL5
 refine o_callSB call54 rfl (lent_f 0 rfl lent_nil) ((tri54 _) h28 :) rfl (oN (oV vB (oV vPf (o_seq ?_))))
 refine cC hL5 (fun hL5 => ?_) (fun hL5 => ?_)
 refine cR (oV vA (o_seq (c_ret ?_)))
 cases hL5
 obtain rfl := lrf_ret hF
 exact sR
 refine c_skip (sat_wc (c_region (oV vM (oV vB (oV vA (o_nil ?_))))))
 exact lp [0] [1, 2, 3, 4, 5] fun a w hs => ⟨IntKind.wrap .i64 (i4 + 1), hL5, hs⟩
 refine c_exit0 ?_
 cases hL5
 exact sK [0] [0, 1, 2, 3, 4] (hN5 () rfl)
 intro d5 hd
 subst hd
 replace hF := lrf_done hF
 refine sat_wc (cR (oV vA (o_seq (c_ret ?_))))
 cases hF
 exact sR
theorem tri131 {k : Nat} {s : S4} {n : Int} {r : Bool} (hF : F.ref01.Has k s n = some r) :
    Tri Tryz.prog 131 [.agg s.vs.toArray, iI n] [] [] (oR (bV r)) := by
 unfold F.ref01.Has at hF
 refine tri_intro (n := 40) Tryz.func131 rfl Tryz.ntmps131 rfl fun w X => cR (o_box rfl rfl rfl fun b => oV vA (o_seq (c_seq (cR (oV vM (oV vB (oV vM ?_)))))))
 refine oS 9 hF (fun hF => ?_) (fun hF => ?_)
 refine oF (oF (oV vPt (o_seq ?_)))
 refine c_cond rfl (fun _ => ?_) (fun h => Bool.noConfusion h)
 refine cR (oV vA (o_seq (c_ret ?_)))
 cases hF
 exact sR
 refine oN (oV vM (oN (oV vB (oV vPf (o_seq ?_)))))
 refine cC hF (fun hF => ?_) (fun hF => ?_)
 refine cR (oV vA (o_seq (c_ret ?_)))
 cases hF
 exact sR
 refine c_skip (sat_wc (cR (oV (v_indexAddr_a ar44 rfl rfl rfl) (oV (vL 0 ty42) (oV vA (o_seq (c_seq (cR (oV vM (oV (v_quo rfl rfl rfl) (o_seq ?_)))))))))))
 refine cT (fun E H Φ N' => ∀ (w_ : Int), F.ref01.Has_j1 k n w_ = some r → Sat E [(0, .agg s.vs.toArray), (1, iI n), (2, pt b), (4, bV false), (5, iU w_)] H [] N') (fun N2 hN2 => ?_) ?_
 refine c_block (cR (oV vB (oV vA (o_seq ?_))))
 refine cC hF (fun hF => ?_) (fun hF => ?_)
 refine c_region (oV (v_indexAddr_a ar44 rfl rfl rfl) (oV (vL 0 ty42) (oV vA (o_nil ?_))))
 exact sK [0] [] (hN2 s.w1 hF)
 refine cR (oV vB (oV vA (o_seq ?_)))
 refine cT (fun E H Φ N' => ∀ (w_2 : Int), F.ref01.Has_j3 k n w_2 = some r → Sat E [(0, .agg s.vs.toArray), (1, iI n), (2, pt b), (4, bV false), (5, iU w_2), (16, iI (gquo .i64 n 64))] H [] N') (fun N3 hN3 => ?_) ?_
 refine cC hF (fun hF => ?_) (fun hF => ?_)
 refine c_region (oV (v_indexAddr_a ar44 rfl rfl rfl) (oV (vL 0 ty42) (oV vA (o_nil ?_))))
 exact sK [0] [] (hN3 s.w2 hF)
 refine cR (oV vB (oV vA (o_seq ?_)))
 refine cC hF (fun hF => ?_) (fun hF => ?_)
 refine c_region (oV (v_indexAddr_a ar44 rfl rfl rfl) (oV (vL 0 ty42) (oV vA (o_nil ?_))))
 exact sK [0] [] (hN3 s.w3 hF)
 refine c_skip ?_
 exact sK [0] [] (hN3 s.w0 hF)
 intro w_2 hF
 unfold F.ref01.Has_j3 at hF
 exact sK [0] [] (hN2 w_2 hF)
 intro w_ hF
 unfold F.ref01.Has_j1 at hF
 refine sat_wc (c_seq (cR (oV vA (o_seq ?_))))
 obtain ⟨o2, ho2, hF⟩ := bd hF
 refine cT (fun E H Φ N' => Sat E [(0, .agg s.vs.toArray), (1, iI n), (2, pt b), (4, bV false), (5, iU o2)] H [] N') (fun N2 hN2 => ?_) ?_
 refine c_block ?_
 refine cL (fun E H Φ j a w => ∃ (w_1 : Int) (i : Int), F.ref01.Has_l2 n j w_1 i = some o2 ∧ St E [(0, .agg s.vs.toArray), (1, iI n), (2, pt b), (4, bV false), (5, iU w_1), (6, iI i)] H [] a w) k ?_ ?_
 exact lq [0] [] fun a w hs => ⟨w_, 0, ho2, hs⟩
 rintro j a w ⟨w_1, i, hL2, hs⟩
 rcases j with _ | j
 cases hL2
 refine wc_app hs ?_
 unfold F.ref01.Has_l2 at hL2
 refine c_seq (cR (oV vM (oV vM (oV (v_rem rfl rfl rfl) (oV vB (o_seq ?_))))))
 refine cC hL2 (fun hL2 => ?_) (fun hL2 => ?_)
 refine c_skip (sat_wc (c_seq (c_block (c_region (oV vM (oV (v_quo rfl rfl rfl) (oV vA (o_nil (sat_wc (c_region (oV vM (oV vB (oV vA (o_nil ?_))))))))))))))
 exact lp [0] [] fun a w hs => ⟨gquo .u64 w_1 2, IntKind.wrap .i64 (i + 1), hL2, hs⟩
 refine c_exit0 ?_
 cases hL2
 exact sK [0] [] (hN2)
 refine sat_wc (cR (oV vM (oV (v_rem rfl rfl rfl) (oV vB (oV vA (o_seq (c_ret ?_)))))))
 cases hF
 exact sR
theorem tri111 {k : Nat} {s : S4} {r : List Run} (hF : F.ref01.Runs k s = some r) :
    Tri Tryz.prog 111 [.agg s.vs.toArray] [] [] (fun o H Φ => ∃ (A6 : OA) (L6 C6 : Nat), o = .ret (sl A6 L6 C6) ∧ H = [rW A6 L6 C6 98 2 eRun r] ∧ Φ = []) := by
 unfold F.ref01.Runs at hF
 refine tri_intro (n := 34) Tryz.func111 rfl Tryz.ntmps111 rfl fun w X => cR (o_box rfl rfl rfl fun b => oV vA (o_seq (cR (oV vA (o_seq (c_seq (cR (oV vA (o_seq ?_)))))))))
 obtain ⟨o1, ho1, hF⟩ := bd hF
 refine c_cut (fun E N' => ∀ (A2 : OA) (L2 C2 : Nat), Sat E [(0, .agg s.vs.toArray), (2, nS), (3, sl A2 L2 C2)] [rW A2 L2 C2 98 2 eRun o1] [] N') (fun N1 hN1 => ?_) ?_
 refine c_block ?_
 refine c_loopE (fun E j a w => ∃ (out_ : List Run) (i : Int) (A1 : OA) (L1 C1 : Nat), F.ref01.Runs_l1 k s j out_ i = some o1 ∧ St E [(0, .agg s.vs.toArray), (1, pt b), (2, nS), (3, sl A1 L1 C1), (4, iI i)] [.box b 44 s.vs, rW A1 L1 C1 98 2 eRun out_] [] a w) k ?_ ?_
 refine s_st (st_nilrow 98 2) ?_
 exact lq [1, 0] [] fun a w hs => ⟨([] : List Run), 0, none, 0, 0, ho1, hs⟩
 rintro j a w ⟨out_, i, A1, L1, C1, hL1, hs⟩
 rcases j with _ | j
 cases hL1
 refine wc_app hs ?_
 unfold F.ref01.Runs_l1 at hL1
 refine c_seq (cR (oV vM (oV vB (o_seq ?_))))
 refine cC hL1 (fun hL1 => ?_) (fun hL1 => ?_)
 refine c_skip (sat_wc (c_seq ?_))
 refine c_cut (fun E N' => ∀ (out_1 : List Run) (A3 : OA) (L3 C3 : Nat), F.ref01.Runs_j2 (F.ref01.Runs_l1 k s j) i out_1 = some o1 → Sat E [(0, .agg s.vs.toArray), (1, pt b), (2, nS), (3, sl A3 L3 C3), (4, iI i)] [.box b 44 s.vs, rW A3 L3 C3 98 2 eRun out_1] [] N') (fun N2 hN2 => ?_) ?_
 refine c_block (c_seq (c_seq ?_))
 refine cT (fun E H Φ N' => ∀ (t19 : Bool), F.ref01.Runs_j3 k (F.ref01.Runs_l1 k s j) i out_ s t19 = some o1 → Sat E [(0, .agg s.vs.toArray), (1, pt b), (2, nS), (3, sl A1 L1 C1), (4, iI i), (19, bV t19)] H [] N') (fun N4 hN4 => ?_) ?_
 refine c_region (oV (vL 0 ty44) (oV vM ?_))
 obtain ⟨v1, h7, hL1⟩ := bd hL1
 refine o_callSB call131 rfl lent_nil (tri131 h7 :) rfl (oV vN (oV vM ?_))
 refine oS 14 hL1 (fun hL1 => ?_) (fun hL1 => ?_)
 refine oF (oF (oF (oF (oV vPt (o_nil ?_)))))
 exact sK [0, 0] [] (hN4 true hL1)
 refine oN (oV (vL 0 ty44) (oN (oV vM (oN (oV vB (oN ?_))))))
 obtain ⟨v2, h9, hL1⟩ := bd hL1
 refine o_callSB call131 rfl lent_nil (tri131 h9 :) rfl (oV vPf (o_nil ?_))
 exact sK [0, 0] [] (hN4 v2 hL1)
 intro t19 hL1
 unfold F.ref01.Runs_j3 at hL1
 refine sat_wc ?_
 refine cC hL1 (fun hL1 => ?_) (fun hL1 => ?_)
 refine c_exit0 ?_
 exact sK [0, 0] [] (hN2 out_ A1 L1 C1 hL1)
 refine c_skip (sat_wc (cR (oV vM (oV vA (o_seq (c_seq ?_))))))
 obtain ⟨o4, ho4, hL1⟩ := bd hL1
 refine cT (fun E H Φ N' => Sat E [(0, .agg s.vs.toArray), (1, pt b), (2, nS), (3, sl A1 L1 C1), (4, iI i), (5, iI o4)] H [] N') (fun N4 hN4 => ?_) ?_
 refine c_block ?_
 refine cL (fun E H Φ j a w => ∃ (hi : Int), F.ref01.Runs_l4 k s j hi = some o4 ∧ St E [(0, .agg s.vs.toArray), (1, pt b), (2, nS), (3, sl A1 L1 C1), (4, iI i), (5, iI hi)] H [] a w) k ?_ ?_
 exact lq [0, 0] [] fun a w hs => ⟨i, ho4, hs⟩
 rintro j a w ⟨hi, hL4, hs⟩
 rcases j with _ | j
 cases hL4
 refine wc_app hs ?_
 unfold F.ref01.Runs_l4 at hL4
 refine c_seq (cR (oV (vL 0 ty44) (oV vM (oV vB ?_))))
 obtain ⟨v, h3, hL4⟩ := bd hL4
 refine o_callSB call131 rfl lent_nil (tri131 h3 :) rfl (o_seq ?_)
 refine cC hL4 (fun hL4 => ?_) (fun hL4 => ?_)
 refine c_skip (sat_wc (c_block (c_region (oV vM (oV vB (oV vA (o_nil ?_)))))))
 exact lp [0, 0] [] fun a w hs => ⟨IntKind.wrap .i64 (hi + 1), hL4, hs⟩
 refine c_exit0 ?_
 cases hL4
 exact sK [0, 0] [] (hN4)
 refine sat_wc (c_region (oV vM (oV vM (oV vM (oV (vU (.agg #[iI i, iI o4])) (o_buildSlice (enc := eRun) ([(Run.mk i o4)] : List Run) [iI i, iI o4] sl95 rfl (fun _ => by kernel_rfl) rfl rfl rfl (.s rfl (.s rfl (.nil))) rfl ?_))))))
 intro A4 L4 C4
 refine ite_some hL1 fun h5 hL1 => ite_some hL1 fun h6 hL1 => o_append (enc := eRun) (xs := out_) (ys := ([(Run.mk i o4)] : List Run)) 2 sl95 rfl rfl rfl (.r 0 _ rfl) h5 h6 rfl fun A5 L5 C5 => oV vA (o_nil ?_)
 exact sK [1, 1] [] (hN2 (out_ ++ ([(Run.mk i o4)] : List Run)) A5 L5 C5 hL1)
 intro out_1 A3 L3 C3 hL1
 unfold F.ref01.Runs_j2 at hL1
 refine sat_wc (c_region (oV vM (oV vB (oV vA (o_nil ?_)))))
 exact lp [0, 0] [] fun a w hs => ⟨out_1, IntKind.wrap .i64 (i + 1), A3, L3, C3, hL1, hs⟩
 refine c_exit0 ?_
 cases hL1
 exact sK [1] [] (hN1 A1 L1 C1)
 intro A2 L2 C2
 refine sat_wc (cR (oV vM (oV vA (o_seq (c_ret ?_)))))
 cases hF
 refine s_ret1 rfl (r_tmp rfl) fun a w hs => fin_sel hs [0] ⟨A2, L2, C2, rfl, rfl, rfl⟩ rfl sub_nil
theorem tri132 {n : Int} {r : Int} (hF : F.ref01.special n = some r) :
    Tri Tryz.prog 132 [iI n] [] [] (oR (iB r)) := by
 unfold F.ref01.special at hF
 refine tri_intro (n := 20) Tryz.func132 rfl Tryz.ntmps132 rfl fun w X => cR (oV vA (o_seq (c_seq (cR (oV vM (o_seq (c_block (cR (oV vB (oV vA (o_seq ?_)))))))))))
 refine cC hF (fun hF => ?_) (fun hF => ?_)
 refine cR (oV vA (o_seq (c_ret ?_)))
 cases hF
 exact sR
 refine cR (oV vB (oV vA (o_seq ?_)))
 refine cC hF (fun hF => ?_) (fun hF => ?_)
 refine cR (oV vA (o_seq (c_ret ?_)))
 cases hF
 exact sR
 refine cR (oV vB (oV vA (o_seq ?_)))
 refine cC hF (fun hF => ?_) (fun hF => ?_)
 refine cR (oV vA (o_seq (c_ret ?_)))
 cases hF
 exact sR
 refine cR (oV vB (oV vA (o_seq ?_)))
 refine cC hF (fun hF => ?_) (fun hF => ?_)
 refine cR (oV vA (o_seq (c_ret ?_)))
 cases hF
 exact sR
 refine c_seq (cR (oV vB (oV vA (o_seq ?_))))
 refine c_cut (fun E N' => ∀ (t12 : Bool), F.ref01.special_j1 n t12 = some r → Sat E [(0, iI n), (2, iB 0), (3, iI n), (12, bV t12)] [] [] N') (fun N1 hN1 => ?_) ?_
 refine cC hF (fun hF => ?_) (fun hF => ?_)
 refine c_skip ?_
 exact sK [] [] (hN1 (n == 91) hF)
 refine cR (oV vB (oV vA (o_seq ?_)))
 refine cC hF (fun hF => ?_) (fun hF => ?_)
 refine c_skip ?_
 exact sK [] [] (hN1 (n == 93) hF)
 refine cR (oV vB (oV vA (o_seq ?_)))
 refine c_cut (fun E N' => ∀ (t121 : Bool), F.ref01.special_j2 n t121 = some r → Sat E [(0, iI n), (2, iB 0), (3, iI n), (12, bV t121)] [] [] N') (fun N2 hN2 => ?_) ?_
 refine cC hF (fun hF => ?_) (fun hF => ?_)
 refine c_skip ?_
 exact sK [] [] (hN2 (n == 92) hF)
 refine cR (oV vB (oV vA (o_seq ?_)))
 refine cC hF (fun hF => ?_) (fun hF => ?_)
 refine c_skip ?_
 exact sK [] [] (hN2 (n == 45) hF)
 refine c_region (oV vB (oV vA (o_nil ?_)))
 exact sK [] [] (hN2 (n == 94) hF)
 intro t121 hF
 unfold F.ref01.special_j2 at hF
 exact sK [] [] (hN1 t121 hF)
 intro t12 hF
 unfold F.ref01.special_j1 at hF
 refine sat_wc ?_
 refine cC hF (fun hF => ?_) (fun hF => ?_)
 refine cR (oV vM (oV (v_convert (v := iB (IntKind.wrap .u8 n)) rfl (fun _ => by kernel_rfl)) (oV vA (o_seq (c_ret ?_)))))
 cases hF
 exact sR
 refine c_skip (sat_wc (cR (oV vA (o_seq (c_ret ?_)))))
 cases hF
 exact sR
theorem tri112 {n : Int} {r : Tx} (hF : F.ref01.Sign n = some r) :
    Tri Tryz.prog 112 [iI n] [] [] (oR (sV r)) := by
 unfold F.ref01.Sign at hF
 refine tri_intro (n := 35) Tryz.func112 rfl Tryz.ntmps112 rfl fun w X => cR (oV vA (o_seq (cR (oV vM ?_))))
 obtain ⟨v, h1, hF⟩ := bd hF
 refine o_callSB call132 rfl lent_nil (tri132 h1 :) rfl (oV vA (o_seq (c_seq (cR (oV vM (oV vB (o_seq ?_)))))))
 refine cC hF (fun hF => ?_) (fun hF => ?_)
 refine cR (oV vM (o_buildSlice (enc := eU8) ([92, v] : List Int) [iB 92, iB v] sl67 rfl (fun _ => by kernel_rfl) rfl rfl rfl (.s rfl (.s rfl (.nil))) rfl ?_))
 intro A1 L1 C1
 refine oV (v_bytesStr sl67 Tryz.underlying5 Tryz.underlying9 rfl (.r 0 _ rfl)) (oV vA (o_seq (c_ret ?_)))
 cases hF
 exact sR
 refine c_skip (sat_wc (c_seq (c_seq ?_)))
 refine c_cut (fun E N' => ∀ (t16 : Bool), F.ref01.Sign_j1 n t16 = some r → Sat E [(0, iI n), (2, sV ([] : Tx)), (3, iB v), (16, bV t16)] [] [] N') (fun N1 hN1 => ?_) ?_
 refine c_region (oV vM (oV vB (oV vM ?_)))
 refine oS 13 hF (fun hF => ?_) (fun hF => ?_)
 refine oN (oV vM (oN (oV vB (oV vPt (o_nil ?_)))))
 exact sK [] [] (hN1 (decide (n < 127)) hF)
 refine oF (oF (oV vPf (o_nil ?_)))
 exact sK [] [] (hN1 false hF)
 intro t16 hF
 unfold F.ref01.Sign_j1 at hF
 refine sat_wc ?_
 refine cC hF (fun hF => ?_) (fun hF => ?_)
 refine cR (oV vM (oV (v_convert (v := iB (IntKind.wrap .u8 n)) rfl (fun _ => by kernel_rfl)) (o_buildSlice (enc := eU8) ([IntKind.wrap .u8 n] : List Int) [iB (IntKind.wrap .u8 n)] sl67 rfl (fun _ => by kernel_rfl) rfl rfl rfl (.s rfl (.nil)) rfl ?_)))
 intro A2 L2 C2
 refine oV (v_bytesStr sl67 Tryz.underlying5 Tryz.underlying9 rfl (.r 0 _ rfl)) (oV vA (o_seq (c_ret ?_)))
 cases hF
 exact sR
 refine c_skip (sat_wc (c_seq (cR (oV vM (oV vB (oV vM ?_))))))
 refine oS 23 hF (fun hF => ?_) (fun hF => ?_)
 refine oF (oF (oV vPt (o_seq ?_)))
 refine c_cond rfl (fun _ => ?_) (fun h => Bool.noConfusion h)
 refine cR (oV vA (o_seq (c_ret ?_)))
 cases hF
 exact sR
 refine oN (oV vM (oN (oV vB (oV vPf (o_seq ?_)))))
 refine cC hF (fun hF => ?_) (fun hF => ?_)
 refine cR (oV vA (o_seq (c_ret ?_)))
 cases hF
 exact sR
 refine c_skip (sat_wc (c_seq (c_draw (n := 9) [] mixed rfl rfl (dv 0 rfl vM (dv 1 rfl (v_quo rfl rfl rfl) (ite_some hF ?_))))))
 intro h6 hF
 refine dv 2 rfl (v_sindex Tryz.underlying9 rfl rfl h6) (dv 3 rfl vM (dv 4 rfl (v_rem rfl rfl rfl) (ite_some hF ?_)))
 intro h7 hF
 refine dv 5 rfl (v_sindex Tryz.underlying9 rfl rfl h7) (dO 6 rfl (o_buildSlice (enc := eU8) ([92, 120, sAt ([48, 49, 50, 51, 52, 53, 54, 55, 56, 57, 97, 98, 99, 100, 101, 102] : Tx) (gquo .i64 n 16), sAt ([48, 49, 50, 51, 52, 53, 54, 55, 56, 57, 97, 98, 99, 100, 101, 102] : Tx) (grem n 16)] : List Int) [iB 92, iB 120, iB (sAt ([48, 49, 50, 51, 52, 53, 54, 55, 56, 57, 97, 98, 99, 100, 101, 102] : Tx) (gquo .i64 n 16)), iB (sAt ([48, 49, 50, 51, 52, 53, 54, 55, 56, 57, 97, 98, 99, 100, 101, 102] : Tx) (grem n 16))] sl67 rfl (fun _ => by kernel_rfl) rfl rfl rfl (.s rfl (.s rfl (.s rfl (.s rfl (.nil))))) rfl ?_))
 intro A3 L3 C3
 refine dN [] 0 (dO 7 rfl ?_)
 refine oV (v_bytesStr sl67 Tryz.underlying5 Tryz.underlying9 rfl (.r 0 _ rfl)) (dN [] 0 (dv 8 rfl vA (d_done_seq (by kernel_rfl) (c_ret ?_))))
 cases hF
 exact sR
theorem tri76 {k : Nat} {s : S4} {r : Tx} (hF : F.ref01.Print k s = some r) :
    Tri Tryz.prog 76 [.agg s.vs.toArray] [] [] (oR (sV r)) := by
 unfold F.ref01.Print at hF
 refine tri_intro (n := 57) Tryz.func76 rfl Tryz.ntmps76 rfl fun w X => cR (o_box rfl rfl rfl fun b => oV vA (o_seq (cR (oV vA (o_seq (cR (oV (vL 0 ty44) ?_)))))))
 obtain ⟨v, h1, hF⟩ := bd hF
 refine o_call0 call111 rfl sub_nil (tri111 h1 :) rfl ?_
 rintro _ _ _ ⟨A1, L1, C1, rfl, rfl, rfl⟩
 refine oV vA (o_seq (c_seq (cR (oV vA (o_seq ?_)))))
 obtain ⟨o1, ho1, hF⟩ := bd hF
 refine c_cut (fun E N' => Sat E [(0, .agg s.vs.toArray), (1, pt b), (2, sV ([] : Tx)), (3, sV o1)] [.box b 44 s.vs] [] N') (fun N1 hN1 => ?_) ?_
 refine c_block ?_
 refine c_loopE (fun E j a w => ∃ (out_ : Tx) (i : Int), F.ref01.Print_l1 v j out_ i = some o1 ∧ St E [(0, .agg s.vs.toArray), (1, pt b), (2, sV ([] : Tx)), (3, sV out_), (4, sl A1 L1 C1), (5, iI i)] [.box b 44 s.vs, rW A1 L1 C1 98 2 eRun v] [] a w) k ?_ ?_
 exact lq [1, 0] [] fun a w hs => ⟨([91] : Tx), 0, ho1, hs⟩
 rintro j a w ⟨out_, i, hL1, hs⟩
 rcases j with _ | j
 cases hL1
 refine wc_app hs ?_
 unfold F.ref01.Print_l1 at hL1
 refine c_seq (cR (oV vM (oV vM (oV (v_lenS (enc := eRun) v sl95 rfl (.r 1 _ rfl)) (oV vB (o_seq ?_))))))
 refine cC hL1 (fun hL1 => ?_) (fun hL1 => ?_)
 refine c_skip (sat_wc (c_seq ?_))
 refine cT (fun E H Φ N' => ∀ (out_1 : Tx), F.ref01.Print_j2 (F.ref01.Print_l1 v j) i out_1 = some o1 → Sat E [(0, .agg s.vs.toArray), (1, pt b), (2, sV ([] : Tx)), (3, sV out_1), (4, sl A1 L1 C1), (5, iI i)] H [] N') (fun N2 hN2 => ?_) ?_
 refine c_block (cR (oV vM (oV vM (oV vM (ite_some hL1 ?_)))))
 intro h3 hL1
 refine oV (v_indexAddr_s (xs := v) (enc := eRun) sl95 rfl rfl (.r 1 _ rfl) h3) (oV (v_fieldAddr (v := .pointer (some ⟨blkA A1, offA A1 + (Int.toNat i * 2 + 0), none⟩)) rfl (fun _ => by kernel_rfl)) (oV (v_load_s (xs := v) (enc := eRun) ty3 rfl (.r 1 _ rfl) h3 rfl rfl rfl rfl rfl rfl rfl) ?_))
 obtain ⟨v1, h4, hL1⟩ := bd hL1
 refine o_callSB call112 rfl lent_nil (tri112 h4 :) rfl (ite_some hL1 fun h5 hL1 => oV (vS h5) (oV vA (o_seq (c_seq (c_seq (c_draw (n := 12) [0, 0] mixed rfl rfl (dv 0 rfl vM (dv 1 rfl vM (dv 2 rfl (v_indexAddr_s (xs := v) (enc := eRun) sl95 rfl rfl (.r 1 _ rfl) h3) (dv 3 rfl (v_fieldAddr (v := .pointer (some ⟨blkA A1, offA A1 + (Int.toNat i * 2 + 1), none⟩)) rfl (fun _ => by kernel_rfl)) (dv 4 rfl (v_load_s (xs := v) (enc := eRun) ty3 rfl (.r 1 _ rfl) h3 rfl rfl rfl rfl rfl rfl rfl) (dv 5 rfl vM (dv 6 rfl vM (dv 7 rfl (v_indexAddr_s (xs := v) (enc := eRun) sl95 rfl rfl (.r 1 _ rfl) h3) ?_))))))))))))))
 refine dv 8 rfl (v_fieldAddr (v := .pointer (some ⟨blkA A1, offA A1 + (Int.toNat i * 2 + 0), none⟩)) rfl (fun _ => by kernel_rfl)) (dv 9 rfl (v_load_s (xs := v) (enc := eRun) ty3 rfl (.r 1 _ rfl) h3 rfl rfl rfl rfl rfl rfl rfl) (dv 10 rfl vB (dv 11 rfl vB (d_done_seq (by kernel_rfl) ?_))))
 refine cT (fun E H Φ N' => ∀ (out_2 : Tx), F.ref01.Print_j3 v i (F.ref01.Print_l1 v j) out_2 = some o1 → Sat E [(0, .agg s.vs.toArray), (1, pt b), (2, sV ([] : Tx)), (3, sV out_2), (4, sl A1 L1 C1), (5, iI i)] H [] N') (fun N4 hN4 => ?_) ?_
 refine cC hL1 (fun hL1 => ?_) (fun hL1 => ?_)
 refine c_region (oV vM (ite_some hL1 ?_))
 intro h10 hL1
 refine oV (vS h10) (oV vA (o_nil ?_))
 exact sK [0, 0] [] (hN4 ((out_ ++ v1) ++ ([45] : Tx)) hL1)
 refine c_skip ?_
 exact sK [0, 0] [] (hN4 (out_ ++ v1) hL1)
 intro out_2 hL1
 unfold F.ref01.Print_j3 at hL1
 refine sat_wc (c_seq (c_draw (n := 11) [0, 0] mixed rfl rfl (dv 0 rfl vM (dv 1 rfl vM (dv 2 rfl (v_indexAddr_s (xs := v) (enc := eRun) sl95 rfl rfl (.r 1 _ rfl) h3) (dv 3 rfl (v_fieldAddr (v := .pointer (some ⟨blkA A1, offA A1 + (Int.toNat i * 2 + 1), none⟩)) rfl (fun _ => by kernel_rfl)) (dv 4 rfl (v_load_s (xs := v) (enc := eRun) ty3 rfl (.r 1 _ rfl) h3 rfl rfl rfl rfl rfl rfl rfl) (dv 5 rfl vM (dv 6 rfl vM (dv 7 rfl (v_indexAddr_s (xs := v) (enc := eRun) sl95 rfl rfl (.r 1 _ rfl) h3) (dv 8 rfl (v_fieldAddr (v := .pointer (some ⟨blkA A1, offA A1 + (Int.toNat i * 2 + 0), none⟩)) rfl (fun _ => by kernel_rfl)) (dv 9 rfl (v_load_s (xs := v) (enc := eRun) ty3 rfl (.r 1 _ rfl) h3 rfl rfl rfl rfl rfl rfl rfl) (dv 10 rfl vB (d_done_seq (by kernel_rfl) ?_))))))))))))))
 refine cT (fun E H Φ N' => ∀ (out_3 : Tx), F.ref01.Print_j4 (F.ref01.Print_l1 v j) i out_3 = some o1 → Sat E [(0, .agg s.vs.toArray), (1, pt b), (2, sV ([] : Tx)), (3, sV out_3), (4, sl A1 L1 C1), (5, iI i)] H [] N') (fun N4 hN4 => ?_) ?_
 refine cC hL1 (fun hL1 => ?_) (fun hL1 => ?_)
 refine c_region (oV vM (oV vM (oV vM (oV (v_indexAddr_s (xs := v) (enc := eRun) sl95 rfl rfl (.r 1 _ rfl) h3) (oV (v_fieldAddr (v := .pointer (some ⟨blkA A1, offA A1 + (Int.toNat i * 2 + 1), none⟩)) rfl (fun _ => by kernel_rfl)) (oV (v_load_s (xs := v) (enc := eRun) ty3 rfl (.r 1 _ rfl) h3 rfl rfl rfl rfl rfl rfl rfl) ?_))))))
 obtain ⟨v2, h7, hL1⟩ := bd hL1
 refine o_callSB call112 rfl lent_nil (tri112 h7 :) rfl (ite_some hL1 fun h8 hL1 => oV (vS h8) (oV vA (o_nil ?_)))
 exact sK [0, 0] [] (hN4 (out_2 ++ v2) hL1)
 refine c_skip ?_
 exact sK [0, 0] [] (hN4 out_2 hL1)
 intro out_3 hL1
 unfold F.ref01.Print_j4 at hL1
 exact sK [0, 0] [] (hN2 out_3 hL1)
 intro out_1 hL1
 unfold F.ref01.Print_j2 at hL1
 refine sat_wc (c_region (oV vM (oV vB (oV vA (o_nil ?_)))))
 exact lp [0, 0] [] fun a w hs => ⟨out_1, IntKind.wrap .i64 (i + 1), hL1, hs⟩
 refine c_exit0 ?_
 cases hL1
 exact sK [0] [] (hN1)
 refine sat_wc (cR (oV vM (ite_some hF ?_)))
 intro h11 hF
 refine oV (vS h11) (oV vA (o_seq (c_ret ?_)))
 cases hF
 exact sR
theorem tri133 {c : Int} {r : Int} (hF : F.ref02.letter c = some r) :
    Tri Tryz.prog 133 [iB c] [] [] (oR (iB r)) := by
 unfold F.ref02.letter at hF
 refine tri_intro (n := 14) Tryz.func133 rfl Tryz.ntmps133 rfl fun w X => cR (oV vA (o_seq (c_seq (cR (oV vM (o_seq (c_block (c_seq (cR (oV vB (oV vA ?_)))))))))))
 refine o_seq ?_
 refine c_cond rfl (fun h1 => ?_) (fun h1 => ?_)
 replace hF := ite_t h1 hF
 refine c_skip (sat_wc ?_)
 refine c_cond rfl (fun _ => ?_) (fun h => Bool.noConfusion (h1.symm.trans h))
 refine cR (oV vM (oV vA (o_seq (c_ret ?_))))
 cases hF
 exact sR
 replace hF := ite_f h1 hF
 refine c_region (oV vB (oV vA (o_seq ?_)))
 refine cC hF (fun hF => ?_) (fun hF => ?_)
 refine cR (oV vM (oV vA (o_seq (c_ret ?_))))
 cases hF
 exact sR
 refine cR (oV vB (oV vA (o_seq ?_)))
 refine cC hF (fun hF => ?_) (fun hF => ?_)
 refine cR (oV vA (o_seq (c_ret ?_)))
 cases hF
 exact sR
 refine cR (oV vB (oV vA (o_seq ?_)))
 refine cC hF (fun hF => ?_) (fun hF => ?_)
 refine cR (oV vA (o_seq (c_ret ?_)))
 cases hF
 exact sR
 refine cR (oV vB (oV vA (o_seq ?_)))
 refine cC hF (fun hF => ?_) (fun hF => ?_)
 refine cR (oV vA (o_seq (c_ret ?_)))
 cases hF
 exact sR
 refine c_skip (sat_wc (cR (oV vA (o_seq (c_ret ?_)))))
 cases hF
 exact sR
theorem tri113 {k : Nat} {b : List Int} {r : Tx} (hF : F.ref02.Quote k b = some r) :
    Tri Tryz.prog 113 [sl A1 L1 C1] [] [fS A1 L1 C1 1 eU8 b] (oR (sV r)) := by
 unfold F.ref02.Quote at hF
 refine tri_intro (n := 54) Tryz.func113 rfl Tryz.ntmps113 rfl fun w X => cR (oV vA (o_seq (cR (oV vA (o_seq (cR (oV vM (o_buildSlice (enc := eU8) ([34] : List Int) [iB 34] sl67 rfl (fun _ => by kernel_rfl) rfl rfl rfl (.s rfl (.nil)) rfl ?_))))))))
 intro A2 L2 C2
 refine ite_some hF fun h1 hF => ite_some hF fun h2 hF => o_st (st_nilrow 5 1) ?_
 refine o_append (enc := eU8) (xs := ([] : List Int)) (ys := ([34] : List Int)) 0 sl67 rfl rfl rfl (.r 1 _ rfl) h1 h2 rfl fun A3 L3 C3 => oV vA (o_seq (c_seq (cR (oV vA (o_seq ?_)))))
 obtain ⟨o1, ho1, hF⟩ := bd hF
 refine c_cut (fun E N' => ∀ (A5 : OA) (L5 C5 : Nat), Sat E [(2, sV ([] : Tx)), (3, sl A5 L5 C5)] [rW A5 L5 C5 5 1 eU8 o1] [] N') (fun N1 hN1 => ?_) ?_
 refine c_block ?_
 refine cL (fun E H Φ j a w => ∃ (out_ : List Int) (i : Int) (A4 : OA) (L4 C4 : Nat), F.ref02.Quote_l1 b j out_ i = some o1 ∧ St E [(0, sl A1 L1 C1), (2, sV ([] : Tx)), (3, sl A4 L4 C4), (4, iI i)] [rW A4 L4 C4 5 1 eU8 out_] Φ a w) k ?_ ?_
 exact lq [0] [0] fun a w hs => ⟨(([] : List Int) ++ ([34] : List Int)), 0, A3, L3, C3, ho1, hs⟩
 rintro j a w ⟨out_, i, A4, L4, C4, hL1, hs⟩
 rcases j with _ | j
 cases hL1
 refine wc_app hs ?_
 unfold F.ref02.Quote_l1 at hL1
 refine c_seq (cR (oV vM (oV vM (oV (v_lenS (enc := eU8) b sl67 rfl (.f 0 rfl)) (oV vB (o_seq ?_))))))
 refine cC hL1 (fun hL1 => ?_) (fun hL1 => ?_)
 refine c_skip (sat_wc (c_seq ?_))
 refine cT (fun E H Φ N' => ∀ (out_1 : List Int) (k_ : Int) (A6 : OA) (L6 C6 : Nat), F.ref02.Quote_j2 (F.ref02.Quote_l1 b j) i out_1 k_ = some o1 → Sat E [(0, sl A1 L1 C1), (2, sV ([] : Tx)), (3, sl A6 L6 C6), (4, iI i), (5, iB (at_ b i)), (6, iB k_)] [rW A6 L6 C6 5 1 eU8 out_1] Φ N') (fun N2 hN2 => ?_) ?_
 refine c_block (cR (oV vM (oV vM (ite_some hL1 ?_))))
 intro h4 hL1
 refine oV (v_indexAddr_s (xs := b) (enc := eU8) sl67 rfl rfl (.f 0 rfl) h4) (oV (v_load_s (xs := b) (enc := eU8) ty5 rfl (.f 0 rfl) h4 rfl rfl rfl rfl rfl rfl rfl) (oV vA (o_seq (cR (oV vM ?_)))))
 obtain ⟨v, h5, hL1⟩ := bd hL1
 refine o_callSB call133 rfl lent_nil (tri133 h5 :) rfl (oV vA (o_seq (cR (oV vM (oV vB (o_seq ?_))))))
 refine cT (fun E H Φ N' => ∀ (out_2 : List Int) (A7 : OA) (L7 C7 : Nat), F.ref02.Quote_j3 (F.ref02.Quote_l1 b j) i v out_2 = some o1 → Sat E [(0, sl A1 L1 C1), (2, sV ([] : Tx)), (3, sl A7 L7 C7), (4, iI i), (5, iB (at_ b i)), (6, iB v)] [rW A7 L7 C7 5 1 eU8 out_2] Φ N') (fun N3 hN3 => ?_) ?_
 refine cC hL1 (fun hL1 => ?_) (fun hL1 => ?_)
 refine c_region (oV vM (oV vM (o_buildSlice (enc := eU8) ([92, v] : List Int) [iB 92, iB v] sl67 rfl (fun _ => by kernel_rfl) rfl rfl rfl (.s rfl (.s rfl (.nil))) rfl ?_)))
 intro A8 L8 C8
 refine ite_some hL1 fun h7 hL1 => ite_some hL1 fun h8 hL1 => o_append (enc := eU8) (xs := out_) (ys := ([92, v] : List Int)) 1 sl67 rfl rfl rfl (.r 0 _ rfl) h7 h8 rfl fun A9 L9 C9 => oV vA (o_nil ?_)
 exact sK [1] [0] (hN3 (out_ ++ ([92, v] : List Int)) A9 L9 C9 hL1)
 refine c_seq ?_
 refine cT (fun E H Φ N' => ∀ (t33 : Bool), F.ref02.Quote_j4 out_ b i (F.ref02.Quote_l1 b j) v t33 = some o1 → Sat E [(0, sl A1 L1 C1), (2, sV ([] : Tx)), (3, sl A4 L4 C4), (4, iI i), (5, iB (at_ b i)), (6, iB v), (33, bV t33)] H Φ N') (fun N5 hN5 => ?_) ?_
 refine c_region (oV vM (oV vB (oV vM ?_)))
 refine oS 30 hL1 (fun hL1 => ?_) (fun hL1 => ?_)
 refine oN (oV vM (oN (oV vB (oV vPt (o_nil ?_)))))
 exact sK [0] [0] (hN5 (decide ((at_ b i) ≤ 126)) hL1)
 refine oF (oF (oV vPf (o_nil ?_)))
 exact sK [0] [0] (hN5 false hL1)
 intro t33 hL1
 unfold F.ref02.Quote_j4 at hL1
 refine sat_wc ?_
 refine cT (fun E H Φ N' => ∀ (out_3 : List Int) (A10 : OA) (L10 C10 : Nat), F.ref02.Quote_j5 (F.ref02.Quote_l1 b j) i v out_3 = some o1 → Sat E [(0, sl A1 L1 C1), (2, sV ([] : Tx)), (3, sl A10 L10 C10), (4, iI i), (5, iB (at_ b i)), (6, iB v)] [rW A10 L10 C10 5 1 eU8 out_3] Φ N') (fun N5 hN5 => ?_) ?_
 refine cC hL1 (fun hL1 => ?_) (fun hL1 => ?_)
 refine c_region (oV vM (oV vM (o_buildSlice (enc := eU8) ([at_ b i] : List Int) [iB (at_ b i)] sl67 rfl (fun _ => by kernel_rfl) rfl rfl rfl (.s rfl (.nil)) rfl ?_)))
 intro A11 L11 C11
 refine ite_some hL1 fun h10 hL1 => ite_some hL1 fun h11 hL1 => o_append (enc := eU8) (xs := out_) (ys := ([at_ b i] : List Int)) 1 sl67 rfl rfl rfl (.r 0 _ rfl) h10 h11 rfl fun A12 L12 C12 => oV vA (o_nil ?_)
 exact sK [1] [0] (hN5 (out_ ++ ([at_ b i] : List Int)) A12 L12 C12 hL1)
 refine c_draw (n := 12) [] mixed rfl rfl (dv 0 rfl vM (dv 1 rfl vM (dv 2 rfl (v_convert (v := iI (IntKind.wrap .i64 (at_ b i))) rfl (fun _ => by kernel_rfl)) (dv 3 rfl (v_quo rfl rfl rfl) (ite_some hL1 ?_)))))
 intro h12 hL1
 refine dv 4 rfl (v_sindex Tryz.underlying9 rfl rfl h12) (dv 5 rfl vM (dv 6 rfl (v_convert (v := iI (IntKind.wrap .i64 (at_ b i))) rfl (fun _ => by kernel_rfl)) (dv 7 rfl (v_rem rfl rfl rfl) (ite_some hL1 ?_))))
 intro h13 hL1
 refine dv 8 rfl (v_sindex Tryz.underlying9 rfl rfl h13) (dO 9 rfl (o_buildSlice (enc := eU8) ([92, 120, sAt ([48, 49, 50, 51, 52, 53, 54, 55, 56, 57, 97, 98, 99, 100, 101, 102] : Tx) (gquo .i64 (IntKind.wrap .i64 (at_ b i)) 16), sAt ([48, 49, 50, 51, 52, 53, 54, 55, 56, 57, 97, 98, 99, 100, 101, 102] : Tx) (grem (IntKind.wrap .i64 (at_ b i)) 16)] : List Int) [iB 92, iB 120, iB (sAt ([48, 49, 50, 51, 52, 53, 54, 55, 56, 57, 97, 98, 99, 100, 101, 102] : Tx) (gquo .i64 (IntKind.wrap .i64 (at_ b i)) 16)), iB (sAt ([48, 49, 50, 51, 52, 53, 54, 55, 56, 57, 97, 98, 99, 100, 101, 102] : Tx) (grem (IntKind.wrap .i64 (at_ b i)) 16))] sl67 rfl (fun _ => by kernel_rfl) rfl rfl rfl (.s rfl (.s rfl (.s rfl (.s rfl (.nil))))) rfl ?_))
 intro A13 L13 C13
 refine dN [] 0 (dO 10 rfl ?_)
 refine ite_some hL1 fun h14 hL1 => ite_some hL1 fun h15 hL1 => o_append (enc := eU8) (xs := out_) (ys := ([92, 120, sAt ([48, 49, 50, 51, 52, 53, 54, 55, 56, 57, 97, 98, 99, 100, 101, 102] : Tx) (gquo .i64 (IntKind.wrap .i64 (at_ b i)) 16), sAt ([48, 49, 50, 51, 52, 53, 54, 55, 56, 57, 97, 98, 99, 100, 101, 102] : Tx) (grem (IntKind.wrap .i64 (at_ b i)) 16)] : List Int)) 1 sl67 rfl rfl rfl (.r 0 _ rfl) h14 h15 rfl fun A14 L14 C14 => dN [] 0 (dv 11 rfl vA (dD ?_))
 exact sK [1] [0] (hN5 (out_ ++ ([92, 120, sAt ([48, 49, 50, 51, 52, 53, 54, 55, 56, 57, 97, 98, 99, 100, 101, 102] : Tx) (gquo .i64 (IntKind.wrap .i64 (at_ b i)) 16), sAt ([48, 49, 50, 51, 52, 53, 54, 55, 56, 57, 97, 98, 99, 100, 101, 102] : Tx) (grem (IntKind.wrap .i64 (at_ b i)) 16)] : List Int)) A14 L14 C14 hL1)
 intro out_3 A10 L10 C10 hL1
 unfold F.ref02.Quote_j5 at hL1
 exact sK [0] [0] (hN3 out_3 A10 L10 C10 hL1)
 intro out_2 A7 L7 C7 hL1
 unfold F.ref02.Quote_j3 at hL1
 exact sK [0] [0] (hN2 out_2 v A7 L7 C7 hL1)
 intro out_1 k_ A6 L6 C6 hL1
 unfold F.ref02.Quote_j2 at hL1
 refine sat_wc (c_region (oV vM (oV vB (oV vA (o_nil ?_)))))
 exact lp [0] [0] fun a w hs => ⟨out_1, IntKind.wrap .i64 (i + 1), A6, L6, C6, hL1, hs⟩
 refine c_exit0 ?_
 cases hL1
 exact sK [0] [] (hN1 A4 L4 C4)
 intro A5 L5 C5
 refine sat_wc (cR (oV vM (o_buildSlice (enc := eU8) ([34] : List Int) [iB 34] sl67 rfl (fun _ => by kernel_rfl) rfl rfl rfl (.s rfl (.nil)) rfl ?_)))
 intro A15 L15 C15
 refine ite_some hF fun h17 hF => ite_some hF fun h18 hF => o_append (enc := eU8) (xs := o1) (ys := ([34] : List Int)) 1 sl67 rfl rfl rfl (.r 0 _ rfl) h17 h18 rfl fun A16 L16 C16 => oV vA (o_seq (cR (oV vM (oV (v_bytesStr sl67 Tryz.underlying5 Tryz.underlying9 rfl (.r 1 _ rfl)) (oV vA (o_seq ?_))))))
 refine c_ret ?_
 cases hF
 exact sR
end Go.Vc
