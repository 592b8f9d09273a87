import Derived.Test.YtdbnoblklhgdoaaGreatDoorW2
set_option linter.unusedVariables false
set_option linter.unusedSimpArgs false
set_option maxRecDepth 8000
set_option maxHeartbeats 2000000
namespace Go.Vc
open Go Go.Proofs
variable {A1 A2 A3 A4 A5 A6 A7 A8 A9 A10 A11 A12 A13 A14 A15 A16 A17 A18 A19 A20 A21 A22 A23 A24 A25 A26 A27 : OA} {L1 C1 L2 C2 L3 C3 L4 C4 L5 C5 L6 C6 L7 C7 L8 C8 L9 C9 L10 C10 L11 C11 L12 C12 L13 C13 L14 C14 L15 C15 L16 C16 L17 C17 L18 C18 L19 C19 L20 C20 L21 C21 L22 C22 L23 C23 L24 C24 L25 C25 L26 C26 L27 C27 : Nat}
theorem tri31_B (k : Nat) (g31 : List Item → Option (List UInt8))
    (hg31 : ∀ {l__ : List Item} {A1 : OA} {L1 C1 : Nat} {r : Tx}, g31 l__ = some r → Tri Tryz.prog 31 [sl A1 L1 C1] [] [gf10 1, fS A1 L1 C1 4 eItem l__] (oR (sV r))) {l__ : List Item} {A1 : OA} {L1 C1 : Nat} {r : Tx} (hF : F.defs.itemsText_B k g31 l__ = some r) :
    Tri Tryz.prog 31 [sl A1 L1 C1] [] [gf10 1, fS A1 L1 C1 4 eItem l__] (oR (sV r)) := by
 unfold F.defs.itemsText_B at hF
 refine tri_intro (n := 64) Tryz.func31 rfl Tryz.ntmps31 rfl fun w X => cR (oV vA (o_seq (cR (oV vA (o_seq (c_seq (cR (oV vM (oV (v_lenS (enc := eItem) l__ sl62 rfl (.f 1 rfl)) (oV vM (o_seq ?_)))))))))))
 obtain ⟨o1, ho1, hF⟩ := bd hF
 refine cT (fun E H Φ N' => Sat E [(0, sl A1 L1 C1), (2, sV ([] : Tx)), (3, sV o1), (6, sl A1 L1 C1)] [] Φ N') (fun N1 hN1 => ?_) ?_
 refine c_block ?_
 refine cL (fun E H Φ j a w => ∃ (out_ : Tx) (t8 : Int), F.defs.itemsText_l1 k l__ g31 j out_ t8 = some o1 ∧ St E [(0, sl A1 L1 C1), (2, sV ([] : Tx)), (3, sV out_), (6, sl A1 L1 C1), (7, iI (l__.length : Int)), (8, iI t8)] [] Φ a w) k ?_ ?_
 exact lq [] [0, 1] fun a w hs => ⟨([] : Tx), 0, ho1, hs⟩
 rintro j a w ⟨out_, t8, hL1, hs⟩
 rcases j with _ | j
 cases hL1
 refine wc_app hs ?_
 unfold F.defs.itemsText_l1 at hL1
 refine cR (oV vB (o_seq (c_seq ?_)))
 refine cC hL1 (fun hL1 => ?_) (fun hL1 => ?_)
 refine c_skip (sat_wc (c_seq ?_))
 refine c_cut (fun E N' => ∀ (out_1 : Tx) (A2 : OA) (L2 C2 : Nat) (b : Nat), F.defs.itemsText_j2 (F.defs.itemsText_l1 k l__ g31 j) t8 out_1 = some o1 → Sat E [(0, sl A1 L1 C1), (2, sV ([] : Tx)), (3, sV out_1), (5, pt b), (6, sl A1 L1 C1), (7, iI (l__.length : Int)), (8, iI t8), (13, iI ((at_ l__ t8).Kind))] [.box b 124 (vItem (at_ l__ t8) A2 L2 C2)] [gf10 1, fS A1 L1 C1 4 eItem l__, fS A2 L2 C2 4 eItem ((at_ l__ t8).Items)] N') (fun N2 hN2 => ?_) ?_
 refine c_block (cR (ite_some hL1 fun h2 hL1 => oV (v_indexAddr_s (xs := l__) (enc := eItem) sl62 rfl rfl (.f 1 rfl) h2) (o_load_s (ds := [.int .i64 ((at_ l__ t8).Kind), .str ((at_ l__ t8).Text), .int .i64 ((at_ l__ t8).N_), .slice 4 (((at_ l__ t8).Items).map eItem)]) (xs := l__) (enc := eItem) ty124 rfl (.f 1 rfl) h2 (by simp only [eItem_eq] <;> rfl) rfl rfl rfl rfl rfl ?_)))
 intro A3 L3 C3
 refine o_alloc zero124 rfl rfl fun b1 => (sT 0 ty124) (o_seq (cR ((fD 0) (oV (vL 0 ty3) (o_seq ?_)))))
 refine cT (fun E H Φ N' => ∀ (out_2 : Tx), F.defs.itemsText_j3 (F.defs.itemsText_l1 k l__ g31 j) t8 out_2 = some o1 → Sat E [(0, sl A1 L1 C1), (2, sV ([] : Tx)), (3, sV out_2), (5, pt b1), (6, sl A1 L1 C1), (7, iI (l__.length : Int)), (8, iI t8), (13, iI ((at_ l__ t8).Kind))] H [gf10 1, fS A1 L1 C1 4 eItem l__, fS A3 L3 C3 4 eItem ((at_ l__ t8).Items)] N') (fun N3 hN3 => ?_) ?_
 refine c_block (cR (oV vB (oV vA (o_seq ?_))))
 refine cT (fun E H Φ N' => ∀ (out_3 : Tx), F.defs.itemsText_j4 (F.defs.itemsText_l1 k l__ g31 j) t8 out_3 = some o1 → Sat E [(0, sl A1 L1 C1), (2, sV ([] : Tx)), (3, sV out_3), (5, pt b1), (6, sl A1 L1 C1), (7, iI (l__.length : Int)), (8, iI t8), (13, iI ((at_ l__ t8).Kind))] H [gf10 1, fS A1 L1 C1 4 eItem l__, fS A3 L3 C3 4 eItem ((at_ l__ t8).Items)] N') (fun N4 hN4 => ?_) ?_
 refine cC hL1 (fun hL1 => ?_) (fun hL1 => ?_)
 refine c_region (oV vM ((fD 1) (oV (vL 0 ty9) (o_strBytes Tryz.underlying9 Tryz.underlying67 Tryz.underlying5 rfl rfl ?_))))
 intro A4 L4 C4
 refine ?_
 obtain ⟨v, h4, hL1⟩ := bd hL1
 refine o_callSB call72 rfl (lent_f 0 rfl lent_nil) (tri72 h4 :) rfl (ite_some hL1 fun h5 hL1 => oV (vS h5) (ite_some hL1 ?_))
 intro h6 hL1
 refine oV (vS h6) (oV vA (o_nil ?_))
 exact sK [0] [2, 3, 1] (hN4 (out_ ++ (([32] : Tx) ++ v)) hL1)
 refine cR (oV vB (oV vA (o_seq ?_)))
 refine cT (fun E H Φ N' => ∀ (out_4 : Tx), F.defs.itemsText_j5 (F.defs.itemsText_l1 k l__ g31 j) t8 out_4 = some o1 → Sat E [(0, sl A1 L1 C1), (2, sV ([] : Tx)), (3, sV out_4), (5, pt b1), (6, sl A1 L1 C1), (7, iI (l__.length : Int)), (8, iI t8), (13, iI ((at_ l__ t8).Kind))] H [gf10 1, fS A1 L1 C1 4 eItem l__, fS A3 L3 C3 4 eItem ((at_ l__ t8).Items)] N') (fun N5 hN5 => ?_) ?_
 refine cC hL1 (fun hL1 => ?_) (fun hL1 => ?_)
 refine c_region (oV vM ((fD 2) (oV (vL 0 ty3) ?_)))
 obtain ⟨v1, h8, hL1⟩ := bd hL1
 refine o_callSB call73 rfl (lent_f 1 rfl lent_nil) (tri73 ((at_ l__ t8).N_) v1 h8) rfl (ite_some hL1 fun h9 hL1 => oV (vS h9) (ite_some hL1 ?_))
 intro h10 hL1
 refine oV (vS h10) (oV vA (o_nil ?_))
 exact sK [0] [1, 2, 0] (hN5 (out_ ++ (([32] : Tx) ++ v1)) hL1)
 refine cR (oV vB (oV vA (o_seq ?_)))
 refine cT (fun E H Φ N' => ∀ (out_5 : Tx), F.defs.itemsText_j6 (F.defs.itemsText_l1 k l__ g31 j) t8 out_5 = some o1 → Sat E [(0, sl A1 L1 C1), (2, sV ([] : Tx)), (3, sV out_5), (5, pt b1), (6, sl A1 L1 C1), (7, iI (l__.length : Int)), (8, iI t8), (13, iI ((at_ l__ t8).Kind))] H [gf10 1, fS A1 L1 C1 4 eItem l__, fS A3 L3 C3 4 eItem ((at_ l__ t8).Items)] N') (fun N6 hN6 => ?_) ?_
 refine cC hL1 (fun hL1 => ?_) (fun hL1 => ?_)
 refine c_region (oV vM (ite_some hL1 ?_))
 intro h12 hL1
 refine oV (vS h12) (oV vA (o_nil ?_))
 exact sK [0] [1, 2, 0] (hN6 (out_ ++ ([32, 95] : Tx)) hL1)
 refine cR (oV vB (oV vA (o_seq ?_)))
 refine cT (fun E H Φ N' => ∀ (out_6 : Tx), F.defs.itemsText_j7 (F.defs.itemsText_l1 k l__ g31 j) t8 out_6 = some o1 → Sat E [(0, sl A1 L1 C1), (2, sV ([] : Tx)), (3, sV out_6), (5, pt b1), (6, sl A1 L1 C1), (7, iI (l__.length : Int)), (8, iI t8), (13, iI ((at_ l__ t8).Kind))] H [gf10 1, fS A1 L1 C1 4 eItem l__, fS A3 L3 C3 4 eItem ((at_ l__ t8).Items)] N') (fun N7 hN7 => ?_) ?_
 refine cC hL1 (fun hL1 => ?_) (fun hL1 => ?_)
 refine c_region (oV vM (ite_some hL1 ?_))
 intro h14 hL1
 refine oV (vS h14) (oV vA (o_nil ?_))
 exact sK [0] [1, 2, 0] (hN7 (out_ ++ ([32, 47] : Tx)) hL1)
 refine cR (oV vB (oV vA (o_seq ?_)))
 refine cT (fun E H Φ N' => ∀ (out_7 : Tx), F.defs.itemsText_j8 (F.defs.itemsText_l1 k l__ g31 j) t8 out_7 = some o1 → Sat E [(0, sl A1 L1 C1), (2, sV ([] : Tx)), (3, sV out_7), (5, pt b1), (6, sl A1 L1 C1), (7, iI (l__.length : Int)), (8, iI t8), (13, iI ((at_ l__ t8).Kind))] H [gf10 1, fS A1 L1 C1 4 eItem l__, fS A3 L3 C3 4 eItem ((at_ l__ t8).Items)] N') (fun N8 hN8 => ?_) ?_
 refine cC hL1 (fun hL1 => ?_) (fun hL1 => ?_)
 refine c_draw (n := 13) [0] mixed rfl rfl (dv 0 rfl vM (dv 1 rfl (vF 2) (dv 2 rfl (vL 0 ty3) (dv 6 rfl (vF 3) (dv 7 rfl (vL 0 ty62) (dO 3 rfl ?_))))))
 obtain ⟨v2, h16, hL1⟩ := bd hL1
 refine o_callSB call73 rfl (lent_f 1 rfl lent_nil) (tri73 ((at_ l__ t8).N_) v2 h16) rfl (dN [0] 0 (ite_some hL1 ?_))
 intro h17 hL1
 refine dv 4 rfl (vS h17) (ite_some hL1 ?_)
 intro h18 hL1
 refine dv 5 rfl (vS h18) (dO 8 rfl ?_)
 obtain ⟨v3, h19, hL1⟩ := bd hL1
 refine o_callSB call31 rfl (lent_f 1 rfl (lent_f 0 rfl lent_nil)) (hg31 h19 :) rfl (dN [0] 0 (ite_some hL1 ?_))
 intro h20 hL1
 refine dv 9 rfl (vS h20) (ite_some hL1 ?_)
 intro h21 hL1
 refine dv 10 rfl (vS h21) (ite_some hL1 ?_)
 intro h22 hL1
 refine dv 11 rfl (vS h22) (dv 12 rfl vA (dD ?_))
 exact sK [0] [1, 2, 0] (hN8 (out_ ++ ((((([32, 110, 101, 115, 116, 32] : Tx) ++ v2) ++ ([32, 40] : Tx)) ++ v3) ++ ([32, 41] : Tx))) hL1)
 refine cR (oV vB (oV vA (o_seq ?_)))
 refine cT (fun E H Φ N' => ∀ (out_8 : Tx), F.defs.itemsText_j9 (F.defs.itemsText_l1 k l__ g31 j) t8 out_8 = some o1 → Sat E [(0, sl A1 L1 C1), (2, sV ([] : Tx)), (3, sV out_8), (5, pt b1), (6, sl A1 L1 C1), (7, iI (l__.length : Int)), (8, iI t8), (13, iI ((at_ l__ t8).Kind))] H [gf10 1, fS A1 L1 C1 4 eItem l__, fS A3 L3 C3 4 eItem ((at_ l__ t8).Items)] N') (fun N9 hN9 => ?_) ?_
 refine cC hL1 (fun hL1 => ?_) (fun hL1 => ?_)
 refine c_region (oV vM ((fD 3) (oV (vL 0 ty62) ?_)))
 obtain ⟨v4, h24, hL1⟩ := bd hL1
 refine o_callSB call31 rfl (lent_f 1 rfl (lent_f 0 rfl lent_nil)) (hg31 h24 :) rfl (ite_some hL1 fun h25 hL1 => oV (vS h25) (ite_some hL1 ?_))
 intro h26 hL1
 refine oV (vS h26) (ite_some hL1 ?_)
 intro h27 hL1
 refine oV (vS h27) (oV vA (o_nil ?_))
 exact sK [0] [1, 2, 0] (hN9 (out_ ++ ((([32, 103, 114, 111, 117, 112, 32, 40] : Tx) ++ v4) ++ ([32, 41] : Tx))) hL1)
 refine c_skip ?_
 exact sK [0] [1, 2, 0] (hN9 out_ hL1)
 intro out_8 hL1
 unfold F.defs.itemsText_j9 at hL1
 exact sK [0] [0, 1, 2] (hN8 out_8 hL1)
 intro out_7 hL1
 unfold F.defs.itemsText_j8 at hL1
 exact sK [0] [0, 1, 2] (hN7 out_7 hL1)
 intro out_6 hL1
 unfold F.defs.itemsText_j7 at hL1
 exact sK [0] [0, 1, 2] (hN6 out_6 hL1)
 intro out_5 hL1
 unfold F.defs.itemsText_j6 at hL1
 exact sK [0] [0, 1, 2] (hN5 out_5 hL1)
 intro out_4 hL1
 unfold F.defs.itemsText_j5 at hL1
 exact sK [0] [0, 1, 2] (hN4 out_4 hL1)
 intro out_3 hL1
 unfold F.defs.itemsText_j4 at hL1
 exact sK [0] [0, 1, 2] (hN3 out_3 hL1)
 intro out_2 hL1
 unfold F.defs.itemsText_j3 at hL1
 exact sK [0] [0, 1, 2] (hN2 out_2 A3 L3 C3 b1 hL1)
 intro out_1 A2 L2 C2 b hL1
 unfold F.defs.itemsText_j2 at hL1
 refine sat_wc (c_region (oV vB (oV vM (o_nil ?_))))
 exact lp [] [0, 1] fun a w hs => ⟨out_1, IntKind.wrap .i64 (t8 + 1), hL1, hs⟩
 refine c_exit0 ?_
 cases hL1
 exact sK [] [0, 1] (hN1)
 refine sat_wc (cR (oV vM (oV vA (o_seq (c_ret ?_)))))
 cases hF
 exact sR
theorem tri31 (k : Nat) : (∀ {l__ : List Item} {A1 : OA} {L1 C1 : Nat} {r : Tx}, F.defs.itemsText k l__ = some r → Tri Tryz.prog 31 [sl A1 L1 C1] [] [gf10 1, fS A1 L1 C1 4 eItem l__] (oR (sV r))) := by
 induction k with
 | zero => exact fun h => nomatch (show none = some _ from h)
 | succ k ih => exact tri31_B k _ ih
theorem tri13 {k : Nat} {d_ : Def} {r : List UInt8 × Int} (hF : F.defs.Print k d_ = some r) :
    Tri Tryz.prog 13 [.agg (vDef d_ A1 L1 C1 A2 L2 C2 A3 L3 C3 A4 L4 C4 A5 L5 C5).toArray] [] [gf10 1, fS A1 L1 C1 5 eProd d_.Prods, fS A2 L2 C2 1 (eSl 2 eGroup) d_.Chains, fS A3 L3 C3 5 eFollow d_.Follows, fS A4 L4 C4 2 eReject d_.Rejects, fS A5 L5 C5 2 eBox d_.Boxes] (oR (.tuple #[sV r.1, iI r.2])) := by
 unfold F.defs.Print at hF
 refine tri_intro (n := 159) Tryz.func13 rfl Tryz.ntmps13 rfl fun w X => cR (o_box rfl rfl rfl fun b => oV vA (oV vA (o_seq (c_seq (cR (oV (vL 0 ty28) ?_))))))
 obtain ⟨v, h1, hF⟩ := bd hF
 refine o_callSB call17 rfl (lent_f 1 rfl (lent_f 2 rfl (lent_f 3 rfl (lent_f 4 rfl (lent_f 5 rfl lent_nil))))) (tri17 h1 :) rfl (oV vN (o_seq ?_))
 refine cC hF (fun hF => ?_) (fun hF => ?_)
 refine cR (oV vA (oV vA (o_seq (c_ret ?_))))
 cases hF
 refine s_ret2 rfl (r_tmp rfl) (r_tmp rfl) fun a w hs => fin_sel hs [] ⟨rfl, rfl, rfl⟩ rfl sub_nil
 refine c_skip (sat_wc (cR (o_alloc zero69 rfl rfl fun b1 => o_seq (cR (oV (v_makeFunc (vs := [pt b1]) rfl) (oV vA (o_seq (c_seq (cR ((fD 0) (oV (vL 1 ty9) ?_)))))))))))
 refine oV (v_strne rfl rfl) (o_seq ?_)
 refine cT (fun E H Φ N' => ∀ (addr_ : Bool) (buf_ : List Int) (A6 : OA) (L6 C6 : Nat), F.defs.Print_j1 k d_ addr_ buf_ = some r → Sat E [(0, .agg (vDef d_ A1 L1 C1 A2 L2 C2 A3 L3 C3 A4 L4 C4 A5 L5 C5).toArray), (1, pt b), (2, sV ([] : Tx)), (3, iI 0), (4, pt b1), (5, .func (.func 26) #[] #[pt b1])] [.box b1 69 [bptr b1 addr_, sl A6 L6 C6], .box b 28 (vDef d_ A1 L1 C1 A2 L2 C2 A3 L3 C3 A4 L4 C4 A5 L5 C5), rW A6 L6 C6 5 1 eU8 buf_] Φ N') (fun N12 hN12 => ?_) ?_
 refine cC hF (fun hF => ?_) (fun hF => ?_)
 refine c_region (oV vM ((fD 0) (oV (vL 1 ty9) (ite_some hF ?_))))
 intro h46 hF
 refine oV (vS h46) (ite_some hF ?_)
 intro h47 hF
 refine oV (vS h47) ?_
 obtain ⟨v12, h48, hF⟩ := bd hF
 refine o_st (st_nilrow 5 1) (o_call [1, 0] call26 (cap := #[pt b1]) rfl rfl rfl sub_nil (by exact (tri26 h48 :)) rfl ?_)
 rintro _ _ _ ⟨A27, L27, C27, rfl, rfl, rfl⟩
 refine o_nil ?_
 exact sK [0, 1, 0] [0, 1, 2, 3, 4, 5] (hN12 v12.2.addr v12.2.buf A27 L27 C27 hF)
 refine c_skip (s_st (st_nilrow 5 1) ?_)
 exact sK [1, 1, 0] [0, 1, 2, 3, 4, 5] (hN12 false ([] : List Int) none 0 0 hF)
 intro addr_ buf_ A6 L6 C6 hF
 unfold F.defs.Print_j1 at hF
 refine sat_wc (c_seq (cR ((fD 1) (oV (vL 1 ty9) (oV (v_strne rfl rfl) (o_seq ?_))))))
 refine cT (fun E H Φ N' => ∀ (addr_1 : Bool) (buf_1 : List Int) (A7 : OA) (L7 C7 : Nat), F.defs.Print_j2 k d_ addr_1 buf_1 = some r → Sat E [(0, .agg (vDef d_ A1 L1 C1 A2 L2 C2 A3 L3 C3 A4 L4 C4 A5 L5 C5).toArray), (1, pt b), (2, sV ([] : Tx)), (3, iI 0), (4, pt b1), (5, .func (.func 26) #[] #[pt b1])] [.box b1 69 [bptr b1 addr_1, sl A7 L7 C7], .box b 28 (vDef d_ A1 L1 C1 A2 L2 C2 A3 L3 C3 A4 L4 C4 A5 L5 C5), rW A7 L7 C7 5 1 eU8 buf_1] Φ N') (fun N12 hN12 => ?_) ?_
 refine cC hF (fun hF => ?_) (fun hF => ?_)
 refine c_region (oV vM ((fD 1) (oV (vL 1 ty9) (ite_some hF ?_))))
 intro h42 hF
 refine oV (vS h42) (ite_some hF ?_)
 intro h43 hF
 refine oV (vS h43) ?_
 obtain ⟨v11, h44, hF⟩ := bd hF
 refine o_call [0, 1] call26 (cap := #[pt b1]) rfl rfl rfl sub_nil (by exact (tri26 h44 :)) rfl ?_
 rintro _ _ _ ⟨A26, L26, C26, rfl, rfl, rfl⟩
 refine o_nil ?_
 exact sK [0, 1, 0] [0, 1, 2, 3, 4, 5] (hN12 v11.2.addr v11.2.buf A26 L26 C26 hF)
 refine c_skip ?_
 exact sK [0, 0, 0] [0, 1, 2, 3, 4, 5] (hN12 addr_ buf_ A6 L6 C6 hF)
 intro addr_1 buf_1 A7 L7 C7 hF
 unfold F.defs.Print_j2 at hF
 refine sat_wc (cR (oV vA (o_seq (c_seq (cR (oV vA (o_seq ?_)))))))
 obtain ⟨o3, ho3, hF⟩ := bd hF
 refine cT (fun E H Φ N' => ∀ (A9 : OA) (L9 C9 : Nat), Sat E [(0, .agg (vDef d_ A1 L1 C1 A2 L2 C2 A3 L3 C3 A4 L4 C4 A5 L5 C5).toArray), (1, pt b), (2, sV ([] : Tx)), (3, iI 0), (4, pt b1), (5, .func (.func 26) #[] #[pt b1]), (6, bV o3.1)] [.box b1 69 [bptr b1 o3.2.1, sl A9 L9 C9], .box b 28 (vDef d_ A1 L1 C1 A2 L2 C2 A3 L3 C3 A4 L4 C4 A5 L5 C5), rW A9 L9 C9 5 1 eU8 o3.2.2] Φ N') (fun N3 hN3 => ?_) ?_
 refine c_block ?_
 refine cL (fun E H Φ j a w => ∃ (ok_ : Bool) (i : Int) (addr_2 : Bool) (buf_2 : List Int) (A8 : OA) (L8 C8 : Nat), F.defs.Print_l3 k d_ j ok_ i addr_2 buf_2 = some o3 ∧ St E [(0, .agg (vDef d_ A1 L1 C1 A2 L2 C2 A3 L3 C3 A4 L4 C4 A5 L5 C5).toArray), (1, pt b), (2, sV ([] : Tx)), (3, iI 0), (4, pt b1), (5, .func (.func 26) #[] #[pt b1]), (6, bV ok_), (7, iI i)] [.box b1 69 [bptr b1 addr_2, sl A8 L8 C8], .box b 28 (vDef d_ A1 L1 C1 A2 L2 C2 A3 L3 C3 A4 L4 C4 A5 L5 C5), rW A8 L8 C8 5 1 eU8 buf_2] Φ a w) k ?_ ?_
 exact lq [0, 0, 0] [0, 1, 2, 3, 4, 5] fun a w hs => ⟨true, 0, addr_1, buf_1, A7, L7, C7, ho3, hs⟩
 rintro j a w ⟨ok_, i, addr_2, buf_2, A8, L8, C8, hL3, hs⟩
 rcases j with _ | j
 cases hL3
 refine wc_app hs ?_
 unfold F.defs.Print_l3 at hL3
 refine c_seq (c_seq ?_)
 refine cT (fun E H Φ N' => ∀ (t41 : Bool), F.defs.Print_j4 k i d_ addr_2 buf_2 (F.defs.Print_l3 k d_ j) ok_ t41 = some o3 → Sat E [(0, .agg (vDef d_ A1 L1 C1 A2 L2 C2 A3 L3 C3 A4 L4 C4 A5 L5 C5).toArray), (1, pt b), (2, sV ([] : Tx)), (3, iI 0), (4, pt b1), (5, .func (.func 26) #[] #[pt b1]), (6, bV ok_), (7, iI i), (41, bV t41)] H Φ N') (fun N4 hN4 => ?_) ?_
 refine c_region (oV vM ((fD 2) (oV (vL 1 ty22) (oV (v_lenS (enc := eProd) d_.Prods sl22 rfl (.f 1 rfl)) (oV vB (oV vM ?_))))))
 refine oS 39 hL3 (fun hL3 => ?_) (fun hL3 => ?_)
 refine oN (oV vM (oV vPt (o_nil ?_)))
 exact sK [0, 0, 0] [0, 1, 2, 3, 4, 5] (hN4 ok_ hL3)
 refine oF (oV vPf (o_nil ?_))
 exact sK [0, 0, 0] [0, 1, 2, 3, 4, 5] (hN4 false hL3)
 intro t41 hL3
 unfold F.defs.Print_j4 at hL3
 refine sat_wc ?_
 refine cC hL3 (fun hL3 => ?_) (fun hL3 => ?_)
 refine c_skip (sat_wc (c_seq (c_block (c_region (oV vM ((fD 2) (oV (vL 1 ty22) (oV vM (ite_some hL3 ?_)))))))))
 intro h4 hL3
 refine oV (v_indexAddr_s (xs := d_.Prods) (enc := eProd) sl22 rfl rfl (.f 1 rfl) h4) (o_load_s (xs := d_.Prods) (enc := eProd) ty57 rfl (.f 1 rfl) h4 rfl rfl rfl rfl rfl rfl ?_)
 intro A10 L10 C10
 refine ?_
 obtain ⟨v1, h5, hL3⟩ := bd hL3
 refine o_callSB call29 rfl (lent_f 0 rfl lent_nil) (tri29 h5 :) rfl ?_
 obtain ⟨v2, h6, hL3⟩ := bd hL3
 refine o_call [0, 1] call26 (cap := #[pt b1]) rfl rfl rfl sub_nil (by exact (tri26 h6 :)) rfl ?_
 rintro _ _ _ ⟨A11, L11, C11, rfl, rfl, rfl⟩
 refine oV vA (o_nil (sat_wc (c_region (oV vM (oV vB (oV vA (o_nil ?_)))))))
 exact lp [0, 1, 0] [1, 2, 3, 4, 5, 6] fun a w hs => ⟨v2.1, IntKind.wrap .i64 (i + 1), v2.2.addr, v2.2.buf, A11, L11, C11, hL3, hs⟩
 refine c_exit0 ?_
 cases hL3
 exact sK [0, 0, 0] [0, 1, 2, 3, 4, 5] (hN3 A8 L8 C8)
 intro A9 L9 C9
 refine sat_wc (c_seq (cR (oV vA (o_seq ?_))))
 obtain ⟨o5, ho5, hF⟩ := bd hF
 refine cT (fun E H Φ N' => ∀ (A13 : OA) (L13 C13 : Nat), Sat E [(0, .agg (vDef d_ A1 L1 C1 A2 L2 C2 A3 L3 C3 A4 L4 C4 A5 L5 C5).toArray), (1, pt b), (2, sV ([] : Tx)), (3, iI 0), (4, pt b1), (5, .func (.func 26) #[] #[pt b1]), (6, bV o5.1)] [.box b1 69 [bptr b1 o5.2.1, sl A13 L13 C13], .box b 28 (vDef d_ A1 L1 C1 A2 L2 C2 A3 L3 C3 A4 L4 C4 A5 L5 C5), rW A13 L13 C13 5 1 eU8 o5.2.2] Φ N') (fun N5 hN5 => ?_) ?_
 refine c_block ?_
 refine cL (fun E H Φ j a w => ∃ (ok_1 : Bool) (i1 : Int) (addr_3 : Bool) (buf_3 : List Int) (A12 : OA) (L12 C12 : Nat), F.defs.Print_l5 k d_ j ok_1 i1 addr_3 buf_3 = some o5 ∧ St E [(0, .agg (vDef d_ A1 L1 C1 A2 L2 C2 A3 L3 C3 A4 L4 C4 A5 L5 C5).toArray), (1, pt b), (2, sV ([] : Tx)), (3, iI 0), (4, pt b1), (5, .func (.func 26) #[] #[pt b1]), (6, bV ok_1), (8, iI i1)] [.box b1 69 [bptr b1 addr_3, sl A12 L12 C12], .box b 28 (vDef d_ A1 L1 C1 A2 L2 C2 A3 L3 C3 A4 L4 C4 A5 L5 C5), rW A12 L12 C12 5 1 eU8 buf_3] Φ a w) k ?_ ?_
 exact lq [0, 0, 0] [0, 1, 2, 3, 4, 5] fun a w hs => ⟨o3.1, 0, o3.2.1, o3.2.2, A9, L9, C9, ho5, hs⟩
 rintro j a w ⟨ok_1, i1, addr_3, buf_3, A12, L12, C12, hL5, hs⟩
 rcases j with _ | j
 cases hL5
 refine wc_app hs ?_
 unfold F.defs.Print_l5 at hL5
 refine c_seq (c_seq ?_)
 refine cT (fun E H Φ N' => ∀ (t59 : Bool), F.defs.Print_j6 k i1 d_ addr_3 buf_3 (F.defs.Print_l5 k d_ j) ok_1 t59 = some o5 → Sat E [(0, .agg (vDef d_ A1 L1 C1 A2 L2 C2 A3 L3 C3 A4 L4 C4 A5 L5 C5).toArray), (1, pt b), (2, sV ([] : Tx)), (3, iI 0), (4, pt b1), (5, .func (.func 26) #[] #[pt b1]), (6, bV ok_1), (8, iI i1), (59, bV t59)] H Φ N') (fun N6 hN6 => ?_) ?_
 refine c_region (oV vM ((fD 3) (oV (vL 1 ty23) (oV (v_lenS (enc := (eSl 2 eGroup)) d_.Chains sl23 rfl (.f 2 rfl)) (oV vB (oV vM ?_))))))
 refine oS 57 hL5 (fun hL5 => ?_) (fun hL5 => ?_)
 refine oN (oV vM (oV vPt (o_nil ?_)))
 exact sK [0, 0, 0] [0, 1, 2, 3, 4, 5] (hN6 ok_1 hL5)
 refine oF (oV vPf (o_nil ?_))
 exact sK [0, 0, 0] [0, 1, 2, 3, 4, 5] (hN6 false hL5)
 intro t59 hL5
 unfold F.defs.Print_j6 at hL5
 refine sat_wc ?_
 refine cC hL5 (fun hL5 => ?_) (fun hL5 => ?_)
 refine c_skip (sat_wc (c_seq (c_block (c_region (oV vM ((fD 3) (oV (vL 1 ty23) (oV vM (ite_some hL5 ?_)))))))))
 intro h9 hL5
 refine oV (v_indexAddr_s (xs := d_.Chains) (enc := (eSl 2 eGroup)) sl23 rfl rfl (.f 2 rfl) h9) (o_load_s (xs := d_.Chains) (enc := (eSl 2 eGroup)) ty58 rfl (.f 2 rfl) h9 rfl rfl rfl rfl rfl rfl ?_)
 intro A14 L14 C14
 refine ?_
 obtain ⟨v3, h10, hL5⟩ := bd hL5
 refine o_callSB call30 rfl (lent_f 0 rfl lent_nil) (tri30 h10 :) rfl ?_
 obtain ⟨v4, h11, hL5⟩ := bd hL5
 refine o_call [0, 1] call26 (cap := #[pt b1]) rfl rfl rfl sub_nil (by exact (tri26 h11 :)) rfl ?_
 rintro _ _ _ ⟨A15, L15, C15, rfl, rfl, rfl⟩
 refine oV vA (o_nil (sat_wc (c_region (oV vM (oV vB (oV vA (o_nil ?_)))))))
 exact lp [0, 1, 0] [1, 2, 3, 4, 5, 6] fun a w hs => ⟨v4.1, IntKind.wrap .i64 (i1 + 1), v4.2.addr, v4.2.buf, A15, L15, C15, hL5, hs⟩
 refine c_exit0 ?_
 cases hL5
 exact sK [0, 0, 0] [0, 1, 2, 3, 4, 5] (hN5 A12 L12 C12)
 intro A13 L13 C13
 refine sat_wc (c_seq (cR (oV vA (o_seq ?_))))
 obtain ⟨o7, ho7, hF⟩ := bd hF
 refine cT (fun E H Φ N' => ∀ (A17 : OA) (L17 C17 : Nat), Sat E [(0, .agg (vDef d_ A1 L1 C1 A2 L2 C2 A3 L3 C3 A4 L4 C4 A5 L5 C5).toArray), (1, pt b), (2, sV ([] : Tx)), (3, iI 0), (4, pt b1), (5, .func (.func 26) #[] #[pt b1]), (6, bV o7.1)] [.box b1 69 [bptr b1 o7.2.1, sl A17 L17 C17], .box b 28 (vDef d_ A1 L1 C1 A2 L2 C2 A3 L3 C3 A4 L4 C4 A5 L5 C5), rW A17 L17 C17 5 1 eU8 o7.2.2] Φ N') (fun N7 hN7 => ?_) ?_
 refine c_block ?_
 refine cL (fun E H Φ j a w => ∃ (ok_2 : Bool) (i2 : Int) (addr_4 : Bool) (buf_4 : List Int) (A16 : OA) (L16 C16 : Nat), F.defs.Print_l7 k d_ j ok_2 i2 addr_4 buf_4 = some o7 ∧ St E [(0, .agg (vDef d_ A1 L1 C1 A2 L2 C2 A3 L3 C3 A4 L4 C4 A5 L5 C5).toArray), (1, pt b), (2, sV ([] : Tx)), (3, iI 0), (4, pt b1), (5, .func (.func 26) #[] #[pt b1]), (6, bV ok_2), (9, iI i2)] [.box b1 69 [bptr b1 addr_4, sl A16 L16 C16], .box b 28 (vDef d_ A1 L1 C1 A2 L2 C2 A3 L3 C3 A4 L4 C4 A5 L5 C5), rW A16 L16 C16 5 1 eU8 buf_4] Φ a w) k ?_ ?_
 exact lq [0, 0, 0] [0, 1, 2, 3, 4, 5] fun a w hs => ⟨o5.1, 0, o5.2.1, o5.2.2, A13, L13, C13, ho7, hs⟩
 rintro j a w ⟨ok_2, i2, addr_4, buf_4, A16, L16, C16, hL7, hs⟩
 rcases j with _ | j
 cases hL7
 refine wc_app hs ?_
 unfold F.defs.Print_l7 at hL7
 refine c_seq (c_seq ?_)
 refine cT (fun E H Φ N' => ∀ (t77 : Bool), F.defs.Print_j8 k i2 d_ addr_4 buf_4 (F.defs.Print_l7 k d_ j) ok_2 t77 = some o7 → Sat E [(0, .agg (vDef d_ A1 L1 C1 A2 L2 C2 A3 L3 C3 A4 L4 C4 A5 L5 C5).toArray), (1, pt b), (2, sV ([] : Tx)), (3, iI 0), (4, pt b1), (5, .func (.func 26) #[] #[pt b1]), (6, bV ok_2), (9, iI i2), (77, bV t77)] H Φ N') (fun N8 hN8 => ?_) ?_
 refine c_region (oV vM ((fD 4) (oV (vL 1 ty24) (oV (v_lenS (enc := eFollow) d_.Follows sl24 rfl (.f 3 rfl)) (oV vB (oV vM ?_))))))
 refine oS 75 hL7 (fun hL7 => ?_) (fun hL7 => ?_)
 refine oN (oV vM (oV vPt (o_nil ?_)))
 exact sK [0, 0, 0] [0, 1, 2, 3, 4, 5] (hN8 ok_2 hL7)
 refine oF (oV vPf (o_nil ?_))
 exact sK [0, 0, 0] [0, 1, 2, 3, 4, 5] (hN8 false hL7)
 intro t77 hL7
 unfold F.defs.Print_j8 at hL7
 refine sat_wc ?_
 refine cC hL7 (fun hL7 => ?_) (fun hL7 => ?_)
 refine c_skip (sat_wc (c_seq (c_block (c_draw (n := 20) [1] mixed rfl rfl (dv 0 rfl vM (dv 1 rfl (vF 4) (dv 2 rfl (vL 0 ty24) (dv 3 rfl vM (ite_some hL7 ?_)))))))))
 intro h14 hL7
 refine dv 4 rfl (v_indexAddr_s (xs := d_.Follows) (enc := eFollow) sl24 rfl rfl (.f 3 rfl) h14) (dv 5 rfl (v_fieldAddr (v := .pointer (some ⟨blkA A3, offA A3 + (Int.toNat i2 * 5 + 0), none⟩)) rfl (fun _ => by kernel_rfl)) (dv 6 rfl (v_load_s (xs := d_.Follows) (enc := eFollow) ty9 rfl (.f 3 rfl) h14 rfl rfl rfl rfl rfl rfl rfl) (ite_some hL7 fun h15 hL7 => dv 7 rfl (vS h15) (ite_some hL7 ?_))))
 intro h16 hL7
 refine ?_
 refine dv 8 rfl (vS h16) (dv 9 rfl (vF 4) (dv 10 rfl (vL 0 ty24) (dv 11 rfl vM (dv 12 rfl (v_indexAddr_s (xs := d_.Follows) (enc := eFollow) sl24 rfl rfl (.f 3 rfl) h14) (dv 13 rfl (v_fieldAddr (v := .pointer (some ⟨blkA A3, offA A3 + (Int.toNat i2 * 5 + 1), none⟩)) rfl (fun _ => by kernel_rfl)) (dv 14 rfl (v_load_s (xs := d_.Follows) (enc := eFollow) ty44 rfl (.f 3 rfl) h14 rfl rfl rfl rfl rfl rfl rfl) (dO 15 rfl ?_)))))))
 obtain ⟨v5, h17, hL7⟩ := bd hL7
 refine o_callSB call19 rfl lent_nil (tri19 h17 :) rfl (dN [1] 0 (ite_some hL7 ?_))
 intro h18 hL7
 refine dv 16 rfl (vS h18) (ite_some hL7 ?_)
 intro h19 hL7
 refine dv 17 rfl (vS h19) (dO 18 rfl ?_)
 obtain ⟨v6, h20, hL7⟩ := bd hL7
 refine o_call [0, 1] call26 (cap := #[pt b1]) rfl rfl rfl sub_nil (by exact (tri26 h20 :)) rfl ?_
 rintro _ _ _ ⟨A18, L18, C18, rfl, rfl, rfl⟩
 refine dN [2] 0 (dv 19 rfl vA (dD (sat_wc (c_region (oV vM (oV vB (oV vA (o_nil ?_))))))))
 exact lp [0, 1, 0] [0, 1, 2, 3, 4, 5] fun a w hs => ⟨v6.1, IntKind.wrap .i64 (i2 + 1), v6.2.addr, v6.2.buf, A18, L18, C18, hL7, hs⟩
 refine c_exit0 ?_
 cases hL7
 exact sK [0, 0, 0] [0, 1, 2, 3, 4, 5] (hN7 A16 L16 C16)
 intro A17 L17 C17
 refine sat_wc (c_seq (cR (oV vA (o_seq ?_))))
 obtain ⟨o9, ho9, hF⟩ := bd hF
 refine cT (fun E H Φ N' => ∀ (A20 : OA) (L20 C20 : Nat), Sat E [(0, .agg (vDef d_ A1 L1 C1 A2 L2 C2 A3 L3 C3 A4 L4 C4 A5 L5 C5).toArray), (1, pt b), (2, sV ([] : Tx)), (3, iI 0), (4, pt b1), (5, .func (.func 26) #[] #[pt b1]), (6, bV o9.1)] [.box b1 69 [bptr b1 o9.2.1, sl A20 L20 C20], .box b 28 (vDef d_ A1 L1 C1 A2 L2 C2 A3 L3 C3 A4 L4 C4 A5 L5 C5), rW A20 L20 C20 5 1 eU8 o9.2.2] Φ N') (fun N9 hN9 => ?_) ?_
 refine c_block ?_
 refine cL (fun E H Φ j a w => ∃ (ok_3 : Bool) (i3 : Int) (addr_5 : Bool) (buf_5 : List Int) (A19 : OA) (L19 C19 : Nat), F.defs.Print_l9 d_ j ok_3 i3 addr_5 buf_5 = some o9 ∧ St E [(0, .agg (vDef d_ A1 L1 C1 A2 L2 C2 A3 L3 C3 A4 L4 C4 A5 L5 C5).toArray), (1, pt b), (2, sV ([] : Tx)), (3, iI 0), (4, pt b1), (5, .func (.func 26) #[] #[pt b1]), (6, bV ok_3), (10, iI i3)] [.box b1 69 [bptr b1 addr_5, sl A19 L19 C19], .box b 28 (vDef d_ A1 L1 C1 A2 L2 C2 A3 L3 C3 A4 L4 C4 A5 L5 C5), rW A19 L19 C19 5 1 eU8 buf_5] Φ a w) k ?_ ?_
 exact lq [0, 0, 0] [0, 1, 2, 3, 4, 5] fun a w hs => ⟨o7.1, 0, o7.2.1, o7.2.2, A17, L17, C17, ho9, hs⟩
 rintro j a w ⟨ok_3, i3, addr_5, buf_5, A19, L19, C19, hL9, hs⟩
 rcases j with _ | j
 cases hL9
 refine wc_app hs ?_
 unfold F.defs.Print_l9 at hL9
 refine c_seq (c_seq ?_)
 refine cT (fun E H Φ N' => ∀ (t106 : Bool), F.defs.Print_j10 i3 d_ addr_5 buf_5 (F.defs.Print_l9 d_ j) ok_3 t106 = some o9 → Sat E [(0, .agg (vDef d_ A1 L1 C1 A2 L2 C2 A3 L3 C3 A4 L4 C4 A5 L5 C5).toArray), (1, pt b), (2, sV ([] : Tx)), (3, iI 0), (4, pt b1), (5, .func (.func 26) #[] #[pt b1]), (6, bV ok_3), (10, iI i3), (106, bV t106)] H Φ N') (fun N10 hN10 => ?_) ?_
 refine c_region (oV vM ((fD 5) (oV (vL 1 ty25) (oV (v_lenS (enc := eReject) d_.Rejects sl25 rfl (.f 4 rfl)) (oV vB (oV vM ?_))))))
 refine oS 104 hL9 (fun hL9 => ?_) (fun hL9 => ?_)
 refine oN (oV vM (oV vPt (o_nil ?_)))
 exact sK [0, 0, 0] [0, 1, 2, 3, 4, 5] (hN10 ok_3 hL9)
 refine oF (oV vPf (o_nil ?_))
 exact sK [0, 0, 0] [0, 1, 2, 3, 4, 5] (hN10 false hL9)
 intro t106 hL9
 unfold F.defs.Print_j10 at hL9
 refine sat_wc ?_
 refine cC hL9 (fun hL9 => ?_) (fun hL9 => ?_)
 refine c_skip (sat_wc (c_seq (c_block (c_draw (n := 19) [1] mixed rfl rfl (dv 0 rfl vM (dv 1 rfl (vF 5) (dv 2 rfl (vL 0 ty25) (dv 3 rfl vM (ite_some hL9 ?_)))))))))
 intro h23 hL9
 refine dv 4 rfl (v_indexAddr_s (xs := d_.Rejects) (enc := eReject) sl25 rfl rfl (.f 4 rfl) h23) (dv 5 rfl (v_fieldAddr (v := .pointer (some ⟨blkA A4, offA A4 + (Int.toNat i3 * 2 + 0), none⟩)) rfl (fun _ => by kernel_rfl)) (dv 6 rfl (v_load_s (xs := d_.Rejects) (enc := eReject) ty9 rfl (.f 4 rfl) h23 rfl rfl rfl rfl rfl rfl rfl) (ite_some hL9 fun h24 hL9 => dv 7 rfl (vS h24) (ite_some hL9 ?_))))
 intro h25 hL9
 refine ?_
 refine dv 8 rfl (vS h25) (dv 9 rfl (vF 5) (dv 10 rfl (vL 0 ty25) (dv 11 rfl vM (dv 12 rfl (v_indexAddr_s (xs := d_.Rejects) (enc := eReject) sl25 rfl rfl (.f 4 rfl) h23) (dv 13 rfl (v_fieldAddr (v := .pointer (some ⟨blkA A4, offA A4 + (Int.toNat i3 * 2 + 1), none⟩)) rfl (fun _ => by kernel_rfl)) (dv 14 rfl (v_load_s (xs := d_.Rejects) (enc := eReject) ty9 rfl (.f 4 rfl) h23 rfl rfl rfl rfl rfl rfl rfl) (ite_some hL9 ?_)))))))
 intro h26 hL9
 refine dv 15 rfl (vS h26) (ite_some hL9 ?_)
 intro h27 hL9
 refine dv 16 rfl (vS h27) (dO 17 rfl ?_)
 obtain ⟨v7, h28, hL9⟩ := bd hL9
 refine o_call [0, 1] call26 (cap := #[pt b1]) rfl rfl rfl sub_nil (by exact (tri26 h28 :)) rfl ?_
 rintro _ _ _ ⟨A21, L21, C21, rfl, rfl, rfl⟩
 refine dN [2] 0 (dv 18 rfl vA (dD (sat_wc (c_region (oV vM (oV vB (oV vA (o_nil ?_))))))))
 exact lp [0, 1, 0] [0, 1, 2, 3, 4, 5] fun a w hs => ⟨v7.1, IntKind.wrap .i64 (i3 + 1), v7.2.addr, v7.2.buf, A21, L21, C21, hL9, hs⟩
 refine c_exit0 ?_
 cases hL9
 exact sK [0, 0, 0] [0, 1, 2, 3, 4, 5] (hN9 A19 L19 C19)
 intro A20 L20 C20
 refine sat_wc (c_seq (cR (oV vA (o_seq ?_))))
 obtain ⟨o11, ho11, hF⟩ := bd hF
 refine cT (fun E H Φ N' => ∀ (A23 : OA) (L23 C23 : Nat), Sat E [(0, .agg (vDef d_ A1 L1 C1 A2 L2 C2 A3 L3 C3 A4 L4 C4 A5 L5 C5).toArray), (1, pt b), (2, sV ([] : Tx)), (3, iI 0), (4, pt b1), (5, .func (.func 26) #[] #[pt b1]), (6, bV o11.1)] [.box b1 69 [bptr b1 o11.2.1, sl A23 L23 C23], .box b 28 (vDef d_ A1 L1 C1 A2 L2 C2 A3 L3 C3 A4 L4 C4 A5 L5 C5), rW A23 L23 C23 5 1 eU8 o11.2.2] Φ N') (fun N11 hN11 => ?_) ?_
 refine c_block ?_
 refine cL (fun E H Φ j a w => ∃ (ok_4 : Bool) (i4 : Int) (addr_6 : Bool) (buf_6 : List Int) (A22 : OA) (L22 C22 : Nat), F.defs.Print_l11 k d_ j ok_4 i4 addr_6 buf_6 = some o11 ∧ St E [(0, .agg (vDef d_ A1 L1 C1 A2 L2 C2 A3 L3 C3 A4 L4 C4 A5 L5 C5).toArray), (1, pt b), (2, sV ([] : Tx)), (3, iI 0), (4, pt b1), (5, .func (.func 26) #[] #[pt b1]), (6, bV ok_4), (11, iI i4)] [.box b1 69 [bptr b1 addr_6, sl A22 L22 C22], .box b 28 (vDef d_ A1 L1 C1 A2 L2 C2 A3 L3 C3 A4 L4 C4 A5 L5 C5), rW A22 L22 C22 5 1 eU8 buf_6] Φ a w) k ?_ ?_
 exact lq [0, 0, 0] [0, 1, 2, 3, 4, 5] fun a w hs => ⟨o9.1, 0, o9.2.1, o9.2.2, A20, L20, C20, ho11, hs⟩
 rintro j a w ⟨ok_4, i4, addr_6, buf_6, A22, L22, C22, hL11, hs⟩
 rcases j with _ | j
 cases hL11
 refine wc_app hs ?_
 unfold F.defs.Print_l11 at hL11
 refine c_seq (c_seq ?_)
 refine cT (fun E H Φ N' => ∀ (t134 : Bool), F.defs.Print_j12 k i4 d_ addr_6 buf_6 (F.defs.Print_l11 k d_ j) ok_4 t134 = some o11 → Sat E [(0, .agg (vDef d_ A1 L1 C1 A2 L2 C2 A3 L3 C3 A4 L4 C4 A5 L5 C5).toArray), (1, pt b), (2, sV ([] : Tx)), (3, iI 0), (4, pt b1), (5, .func (.func 26) #[] #[pt b1]), (6, bV ok_4), (11, iI i4), (134, bV t134)] H Φ N') (fun N12 hN12 => ?_) ?_
 refine c_region (oV vM ((fD 6) (oV (vL 1 ty26) (oV (v_lenS (enc := eBox) d_.Boxes sl26 rfl (.f 5 rfl)) (oV vB (oV vM ?_))))))
 refine oS 132 hL11 (fun hL11 => ?_) (fun hL11 => ?_)
 refine oN (oV vM (oV vPt (o_nil ?_)))
 exact sK [0, 0, 0] [0, 1, 2, 3, 4, 5] (hN12 ok_4 hL11)
 refine oF (oV vPf (o_nil ?_))
 exact sK [0, 0, 0] [0, 1, 2, 3, 4, 5] (hN12 false hL11)
 intro t134 hL11
 unfold F.defs.Print_j12 at hL11
 refine sat_wc ?_
 refine cC hL11 (fun hL11 => ?_) (fun hL11 => ?_)
 refine c_skip (sat_wc (c_seq (c_block (ite_some hL11 fun h31 hL11 => c_elem (xs := d_.Boxes) (enc := eBox) 5 rfl h31 rfl rfl fun A24 L24 C24 => c_draw (n := 20) [1] mixed rfl rfl (dv 0 rfl vM (dv 1 rfl (vF 6) (dv 2 rfl (vL 0 ty26) (dv 3 rfl vM (dv 4 rfl (v_indexAddr_s (xs := d_.Boxes) (enc := eBox) sl26 rfl rfl (.f 7 rfl) h31) (dv 5 rfl (v_fieldAddr (v := .pointer (some ⟨blkA A5, offA A5 + (Int.toNat i4 * 2 + 0), none⟩)) rfl (fun _ => by kernel_rfl)) (dv 6 rfl (v_load_s (xs := d_.Boxes) (enc := eBox) ty9 rfl (.f 7 rfl) h31 rfl rfl rfl rfl rfl rfl rfl) (ite_some hL11 ?_))))))))))))
 intro h32 hL11
 refine dv 7 rfl (vS h32) ?_
 refine ite_some hL11 fun h33 hL11 => dv 8 rfl (vS h33) (dv 9 rfl (vF 6) (dv 10 rfl (vL 0 ty26) (dv 11 rfl vM (dv 12 rfl (v_indexAddr_s (xs := d_.Boxes) (enc := eBox) sl26 rfl rfl (.f 7 rfl) h31) (dv 13 rfl (v_fieldAddr (v := .pointer (some ⟨blkA A5, offA A5 + (Int.toNat i4 * 2 + 1), none⟩)) rfl (fun _ => by kernel_rfl)) (dv 14 rfl (v_load_cl 0 ty62 rfl rfl rfl rfl rfl) (dO 15 rfl ?_)))))))
 obtain ⟨v8, h34, hL11⟩ := bd hL11
 refine o_callSB call31 rfl (lent_f 2 rfl (lent_f 1 rfl lent_nil)) ((tri31 _) h34 :) rfl (dN [1] 0 (ite_some hL11 ?_))
 intro h35 hL11
 refine dv 16 rfl (vS h35) (ite_some hL11 ?_)
 intro h36 hL11
 refine dv 17 rfl (vS h36) (dO 18 rfl ?_)
 obtain ⟨v9, h37, hL11⟩ := bd hL11
 refine o_call [0, 1] call26 (cap := #[pt b1]) rfl rfl rfl sub_nil (by exact (tri26 h37 :)) rfl ?_
 rintro _ _ _ ⟨A25, L25, C25, rfl, rfl, rfl⟩
 refine dN [2] 0 (dv 19 rfl vA (dD (sat_wc (c_region (oV vM (oV vB (oV vA (o_nil ?_))))))))
 exact lp [0, 1, 0] [2, 3, 4, 5, 6, 7] fun a w hs => ⟨v9.1, IntKind.wrap .i64 (i4 + 1), v9.2.addr, v9.2.buf, A25, L25, C25, hL11, hs⟩
 refine c_exit0 ?_
 cases hL11
 exact sK [0, 0, 0] [0, 1, 2, 3, 4, 5] (hN11 A22 L22 C22)
 intro A23 L23 C23
 refine sat_wc (c_seq (cR (oV vM (oV vN (o_seq ?_)))))
 refine cC hF (fun hF => ?_) (fun hF => ?_)
 refine cR (oV vA (oV vA (o_seq (c_ret ?_))))
 cases hF
 refine s_ret2 rfl (r_tmp rfl) (r_tmp rfl) fun a w hs => fin_sel hs [] ⟨rfl, rfl, rfl⟩ rfl sub_nil
 refine c_skip (sat_wc (cR ?_))
 obtain ⟨v10, h40, hF⟩ := bd hF
 refine ocl [0, 1] call32 rfl rfl sub_nil (tri32 (Strings_Builder.mk o11.2.1 o11.2.2) b1 A23 L23 C23 v10 h40) ?_
 rintro _ _ _ ⟨rfl, rfl, rfl⟩
 refine oV vA (oV vA (o_seq (c_ret ?_)))
 cases hF
 refine s_ret2 rfl (r_tmp rfl) (r_tmp rfl) fun a w hs => fin_sel hs [] ⟨rfl, rfl, rfl⟩ rfl sub_nil
theorem tri11 {k : Nat} {r : Bool} (hF : F.law03.alive k = some r) :
    Tri Tryz.prog 11 [] [] [gf10 1] (oR (bV r)) := by
 unfold F.law03.alive at hF
 refine tri_intro (n := 42) Tryz.func11 rfl Tryz.ntmps11 rfl fun w X => cR (oV vA (o_seq (cR ?_)))
 obtain ⟨v, h1, hF⟩ := bd hF
 refine o_call0 call16 rfl sub_nil (tri16 h1 :) rfl ?_
 rintro _ _ _ ⟨A1, L1, C1, A2, L2, C2, A3, L3, C3, A4, L4, C4, A5, L5, C5, rfl, rfl, rfl⟩
 refine oV vM (oV vX (oV vX (o_alloc zero28 rfl rfl ?_)))
 intro b
 refine o_alloc zero37 rfl rfl fun b1 => (sT 1 ty28) ((sT 0 ty37) (o_seq (cR (oV (vL 1 ty28) ?_))))
 obtain ⟨v1, h2, hF⟩ := bd hF
 refine o_callSB call13 rfl (lent_f 5 rfl (lent_f 0 rfl (lent_f 1 rfl (lent_f 2 rfl (lent_f 3 rfl (lent_f 4 rfl lent_nil)))))) (tri13 h2 :) rfl (oV vM (oV vX (oV vX (oV vA (oV vA (o_seq (cR ?_)))))))
 obtain ⟨v2, h3, hF⟩ := bd hF
 refine o_call0 call16 rfl sub_nil (tri16 h3 :) rfl ?_
 rintro _ _ _ ⟨A6, L6, C6, A7, L7, C7, A8, L8, C8, A9, L9, C9, A10, L10, C10, rfl, rfl, rfl⟩
 refine oV vM (oV vX (oV vX (o_alloc zero28 rfl rfl ?_)))
 intro b2
 refine o_alloc zero37 rfl rfl fun b3 => (sT 1 ty28) ((sT 0 ty37) (o_seq (c_seq ?_)))
 refine c_cut (fun E N' => ∀ (t0 : Bool), F.law03.alive_j1 t0 = some r → Sat E [(0, bV t0), (1, pt b), (2, pt b1), (6, pt b3)] [.box b3 37 [iI v2.2.At, iI v2.2.Code], .box b1 37 [iI v.2.At, iI v.2.Code], .box b 28 (vDef v.1 A1 L1 C1 A2 L2 C2 A3 L3 C3 A4 L4 C4 A5 L5 C5)] [gf10 1, fS A1 L1 C1 5 eProd v.1.Prods, fS A2 L2 C2 1 (eSl 2 eGroup) v.1.Chains, fS A3 L3 C3 5 eFollow v.1.Follows, fS A4 L4 C4 2 eReject v.1.Rejects, fS A5 L5 C5 2 eBox v.1.Boxes] N') (fun N1 hN1 => ?_) ?_
 refine c_region (oV (vL 2 ty37) (oV (vU (.agg #[iI 0, iI 0])) (oV (v_ageq 2 rfl rfl (eq37 v.2.At v.2.Code 0 0) rfl guard37) (oV vM ?_))))
 refine oS 23 hF (fun hF => ?_) (fun hF => ?_)
 refine oN ((fD 2) (oN (oV (vL 3 ty22) (oN (oV (v_lenS (enc := eProd) v.1.Prods sl22 rfl (.f 5 rfl)) (oN (oV vB (oV vPt (oV vM ?_)))))))))
 refine oS 29 hF (fun hF => ?_) (fun hF => ?_)
 refine oN (oV vM (oN (oV vB (oV vPt (oV vM ?_)))))
 refine oS 33 hF (fun hF => ?_) (fun hF => ?_)
 refine oN (oV vM (oN (oV (v_streq rfl rfl) (oV vPt (oV vM ?_)))))
 refine oS 37 hF (fun hF => ?_) (fun hF => ?_)
 refine oN (oV (vL 0 ty37) (oN (oV (vU (.agg #[iI 8, iI 30])) (oN (oV (v_ageq 2 rfl rfl (eq37 v2.2.At v2.2.Code 8 30) rfl guard37) (oV vPt (oV vA (o_nil ?_))))))))
 exact sK [0, 1, 1] [10, 5, 6, 7, 8, 9] (hN1 ((v2.2.At == 8) && ((v2.2.Code == 30) && true)) hF)
 refine oF (oF (oF (oV vPf (oV vA (o_nil ?_)))))
 exact sK [0, 1, 1] [10, 5, 6, 7, 8, 9] (hN1 false hF)
 refine oF (oF (oV vPf (oV vM (oF (oF (oF (oV vPf (oV vA (o_nil ?_)))))))))
 exact sK [0, 1, 1] [10, 5, 6, 7, 8, 9] (hN1 false hF)
 refine oF (oF (oV vPf (oV vM (oF (oF (oV vPf (oV vM (oF (oF (oF (oV vPf (oV vA (o_nil ?_)))))))))))))
 exact sK [0, 1, 1] [10, 5, 6, 7, 8, 9] (hN1 false hF)
 refine oF (oF (oF (oF (oV vPf (oV vM (oF (oF (oV vPf (oV vM (oF (oF (oV vPf (oV vM (oF (oF ?_)))))))))))))))
 refine oF (oV vPf (oV vA (o_nil ?_)))
 exact sK [0, 1, 1] [10, 5, 6, 7, 8, 9] (hN1 false hF)
 intro t0 hF
 unfold F.law03.alive_j1 at hF
 refine sat_wc (c_ret ?_)
 cases hF
 exact sR
theorem tri55 {k : Nat} {s1 : List Follow} {s2 : List Follow} {r : Bool} (hF : F.slices.Equal_f55 k s1 s2 = some r) :
    Tri Tryz.prog 55 [sl A1 L1 C1, sl A2 L2 C2] [] [fS A1 L1 C1 5 eFollow s1, fS A2 L2 C2 5 eFollow s2] (oR (bV r)) := by
 unfold F.slices.Equal_f55 at hF
 refine tri_intro (n := 26) Tryz.func55 rfl Tryz.ntmps55 rfl fun w X => cR (oV vA (o_seq (c_seq (cR (oV vM (oV (v_lenS (enc := eFollow) s1 sl24 rfl (.f 0 rfl)) (oV vM (oV (v_lenS (enc := eFollow) s2 sl24 rfl (.f 1 rfl)) (oV vB (o_seq ?_))))))))))
 refine cC hF (fun hF => ?_) (fun hF => ?_)
 refine cR (oV vA (o_seq (c_ret ?_)))
 cases hF
 exact sR
 refine c_skip (sat_wc (c_seq (cR (oV vM (oV (v_lenS (enc := eFollow) s1 sl24 rfl (.f 0 rfl)) (oV vM (o_seq ?_)))))))
 obtain ⟨o1, ho1, hF⟩ := bd hF
 refine cT (fun E H Φ N' => ∀ (d1 : Unit), o1 = .done d1 → Sat E [(0, sl A1 L1 C1), (1, sl A2 L2 C2), (4, bV false)] [] Φ N') (fun N1 hN1 => ?_) ?_
 refine c_block ?_
 refine cL (fun E H Φ j a w => ∃ (t13 : Int), F.slices.Equal_f55_l1 s1 s2 j t13 = some o1 ∧ St E [(0, sl A1 L1 C1), (1, sl A2 L2 C2), (4, bV false), (12, iI (s1.length : Int)), (13, iI t13)] [] Φ a w) k ?_ ?_
 exact lq [] [0, 1] fun a w hs => ⟨0, ho1, hs⟩
 rintro j a w ⟨t13, hL1, hs⟩
 rcases j with _ | j
 cases hL1
 refine wc_app hs ?_
 unfold F.slices.Equal_f55_l1 at hL1
 refine cR (oV vB (o_seq (c_seq ?_)))
 refine cC hL1 (fun hL1 => ?_) (fun hL1 => ?_)
 refine c_skip (sat_wc (c_seq (c_block (cR (oV vM (oV vA (o_seq (c_seq (c_draw (n := 9) [] mixed rfl rfl (dv 0 rfl vM (dv 1 rfl vM (ite_some hL1 ?_))))))))))))
 intro h3 hL1
 refine dv 2 rfl (v_indexAddr_s (xs := s1) (enc := eFollow) sl24 rfl rfl (.f 0 rfl) h3) (dv 3 rfl (v_load_s (xs := s1) (enc := eFollow) ty48 rfl (.f 0 rfl) h3 rfl rfl rfl rfl rfl rfl rfl) ?_)
 refine dv 4 rfl vM (dv 5 rfl vM (ite_some hL1 ?_))
 intro h4 hL1
 refine dv 6 rfl (v_indexAddr_s (xs := s2) (enc := eFollow) sl24 rfl rfl (.f 1 rfl) h4) (dv 7 rfl (v_load_s (xs := s2) (enc := eFollow) ty48 rfl (.f 1 rfl) h4 rfl rfl rfl rfl rfl rfl rfl) (dv 8 rfl (v_agne 3 rfl rfl (eq48 ((at_ s1 t13).Sort_) ((at_ s1 t13).Set.w0) ((at_ s1 t13).Set.w1) ((at_ s1 t13).Set.w2) ((at_ s1 t13).Set.w3) ((at_ s2 t13).Sort_) ((at_ s2 t13).Set.w0) ((at_ s2 t13).Set.w1) ((at_ s2 t13).Set.w2) ((at_ s2 t13).Set.w3)) rfl guard48) (d_done_seq (by kernel_rfl) ?_)))
 refine cC hL1 (fun hL1 => ?_) (fun hL1 => ?_)
 refine cR (oV vA (o_seq (c_ret ?_)))
 cases hL1
 obtain rfl := lrf_ret hF
 exact sR
 refine c_skip (sat_wc (c_region (oV vB (oV vM (o_nil ?_)))))
 exact lp [] [0, 1] fun a w hs => ⟨IntKind.wrap .i64 (t13 + 1), hL1, hs⟩
 refine c_exit0 ?_
 cases hL1
 exact sK [] [0, 1] (hN1 () rfl)
 intro d1 hd
 subst hd
 replace hF := lrf_done hF
 refine sat_wc (cR (oV vA (o_seq (c_ret ?_))))
 cases hF
 exact sR
theorem tri56 {k : Nat} {s1 : List Reject} {s2 : List Reject} {r : Bool} (hF : F.slices.Equal_f56 k s1 s2 = some r) :
    Tri Tryz.prog 56 [sl A1 L1 C1, sl A2 L2 C2] [] [fS A1 L1 C1 2 eReject s1, fS A2 L2 C2 2 eReject s2] (oR (bV r)) := by
 unfold F.slices.Equal_f56 at hF
 refine tri_intro (n := 26) Tryz.func56 rfl Tryz.ntmps56 rfl fun w X => cR (oV vA (o_seq (c_seq (cR (oV vM (oV (v_lenS (enc := eReject) s1 sl25 rfl (.f 0 rfl)) (oV vM (oV (v_lenS (enc := eReject) s2 sl25 rfl (.f 1 rfl)) (oV vB (o_seq ?_))))))))))
 refine cC hF (fun hF => ?_) (fun hF => ?_)
 refine cR (oV vA (o_seq (c_ret ?_)))
 cases hF
 exact sR
 refine c_skip (sat_wc (c_seq (cR (oV vM (oV (v_lenS (enc := eReject) s1 sl25 rfl (.f 0 rfl)) (oV vM (o_seq ?_)))))))
 obtain ⟨o1, ho1, hF⟩ := bd hF
 refine cT (fun E H Φ N' => ∀ (d1 : Unit), o1 = .done d1 → Sat E [(0, sl A1 L1 C1), (1, sl A2 L2 C2), (4, bV false)] [] Φ N') (fun N1 hN1 => ?_) ?_
 refine c_block ?_
 refine cL (fun E H Φ j a w => ∃ (t13 : Int), F.slices.Equal_f56_l1 s1 s2 j t13 = some o1 ∧ St E [(0, sl A1 L1 C1), (1, sl A2 L2 C2), (4, bV false), (12, iI (s1.length : Int)), (13, iI t13)] [] Φ a w) k ?_ ?_
 exact lq [] [0, 1] fun a w hs => ⟨0, ho1, hs⟩
 rintro j a w ⟨t13, hL1, hs⟩
 rcases j with _ | j
 cases hL1
 refine wc_app hs ?_
 unfold F.slices.Equal_f56_l1 at hL1
 refine cR (oV vB (o_seq (c_seq ?_)))
 refine cC hL1 (fun hL1 => ?_) (fun hL1 => ?_)
 refine c_skip (sat_wc (c_seq (c_block (cR (oV vM (oV vA (o_seq (c_seq (c_draw (n := 9) [] mixed rfl rfl (dv 0 rfl vM (dv 1 rfl vM (ite_some hL1 ?_))))))))))))
 intro h3 hL1
 refine dv 2 rfl (v_indexAddr_s (xs := s1) (enc := eReject) sl25 rfl rfl (.f 0 rfl) h3) (dv 3 rfl (v_load_s (xs := s1) (enc := eReject) ty78 rfl (.f 0 rfl) h3 rfl rfl rfl rfl rfl rfl rfl) ?_)
 refine dv 4 rfl vM (dv 5 rfl vM (ite_some hL1 ?_))
 intro h4 hL1
 refine dv 6 rfl (v_indexAddr_s (xs := s2) (enc := eReject) sl25 rfl rfl (.f 1 rfl) h4) (dv 7 rfl (v_load_s (xs := s2) (enc := eReject) ty78 rfl (.f 1 rfl) h4 rfl rfl rfl rfl rfl rfl rfl) (dv 8 rfl (v_agne 2 rfl rfl (eq78 ((at_ s1 t13).Sort_) ((at_ s1 t13).By) ((at_ s2 t13).Sort_) ((at_ s2 t13).By)) rfl guard78) (d_done_seq (by kernel_rfl) ?_)))
 refine cC hL1 (fun hL1 => ?_) (fun hL1 => ?_)
 refine cR (oV vA (o_seq (c_ret ?_)))
 cases hL1
 obtain rfl := lrf_ret hF
 exact sR
 refine c_skip (sat_wc (c_region (oV vB (oV vM (o_nil ?_)))))
 exact lp [] [0, 1] fun a w hs => ⟨IntKind.wrap .i64 (t13 + 1), hL1, hs⟩
 refine c_exit0 ?_
 cases hL1
 exact sK [] [0, 1] (hN1 () rfl)
 intro d1 hd
 subst hd
 replace hF := lrf_done hF
 refine sat_wc (cR (oV vA (o_seq (c_ret ?_))))
 cases hF
 exact sR
theorem tri59 {k : Nat} {s1 : List Sym} {s2 : List Sym} {r : Bool} (hF : F.slices.Equal_f59 k s1 s2 = some r) :
    Tri Tryz.prog 59 [sl A1 L1 C1, sl A2 L2 C2] [] [fS A1 L1 C1 8 eSym s1, fS A2 L2 C2 8 eSym s2] (oR (bV r)) := by
 unfold F.slices.Equal_f59 at hF
 refine tri_intro (n := 26) Tryz.func59 rfl Tryz.ntmps59 rfl fun w X => cR (oV vA (o_seq (c_seq (cR (oV vM (oV (v_lenS (enc := eSym) s1 sl55 rfl (.f 0 rfl)) (oV vM (oV (v_lenS (enc := eSym) s2 sl55 rfl (.f 1 rfl)) (oV vB (o_seq ?_))))))))))
 refine cC hF (fun hF => ?_) (fun hF => ?_)
 refine cR (oV vA (o_seq (c_ret ?_)))
 cases hF
 exact sR
 refine c_skip (sat_wc (c_seq (cR (oV vM (oV (v_lenS (enc := eSym) s1 sl55 rfl (.f 0 rfl)) (oV vM (o_seq ?_)))))))
 obtain ⟨o1, ho1, hF⟩ := bd hF
 refine cT (fun E H Φ N' => ∀ (d1 : Unit), o1 = .done d1 → Sat E [(0, sl A1 L1 C1), (1, sl A2 L2 C2), (4, bV false)] [] Φ N') (fun N1 hN1 => ?_) ?_
 refine c_block ?_
 refine cL (fun E H Φ j a w => ∃ (t13 : Int), F.slices.Equal_f59_l1 s1 s2 j t13 = some o1 ∧ St E [(0, sl A1 L1 C1), (1, sl A2 L2 C2), (4, bV false), (12, iI (s1.length : Int)), (13, iI t13)] [] Φ a w) k ?_ ?_
 exact lq [] [0, 1] fun a w hs => ⟨0, ho1, hs⟩
 rintro j a w ⟨t13, hL1, hs⟩
 rcases j with _ | j
 cases hL1
 refine wc_app hs ?_
 unfold F.slices.Equal_f59_l1 at hL1
 refine cR (oV vB (o_seq (c_seq ?_)))
 refine cC hL1 (fun hL1 => ?_) (fun hL1 => ?_)
 refine c_skip (sat_wc (c_seq (c_block (cR (oV vM (oV vA (o_seq (c_seq (c_draw (n := 9) [] mixed rfl rfl (dv 0 rfl vM (dv 1 rfl vM (ite_some hL1 ?_))))))))))))
 intro h3 hL1
 refine dv 2 rfl (v_indexAddr_s (xs := s1) (enc := eSym) sl55 rfl rfl (.f 0 rfl) h3) (dv 3 rfl (v_load_s (xs := s1) (enc := eSym) ty114 rfl (.f 0 rfl) h3 rfl rfl rfl rfl rfl rfl rfl) ?_)
 refine dv 4 rfl vM (dv 5 rfl vM (ite_some hL1 ?_))
 intro h4 hL1
 refine dv 6 rfl (v_indexAddr_s (xs := s2) (enc := eSym) sl55 rfl rfl (.f 1 rfl) h4) (dv 7 rfl (v_load_s (xs := s2) (enc := eSym) ty114 rfl (.f 1 rfl) h4 rfl rfl rfl rfl rfl rfl rfl) (dv 8 rfl (v_agne 3 rfl rfl (eq114 ((at_ s1 t13).Kind) ((at_ s1 t13).Text) ((at_ s1 t13).Set.w0) ((at_ s1 t13).Set.w1) ((at_ s1 t13).Set.w2) ((at_ s1 t13).Set.w3) ((at_ s1 t13).Name) ((at_ s1 t13).Sep) ((at_ s2 t13).Kind) ((at_ s2 t13).Text) ((at_ s2 t13).Set.w0) ((at_ s2 t13).Set.w1) ((at_ s2 t13).Set.w2) ((at_ s2 t13).Set.w3) ((at_ s2 t13).Name) ((at_ s2 t13).Sep)) rfl guard114) (d_done_seq (by kernel_rfl) ?_)))
 refine cC hL1 (fun hL1 => ?_) (fun hL1 => ?_)
 refine cR (oV vA (o_seq (c_ret ?_)))
 cases hL1
 obtain rfl := lrf_ret hF
 exact sR
 refine c_skip (sat_wc (c_region (oV vB (oV vM (o_nil ?_)))))
 exact lp [] [0, 1] fun a w hs => ⟨IntKind.wrap .i64 (t13 + 1), hL1, hs⟩
 refine c_exit0 ?_
 cases hL1
 exact sK [] [0, 1] (hN1 () rfl)
 intro d1 hd
 subst hd
 replace hF := lrf_done hF
 refine sat_wc (cR (oV vA (o_seq (c_ret ?_))))
 cases hF
 exact sR
theorem tri58 {k : Nat} {x_ : Prod} {y_ : Prod} {r : Bool} (hF : F.defs.Same_c1 k x_ y_ = some r) :
    Tri Tryz.prog 58 [.agg (vProd x_ A1 L1 C1).toArray, .agg (vProd y_ A2 L2 C2).toArray] [] [fS A1 L1 C1 8 eSym x_.Syms, fS A2 L2 C2 8 eSym y_.Syms] (oR (bV r)) := by
 unfold F.defs.Same_c1 at hF
 refine tri_intro (n := 38) Tryz.func58 rfl Tryz.ntmps58 rfl fun w X => cR (o_box rfl rfl rfl fun b => o_box rfl rfl rfl fun b1 => oV vA (o_seq (c_seq ?_)))
 refine cT (fun E H Φ N' => ∀ (t4 : Bool), F.defs.Same_c1_j1 t4 = some r → Sat E [(0, .agg (vProd x_ A1 L1 C1).toArray), (1, .agg (vProd y_ A2 L2 C2).toArray), (4, bV t4)] [] Φ N') (fun N1 hN1 => ?_) ?_
 refine c_region ((fD 0) (oV (vL 1 ty4) ((fD 0) (oV (vL 0 ty4) (oV (v_booleq rfl rfl Tryz.underlying4) (oV vM ?_))))))
 refine oS 10 hF (fun hF => ?_) (fun hF => ?_)
 refine oN ((fD 1) (oN (oV (vL 1 ty9) (oN ((fD 1) (oN (oV (vL 0 ty9) (oN (oV (v_streq rfl rfl) (oV vPt (oV vM ?_)))))))))))
 refine oS 17 hF (fun hF => ?_) (fun hF => ?_)
 refine oN ((fD 2) (oN (oV (vL 1 ty9) (oN ((fD 2) (oN (oV (vL 0 ty9) (oN (oV (v_streq rfl rfl) (oV vPt (oV vM ?_)))))))))))
 refine oS 24 hF (fun hF => ?_) (fun hF => ?_)
 refine oN ((fD 3) (oN (oV (vL 1 ty4) (oN ((fD 3) (oN (oV (vL 0 ty4) (oN (oV (v_booleq rfl rfl Tryz.underlying4) (oV vPt (oV vM ?_)))))))))))
 refine oS 31 hF (fun hF => ?_) (fun hF => ?_)
 refine oN ((fD 4) (oN (oV (vL 1 ty55) (oN ((fD 4) (oN (oV (vL 0 ty55) (oN ?_))))))))
 obtain ⟨v, h5, hF⟩ := bd hF
 refine o_callSB call59 rfl (lent_f 0 rfl (lent_f 1 rfl lent_nil)) (tri59 h5 :) rfl (oV vPt (oV vA (o_nil ?_)))
 exact sK [] [0, 1] (hN1 v hF)
 refine oF (oF (oF (oF (oF (oV vPf (oV vA (o_nil ?_)))))))
 exact sK [] [0, 1] (hN1 false hF)
 refine oF (oF (oF (oF (oF (oV vPf (oV vM (oF (oF (oF (oF (oF (oV vPf (oV vA (o_nil ?_))))))))))))))
 exact sK [] [0, 1] (hN1 false hF)
 refine oF (oF (oF (oF (oF (oV vPf (oV vM (oF (oF (oF (oF (oF (oV vPf (oV vM (oF (oF ?_)))))))))))))))
 refine oF (oF (oF (oV vPf (oV vA (o_nil ?_)))))
 exact sK [] [0, 1] (hN1 false hF)
 refine oF (oF (oF (oF (oF (oV vPf (oV vM (oF (oF (oF (oF (oF (oV vPf (oV vM (oF (oF ?_)))))))))))))))
 refine oF (oF (oF (oV vPf (oV vM (oF (oF (oF (oF (oF (oV vPf (oV vA (o_nil ?_))))))))))))
 exact sK [] [0, 1] (hN1 false hF)
 intro t4 hF
 unfold F.defs.Same_c1_j1 at hF
 refine sat_wc (c_ret ?_)
 cases hF
 exact sR
theorem tri57_58 {k : Nat} {s1 : List Prod} {s2 : List Prod} {r : Bool} (hF : F.slices.EqualFunc_f57_58 k s1 s2 = some r) :
    Tri Tryz.prog 57 [sl A1 L1 C1, sl A2 L2 C2, .func (.func 58) #[] #[]] [] [fS A1 L1 C1 5 eProd s1, fS A2 L2 C2 5 eProd s2] (oR (bV r)) := by
 unfold F.slices.EqualFunc_f57_58 at hF
 refine tri_intro (n := 32) Tryz.func57 rfl Tryz.ntmps57 rfl fun w X => cR (oV vA (o_seq (c_seq (cR (oV vM (oV (v_lenS (enc := eProd) s1 sl22 rfl (.f 0 rfl)) (oV vM (oV (v_lenS (enc := eProd) s2 sl22 rfl (.f 1 rfl)) (oV vB (o_seq ?_))))))))))
 refine cC hF (fun hF => ?_) (fun hF => ?_)
 refine cR (oV vA (o_seq (c_ret ?_)))
 cases hF
 exact sR
 refine c_skip (sat_wc (c_seq (cR (oV vM (oV (v_lenS (enc := eProd) s1 sl22 rfl (.f 0 rfl)) (oV vM (o_seq ?_)))))))
 obtain ⟨o1, ho1, hF⟩ := bd hF
 refine cT (fun E H Φ N' => ∀ (d1 : Unit), o1 = .done d1 → Sat E [(0, sl A1 L1 C1), (1, sl A2 L2 C2), (6, bV false), (15, sl A1 L1 C1)] [] Φ N') (fun N1 hN1 => ?_) ?_
 refine c_block ?_
 refine cL (fun E H Φ j a w => ∃ (t17 : Int), F.slices.EqualFunc_f57_58_l1 k s1 s2 j t17 = some o1 ∧ St E [(0, sl A1 L1 C1), (1, sl A2 L2 C2), (2, .func (.func 58) #[] #[]), (6, bV false), (15, sl A1 L1 C1), (16, iI (s1.length : Int)), (17, iI t17)] [] Φ a w) k ?_ ?_
 exact lq [] [0, 1] fun a w hs => ⟨0, ho1, hs⟩
 rintro j a w ⟨t17, hL1, hs⟩
 rcases j with _ | j
 cases hL1
 refine wc_app hs ?_
 unfold F.slices.EqualFunc_f57_58_l1 at hL1
 refine cR (oV vB (o_seq (c_seq ?_)))
 refine cC hL1 (fun hL1 => ?_) (fun hL1 => ?_)
 refine c_skip (sat_wc (c_seq (c_block (cR (oV vM (ite_some hL1 ?_))))))
 intro h3 hL1
 refine oV (v_indexAddr_s (xs := s1) (enc := eProd) sl22 rfl rfl (.f 0 rfl) h3) (o_load_s (xs := s1) (enc := eProd) ty57 rfl (.f 0 rfl) h3 rfl rfl rfl rfl rfl rfl ?_)
 intro A3 L3 C3
 refine o_alloc zero57 rfl rfl fun b => oV vA ((sT 0 ty57) (o_seq (cR ?_)))
 refine oV vM (oV vM (ite_some hL1 ?_))
 intro h4 hL1
 refine oV (v_indexAddr_s (xs := s2) (enc := eProd) sl22 rfl rfl (.f 2 rfl) h4) (o_load_s (xs := s2) (enc := eProd) ty57 rfl (.f 2 rfl) h4 rfl rfl rfl rfl rfl rfl ?_)
 intro A4 L4 C4
 refine o_alloc zero57 rfl rfl fun b1 => (sT 0 ty57) (o_seq (cR (oV vM (oV (vL 1 ty57) (oV (vL 0 ty57) ?_)))))
 obtain ⟨v, h5, hL1⟩ := bd hL1
 refine o_call [] call58 (cap := #[]) rfl rfl rfl (subs [1, 0] rfl) (by exact (tri58 h5 :)) rfl ?_
 rintro _ _ _ ⟨rfl, rfl, rfl⟩
 refine oV vN (o_seq ?_)
 refine cC hL1 (fun hL1 => ?_) (fun hL1 => ?_)
 refine cR (oV vA (o_seq (c_ret ?_)))
 cases hL1
 obtain rfl := lrf_ret hF
 exact sR
 refine c_skip (sat_wc (c_region (oV vB (oV vM (o_nil ?_)))))
 exact lp [] [2, 3] fun a w hs => ⟨IntKind.wrap .i64 (t17 + 1), hL1, hs⟩
 refine c_exit0 ?_
 cases hL1
 exact sK [] [0, 1] (hN1 () rfl)
 intro d1 hd
 subst hd
 replace hF := lrf_done hF
 refine sat_wc (cR (oV vA (o_seq (c_ret ?_))))
 cases hF
 exact sR
theorem tri64 {k : Nat} {s1 : List (List UInt8)} {s2 : List (List UInt8)} {r : Bool} (hF : F.slices.Equal_f64 k s1 s2 = some r) :
    Tri Tryz.prog 64 [sl A1 L1 C1, sl A2 L2 C2] [] [fS A1 L1 C1 1 eStr s1, fS A2 L2 C2 1 eStr s2] (oR (bV r)) := by
 unfold F.slices.Equal_f64 at hF
 refine tri_intro (n := 26) Tryz.func64 rfl Tryz.ntmps64 rfl fun w X => cR (oV vA (o_seq (c_seq (cR (oV vM (oV (v_lenS (enc := eStr) s1 sl59 rfl (.f 0 rfl)) (oV vM (oV (v_lenS (enc := eStr) s2 sl59 rfl (.f 1 rfl)) (oV vB (o_seq ?_))))))))))
 refine cC hF (fun hF => ?_) (fun hF => ?_)
 refine cR (oV vA (o_seq (c_ret ?_)))
 cases hF
 exact sR
 refine c_skip (sat_wc (c_seq (cR (oV vM (oV (v_lenS (enc := eStr) s1 sl59 rfl (.f 0 rfl)) (oV vM (o_seq ?_)))))))
 obtain ⟨o1, ho1, hF⟩ := bd hF
 refine cT (fun E H Φ N' => ∀ (d1 : Unit), o1 = .done d1 → Sat E [(0, sl A1 L1 C1), (1, sl A2 L2 C2), (4, bV false)] [] Φ N') (fun N1 hN1 => ?_) ?_
 refine c_block ?_
 refine cL (fun E H Φ j a w => ∃ (t13 : Int), F.slices.Equal_f64_l1 s1 s2 j t13 = some o1 ∧ St E [(0, sl A1 L1 C1), (1, sl A2 L2 C2), (4, bV false), (12, iI (s1.length : Int)), (13, iI t13)] [] Φ a w) k ?_ ?_
 exact lq [] [0, 1] fun a w hs => ⟨0, ho1, hs⟩
 rintro j a w ⟨t13, hL1, hs⟩
 rcases j with _ | j
 cases hL1
 refine wc_app hs ?_
 unfold F.slices.Equal_f64_l1 at hL1
 refine cR (oV vB (o_seq (c_seq ?_)))
 refine cC hL1 (fun hL1 => ?_) (fun hL1 => ?_)
 refine c_skip (sat_wc (c_seq (c_block (cR (oV vM (oV vA (o_seq (c_seq (c_draw (n := 9) [] mixed rfl rfl (dv 0 rfl vM (dv 1 rfl vM (ite_some hL1 ?_))))))))))))
 intro h3 hL1
 refine dv 2 rfl (v_indexAddr_s (xs := s1) (enc := eStr) sl59 rfl rfl (.f 0 rfl) h3) (dv 3 rfl (v_load_s (xs := s1) (enc := eStr) ty9 rfl (.f 0 rfl) h3 rfl rfl rfl rfl rfl rfl rfl) ?_)
 refine dv 4 rfl vM (dv 5 rfl vM (ite_some hL1 ?_))
 intro h4 hL1
 refine dv 6 rfl (v_indexAddr_s (xs := s2) (enc := eStr) sl59 rfl rfl (.f 1 rfl) h4) (dv 7 rfl (v_load_s (xs := s2) (enc := eStr) ty9 rfl (.f 1 rfl) h4 rfl rfl rfl rfl rfl rfl rfl) (dv 8 rfl (v_strne rfl rfl) (d_done_seq (by kernel_rfl) ?_)))
 refine cC hL1 (fun hL1 => ?_) (fun hL1 => ?_)
 refine cR (oV vA (o_seq (c_ret ?_)))
 cases hL1
 obtain rfl := lrf_ret hF
 exact sR
 refine c_skip (sat_wc (c_region (oV vB (oV vM (o_nil ?_)))))
 exact lp [] [0, 1] fun a w hs => ⟨IntKind.wrap .i64 (t13 + 1), hL1, hs⟩
 refine c_exit0 ?_
 cases hL1
 exact sK [] [0, 1] (hN1 () rfl)
 intro d1 hd
 subst hd
 replace hF := lrf_done hF
 refine sat_wc (cR (oV vA (o_seq (c_ret ?_))))
 cases hF
 exact sR
theorem tri63 {k : Nat} {g_ : Group} {h_ : Group} {r : Bool} (hF : F.defs.Same_c2_c1 k g_ h_ = some r) :
    Tri Tryz.prog 63 [.agg #[iI g_.Assoc, sl A1 L1 C1], .agg #[iI h_.Assoc, sl A2 L2 C2]] [] [fS A1 L1 C1 1 eStr g_.Cons, fS A2 L2 C2 1 eStr h_.Cons] (oR (bV r)) := by
 unfold F.defs.Same_c2_c1 at hF
 refine tri_intro (n := 17) Tryz.func63 rfl Tryz.ntmps63 rfl fun w X => cR (o_box rfl rfl rfl fun b => o_box rfl rfl rfl fun b1 => oV vA (o_seq (cR ((fD 0) (oV (vL 1 ty3) ((fD 0) (oV (vL 0 ty3) (oV vB (oV vM ?_)))))))))
 refine oS 10 hF (fun hF => ?_) (fun hF => ?_)
 refine oN ((fD 1) (oN (oV (vL 1 ty59) (oN ((fD 1) (oN (oV (vL 0 ty59) (oN ?_))))))))
 obtain ⟨v, h2, hF⟩ := bd hF
 refine o_callSB call64 rfl (lent_f 0 rfl (lent_f 1 rfl lent_nil)) (tri64 h2 :) rfl (oV vPt (oV vA (o_seq (c_ret ?_))))
 cases hF
 exact sR
 refine oF (oF (oF (oF (oF (oV vPf (oV vA (o_seq (c_ret ?_))))))))
 cases hF
 exact sR
theorem tri62_63 {k : Nat} {s1 : List Group} {s2 : List Group} {r : Bool} (hF : F.slices.EqualFunc_f62_63 k s1 s2 = some r) :
    Tri Tryz.prog 62 [sl A1 L1 C1, sl A2 L2 C2, .func (.func 63) #[] #[]] [] [fS A1 L1 C1 2 eGroup s1, fS A2 L2 C2 2 eGroup s2] (oR (bV r)) := by
 unfold F.slices.EqualFunc_f62_63 at hF
 refine tri_intro (n := 32) Tryz.func62 rfl Tryz.ntmps62 rfl fun w X => cR (oV vA (o_seq (c_seq (cR (oV vM (oV (v_lenS (enc := eGroup) s1 sl58 rfl (.f 0 rfl)) (oV vM (oV (v_lenS (enc := eGroup) s2 sl58 rfl (.f 1 rfl)) (oV vB (o_seq ?_))))))))))
 refine cC hF (fun hF => ?_) (fun hF => ?_)
 refine cR (oV vA (o_seq (c_ret ?_)))
 cases hF
 exact sR
 refine c_skip (sat_wc (c_seq (cR (oV vM (oV (v_lenS (enc := eGroup) s1 sl58 rfl (.f 0 rfl)) (oV vM (o_seq ?_)))))))
 obtain ⟨o1, ho1, hF⟩ := bd hF
 refine cT (fun E H Φ N' => ∀ (d1 : Unit), o1 = .done d1 → Sat E [(0, sl A1 L1 C1), (1, sl A2 L2 C2), (6, bV false), (15, sl A1 L1 C1)] [] Φ N') (fun N1 hN1 => ?_) ?_
 refine c_block ?_
 refine cL (fun E H Φ j a w => ∃ (t17 : Int), F.slices.EqualFunc_f62_63_l1 k s1 s2 j t17 = some o1 ∧ St E [(0, sl A1 L1 C1), (1, sl A2 L2 C2), (2, .func (.func 63) #[] #[]), (6, bV false), (15, sl A1 L1 C1), (16, iI (s1.length : Int)), (17, iI t17)] [] Φ a w) k ?_ ?_
 exact lq [] [0, 1] fun a w hs => ⟨0, ho1, hs⟩
 rintro j a w ⟨t17, hL1, hs⟩
 rcases j with _ | j
 cases hL1
 refine wc_app hs ?_
 unfold F.slices.EqualFunc_f62_63_l1 at hL1
 refine cR (oV vB (o_seq (c_seq ?_)))
 refine cC hL1 (fun hL1 => ?_) (fun hL1 => ?_)
 refine c_skip (sat_wc (c_seq (c_block (cR (oV vM (ite_some hL1 ?_))))))
 intro h3 hL1
 refine oV (v_indexAddr_s (xs := s1) (enc := eGroup) sl58 rfl rfl (.f 0 rfl) h3) (o_load_s (xs := s1) (enc := eGroup) ty61 rfl (.f 0 rfl) h3 rfl rfl rfl rfl rfl rfl ?_)
 intro A3 L3 C3
 refine o_alloc zero61 rfl rfl fun b => oV vA ((sT 0 ty61) (o_seq (cR ?_)))
 refine oV vM (oV vM (ite_some hL1 ?_))
 intro h4 hL1
 refine oV (v_indexAddr_s (xs := s2) (enc := eGroup) sl58 rfl rfl (.f 2 rfl) h4) (o_load_s (xs := s2) (enc := eGroup) ty61 rfl (.f 2 rfl) h4 rfl rfl rfl rfl rfl rfl ?_)
 intro A4 L4 C4
 refine o_alloc zero61 rfl rfl fun b1 => (sT 0 ty61) (o_seq (cR (oV vM (oV (vL 1 ty61) (oV (vL 0 ty61) ?_)))))
 obtain ⟨v, h5, hL1⟩ := bd hL1
 refine o_call [] call63 (cap := #[]) rfl rfl rfl (subs [1, 0] rfl) (by exact (tri63 h5 :)) rfl ?_
 rintro _ _ _ ⟨rfl, rfl, rfl⟩
 refine oV vN (o_seq ?_)
 refine cC hL1 (fun hL1 => ?_) (fun hL1 => ?_)
 refine cR (oV vA (o_seq (c_ret ?_)))
 cases hL1
 obtain rfl := lrf_ret hF
 exact sR
 refine c_skip (sat_wc (c_region (oV vB (oV vM (o_nil ?_)))))
 exact lp [] [2, 3] fun a w hs => ⟨IntKind.wrap .i64 (t17 + 1), hL1, hs⟩
 refine c_exit0 ?_
 cases hL1
 exact sK [] [0, 1] (hN1 () rfl)
 intro d1 hd
 subst hd
 replace hF := lrf_done hF
 refine sat_wc (cR (oV vA (o_seq (c_ret ?_))))
 cases hF
 exact sR
theorem tri61 {k : Nat} {x_ : List Group} {y_ : List Group} {r : Bool} (hF : F.defs.Same_c2 k x_ y_ = some r) :
    Tri Tryz.prog 61 [sl A1 L1 C1, sl A2 L2 C2] [] [fS A1 L1 C1 2 eGroup x_, fS A2 L2 C2 2 eGroup y_] (oR (bV r)) := by
 unfold F.defs.Same_c2 at hF
 refine tri_intro (n := 8) Tryz.func61 rfl Tryz.ntmps61 rfl fun w X => cR (oV vA (o_seq (cR (oV vM (oV vM ?_)))))
 obtain ⟨v, h1, hF⟩ := bd hF
 refine o_callSB call62 rfl (lent_f 0 rfl (lent_f 1 rfl lent_nil)) (tri62_63 h1 :) rfl (oV vA (o_seq (c_ret ?_)))
 cases hF
 exact sR
theorem tri60_61 {k : Nat} {s1 : List (List Group)} {s2 : List (List Group)} {r : Bool} (hF : F.slices.EqualFunc_f60_61 k s1 s2 = some r) :
    Tri Tryz.prog 60 [sl A1 L1 C1, sl A2 L2 C2, .func (.func 61) #[] #[]] [] [fS A1 L1 C1 1 (eSl 2 eGroup) s1, fS A2 L2 C2 1 (eSl 2 eGroup) s2] (oR (bV r)) := by
 unfold F.slices.EqualFunc_f60_61 at hF
 refine tri_intro (n := 32) Tryz.func60 rfl Tryz.ntmps60 rfl fun w X => cR (oV vA (o_seq (c_seq (cR (oV vM (oV (v_lenS (enc := (eSl 2 eGroup)) s1 sl23 rfl (.f 0 rfl)) (oV vM (oV (v_lenS (enc := (eSl 2 eGroup)) s2 sl23 rfl (.f 1 rfl)) (oV vB (o_seq ?_))))))))))
 refine cC hF (fun hF => ?_) (fun hF => ?_)
 refine cR (oV vA (o_seq (c_ret ?_)))
 cases hF
 exact sR
 refine c_skip (sat_wc (c_seq (cR (oV vM (oV (v_lenS (enc := (eSl 2 eGroup)) s1 sl23 rfl (.f 0 rfl)) (oV vM (o_seq ?_)))))))
 obtain ⟨o1, ho1, hF⟩ := bd hF
 refine cT (fun E H Φ N' => ∀ (d1 : Unit), o1 = .done d1 → Sat E [(0, sl A1 L1 C1), (1, sl A2 L2 C2), (6, bV false), (15, sl A1 L1 C1)] [] Φ N') (fun N1 hN1 => ?_) ?_
 refine c_block ?_
 refine cL (fun E H Φ j a w => ∃ (t17 : Int), F.slices.EqualFunc_f60_61_l1 k s1 s2 j t17 = some o1 ∧ St E [(0, sl A1 L1 C1), (1, sl A2 L2 C2), (2, .func (.func 61) #[] #[]), (6, bV false), (15, sl A1 L1 C1), (16, iI (s1.length : Int)), (17, iI t17)] [] Φ a w) k ?_ ?_
 exact lq [] [0, 1] fun a w hs => ⟨0, ho1, hs⟩
 rintro j a w ⟨t17, hL1, hs⟩
 rcases j with _ | j
 cases hL1
 refine wc_app hs ?_
 unfold F.slices.EqualFunc_f60_61_l1 at hL1
 refine cR (oV vB (o_seq (c_seq ?_)))
 refine cC hL1 (fun hL1 => ?_) (fun hL1 => ?_)
 refine c_skip (sat_wc (c_seq (c_block (cR (oV vM (ite_some hL1 ?_))))))
 intro h3 hL1
 refine oV (v_indexAddr_s (xs := s1) (enc := (eSl 2 eGroup)) sl23 rfl rfl (.f 0 rfl) h3) (o_load_s (xs := s1) (enc := (eSl 2 eGroup)) ty58 rfl (.f 0 rfl) h3 rfl rfl rfl rfl rfl rfl ?_)
 intro A3 L3 C3
 refine oV vA (oV vA (o_seq (cR (oV vM ?_))))
 refine oV vM (ite_some hL1 ?_)
 intro h4 hL1
 refine oV (v_indexAddr_s (xs := s2) (enc := (eSl 2 eGroup)) sl23 rfl rfl (.f 2 rfl) h4) (o_load_s (xs := s2) (enc := (eSl 2 eGroup)) ty58 rfl (.f 2 rfl) h4 rfl rfl rfl rfl rfl rfl ?_)
 intro A4 L4 C4
 refine oV vA (o_seq (cR (oV vM (oV vM (oV vM ?_)))))
 obtain ⟨v, h5, hL1⟩ := bd hL1
 refine o_call [] call61 (cap := #[]) rfl rfl rfl (subs [1, 0] rfl) (by exact (tri61 h5 :)) rfl ?_
 rintro _ _ _ ⟨rfl, rfl, rfl⟩
 refine oV vN (o_seq ?_)
 refine cC hL1 (fun hL1 => ?_) (fun hL1 => ?_)
 refine cR (oV vA (o_seq (c_ret ?_)))
 cases hL1
 obtain rfl := lrf_ret hF
 exact sR
 refine c_skip (sat_wc (c_region (oV vB (oV vM (o_nil ?_)))))
 exact lp [] [2, 3] fun a w hs => ⟨IntKind.wrap .i64 (t17 + 1), hL1, hs⟩
 refine c_exit0 ?_
 cases hL1
 exact sK [] [0, 1] (hN1 () rfl)
 intro d1 hd
 subst hd
 replace hF := lrf_done hF
 refine sat_wc (cR (oV vA (o_seq (c_ret ?_))))
 cases hF
 exact sR
theorem tri67_B (k : Nat) (g105_106 : List Item → List Item → Option Bool)
    (hg105_106 : ∀ {s1 : List Item} {s2 : List Item} {A1 : OA} {L1 C1 : Nat} {A2 : OA} {L2 C2 : Nat} {r : Bool}, g105_106 s1 s2 = some r → Tri Tryz.prog 105 [sl A1 L1 C1, sl A2 L2 C2, .func (.func 106) #[] #[]] [] [fS A1 L1 C1 4 eItem s1, fS A2 L2 C2 4 eItem s2] (oR (bV r))) {a_ : List Item} {b : List Item} {A1 : OA} {L1 C1 : Nat} {A2 : OA} {L2 C2 : Nat} {r : Bool} (hF : F.defs.sameItems_B k g105_106 a_ b = some r) :
    Tri Tryz.prog 67 [sl A1 L1 C1, sl A2 L2 C2] [] [fS A1 L1 C1 4 eItem a_, fS A2 L2 C2 4 eItem b] (oR (bV r)) := by
 unfold F.defs.sameItems_B at hF
 refine tri_intro (n := 8) Tryz.func67 rfl Tryz.ntmps67 rfl fun w X => cR (oV vA (o_seq (cR (oV vM (oV vM ?_)))))
 obtain ⟨v, h1, hF⟩ := bd hF
 refine o_callSB call105 rfl (lent_f 0 rfl (lent_f 1 rfl lent_nil)) (hg105_106 h1 :) rfl (oV vA (o_seq (c_ret ?_)))
 cases hF
 exact sR
theorem tri105_106_B (k : Nat) (g106 : Item → Item → Option Bool)
    (hg106 : ∀ {x_ : Item} {y_ : Item} {A1 : OA} {L1 C1 : Nat} {A2 : OA} {L2 C2 : Nat} {r : Bool}, g106 x_ y_ = some r → Tri Tryz.prog 106 [.agg (vItem x_ A1 L1 C1).toArray, .agg (vItem y_ A2 L2 C2).toArray] [] [fS A1 L1 C1 4 eItem x_.Items, fS A2 L2 C2 4 eItem y_.Items] (oR (bV r))) {s1 : List Item} {s2 : List Item} {A1 : OA} {L1 C1 : Nat} {A2 : OA} {L2 C2 : Nat} {r : Bool} (hF : F.slices.EqualFunc_f105_106_B k g106 s1 s2 = some r) :
    Tri Tryz.prog 105 [sl A1 L1 C1, sl A2 L2 C2, .func (.func 106) #[] #[]] [] [fS A1 L1 C1 4 eItem s1, fS A2 L2 C2 4 eItem s2] (oR (bV r)) := by
 unfold F.slices.EqualFunc_f105_106_B at hF
 refine tri_intro (n := 32) Tryz.func105 rfl Tryz.ntmps105 rfl fun w X => cR (oV vA (o_seq (c_seq (cR (oV vM (oV (v_lenS (enc := eItem) s1 sl62 rfl (.f 0 rfl)) (oV vM (oV (v_lenS (enc := eItem) s2 sl62 rfl (.f 1 rfl)) (oV vB (o_seq ?_))))))))))
 refine cC hF (fun hF => ?_) (fun hF => ?_)
 refine cR (oV vA (o_seq (c_ret ?_)))
 cases hF
 exact sR
 refine c_skip (sat_wc (c_seq (cR (oV vM (oV (v_lenS (enc := eItem) s1 sl62 rfl (.f 0 rfl)) (oV vM (o_seq ?_)))))))
 obtain ⟨o1, ho1, hF⟩ := bd hF
 refine cT (fun E H Φ N' => ∀ (d1 : Unit), o1 = .done d1 → Sat E [(0, sl A1 L1 C1), (1, sl A2 L2 C2), (6, bV false), (15, sl A1 L1 C1)] [] Φ N') (fun N1 hN1 => ?_) ?_
 refine c_block ?_
 refine cL (fun E H Φ j a w => ∃ (t17 : Int), F.slices.EqualFunc_f105_106_l1 s1 s2 g106 j t17 = some o1 ∧ St E [(0, sl A1 L1 C1), (1, sl A2 L2 C2), (2, .func (.func 106) #[] #[]), (6, bV false), (15, sl A1 L1 C1), (16, iI (s1.length : Int)), (17, iI t17)] [] Φ a w) k ?_ ?_
 exact lq [] [0, 1] fun a w hs => ⟨0, ho1, hs⟩
 rintro j a w ⟨t17, hL1, hs⟩
 rcases j with _ | j
 cases hL1
 refine wc_app hs ?_
 unfold F.slices.EqualFunc_f105_106_l1 at hL1
 refine cR (oV vB (o_seq (c_seq ?_)))
 refine cC hL1 (fun hL1 => ?_) (fun hL1 => ?_)
 refine c_skip (sat_wc (c_seq (c_block (cR (oV vM (ite_some hL1 ?_))))))
 intro h3 hL1
 refine oV (v_indexAddr_s (xs := s1) (enc := eItem) sl62 rfl rfl (.f 0 rfl) h3) (o_load_s (ds := [.int .i64 ((at_ s1 t17).Kind), .str ((at_ s1 t17).Text), .int .i64 ((at_ s1 t17).N_), .slice 4 (((at_ s1 t17).Items).map eItem)]) (xs := s1) (enc := eItem) ty124 rfl (.f 0 rfl) h3 (by simp only [eItem_eq] <;> rfl) rfl rfl rfl rfl rfl ?_)
 intro A3 L3 C3
 refine o_alloc zero124 rfl rfl fun b => oV vA ((sT 0 ty124) (o_seq (cR ?_)))
 refine oV vM (oV vM (ite_some hL1 ?_))
 intro h4 hL1
 refine oV (v_indexAddr_s (xs := s2) (enc := eItem) sl62 rfl rfl (.f 2 rfl) h4) (o_load_s (ds := [.int .i64 ((at_ s2 t17).Kind), .str ((at_ s2 t17).Text), .int .i64 ((at_ s2 t17).N_), .slice 4 (((at_ s2 t17).Items).map eItem)]) (xs := s2) (enc := eItem) ty124 rfl (.f 2 rfl) h4 (by simp only [eItem_eq] <;> rfl) rfl rfl rfl rfl rfl ?_)
 intro A4 L4 C4
 refine o_alloc zero124 rfl rfl fun b1 => (sT 0 ty124) (o_seq (cR (oV vM (oV (vL 1 ty124) (oV (vL 0 ty124) ?_)))))
 obtain ⟨v, h5, hL1⟩ := bd hL1
 refine o_call [] call106 (cap := #[]) rfl rfl rfl (subs [1, 0] rfl) (by exact (hg106 h5 :)) rfl ?_
 rintro _ _ _ ⟨rfl, rfl, rfl⟩
 refine oV vN (o_seq ?_)
 refine cC hL1 (fun hL1 => ?_) (fun hL1 => ?_)
 refine cR (oV vA (o_seq (c_ret ?_)))
 cases hL1
 obtain rfl := lrf_ret hF
 exact sR
 refine c_skip (sat_wc (c_region (oV vB (oV vM (o_nil ?_)))))
 exact lp [] [2, 3] fun a w hs => ⟨IntKind.wrap .i64 (t17 + 1), hL1, hs⟩
 refine c_exit0 ?_
 cases hL1
 exact sK [] [0, 1] (hN1 () rfl)
 intro d1 hd
 subst hd
 replace hF := lrf_done hF
 refine sat_wc (cR (oV vA (o_seq (c_ret ?_))))
 cases hF
 exact sR
theorem tri106_B (k : Nat) (g67 : List Item → List Item → Option Bool)
    (hg67 : ∀ {a_ : List Item} {b : List Item} {A1 : OA} {L1 C1 : Nat} {A2 : OA} {L2 C2 : Nat} {r : Bool}, g67 a_ b = some r → Tri Tryz.prog 67 [sl A1 L1 C1, sl A2 L2 C2] [] [fS A1 L1 C1 4 eItem a_, fS A2 L2 C2 4 eItem b] (oR (bV r))) {x_ : Item} {y_ : Item} {A1 : OA} {L1 C1 : Nat} {A2 : OA} {L2 C2 : Nat} {r : Bool} (hF : F.defs.sameItems_c1_B k g67 x_ y_ = some r) :
    Tri Tryz.prog 106 [.agg (vItem x_ A1 L1 C1).toArray, .agg (vItem y_ A2 L2 C2).toArray] [] [fS A1 L1 C1 4 eItem x_.Items, fS A2 L2 C2 4 eItem y_.Items] (oR (bV r)) := by
 unfold F.defs.sameItems_c1_B at hF
 refine tri_intro (n := 31) Tryz.func106 rfl Tryz.ntmps106 rfl fun w X => cR (o_box rfl rfl rfl fun b => o_box rfl rfl rfl fun b1 => oV vA (o_seq (c_seq ?_)))
 refine cT (fun E H Φ N' => ∀ (t4 : Bool), F.defs.sameItems_c1_j1 t4 = some r → Sat E [(0, .agg (vItem x_ A1 L1 C1).toArray), (1, .agg (vItem y_ A2 L2 C2).toArray), (4, bV t4)] [] Φ N') (fun N1 hN1 => ?_) ?_
 refine c_region ((fD 0) (oV (vL 1 ty3) ((fD 0) (oV (vL 0 ty3) (oV vB (oV vM ?_))))))
 refine oS 10 hF (fun hF => ?_) (fun hF => ?_)
 refine oN ((fD 1) (oN (oV (vL 1 ty9) (oN ((fD 1) (oN (oV (vL 0 ty9) (oN (oV (v_streq rfl rfl) (oV vPt (oV vM ?_)))))))))))
 refine oS 17 hF (fun hF => ?_) (fun hF => ?_)
 refine oN ((fD 2) (oN (oV (vL 1 ty3) (oN ((fD 2) (oN (oV (vL 0 ty3) (oN (oV vB (oV vPt (oV vM ?_)))))))))))
 refine oS 24 hF (fun hF => ?_) (fun hF => ?_)
 refine oN ((fD 3) (oN (oV (vL 1 ty62) (oN ((fD 3) (oN (oV (vL 0 ty62) (oN ?_))))))))
 obtain ⟨v, h4, hF⟩ := bd hF
 refine o_callSB call67 rfl (lent_f 0 rfl (lent_f 1 rfl lent_nil)) (hg67 h4 :) rfl (oV vPt (oV vA (o_nil ?_)))
 exact sK [] [0, 1] (hN1 v hF)
 refine oF (oF (oF (oF (oF (oV vPf (oV vA (o_nil ?_)))))))
 exact sK [] [0, 1] (hN1 false hF)
 refine oF (oF (oF (oF (oF (oV vPf (oV vM (oF (oF (oF (oF (oF (oV vPf (oV vA (o_nil ?_))))))))))))))
 exact sK [] [0, 1] (hN1 false hF)
 refine oF (oF (oF (oF (oF (oV vPf (oV vM (oF (oF (oF (oF (oF (oV vPf (oV vM (oF (oF ?_)))))))))))))))
 refine oF (oF (oF (oV vPf (oV vA (o_nil ?_)))))
 exact sK [] [0, 1] (hN1 false hF)
 intro t4 hF
 unfold F.defs.sameItems_c1_j1 at hF
 refine sat_wc (c_ret ?_)
 cases hF
 exact sR
theorem tri67_G (k : Nat) : (∀ {a_ : List Item} {b : List Item} {A1 : OA} {L1 C1 : Nat} {A2 : OA} {L2 C2 : Nat} {r : Bool}, F.defs.sameItems k a_ b = some r → Tri Tryz.prog 67 [sl A1 L1 C1, sl A2 L2 C2] [] [fS A1 L1 C1 4 eItem a_, fS A2 L2 C2 4 eItem b] (oR (bV r))) ∧ (∀ {s1 : List Item} {s2 : List Item} {A1 : OA} {L1 C1 : Nat} {A2 : OA} {L2 C2 : Nat} {r : Bool}, F.slices.EqualFunc_f105_106 k s1 s2 = some r → Tri Tryz.prog 105 [sl A1 L1 C1, sl A2 L2 C2, .func (.func 106) #[] #[]] [] [fS A1 L1 C1 4 eItem s1, fS A2 L2 C2 4 eItem s2] (oR (bV r))) ∧ (∀ {x_ : Item} {y_ : Item} {A1 : OA} {L1 C1 : Nat} {A2 : OA} {L2 C2 : Nat} {r : Bool}, F.defs.sameItems_c1 k x_ y_ = some r → Tri Tryz.prog 106 [.agg (vItem x_ A1 L1 C1).toArray, .agg (vItem y_ A2 L2 C2).toArray] [] [fS A1 L1 C1 4 eItem x_.Items, fS A2 L2 C2 4 eItem y_.Items] (oR (bV r))) := by
 induction k with
 | zero => exact ⟨(fun h => nomatch (show none = some _ from h)), (fun h => nomatch (show none = some _ from h)), (fun h => nomatch (show none = some _ from h))⟩
 | succ k ih => exact ⟨tri67_B k _ ih.2.1, tri105_106_B k _ ih.2.2, tri106_B k _ ih.1⟩
theorem tri67 {k : Nat} {a_ : List Item} {b : List Item} {A1 : OA} {L1 C1 : Nat} {A2 : OA} {L2 C2 : Nat} {r : Bool} (hF : F.defs.sameItems k a_ b = some r) :
    Tri Tryz.prog 67 [sl A1 L1 C1, sl A2 L2 C2] [] [fS A1 L1 C1 4 eItem a_, fS A2 L2 C2 4 eItem b] (oR (bV r)) := (tri67_G k).1 hF
theorem tri66 {k : Nat} {x_ : Box} {y_ : Box} {r : Bool} (hF : F.defs.Same_c3 k x_ y_ = some r) :
    Tri Tryz.prog 66 [.agg #[sV x_.Cons, sl A1 L1 C1], .agg #[sV y_.Cons, sl A2 L2 C2]] [] [fS A1 L1 C1 4 eItem x_.Items, fS A2 L2 C2 4 eItem y_.Items] (oR (bV r)) := by
 unfold F.defs.Same_c3 at hF
 refine tri_intro (n := 17) Tryz.func66 rfl Tryz.ntmps66 rfl fun w X => cR (o_box rfl rfl rfl fun b => o_box rfl rfl rfl fun b1 => oV vA (o_seq (cR ((fD 0) (oV (vL 1 ty9) ((fD 0) (oV (vL 0 ty9) (oV (v_streq rfl rfl) (oV vM ?_)))))))))
 refine oS 10 hF (fun hF => ?_) (fun hF => ?_)
 refine oN ((fD 1) (oN (oV (vL 1 ty62) (oN ((fD 1) (oN (oV (vL 0 ty62) (oN ?_))))))))
 obtain ⟨v, h2, hF⟩ := bd hF
 refine o_callSB call67 rfl (lent_f 0 rfl (lent_f 1 rfl lent_nil)) (tri67 h2 :) rfl (oV vPt (oV vA (o_seq (c_ret ?_))))
 cases hF
 exact sR
 refine oF (oF (oF (oF (oF (oV vPf (oV vA (o_seq (c_ret ?_))))))))
 cases hF
 exact sR
theorem tri65_66 {k : Nat} {s1 : List Box} {s2 : List Box} {r : Bool} (hF : F.slices.EqualFunc_f65_66 k s1 s2 = some r) :
    Tri Tryz.prog 65 [sl A1 L1 C1, sl A2 L2 C2, .func (.func 66) #[] #[]] [] [fS A1 L1 C1 2 eBox s1, fS A2 L2 C2 2 eBox s2] (oR (bV r)) := by
 unfold F.slices.EqualFunc_f65_66 at hF
 refine tri_intro (n := 32) Tryz.func65 rfl Tryz.ntmps65 rfl fun w X => cR (oV vA (o_seq (c_seq (cR (oV vM (oV (v_lenS (enc := eBox) s1 sl26 rfl (.f 0 rfl)) (oV vM (oV (v_lenS (enc := eBox) s2 sl26 rfl (.f 1 rfl)) (oV vB (o_seq ?_))))))))))
 refine cC hF (fun hF => ?_) (fun hF => ?_)
 refine cR (oV vA (o_seq (c_ret ?_)))
 cases hF
 exact sR
 refine c_skip (sat_wc (c_seq (cR (oV vM (oV (v_lenS (enc := eBox) s1 sl26 rfl (.f 0 rfl)) (oV vM (o_seq ?_)))))))
 obtain ⟨o1, ho1, hF⟩ := bd hF
 refine cT (fun E H Φ N' => ∀ (d1 : Unit), o1 = .done d1 → Sat E [(0, sl A1 L1 C1), (1, sl A2 L2 C2), (6, bV false), (15, sl A1 L1 C1)] [] Φ N') (fun N1 hN1 => ?_) ?_
 refine c_block ?_
 refine cL (fun E H Φ j a w => ∃ (t17 : Int), F.slices.EqualFunc_f65_66_l1 k s1 s2 j t17 = some o1 ∧ St E [(0, sl A1 L1 C1), (1, sl A2 L2 C2), (2, .func (.func 66) #[] #[]), (6, bV false), (15, sl A1 L1 C1), (16, iI (s1.length : Int)), (17, iI t17)] [] Φ a w) k ?_ ?_
 exact lq [] [0, 1] fun a w hs => ⟨0, ho1, hs⟩
 rintro j a w ⟨t17, hL1, hs⟩
 rcases j with _ | j
 cases hL1
 refine wc_app hs ?_
 unfold F.slices.EqualFunc_f65_66_l1 at hL1
 refine cR (oV vB (o_seq (c_seq ?_)))
 refine cC hL1 (fun hL1 => ?_) (fun hL1 => ?_)
 refine c_skip (sat_wc (c_seq (c_block (cR (oV vM (ite_some hL1 ?_))))))
 intro h3 hL1
 refine oV (v_indexAddr_s (xs := s1) (enc := eBox) sl26 rfl rfl (.f 0 rfl) h3) (o_load_s (xs := s1) (enc := eBox) ty64 rfl (.f 0 rfl) h3 rfl rfl rfl rfl rfl rfl ?_)
 intro A3 L3 C3
 refine o_alloc zero64 rfl rfl fun b => oV vA ((sT 0 ty64) (o_seq (cR ?_)))
 refine oV vM (oV vM (ite_some hL1 ?_))
 intro h4 hL1
 refine oV (v_indexAddr_s (xs := s2) (enc := eBox) sl26 rfl rfl (.f 2 rfl) h4) (o_load_s (xs := s2) (enc := eBox) ty64 rfl (.f 2 rfl) h4 rfl rfl rfl rfl rfl rfl ?_)
 intro A4 L4 C4
 refine o_alloc zero64 rfl rfl fun b1 => (sT 0 ty64) (o_seq (cR (oV vM (oV (vL 1 ty64) (oV (vL 0 ty64) ?_)))))
 obtain ⟨v, h5, hL1⟩ := bd hL1
 refine o_call [] call66 (cap := #[]) rfl rfl rfl (subs [1, 0] rfl) (by exact (tri66 h5 :)) rfl ?_
 rintro _ _ _ ⟨rfl, rfl, rfl⟩
 refine oV vN (o_seq ?_)
 refine cC hL1 (fun hL1 => ?_) (fun hL1 => ?_)
 refine cR (oV vA (o_seq (c_ret ?_)))
 cases hL1
 obtain rfl := lrf_ret hF
 exact sR
 refine c_skip (sat_wc (c_region (oV vB (oV vM (o_nil ?_)))))
 exact lp [] [2, 3] fun a w hs => ⟨IntKind.wrap .i64 (t17 + 1), hL1, hs⟩
 refine c_exit0 ?_
 cases hL1
 exact sK [] [0, 1] (hN1 () rfl)
 intro d1 hd
 subst hd
 replace hF := lrf_done hF
 refine sat_wc (cR (oV vA (o_seq (c_ret ?_))))
 cases hF
 exact sR
theorem tri23 {k : Nat} {a_ : Def} {b : Def} {r : Bool} (hF : F.defs.Same k a_ b = some r) :
    Tri Tryz.prog 23 [.agg (vDef a_ A1 L1 C1 A2 L2 C2 A3 L3 C3 A4 L4 C4 A5 L5 C5).toArray, .agg (vDef b A6 L6 C6 A7 L7 C7 A8 L8 C8 A9 L9 C9 A10 L10 C10).toArray] [] [fS A1 L1 C1 5 eProd a_.Prods, fS A2 L2 C2 1 (eSl 2 eGroup) a_.Chains, fS A3 L3 C3 5 eFollow a_.Follows, fS A4 L4 C4 2 eReject a_.Rejects, fS A5 L5 C5 2 eBox a_.Boxes, fS A6 L6 C6 5 eProd b.Prods, fS A7 L7 C7 1 (eSl 2 eGroup) b.Chains, fS A8 L8 C8 5 eFollow b.Follows, fS A9 L9 C9 2 eReject b.Rejects, fS A10 L10 C10 2 eBox b.Boxes] (oR (bV r)) := by
 unfold F.defs.Same at hF
 refine tri_intro (n := 56) Tryz.func23 rfl Tryz.ntmps23 rfl fun w X => cR (o_box rfl rfl rfl fun b1 => o_box rfl rfl rfl fun b2 => oV vA (o_seq (c_seq (c_seq ?_))))
 refine cT (fun E H Φ N' => ∀ (t34 : Bool), F.defs.Same_j1 k a_ b t34 = some r → Sat E [(0, .agg (vDef a_ A1 L1 C1 A2 L2 C2 A3 L3 C3 A4 L4 C4 A5 L5 C5).toArray), (1, .agg (vDef b A6 L6 C6 A7 L7 C7 A8 L8 C8 A9 L9 C9 A10 L10 C10).toArray), (2, pt b1), (3, pt b2), (4, bV false), (34, bV t34)] H Φ N') (fun N1 hN1 => ?_) ?_
 refine c_region ((fD 0) (oV (vL 1 ty9) ((fD 0) (oV (vL 0 ty9) (oV (v_strne rfl rfl) (oV vM ?_))))))
 refine oS 12 hF (fun hF => ?_) (fun hF => ?_)
 refine oF (oF (oF (oF (oF (oV vPt (oV vM (oF (oF (oF (oF (oF (oF (oV vPt (oV vM (oF ?_)))))))))))))))
 refine oF (oF (oF (oF (oF (oV vPt (o_nil ?_))))))
 exact sK [0, 0] [0, 1, 2, 3, 4, 5, 6, 7, 8, 9] (hN1 true hF)
 refine oN ((fD 1) (oN (oV (vL 1 ty9) (oN ((fD 1) (oN (oV (vL 0 ty9) (oN (oV (v_strne rfl rfl) (oV vPf (oV vM ?_)))))))))))
 refine oS 19 hF (fun hF => ?_) (fun hF => ?_)
 refine oF (oF (oF (oF (oF (oF (oV vPt (oV vM (oF (oF (oF (oF (oF (oF (oV vPt (o_nil ?_)))))))))))))))
 exact sK [0, 0] [0, 1, 2, 3, 4, 5, 6, 7, 8, 9] (hN1 true hF)
 refine oN ((fD 4) (oN (oV (vL 1 ty24) (oN ((fD 4) (oN (oV (vL 0 ty24) (oN ?_))))))))
 obtain ⟨v3, h9, hF⟩ := bd hF
 refine o_callSB call55 rfl (lent_f 2 rfl (lent_f 7 rfl lent_nil)) (tri55 h9 :) rfl (oN (oV vN (oV vPf (oV vM ?_))))
 refine oS 27 hF (fun hF => ?_) (fun hF => ?_)
 refine oF (oF (oF (oF (oF (oF (oV vPt (o_nil ?_)))))))
 exact sK [0, 0] [0, 1, 2, 3, 4, 5, 6, 7, 8, 9] (hN1 true hF)
 refine oN ((fD 5) (oN (oV (vL 1 ty25) (oN ((fD 5) (oN (oV (vL 0 ty25) (oN ?_))))))))
 obtain ⟨v4, h11, hF⟩ := bd hF
 refine o_callSB call56 rfl (lent_f 3 rfl (lent_f 8 rfl lent_nil)) (tri56 h11 :) rfl (oN (oV vN (oV vPf (o_nil ?_))))
 exact sK [0, 0] [0, 1, 2, 3, 4, 5, 6, 7, 8, 9] (hN1 (!v4) hF)
 intro t34 hF
 unfold F.defs.Same_j1 at hF
 refine sat_wc ?_
 refine cC hF (fun hF => ?_) (fun hF => ?_)
 refine cR (oV vA (o_seq (c_ret ?_)))
 cases hF
 exact sR
 refine c_skip (sat_wc (cR ((fD 2) (oV (vL 1 ty22) ((fD 2) (oV (vL 0 ty22) ?_))))))
 obtain ⟨v, h2, hF⟩ := bd hF
 refine o_callSB call57 rfl (lent_f 0 rfl (lent_f 5 rfl lent_nil)) (tri57_58 h2 :) rfl (oV vA (o_seq (cR ((fD 3) (oV (vL 1 ty23) ((fD 3) (oV (vL 0 ty23) ?_)))))))
 obtain ⟨v1, h3, hF⟩ := bd hF
 refine o_callSB call60 rfl (lent_f 1 rfl (lent_f 6 rfl lent_nil)) (tri60_61 h3 :) rfl (oV vA (o_seq (cR (oV vM (oV vM ?_)))))
 refine oS 46 hF (fun hF => ?_) (fun hF => ?_)
 refine oN (oV vM (oV vPt (oV vM ?_)))
 refine oS 49 hF (fun hF => ?_) (fun hF => ?_)
 refine oN ((fD 6) (oN (oV (vL 1 ty26) (oN ((fD 6) (oN (oV (vL 0 ty26) (oN ?_))))))))
 obtain ⟨v2, h6, hF⟩ := bd hF
 refine o_callSB call65 rfl (lent_f 4 rfl (lent_f 9 rfl lent_nil)) (tri65_66 h6 :) rfl (oV vPt (oV vA (o_seq (c_ret ?_))))
 cases hF
 exact sR
 refine oF (oF (oF (oF (oF (oV vPf (oV vA (o_seq (c_ret ?_))))))))
 cases hF
 exact sR
 refine oF (oV vPf (oV vM (oF (oF (oF (oF (oF (oV vPf (oV vA (o_seq (c_ret ?_)))))))))))
 cases hF
 exact sR
theorem tri9 {k : Nat} {a_ : Def} {b : Def} {r : Bool} (hF : F.law03.DefsApart k a_ b = some r) :
    Tri Tryz.prog 9 [.agg (vDef a_ A1 L1 C1 A2 L2 C2 A3 L3 C3 A4 L4 C4 A5 L5 C5).toArray, .agg (vDef b A6 L6 C6 A7 L7 C7 A8 L8 C8 A9 L9 C9 A10 L10 C10).toArray] [] [gf10 1, fS A1 L1 C1 5 eProd a_.Prods, fS A2 L2 C2 1 (eSl 2 eGroup) a_.Chains, fS A3 L3 C3 5 eFollow a_.Follows, fS A4 L4 C4 2 eReject a_.Rejects, fS A5 L5 C5 2 eBox a_.Boxes, fS A6 L6 C6 5 eProd b.Prods, fS A7 L7 C7 1 (eSl 2 eGroup) b.Chains, fS A8 L8 C8 5 eFollow b.Follows, fS A9 L9 C9 2 eReject b.Rejects, fS A10 L10 C10 2 eBox b.Boxes] (oR (bV r)) := by
 unfold F.law03.DefsApart at hF
 refine tri_intro (n := 59) Tryz.func9 rfl Tryz.ntmps9 rfl fun w X => cR (o_box rfl rfl rfl fun b1 => o_box rfl rfl rfl fun b2 => oV vA (o_seq (c_seq (cR (oV (vL 1 ty28) ?_)))))
 obtain ⟨v, h1, hF⟩ := bd hF
 refine o_callSB call10 rfl (lent_f 1 rfl (lent_f 2 rfl (lent_f 3 rfl (lent_f 4 rfl (lent_f 5 rfl lent_nil))))) (tri10 h1 :) rfl (oV vM ?_)
 refine oS 11 hF (fun hF => ?_) (fun hF => ?_)
 refine oF (oF (oV vPt (o_seq ?_)))
 refine c_cond rfl (fun _ => ?_) (fun h => Bool.noConfusion h)
 refine cR ?_
 obtain ⟨v1, h3, hF⟩ := bd hF
 refine o_callSB call11 rfl (lent_f 0 rfl lent_nil) (tri11 h3 :) rfl (oV vA (o_seq (c_ret ?_)))
 cases hF
 exact sR
 refine oN (oV (vL 0 ty28) (oN ?_))
 obtain ⟨v2, h4, hF⟩ := bd hF
 refine o_callSB call10 rfl (lent_f 6 rfl (lent_f 7 rfl (lent_f 8 rfl (lent_f 9 rfl (lent_f 10 rfl lent_nil))))) (tri10 h4 :) rfl (oV vPf (o_seq ?_))
 refine cC hF (fun hF => ?_) (fun hF => ?_)
 refine cR ?_
 obtain ⟨v3, h6, hF⟩ := bd hF
 refine o_callSB call11 rfl (lent_f 0 rfl lent_nil) (tri11 h6 :) rfl (oV vA (o_seq (c_ret ?_)))
 cases hF
 exact sR
 refine c_skip (sat_wc (cR (oV (vL 1 ty28) ?_)))
 obtain ⟨v4, h7, hF⟩ := bd hF
 refine o_callSB call13 rfl (lent_f 0 rfl (lent_f 1 rfl (lent_f 2 rfl (lent_f 3 rfl (lent_f 4 rfl (lent_f 5 rfl lent_nil)))))) (tri13 h7 :) rfl (oV vM (oV vX (oV vX (oV vA (oV vA (o_seq (cR (oV (vL 0 ty28) ?_))))))))
 obtain ⟨v5, h8, hF⟩ := bd hF
 refine o_callSB call13 rfl (lent_f 0 rfl (lent_f 6 rfl (lent_f 7 rfl (lent_f 8 rfl (lent_f 9 rfl (lent_f 10 rfl lent_nil)))))) (tri13 h8 :) rfl (oV vM (oV vX (oV vX (oV vA (oV vA (o_seq (c_seq (c_seq ?_))))))))
 refine cT (fun E H Φ N' => ∀ (t31 : Bool), F.law03.DefsApart_j1 k v4 v5 a_ b t31 = some r → Sat E [(0, .agg (vDef a_ A1 L1 C1 A2 L2 C2 A3 L3 C3 A4 L4 C4 A5 L5 C5).toArray), (1, .agg (vDef b A6 L6 C6 A7 L7 C7 A8 L8 C8 A9 L9 C9 A10 L10 C10).toArray), (2, pt b1), (3, pt b2), (4, bV false), (5, sV v4.1), (6, iI v4.2), (7, sV v5.1), (8, iI v5.2), (31, bV t31)] H Φ N') (fun N2 hN2 => ?_) ?_
 refine c_region (oV vM (oV vB (oV vM ?_)))
 refine oS 28 hF (fun hF => ?_) (fun hF => ?_)
 refine oF (oF (oV vPt (o_nil ?_)))
 exact sK [0, 0] [0, 1, 2, 3, 4, 5, 6, 7, 8, 9, 10] (hN2 true hF)
 refine oN (oV vM (oN (oV vB (oV vPf (o_nil ?_)))))
 exact sK [0, 0] [0, 1, 2, 3, 4, 5, 6, 7, 8, 9, 10] (hN2 (v5.2 != 0) hF)
 intro t31 hF
 unfold F.law03.DefsApart_j1 at hF
 refine sat_wc ?_
 refine cC hF (fun hF => ?_) (fun hF => ?_)
 refine c_seq ?_
 refine cT (fun E H Φ N' => ∀ (t4 : Bool), F.law03.DefsApart_j2 t4 = some r → Sat E [(0, .agg (vDef a_ A1 L1 C1 A2 L2 C2 A3 L3 C3 A4 L4 C4 A5 L5 C5).toArray), (1, .agg (vDef b A6 L6 C6 A7 L7 C7 A8 L8 C8 A9 L9 C9 A10 L10 C10).toArray), (2, pt b1), (3, pt b2), (4, bV t4), (5, sV v4.1), (6, iI v4.2), (7, sV v5.1), (8, iI v5.2)] H Φ N') (fun N2 hN2 => ?_) ?_
 refine c_region ?_
 obtain ⟨v6, h10, hF⟩ := bd hF
 refine o_callSB call11 rfl (lent_f 0 rfl lent_nil) (tri11 h10 :) rfl (oV vM ?_)
 refine oS 33 hF (fun hF => ?_) (fun hF => ?_)
 refine oN (oV vM (oN (oV vB (oN (oV vM ?_)))))
 refine oS 36 hF (fun hF => ?_) (fun hF => ?_)
 refine oF (oF (oN (oV vPt (oV vPt (oV vM (oN (oV vM (oN (oV vB (oN (oV vM ?_)))))))))))
 refine oS 44 hF (fun hF => ?_) (fun hF => ?_)
 refine oF (oF (oN (oV vPt (oV vPt (oV vA (o_nil ?_))))))
 exact sK [0, 0] [0, 1, 2, 3, 4, 5, 6, 7, 8, 9, 10] (hN2 true hF)
 refine oN (oV vM (oN (oV (v_streq rfl rfl) (oN (oV vPf (oV vPt (oV vA (o_nil ?_))))))))
 exact sK [0, 0] [0, 1, 2, 3, 4, 5, 6, 7, 8, 9, 10] (hN2 (v5.1 == ([] : Tx)) hF)
 refine oN (oV vM (oN (oV (v_streq rfl rfl) (oN (oV vPf (oV vPt (oV vM ?_)))))))
 refine oS 41 hF (fun hF => ?_) (fun hF => ?_)
 refine oN (oV vM (oN (oV vB (oN (oV vM ?_)))))
 refine oS 44 hF (fun hF => ?_) (fun hF => ?_)
 refine oF (oF (oN (oV vPt (oV vPt (oV vA (o_nil ?_))))))
 exact sK [0, 0] [0, 1, 2, 3, 4, 5, 6, 7, 8, 9, 10] (hN2 true hF)
 refine oN (oV vM (oN (oV (v_streq rfl rfl) (oN (oV vPf (oV vPt (oV vA (o_nil ?_))))))))
 exact sK [0, 0] [0, 1, 2, 3, 4, 5, 6, 7, 8, 9, 10] (hN2 (v5.1 == ([] : Tx)) hF)
 refine oF (oF (oF (oU (oU (oF (oV vPf (oV vA (o_nil ?_))))))))
 exact sK [0, 0] [0, 1, 2, 3, 4, 5, 6, 7, 8, 9, 10] (hN2 false hF)
 refine oF (oF (oF (oU (oU (oF (oV vPf (oV vM (oF (oF (oF (oU (oU (oF (oV vPf (oV vA ?_)))))))))))))))
 refine o_nil ?_
 exact sK [0, 0] [0, 1, 2, 3, 4, 5, 6, 7, 8, 9, 10] (hN2 false hF)
 intro t4 hF
 unfold F.law03.DefsApart_j2 at hF
 refine sat_wc (c_ret ?_)
 cases hF
 exact sR
 refine c_skip (sat_wc (cR ?_))
 obtain ⟨v7, h16, hF⟩ := bd hF
 refine o_callSB call11 rfl (lent_f 0 rfl lent_nil) (tri11 h16 :) rfl (oV vM ?_)
 refine oS 50 hF (fun hF => ?_) (fun hF => ?_)
 refine oN (oV vM (oN (oV vM (oN (oV (v_streq rfl rfl) (oN (oV (vL 1 ty28) (oN (oV (vL 0 ty28) (oN ?_))))))))))
 obtain ⟨v8, h18, hF⟩ := bd hF
 refine o_callSB call23 rfl (lent_f 1 rfl (lent_f 2 rfl (lent_f 3 rfl (lent_f 4 rfl (lent_f 5 rfl (lent_f 6 rfl (lent_f 7 rfl (lent_f 8 rfl (lent_f 9 rfl (lent_f 10 rfl lent_nil)))))))))) (tri23 h18 :) rfl (oN (oV (v_booleq rfl rfl Tryz.underlying4) (oV vPt (oV vA (o_seq (c_ret ?_))))))
 cases hF
 exact sR
 refine oF (oF (oF (oF (oF (oF (oF (oV vPf (oV vA (o_seq (c_ret ?_))))))))))
 cases hF
 exact sR
end Go.Vc
