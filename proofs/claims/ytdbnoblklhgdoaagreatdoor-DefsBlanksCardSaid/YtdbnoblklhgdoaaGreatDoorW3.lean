import Derived.Test.YtdbnoblklhgdoaaGreatDoorW2
set_option linter.unusedVariables false
set_option linter.unusedSimpArgs false
set_option maxRecDepth 8000
set_option maxHeartbeats 2000000
namespace Go.Vc
open Go Go.Proofs
variable {A1 A2 A3 A4 A5 A6 A7 A8 A9 A10 A11 A12 A13 A14 A15 A16 A17 A18 A19 A20 A21 A22 A23 A24 A25 A26 A27 : OA} {L1 C1 L2 C2 L3 C3 L4 C4 L5 C5 L6 C6 L7 C7 L8 C8 L9 C9 L10 C10 L11 C11 L12 C12 L13 C13 L14 C14 L15 C15 L16 C16 L17 C17 L18 C18 L19 C19 L20 C20 L21 C21 L22 C22 L23 C23 L24 C24 L25 C25 L26 C26 L27 C27 : Nat}
theorem tri31_B (k : Nat) (g31 : List Item → Option (List UInt8))
    (hg31 : ∀ {l__ : List Item} {A1 : OA} {L1 C1 : Nat} {r : Tx}, g31 l__ = some r → Tri Tryz.prog 31 [sl A1 L1 C1] [] [gf10 1, fS A1 L1 C1 4 eItem l__] (oR (sV r))) {l__ : List Item} {A1 : OA} {L1 C1 : Nat} {r : Tx} (hF : F.defs.itemsText_B k g31 l__ = some r) :
    Tri Tryz.prog 31 [sl A1 L1 C1] [] [gf10 1, fS A1 L1 C1 4 eItem l__] (oR (sV r)) := by
 unfold F.defs.itemsText_B at hF
 refine tri_intro (n := 64) Tryz.func31 rfl Tryz.ntmps31 rfl fun w X => cR (oV vA (o_seq (cR (oV vA (o_seq (c_seq (cR (oV vM (oV (v_lenS (enc := eItem) l__ sl62 rfl (.f 1 rfl)) (oV vM (o_seq ?_)))))))))))
 obtain ⟨o1, ho1, hF⟩ := bd hF
 refine cT (fun E H Φ N' => Sat E [(0, sl A1 L1 C1), (2, sV ([] : Tx)), (3, sV o1), (6, sl A1 L1 C1)] [] Φ N') (fun N1 hN1 => ?_) ?_
 refine c_block ?_
 refine cL (fun E H Φ j a w => ∃ (out_ : Tx) (t8 : Int), F.defs.itemsText_l1 k l__ g31 j out_ t8 = some o1 ∧ St E [(0, sl A1 L1 C1), (2, sV ([] : Tx)), (3, sV out_), (6, sl A1 L1 C1), (7, iI (l__.length : Int)), (8, iI t8)] [] Φ a w) k ?_ ?_
 exact lq [] [0, 1] fun a w hs => ⟨([] : Tx), 0, ho1, hs⟩
 rintro j a w ⟨out_, t8, hL1, hs⟩
 rcases j with _ | j
 cases hL1
 refine wc_app hs ?_
 unfold F.defs.itemsText_l1 at hL1
 refine cR (oV vB (o_seq (c_seq ?_)))
 refine cC hL1 (fun hL1 => ?_) (fun hL1 => ?_)
 refine c_skip (sat_wc (c_seq ?_))
 refine c_cut (fun E N' => ∀ (out_1 : Tx) (A2 : OA) (L2 C2 : Nat) (b : Nat), F.defs.itemsText_j2 (F.defs.itemsText_l1 k l__ g31 j) t8 out_1 = some o1 → Sat E [(0, sl A1 L1 C1), (2, sV ([] : Tx)), (3, sV out_1), (5, pt b), (6, sl A1 L1 C1), (7, iI (l__.length : Int)), (8, iI t8), (13, iI ((at_ l__ t8).Kind))] [.box b 124 (vItem (at_ l__ t8) A2 L2 C2)] [gf10 1, fS A1 L1 C1 4 eItem l__, fS A2 L2 C2 4 eItem ((at_ l__ t8).Items)] N') (fun N2 hN2 => ?_) ?_
 refine c_block (cR (ite_some hL1 fun h2 hL1 => oV (v_indexAddr_s (xs := l__) (enc := eItem) sl62 rfl rfl (.f 1 rfl) h2) (o_load_s (ds := [.int .i64 ((at_ l__ t8).Kind), .str ((at_ l__ t8).Text), .int .i64 ((at_ l__ t8).N_), .slice 4 (((at_ l__ t8).Items).map eItem)]) (xs := l__) (enc := eItem) ty124 rfl (.f 1 rfl) h2 (by simp only [eItem_eq] <;> rfl) rfl rfl rfl rfl rfl ?_)))
 intro A3 L3 C3
 refine o_alloc zero124 rfl rfl fun b1 => (sT 0 ty124) (o_seq (cR ((fD 0) (oV (vL 0 ty3) (o_seq ?_)))))
 refine cT (fun E H Φ N' => ∀ (out_2 : Tx), F.defs.itemsText_j3 (F.defs.itemsText_l1 k l__ g31 j) t8 out_2 = some o1 → Sat E [(0, sl A1 L1 C1), (2, sV ([] : Tx)), (3, sV out_2), (5, pt b1), (6, sl A1 L1 C1), (7, iI (l__.length : Int)), (8, iI t8), (13, iI ((at_ l__ t8).Kind))] H [gf10 1, fS A1 L1 C1 4 eItem l__, fS A3 L3 C3 4 eItem ((at_ l__ t8).Items)] N') (fun N3 hN3 => ?_) ?_
 refine c_block (cR (oV vB (oV vA (o_seq ?_))))
 refine cT (fun E H Φ N' => ∀ (out_3 : Tx), F.defs.itemsText_j4 (F.defs.itemsText_l1 k l__ g31 j) t8 out_3 = some o1 → Sat E [(0, sl A1 L1 C1), (2, sV ([] : Tx)), (3, sV out_3), (5, pt b1), (6, sl A1 L1 C1), (7, iI (l__.length : Int)), (8, iI t8), (13, iI ((at_ l__ t8).Kind))] H [gf10 1, fS A1 L1 C1 4 eItem l__, fS A3 L3 C3 4 eItem ((at_ l__ t8).Items)] N') (fun N4 hN4 => ?_) ?_
 refine cC hL1 (fun hL1 => ?_) (fun hL1 => ?_)
 refine c_region (oV vM ((fD 1) (oV (vL 0 ty9) (o_strBytes Tryz.underlying9 Tryz.underlying67 Tryz.underlying5 rfl rfl ?_))))
 intro A4 L4 C4
 refine ?_
 obtain ⟨v, h4, hL1⟩ := bd hL1
 refine o_callSB call72 rfl (lent_f 0 rfl lent_nil) (tri72 h4 :) rfl (ite_some hL1 fun h5 hL1 => oV (vS h5) (ite_some hL1 ?_))
 intro h6 hL1
 refine oV (vS h6) (oV vA (o_nil ?_))
 exact sK [0] [2, 3, 1] (hN4 (out_ ++ (([32] : Tx) ++ v)) hL1)
 refine cR (oV vB (oV vA (o_seq ?_)))
 refine cT (fun E H Φ N' => ∀ (out_4 : Tx), F.defs.itemsText_j5 (F.defs.itemsText_l1 k l__ g31 j) t8 out_4 = some o1 → Sat E [(0, sl A1 L1 C1), (2, sV ([] : Tx)), (3, sV out_4), (5, pt b1), (6, sl A1 L1 C1), (7, iI (l__.length : Int)), (8, iI t8), (13, iI ((at_ l__ t8).Kind))] H [gf10 1, fS A1 L1 C1 4 eItem l__, fS A3 L3 C3 4 eItem ((at_ l__ t8).Items)] N') (fun N5 hN5 => ?_) ?_
 refine cC hL1 (fun hL1 => ?_) (fun hL1 => ?_)
 refine c_region (oV vM ((fD 2) (oV (vL 0 ty3) ?_)))
 obtain ⟨v1, h8, hL1⟩ := bd hL1
 refine o_callSB call73 rfl (lent_f 1 rfl lent_nil) (tri73 ((at_ l__ t8).N_) v1 h8) rfl (ite_some hL1 fun h9 hL1 => oV (vS h9) (ite_some hL1 ?_))
 intro h10 hL1
 refine oV (vS h10) (oV vA (o_nil ?_))
 exact sK [0] [1, 2, 0] (hN5 (out_ ++ (([32] : Tx) ++ v1)) hL1)
 refine cR (oV vB (oV vA (o_seq ?_)))
 refine cT (fun E H Φ N' => ∀ (out_5 : Tx), F.defs.itemsText_j6 (F.defs.itemsText_l1 k l__ g31 j) t8 out_5 = some o1 → Sat E [(0, sl A1 L1 C1), (2, sV ([] : Tx)), (3, sV out_5), (5, pt b1), (6, sl A1 L1 C1), (7, iI (l__.length : Int)), (8, iI t8), (13, iI ((at_ l__ t8).Kind))] H [gf10 1, fS A1 L1 C1 4 eItem l__, fS A3 L3 C3 4 eItem ((at_ l__ t8).Items)] N') (fun N6 hN6 => ?_) ?_
 refine cC hL1 (fun hL1 => ?_) (fun hL1 => ?_)
 refine c_region (oV vM (ite_some hL1 ?_))
 intro h12 hL1
 refine oV (vS h12) (oV vA (o_nil ?_))
 exact sK [0] [1, 2, 0] (hN6 (out_ ++ ([32, 95] : Tx)) hL1)
 refine cR (oV vB (oV vA (o_seq ?_)))
 refine cT (fun E H Φ N' => ∀ (out_6 : Tx), F.defs.itemsText_j7 (F.defs.itemsText_l1 k l__ g31 j) t8 out_6 = some o1 → Sat E [(0, sl A1 L1 C1), (2, sV ([] : Tx)), (3, sV out_6), (5, pt b1), (6, sl A1 L1 C1), (7, iI (l__.length : Int)), (8, iI t8), (13, iI ((at_ l__ t8).Kind))] H [gf10 1, fS A1 L1 C1 4 eItem l__, fS A3 L3 C3 4 eItem ((at_ l__ t8).Items)] N') (fun N7 hN7 => ?_) ?_
 refine cC hL1 (fun hL1 => ?_) (fun hL1 => ?_)
 refine c_region (oV vM (ite_some hL1 ?_))
 intro h14 hL1
 refine oV (vS h14) (oV vA (o_nil ?_))
 exact sK [0] [1, 2, 0] (hN7 (out_ ++ ([32, 47] : Tx)) hL1)
 refine cR (oV vB (oV vA (o_seq ?_)))
 refine cT (fun E H Φ N' => ∀ (out_7 : Tx), F.defs.itemsText_j8 (F.defs.itemsText_l1 k l__ g31 j) t8 out_7 = some o1 → Sat E [(0, sl A1 L1 C1), (2, sV ([] : Tx)), (3, sV out_7), (5, pt b1), (6, sl A1 L1 C1), (7, iI (l__.length : Int)), (8, iI t8), (13, iI ((at_ l__ t8).Kind))] H [gf10 1, fS A1 L1 C1 4 eItem l__, fS A3 L3 C3 4 eItem ((at_ l__ t8).Items)] N') (fun N8 hN8 => ?_) ?_
 refine cC hL1 (fun hL1 => ?_) (fun hL1 => ?_)
 refine c_draw (n := 13) [0] mixed rfl rfl (dv 0 rfl vM (dv 1 rfl (vF 2) (dv 2 rfl (vL 0 ty3) (dv 6 rfl (vF 3) (dv 7 rfl (vL 0 ty62) (dO 3 rfl ?_))))))
 obtain ⟨v2, h16, hL1⟩ := bd hL1
 refine o_callSB call73 rfl (lent_f 1 rfl lent_nil) (tri73 ((at_ l__ t8).N_) v2 h16) rfl (dN [0] 0 (ite_some hL1 ?_))
 intro h17 hL1
 refine dv 4 rfl (vS h17) (ite_some hL1 ?_)
 intro h18 hL1
 refine dv 5 rfl (vS h18) (dO 8 rfl ?_)
 obtain ⟨v3, h19, hL1⟩ := bd hL1
 refine o_callSB call31 rfl (lent_f 1 rfl (lent_f 0 rfl lent_nil)) (hg31 h19 :) rfl (dN [0] 0 (ite_some hL1 ?_))
 intro h20 hL1
 refine dv 9 rfl (vS h20) (ite_some hL1 ?_)
 intro h21 hL1
 refine dv 10 rfl (vS h21) (ite_some hL1 ?_)
 intro h22 hL1
 refine dv 11 rfl (vS h22) (dv 12 rfl vA (dD ?_))
 exact sK [0] [1, 2, 0] (hN8 (out_ ++ ((((([32, 110, 101, 115, 116, 32] : Tx) ++ v2) ++ ([32, 40] : Tx)) ++ v3) ++ ([32, 41] : Tx))) hL1)
 refine cR (oV vB (oV vA (o_seq ?_)))
 refine cT (fun E H Φ N' => ∀ (out_8 : Tx), F.defs.itemsText_j9 (F.defs.itemsText_l1 k l__ g31 j) t8 out_8 = some o1 → Sat E [(0, sl A1 L1 C1), (2, sV ([] : Tx)), (3, sV out_8), (5, pt b1), (6, sl A1 L1 C1), (7, iI (l__.length : Int)), (8, iI t8), (13, iI ((at_ l__ t8).Kind))] H [gf10 1, fS A1 L1 C1 4 eItem l__, fS A3 L3 C3 4 eItem ((at_ l__ t8).Items)] N') (fun N9 hN9 => ?_) ?_
 refine cC hL1 (fun hL1 => ?_) (fun hL1 => ?_)
 refine c_region (oV vM ((fD 3) (oV (vL 0 ty62) ?_)))
 obtain ⟨v4, h24, hL1⟩ := bd hL1
 refine o_callSB call31 rfl (lent_f 1 rfl (lent_f 0 rfl lent_nil)) (hg31 h24 :) rfl (ite_some hL1 fun h25 hL1 => oV (vS h25) (ite_some hL1 ?_))
 intro h26 hL1
 refine oV (vS h26) (ite_some hL1 ?_)
 intro h27 hL1
 refine oV (vS h27) (oV vA (o_nil ?_))
 exact sK [0] [1, 2, 0] (hN9 (out_ ++ ((([32, 103, 114, 111, 117, 112, 32, 40] : Tx) ++ v4) ++ ([32, 41] : Tx))) hL1)
 refine c_skip ?_
 exact sK [0] [1, 2, 0] (hN9 out_ hL1)
 intro out_8 hL1
 unfold F.defs.itemsText_j9 at hL1
 exact sK [0] [0, 1, 2] (hN8 out_8 hL1)
 intro out_7 hL1
 unfold F.defs.itemsText_j8 at hL1
 exact sK [0] [0, 1, 2] (hN7 out_7 hL1)
 intro out_6 hL1
 unfold F.defs.itemsText_j7 at hL1
 exact sK [0] [0, 1, 2] (hN6 out_6 hL1)
 intro out_5 hL1
 unfold F.defs.itemsText_j6 at hL1
 exact sK [0] [0, 1, 2] (hN5 out_5 hL1)
 intro out_4 hL1
 unfold F.defs.itemsText_j5 at hL1
 exact sK [0] [0, 1, 2] (hN4 out_4 hL1)
 intro out_3 hL1
 unfold F.defs.itemsText_j4 at hL1
 exact sK [0] [0, 1, 2] (hN3 out_3 hL1)
 intro out_2 hL1
 unfold F.defs.itemsText_j3 at hL1
 exact sK [0] [0, 1, 2] (hN2 out_2 A3 L3 C3 b1 hL1)
 intro out_1 A2 L2 C2 b hL1
 unfold F.defs.itemsText_j2 at hL1
 refine sat_wc (c_region (oV vB (oV vM (o_nil ?_))))
 exact lp [] [0, 1] fun a w hs => ⟨out_1, IntKind.wrap .i64 (t8 + 1), hL1, hs⟩
 refine c_exit0 ?_
 cases hL1
 exact sK [] [0, 1] (hN1)
 refine sat_wc (cR (oV vM (oV vA (o_seq (c_ret ?_)))))
 cases hF
 exact sR
theorem tri31 (k : Nat) : (∀ {l__ : List Item} {A1 : OA} {L1 C1 : Nat} {r : Tx}, F.defs.itemsText k l__ = some r → Tri Tryz.prog 31 [sl A1 L1 C1] [] [gf10 1, fS A1 L1 C1 4 eItem l__] (oR (sV r))) := by
 induction k with
 | zero => exact fun h => nomatch (show none = some _ from h)
 | succ k ih => exact tri31_B k _ ih
theorem tri13 {k : Nat} {d_ : Def} {r : List UInt8 × Int} (hF : F.defs.Print k d_ = some r) :
    Tri Tryz.prog 13 [.agg (vDef d_ A1 L1 C1 A2 L2 C2 A3 L3 C3 A4 L4 C4 A5 L5 C5).toArray] [] [gf10 1, fS A1 L1 C1 5 eProd d_.Prods, fS A2 L2 C2 1 (eSl 2 eGroup) d_.Chains, fS A3 L3 C3 5 eFollow d_.Follows, fS A4 L4 C4 2 eReject d_.Rejects, fS A5 L5 C5 2 eBox d_.Boxes] (oR (.tuple #[sV r.1, iI r.2])) := by
 unfold F.defs.Print at hF
 refine tri_intro (n := 159) Tryz.func13 rfl Tryz.ntmps13 rfl fun w X => cR (o_box rfl rfl rfl fun b => oV vA (oV vA (o_seq (c_seq (cR (oV (vL 0 ty28) ?_))))))
 obtain ⟨v, h1, hF⟩ := bd hF
 refine o_callSB call17 rfl (lent_f 1 rfl (lent_f 2 rfl (lent_f 3 rfl (lent_f 4 rfl (lent_f 5 rfl lent_nil))))) (tri17 h1 :) rfl (oV vN (o_seq ?_))
 refine cC hF (fun hF => ?_) (fun hF => ?_)
 refine cR (oV vA (oV vA (o_seq (c_ret ?_))))
 cases hF
 refine s_ret2 rfl (r_tmp rfl) (r_tmp rfl) fun a w hs => fin_sel hs [] ⟨rfl, rfl, rfl⟩ rfl sub_nil
 refine c_skip (sat_wc (cR (o_alloc zero69 rfl rfl fun b1 => o_seq (cR (oV (v_makeFunc (vs := [pt b1]) rfl) (oV vA (o_seq (c_seq (cR ((fD 0) (oV (vL 1 ty9) ?_)))))))))))
 refine oV (v_strne rfl rfl) (o_seq ?_)
 refine cT (fun E H Φ N' => ∀ (addr_ : Bool) (buf_ : List Int) (A6 : OA) (L6 C6 : Nat), F.defs.Print_j1 k d_ addr_ buf_ = some r → Sat E [(0, .agg (vDef d_ A1 L1 C1 A2 L2 C2 A3 L3 C3 A4 L4 C4 A5 L5 C5).toArray), (1, pt b), (2, sV ([] : Tx)), (3, iI 0), (4, pt b1), (5, .func (.func 26) #[] #[pt b1])] [.box b1 69 [bptr b1 addr_, sl A6 L6 C6], .box b 28 (vDef d_ A1 L1 C1 A2 L2 C2 A3 L3 C3 A4 L4 C4 A5 L5 C5), rW A6 L6 C6 5 1 eU8 buf_] Φ N') (fun N12 hN12 => ?_) ?_
 refine cC hF (fun hF => ?_) (fun hF => ?_)
 refine c_region (oV vM ((fD 0) (oV (vL 1 ty9) (ite_some hF ?_))))
 intro h46 hF
 refine oV (vS h46) (ite_some hF ?_)
 intro h47 hF
 refine oV (vS h47) ?_
 obtain ⟨v12, h48, hF⟩ := bd hF
 refine o_st (st_nilrow 5 1) (o_call [1, 0] call26 (cap := #[pt b1]) rfl rfl rfl sub_nil (by exact (tri26 h48 :)) rfl ?_)
 rintro _ _ _ ⟨A27, L27, C27, rfl, rfl, rfl⟩
 refine o_nil ?_
 exact sK [0, 1, 0] [0, 1, 2, 3, 4, 5] (hN12 v12.2.addr v12.2.buf A27 L27 C27 hF)
 refine c_skip (s_st (st_nilrow 5 1) ?_)
 exact sK [1, 1, 0] [0, 1, 2, 3, 4, 5] (hN12 false ([] : List Int) none 0 0 hF)
 intro addr_ buf_ A6 L6 C6 hF
 unfold F.defs.Print_j1 at hF
 refine sat_wc (c_seq (cR ((fD 1) (oV (vL 1 ty9) (oV (v_strne rfl rfl) (o_seq ?_))))))
 refine cT (fun E H Φ N' => ∀ (addr_1 : Bool) (buf_1 : List Int) (A7 : OA) (L7 C7 : Nat), F.defs.Print_j2 k d_ addr_1 buf_1 = some r → Sat E [(0, .agg (vDef d_ A1 L1 C1 A2 L2 C2 A3 L3 C3 A4 L4 C4 A5 L5 C5).toArray), (1, pt b), (2, sV ([] : Tx)), (3, iI 0), (4, pt b1), (5, .func (.func 26) #[] #[pt b1])] [.box b1 69 [bptr b1 addr_1, sl A7 L7 C7], .box b 28 (vDef d_ A1 L1 C1 A2 L2 C2 A3 L3 C3 A4 L4 C4 A5 L5 C5), rW A7 L7 C7 5 1 eU8 buf_1] Φ N') (fun N12 hN12 => ?_) ?_
 refine cC hF (fun hF => ?_) (fun hF => ?_)
 refine c_region (oV vM ((fD 1) (oV (vL 1 ty9) (ite_some hF ?_))))
 intro h42 hF
 refine oV (vS h42) (ite_some hF ?_)
 intro h43 hF
 refine oV (vS h43) ?_
 obtain ⟨v11, h44, hF⟩ := bd hF
 refine o_call [0, 1] call26 (cap := #[pt b1]) rfl rfl rfl sub_nil (by exact (tri26 h44 :)) rfl ?_
 rintro _ _ _ ⟨A26, L26, C26, rfl, rfl, rfl⟩
 refine o_nil ?_
 exact sK [0, 1, 0] [0, 1, 2, 3, 4, 5] (hN12 v11.2.addr v11.2.buf A26 L26 C26 hF)
 refine c_skip ?_
 exact sK [0, 0, 0] [0, 1, 2, 3, 4, 5] (hN12 addr_ buf_ A6 L6 C6 hF)
 intro addr_1 buf_1 A7 L7 C7 hF
 unfold F.defs.Print_j2 at hF
 refine sat_wc (cR (oV vA (o_seq (c_seq (cR (oV vA (o_seq ?_)))))))
 obtain ⟨o3, ho3, hF⟩ := bd hF
 refine cT (fun E H Φ N' => ∀ (A9 : OA) (L9 C9 : Nat), Sat E [(0, .agg (vDef d_ A1 L1 C1 A2 L2 C2 A3 L3 C3 A4 L4 C4 A5 L5 C5).toArray), (1, pt b), (2, sV ([] : Tx)), (3, iI 0), (4, pt b1), (5, .func (.func 26) #[] #[pt b1]), (6, bV o3.1)] [.box b1 69 [bptr b1 o3.2.1, sl A9 L9 C9], .box b 28 (vDef d_ A1 L1 C1 A2 L2 C2 A3 L3 C3 A4 L4 C4 A5 L5 C5), rW A9 L9 C9 5 1 eU8 o3.2.2] Φ N') (fun N3 hN3 => ?_) ?_
 refine c_block ?_
 refine cL (fun E H Φ j a w => ∃ (ok_ : Bool) (i : Int) (addr_2 : Bool) (buf_2 : List Int) (A8 : OA) (L8 C8 : Nat), F.defs.Print_l3 k d_ j ok_ i addr_2 buf_2 = some o3 ∧ St E [(0, .agg (vDef d_ A1 L1 C1 A2 L2 C2 A3 L3 C3 A4 L4 C4 A5 L5 C5).toArray), (1, pt b), (2, sV ([] : Tx)), (3, iI 0), (4, pt b1), (5, .func (.func 26) #[] #[pt b1]), (6, bV ok_), (7, iI i)] [.box b1 69 [bptr b1 addr_2, sl A8 L8 C8], .box b 28 (vDef d_ A1 L1 C1 A2 L2 C2 A3 L3 C3 A4 L4 C4 A5 L5 C5), rW A8 L8 C8 5 1 eU8 buf_2] Φ a w) k ?_ ?_
 exact lq [0, 0, 0] [0, 1, 2, 3, 4, 5] fun a w hs => ⟨true, 0, addr_1, buf_1, A7, L7, C7, ho3, hs⟩
 rintro j a w ⟨ok_, i, addr_2, buf_2, A8, L8, C8, hL3, hs⟩
 rcases j with _ | j
 cases hL3
 refine wc_app hs ?_
 unfold F.defs.Print_l3 at hL3
 refine c_seq (c_seq ?_)
 refine cT (fun E H Φ N' => ∀ (t41 : Bool), F.defs.Print_j4 k i d_ addr_2 buf_2 (F.defs.Print_l3 k d_ j) ok_ t41 = some o3 → Sat E [(0, .agg (vDef d_ A1 L1 C1 A2 L2 C2 A3 L3 C3 A4 L4 C4 A5 L5 C5).toArray), (1, pt b), (2, sV ([] : Tx)), (3, iI 0), (4, pt b1), (5, .func (.func 26) #[] #[pt b1]), (6, bV ok_), (7, iI i), (41, bV t41)] H Φ N') (fun N4 hN4 => ?_) ?_
 refine c_region (oV vM ((fD 2) (oV (vL 1 ty22) (oV (v_lenS (enc := eProd) d_.Prods sl22 rfl (.f 1 rfl)) (oV vB (oV vM ?_))))))
 refine oS 39 hL3 (fun hL3 => ?_) (fun hL3 => ?_)
 refine oN (oV vM (oV vPt (o_nil ?_)))
 exact sK [0, 0, 0] [0, 1, 2, 3, 4, 5] (hN4 ok_ hL3)
 refine oF (oV vPf (o_nil ?_))
 exact sK [0, 0, 0] [0, 1, 2, 3, 4, 5] (hN4 false hL3)
 intro t41 hL3
 unfold F.defs.Print_j4 at hL3
 refine sat_wc ?_
 refine cC hL3 (fun hL3 => ?_) (fun hL3 => ?_)
 refine c_skip (sat_wc (c_seq (c_block (c_region (oV vM ((fD 2) (oV (vL 1 ty22) (oV vM (ite_some hL3 ?_)))))))))
 intro h4 hL3
 refine oV (v_indexAddr_s (xs := d_.Prods) (enc := eProd) sl22 rfl rfl (.f 1 rfl) h4) (o_load_s (xs := d_.Prods) (enc := eProd) ty57 rfl (.f 1 rfl) h4 rfl rfl rfl rfl rfl rfl ?_)
 intro A10 L10 C10
 refine ?_
 obtain ⟨v1, h5, hL3⟩ := bd hL3
 refine o_callSB call29 rfl (lent_f 0 rfl lent_nil) (tri29 h5 :) rfl ?_
 obtain ⟨v2, h6, hL3⟩ := bd hL3
 refine o_call [0, 1] call26 (cap := #[pt b1]) rfl rfl rfl sub_nil (by exact (tri26 h6 :)) rfl ?_
 rintro _ _ _ ⟨A11, L11, C11, rfl, rfl, rfl⟩
 refine oV vA (o_nil (sat_wc (c_region (oV vM (oV vB (oV vA (o_nil ?_)))))))
 exact lp [0, 1, 0] [1, 2, 3, 4, 5, 6] fun a w hs => ⟨v2.1, IntKind.wrap .i64 (i + 1), v2.2.addr, v2.2.buf, A11, L11, C11, hL3, hs⟩
 refine c_exit0 ?_
 cases hL3
 exact sK [0, 0, 0] [0, 1, 2, 3, 4, 5] (hN3 A8 L8 C8)
 intro A9 L9 C9
 refine sat_wc (c_seq (cR (oV vA (o_seq ?_))))
 obtain ⟨o5, ho5, hF⟩ := bd hF
 refine cT (fun E H Φ N' => ∀ (A13 : OA) (L13 C13 : Nat), Sat E [(0, .agg (vDef d_ A1 L1 C1 A2 L2 C2 A3 L3 C3 A4 L4 C4 A5 L5 C5).toArray), (1, pt b), (2, sV ([] : Tx)), (3, iI 0), (4, pt b1), (5, .func (.func 26) #[] #[pt b1]), (6, bV o5.1)] [.box b1 69 [bptr b1 o5.2.1, sl A13 L13 C13], .box b 28 (vDef d_ A1 L1 C1 A2 L2 C2 A3 L3 C3 A4 L4 C4 A5 L5 C5), rW A13 L13 C13 5 1 eU8 o5.2.2] Φ N') (fun N5 hN5 => ?_) ?_
 refine c_block ?_
 refine cL (fun E H Φ j a w => ∃ (ok_1 : Bool) (i1 : Int) (addr_3 : Bool) (buf_3 : List Int) (A12 : OA) (L12 C12 : Nat), F.defs.Print_l5 k d_ j ok_1 i1 addr_3 buf_3 = some o5 ∧ St E [(0, .agg (vDef d_ A1 L1 C1 A2 L2 C2 A3 L3 C3 A4 L4 C4 A5 L5 C5).toArray), (1, pt b), (2, sV ([] : Tx)), (3, iI 0), (4, pt b1), (5, .func (.func 26) #[] #[pt b1]), (6, bV ok_1), (8, iI i1)] [.box b1 69 [bptr b1 addr_3, sl A12 L12 C12], .box b 28 (vDef d_ A1 L1 C1 A2 L2 C2 A3 L3 C3 A4 L4 C4 A5 L5 C5), rW A12 L12 C12 5 1 eU8 buf_3] Φ a w) k ?_ ?_
 exact lq [0, 0, 0] [0, 1, 2, 3, 4, 5] fun a w hs => ⟨o3.1, 0, o3.2.1, o3.2.2, A9, L9, C9, ho5, hs⟩
 rintro j a w ⟨ok_1, i1, addr_3, buf_3, A12, L12, C12, hL5, hs⟩
 rcases j with _ | j
 cases hL5
 refine wc_app hs ?_
 unfold F.defs.Print_l5 at hL5
 refine c_seq (c_seq ?_)
 refine cT (fun E H Φ N' => ∀ (t59 : Bool), F.defs.Print_j6 k i1 d_ addr_3 buf_3 (F.defs.Print_l5 k d_ j) ok_1 t59 = some o5 → Sat E [(0, .agg (vDef d_ A1 L1 C1 A2 L2 C2 A3 L3 C3 A4 L4 C4 A5 L5 C5).toArray), (1, pt b), (2, sV ([] : Tx)), (3, iI 0), (4, pt b1), (5, .func (.func 26) #[] #[pt b1]), (6, bV ok_1), (8, iI i1), (59, bV t59)] H Φ N') (fun N6 hN6 => ?_) ?_
 refine c_region (oV vM ((fD 3) (oV (vL 1 ty23) (oV (v_lenS (enc := (eSl 2 eGroup)) d_.Chains sl23 rfl (.f 2 rfl)) (oV vB (oV vM ?_))))))
 refine oS 57 hL5 (fun hL5 => ?_) (fun hL5 => ?_)
 refine oN (oV vM (oV vPt (o_nil ?_)))
 exact sK [0, 0, 0] [0, 1, 2, 3, 4, 5] (hN6 ok_1 hL5)
 refine oF (oV vPf (o_nil ?_))
 exact sK [0, 0, 0] [0, 1, 2, 3, 4, 5] (hN6 false hL5)
 intro t59 hL5
 unfold F.defs.Print_j6 at hL5
 refine sat_wc ?_
 refine cC hL5 (fun hL5 => ?_) (fun hL5 => ?_)
 refine c_skip (sat_wc (c_seq (c_block (c_region (oV vM ((fD 3) (oV (vL 1 ty23) (oV vM (ite_some hL5 ?_)))))))))
 intro h9 hL5
 refine oV (v_indexAddr_s (xs := d_.Chains) (enc := (eSl 2 eGroup)) sl23 rfl rfl (.f 2 rfl) h9) (o_load_s (xs := d_.Chains) (enc := (eSl 2 eGroup)) ty58 rfl (.f 2 rfl) h9 rfl rfl rfl rfl rfl rfl ?_)
 intro A14 L14 C14
 refine ?_
 obtain ⟨v3, h10, hL5⟩ := bd hL5
 refine o_callSB call30 rfl (lent_f 0 rfl lent_nil) (tri30 h10 :) rfl ?_
 obtain ⟨v4, h11, hL5⟩ := bd hL5
 refine o_call [0, 1] call26 (cap := #[pt b1]) rfl rfl rfl sub_nil (by exact (tri26 h11 :)) rfl ?_
 rintro _ _ _ ⟨A15, L15, C15, rfl, rfl, rfl⟩
 refine oV vA (o_nil (sat_wc (c_region (oV vM (oV vB (oV vA (o_nil ?_)))))))
 exact lp [0, 1, 0] [1, 2, 3, 4, 5, 6] fun a w hs => ⟨v4.1, IntKind.wrap .i64 (i1 + 1), v4.2.addr, v4.2.buf, A15, L15, C15, hL5, hs⟩
 refine c_exit0 ?_
 cases hL5
 exact sK [0, 0, 0] [0, 1, 2, 3, 4, 5] (hN5 A12 L12 C12)
 intro A13 L13 C13
 refine sat_wc (c_seq (cR (oV vA (o_seq ?_))))
 obtain ⟨o7, ho7, hF⟩ := bd hF
 refine cT (fun E H Φ N' => ∀ (A17 : OA) (L17 C17 : Nat), Sat E [(0, .agg (vDef d_ A1 L1 C1 A2 L2 C2 A3 L3 C3 A4 L4 C4 A5 L5 C5).toArray), (1, pt b), (2, sV ([] : Tx)), (3, iI 0), (4, pt b1), (5, .func (.func 26) #[] #[pt b1]), (6, bV o7.1)] [.box b1 69 [bptr b1 o7.2.1, sl A17 L17 C17], .box b 28 (vDef d_ A1 L1 C1 A2 L2 C2 A3 L3 C3 A4 L4 C4 A5 L5 C5), rW A17 L17 C17 5 1 eU8 o7.2.2] Φ N') (fun N7 hN7 => ?_) ?_
 refine c_block ?_
 refine cL (fun E H Φ j a w => ∃ (ok_2 : Bool) (i2 : Int) (addr_4 : Bool) (buf_4 : List Int) (A16 : OA) (L16 C16 : Nat), F.defs.Print_l7 k d_ j ok_2 i2 addr_4 buf_4 = some o7 ∧ St E [(0, .agg (vDef d_ A1 L1 C1 A2 L2 C2 A3 L3 C3 A4 L4 C4 A5 L5 C5).toArray), (1, pt b), (2, sV ([] : Tx)), (3, iI 0), (4, pt b1), (5, .func (.func 26) #[] #[pt b1]), (6, bV ok_2), (9, iI i2)] [.box b1 69 [bptr b1 addr_4, sl A16 L16 C16], .box b 28 (vDef d_ A1 L1 C1 A2 L2 C2 A3 L3 C3 A4 L4 C4 A5 L5 C5), rW A16 L16 C16 5 1 eU8 buf_4] Φ a w) k ?_ ?_
 exact lq [0, 0, 0] [0, 1, 2, 3, 4, 5] fun a w hs => ⟨o5.1, 0, o5.2.1, o5.2.2, A13, L13, C13, ho7, hs⟩
 rintro j a w ⟨ok_2, i2, addr_4, buf_4, A16, L16, C16, hL7, hs⟩
 rcases j with _ | j
 cases hL7
 refine wc_app hs ?_
 unfold F.defs.Print_l7 at hL7
 refine c_seq (c_seq ?_)
 refine cT (fun E H Φ N' => ∀ (t77 : Bool), F.defs.Print_j8 k i2 d_ addr_4 buf_4 (F.defs.Print_l7 k d_ j) ok_2 t77 = some o7 → Sat E [(0, .agg (vDef d_ A1 L1 C1 A2 L2 C2 A3 L3 C3 A4 L4 C4 A5 L5 C5).toArray), (1, pt b), (2, sV ([] : Tx)), (3, iI 0), (4, pt b1), (5, .func (.func 26) #[] #[pt b1]), (6, bV ok_2), (9, iI i2), (77, bV t77)] H Φ N') (fun N8 hN8 => ?_) ?_
 refine c_region (oV vM ((fD 4) (oV (vL 1 ty24) (oV (v_lenS (enc := eFollow) d_.Follows sl24 rfl (.f 3 rfl)) (oV vB (oV vM ?_))))))
 refine oS 75 hL7 (fun hL7 => ?_) (fun hL7 => ?_)
 refine oN (oV vM (oV vPt (o_nil ?_)))
 exact sK [0, 0, 0] [0, 1, 2, 3, 4, 5] (hN8 ok_2 hL7)
 refine oF (oV vPf (o_nil ?_))
 exact sK [0, 0, 0] [0, 1, 2, 3, 4, 5] (hN8 false hL7)
 intro t77 hL7
 unfold F.defs.Print_j8 at hL7
 refine sat_wc ?_
 refine cC hL7 (fun hL7 => ?_) (fun hL7 => ?_)
 refine c_skip (sat_wc (c_seq (c_block (c_draw (n := 20) [1] mixed rfl rfl (dv 0 rfl vM (dv 1 rfl (vF 4) (dv 2 rfl (vL 0 ty24) (dv 3 rfl vM (ite_some hL7 ?_)))))))))
 intro h14 hL7
 refine dv 4 rfl (v_indexAddr_s (xs := d_.Follows) (enc := eFollow) sl24 rfl rfl (.f 3 rfl) h14) (dv 5 rfl (v_fieldAddr (v := .pointer (some ⟨blkA A3, offA A3 + (Int.toNat i2 * 5 + 0), none⟩)) rfl (fun _ => by kernel_rfl)) (dv 6 rfl (v_load_s (xs := d_.Follows) (enc := eFollow) ty9 rfl (.f 3 rfl) h14 rfl rfl rfl rfl rfl rfl rfl) (ite_some hL7 fun h15 hL7 => dv 7 rfl (vS h15) (ite_some hL7 ?_))))
 intro h16 hL7
 refine ?_
 refine dv 8 rfl (vS h16) (dv 9 rfl (vF 4) (dv 10 rfl (vL 0 ty24) (dv 11 rfl vM (dv 12 rfl (v_indexAddr_s (xs := d_.Follows) (enc := eFollow) sl24 rfl rfl (.f 3 rfl) h14) (dv 13 rfl (v_fieldAddr (v := .pointer (some ⟨blkA A3, offA A3 + (Int.toNat i2 * 5 + 1), none⟩)) rfl (fun _ => by kernel_rfl)) (dv 14 rfl (v_load_s (xs := d_.Follows) (enc := eFollow) ty44 rfl (.f 3 rfl) h14 rfl rfl rfl rfl rfl rfl rfl) (dO 15 rfl ?_)))))))
 obtain ⟨v5, h17, hL7⟩ := bd hL7
 refine o_callSB call19 rfl lent_nil (tri19 h17 :) rfl (dN [1] 0 (ite_some hL7 ?_))
 intro h18 hL7
 refine dv 16 rfl (vS h18) (ite_some hL7 ?_)
 intro h19 hL7
 refine dv 17 rfl (vS h19) (dO 18 rfl ?_)
 obtain ⟨v6, h20, hL7⟩ := bd hL7
 refine o_call [0, 1] call26 (cap := #[pt b1]) rfl rfl rfl sub_nil (by exact (tri26 h20 :)) rfl ?_
 rintro _ _ _ ⟨A18, L18, C18, rfl, rfl, rfl⟩
 refine dN [2] 0 (dv 19 rfl vA (dD (sat_wc (c_region (oV vM (oV vB (oV vA (o_nil ?_))))))))
 exact lp [0, 1, 0] [0, 1, 2, 3, 4, 5] fun a w hs => ⟨v6.1, IntKind.wrap .i64 (i2 + 1), v6.2.addr, v6.2.buf, A18, L18, C18, hL7, hs⟩
 refine c_exit0 ?_
 cases hL7
 exact sK [0, 0, 0] [0, 1, 2, 3, 4, 5] (hN7 A16 L16 C16)
 intro A17 L17 C17
 refine sat_wc (c_seq (cR (oV vA (o_seq ?_))))
 obtain ⟨o9, ho9, hF⟩ := bd hF
 refine cT (fun E H Φ N' => ∀ (A20 : OA) (L20 C20 : Nat), Sat E [(0, .agg (vDef d_ A1 L1 C1 A2 L2 C2 A3 L3 C3 A4 L4 C4 A5 L5 C5).toArray), (1, pt b), (2, sV ([] : Tx)), (3, iI 0), (4, pt b1), (5, .func (.func 26) #[] #[pt b1]), (6, bV o9.1)] [.box b1 69 [bptr b1 o9.2.1, sl A20 L20 C20], .box b 28 (vDef d_ A1 L1 C1 A2 L2 C2 A3 L3 C3 A4 L4 C4 A5 L5 C5), rW A20 L20 C20 5 1 eU8 o9.2.2] Φ N') (fun N9 hN9 => ?_) ?_
 refine c_block ?_
 refine cL (fun E H Φ j a w => ∃ (ok_3 : Bool) (i3 : Int) (addr_5 : Bool) (buf_5 : List Int) (A19 : OA) (L19 C19 : Nat), F.defs.Print_l9 d_ j ok_3 i3 addr_5 buf_5 = some o9 ∧ St E [(0, .agg (vDef d_ A1 L1 C1 A2 L2 C2 A3 L3 C3 A4 L4 C4 A5 L5 C5).toArray), (1, pt b), (2, sV ([] : Tx)), (3, iI 0), (4, pt b1), (5, .func (.func 26) #[] #[pt b1]), (6, bV ok_3), (10, iI i3)] [.box b1 69 [bptr b1 addr_5, sl A19 L19 C19], .box b 28 (vDef d_ A1 L1 C1 A2 L2 C2 A3 L3 C3 A4 L4 C4 A5 L5 C5), rW A19 L19 C19 5 1 eU8 buf_5] Φ a w) k ?_ ?_
 exact lq [0, 0, 0] [0, 1, 2, 3, 4, 5] fun a w hs => ⟨o7.1, 0, o7.2.1, o7.2.2, A17, L17, C17, ho9, hs⟩
 rintro j a w ⟨ok_3, i3, addr_5, buf_5, A19, L19, C19, hL9, hs⟩
 rcases j with _ | j
 cases hL9
 refine wc_app hs ?_
 unfold F.defs.Print_l9 at hL9
 refine c_seq (c_seq ?_)
 refine cT (fun E H Φ N' => ∀ (t106 : Bool), F.defs.Print_j10 i3 d_ addr_5 buf_5 (F.defs.Print_l9 d_ j) ok_3 t106 = some o9 → Sat E [(0, .agg (vDef d_ A1 L1 C1 A2 L2 C2 A3 L3 C3 A4 L4 C4 A5 L5 C5).toArray), (1, pt b), (2, sV ([] : Tx)), (3, iI 0), (4, pt b1), (5, .func (.func 26) #[] #[pt b1]), (6, bV ok_3), (10, iI i3), (106, bV t106)] H Φ N') (fun N10 hN10 => ?_) ?_
 refine c_region (oV vM ((fD 5) (oV (vL 1 ty25) (oV (v_lenS (enc := eReject) d_.Rejects sl25 rfl (.f 4 rfl)) (oV vB (oV vM ?_))))))
 refine oS 104 hL9 (fun hL9 => ?_) (fun hL9 => ?_)
 refine oN (oV vM (oV vPt (o_nil ?_)))
 exact sK [0, 0, 0] [0, 1, 2, 3, 4, 5] (hN10 ok_3 hL9)
 refine oF (oV vPf (o_nil ?_))
 exact sK [0, 0, 0] [0, 1, 2, 3, 4, 5] (hN10 false hL9)
 intro t106 hL9
 unfold F.defs.Print_j10 at hL9
 refine sat_wc ?_
 refine cC hL9 (fun hL9 => ?_) (fun hL9 => ?_)
 refine c_skip (sat_wc (c_seq (c_block (c_draw (n := 19) [1] mixed rfl rfl (dv 0 rfl vM (dv 1 rfl (vF 5) (dv 2 rfl (vL 0 ty25) (dv 3 rfl vM (ite_some hL9 ?_)))))))))
 intro h23 hL9
 refine dv 4 rfl (v_indexAddr_s (xs := d_.Rejects) (enc := eReject) sl25 rfl rfl (.f 4 rfl) h23) (dv 5 rfl (v_fieldAddr (v := .pointer (some ⟨blkA A4, offA A4 + (Int.toNat i3 * 2 + 0), none⟩)) rfl (fun _ => by kernel_rfl)) (dv 6 rfl (v_load_s (xs := d_.Rejects) (enc := eReject) ty9 rfl (.f 4 rfl) h23 rfl rfl rfl rfl rfl rfl rfl) (ite_some hL9 fun h24 hL9 => dv 7 rfl (vS h24) (ite_some hL9 ?_))))
 intro h25 hL9
 refine ?_
 refine dv 8 rfl (vS h25) (dv 9 rfl (vF 5) (dv 10 rfl (vL 0 ty25) (dv 11 rfl vM (dv 12 rfl (v_indexAddr_s (xs := d_.Rejects) (enc := eReject) sl25 rfl rfl (.f 4 rfl) h23) (dv 13 rfl (v_fieldAddr (v := .pointer (some ⟨blkA A4, offA A4 + (Int.toNat i3 * 2 + 1), none⟩)) rfl (fun _ => by kernel_rfl)) (dv 14 rfl (v_load_s (xs := d_.Rejects) (enc := eReject) ty9 rfl (.f 4 rfl) h23 rfl rfl rfl rfl rfl rfl rfl) (ite_some hL9 ?_)))))))
 intro h26 hL9
 refine dv 15 rfl (vS h26) (ite_some hL9 ?_)
 intro h27 hL9
 refine dv 16 rfl (vS h27) (dO 17 rfl ?_)
 obtain ⟨v7, h28, hL9⟩ := bd hL9
 refine o_call [0, 1] call26 (cap := #[pt b1]) rfl rfl rfl sub_nil (by exact (tri26 h28 :)) rfl ?_
 rintro _ _ _ ⟨A21, L21, C21, rfl, rfl, rfl⟩
 refine dN [2] 0 (dv 18 rfl vA (dD (sat_wc (c_region (oV vM (oV vB (oV vA (o_nil ?_))))))))
 exact lp [0, 1, 0] [0, 1, 2, 3, 4, 5] fun a w hs => ⟨v7.1, IntKind.wrap .i64 (i3 + 1), v7.2.addr, v7.2.buf, A21, L21, C21, hL9, hs⟩
 refine c_exit0 ?_
 cases hL9
 exact sK [0, 0, 0] [0, 1, 2, 3, 4, 5] (hN9 A19 L19 C19)
 intro A20 L20 C20
 refine sat_wc (c_seq (cR (oV vA (o_seq ?_))))
 obtain ⟨o11, ho11, hF⟩ := bd hF
 refine cT (fun E H Φ N' => ∀ (A23 : OA) (L23 C23 : Nat), Sat E [(0, .agg (vDef d_ A1 L1 C1 A2 L2 C2 A3 L3 C3 A4 L4 C4 A5 L5 C5).toArray), (1, pt b), (2, sV ([] : Tx)), (3, iI 0), (4, pt b1), (5, .func (.func 26) #[] #[pt b1]), (6, bV o11.1)] [.box b1 69 [bptr b1 o11.2.1, sl A23 L23 C23], .box b 28 (vDef d_ A1 L1 C1 A2 L2 C2 A3 L3 C3 A4 L4 C4 A5 L5 C5), rW A23 L23 C23 5 1 eU8 o11.2.2] Φ N') (fun N11 hN11 => ?_) ?_
 refine c_block ?_
 refine cL (fun E H Φ j a w => ∃ (ok_4 : Bool) (i4 : Int) (addr_6 : Bool) (buf_6 : List Int) (A22 : OA) (L22 C22 : Nat), F.defs.Print_l11 k d_ j ok_4 i4 addr_6 buf_6 = some o11 ∧ St E [(0, .agg (vDef d_ A1 L1 C1 A2 L2 C2 A3 L3 C3 A4 L4 C4 A5 L5 C5).toArray), (1, pt b), (2, sV ([] : Tx)), (3, iI 0), (4, pt b1), (5, .func (.func 26) #[] #[pt b1]), (6, bV ok_4), (11, iI i4)] [.box b1 69 [bptr b1 addr_6, sl A22 L22 C22], .box b 28 (vDef d_ A1 L1 C1 A2 L2 C2 A3 L3 C3 A4 L4 C4 A5 L5 C5), rW A22 L22 C22 5 1 eU8 buf_6] Φ a w) k ?_ ?_
 exact lq [0, 0, 0] [0, 1, 2, 3, 4, 5] fun a w hs => ⟨o9.1, 0, o9.2.1, o9.2.2, A20, L20, C20, ho11, hs⟩
 rintro j a w ⟨ok_4, i4, addr_6, buf_6, A22, L22, C22, hL11, hs⟩
 rcases j with _ | j
 cases hL11
 refine wc_app hs ?_
 unfold F.defs.Print_l11 at hL11
 refine c_seq (c_seq ?_)
 refine cT (fun E H Φ N' => ∀ (t134 : Bool), F.defs.Print_j12 k i4 d_ addr_6 buf_6 (F.defs.Print_l11 k d_ j) ok_4 t134 = some o11 → Sat E [(0, .agg (vDef d_ A1 L1 C1 A2 L2 C2 A3 L3 C3 A4 L4 C4 A5 L5 C5).toArray), (1, pt b), (2, sV ([] : Tx)), (3, iI 0), (4, pt b1), (5, .func (.func 26) #[] #[pt b1]), (6, bV ok_4), (11, iI i4), (134, bV t134)] H Φ N') (fun N12 hN12 => ?_) ?_
 refine c_region (oV vM ((fD 6) (oV (vL 1 ty26) (oV (v_lenS (enc := eBox) d_.Boxes sl26 rfl (.f 5 rfl)) (oV vB (oV vM ?_))))))
 refine oS 132 hL11 (fun hL11 => ?_) (fun hL11 => ?_)
 refine oN (oV vM (oV vPt (o_nil ?_)))
 exact sK [0, 0, 0] [0, 1, 2, 3, 4, 5] (hN12 ok_4 hL11)
 refine oF (oV vPf (o_nil ?_))
 exact sK [0, 0, 0] [0, 1, 2, 3, 4, 5] (hN12 false hL11)
 intro t134 hL11
 unfold F.defs.Print_j12 at hL11
 refine sat_wc ?_
 refine cC hL11 (fun hL11 => ?_) (fun hL11 => ?_)
 refine c_skip (sat_wc (c_seq (c_block (ite_some hL11 fun h31 hL11 => c_elem (xs := d_.Boxes) (enc := eBox) 5 rfl h31 rfl rfl fun A24 L24 C24 => c_draw (n := 20) [1] mixed rfl rfl (dv 0 rfl vM (dv 1 rfl (vF 6) (dv 2 rfl (vL 0 ty26) (dv 3 rfl vM (dv 4 rfl (v_indexAddr_s (xs := d_.Boxes) (enc := eBox) sl26 rfl rfl (.f 7 rfl) h31) (dv 5 rfl (v_fieldAddr (v := .pointer (some ⟨blkA A5, offA A5 + (Int.toNat i4 * 2 + 0), none⟩)) rfl (fun _ => by kernel_rfl)) (dv 6 rfl (v_load_s (xs := d_.Boxes) (enc := eBox) ty9 rfl (.f 7 rfl) h31 rfl rfl rfl rfl rfl rfl rfl) (ite_some hL11 ?_))))))))))))
 intro h32 hL11
 refine dv 7 rfl (vS h32) ?_
 refine ite_some hL11 fun h33 hL11 => dv 8 rfl (vS h33) (dv 9 rfl (vF 6) (dv 10 rfl (vL 0 ty26) (dv 11 rfl vM (dv 12 rfl (v_indexAddr_s (xs := d_.Boxes) (enc := eBox) sl26 rfl rfl (.f 7 rfl) h31) (dv 13 rfl (v_fieldAddr (v := .pointer (some ⟨blkA A5, offA A5 + (Int.toNat i4 * 2 + 1), none⟩)) rfl (fun _ => by kernel_rfl)) (dv 14 rfl (v_load_cl 0 ty62 rfl rfl rfl rfl rfl) (dO 15 rfl ?_)))))))
 obtain ⟨v8, h34, hL11⟩ := bd hL11
 refine o_callSB call31 rfl (lent_f 2 rfl (lent_f 1 rfl lent_nil)) ((tri31 _) h34 :) rfl (dN [1] 0 (ite_some hL11 ?_))
 intro h35 hL11
 refine dv 16 rfl (vS h35) (ite_some hL11 ?_)
 intro h36 hL11
 refine dv 17 rfl (vS h36) (dO 18 rfl ?_)
 obtain ⟨v9, h37, hL11⟩ := bd hL11
 refine o_call [0, 1] call26 (cap := #[pt b1]) rfl rfl rfl sub_nil (by exact (tri26 h37 :)) rfl ?_
 rintro _ _ _ ⟨A25, L25, C25, rfl, rfl, rfl⟩
 refine dN [2] 0 (dv 19 rfl vA (dD (sat_wc (c_region (oV vM (oV vB (oV vA (o_nil ?_))))))))
 exact lp [0, 1, 0] [2, 3, 4, 5, 6, 7] fun a w hs => ⟨v9.1, IntKind.wrap .i64 (i4 + 1), v9.2.addr, v9.2.buf, A25, L25, C25, hL11, hs⟩
 refine c_exit0 ?_
 cases hL11
 exact sK [0, 0, 0] [0, 1, 2, 3, 4, 5] (hN11 A22 L22 C22)
 intro A23 L23 C23
 refine sat_wc (c_seq (cR (oV vM (oV vN (o_seq ?_)))))
 refine cC hF (fun hF => ?_) (fun hF => ?_)
 refine cR (oV vA (oV vA (o_seq (c_ret ?_))))
 cases hF
 refine s_ret2 rfl (r_tmp rfl) (r_tmp rfl) fun a w hs => fin_sel hs [] ⟨rfl, rfl, rfl⟩ rfl sub_nil
 refine c_skip (sat_wc (cR ?_))
 obtain ⟨v10, h40, hF⟩ := bd hF
 refine ocl [0, 1] call32 rfl rfl sub_nil (tri32 (Strings_Builder.mk o11.2.1 o11.2.2) b1 A23 L23 C23 v10 h40) ?_
 rintro _ _ _ ⟨rfl, rfl, rfl⟩
 refine oV vA (oV vA (o_seq (c_ret ?_)))
 cases hF
 refine s_ret2 rfl (r_tmp rfl) (r_tmp rfl) fun a w hs => fin_sel hs [] ⟨rfl, rfl, rfl⟩ rfl sub_nil
theorem tri11 {k : Nat} {r : Bool} (hF : F.law03.alive k = some r) :
    Tri Tryz.prog 11 [] [] [gf10 1] (oR (bV r)) := by
 unfold F.law03.alive at hF
 refine tri_intro (n := 42) Tryz.func11 rfl Tryz.ntmps11 rfl fun w X => cR (oV vA (o_seq (cR ?_)))
 obtain ⟨v, h1, hF⟩ := bd hF
 refine o_call0 call16 rfl sub_nil (tri16 h1 :) rfl ?_
 rintro _ _ _ ⟨A1, L1, C1, A2, L2, C2, A3, L3, C3, A4, L4, C4, A5, L5, C5, rfl, rfl, rfl⟩
 refine oV vM (oV vX (oV vX (o_alloc zero28 rfl rfl ?_)))
 intro b
 refine o_alloc zero37 rfl rfl fun b1 => (sT 1 ty28) ((sT 0 ty37) (o_seq (cR (oV (vL 1 ty28) ?_))))
 obtain ⟨v1, h2, hF⟩ := bd hF
 refine o_callSB call13 rfl (lent_f 5 rfl (lent_f 0 rfl (lent_f 1 rfl (lent_f 2 rfl (lent_f 3 rfl (lent_f 4 rfl lent_nil)))))) (tri13 h2 :) rfl (oV vM (oV vX (oV vX (oV vA (oV vA (o_seq (cR ?_)))))))
 obtain ⟨v2, h3, hF⟩ := bd hF
 refine o_call0 call16 rfl sub_nil (tri16 h3 :) rfl ?_
 rintro _ _ _ ⟨A6, L6, C6, A7, L7, C7, A8, L8, C8, A9, L9, C9, A10, L10, C10, rfl, rfl, rfl⟩
 refine oV vM (oV vX (oV vX (o_alloc zero28 rfl rfl ?_)))
 intro b2
 refine o_alloc zero37 rfl rfl fun b3 => (sT 1 ty28) ((sT 0 ty37) (o_seq (c_seq ?_)))
 refine c_cut (fun E N' => ∀ (t0 : Bool), F.law03.alive_j1 t0 = some r → Sat E [(0, bV t0), (1, pt b), (2, pt b1), (6, pt b3)] [.box b3 37 [iI v2.2.At, iI v2.2.Code], .box b1 37 [iI v.2.At, iI v.2.Code], .box b 28 (vDef v.1 A1 L1 C1 A2 L2 C2 A3 L3 C3 A4 L4 C4 A5 L5 C5)] [gf10 1, fS A1 L1 C1 5 eProd v.1.Prods, fS A2 L2 C2 1 (eSl 2 eGroup) v.1.Chains, fS A3 L3 C3 5 eFollow v.1.Follows, fS A4 L4 C4 2 eReject v.1.Rejects, fS A5 L5 C5 2 eBox v.1.Boxes] N') (fun N1 hN1 => ?_) ?_
 refine c_region (oV (vL 2 ty37) (oV (vU (.agg #[iI 0, iI 0])) (oV (v_ageq 2 rfl rfl (eq37 v.2.At v.2.Code 0 0) rfl guard37) (oV vM ?_))))
 refine oS 23 hF (fun hF => ?_) (fun hF => ?_)
 refine oN ((fD 2) (oN (oV (vL 3 ty22) (oN (oV (v_lenS (enc := eProd) v.1.Prods sl22 rfl (.f 5 rfl)) (oN (oV vB (oV vPt (oV vM ?_)))))))))
 refine oS 29 hF (fun hF => ?_) (fun hF => ?_)
 refine oN (oV vM (oN (oV vB (oV vPt (oV vM ?_)))))
 refine oS 33 hF (fun hF => ?_) (fun hF => ?_)
 refine oN (oV vM (oN (oV (v_streq rfl rfl) (oV vPt (oV vM ?_)))))
 refine oS 37 hF (fun hF => ?_) (fun hF => ?_)
 refine oN (oV (vL 0 ty37) (oN (oV (vU (.agg #[iI 8, iI 30])) (oN (oV (v_ageq 2 rfl rfl (eq37 v2.2.At v2.2.Code 8 30) rfl guard37) (oV vPt (oV vA (o_nil ?_))))))))
 exact sK [0, 1, 1] [10, 5, 6, 7, 8, 9] (hN1 ((v2.2.At == 8) && ((v2.2.Code == 30) && true)) hF)
 refine oF (oF (oF (oV vPf (oV vA (o_nil ?_)))))
 exact sK [0, 1, 1] [10, 5, 6, 7, 8, 9] (hN1 false hF)
 refine oF (oF (oV vPf (oV vM (oF (oF (oF (oV vPf (oV vA (o_nil ?_)))))))))
 exact sK [0, 1, 1] [10, 5, 6, 7, 8, 9] (hN1 false hF)
 refine oF (oF (oV vPf (oV vM (oF (oF (oV vPf (oV vM (oF (oF (oF (oV vPf (oV vA (o_nil ?_)))))))))))))
 exact sK [0, 1, 1] [10, 5, 6, 7, 8, 9] (hN1 false hF)
 refine oF (oF (oF (oF (oV vPf (oV vM (oF (oF (oV vPf (oV vM (oF (oF (oV vPf (oV vM (oF (oF ?_)))))))))))))))
 refine oF (oV vPf (oV vA (o_nil ?_)))
 exact sK [0, 1, 1] [10, 5, 6, 7, 8, 9] (hN1 false hF)
 intro t0 hF
 unfold F.law03.alive_j1 at hF
 refine sat_wc (c_ret ?_)
 cases hF
 exact sR
theorem tri21 {k : Nat} {l__ : List Word} {r : Tx} (hF : F.words.Join k l__ = some r) :
    Tri Tryz.prog 21 [sl A1 L1 C1] [] [fS A1 L1 C1 11 eWord l__] (oR (sV r)) := by
 unfold F.words.Join at hF
 refine tri_intro (n := 23) Tryz.func21 rfl Tryz.ntmps21 rfl fun w X => cR (oV vA (o_seq (cR (o_alloc zero69 rfl rfl ?_))))
 intro b
 refine o_seq (c_seq (cR (oV vM (oV (v_lenS (enc := eWord) l__ sl50 rfl (.f 0 rfl)) (oV vM (o_seq ?_))))))
 obtain ⟨o1, ho1, hF⟩ := bd hF
 refine cT (fun E H Φ N' => ∀ (A3 : OA) (L3 C3 : Nat), Sat E [(0, sl A1 L1 C1), (2, sV ([] : Tx)), (3, pt b), (6, sl A1 L1 C1)] [.box b 69 [bptr b o1.1, sl A3 L3 C3], rW A3 L3 C3 5 1 eU8 o1.2] Φ N') (fun N1 hN1 => ?_) ?_
 refine c_block ?_
 refine cL (fun E H Φ j a w => ∃ (t8 : Int) (addr_ : Bool) (buf_ : List Int) (A2 : OA) (L2 C2 : Nat), F.words.Join_l1 l__ j t8 addr_ buf_ = some o1 ∧ St E [(0, sl A1 L1 C1), (2, sV ([] : Tx)), (3, pt b), (6, sl A1 L1 C1), (7, iI (l__.length : Int)), (8, iI t8)] [.box b 69 [bptr b addr_, sl A2 L2 C2], rW A2 L2 C2 5 1 eU8 buf_] Φ a w) k ?_ ?_
 refine s_st (st_nilrow 5 1) ?_
 exact lq [1, 0] [0] fun a w hs => ⟨0, false, ([] : List Int), none, 0, 0, ho1, hs⟩
 rintro j a w ⟨t8, addr_, buf_, A2, L2, C2, hL1, hs⟩
 rcases j with _ | j
 cases hL1
 refine wc_app hs ?_
 unfold F.words.Join_l1 at hL1
 refine cR (oV vB (o_seq (c_seq ?_)))
 refine cC hL1 (fun hL1 => ?_) (fun hL1 => ?_)
 refine c_skip (sat_wc (c_seq ?_))
 refine c_cut (fun E N' => ∀ (addr_1 : Bool) (buf_1 : List Int) (A4 : OA) (L4 C4 : Nat) (A5 : OA) (L5 C5 : Nat) (b1 : Nat), F.words.Join_j2 (F.words.Join_l1 l__ j) t8 addr_1 buf_1 = some o1 → Sat E [(0, sl A1 L1 C1), (2, sV ([] : Tx)), (3, pt b), (5, pt b1), (6, sl A1 L1 C1), (7, iI (l__.length : Int)), (8, iI t8)] [.box b 69 [bptr b addr_1, sl A5 L5 C5], .box b1 106 (vWord (at_ l__ t8) A4 L4 C4), rW A5 L5 C5 5 1 eU8 buf_1] [fS A1 L1 C1 11 eWord l__, fS A4 L4 C4 1 eU8 ((at_ l__ t8).Bytes)] N') (fun N2 hN2 => ?_) ?_
 refine c_block (cR (ite_some hL1 fun h2 hL1 => oV (v_indexAddr_s (xs := l__) (enc := eWord) sl50 rfl rfl (.f 0 rfl) h2) (o_load_s (xs := l__) (enc := eWord) ty106 rfl (.f 0 rfl) h2 rfl rfl rfl rfl rfl rfl ?_)))
 intro A6 L6 C6
 refine o_alloc zero106 rfl rfl fun b2 => (sT 0 ty106) (o_seq (c_seq (cR ((fD 0) (oV (vL 0 ty3) (oV vB (o_seq ?_)))))))
 refine cC hL1 (fun hL1 => ?_) (fun hL1 => ?_)
 refine c_exit0 ?_
 exact sK [1, 0, 0] [1, 0] (hN2 addr_ buf_ A6 L6 C6 A2 L2 C2 b2 hL1)
 refine c_skip (sat_wc (c_seq (cR ?_)))
 obtain ⟨v, h4, hL1⟩ := bd hL1
 refine ocl [1, 1] call28 rfl rfl sub_nil (tri28 h4 :) ?_
 rintro _ _ _ ⟨rfl, rfl, rfl⟩
 refine oV vB (o_seq ?_)
 refine c_cut (fun E N' => ∀ (addr_2 : Bool) (buf_2 : List Int) (A7 : OA) (L7 C7 : Nat), F.words.Join_j3 l__ t8 (F.words.Join_l1 l__ j) addr_2 buf_2 = some o1 → Sat E [(0, sl A1 L1 C1), (2, sV ([] : Tx)), (3, pt b), (5, pt b2), (6, sl A1 L1 C1), (7, iI (l__.length : Int)), (8, iI t8)] [.box b 69 [bptr b addr_2, sl A7 L7 C7], .box b2 106 (vWord (at_ l__ t8) A6 L6 C6), rW A7 L7 C7 5 1 eU8 buf_2] [fS A1 L1 C1 11 eWord l__, fS A6 L6 C6 1 eU8 ((at_ l__ t8).Bytes)] N') (fun N3 hN3 => ?_) ?_
 refine cC hL1 (fun hL1 => ?_) (fun hL1 => ?_)
 refine c_region ?_
 obtain ⟨v2, h7, hL1⟩ := bd hL1
 refine ocl [0, 0] call50 rfl rfl sub_nil (tri50 h7 :) ?_
 rintro _ _ _ ⟨A9, L9, C9, rfl, rfl, rfl⟩
 refine o_nil ?_
 exact sK [0, 1, 0] [1, 0] (hN3 v2.addr v2.buf A9 L9 C9 hL1)
 refine c_skip ?_
 exact sK [0, 1, 0] [1, 0] (hN3 addr_ buf_ A2 L2 C2 hL1)
 intro addr_2 buf_2 A7 L7 C7 hL1
 unfold F.words.Join_j3 at hL1
 refine sat_wc (c_region ((fD 1) (oV (vL 1 ty9) ?_)))
 obtain ⟨v1, h5, hL1⟩ := bd hL1
 refine ocl [0, 1] call27 rfl rfl sub_nil (tri27 h5 :) ?_
 rintro _ _ _ ⟨A8, L8, C8, rfl, rfl, rfl⟩
 refine o_nil ?_
 exact sK [0, 1, 0] [0, 1] (hN2 v1.2.addr v1.2.buf A6 L6 C6 A8 L8 C8 b2 hL1)
 intro addr_1 buf_1 A4 L4 C4 A5 L5 C5 b1 hL1
 unfold F.words.Join_j2 at hL1
 refine sat_wc (c_region (oV vB (oV vM (o_nil ?_))))
 exact lp [0, 1] [0] fun a w hs => ⟨IntKind.wrap .i64 (t8 + 1), addr_1, buf_1, A5, L5, C5, hL1, hs⟩
 refine c_exit0 ?_
 cases hL1
 exact sK [0, 0] [0] (hN1 A2 L2 C2)
 intro A3 L3 C3
 refine sat_wc (cR ?_)
 obtain ⟨v3, h8, hF⟩ := bd hF
 refine ocl [0, 0] call32 rfl rfl sub_nil (tri32 (Strings_Builder.mk o1.1 o1.2) b A3 L3 C3 v3 h8) ?_
 rintro _ _ _ ⟨rfl, rfl, rfl⟩
 refine oV vA (o_seq (c_ret ?_))
 cases hF
 exact sR
theorem tri34_B (k : Nat) (g34 : List Item → List Item → Option Bool)
    (hg34 : ∀ {a_ : List Item} {b : List Item} {A1 : OA} {L1 C1 : Nat} {A2 : OA} {L2 C2 : Nat} {r : Bool}, g34 a_ b = some r → Tri Tryz.prog 34 [sl A1 L1 C1, sl A2 L2 C2] [] [fS A1 L1 C1 4 eItem a_, fS A2 L2 C2 4 eItem b] (oR (bV r))) {a_ : List Item} {b : List Item} {A1 : OA} {L1 C1 : Nat} {A2 : OA} {L2 C2 : Nat} {r : Bool} (hF : F.ref03.SameItems_B k g34 a_ b = some r) :
    Tri Tryz.prog 34 [sl A1 L1 C1, sl A2 L2 C2] [] [fS A1 L1 C1 4 eItem a_, fS A2 L2 C2 4 eItem b] (oR (bV r)) := by
 unfold F.ref03.SameItems_B at hF
 refine tri_intro (n := 68) Tryz.func34 rfl Tryz.ntmps34 rfl fun w X => cR (oV vA (o_seq (c_seq (cR (oV vM (oV (v_lenS (enc := eItem) a_ sl62 rfl (.f 0 rfl)) (oV vM (oV (v_lenS (enc := eItem) b sl62 rfl (.f 1 rfl)) (oV vB (o_seq ?_))))))))))
 refine cC hF (fun hF => ?_) (fun hF => ?_)
 refine cR (oV vA (o_seq (c_ret ?_)))
 cases hF
 exact sR
 refine c_skip (sat_wc (c_seq (cR (oV vA (o_seq ?_)))))
 obtain ⟨o1, ho1, hF⟩ := bd hF
 refine cT (fun E H Φ N' => ∀ (d1 : Unit), o1 = .done d1 → Sat E [(0, sl A1 L1 C1), (1, sl A2 L2 C2), (4, bV false)] [] Φ N') (fun N1 hN1 => ?_) ?_
 refine c_block ?_
 refine cL (fun E H Φ j a w => ∃ (i : Int), F.ref03.SameItems_l1 a_ b g34 j i = some o1 ∧ St E [(0, sl A1 L1 C1), (1, sl A2 L2 C2), (4, bV false), (5, iI i)] [] Φ a w) k ?_ ?_
 exact lq [] [0, 1] fun a w hs => ⟨0, ho1, hs⟩
 rintro j a w ⟨i, hL1, hs⟩
 rcases j with _ | j
 cases hL1
 refine wc_app hs ?_
 unfold F.ref03.SameItems_l1 at hL1
 refine c_seq (cR (oV vM (oV vM (oV (v_lenS (enc := eItem) a_ sl62 rfl (.f 0 rfl)) (oV vB (o_seq ?_))))))
 refine cC hL1 (fun hL1 => ?_) (fun hL1 => ?_)
 refine c_skip (sat_wc (c_seq (c_block (c_seq ?_))))
 refine cT (fun E H Φ N' => ∀ (t67 : Bool), F.ref03.SameItems_j2 (F.ref03.SameItems_l1 a_ b g34 j) i t67 = some o1 → Sat E [(0, sl A1 L1 C1), (1, sl A2 L2 C2), (4, bV false), (5, iI i), (67, bV t67)] [] Φ N') (fun N2 hN2 => ?_) ?_
 refine c_draw (n := 51) [] mixed rfl rfl (dv 0 rfl vM (dv 1 rfl vM (ite_some hL1 ?_)))
 intro h4 hL1
 refine dv 2 rfl (v_indexAddr_s (xs := a_) (enc := eItem) sl62 rfl rfl (.f 0 rfl) h4) (dv 3 rfl (v_fieldAddr (v := .pointer (some ⟨blkA A1, offA A1 + (Int.toNat i * 4 + 0), none⟩)) rfl (fun _ => by kernel_rfl)) (dv 4 rfl (v_load_s (ds := [.int .i64 ((at_ a_ i).Kind)]) (xs := a_) (enc := eItem) ty3 rfl (.f 0 rfl) h4 (by simp only [eItem_eq] <;> rfl) rfl rfl rfl rfl rfl rfl) (dv 5 rfl vM (dv 6 rfl vM (ite_some hL1 ?_)))))
 intro h5 hL1
 refine dv 7 rfl (v_indexAddr_s (xs := b) (enc := eItem) sl62 rfl rfl (.f 1 rfl) h5) (dv 8 rfl (v_fieldAddr (v := .pointer (some ⟨blkA A2, offA A2 + (Int.toNat i * 4 + 0), none⟩)) rfl (fun _ => by kernel_rfl)) (dv 9 rfl (v_load_s (ds := [.int .i64 ((at_ b i).Kind)]) (xs := b) (enc := eItem) ty3 rfl (.f 1 rfl) h5 (by simp only [eItem_eq] <;> rfl) rfl rfl rfl rfl rfl rfl) (dv 10 rfl vB (dv 11 rfl vM ?_))))
 refine d_split (t := 28) rfl (fun h6 => ?_) (fun h6 => ?_)
 replace hL1 := ite_t h6 hL1
 refine dF 12 rfl (dF 13 rfl (dF 14 rfl (dF 15 rfl (dF 16 rfl (dF 17 rfl (dF 18 rfl (dF 19 rfl (dF 20 rfl (dF 21 rfl (dF 22 rfl (dv 23 rfl vPt (dv 24 rfl vM (dF 25 rfl (dF 26 rfl (dF 27 rfl ?_)))))))))))))))
 refine dF 28 rfl (dF 29 rfl (dF 30 rfl (dF 31 rfl (dF 32 rfl (dF 33 rfl (dF 34 rfl (dF 35 rfl (dv 36 rfl vPt (dv 37 rfl vM (dF 38 rfl (dF 39 rfl (dF 40 rfl (dF 41 rfl (dF 42 rfl (dF 43 rfl ?_)))))))))))))))
 refine dF 44 rfl (dF 45 rfl (dF 46 rfl (dF 47 rfl (dF 48 rfl (dF 49 rfl (dv 50 rfl vPt (dD ?_)))))))
 exact sK [] [0, 1] (hN2 true hL1)
 replace hL1 := ite_f h6 hL1
 refine dw 12 rfl rfl rfl vM (dw 13 rfl rfl rfl vM (dw 14 rfl rfl rfl (v_indexAddr_s (xs := a_) (enc := eItem) sl62 rfl rfl (.f 0 rfl) h4) (dw 15 rfl rfl rfl (v_fieldAddr (v := .pointer (some ⟨blkA A1, offA A1 + (Int.toNat i * 4 + 1), none⟩)) rfl (fun _ => by kernel_rfl)) (dw 16 rfl rfl rfl (v_load_s (ds := [.str ((at_ a_ i).Text)]) (xs := a_) (enc := eItem) ty9 rfl (.f 0 rfl) h4 (by simp only [eItem_eq] <;> rfl) rfl rfl rfl rfl rfl rfl) (dw 17 rfl rfl rfl vM (dw 18 rfl rfl rfl vM (dw 19 rfl rfl rfl (v_indexAddr_s (xs := b) (enc := eItem) sl62 rfl rfl (.f 1 rfl) h5) (dw 20 rfl rfl rfl (v_fieldAddr (v := .pointer (some ⟨blkA A2, offA A2 + (Int.toNat i * 4 + 1), none⟩)) rfl (fun _ => by kernel_rfl)) (dw 21 rfl rfl rfl (v_load_s (ds := [.str ((at_ b i).Text)]) (xs := b) (enc := eItem) ty9 rfl (.f 1 rfl) h5 (by simp only [eItem_eq] <;> rfl) rfl rfl rfl rfl rfl rfl) (dw 22 rfl rfl rfl (v_strne rfl rfl) (dv 23 rfl vPf (dv 24 rfl vM ?_))))))))))))
 refine d_split (t := 41) rfl (fun h7 => ?_) (fun h7 => ?_)
 replace hL1 := ite_t h7 hL1
 refine dF 25 rfl (dF 26 rfl (dF 27 rfl (dF 28 rfl (dF 29 rfl (dF 30 rfl (dF 31 rfl (dF 32 rfl (dF 33 rfl (dF 34 rfl (dF 35 rfl (dv 36 rfl vPt (dv 37 rfl vM (dF 38 rfl (dF 39 rfl (dF 40 rfl ?_)))))))))))))))
 refine dF 41 rfl (dF 42 rfl (dF 43 rfl (dF 44 rfl (dF 45 rfl (dF 46 rfl (dF 47 rfl (dF 48 rfl (dF 49 rfl (dv 50 rfl vPt (dD ?_))))))))))
 exact sK [] [0, 1] (hN2 true hL1)
 replace hL1 := ite_f h7 hL1
 refine dw 25 rfl rfl rfl vM (dw 26 rfl rfl rfl vM (dw 27 rfl rfl rfl (v_indexAddr_s (xs := a_) (enc := eItem) sl62 rfl rfl (.f 0 rfl) h4) (dw 28 rfl rfl rfl (v_fieldAddr (v := .pointer (some ⟨blkA A1, offA A1 + (Int.toNat i * 4 + 2), none⟩)) rfl (fun _ => by kernel_rfl)) (dw 29 rfl rfl rfl (v_load_s (ds := [.int .i64 ((at_ a_ i).N_)]) (xs := a_) (enc := eItem) ty3 rfl (.f 0 rfl) h4 (by simp only [eItem_eq] <;> rfl) rfl rfl rfl rfl rfl rfl) (dw 30 rfl rfl rfl vM (dw 31 rfl rfl rfl vM (dw 32 rfl rfl rfl (v_indexAddr_s (xs := b) (enc := eItem) sl62 rfl rfl (.f 1 rfl) h5) (dw 33 rfl rfl rfl (v_fieldAddr (v := .pointer (some ⟨blkA A2, offA A2 + (Int.toNat i * 4 + 2), none⟩)) rfl (fun _ => by kernel_rfl)) (dw 34 rfl rfl rfl (v_load_s (ds := [.int .i64 ((at_ b i).N_)]) (xs := b) (enc := eItem) ty3 rfl (.f 1 rfl) h5 (by simp only [eItem_eq] <;> rfl) rfl rfl rfl rfl rfl rfl) (dw 35 rfl rfl rfl vB (dv 36 rfl vPf (dv 37 rfl vM ?_))))))))))))
 refine d_split (t := 54) rfl (fun h8 => ?_) (fun h8 => ?_)
 replace hL1 := ite_t h8 hL1
 refine dF 38 rfl (dF 39 rfl (dF 40 rfl (dF 41 rfl (dF 42 rfl (dF 43 rfl (dF 44 rfl (dF 45 rfl (dF 46 rfl (dF 47 rfl (dF 48 rfl (dF 49 rfl (dv 50 rfl vPt (dD ?_)))))))))))))
 exact sK [] [0, 1] (hN2 true hL1)
 replace hL1 := ite_f h8 hL1
 refine dw 38 rfl rfl rfl vM (dw 39 rfl rfl rfl vM (dw 40 rfl rfl rfl (v_indexAddr_s (xs := a_) (enc := eItem) sl62 rfl rfl (.f 0 rfl) h4) (dw 41 rfl rfl rfl (v_fieldAddr (v := .pointer (some ⟨blkA A1, offA A1 + (Int.toNat i * 4 + 3), none⟩)) rfl (fun _ => by kernel_rfl)) (dw 43 rfl rfl rfl vM (dw 44 rfl rfl rfl vM (dw 45 rfl rfl rfl (v_indexAddr_s (xs := b) (enc := eItem) sl62 rfl rfl (.f 1 rfl) h5) (dw 46 rfl rfl rfl (v_fieldAddr (v := .pointer (some ⟨blkA A2, offA A2 + (Int.toNat i * 4 + 3), none⟩)) rfl (fun _ => by kernel_rfl)) ?_)))))))
 obtain ⟨v, h9, hL1⟩ := bd hL1
 refine d_all [42, 47] (by kernel_rfl) (by simp) ⟨⟨_, rfl, ?_⟩, ⟨_, rfl, ?_⟩, trivial⟩
 refine oN (o_load_s (ds := [.slice 4 (((at_ a_ i).Items).map eItem)]) (xs := a_) (enc := eItem) ty62 rfl (.f 0 rfl) h4 (by simp only [eItem_eq] <;> rfl) rfl rfl rfl rfl rfl ?_)
 intro A3 L3 C3
 refine dN [] 1 (dO 47 rfl (oN (o_load_s (ds := [.slice 4 (((at_ b i).Items).map eItem)]) (xs := b) (enc := eItem) ty62 rfl (.f 2 rfl) h5 (by simp only [eItem_eq] <;> rfl) rfl rfl rfl rfl rfl ?_)))
 intro A4 L4 C4
 refine dN [] 2 (dO 48 rfl (oN (o_callSB call34 rfl (lent_f 1 rfl (lent_f 0 rfl lent_nil)) (hg34 h9 :) rfl (dN [] 2 (dw 49 rfl rfl rfl vN (dv 50 rfl vPf (dD ?_)))))))
 exact sK [] [2, 3] (hN2 (!v) hL1)
 refine oN (o_load_s (ds := [.slice 4 (((at_ b i).Items).map eItem)]) (xs := b) (enc := eItem) ty62 rfl (.f 1 rfl) h5 (by simp only [eItem_eq] <;> rfl) rfl rfl rfl rfl rfl ?_)
 intro A3 L3 C3
 refine dN [] 1 (dO 42 rfl (oN (o_load_s (ds := [.slice 4 (((at_ a_ i).Items).map eItem)]) (xs := a_) (enc := eItem) ty62 rfl (.f 1 rfl) h4 (by simp only [eItem_eq] <;> rfl) rfl rfl rfl rfl rfl ?_)))
 intro A4 L4 C4
 refine dN [] 2 (dO 48 rfl (oN (o_callSB call34 rfl (lent_f 0 rfl (lent_f 1 rfl lent_nil)) (hg34 h9 :) rfl (dN [] 2 (dw 49 rfl rfl rfl vN (dv 50 rfl vPf (dD ?_)))))))
 exact sK [] [2, 3] (hN2 (!v) hL1)
 intro t67 hL1
 unfold F.ref03.SameItems_j2 at hL1
 refine sat_wc ?_
 refine cC hL1 (fun hL1 => ?_) (fun hL1 => ?_)
 refine cR (oV vA (o_seq (c_ret ?_)))
 cases hL1
 obtain rfl := lrf_ret hF
 exact sR
 refine c_skip (sat_wc (c_region (oV vM (oV vB (oV vA (o_nil ?_))))))
 exact lp [] [0, 1] fun a w hs => ⟨IntKind.wrap .i64 (i + 1), hL1, hs⟩
 refine c_exit0 ?_
 cases hL1
 exact sK [] [0, 1] (hN1 () rfl)
 intro d1 hd
 subst hd
 replace hF := lrf_done hF
 refine sat_wc (cR (oV vA (o_seq (c_ret ?_))))
 cases hF
 exact sR
theorem tri34 (k : Nat) : (∀ {a_ : List Item} {b : List Item} {A1 : OA} {L1 C1 : Nat} {A2 : OA} {L2 C2 : Nat} {r : Bool}, F.ref03.SameItems k a_ b = some r → Tri Tryz.prog 34 [sl A1 L1 C1, sl A2 L2 C2] [] [fS A1 L1 C1 4 eItem a_, fS A2 L2 C2 4 eItem b] (oR (bV r))) := by
 induction k with
 | zero => exact fun h => nomatch (show none = some _ from h)
 | succ k ih => exact tri34_B k _ ih
theorem tri35 {k : Nat} {a_ : List Prod} {b : List Prod} {r : Bool} (hF : F.ref03.sameProds k a_ b = some r) :
    Tri Tryz.prog 35 [sl A1 L1 C1, sl A2 L2 C2] [] [fS A1 L1 C1 5 eProd a_, fS A2 L2 C2 5 eProd b] (oR (bV r)) := by
 unfold F.ref03.sameProds at hF
 refine tri_intro (n := 81) Tryz.func35 rfl Tryz.ntmps35 rfl fun w X => cR (oV vA (o_seq (c_seq (cR (oV vM (oV (v_lenS (enc := eProd) a_ sl22 rfl (.f 0 rfl)) (oV vM (oV (v_lenS (enc := eProd) b sl22 rfl (.f 1 rfl)) (oV vB (o_seq ?_))))))))))
 refine cC hF (fun hF => ?_) (fun hF => ?_)
 refine cR (oV vA (o_seq (c_ret ?_)))
 cases hF
 exact sR
 refine c_skip (sat_wc (c_seq (cR (oV vA (o_seq ?_)))))
 obtain ⟨o1, ho1, hF⟩ := bd hF
 refine cT (fun E H Φ N' => ∀ (d1 : Unit), o1 = .done d1 → Sat E [(0, sl A1 L1 C1), (1, sl A2 L2 C2), (4, bV false)] [] Φ N') (fun N1 hN1 => ?_) ?_
 refine c_block ?_
 refine cL (fun E H Φ j a w => ∃ (i : Int), F.ref03.sameProds_l1 k a_ b j i = some o1 ∧ St E [(0, sl A1 L1 C1), (1, sl A2 L2 C2), (4, bV false), (5, iI i)] [] Φ a w) k ?_ ?_
 exact lq [] [0, 1] fun a w hs => ⟨0, ho1, hs⟩
 rintro j a w ⟨i, hL1, hs⟩
 rcases j with _ | j
 cases hL1
 refine wc_app hs ?_
 unfold F.ref03.sameProds_l1 at hL1
 refine c_seq (cR (oV vM (oV vM (oV (v_lenS (enc := eProd) a_ sl22 rfl (.f 0 rfl)) (oV vB (o_seq ?_))))))
 refine cC hL1 (fun hL1 => ?_) (fun hL1 => ?_)
 refine c_skip (sat_wc (c_seq ?_))
 refine c_cut (fun E N' => ∀ (k_ : Int) (A3 : OA) (L3 C3 : Nat) (A4 : OA) (L4 C4 : Nat) (b1 : Nat) (b2 : Nat), F.ref03.sameProds_j2 (F.ref03.sameProds_l1 k a_ b j) i k_ = some o1 → Sat E [(0, sl A1 L1 C1), (1, sl A2 L2 C2), (4, bV false), (5, iI i), (6, pt b1), (7, pt b2), (8, iI k_)] [.box b1 57 (vProd (at_ a_ i) A3 L3 C3), .box b2 57 (vProd (at_ b i) A4 L4 C4)] [fS A1 L1 C1 5 eProd a_, fS A2 L2 C2 5 eProd b, fS A3 L3 C3 8 eSym ((at_ a_ i).Syms), fS A4 L4 C4 8 eSym ((at_ b i).Syms)] N') (fun N2 hN2 => ?_) ?_
 refine c_block (c_seq ?_)
 refine c_cut (fun E N' => ∀ (A5 : OA) (L5 C5 : Nat) (A6 : OA) (L6 C6 : Nat) (b3 : Nat) (b4 : Nat), F.ref03.sameProds_j3 k a_ i b (F.ref03.sameProds_l1 k a_ b j) = some o1 → Sat E [(0, sl A1 L1 C1), (1, sl A2 L2 C2), (4, bV false), (5, iI i), (6, pt b3), (7, pt b4)] [.box b3 57 (vProd (at_ a_ i) A5 L5 C5), .box b4 57 (vProd (at_ b i) A6 L6 C6)] [fS A1 L1 C1 5 eProd a_, fS A2 L2 C2 5 eProd b, fS A5 L5 C5 8 eSym ((at_ a_ i).Syms), fS A6 L6 C6 8 eSym ((at_ b i).Syms)] N') (fun N5 hN5 => ?_) ?_
 refine ite_some hL1 fun h12 hL1 => c_elem (xs := a_) (enc := eProd) 0 rfl h12 rfl rfl fun A7 L7 C7 => ite_some hL1 fun h13 hL1 => c_elem (xs := b) (enc := eProd) 3 rfl h13 rfl rfl fun A8 L8 C8 => c_draw (n := 12) [] mixed rfl rfl (dv 0 rfl vM (dv 1 rfl vM (dv 2 rfl (v_indexAddr_s (xs := a_) (enc := eProd) sl22 rfl rfl (.f 4 rfl) h12) (dv 3 rfl (v_load_cl 2 ty57 rfl rfl rfl rfl rfl) (dv 4 rfl vM (dv 5 rfl vM (dv 6 rfl (v_indexAddr_s (xs := b) (enc := eProd) sl22 rfl rfl (.f 5 rfl) h13) (dv 7 rfl (v_load_cl 0 ty57 rfl rfl rfl rfl rfl) ?_))))))))
 refine d_all [8, 9] (by kernel_rfl) (by simp) ⟨⟨_, rfl, ?_⟩, ⟨_, rfl, ?_⟩, trivial⟩
 refine o_alloc zero57 rfl rfl fun b5 => dN [] 0 (dO 9 rfl (o_alloc zero57 rfl rfl ?_))
 intro b6
 refine dN [] 0 (dO 10 rfl ((sT 1 ty57) (dN [] 0 (dO 11 rfl ((sT 0 ty57) (dN [] 0 (dD ?_)))))))
 exact sK [1, 0] [4, 5, 3, 1] (hN5 A7 L7 C7 A8 L8 C8 b5 b6 hL1)
 refine o_alloc zero57 rfl rfl fun b5 => dN [] 0 (dO 8 rfl (o_alloc zero57 rfl rfl ?_))
 intro b6
 refine dN [] 0 (dO 10 rfl ((sT 0 ty57) (dN [] 0 (dO 11 rfl ((sT 1 ty57) (dN [] 0 (dD ?_)))))))
 exact sK [0, 0] [4, 5, 3, 1] (hN5 A7 L7 C7 A8 L8 C8 b6 b5 hL1)
 intro A5 L5 C5 A6 L6 C6 b3 b4 hL1
 unfold F.ref03.sameProds_j3 at hL1
 refine sat_wc (c_seq (c_seq ?_))
 refine cT (fun E H Φ N' => ∀ (t62 : Bool), F.ref03.sameProds_j4 k a_ i b (F.ref03.sameProds_l1 k a_ b j) t62 = some o1 → Sat E [(0, sl A1 L1 C1), (1, sl A2 L2 C2), (4, bV false), (5, iI i), (6, pt b3), (7, pt b4), (62, bV t62)] H Φ N') (fun N5 hN5 => ?_) ?_
 refine c_region ((fD 0) (oV (vL 0 ty4) ((fD 0) (oV (vL 1 ty4) (oV (v_boolne rfl rfl Tryz.underlying4) (oV vM ?_))))))
 refine oS 33 hL1 (fun hL1 => ?_) (fun hL1 => ?_)
 refine oF (oF (oF (oF (oF (oV vPt (oV vM (oF (oF (oF (oF (oF (oV vPt (oV vM (oF (oF ?_)))))))))))))))
 refine oF (oF (oF (oV vPt (oV vM (oF (oF (oF (oF (oF (oF (oF (oV vPt (o_nil ?_)))))))))))))
 exact sK [0, 0] [0, 1, 2, 3] (hN5 true hL1)
 refine oN ((fD 1) (oN (oV (vL 0 ty9) (oN ((fD 1) (oN (oV (vL 1 ty9) (oN (oV (v_strne rfl rfl) (oV vPf (oV vM ?_)))))))))))
 refine oS 40 hL1 (fun hL1 => ?_) (fun hL1 => ?_)
 refine oF (oF (oF (oF (oF (oV vPt (oV vM (oF (oF (oF (oF (oF (oV vPt (oV vM (oF (oF ?_)))))))))))))))
 refine oF (oF (oF (oF (oF (oV vPt (o_nil ?_))))))
 exact sK [0, 0] [0, 1, 2, 3] (hN5 true hL1)
 refine oN ((fD 2) (oN (oV (vL 0 ty9) (oN ((fD 2) (oN (oV (vL 1 ty9) (oN (oV (v_strne rfl rfl) (oV vPf (oV vM ?_)))))))))))
 refine oS 47 hL1 (fun hL1 => ?_) (fun hL1 => ?_)
 refine oF (oF (oF (oF (oF (oV vPt (oV vM (oF (oF (oF (oF (oF (oF (oF (oV vPt (o_nil ?_)))))))))))))))
 exact sK [0, 0] [0, 1, 2, 3] (hN5 true hL1)
 refine oN ((fD 3) (oN (oV (vL 0 ty4) (oN ((fD 3) (oN (oV (vL 1 ty4) (oN (oV (v_boolne rfl rfl Tryz.underlying4) (oV vPf (oV vM ?_)))))))))))
 refine oS 54 hL1 (fun hL1 => ?_) (fun hL1 => ?_)
 refine oF (oF (oF (oF (oF (oF (oF (oV vPt (o_nil ?_))))))))
 exact sK [0, 0] [0, 1, 2, 3] (hN5 true hL1)
 refine oN ((fD 4) (oN (oV (vL 0 ty55) (oN (oV (v_lenS (enc := eSym) ((at_ a_ i).Syms) sl55 rfl (.f 2 rfl)) (oN ((fD 4) (oN (oV (vL 1 ty55) (oN (oV (v_lenS (enc := eSym) ((at_ b i).Syms) sl55 rfl (.f 3 rfl)) (oN (oV vB (oV vPf (o_nil ?_)))))))))))))))
 exact sK [0, 0] [0, 1, 2, 3] (hN5 ((((at_ a_ i).Syms).length : Int) != (((at_ b i).Syms).length : Int)) hL1)
 intro t62 hL1
 unfold F.ref03.sameProds_j4 at hL1
 refine sat_wc ?_
 refine cC hL1 (fun hL1 => ?_) (fun hL1 => ?_)
 refine cR (oV vA (o_seq (c_ret ?_)))
 cases hL1
 obtain rfl := lrf_ret hF
 exact sR
 refine c_skip (sat_wc (cR (oV vA (o_seq ?_))))
 obtain ⟨o5, ho5, hL1⟩ := bd hL1
 refine cT (fun E H Φ N' => ∀ (d5 : Int), o5 = .done d5 → Sat E [(0, sl A1 L1 C1), (1, sl A2 L2 C2), (4, bV false), (5, iI i), (6, pt b3), (7, pt b4), (8, iI d5)] H Φ N') (fun N5 hN5 => ?_) ?_
 refine c_block ?_
 refine cL (fun E H Φ j a w => ∃ (k_1 : Int), F.ref03.sameProds_l5 a_ i b j k_1 = some o5 ∧ St E [(0, sl A1 L1 C1), (1, sl A2 L2 C2), (4, bV false), (5, iI i), (6, pt b3), (7, pt b4), (8, iI k_1)] H Φ a w) k ?_ ?_
 exact lq [0, 0] [0, 1, 2, 3] fun a w hs => ⟨0, ho5, hs⟩
 rintro j a w ⟨k_1, hL5, hs⟩
 rcases j with _ | j
 cases hL5
 refine wc_app hs ?_
 unfold F.ref03.sameProds_l5 at hL5
 refine c_seq (cR (oV vM ((fD 4) (oV (vL 0 ty55) (oV (v_lenS (enc := eSym) ((at_ a_ i).Syms) sl55 rfl (.f 2 rfl)) (oV vB (o_seq ?_)))))))
 refine cC hL5 (fun hL5 => ?_) (fun hL5 => ?_)
 refine c_skip (sat_wc (c_seq (c_block (c_seq (c_draw (n := 11) [0, 0] mixed rfl rfl (dv 0 rfl (vF 4) (dv 1 rfl (vL 0 ty55) (dv 2 rfl vM (ite_some hL5 ?_)))))))))
 intro h5 hL5
 refine dv 3 rfl (v_indexAddr_s (xs := (at_ a_ i).Syms) (enc := eSym) sl55 rfl rfl (.f 2 rfl) h5) (dv 4 rfl (v_load_s (xs := (at_ a_ i).Syms) (enc := eSym) ty114 rfl (.f 2 rfl) h5 rfl rfl rfl rfl rfl rfl rfl) (dv 5 rfl (vF 4) (dv 6 rfl (vL 1 ty55) (dv 7 rfl vM (ite_some hL5 ?_)))))
 intro h6 hL5
 refine ?_
 refine dv 8 rfl (v_indexAddr_s (xs := (at_ b i).Syms) (enc := eSym) sl55 rfl rfl (.f 3 rfl) h6) (dv 9 rfl (v_load_s (xs := (at_ b i).Syms) (enc := eSym) ty114 rfl (.f 3 rfl) h6 rfl rfl rfl rfl rfl rfl rfl) (dv 10 rfl (v_agne 3 rfl rfl (eq114 ((at_ ((at_ a_ i).Syms) k_1).Kind) ((at_ ((at_ a_ i).Syms) k_1).Text) ((at_ ((at_ a_ i).Syms) k_1).Set.w0) ((at_ ((at_ a_ i).Syms) k_1).Set.w1) ((at_ ((at_ a_ i).Syms) k_1).Set.w2) ((at_ ((at_ a_ i).Syms) k_1).Set.w3) ((at_ ((at_ a_ i).Syms) k_1).Name) ((at_ ((at_ a_ i).Syms) k_1).Sep) ((at_ ((at_ b i).Syms) k_1).Kind) ((at_ ((at_ b i).Syms) k_1).Text) ((at_ ((at_ b i).Syms) k_1).Set.w0) ((at_ ((at_ b i).Syms) k_1).Set.w1) ((at_ ((at_ b i).Syms) k_1).Set.w2) ((at_ ((at_ b i).Syms) k_1).Set.w3) ((at_ ((at_ b i).Syms) k_1).Name) ((at_ ((at_ b i).Syms) k_1).Sep)) rfl guard114) (d_done_seq (by kernel_rfl) ?_)))
 refine cC hL5 (fun hL5 => ?_) (fun hL5 => ?_)
 refine cR (oV vA (o_seq (c_ret ?_)))
 cases hL5
 obtain rfl := lr_ret hL1
 obtain rfl := lrf_ret hF
 exact sR
 refine c_skip (sat_wc (c_region (oV vM (oV vB (oV vA (o_nil ?_))))))
 exact lp [0, 0] [0, 1, 2, 3] fun a w hs => ⟨IntKind.wrap .i64 (k_1 + 1), hL5, hs⟩
 refine c_exit0 ?_
 cases hL5
 exact sK [0, 0] [0, 1, 2, 3] (hN5 k_1 rfl)
 intro d5 hd
 subst hd
 replace hL1 := lr_done hL1
 exact sK [0, 0] [0, 1, 2, 3] (hN2 d5 A5 L5 C5 A6 L6 C6 b3 b4 hL1)
 intro k_ A3 L3 C3 A4 L4 C4 b1 b2 hL1
 unfold F.ref03.sameProds_j2 at hL1
 refine sat_wc (c_region (oV vM (oV vB (oV vA (o_nil ?_)))))
 exact lp [] [0, 1] fun a w hs => ⟨IntKind.wrap .i64 (i + 1), hL1, hs⟩
 refine c_exit0 ?_
 cases hL1
 exact sK [] [0, 1] (hN1 () rfl)
 intro d1 hd
 subst hd
 replace hF := lrf_done hF
 refine sat_wc (cR (oV vA (o_seq (c_ret ?_))))
 cases hF
 exact sR
theorem tri78 {k : Nat} {a_ : List (List UInt8)} {b : List (List UInt8)} {r : Bool} (hF : F.ref03.SameNames k a_ b = some r) :
    Tri Tryz.prog 78 [sl A1 L1 C1, sl A2 L2 C2] [] [fS A1 L1 C1 1 eStr a_, fS A2 L2 C2 1 eStr b] (oR (bV r)) := by
 unfold F.ref03.SameNames at hF
 refine tri_intro (n := 26) Tryz.func78 rfl Tryz.ntmps78 rfl fun w X => cR (oV vA (o_seq (c_seq (cR (oV vM (oV (v_lenS (enc := eStr) a_ sl59 rfl (.f 0 rfl)) (oV vM (oV (v_lenS (enc := eStr) b sl59 rfl (.f 1 rfl)) (oV vB (o_seq ?_))))))))))
 refine cC hF (fun hF => ?_) (fun hF => ?_)
 refine cR (oV vA (o_seq (c_ret ?_)))
 cases hF
 exact sR
 refine c_skip (sat_wc (c_seq (cR (oV vA (o_seq ?_)))))
 obtain ⟨o1, ho1, hF⟩ := bd hF
 refine cT (fun E H Φ N' => ∀ (d1 : Unit), o1 = .done d1 → Sat E [(0, sl A1 L1 C1), (1, sl A2 L2 C2), (4, bV false)] [] Φ N') (fun N1 hN1 => ?_) ?_
 refine c_block ?_
 refine cL (fun E H Φ j a w => ∃ (i : Int), F.ref03.SameNames_l1 a_ b j i = some o1 ∧ St E [(0, sl A1 L1 C1), (1, sl A2 L2 C2), (4, bV false), (5, iI i)] [] Φ a w) k ?_ ?_
 exact lq [] [0, 1] fun a w hs => ⟨0, ho1, hs⟩
 rintro j a w ⟨i, hL1, hs⟩
 rcases j with _ | j
 cases hL1
 refine wc_app hs ?_
 unfold F.ref03.SameNames_l1 at hL1
 refine c_seq (cR (oV vM (oV vM (oV (v_lenS (enc := eStr) a_ sl59 rfl (.f 0 rfl)) (oV vB (o_seq ?_))))))
 refine cC hL1 (fun hL1 => ?_) (fun hL1 => ?_)
 refine c_skip (sat_wc (c_seq (c_block (c_seq (c_draw (n := 9) [] mixed rfl rfl (dv 0 rfl vM (dv 1 rfl vM (ite_some hL1 ?_))))))))
 intro h3 hL1
 refine dv 2 rfl (v_indexAddr_s (xs := a_) (enc := eStr) sl59 rfl rfl (.f 0 rfl) h3) (dv 3 rfl (v_load_s (xs := a_) (enc := eStr) ty9 rfl (.f 0 rfl) h3 rfl rfl rfl rfl rfl rfl rfl) (dv 4 rfl vM (dv 5 rfl vM (ite_some hL1 ?_))))
 intro h4 hL1
 refine dv 6 rfl (v_indexAddr_s (xs := b) (enc := eStr) sl59 rfl rfl (.f 1 rfl) h4) (dv 7 rfl (v_load_s (xs := b) (enc := eStr) ty9 rfl (.f 1 rfl) h4 rfl rfl rfl rfl rfl rfl rfl) ?_)
 refine dv 8 rfl (v_strne rfl rfl) (d_done_seq (by kernel_rfl) ?_)
 refine cC hL1 (fun hL1 => ?_) (fun hL1 => ?_)
 refine cR (oV vA (o_seq (c_ret ?_)))
 cases hL1
 obtain rfl := lrf_ret hF
 exact sR
 refine c_skip (sat_wc (c_region (oV vM (oV vB (oV vA (o_nil ?_))))))
 exact lp [] [0, 1] fun a w hs => ⟨IntKind.wrap .i64 (i + 1), hL1, hs⟩
 refine c_exit0 ?_
 cases hL1
 exact sK [] [0, 1] (hN1 () rfl)
 intro d1 hd
 subst hd
 replace hF := lrf_done hF
 refine sat_wc (cR (oV vA (o_seq (c_ret ?_))))
 cases hF
 exact sR
theorem tri36 {k : Nat} {a_ : List (List Group)} {b : List (List Group)} {r : Bool} (hF : F.ref03.sameChains k a_ b = some r) :
    Tri Tryz.prog 36 [sl A1 L1 C1, sl A2 L2 C2] [] [fS A1 L1 C1 1 (eSl 2 eGroup) a_, fS A2 L2 C2 1 (eSl 2 eGroup) b] (oR (bV r)) := by
 unfold F.ref03.sameChains at hF
 refine tri_intro (n := 75) Tryz.func36 rfl Tryz.ntmps36 rfl fun w X => cR (oV vA (o_seq (c_seq (cR (oV vM (oV (v_lenS (enc := (eSl 2 eGroup)) a_ sl23 rfl (.f 0 rfl)) (oV vM (oV (v_lenS (enc := (eSl 2 eGroup)) b sl23 rfl (.f 1 rfl)) (oV vB (o_seq ?_))))))))))
 refine cC hF (fun hF => ?_) (fun hF => ?_)
 refine cR (oV vA (o_seq (c_ret ?_)))
 cases hF
 exact sR
 refine c_skip (sat_wc (c_seq (cR (oV vA (o_seq ?_)))))
 obtain ⟨o1, ho1, hF⟩ := bd hF
 refine cT (fun E H Φ N' => ∀ (d1 : Unit), o1 = .done d1 → Sat E [(0, sl A1 L1 C1), (1, sl A2 L2 C2), (4, bV false)] [] Φ N') (fun N1 hN1 => ?_) ?_
 refine c_block ?_
 refine cL (fun E H Φ j a w => ∃ (i : Int), F.ref03.sameChains_l1 k a_ b j i = some o1 ∧ St E [(0, sl A1 L1 C1), (1, sl A2 L2 C2), (4, bV false), (5, iI i)] [] Φ a w) k ?_ ?_
 exact lq [] [0, 1] fun a w hs => ⟨0, ho1, hs⟩
 rintro j a w ⟨i, hL1, hs⟩
 rcases j with _ | j
 cases hL1
 refine wc_app hs ?_
 unfold F.ref03.sameChains_l1 at hL1
 refine c_seq (cR (oV vM (oV vM (oV (v_lenS (enc := (eSl 2 eGroup)) a_ sl23 rfl (.f 0 rfl)) (oV vB (o_seq ?_))))))
 refine cC hL1 (fun hL1 => ?_) (fun hL1 => ?_)
 refine c_skip (sat_wc (c_seq (c_block (c_seq (c_seq (ite_some hL1 fun h3 hL1 => c_elem (xs := a_) (enc := (eSl 2 eGroup)) 0 rfl h3 rfl rfl fun A3 L3 C3 => ite_some hL1 fun h4 hL1 => c_elem (xs := b) (enc := (eSl 2 eGroup)) 3 rfl h4 rfl rfl fun A4 L4 C4 => c_draw (n := 11) [] mixed rfl rfl (dv 0 rfl vM (dv 1 rfl vM (dv 2 rfl (v_indexAddr_s (xs := a_) (enc := (eSl 2 eGroup)) sl23 rfl rfl (.f 4 rfl) h3) (dv 3 rfl (v_load_cl 2 ty58 rfl rfl rfl rfl rfl) (dv 4 rfl (v_lenS (enc := eGroup) (at_ a_ i) sl58 rfl (.f 3 rfl)) ?_)))))))))))
 refine dv 5 rfl vM (dv 6 rfl vM (dv 7 rfl (v_indexAddr_s (xs := b) (enc := (eSl 2 eGroup)) sl23 rfl rfl (.f 5 rfl) h4) (dv 8 rfl (v_load_cl 0 ty58 rfl rfl rfl rfl rfl) (dv 9 rfl (v_lenS (enc := eGroup) (at_ b i) sl58 rfl (.f 1 rfl)) (dv 10 rfl vB (d_done_seq (by kernel_rfl) ?_))))))
 refine cC hL1 (fun hL1 => ?_) (fun hL1 => ?_)
 refine cR (oV vA (o_seq (c_ret ?_)))
 cases hL1
 obtain rfl := lrf_ret hF
 exact sR
 refine c_skip (sat_wc (cR (oV vA (o_seq ?_))))
 obtain ⟨o2, ho2, hL1⟩ := bd hL1
 refine c_cut (fun E N' => ∀ (d2 : Int), o2 = .done d2 → Sat E [(0, sl A1 L1 C1), (1, sl A2 L2 C2), (4, bV false), (5, iI i), (6, iI d2)] [] [fS A1 L1 C1 1 (eSl 2 eGroup) a_, fS A2 L2 C2 1 (eSl 2 eGroup) b] N') (fun N2 hN2 => ?_) ?_
 refine c_block ?_
 refine c_loopE (fun E j a w => ∃ (k_ : Int), F.ref03.sameChains_l2 k a_ i b j k_ = some o2 ∧ St E [(0, sl A1 L1 C1), (1, sl A2 L2 C2), (4, bV false), (5, iI i), (6, iI k_)] [] [fS A1 L1 C1 1 (eSl 2 eGroup) a_, fS A2 L2 C2 1 (eSl 2 eGroup) b] a w) k ?_ ?_
 exact lq [] [4, 5] fun a w hs => ⟨0, ho2, hs⟩
 rintro j a w ⟨k_, hL2, hs⟩
 rcases j with _ | j
 cases hL2
 refine wc_app hs ?_
 unfold F.ref03.sameChains_l2 at hL2
 refine c_seq (cR (oV vM (oV vM (oV vM (oV (v_indexAddr_s (xs := a_) (enc := (eSl 2 eGroup)) sl23 rfl rfl (.f 0 rfl) h3) (o_load_s (xs := a_) (enc := (eSl 2 eGroup)) ty58 rfl (.f 0 rfl) h3 rfl rfl rfl rfl rfl rfl ?_))))))
 intro A5 L5 C5
 refine oV (v_lenS (enc := eGroup) (at_ a_ i) sl58 rfl (.f 0 rfl)) (oV vB (o_seq ?_))
 refine cC hL2 (fun hL2 => ?_) (fun hL2 => ?_)
 refine c_skip (sat_wc (c_seq ?_))
 refine c_cut (fun E N' => F.ref03.sameChains_j3 (F.ref03.sameChains_l2 k a_ i b j) k_ = some o2 → Sat E [(0, sl A1 L1 C1), (1, sl A2 L2 C2), (4, bV false), (5, iI i), (6, iI k_)] [] [fS A1 L1 C1 1 (eSl 2 eGroup) a_, fS A2 L2 C2 1 (eSl 2 eGroup) b] N') (fun N3 hN3 => ?_) ?_
 refine c_block (c_seq (c_elem (xs := a_) (enc := (eSl 2 eGroup)) 1 rfl h3 rfl rfl fun A6 L6 C6 => c_elem (xs := b) (enc := (eSl 2 eGroup)) 4 rfl h4 rfl rfl fun A7 L7 C7 => c_draw (n := 37) [] mixed rfl rfl (dv 0 rfl vM (dv 1 rfl vM (dv 2 rfl (v_indexAddr_s (xs := a_) (enc := (eSl 2 eGroup)) sl23 rfl rfl (.f 5 rfl) h3) (dv 3 rfl (v_load_cl 2 ty58 rfl rfl rfl rfl rfl) (dv 4 rfl vM (ite_some hL2 ?_))))))))
 intro h7 hL2
 refine dv 5 rfl (v_indexAddr_s (xs := at_ a_ i) (enc := eGroup) sl58 rfl rfl (.f 3 rfl) h7) (dv 6 rfl (v_fieldAddr (v := .pointer (some ⟨blkA A6, offA A6 + (Int.toNat k_ * 2 + 0), none⟩)) rfl (fun _ => by kernel_rfl)) (dv 7 rfl (v_load_s (xs := at_ a_ i) (enc := eGroup) ty3 rfl (.f 3 rfl) h7 rfl rfl rfl rfl rfl rfl rfl) (dv 8 rfl vM (dv 9 rfl vM ?_))))
 refine dv 10 rfl (v_indexAddr_s (xs := b) (enc := (eSl 2 eGroup)) sl23 rfl rfl (.f 6 rfl) h4) (dv 11 rfl (v_load_cl 0 ty58 rfl rfl rfl rfl rfl) (dv 12 rfl vM (ite_some hL2 ?_)))
 intro h8 hL2
 refine dv 13 rfl (v_indexAddr_s (xs := at_ b i) (enc := eGroup) sl58 rfl rfl (.f 1 rfl) h8) (dv 14 rfl (v_fieldAddr (v := .pointer (some ⟨blkA A7, offA A7 + (Int.toNat k_ * 2 + 0), none⟩)) rfl (fun _ => by kernel_rfl)) (dv 15 rfl (v_load_s (xs := at_ b i) (enc := eGroup) ty3 rfl (.f 1 rfl) h8 rfl rfl rfl rfl rfl rfl rfl) (dv 16 rfl vB (dv 17 rfl vM ?_))))
 refine d_split (t := 55) rfl (fun h9 => ?_) (fun h9 => ?_)
 replace hL2 := ite_t h9 hL2
 refine dF 18 rfl (dF 19 rfl (dF 20 rfl (dF 21 rfl (dF 22 rfl (dF 23 rfl (dF 24 rfl (dF 25 rfl (dF 26 rfl (dF 27 rfl (dF 28 rfl (dF 29 rfl (dF 30 rfl (dF 31 rfl (dF 32 rfl (dF 33 rfl ?_)))))))))))))))
 refine dF 34 rfl (dF 35 rfl (dv 36 rfl vPt (d_done_seq (by kernel_rfl) ?_)))
 refine c_cond rfl (fun _ => ?_) (fun h => Bool.noConfusion h)
 refine cR (oV vA (o_seq (c_ret ?_)))
 cases hL2
 obtain rfl := lr_ret hL1
 obtain rfl := lrf_ret hF
 exact sR
 replace hL2 := ite_f h9 hL2
 refine dw 18 rfl rfl rfl vM (dw 19 rfl rfl rfl vM (dw 20 rfl rfl rfl (v_indexAddr_s (xs := a_) (enc := (eSl 2 eGroup)) sl23 rfl rfl (.f 5 rfl) h3) (dw 21 rfl rfl rfl (v_load_cl 2 ty58 rfl rfl rfl rfl rfl) (dw 22 rfl rfl rfl vM (dw 23 rfl rfl rfl (v_indexAddr_s (xs := at_ a_ i) (enc := eGroup) sl58 rfl rfl (.f 3 rfl) h7) (dw 24 rfl rfl rfl (v_fieldAddr (v := .pointer (some ⟨blkA A6, offA A6 + (Int.toNat k_ * 2 + 1), none⟩)) rfl (fun _ => by kernel_rfl)) (dw 26 rfl rfl rfl vM (dw 27 rfl rfl rfl vM (dw 28 rfl rfl rfl (v_indexAddr_s (xs := b) (enc := (eSl 2 eGroup)) sl23 rfl rfl (.f 6 rfl) h4) (dw 29 rfl rfl rfl (v_load_cl 0 ty58 rfl rfl rfl rfl rfl) (dw 30 rfl rfl rfl vM (dw 31 rfl rfl rfl (v_indexAddr_s (xs := at_ b i) (enc := eGroup) sl58 rfl rfl (.f 1 rfl) h8) (dw 32 rfl rfl rfl (v_fieldAddr (v := .pointer (some ⟨blkA A7, offA A7 + (Int.toNat k_ * 2 + 1), none⟩)) rfl (fun _ => by kernel_rfl)) ?_)))))))))))))
 obtain ⟨v, h10, hL2⟩ := bd hL2
 refine d_all [25, 33] (by kernel_rfl) (by simp) ⟨⟨_, rfl, ?_⟩, ⟨_, rfl, ?_⟩, trivial⟩
 refine oN (o_load_s (xs := at_ a_ i) (enc := eGroup) ty59 rfl (.f 3 rfl) h7 rfl rfl rfl rfl rfl rfl ?_)
 intro A8 L8 C8
 refine dN [] 1 (dO 33 rfl (oN (o_load_s (xs := at_ b i) (enc := eGroup) ty59 rfl (.f 2 rfl) h8 rfl rfl rfl rfl rfl rfl ?_)))
 intro A9 L9 C9
 refine dN [] 2 (dO 34 rfl (oN (o_callSB call78 rfl (lent_f 1 rfl (lent_f 0 rfl lent_nil)) (tri78 h10 :) rfl (dN [] 2 (dw 35 rfl rfl rfl vN (dv 36 rfl vPf (d_done_seq (by kernel_rfl) ?_)))))))
 refine cC hL2 (fun hL2 => ?_) (fun hL2 => ?_)
 refine cR (oV vA (o_seq (c_ret ?_)))
 cases hL2
 obtain rfl := lr_ret hL1
 obtain rfl := lrf_ret hF
 exact sR
 refine c_skip ?_
 exact sK [] [7, 8] (hN3 hL2)
 refine oN (o_load_s (xs := at_ b i) (enc := eGroup) ty59 rfl (.f 1 rfl) h8 rfl rfl rfl rfl rfl rfl ?_)
 intro A8 L8 C8
 refine dN [] 1 (dO 25 rfl (oN (o_load_s (xs := at_ a_ i) (enc := eGroup) ty59 rfl (.f 4 rfl) h7 rfl rfl rfl rfl rfl rfl ?_)))
 intro A9 L9 C9
 refine dN [] 2 (dO 34 rfl (oN (o_callSB call78 rfl (lent_f 0 rfl (lent_f 1 rfl lent_nil)) (tri78 h10 :) rfl (dN [] 2 (dw 35 rfl rfl rfl vN (dv 36 rfl vPf (d_done_seq (by kernel_rfl) ?_)))))))
 refine cC hL2 (fun hL2 => ?_) (fun hL2 => ?_)
 refine cR (oV vA (o_seq (c_ret ?_)))
 cases hL2
 obtain rfl := lr_ret hL1
 obtain rfl := lrf_ret hF
 exact sR
 refine c_skip ?_
 exact sK [] [7, 8] (hN3 hL2)
 intro hL2
 unfold F.ref03.sameChains_j3 at hL2
 refine sat_wc (c_region (oV vM (oV vB (oV vA (o_nil ?_)))))
 exact lp [] [0, 1] fun a w hs => ⟨IntKind.wrap .i64 (k_ + 1), hL2, hs⟩
 refine c_exit0 ?_
 cases hL2
 exact sK [] [1, 2] (hN2 k_ rfl)
 intro d2 hd
 subst hd
 replace hL1 := lr_done hL1
 refine sat_wc (c_region (oV vM (oV vB (oV vA (o_nil ?_)))))
 exact lp [] [0, 1] fun a w hs => ⟨IntKind.wrap .i64 (i + 1), hL1, hs⟩
 refine c_exit0 ?_
 cases hL1
 exact sK [] [0, 1] (hN1 () rfl)
 intro d1 hd
 subst hd
 replace hF := lrf_done hF
 refine sat_wc (cR (oV vA (o_seq (c_ret ?_))))
 cases hF
 exact sR
theorem tri15 {k : Nat} {a_ : Def} {b : Def} {r : Bool} (hF : F.ref03.Same k a_ b = some r) :
    Tri Tryz.prog 15 [.agg (vDef a_ A1 L1 C1 A2 L2 C2 A3 L3 C3 A4 L4 C4 A5 L5 C5).toArray, .agg (vDef b A6 L6 C6 A7 L7 C7 A8 L8 C8 A9 L9 C9 A10 L10 C10).toArray] [] [fS A1 L1 C1 5 eProd a_.Prods, fS A2 L2 C2 1 (eSl 2 eGroup) a_.Chains, fS A3 L3 C3 5 eFollow a_.Follows, fS A4 L4 C4 2 eReject a_.Rejects, fS A5 L5 C5 2 eBox a_.Boxes, fS A6 L6 C6 5 eProd b.Prods, fS A7 L7 C7 1 (eSl 2 eGroup) b.Chains, fS A8 L8 C8 5 eFollow b.Follows, fS A9 L9 C9 2 eReject b.Rejects, fS A10 L10 C10 2 eBox b.Boxes] (oR (bV r)) := by
 unfold F.ref03.Same at hF
 refine tri_intro (n := 131) Tryz.func15 rfl Tryz.ntmps15 rfl fun w X => cR (o_box rfl rfl rfl fun b1 => o_box rfl rfl rfl fun b2 => oV vA (o_seq (c_seq (c_seq ?_))))
 refine cT (fun E H Φ N' => ∀ (t46 : Bool), F.ref03.Same_j1 k a_ b t46 = some r → Sat E [(0, .agg (vDef a_ A1 L1 C1 A2 L2 C2 A3 L3 C3 A4 L4 C4 A5 L5 C5).toArray), (1, .agg (vDef b A6 L6 C6 A7 L7 C7 A8 L8 C8 A9 L9 C9 A10 L10 C10).toArray), (2, pt b1), (3, pt b2), (4, bV false), (46, bV t46)] H Φ N') (fun N5 hN5 => ?_) ?_
 refine c_region ((fD 0) (oV (vL 1 ty9) ((fD 0) (oV (vL 0 ty9) (oV (v_strne rfl rfl) (oV vM ?_))))))
 refine oS 13 hF (fun hF => ?_) (fun hF => ?_)
 refine oF (oF (oF (oF (oF (oV vPt (oV vM (oF (oF (oF (oF (oF (oF (oF (oV vPt (oV vM ?_)))))))))))))))
 refine oF (oF (oF (oF (oF (oF (oF (oV vPt (oV vM (oF (oF (oF (oF (oF (oF (oF ?_)))))))))))))))
 refine oV vPt (o_nil ?_)
 exact sK [0, 0] [0, 1, 2, 3, 4, 5, 6, 7, 8, 9] (hN5 true hF)
 refine oN ((fD 1) (oN (oV (vL 1 ty9) (oN ((fD 1) (oN (oV (vL 0 ty9) (oN (oV (v_strne rfl rfl) (oV vPf (oV vM ?_)))))))))))
 refine oS 20 hF (fun hF => ?_) (fun hF => ?_)
 refine oF (oF (oF (oF (oF (oF (oF (oV vPt (oV vM (oF (oF (oF (oF (oF (oF (oF ?_)))))))))))))))
 refine oV vPt (oV vM (oF (oF (oF (oF (oF (oF (oF (oV vPt (o_nil ?_))))))))))
 exact sK [0, 0] [0, 1, 2, 3, 4, 5, 6, 7, 8, 9] (hN5 true hF)
 refine oN ((fD 4) (oN (oV (vL 1 ty24) (oN (oV (v_lenS (enc := eFollow) a_.Follows sl24 rfl (.f 2 rfl)) (oN ((fD 4) (oN (oV (vL 0 ty24) (oN (oV (v_lenS (enc := eFollow) b.Follows sl24 rfl (.f 7 rfl)) (oN (oV vB (oV vPf (oV vM ?_)))))))))))))))
 refine oS 29 hF (fun hF => ?_) (fun hF => ?_)
 refine oF (oF (oF (oF (oF (oF (oF (oV vPt (oV vM (oF (oF (oF (oF (oF (oF (oF ?_)))))))))))))))
 refine oV vPt (o_nil ?_)
 exact sK [0, 0] [0, 1, 2, 3, 4, 5, 6, 7, 8, 9] (hN5 true hF)
 refine oN ((fD 5) (oN (oV (vL 1 ty25) (oN (oV (v_lenS (enc := eReject) a_.Rejects sl25 rfl (.f 3 rfl)) (oN ((fD 5) (oN (oV (vL 0 ty25) (oN (oV (v_lenS (enc := eReject) b.Rejects sl25 rfl (.f 8 rfl)) (oN (oV vB (oV vPf (oV vM ?_)))))))))))))))
 refine oS 38 hF (fun hF => ?_) (fun hF => ?_)
 refine oF (oF (oF (oF (oF (oF (oF (oV vPt (o_nil ?_))))))))
 exact sK [0, 0] [0, 1, 2, 3, 4, 5, 6, 7, 8, 9] (hN5 true hF)
 refine oN ((fD 6) (oN (oV (vL 1 ty26) (oN (oV (v_lenS (enc := eBox) a_.Boxes sl26 rfl (.f 4 rfl)) (oN ((fD 6) (oN (oV (vL 0 ty26) (oN (oV (v_lenS (enc := eBox) b.Boxes sl26 rfl (.f 9 rfl)) (oN (oV vB (oV vPf (o_nil ?_)))))))))))))))
 exact sK [0, 0] [0, 1, 2, 3, 4, 5, 6, 7, 8, 9] (hN5 ((a_.Boxes.length : Int) != (b.Boxes.length : Int)) hF)
 intro t46 hF
 unfold F.ref03.Same_j1 at hF
 refine sat_wc ?_
 refine cC hF (fun hF => ?_) (fun hF => ?_)
 refine cR (oV vA (o_seq (c_ret ?_)))
 cases hF
 exact sR
 refine c_skip (sat_wc (c_seq (cR (oV vA (o_seq ?_)))))
 obtain ⟨o2, ho2, hF⟩ := bd hF
 refine cT (fun E H Φ N' => ∀ (d2 : Unit), o2 = .done d2 → Sat E [(0, .agg (vDef a_ A1 L1 C1 A2 L2 C2 A3 L3 C3 A4 L4 C4 A5 L5 C5).toArray), (1, .agg (vDef b A6 L6 C6 A7 L7 C7 A8 L8 C8 A9 L9 C9 A10 L10 C10).toArray), (2, pt b1), (3, pt b2), (4, bV false)] H Φ N') (fun N2 hN2 => ?_) ?_
 refine c_block ?_
 refine cL (fun E H Φ j a w => ∃ (i : Int), F.ref03.Same_l2 a_ b j i = some o2 ∧ St E [(0, .agg (vDef a_ A1 L1 C1 A2 L2 C2 A3 L3 C3 A4 L4 C4 A5 L5 C5).toArray), (1, .agg (vDef b A6 L6 C6 A7 L7 C7 A8 L8 C8 A9 L9 C9 A10 L10 C10).toArray), (2, pt b1), (3, pt b2), (4, bV false), (5, iI i)] H Φ a w) k ?_ ?_
 exact lq [0, 0] [0, 1, 2, 3, 4, 5, 6, 7, 8, 9] fun a w hs => ⟨0, ho2, hs⟩
 rintro j a w ⟨i, hL2, hs⟩
 rcases j with _ | j
 cases hL2
 refine wc_app hs ?_
 unfold F.ref03.Same_l2 at hL2
 refine c_seq (cR (oV vM ((fD 4) (oV (vL 1 ty24) (oV (v_lenS (enc := eFollow) a_.Follows sl24 rfl (.f 2 rfl)) (oV vB (o_seq ?_)))))))
 refine cC hL2 (fun hL2 => ?_) (fun hL2 => ?_)
 refine c_skip (sat_wc (c_seq (c_block (c_seq (c_draw (n := 11) [0, 0] mixed rfl rfl (dv 0 rfl (vF 4) (dv 1 rfl (vL 1 ty24) (dv 2 rfl vM (ite_some hL2 ?_)))))))))
 intro h3 hL2
 refine dv 3 rfl (v_indexAddr_s (xs := a_.Follows) (enc := eFollow) sl24 rfl rfl (.f 2 rfl) h3) (dv 4 rfl (v_load_s (xs := a_.Follows) (enc := eFollow) ty48 rfl (.f 2 rfl) h3 rfl rfl rfl rfl rfl rfl rfl) (dv 5 rfl (vF 4) (dv 6 rfl (vL 0 ty24) (dv 7 rfl vM (ite_some hL2 ?_)))))
 intro h4 hL2
 refine ?_
 refine dv 8 rfl (v_indexAddr_s (xs := b.Follows) (enc := eFollow) sl24 rfl rfl (.f 7 rfl) h4) (dv 9 rfl (v_load_s (xs := b.Follows) (enc := eFollow) ty48 rfl (.f 7 rfl) h4 rfl rfl rfl rfl rfl rfl rfl) (dv 10 rfl (v_agne 3 rfl rfl (eq48 ((at_ a_.Follows i).Sort_) ((at_ a_.Follows i).Set.w0) ((at_ a_.Follows i).Set.w1) ((at_ a_.Follows i).Set.w2) ((at_ a_.Follows i).Set.w3) ((at_ b.Follows i).Sort_) ((at_ b.Follows i).Set.w0) ((at_ b.Follows i).Set.w1) ((at_ b.Follows i).Set.w2) ((at_ b.Follows i).Set.w3)) rfl guard48) (d_done_seq (by kernel_rfl) ?_)))
 refine cC hL2 (fun hL2 => ?_) (fun hL2 => ?_)
 refine cR (oV vA (o_seq (c_ret ?_)))
 cases hL2
 obtain rfl := lrf_ret hF
 exact sR
 refine c_skip (sat_wc (c_region (oV vM (oV vB (oV vA (o_nil ?_))))))
 exact lp [0, 0] [0, 1, 2, 3, 4, 5, 6, 7, 8, 9] fun a w hs => ⟨IntKind.wrap .i64 (i + 1), hL2, hs⟩
 refine c_exit0 ?_
 cases hL2
 exact sK [0, 0] [0, 1, 2, 3, 4, 5, 6, 7, 8, 9] (hN2 () rfl)
 intro d2 hd
 subst hd
 replace hF := lrf_done hF
 refine sat_wc (c_seq (cR (oV vA (o_seq ?_))))
 obtain ⟨o3, ho3, hF⟩ := bd hF
 refine cT (fun E H Φ N' => ∀ (d3 : Unit), o3 = .done d3 → Sat E [(0, .agg (vDef a_ A1 L1 C1 A2 L2 C2 A3 L3 C3 A4 L4 C4 A5 L5 C5).toArray), (1, .agg (vDef b A6 L6 C6 A7 L7 C7 A8 L8 C8 A9 L9 C9 A10 L10 C10).toArray), (2, pt b1), (3, pt b2), (4, bV false)] H Φ N') (fun N3 hN3 => ?_) ?_
 refine c_block ?_
 refine cL (fun E H Φ j a w => ∃ (i1 : Int), F.ref03.Same_l3 a_ b j i1 = some o3 ∧ St E [(0, .agg (vDef a_ A1 L1 C1 A2 L2 C2 A3 L3 C3 A4 L4 C4 A5 L5 C5).toArray), (1, .agg (vDef b A6 L6 C6 A7 L7 C7 A8 L8 C8 A9 L9 C9 A10 L10 C10).toArray), (2, pt b1), (3, pt b2), (4, bV false), (6, iI i1)] H Φ a w) k ?_ ?_
 exact lq [0, 0] [0, 1, 2, 3, 4, 5, 6, 7, 8, 9] fun a w hs => ⟨0, ho3, hs⟩
 rintro j a w ⟨i1, hL3, hs⟩
 rcases j with _ | j
 cases hL3
 refine wc_app hs ?_
 unfold F.ref03.Same_l3 at hL3
 refine c_seq (cR (oV vM ((fD 5) (oV (vL 1 ty25) (oV (v_lenS (enc := eReject) a_.Rejects sl25 rfl (.f 3 rfl)) (oV vB (o_seq ?_)))))))
 refine cC hL3 (fun hL3 => ?_) (fun hL3 => ?_)
 refine c_skip (sat_wc (c_seq (c_block (c_seq (c_draw (n := 11) [0, 0] mixed rfl rfl (dv 0 rfl (vF 5) (dv 1 rfl (vL 1 ty25) (dv 2 rfl vM (ite_some hL3 ?_)))))))))
 intro h7 hL3
 refine dv 3 rfl (v_indexAddr_s (xs := a_.Rejects) (enc := eReject) sl25 rfl rfl (.f 3 rfl) h7) (dv 4 rfl (v_load_s (xs := a_.Rejects) (enc := eReject) ty78 rfl (.f 3 rfl) h7 rfl rfl rfl rfl rfl rfl rfl) (dv 5 rfl (vF 5) (dv 6 rfl (vL 0 ty25) (dv 7 rfl vM (ite_some hL3 ?_)))))
 intro h8 hL3
 refine ?_
 refine dv 8 rfl (v_indexAddr_s (xs := b.Rejects) (enc := eReject) sl25 rfl rfl (.f 8 rfl) h8) (dv 9 rfl (v_load_s (xs := b.Rejects) (enc := eReject) ty78 rfl (.f 8 rfl) h8 rfl rfl rfl rfl rfl rfl rfl) (dv 10 rfl (v_agne 2 rfl rfl (eq78 ((at_ a_.Rejects i1).Sort_) ((at_ a_.Rejects i1).By) ((at_ b.Rejects i1).Sort_) ((at_ b.Rejects i1).By)) rfl guard78) (d_done_seq (by kernel_rfl) ?_)))
 refine cC hL3 (fun hL3 => ?_) (fun hL3 => ?_)
 refine cR (oV vA (o_seq (c_ret ?_)))
 cases hL3
 obtain rfl := lrf_ret hF
 exact sR
 refine c_skip (sat_wc (c_region (oV vM (oV vB (oV vA (o_nil ?_))))))
 exact lp [0, 0] [0, 1, 2, 3, 4, 5, 6, 7, 8, 9] fun a w hs => ⟨IntKind.wrap .i64 (i1 + 1), hL3, hs⟩
 refine c_exit0 ?_
 cases hL3
 exact sK [0, 0] [0, 1, 2, 3, 4, 5, 6, 7, 8, 9] (hN3 () rfl)
 intro d3 hd
 subst hd
 replace hF := lrf_done hF
 refine sat_wc (c_seq (cR (oV vA (o_seq ?_))))
 obtain ⟨o4, ho4, hF⟩ := bd hF
 refine cT (fun E H Φ N' => ∀ (d4 : Unit), o4 = .done d4 → Sat E [(0, .agg (vDef a_ A1 L1 C1 A2 L2 C2 A3 L3 C3 A4 L4 C4 A5 L5 C5).toArray), (1, .agg (vDef b A6 L6 C6 A7 L7 C7 A8 L8 C8 A9 L9 C9 A10 L10 C10).toArray), (2, pt b1), (3, pt b2), (4, bV false)] H Φ N') (fun N4 hN4 => ?_) ?_
 refine c_block ?_
 refine cL (fun E H Φ j a w => ∃ (i2 : Int), F.ref03.Same_l4 k a_ b j i2 = some o4 ∧ St E [(0, .agg (vDef a_ A1 L1 C1 A2 L2 C2 A3 L3 C3 A4 L4 C4 A5 L5 C5).toArray), (1, .agg (vDef b A6 L6 C6 A7 L7 C7 A8 L8 C8 A9 L9 C9 A10 L10 C10).toArray), (2, pt b1), (3, pt b2), (4, bV false), (7, iI i2)] H Φ a w) k ?_ ?_
 exact lq [0, 0] [0, 1, 2, 3, 4, 5, 6, 7, 8, 9] fun a w hs => ⟨0, ho4, hs⟩
 rintro j a w ⟨i2, hL4, hs⟩
 rcases j with _ | j
 cases hL4
 refine wc_app hs ?_
 unfold F.ref03.Same_l4 at hL4
 refine c_seq (cR (oV vM ((fD 6) (oV (vL 1 ty26) (oV (v_lenS (enc := eBox) a_.Boxes sl26 rfl (.f 4 rfl)) (oV vB (o_seq ?_)))))))
 refine cC hL4 (fun hL4 => ?_) (fun hL4 => ?_)
 refine c_skip (sat_wc (c_seq ?_))
 refine cT (fun E H Φ N' => F.ref03.Same_j5 (F.ref03.Same_l4 k a_ b j) i2 = some o4 → Sat E [(0, .agg (vDef a_ A1 L1 C1 A2 L2 C2 A3 L3 C3 A4 L4 C4 A5 L5 C5).toArray), (1, .agg (vDef b A6 L6 C6 A7 L7 C7 A8 L8 C8 A9 L9 C9 A10 L10 C10).toArray), (2, pt b1), (3, pt b2), (4, bV false), (7, iI i2)] H Φ N') (fun N5 hN5 => ?_) ?_
 refine c_block (c_seq (c_draw (n := 29) [0, 0] mixed rfl rfl (dv 0 rfl (vF 6) (dv 1 rfl (vL 1 ty26) (dv 2 rfl vM (ite_some hL4 ?_))))))
 intro h11 hL4
 refine dv 3 rfl (v_indexAddr_s (xs := a_.Boxes) (enc := eBox) sl26 rfl rfl (.f 4 rfl) h11) (dv 4 rfl (v_fieldAddr (v := .pointer (some ⟨blkA A5, offA A5 + (Int.toNat i2 * 2 + 0), none⟩)) rfl (fun _ => by kernel_rfl)) (dv 5 rfl (v_load_s (xs := a_.Boxes) (enc := eBox) ty9 rfl (.f 4 rfl) h11 rfl rfl rfl rfl rfl rfl rfl) (dv 6 rfl (vF 6) (dv 7 rfl (vL 0 ty26) (dv 8 rfl vM (ite_some hL4 ?_))))))
 intro h12 hL4
 refine dv 9 rfl (v_indexAddr_s (xs := b.Boxes) (enc := eBox) sl26 rfl rfl (.f 9 rfl) h12) (dv 10 rfl (v_fieldAddr (v := .pointer (some ⟨blkA A10, offA A10 + (Int.toNat i2 * 2 + 0), none⟩)) rfl (fun _ => by kernel_rfl)) ?_)
 refine dv 11 rfl (v_load_s (xs := b.Boxes) (enc := eBox) ty9 rfl (.f 9 rfl) h12 rfl rfl rfl rfl rfl rfl rfl) (dv 12 rfl (v_strne rfl rfl) (dv 13 rfl vM ?_))
 refine d_split (t := 103) rfl (fun h13 => ?_) (fun h13 => ?_)
 replace hL4 := ite_t h13 hL4
 refine dF 14 rfl (dF 15 rfl (dF 16 rfl (dF 17 rfl (dF 18 rfl (dF 19 rfl (dF 20 rfl (dF 21 rfl (dF 22 rfl (dF 23 rfl (dF 24 rfl (dF 25 rfl (dF 26 rfl (dF 27 rfl (dv 28 rfl vPt (d_done_seq (by kernel_rfl) ?_)))))))))))))))
 refine c_cond rfl (fun _ => ?_) (fun h => Bool.noConfusion h)
 refine cR (oV vA (o_seq (c_ret ?_)))
 cases hL4
 obtain rfl := lrf_ret hF
 exact sR
 replace hL4 := ite_f h13 hL4
 refine dw 14 rfl rfl rfl (vF 6) (dw 15 rfl rfl rfl (vL 1 ty26) (dw 16 rfl rfl rfl vM (dw 17 rfl rfl rfl (v_indexAddr_s (xs := a_.Boxes) (enc := eBox) sl26 rfl rfl (.f 4 rfl) h11) (dw 18 rfl rfl rfl (v_fieldAddr (v := .pointer (some ⟨blkA A5, offA A5 + (Int.toNat i2 * 2 + 1), none⟩)) rfl (fun _ => by kernel_rfl)) (dw 20 rfl rfl rfl (vF 6) (dw 21 rfl rfl rfl (vL 0 ty26) (dw 22 rfl rfl rfl vM (dw 23 rfl rfl rfl (v_indexAddr_s (xs := b.Boxes) (enc := eBox) sl26 rfl rfl (.f 9 rfl) h12) (dw 24 rfl rfl rfl (v_fieldAddr (v := .pointer (some ⟨blkA A10, offA A10 + (Int.toNat i2 * 2 + 1), none⟩)) rfl (fun _ => by kernel_rfl)) ?_)))))))))
 obtain ⟨v, h14, hL4⟩ := bd hL4
 refine d_all [19, 25] (by kernel_rfl) (by simp) ⟨⟨_, rfl, ?_⟩, ⟨_, rfl, ?_⟩, trivial⟩
 refine oN (o_load_s (xs := a_.Boxes) (enc := eBox) ty62 rfl (.f 4 rfl) h11 rfl rfl rfl rfl rfl rfl ?_)
 intro A11 L11 C11
 refine dN [0, 0] 1 (dO 25 rfl (oN (o_load_s (xs := b.Boxes) (enc := eBox) ty62 rfl (.f 10 rfl) h12 rfl rfl rfl rfl rfl rfl ?_)))
 intro A12 L12 C12
 refine dN [0, 0] 2 (dO 26 rfl (oN (o_callSB call34 rfl (lent_f 1 rfl (lent_f 0 rfl lent_nil)) ((tri34 _) h14 :) rfl (dN [0, 0] 2 (dw 27 rfl rfl rfl vN (dv 28 rfl vPf (d_done_seq (by kernel_rfl) ?_)))))))
 refine cC hL4 (fun hL4 => ?_) (fun hL4 => ?_)
 refine cR (oV vA (o_seq (c_ret ?_)))
 cases hL4
 obtain rfl := lrf_ret hF
 exact sR
 refine c_skip ?_
 exact sK [0, 0] [2, 3, 4, 5, 6, 7, 8, 9, 10, 11] (hN5 hL4)
 refine oN (o_load_s (xs := b.Boxes) (enc := eBox) ty62 rfl (.f 9 rfl) h12 rfl rfl rfl rfl rfl rfl ?_)
 intro A11 L11 C11
 refine dN [0, 0] 1 (dO 19 rfl (oN (o_load_s (xs := a_.Boxes) (enc := eBox) ty62 rfl (.f 5 rfl) h11 rfl rfl rfl rfl rfl rfl ?_)))
 intro A12 L12 C12
 refine dN [0, 0] 2 (dO 26 rfl (oN (o_callSB call34 rfl (lent_f 0 rfl (lent_f 1 rfl lent_nil)) ((tri34 _) h14 :) rfl (dN [0, 0] 2 (dw 27 rfl rfl rfl vN (dv 28 rfl vPf (d_done_seq (by kernel_rfl) ?_)))))))
 refine cC hL4 (fun hL4 => ?_) (fun hL4 => ?_)
 refine cR (oV vA (o_seq (c_ret ?_)))
 cases hL4
 obtain rfl := lrf_ret hF
 exact sR
 refine c_skip ?_
 exact sK [0, 0] [2, 3, 4, 5, 6, 7, 8, 9, 10, 11] (hN5 hL4)
 intro hL4
 unfold F.ref03.Same_j5 at hL4
 refine sat_wc (c_region (oV vM (oV vB (oV vA (o_nil ?_)))))
 exact lp [0, 0] [0, 1, 2, 3, 4, 5, 6, 7, 8, 9] fun a w hs => ⟨IntKind.wrap .i64 (i2 + 1), hL4, hs⟩
 refine c_exit0 ?_
 cases hL4
 exact sK [0, 0] [0, 1, 2, 3, 4, 5, 6, 7, 8, 9] (hN4 () rfl)
 intro d4 hd
 subst hd
 replace hF := lrf_done hF
 refine sat_wc (cR ((fD 2) (oV (vL 1 ty22) ((fD 2) (oV (vL 0 ty22) ?_)))))
 obtain ⟨v1, h16, hF⟩ := bd hF
 refine o_callSB call35 rfl (lent_f 0 rfl (lent_f 5 rfl lent_nil)) (tri35 h16 :) rfl (oV vM ?_)
 refine oS 124 hF (fun hF => ?_) (fun hF => ?_)
 refine oN ((fD 3) (oN (oV (vL 1 ty23) (oN ((fD 3) (oN (oV (vL 0 ty23) (oN ?_))))))))
 obtain ⟨v2, h18, hF⟩ := bd hF
 refine o_callSB call36 rfl (lent_f 1 rfl (lent_f 6 rfl lent_nil)) (tri36 h18 :) rfl (oV vPt (oV vA (o_seq (c_ret ?_))))
 cases hF
 exact sR
 refine oF (oF (oF (oF (oF (oV vPf (oV vA (o_seq (c_ret ?_))))))))
 cases hF
 exact sR
theorem tri7 {k : Nat} {text_ : Tx} {r : Bool} (hF : F.law03.DefsBlanks k text_ = some r) :
    Tri Tryz.prog 7 [sV text_] [] [gf10 1] (oR (bV r)) := by
 unfold F.law03.DefsBlanks at hF
 refine tri_intro (n := 58) Tryz.func7 rfl Tryz.ntmps7 rfl fun w X => cR (oV vA (o_seq (c_seq (cR (oV vM (oV (v_len_str Tryz.underlying9 rfl) (oV vB (o_seq ?_))))))))
 refine cC hF (fun hF => ?_) (fun hF => ?_)
 refine cR ?_
 obtain ⟨v, h2, hF⟩ := bd hF
 refine o_callSB call11 rfl (lent_f 0 rfl lent_nil) (tri11 h2 :) rfl (oV vA (o_seq (c_ret ?_)))
 cases hF
 exact sR
 refine c_skip (sat_wc (cR (oV vM ?_)))
 obtain ⟨v1, h3, hF⟩ := bd hF
 refine o_call0 call20 rfl sub_nil (tri20 h3 :) rfl ?_
 rintro _ _ _ ⟨A1, L1, C1, rfl, rfl, rfl⟩
 refine oV vM (oV vX (oV vX (o_alloc zero37 rfl rfl ?_)))
 intro b
 refine oV vA ((sT 0 ty37) (o_seq (c_seq (cR ((fD 1) (oV (vL 0 ty32) (oV vB (o_seq ?_))))))))
 refine cC hF (fun hF => ?_) (fun hF => ?_)
 refine cR (oV vM ?_)
 obtain ⟨v2, h5, hF⟩ := bd hF
 refine o_call0 call16 rfl sub_nil (tri16 h5 :) rfl ?_
 rintro _ _ _ ⟨A2, L2, C2, A3, L3, C3, A4, L4, C4, A5, L5, C5, A6, L6, C6, rfl, rfl, rfl⟩
 refine oV vM (oV vX (oV vX (o_alloc zero28 rfl rfl ?_)))
 intro b1
 refine o_alloc zero37 rfl rfl fun b2 => (sT 1 ty28) ((sT 0 ty37) (o_seq (cR ?_)))
 obtain ⟨v3, h6, hF⟩ := bd hF
 refine o_callSB call11 rfl (lent_f 5 rfl lent_nil) (tri11 h6 :) rfl (oV vM ?_)
 refine oS 29 hF (fun hF => ?_) (fun hF => ?_)
 refine oN (oV (vL 0 ty37) (oN (oV (vL 2 ty37) (oN (oV (v_ageq 2 rfl rfl (eq37 v2.2.At v2.2.Code v1.2.At v1.2.Code) rfl guard37) (oV vPt (oV vA (o_seq (c_ret ?_)))))))))
 cases hF
 exact sR
 refine oF (oF (oF (oV vPf (oV vA (o_seq (c_ret ?_))))))
 cases hF
 exact sR
 refine c_skip (sat_wc (cR (oV vM ?_)))
 obtain ⟨v4, h8, hF⟩ := bd hF
 refine o_call0 call16 rfl sub_nil (tri16 h8 :) rfl ?_
 rintro _ _ _ ⟨A7, L7, C7, A8, L8, C8, A9, L9, C9, A10, L10, C10, A11, L11, C11, rfl, rfl, rfl⟩
 refine oV vM (oV vX (oV vX (o_alloc zero28 rfl rfl ?_)))
 intro b3
 refine o_alloc zero37 rfl rfl fun b4 => (sT 1 ty28) ((sT 0 ty37) (o_seq (cR (oV vM ?_))))
 obtain ⟨v5, h9, hF⟩ := bd hF
 refine o_callSB call21 rfl (lent_r 3 rfl lent_nil) (tri21 h9 :) rfl ?_
 obtain ⟨v6, h10, hF⟩ := bd hF
 refine o_call0 call16 rfl sub_nil (tri16 h10 :) rfl ?_
 rintro _ _ _ ⟨A12, L12, C12, A13, L13, C13, A14, L14, C14, A15, L15, C15, A16, L16, C16, rfl, rfl, rfl⟩
 refine oV vM (oV vX (oV vX (o_alloc zero28 rfl rfl ?_)))
 intro b5
 refine o_alloc zero37 rfl rfl fun b6 => (sT 1 ty28) ((sT 0 ty37) (o_seq (cR ?_)))
 obtain ⟨v7, h11, hF⟩ := bd hF
 refine o_callSB call11 rfl (lent_f 10 rfl lent_nil) (tri11 h11 :) rfl (oV vM ?_)
 refine oS 46 hF (fun hF => ?_) (fun hF => ?_)
 refine oN (oV (vL 3 ty28) (oN (oV (vL 1 ty28) (oN ?_))))
 obtain ⟨v8, h13, hF⟩ := bd hF
 refine o_callSB call15 rfl (lent_f 5 rfl (lent_f 6 rfl (lent_f 7 rfl (lent_f 8 rfl (lent_f 9 rfl (lent_f 0 rfl (lent_f 1 rfl (lent_f 2 rfl (lent_f 3 rfl (lent_f 4 rfl lent_nil)))))))))) (tri15 h13 :) rfl (oV vPt (oV vM ?_))
 refine oS 51 hF (fun hF => ?_) (fun hF => ?_)
 refine oN ((fD 1) (oN (oV (vL 2 ty32) (oN ((fD 1) (oN (oV (vL 0 ty32) (oN (oV vB (oV vPt (oV vA (o_seq (c_ret ?_)))))))))))))
 cases hF
 exact sR
 refine oF (oF (oF (oF (oF (oV vPf (oV vA (o_seq (c_ret ?_))))))))
 cases hF
 exact sR
 refine oF (oF (oF (oV vPf (oV vM (oF (oF (oF (oF (oF (oV vPf (oV vA (o_seq (c_ret ?_)))))))))))))
 cases hF
 exact sR
end Go.Vc
