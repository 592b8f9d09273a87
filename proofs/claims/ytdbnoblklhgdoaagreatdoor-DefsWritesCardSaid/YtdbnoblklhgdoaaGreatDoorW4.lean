import Derived.Test.YtdbnoblklhgdoaaGreatDoorW3
set_option linter.unusedVariables false
set_option linter.unusedSimpArgs false
set_option maxRecDepth 8000
set_option maxHeartbeats 2000000
namespace Go.Vc
open Go Go.Proofs
variable {A1 A2 A3 A4 A5 A6 A7 A8 A9 A10 A11 A12 A13 A14 A15 A16 A17 A18 A19 A20 A21 A22 A23 A24 A25 A26 A27 A28 A29 A30 A31 A32 A33 A34 A35 : OA} {L1 C1 L2 C2 L3 C3 L4 C4 L5 C5 L6 C6 L7 C7 L8 C8 L9 C9 L10 C10 L11 C11 L12 C12 L13 C13 L14 C14 L15 C15 L16 C16 L17 C17 L18 C18 L19 C19 L20 C20 L21 C21 L22 C22 L23 C23 L24 C24 L25 C25 L26 C26 L27 C27 L28 C28 L29 C29 L30 C30 L31 C31 L32 C32 L33 C33 L34 C34 L35 C35 : Nat}
theorem tri110 {k : Nat} {s : Sym} {r : Tx} (hF : F.ref03.symText k s = some r) :
    Tri Tryz.prog 110 [.agg (vSym s).toArray] [] [] (oR (sV r)) := by
 unfold F.ref03.symText at hF
 refine tri_intro (n := 45) Tryz.func110 rfl Tryz.ntmps110 rfl fun w X => cR (o_box rfl rfl rfl fun b => oV vA (o_seq (cR ((fD 6) (oV (vL 0 ty9) (oV vA (o_seq (c_seq (cR ((fD 6) ?_))))))))))
 refine oV (vL 0 ty9) (oV (v_streq rfl rfl) (o_seq ?_))
 refine cT (fun E H Φ N' => ∀ (part : Tx), F.ref03.symText_j1 k s part = some r → Sat E [(0, .agg (vSym s).toArray), (1, pt b), (2, sV ([] : Tx)), (3, sV part)] H [] N') (fun N2 hN2 => ?_) ?_
 refine cC hF (fun hF => ?_) (fun hF => ?_)
 refine c_region ((fD 2) (oV (vL 0 ty44) ?_))
 obtain ⟨v2, h16, hF⟩ := bd hF
 refine o_callSB call76 rfl lent_nil (tri76 h16 :) rfl (oV vA (o_nil ?_))
 exact sK [0] [] (hN2 v2 hF)
 refine c_skip ?_
 exact sK [0] [] (hN2 s.Name hF)
 intro part hF
 unfold F.ref03.symText_j1 at hF
 refine sat_wc (c_seq (cR ((fD 7) (oV (vL 0 ty9) (oV (v_strne rfl rfl) (o_seq ?_))))))
 refine cT (fun E H Φ N' => ∀ (part1 : Tx), F.ref03.symText_j2 k s part1 = some r → Sat E [(0, .agg (vSym s).toArray), (1, pt b), (2, sV ([] : Tx)), (3, sV part1)] H [] N') (fun N2 hN2 => ?_) ?_
 refine cC hF (fun hF => ?_) (fun hF => ?_)
 refine c_region (oV vM (ite_some hF ?_))
 intro h10 hF
 refine oV (vS h10) (ite_some hF ?_)
 intro h11 hF
 refine oV (vS h11) ((fD 7) (oV (vL 0 ty9) (o_strBytes Tryz.underlying9 Tryz.underlying67 Tryz.underlying5 rfl rfl ?_)))
 intro A2 L2 C2
 refine ?_
 obtain ⟨v1, h12, hF⟩ := bd hF
 refine o_callSB call113 rfl (lent_f 0 rfl lent_nil) (tri113 h12 :) rfl (ite_some hF fun h13 hF => oV (vS h13) (ite_some hF ?_))
 intro h14 hF
 refine oV (vS h14) (oV vA (o_nil ?_))
 exact sK [0] [] (hN2 ((((([123] : Tx) ++ part) ++ ([32] : Tx)) ++ v1) ++ ([125] : Tx)) hF)
 refine c_skip ?_
 exact sK [0] [] (hN2 part hF)
 intro part1 hF
 unfold F.ref03.symText_j2 at hF
 refine sat_wc (c_seq (cR ((fD 0) (oV (vL 0 ty3) (o_seq (c_block (cR (oV vB (oV vA (o_seq ?_))))))))))
 refine cC hF (fun hF => ?_) (fun hF => ?_)
 refine cR ((fD 1) (oV (vL 0 ty9) (o_strBytes Tryz.underlying9 Tryz.underlying67 Tryz.underlying5 rfl rfl ?_)))
 intro A1 L1 C1
 refine ?_
 obtain ⟨v, h2, hF⟩ := bd hF
 refine o_callSB call113 rfl (lent_f 0 rfl lent_nil) (tri113 h2 :) rfl (oV vA (o_seq (c_ret ?_)))
 cases hF
 exact sR
 refine cR (oV vB (oV vA (o_seq ?_)))
 refine cC hF (fun hF => ?_) (fun hF => ?_)
 refine cR (oV vM (ite_some hF ?_))
 intro h4 hF
 refine oV (vS h4) (oV vA (o_seq (c_ret ?_)))
 cases hF
 exact sR
 refine cR (oV vB (oV vA (o_seq ?_)))
 refine cC hF (fun hF => ?_) (fun hF => ?_)
 refine cR (oV vM (ite_some hF ?_))
 intro h6 hF
 refine oV (vS h6) (oV vA (o_seq (c_ret ?_)))
 cases hF
 exact sR
 refine cR (oV vB (oV vA (o_seq ?_)))
 refine cC hF (fun hF => ?_) (fun hF => ?_)
 refine cR (oV vM (ite_some hF ?_))
 intro h8 hF
 refine oV (vS h8) (oV vA (o_seq (c_ret ?_)))
 cases hF
 exact sR
 refine c_skip (sat_wc (cR (oV vM (oV vA (o_seq (c_ret ?_))))))
 cases hF
 exact sR
theorem tri74 {k : Nat} {p : Prod} {r : Tx} (hF : F.ref03.prodText k p = some r) :
    Tri Tryz.prog 74 [.agg (vProd p A1 L1 C1).toArray] [] [fS A1 L1 C1 8 eSym p.Syms] (oR (sV r)) := by
 unfold F.ref03.prodText at hF
 refine tri_intro (n := 42) Tryz.func74 rfl Tryz.ntmps74 rfl fun w X => cR (o_box rfl rfl rfl fun b => oV vA (o_seq (cR (oV vA (o_seq (c_seq (cR ((fD 0) (oV (vL 0 ty4) (o_seq ?_))))))))))
 refine cT (fun E H Φ N' => ∀ (s : Tx), F.ref03.prodText_j1 k p s = some r → Sat E [(0, .agg (vProd p A1 L1 C1).toArray), (1, pt b), (2, sV ([] : Tx)), (3, sV s)] H Φ N') (fun N3 hN3 => ?_) ?_
 refine cC hF (fun hF => ?_) (fun hF => ?_)
 refine c_region (oV vA (o_nil ?_))
 exact sK [0] [0] (hN3 ([108, 101, 120, 32] : Tx) hF)
 refine c_skip ?_
 exact sK [0] [0] (hN3 ([99, 102, 32] : Tx) hF)
 intro s hF
 unfold F.ref03.prodText_j1 at hF
 refine sat_wc (cR (oV vM ((fD 1) (oV (vL 0 ty9) (ite_some hF ?_)))))
 intro h1 hF
 refine oV (vS h1) (oV vA (o_seq (c_seq (cR ((fD 2) (oV (vL 0 ty9) (oV (v_strne rfl rfl) ?_)))))))
 refine o_seq ?_
 refine cT (fun E H Φ N' => ∀ (s1 : Tx), F.ref03.prodText_j2 k p s1 = some r → Sat E [(0, .agg (vProd p A1 L1 C1).toArray), (1, pt b), (2, sV ([] : Tx)), (3, sV s1)] H Φ N') (fun N3 hN3 => ?_) ?_
 refine cC hF (fun hF => ?_) (fun hF => ?_)
 refine c_region (oV vM (ite_some hF ?_))
 intro h11 hF
 refine oV (vS h11) ((fD 2) (oV (vL 0 ty9) (ite_some hF ?_)))
 intro h12 hF
 refine oV (vS h12) (oV vA (o_nil ?_))
 exact sK [0] [0] (hN3 (((s ++ p.Sort_) ++ ([46] : Tx)) ++ p.Cons) hF)
 refine c_skip ?_
 exact sK [0] [0] (hN3 (s ++ p.Sort_) hF)
 intro s1 hF
 unfold F.ref03.prodText_j2 at hF
 refine sat_wc (cR (oV vM (ite_some hF ?_)))
 intro h2 hF
 refine oV (vS h2) (oV vA (o_seq (c_seq (cR (oV vA (o_seq ?_))))))
 obtain ⟨o3, ho3, hF⟩ := bd hF
 refine cT (fun E H Φ N' => Sat E [(0, .agg (vProd p A1 L1 C1).toArray), (1, pt b), (2, sV ([] : Tx)), (3, sV o3)] H Φ N') (fun N3 hN3 => ?_) ?_
 refine c_block ?_
 refine cL (fun E H Φ j a w => ∃ (s2 : Tx) (i : Int), F.ref03.prodText_l3 k p j s2 i = some o3 ∧ St E [(0, .agg (vProd p A1 L1 C1).toArray), (1, pt b), (2, sV ([] : Tx)), (3, sV s2), (4, iI i)] H Φ a w) k ?_ ?_
 exact lq [0] [0] fun a w hs => ⟨(s1 ++ ([32, 61] : Tx)), 0, ho3, hs⟩
 rintro j a w ⟨s2, i, hL3, hs⟩
 rcases j with _ | j
 cases hL3
 refine wc_app hs ?_
 unfold F.ref03.prodText_l3 at hL3
 refine c_seq (cR (oV vM ((fD 4) (oV (vL 0 ty55) (oV (v_lenS (enc := eSym) p.Syms sl55 rfl (.f 0 rfl)) (oV vB (o_seq ?_)))))))
 refine cC hL3 (fun hL3 => ?_) (fun hL3 => ?_)
 refine c_skip (sat_wc (c_seq (c_block (c_region (oV vM (ite_some hL3 ?_))))))
 intro h4 hL3
 refine oV (vS h4) ((fD 4) (oV (vL 0 ty55) (oV vM (ite_some hL3 ?_))))
 intro h5 hL3
 refine oV (v_indexAddr_s (xs := p.Syms) (enc := eSym) sl55 rfl rfl (.f 0 rfl) h5) (oV (v_load_s (xs := p.Syms) (enc := eSym) ty114 rfl (.f 0 rfl) h5 rfl rfl rfl rfl rfl rfl rfl) ?_)
 obtain ⟨v, h6, hL3⟩ := bd hL3
 refine o_callSB call110 rfl lent_nil (tri110 h6 :) rfl (ite_some hL3 fun h7 hL3 => oV (vS h7) (oV vA (o_nil (sat_wc (c_region (oV vM (oV vB (oV vA (o_nil ?_)))))))))
 exact lp [0] [0] fun a w hs => ⟨((s2 ++ ([32] : Tx)) ++ v), IntKind.wrap .i64 (i + 1), hL3, hs⟩
 refine c_exit0 ?_
 cases hL3
 exact sK [0] [0] (hN3)
 refine sat_wc (c_seq (cR ((fD 3) (oV (vL 0 ty4) (o_seq ?_)))))
 refine cC hF (fun hF => ?_) (fun hF => ?_)
 refine c_region (oV vM (ite_some hF ?_))
 intro h9 hF
 refine oV (vS h9) (oV vA (o_seq (cR (oV vM (oV vA (o_seq (c_ret ?_)))))))
 cases hF
 exact sR
 refine c_skip (sat_wc (cR (oV vM (oV vA (o_seq (c_ret ?_))))))
 cases hF
 exact sR
theorem tri75 {k : Nat} {l__ : List Group} {r : Tx} (hF : F.ref03.chainText k l__ = some r) :
    Tri Tryz.prog 75 [sl A1 L1 C1] [] [fS A1 L1 C1 2 eGroup l__] (oR (sV r)) := by
 unfold F.ref03.chainText at hF
 refine tri_intro (n := 55) Tryz.func75 rfl Tryz.ntmps75 rfl fun w X => cR (oV vA (o_seq (cR (oV vA (o_seq (c_seq (cR (oV vA (o_seq ?_)))))))))
 obtain ⟨o1, ho1, hF⟩ := bd hF
 refine c_cut (fun E N' => Sat E [(2, sV ([] : Tx)), (3, sV o1)] [] [] N') (fun N1 hN1 => ?_) ?_
 refine c_block ?_
 refine cL (fun E H Φ j a w => ∃ (s : Tx) (i : Int), F.ref03.chainText_l1 k l__ j s i = some o1 ∧ St E [(0, sl A1 L1 C1), (2, sV ([] : Tx)), (3, sV s), (4, iI i)] [] Φ a w) k ?_ ?_
 exact lq [] [0] fun a w hs => ⟨([112, 114, 105, 111] : Tx), 0, ho1, hs⟩
 rintro j a w ⟨s, i, hL1, hs⟩
 rcases j with _ | j
 cases hL1
 refine wc_app hs ?_
 unfold F.ref03.chainText_l1 at hL1
 refine c_seq (cR (oV vM (oV vM (oV (v_lenS (enc := eGroup) l__ sl58 rfl (.f 0 rfl)) (oV vB (o_seq ?_))))))
 refine cC hL1 (fun hL1 => ?_) (fun hL1 => ?_)
 refine c_skip (sat_wc (c_seq ?_))
 refine cT (fun E H Φ N' => ∀ (s1 : Tx) (k_ : Int), F.ref03.chainText_j2 (F.ref03.chainText_l1 k l__ j) i s1 k_ = some o1 → Sat E [(0, sl A1 L1 C1), (2, sV ([] : Tx)), (3, sV s1), (4, iI i), (5, iI k_), (20, iI ((at_ l__ i).Assoc))] [] Φ N') (fun N2 hN2 => ?_) ?_
 refine c_block (c_seq (cR (oV vM (oV vB (o_seq ?_)))))
 refine cT (fun E H Φ N' => ∀ (s2 : Tx), F.ref03.chainText_j3 k i l__ (F.ref03.chainText_l1 k l__ j) s2 = some o1 → Sat E [(0, sl A1 L1 C1), (2, sV ([] : Tx)), (3, sV s2), (4, iI i)] [] Φ N') (fun N8 hN8 => ?_) ?_
 refine cC hL1 (fun hL1 => ?_) (fun hL1 => ?_)
 refine c_region (oV vM (ite_some hL1 ?_))
 intro h14 hL1
 refine oV (vS h14) (oV vA (o_nil ?_))
 exact sK [] [0] (hN8 (s ++ ([32, 62] : Tx)) hL1)
 refine c_skip ?_
 exact sK [] [0] (hN8 s hL1)
 intro s2 hL1
 unfold F.ref03.chainText_j3 at hL1
 refine sat_wc (c_seq (cR (oV vM (oV vM (ite_some hL1 ?_)))))
 intro h2 hL1
 refine oV (v_indexAddr_s (xs := l__) (enc := eGroup) sl58 rfl rfl (.f 0 rfl) h2) (oV (v_fieldAddr (v := .pointer (some ⟨blkA A1, offA A1 + (Int.toNat i * 2 + 0), none⟩)) rfl (fun _ => by kernel_rfl)) (oV (v_load_s (xs := l__) (enc := eGroup) ty3 rfl (.f 0 rfl) h2 rfl rfl rfl rfl rfl rfl rfl) (o_seq ?_)))
 refine cT (fun E H Φ N' => ∀ (s3 : Tx), F.ref03.chainText_j4 k l__ i (F.ref03.chainText_l1 k l__ j) s3 = some o1 → Sat E [(0, sl A1 L1 C1), (2, sV ([] : Tx)), (3, sV s3), (4, iI i), (20, iI ((at_ l__ i).Assoc))] [] Φ N') (fun N5 hN5 => ?_) ?_
 refine c_block (cR (oV vB (oV vA (o_seq ?_))))
 refine cT (fun E H Φ N' => ∀ (s5 : Tx), F.ref03.chainText_j6 k l__ i (F.ref03.chainText_l1 k l__ j) s5 = some o1 → Sat E [(0, sl A1 L1 C1), (2, sV ([] : Tx)), (3, sV s5), (4, iI i), (20, iI ((at_ l__ i).Assoc))] [] Φ N') (fun N6 hN6 => ?_) ?_
 refine cC hL1 (fun hL1 => ?_) (fun hL1 => ?_)
 refine c_region (oV vM (ite_some hL1 ?_))
 intro h8 hL1
 refine oV (vS h8) (oV vA (o_nil ?_))
 exact sK [] [0] (hN6 (s2 ++ ([32, 108, 101, 102, 116] : Tx)) hL1)
 refine cR (oV vB (oV vA (o_seq ?_)))
 refine cT (fun E H Φ N' => ∀ (s6 : Tx), F.ref03.chainText_j7 k l__ i (F.ref03.chainText_l1 k l__ j) s6 = some o1 → Sat E [(0, sl A1 L1 C1), (2, sV ([] : Tx)), (3, sV s6), (4, iI i), (20, iI ((at_ l__ i).Assoc))] [] Φ N') (fun N7 hN7 => ?_) ?_
 refine cC hL1 (fun hL1 => ?_) (fun hL1 => ?_)
 refine c_region (oV vM (ite_some hL1 ?_))
 intro h10 hL1
 refine oV (vS h10) (oV vA (o_nil ?_))
 exact sK [] [0] (hN7 (s2 ++ ([32, 114, 105, 103, 104, 116] : Tx)) hL1)
 refine cR (oV vB (oV vA (o_seq ?_)))
 refine cT (fun E H Φ N' => ∀ (s7 : Tx), F.ref03.chainText_j8 k l__ i (F.ref03.chainText_l1 k l__ j) s7 = some o1 → Sat E [(0, sl A1 L1 C1), (2, sV ([] : Tx)), (3, sV s7), (4, iI i), (20, iI ((at_ l__ i).Assoc))] [] Φ N') (fun N8 hN8 => ?_) ?_
 refine cC hL1 (fun hL1 => ?_) (fun hL1 => ?_)
 refine c_region (oV vM (ite_some hL1 ?_))
 intro h12 hL1
 refine oV (vS h12) (oV vA (o_nil ?_))
 exact sK [] [0] (hN8 (s2 ++ ([32, 110, 111, 110] : Tx)) hL1)
 refine c_skip ?_
 exact sK [] [0] (hN8 s2 hL1)
 intro s7 hL1
 unfold F.ref03.chainText_j8 at hL1
 exact sK [] [0] (hN7 s7 hL1)
 intro s6 hL1
 unfold F.ref03.chainText_j7 at hL1
 exact sK [] [0] (hN6 s6 hL1)
 intro s5 hL1
 unfold F.ref03.chainText_j6 at hL1
 exact sK [] [0] (hN5 s5 hL1)
 intro s3 hL1
 unfold F.ref03.chainText_j4 at hL1
 refine sat_wc (cR (oV vA (o_seq ?_)))
 obtain ⟨o5, ho5, hL1⟩ := bd hL1
 refine cT (fun E H Φ N' => Sat E [(0, sl A1 L1 C1), (2, sV ([] : Tx)), (3, sV o5.1), (4, iI i), (5, iI o5.2), (20, iI ((at_ l__ i).Assoc))] [] Φ N') (fun N5 hN5 => ?_) ?_
 refine c_block ?_
 refine cL (fun E H Φ j a w => ∃ (s4 : Tx) (k_1 : Int), F.ref03.chainText_l5 l__ i j s4 k_1 = some o5 ∧ St E [(0, sl A1 L1 C1), (2, sV ([] : Tx)), (3, sV s4), (4, iI i), (5, iI k_1), (20, iI ((at_ l__ i).Assoc))] [] Φ a w) k ?_ ?_
 exact lq [] [0] fun a w hs => ⟨s3, 0, ho5, hs⟩
 rintro j a w ⟨s4, k_1, hL5, hs⟩
 rcases j with _ | j
 cases hL5
 refine wc_app hs ?_
 unfold F.ref03.chainText_l5 at hL5
 refine c_seq (cR (oV vM (oV vM (oV vM (oV (v_indexAddr_s (xs := l__) (enc := eGroup) sl58 rfl rfl (.f 0 rfl) h2) (oV (v_fieldAddr (v := .pointer (some ⟨blkA A1, offA A1 + (Int.toNat i * 2 + 1), none⟩)) rfl (fun _ => by kernel_rfl)) (o_load_s (xs := l__) (enc := eGroup) ty59 rfl (.f 0 rfl) h2 rfl rfl rfl rfl rfl rfl ?_)))))))
 intro A2 L2 C2
 refine oV (v_lenS (enc := eStr) ((at_ l__ i).Cons) sl59 rfl (.f 0 rfl)) (oV vB (o_seq ?_))
 refine cC hL5 (fun hL5 => ?_) (fun hL5 => ?_)
 refine c_skip (sat_wc (c_seq (c_block (c_region (oV vM (ite_some hL5 ?_))))))
 intro h4 hL5
 refine oV (vS h4) (oV vM (oV vM (oV (v_indexAddr_s (xs := l__) (enc := eGroup) sl58 rfl rfl (.f 1 rfl) h2) (oV (v_fieldAddr (v := .pointer (some ⟨blkA A1, offA A1 + (Int.toNat i * 2 + 1), none⟩)) rfl (fun _ => by kernel_rfl)) (o_load_s (xs := l__) (enc := eGroup) ty59 rfl (.f 1 rfl) h2 rfl rfl rfl rfl rfl rfl ?_)))))
 intro A3 L3 C3
 refine oV vM (ite_some hL5 ?_)
 intro h5 hL5
 refine oV (v_indexAddr_s (xs := (at_ l__ i).Cons) (enc := eStr) sl59 rfl rfl (.f 0 rfl) h5) ?_
 refine oV (v_load_s (xs := (at_ l__ i).Cons) (enc := eStr) ty9 rfl (.f 0 rfl) h5 rfl rfl rfl rfl rfl rfl rfl) (ite_some hL5 ?_)
 intro h6 hL5
 refine oV (vS h6) (oV vA (o_nil (sat_wc (c_region (oV vM (oV vB (oV vA (o_nil ?_))))))))
 exact lp [] [2] fun a w hs => ⟨((s4 ++ ([32] : Tx)) ++ (at_ ((at_ l__ i).Cons) k_1)), IntKind.wrap .i64 (k_1 + 1), hL5, hs⟩
 refine c_exit0 ?_
 cases hL5
 exact sK [] [1] (hN5)
 exact sK [] [0] (hN2 o5.1 o5.2 hL1)
 intro s1 k_ hL1
 unfold F.ref03.chainText_j2 at hL1
 refine sat_wc (c_region (oV vM (oV vB (oV vA (o_nil ?_)))))
 exact lp [] [0] fun a w hs => ⟨s1, IntKind.wrap .i64 (i + 1), hL1, hs⟩
 refine c_exit0 ?_
 cases hL1
 exact sK [] [] (hN1)
 refine sat_wc (cR (oV vM (oV vA (o_seq (c_ret ?_)))))
 cases hF
 exact sR
theorem tri114 {k : Nat} {n : Int} {r : Tx} (hF : F.ref03.Digits k n = some r) :
    Tri Tryz.prog 114 [iI n] [] [] (oR (sV r)) := by
 unfold F.ref03.Digits at hF
 refine tri_intro (n := 19) Tryz.func114 rfl Tryz.ntmps114 rfl fun w X => cR (oV vA (o_seq (c_seq (cR (oV vM (oV vB (o_seq ?_)))))))
 refine cC hF (fun hF => ?_) (fun hF => ?_)
 refine cR (oV vA (o_seq (c_ret ?_)))
 cases hF
 exact sR
 refine c_skip (sat_wc (cR (oV vA (o_seq ?_))))
 obtain ⟨o1, ho1, hF⟩ := bd hF
 refine c_block ?_
 refine c_loopE (fun E j a w => ∃ (n1 : Int) (out_ : Tx), F.ref03.Digits_l1 j n1 out_ = some o1 ∧ St E [(0, iI n1), (2, sV ([] : Tx)), (3, sV out_)] [] [] a w) k ?_ ?_
 exact lq [] [] fun a w hs => ⟨n, ([] : Tx), ho1, hs⟩
 rintro j a w ⟨n1, out_, hL1, hs⟩
 rcases j with _ | j
 cases hL1
 refine wc_app hs ?_
 unfold F.ref03.Digits_l1 at hL1
 refine c_block (cR (oV vM (oV (v_rem rfl rfl rfl) (oV vB (oV (v_convert (v := iB (IntKind.wrap .u8 (IntKind.wrap .i64 (48 + (grem n1 10))))) rfl (fun _ => by kernel_rfl)) (o_buildSlice (enc := eU8) ([IntKind.wrap .u8 (IntKind.wrap .i64 (48 + (grem n1 10)))] : List Int) [iB (IntKind.wrap .u8 (IntKind.wrap .i64 (48 + (grem n1 10))))] sl67 rfl (fun _ => by kernel_rfl) rfl rfl rfl (.s rfl (.nil)) rfl ?_))))))
 intro A1 L1 C1
 refine oV (v_bytesStr sl67 Tryz.underlying5 Tryz.underlying9 rfl (.r 0 _ rfl)) (oV vM (ite_some hL1 ?_))
 intro h2 hL1
 refine oV (vS h2) (oV vA (o_seq (cR ?_)))
 refine oV vM (oV (v_quo rfl rfl rfl) (oV vA (o_seq (cR (oV vM (oV vB (o_seq ?_)))))))
 refine cC hL1 (fun hL1 => ?_) (fun hL1 => ?_)
 refine cR (oV vM (oV vA (o_seq (c_ret ?_))))
 cases hL1
 obtain rfl := lrf_ret hF
 exact sR
 refine c_skip ?_
 exact lp [] [] fun a w hs => ⟨gquo .i64 n1 10, ((toS ([IntKind.wrap .u8 (IntKind.wrap .i64 (48 + (grem n1 10)))] : List Int)) ++ out_), hL1, hs⟩
theorem tri77_B (k : Nat) (g77 : List Item → Option (List UInt8))
    (hg77 : ∀ {l__ : List Item} {A1 : OA} {L1 C1 : Nat} {r : Tx}, g77 l__ = some r → Tri Tryz.prog 77 [sl A1 L1 C1] [] [fS A1 L1 C1 4 eItem l__] (oR (sV r))) {l__ : List Item} {A1 : OA} {L1 C1 : Nat} {r : Tx} (hF : F.ref03.itemText_B k g77 l__ = some r) :
    Tri Tryz.prog 77 [sl A1 L1 C1] [] [fS A1 L1 C1 4 eItem l__] (oR (sV r)) := by
 unfold F.ref03.itemText_B at hF
 refine tri_intro (n := 67) Tryz.func77 rfl Tryz.ntmps77 rfl fun w X => cR (oV vA (o_seq (cR (oV vA (o_seq (c_seq (cR (oV vA (o_seq ?_)))))))))
 obtain ⟨o1, ho1, hF⟩ := bd hF
 refine c_cut (fun E N' => Sat E [(2, sV ([] : Tx)), (3, sV o1)] [] [] N') (fun N1 hN1 => ?_) ?_
 refine c_block ?_
 refine cL (fun E H Φ j a w => ∃ (out_ : Tx) (i : Int), F.ref03.itemText_l1 k l__ g77 j out_ i = some o1 ∧ St E [(0, sl A1 L1 C1), (2, sV ([] : Tx)), (3, sV out_), (4, iI i)] [] Φ a w) k ?_ ?_
 exact lq [] [0] fun a w hs => ⟨([] : Tx), 0, ho1, hs⟩
 rintro j a w ⟨out_, i, hL1, hs⟩
 rcases j with _ | j
 cases hL1
 refine wc_app hs ?_
 unfold F.ref03.itemText_l1 at hL1
 refine c_seq (cR (oV vM (oV vM (oV (v_lenS (enc := eItem) l__ sl62 rfl (.f 0 rfl)) (oV vB (o_seq ?_))))))
 refine cC hL1 (fun hL1 => ?_) (fun hL1 => ?_)
 refine c_skip (sat_wc (c_seq ?_))
 refine c_cut (fun E N' => ∀ (out_1 : Tx) (A2 : OA) (L2 C2 : Nat) (b : Nat), F.ref03.itemText_j2 (F.ref03.itemText_l1 k l__ g77 j) i out_1 = some o1 → Sat E [(0, sl A1 L1 C1), (2, sV ([] : Tx)), (3, sV out_1), (4, iI i), (5, pt b), (17, iI ((at_ l__ i).Kind))] [.box b 124 (vItem (at_ l__ i) A2 L2 C2)] [fS A1 L1 C1 4 eItem l__, fS A2 L2 C2 4 eItem ((at_ l__ i).Items)] N') (fun N2 hN2 => ?_) ?_
 refine c_block (cR (oV vM (oV vM (ite_some hL1 ?_))))
 intro h2 hL1
 refine oV (v_indexAddr_s (xs := l__) (enc := eItem) sl62 rfl rfl (.f 0 rfl) h2) (o_load_s (ds := [.int .i64 ((at_ l__ i).Kind), .str ((at_ l__ i).Text), .int .i64 ((at_ l__ i).N_), .slice 4 (((at_ l__ i).Items).map eItem)]) (xs := l__) (enc := eItem) ty124 rfl (.f 0 rfl) h2 (by simp only [eItem_eq] <;> rfl) rfl rfl rfl rfl rfl ?_)
 intro A3 L3 C3
 refine o_alloc zero124 rfl rfl fun b1 => (sT 0 ty124) (o_seq (cR ((fD 0) (oV (vL 0 ty3) (o_seq ?_)))))
 refine cT (fun E H Φ N' => ∀ (out_2 : Tx), F.ref03.itemText_j3 (F.ref03.itemText_l1 k l__ g77 j) i out_2 = some o1 → Sat E [(0, sl A1 L1 C1), (2, sV ([] : Tx)), (3, sV out_2), (4, iI i), (5, pt b1), (17, iI ((at_ l__ i).Kind))] H [fS A1 L1 C1 4 eItem l__, fS A3 L3 C3 4 eItem ((at_ l__ i).Items)] N') (fun N3 hN3 => ?_) ?_
 refine c_block (cR (oV vB (oV vA (o_seq ?_))))
 refine cT (fun E H Φ N' => ∀ (out_3 : Tx), F.ref03.itemText_j4 (F.ref03.itemText_l1 k l__ g77 j) i out_3 = some o1 → Sat E [(0, sl A1 L1 C1), (2, sV ([] : Tx)), (3, sV out_3), (4, iI i), (5, pt b1), (17, iI ((at_ l__ i).Kind))] H [fS A1 L1 C1 4 eItem l__, fS A3 L3 C3 4 eItem ((at_ l__ i).Items)] N') (fun N4 hN4 => ?_) ?_
 refine cC hL1 (fun hL1 => ?_) (fun hL1 => ?_)
 refine c_region (oV vM (ite_some hL1 ?_))
 intro h4 hL1
 refine oV (vS h4) ((fD 1) (oV (vL 0 ty9) (o_strBytes Tryz.underlying9 Tryz.underlying67 Tryz.underlying5 rfl rfl ?_)))
 intro A4 L4 C4
 refine ?_
 obtain ⟨v, h5, hL1⟩ := bd hL1
 refine o_callSB call113 rfl (lent_f 0 rfl lent_nil) (tri113 h5 :) rfl (ite_some hL1 fun h6 hL1 => oV (vS h6) (oV vA (o_nil ?_)))
 exact sK [0] [2, 1] (hN4 ((out_ ++ ([32] : Tx)) ++ v) hL1)
 refine cR (oV vB (oV vA (o_seq ?_)))
 refine cT (fun E H Φ N' => ∀ (out_4 : Tx), F.ref03.itemText_j5 (F.ref03.itemText_l1 k l__ g77 j) i out_4 = some o1 → Sat E [(0, sl A1 L1 C1), (2, sV ([] : Tx)), (3, sV out_4), (4, iI i), (5, pt b1), (17, iI ((at_ l__ i).Kind))] H [fS A1 L1 C1 4 eItem l__, fS A3 L3 C3 4 eItem ((at_ l__ i).Items)] N') (fun N5 hN5 => ?_) ?_
 refine cC hL1 (fun hL1 => ?_) (fun hL1 => ?_)
 refine c_region (oV vM (ite_some hL1 ?_))
 intro h8 hL1
 refine oV (vS h8) ((fD 2) (oV (vL 0 ty3) ?_))
 obtain ⟨v1, h9, hL1⟩ := bd hL1
 refine o_callSB call114 rfl lent_nil (tri114 h9 :) rfl (ite_some hL1 fun h10 hL1 => oV (vS h10) (oV vA (o_nil ?_)))
 exact sK [0] [1, 0] (hN5 ((out_ ++ ([32] : Tx)) ++ v1) hL1)
 refine cR (oV vB (oV vA (o_seq ?_)))
 refine cT (fun E H Φ N' => ∀ (out_5 : Tx), F.ref03.itemText_j6 (F.ref03.itemText_l1 k l__ g77 j) i out_5 = some o1 → Sat E [(0, sl A1 L1 C1), (2, sV ([] : Tx)), (3, sV out_5), (4, iI i), (5, pt b1), (17, iI ((at_ l__ i).Kind))] H [fS A1 L1 C1 4 eItem l__, fS A3 L3 C3 4 eItem ((at_ l__ i).Items)] N') (fun N6 hN6 => ?_) ?_
 refine cC hL1 (fun hL1 => ?_) (fun hL1 => ?_)
 refine c_region (oV vM (ite_some hL1 ?_))
 intro h12 hL1
 refine oV (vS h12) (oV vA (o_nil ?_))
 exact sK [0] [1, 0] (hN6 (out_ ++ ([32, 95] : Tx)) hL1)
 refine cR (oV vB (oV vA (o_seq ?_)))
 refine cT (fun E H Φ N' => ∀ (out_6 : Tx), F.ref03.itemText_j7 (F.ref03.itemText_l1 k l__ g77 j) i out_6 = some o1 → Sat E [(0, sl A1 L1 C1), (2, sV ([] : Tx)), (3, sV out_6), (4, iI i), (5, pt b1), (17, iI ((at_ l__ i).Kind))] H [fS A1 L1 C1 4 eItem l__, fS A3 L3 C3 4 eItem ((at_ l__ i).Items)] N') (fun N7 hN7 => ?_) ?_
 refine cC hL1 (fun hL1 => ?_) (fun hL1 => ?_)
 refine c_region (oV vM (ite_some hL1 ?_))
 intro h14 hL1
 refine oV (vS h14) (oV vA (o_nil ?_))
 exact sK [0] [1, 0] (hN7 (out_ ++ ([32, 47] : Tx)) hL1)
 refine cR (oV vB (oV vA (o_seq ?_)))
 refine cT (fun E H Φ N' => ∀ (out_7 : Tx), F.ref03.itemText_j8 (F.ref03.itemText_l1 k l__ g77 j) i out_7 = some o1 → Sat E [(0, sl A1 L1 C1), (2, sV ([] : Tx)), (3, sV out_7), (4, iI i), (5, pt b1), (17, iI ((at_ l__ i).Kind))] H [fS A1 L1 C1 4 eItem l__, fS A3 L3 C3 4 eItem ((at_ l__ i).Items)] N') (fun N8 hN8 => ?_) ?_
 refine cC hL1 (fun hL1 => ?_) (fun hL1 => ?_)
 refine c_draw (n := 13) [0] mixed rfl rfl (dv 0 rfl vM (ite_some hL1 ?_))
 intro h16 hL1
 refine dv 1 rfl (vS h16) (dv 2 rfl (vF 2) (dv 3 rfl (vL 0 ty3) (dv 7 rfl (vF 3) (dv 8 rfl (vL 0 ty62) (dO 4 rfl ?_)))))
 obtain ⟨v2, h17, hL1⟩ := bd hL1
 refine o_callSB call114 rfl lent_nil (tri114 h17 :) rfl (dN [0] 0 (ite_some hL1 ?_))
 intro h18 hL1
 refine dv 5 rfl (vS h18) (ite_some hL1 ?_)
 intro h19 hL1
 refine dv 6 rfl (vS h19) (dO 9 rfl ?_)
 obtain ⟨v3, h20, hL1⟩ := bd hL1
 refine o_callSB call77 rfl (lent_f 0 rfl lent_nil) (hg77 h20 :) rfl (dN [0] 0 (ite_some hL1 ?_))
 intro h21 hL1
 refine dv 10 rfl (vS h21) (ite_some hL1 ?_)
 intro h22 hL1
 refine dv 11 rfl (vS h22) (dv 12 rfl vA (dD ?_))
 exact sK [0] [1, 0] (hN8 (((((out_ ++ ([32, 110, 101, 115, 116, 32] : Tx)) ++ v2) ++ ([32, 40] : Tx)) ++ v3) ++ ([32, 41] : Tx)) hL1)
 refine cR (oV vB (oV vA (o_seq ?_)))
 refine cT (fun E H Φ N' => ∀ (out_8 : Tx), F.ref03.itemText_j9 (F.ref03.itemText_l1 k l__ g77 j) i out_8 = some o1 → Sat E [(0, sl A1 L1 C1), (2, sV ([] : Tx)), (3, sV out_8), (4, iI i), (5, pt b1), (17, iI ((at_ l__ i).Kind))] H [fS A1 L1 C1 4 eItem l__, fS A3 L3 C3 4 eItem ((at_ l__ i).Items)] N') (fun N9 hN9 => ?_) ?_
 refine cC hL1 (fun hL1 => ?_) (fun hL1 => ?_)
 refine c_region (oV vM (ite_some hL1 ?_))
 intro h24 hL1
 refine oV (vS h24) ((fD 3) (oV (vL 0 ty62) ?_))
 obtain ⟨v4, h25, hL1⟩ := bd hL1
 refine o_callSB call77 rfl (lent_f 0 rfl lent_nil) (hg77 h25 :) rfl (ite_some hL1 fun h26 hL1 => oV (vS h26) (ite_some hL1 ?_))
 intro h27 hL1
 refine oV (vS h27) (oV vA (o_nil ?_))
 exact sK [0] [1, 0] (hN9 (((out_ ++ ([32, 103, 114, 111, 117, 112, 32, 40] : Tx)) ++ v4) ++ ([32, 41] : Tx)) hL1)
 refine c_skip ?_
 exact sK [0] [1, 0] (hN9 out_ hL1)
 intro out_8 hL1
 unfold F.ref03.itemText_j9 at hL1
 exact sK [0] [0, 1] (hN8 out_8 hL1)
 intro out_7 hL1
 unfold F.ref03.itemText_j8 at hL1
 exact sK [0] [0, 1] (hN7 out_7 hL1)
 intro out_6 hL1
 unfold F.ref03.itemText_j7 at hL1
 exact sK [0] [0, 1] (hN6 out_6 hL1)
 intro out_5 hL1
 unfold F.ref03.itemText_j6 at hL1
 exact sK [0] [0, 1] (hN5 out_5 hL1)
 intro out_4 hL1
 unfold F.ref03.itemText_j5 at hL1
 exact sK [0] [0, 1] (hN4 out_4 hL1)
 intro out_3 hL1
 unfold F.ref03.itemText_j4 at hL1
 exact sK [0] [0, 1] (hN3 out_3 hL1)
 intro out_2 hL1
 unfold F.ref03.itemText_j3 at hL1
 exact sK [0] [0, 1] (hN2 out_2 A3 L3 C3 b1 hL1)
 intro out_1 A2 L2 C2 b hL1
 unfold F.ref03.itemText_j2 at hL1
 refine sat_wc (c_region (oV vM (oV vB (oV vA (o_nil ?_)))))
 exact lp [] [0] fun a w hs => ⟨out_1, IntKind.wrap .i64 (i + 1), hL1, hs⟩
 refine c_exit0 ?_
 cases hL1
 exact sK [] [] (hN1)
 refine sat_wc (cR (oV vM (oV vA (o_seq (c_ret ?_)))))
 cases hF
 exact sR
theorem tri77 (k : Nat) : (∀ {l__ : List Item} {A1 : OA} {L1 C1 : Nat} {r : Tx}, F.ref03.itemText k l__ = some r → Tri Tryz.prog 77 [sl A1 L1 C1] [] [fS A1 L1 C1 4 eItem l__] (oR (sV r))) := by
 induction k with
 | zero => exact fun h => nomatch (show none = some _ from h)
 | succ k ih => exact tri77_B k _ ih
theorem tri33 {k : Nat} {d_ : Def} {r : List (List UInt8)} (hF : F.ref03.Lines k d_ = some r) :
    Tri Tryz.prog 33 [.agg (vDef d_ A1 L1 C1 A2 L2 C2 A3 L3 C3 A4 L4 C4 A5 L5 C5).toArray] [] [fS A1 L1 C1 5 eProd d_.Prods, fS A2 L2 C2 1 (eSl 2 eGroup) d_.Chains, fS A3 L3 C3 5 eFollow d_.Follows, fS A4 L4 C4 2 eReject d_.Rejects, fS A5 L5 C5 2 eBox d_.Boxes] (fun o H Φ => ∃ (A35 : OA) (L35 C35 : Nat), o = .ret (sl A35 L35 C35) ∧ H = [rW A35 L35 C35 9 1 eStr r] ∧ Φ = []) := by
 unfold F.ref03.Lines at hF
 refine tri_intro (n := 137) Tryz.func33 rfl Tryz.ntmps33 rfl fun w X => cR (o_box rfl rfl rfl fun b => oV vA (o_seq (cR (oV vA (o_seq (c_seq (cR ((fD 0) (oV (vL 0 ty9) (oV (v_strne rfl rfl) ?_))))))))))
 refine o_seq ?_
 refine cT (fun E H Φ N' => ∀ (out_ : List (List UInt8)) (A6 : OA) (L6 C6 : Nat), F.ref03.Lines_j1 k d_ out_ = some r → Sat E [(0, .agg (vDef d_ A1 L1 C1 A2 L2 C2 A3 L3 C3 A4 L4 C4 A5 L5 C5).toArray), (1, pt b), (2, nS), (3, sl A6 L6 C6)] [.box b 28 (vDef d_ A1 L1 C1 A2 L2 C2 A3 L3 C3 A4 L4 C4 A5 L5 C5), rW A6 L6 C6 9 1 eStr out_] Φ N') (fun N7 hN7 => ?_) ?_
 refine cC hF (fun hF => ?_) (fun hF => ?_)
 refine c_region (oV vM ((fD 0) (oV (vL 0 ty9) (ite_some hF ?_))))
 intro h39 hF
 refine oV (vS h39) (o_buildSlice (enc := eStr) ([(([115, 116, 97, 114, 116, 32] : Tx) ++ d_.Start)] : List (List UInt8)) [sV (([115, 116, 97, 114, 116, 32] : Tx) ++ d_.Start)] sl59 rfl (fun _ => by kernel_rfl) rfl rfl rfl (.s rfl (.nil)) rfl ?_)
 intro A33 L33 C33
 refine ite_some hF fun h40 hF => ite_some hF fun h41 hF => o_st (st_nilrow 9 1) (o_append (enc := eStr) (xs := ([] : List (List UInt8))) (ys := ([(([115, 116, 97, 114, 116, 32] : Tx) ++ d_.Start)] : List (List UInt8))) 0 sl59 rfl rfl rfl (.r 1 _ rfl) h40 h41 rfl fun A34 L34 C34 => oV vA (o_nil ?_))
 exact sK [2, 0] [0, 1, 2, 3, 4] (hN7 (([] : List (List UInt8)) ++ ([(([115, 116, 97, 114, 116, 32] : Tx) ++ d_.Start)] : List (List UInt8))) A34 L34 C34 hF)
 refine c_skip (s_st (st_nilrow 9 1) ?_)
 exact sK [1, 0] [0, 1, 2, 3, 4] (hN7 ([] : List (List UInt8)) none 0 0 hF)
 intro out_ A6 L6 C6 hF
 unfold F.ref03.Lines_j1 at hF
 refine sat_wc (c_seq (cR ((fD 1) (oV (vL 0 ty9) (oV (v_strne rfl rfl) (o_seq ?_))))))
 refine cT (fun E H Φ N' => ∀ (out_1 : List (List UInt8)) (A7 : OA) (L7 C7 : Nat), F.ref03.Lines_j2 k d_ out_1 = some r → Sat E [(0, .agg (vDef d_ A1 L1 C1 A2 L2 C2 A3 L3 C3 A4 L4 C4 A5 L5 C5).toArray), (1, pt b), (2, nS), (3, sl A7 L7 C7)] [.box b 28 (vDef d_ A1 L1 C1 A2 L2 C2 A3 L3 C3 A4 L4 C4 A5 L5 C5), rW A7 L7 C7 9 1 eStr out_1] Φ N') (fun N7 hN7 => ?_) ?_
 refine cC hF (fun hF => ?_) (fun hF => ?_)
 refine c_region (oV vM ((fD 1) (oV (vL 0 ty9) (ite_some hF ?_))))
 intro h35 hF
 refine oV (vS h35) (o_buildSlice (enc := eStr) ([(([108, 97, 121, 111, 117, 116, 32] : Tx) ++ d_.Layout)] : List (List UInt8)) [sV (([108, 97, 121, 111, 117, 116, 32] : Tx) ++ d_.Layout)] sl59 rfl (fun _ => by kernel_rfl) rfl rfl rfl (.s rfl (.nil)) rfl ?_)
 intro A31 L31 C31
 refine ite_some hF fun h36 hF => ite_some hF fun h37 hF => o_append (enc := eStr) (xs := out_) (ys := ([(([108, 97, 121, 111, 117, 116, 32] : Tx) ++ d_.Layout)] : List (List UInt8))) 2 sl59 rfl rfl rfl (.r 0 _ rfl) h36 h37 rfl fun A32 L32 C32 => oV vA (o_nil ?_)
 exact sK [1, 1] [0, 1, 2, 3, 4] (hN7 (out_ ++ ([(([108, 97, 121, 111, 117, 116, 32] : Tx) ++ d_.Layout)] : List (List UInt8))) A32 L32 C32 hF)
 refine c_skip ?_
 exact sK [0, 0] [0, 1, 2, 3, 4] (hN7 out_ A6 L6 C6 hF)
 intro out_1 A7 L7 C7 hF
 unfold F.ref03.Lines_j2 at hF
 refine sat_wc (c_seq (cR (oV vA (o_seq ?_))))
 obtain ⟨o3, ho3, hF⟩ := bd hF
 refine cT (fun E H Φ N' => ∀ (A9 : OA) (L9 C9 : Nat), Sat E [(0, .agg (vDef d_ A1 L1 C1 A2 L2 C2 A3 L3 C3 A4 L4 C4 A5 L5 C5).toArray), (1, pt b), (2, nS), (3, sl A9 L9 C9)] [.box b 28 (vDef d_ A1 L1 C1 A2 L2 C2 A3 L3 C3 A4 L4 C4 A5 L5 C5), rW A9 L9 C9 9 1 eStr o3] Φ N') (fun N3 hN3 => ?_) ?_
 refine c_block ?_
 refine cL (fun E H Φ j a w => ∃ (out_2 : List (List UInt8)) (i : Int) (A8 : OA) (L8 C8 : Nat), F.ref03.Lines_l3 k d_ j out_2 i = some o3 ∧ St E [(0, .agg (vDef d_ A1 L1 C1 A2 L2 C2 A3 L3 C3 A4 L4 C4 A5 L5 C5).toArray), (1, pt b), (2, nS), (3, sl A8 L8 C8), (4, iI i)] [.box b 28 (vDef d_ A1 L1 C1 A2 L2 C2 A3 L3 C3 A4 L4 C4 A5 L5 C5), rW A8 L8 C8 9 1 eStr out_2] Φ a w) k ?_ ?_
 exact lq [0, 0] [0, 1, 2, 3, 4] fun a w hs => ⟨out_1, 0, A7, L7, C7, ho3, hs⟩
 rintro j a w ⟨out_2, i, A8, L8, C8, hL3, hs⟩
 rcases j with _ | j
 cases hL3
 refine wc_app hs ?_
 unfold F.ref03.Lines_l3 at hL3
 refine c_seq (cR (oV vM ((fD 2) (oV (vL 0 ty22) (oV (v_lenS (enc := eProd) d_.Prods sl22 rfl (.f 0 rfl)) (oV vB (o_seq ?_)))))))
 refine cC hL3 (fun hL3 => ?_) (fun hL3 => ?_)
 refine c_skip (sat_wc (c_seq (c_block (c_region (oV vM ((fD 2) (oV (vL 0 ty22) (oV vM (ite_some hL3 ?_)))))))))
 intro h2 hL3
 refine oV (v_indexAddr_s (xs := d_.Prods) (enc := eProd) sl22 rfl rfl (.f 0 rfl) h2) (o_load_s (xs := d_.Prods) (enc := eProd) ty57 rfl (.f 0 rfl) h2 rfl rfl rfl rfl rfl rfl ?_)
 intro A10 L10 C10
 refine ?_
 obtain ⟨v, h3, hL3⟩ := bd hL3
 refine o_callSB call74 rfl (lent_f 0 rfl lent_nil) (tri74 h3 :) rfl (o_buildSlice (enc := eStr) ([v] : List (List UInt8)) [sV v] sl59 rfl (fun _ => by kernel_rfl) rfl rfl rfl (.s rfl (.nil)) rfl fun A11 L11 C11 => ite_some hL3 fun h4 hL3 => ite_some hL3 fun h5 hL3 => o_append (enc := eStr) (xs := out_2) (ys := ([v] : List (List UInt8))) 2 sl59 rfl rfl rfl (.r 0 _ rfl) h4 h5 rfl fun A12 L12 C12 => oV vA (o_nil (sat_wc (c_region (oV vM (oV vB (oV vA (o_nil ?_))))))))
 exact lp [1, 1] [1, 2, 3, 4, 5] fun a w hs => ⟨(out_2 ++ ([v] : List (List UInt8))), IntKind.wrap .i64 (i + 1), A12, L12, C12, hL3, hs⟩
 refine c_exit0 ?_
 cases hL3
 exact sK [0, 0] [0, 1, 2, 3, 4] (hN3 A8 L8 C8)
 intro A9 L9 C9
 refine sat_wc (c_seq (cR (oV vA (o_seq ?_))))
 obtain ⟨o4, ho4, hF⟩ := bd hF
 refine cT (fun E H Φ N' => ∀ (A14 : OA) (L14 C14 : Nat), Sat E [(0, .agg (vDef d_ A1 L1 C1 A2 L2 C2 A3 L3 C3 A4 L4 C4 A5 L5 C5).toArray), (1, pt b), (2, nS), (3, sl A14 L14 C14)] [.box b 28 (vDef d_ A1 L1 C1 A2 L2 C2 A3 L3 C3 A4 L4 C4 A5 L5 C5), rW A14 L14 C14 9 1 eStr o4] Φ N') (fun N4 hN4 => ?_) ?_
 refine c_block ?_
 refine cL (fun E H Φ j a w => ∃ (out_3 : List (List UInt8)) (i1 : Int) (A13 : OA) (L13 C13 : Nat), F.ref03.Lines_l4 k d_ j out_3 i1 = some o4 ∧ St E [(0, .agg (vDef d_ A1 L1 C1 A2 L2 C2 A3 L3 C3 A4 L4 C4 A5 L5 C5).toArray), (1, pt b), (2, nS), (3, sl A13 L13 C13), (5, iI i1)] [.box b 28 (vDef d_ A1 L1 C1 A2 L2 C2 A3 L3 C3 A4 L4 C4 A5 L5 C5), rW A13 L13 C13 9 1 eStr out_3] Φ a w) k ?_ ?_
 exact lq [0, 0] [0, 1, 2, 3, 4] fun a w hs => ⟨o3, 0, A9, L9, C9, ho4, hs⟩
 rintro j a w ⟨out_3, i1, A13, L13, C13, hL4, hs⟩
 rcases j with _ | j
 cases hL4
 refine wc_app hs ?_
 unfold F.ref03.Lines_l4 at hL4
 refine c_seq (cR (oV vM ((fD 3) (oV (vL 0 ty23) (oV (v_lenS (enc := (eSl 2 eGroup)) d_.Chains sl23 rfl (.f 1 rfl)) (oV vB (o_seq ?_)))))))
 refine cC hL4 (fun hL4 => ?_) (fun hL4 => ?_)
 refine c_skip (sat_wc (c_seq (c_block (c_region (oV vM ((fD 3) (oV (vL 0 ty23) (oV vM (ite_some hL4 ?_)))))))))
 intro h7 hL4
 refine oV (v_indexAddr_s (xs := d_.Chains) (enc := (eSl 2 eGroup)) sl23 rfl rfl (.f 1 rfl) h7) (o_load_s (xs := d_.Chains) (enc := (eSl 2 eGroup)) ty58 rfl (.f 1 rfl) h7 rfl rfl rfl rfl rfl rfl ?_)
 intro A15 L15 C15
 refine ?_
 obtain ⟨v1, h8, hL4⟩ := bd hL4
 refine o_callSB call75 rfl (lent_f 0 rfl lent_nil) (tri75 h8 :) rfl (o_buildSlice (enc := eStr) ([v1] : List (List UInt8)) [sV v1] sl59 rfl (fun _ => by kernel_rfl) rfl rfl rfl (.s rfl (.nil)) rfl fun A16 L16 C16 => ite_some hL4 fun h9 hL4 => ite_some hL4 fun h10 hL4 => o_append (enc := eStr) (xs := out_3) (ys := ([v1] : List (List UInt8))) 2 sl59 rfl rfl rfl (.r 0 _ rfl) h9 h10 rfl fun A17 L17 C17 => oV vA (o_nil (sat_wc (c_region (oV vM (oV vB (oV vA (o_nil ?_))))))))
 exact lp [1, 1] [1, 2, 3, 4, 5] fun a w hs => ⟨(out_3 ++ ([v1] : List (List UInt8))), IntKind.wrap .i64 (i1 + 1), A17, L17, C17, hL4, hs⟩
 refine c_exit0 ?_
 cases hL4
 exact sK [0, 0] [0, 1, 2, 3, 4] (hN4 A13 L13 C13)
 intro A14 L14 C14
 refine sat_wc (c_seq (cR (oV vA (o_seq ?_))))
 obtain ⟨o5, ho5, hF⟩ := bd hF
 refine cT (fun E H Φ N' => ∀ (A19 : OA) (L19 C19 : Nat), Sat E [(0, .agg (vDef d_ A1 L1 C1 A2 L2 C2 A3 L3 C3 A4 L4 C4 A5 L5 C5).toArray), (1, pt b), (2, nS), (3, sl A19 L19 C19)] [.box b 28 (vDef d_ A1 L1 C1 A2 L2 C2 A3 L3 C3 A4 L4 C4 A5 L5 C5), rW A19 L19 C19 9 1 eStr o5] Φ N') (fun N5 hN5 => ?_) ?_
 refine c_block ?_
 refine cL (fun E H Φ j a w => ∃ (out_4 : List (List UInt8)) (i2 : Int) (A18 : OA) (L18 C18 : Nat), F.ref03.Lines_l5 k d_ j out_4 i2 = some o5 ∧ St E [(0, .agg (vDef d_ A1 L1 C1 A2 L2 C2 A3 L3 C3 A4 L4 C4 A5 L5 C5).toArray), (1, pt b), (2, nS), (3, sl A18 L18 C18), (6, iI i2)] [.box b 28 (vDef d_ A1 L1 C1 A2 L2 C2 A3 L3 C3 A4 L4 C4 A5 L5 C5), rW A18 L18 C18 9 1 eStr out_4] Φ a w) k ?_ ?_
 exact lq [0, 0] [0, 1, 2, 3, 4] fun a w hs => ⟨o4, 0, A14, L14, C14, ho5, hs⟩
 rintro j a w ⟨out_4, i2, A18, L18, C18, hL5, hs⟩
 rcases j with _ | j
 cases hL5
 refine wc_app hs ?_
 unfold F.ref03.Lines_l5 at hL5
 refine c_seq (cR (oV vM ((fD 4) (oV (vL 0 ty24) (oV (v_lenS (enc := eFollow) d_.Follows sl24 rfl (.f 2 rfl)) (oV vB (o_seq ?_)))))))
 refine cC hL5 (fun hL5 => ?_) (fun hL5 => ?_)
 refine c_skip (sat_wc (c_seq (c_block (c_draw (n := 20) [0] mixed rfl rfl (dv 0 rfl vM (dv 1 rfl (vF 4) (dv 2 rfl (vL 0 ty24) (dv 3 rfl vM (ite_some hL5 ?_)))))))))
 intro h12 hL5
 refine dv 4 rfl (v_indexAddr_s (xs := d_.Follows) (enc := eFollow) sl24 rfl rfl (.f 2 rfl) h12) (dv 5 rfl (v_fieldAddr (v := .pointer (some ⟨blkA A3, offA A3 + (Int.toNat i2 * 5 + 0), none⟩)) rfl (fun _ => by kernel_rfl)) (dv 6 rfl (v_load_s (xs := d_.Follows) (enc := eFollow) ty9 rfl (.f 2 rfl) h12 rfl rfl rfl rfl rfl rfl rfl) (ite_some hL5 fun h13 hL5 => dv 7 rfl (vS h13) (ite_some hL5 ?_))))
 intro h14 hL5
 refine ?_
 refine dv 8 rfl (vS h14) (dv 9 rfl (vF 4) (dv 10 rfl (vL 0 ty24) (dv 11 rfl vM (dv 12 rfl (v_indexAddr_s (xs := d_.Follows) (enc := eFollow) sl24 rfl rfl (.f 2 rfl) h12) (dv 13 rfl (v_fieldAddr (v := .pointer (some ⟨blkA A3, offA A3 + (Int.toNat i2 * 5 + 1), none⟩)) rfl (fun _ => by kernel_rfl)) (dv 14 rfl (v_load_s (xs := d_.Follows) (enc := eFollow) ty44 rfl (.f 2 rfl) h12 rfl rfl rfl rfl rfl rfl rfl) (dO 15 rfl ?_)))))))
 obtain ⟨v2, h15, hL5⟩ := bd hL5
 refine o_callSB call76 rfl lent_nil (tri76 h15 :) rfl (dN [0] 0 (ite_some hL5 ?_))
 intro h16 hL5
 refine dv 16 rfl (vS h16) (dO 17 rfl (o_buildSlice (enc := eStr) ([(((([102, 111, 108, 108, 111, 119, 32] : Tx) ++ ((at_ d_.Follows i2).Sort_)) ++ ([32] : Tx)) ++ v2)] : List (List UInt8)) [sV (((([102, 111, 108, 108, 111, 119, 32] : Tx) ++ ((at_ d_.Follows i2).Sort_)) ++ ([32] : Tx)) ++ v2)] sl59 rfl (fun _ => by kernel_rfl) rfl rfl rfl (.s rfl (.nil)) rfl ?_))
 intro A20 L20 C20
 refine dN [1] 0 (dO 18 rfl (ite_some hL5 ?_))
 intro h17 hL5
 refine ite_some hL5 fun h18 hL5 => o_append (enc := eStr) (xs := out_4) (ys := ([(((([102, 111, 108, 108, 111, 119, 32] : Tx) ++ ((at_ d_.Follows i2).Sort_)) ++ ([32] : Tx)) ++ v2)] : List (List UInt8))) 2 sl59 rfl rfl rfl (.r 0 _ rfl) h17 h18 rfl fun A21 L21 C21 => dN [1] 0 (dv 19 rfl vA (dD (sat_wc (c_region ?_))))
 refine oV vM (oV vB (oV vA (o_nil ?_)))
 exact lp [1, 1] [0, 1, 2, 3, 4] fun a w hs => ⟨(out_4 ++ ([(((([102, 111, 108, 108, 111, 119, 32] : Tx) ++ ((at_ d_.Follows i2).Sort_)) ++ ([32] : Tx)) ++ v2)] : List (List UInt8))), IntKind.wrap .i64 (i2 + 1), A21, L21, C21, hL5, hs⟩
 refine c_exit0 ?_
 cases hL5
 exact sK [0, 0] [0, 1, 2, 3, 4] (hN5 A18 L18 C18)
 intro A19 L19 C19
 refine sat_wc (c_seq (cR (oV vA (o_seq ?_))))
 obtain ⟨o6, ho6, hF⟩ := bd hF
 refine cT (fun E H Φ N' => ∀ (A23 : OA) (L23 C23 : Nat), Sat E [(0, .agg (vDef d_ A1 L1 C1 A2 L2 C2 A3 L3 C3 A4 L4 C4 A5 L5 C5).toArray), (1, pt b), (2, nS), (3, sl A23 L23 C23)] [.box b 28 (vDef d_ A1 L1 C1 A2 L2 C2 A3 L3 C3 A4 L4 C4 A5 L5 C5), rW A23 L23 C23 9 1 eStr o6] Φ N') (fun N6 hN6 => ?_) ?_
 refine c_block ?_
 refine cL (fun E H Φ j a w => ∃ (out_5 : List (List UInt8)) (i3 : Int) (A22 : OA) (L22 C22 : Nat), F.ref03.Lines_l6 d_ j out_5 i3 = some o6 ∧ St E [(0, .agg (vDef d_ A1 L1 C1 A2 L2 C2 A3 L3 C3 A4 L4 C4 A5 L5 C5).toArray), (1, pt b), (2, nS), (3, sl A22 L22 C22), (7, iI i3)] [.box b 28 (vDef d_ A1 L1 C1 A2 L2 C2 A3 L3 C3 A4 L4 C4 A5 L5 C5), rW A22 L22 C22 9 1 eStr out_5] Φ a w) k ?_ ?_
 exact lq [0, 0] [0, 1, 2, 3, 4] fun a w hs => ⟨o5, 0, A19, L19, C19, ho6, hs⟩
 rintro j a w ⟨out_5, i3, A22, L22, C22, hL6, hs⟩
 rcases j with _ | j
 cases hL6
 refine wc_app hs ?_
 unfold F.ref03.Lines_l6 at hL6
 refine c_seq (cR (oV vM ((fD 5) (oV (vL 0 ty25) (oV (v_lenS (enc := eReject) d_.Rejects sl25 rfl (.f 3 rfl)) (oV vB (o_seq ?_)))))))
 refine cC hL6 (fun hL6 => ?_) (fun hL6 => ?_)
 refine c_skip (sat_wc (c_seq (c_block (c_draw (n := 19) [0] mixed rfl rfl (dv 0 rfl vM (dv 1 rfl (vF 5) (dv 2 rfl (vL 0 ty25) (dv 3 rfl vM (ite_some hL6 ?_)))))))))
 intro h20 hL6
 refine dv 4 rfl (v_indexAddr_s (xs := d_.Rejects) (enc := eReject) sl25 rfl rfl (.f 3 rfl) h20) (dv 5 rfl (v_fieldAddr (v := .pointer (some ⟨blkA A4, offA A4 + (Int.toNat i3 * 2 + 0), none⟩)) rfl (fun _ => by kernel_rfl)) (dv 6 rfl (v_load_s (xs := d_.Rejects) (enc := eReject) ty9 rfl (.f 3 rfl) h20 rfl rfl rfl rfl rfl rfl rfl) (ite_some hL6 fun h21 hL6 => dv 7 rfl (vS h21) (ite_some hL6 ?_))))
 intro h22 hL6
 refine ?_
 refine dv 8 rfl (vS h22) (dv 9 rfl (vF 5) (dv 10 rfl (vL 0 ty25) (dv 11 rfl vM (dv 12 rfl (v_indexAddr_s (xs := d_.Rejects) (enc := eReject) sl25 rfl rfl (.f 3 rfl) h20) (dv 13 rfl (v_fieldAddr (v := .pointer (some ⟨blkA A4, offA A4 + (Int.toNat i3 * 2 + 1), none⟩)) rfl (fun _ => by kernel_rfl)) (dv 14 rfl (v_load_s (xs := d_.Rejects) (enc := eReject) ty9 rfl (.f 3 rfl) h20 rfl rfl rfl rfl rfl rfl rfl) (ite_some hL6 ?_)))))))
 intro h23 hL6
 refine dv 15 rfl (vS h23) (dO 16 rfl (o_buildSlice (enc := eStr) ([(((([114, 101, 106, 101, 99, 116, 32] : Tx) ++ ((at_ d_.Rejects i3).Sort_)) ++ ([32] : Tx)) ++ ((at_ d_.Rejects i3).By))] : List (List UInt8)) [sV (((([114, 101, 106, 101, 99, 116, 32] : Tx) ++ ((at_ d_.Rejects i3).Sort_)) ++ ([32] : Tx)) ++ ((at_ d_.Rejects i3).By))] sl59 rfl (fun _ => by kernel_rfl) rfl rfl rfl (.s rfl (.nil)) rfl ?_))
 intro A24 L24 C24
 refine dN [1] 0 (dO 17 rfl (ite_some hL6 ?_))
 intro h24 hL6
 refine ite_some hL6 fun h25 hL6 => o_append (enc := eStr) (xs := out_5) (ys := ([(((([114, 101, 106, 101, 99, 116, 32] : Tx) ++ ((at_ d_.Rejects i3).Sort_)) ++ ([32] : Tx)) ++ ((at_ d_.Rejects i3).By))] : List (List UInt8))) 2 sl59 rfl rfl rfl (.r 0 _ rfl) h24 h25 rfl fun A25 L25 C25 => ?_
 refine dN [1] 0 (dv 18 rfl vA (dD (sat_wc (c_region (oV vM (oV vB (oV vA (o_nil ?_))))))))
 exact lp [1, 1] [0, 1, 2, 3, 4] fun a w hs => ⟨(out_5 ++ ([(((([114, 101, 106, 101, 99, 116, 32] : Tx) ++ ((at_ d_.Rejects i3).Sort_)) ++ ([32] : Tx)) ++ ((at_ d_.Rejects i3).By))] : List (List UInt8))), IntKind.wrap .i64 (i3 + 1), A25, L25, C25, hL6, hs⟩
 refine c_exit0 ?_
 cases hL6
 exact sK [0, 0] [0, 1, 2, 3, 4] (hN6 A22 L22 C22)
 intro A23 L23 C23
 refine sat_wc (c_seq (cR (oV vA (o_seq ?_))))
 obtain ⟨o7, ho7, hF⟩ := bd hF
 refine cT (fun E H Φ N' => ∀ (A27 : OA) (L27 C27 : Nat), Sat E [(0, .agg (vDef d_ A1 L1 C1 A2 L2 C2 A3 L3 C3 A4 L4 C4 A5 L5 C5).toArray), (1, pt b), (2, nS), (3, sl A27 L27 C27)] [.box b 28 (vDef d_ A1 L1 C1 A2 L2 C2 A3 L3 C3 A4 L4 C4 A5 L5 C5), rW A27 L27 C27 9 1 eStr o7] Φ N') (fun N7 hN7 => ?_) ?_
 refine c_block ?_
 refine cL (fun E H Φ j a w => ∃ (out_6 : List (List UInt8)) (i4 : Int) (A26 : OA) (L26 C26 : Nat), F.ref03.Lines_l7 k d_ j out_6 i4 = some o7 ∧ St E [(0, .agg (vDef d_ A1 L1 C1 A2 L2 C2 A3 L3 C3 A4 L4 C4 A5 L5 C5).toArray), (1, pt b), (2, nS), (3, sl A26 L26 C26), (8, iI i4)] [.box b 28 (vDef d_ A1 L1 C1 A2 L2 C2 A3 L3 C3 A4 L4 C4 A5 L5 C5), rW A26 L26 C26 9 1 eStr out_6] Φ a w) k ?_ ?_
 exact lq [0, 0] [0, 1, 2, 3, 4] fun a w hs => ⟨o6, 0, A23, L23, C23, ho7, hs⟩
 rintro j a w ⟨out_6, i4, A26, L26, C26, hL7, hs⟩
 rcases j with _ | j
 cases hL7
 refine wc_app hs ?_
 unfold F.ref03.Lines_l7 at hL7
 refine c_seq (cR (oV vM ((fD 6) (oV (vL 0 ty26) (oV (v_lenS (enc := eBox) d_.Boxes sl26 rfl (.f 4 rfl)) (oV vB (o_seq ?_)))))))
 refine cC hL7 (fun hL7 => ?_) (fun hL7 => ?_)
 refine c_skip (sat_wc (c_seq (c_block (ite_some hL7 fun h27 hL7 => c_elem (xs := d_.Boxes) (enc := eBox) 4 rfl h27 rfl rfl fun A28 L28 C28 => c_draw (n := 20) [0] mixed rfl rfl (dv 0 rfl vM (dv 1 rfl (vF 6) (dv 2 rfl (vL 0 ty26) (dv 3 rfl vM (dv 4 rfl (v_indexAddr_s (xs := d_.Boxes) (enc := eBox) sl26 rfl rfl (.f 6 rfl) h27) (dv 5 rfl (v_fieldAddr (v := .pointer (some ⟨blkA A5, offA A5 + (Int.toNat i4 * 2 + 0), none⟩)) rfl (fun _ => by kernel_rfl)) (dv 6 rfl (v_load_s (xs := d_.Boxes) (enc := eBox) ty9 rfl (.f 6 rfl) h27 rfl rfl rfl rfl rfl rfl rfl) (ite_some hL7 ?_))))))))))))
 intro h28 hL7
 refine dv 7 rfl (vS h28) ?_
 refine ite_some hL7 fun h29 hL7 => dv 8 rfl (vS h29) (dv 9 rfl (vF 6) (dv 10 rfl (vL 0 ty26) (dv 11 rfl vM (dv 12 rfl (v_indexAddr_s (xs := d_.Boxes) (enc := eBox) sl26 rfl rfl (.f 6 rfl) h27) (dv 13 rfl (v_fieldAddr (v := .pointer (some ⟨blkA A5, offA A5 + (Int.toNat i4 * 2 + 1), none⟩)) rfl (fun _ => by kernel_rfl)) (dv 14 rfl (v_load_cl 0 ty62 rfl rfl rfl rfl rfl) (dO 15 rfl ?_)))))))
 obtain ⟨v3, h30, hL7⟩ := bd hL7
 refine o_callSB call77 rfl (lent_f 1 rfl lent_nil) ((tri77 _) h30 :) rfl (dN [0] 0 (ite_some hL7 ?_))
 intro h31 hL7
 refine dv 16 rfl (vS h31) (dO 17 rfl (o_buildSlice (enc := eStr) ([(((([98, 111, 120, 32] : Tx) ++ ((at_ d_.Boxes i4).Cons)) ++ ([32, 61] : Tx)) ++ v3)] : List (List UInt8)) [sV (((([98, 111, 120, 32] : Tx) ++ ((at_ d_.Boxes i4).Cons)) ++ ([32, 61] : Tx)) ++ v3)] sl59 rfl (fun _ => by kernel_rfl) rfl rfl rfl (.s rfl (.nil)) rfl ?_))
 intro A29 L29 C29
 refine dN [1] 0 (dO 18 rfl (ite_some hL7 ?_))
 intro h32 hL7
 refine ite_some hL7 fun h33 hL7 => o_append (enc := eStr) (xs := out_6) (ys := ([(((([98, 111, 120, 32] : Tx) ++ ((at_ d_.Boxes i4).Cons)) ++ ([32, 61] : Tx)) ++ v3)] : List (List UInt8))) 2 sl59 rfl rfl rfl (.r 0 _ rfl) h32 h33 rfl fun A30 L30 C30 => dN [1] 0 (dv 19 rfl vA (dD (sat_wc (c_region ?_))))
 refine oV vM (oV vB (oV vA (o_nil ?_)))
 exact lp [1, 1] [2, 3, 4, 5, 6] fun a w hs => ⟨(out_6 ++ ([(((([98, 111, 120, 32] : Tx) ++ ((at_ d_.Boxes i4).Cons)) ++ ([32, 61] : Tx)) ++ v3)] : List (List UInt8))), IntKind.wrap .i64 (i4 + 1), A30, L30, C30, hL7, hs⟩
 refine c_exit0 ?_
 cases hL7
 exact sK [0, 0] [0, 1, 2, 3, 4] (hN7 A26 L26 C26)
 intro A27 L27 C27
 refine sat_wc (cR (oV vM (oV vA (o_seq (c_ret ?_)))))
 cases hF
 refine s_ret1 rfl (r_tmp rfl) fun a w hs => fin_sel hs [1] ⟨A27, L27, C27, rfl, rfl, rfl⟩ rfl sub_nil
theorem tri14 {k : Nat} {d_ : Def} {r : List UInt8 × Int} (hF : F.ref03.Print k d_ = some r) :
    Tri Tryz.prog 14 [.agg (vDef d_ A1 L1 C1 A2 L2 C2 A3 L3 C3 A4 L4 C4 A5 L5 C5).toArray] [] [fS A1 L1 C1 5 eProd d_.Prods, fS A2 L2 C2 1 (eSl 2 eGroup) d_.Chains, fS A3 L3 C3 5 eFollow d_.Follows, fS A4 L4 C4 2 eReject d_.Rejects, fS A5 L5 C5 2 eBox d_.Boxes] (oR (.tuple #[sV r.1, iI r.2])) := by
 unfold F.ref03.Print at hF
 refine tri_intro (n := 44) Tryz.func14 rfl Tryz.ntmps14 rfl fun w X => cR (o_box rfl rfl rfl fun b => oV vA (oV vA (o_seq (c_seq (cR (oV (vL 0 ty28) ?_))))))
 obtain ⟨v, h1, hF⟩ := bd hF
 refine o_callSB call22 rfl (lent_f 0 rfl (lent_f 1 rfl (lent_f 2 rfl (lent_f 3 rfl (lent_f 4 rfl lent_nil))))) (tri22 h1 :) rfl (oV vN (o_seq ?_))
 refine cC hF (fun hF => ?_) (fun hF => ?_)
 refine cR (oV vA (oV vA (o_seq (c_ret ?_))))
 cases hF
 refine s_ret2 rfl (r_tmp rfl) (r_tmp rfl) fun a w hs => fin_sel hs [] ⟨rfl, rfl, rfl⟩ rfl sub_nil
 refine c_skip (sat_wc (cR (oV (vL 0 ty28) ?_)))
 obtain ⟨v1, h3, hF⟩ := bd hF
 refine o_call0 call33 rfl (subs [0, 1, 2, 3, 4] rfl) (tri33 h3 :) rfl ?_
 rintro _ _ _ ⟨A6, L6, C6, rfl, rfl, rfl⟩
 refine oV vA (o_seq (cR (oV vA (o_seq (c_seq (cR (oV vA (o_seq ?_))))))))
 obtain ⟨o1, ho1, hF⟩ := bd hF
 refine cT (fun E H Φ N' => ∀ (d1 : Unit), o1 = .done d1 → Sat E [(0, .agg (vDef d_ A1 L1 C1 A2 L2 C2 A3 L3 C3 A4 L4 C4 A5 L5 C5).toArray), (1, pt b), (2, sV ([] : Tx)), (3, iI 0), (4, sl A6 L6 C6)] [.box b 28 (vDef d_ A1 L1 C1 A2 L2 C2 A3 L3 C3 A4 L4 C4 A5 L5 C5), rW A6 L6 C6 9 1 eStr v1] Φ N') (fun N1 hN1 => ?_) ?_
 refine c_block ?_
 refine cL (fun E H Φ j a w => ∃ (n : Int) (i : Int), F.ref03.Print_l1 v1 j n i = some o1 ∧ St E [(0, .agg (vDef d_ A1 L1 C1 A2 L2 C2 A3 L3 C3 A4 L4 C4 A5 L5 C5).toArray), (1, pt b), (2, sV ([] : Tx)), (3, iI 0), (4, sl A6 L6 C6), (5, iI n), (6, iI i)] [.box b 28 (vDef d_ A1 L1 C1 A2 L2 C2 A3 L3 C3 A4 L4 C4 A5 L5 C5), rW A6 L6 C6 9 1 eStr v1] Φ a w) k ?_ ?_
 exact lq [1, 0] [0, 1, 2, 3, 4] fun a w hs => ⟨0, 0, ho1, hs⟩
 rintro j a w ⟨n, i, hL1, hs⟩
 rcases j with _ | j
 cases hL1
 refine wc_app hs ?_
 unfold F.ref03.Print_l1 at hL1
 refine c_seq (cR (oV vM (oV vM (oV (v_lenS (enc := eStr) v1 sl59 rfl (.r 1 _ rfl)) (oV vB (o_seq ?_))))))
 refine cC hL1 (fun hL1 => ?_) (fun hL1 => ?_)
 refine c_skip (sat_wc (c_seq (c_block (cR (oV vM (oV vM (oV vM (ite_some hL1 ?_))))))))
 intro h5 hL1
 refine oV (v_indexAddr_s (xs := v1) (enc := eStr) sl59 rfl rfl (.r 1 _ rfl) h5) (oV (v_load_s (xs := v1) (enc := eStr) ty9 rfl (.r 1 _ rfl) h5 rfl rfl rfl rfl rfl rfl rfl) (oV (v_len_str Tryz.underlying9 rfl) (oV vB (oV vB (oV vA ?_)))))
 refine o_seq (cR (oV vM (oV vB (o_seq ?_))))
 refine cC hL1 (fun hL1 => ?_) (fun hL1 => ?_)
 refine cR (oV vA (oV vA (o_seq (c_ret ?_))))
 cases hL1
 obtain rfl := lrf_ret hF
 refine s_ret2 rfl (r_tmp rfl) (r_tmp rfl) fun a w hs => fin_sel hs [] ⟨rfl, rfl, rfl⟩ rfl sub_nil
 refine c_skip (sat_wc (c_region (oV vM (oV vB (oV vA (o_nil ?_))))))
 exact lp [0, 0] [0, 1, 2, 3, 4] fun a w hs => ⟨IntKind.wrap .i64 ((IntKind.wrap .i64 (n + ((at_ v1 i).length : Int))) + 2), IntKind.wrap .i64 (i + 1), hL1, hs⟩
 refine c_exit0 ?_
 cases hL1
 exact sK [0, 0] [0, 1, 2, 3, 4] (hN1 () rfl)
 intro d1 hd
 subst hd
 replace hF := lrf_done hF
 refine sat_wc (cR (oV vA (o_seq (c_seq (cR (oV vA (o_seq ?_)))))))
 obtain ⟨o2, ho2, hF⟩ := bd hF
 refine cT (fun E H Φ N' => Sat E [(0, .agg (vDef d_ A1 L1 C1 A2 L2 C2 A3 L3 C3 A4 L4 C4 A5 L5 C5).toArray), (1, pt b), (2, sV ([] : Tx)), (3, iI 0), (4, sl A6 L6 C6), (7, sV o2)] H Φ N') (fun N2 hN2 => ?_) ?_
 refine c_block ?_
 refine cL (fun E H Φ j a w => ∃ (out_ : Tx) (i1 : Int), F.ref03.Print_l2 v1 j out_ i1 = some o2 ∧ St E [(0, .agg (vDef d_ A1 L1 C1 A2 L2 C2 A3 L3 C3 A4 L4 C4 A5 L5 C5).toArray), (1, pt b), (2, sV ([] : Tx)), (3, iI 0), (4, sl A6 L6 C6), (7, sV out_), (8, iI i1)] H Φ a w) k ?_ ?_
 exact lq [0, 0] [0, 1, 2, 3, 4] fun a w hs => ⟨([] : Tx), 0, ho2, hs⟩
 rintro j a w ⟨out_, i1, hL2, hs⟩
 rcases j with _ | j
 cases hL2
 refine wc_app hs ?_
 unfold F.ref03.Print_l2 at hL2
 refine c_seq (cR (oV vM (oV vM (oV (v_lenS (enc := eStr) v1 sl59 rfl (.r 1 _ rfl)) (oV vB (o_seq ?_))))))
 refine cC hL2 (fun hL2 => ?_) (fun hL2 => ?_)
 refine c_skip (sat_wc (c_seq (c_block (c_region (oV vM (oV vM (oV vM (ite_some hL2 ?_))))))))
 intro h8 hL2
 refine oV (v_indexAddr_s (xs := v1) (enc := eStr) sl59 rfl rfl (.r 1 _ rfl) h8) (oV (v_load_s (xs := v1) (enc := eStr) ty9 rfl (.r 1 _ rfl) h8 rfl rfl rfl rfl rfl rfl rfl) (ite_some hL2 ?_))
 intro h9 hL2
 refine oV (vS h9) (ite_some hL2 ?_)
 intro h10 hL2
 refine oV (vS h10) (oV vA ?_)
 refine o_nil (sat_wc (c_region (oV vM (oV vB (oV vA (o_nil ?_))))))
 exact lp [0, 0] [0, 1, 2, 3, 4] fun a w hs => ⟨((out_ ++ (at_ v1 i1)) ++ ([59, 10] : Tx)), IntKind.wrap .i64 (i1 + 1), hL2, hs⟩
 refine c_exit0 ?_
 cases hL2
 exact sK [0, 0] [0, 1, 2, 3, 4] (hN2)
 refine sat_wc (cR (oV vM (oV vA (oV vA (o_seq (c_ret ?_))))))
 cases hF
 refine s_ret2 rfl (r_tmp rfl) (r_tmp rfl) fun a w hs => fin_sel hs [] ⟨rfl, rfl, rfl⟩ rfl sub_nil
theorem tri34_B (k : Nat) (g34 : List Item → List Item → Option Bool)
    (hg34 : ∀ {a_ : List Item} {b : List Item} {A1 : OA} {L1 C1 : Nat} {A2 : OA} {L2 C2 : Nat} {r : Bool}, g34 a_ b = some r → Tri Tryz.prog 34 [sl A1 L1 C1, sl A2 L2 C2] [] [fS A1 L1 C1 4 eItem a_, fS A2 L2 C2 4 eItem b] (oR (bV r))) {a_ : List Item} {b : List Item} {A1 : OA} {L1 C1 : Nat} {A2 : OA} {L2 C2 : Nat} {r : Bool} (hF : F.ref03.SameItems_B k g34 a_ b = some r) :
    Tri Tryz.prog 34 [sl A1 L1 C1, sl A2 L2 C2] [] [fS A1 L1 C1 4 eItem a_, fS A2 L2 C2 4 eItem b] (oR (bV r)) := by
 unfold F.ref03.SameItems_B at hF
 refine tri_intro (n := 68) Tryz.func34 rfl Tryz.ntmps34 rfl fun w X => cR (oV vA (o_seq (c_seq (cR (oV vM (oV (v_lenS (enc := eItem) a_ sl62 rfl (.f 0 rfl)) (oV vM (oV (v_lenS (enc := eItem) b sl62 rfl (.f 1 rfl)) (oV vB (o_seq ?_))))))))))
 refine cC hF (fun hF => ?_) (fun hF => ?_)
 refine cR (oV vA (o_seq (c_ret ?_)))
 cases hF
 exact sR
 refine c_skip (sat_wc (c_seq (cR (oV vA (o_seq ?_)))))
 obtain ⟨o1, ho1, hF⟩ := bd hF
 refine cT (fun E H Φ N' => ∀ (d1 : Unit), o1 = .done d1 → Sat E [(0, sl A1 L1 C1), (1, sl A2 L2 C2), (4, bV false)] [] Φ N') (fun N1 hN1 => ?_) ?_
 refine c_block ?_
 refine cL (fun E H Φ j a w => ∃ (i : Int), F.ref03.SameItems_l1 a_ b g34 j i = some o1 ∧ St E [(0, sl A1 L1 C1), (1, sl A2 L2 C2), (4, bV false), (5, iI i)] [] Φ a w) k ?_ ?_
 exact lq [] [0, 1] fun a w hs => ⟨0, ho1, hs⟩
 rintro j a w ⟨i, hL1, hs⟩
 rcases j with _ | j
 cases hL1
 refine wc_app hs ?_
 unfold F.ref03.SameItems_l1 at hL1
 refine c_seq (cR (oV vM (oV vM (oV (v_lenS (enc := eItem) a_ sl62 rfl (.f 0 rfl)) (oV vB (o_seq ?_))))))
 refine cC hL1 (fun hL1 => ?_) (fun hL1 => ?_)
 refine c_skip (sat_wc (c_seq (c_block (c_seq ?_))))
 refine cT (fun E H Φ N' => ∀ (t67 : Bool), F.ref03.SameItems_j2 (F.ref03.SameItems_l1 a_ b g34 j) i t67 = some o1 → Sat E [(0, sl A1 L1 C1), (1, sl A2 L2 C2), (4, bV false), (5, iI i), (67, bV t67)] [] Φ N') (fun N2 hN2 => ?_) ?_
 refine c_draw (n := 51) [] mixed rfl rfl (dv 0 rfl vM (dv 1 rfl vM (ite_some hL1 ?_)))
 intro h4 hL1
 refine dv 2 rfl (v_indexAddr_s (xs := a_) (enc := eItem) sl62 rfl rfl (.f 0 rfl) h4) (dv 3 rfl (v_fieldAddr (v := .pointer (some ⟨blkA A1, offA A1 + (Int.toNat i * 4 + 0), none⟩)) rfl (fun _ => by kernel_rfl)) (dv 4 rfl (v_load_s (ds := [.int .i64 ((at_ a_ i).Kind)]) (xs := a_) (enc := eItem) ty3 rfl (.f 0 rfl) h4 (by simp only [eItem_eq] <;> rfl) rfl rfl rfl rfl rfl rfl) (dv 5 rfl vM (dv 6 rfl vM (ite_some hL1 ?_)))))
 intro h5 hL1
 refine dv 7 rfl (v_indexAddr_s (xs := b) (enc := eItem) sl62 rfl rfl (.f 1 rfl) h5) (dv 8 rfl (v_fieldAddr (v := .pointer (some ⟨blkA A2, offA A2 + (Int.toNat i * 4 + 0), none⟩)) rfl (fun _ => by kernel_rfl)) (dv 9 rfl (v_load_s (ds := [.int .i64 ((at_ b i).Kind)]) (xs := b) (enc := eItem) ty3 rfl (.f 1 rfl) h5 (by simp only [eItem_eq] <;> rfl) rfl rfl rfl rfl rfl rfl) (dv 10 rfl vB (dv 11 rfl vM ?_))))
 refine d_split (t := 28) rfl (fun h6 => ?_) (fun h6 => ?_)
 replace hL1 := ite_t h6 hL1
 refine dF 12 rfl (dF 13 rfl (dF 14 rfl (dF 15 rfl (dF 16 rfl (dF 17 rfl (dF 18 rfl (dF 19 rfl (dF 20 rfl (dF 21 rfl (dF 22 rfl (dv 23 rfl vPt (dv 24 rfl vM (dF 25 rfl (dF 26 rfl (dF 27 rfl ?_)))))))))))))))
 refine dF 28 rfl (dF 29 rfl (dF 30 rfl (dF 31 rfl (dF 32 rfl (dF 33 rfl (dF 34 rfl (dF 35 rfl (dv 36 rfl vPt (dv 37 rfl vM (dF 38 rfl (dF 39 rfl (dF 40 rfl (dF 41 rfl (dF 42 rfl (dF 43 rfl ?_)))))))))))))))
 refine dF 44 rfl (dF 45 rfl (dF 46 rfl (dF 47 rfl (dF 48 rfl (dF 49 rfl (dv 50 rfl vPt (dD ?_)))))))
 exact sK [] [0, 1] (hN2 true hL1)
 replace hL1 := ite_f h6 hL1
 refine dw 12 rfl rfl rfl vM (dw 13 rfl rfl rfl vM (dw 14 rfl rfl rfl (v_indexAddr_s (xs := a_) (enc := eItem) sl62 rfl rfl (.f 0 rfl) h4) (dw 15 rfl rfl rfl (v_fieldAddr (v := .pointer (some ⟨blkA A1, offA A1 + (Int.toNat i * 4 + 1), none⟩)) rfl (fun _ => by kernel_rfl)) (dw 16 rfl rfl rfl (v_load_s (ds := [.str ((at_ a_ i).Text)]) (xs := a_) (enc := eItem) ty9 rfl (.f 0 rfl) h4 (by simp only [eItem_eq] <;> rfl) rfl rfl rfl rfl rfl rfl) (dw 17 rfl rfl rfl vM (dw 18 rfl rfl rfl vM (dw 19 rfl rfl rfl (v_indexAddr_s (xs := b) (enc := eItem) sl62 rfl rfl (.f 1 rfl) h5) (dw 20 rfl rfl rfl (v_fieldAddr (v := .pointer (some ⟨blkA A2, offA A2 + (Int.toNat i * 4 + 1), none⟩)) rfl (fun _ => by kernel_rfl)) (dw 21 rfl rfl rfl (v_load_s (ds := [.str ((at_ b i).Text)]) (xs := b) (enc := eItem) ty9 rfl (.f 1 rfl) h5 (by simp only [eItem_eq] <;> rfl) rfl rfl rfl rfl rfl rfl) (dw 22 rfl rfl rfl (v_strne rfl rfl) (dv 23 rfl vPf (dv 24 rfl vM ?_))))))))))))
 refine d_split (t := 41) rfl (fun h7 => ?_) (fun h7 => ?_)
 replace hL1 := ite_t h7 hL1
 refine dF 25 rfl (dF 26 rfl (dF 27 rfl (dF 28 rfl (dF 29 rfl (dF 30 rfl (dF 31 rfl (dF 32 rfl (dF 33 rfl (dF 34 rfl (dF 35 rfl (dv 36 rfl vPt (dv 37 rfl vM (dF 38 rfl (dF 39 rfl (dF 40 rfl ?_)))))))))))))))
 refine dF 41 rfl (dF 42 rfl (dF 43 rfl (dF 44 rfl (dF 45 rfl (dF 46 rfl (dF 47 rfl (dF 48 rfl (dF 49 rfl (dv 50 rfl vPt (dD ?_))))))))))
 exact sK [] [0, 1] (hN2 true hL1)
 replace hL1 := ite_f h7 hL1
 refine dw 25 rfl rfl rfl vM (dw 26 rfl rfl rfl vM (dw 27 rfl rfl rfl (v_indexAddr_s (xs := a_) (enc := eItem) sl62 rfl rfl (.f 0 rfl) h4) (dw 28 rfl rfl rfl (v_fieldAddr (v := .pointer (some ⟨blkA A1, offA A1 + (Int.toNat i * 4 + 2), none⟩)) rfl (fun _ => by kernel_rfl)) (dw 29 rfl rfl rfl (v_load_s (ds := [.int .i64 ((at_ a_ i).N_)]) (xs := a_) (enc := eItem) ty3 rfl (.f 0 rfl) h4 (by simp only [eItem_eq] <;> rfl) rfl rfl rfl rfl rfl rfl) (dw 30 rfl rfl rfl vM (dw 31 rfl rfl rfl vM (dw 32 rfl rfl rfl (v_indexAddr_s (xs := b) (enc := eItem) sl62 rfl rfl (.f 1 rfl) h5) (dw 33 rfl rfl rfl (v_fieldAddr (v := .pointer (some ⟨blkA A2, offA A2 + (Int.toNat i * 4 + 2), none⟩)) rfl (fun _ => by kernel_rfl)) (dw 34 rfl rfl rfl (v_load_s (ds := [.int .i64 ((at_ b i).N_)]) (xs := b) (enc := eItem) ty3 rfl (.f 1 rfl) h5 (by simp only [eItem_eq] <;> rfl) rfl rfl rfl rfl rfl rfl) (dw 35 rfl rfl rfl vB (dv 36 rfl vPf (dv 37 rfl vM ?_))))))))))))
 refine d_split (t := 54) rfl (fun h8 => ?_) (fun h8 => ?_)
 replace hL1 := ite_t h8 hL1
 refine dF 38 rfl (dF 39 rfl (dF 40 rfl (dF 41 rfl (dF 42 rfl (dF 43 rfl (dF 44 rfl (dF 45 rfl (dF 46 rfl (dF 47 rfl (dF 48 rfl (dF 49 rfl (dv 50 rfl vPt (dD ?_)))))))))))))
 exact sK [] [0, 1] (hN2 true hL1)
 replace hL1 := ite_f h8 hL1
 refine dw 38 rfl rfl rfl vM (dw 39 rfl rfl rfl vM (dw 40 rfl rfl rfl (v_indexAddr_s (xs := a_) (enc := eItem) sl62 rfl rfl (.f 0 rfl) h4) (dw 41 rfl rfl rfl (v_fieldAddr (v := .pointer (some ⟨blkA A1, offA A1 + (Int.toNat i * 4 + 3), none⟩)) rfl (fun _ => by kernel_rfl)) (dw 43 rfl rfl rfl vM (dw 44 rfl rfl rfl vM (dw 45 rfl rfl rfl (v_indexAddr_s (xs := b) (enc := eItem) sl62 rfl rfl (.f 1 rfl) h5) (dw 46 rfl rfl rfl (v_fieldAddr (v := .pointer (some ⟨blkA A2, offA A2 + (Int.toNat i * 4 + 3), none⟩)) rfl (fun _ => by kernel_rfl)) ?_)))))))
 obtain ⟨v, h9, hL1⟩ := bd hL1
 refine d_all [42, 47] (by kernel_rfl) (by simp) ⟨⟨_, rfl, ?_⟩, ⟨_, rfl, ?_⟩, trivial⟩
 refine oN (o_load_s (ds := [.slice 4 (((at_ a_ i).Items).map eItem)]) (xs := a_) (enc := eItem) ty62 rfl (.f 0 rfl) h4 (by simp only [eItem_eq] <;> rfl) rfl rfl rfl rfl rfl ?_)
 intro A3 L3 C3
 refine dN [] 1 (dO 47 rfl (oN (o_load_s (ds := [.slice 4 (((at_ b i).Items).map eItem)]) (xs := b) (enc := eItem) ty62 rfl (.f 2 rfl) h5 (by simp only [eItem_eq] <;> rfl) rfl rfl rfl rfl rfl ?_)))
 intro A4 L4 C4
 refine dN [] 2 (dO 48 rfl (oN (o_callSB call34 rfl (lent_f 1 rfl (lent_f 0 rfl lent_nil)) (hg34 h9 :) rfl (dN [] 2 (dw 49 rfl rfl rfl vN (dv 50 rfl vPf (dD ?_)))))))
 exact sK [] [2, 3] (hN2 (!v) hL1)
 refine oN (o_load_s (ds := [.slice 4 (((at_ b i).Items).map eItem)]) (xs := b) (enc := eItem) ty62 rfl (.f 1 rfl) h5 (by simp only [eItem_eq] <;> rfl) rfl rfl rfl rfl rfl ?_)
 intro A3 L3 C3
 refine dN [] 1 (dO 42 rfl (oN (o_load_s (ds := [.slice 4 (((at_ a_ i).Items).map eItem)]) (xs := a_) (enc := eItem) ty62 rfl (.f 1 rfl) h4 (by simp only [eItem_eq] <;> rfl) rfl rfl rfl rfl rfl ?_)))
 intro A4 L4 C4
 refine dN [] 2 (dO 48 rfl (oN (o_callSB call34 rfl (lent_f 0 rfl (lent_f 1 rfl lent_nil)) (hg34 h9 :) rfl (dN [] 2 (dw 49 rfl rfl rfl vN (dv 50 rfl vPf (dD ?_)))))))
 exact sK [] [2, 3] (hN2 (!v) hL1)
 intro t67 hL1
 unfold F.ref03.SameItems_j2 at hL1
 refine sat_wc ?_
 refine cC hL1 (fun hL1 => ?_) (fun hL1 => ?_)
 refine cR (oV vA (o_seq (c_ret ?_)))
 cases hL1
 obtain rfl := lrf_ret hF
 exact sR
 refine c_skip (sat_wc (c_region (oV vM (oV vB (oV vA (o_nil ?_))))))
 exact lp [] [0, 1] fun a w hs => ⟨IntKind.wrap .i64 (i + 1), hL1, hs⟩
 refine c_exit0 ?_
 cases hL1
 exact sK [] [0, 1] (hN1 () rfl)
 intro d1 hd
 subst hd
 replace hF := lrf_done hF
 refine sat_wc (cR (oV vA (o_seq (c_ret ?_))))
 cases hF
 exact sR
theorem tri34 (k : Nat) : (∀ {a_ : List Item} {b : List Item} {A1 : OA} {L1 C1 : Nat} {A2 : OA} {L2 C2 : Nat} {r : Bool}, F.ref03.SameItems k a_ b = some r → Tri Tryz.prog 34 [sl A1 L1 C1, sl A2 L2 C2] [] [fS A1 L1 C1 4 eItem a_, fS A2 L2 C2 4 eItem b] (oR (bV r))) := by
 induction k with
 | zero => exact fun h => nomatch (show none = some _ from h)
 | succ k ih => exact tri34_B k _ ih
theorem tri35 {k : Nat} {a_ : List Prod} {b : List Prod} {r : Bool} (hF : F.ref03.sameProds k a_ b = some r) :
    Tri Tryz.prog 35 [sl A1 L1 C1, sl A2 L2 C2] [] [fS A1 L1 C1 5 eProd a_, fS A2 L2 C2 5 eProd b] (oR (bV r)) := by
 unfold F.ref03.sameProds at hF
 refine tri_intro (n := 81) Tryz.func35 rfl Tryz.ntmps35 rfl fun w X => cR (oV vA (o_seq (c_seq (cR (oV vM (oV (v_lenS (enc := eProd) a_ sl22 rfl (.f 0 rfl)) (oV vM (oV (v_lenS (enc := eProd) b sl22 rfl (.f 1 rfl)) (oV vB (o_seq ?_))))))))))
 refine cC hF (fun hF => ?_) (fun hF => ?_)
 refine cR (oV vA (o_seq (c_ret ?_)))
 cases hF
 exact sR
 refine c_skip (sat_wc (c_seq (cR (oV vA (o_seq ?_)))))
 obtain ⟨o1, ho1, hF⟩ := bd hF
 refine cT (fun E H Φ N' => ∀ (d1 : Unit), o1 = .done d1 → Sat E [(0, sl A1 L1 C1), (1, sl A2 L2 C2), (4, bV false)] [] Φ N') (fun N1 hN1 => ?_) ?_
 refine c_block ?_
 refine cL (fun E H Φ j a w => ∃ (i : Int), F.ref03.sameProds_l1 k a_ b j i = some o1 ∧ St E [(0, sl A1 L1 C1), (1, sl A2 L2 C2), (4, bV false), (5, iI i)] [] Φ a w) k ?_ ?_
 exact lq [] [0, 1] fun a w hs => ⟨0, ho1, hs⟩
 rintro j a w ⟨i, hL1, hs⟩
 rcases j with _ | j
 cases hL1
 refine wc_app hs ?_
 unfold F.ref03.sameProds_l1 at hL1
 refine c_seq (cR (oV vM (oV vM (oV (v_lenS (enc := eProd) a_ sl22 rfl (.f 0 rfl)) (oV vB (o_seq ?_))))))
 refine cC hL1 (fun hL1 => ?_) (fun hL1 => ?_)
 refine c_skip (sat_wc (c_seq ?_))
 refine c_cut (fun E N' => ∀ (k_ : Int) (A3 : OA) (L3 C3 : Nat) (A4 : OA) (L4 C4 : Nat) (b1 : Nat) (b2 : Nat), F.ref03.sameProds_j2 (F.ref03.sameProds_l1 k a_ b j) i k_ = some o1 → Sat E [(0, sl A1 L1 C1), (1, sl A2 L2 C2), (4, bV false), (5, iI i), (6, pt b1), (7, pt b2), (8, iI k_)] [.box b1 57 (vProd (at_ a_ i) A3 L3 C3), .box b2 57 (vProd (at_ b i) A4 L4 C4)] [fS A1 L1 C1 5 eProd a_, fS A2 L2 C2 5 eProd b, fS A3 L3 C3 8 eSym ((at_ a_ i).Syms), fS A4 L4 C4 8 eSym ((at_ b i).Syms)] N') (fun N2 hN2 => ?_) ?_
 refine c_block (c_seq ?_)
 refine c_cut (fun E N' => ∀ (A5 : OA) (L5 C5 : Nat) (A6 : OA) (L6 C6 : Nat) (b3 : Nat) (b4 : Nat), F.ref03.sameProds_j3 k a_ i b (F.ref03.sameProds_l1 k a_ b j) = some o1 → Sat E [(0, sl A1 L1 C1), (1, sl A2 L2 C2), (4, bV false), (5, iI i), (6, pt b3), (7, pt b4)] [.box b3 57 (vProd (at_ a_ i) A5 L5 C5), .box b4 57 (vProd (at_ b i) A6 L6 C6)] [fS A1 L1 C1 5 eProd a_, fS A2 L2 C2 5 eProd b, fS A5 L5 C5 8 eSym ((at_ a_ i).Syms), fS A6 L6 C6 8 eSym ((at_ b i).Syms)] N') (fun N5 hN5 => ?_) ?_
 refine ite_some hL1 fun h12 hL1 => c_elem (xs := a_) (enc := eProd) 0 rfl h12 rfl rfl fun A7 L7 C7 => ite_some hL1 fun h13 hL1 => c_elem (xs := b) (enc := eProd) 3 rfl h13 rfl rfl fun A8 L8 C8 => c_draw (n := 12) [] mixed rfl rfl (dv 0 rfl vM (dv 1 rfl vM (dv 2 rfl (v_indexAddr_s (xs := a_) (enc := eProd) sl22 rfl rfl (.f 4 rfl) h12) (dv 3 rfl (v_load_cl 2 ty57 rfl rfl rfl rfl rfl) (dv 4 rfl vM (dv 5 rfl vM (dv 6 rfl (v_indexAddr_s (xs := b) (enc := eProd) sl22 rfl rfl (.f 5 rfl) h13) (dv 7 rfl (v_load_cl 0 ty57 rfl rfl rfl rfl rfl) ?_))))))))
 refine d_all [8, 9] (by kernel_rfl) (by simp) ⟨⟨_, rfl, ?_⟩, ⟨_, rfl, ?_⟩, trivial⟩
 refine o_alloc zero57 rfl rfl fun b5 => dN [] 0 (dO 9 rfl (o_alloc zero57 rfl rfl ?_))
 intro b6
 refine dN [] 0 (dO 10 rfl ((sT 1 ty57) (dN [] 0 (dO 11 rfl ((sT 0 ty57) (dN [] 0 (dD ?_)))))))
 exact sK [1, 0] [4, 5, 3, 1] (hN5 A7 L7 C7 A8 L8 C8 b5 b6 hL1)
 refine o_alloc zero57 rfl rfl fun b5 => dN [] 0 (dO 8 rfl (o_alloc zero57 rfl rfl ?_))
 intro b6
 refine dN [] 0 (dO 10 rfl ((sT 0 ty57) (dN [] 0 (dO 11 rfl ((sT 1 ty57) (dN [] 0 (dD ?_)))))))
 exact sK [0, 0] [4, 5, 3, 1] (hN5 A7 L7 C7 A8 L8 C8 b6 b5 hL1)
 intro A5 L5 C5 A6 L6 C6 b3 b4 hL1
 unfold F.ref03.sameProds_j3 at hL1
 refine sat_wc (c_seq (c_seq ?_))
 refine cT (fun E H Φ N' => ∀ (t62 : Bool), F.ref03.sameProds_j4 k a_ i b (F.ref03.sameProds_l1 k a_ b j) t62 = some o1 → Sat E [(0, sl A1 L1 C1), (1, sl A2 L2 C2), (4, bV false), (5, iI i), (6, pt b3), (7, pt b4), (62, bV t62)] H Φ N') (fun N5 hN5 => ?_) ?_
 refine c_region ((fD 0) (oV (vL 0 ty4) ((fD 0) (oV (vL 1 ty4) (oV (v_boolne rfl rfl Tryz.underlying4) (oV vM ?_))))))
 refine oS 33 hL1 (fun hL1 => ?_) (fun hL1 => ?_)
 refine oF (oF (oF (oF (oF (oV vPt (oV vM (oF (oF (oF (oF (oF (oV vPt (oV vM (oF (oF ?_)))))))))))))))
 refine oF (oF (oF (oV vPt (oV vM (oF (oF (oF (oF (oF (oF (oF (oV vPt (o_nil ?_)))))))))))))
 exact sK [0, 0] [0, 1, 2, 3] (hN5 true hL1)
 refine oN ((fD 1) (oN (oV (vL 0 ty9) (oN ((fD 1) (oN (oV (vL 1 ty9) (oN (oV (v_strne rfl rfl) (oV vPf (oV vM ?_)))))))))))
 refine oS 40 hL1 (fun hL1 => ?_) (fun hL1 => ?_)
 refine oF (oF (oF (oF (oF (oV vPt (oV vM (oF (oF (oF (oF (oF (oV vPt (oV vM (oF (oF ?_)))))))))))))))
 refine oF (oF (oF (oF (oF (oV vPt (o_nil ?_))))))
 exact sK [0, 0] [0, 1, 2, 3] (hN5 true hL1)
 refine oN ((fD 2) (oN (oV (vL 0 ty9) (oN ((fD 2) (oN (oV (vL 1 ty9) (oN (oV (v_strne rfl rfl) (oV vPf (oV vM ?_)))))))))))
 refine oS 47 hL1 (fun hL1 => ?_) (fun hL1 => ?_)
 refine oF (oF (oF (oF (oF (oV vPt (oV vM (oF (oF (oF (oF (oF (oF (oF (oV vPt (o_nil ?_)))))))))))))))
 exact sK [0, 0] [0, 1, 2, 3] (hN5 true hL1)
 refine oN ((fD 3) (oN (oV (vL 0 ty4) (oN ((fD 3) (oN (oV (vL 1 ty4) (oN (oV (v_boolne rfl rfl Tryz.underlying4) (oV vPf (oV vM ?_)))))))))))
 refine oS 54 hL1 (fun hL1 => ?_) (fun hL1 => ?_)
 refine oF (oF (oF (oF (oF (oF (oF (oV vPt (o_nil ?_))))))))
 exact sK [0, 0] [0, 1, 2, 3] (hN5 true hL1)
 refine oN ((fD 4) (oN (oV (vL 0 ty55) (oN (oV (v_lenS (enc := eSym) ((at_ a_ i).Syms) sl55 rfl (.f 2 rfl)) (oN ((fD 4) (oN (oV (vL 1 ty55) (oN (oV (v_lenS (enc := eSym) ((at_ b i).Syms) sl55 rfl (.f 3 rfl)) (oN (oV vB (oV vPf (o_nil ?_)))))))))))))))
 exact sK [0, 0] [0, 1, 2, 3] (hN5 ((((at_ a_ i).Syms).length : Int) != (((at_ b i).Syms).length : Int)) hL1)
 intro t62 hL1
 unfold F.ref03.sameProds_j4 at hL1
 refine sat_wc ?_
 refine cC hL1 (fun hL1 => ?_) (fun hL1 => ?_)
 refine cR (oV vA (o_seq (c_ret ?_)))
 cases hL1
 obtain rfl := lrf_ret hF
 exact sR
 refine c_skip (sat_wc (cR (oV vA (o_seq ?_))))
 obtain ⟨o5, ho5, hL1⟩ := bd hL1
 refine cT (fun E H Φ N' => ∀ (d5 : Int), o5 = .done d5 → Sat E [(0, sl A1 L1 C1), (1, sl A2 L2 C2), (4, bV false), (5, iI i), (6, pt b3), (7, pt b4), (8, iI d5)] H Φ N') (fun N5 hN5 => ?_) ?_
 refine c_block ?_
 refine cL (fun E H Φ j a w => ∃ (k_1 : Int), F.ref03.sameProds_l5 a_ i b j k_1 = some o5 ∧ St E [(0, sl A1 L1 C1), (1, sl A2 L2 C2), (4, bV false), (5, iI i), (6, pt b3), (7, pt b4), (8, iI k_1)] H Φ a w) k ?_ ?_
 exact lq [0, 0] [0, 1, 2, 3] fun a w hs => ⟨0, ho5, hs⟩
 rintro j a w ⟨k_1, hL5, hs⟩
 rcases j with _ | j
 cases hL5
 refine wc_app hs ?_
 unfold F.ref03.sameProds_l5 at hL5
 refine c_seq (cR (oV vM ((fD 4) (oV (vL 0 ty55) (oV (v_lenS (enc := eSym) ((at_ a_ i).Syms) sl55 rfl (.f 2 rfl)) (oV vB (o_seq ?_)))))))
 refine cC hL5 (fun hL5 => ?_) (fun hL5 => ?_)
 refine c_skip (sat_wc (c_seq (c_block (c_seq (c_draw (n := 11) [0, 0] mixed rfl rfl (dv 0 rfl (vF 4) (dv 1 rfl (vL 0 ty55) (dv 2 rfl vM (ite_some hL5 ?_)))))))))
 intro h5 hL5
 refine dv 3 rfl (v_indexAddr_s (xs := (at_ a_ i).Syms) (enc := eSym) sl55 rfl rfl (.f 2 rfl) h5) (dv 4 rfl (v_load_s (xs := (at_ a_ i).Syms) (enc := eSym) ty114 rfl (.f 2 rfl) h5 rfl rfl rfl rfl rfl rfl rfl) (dv 5 rfl (vF 4) (dv 6 rfl (vL 1 ty55) (dv 7 rfl vM (ite_some hL5 ?_)))))
 intro h6 hL5
 refine ?_
 refine dv 8 rfl (v_indexAddr_s (xs := (at_ b i).Syms) (enc := eSym) sl55 rfl rfl (.f 3 rfl) h6) (dv 9 rfl (v_load_s (xs := (at_ b i).Syms) (enc := eSym) ty114 rfl (.f 3 rfl) h6 rfl rfl rfl rfl rfl rfl rfl) (dv 10 rfl (v_agne 3 rfl rfl (eq114 ((at_ ((at_ a_ i).Syms) k_1).Kind) ((at_ ((at_ a_ i).Syms) k_1).Text) ((at_ ((at_ a_ i).Syms) k_1).Set.w0) ((at_ ((at_ a_ i).Syms) k_1).Set.w1) ((at_ ((at_ a_ i).Syms) k_1).Set.w2) ((at_ ((at_ a_ i).Syms) k_1).Set.w3) ((at_ ((at_ a_ i).Syms) k_1).Name) ((at_ ((at_ a_ i).Syms) k_1).Sep) ((at_ ((at_ b i).Syms) k_1).Kind) ((at_ ((at_ b i).Syms) k_1).Text) ((at_ ((at_ b i).Syms) k_1).Set.w0) ((at_ ((at_ b i).Syms) k_1).Set.w1) ((at_ ((at_ b i).Syms) k_1).Set.w2) ((at_ ((at_ b i).Syms) k_1).Set.w3) ((at_ ((at_ b i).Syms) k_1).Name) ((at_ ((at_ b i).Syms) k_1).Sep)) rfl guard114) (d_done_seq (by kernel_rfl) ?_)))
 refine cC hL5 (fun hL5 => ?_) (fun hL5 => ?_)
 refine cR (oV vA (o_seq (c_ret ?_)))
 cases hL5
 obtain rfl := lr_ret hL1
 obtain rfl := lrf_ret hF
 exact sR
 refine c_skip (sat_wc (c_region (oV vM (oV vB (oV vA (o_nil ?_))))))
 exact lp [0, 0] [0, 1, 2, 3] fun a w hs => ⟨IntKind.wrap .i64 (k_1 + 1), hL5, hs⟩
 refine c_exit0 ?_
 cases hL5
 exact sK [0, 0] [0, 1, 2, 3] (hN5 k_1 rfl)
 intro d5 hd
 subst hd
 replace hL1 := lr_done hL1
 exact sK [0, 0] [0, 1, 2, 3] (hN2 d5 A5 L5 C5 A6 L6 C6 b3 b4 hL1)
 intro k_ A3 L3 C3 A4 L4 C4 b1 b2 hL1
 unfold F.ref03.sameProds_j2 at hL1
 refine sat_wc (c_region (oV vM (oV vB (oV vA (o_nil ?_)))))
 exact lp [] [0, 1] fun a w hs => ⟨IntKind.wrap .i64 (i + 1), hL1, hs⟩
 refine c_exit0 ?_
 cases hL1
 exact sK [] [0, 1] (hN1 () rfl)
 intro d1 hd
 subst hd
 replace hF := lrf_done hF
 refine sat_wc (cR (oV vA (o_seq (c_ret ?_))))
 cases hF
 exact sR
theorem tri78 {k : Nat} {a_ : List (List UInt8)} {b : List (List UInt8)} {r : Bool} (hF : F.ref03.SameNames k a_ b = some r) :
    Tri Tryz.prog 78 [sl A1 L1 C1, sl A2 L2 C2] [] [fS A1 L1 C1 1 eStr a_, fS A2 L2 C2 1 eStr b] (oR (bV r)) := by
 unfold F.ref03.SameNames at hF
 refine tri_intro (n := 26) Tryz.func78 rfl Tryz.ntmps78 rfl fun w X => cR (oV vA (o_seq (c_seq (cR (oV vM (oV (v_lenS (enc := eStr) a_ sl59 rfl (.f 0 rfl)) (oV vM (oV (v_lenS (enc := eStr) b sl59 rfl (.f 1 rfl)) (oV vB (o_seq ?_))))))))))
 refine cC hF (fun hF => ?_) (fun hF => ?_)
 refine cR (oV vA (o_seq (c_ret ?_)))
 cases hF
 exact sR
 refine c_skip (sat_wc (c_seq (cR (oV vA (o_seq ?_)))))
 obtain ⟨o1, ho1, hF⟩ := bd hF
 refine cT (fun E H Φ N' => ∀ (d1 : Unit), o1 = .done d1 → Sat E [(0, sl A1 L1 C1), (1, sl A2 L2 C2), (4, bV false)] [] Φ N') (fun N1 hN1 => ?_) ?_
 refine c_block ?_
 refine cL (fun E H Φ j a w => ∃ (i : Int), F.ref03.SameNames_l1 a_ b j i = some o1 ∧ St E [(0, sl A1 L1 C1), (1, sl A2 L2 C2), (4, bV false), (5, iI i)] [] Φ a w) k ?_ ?_
 exact lq [] [0, 1] fun a w hs => ⟨0, ho1, hs⟩
 rintro j a w ⟨i, hL1, hs⟩
 rcases j with _ | j
 cases hL1
 refine wc_app hs ?_
 unfold F.ref03.SameNames_l1 at hL1
 refine c_seq (cR (oV vM (oV vM (oV (v_lenS (enc := eStr) a_ sl59 rfl (.f 0 rfl)) (oV vB (o_seq ?_))))))
 refine cC hL1 (fun hL1 => ?_) (fun hL1 => ?_)
 refine c_skip (sat_wc (c_seq (c_block (c_seq (c_draw (n := 9) [] mixed rfl rfl (dv 0 rfl vM (dv 1 rfl vM (ite_some hL1 ?_))))))))
 intro h3 hL1
 refine dv 2 rfl (v_indexAddr_s (xs := a_) (enc := eStr) sl59 rfl rfl (.f 0 rfl) h3) (dv 3 rfl (v_load_s (xs := a_) (enc := eStr) ty9 rfl (.f 0 rfl) h3 rfl rfl rfl rfl rfl rfl rfl) (dv 4 rfl vM (dv 5 rfl vM (ite_some hL1 ?_))))
 intro h4 hL1
 refine dv 6 rfl (v_indexAddr_s (xs := b) (enc := eStr) sl59 rfl rfl (.f 1 rfl) h4) (dv 7 rfl (v_load_s (xs := b) (enc := eStr) ty9 rfl (.f 1 rfl) h4 rfl rfl rfl rfl rfl rfl rfl) ?_)
 refine dv 8 rfl (v_strne rfl rfl) (d_done_seq (by kernel_rfl) ?_)
 refine cC hL1 (fun hL1 => ?_) (fun hL1 => ?_)
 refine cR (oV vA (o_seq (c_ret ?_)))
 cases hL1
 obtain rfl := lrf_ret hF
 exact sR
 refine c_skip (sat_wc (c_region (oV vM (oV vB (oV vA (o_nil ?_))))))
 exact lp [] [0, 1] fun a w hs => ⟨IntKind.wrap .i64 (i + 1), hL1, hs⟩
 refine c_exit0 ?_
 cases hL1
 exact sK [] [0, 1] (hN1 () rfl)
 intro d1 hd
 subst hd
 replace hF := lrf_done hF
 refine sat_wc (cR (oV vA (o_seq (c_ret ?_))))
 cases hF
 exact sR
theorem tri36 {k : Nat} {a_ : List (List Group)} {b : List (List Group)} {r : Bool} (hF : F.ref03.sameChains k a_ b = some r) :
    Tri Tryz.prog 36 [sl A1 L1 C1, sl A2 L2 C2] [] [fS A1 L1 C1 1 (eSl 2 eGroup) a_, fS A2 L2 C2 1 (eSl 2 eGroup) b] (oR (bV r)) := by
 unfold F.ref03.sameChains at hF
 refine tri_intro (n := 75) Tryz.func36 rfl Tryz.ntmps36 rfl fun w X => cR (oV vA (o_seq (c_seq (cR (oV vM (oV (v_lenS (enc := (eSl 2 eGroup)) a_ sl23 rfl (.f 0 rfl)) (oV vM (oV (v_lenS (enc := (eSl 2 eGroup)) b sl23 rfl (.f 1 rfl)) (oV vB (o_seq ?_))))))))))
 refine cC hF (fun hF => ?_) (fun hF => ?_)
 refine cR (oV vA (o_seq (c_ret ?_)))
 cases hF
 exact sR
 refine c_skip (sat_wc (c_seq (cR (oV vA (o_seq ?_)))))
 obtain ⟨o1, ho1, hF⟩ := bd hF
 refine cT (fun E H Φ N' => ∀ (d1 : Unit), o1 = .done d1 → Sat E [(0, sl A1 L1 C1), (1, sl A2 L2 C2), (4, bV false)] [] Φ N') (fun N1 hN1 => ?_) ?_
 refine c_block ?_
 refine cL (fun E H Φ j a w => ∃ (i : Int), F.ref03.sameChains_l1 k a_ b j i = some o1 ∧ St E [(0, sl A1 L1 C1), (1, sl A2 L2 C2), (4, bV false), (5, iI i)] [] Φ a w) k ?_ ?_
 exact lq [] [0, 1] fun a w hs => ⟨0, ho1, hs⟩
 rintro j a w ⟨i, hL1, hs⟩
 rcases j with _ | j
 cases hL1
 refine wc_app hs ?_
 unfold F.ref03.sameChains_l1 at hL1
 refine c_seq (cR (oV vM (oV vM (oV (v_lenS (enc := (eSl 2 eGroup)) a_ sl23 rfl (.f 0 rfl)) (oV vB (o_seq ?_))))))
 refine cC hL1 (fun hL1 => ?_) (fun hL1 => ?_)
 refine c_skip (sat_wc (c_seq (c_block (c_seq (c_seq (ite_some hL1 fun h3 hL1 => c_elem (xs := a_) (enc := (eSl 2 eGroup)) 0 rfl h3 rfl rfl fun A3 L3 C3 => ite_some hL1 fun h4 hL1 => c_elem (xs := b) (enc := (eSl 2 eGroup)) 3 rfl h4 rfl rfl fun A4 L4 C4 => c_draw (n := 11) [] mixed rfl rfl (dv 0 rfl vM (dv 1 rfl vM (dv 2 rfl (v_indexAddr_s (xs := a_) (enc := (eSl 2 eGroup)) sl23 rfl rfl (.f 4 rfl) h3) (dv 3 rfl (v_load_cl 2 ty58 rfl rfl rfl rfl rfl) (dv 4 rfl (v_lenS (enc := eGroup) (at_ a_ i) sl58 rfl (.f 3 rfl)) ?_)))))))))))
 refine dv 5 rfl vM (dv 6 rfl vM (dv 7 rfl (v_indexAddr_s (xs := b) (enc := (eSl 2 eGroup)) sl23 rfl rfl (.f 5 rfl) h4) (dv 8 rfl (v_load_cl 0 ty58 rfl rfl rfl rfl rfl) (dv 9 rfl (v_lenS (enc := eGroup) (at_ b i) sl58 rfl (.f 1 rfl)) (dv 10 rfl vB (d_done_seq (by kernel_rfl) ?_))))))
 refine cC hL1 (fun hL1 => ?_) (fun hL1 => ?_)
 refine cR (oV vA (o_seq (c_ret ?_)))
 cases hL1
 obtain rfl := lrf_ret hF
 exact sR
 refine c_skip (sat_wc (cR (oV vA (o_seq ?_))))
 obtain ⟨o2, ho2, hL1⟩ := bd hL1
 refine c_cut (fun E N' => ∀ (d2 : Int), o2 = .done d2 → Sat E [(0, sl A1 L1 C1), (1, sl A2 L2 C2), (4, bV false), (5, iI i), (6, iI d2)] [] [fS A1 L1 C1 1 (eSl 2 eGroup) a_, fS A2 L2 C2 1 (eSl 2 eGroup) b] N') (fun N2 hN2 => ?_) ?_
 refine c_block ?_
 refine c_loopE (fun E j a w => ∃ (k_ : Int), F.ref03.sameChains_l2 k a_ i b j k_ = some o2 ∧ St E [(0, sl A1 L1 C1), (1, sl A2 L2 C2), (4, bV false), (5, iI i), (6, iI k_)] [] [fS A1 L1 C1 1 (eSl 2 eGroup) a_, fS A2 L2 C2 1 (eSl 2 eGroup) b] a w) k ?_ ?_
 exact lq [] [4, 5] fun a w hs => ⟨0, ho2, hs⟩
 rintro j a w ⟨k_, hL2, hs⟩
 rcases j with _ | j
 cases hL2
 refine wc_app hs ?_
 unfold F.ref03.sameChains_l2 at hL2
 refine c_seq (cR (oV vM (oV vM (oV vM (oV (v_indexAddr_s (xs := a_) (enc := (eSl 2 eGroup)) sl23 rfl rfl (.f 0 rfl) h3) (o_load_s (xs := a_) (enc := (eSl 2 eGroup)) ty58 rfl (.f 0 rfl) h3 rfl rfl rfl rfl rfl rfl ?_))))))
 intro A5 L5 C5
 refine oV (v_lenS (enc := eGroup) (at_ a_ i) sl58 rfl (.f 0 rfl)) (oV vB (o_seq ?_))
 refine cC hL2 (fun hL2 => ?_) (fun hL2 => ?_)
 refine c_skip (sat_wc (c_seq ?_))
 refine c_cut (fun E N' => F.ref03.sameChains_j3 (F.ref03.sameChains_l2 k a_ i b j) k_ = some o2 → Sat E [(0, sl A1 L1 C1), (1, sl A2 L2 C2), (4, bV false), (5, iI i), (6, iI k_)] [] [fS A1 L1 C1 1 (eSl 2 eGroup) a_, fS A2 L2 C2 1 (eSl 2 eGroup) b] N') (fun N3 hN3 => ?_) ?_
 refine c_block (c_seq (c_elem (xs := a_) (enc := (eSl 2 eGroup)) 1 rfl h3 rfl rfl fun A6 L6 C6 => c_elem (xs := b) (enc := (eSl 2 eGroup)) 4 rfl h4 rfl rfl fun A7 L7 C7 => c_draw (n := 37) [] mixed rfl rfl (dv 0 rfl vM (dv 1 rfl vM (dv 2 rfl (v_indexAddr_s (xs := a_) (enc := (eSl 2 eGroup)) sl23 rfl rfl (.f 5 rfl) h3) (dv 3 rfl (v_load_cl 2 ty58 rfl rfl rfl rfl rfl) (dv 4 rfl vM (ite_some hL2 ?_))))))))
 intro h7 hL2
 refine dv 5 rfl (v_indexAddr_s (xs := at_ a_ i) (enc := eGroup) sl58 rfl rfl (.f 3 rfl) h7) (dv 6 rfl (v_fieldAddr (v := .pointer (some ⟨blkA A6, offA A6 + (Int.toNat k_ * 2 + 0), none⟩)) rfl (fun _ => by kernel_rfl)) (dv 7 rfl (v_load_s (xs := at_ a_ i) (enc := eGroup) ty3 rfl (.f 3 rfl) h7 rfl rfl rfl rfl rfl rfl rfl) (dv 8 rfl vM (dv 9 rfl vM ?_))))
 refine dv 10 rfl (v_indexAddr_s (xs := b) (enc := (eSl 2 eGroup)) sl23 rfl rfl (.f 6 rfl) h4) (dv 11 rfl (v_load_cl 0 ty58 rfl rfl rfl rfl rfl) (dv 12 rfl vM (ite_some hL2 ?_)))
 intro h8 hL2
 refine dv 13 rfl (v_indexAddr_s (xs := at_ b i) (enc := eGroup) sl58 rfl rfl (.f 1 rfl) h8) (dv 14 rfl (v_fieldAddr (v := .pointer (some ⟨blkA A7, offA A7 + (Int.toNat k_ * 2 + 0), none⟩)) rfl (fun _ => by kernel_rfl)) (dv 15 rfl (v_load_s (xs := at_ b i) (enc := eGroup) ty3 rfl (.f 1 rfl) h8 rfl rfl rfl rfl rfl rfl rfl) (dv 16 rfl vB (dv 17 rfl vM ?_))))
 refine d_split (t := 55) rfl (fun h9 => ?_) (fun h9 => ?_)
 replace hL2 := ite_t h9 hL2
 refine dF 18 rfl (dF 19 rfl (dF 20 rfl (dF 21 rfl (dF 22 rfl (dF 23 rfl (dF 24 rfl (dF 25 rfl (dF 26 rfl (dF 27 rfl (dF 28 rfl (dF 29 rfl (dF 30 rfl (dF 31 rfl (dF 32 rfl (dF 33 rfl ?_)))))))))))))))
 refine dF 34 rfl (dF 35 rfl (dv 36 rfl vPt (d_done_seq (by kernel_rfl) ?_)))
 refine c_cond rfl (fun _ => ?_) (fun h => Bool.noConfusion h)
 refine cR (oV vA (o_seq (c_ret ?_)))
 cases hL2
 obtain rfl := lr_ret hL1
 obtain rfl := lrf_ret hF
 exact sR
 replace hL2 := ite_f h9 hL2
 refine dw 18 rfl rfl rfl vM (dw 19 rfl rfl rfl vM (dw 20 rfl rfl rfl (v_indexAddr_s (xs := a_) (enc := (eSl 2 eGroup)) sl23 rfl rfl (.f 5 rfl) h3) (dw 21 rfl rfl rfl (v_load_cl 2 ty58 rfl rfl rfl rfl rfl) (dw 22 rfl rfl rfl vM (dw 23 rfl rfl rfl (v_indexAddr_s (xs := at_ a_ i) (enc := eGroup) sl58 rfl rfl (.f 3 rfl) h7) (dw 24 rfl rfl rfl (v_fieldAddr (v := .pointer (some ⟨blkA A6, offA A6 + (Int.toNat k_ * 2 + 1), none⟩)) rfl (fun _ => by kernel_rfl)) (dw 26 rfl rfl rfl vM (dw 27 rfl rfl rfl vM (dw 28 rfl rfl rfl (v_indexAddr_s (xs := b) (enc := (eSl 2 eGroup)) sl23 rfl rfl (.f 6 rfl) h4) (dw 29 rfl rfl rfl (v_load_cl 0 ty58 rfl rfl rfl rfl rfl) (dw 30 rfl rfl rfl vM (dw 31 rfl rfl rfl (v_indexAddr_s (xs := at_ b i) (enc := eGroup) sl58 rfl rfl (.f 1 rfl) h8) (dw 32 rfl rfl rfl (v_fieldAddr (v := .pointer (some ⟨blkA A7, offA A7 + (Int.toNat k_ * 2 + 1), none⟩)) rfl (fun _ => by kernel_rfl)) ?_)))))))))))))
 obtain ⟨v, h10, hL2⟩ := bd hL2
 refine d_all [25, 33] (by kernel_rfl) (by simp) ⟨⟨_, rfl, ?_⟩, ⟨_, rfl, ?_⟩, trivial⟩
 refine oN (o_load_s (xs := at_ a_ i) (enc := eGroup) ty59 rfl (.f 3 rfl) h7 rfl rfl rfl rfl rfl rfl ?_)
 intro A8 L8 C8
 refine dN [] 1 (dO 33 rfl (oN (o_load_s (xs := at_ b i) (enc := eGroup) ty59 rfl (.f 2 rfl) h8 rfl rfl rfl rfl rfl rfl ?_)))
 intro A9 L9 C9
 refine dN [] 2 (dO 34 rfl (oN (o_callSB call78 rfl (lent_f 1 rfl (lent_f 0 rfl lent_nil)) (tri78 h10 :) rfl (dN [] 2 (dw 35 rfl rfl rfl vN (dv 36 rfl vPf (d_done_seq (by kernel_rfl) ?_)))))))
 refine cC hL2 (fun hL2 => ?_) (fun hL2 => ?_)
 refine cR (oV vA (o_seq (c_ret ?_)))
 cases hL2
 obtain rfl := lr_ret hL1
 obtain rfl := lrf_ret hF
 exact sR
 refine c_skip ?_
 exact sK [] [7, 8] (hN3 hL2)
 refine oN (o_load_s (xs := at_ b i) (enc := eGroup) ty59 rfl (.f 1 rfl) h8 rfl rfl rfl rfl rfl rfl ?_)
 intro A8 L8 C8
 refine dN [] 1 (dO 25 rfl (oN (o_load_s (xs := at_ a_ i) (enc := eGroup) ty59 rfl (.f 4 rfl) h7 rfl rfl rfl rfl rfl rfl ?_)))
 intro A9 L9 C9
 refine dN [] 2 (dO 34 rfl (oN (o_callSB call78 rfl (lent_f 0 rfl (lent_f 1 rfl lent_nil)) (tri78 h10 :) rfl (dN [] 2 (dw 35 rfl rfl rfl vN (dv 36 rfl vPf (d_done_seq (by kernel_rfl) ?_)))))))
 refine cC hL2 (fun hL2 => ?_) (fun hL2 => ?_)
 refine cR (oV vA (o_seq (c_ret ?_)))
 cases hL2
 obtain rfl := lr_ret hL1
 obtain rfl := lrf_ret hF
 exact sR
 refine c_skip ?_
 exact sK [] [7, 8] (hN3 hL2)
 intro hL2
 unfold F.ref03.sameChains_j3 at hL2
 refine sat_wc (c_region (oV vM (oV vB (oV vA (o_nil ?_)))))
 exact lp [] [0, 1] fun a w hs => ⟨IntKind.wrap .i64 (k_ + 1), hL2, hs⟩
 refine c_exit0 ?_
 cases hL2
 exact sK [] [1, 2] (hN2 k_ rfl)
 intro d2 hd
 subst hd
 replace hL1 := lr_done hL1
 refine sat_wc (c_region (oV vM (oV vB (oV vA (o_nil ?_)))))
 exact lp [] [0, 1] fun a w hs => ⟨IntKind.wrap .i64 (i + 1), hL1, hs⟩
 refine c_exit0 ?_
 cases hL1
 exact sK [] [0, 1] (hN1 () rfl)
 intro d1 hd
 subst hd
 replace hF := lrf_done hF
 refine sat_wc (cR (oV vA (o_seq (c_ret ?_))))
 cases hF
 exact sR
theorem tri15 {k : Nat} {a_ : Def} {b : Def} {r : Bool} (hF : F.ref03.Same k a_ b = some r) :
    Tri Tryz.prog 15 [.agg (vDef a_ A1 L1 C1 A2 L2 C2 A3 L3 C3 A4 L4 C4 A5 L5 C5).toArray, .agg (vDef b A6 L6 C6 A7 L7 C7 A8 L8 C8 A9 L9 C9 A10 L10 C10).toArray] [] [fS A1 L1 C1 5 eProd a_.Prods, fS A2 L2 C2 1 (eSl 2 eGroup) a_.Chains, fS A3 L3 C3 5 eFollow a_.Follows, fS A4 L4 C4 2 eReject a_.Rejects, fS A5 L5 C5 2 eBox a_.Boxes, fS A6 L6 C6 5 eProd b.Prods, fS A7 L7 C7 1 (eSl 2 eGroup) b.Chains, fS A8 L8 C8 5 eFollow b.Follows, fS A9 L9 C9 2 eReject b.Rejects, fS A10 L10 C10 2 eBox b.Boxes] (oR (bV r)) := by
 unfold F.ref03.Same at hF
 refine tri_intro (n := 131) Tryz.func15 rfl Tryz.ntmps15 rfl fun w X => cR (o_box rfl rfl rfl fun b1 => o_box rfl rfl rfl fun b2 => oV vA (o_seq (c_seq (c_seq ?_))))
 refine cT (fun E H Φ N' => ∀ (t46 : Bool), F.ref03.Same_j1 k a_ b t46 = some r → Sat E [(0, .agg (vDef a_ A1 L1 C1 A2 L2 C2 A3 L3 C3 A4 L4 C4 A5 L5 C5).toArray), (1, .agg (vDef b A6 L6 C6 A7 L7 C7 A8 L8 C8 A9 L9 C9 A10 L10 C10).toArray), (2, pt b1), (3, pt b2), (4, bV false), (46, bV t46)] H Φ N') (fun N5 hN5 => ?_) ?_
 refine c_region ((fD 0) (oV (vL 1 ty9) ((fD 0) (oV (vL 0 ty9) (oV (v_strne rfl rfl) (oV vM ?_))))))
 refine oS 13 hF (fun hF => ?_) (fun hF => ?_)
 refine oF (oF (oF (oF (oF (oV vPt (oV vM (oF (oF (oF (oF (oF (oF (oF (oV vPt (oV vM ?_)))))))))))))))
 refine oF (oF (oF (oF (oF (oF (oF (oV vPt (oV vM (oF (oF (oF (oF (oF (oF (oF ?_)))))))))))))))
 refine oV vPt (o_nil ?_)
 exact sK [0, 0] [0, 1, 2, 3, 4, 5, 6, 7, 8, 9] (hN5 true hF)
 refine oN ((fD 1) (oN (oV (vL 1 ty9) (oN ((fD 1) (oN (oV (vL 0 ty9) (oN (oV (v_strne rfl rfl) (oV vPf (oV vM ?_)))))))))))
 refine oS 20 hF (fun hF => ?_) (fun hF => ?_)
 refine oF (oF (oF (oF (oF (oF (oF (oV vPt (oV vM (oF (oF (oF (oF (oF (oF (oF ?_)))))))))))))))
 refine oV vPt (oV vM (oF (oF (oF (oF (oF (oF (oF (oV vPt (o_nil ?_))))))))))
 exact sK [0, 0] [0, 1, 2, 3, 4, 5, 6, 7, 8, 9] (hN5 true hF)
 refine oN ((fD 4) (oN (oV (vL 1 ty24) (oN (oV (v_lenS (enc := eFollow) a_.Follows sl24 rfl (.f 2 rfl)) (oN ((fD 4) (oN (oV (vL 0 ty24) (oN (oV (v_lenS (enc := eFollow) b.Follows sl24 rfl (.f 7 rfl)) (oN (oV vB (oV vPf (oV vM ?_)))))))))))))))
 refine oS 29 hF (fun hF => ?_) (fun hF => ?_)
 refine oF (oF (oF (oF (oF (oF (oF (oV vPt (oV vM (oF (oF (oF (oF (oF (oF (oF ?_)))))))))))))))
 refine oV vPt (o_nil ?_)
 exact sK [0, 0] [0, 1, 2, 3, 4, 5, 6, 7, 8, 9] (hN5 true hF)
 refine oN ((fD 5) (oN (oV (vL 1 ty25) (oN (oV (v_lenS (enc := eReject) a_.Rejects sl25 rfl (.f 3 rfl)) (oN ((fD 5) (oN (oV (vL 0 ty25) (oN (oV (v_lenS (enc := eReject) b.Rejects sl25 rfl (.f 8 rfl)) (oN (oV vB (oV vPf (oV vM ?_)))))))))))))))
 refine oS 38 hF (fun hF => ?_) (fun hF => ?_)
 refine oF (oF (oF (oF (oF (oF (oF (oV vPt (o_nil ?_))))))))
 exact sK [0, 0] [0, 1, 2, 3, 4, 5, 6, 7, 8, 9] (hN5 true hF)
 refine oN ((fD 6) (oN (oV (vL 1 ty26) (oN (oV (v_lenS (enc := eBox) a_.Boxes sl26 rfl (.f 4 rfl)) (oN ((fD 6) (oN (oV (vL 0 ty26) (oN (oV (v_lenS (enc := eBox) b.Boxes sl26 rfl (.f 9 rfl)) (oN (oV vB (oV vPf (o_nil ?_)))))))))))))))
 exact sK [0, 0] [0, 1, 2, 3, 4, 5, 6, 7, 8, 9] (hN5 ((a_.Boxes.length : Int) != (b.Boxes.length : Int)) hF)
 intro t46 hF
 unfold F.ref03.Same_j1 at hF
 refine sat_wc ?_
 refine cC hF (fun hF => ?_) (fun hF => ?_)
 refine cR (oV vA (o_seq (c_ret ?_)))
 cases hF
 exact sR
 refine c_skip (sat_wc (c_seq (cR (oV vA (o_seq ?_)))))
 obtain ⟨o2, ho2, hF⟩ := bd hF
 refine cT (fun E H Φ N' => ∀ (d2 : Unit), o2 = .done d2 → Sat E [(0, .agg (vDef a_ A1 L1 C1 A2 L2 C2 A3 L3 C3 A4 L4 C4 A5 L5 C5).toArray), (1, .agg (vDef b A6 L6 C6 A7 L7 C7 A8 L8 C8 A9 L9 C9 A10 L10 C10).toArray), (2, pt b1), (3, pt b2), (4, bV false)] H Φ N') (fun N2 hN2 => ?_) ?_
 refine c_block ?_
 refine cL (fun E H Φ j a w => ∃ (i : Int), F.ref03.Same_l2 a_ b j i = some o2 ∧ St E [(0, .agg (vDef a_ A1 L1 C1 A2 L2 C2 A3 L3 C3 A4 L4 C4 A5 L5 C5).toArray), (1, .agg (vDef b A6 L6 C6 A7 L7 C7 A8 L8 C8 A9 L9 C9 A10 L10 C10).toArray), (2, pt b1), (3, pt b2), (4, bV false), (5, iI i)] H Φ a w) k ?_ ?_
 exact lq [0, 0] [0, 1, 2, 3, 4, 5, 6, 7, 8, 9] fun a w hs => ⟨0, ho2, hs⟩
 rintro j a w ⟨i, hL2, hs⟩
 rcases j with _ | j
 cases hL2
 refine wc_app hs ?_
 unfold F.ref03.Same_l2 at hL2
 refine c_seq (cR (oV vM ((fD 4) (oV (vL 1 ty24) (oV (v_lenS (enc := eFollow) a_.Follows sl24 rfl (.f 2 rfl)) (oV vB (o_seq ?_)))))))
 refine cC hL2 (fun hL2 => ?_) (fun hL2 => ?_)
 refine c_skip (sat_wc (c_seq (c_block (c_seq (c_draw (n := 11) [0, 0] mixed rfl rfl (dv 0 rfl (vF 4) (dv 1 rfl (vL 1 ty24) (dv 2 rfl vM (ite_some hL2 ?_)))))))))
 intro h3 hL2
 refine dv 3 rfl (v_indexAddr_s (xs := a_.Follows) (enc := eFollow) sl24 rfl rfl (.f 2 rfl) h3) (dv 4 rfl (v_load_s (xs := a_.Follows) (enc := eFollow) ty48 rfl (.f 2 rfl) h3 rfl rfl rfl rfl rfl rfl rfl) (dv 5 rfl (vF 4) (dv 6 rfl (vL 0 ty24) (dv 7 rfl vM (ite_some hL2 ?_)))))
 intro h4 hL2
 refine ?_
 refine dv 8 rfl (v_indexAddr_s (xs := b.Follows) (enc := eFollow) sl24 rfl rfl (.f 7 rfl) h4) (dv 9 rfl (v_load_s (xs := b.Follows) (enc := eFollow) ty48 rfl (.f 7 rfl) h4 rfl rfl rfl rfl rfl rfl rfl) (dv 10 rfl (v_agne 3 rfl rfl (eq48 ((at_ a_.Follows i).Sort_) ((at_ a_.Follows i).Set.w0) ((at_ a_.Follows i).Set.w1) ((at_ a_.Follows i).Set.w2) ((at_ a_.Follows i).Set.w3) ((at_ b.Follows i).Sort_) ((at_ b.Follows i).Set.w0) ((at_ b.Follows i).Set.w1) ((at_ b.Follows i).Set.w2) ((at_ b.Follows i).Set.w3)) rfl guard48) (d_done_seq (by kernel_rfl) ?_)))
 refine cC hL2 (fun hL2 => ?_) (fun hL2 => ?_)
 refine cR (oV vA (o_seq (c_ret ?_)))
 cases hL2
 obtain rfl := lrf_ret hF
 exact sR
 refine c_skip (sat_wc (c_region (oV vM (oV vB (oV vA (o_nil ?_))))))
 exact lp [0, 0] [0, 1, 2, 3, 4, 5, 6, 7, 8, 9] fun a w hs => ⟨IntKind.wrap .i64 (i + 1), hL2, hs⟩
 refine c_exit0 ?_
 cases hL2
 exact sK [0, 0] [0, 1, 2, 3, 4, 5, 6, 7, 8, 9] (hN2 () rfl)
 intro d2 hd
 subst hd
 replace hF := lrf_done hF
 refine sat_wc (c_seq (cR (oV vA (o_seq ?_))))
 obtain ⟨o3, ho3, hF⟩ := bd hF
 refine cT (fun E H Φ N' => ∀ (d3 : Unit), o3 = .done d3 → Sat E [(0, .agg (vDef a_ A1 L1 C1 A2 L2 C2 A3 L3 C3 A4 L4 C4 A5 L5 C5).toArray), (1, .agg (vDef b A6 L6 C6 A7 L7 C7 A8 L8 C8 A9 L9 C9 A10 L10 C10).toArray), (2, pt b1), (3, pt b2), (4, bV false)] H Φ N') (fun N3 hN3 => ?_) ?_
 refine c_block ?_
 refine cL (fun E H Φ j a w => ∃ (i1 : Int), F.ref03.Same_l3 a_ b j i1 = some o3 ∧ St E [(0, .agg (vDef a_ A1 L1 C1 A2 L2 C2 A3 L3 C3 A4 L4 C4 A5 L5 C5).toArray), (1, .agg (vDef b A6 L6 C6 A7 L7 C7 A8 L8 C8 A9 L9 C9 A10 L10 C10).toArray), (2, pt b1), (3, pt b2), (4, bV false), (6, iI i1)] H Φ a w) k ?_ ?_
 exact lq [0, 0] [0, 1, 2, 3, 4, 5, 6, 7, 8, 9] fun a w hs => ⟨0, ho3, hs⟩
 rintro j a w ⟨i1, hL3, hs⟩
 rcases j with _ | j
 cases hL3
 refine wc_app hs ?_
 unfold F.ref03.Same_l3 at hL3
 refine c_seq (cR (oV vM ((fD 5) (oV (vL 1 ty25) (oV (v_lenS (enc := eReject) a_.Rejects sl25 rfl (.f 3 rfl)) (oV vB (o_seq ?_)))))))
 refine cC hL3 (fun hL3 => ?_) (fun hL3 => ?_)
 refine c_skip (sat_wc (c_seq (c_block (c_seq (c_draw (n := 11) [0, 0] mixed rfl rfl (dv 0 rfl (vF 5) (dv 1 rfl (vL 1 ty25) (dv 2 rfl vM (ite_some hL3 ?_)))))))))
 intro h7 hL3
 refine dv 3 rfl (v_indexAddr_s (xs := a_.Rejects) (enc := eReject) sl25 rfl rfl (.f 3 rfl) h7) (dv 4 rfl (v_load_s (xs := a_.Rejects) (enc := eReject) ty78 rfl (.f 3 rfl) h7 rfl rfl rfl rfl rfl rfl rfl) (dv 5 rfl (vF 5) (dv 6 rfl (vL 0 ty25) (dv 7 rfl vM (ite_some hL3 ?_)))))
 intro h8 hL3
 refine ?_
 refine dv 8 rfl (v_indexAddr_s (xs := b.Rejects) (enc := eReject) sl25 rfl rfl (.f 8 rfl) h8) (dv 9 rfl (v_load_s (xs := b.Rejects) (enc := eReject) ty78 rfl (.f 8 rfl) h8 rfl rfl rfl rfl rfl rfl rfl) (dv 10 rfl (v_agne 2 rfl rfl (eq78 ((at_ a_.Rejects i1).Sort_) ((at_ a_.Rejects i1).By) ((at_ b.Rejects i1).Sort_) ((at_ b.Rejects i1).By)) rfl guard78) (d_done_seq (by kernel_rfl) ?_)))
 refine cC hL3 (fun hL3 => ?_) (fun hL3 => ?_)
 refine cR (oV vA (o_seq (c_ret ?_)))
 cases hL3
 obtain rfl := lrf_ret hF
 exact sR
 refine c_skip (sat_wc (c_region (oV vM (oV vB (oV vA (o_nil ?_))))))
 exact lp [0, 0] [0, 1, 2, 3, 4, 5, 6, 7, 8, 9] fun a w hs => ⟨IntKind.wrap .i64 (i1 + 1), hL3, hs⟩
 refine c_exit0 ?_
 cases hL3
 exact sK [0, 0] [0, 1, 2, 3, 4, 5, 6, 7, 8, 9] (hN3 () rfl)
 intro d3 hd
 subst hd
 replace hF := lrf_done hF
 refine sat_wc (c_seq (cR (oV vA (o_seq ?_))))
 obtain ⟨o4, ho4, hF⟩ := bd hF
 refine cT (fun E H Φ N' => ∀ (d4 : Unit), o4 = .done d4 → Sat E [(0, .agg (vDef a_ A1 L1 C1 A2 L2 C2 A3 L3 C3 A4 L4 C4 A5 L5 C5).toArray), (1, .agg (vDef b A6 L6 C6 A7 L7 C7 A8 L8 C8 A9 L9 C9 A10 L10 C10).toArray), (2, pt b1), (3, pt b2), (4, bV false)] H Φ N') (fun N4 hN4 => ?_) ?_
 refine c_block ?_
 refine cL (fun E H Φ j a w => ∃ (i2 : Int), F.ref03.Same_l4 k a_ b j i2 = some o4 ∧ St E [(0, .agg (vDef a_ A1 L1 C1 A2 L2 C2 A3 L3 C3 A4 L4 C4 A5 L5 C5).toArray), (1, .agg (vDef b A6 L6 C6 A7 L7 C7 A8 L8 C8 A9 L9 C9 A10 L10 C10).toArray), (2, pt b1), (3, pt b2), (4, bV false), (7, iI i2)] H Φ a w) k ?_ ?_
 exact lq [0, 0] [0, 1, 2, 3, 4, 5, 6, 7, 8, 9] fun a w hs => ⟨0, ho4, hs⟩
 rintro j a w ⟨i2, hL4, hs⟩
 rcases j with _ | j
 cases hL4
 refine wc_app hs ?_
 unfold F.ref03.Same_l4 at hL4
 refine c_seq (cR (oV vM ((fD 6) (oV (vL 1 ty26) (oV (v_lenS (enc := eBox) a_.Boxes sl26 rfl (.f 4 rfl)) (oV vB (o_seq ?_)))))))
 refine cC hL4 (fun hL4 => ?_) (fun hL4 => ?_)
 refine c_skip (sat_wc (c_seq ?_))
 refine cT (fun E H Φ N' => F.ref03.Same_j5 (F.ref03.Same_l4 k a_ b j) i2 = some o4 → Sat E [(0, .agg (vDef a_ A1 L1 C1 A2 L2 C2 A3 L3 C3 A4 L4 C4 A5 L5 C5).toArray), (1, .agg (vDef b A6 L6 C6 A7 L7 C7 A8 L8 C8 A9 L9 C9 A10 L10 C10).toArray), (2, pt b1), (3, pt b2), (4, bV false), (7, iI i2)] H Φ N') (fun N5 hN5 => ?_) ?_
 refine c_block (c_seq (c_draw (n := 29) [0, 0] mixed rfl rfl (dv 0 rfl (vF 6) (dv 1 rfl (vL 1 ty26) (dv 2 rfl vM (ite_some hL4 ?_))))))
 intro h11 hL4
 refine dv 3 rfl (v_indexAddr_s (xs := a_.Boxes) (enc := eBox) sl26 rfl rfl (.f 4 rfl) h11) (dv 4 rfl (v_fieldAddr (v := .pointer (some ⟨blkA A5, offA A5 + (Int.toNat i2 * 2 + 0), none⟩)) rfl (fun _ => by kernel_rfl)) (dv 5 rfl (v_load_s (xs := a_.Boxes) (enc := eBox) ty9 rfl (.f 4 rfl) h11 rfl rfl rfl rfl rfl rfl rfl) (dv 6 rfl (vF 6) (dv 7 rfl (vL 0 ty26) (dv 8 rfl vM (ite_some hL4 ?_))))))
 intro h12 hL4
 refine dv 9 rfl (v_indexAddr_s (xs := b.Boxes) (enc := eBox) sl26 rfl rfl (.f 9 rfl) h12) (dv 10 rfl (v_fieldAddr (v := .pointer (some ⟨blkA A10, offA A10 + (Int.toNat i2 * 2 + 0), none⟩)) rfl (fun _ => by kernel_rfl)) ?_)
 refine dv 11 rfl (v_load_s (xs := b.Boxes) (enc := eBox) ty9 rfl (.f 9 rfl) h12 rfl rfl rfl rfl rfl rfl rfl) (dv 12 rfl (v_strne rfl rfl) (dv 13 rfl vM ?_))
 refine d_split (t := 103) rfl (fun h13 => ?_) (fun h13 => ?_)
 replace hL4 := ite_t h13 hL4
 refine dF 14 rfl (dF 15 rfl (dF 16 rfl (dF 17 rfl (dF 18 rfl (dF 19 rfl (dF 20 rfl (dF 21 rfl (dF 22 rfl (dF 23 rfl (dF 24 rfl (dF 25 rfl (dF 26 rfl (dF 27 rfl (dv 28 rfl vPt (d_done_seq (by kernel_rfl) ?_)))))))))))))))
 refine c_cond rfl (fun _ => ?_) (fun h => Bool.noConfusion h)
 refine cR (oV vA (o_seq (c_ret ?_)))
 cases hL4
 obtain rfl := lrf_ret hF
 exact sR
 replace hL4 := ite_f h13 hL4
 refine dw 14 rfl rfl rfl (vF 6) (dw 15 rfl rfl rfl (vL 1 ty26) (dw 16 rfl rfl rfl vM (dw 17 rfl rfl rfl (v_indexAddr_s (xs := a_.Boxes) (enc := eBox) sl26 rfl rfl (.f 4 rfl) h11) (dw 18 rfl rfl rfl (v_fieldAddr (v := .pointer (some ⟨blkA A5, offA A5 + (Int.toNat i2 * 2 + 1), none⟩)) rfl (fun _ => by kernel_rfl)) (dw 20 rfl rfl rfl (vF 6) (dw 21 rfl rfl rfl (vL 0 ty26) (dw 22 rfl rfl rfl vM (dw 23 rfl rfl rfl (v_indexAddr_s (xs := b.Boxes) (enc := eBox) sl26 rfl rfl (.f 9 rfl) h12) (dw 24 rfl rfl rfl (v_fieldAddr (v := .pointer (some ⟨blkA A10, offA A10 + (Int.toNat i2 * 2 + 1), none⟩)) rfl (fun _ => by kernel_rfl)) ?_)))))))))
 obtain ⟨v, h14, hL4⟩ := bd hL4
 refine d_all [19, 25] (by kernel_rfl) (by simp) ⟨⟨_, rfl, ?_⟩, ⟨_, rfl, ?_⟩, trivial⟩
 refine oN (o_load_s (xs := a_.Boxes) (enc := eBox) ty62 rfl (.f 4 rfl) h11 rfl rfl rfl rfl rfl rfl ?_)
 intro A11 L11 C11
 refine dN [0, 0] 1 (dO 25 rfl (oN (o_load_s (xs := b.Boxes) (enc := eBox) ty62 rfl (.f 10 rfl) h12 rfl rfl rfl rfl rfl rfl ?_)))
 intro A12 L12 C12
 refine dN [0, 0] 2 (dO 26 rfl (oN (o_callSB call34 rfl (lent_f 1 rfl (lent_f 0 rfl lent_nil)) ((tri34 _) h14 :) rfl (dN [0, 0] 2 (dw 27 rfl rfl rfl vN (dv 28 rfl vPf (d_done_seq (by kernel_rfl) ?_)))))))
 refine cC hL4 (fun hL4 => ?_) (fun hL4 => ?_)
 refine cR (oV vA (o_seq (c_ret ?_)))
 cases hL4
 obtain rfl := lrf_ret hF
 exact sR
 refine c_skip ?_
 exact sK [0, 0] [2, 3, 4, 5, 6, 7, 8, 9, 10, 11] (hN5 hL4)
 refine oN (o_load_s (xs := b.Boxes) (enc := eBox) ty62 rfl (.f 9 rfl) h12 rfl rfl rfl rfl rfl rfl ?_)
 intro A11 L11 C11
 refine dN [0, 0] 1 (dO 19 rfl (oN (o_load_s (xs := a_.Boxes) (enc := eBox) ty62 rfl (.f 5 rfl) h11 rfl rfl rfl rfl rfl rfl ?_)))
 intro A12 L12 C12
 refine dN [0, 0] 2 (dO 26 rfl (oN (o_callSB call34 rfl (lent_f 0 rfl (lent_f 1 rfl lent_nil)) ((tri34 _) h14 :) rfl (dN [0, 0] 2 (dw 27 rfl rfl rfl vN (dv 28 rfl vPf (d_done_seq (by kernel_rfl) ?_)))))))
 refine cC hL4 (fun hL4 => ?_) (fun hL4 => ?_)
 refine cR (oV vA (o_seq (c_ret ?_)))
 cases hL4
 obtain rfl := lrf_ret hF
 exact sR
 refine c_skip ?_
 exact sK [0, 0] [2, 3, 4, 5, 6, 7, 8, 9, 10, 11] (hN5 hL4)
 intro hL4
 unfold F.ref03.Same_j5 at hL4
 refine sat_wc (c_region (oV vM (oV vB (oV vA (o_nil ?_)))))
 exact lp [0, 0] [0, 1, 2, 3, 4, 5, 6, 7, 8, 9] fun a w hs => ⟨IntKind.wrap .i64 (i2 + 1), hL4, hs⟩
 refine c_exit0 ?_
 cases hL4
 exact sK [0, 0] [0, 1, 2, 3, 4, 5, 6, 7, 8, 9] (hN4 () rfl)
 intro d4 hd
 subst hd
 replace hF := lrf_done hF
 refine sat_wc (cR ((fD 2) (oV (vL 1 ty22) ((fD 2) (oV (vL 0 ty22) ?_)))))
 obtain ⟨v1, h16, hF⟩ := bd hF
 refine o_callSB call35 rfl (lent_f 0 rfl (lent_f 5 rfl lent_nil)) (tri35 h16 :) rfl (oV vM ?_)
 refine oS 124 hF (fun hF => ?_) (fun hF => ?_)
 refine oN ((fD 3) (oN (oV (vL 1 ty23) (oN ((fD 3) (oN (oV (vL 0 ty23) (oN ?_))))))))
 obtain ⟨v2, h18, hF⟩ := bd hF
 refine o_callSB call36 rfl (lent_f 1 rfl (lent_f 6 rfl lent_nil)) (tri36 h18 :) rfl (oV vPt (oV vA (o_seq (c_ret ?_))))
 cases hF
 exact sR
 refine oF (oF (oF (oF (oF (oV vPf (oV vA (o_seq (c_ret ?_))))))))
 cases hF
 exact sR
theorem tri3 {k : Nat} {d_ : Def} {r : Bool} (hF : F.law03.DefsWrites k d_ = some r) :
    Tri Tryz.prog 3 [.agg (vDef d_ A1 L1 C1 A2 L2 C2 A3 L3 C3 A4 L4 C4 A5 L5 C5).toArray] [] [gf10 1, fS A1 L1 C1 5 eProd d_.Prods, fS A2 L2 C2 1 (eSl 2 eGroup) d_.Chains, fS A3 L3 C3 5 eFollow d_.Follows, fS A4 L4 C4 2 eReject d_.Rejects, fS A5 L5 C5 2 eBox d_.Boxes] (oR (bV r)) := by
 unfold F.law03.DefsWrites at hF
 refine tri_intro (n := 39) Tryz.func3 rfl Tryz.ntmps3 rfl fun w X => cR (o_box rfl rfl rfl fun b => oV vA (o_seq (c_seq (cR (oV (vL 0 ty28) ?_)))))
 obtain ⟨v, h1, hF⟩ := bd hF
 refine o_callSB call10 rfl (lent_f 1 rfl (lent_f 2 rfl (lent_f 3 rfl (lent_f 4 rfl (lent_f 5 rfl lent_nil))))) (tri10 h1 :) rfl (o_seq ?_)
 refine cC hF (fun hF => ?_) (fun hF => ?_)
 refine cR ?_
 obtain ⟨v1, h3, hF⟩ := bd hF
 refine o_callSB call11 rfl (lent_f 0 rfl lent_nil) (tri11 h3 :) rfl (oV vA (o_seq (c_ret ?_)))
 cases hF
 exact sR
 refine c_skip (sat_wc (cR (oV (vL 0 ty28) ?_)))
 obtain ⟨v2, h4, hF⟩ := bd hF
 refine o_call0 call12 rfl (subs [1, 2, 3, 4, 5] rfl) (tri12 h4 :) rfl ?_
 rintro _ _ _ ⟨A6, L6, C6, A7, L7, C7, A8, L8, C8, A9, L9, C9, A10, L10, C10, rfl, rfl, rfl⟩
 refine o_alloc zero28 rfl rfl fun b1 => (sT 0 ty28) (o_seq (cR (oV (vL 0 ty28) ?_)))
 obtain ⟨v3, h5, hF⟩ := bd hF
 refine o_callSB call13 rfl (lent_f 0 rfl (lent_r 1 rfl (lent_r 2 rfl (lent_r 3 rfl (lent_r 4 rfl (lent_r 5 rfl lent_nil)))))) (tri13 h5 :) rfl (oV vM (oV vX (oV vX (oV vA (oV vA (o_seq (cR (oV (vL 6 ty28) ?_))))))))
 obtain ⟨v4, h6, hF⟩ := bd hF
 refine o_callSB call14 rfl (lent_f 1 rfl (lent_f 2 rfl (lent_f 3 rfl (lent_f 4 rfl (lent_f 5 rfl lent_nil))))) (tri14 h6 :) rfl (oV vM (oV vX (oV vX (oV vA (oV vA (o_seq (c_seq ?_)))))))
 refine cT (fun E H Φ N' => ∀ (t2 : Bool), F.law03.DefsWrites_j1 t2 = some r → Sat E [(0, .agg (vDef d_ A1 L1 C1 A2 L2 C2 A3 L3 C3 A4 L4 C4 A5 L5 C5).toArray), (1, pt b), (2, bV t2), (3, pt b1)] [.box b1 28 (vDef v2 A6 L6 C6 A7 L7 C7 A8 L8 C8 A9 L9 C9 A10 L10 C10), .box b 28 (vDef d_ A1 L1 C1 A2 L2 C2 A3 L3 C3 A4 L4 C4 A5 L5 C5), rW A6 L6 C6 57 5 eProd v2.Prods, rW A7 L7 C7 58 1 (eSl 2 eGroup) v2.Chains, rW A8 L8 C8 48 5 eFollow v2.Follows, rW A9 L9 C9 78 2 eReject v2.Rejects, rW A10 L10 C10 64 2 eBox v2.Boxes] Φ N') (fun N1 hN1 => ?_) ?_
 refine c_region ?_
 obtain ⟨v5, h7, hF⟩ := bd hF
 refine o_callSB call11 rfl (lent_f 0 rfl lent_nil) (tri11 h7 :) rfl (oV vM ?_)
 refine oS 24 hF (fun hF => ?_) (fun hF => ?_)
 refine oN (oV vM (oN (oV vM (oN (oV (v_streq rfl rfl) (oV vPt (oV vM ?_)))))))
 refine oS 29 hF (fun hF => ?_) (fun hF => ?_)
 refine oN (oV vM (oN (oV vM (oN (oV vB (oV vPt (oV vM ?_)))))))
 refine oS 34 hF (fun hF => ?_) (fun hF => ?_)
 refine oN (oV (vL 0 ty28) (oN (oV (vL 6 ty28) (oN ?_))))
 obtain ⟨v6, h11, hF⟩ := bd hF
 refine o_callSB call15 rfl (lent_r 1 rfl (lent_r 2 rfl (lent_r 3 rfl (lent_r 4 rfl (lent_r 5 rfl (lent_f 1 rfl (lent_f 2 rfl (lent_f 3 rfl (lent_f 4 rfl (lent_f 5 rfl lent_nil)))))))))) (tri15 h11 :) rfl (oV vPt (oV vA (o_nil ?_)))
 exact sK [0, 5, 0, 0, 0, 0, 0] [0, 1, 2, 3, 4, 5] (hN1 v6 hF)
 refine oF (oF (oF (oV vPf (oV vA (o_nil ?_)))))
 exact sK [0, 5, 0, 0, 0, 0, 0] [0, 1, 2, 3, 4, 5] (hN1 false hF)
 refine oF (oF (oF (oV vPf (oV vM (oF (oF (oF (oV vPf (oV vA (o_nil ?_))))))))))
 exact sK [0, 5, 0, 0, 0, 0, 0] [0, 1, 2, 3, 4, 5] (hN1 false hF)
 refine oF (oF (oF (oV vPf (oV vM (oF (oF (oF (oV vPf (oV vM (oF (oF (oF (oV vPf (oV vA (o_nil ?_)))))))))))))))
 exact sK [0, 5, 0, 0, 0, 0, 0] [0, 1, 2, 3, 4, 5] (hN1 false hF)
 intro t2 hF
 unfold F.law03.DefsWrites_j1 at hF
 refine sat_wc (c_ret ?_)
 cases hF
 exact sR
end Go.Vc
