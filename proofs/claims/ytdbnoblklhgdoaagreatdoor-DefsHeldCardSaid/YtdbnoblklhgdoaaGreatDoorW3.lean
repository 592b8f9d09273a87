import Derived.Test.YtdbnoblklhgdoaaGreatDoorW2
set_option linter.unusedVariables false
set_option linter.unusedSimpArgs false
set_option maxRecDepth 8000
set_option maxHeartbeats 2000000
namespace Go.Vc
open Go Go.Proofs
theorem tri19 {k : Nat} {s : S4} {r : Tx} (hF : F.charset.Print k s = some r) :
    Tri Tryz.prog 19 [.agg s.vs.toArray] [] [] (oR (sV r)) := by
 unfold F.charset.Print at hF
 refine tri_intro (n := 41) Tryz.func19 rfl Tryz.ntmps19 rfl fun w X => c_seq (c_region (o_box rfl rfl rfl fun b => oV vA (o_seq (c_seq (c_region (oV vA (o_seq (c_seq (c_seq (c_region (oV (vL 0 ty44) ?_)))))))))))
 obtain ⟨v, h1, hF⟩ := bd hF
 refine o_call0 call45 rfl sub_nil (tri45 h1 :) rfl ?_
 rintro _ _ _ ⟨A1, L1, C1, rfl, rfl, rfl⟩
 refine oV (v_lenS (enc := eRun) v sl95 rfl (.r 0 _ rfl)) (oV vM (o_seq ?_))
 obtain ⟨o1, ho1, hF⟩ := bd hF
 refine c_cut (fun E N' => Sat E [(0, .agg s.vs.toArray), (1, pt b), (2, sV ([] : Tx)), (3, sV o1), (7, sl A1 L1 C1)] [.box b 44 s.vs, rW A1 L1 C1 98 2 eRun v] [] N') (fun N1 hN1 => ?_) ?_
 refine c_block ?_
 refine c_loopE (fun E j a w => ∃ (out_ : Tx) (t9 : Int), F.charset.Print_l1 v j out_ t9 = some o1 ∧ St E [(0, .agg s.vs.toArray), (1, pt b), (2, sV ([] : Tx)), (3, sV out_), (7, sl A1 L1 C1), (8, iI (v.length : Int)), (9, iI t9)] [.box b 44 s.vs, rW A1 L1 C1 98 2 eRun v] [] a w) k ?_ ?_
 intro a w hs
 exact ⟨([91] : Tx), 0, ho1, st_le [1, 0] (lea rfl) rfl sub_nil a w hs⟩
 rintro j a w ⟨out_, t9, hL1, hs⟩
 rcases j with _ | j
 cases hL1
 refine wc_app hs ?_
 unfold F.charset.Print_l1 at hL1
 refine c_seq (c_region (oV vB (o_seq (c_seq ?_))))
 refine cC hL1 (fun hL1 => ?_) (fun hL1 => ?_)
 refine c_skip (sat_wc (c_seq ?_))
 refine c_cut (fun E N' => ∀ (out_1 : Tx) (b1 : Nat), F.charset.Print_j2 (F.charset.Print_l1 v j) t9 out_1 = some o1 → Sat E [(0, .agg s.vs.toArray), (1, pt b), (2, sV ([] : Tx)), (3, sV out_1), (5, pt b1), (7, sl A1 L1 C1), (8, iI (v.length : Int)), (9, iI t9)] [.box b 44 s.vs, .box b1 98 [iI ((at_ v t9).Lo), iI ((at_ v t9).Hi)], rW A1 L1 C1 98 2 eRun v] [] N') (fun N2 hN2 => ?_) ?_
 refine c_block (c_seq (c_region (ite_some hL1 fun h3 hL1 => oV (v_indexAddr_s (xs := v) (enc := eRun) sl95 rfl rfl (.r 1 _ rfl) h3) (oV (v_load_s (xs := v) (enc := eRun) ty98 rfl (.r 1 _ rfl) h3 rfl rfl rfl rfl rfl rfl rfl) (o_alloc zero98 rfl rfl ?_)))))
 intro b2
 refine (sT 0 ty98) (o_seq (c_seq (c_region (oV vM ((fD 0) (oV (vL 0 ty3) (oV (v_convert (v := iB (IntKind.wrap .u8 ((at_ v t9).Lo))) rfl (fun _ => by kernel_rfl)) ?_)))))))
 obtain ⟨v1, h4, hL1⟩ := bd hL1
 refine o_callSB call46 rfl lent_nil (tri46 h4 :) rfl (ite_some hL1 fun h5 hL1 => oV (vS h5) (oV vA (o_seq (c_seq (c_seq (c_region ((fD 1) (oV (vL 0 ty3) ((fD 0) (oV (vL 0 ty3) (oV vB (oV vB (o_seq ?_)))))))))))))
 refine c_cut (fun E N' => ∀ (out_2 : Tx), F.charset.Print_j3 v t9 (F.charset.Print_l1 v j) out_2 = some o1 → Sat E [(0, .agg s.vs.toArray), (1, pt b), (2, sV ([] : Tx)), (3, sV out_2), (5, pt b2), (7, sl A1 L1 C1), (8, iI (v.length : Int)), (9, iI t9)] [.box b2 98 [iI ((at_ v t9).Lo), iI ((at_ v t9).Hi)], .box b 44 s.vs, rW A1 L1 C1 98 2 eRun v] [] N') (fun N4 hN4 => ?_) ?_
 refine cC hL1 (fun hL1 => ?_) (fun hL1 => ?_)
 refine c_region (oV vM (ite_some hL1 ?_))
 intro h10 hL1
 refine oV (vS h10) (oV vA (o_nil ?_))
 exact sK [0, 0, 0] [] (hN4 ((out_ ++ v1) ++ ([45] : Tx)) hL1)
 refine c_skip ?_
 exact sK [0, 0, 0] [] (hN4 (out_ ++ v1) hL1)
 intro out_2 hL1
 unfold F.charset.Print_j3 at hL1
 refine sat_wc (c_seq (c_region ((fD 1) (oV (vL 0 ty3) ((fD 0) (oV (vL 0 ty3) (oV vB (o_seq ?_))))))))
 refine c_cut (fun E N' => ∀ (out_3 : Tx), F.charset.Print_j4 (F.charset.Print_l1 v j) t9 out_3 = some o1 → Sat E [(0, .agg s.vs.toArray), (1, pt b), (2, sV ([] : Tx)), (3, sV out_3), (5, pt b2), (7, sl A1 L1 C1), (8, iI (v.length : Int)), (9, iI t9)] [.box b2 98 [iI ((at_ v t9).Lo), iI ((at_ v t9).Hi)], .box b 44 s.vs, rW A1 L1 C1 98 2 eRun v] [] N') (fun N4 hN4 => ?_) ?_
 refine cC hL1 (fun hL1 => ?_) (fun hL1 => ?_)
 refine c_region (oV vM ((fD 1) (oV (vL 0 ty3) (oV (v_convert (v := iB (IntKind.wrap .u8 ((at_ v t9).Hi))) rfl (fun _ => by kernel_rfl)) ?_))))
 obtain ⟨v2, h7, hL1⟩ := bd hL1
 refine o_callSB call46 rfl lent_nil (tri46 h7 :) rfl (ite_some hL1 fun h8 hL1 => oV (vS h8) (oV vA (o_nil ?_)))
 exact sK [0, 0, 0] [] (hN4 (out_2 ++ v2) hL1)
 refine c_skip ?_
 exact sK [0, 0, 0] [] (hN4 out_2 hL1)
 intro out_3 hL1
 unfold F.charset.Print_j4 at hL1
 exact sK [1, 0, 0] [] (hN2 out_3 b2 hL1)
 intro out_1 b1 hL1
 unfold F.charset.Print_j2 at hL1
 refine sat_wc (c_region (oV vB (oV vM (o_nil ?_))))
 intro a w hs
 exact ⟨j, Nat.lt_succ_self j, out_1, IntKind.wrap .i64 (t9 + 1), hL1, st_le [0, 1] (lea rfl) rfl sub_nil a w hs⟩
 refine c_exit0 ?_
 cases hL1
 exact sK [0, 0] [] (hN1)
 refine sat_wc (c_seq (c_region (oV vM (ite_some hF ?_))))
 intro h11 hF
 refine oV (vS h11) (oV vA (o_seq (c_ret ?_)))
 cases hF
 exact sR
theorem tri50 {b : Strings_Builder} {c : Int} {b1 : Nat} {A1 : OA} {L1 C1 : Nat} {r : Strings_Builder} (hF : F.strings.Builder_WriteByte b c = some r) :
    Tri Tryz.prog 50 [pt b1, iB c] [.box b1 69 [bptr b1 b.addr, sl A1 L1 C1], rW A1 L1 C1 5 1 eU8 b.buf] [] (fun o H Φ => ∃ (A5 : OA) (L5 C5 : Nat), o = .ret (.nilIface) ∧ H = [.box b1 69 [bptr b1 r.addr, sl A5 L5 C5], rW A5 L5 C5 5 1 eU8 r.buf] ∧ Φ = []) := by
 unfold F.strings.Builder_WriteByte at hF
 refine tri_intro (n := 17) Tryz.func50 rfl Tryz.ntmps50 rfl fun w X => c_seq (c_region (oV vA (o_seq (c_seq (c_region (oV vM ?_))))))
 obtain ⟨v, h1, hF⟩ := bd hF
 refine ocl [0, 0] call69 rfl rfl sub_nil (tri69 b b1 A1 L1 C1 v h1) ?_
 rintro _ _ _ ⟨A2, L2, C2, rfl, rfl, rfl⟩
 refine o_seq (c_seq (c_region (oV vM (oV vM (oV vC ((fD 1) (oV (vL 0 ty67) (oV vM (o_buildSlice (enc := eU8) ([c] : List Int) [iB c] sl67 rfl (fun _ => by kernel_rfl) rfl rfl rfl (.s rfl (.nil)) rfl ?_)))))))))
 intro A3 L3 C3
 refine ite_some hF fun h2 hF => ite_some hF fun h3 hF => o_append (enc := eU8) (xs := v.buf) (ys := ([c] : List Int)) 2 sl67 rfl rfl rfl (.r 0 _ rfl) h2 h3 rfl fun A4 L4 C4 => oV vC ((fD 1) ((sT 1 ty67) ?_))
 refine o_seq (c_seq (c_region (oV vA (o_seq (c_ret ?_)))))
 cases hF
 refine s_ret1 rfl (r_tmp rfl) fun a w hs => fin_sel hs [1, 1] ⟨A4, L4, C4, rfl, rfl, rfl⟩ rfl sub_nil
theorem tri72 {k : Nat} {b : List Int} {A1 : OA} {L1 C1 : Nat} {r : Tx} (hF : F.words.Quote k b = some r) :
    Tri Tryz.prog 72 [sl A1 L1 C1] [] [fS A1 L1 C1 1 eU8 b] (oR (sV r)) := by
 unfold F.words.Quote at hF
 refine tri_intro (n := 56) Tryz.func72 rfl Tryz.ntmps72 rfl fun w X => c_seq (c_region (oV vA (o_seq (c_seq (c_region (o_alloc zero69 rfl rfl ?_))))))
 intro b1
 refine o_seq (c_seq (c_region ?_))
 obtain ⟨v, h1, hF⟩ := bd hF
 refine o_st (st_nilrow 5 1) (ocl [1, 0] call50 rfl rfl sub_nil (tri50 h1 :) ?_)
 rintro _ _ _ ⟨A2, L2, C2, rfl, rfl, rfl⟩
 refine o_seq (c_seq (c_seq (c_region (oV vM (oV (v_lenS (enc := eU8) b sl67 rfl (.f 0 rfl)) (oV vM (o_seq ?_)))))))
 obtain ⟨o1, ho1, hF⟩ := bd hF
 refine c_cut (fun E N' => ∀ (A4 : OA) (L4 C4 : Nat), Sat E [(0, sl A1 L1 C1), (2, sV ([] : Tx)), (3, pt b1), (7, sl A1 L1 C1)] [.box b1 69 [bptr b1 o1.1, sl A4 L4 C4], rW A4 L4 C4 5 1 eU8 o1.2] [fS A1 L1 C1 1 eU8 b] N') (fun N1 hN1 => ?_) ?_
 refine c_block ?_
 refine c_loopE (fun E j a w => ∃ (t9 : Int) (addr_ : Bool) (buf_ : List Int) (A3 : OA) (L3 C3 : Nat), F.words.Quote_l1 b j t9 addr_ buf_ = some o1 ∧ St E [(0, sl A1 L1 C1), (2, sV ([] : Tx)), (3, pt b1), (7, sl A1 L1 C1), (8, iI (b.length : Int)), (9, iI t9)] [.box b1 69 [bptr b1 addr_, sl A3 L3 C3], rW A3 L3 C3 5 1 eU8 buf_] [fS A1 L1 C1 1 eU8 b] a w) k ?_ ?_
 intro a w hs
 exact ⟨0, v.addr, v.buf, A2, L2, C2, ho1, st_le [0, 0] (lea rfl) rfl (subs [0] rfl) a w hs⟩
 rintro j a w ⟨t9, addr_, buf_, A3, L3, C3, hL1, hs⟩
 rcases j with _ | j
 cases hL1
 refine wc_app hs ?_
 unfold F.words.Quote_l1 at hL1
 refine c_seq (c_region (oV vB (o_seq (c_seq ?_))))
 refine cC hL1 (fun hL1 => ?_) (fun hL1 => ?_)
 refine c_skip (sat_wc (c_seq ?_))
 refine c_cut (fun E N' => ∀ (addr_1 : Bool) (buf_1 : List Int) (A5 : OA) (L5 C5 : Nat), F.words.Quote_j2 (F.words.Quote_l1 b j) t9 addr_1 buf_1 = some o1 → Sat E [(0, sl A1 L1 C1), (2, sV ([] : Tx)), (3, pt b1), (5, iB (at_ b t9)), (7, sl A1 L1 C1), (8, iI (b.length : Int)), (9, iI t9)] [.box b1 69 [bptr b1 addr_1, sl A5 L5 C5], rW A5 L5 C5 5 1 eU8 buf_1] [fS A1 L1 C1 1 eU8 b] N') (fun N2 hN2 => ?_) ?_
 refine c_block (c_seq (c_region (ite_some hL1 fun h3 hL1 => oV (v_indexAddr_s (xs := b) (enc := eU8) sl67 rfl rfl (.f 0 rfl) h3) (oV (v_load_s (xs := b) (enc := eU8) ty5 rfl (.f 0 rfl) h3 rfl rfl rfl rfl rfl rfl rfl) (oV vA (o_seq ?_))))))
 refine c_cut (fun E N' => ∀ (addr_2 : Bool) (buf_2 : List Int) (A6 : OA) (L6 C6 : Nat), F.words.Quote_j3 (F.words.Quote_l1 b j) t9 addr_2 buf_2 = some o1 → Sat E [(0, sl A1 L1 C1), (2, sV ([] : Tx)), (3, pt b1), (5, iB (at_ b t9)), (7, sl A1 L1 C1), (8, iI (b.length : Int)), (9, iI t9)] [.box b1 69 [bptr b1 addr_2, sl A6 L6 C6], rW A6 L6 C6 5 1 eU8 buf_2] [fS A1 L1 C1 1 eU8 b] N') (fun N3 hN3 => ?_) ?_
 refine c_block (c_seq ?_)
 refine c_cut (fun E N' => ∀ (t15 : Bool), F.words.Quote_j4 addr_ buf_ b t9 (F.words.Quote_l1 b j) t15 = some o1 → Sat E [(0, sl A1 L1 C1), (2, sV ([] : Tx)), (3, pt b1), (5, iB (at_ b t9)), (7, sl A1 L1 C1), (8, iI (b.length : Int)), (9, iI t9), (15, bV t15)] [.box b1 69 [bptr b1 addr_, sl A3 L3 C3], rW A3 L3 C3 5 1 eU8 buf_] [fS A1 L1 C1 1 eU8 b] N') (fun N10 hN10 => ?_) ?_
 refine c_region (oV vM (oV vB (oV vM ?_)))
 refine oS 18 hL1 (fun hL1 => ?_) (fun hL1 => ?_)
 refine oF (oF (oV vPt (oV vA (o_nil ?_))))
 exact sK [0, 0] [0] (hN10 true hL1)
 refine oN (oV vM (oN (oV vB (oV vPf (oV vA (o_nil ?_))))))
 exact sK [0, 0] [0] (hN10 ((at_ b t9) == 92) hL1)
 intro t15 hL1
 unfold F.words.Quote_j4 at hL1
 refine sat_wc ?_
 refine c_cut (fun E N' => ∀ (addr_3 : Bool) (buf_3 : List Int) (A7 : OA) (L7 C7 : Nat), F.words.Quote_j5 (F.words.Quote_l1 b j) t9 addr_3 buf_3 = some o1 → Sat E [(0, sl A1 L1 C1), (2, sV ([] : Tx)), (3, pt b1), (5, iB (at_ b t9)), (7, sl A1 L1 C1), (8, iI (b.length : Int)), (9, iI t9)] [.box b1 69 [bptr b1 addr_3, sl A7 L7 C7], rW A7 L7 C7 5 1 eU8 buf_3] [fS A1 L1 C1 1 eU8 b] N') (fun N5 hN5 => ?_) ?_
 refine cC hL1 (fun hL1 => ?_) (fun hL1 => ?_)
 refine c_seq (c_region ?_)
 obtain ⟨v1, h5, hL1⟩ := bd hL1
 refine ocl [0, 0] call50 rfl rfl sub_nil (tri50 h5 :) ?_
 rintro _ _ _ ⟨A8, L8, C8, rfl, rfl, rfl⟩
 refine o_seq (c_region (oV vM ?_))
 obtain ⟨v2, h6, hL1⟩ := bd hL1
 refine ocl [0, 0] call50 rfl rfl sub_nil (tri50 h6 :) ?_
 rintro _ _ _ ⟨A9, L9, C9, rfl, rfl, rfl⟩
 refine o_nil ?_
 exact sK [0, 0] [0] (hN5 v2.addr v2.buf A9 L9 C9 hL1)
 refine c_seq (c_region (oV vM (oV vB (oV vA (o_seq ?_)))))
 refine c_cut (fun E N' => ∀ (addr_4 : Bool) (buf_4 : List Int) (A10 : OA) (L10 C10 : Nat), F.words.Quote_j6 (F.words.Quote_l1 b j) t9 addr_4 buf_4 = some o1 → Sat E [(0, sl A1 L1 C1), (2, sV ([] : Tx)), (3, pt b1), (5, iB (at_ b t9)), (7, sl A1 L1 C1), (8, iI (b.length : Int)), (9, iI t9)] [.box b1 69 [bptr b1 addr_4, sl A10 L10 C10], rW A10 L10 C10 5 1 eU8 buf_4] [fS A1 L1 C1 1 eU8 b] N') (fun N6 hN6 => ?_) ?_
 refine cC hL1 (fun hL1 => ?_) (fun hL1 => ?_)
 refine c_region ?_
 obtain ⟨v3, h8, hL1⟩ := bd hL1
 refine ocl [0, 0] call27 rfl rfl sub_nil (tri27 h8 :) ?_
 rintro _ _ _ ⟨A11, L11, C11, rfl, rfl, rfl⟩
 refine o_nil ?_
 exact sK [0, 0] [0] (hN6 v3.2.addr v3.2.buf A11 L11 C11 hL1)
 refine c_seq (c_region (oV vM (oV vB (oV vA (o_seq ?_)))))
 refine c_cut (fun E N' => ∀ (addr_5 : Bool) (buf_5 : List Int) (A12 : OA) (L12 C12 : Nat), F.words.Quote_j7 (F.words.Quote_l1 b j) t9 addr_5 buf_5 = some o1 → Sat E [(0, sl A1 L1 C1), (2, sV ([] : Tx)), (3, pt b1), (5, iB (at_ b t9)), (7, sl A1 L1 C1), (8, iI (b.length : Int)), (9, iI t9)] [.box b1 69 [bptr b1 addr_5, sl A12 L12 C12], rW A12 L12 C12 5 1 eU8 buf_5] [fS A1 L1 C1 1 eU8 b] N') (fun N7 hN7 => ?_) ?_
 refine cC hL1 (fun hL1 => ?_) (fun hL1 => ?_)
 refine c_region ?_
 obtain ⟨v4, h10, hL1⟩ := bd hL1
 refine ocl [0, 0] call27 rfl rfl sub_nil (tri27 h10 :) ?_
 rintro _ _ _ ⟨A13, L13, C13, rfl, rfl, rfl⟩
 refine o_nil ?_
 exact sK [0, 0] [0] (hN7 v4.2.addr v4.2.buf A13 L13 C13 hL1)
 refine c_seq (c_region (oV vM (oV vB (oV vA (o_seq ?_)))))
 refine c_cut (fun E N' => ∀ (addr_6 : Bool) (buf_6 : List Int) (A14 : OA) (L14 C14 : Nat), F.words.Quote_j8 (F.words.Quote_l1 b j) t9 addr_6 buf_6 = some o1 → Sat E [(0, sl A1 L1 C1), (2, sV ([] : Tx)), (3, pt b1), (5, iB (at_ b t9)), (7, sl A1 L1 C1), (8, iI (b.length : Int)), (9, iI t9)] [.box b1 69 [bptr b1 addr_6, sl A14 L14 C14], rW A14 L14 C14 5 1 eU8 buf_6] [fS A1 L1 C1 1 eU8 b] N') (fun N8 hN8 => ?_) ?_
 refine cC hL1 (fun hL1 => ?_) (fun hL1 => ?_)
 refine c_region ?_
 obtain ⟨v5, h12, hL1⟩ := bd hL1
 refine ocl [0, 0] call27 rfl rfl sub_nil (tri27 h12 :) ?_
 rintro _ _ _ ⟨A15, L15, C15, rfl, rfl, rfl⟩
 refine o_nil ?_
 exact sK [0, 0] [0] (hN8 v5.2.addr v5.2.buf A15 L15 C15 hL1)
 refine c_seq ?_
 refine c_cut (fun E N' => ∀ (t37 : Bool), F.words.Quote_j9 addr_ buf_ b t9 (F.words.Quote_l1 b j) t37 = some o1 → Sat E [(0, sl A1 L1 C1), (2, sV ([] : Tx)), (3, pt b1), (5, iB (at_ b t9)), (7, sl A1 L1 C1), (8, iI (b.length : Int)), (9, iI t9), (37, bV t37)] [.box b1 69 [bptr b1 addr_, sl A3 L3 C3], rW A3 L3 C3 5 1 eU8 buf_] [fS A1 L1 C1 1 eU8 b] N') (fun N10 hN10 => ?_) ?_
 refine c_region (oV vM (oV vB (oV vM ?_)))
 refine oS 40 hL1 (fun hL1 => ?_) (fun hL1 => ?_)
 refine oF (oF (oV vPt (oV vA (o_nil ?_))))
 exact sK [0, 0] [0] (hN10 true hL1)
 refine oN (oV vM (oN (oV vB (oV vPf (oV vA (o_nil ?_))))))
 exact sK [0, 0] [0] (hN10 (decide (126 < (at_ b t9))) hL1)
 intro t37 hL1
 unfold F.words.Quote_j9 at hL1
 refine sat_wc ?_
 refine c_cut (fun E N' => ∀ (addr_7 : Bool) (buf_7 : List Int) (A16 : OA) (L16 C16 : Nat), F.words.Quote_j10 (F.words.Quote_l1 b j) t9 addr_7 buf_7 = some o1 → Sat E [(0, sl A1 L1 C1), (2, sV ([] : Tx)), (3, pt b1), (5, iB (at_ b t9)), (7, sl A1 L1 C1), (8, iI (b.length : Int)), (9, iI t9)] [.box b1 69 [bptr b1 addr_7, sl A16 L16 C16], rW A16 L16 C16 5 1 eU8 buf_7] [fS A1 L1 C1 1 eU8 b] N') (fun N10 hN10 => ?_) ?_
 refine cC hL1 (fun hL1 => ?_) (fun hL1 => ?_)
 refine c_seq (c_region ?_)
 obtain ⟨v6, h14, hL1⟩ := bd hL1
 refine ocl [0, 0] call27 rfl rfl sub_nil (tri27 h14 :) ?_
 rintro _ _ _ ⟨A17, L17, C17, rfl, rfl, rfl⟩
 refine o_seq (c_seq (c_region (oV vM (oV (v_quo rfl rfl rfl) (ite_some hL1 ?_)))))
 intro h15 hL1
 refine oV (v_sindex Tryz.underlying9 rfl rfl h15) ?_
 obtain ⟨v7, h16, hL1⟩ := bd hL1
 refine ocl [0, 0] call50 rfl rfl sub_nil (tri50 h16 :) ?_
 rintro _ _ _ ⟨A18, L18, C18, rfl, rfl, rfl⟩
 refine o_seq (c_region (oV vM (oV (v_rem rfl rfl rfl) (ite_some hL1 ?_))))
 intro h17 hL1
 refine oV (v_sindex Tryz.underlying9 rfl rfl h17) ?_
 obtain ⟨v8, h18, hL1⟩ := bd hL1
 refine ocl [0, 0] call50 rfl rfl sub_nil (tri50 h18 :) ?_
 rintro _ _ _ ⟨A19, L19, C19, rfl, rfl, rfl⟩
 refine o_nil ?_
 exact sK [0, 0] [0] (hN10 v8.addr v8.buf A19 L19 C19 hL1)
 refine c_region (oV vM ?_)
 obtain ⟨v9, h19, hL1⟩ := bd hL1
 refine ocl [0, 0] call50 rfl rfl sub_nil (tri50 h19 :) ?_
 rintro _ _ _ ⟨A20, L20, C20, rfl, rfl, rfl⟩
 refine o_nil ?_
 exact sK [0, 0] [0] (hN10 v9.addr v9.buf A20 L20 C20 hL1)
 intro addr_7 buf_7 A16 L16 C16 hL1
 unfold F.words.Quote_j10 at hL1
 exact sK [0, 0] [0] (hN8 addr_7 buf_7 A16 L16 C16 hL1)
 intro addr_6 buf_6 A14 L14 C14 hL1
 unfold F.words.Quote_j8 at hL1
 exact sK [0, 0] [0] (hN7 addr_6 buf_6 A14 L14 C14 hL1)
 intro addr_5 buf_5 A12 L12 C12 hL1
 unfold F.words.Quote_j7 at hL1
 exact sK [0, 0] [0] (hN6 addr_5 buf_5 A12 L12 C12 hL1)
 intro addr_4 buf_4 A10 L10 C10 hL1
 unfold F.words.Quote_j6 at hL1
 exact sK [0, 0] [0] (hN5 addr_4 buf_4 A10 L10 C10 hL1)
 intro addr_3 buf_3 A7 L7 C7 hL1
 unfold F.words.Quote_j5 at hL1
 exact sK [0, 0] [0] (hN3 addr_3 buf_3 A7 L7 C7 hL1)
 intro addr_2 buf_2 A6 L6 C6 hL1
 unfold F.words.Quote_j3 at hL1
 exact sK [0, 0] [0] (hN2 addr_2 buf_2 A6 L6 C6 hL1)
 intro addr_1 buf_1 A5 L5 C5 hL1
 unfold F.words.Quote_j2 at hL1
 refine sat_wc (c_region (oV vB (oV vM (o_nil ?_))))
 intro a w hs
 exact ⟨j, Nat.lt_succ_self j, IntKind.wrap .i64 (t9 + 1), addr_1, buf_1, A5, L5, C5, hL1, st_le [0, 0] (lea rfl) rfl (subs [0] rfl) a w hs⟩
 refine c_exit0 ?_
 cases hL1
 exact sK [0, 0] [0] (hN1 A3 L3 C3)
 intro A4 L4 C4
 refine sat_wc (c_seq (c_region ?_))
 obtain ⟨v10, h22, hF⟩ := bd hF
 refine ocl [0, 0] call50 rfl rfl sub_nil (tri50 h22 :) ?_
 rintro _ _ _ ⟨A21, L21, C21, rfl, rfl, rfl⟩
 refine o_seq (c_seq (c_region ?_))
 obtain ⟨v11, h23, hF⟩ := bd hF
 refine ocl [0, 0] call32 rfl rfl sub_nil (tri32 v10 b1 A21 L21 C21 v11 h23) ?_
 rintro _ _ _ ⟨rfl, rfl, rfl⟩
 refine oV vA (o_seq (c_ret ?_))
 cases hF
 exact sR
theorem tri70 {k : Nat} {s : Sym} {r : Tx} (hF : F.defs.symText k s = some r) :
    Tri Tryz.prog 70 [.agg (vSym s).toArray] [] [] (oR (sV r)) := by
 unfold F.defs.symText at hF
 refine tri_intro (n := 46) Tryz.func70 rfl Tryz.ntmps70 rfl fun w X => c_seq (c_region (o_box rfl rfl rfl fun b => oV vA (o_seq (c_seq (c_region ((fD 6) (oV (vL 0 ty9) (oV vA (o_seq (c_seq (c_seq (c_region ((fD 6) ?_)))))))))))))
 refine oV (vL 0 ty9) (oV (v_streq rfl rfl) (o_seq ?_))
 refine c_cut (fun E N' => ∀ (part : Tx), F.defs.symText_j1 k s part = some r → Sat E [(0, .agg (vSym s).toArray), (1, pt b), (2, sV ([] : Tx)), (3, sV part)] [.box b 114 (vSym s)] [] N') (fun N2 hN2 => ?_) ?_
 refine cC hF (fun hF => ?_) (fun hF => ?_)
 refine c_region ((fD 2) (oV (vL 0 ty44) ?_))
 obtain ⟨v2, h16, hF⟩ := bd hF
 refine o_callSB call19 rfl lent_nil (tri19 h16 :) rfl (oV vA (o_nil ?_))
 exact sK [0] [] (hN2 v2 hF)
 refine c_skip ?_
 exact sK [0] [] (hN2 s.Name hF)
 intro part hF
 unfold F.defs.symText_j1 at hF
 refine sat_wc (c_seq (c_seq (c_region ((fD 7) (oV (vL 0 ty9) (oV (v_strne rfl rfl) (o_seq ?_)))))))
 refine c_cut (fun E N' => ∀ (part1 : Tx), F.defs.symText_j2 k s part1 = some r → Sat E [(0, .agg (vSym s).toArray), (1, pt b), (2, sV ([] : Tx)), (3, sV part1)] [.box b 114 (vSym s)] [] N') (fun N2 hN2 => ?_) ?_
 refine cC hF (fun hF => ?_) (fun hF => ?_)
 refine c_draw (n := 11) [0] mixed rfl rfl (dv 0 rfl (vF 6) (dv 1 rfl (vL 0 ty9) (ite_some hF ?_)))
 intro h10 hF
 refine dv 2 rfl (vS h10) (ite_some hF ?_)
 intro h11 hF
 refine dv 3 rfl (vS h11) (dv 4 rfl (vF 7) (dv 5 rfl (vL 0 ty9) (dO 6 rfl (o_strBytes Tryz.underlying9 Tryz.underlying67 Tryz.underlying5 rfl rfl ?_))))
 intro A2 L2 C2
 refine dN [0] 1 (dO 7 rfl ?_)
 obtain ⟨v1, h12, hF⟩ := bd hF
 refine o_callSB call72 rfl (lent_f 0 rfl lent_nil) (tri72 h12 :) rfl (dN [0] 1 (ite_some hF ?_))
 intro h13 hF
 refine dv 8 rfl (vS h13) (ite_some hF ?_)
 intro h14 hF
 refine dv 9 rfl (vS h14) (dv 10 rfl vA (dD ?_))
 exact sK [0] [] (hN2 ((((([123] : Tx) ++ s.Name) ++ ([32] : Tx)) ++ v1) ++ ([125] : Tx)) hF)
 refine c_skip ?_
 exact sK [0] [] (hN2 part hF)
 intro part1 hF
 unfold F.defs.symText_j2 at hF
 refine sat_wc (c_seq (c_seq (c_region ((fD 0) (oV (vL 0 ty3) (o_seq (c_block (c_seq (c_region (oV vB (oV vA (o_seq ?_))))))))))))
 refine cC hF (fun hF => ?_) (fun hF => ?_)
 refine c_seq (c_region ((fD 1) (oV (vL 0 ty9) (o_strBytes Tryz.underlying9 Tryz.underlying67 Tryz.underlying5 rfl rfl ?_))))
 intro A1 L1 C1
 refine ?_
 obtain ⟨v, h2, hF⟩ := bd hF
 refine o_callSB call72 rfl (lent_f 0 rfl lent_nil) (tri72 h2 :) rfl (oV vA (o_seq (c_ret ?_)))
 cases hF
 exact sR
 refine c_seq (c_region (oV vB (oV vA (o_seq ?_))))
 refine cC hF (fun hF => ?_) (fun hF => ?_)
 refine c_seq (c_region (oV vM (ite_some hF ?_)))
 intro h4 hF
 refine oV (vS h4) (oV vA (o_seq (c_ret ?_)))
 cases hF
 exact sR
 refine c_seq (c_region (oV vB (oV vA (o_seq ?_))))
 refine cC hF (fun hF => ?_) (fun hF => ?_)
 refine c_seq (c_region (oV vM (ite_some hF ?_)))
 intro h6 hF
 refine oV (vS h6) (oV vA (o_seq (c_ret ?_)))
 cases hF
 exact sR
 refine c_seq (c_region (oV vB (oV vA (o_seq ?_))))
 refine cC hF (fun hF => ?_) (fun hF => ?_)
 refine c_seq (c_region (oV vM (ite_some hF ?_)))
 intro h8 hF
 refine oV (vS h8) (oV vA (o_seq (c_ret ?_)))
 cases hF
 exact sR
 refine c_skip (sat_wc (c_seq (c_region (oV vM (oV vA (o_seq (c_ret ?_)))))))
 cases hF
 exact sR
theorem tri29 {k : Nat} {p : Prod} {A1 : OA} {L1 C1 : Nat} {r : Tx} (hF : F.defs.prodText k p = some r) :
    Tri Tryz.prog 29 [.agg (vProd p A1 L1 C1).toArray] [] [fS A1 L1 C1 8 eSym p.Syms] (oR (sV r)) := by
 unfold F.defs.prodText at hF
 refine tri_intro (n := 41) Tryz.func29 rfl Tryz.ntmps29 rfl fun w X => c_seq (c_region (o_box rfl rfl rfl fun b => oV vA (o_seq (c_seq (c_region (oV vA (o_seq (c_seq (c_seq (c_region ((fD 0) (oV (vL 0 ty4) (o_seq ?_)))))))))))))
 refine c_cut (fun E N' => ∀ (out_ : Tx), F.defs.prodText_j1 k p out_ = some r → Sat E [(0, .agg (vProd p A1 L1 C1).toArray), (1, pt b), (2, sV ([] : Tx)), (3, sV out_)] [.box b 57 (vProd p A1 L1 C1)] [fS A1 L1 C1 8 eSym p.Syms] N') (fun N3 hN3 => ?_) ?_
 refine cC hF (fun hF => ?_) (fun hF => ?_)
 refine c_region (oV vA (o_nil ?_))
 exact sK [0] [0] (hN3 ([108, 101, 120, 32] : Tx) hF)
 refine c_skip ?_
 exact sK [0] [0] (hN3 ([99, 102, 32] : Tx) hF)
 intro out_ hF
 unfold F.defs.prodText_j1 at hF
 refine sat_wc (c_seq (c_region (oV vM ((fD 1) (oV (vL 0 ty9) (ite_some hF ?_))))))
 intro h1 hF
 refine oV (vS h1) (oV vA (o_seq (c_seq (c_seq (c_region ((fD 2) (oV (vL 0 ty9) (oV (v_strne rfl rfl) ?_))))))))
 refine o_seq ?_
 refine c_cut (fun E N' => ∀ (out_1 : Tx), F.defs.prodText_j2 k p out_1 = some r → Sat E [(0, .agg (vProd p A1 L1 C1).toArray), (1, pt b), (2, sV ([] : Tx)), (3, sV out_1)] [.box b 57 (vProd p A1 L1 C1)] [fS A1 L1 C1 8 eSym p.Syms] N') (fun N3 hN3 => ?_) ?_
 refine cC hF (fun hF => ?_) (fun hF => ?_)
 refine c_region (oV vM ((fD 2) (oV (vL 0 ty9) (ite_some hF ?_))))
 intro h13 hF
 refine oV (vS h13) (ite_some hF ?_)
 intro h14 hF
 refine oV (vS h14) (oV vA (o_nil ?_))
 exact sK [0] [0] (hN3 ((out_ ++ p.Sort_) ++ (([46] : Tx) ++ p.Cons)) hF)
 refine c_skip ?_
 exact sK [0] [0] (hN3 (out_ ++ p.Sort_) hF)
 intro out_1 hF
 unfold F.defs.prodText_j2 at hF
 refine sat_wc (c_seq (c_region (oV vM (ite_some hF ?_))))
 intro h2 hF
 refine oV (vS h2) (oV vA (o_seq (c_seq (c_seq (c_region ((fD 4) (oV (vL 0 ty55) (oV (v_lenS (enc := eSym) p.Syms sl55 rfl (.f 0 rfl)) (oV vM (o_seq ?_))))))))))
 obtain ⟨o3, ho3, hF⟩ := bd hF
 refine c_cut (fun E N' => Sat E [(0, .agg (vProd p A1 L1 C1).toArray), (1, pt b), (2, sV ([] : Tx)), (3, sV o3), (23, sl A1 L1 C1)] [.box b 57 (vProd p A1 L1 C1)] [fS A1 L1 C1 8 eSym p.Syms] N') (fun N3 hN3 => ?_) ?_
 refine c_block ?_
 refine c_loopE (fun E j a w => ∃ (out_2 : Tx) (t25 : Int), F.defs.prodText_l3 k p j out_2 t25 = some o3 ∧ St E [(0, .agg (vProd p A1 L1 C1).toArray), (1, pt b), (2, sV ([] : Tx)), (3, sV out_2), (23, sl A1 L1 C1), (24, iI (p.Syms.length : Int)), (25, iI t25)] [.box b 57 (vProd p A1 L1 C1)] [fS A1 L1 C1 8 eSym p.Syms] a w) k ?_ ?_
 intro a w hs
 exact ⟨(out_1 ++ ([32, 61] : Tx)), 0, ho3, st_le [0] (lea rfl) rfl (subs [0] rfl) a w hs⟩
 rintro j a w ⟨out_2, t25, hL3, hs⟩
 rcases j with _ | j
 cases hL3
 refine wc_app hs ?_
 unfold F.defs.prodText_l3 at hL3
 refine c_seq (c_region (oV vB (o_seq (c_seq ?_))))
 refine cC hL3 (fun hL3 => ?_) (fun hL3 => ?_)
 refine c_skip (sat_wc (c_seq (c_block (c_seq (c_region (ite_some hL3 fun h4 hL3 => oV (v_indexAddr_s (xs := p.Syms) (enc := eSym) sl55 rfl rfl (.f 0 rfl) h4) (oV (v_load_s (xs := p.Syms) (enc := eSym) ty114 rfl (.f 0 rfl) h4 rfl rfl rfl rfl rfl rfl rfl) (o_alloc zero114 rfl rfl ?_))))))))
 intro b1
 refine (sT 0 ty114) (o_seq (c_region (oV vM (oV (vL 0 ty114) ?_))))
 obtain ⟨v, h5, hL3⟩ := bd hL3
 refine o_callSB call70 rfl lent_nil (tri70 h5 :) rfl (ite_some hL3 fun h6 hL3 => oV (vS h6) (ite_some hL3 ?_))
 intro h7 hL3
 refine oV (vS h7) (oV vA (o_nil (sat_wc (c_region (oV vB (oV vM (o_nil ?_)))))))
 intro a w hs
 exact ⟨j, Nat.lt_succ_self j, (out_2 ++ (([32] : Tx) ++ v)), IntKind.wrap .i64 (t25 + 1), hL3, st_le [1] (lea rfl) rfl (subs [0] rfl) a w hs⟩
 refine c_exit0 ?_
 cases hL3
 exact sK [0] [0] (hN3)
 refine sat_wc (c_seq (c_seq (c_region ((fD 3) (oV (vL 0 ty4) (o_seq ?_))))))
 refine cC hF (fun hF => ?_) (fun hF => ?_)
 refine c_region (oV vM (ite_some hF ?_))
 intro h9 hF
 refine oV (vS h9) (oV vA (o_seq (c_seq (c_region (oV vM (ite_some hF ?_))))))
 intro h10 hF
 refine oV (vS h10) (oV vA (o_seq (c_ret ?_)))
 cases hF
 exact sR
 refine c_skip (sat_wc (c_seq (c_region (oV vM (ite_some hF ?_)))))
 intro h11 hF
 refine oV (vS h11) (oV vA (o_seq (c_ret ?_)))
 cases hF
 exact sR
theorem tri30 {k : Nat} {l__ : List Group} {A1 : OA} {L1 C1 : Nat} {r : Tx} (hF : F.defs.chainText k l__ = some r) :
    Tri Tryz.prog 30 [sl A1 L1 C1] [] [fS A1 L1 C1 2 eGroup l__] (oR (sV r)) := by
 unfold F.defs.chainText at hF
 refine tri_intro (n := 34) Tryz.func30 rfl Tryz.ntmps30 rfl fun w X => c_seq (c_region (oV vA (o_seq (c_seq (c_region (oV vA (o_seq (c_seq (c_seq (c_region (oV vM (oV (v_lenS (enc := eGroup) l__ sl58 rfl (.f 0 rfl)) (oV vM (o_seq ?_))))))))))))))
 obtain ⟨o1, ho1, hF⟩ := bd hF
 refine c_cut (fun E N' => ∀ (A3 : OA) (L3 C3 : Nat), Sat E [(0, sl A1 L1 C1), (2, sV ([] : Tx)), (3, sl A3 L3 C3), (7, sl A1 L1 C1)] [rW A3 L3 C3 9 1 eStr o1] [fS A1 L1 C1 2 eGroup l__] N') (fun N1 hN1 => ?_) ?_
 refine c_block ?_
 refine c_loopE (fun E j a w => ∃ (parts : List (List UInt8)) (t9 : Int) (A2 : OA) (L2 C2 : Nat), F.defs.chainText_l1 l__ j parts t9 = some o1 ∧ St E [(0, sl A1 L1 C1), (2, sV ([] : Tx)), (3, sl A2 L2 C2), (7, sl A1 L1 C1), (8, iI (l__.length : Int)), (9, iI t9)] [rW A2 L2 C2 9 1 eStr parts] [fS A1 L1 C1 2 eGroup l__] a w) k ?_ ?_
 refine s_st (st_nilrow 9 1) ?_
 intro a w hs
 exact ⟨([] : List (List UInt8)), 0, none, 0, 0, ho1, st_le [0] (lea rfl) rfl (subs [0] rfl) a w hs⟩
 rintro j a w ⟨parts, t9, A2, L2, C2, hL1, hs⟩
 rcases j with _ | j
 cases hL1
 refine wc_app hs ?_
 unfold F.defs.chainText_l1 at hL1
 refine c_seq (c_region (oV vB (o_seq (c_seq ?_))))
 refine cC hL1 (fun hL1 => ?_) (fun hL1 => ?_)
 refine c_skip (sat_wc (c_seq ?_))
 refine c_cut (fun E N' => ∀ (parts1 : List (List UInt8)) (t : Tx) (A4 : OA) (L4 C4 : Nat) (A5 : OA) (L5 C5 : Nat) (b : Nat), F.defs.chainText_j2 (F.defs.chainText_l1 l__ j) t9 parts1 t = some o1 → Sat E [(0, sl A1 L1 C1), (2, sV ([] : Tx)), (3, sl A4 L4 C4), (5, pt b), (6, sV t), (7, sl A1 L1 C1), (8, iI (l__.length : Int)), (9, iI t9)] [.box b 61 [iI ((at_ l__ t9).Assoc), sl A5 L5 C5], rW A4 L4 C4 9 1 eStr parts1] [fS A1 L1 C1 2 eGroup l__, fS A5 L5 C5 1 eStr ((at_ l__ t9).Cons)] N') (fun N2 hN2 => ?_) ?_
 refine c_block (c_seq (c_region (ite_some hL1 fun h2 hL1 => oV (v_indexAddr_s (xs := l__) (enc := eGroup) sl58 rfl rfl (.f 0 rfl) h2) (o_load_s (xs := l__) (enc := eGroup) ty61 rfl (.f 0 rfl) h2 rfl rfl rfl rfl rfl rfl ?_))))
 intro A6 L6 C6
 refine o_alloc zero61 rfl rfl fun b1 => (sT 0 ty61) (o_seq (c_seq (c_region ((fD 1) (oV (vL 0 ty59) ?_)))))
 obtain ⟨v, h3, hL1⟩ := bd hL1
 refine o_callSB call71 rfl (lent_f 0 rfl lent_nil) (tri71 ((at_ l__ t9).Cons) ([32] : Tx) A6 L6 C6 v h3) rfl (oV vA (o_seq (c_seq (c_seq (c_region ((fD 0) (oV (vL 0 ty3) (oV vB (o_seq ?_)))))))))
 refine c_cut (fun E N' => ∀ (t1 : Tx), F.defs.chainText_j3 parts (F.defs.chainText_l1 l__ j) t9 t1 = some o1 → Sat E [(0, sl A1 L1 C1), (2, sV ([] : Tx)), (3, sl A2 L2 C2), (5, pt b1), (6, sV t1), (7, sl A1 L1 C1), (8, iI (l__.length : Int)), (9, iI t9)] [.box b1 61 [iI ((at_ l__ t9).Assoc), sl A6 L6 C6], rW A2 L2 C2 9 1 eStr parts] [fS A1 L1 C1 2 eGroup l__, fS A6 L6 C6 1 eStr ((at_ l__ t9).Cons)] N') (fun N3 hN3 => ?_) ?_
 refine cC hL1 (fun hL1 => ?_) (fun hL1 => ?_)
 refine c_region (oV (vU (.agg #[sV ([] : Tx), sV ([108, 101, 102, 116, 32] : Tx), sV ([114, 105, 103, 104, 116, 32] : Tx), sV ([110, 111, 110, 32] : Tx)])) ((fD 0) (oV (vL 0 ty3) (ite_some hL1 ?_))))
 intro h7 hL1
 refine oV (v_index_str ([([] : Tx), ([108, 101, 102, 116, 32] : Tx), ([114, 105, 103, 104, 116, 32] : Tx), ([110, 111, 110, 32] : Tx)] : List (List UInt8)) Tryz.underlying127 ty9 rfl rfl h7) (oV vM (ite_some hL1 ?_))
 intro h8 hL1
 refine oV (vS h8) (oV vA (o_nil ?_))
 exact sK [0, 0] [1, 0] (hN3 ((at_ ([([] : Tx), ([108, 101, 102, 116, 32] : Tx), ([114, 105, 103, 104, 116, 32] : Tx), ([110, 111, 110, 32] : Tx)] : List (List UInt8)) ((at_ l__ t9).Assoc)) ++ v) hL1)
 refine c_skip ?_
 exact sK [0, 0] [1, 0] (hN3 v hL1)
 intro t1 hL1
 unfold F.defs.chainText_j3 at hL1
 refine sat_wc (c_region (oV vM (oV vM (o_buildSlice (enc := eStr) ([t1] : List (List UInt8)) [sV t1] sl59 rfl (fun _ => by kernel_rfl) rfl rfl rfl (.s rfl (.nil)) rfl ?_))))
 intro A7 L7 C7
 refine ite_some hL1 fun h4 hL1 => ite_some hL1 fun h5 hL1 => o_append (enc := eStr) (xs := parts) (ys := ([t1] : List (List UInt8))) 2 sl59 rfl rfl rfl (.r 0 _ rfl) h4 h5 rfl fun A8 L8 C8 => oV vA (o_nil ?_)
 exact sK [1, 1] [0, 1] (hN2 (parts ++ ([t1] : List (List UInt8))) t1 A8 L8 C8 A6 L6 C6 b1 hL1)
 intro parts1 t A4 L4 C4 A5 L5 C5 b hL1
 unfold F.defs.chainText_j2 at hL1
 refine sat_wc (c_region (oV vB (oV vM (o_nil ?_))))
 intro a w hs
 exact ⟨j, Nat.lt_succ_self j, parts1, IntKind.wrap .i64 (t9 + 1), A4, L4, C4, hL1, st_le [1] (lea rfl) rfl (subs [0] rfl) a w hs⟩
 refine c_exit0 ?_
 cases hL1
 exact sK [0] [0] (hN1 A2 L2 C2)
 intro A3 L3 C3
 refine sat_wc (c_seq (c_region (oV vM ?_)))
 obtain ⟨v1, h9, hF⟩ := bd hF
 refine o_callSB call71 rfl (lent_r 0 rfl lent_nil) (tri71 o1 ([32, 62, 32] : Tx) A3 L3 C3 v1 h9) rfl (ite_some hF fun h10 hF => oV (vS h10) (ite_some hF ?_))
 intro h11 hF
 refine oV (vS h11) (oV vA (o_seq (c_ret ?_)))
 cases hF
 exact sR
theorem tri31_B (k : Nat) (g31 : List Item → Option (List UInt8))
    (hg31 : ∀ {l__ : List Item} {A1 : OA} {L1 C1 : Nat} {r : Tx}, g31 l__ = some r → Tri Tryz.prog 31 [sl A1 L1 C1] [] [gf10 1, fS A1 L1 C1 4 eItem l__] (oR (sV r))) {l__ : List Item} {A1 : OA} {L1 C1 : Nat} {r : Tx} (hF : F.defs.itemsText_B k g31 l__ = some r) :
    Tri Tryz.prog 31 [sl A1 L1 C1] [] [gf10 1, fS A1 L1 C1 4 eItem l__] (oR (sV r)) := by
 unfold F.defs.itemsText_B at hF
 refine tri_intro (n := 64) Tryz.func31 rfl Tryz.ntmps31 rfl fun w X => c_seq (c_region (oV vA (o_seq (c_seq (c_region (oV vA (o_seq (c_seq (c_seq (c_region (oV vM (oV (v_lenS (enc := eItem) l__ sl62 rfl (.f 1 rfl)) (oV vM (o_seq ?_))))))))))))))
 obtain ⟨o1, ho1, hF⟩ := bd hF
 refine c_cut (fun E N' => Sat E [(0, sl A1 L1 C1), (2, sV ([] : Tx)), (3, sV o1), (6, sl A1 L1 C1)] [] [gf10 1, fS A1 L1 C1 4 eItem l__] N') (fun N1 hN1 => ?_) ?_
 refine c_block ?_
 refine c_loopE (fun E j a w => ∃ (out_ : Tx) (t8 : Int), F.defs.itemsText_l1 k l__ g31 j out_ t8 = some o1 ∧ St E [(0, sl A1 L1 C1), (2, sV ([] : Tx)), (3, sV out_), (6, sl A1 L1 C1), (7, iI (l__.length : Int)), (8, iI t8)] [] [gf10 1, fS A1 L1 C1 4 eItem l__] a w) k ?_ ?_
 intro a w hs
 exact ⟨([] : Tx), 0, ho1, st_le [] (lea rfl) rfl (subs [0, 1] rfl) a w hs⟩
 rintro j a w ⟨out_, t8, hL1, hs⟩
 rcases j with _ | j
 cases hL1
 refine wc_app hs ?_
 unfold F.defs.itemsText_l1 at hL1
 refine c_seq (c_region (oV vB (o_seq (c_seq ?_))))
 refine cC hL1 (fun hL1 => ?_) (fun hL1 => ?_)
 refine c_skip (sat_wc (c_seq ?_))
 refine c_cut (fun E N' => ∀ (out_1 : Tx) (A2 : OA) (L2 C2 : Nat) (b : Nat), F.defs.itemsText_j2 (F.defs.itemsText_l1 k l__ g31 j) t8 out_1 = some o1 → Sat E [(0, sl A1 L1 C1), (2, sV ([] : Tx)), (3, sV out_1), (5, pt b), (6, sl A1 L1 C1), (7, iI (l__.length : Int)), (8, iI t8), (13, iI ((at_ l__ t8).Kind))] [.box b 124 (vItem (at_ l__ t8) A2 L2 C2)] [gf10 1, fS A1 L1 C1 4 eItem l__, fS A2 L2 C2 4 eItem ((at_ l__ t8).Items)] N') (fun N2 hN2 => ?_) ?_
 refine c_block (c_seq (c_region (ite_some hL1 fun h2 hL1 => oV (v_indexAddr_s (xs := l__) (enc := eItem) sl62 rfl rfl (.f 1 rfl) h2) (o_load_s (ds := [.int .i64 ((at_ l__ t8).Kind), .str ((at_ l__ t8).Text), .int .i64 ((at_ l__ t8).N_), .slice 4 (((at_ l__ t8).Items).map eItem)]) (xs := l__) (enc := eItem) ty124 rfl (.f 1 rfl) h2 (by simp only [eItem_eq] <;> rfl) rfl rfl rfl rfl rfl ?_))))
 intro A3 L3 C3
 refine o_alloc zero124 rfl rfl fun b1 => (sT 0 ty124) (o_seq (c_seq (c_region ((fD 0) (oV (vL 0 ty3) (o_seq ?_))))))
 refine c_cut (fun E N' => ∀ (out_2 : Tx), F.defs.itemsText_j3 (F.defs.itemsText_l1 k l__ g31 j) t8 out_2 = some o1 → Sat E [(0, sl A1 L1 C1), (2, sV ([] : Tx)), (3, sV out_2), (5, pt b1), (6, sl A1 L1 C1), (7, iI (l__.length : Int)), (8, iI t8), (13, iI ((at_ l__ t8).Kind))] [.box b1 124 (vItem (at_ l__ t8) A3 L3 C3)] [gf10 1, fS A1 L1 C1 4 eItem l__, fS A3 L3 C3 4 eItem ((at_ l__ t8).Items)] N') (fun N3 hN3 => ?_) ?_
 refine c_block (c_seq (c_region (oV vB (oV vA (o_seq ?_)))))
 refine c_cut (fun E N' => ∀ (out_3 : Tx), F.defs.itemsText_j4 (F.defs.itemsText_l1 k l__ g31 j) t8 out_3 = some o1 → Sat E [(0, sl A1 L1 C1), (2, sV ([] : Tx)), (3, sV out_3), (5, pt b1), (6, sl A1 L1 C1), (7, iI (l__.length : Int)), (8, iI t8), (13, iI ((at_ l__ t8).Kind))] [.box b1 124 (vItem (at_ l__ t8) A3 L3 C3)] [gf10 1, fS A1 L1 C1 4 eItem l__, fS A3 L3 C3 4 eItem ((at_ l__ t8).Items)] N') (fun N4 hN4 => ?_) ?_
 refine cC hL1 (fun hL1 => ?_) (fun hL1 => ?_)
 refine c_region (oV vM ((fD 1) (oV (vL 0 ty9) (o_strBytes Tryz.underlying9 Tryz.underlying67 Tryz.underlying5 rfl rfl ?_))))
 intro A4 L4 C4
 refine ?_
 obtain ⟨v, h4, hL1⟩ := bd hL1
 refine o_callSB call72 rfl (lent_f 0 rfl lent_nil) (tri72 h4 :) rfl (ite_some hL1 fun h5 hL1 => oV (vS h5) (ite_some hL1 ?_))
 intro h6 hL1
 refine oV (vS h6) (oV vA (o_nil ?_))
 exact sK [0] [2, 3, 1] (hN4 (out_ ++ (([32] : Tx) ++ v)) hL1)
 refine c_seq (c_region (oV vB (oV vA (o_seq ?_))))
 refine c_cut (fun E N' => ∀ (out_4 : Tx), F.defs.itemsText_j5 (F.defs.itemsText_l1 k l__ g31 j) t8 out_4 = some o1 → Sat E [(0, sl A1 L1 C1), (2, sV ([] : Tx)), (3, sV out_4), (5, pt b1), (6, sl A1 L1 C1), (7, iI (l__.length : Int)), (8, iI t8), (13, iI ((at_ l__ t8).Kind))] [.box b1 124 (vItem (at_ l__ t8) A3 L3 C3)] [gf10 1, fS A1 L1 C1 4 eItem l__, fS A3 L3 C3 4 eItem ((at_ l__ t8).Items)] N') (fun N5 hN5 => ?_) ?_
 refine cC hL1 (fun hL1 => ?_) (fun hL1 => ?_)
 refine c_region (oV vM ((fD 2) (oV (vL 0 ty3) ?_)))
 obtain ⟨v1, h8, hL1⟩ := bd hL1
 refine o_callSB call73 rfl (lent_f 1 rfl lent_nil) (tri73 ((at_ l__ t8).N_) v1 h8) rfl (ite_some hL1 fun h9 hL1 => oV (vS h9) (ite_some hL1 ?_))
 intro h10 hL1
 refine oV (vS h10) (oV vA (o_nil ?_))
 exact sK [0] [1, 2, 0] (hN5 (out_ ++ (([32] : Tx) ++ v1)) hL1)
 refine c_seq (c_region (oV vB (oV vA (o_seq ?_))))
 refine c_cut (fun E N' => ∀ (out_5 : Tx), F.defs.itemsText_j6 (F.defs.itemsText_l1 k l__ g31 j) t8 out_5 = some o1 → Sat E [(0, sl A1 L1 C1), (2, sV ([] : Tx)), (3, sV out_5), (5, pt b1), (6, sl A1 L1 C1), (7, iI (l__.length : Int)), (8, iI t8), (13, iI ((at_ l__ t8).Kind))] [.box b1 124 (vItem (at_ l__ t8) A3 L3 C3)] [gf10 1, fS A1 L1 C1 4 eItem l__, fS A3 L3 C3 4 eItem ((at_ l__ t8).Items)] N') (fun N6 hN6 => ?_) ?_
 refine cC hL1 (fun hL1 => ?_) (fun hL1 => ?_)
 refine c_region (oV vM (ite_some hL1 ?_))
 intro h12 hL1
 refine oV (vS h12) (oV vA (o_nil ?_))
 exact sK [0] [1, 2, 0] (hN6 (out_ ++ ([32, 95] : Tx)) hL1)
 refine c_seq (c_region (oV vB (oV vA (o_seq ?_))))
 refine c_cut (fun E N' => ∀ (out_6 : Tx), F.defs.itemsText_j7 (F.defs.itemsText_l1 k l__ g31 j) t8 out_6 = some o1 → Sat E [(0, sl A1 L1 C1), (2, sV ([] : Tx)), (3, sV out_6), (5, pt b1), (6, sl A1 L1 C1), (7, iI (l__.length : Int)), (8, iI t8), (13, iI ((at_ l__ t8).Kind))] [.box b1 124 (vItem (at_ l__ t8) A3 L3 C3)] [gf10 1, fS A1 L1 C1 4 eItem l__, fS A3 L3 C3 4 eItem ((at_ l__ t8).Items)] N') (fun N7 hN7 => ?_) ?_
 refine cC hL1 (fun hL1 => ?_) (fun hL1 => ?_)
 refine c_region (oV vM (ite_some hL1 ?_))
 intro h14 hL1
 refine oV (vS h14) (oV vA (o_nil ?_))
 exact sK [0] [1, 2, 0] (hN7 (out_ ++ ([32, 47] : Tx)) hL1)
 refine c_seq (c_region (oV vB (oV vA (o_seq ?_))))
 refine c_cut (fun E N' => ∀ (out_7 : Tx), F.defs.itemsText_j8 (F.defs.itemsText_l1 k l__ g31 j) t8 out_7 = some o1 → Sat E [(0, sl A1 L1 C1), (2, sV ([] : Tx)), (3, sV out_7), (5, pt b1), (6, sl A1 L1 C1), (7, iI (l__.length : Int)), (8, iI t8), (13, iI ((at_ l__ t8).Kind))] [.box b1 124 (vItem (at_ l__ t8) A3 L3 C3)] [gf10 1, fS A1 L1 C1 4 eItem l__, fS A3 L3 C3 4 eItem ((at_ l__ t8).Items)] N') (fun N8 hN8 => ?_) ?_
 refine cC hL1 (fun hL1 => ?_) (fun hL1 => ?_)
 refine c_draw (n := 13) [0] mixed rfl rfl (dv 0 rfl vM (dv 1 rfl (vF 2) (dv 2 rfl (vL 0 ty3) (dv 6 rfl (vF 3) (dv 7 rfl (vL 0 ty62) (dO 3 rfl ?_))))))
 obtain ⟨v2, h16, hL1⟩ := bd hL1
 refine o_callSB call73 rfl (lent_f 1 rfl lent_nil) (tri73 ((at_ l__ t8).N_) v2 h16) rfl (dN [0] 0 (ite_some hL1 ?_))
 intro h17 hL1
 refine dv 4 rfl (vS h17) (ite_some hL1 ?_)
 intro h18 hL1
 refine dv 5 rfl (vS h18) (dO 8 rfl ?_)
 obtain ⟨v3, h19, hL1⟩ := bd hL1
 refine o_callSB call31 rfl (lent_f 1 rfl (lent_f 0 rfl lent_nil)) (hg31 h19 :) rfl (dN [0] 0 (ite_some hL1 ?_))
 intro h20 hL1
 refine dv 9 rfl (vS h20) (ite_some hL1 ?_)
 intro h21 hL1
 refine dv 10 rfl (vS h21) (ite_some hL1 ?_)
 intro h22 hL1
 refine dv 11 rfl (vS h22) (dv 12 rfl vA (dD ?_))
 exact sK [0] [1, 2, 0] (hN8 (out_ ++ ((((([32, 110, 101, 115, 116, 32] : Tx) ++ v2) ++ ([32, 40] : Tx)) ++ v3) ++ ([32, 41] : Tx))) hL1)
 refine c_seq (c_region (oV vB (oV vA (o_seq ?_))))
 refine c_cut (fun E N' => ∀ (out_8 : Tx), F.defs.itemsText_j9 (F.defs.itemsText_l1 k l__ g31 j) t8 out_8 = some o1 → Sat E [(0, sl A1 L1 C1), (2, sV ([] : Tx)), (3, sV out_8), (5, pt b1), (6, sl A1 L1 C1), (7, iI (l__.length : Int)), (8, iI t8), (13, iI ((at_ l__ t8).Kind))] [.box b1 124 (vItem (at_ l__ t8) A3 L3 C3)] [gf10 1, fS A1 L1 C1 4 eItem l__, fS A3 L3 C3 4 eItem ((at_ l__ t8).Items)] N') (fun N9 hN9 => ?_) ?_
 refine cC hL1 (fun hL1 => ?_) (fun hL1 => ?_)
 refine c_region (oV vM ((fD 3) (oV (vL 0 ty62) ?_)))
 obtain ⟨v4, h24, hL1⟩ := bd hL1
 refine o_callSB call31 rfl (lent_f 1 rfl (lent_f 0 rfl lent_nil)) (hg31 h24 :) rfl (ite_some hL1 fun h25 hL1 => oV (vS h25) (ite_some hL1 ?_))
 intro h26 hL1
 refine oV (vS h26) (ite_some hL1 ?_)
 intro h27 hL1
 refine oV (vS h27) (oV vA (o_nil ?_))
 exact sK [0] [1, 2, 0] (hN9 (out_ ++ ((([32, 103, 114, 111, 117, 112, 32, 40] : Tx) ++ v4) ++ ([32, 41] : Tx))) hL1)
 refine c_skip ?_
 exact sK [0] [1, 2, 0] (hN9 out_ hL1)
 intro out_8 hL1
 unfold F.defs.itemsText_j9 at hL1
 exact sK [0] [0, 1, 2] (hN8 out_8 hL1)
 intro out_7 hL1
 unfold F.defs.itemsText_j8 at hL1
 exact sK [0] [0, 1, 2] (hN7 out_7 hL1)
 intro out_6 hL1
 unfold F.defs.itemsText_j7 at hL1
 exact sK [0] [0, 1, 2] (hN6 out_6 hL1)
 intro out_5 hL1
 unfold F.defs.itemsText_j6 at hL1
 exact sK [0] [0, 1, 2] (hN5 out_5 hL1)
 intro out_4 hL1
 unfold F.defs.itemsText_j5 at hL1
 exact sK [0] [0, 1, 2] (hN4 out_4 hL1)
 intro out_3 hL1
 unfold F.defs.itemsText_j4 at hL1
 exact sK [0] [0, 1, 2] (hN3 out_3 hL1)
 intro out_2 hL1
 unfold F.defs.itemsText_j3 at hL1
 exact sK [0] [0, 1, 2] (hN2 out_2 A3 L3 C3 b1 hL1)
 intro out_1 A2 L2 C2 b hL1
 unfold F.defs.itemsText_j2 at hL1
 refine sat_wc (c_region (oV vB (oV vM (o_nil ?_))))
 intro a w hs
 exact ⟨j, Nat.lt_succ_self j, out_1, IntKind.wrap .i64 (t8 + 1), hL1, st_le [] (lea rfl) rfl (subs [0, 1] rfl) a w hs⟩
 refine c_exit0 ?_
 cases hL1
 exact sK [] [0, 1] (hN1)
 refine sat_wc (c_seq (c_region (oV vM (oV vA (o_seq (c_ret ?_))))))
 cases hF
 exact sR
theorem tri31 (k : Nat) : (∀ {l__ : List Item} {A1 : OA} {L1 C1 : Nat} {r : Tx}, F.defs.itemsText k l__ = some r → Tri Tryz.prog 31 [sl A1 L1 C1] [] [gf10 1, fS A1 L1 C1 4 eItem l__] (oR (sV r))) := by
 induction k with
 | zero => exact fun h => nomatch (show none = some _ from h)
 | succ k ih => exact tri31_B k _ ih
theorem tri13 {k : Nat} {d_ : Def} {A1 : OA} {L1 C1 : Nat} {A2 : OA} {L2 C2 : Nat} {A3 : OA} {L3 C3 : Nat} {A4 : OA} {L4 C4 : Nat} {A5 : OA} {L5 C5 : Nat} {r : List UInt8 × Int} (hF : F.defs.Print k d_ = some r) :
    Tri Tryz.prog 13 [.agg (vDef d_ A1 L1 C1 A2 L2 C2 A3 L3 C3 A4 L4 C4 A5 L5 C5).toArray] [] [gf10 1, fS A1 L1 C1 5 eProd d_.Prods, fS A2 L2 C2 1 (eSl 2 eGroup) d_.Chains, fS A3 L3 C3 5 eFollow d_.Follows, fS A4 L4 C4 2 eReject d_.Rejects, fS A5 L5 C5 2 eBox d_.Boxes] (oR (.tuple #[sV r.1, iI r.2])) := by
 unfold F.defs.Print at hF
 refine tri_intro (n := 159) Tryz.func13 rfl Tryz.ntmps13 rfl fun w X => c_seq (c_region (o_box rfl rfl rfl fun b => oV vA (oV vA (o_seq (c_seq (c_seq (c_region (oV (vL 0 ty28) ?_))))))))
 obtain ⟨v, h1, hF⟩ := bd hF
 refine o_callSB call17 rfl (lent_f 1 rfl (lent_f 2 rfl (lent_f 3 rfl (lent_f 4 rfl (lent_f 5 rfl lent_nil))))) (tri17 h1 :) rfl (oV vN (o_seq ?_))
 refine cC hF (fun hF => ?_) (fun hF => ?_)
 refine c_seq (c_region (oV vA (oV vA (o_seq (c_ret ?_)))))
 cases hF
 refine s_ret2 rfl (r_tmp rfl) (r_tmp rfl) fun a w hs => fin_sel hs [] ⟨rfl, rfl, rfl⟩ rfl sub_nil
 refine c_skip (sat_wc (c_seq (c_region (o_alloc zero69 rfl rfl fun b1 => o_seq (c_seq (c_region (oV (v_makeFunc (vs := [pt b1]) rfl) (oV vA (o_seq (c_seq (c_seq (c_region ((fD 0) (oV (vL 1 ty9) ?_))))))))))))))
 refine oV (v_strne rfl rfl) (o_seq ?_)
 refine c_cut (fun E N' => ∀ (addr_ : Bool) (buf_ : List Int) (A6 : OA) (L6 C6 : Nat), F.defs.Print_j1 k d_ addr_ buf_ = some r → Sat E [(0, .agg (vDef d_ A1 L1 C1 A2 L2 C2 A3 L3 C3 A4 L4 C4 A5 L5 C5).toArray), (1, pt b), (2, sV ([] : Tx)), (3, iI 0), (4, pt b1), (5, .func (.func 26) #[] #[pt b1])] [.box b1 69 [bptr b1 addr_, sl A6 L6 C6], .box b 28 (vDef d_ A1 L1 C1 A2 L2 C2 A3 L3 C3 A4 L4 C4 A5 L5 C5), rW A6 L6 C6 5 1 eU8 buf_] [gf10 1, fS A1 L1 C1 5 eProd d_.Prods, fS A2 L2 C2 1 (eSl 2 eGroup) d_.Chains, fS A3 L3 C3 5 eFollow d_.Follows, fS A4 L4 C4 2 eReject d_.Rejects, fS A5 L5 C5 2 eBox d_.Boxes] N') (fun N12 hN12 => ?_) ?_
 refine cC hF (fun hF => ?_) (fun hF => ?_)
 refine c_region (oV vM ((fD 0) (oV (vL 1 ty9) (ite_some hF ?_))))
 intro h46 hF
 refine oV (vS h46) (ite_some hF ?_)
 intro h47 hF
 refine oV (vS h47) ?_
 obtain ⟨v12, h48, hF⟩ := bd hF
 refine o_st (st_nilrow 5 1) (o_call [1, 0] call26 (cap := #[pt b1]) rfl rfl rfl sub_nil (by exact (tri26 h48 :)) rfl ?_)
 rintro _ _ _ ⟨A27, L27, C27, rfl, rfl, rfl⟩
 refine o_nil ?_
 exact sK [0, 1, 0] [0, 1, 2, 3, 4, 5] (hN12 v12.2.addr v12.2.buf A27 L27 C27 hF)
 refine c_skip (s_st (st_nilrow 5 1) ?_)
 exact sK [1, 1, 0] [0, 1, 2, 3, 4, 5] (hN12 false ([] : List Int) none 0 0 hF)
 intro addr_ buf_ A6 L6 C6 hF
 unfold F.defs.Print_j1 at hF
 refine sat_wc (c_seq (c_seq (c_region ((fD 1) (oV (vL 1 ty9) (oV (v_strne rfl rfl) (o_seq ?_)))))))
 refine c_cut (fun E N' => ∀ (addr_1 : Bool) (buf_1 : List Int) (A7 : OA) (L7 C7 : Nat), F.defs.Print_j2 k d_ addr_1 buf_1 = some r → Sat E [(0, .agg (vDef d_ A1 L1 C1 A2 L2 C2 A3 L3 C3 A4 L4 C4 A5 L5 C5).toArray), (1, pt b), (2, sV ([] : Tx)), (3, iI 0), (4, pt b1), (5, .func (.func 26) #[] #[pt b1])] [.box b1 69 [bptr b1 addr_1, sl A7 L7 C7], .box b 28 (vDef d_ A1 L1 C1 A2 L2 C2 A3 L3 C3 A4 L4 C4 A5 L5 C5), rW A7 L7 C7 5 1 eU8 buf_1] [gf10 1, fS A1 L1 C1 5 eProd d_.Prods, fS A2 L2 C2 1 (eSl 2 eGroup) d_.Chains, fS A3 L3 C3 5 eFollow d_.Follows, fS A4 L4 C4 2 eReject d_.Rejects, fS A5 L5 C5 2 eBox d_.Boxes] N') (fun N12 hN12 => ?_) ?_
 refine cC hF (fun hF => ?_) (fun hF => ?_)
 refine c_region (oV vM ((fD 1) (oV (vL 1 ty9) (ite_some hF ?_))))
 intro h42 hF
 refine oV (vS h42) (ite_some hF ?_)
 intro h43 hF
 refine oV (vS h43) ?_
 obtain ⟨v11, h44, hF⟩ := bd hF
 refine o_call [0, 1] call26 (cap := #[pt b1]) rfl rfl rfl sub_nil (by exact (tri26 h44 :)) rfl ?_
 rintro _ _ _ ⟨A26, L26, C26, rfl, rfl, rfl⟩
 refine o_nil ?_
 exact sK [0, 1, 0] [0, 1, 2, 3, 4, 5] (hN12 v11.2.addr v11.2.buf A26 L26 C26 hF)
 refine c_skip ?_
 exact sK [0, 0, 0] [0, 1, 2, 3, 4, 5] (hN12 addr_ buf_ A6 L6 C6 hF)
 intro addr_1 buf_1 A7 L7 C7 hF
 unfold F.defs.Print_j2 at hF
 refine sat_wc (c_seq (c_region (oV vA (o_seq (c_seq (c_seq (c_region (oV vA (o_seq ?_)))))))))
 obtain ⟨o3, ho3, hF⟩ := bd hF
 refine c_cut (fun E N' => ∀ (A9 : OA) (L9 C9 : Nat), Sat E [(0, .agg (vDef d_ A1 L1 C1 A2 L2 C2 A3 L3 C3 A4 L4 C4 A5 L5 C5).toArray), (1, pt b), (2, sV ([] : Tx)), (3, iI 0), (4, pt b1), (5, .func (.func 26) #[] #[pt b1]), (6, bV o3.1)] [.box b1 69 [bptr b1 o3.2.1, sl A9 L9 C9], .box b 28 (vDef d_ A1 L1 C1 A2 L2 C2 A3 L3 C3 A4 L4 C4 A5 L5 C5), rW A9 L9 C9 5 1 eU8 o3.2.2] [gf10 1, fS A1 L1 C1 5 eProd d_.Prods, fS A2 L2 C2 1 (eSl 2 eGroup) d_.Chains, fS A3 L3 C3 5 eFollow d_.Follows, fS A4 L4 C4 2 eReject d_.Rejects, fS A5 L5 C5 2 eBox d_.Boxes] N') (fun N3 hN3 => ?_) ?_
 refine c_block ?_
 refine c_loopE (fun E j a w => ∃ (ok_ : Bool) (i : Int) (addr_2 : Bool) (buf_2 : List Int) (A8 : OA) (L8 C8 : Nat), F.defs.Print_l3 k d_ j ok_ i addr_2 buf_2 = some o3 ∧ St E [(0, .agg (vDef d_ A1 L1 C1 A2 L2 C2 A3 L3 C3 A4 L4 C4 A5 L5 C5).toArray), (1, pt b), (2, sV ([] : Tx)), (3, iI 0), (4, pt b1), (5, .func (.func 26) #[] #[pt b1]), (6, bV ok_), (7, iI i)] [.box b1 69 [bptr b1 addr_2, sl A8 L8 C8], .box b 28 (vDef d_ A1 L1 C1 A2 L2 C2 A3 L3 C3 A4 L4 C4 A5 L5 C5), rW A8 L8 C8 5 1 eU8 buf_2] [gf10 1, fS A1 L1 C1 5 eProd d_.Prods, fS A2 L2 C2 1 (eSl 2 eGroup) d_.Chains, fS A3 L3 C3 5 eFollow d_.Follows, fS A4 L4 C4 2 eReject d_.Rejects, fS A5 L5 C5 2 eBox d_.Boxes] a w) k ?_ ?_
 intro a w hs
 exact ⟨true, 0, addr_1, buf_1, A7, L7, C7, ho3, st_le [0, 0, 0] (lea rfl) rfl (subs [0, 1, 2, 3, 4, 5] rfl) a w hs⟩
 rintro j a w ⟨ok_, i, addr_2, buf_2, A8, L8, C8, hL3, hs⟩
 rcases j with _ | j
 cases hL3
 refine wc_app hs ?_
 unfold F.defs.Print_l3 at hL3
 refine c_seq (c_seq ?_)
 refine c_cut (fun E N' => ∀ (t41 : Bool), F.defs.Print_j4 k i d_ addr_2 buf_2 (F.defs.Print_l3 k d_ j) ok_ t41 = some o3 → Sat E [(0, .agg (vDef d_ A1 L1 C1 A2 L2 C2 A3 L3 C3 A4 L4 C4 A5 L5 C5).toArray), (1, pt b), (2, sV ([] : Tx)), (3, iI 0), (4, pt b1), (5, .func (.func 26) #[] #[pt b1]), (6, bV ok_), (7, iI i), (41, bV t41)] [.box b1 69 [bptr b1 addr_2, sl A8 L8 C8], .box b 28 (vDef d_ A1 L1 C1 A2 L2 C2 A3 L3 C3 A4 L4 C4 A5 L5 C5), rW A8 L8 C8 5 1 eU8 buf_2] [gf10 1, fS A1 L1 C1 5 eProd d_.Prods, fS A2 L2 C2 1 (eSl 2 eGroup) d_.Chains, fS A3 L3 C3 5 eFollow d_.Follows, fS A4 L4 C4 2 eReject d_.Rejects, fS A5 L5 C5 2 eBox d_.Boxes] N') (fun N4 hN4 => ?_) ?_
 refine c_region (oV vM ((fD 2) (oV (vL 1 ty22) (oV (v_lenS (enc := eProd) d_.Prods sl22 rfl (.f 1 rfl)) (oV vB (oV vM ?_))))))
 refine oS 39 hL3 (fun hL3 => ?_) (fun hL3 => ?_)
 refine oN (oV vM (oV vPt (o_nil ?_)))
 exact sK [0, 0, 0] [0, 1, 2, 3, 4, 5] (hN4 ok_ hL3)
 refine oF (oV vPf (o_nil ?_))
 exact sK [0, 0, 0] [0, 1, 2, 3, 4, 5] (hN4 false hL3)
 intro t41 hL3
 unfold F.defs.Print_j4 at hL3
 refine sat_wc ?_
 refine cC hL3 (fun hL3 => ?_) (fun hL3 => ?_)
 refine c_skip (sat_wc (c_seq (c_block (c_region (oV vM ((fD 2) (oV (vL 1 ty22) (oV vM (ite_some hL3 ?_)))))))))
 intro h4 hL3
 refine oV (v_indexAddr_s (xs := d_.Prods) (enc := eProd) sl22 rfl rfl (.f 1 rfl) h4) (o_load_s (xs := d_.Prods) (enc := eProd) ty57 rfl (.f 1 rfl) h4 rfl rfl rfl rfl rfl rfl ?_)
 intro A10 L10 C10
 refine ?_
 obtain ⟨v1, h5, hL3⟩ := bd hL3
 refine o_callSB call29 rfl (lent_f 0 rfl lent_nil) (tri29 h5 :) rfl ?_
 obtain ⟨v2, h6, hL3⟩ := bd hL3
 refine o_call [0, 1] call26 (cap := #[pt b1]) rfl rfl rfl sub_nil (by exact (tri26 h6 :)) rfl ?_
 rintro _ _ _ ⟨A11, L11, C11, rfl, rfl, rfl⟩
 refine oV vA (o_nil (sat_wc (c_region (oV vM (oV vB (oV vA (o_nil ?_)))))))
 intro a w hs
 exact ⟨j, Nat.lt_succ_self j, v2.1, IntKind.wrap .i64 (i + 1), v2.2.addr, v2.2.buf, A11, L11, C11, hL3, st_le [0, 1, 0] (lea rfl) rfl (subs [1, 2, 3, 4, 5, 6] rfl) a w hs⟩
 refine c_exit0 ?_
 cases hL3
 exact sK [0, 0, 0] [0, 1, 2, 3, 4, 5] (hN3 A8 L8 C8)
 intro A9 L9 C9
 refine sat_wc (c_seq (c_seq (c_region (oV vA (o_seq ?_)))))
 obtain ⟨o5, ho5, hF⟩ := bd hF
 refine c_cut (fun E N' => ∀ (A13 : OA) (L13 C13 : Nat), Sat E [(0, .agg (vDef d_ A1 L1 C1 A2 L2 C2 A3 L3 C3 A4 L4 C4 A5 L5 C5).toArray), (1, pt b), (2, sV ([] : Tx)), (3, iI 0), (4, pt b1), (5, .func (.func 26) #[] #[pt b1]), (6, bV o5.1)] [.box b1 69 [bptr b1 o5.2.1, sl A13 L13 C13], .box b 28 (vDef d_ A1 L1 C1 A2 L2 C2 A3 L3 C3 A4 L4 C4 A5 L5 C5), rW A13 L13 C13 5 1 eU8 o5.2.2] [gf10 1, fS A1 L1 C1 5 eProd d_.Prods, fS A2 L2 C2 1 (eSl 2 eGroup) d_.Chains, fS A3 L3 C3 5 eFollow d_.Follows, fS A4 L4 C4 2 eReject d_.Rejects, fS A5 L5 C5 2 eBox d_.Boxes] N') (fun N5 hN5 => ?_) ?_
 refine c_block ?_
 refine c_loopE (fun E j a w => ∃ (ok_1 : Bool) (i1 : Int) (addr_3 : Bool) (buf_3 : List Int) (A12 : OA) (L12 C12 : Nat), F.defs.Print_l5 k d_ j ok_1 i1 addr_3 buf_3 = some o5 ∧ St E [(0, .agg (vDef d_ A1 L1 C1 A2 L2 C2 A3 L3 C3 A4 L4 C4 A5 L5 C5).toArray), (1, pt b), (2, sV ([] : Tx)), (3, iI 0), (4, pt b1), (5, .func (.func 26) #[] #[pt b1]), (6, bV ok_1), (8, iI i1)] [.box b1 69 [bptr b1 addr_3, sl A12 L12 C12], .box b 28 (vDef d_ A1 L1 C1 A2 L2 C2 A3 L3 C3 A4 L4 C4 A5 L5 C5), rW A12 L12 C12 5 1 eU8 buf_3] [gf10 1, fS A1 L1 C1 5 eProd d_.Prods, fS A2 L2 C2 1 (eSl 2 eGroup) d_.Chains, fS A3 L3 C3 5 eFollow d_.Follows, fS A4 L4 C4 2 eReject d_.Rejects, fS A5 L5 C5 2 eBox d_.Boxes] a w) k ?_ ?_
 intro a w hs
 exact ⟨o3.1, 0, o3.2.1, o3.2.2, A9, L9, C9, ho5, st_le [0, 0, 0] (lea rfl) rfl (subs [0, 1, 2, 3, 4, 5] rfl) a w hs⟩
 rintro j a w ⟨ok_1, i1, addr_3, buf_3, A12, L12, C12, hL5, hs⟩
 rcases j with _ | j
 cases hL5
 refine wc_app hs ?_
 unfold F.defs.Print_l5 at hL5
 refine c_seq (c_seq ?_)
 refine c_cut (fun E N' => ∀ (t59 : Bool), F.defs.Print_j6 k i1 d_ addr_3 buf_3 (F.defs.Print_l5 k d_ j) ok_1 t59 = some o5 → Sat E [(0, .agg (vDef d_ A1 L1 C1 A2 L2 C2 A3 L3 C3 A4 L4 C4 A5 L5 C5).toArray), (1, pt b), (2, sV ([] : Tx)), (3, iI 0), (4, pt b1), (5, .func (.func 26) #[] #[pt b1]), (6, bV ok_1), (8, iI i1), (59, bV t59)] [.box b1 69 [bptr b1 addr_3, sl A12 L12 C12], .box b 28 (vDef d_ A1 L1 C1 A2 L2 C2 A3 L3 C3 A4 L4 C4 A5 L5 C5), rW A12 L12 C12 5 1 eU8 buf_3] [gf10 1, fS A1 L1 C1 5 eProd d_.Prods, fS A2 L2 C2 1 (eSl 2 eGroup) d_.Chains, fS A3 L3 C3 5 eFollow d_.Follows, fS A4 L4 C4 2 eReject d_.Rejects, fS A5 L5 C5 2 eBox d_.Boxes] N') (fun N6 hN6 => ?_) ?_
 refine c_region (oV vM ((fD 3) (oV (vL 1 ty23) (oV (v_lenS (enc := (eSl 2 eGroup)) d_.Chains sl23 rfl (.f 2 rfl)) (oV vB (oV vM ?_))))))
 refine oS 57 hL5 (fun hL5 => ?_) (fun hL5 => ?_)
 refine oN (oV vM (oV vPt (o_nil ?_)))
 exact sK [0, 0, 0] [0, 1, 2, 3, 4, 5] (hN6 ok_1 hL5)
 refine oF (oV vPf (o_nil ?_))
 exact sK [0, 0, 0] [0, 1, 2, 3, 4, 5] (hN6 false hL5)
 intro t59 hL5
 unfold F.defs.Print_j6 at hL5
 refine sat_wc ?_
 refine cC hL5 (fun hL5 => ?_) (fun hL5 => ?_)
 refine c_skip (sat_wc (c_seq (c_block (c_region (oV vM ((fD 3) (oV (vL 1 ty23) (oV vM (ite_some hL5 ?_)))))))))
 intro h9 hL5
 refine oV (v_indexAddr_s (xs := d_.Chains) (enc := (eSl 2 eGroup)) sl23 rfl rfl (.f 2 rfl) h9) (o_load_s (xs := d_.Chains) (enc := (eSl 2 eGroup)) ty58 rfl (.f 2 rfl) h9 rfl rfl rfl rfl rfl rfl ?_)
 intro A14 L14 C14
 refine ?_
 obtain ⟨v3, h10, hL5⟩ := bd hL5
 refine o_callSB call30 rfl (lent_f 0 rfl lent_nil) (tri30 h10 :) rfl ?_
 obtain ⟨v4, h11, hL5⟩ := bd hL5
 refine o_call [0, 1] call26 (cap := #[pt b1]) rfl rfl rfl sub_nil (by exact (tri26 h11 :)) rfl ?_
 rintro _ _ _ ⟨A15, L15, C15, rfl, rfl, rfl⟩
 refine oV vA (o_nil (sat_wc (c_region (oV vM (oV vB (oV vA (o_nil ?_)))))))
 intro a w hs
 exact ⟨j, Nat.lt_succ_self j, v4.1, IntKind.wrap .i64 (i1 + 1), v4.2.addr, v4.2.buf, A15, L15, C15, hL5, st_le [0, 1, 0] (lea rfl) rfl (subs [1, 2, 3, 4, 5, 6] rfl) a w hs⟩
 refine c_exit0 ?_
 cases hL5
 exact sK [0, 0, 0] [0, 1, 2, 3, 4, 5] (hN5 A12 L12 C12)
 intro A13 L13 C13
 refine sat_wc (c_seq (c_seq (c_region (oV vA (o_seq ?_)))))
 obtain ⟨o7, ho7, hF⟩ := bd hF
 refine c_cut (fun E N' => ∀ (A17 : OA) (L17 C17 : Nat), Sat E [(0, .agg (vDef d_ A1 L1 C1 A2 L2 C2 A3 L3 C3 A4 L4 C4 A5 L5 C5).toArray), (1, pt b), (2, sV ([] : Tx)), (3, iI 0), (4, pt b1), (5, .func (.func 26) #[] #[pt b1]), (6, bV o7.1)] [.box b1 69 [bptr b1 o7.2.1, sl A17 L17 C17], .box b 28 (vDef d_ A1 L1 C1 A2 L2 C2 A3 L3 C3 A4 L4 C4 A5 L5 C5), rW A17 L17 C17 5 1 eU8 o7.2.2] [gf10 1, fS A1 L1 C1 5 eProd d_.Prods, fS A2 L2 C2 1 (eSl 2 eGroup) d_.Chains, fS A3 L3 C3 5 eFollow d_.Follows, fS A4 L4 C4 2 eReject d_.Rejects, fS A5 L5 C5 2 eBox d_.Boxes] N') (fun N7 hN7 => ?_) ?_
 refine c_block ?_
 refine c_loopE (fun E j a w => ∃ (ok_2 : Bool) (i2 : Int) (addr_4 : Bool) (buf_4 : List Int) (A16 : OA) (L16 C16 : Nat), F.defs.Print_l7 k d_ j ok_2 i2 addr_4 buf_4 = some o7 ∧ St E [(0, .agg (vDef d_ A1 L1 C1 A2 L2 C2 A3 L3 C3 A4 L4 C4 A5 L5 C5).toArray), (1, pt b), (2, sV ([] : Tx)), (3, iI 0), (4, pt b1), (5, .func (.func 26) #[] #[pt b1]), (6, bV ok_2), (9, iI i2)] [.box b1 69 [bptr b1 addr_4, sl A16 L16 C16], .box b 28 (vDef d_ A1 L1 C1 A2 L2 C2 A3 L3 C3 A4 L4 C4 A5 L5 C5), rW A16 L16 C16 5 1 eU8 buf_4] [gf10 1, fS A1 L1 C1 5 eProd d_.Prods, fS A2 L2 C2 1 (eSl 2 eGroup) d_.Chains, fS A3 L3 C3 5 eFollow d_.Follows, fS A4 L4 C4 2 eReject d_.Rejects, fS A5 L5 C5 2 eBox d_.Boxes] a w) k ?_ ?_
 intro a w hs
 exact ⟨o5.1, 0, o5.2.1, o5.2.2, A13, L13, C13, ho7, st_le [0, 0, 0] (lea rfl) rfl (subs [0, 1, 2, 3, 4, 5] rfl) a w hs⟩
 rintro j a w ⟨ok_2, i2, addr_4, buf_4, A16, L16, C16, hL7, hs⟩
 rcases j with _ | j
 cases hL7
 refine wc_app hs ?_
 unfold F.defs.Print_l7 at hL7
 refine c_seq (c_seq ?_)
 refine c_cut (fun E N' => ∀ (t77 : Bool), F.defs.Print_j8 k i2 d_ addr_4 buf_4 (F.defs.Print_l7 k d_ j) ok_2 t77 = some o7 → Sat E [(0, .agg (vDef d_ A1 L1 C1 A2 L2 C2 A3 L3 C3 A4 L4 C4 A5 L5 C5).toArray), (1, pt b), (2, sV ([] : Tx)), (3, iI 0), (4, pt b1), (5, .func (.func 26) #[] #[pt b1]), (6, bV ok_2), (9, iI i2), (77, bV t77)] [.box b1 69 [bptr b1 addr_4, sl A16 L16 C16], .box b 28 (vDef d_ A1 L1 C1 A2 L2 C2 A3 L3 C3 A4 L4 C4 A5 L5 C5), rW A16 L16 C16 5 1 eU8 buf_4] [gf10 1, fS A1 L1 C1 5 eProd d_.Prods, fS A2 L2 C2 1 (eSl 2 eGroup) d_.Chains, fS A3 L3 C3 5 eFollow d_.Follows, fS A4 L4 C4 2 eReject d_.Rejects, fS A5 L5 C5 2 eBox d_.Boxes] N') (fun N8 hN8 => ?_) ?_
 refine c_region (oV vM ((fD 4) (oV (vL 1 ty24) (oV (v_lenS (enc := eFollow) d_.Follows sl24 rfl (.f 3 rfl)) (oV vB (oV vM ?_))))))
 refine oS 75 hL7 (fun hL7 => ?_) (fun hL7 => ?_)
 refine oN (oV vM (oV vPt (o_nil ?_)))
 exact sK [0, 0, 0] [0, 1, 2, 3, 4, 5] (hN8 ok_2 hL7)
 refine oF (oV vPf (o_nil ?_))
 exact sK [0, 0, 0] [0, 1, 2, 3, 4, 5] (hN8 false hL7)
 intro t77 hL7
 unfold F.defs.Print_j8 at hL7
 refine sat_wc ?_
 refine cC hL7 (fun hL7 => ?_) (fun hL7 => ?_)
 refine c_skip (sat_wc (c_seq (c_block (c_draw (n := 20) [1] mixed rfl rfl (dv 0 rfl vM (dv 1 rfl (vF 4) (dv 2 rfl (vL 0 ty24) (dv 3 rfl vM (ite_some hL7 ?_)))))))))
 intro h14 hL7
 refine dv 4 rfl (v_indexAddr_s (xs := d_.Follows) (enc := eFollow) sl24 rfl rfl (.f 3 rfl) h14) (dv 5 rfl (v_fieldAddr (v := .pointer (some ⟨blkA A3, offA A3 + (Int.toNat i2 * 5 + 0), none⟩)) rfl (fun _ => by kernel_rfl)) (dv 6 rfl (v_load_s (xs := d_.Follows) (enc := eFollow) ty9 rfl (.f 3 rfl) h14 rfl rfl rfl rfl rfl rfl rfl) (ite_some hL7 fun h15 hL7 => dv 7 rfl (vS h15) (ite_some hL7 ?_))))
 intro h16 hL7
 refine ?_
 refine dv 8 rfl (vS h16) (dv 9 rfl (vF 4) (dv 10 rfl (vL 0 ty24) (dv 11 rfl vM (dv 12 rfl (v_indexAddr_s (xs := d_.Follows) (enc := eFollow) sl24 rfl rfl (.f 3 rfl) h14) (dv 13 rfl (v_fieldAddr (v := .pointer (some ⟨blkA A3, offA A3 + (Int.toNat i2 * 5 + 1), none⟩)) rfl (fun _ => by kernel_rfl)) (dv 14 rfl (v_load_s (xs := d_.Follows) (enc := eFollow) ty44 rfl (.f 3 rfl) h14 rfl rfl rfl rfl rfl rfl rfl) (dO 15 rfl ?_)))))))
 obtain ⟨v5, h17, hL7⟩ := bd hL7
 refine o_callSB call19 rfl lent_nil (tri19 h17 :) rfl (dN [1] 0 (ite_some hL7 ?_))
 intro h18 hL7
 refine dv 16 rfl (vS h18) (ite_some hL7 ?_)
 intro h19 hL7
 refine dv 17 rfl (vS h19) (dO 18 rfl ?_)
 obtain ⟨v6, h20, hL7⟩ := bd hL7
 refine o_call [0, 1] call26 (cap := #[pt b1]) rfl rfl rfl sub_nil (by exact (tri26 h20 :)) rfl ?_
 rintro _ _ _ ⟨A18, L18, C18, rfl, rfl, rfl⟩
 refine dN [2] 0 (dv 19 rfl vA (dD (sat_wc (c_region (oV vM (oV vB (oV vA (o_nil ?_))))))))
 intro a w hs
 exact ⟨j, Nat.lt_succ_self j, v6.1, IntKind.wrap .i64 (i2 + 1), v6.2.addr, v6.2.buf, A18, L18, C18, hL7, st_le [0, 1, 0] (lea rfl) rfl (subs [0, 1, 2, 3, 4, 5] rfl) a w hs⟩
 refine c_exit0 ?_
 cases hL7
 exact sK [0, 0, 0] [0, 1, 2, 3, 4, 5] (hN7 A16 L16 C16)
 intro A17 L17 C17
 refine sat_wc (c_seq (c_seq (c_region (oV vA (o_seq ?_)))))
 obtain ⟨o9, ho9, hF⟩ := bd hF
 refine c_cut (fun E N' => ∀ (A20 : OA) (L20 C20 : Nat), Sat E [(0, .agg (vDef d_ A1 L1 C1 A2 L2 C2 A3 L3 C3 A4 L4 C4 A5 L5 C5).toArray), (1, pt b), (2, sV ([] : Tx)), (3, iI 0), (4, pt b1), (5, .func (.func 26) #[] #[pt b1]), (6, bV o9.1)] [.box b1 69 [bptr b1 o9.2.1, sl A20 L20 C20], .box b 28 (vDef d_ A1 L1 C1 A2 L2 C2 A3 L3 C3 A4 L4 C4 A5 L5 C5), rW A20 L20 C20 5 1 eU8 o9.2.2] [gf10 1, fS A1 L1 C1 5 eProd d_.Prods, fS A2 L2 C2 1 (eSl 2 eGroup) d_.Chains, fS A3 L3 C3 5 eFollow d_.Follows, fS A4 L4 C4 2 eReject d_.Rejects, fS A5 L5 C5 2 eBox d_.Boxes] N') (fun N9 hN9 => ?_) ?_
 refine c_block ?_
 refine c_loopE (fun E j a w => ∃ (ok_3 : Bool) (i3 : Int) (addr_5 : Bool) (buf_5 : List Int) (A19 : OA) (L19 C19 : Nat), F.defs.Print_l9 d_ j ok_3 i3 addr_5 buf_5 = some o9 ∧ St E [(0, .agg (vDef d_ A1 L1 C1 A2 L2 C2 A3 L3 C3 A4 L4 C4 A5 L5 C5).toArray), (1, pt b), (2, sV ([] : Tx)), (3, iI 0), (4, pt b1), (5, .func (.func 26) #[] #[pt b1]), (6, bV ok_3), (10, iI i3)] [.box b1 69 [bptr b1 addr_5, sl A19 L19 C19], .box b 28 (vDef d_ A1 L1 C1 A2 L2 C2 A3 L3 C3 A4 L4 C4 A5 L5 C5), rW A19 L19 C19 5 1 eU8 buf_5] [gf10 1, fS A1 L1 C1 5 eProd d_.Prods, fS A2 L2 C2 1 (eSl 2 eGroup) d_.Chains, fS A3 L3 C3 5 eFollow d_.Follows, fS A4 L4 C4 2 eReject d_.Rejects, fS A5 L5 C5 2 eBox d_.Boxes] a w) k ?_ ?_
 intro a w hs
 exact ⟨o7.1, 0, o7.2.1, o7.2.2, A17, L17, C17, ho9, st_le [0, 0, 0] (lea rfl) rfl (subs [0, 1, 2, 3, 4, 5] rfl) a w hs⟩
 rintro j a w ⟨ok_3, i3, addr_5, buf_5, A19, L19, C19, hL9, hs⟩
 rcases j with _ | j
 cases hL9
 refine wc_app hs ?_
 unfold F.defs.Print_l9 at hL9
 refine c_seq (c_seq ?_)
 refine c_cut (fun E N' => ∀ (t106 : Bool), F.defs.Print_j10 i3 d_ addr_5 buf_5 (F.defs.Print_l9 d_ j) ok_3 t106 = some o9 → Sat E [(0, .agg (vDef d_ A1 L1 C1 A2 L2 C2 A3 L3 C3 A4 L4 C4 A5 L5 C5).toArray), (1, pt b), (2, sV ([] : Tx)), (3, iI 0), (4, pt b1), (5, .func (.func 26) #[] #[pt b1]), (6, bV ok_3), (10, iI i3), (106, bV t106)] [.box b1 69 [bptr b1 addr_5, sl A19 L19 C19], .box b 28 (vDef d_ A1 L1 C1 A2 L2 C2 A3 L3 C3 A4 L4 C4 A5 L5 C5), rW A19 L19 C19 5 1 eU8 buf_5] [gf10 1, fS A1 L1 C1 5 eProd d_.Prods, fS A2 L2 C2 1 (eSl 2 eGroup) d_.Chains, fS A3 L3 C3 5 eFollow d_.Follows, fS A4 L4 C4 2 eReject d_.Rejects, fS A5 L5 C5 2 eBox d_.Boxes] N') (fun N10 hN10 => ?_) ?_
 refine c_region (oV vM ((fD 5) (oV (vL 1 ty25) (oV (v_lenS (enc := eReject) d_.Rejects sl25 rfl (.f 4 rfl)) (oV vB (oV vM ?_))))))
 refine oS 104 hL9 (fun hL9 => ?_) (fun hL9 => ?_)
 refine oN (oV vM (oV vPt (o_nil ?_)))
 exact sK [0, 0, 0] [0, 1, 2, 3, 4, 5] (hN10 ok_3 hL9)
 refine oF (oV vPf (o_nil ?_))
 exact sK [0, 0, 0] [0, 1, 2, 3, 4, 5] (hN10 false hL9)
 intro t106 hL9
 unfold F.defs.Print_j10 at hL9
 refine sat_wc ?_
 refine cC hL9 (fun hL9 => ?_) (fun hL9 => ?_)
 refine c_skip (sat_wc (c_seq (c_block (c_draw (n := 19) [1] mixed rfl rfl (dv 0 rfl vM (dv 1 rfl (vF 5) (dv 2 rfl (vL 0 ty25) (dv 3 rfl vM (ite_some hL9 ?_)))))))))
 intro h23 hL9
 refine dv 4 rfl (v_indexAddr_s (xs := d_.Rejects) (enc := eReject) sl25 rfl rfl (.f 4 rfl) h23) (dv 5 rfl (v_fieldAddr (v := .pointer (some ⟨blkA A4, offA A4 + (Int.toNat i3 * 2 + 0), none⟩)) rfl (fun _ => by kernel_rfl)) (dv 6 rfl (v_load_s (xs := d_.Rejects) (enc := eReject) ty9 rfl (.f 4 rfl) h23 rfl rfl rfl rfl rfl rfl rfl) (ite_some hL9 fun h24 hL9 => dv 7 rfl (vS h24) (ite_some hL9 ?_))))
 intro h25 hL9
 refine ?_
 refine dv 8 rfl (vS h25) (dv 9 rfl (vF 5) (dv 10 rfl (vL 0 ty25) (dv 11 rfl vM (dv 12 rfl (v_indexAddr_s (xs := d_.Rejects) (enc := eReject) sl25 rfl rfl (.f 4 rfl) h23) (dv 13 rfl (v_fieldAddr (v := .pointer (some ⟨blkA A4, offA A4 + (Int.toNat i3 * 2 + 1), none⟩)) rfl (fun _ => by kernel_rfl)) (dv 14 rfl (v_load_s (xs := d_.Rejects) (enc := eReject) ty9 rfl (.f 4 rfl) h23 rfl rfl rfl rfl rfl rfl rfl) (ite_some hL9 ?_)))))))
 intro h26 hL9
 refine dv 15 rfl (vS h26) (ite_some hL9 ?_)
 intro h27 hL9
 refine dv 16 rfl (vS h27) (dO 17 rfl ?_)
 obtain ⟨v7, h28, hL9⟩ := bd hL9
 refine o_call [0, 1] call26 (cap := #[pt b1]) rfl rfl rfl sub_nil (by exact (tri26 h28 :)) rfl ?_
 rintro _ _ _ ⟨A21, L21, C21, rfl, rfl, rfl⟩
 refine dN [2] 0 (dv 18 rfl vA (dD (sat_wc (c_region (oV vM (oV vB (oV vA (o_nil ?_))))))))
 intro a w hs
 exact ⟨j, Nat.lt_succ_self j, v7.1, IntKind.wrap .i64 (i3 + 1), v7.2.addr, v7.2.buf, A21, L21, C21, hL9, st_le [0, 1, 0] (lea rfl) rfl (subs [0, 1, 2, 3, 4, 5] rfl) a w hs⟩
 refine c_exit0 ?_
 cases hL9
 exact sK [0, 0, 0] [0, 1, 2, 3, 4, 5] (hN9 A19 L19 C19)
 intro A20 L20 C20
 refine sat_wc (c_seq (c_seq (c_region (oV vA (o_seq ?_)))))
 obtain ⟨o11, ho11, hF⟩ := bd hF
 refine c_cut (fun E N' => ∀ (A23 : OA) (L23 C23 : Nat), Sat E [(0, .agg (vDef d_ A1 L1 C1 A2 L2 C2 A3 L3 C3 A4 L4 C4 A5 L5 C5).toArray), (1, pt b), (2, sV ([] : Tx)), (3, iI 0), (4, pt b1), (5, .func (.func 26) #[] #[pt b1]), (6, bV o11.1)] [.box b1 69 [bptr b1 o11.2.1, sl A23 L23 C23], .box b 28 (vDef d_ A1 L1 C1 A2 L2 C2 A3 L3 C3 A4 L4 C4 A5 L5 C5), rW A23 L23 C23 5 1 eU8 o11.2.2] [gf10 1, fS A1 L1 C1 5 eProd d_.Prods, fS A2 L2 C2 1 (eSl 2 eGroup) d_.Chains, fS A3 L3 C3 5 eFollow d_.Follows, fS A4 L4 C4 2 eReject d_.Rejects, fS A5 L5 C5 2 eBox d_.Boxes] N') (fun N11 hN11 => ?_) ?_
 refine c_block ?_
 refine c_loopE (fun E j a w => ∃ (ok_4 : Bool) (i4 : Int) (addr_6 : Bool) (buf_6 : List Int) (A22 : OA) (L22 C22 : Nat), F.defs.Print_l11 k d_ j ok_4 i4 addr_6 buf_6 = some o11 ∧ St E [(0, .agg (vDef d_ A1 L1 C1 A2 L2 C2 A3 L3 C3 A4 L4 C4 A5 L5 C5).toArray), (1, pt b), (2, sV ([] : Tx)), (3, iI 0), (4, pt b1), (5, .func (.func 26) #[] #[pt b1]), (6, bV ok_4), (11, iI i4)] [.box b1 69 [bptr b1 addr_6, sl A22 L22 C22], .box b 28 (vDef d_ A1 L1 C1 A2 L2 C2 A3 L3 C3 A4 L4 C4 A5 L5 C5), rW A22 L22 C22 5 1 eU8 buf_6] [gf10 1, fS A1 L1 C1 5 eProd d_.Prods, fS A2 L2 C2 1 (eSl 2 eGroup) d_.Chains, fS A3 L3 C3 5 eFollow d_.Follows, fS A4 L4 C4 2 eReject d_.Rejects, fS A5 L5 C5 2 eBox d_.Boxes] a w) k ?_ ?_
 intro a w hs
 exact ⟨o9.1, 0, o9.2.1, o9.2.2, A20, L20, C20, ho11, st_le [0, 0, 0] (lea rfl) rfl (subs [0, 1, 2, 3, 4, 5] rfl) a w hs⟩
 rintro j a w ⟨ok_4, i4, addr_6, buf_6, A22, L22, C22, hL11, hs⟩
 rcases j with _ | j
 cases hL11
 refine wc_app hs ?_
 unfold F.defs.Print_l11 at hL11
 refine c_seq (c_seq ?_)
 refine c_cut (fun E N' => ∀ (t134 : Bool), F.defs.Print_j12 k i4 d_ addr_6 buf_6 (F.defs.Print_l11 k d_ j) ok_4 t134 = some o11 → Sat E [(0, .agg (vDef d_ A1 L1 C1 A2 L2 C2 A3 L3 C3 A4 L4 C4 A5 L5 C5).toArray), (1, pt b), (2, sV ([] : Tx)), (3, iI 0), (4, pt b1), (5, .func (.func 26) #[] #[pt b1]), (6, bV ok_4), (11, iI i4), (134, bV t134)] [.box b1 69 [bptr b1 addr_6, sl A22 L22 C22], .box b 28 (vDef d_ A1 L1 C1 A2 L2 C2 A3 L3 C3 A4 L4 C4 A5 L5 C5), rW A22 L22 C22 5 1 eU8 buf_6] [gf10 1, fS A1 L1 C1 5 eProd d_.Prods, fS A2 L2 C2 1 (eSl 2 eGroup) d_.Chains, fS A3 L3 C3 5 eFollow d_.Follows, fS A4 L4 C4 2 eReject d_.Rejects, fS A5 L5 C5 2 eBox d_.Boxes] N') (fun N12 hN12 => ?_) ?_
 refine c_region (oV vM ((fD 6) (oV (vL 1 ty26) (oV (v_lenS (enc := eBox) d_.Boxes sl26 rfl (.f 5 rfl)) (oV vB (oV vM ?_))))))
 refine oS 132 hL11 (fun hL11 => ?_) (fun hL11 => ?_)
 refine oN (oV vM (oV vPt (o_nil ?_)))
 exact sK [0, 0, 0] [0, 1, 2, 3, 4, 5] (hN12 ok_4 hL11)
 refine oF (oV vPf (o_nil ?_))
 exact sK [0, 0, 0] [0, 1, 2, 3, 4, 5] (hN12 false hL11)
 intro t134 hL11
 unfold F.defs.Print_j12 at hL11
 refine sat_wc ?_
 refine cC hL11 (fun hL11 => ?_) (fun hL11 => ?_)
 refine c_skip (sat_wc (c_seq (c_block (ite_some hL11 fun h31 hL11 => c_elem (xs := d_.Boxes) (enc := eBox) 5 rfl h31 rfl rfl fun A24 L24 C24 => c_draw (n := 20) [1] mixed rfl rfl (dv 0 rfl vM (dv 1 rfl (vF 6) (dv 2 rfl (vL 0 ty26) (dv 3 rfl vM (dv 4 rfl (v_indexAddr_s (xs := d_.Boxes) (enc := eBox) sl26 rfl rfl (.f 7 rfl) h31) (dv 5 rfl (v_fieldAddr (v := .pointer (some ⟨blkA A5, offA A5 + (Int.toNat i4 * 2 + 0), none⟩)) rfl (fun _ => by kernel_rfl)) (dv 6 rfl (v_load_s (xs := d_.Boxes) (enc := eBox) ty9 rfl (.f 7 rfl) h31 rfl rfl rfl rfl rfl rfl rfl) (ite_some hL11 ?_))))))))))))
 intro h32 hL11
 refine dv 7 rfl (vS h32) ?_
 refine ite_some hL11 fun h33 hL11 => dv 8 rfl (vS h33) (dv 9 rfl (vF 6) (dv 10 rfl (vL 0 ty26) (dv 11 rfl vM (dv 12 rfl (v_indexAddr_s (xs := d_.Boxes) (enc := eBox) sl26 rfl rfl (.f 7 rfl) h31) (dv 13 rfl (v_fieldAddr (v := .pointer (some ⟨blkA A5, offA A5 + (Int.toNat i4 * 2 + 1), none⟩)) rfl (fun _ => by kernel_rfl)) (dv 14 rfl (v_load_cl 0 ty62 rfl rfl rfl rfl rfl) (dO 15 rfl ?_)))))))
 obtain ⟨v8, h34, hL11⟩ := bd hL11
 refine o_callSB call31 rfl (lent_f 2 rfl (lent_f 1 rfl lent_nil)) ((tri31 _) h34 :) rfl (dN [1] 0 (ite_some hL11 ?_))
 intro h35 hL11
 refine dv 16 rfl (vS h35) (ite_some hL11 ?_)
 intro h36 hL11
 refine dv 17 rfl (vS h36) (dO 18 rfl ?_)
 obtain ⟨v9, h37, hL11⟩ := bd hL11
 refine o_call [0, 1] call26 (cap := #[pt b1]) rfl rfl rfl sub_nil (by exact (tri26 h37 :)) rfl ?_
 rintro _ _ _ ⟨A25, L25, C25, rfl, rfl, rfl⟩
 refine dN [2] 0 (dv 19 rfl vA (dD (sat_wc (c_region (oV vM (oV vB (oV vA (o_nil ?_))))))))
 intro a w hs
 exact ⟨j, Nat.lt_succ_self j, v9.1, IntKind.wrap .i64 (i4 + 1), v9.2.addr, v9.2.buf, A25, L25, C25, hL11, st_le [0, 1, 0] (lea rfl) rfl (subs [2, 3, 4, 5, 6, 7] rfl) a w hs⟩
 refine c_exit0 ?_
 cases hL11
 exact sK [0, 0, 0] [0, 1, 2, 3, 4, 5] (hN11 A22 L22 C22)
 intro A23 L23 C23
 refine sat_wc (c_seq (c_seq (c_region (oV vM (oV vN (o_seq ?_))))))
 refine cC hF (fun hF => ?_) (fun hF => ?_)
 refine c_seq (c_region (oV vA (oV vA (o_seq (c_ret ?_)))))
 cases hF
 refine s_ret2 rfl (r_tmp rfl) (r_tmp rfl) fun a w hs => fin_sel hs [] ⟨rfl, rfl, rfl⟩ rfl sub_nil
 refine c_skip (sat_wc (c_seq (c_region ?_)))
 obtain ⟨v10, h40, hF⟩ := bd hF
 refine ocl [0, 1] call32 rfl rfl sub_nil (tri32 (Strings_Builder.mk o11.2.1 o11.2.2) b1 A23 L23 C23 v10 h40) ?_
 rintro _ _ _ ⟨rfl, rfl, rfl⟩
 refine oV vA (oV vA (o_seq (c_ret ?_)))
 cases hF
 refine s_ret2 rfl (r_tmp rfl) (r_tmp rfl) fun a w hs => fin_sel hs [] ⟨rfl, rfl, rfl⟩ rfl sub_nil
theorem tri11 {k : Nat} {r : Bool} (hF : F.law03.alive k = some r) :
    Tri Tryz.prog 11 [] [] [gf10 1] (oR (bV r)) := by
 unfold F.law03.alive at hF
 refine tri_intro (n := 42) Tryz.func11 rfl Tryz.ntmps11 rfl fun w X => c_seq (c_region (oV vA (o_seq (c_seq (c_region ?_)))))
 obtain ⟨v, h1, hF⟩ := bd hF
 refine o_call0 call16 rfl sub_nil (tri16 h1 :) rfl ?_
 rintro _ _ _ ⟨A1, L1, C1, A2, L2, C2, A3, L3, C3, A4, L4, C4, A5, L5, C5, rfl, rfl, rfl⟩
 refine oV vM (oV vX (oV vX (o_alloc zero28 rfl rfl ?_)))
 intro b
 refine o_alloc zero37 rfl rfl fun b1 => (sT 1 ty28) ((sT 0 ty37) (o_seq (c_seq (c_region (oV (vL 1 ty28) ?_)))))
 obtain ⟨v1, h2, hF⟩ := bd hF
 refine o_callSB call13 rfl (lent_f 5 rfl (lent_f 0 rfl (lent_f 1 rfl (lent_f 2 rfl (lent_f 3 rfl (lent_f 4 rfl lent_nil)))))) (tri13 h2 :) rfl (oV vM (oV vX (oV vX (oV vA (oV vA (o_seq (c_seq (c_region ?_))))))))
 obtain ⟨v2, h3, hF⟩ := bd hF
 refine o_call0 call16 rfl sub_nil (tri16 h3 :) rfl ?_
 rintro _ _ _ ⟨A6, L6, C6, A7, L7, C7, A8, L8, C8, A9, L9, C9, A10, L10, C10, rfl, rfl, rfl⟩
 refine oV vM (oV vX (oV vX (o_alloc zero28 rfl rfl ?_)))
 intro b2
 refine o_alloc zero37 rfl rfl fun b3 => (sT 1 ty28) ((sT 0 ty37) (o_seq (c_seq ?_)))
 refine c_cut (fun E N' => ∀ (t0 : Bool), F.law03.alive_j1 t0 = some r → Sat E [(0, bV t0), (1, pt b), (2, pt b1), (6, pt b3)] [.box b3 37 [iI v2.2.At, iI v2.2.Code], .box b1 37 [iI v.2.At, iI v.2.Code], .box b 28 (vDef v.1 A1 L1 C1 A2 L2 C2 A3 L3 C3 A4 L4 C4 A5 L5 C5)] [gf10 1, fS A1 L1 C1 5 eProd v.1.Prods, fS A2 L2 C2 1 (eSl 2 eGroup) v.1.Chains, fS A3 L3 C3 5 eFollow v.1.Follows, fS A4 L4 C4 2 eReject v.1.Rejects, fS A5 L5 C5 2 eBox v.1.Boxes] N') (fun N1 hN1 => ?_) ?_
 refine c_region (oV (vL 2 ty37) (oV (vU (.agg #[iI 0, iI 0])) (oV (v_ageq 2 rfl rfl (eq37 v.2.At v.2.Code 0 0) rfl guard37) (oV vM ?_))))
 refine oS 23 hF (fun hF => ?_) (fun hF => ?_)
 refine oN ((fD 2) (oN (oV (vL 3 ty22) (oN (oV (v_lenS (enc := eProd) v.1.Prods sl22 rfl (.f 5 rfl)) (oN (oV vB (oV vPt (oV vM ?_)))))))))
 refine oS 29 hF (fun hF => ?_) (fun hF => ?_)
 refine oN (oV vM (oN (oV vB (oV vPt (oV vM ?_)))))
 refine oS 33 hF (fun hF => ?_) (fun hF => ?_)
 refine oN (oV vM (oN (oV (v_streq rfl rfl) (oV vPt (oV vM ?_)))))
 refine oS 37 hF (fun hF => ?_) (fun hF => ?_)
 refine oN (oV (vL 0 ty37) (oN (oV (vU (.agg #[iI 8, iI 30])) (oN (oV (v_ageq 2 rfl rfl (eq37 v2.2.At v2.2.Code 8 30) rfl guard37) (oV vPt (oV vA (o_nil ?_))))))))
 exact sK [0, 1, 1] [10, 5, 6, 7, 8, 9] (hN1 ((v2.2.At == 8) && ((v2.2.Code == 30) && true)) hF)
 refine oF (oF (oF (oV vPf (oV vA (o_nil ?_)))))
 exact sK [0, 1, 1] [10, 5, 6, 7, 8, 9] (hN1 false hF)
 refine oF (oF (oV vPf (oV vM (oF (oF (oF (oV vPf (oV vA (o_nil ?_)))))))))
 exact sK [0, 1, 1] [10, 5, 6, 7, 8, 9] (hN1 false hF)
 refine oF (oF (oV vPf (oV vM (oF (oF (oV vPf (oV vM (oF (oF (oF (oV vPf (oV vA (o_nil ?_)))))))))))))
 exact sK [0, 1, 1] [10, 5, 6, 7, 8, 9] (hN1 false hF)
 refine oF (oF (oF (oF (oV vPf (oV vM (oF (oF (oV vPf (oV vM (oF (oF (oV vPf (oV vM (oF (oF ?_)))))))))))))))
 refine oF (oV vPf (oV vA (o_nil ?_)))
 exact sK [0, 1, 1] [10, 5, 6, 7, 8, 9] (hN1 false hF)
 intro t0 hF
 unfold F.law03.alive_j1 at hF
 refine sat_wc (c_ret ?_)
 cases hF
 exact sR
theorem tri127 {c : Int} {r : Int} (hF : F.ref02.class_ c = some r) :
    Tri Tryz.prog 127 [iB c] [] [] (oR (iI r)) := by
 unfold F.ref02.class_ at hF
 refine tri_intro (n := 24) Tryz.func127 rfl Tryz.ntmps127 rfl fun w X => c_seq (c_region (oV vA (o_seq (c_seq ?_))))
 refine c_cut (fun E N' => F.ref02.class__j1 = some r → Sat E [(2, iI 0)] [] [] N') (fun N1 hN1 => ?_) ?_
 refine c_block (c_seq ?_)
 refine c_cut (fun E N' => ∀ (t3 : Bool), F.ref02.class__j2 c t3 = some r → Sat E [(0, iB c), (2, iI 0), (3, bV t3)] [] [] N') (fun N5 hN5 => ?_) ?_
 refine c_region (oV vM (oV vB (oV vM ?_)))
 refine oS 6 hF (fun hF => ?_) (fun hF => ?_)
 refine oN (oV vM (oN (oV vB (oV vPt (oV vA (o_nil ?_))))))
 exact sK [] [] (hN5 (decide (c ≤ 90)) hF)
 refine oF (oF (oV vPf (oV vA (o_nil ?_))))
 exact sK [] [] (hN5 false hF)
 intro t3 hF
 unfold F.ref02.class__j2 at hF
 refine sat_wc ?_
 refine c_cut (fun E N' => F.ref02.class__j3 = some r → Sat E [(0, iB c), (2, iI 0)] [] [] N') (fun N3 hN3 => ?_) ?_
 refine cC hF (fun hF => ?_) (fun hF => ?_)
 refine c_seq (c_region (oV vA (o_seq (c_ret ?_))))
 cases hF
 exact sR
 refine c_seq ?_
 refine c_cut (fun E N' => ∀ (t10 : Bool), F.ref02.class__j4 c t10 = some r → Sat E [(0, iB c), (2, iI 0), (10, bV t10)] [] [] N') (fun N5 hN5 => ?_) ?_
 refine c_region (oV vM (oV vB (oV vM ?_)))
 refine oS 13 hF (fun hF => ?_) (fun hF => ?_)
 refine oN (oV vM (oN (oV vB (oV vPt (oV vA (o_nil ?_))))))
 exact sK [] [] (hN5 (decide (c ≤ 122)) hF)
 refine oF (oF (oV vPf (oV vA (o_nil ?_))))
 exact sK [] [] (hN5 false hF)
 intro t10 hF
 unfold F.ref02.class__j4 at hF
 refine sat_wc ?_
 refine cC hF (fun hF => ?_) (fun hF => ?_)
 refine c_seq (c_region (oV vA (o_seq (c_ret ?_))))
 cases hF
 exact sR
 refine c_seq ?_
 refine c_cut (fun E N' => ∀ (t17 : Bool), F.ref02.class__j5 t17 = some r → Sat E [(0, iB c), (2, iI 0), (17, bV t17)] [] [] N') (fun N5 hN5 => ?_) ?_
 refine c_region (oV vM (oV vB (oV vM ?_)))
 refine oS 20 hF (fun hF => ?_) (fun hF => ?_)
 refine oN (oV vM (oN (oV vB (oV vPt (oV vA (o_nil ?_))))))
 exact sK [] [] (hN5 (decide (c ≤ 57)) hF)
 refine oF (oF (oV vPf (oV vA (o_nil ?_))))
 exact sK [] [] (hN5 false hF)
 intro t17 hF
 unfold F.ref02.class__j5 at hF
 refine sat_wc ?_
 refine cC hF (fun hF => ?_) (fun hF => ?_)
 refine c_seq (c_region (oV vA (o_seq (c_ret ?_))))
 cases hF
 exact sR
 refine c_skip ?_
 exact sK [] [] (hN3 hF)
 intro hF
 unfold F.ref02.class__j3 at hF
 exact sK [] [] (hN1 hF)
 intro hF
 unfold F.ref02.class__j1 at hF
 refine sat_wc (c_seq (c_region (oV vA (o_seq (c_ret ?_)))))
 cases hF
 exact sR
theorem tri128 {k : Nat} {s : Tx} {at__ : Int} {r : Int} (hF : F.ref02.Far k s at__ = some r) :
    Tri Tryz.prog 128 [sV s, iI at__] [] [] (oR (iI r)) := by
 unfold F.ref02.Far at hF
 refine tri_intro (n := 19) Tryz.func128 rfl Tryz.ntmps128 rfl fun w X => c_seq (c_region (oV vA (o_seq (c_seq ?_))))
 obtain ⟨o1, ho1, hF⟩ := bd hF
 refine c_cut (fun E N' => Sat E [(1, iI o1), (4, iI 0)] [] [] N') (fun N1 hN1 => ?_) ?_
 refine c_block ?_
 refine c_loopE (fun E j a w => ∃ (at__1 : Int), F.ref02.Far_l1 s j at__1 = some o1 ∧ St E [(0, sV s), (1, iI at__1), (4, iI 0)] [] [] a w) k ?_ ?_
 intro a w hs
 exact ⟨at__, ho1, st_le [] (lea rfl) rfl sub_nil a w hs⟩
 rintro j a w ⟨at__1, hL1, hs⟩
 rcases j with _ | j
 cases hL1
 refine wc_app hs ?_
 unfold F.ref02.Far_l1 at hL1
 refine c_seq (c_seq ?_)
 refine c_cut (fun E N' => ∀ (t15 : Bool), F.ref02.Far_j2 (F.ref02.Far_l1 s j) at__1 t15 = some o1 → Sat E [(0, sV s), (1, iI at__1), (4, iI 0), (15, bV t15)] [] [] N') (fun N2 hN2 => ?_) ?_
 refine c_region (oV vM (oV vM (oV (v_len_str Tryz.underlying9 rfl) (oV vB (oV vM ?_)))))
 refine oS 9 hL1 (fun hL1 => ?_) (fun hL1 => ?_)
 refine oN (oV vM (oN (oV vM (oN (ite_some hL1 ?_)))))
 intro h3 hL1
 refine oV (v_sindex Tryz.underlying9 rfl rfl h3) (oN ?_)
 obtain ⟨v, h4, hL1⟩ := bd hL1
 refine o_callSB call127 rfl lent_nil (tri127 h4 :) rfl (oN (oV vB (oV vPt (o_nil ?_))))
 exact sK [] [] (hN2 (decide (0 < v)) hL1)
 refine oF (oF (oF (oF (oF (oV vPf (o_nil ?_))))))
 exact sK [] [] (hN2 false hL1)
 intro t15 hL1
 unfold F.ref02.Far_j2 at hL1
 refine sat_wc ?_
 refine cC hL1 (fun hL1 => ?_) (fun hL1 => ?_)
 refine c_skip (sat_wc (c_block (c_region (oV vM (oV vB (oV vA (o_nil ?_)))))))
 intro a w hs
 exact ⟨j, Nat.lt_succ_self j, IntKind.wrap .i64 (at__1 + 1), hL1, st_le [] (lea rfl) rfl sub_nil a w hs⟩
 refine c_exit0 ?_
 cases hL1
 exact sK [] [] (hN1)
 refine sat_wc (c_seq (c_region (oV vM (oV vA (o_seq (c_ret ?_))))))
 cases hF
 exact sR
theorem tri103 {k : Nat} {s : Tx} {r : Bool} (hF : F.ref02.IsName k s = some r) :
    Tri Tryz.prog 103 [sV s] [] [] (oR (bV r)) := by
 unfold F.ref02.IsName at hF
 refine tri_intro (n := 24) Tryz.func103 rfl Tryz.ntmps103 rfl fun w X => c_seq (c_region (oV vA (o_seq (c_seq ?_))))
 refine c_cut (fun E N' => ∀ (t2 : Bool), F.ref02.IsName_j1 t2 = some r → Sat E [(2, bV t2)] [] [] N') (fun N1 hN1 => ?_) ?_
 refine c_region (oV vM (oV (v_len_str Tryz.underlying9 rfl) (oV vB (oV vM ?_))))
 refine oS 6 hF (fun hF => ?_) (fun hF => ?_)
 refine oN (oV vM (oN (oV (v_len_str Tryz.underlying9 rfl) (oN (oV vB (oV vPt (oV vM ?_)))))))
 refine oS 11 hF (fun hF => ?_) (fun hF => ?_)
 refine oN (oV vM (oN (ite_some hF ?_)))
 intro h3 hF
 refine oV (v_sindex Tryz.underlying9 rfl rfl h3) (oN ?_)
 obtain ⟨v, h4, hF⟩ := bd hF
 refine o_callSB call127 rfl lent_nil (tri127 h4 :) rfl (oN (oV vB (oV vPt (oV vM ?_))))
 refine oS 17 hF (fun hF => ?_) (fun hF => ?_)
 refine oN (oV vM (oN ?_))
 obtain ⟨v1, h6, hF⟩ := bd hF
 refine o_callSB call128 rfl lent_nil (tri128 h6 :) rfl (oN (oV vM (oN (oV (v_len_str Tryz.underlying9 rfl) (oN (oV vB (oV vPt (oV vA (o_nil ?_)))))))))
 exact sK [] [] (hN1 (v1 == (s.length : Int)) hF)
 refine oF (oF (oF (oF (oF (oV vPf (oV vA (o_nil ?_)))))))
 exact sK [] [] (hN1 false hF)
 refine oF (oF (oF (oF (oV vPf (oV vM (oF (oF (oF (oF (oF (oV vPf (oV vA (o_nil ?_)))))))))))))
 exact sK [] [] (hN1 false hF)
 refine oF (oF (oF (oV vPf (oV vM (oF (oF (oF (oF (oV vPf (oV vM (oF (oF (oF (oF (oF ?_)))))))))))))))
 refine oV vPf (oV vA (o_nil ?_))
 exact sK [] [] (hN1 false hF)
 intro t2 hF
 unfold F.ref02.IsName_j1 at hF
 refine sat_wc (c_ret ?_)
 cases hF
 exact sR
theorem tri51 {k : Nat} {s : Tx} {empty : Bool} {r : Bool} (hF : F.ref03.name k s empty = some r) :
    Tri Tryz.prog 51 [sV s, bV empty] [] [] (oR (bV r)) := by
 unfold F.ref03.name at hF
 refine tri_intro (n := 14) Tryz.func51 rfl Tryz.ntmps51 rfl fun w X => c_seq (c_region (oV vA (o_seq (c_seq (c_region (oV vM (oV vM ?_)))))))
 refine oS 6 hF (fun hF => ?_) (fun hF => ?_)
 refine oN (oV vM (oN (oV (v_streq rfl rfl) (oV vPt (oV vM ?_)))))
 refine oS 10 hF (fun hF => ?_) (fun hF => ?_)
 refine oF (oF (oV vPt (oV vA (o_seq (c_ret ?_)))))
 cases hF
 exact sR
 refine oN (oV vM (oN ?_))
 obtain ⟨v, h3, hF⟩ := bd hF
 refine o_callSB call103 rfl lent_nil (tri103 h3 :) rfl (oV vPf (oV vA (o_seq (c_ret ?_))))
 cases hF
 exact sR
 refine oF (oF (oV vPf (oV vM (oN (oV vM (oN ?_))))))
 obtain ⟨v1, h4, hF⟩ := bd hF
 refine o_callSB call103 rfl lent_nil (tri103 h4 :) rfl (oV vPf (oV vA (o_seq (c_ret ?_))))
 cases hF
 exact sR
theorem tri104 {k : Nat} {s : Sym} {r : Bool} (hF : F.ref03.RightSym k s = some r) :
    Tri Tryz.prog 104 [.agg (vSym s).toArray] [] [] (oR (bV r)) := by
 unfold F.ref03.RightSym at hF
 refine tri_intro (n := 66) Tryz.func104 rfl Tryz.ntmps104 rfl fun w X => c_seq (c_region (o_box rfl rfl rfl fun b => oV vA (o_seq (c_seq (c_region ((fD 0) (oV (vL 0 ty3) (oV (vU (.agg #[iI s.Kind, sV ([] : Tx), iU 0, iU 0, iU 0, iU 0, sV ([] : Tx), sV ([] : Tx)])) (o_alloc zero114 rfl rfl ?_)))))))))
 intro b1
 refine (sT 0 ty114) (o_seq (c_seq (c_seq ?_)))
 refine c_region ((fD 0) (oV (vL 1 ty3) (o_seq ?_)))
 refine c_cut (fun E N' => ∀ (Text_ : Tx) (Set_ : S4) (Name_ : Tx) (Sep_ : Tx), F.ref03.RightSym_j1 k s Text_ Set_ Name_ Sep_ = some r → Sat E [(0, .agg (vSym s).toArray), (1, pt b), (2, bV false), (3, pt b1)] [.box b1 114 [iI s.Kind, sV Text_, iU Set_.w0, iU Set_.w1, iU Set_.w2, iU Set_.w3, sV Name_, sV Sep_], .box b 114 (vSym s)] [] N') (fun N2 hN2 => ?_) ?_
 refine c_block (c_seq (c_region (oV vB (oV vA (o_seq ?_)))))
 refine c_cut (fun E N' => ∀ (Text_1 : Tx) (Set_1 : S4) (Name_1 : Tx) (Sep_1 : Tx), F.ref03.RightSym_j3 k s Text_1 Set_1 Name_1 Sep_1 = some r → Sat E [(0, .agg (vSym s).toArray), (1, pt b), (2, bV false), (3, pt b1), (8, iI s.Kind)] [.box b1 114 [iI s.Kind, sV Text_1, iU Set_1.w0, iU Set_1.w1, iU Set_1.w2, iU Set_1.w3, sV Name_1, sV Sep_1], .box b 114 (vSym s)] [] N') (fun N3 hN3 => ?_) ?_
 refine cC hF (fun hF => ?_) (fun hF => ?_)
 refine c_region ((fD 1) (oV (vL 1 ty9) ((fD 1) ((sT 0 ty9) (o_nil ?_)))))
 exact sK [0, 0] [] (hN3 s.Text (S4.mk 0 0 0 0) ([] : Tx) ([] : Tx) hF)
 refine c_seq (c_region (oV vB (oV vA (o_seq ?_))))
 refine cC hF (fun hF => ?_) (fun hF => ?_)
 refine c_region ((fD 2) (oV (vL 1 ty44) ((fD 2) ((sT 0 ty44) (o_nil ?_)))))
 exact sK [0, 0] [] (hN3 ([] : Tx) s.Set ([] : Tx) ([] : Tx) hF)
 refine c_seq (c_region (oV vB (oV vA (o_seq ?_))))
 refine c_cut (fun E N' => ∀ (Set_2 : S4) (Sep_2 : Tx), F.ref03.RightSym_j4 k s Set_2 Sep_2 = some r → Sat E [(0, .agg (vSym s).toArray), (1, pt b), (2, bV false), (3, pt b1), (8, iI s.Kind)] [.box b1 114 [iI s.Kind, sV ([] : Tx), iU Set_2.w0, iU Set_2.w1, iU Set_2.w2, iU Set_2.w3, sV s.Name, sV Sep_2], .box b 114 (vSym s)] [] N') (fun N4 hN4 => ?_) ?_
 refine cC hF (fun hF => ?_) (fun hF => ?_)
 refine c_region ((fD 6) (oV (vL 1 ty9) ((fD 6) ((sT 0 ty9) (o_nil ?_)))))
 exact sK [0, 0] [] (hN4 (S4.mk 0 0 0 0) ([] : Tx) hF)
 refine c_seq (c_seq (c_region (oV vB (oV vA (o_seq ?_)))))
 refine c_cut (fun E N' => ∀ (t24 : Bool), F.ref03.RightSym_j5 k s t24 = some r → Sat E [(0, .agg (vSym s).toArray), (1, pt b), (2, bV false), (3, pt b1), (8, iI s.Kind), (24, bV t24)] [.box b1 114 [iI s.Kind, sV ([] : Tx), iU 0, iU 0, iU 0, iU 0, sV ([] : Tx), sV ([] : Tx)], .box b 114 (vSym s)] [] N') (fun N6 hN6 => ?_) ?_
 refine cC hF (fun hF => ?_) (fun hF => ?_)
 refine c_skip ?_
 exact sK [0, 0] [] (hN6 (s.Kind == 4) hF)
 refine c_seq (c_region (oV vB (oV vA (o_seq ?_))))
 refine cC hF (fun hF => ?_) (fun hF => ?_)
 refine c_skip ?_
 exact sK [0, 0] [] (hN6 (s.Kind == 5) hF)
 refine c_region (oV vB (oV vA (o_nil ?_)))
 exact sK [0, 0] [] (hN6 (s.Kind == 6) hF)
 intro t24 hF
 unfold F.ref03.RightSym_j5 at hF
 refine sat_wc ?_
 refine cC hF (fun hF => ?_) (fun hF => ?_)
 refine c_seq (c_region ((fD 6) (oV (vL 1 ty9) ((fD 6) ((sT 0 ty9) (o_seq (c_seq (c_region ((fD 6) (oV (vL 1 ty9) (oV (v_streq rfl rfl) (o_seq ?_))))))))))))
 refine c_cut (fun E N' => ∀ (Set_3 : S4) (Sep_3 : Tx), F.ref03.RightSym_j6 k s Set_3 Sep_3 = some r → Sat E [(0, .agg (vSym s).toArray), (1, pt b), (2, bV false), (3, pt b1), (8, iI s.Kind), (24, bV t24)] [.box b1 114 [iI s.Kind, sV ([] : Tx), iU Set_3.w0, iU Set_3.w1, iU Set_3.w2, iU Set_3.w3, sV s.Name, sV Sep_3], .box b 114 (vSym s)] [] N') (fun N6 hN6 => ?_) ?_
 refine cC hF (fun hF => ?_) (fun hF => ?_)
 refine c_region ((fD 2) (oV (vL 1 ty44) ((fD 2) ((sT 0 ty44) (o_nil ?_)))))
 exact sK [0, 0] [] (hN6 s.Set ([] : Tx) hF)
 refine c_seq (c_region ((fD 0) (oV (vL 1 ty3) (oV vB (o_seq ?_)))))
 refine cC hF (fun hF => ?_) (fun hF => ?_)
 refine c_region ((fD 7) (oV (vL 1 ty9) ((fD 7) ((sT 0 ty9) (o_nil ?_)))))
 exact sK [0, 0] [] (hN6 (S4.mk 0 0 0 0) s.Sep hF)
 refine c_skip ?_
 exact sK [0, 0] [] (hN6 (S4.mk 0 0 0 0) ([] : Tx) hF)
 intro Set_3 Sep_3 hF
 unfold F.ref03.RightSym_j6 at hF
 exact sK [0, 0] [] (hN4 Set_3 Sep_3 hF)
 refine c_seq (c_region (oV vA (o_seq (c_ret ?_))))
 cases hF
 exact sR
 intro Set_2 Sep_2 hF
 unfold F.ref03.RightSym_j4 at hF
 exact sK [0, 0] [] (hN3 ([] : Tx) Set_2 s.Name Sep_2 hF)
 intro Text_1 Set_1 Name_1 Sep_1 hF
 unfold F.ref03.RightSym_j3 at hF
 exact sK [0, 0] [] (hN2 Text_1 Set_1 Name_1 Sep_1 hF)
 intro Text_ Set_ Name_ Sep_ hF
 unfold F.ref03.RightSym_j1 at hF
 refine sat_wc (c_seq ?_)
 refine c_cut (fun E N' => ∀ (t2 : Bool), F.ref03.RightSym_j2 t2 = some r → Sat E [(0, .agg (vSym s).toArray), (1, pt b), (2, bV t2), (3, pt b1)] [.box b1 114 [iI s.Kind, sV Text_, iU Set_.w0, iU Set_.w1, iU Set_.w2, iU Set_.w3, sV Name_, sV Sep_], .box b 114 (vSym s)] [] N') (fun N2 hN2 => ?_) ?_
 refine c_region (oV (vL 1 ty114) (oV (vL 0 ty114) (oV (v_ageq 3 rfl rfl (eq114 s.Kind s.Text s.Set.w0 s.Set.w1 s.Set.w2 s.Set.w3 s.Name s.Sep s.Kind Text_ Set_.w0 Set_.w1 Set_.w2 Set_.w3 Name_ Sep_) rfl guard114) (oV vM ?_))))
 refine oS 46 hF (fun hF => ?_) (fun hF => ?_)
 refine oN ((fD 1) (oN (oV (vL 1 ty9) (oN (oV (v_len_str Tryz.underlying9 rfl) (oN (oV vB (oV vPt (oV vM ?_)))))))))
 refine oS 52 hF (fun hF => ?_) (fun hF => ?_)
 refine oN ((fD 7) (oN (oV (vL 1 ty9) (oN (oV (v_len_str Tryz.underlying9 rfl) (oN (oV vB (oV vPt (oV vM ?_)))))))))
 refine oS 58 hF (fun hF => ?_) (fun hF => ?_)
 refine oN ((fD 6) (oN (oV (vL 1 ty9) (oN ((fD 0) (oN (oV (vL 1 ty3) (oN (oV vB (oN ?_))))))))))
 obtain ⟨v, h4, hF⟩ := bd hF
 refine o_callSB call51 rfl lent_nil (tri51 h4 :) rfl (oV vPt (oV vA (o_nil ?_)))
 exact sK [0, 0] [] (hN2 v hF)
 refine oF (oF (oF (oF (oF (oF (oV vPf (oV vA (o_nil ?_))))))))
 exact sK [0, 0] [] (hN2 false hF)
 refine oF (oF (oF (oF (oV vPf (oV vM (oF (oF (oF (oF (oF (oF (oV vPf (oV vA (o_nil ?_))))))))))))))
 exact sK [0, 0] [] (hN2 false hF)
 refine oF (oF (oF (oF (oV vPf (oV vM (oF (oF (oF (oF (oV vPf (oV vM (oF (oF (oF (oF ?_)))))))))))))))
 refine oF (oF (oV vPf (oV vA (o_nil ?_))))
 exact sK [0, 0] [] (hN2 false hF)
 intro t2 hF
 unfold F.ref03.RightSym_j2 at hF
 refine sat_wc (c_ret ?_)
 cases hF
 exact sR
theorem tri52 {k : Nat} {p : Prod} {A1 : OA} {L1 C1 : Nat} {r : Bool} (hF : F.ref03.rightProd k p = some r) :
    Tri Tryz.prog 52 [.agg (vProd p A1 L1 C1).toArray] [] [fS A1 L1 C1 8 eSym p.Syms] (oR (bV r)) := by
 unfold F.ref03.rightProd at hF
 refine tri_intro (n := 70) Tryz.func52 rfl Tryz.ntmps52 rfl fun w X => c_seq (c_region (o_box rfl rfl rfl fun b => oV vA (o_seq (c_seq (c_seq ?_)))))
 refine c_cut (fun E N' => ∀ (t25 : Bool), F.ref03.rightProd_j1 k p t25 = some r → Sat E [(0, .agg (vProd p A1 L1 C1).toArray), (1, pt b), (2, bV false), (25, bV t25)] [.box b 57 (vProd p A1 L1 C1)] [fS A1 L1 C1 8 eSym p.Syms] N') (fun N3 hN3 => ?_) ?_
 refine c_region ((fD 1) (oV (vL 0 ty9) ?_))
 obtain ⟨v1, h18, hF⟩ := bd hF
 refine o_callSB call51 rfl lent_nil (tri51 h18 :) rfl (oV vN (oV vM ?_))
 refine oS 8 hF (fun hF => ?_) (fun hF => ?_)
 refine oF (oF (oF (oF (oV vPt (oV vM (oF (oF (oF (oF (oV vPt (oV vM (oF (oF (oF (oF ?_)))))))))))))))
 refine oV vPt (o_nil ?_)
 exact sK [0] [0] (hN3 true hF)
 refine oN ((fD 2) (oN (oV (vL 0 ty9) (oN ?_))))
 obtain ⟨v2, h20, hF⟩ := bd hF
 refine o_callSB call51 rfl lent_nil (tri51 h20 :) rfl (oN (oV vN (oV vPf (oV vM ?_))))
 refine oS 14 hF (fun hF => ?_) (fun hF => ?_)
 refine oF (oF (oF (oF (oV vPt (oV vM (oF (oF (oF (oF (oV vPt (o_nil ?_)))))))))))
 exact sK [0] [0] (hN3 true hF)
 refine oN ((fD 4) (oN (oV (vL 0 ty55) (oN (oV (v_lenS (enc := eSym) p.Syms sl55 rfl (.f 0 rfl)) (oN (oV vB (oV vPf (oV vM ?_)))))))))
 refine oS 20 hF (fun hF => ?_) (fun hF => ?_)
 refine oF (oF (oF (oF (oV vPt (o_nil ?_)))))
 exact sK [0] [0] (hN3 true hF)
 refine oN ((fD 4) (oN (oV (vL 0 ty55) (oN (oV (v_lenS (enc := eSym) p.Syms sl55 rfl (.f 0 rfl)) (oN (oV vB (oV vPf (o_nil ?_)))))))))
 exact sK [0] [0] (hN3 (decide (12 < (p.Syms.length : Int))) hF)
 intro t25 hF
 unfold F.ref03.rightProd_j1 at hF
 refine sat_wc ?_
 refine cC hF (fun hF => ?_) (fun hF => ?_)
 refine c_seq (c_region (oV vA (o_seq (c_ret ?_))))
 cases hF
 exact sR
 refine c_skip (sat_wc (c_seq (c_seq ?_)))
 refine c_cut (fun E N' => ∀ (t55 : Bool), F.ref03.rightProd_j2 k p t55 = some r → Sat E [(0, .agg (vProd p A1 L1 C1).toArray), (1, pt b), (2, bV false), (55, bV t55)] [.box b 57 (vProd p A1 L1 C1)] [fS A1 L1 C1 8 eSym p.Syms] N') (fun N3 hN3 => ?_) ?_
 refine c_region ((fD 0) (oV (vL 0 ty4) (oV vM ?_)))
 refine oS 28 hF (fun hF => ?_) (fun hF => ?_)
 refine oN ((fD 3) (oN (oV (vL 0 ty4) (oV vPt (oV vM ?_)))))
 refine o_split (t := 32) rfl (fun h8 => ?_) (fun h8 => ?_)
 replace hF := ite_t h8 hF
 refine oF (oF (oF (oF (oU (oU (oU (oF (oF (oU (oU (oU (oF (oV vPt (oV vM (oF ?_)))))))))))))))
 refine oF (oF (oU (oU (oU (oF (oV vPt (o_nil ?_)))))))
 exact sK [0] [0] (hN3 true hF)
 replace hF := ite_f h8 hF
 refine oN ((fD 0) (oN (oV (vL 0 ty4) (oN (oV vN (oN (oV vM ?_)))))))
 refine oS 36 hF (fun hF => ?_) (fun hF => ?_)
 refine oN ((fD 3) (oN (oV (vL 0 ty4) (oN (oV vN (oN (oV vPt (oN (oV vM ?_)))))))))
 refine oS 41 hF (fun hF => ?_) (fun hF => ?_)
 refine oN ((fD 2) (oN (oV (vL 0 ty9) (oN (oV (v_streq rfl rfl) (oN (oV vPt (oV vPf (oV vM ?_)))))))))
 refine oS 47 hF (fun hF => ?_) (fun hF => ?_)
 refine oF (oF (oF (oU (oU (oU (oF (oV vPt (o_nil ?_))))))))
 exact sK [0] [0] (hN3 true hF)
 refine oN ((fD 3) (oN (oV (vL 0 ty4) (oN (oV vM (o_know (t := 50) rfl h8 (oF (oF (oF (oN (oV vPf (oV vPf (o_nil ?_)))))))))))))
 exact sK [0] [0] (hN3 false hF)
 refine oF (oF (oF (oN (oV vPf (oV vPf (oV vM (oN ((fD 3) (oN (oV (vL 0 ty4) (oN (oV vM (o_know (t := 50) rfl h8 (oF (oF ?_)))))))))))))))
 refine oF (oN (oV vPf (oV vPf (o_nil ?_))))
 exact sK [0] [0] (hN3 false hF)
 refine oF (oF (oF (oN (oV vPf (oN (oV vM (oF (oF (oF (oN (oV vPf (oV vPf (oV vM (oN ((fD 3) ?_)))))))))))))))
 refine oN (oV (vL 0 ty4) (oN (oV vM (o_know (t := 50) rfl h8 (oF (oF (oF (oN (oV vPf (oV vPf (o_nil ?_)))))))))))
 exact sK [0] [0] (hN3 false hF)
 refine oF (oF (oV vPf (oV vM (oN ((fD 0) (oN (oV (vL 0 ty4) (oN (oV vN (oN (oV vM ?_)))))))))))
 refine oS 36 hF (fun hF => ?_) (fun hF => ?_)
 refine oN ((fD 3) (oN (oV (vL 0 ty4) (oN (oV vN (oN (oV vPt (oN (oV vM ?_)))))))))
 refine oS 41 hF (fun hF => ?_) (fun hF => ?_)
 refine oN ((fD 2) (oN (oV (vL 0 ty9) (oN (oV (v_streq rfl rfl) (oN (oV vPt (oV vPf (oV vM ?_)))))))))
 refine oS 47 hF (fun hF => ?_) (fun hF => ?_)
 refine oF (oF (oF (oU (oU (oU (oF (oV vPt (o_nil ?_))))))))
 exact sK [0] [0] (hN3 true hF)
 refine oN ((fD 3) (oN (oV (vL 0 ty4) (oN (oV vM ?_)))))
 refine oS 50 hF (fun hF => ?_) (fun hF => ?_)
 refine oN ((fD 2) (oN (oV (vL 0 ty9) (oN (oV (v_strne rfl rfl) (oN (oV vPt (oV vPf (o_nil ?_)))))))))
 exact sK [0] [0] (hN3 (!(p.Cons == ([] : Tx))) hF)
 refine oF (oF (oF (oN (oV vPf (oV vPf (o_nil ?_))))))
 exact sK [0] [0] (hN3 false hF)
 refine oF (oF (oF (oN (oV vPf (oV vPf (oV vM (oN ((fD 3) (oN (oV (vL 0 ty4) (oN (oV vM ?_))))))))))))
 refine oS 50 hF (fun hF => ?_) (fun hF => ?_)
 refine oN ((fD 2) (oN (oV (vL 0 ty9) (oN (oV (v_strne rfl rfl) (oN (oV vPt (oV vPf (o_nil ?_)))))))))
 exact sK [0] [0] (hN3 (!(p.Cons == ([] : Tx))) hF)
 refine oF (oF (oF (oN (oV vPf (oV vPf (o_nil ?_))))))
 exact sK [0] [0] (hN3 false hF)
 refine oF (oF (oF (oN (oV vPf (oN (oV vM (oF (oF (oF (oN (oV vPf (oV vPf (oV vM (oN ((fD 3) ?_)))))))))))))))
 refine oN (oV (vL 0 ty4) (oN (oV vM ?_)))
 refine oS 50 hF (fun hF => ?_) (fun hF => ?_)
 refine oN ((fD 2) (oN (oV (vL 0 ty9) (oN (oV (v_strne rfl rfl) (oN (oV vPt (oV vPf (o_nil ?_)))))))))
 exact sK [0] [0] (hN3 (!(p.Cons == ([] : Tx))) hF)
 refine oF (oF (oF (oN (oV vPf (oV vPf (o_nil ?_))))))
 exact sK [0] [0] (hN3 false hF)
 intro t55 hF
 unfold F.ref03.rightProd_j2 at hF
 refine sat_wc ?_
 refine cC hF (fun hF => ?_) (fun hF => ?_)
 refine c_seq (c_region (oV vA (o_seq (c_ret ?_))))
 cases hF
 exact sR
 refine c_skip (sat_wc (c_seq (c_seq (c_region (oV vA (o_seq ?_))))))
 obtain ⟨o3, ho3, hF⟩ := bd hF
 refine c_cut (fun E N' => ∀ (d3 : Unit), o3 = .done d3 → Sat E [(0, .agg (vProd p A1 L1 C1).toArray), (1, pt b), (2, bV false)] [.box b 57 (vProd p A1 L1 C1)] [fS A1 L1 C1 8 eSym p.Syms] N') (fun N3 hN3 => ?_) ?_
 refine c_block ?_
 refine c_loopE (fun E j a w => ∃ (i : Int), F.ref03.rightProd_l3 k p j i = some o3 ∧ St E [(0, .agg (vProd p A1 L1 C1).toArray), (1, pt b), (2, bV false), (3, iI i)] [.box b 57 (vProd p A1 L1 C1)] [fS A1 L1 C1 8 eSym p.Syms] a w) k ?_ ?_
 intro a w hs
 exact ⟨0, ho3, st_le [0] (lea rfl) rfl (subs [0] rfl) a w hs⟩
 rintro j a w ⟨i, hL3, hs⟩
 rcases j with _ | j
 cases hL3
 refine wc_app hs ?_
 unfold F.ref03.rightProd_l3 at hL3
 refine c_seq (c_seq (c_region (oV vM ((fD 4) (oV (vL 0 ty55) (oV (v_lenS (enc := eSym) p.Syms sl55 rfl (.f 0 rfl)) (oV vB (o_seq ?_))))))))
 refine cC hL3 (fun hL3 => ?_) (fun hL3 => ?_)
 refine c_skip (sat_wc (c_seq (c_block (c_seq (c_region ((fD 4) (oV (vL 0 ty55) (oV vM (ite_some hL3 ?_)))))))))
 intro h4 hL3
 refine oV (v_indexAddr_s (xs := p.Syms) (enc := eSym) sl55 rfl rfl (.f 0 rfl) h4) (oV (v_load_s (xs := p.Syms) (enc := eSym) ty114 rfl (.f 0 rfl) h4 rfl rfl rfl rfl rfl rfl rfl) ?_)
 obtain ⟨v, h5, hL3⟩ := bd hL3
 refine o_callSB call104 rfl lent_nil (tri104 h5 :) rfl (oV vN (o_seq ?_))
 refine cC hL3 (fun hL3 => ?_) (fun hL3 => ?_)
 refine c_seq (c_region (oV vA (o_seq (c_ret ?_))))
 cases hL3
 obtain rfl := lrf_ret hF
 exact sR
 refine c_skip (sat_wc (c_region (oV vM (oV vB (oV vA (o_nil ?_))))))
 intro a w hs
 exact ⟨j, Nat.lt_succ_self j, IntKind.wrap .i64 (i + 1), hL3, st_le [0] (lea rfl) rfl (subs [0] rfl) a w hs⟩
 refine c_exit0 ?_
 cases hL3
 exact sK [0] [0] (hN3 () rfl)
 intro d3 hd
 subst hd
 replace hF := lrf_done hF
 refine sat_wc (c_seq (c_region (oV vA (o_seq (c_ret ?_)))))
 cases hF
 exact sR
theorem tri53 {k : Nat} {l__ : List Group} {A1 : OA} {L1 C1 : Nat} {r : Bool} (hF : F.ref03.rightChain k l__ = some r) :
    Tri Tryz.prog 53 [sl A1 L1 C1] [] [fS A1 L1 C1 2 eGroup l__] (oR (bV r)) := by
 unfold F.ref03.rightChain at hF
 refine tri_intro (n := 58) Tryz.func53 rfl Tryz.ntmps53 rfl fun w X => c_seq (c_region (oV vA (o_seq (c_seq (c_seq (c_region (oV vM (oV (v_lenS (enc := eGroup) l__ sl58 rfl (.f 0 rfl)) (oV vB (oV vM ?_))))))))))
 refine oS 9 hF (fun hF => ?_) (fun hF => ?_)
 refine oF (oF (oF (oV vPt (o_seq ?_))))
 refine c_cond rfl (fun _ => ?_) (fun h => Bool.noConfusion h)
 refine c_seq (c_region (oV vA (o_seq (c_ret ?_))))
 cases hF
 exact sR
 refine oN (oV vM (oN (oV (v_lenS (enc := eGroup) l__ sl58 rfl (.f 0 rfl)) (oN (oV vB (oV vPf (o_seq ?_)))))))
 refine cC hF (fun hF => ?_) (fun hF => ?_)
 refine c_seq (c_region (oV vA (o_seq (c_ret ?_))))
 cases hF
 exact sR
 refine c_skip (sat_wc (c_seq (c_seq (c_region (oV vA (o_seq ?_))))))
 obtain ⟨o1, ho1, hF⟩ := bd hF
 refine c_cut (fun E N' => ∀ (d1 : Unit), o1 = .done d1 → Sat E [(0, sl A1 L1 C1), (2, bV false)] [] [fS A1 L1 C1 2 eGroup l__] N') (fun N1 hN1 => ?_) ?_
 refine c_block ?_
 refine c_loopE (fun E j a w => ∃ (i : Int), F.ref03.rightChain_l1 k l__ j i = some o1 ∧ St E [(0, sl A1 L1 C1), (2, bV false), (3, iI i)] [] [fS A1 L1 C1 2 eGroup l__] a w) k ?_ ?_
 intro a w hs
 exact ⟨0, ho1, st_le [] (lea rfl) rfl (subs [0] rfl) a w hs⟩
 rintro j a w ⟨i, hL1, hs⟩
 rcases j with _ | j
 cases hL1
 refine wc_app hs ?_
 unfold F.ref03.rightChain_l1 at hL1
 refine c_seq (c_seq (c_region (oV vM (oV vM (oV (v_lenS (enc := eGroup) l__ sl58 rfl (.f 0 rfl)) (oV vB (o_seq ?_)))))))
 refine cC hL1 (fun hL1 => ?_) (fun hL1 => ?_)
 refine c_skip (sat_wc (c_seq (c_block (c_seq (c_region (oV vM (oV vM (ite_some hL1 ?_))))))))
 intro h4 hL1
 refine oV (v_indexAddr_s (xs := l__) (enc := eGroup) sl58 rfl rfl (.f 0 rfl) h4) (o_load_s (xs := l__) (enc := eGroup) ty61 rfl (.f 0 rfl) h4 rfl rfl rfl rfl rfl rfl ?_)
 intro A2 L2 C2
 refine o_alloc zero61 rfl rfl fun b => (sT 0 ty61) (o_seq (c_seq (c_seq ?_)))
 refine c_cut (fun E N' => ∀ (t43 : Bool), F.ref03.rightChain_j2 k l__ i (F.ref03.rightChain_l1 k l__ j) t43 = some o1 → Sat E [(0, sl A1 L1 C1), (2, bV false), (3, iI i), (4, pt b), (43, bV t43)] [.box b 61 [iI ((at_ l__ i).Assoc), sl A2 L2 C2]] [fS A1 L1 C1 2 eGroup l__, fS A2 L2 C2 1 eStr ((at_ l__ i).Cons)] N') (fun N3 hN3 => ?_) ?_
 refine c_region ((fD 0) (oV (vL 0 ty3) (oV vB (oV vM ?_))))
 refine oS 27 hL1 (fun hL1 => ?_) (fun hL1 => ?_)
 refine oF (oF (oF (oV vPt (oV vM (oF (oF (oF (oF (oV vPt (oV vM (oF (oF (oF (oF (oV vPt ?_)))))))))))))))
 refine o_nil ?_
 exact sK [0] [1, 0] (hN3 true hL1)
 refine oN ((fD 0) (oN (oV (vL 0 ty3) (oN (oV vB (oV vPf (oV vM ?_)))))))
 refine oS 32 hL1 (fun hL1 => ?_) (fun hL1 => ?_)
 refine oF (oF (oF (oF (oV vPt (oV vM (oF (oF (oF (oF (oV vPt (o_nil ?_)))))))))))
 exact sK [0] [1, 0] (hN3 true hL1)
 refine oN ((fD 1) (oN (oV (vL 0 ty59) (oN (oV (v_lenS (enc := eStr) ((at_ l__ i).Cons) sl59 rfl (.f 0 rfl)) (oN (oV vB (oV vPf (oV vM ?_)))))))))
 refine oS 38 hL1 (fun hL1 => ?_) (fun hL1 => ?_)
 refine oF (oF (oF (oF (oV vPt (o_nil ?_)))))
 exact sK [0] [1, 0] (hN3 true hL1)
 refine oN ((fD 1) (oN (oV (vL 0 ty59) (oN (oV (v_lenS (enc := eStr) ((at_ l__ i).Cons) sl59 rfl (.f 0 rfl)) (oN (oV vB (oV vPf (o_nil ?_)))))))))
 exact sK [0] [1, 0] (hN3 (decide (16 < (((at_ l__ i).Cons).length : Int))) hL1)
 intro t43 hL1
 unfold F.ref03.rightChain_j2 at hL1
 refine sat_wc ?_
 refine cC hL1 (fun hL1 => ?_) (fun hL1 => ?_)
 refine c_seq (c_region (oV vA (o_seq (c_ret ?_))))
 cases hL1
 obtain rfl := lrf_ret hF
 exact sR
 refine c_skip (sat_wc (c_seq (c_region (oV vA (o_seq ?_)))))
 obtain ⟨o3, ho3, hL1⟩ := bd hL1
 refine c_cut (fun E N' => ∀ (d3 : Int), o3 = .done d3 → Sat E [(0, sl A1 L1 C1), (2, bV false), (3, iI i), (4, pt b), (5, iI d3)] [.box b 61 [iI ((at_ l__ i).Assoc), sl A2 L2 C2]] [fS A1 L1 C1 2 eGroup l__, fS A2 L2 C2 1 eStr ((at_ l__ i).Cons)] N') (fun N3 hN3 => ?_) ?_
 refine c_block ?_
 refine c_loopE (fun E j a w => ∃ (k_ : Int), F.ref03.rightChain_l3 k l__ i j k_ = some o3 ∧ St E [(0, sl A1 L1 C1), (2, bV false), (3, iI i), (4, pt b), (5, iI k_)] [.box b 61 [iI ((at_ l__ i).Assoc), sl A2 L2 C2]] [fS A1 L1 C1 2 eGroup l__, fS A2 L2 C2 1 eStr ((at_ l__ i).Cons)] a w) k ?_ ?_
 intro a w hs
 exact ⟨0, ho3, st_le [0] (lea rfl) rfl (subs [0, 1] rfl) a w hs⟩
 rintro j a w ⟨k_, hL3, hs⟩
 rcases j with _ | j
 cases hL3
 refine wc_app hs ?_
 unfold F.ref03.rightChain_l3 at hL3
 refine c_seq (c_seq (c_region (oV vM ((fD 1) (oV (vL 0 ty59) (oV (v_lenS (enc := eStr) ((at_ l__ i).Cons) sl59 rfl (.f 1 rfl)) (oV vB (o_seq ?_))))))))
 refine cC hL3 (fun hL3 => ?_) (fun hL3 => ?_)
 refine c_skip (sat_wc (c_seq (c_block (c_seq (c_region ((fD 1) (oV (vL 0 ty59) (oV vM (ite_some hL3 ?_)))))))))
 intro h7 hL3
 refine oV (v_indexAddr_s (xs := (at_ l__ i).Cons) (enc := eStr) sl59 rfl rfl (.f 1 rfl) h7) (oV (v_load_s (xs := (at_ l__ i).Cons) (enc := eStr) ty9 rfl (.f 1 rfl) h7 rfl rfl rfl rfl rfl rfl rfl) ?_)
 obtain ⟨v, h8, hL3⟩ := bd hL3
 refine o_callSB call51 rfl lent_nil (tri51 h8 :) rfl (oV vN (o_seq ?_))
 refine cC hL3 (fun hL3 => ?_) (fun hL3 => ?_)
 refine c_seq (c_region (oV vA (o_seq (c_ret ?_))))
 cases hL3
 obtain rfl := lr_ret hL1
 obtain rfl := lrf_ret hF
 exact sR
 refine c_skip (sat_wc (c_region (oV vM (oV vB (oV vA (o_nil ?_))))))
 intro a w hs
 exact ⟨j, Nat.lt_succ_self j, IntKind.wrap .i64 (k_ + 1), hL3, st_le [0] (lea rfl) rfl (subs [0, 1] rfl) a w hs⟩
 refine c_exit0 ?_
 cases hL3
 exact sK [0] [0, 1] (hN3 k_ rfl)
 intro d3 hd
 subst hd
 replace hL1 := lr_done hL1
 refine sat_wc (c_region (oV vM (oV vB (oV vA (o_nil ?_)))))
 intro a w hs
 exact ⟨j, Nat.lt_succ_self j, IntKind.wrap .i64 (i + 1), hL1, st_le [] (lea rfl) rfl (subs [0] rfl) a w hs⟩
 refine c_exit0 ?_
 cases hL1
 exact sK [] [0] (hN1 () rfl)
 intro d1 hd
 subst hd
 replace hF := lrf_done hF
 refine sat_wc (c_seq (c_region (oV vA (o_seq (c_ret ?_)))))
 cases hF
 exact sR
theorem tri54_B (k : Nat) (g54 : List Item → Int → Option Int)
    (hg54 : ∀ {l__ : List Item} {n : Int} {A1 : OA} {L1 C1 : Nat} {r : Int}, g54 l__ n = some r → Tri Tryz.prog 54 [sl A1 L1 C1, iI n] [] [fS A1 L1 C1 4 eItem l__] (oR (iI r))) {l__ : List Item} {n : Int} {A1 : OA} {L1 C1 : Nat} {r : Int} (hF : F.ref03.rightItems_B k g54 l__ n = some r) :
    Tri Tryz.prog 54 [sl A1 L1 C1, iI n] [] [fS A1 L1 C1 4 eItem l__] (oR (iI r)) := by
 unfold F.ref03.rightItems_B at hF
 refine tri_intro (n := 88) Tryz.func54 rfl Tryz.ntmps54 rfl fun w X => c_seq (c_region (oV vA (o_seq (c_seq (c_seq (c_region (oV vA (o_seq ?_))))))))
 obtain ⟨o1, ho1, hF⟩ := bd hF
 refine c_cut (fun E N' => ∀ (d1 : Int), o1 = .done d1 → Sat E [(1, iI d1), (4, iI 0)] [] [] N') (fun N1 hN1 => ?_) ?_
 refine c_block ?_
 refine c_loopE (fun E j a w => ∃ (n1 : Int) (i : Int), F.ref03.rightItems_l1 l__ g54 j n1 i = some o1 ∧ St E [(0, sl A1 L1 C1), (1, iI n1), (4, iI 0), (5, iI i)] [] [fS A1 L1 C1 4 eItem l__] a w) k ?_ ?_
 intro a w hs
 exact ⟨n, 0, ho1, st_le [] (lea rfl) rfl (subs [0] rfl) a w hs⟩
 rintro j a w ⟨n1, i, hL1, hs⟩
 rcases j with _ | j
 cases hL1
 refine wc_app hs ?_
 unfold F.ref03.rightItems_l1 at hL1
 refine c_seq (c_seq (c_region (oV vM (oV vM (oV (v_lenS (enc := eItem) l__ sl62 rfl (.f 0 rfl)) (oV vB (o_seq ?_)))))))
 refine cC hL1 (fun hL1 => ?_) (fun hL1 => ?_)
 refine c_skip (sat_wc (c_seq (c_block (c_seq (c_region (oV vM (oV vB (oV vA (o_seq (c_seq (c_region (oV vM (oV vM (ite_some hL1 ?_))))))))))))))
 intro h2 hL1
 refine oV (v_indexAddr_s (xs := l__) (enc := eItem) sl62 rfl rfl (.f 0 rfl) h2) ?_
 refine o_load_s (ds := [.int .i64 ((at_ l__ i).Kind), .str ((at_ l__ i).Text), .int .i64 ((at_ l__ i).N_), .slice 4 (((at_ l__ i).Items).map eItem)]) (xs := l__) (enc := eItem) ty124 rfl (.f 0 rfl) h2 (by simp only [eItem_eq] <;> rfl) rfl rfl rfl rfl rfl fun A2 L2 C2 => o_alloc zero124 rfl rfl fun b => (sT 0 ty124) (o_seq (c_seq (c_seq ?_)))
 refine c_cut (fun E N' => ∀ (t46 : Bool), F.ref03.rightItems_j2 l__ i g54 n1 (F.ref03.rightItems_l1 l__ g54 j) t46 = some o1 → Sat E [(0, sl A1 L1 C1), (1, iI (IntKind.wrap .i64 (n1 + 1))), (4, iI 0), (5, iI i), (6, pt b), (46, bV t46)] [.box b 124 (vItem (at_ l__ i) A2 L2 C2)] [fS A1 L1 C1 4 eItem l__, fS A2 L2 C2 4 eItem ((at_ l__ i).Items)] N') (fun N3 hN3 => ?_) ?_
 refine c_region (oV vM (oV vB (oV vM ?_)))
 refine oS 21 hL1 (fun hL1 => ?_) (fun hL1 => ?_)
 refine oF (oF (oF (oV vPt (oV vM (oF (oF (oF (oV vPt (oV vM (oF (oF (oF (oF (oV vPt (oV vM ?_)))))))))))))))
 refine oF (oF (oF (oV vPt (oV vM (oF (oF (oF (oV vPt (o_nil ?_)))))))))
 exact sK [0] [1, 0] (hN3 true hL1)
 refine oN ((fD 2) (oN (oV (vL 0 ty3) (oN (oV vB (oV vPf (oV vM ?_)))))))
 refine oS 26 hL1 (fun hL1 => ?_) (fun hL1 => ?_)
 refine oF (oF (oF (oV vPt (oV vM (oF (oF (oF (oF (oV vPt (oV vM (oF (oF (oF (oV vPt (oV vM ?_)))))))))))))))
 refine oF (oF (oF (oV vPt (o_nil ?_))))
 exact sK [0] [1, 0] (hN3 true hL1)
 refine oN ((fD 2) (oN (oV (vL 0 ty3) (oN (oV vB (oV vPf (oV vM ?_)))))))
 refine oS 31 hL1 (fun hL1 => ?_) (fun hL1 => ?_)
 refine oF (oF (oF (oF (oV vPt (oV vM (oF (oF (oF (oV vPt (oV vM (oF (oF (oF (oV vPt (o_nil ?_)))))))))))))))
 exact sK [0] [1, 0] (hN3 true hL1)
 refine oN ((fD 1) (oN (oV (vL 0 ty9) (oN (oV (v_len_str Tryz.underlying9 rfl) (oN (oV vB (oV vPf (oV vM ?_)))))))))
 refine oS 37 hL1 (fun hL1 => ?_) (fun hL1 => ?_)
 refine oF (oF (oF (oV vPt (oV vM (oF (oF (oF (oV vPt (o_nil ?_)))))))))
 exact sK [0] [1, 0] (hN3 true hL1)
 refine oN ((fD 0) (oN (oV (vL 0 ty3) (oN (oV vB (oV vPf (oV vM ?_)))))))
 refine oS 42 hL1 (fun hL1 => ?_) (fun hL1 => ?_)
 refine oF (oF (oF (oV vPt (o_nil ?_))))
 exact sK [0] [1, 0] (hN3 true hL1)
 refine oN ((fD 0) (oN (oV (vL 0 ty3) (oN (oV vB (oV vPf (o_nil ?_)))))))
 exact sK [0] [1, 0] (hN3 (decide (6 < ((at_ l__ i).Kind))) hL1)
 intro t46 hL1
 unfold F.ref03.rightItems_j2 at hL1
 refine sat_wc ?_
 refine cC hL1 (fun hL1 => ?_) (fun hL1 => ?_)
 refine c_seq (c_region (oV vA (o_seq (c_ret ?_))))
 cases hL1
 obtain rfl := lrf_ret hF
 exact sR
 refine c_skip (sat_wc (c_seq (c_seq ?_)))
 refine c_cut (fun E N' => ∀ (t80 : Bool), F.ref03.rightItems_j3 g54 l__ i n1 (F.ref03.rightItems_l1 l__ g54 j) t80 = some o1 → Sat E [(0, sl A1 L1 C1), (1, iI (IntKind.wrap .i64 (n1 + 1))), (4, iI 0), (5, iI i), (6, pt b), (80, bV t80)] [.box b 124 (vItem (at_ l__ i) A2 L2 C2)] [fS A1 L1 C1 4 eItem l__, fS A2 L2 C2 4 eItem ((at_ l__ i).Items)] N') (fun N3 hN3 => ?_) ?_
 refine c_region ((fD 0) (oV (vL 0 ty3) (oV vB (oV vM ?_))))
 refine oS 50 hL1 (fun hL1 => ?_) (fun hL1 => ?_)
 refine oN ((fD 1) (oN (oV (vL 0 ty9) (oN (oV (v_strne rfl rfl) (oV vPt (oV vM ?_)))))))
 refine oS 55 hL1 (fun hL1 => ?_) (fun hL1 => ?_)
 refine oF (oF (oF (oF (oU (oU (oU (oF (oF (oU (oU (oU (oF (oV vPt (oV vM (oF ?_)))))))))))))))
 refine oF (oF (oF (oU (oU (oU (oU (oF (oV vPt (o_nil ?_)))))))))
 exact sK [0] [0, 1] (hN3 true hL1)
 refine oN ((fD 0) (oN (oV (vL 0 ty3) (oN (oV vB (oN (oV vM ?_)))))))
 refine oS 59 hL1 (fun hL1 => ?_) (fun hL1 => ?_)
 refine oN ((fD 0) (oN (oV (vL 0 ty3) (oN (oV vB (oN (oV vPt (oN (oV vM ?_)))))))))
 refine oS 64 hL1 (fun hL1 => ?_) (fun hL1 => ?_)
 refine oN ((fD 2) (oN (oV (vL 0 ty3) (oN (oV vB (oN (oV vPt (oV vPf (oV vM ?_)))))))))
 refine oS 70 hL1 (fun hL1 => ?_) (fun hL1 => ?_)
 refine oF (oF (oF (oF (oU (oU (oU (oU (oF (oV vPt (o_nil ?_))))))))))
 exact sK [0] [0, 1] (hN3 true hL1)
 refine oN ((fD 0) (oN (oV (vL 0 ty3) (oN (oV vB (oN (oV vM ?_)))))))
 refine oS 74 hL1 (fun hL1 => ?_) (fun hL1 => ?_)
 refine oN ((fD 3) (oN (oV (vL 0 ty62) (oN (oV (v_lenS (enc := eItem) ((at_ l__ i).Items) sl62 rfl (.f 1 rfl)) (oN (oV vB (oN (oV vPt (oV vPf (o_nil ?_)))))))))))
 exact sK [0] [0, 1] (hN3 (decide (0 < (((at_ l__ i).Items).length : Int))) hL1)
 refine oF (oF (oF (oF (oN (oV vPf (oV vPf (o_nil ?_)))))))
 exact sK [0] [0, 1] (hN3 false hL1)
 refine oF (oF (oF (oN (oV vPf (oV vPf (oV vM (oN ((fD 0) (oN (oV (vL 0 ty3) (oN (oV vB (oN (oV vM ?_))))))))))))))
 refine oS 74 hL1 (fun hL1 => ?_) (fun hL1 => ?_)
 refine oN ((fD 3) (oN (oV (vL 0 ty62) (oN (oV (v_lenS (enc := eItem) ((at_ l__ i).Items) sl62 rfl (.f 1 rfl)) (oN (oV vB (oN (oV vPt (oV vPf (o_nil ?_)))))))))))
 exact sK [0] [0, 1] (hN3 (decide (0 < (((at_ l__ i).Items).length : Int))) hL1)
 refine oF (oF (oF (oF (oN (oV vPf (oV vPf (o_nil ?_)))))))
 exact sK [0] [0, 1] (hN3 false hL1)
 refine oF (oF (oF (oN (oV vPf (oN (oV vM (oF (oF (oF (oN (oV vPf (oV vPf (oV vM (oN ((fD 0) ?_)))))))))))))))
 refine oN (oV (vL 0 ty3) (oN (oV vB (oN (oV vM ?_)))))
 refine oS 74 hL1 (fun hL1 => ?_) (fun hL1 => ?_)
 refine oN ((fD 3) (oN (oV (vL 0 ty62) (oN (oV (v_lenS (enc := eItem) ((at_ l__ i).Items) sl62 rfl (.f 1 rfl)) (oN (oV vB (oN (oV vPt (oV vPf (o_nil ?_)))))))))))
 exact sK [0] [0, 1] (hN3 (decide (0 < (((at_ l__ i).Items).length : Int))) hL1)
 refine oF (oF (oF (oF (oN (oV vPf (oV vPf (o_nil ?_)))))))
 exact sK [0] [0, 1] (hN3 false hL1)
 refine oF (oF (oF (oV vPf (oV vM (oN ((fD 0) (oN (oV (vL 0 ty3) (oN (oV vB (oN (oV vM ?_))))))))))))
 refine oS 59 hL1 (fun hL1 => ?_) (fun hL1 => ?_)
 refine oN ((fD 0) (oN (oV (vL 0 ty3) (oN (oV vB (oN (oV vPt (oN (oV vM ?_)))))))))
 refine oS 64 hL1 (fun hL1 => ?_) (fun hL1 => ?_)
 refine oN ((fD 2) (oN (oV (vL 0 ty3) (oN (oV vB (oN (oV vPt (oV vPf (oV vM ?_)))))))))
 refine oS 70 hL1 (fun hL1 => ?_) (fun hL1 => ?_)
 refine oF (oF (oF (oF (oU (oU (oU (oU (oF (oV vPt (o_nil ?_))))))))))
 exact sK [0] [0, 1] (hN3 true hL1)
 refine oN ((fD 0) (oN (oV (vL 0 ty3) (oN (oV vB (oN (oV vM ?_)))))))
 refine oS 74 hL1 (fun hL1 => ?_) (fun hL1 => ?_)
 refine oN ((fD 3) (oN (oV (vL 0 ty62) (oN (oV (v_lenS (enc := eItem) ((at_ l__ i).Items) sl62 rfl (.f 1 rfl)) (oN (oV vB (oN (oV vPt (oV vPf (o_nil ?_)))))))))))
 exact sK [0] [0, 1] (hN3 (decide (0 < (((at_ l__ i).Items).length : Int))) hL1)
 refine oF (oF (oF (oF (oN (oV vPf (oV vPf (o_nil ?_)))))))
 exact sK [0] [0, 1] (hN3 false hL1)
 refine oF (oF (oF (oN (oV vPf (oV vPf (oV vM (oN ((fD 0) (oN (oV (vL 0 ty3) (oN (oV vB (oN (oV vM ?_))))))))))))))
 refine oS 74 hL1 (fun hL1 => ?_) (fun hL1 => ?_)
 refine oN ((fD 3) (oN (oV (vL 0 ty62) (oN (oV (v_lenS (enc := eItem) ((at_ l__ i).Items) sl62 rfl (.f 1 rfl)) (oN (oV vB (oN (oV vPt (oV vPf (o_nil ?_)))))))))))
 exact sK [0] [0, 1] (hN3 (decide (0 < (((at_ l__ i).Items).length : Int))) hL1)
 refine oF (oF (oF (oF (oN (oV vPf (oV vPf (o_nil ?_)))))))
 exact sK [0] [0, 1] (hN3 false hL1)
 refine oF (oF (oF (oN (oV vPf (oN (oV vM (oF (oF (oF (oN (oV vPf (oV vPf (oV vM (oN ((fD 0) ?_)))))))))))))))
 refine oN (oV (vL 0 ty3) (oN (oV vB (oN (oV vM ?_)))))
 refine oS 74 hL1 (fun hL1 => ?_) (fun hL1 => ?_)
 refine oN ((fD 3) (oN (oV (vL 0 ty62) (oN (oV (v_lenS (enc := eItem) ((at_ l__ i).Items) sl62 rfl (.f 1 rfl)) (oN (oV vB (oN (oV vPt (oV vPf (o_nil ?_)))))))))))
 exact sK [0] [0, 1] (hN3 (decide (0 < (((at_ l__ i).Items).length : Int))) hL1)
 refine oF (oF (oF (oF (oN (oV vPf (oV vPf (o_nil ?_)))))))
 exact sK [0] [0, 1] (hN3 false hL1)
 intro t80 hL1
 unfold F.ref03.rightItems_j3 at hL1
 refine sat_wc ?_
 refine cC hL1 (fun hL1 => ?_) (fun hL1 => ?_)
 refine c_seq (c_region (oV vA (o_seq (c_ret ?_))))
 cases hL1
 obtain rfl := lrf_ret hF
 exact sR
 refine c_skip (sat_wc (c_seq (c_region ((fD 3) (oV (vL 0 ty62) (oV vM ?_))))))
 obtain ⟨v, h5, hL1⟩ := bd hL1
 refine o_callSB call54 rfl (lent_f 1 rfl lent_nil) (hg54 h5 :) rfl (oV vA (o_seq (c_seq (c_region (oV vM (oV vB (o_seq ?_)))))))
 refine cC hL1 (fun hL1 => ?_) (fun hL1 => ?_)
 refine c_seq (c_region (oV vA (o_seq (c_ret ?_))))
 cases hL1
 obtain rfl := lrf_ret hF
 exact sR
 refine c_skip (sat_wc (c_region (oV vM (oV vB (oV vA (o_nil ?_))))))
 intro a w hs
 exact ⟨j, Nat.lt_succ_self j, v, IntKind.wrap .i64 (i + 1), hL1, st_le [] (lea rfl) rfl (subs [0] rfl) a w hs⟩
 refine c_exit0 ?_
 cases hL1
 exact sK [] [] (hN1 n1 rfl)
 intro d1 hd
 subst hd
 replace hF := lrf_done hF
 refine sat_wc (c_seq (c_region (oV vM (oV vA (o_seq (c_ret ?_))))))
 cases hF
 exact sR
theorem tri54 (k : Nat) : (∀ {l__ : List Item} {n : Int} {A1 : OA} {L1 C1 : Nat} {r : Int}, F.ref03.rightItems k l__ n = some r → Tri Tryz.prog 54 [sl A1 L1 C1, iI n] [] [fS A1 L1 C1 4 eItem l__] (oR (iI r))) := by
 induction k with
 | zero => exact fun h => nomatch (show none = some _ from h)
 | succ k ih => exact tri54_B k _ ih
theorem tri22 {k : Nat} {d_ : Def} {A1 : OA} {L1 C1 : Nat} {A2 : OA} {L2 C2 : Nat} {A3 : OA} {L3 C3 : Nat} {A4 : OA} {L4 C4 : Nat} {A5 : OA} {L5 C5 : Nat} {r : Bool} (hF : F.ref03.Right k d_ = some r) :
    Tri Tryz.prog 22 [.agg (vDef d_ A1 L1 C1 A2 L2 C2 A3 L3 C3 A4 L4 C4 A5 L5 C5).toArray] [] [fS A1 L1 C1 5 eProd d_.Prods, fS A2 L2 C2 1 (eSl 2 eGroup) d_.Chains, fS A3 L3 C3 5 eFollow d_.Follows, fS A4 L4 C4 2 eReject d_.Rejects, fS A5 L5 C5 2 eBox d_.Boxes] (oR (bV r)) := by
 unfold F.ref03.Right at hF
 refine tri_intro (n := 117) Tryz.func22 rfl Tryz.ntmps22 rfl fun w X => c_seq (c_region (o_box rfl rfl rfl fun b => oV vA (o_seq (c_seq (c_seq (c_region ((fD 0) (oV (vL 0 ty9) ?_))))))))
 obtain ⟨v, h1, hF⟩ := bd hF
 refine o_callSB call51 rfl lent_nil (tri51 h1 :) rfl (oV vN (oV vM ?_))
 refine oS 12 hF (fun hF => ?_) (fun hF => ?_)
 refine oF (oF (oF (oF (oV vPt (oV vM (oF (oF (oF (oF (oV vPt (o_seq ?_)))))))))))
 refine c_cond rfl (fun _ => ?_) (fun h => Bool.noConfusion h)
 refine c_seq (c_region (oV vA (o_seq (c_ret ?_))))
 cases hF
 exact sR
 refine oN ((fD 1) (oN (oV (vL 0 ty9) (oN ?_))))
 obtain ⟨v1, h3, hF⟩ := bd hF
 refine o_callSB call51 rfl lent_nil (tri51 h3 :) rfl (oN (oV vN (oV vPf (oV vM ?_))))
 refine oS 18 hF (fun hF => ?_) (fun hF => ?_)
 refine oF (oF (oF (oF (oV vPt (o_seq ?_)))))
 refine c_cond rfl (fun _ => ?_) (fun h => Bool.noConfusion h)
 refine c_seq (c_region (oV vA (o_seq (c_ret ?_))))
 cases hF
 exact sR
 refine oN ((fD 2) (oN (oV (vL 0 ty22) (oN (oV (v_lenS (enc := eProd) d_.Prods sl22 rfl (.f 0 rfl)) (oN (oV vB (oV vPf (o_seq ?_)))))))))
 refine cC hF (fun hF => ?_) (fun hF => ?_)
 refine c_seq (c_region (oV vA (o_seq (c_ret ?_))))
 cases hF
 exact sR
 refine c_skip (sat_wc (c_seq (c_seq (c_region (oV vA (o_seq ?_))))))
 obtain ⟨o1, ho1, hF⟩ := bd hF
 refine c_cut (fun E N' => ∀ (d1 : Unit), o1 = .done d1 → Sat E [(0, .agg (vDef d_ A1 L1 C1 A2 L2 C2 A3 L3 C3 A4 L4 C4 A5 L5 C5).toArray), (1, pt b), (2, bV false)] [.box b 28 (vDef d_ A1 L1 C1 A2 L2 C2 A3 L3 C3 A4 L4 C4 A5 L5 C5)] [fS A1 L1 C1 5 eProd d_.Prods, fS A2 L2 C2 1 (eSl 2 eGroup) d_.Chains, fS A3 L3 C3 5 eFollow d_.Follows, fS A4 L4 C4 2 eReject d_.Rejects, fS A5 L5 C5 2 eBox d_.Boxes] N') (fun N1 hN1 => ?_) ?_
 refine c_block ?_
 refine c_loopE (fun E j a w => ∃ (i : Int), F.ref03.Right_l1 k d_ j i = some o1 ∧ St E [(0, .agg (vDef d_ A1 L1 C1 A2 L2 C2 A3 L3 C3 A4 L4 C4 A5 L5 C5).toArray), (1, pt b), (2, bV false), (3, iI i)] [.box b 28 (vDef d_ A1 L1 C1 A2 L2 C2 A3 L3 C3 A4 L4 C4 A5 L5 C5)] [fS A1 L1 C1 5 eProd d_.Prods, fS A2 L2 C2 1 (eSl 2 eGroup) d_.Chains, fS A3 L3 C3 5 eFollow d_.Follows, fS A4 L4 C4 2 eReject d_.Rejects, fS A5 L5 C5 2 eBox d_.Boxes] a w) k ?_ ?_
 intro a w hs
 exact ⟨0, ho1, st_le [0] (lea rfl) rfl (subs [0, 1, 2, 3, 4] rfl) a w hs⟩
 rintro j a w ⟨i, hL1, hs⟩
 rcases j with _ | j
 cases hL1
 refine wc_app hs ?_
 unfold F.ref03.Right_l1 at hL1
 refine c_seq (c_seq (c_region (oV vM ((fD 2) (oV (vL 0 ty22) (oV (v_lenS (enc := eProd) d_.Prods sl22 rfl (.f 0 rfl)) (oV vB (o_seq ?_))))))))
 refine cC hL1 (fun hL1 => ?_) (fun hL1 => ?_)
 refine c_skip (sat_wc (c_seq (c_block (c_seq (c_region ((fD 2) (oV (vL 0 ty22) (oV vM (ite_some hL1 ?_)))))))))
 intro h7 hL1
 refine oV (v_indexAddr_s (xs := d_.Prods) (enc := eProd) sl22 rfl rfl (.f 0 rfl) h7) (o_load_s (xs := d_.Prods) (enc := eProd) ty57 rfl (.f 0 rfl) h7 rfl rfl rfl rfl rfl rfl ?_)
 intro A6 L6 C6
 refine ?_
 obtain ⟨v2, h8, hL1⟩ := bd hL1
 refine o_callSB call52 rfl (lent_f 0 rfl lent_nil) (tri52 h8 :) rfl (oV vN (o_seq ?_))
 refine cC hL1 (fun hL1 => ?_) (fun hL1 => ?_)
 refine c_seq (c_region (oV vA (o_seq (c_ret ?_))))
 cases hL1
 obtain rfl := lrf_ret hF
 exact sR
 refine c_skip (sat_wc (c_region (oV vM (oV vB (oV vA (o_nil ?_))))))
 intro a w hs
 exact ⟨j, Nat.lt_succ_self j, IntKind.wrap .i64 (i + 1), hL1, st_le [0] (lea rfl) rfl (subs [1, 2, 3, 4, 5] rfl) a w hs⟩
 refine c_exit0 ?_
 cases hL1
 exact sK [0] [0, 1, 2, 3, 4] (hN1 () rfl)
 intro d1 hd
 subst hd
 replace hF := lrf_done hF
 refine sat_wc (c_seq (c_seq (c_region (oV vA (o_seq ?_)))))
 obtain ⟨o2, ho2, hF⟩ := bd hF
 refine c_cut (fun E N' => ∀ (d2 : Unit), o2 = .done d2 → Sat E [(0, .agg (vDef d_ A1 L1 C1 A2 L2 C2 A3 L3 C3 A4 L4 C4 A5 L5 C5).toArray), (1, pt b), (2, bV false)] [.box b 28 (vDef d_ A1 L1 C1 A2 L2 C2 A3 L3 C3 A4 L4 C4 A5 L5 C5)] [fS A1 L1 C1 5 eProd d_.Prods, fS A2 L2 C2 1 (eSl 2 eGroup) d_.Chains, fS A3 L3 C3 5 eFollow d_.Follows, fS A4 L4 C4 2 eReject d_.Rejects, fS A5 L5 C5 2 eBox d_.Boxes] N') (fun N2 hN2 => ?_) ?_
 refine c_block ?_
 refine c_loopE (fun E j a w => ∃ (i1 : Int), F.ref03.Right_l2 k d_ j i1 = some o2 ∧ St E [(0, .agg (vDef d_ A1 L1 C1 A2 L2 C2 A3 L3 C3 A4 L4 C4 A5 L5 C5).toArray), (1, pt b), (2, bV false), (4, iI i1)] [.box b 28 (vDef d_ A1 L1 C1 A2 L2 C2 A3 L3 C3 A4 L4 C4 A5 L5 C5)] [fS A1 L1 C1 5 eProd d_.Prods, fS A2 L2 C2 1 (eSl 2 eGroup) d_.Chains, fS A3 L3 C3 5 eFollow d_.Follows, fS A4 L4 C4 2 eReject d_.Rejects, fS A5 L5 C5 2 eBox d_.Boxes] a w) k ?_ ?_
 intro a w hs
 exact ⟨0, ho2, st_le [0] (lea rfl) rfl (subs [0, 1, 2, 3, 4] rfl) a w hs⟩
 rintro j a w ⟨i1, hL2, hs⟩
 rcases j with _ | j
 cases hL2
 refine wc_app hs ?_
 unfold F.ref03.Right_l2 at hL2
 refine c_seq (c_seq (c_region (oV vM ((fD 3) (oV (vL 0 ty23) (oV (v_lenS (enc := (eSl 2 eGroup)) d_.Chains sl23 rfl (.f 1 rfl)) (oV vB (o_seq ?_))))))))
 refine cC hL2 (fun hL2 => ?_) (fun hL2 => ?_)
 refine c_skip (sat_wc (c_seq (c_block (c_seq (c_region ((fD 3) (oV (vL 0 ty23) (oV vM (ite_some hL2 ?_)))))))))
 intro h11 hL2
 refine oV (v_indexAddr_s (xs := d_.Chains) (enc := (eSl 2 eGroup)) sl23 rfl rfl (.f 1 rfl) h11) (o_load_s (xs := d_.Chains) (enc := (eSl 2 eGroup)) ty58 rfl (.f 1 rfl) h11 rfl rfl rfl rfl rfl rfl ?_)
 intro A7 L7 C7
 refine ?_
 obtain ⟨v3, h12, hL2⟩ := bd hL2
 refine o_callSB call53 rfl (lent_f 0 rfl lent_nil) (tri53 h12 :) rfl (oV vN (o_seq ?_))
 refine cC hL2 (fun hL2 => ?_) (fun hL2 => ?_)
 refine c_seq (c_region (oV vA (o_seq (c_ret ?_))))
 cases hL2
 obtain rfl := lrf_ret hF
 exact sR
 refine c_skip (sat_wc (c_region (oV vM (oV vB (oV vA (o_nil ?_))))))
 intro a w hs
 exact ⟨j, Nat.lt_succ_self j, IntKind.wrap .i64 (i1 + 1), hL2, st_le [0] (lea rfl) rfl (subs [1, 2, 3, 4, 5] rfl) a w hs⟩
 refine c_exit0 ?_
 cases hL2
 exact sK [0] [0, 1, 2, 3, 4] (hN2 () rfl)
 intro d2 hd
 subst hd
 replace hF := lrf_done hF
 refine sat_wc (c_seq (c_seq (c_region (oV vA (o_seq ?_)))))
 obtain ⟨o3, ho3, hF⟩ := bd hF
 refine c_cut (fun E N' => ∀ (d3 : Unit), o3 = .done d3 → Sat E [(0, .agg (vDef d_ A1 L1 C1 A2 L2 C2 A3 L3 C3 A4 L4 C4 A5 L5 C5).toArray), (1, pt b), (2, bV false)] [.box b 28 (vDef d_ A1 L1 C1 A2 L2 C2 A3 L3 C3 A4 L4 C4 A5 L5 C5)] [fS A1 L1 C1 5 eProd d_.Prods, fS A2 L2 C2 1 (eSl 2 eGroup) d_.Chains, fS A3 L3 C3 5 eFollow d_.Follows, fS A4 L4 C4 2 eReject d_.Rejects, fS A5 L5 C5 2 eBox d_.Boxes] N') (fun N3 hN3 => ?_) ?_
 refine c_block ?_
 refine c_loopE (fun E j a w => ∃ (i2 : Int), F.ref03.Right_l3 k d_ j i2 = some o3 ∧ St E [(0, .agg (vDef d_ A1 L1 C1 A2 L2 C2 A3 L3 C3 A4 L4 C4 A5 L5 C5).toArray), (1, pt b), (2, bV false), (5, iI i2)] [.box b 28 (vDef d_ A1 L1 C1 A2 L2 C2 A3 L3 C3 A4 L4 C4 A5 L5 C5)] [fS A1 L1 C1 5 eProd d_.Prods, fS A2 L2 C2 1 (eSl 2 eGroup) d_.Chains, fS A3 L3 C3 5 eFollow d_.Follows, fS A4 L4 C4 2 eReject d_.Rejects, fS A5 L5 C5 2 eBox d_.Boxes] a w) k ?_ ?_
 intro a w hs
 exact ⟨0, ho3, st_le [0] (lea rfl) rfl (subs [0, 1, 2, 3, 4] rfl) a w hs⟩
 rintro j a w ⟨i2, hL3, hs⟩
 rcases j with _ | j
 cases hL3
 refine wc_app hs ?_
 unfold F.ref03.Right_l3 at hL3
 refine c_seq (c_seq (c_region (oV vM ((fD 4) (oV (vL 0 ty24) (oV (v_lenS (enc := eFollow) d_.Follows sl24 rfl (.f 2 rfl)) (oV vB (o_seq ?_))))))))
 refine cC hL3 (fun hL3 => ?_) (fun hL3 => ?_)
 refine c_skip (sat_wc (c_seq (c_block (c_seq (c_region ((fD 4) (oV (vL 0 ty24) (oV vM (ite_some hL3 ?_)))))))))
 intro h15 hL3
 refine oV (v_indexAddr_s (xs := d_.Follows) (enc := eFollow) sl24 rfl rfl (.f 2 rfl) h15) (oV (v_fieldAddr (v := .pointer (some ⟨blkA A3, offA A3 + (Int.toNat i2 * 5 + 0), none⟩)) rfl (fun _ => by kernel_rfl)) (oV (v_load_s (xs := d_.Follows) (enc := eFollow) ty9 rfl (.f 2 rfl) h15 rfl rfl rfl rfl rfl rfl rfl) ?_))
 obtain ⟨v4, h16, hL3⟩ := bd hL3
 refine o_callSB call51 rfl lent_nil (tri51 h16 :) rfl (oV vN (o_seq ?_))
 refine cC hL3 (fun hL3 => ?_) (fun hL3 => ?_)
 refine c_seq (c_region (oV vA (o_seq (c_ret ?_))))
 cases hL3
 obtain rfl := lrf_ret hF
 exact sR
 refine c_skip (sat_wc (c_region (oV vM (oV vB (oV vA (o_nil ?_))))))
 intro a w hs
 exact ⟨j, Nat.lt_succ_self j, IntKind.wrap .i64 (i2 + 1), hL3, st_le [0] (lea rfl) rfl (subs [0, 1, 2, 3, 4] rfl) a w hs⟩
 refine c_exit0 ?_
 cases hL3
 exact sK [0] [0, 1, 2, 3, 4] (hN3 () rfl)
 intro d3 hd
 subst hd
 replace hF := lrf_done hF
 refine sat_wc (c_seq (c_seq (c_region (oV vA (o_seq ?_)))))
 obtain ⟨o4, ho4, hF⟩ := bd hF
 refine c_cut (fun E N' => ∀ (d4 : Unit), o4 = .done d4 → Sat E [(0, .agg (vDef d_ A1 L1 C1 A2 L2 C2 A3 L3 C3 A4 L4 C4 A5 L5 C5).toArray), (1, pt b), (2, bV false)] [.box b 28 (vDef d_ A1 L1 C1 A2 L2 C2 A3 L3 C3 A4 L4 C4 A5 L5 C5)] [fS A1 L1 C1 5 eProd d_.Prods, fS A2 L2 C2 1 (eSl 2 eGroup) d_.Chains, fS A3 L3 C3 5 eFollow d_.Follows, fS A4 L4 C4 2 eReject d_.Rejects, fS A5 L5 C5 2 eBox d_.Boxes] N') (fun N4 hN4 => ?_) ?_
 refine c_block ?_
 refine c_loopE (fun E j a w => ∃ (i3 : Int), F.ref03.Right_l4 k d_ j i3 = some o4 ∧ St E [(0, .agg (vDef d_ A1 L1 C1 A2 L2 C2 A3 L3 C3 A4 L4 C4 A5 L5 C5).toArray), (1, pt b), (2, bV false), (6, iI i3)] [.box b 28 (vDef d_ A1 L1 C1 A2 L2 C2 A3 L3 C3 A4 L4 C4 A5 L5 C5)] [fS A1 L1 C1 5 eProd d_.Prods, fS A2 L2 C2 1 (eSl 2 eGroup) d_.Chains, fS A3 L3 C3 5 eFollow d_.Follows, fS A4 L4 C4 2 eReject d_.Rejects, fS A5 L5 C5 2 eBox d_.Boxes] a w) k ?_ ?_
 intro a w hs
 exact ⟨0, ho4, st_le [0] (lea rfl) rfl (subs [0, 1, 2, 3, 4] rfl) a w hs⟩
 rintro j a w ⟨i3, hL4, hs⟩
 rcases j with _ | j
 cases hL4
 refine wc_app hs ?_
 unfold F.ref03.Right_l4 at hL4
 refine c_seq (c_seq (c_region (oV vM ((fD 5) (oV (vL 0 ty25) (oV (v_lenS (enc := eReject) d_.Rejects sl25 rfl (.f 3 rfl)) (oV vB (o_seq ?_))))))))
 refine cC hL4 (fun hL4 => ?_) (fun hL4 => ?_)
 refine c_skip (sat_wc (c_seq (c_block (c_seq (c_region ((fD 5) (oV (vL 0 ty25) (oV vM (ite_some hL4 ?_)))))))))
 intro h19 hL4
 refine oV (v_indexAddr_s (xs := d_.Rejects) (enc := eReject) sl25 rfl rfl (.f 3 rfl) h19) (oV (v_fieldAddr (v := .pointer (some ⟨blkA A4, offA A4 + (Int.toNat i3 * 2 + 0), none⟩)) rfl (fun _ => by kernel_rfl)) (oV (v_load_s (xs := d_.Rejects) (enc := eReject) ty9 rfl (.f 3 rfl) h19 rfl rfl rfl rfl rfl rfl rfl) ?_))
 obtain ⟨v5, h20, hL4⟩ := bd hL4
 refine o_callSB call51 rfl lent_nil (tri51 h20 :) rfl (oV vN (oV vM ?_))
 refine oS 82 hL4 (fun hL4 => ?_) (fun hL4 => ?_)
 refine oF (oF (oF (oF (oF (oF (oF (oF (oV vPt (o_seq ?_)))))))))
 refine c_cond rfl (fun _ => ?_) (fun h => Bool.noConfusion h)
 refine c_seq (c_region (oV vA (o_seq (c_ret ?_))))
 cases hL4
 obtain rfl := lrf_ret hF
 exact sR
 refine oN ((fD 5) (oN (oV (vL 0 ty25) (oN (oV vM (oN (oV (v_indexAddr_s (xs := d_.Rejects) (enc := eReject) sl25 rfl rfl (.f 3 rfl) h19) (oN (oV (v_fieldAddr (v := .pointer (some ⟨blkA A4, offA A4 + (Int.toNat i3 * 2 + 1), none⟩)) rfl (fun _ => by kernel_rfl)) (oN (oV (v_load_s (xs := d_.Rejects) (enc := eReject) ty9 rfl (.f 3 rfl) h19 rfl rfl rfl rfl rfl rfl rfl) (oN ?_))))))))))))
 obtain ⟨v6, h22, hL4⟩ := bd hL4
 refine o_callSB call51 rfl lent_nil (tri51 h22 :) rfl (oN (oV vN (oV vPf (o_seq ?_))))
 refine cC hL4 (fun hL4 => ?_) (fun hL4 => ?_)
 refine c_seq (c_region (oV vA (o_seq (c_ret ?_))))
 cases hL4
 obtain rfl := lrf_ret hF
 exact sR
 refine c_skip (sat_wc (c_region (oV vM (oV vB (oV vA (o_nil ?_))))))
 intro a w hs
 exact ⟨j, Nat.lt_succ_self j, IntKind.wrap .i64 (i3 + 1), hL4, st_le [0] (lea rfl) rfl (subs [0, 1, 2, 3, 4] rfl) a w hs⟩
 refine c_exit0 ?_
 cases hL4
 exact sK [0] [0, 1, 2, 3, 4] (hN4 () rfl)
 intro d4 hd
 subst hd
 replace hF := lrf_done hF
 refine sat_wc (c_seq (c_seq (c_region (oV vA (o_seq ?_)))))
 obtain ⟨o5, ho5, hF⟩ := bd hF
 refine c_cut (fun E N' => ∀ (d5 : Unit), o5 = .done d5 → Sat E [(0, .agg (vDef d_ A1 L1 C1 A2 L2 C2 A3 L3 C3 A4 L4 C4 A5 L5 C5).toArray), (1, pt b), (2, bV false)] [.box b 28 (vDef d_ A1 L1 C1 A2 L2 C2 A3 L3 C3 A4 L4 C4 A5 L5 C5)] [fS A1 L1 C1 5 eProd d_.Prods, fS A2 L2 C2 1 (eSl 2 eGroup) d_.Chains, fS A3 L3 C3 5 eFollow d_.Follows, fS A4 L4 C4 2 eReject d_.Rejects, fS A5 L5 C5 2 eBox d_.Boxes] N') (fun N5 hN5 => ?_) ?_
 refine c_block ?_
 refine c_loopE (fun E j a w => ∃ (i4 : Int), F.ref03.Right_l5 k d_ j i4 = some o5 ∧ St E [(0, .agg (vDef d_ A1 L1 C1 A2 L2 C2 A3 L3 C3 A4 L4 C4 A5 L5 C5).toArray), (1, pt b), (2, bV false), (7, iI i4)] [.box b 28 (vDef d_ A1 L1 C1 A2 L2 C2 A3 L3 C3 A4 L4 C4 A5 L5 C5)] [fS A1 L1 C1 5 eProd d_.Prods, fS A2 L2 C2 1 (eSl 2 eGroup) d_.Chains, fS A3 L3 C3 5 eFollow d_.Follows, fS A4 L4 C4 2 eReject d_.Rejects, fS A5 L5 C5 2 eBox d_.Boxes] a w) k ?_ ?_
 intro a w hs
 exact ⟨0, ho5, st_le [0] (lea rfl) rfl (subs [0, 1, 2, 3, 4] rfl) a w hs⟩
 rintro j a w ⟨i4, hL5, hs⟩
 rcases j with _ | j
 cases hL5
 refine wc_app hs ?_
 unfold F.ref03.Right_l5 at hL5
 refine c_seq (c_seq (c_region (oV vM ((fD 6) (oV (vL 0 ty26) (oV (v_lenS (enc := eBox) d_.Boxes sl26 rfl (.f 4 rfl)) (oV vB (o_seq ?_))))))))
 refine cC hL5 (fun hL5 => ?_) (fun hL5 => ?_)
 refine c_skip (sat_wc (c_seq (c_block (c_seq (c_region ((fD 6) (oV (vL 0 ty26) (oV vM (ite_some hL5 ?_)))))))))
 intro h25 hL5
 refine oV (v_indexAddr_s (xs := d_.Boxes) (enc := eBox) sl26 rfl rfl (.f 4 rfl) h25) (oV (v_fieldAddr (v := .pointer (some ⟨blkA A5, offA A5 + (Int.toNat i4 * 2 + 0), none⟩)) rfl (fun _ => by kernel_rfl)) (oV (v_load_s (xs := d_.Boxes) (enc := eBox) ty9 rfl (.f 4 rfl) h25 rfl rfl rfl rfl rfl rfl rfl) ?_))
 obtain ⟨v7, h26, hL5⟩ := bd hL5
 refine o_callSB call51 rfl lent_nil (tri51 h26 :) rfl (oV vN (oV vM ?_))
 refine oS 107 hL5 (fun hL5 => ?_) (fun hL5 => ?_)
 refine oF (oF (oF (oF (oF (oF (oF (oF (oV vPt (o_seq ?_)))))))))
 refine c_cond rfl (fun _ => ?_) (fun h => Bool.noConfusion h)
 refine c_seq (c_region (oV vA (o_seq (c_ret ?_))))
 cases hL5
 obtain rfl := lrf_ret hF
 exact sR
 refine oN ((fD 6) (oN (oV (vL 0 ty26) (oN (oV vM (oN (oV (v_indexAddr_s (xs := d_.Boxes) (enc := eBox) sl26 rfl rfl (.f 4 rfl) h25) (oN (oV (v_fieldAddr (v := .pointer (some ⟨blkA A5, offA A5 + (Int.toNat i4 * 2 + 1), none⟩)) rfl (fun _ => by kernel_rfl)) (oN (o_load_s (xs := d_.Boxes) (enc := eBox) ty62 rfl (.f 4 rfl) h25 rfl rfl rfl rfl rfl rfl ?_)))))))))))
 intro A8 L8 C8
 refine oN ?_
 obtain ⟨v8, h28, hL5⟩ := bd hL5
 refine o_callSB call54 rfl (lent_f 0 rfl lent_nil) ((tri54 _) h28 :) rfl (oN (oV vB (oV vPf (o_seq ?_))))
 refine cC hL5 (fun hL5 => ?_) (fun hL5 => ?_)
 refine c_seq (c_region (oV vA (o_seq (c_ret ?_))))
 cases hL5
 obtain rfl := lrf_ret hF
 exact sR
 refine c_skip (sat_wc (c_region (oV vM (oV vB (oV vA (o_nil ?_))))))
 intro a w hs
 exact ⟨j, Nat.lt_succ_self j, IntKind.wrap .i64 (i4 + 1), hL5, st_le [0] (lea rfl) rfl (subs [1, 2, 3, 4, 5] rfl) a w hs⟩
 refine c_exit0 ?_
 cases hL5
 exact sK [0] [0, 1, 2, 3, 4] (hN5 () rfl)
 intro d5 hd
 subst hd
 replace hF := lrf_done hF
 refine sat_wc (c_seq (c_region (oV vA (o_seq (c_ret ?_)))))
 cases hF
 exact sR
theorem tri55 {k : Nat} {s1 : List Follow} {s2 : List Follow} {A1 : OA} {L1 C1 : Nat} {A2 : OA} {L2 C2 : Nat} {r : Bool} (hF : F.slices.Equal_f55 k s1 s2 = some r) :
    Tri Tryz.prog 55 [sl A1 L1 C1, sl A2 L2 C2] [] [fS A1 L1 C1 5 eFollow s1, fS A2 L2 C2 5 eFollow s2] (oR (bV r)) := by
 unfold F.slices.Equal_f55 at hF
 refine tri_intro (n := 26) Tryz.func55 rfl Tryz.ntmps55 rfl fun w X => c_seq (c_region (oV vA (o_seq (c_seq (c_seq (c_region (oV vM (oV (v_lenS (enc := eFollow) s1 sl24 rfl (.f 0 rfl)) (oV vM (oV (v_lenS (enc := eFollow) s2 sl24 rfl (.f 1 rfl)) (oV vB (o_seq ?_))))))))))))
 refine cC hF (fun hF => ?_) (fun hF => ?_)
 refine c_seq (c_region (oV vA (o_seq (c_ret ?_))))
 cases hF
 exact sR
 refine c_skip (sat_wc (c_seq (c_seq (c_region (oV vM (oV (v_lenS (enc := eFollow) s1 sl24 rfl (.f 0 rfl)) (oV vM (o_seq ?_))))))))
 obtain ⟨o1, ho1, hF⟩ := bd hF
 refine c_cut (fun E N' => ∀ (d1 : Unit), o1 = .done d1 → Sat E [(0, sl A1 L1 C1), (1, sl A2 L2 C2), (4, bV false)] [] [fS A1 L1 C1 5 eFollow s1, fS A2 L2 C2 5 eFollow s2] N') (fun N1 hN1 => ?_) ?_
 refine c_block ?_
 refine c_loopE (fun E j a w => ∃ (t13 : Int), F.slices.Equal_f55_l1 s1 s2 j t13 = some o1 ∧ St E [(0, sl A1 L1 C1), (1, sl A2 L2 C2), (4, bV false), (12, iI (s1.length : Int)), (13, iI t13)] [] [fS A1 L1 C1 5 eFollow s1, fS A2 L2 C2 5 eFollow s2] a w) k ?_ ?_
 intro a w hs
 exact ⟨0, ho1, st_le [] (lea rfl) rfl (subs [0, 1] rfl) a w hs⟩
 rintro j a w ⟨t13, hL1, hs⟩
 rcases j with _ | j
 cases hL1
 refine wc_app hs ?_
 unfold F.slices.Equal_f55_l1 at hL1
 refine c_seq (c_region (oV vB (o_seq (c_seq ?_))))
 refine cC hL1 (fun hL1 => ?_) (fun hL1 => ?_)
 refine c_skip (sat_wc (c_seq (c_block (c_seq (c_region (oV vM (oV vA (o_seq (c_seq (c_draw (n := 9) [] mixed rfl rfl (dv 0 rfl vM (dv 1 rfl vM (ite_some hL1 ?_)))))))))))))
 intro h3 hL1
 refine dv 2 rfl (v_indexAddr_s (xs := s1) (enc := eFollow) sl24 rfl rfl (.f 0 rfl) h3) (dv 3 rfl (v_load_s (xs := s1) (enc := eFollow) ty48 rfl (.f 0 rfl) h3 rfl rfl rfl rfl rfl rfl rfl) ?_)
 refine dv 4 rfl vM (dv 5 rfl vM (ite_some hL1 ?_))
 intro h4 hL1
 refine dv 6 rfl (v_indexAddr_s (xs := s2) (enc := eFollow) sl24 rfl rfl (.f 1 rfl) h4) (dv 7 rfl (v_load_s (xs := s2) (enc := eFollow) ty48 rfl (.f 1 rfl) h4 rfl rfl rfl rfl rfl rfl rfl) (dv 8 rfl (v_agne 3 rfl rfl (eq48 ((at_ s1 t13).Sort_) ((at_ s1 t13).Set.w0) ((at_ s1 t13).Set.w1) ((at_ s1 t13).Set.w2) ((at_ s1 t13).Set.w3) ((at_ s2 t13).Sort_) ((at_ s2 t13).Set.w0) ((at_ s2 t13).Set.w1) ((at_ s2 t13).Set.w2) ((at_ s2 t13).Set.w3)) rfl guard48) (d_done_seq (by kernel_rfl) ?_)))
 refine cC hL1 (fun hL1 => ?_) (fun hL1 => ?_)
 refine c_seq (c_region (oV vA (o_seq (c_ret ?_))))
 cases hL1
 obtain rfl := lrf_ret hF
 exact sR
 refine c_skip (sat_wc (c_region (oV vB (oV vM (o_nil ?_)))))
 intro a w hs
 exact ⟨j, Nat.lt_succ_self j, IntKind.wrap .i64 (t13 + 1), hL1, st_le [] (lea rfl) rfl (subs [0, 1] rfl) a w hs⟩
 refine c_exit0 ?_
 cases hL1
 exact sK [] [0, 1] (hN1 () rfl)
 intro d1 hd
 subst hd
 replace hF := lrf_done hF
 refine sat_wc (c_seq (c_region (oV vA (o_seq (c_ret ?_)))))
 cases hF
 exact sR
theorem tri56 {k : Nat} {s1 : List Reject} {s2 : List Reject} {A1 : OA} {L1 C1 : Nat} {A2 : OA} {L2 C2 : Nat} {r : Bool} (hF : F.slices.Equal_f56 k s1 s2 = some r) :
    Tri Tryz.prog 56 [sl A1 L1 C1, sl A2 L2 C2] [] [fS A1 L1 C1 2 eReject s1, fS A2 L2 C2 2 eReject s2] (oR (bV r)) := by
 unfold F.slices.Equal_f56 at hF
 refine tri_intro (n := 26) Tryz.func56 rfl Tryz.ntmps56 rfl fun w X => c_seq (c_region (oV vA (o_seq (c_seq (c_seq (c_region (oV vM (oV (v_lenS (enc := eReject) s1 sl25 rfl (.f 0 rfl)) (oV vM (oV (v_lenS (enc := eReject) s2 sl25 rfl (.f 1 rfl)) (oV vB (o_seq ?_))))))))))))
 refine cC hF (fun hF => ?_) (fun hF => ?_)
 refine c_seq (c_region (oV vA (o_seq (c_ret ?_))))
 cases hF
 exact sR
 refine c_skip (sat_wc (c_seq (c_seq (c_region (oV vM (oV (v_lenS (enc := eReject) s1 sl25 rfl (.f 0 rfl)) (oV vM (o_seq ?_))))))))
 obtain ⟨o1, ho1, hF⟩ := bd hF
 refine c_cut (fun E N' => ∀ (d1 : Unit), o1 = .done d1 → Sat E [(0, sl A1 L1 C1), (1, sl A2 L2 C2), (4, bV false)] [] [fS A1 L1 C1 2 eReject s1, fS A2 L2 C2 2 eReject s2] N') (fun N1 hN1 => ?_) ?_
 refine c_block ?_
 refine c_loopE (fun E j a w => ∃ (t13 : Int), F.slices.Equal_f56_l1 s1 s2 j t13 = some o1 ∧ St E [(0, sl A1 L1 C1), (1, sl A2 L2 C2), (4, bV false), (12, iI (s1.length : Int)), (13, iI t13)] [] [fS A1 L1 C1 2 eReject s1, fS A2 L2 C2 2 eReject s2] a w) k ?_ ?_
 intro a w hs
 exact ⟨0, ho1, st_le [] (lea rfl) rfl (subs [0, 1] rfl) a w hs⟩
 rintro j a w ⟨t13, hL1, hs⟩
 rcases j with _ | j
 cases hL1
 refine wc_app hs ?_
 unfold F.slices.Equal_f56_l1 at hL1
 refine c_seq (c_region (oV vB (o_seq (c_seq ?_))))
 refine cC hL1 (fun hL1 => ?_) (fun hL1 => ?_)
 refine c_skip (sat_wc (c_seq (c_block (c_seq (c_region (oV vM (oV vA (o_seq (c_seq (c_draw (n := 9) [] mixed rfl rfl (dv 0 rfl vM (dv 1 rfl vM (ite_some hL1 ?_)))))))))))))
 intro h3 hL1
 refine dv 2 rfl (v_indexAddr_s (xs := s1) (enc := eReject) sl25 rfl rfl (.f 0 rfl) h3) (dv 3 rfl (v_load_s (xs := s1) (enc := eReject) ty78 rfl (.f 0 rfl) h3 rfl rfl rfl rfl rfl rfl rfl) ?_)
 refine dv 4 rfl vM (dv 5 rfl vM (ite_some hL1 ?_))
 intro h4 hL1
 refine dv 6 rfl (v_indexAddr_s (xs := s2) (enc := eReject) sl25 rfl rfl (.f 1 rfl) h4) (dv 7 rfl (v_load_s (xs := s2) (enc := eReject) ty78 rfl (.f 1 rfl) h4 rfl rfl rfl rfl rfl rfl rfl) (dv 8 rfl (v_agne 2 rfl rfl (eq78 ((at_ s1 t13).Sort_) ((at_ s1 t13).By) ((at_ s2 t13).Sort_) ((at_ s2 t13).By)) rfl guard78) (d_done_seq (by kernel_rfl) ?_)))
 refine cC hL1 (fun hL1 => ?_) (fun hL1 => ?_)
 refine c_seq (c_region (oV vA (o_seq (c_ret ?_))))
 cases hL1
 obtain rfl := lrf_ret hF
 exact sR
 refine c_skip (sat_wc (c_region (oV vB (oV vM (o_nil ?_)))))
 intro a w hs
 exact ⟨j, Nat.lt_succ_self j, IntKind.wrap .i64 (t13 + 1), hL1, st_le [] (lea rfl) rfl (subs [0, 1] rfl) a w hs⟩
 refine c_exit0 ?_
 cases hL1
 exact sK [] [0, 1] (hN1 () rfl)
 intro d1 hd
 subst hd
 replace hF := lrf_done hF
 refine sat_wc (c_seq (c_region (oV vA (o_seq (c_ret ?_)))))
 cases hF
 exact sR
theorem tri59 {k : Nat} {s1 : List Sym} {s2 : List Sym} {A1 : OA} {L1 C1 : Nat} {A2 : OA} {L2 C2 : Nat} {r : Bool} (hF : F.slices.Equal_f59 k s1 s2 = some r) :
    Tri Tryz.prog 59 [sl A1 L1 C1, sl A2 L2 C2] [] [fS A1 L1 C1 8 eSym s1, fS A2 L2 C2 8 eSym s2] (oR (bV r)) := by
 unfold F.slices.Equal_f59 at hF
 refine tri_intro (n := 26) Tryz.func59 rfl Tryz.ntmps59 rfl fun w X => c_seq (c_region (oV vA (o_seq (c_seq (c_seq (c_region (oV vM (oV (v_lenS (enc := eSym) s1 sl55 rfl (.f 0 rfl)) (oV vM (oV (v_lenS (enc := eSym) s2 sl55 rfl (.f 1 rfl)) (oV vB (o_seq ?_))))))))))))
 refine cC hF (fun hF => ?_) (fun hF => ?_)
 refine c_seq (c_region (oV vA (o_seq (c_ret ?_))))
 cases hF
 exact sR
 refine c_skip (sat_wc (c_seq (c_seq (c_region (oV vM (oV (v_lenS (enc := eSym) s1 sl55 rfl (.f 0 rfl)) (oV vM (o_seq ?_))))))))
 obtain ⟨o1, ho1, hF⟩ := bd hF
 refine c_cut (fun E N' => ∀ (d1 : Unit), o1 = .done d1 → Sat E [(0, sl A1 L1 C1), (1, sl A2 L2 C2), (4, bV false)] [] [fS A1 L1 C1 8 eSym s1, fS A2 L2 C2 8 eSym s2] N') (fun N1 hN1 => ?_) ?_
 refine c_block ?_
 refine c_loopE (fun E j a w => ∃ (t13 : Int), F.slices.Equal_f59_l1 s1 s2 j t13 = some o1 ∧ St E [(0, sl A1 L1 C1), (1, sl A2 L2 C2), (4, bV false), (12, iI (s1.length : Int)), (13, iI t13)] [] [fS A1 L1 C1 8 eSym s1, fS A2 L2 C2 8 eSym s2] a w) k ?_ ?_
 intro a w hs
 exact ⟨0, ho1, st_le [] (lea rfl) rfl (subs [0, 1] rfl) a w hs⟩
 rintro j a w ⟨t13, hL1, hs⟩
 rcases j with _ | j
 cases hL1
 refine wc_app hs ?_
 unfold F.slices.Equal_f59_l1 at hL1
 refine c_seq (c_region (oV vB (o_seq (c_seq ?_))))
 refine cC hL1 (fun hL1 => ?_) (fun hL1 => ?_)
 refine c_skip (sat_wc (c_seq (c_block (c_seq (c_region (oV vM (oV vA (o_seq (c_seq (c_draw (n := 9) [] mixed rfl rfl (dv 0 rfl vM (dv 1 rfl vM (ite_some hL1 ?_)))))))))))))
 intro h3 hL1
 refine dv 2 rfl (v_indexAddr_s (xs := s1) (enc := eSym) sl55 rfl rfl (.f 0 rfl) h3) (dv 3 rfl (v_load_s (xs := s1) (enc := eSym) ty114 rfl (.f 0 rfl) h3 rfl rfl rfl rfl rfl rfl rfl) ?_)
 refine dv 4 rfl vM (dv 5 rfl vM (ite_some hL1 ?_))
 intro h4 hL1
 refine dv 6 rfl (v_indexAddr_s (xs := s2) (enc := eSym) sl55 rfl rfl (.f 1 rfl) h4) (dv 7 rfl (v_load_s (xs := s2) (enc := eSym) ty114 rfl (.f 1 rfl) h4 rfl rfl rfl rfl rfl rfl rfl) (dv 8 rfl (v_agne 3 rfl rfl (eq114 ((at_ s1 t13).Kind) ((at_ s1 t13).Text) ((at_ s1 t13).Set.w0) ((at_ s1 t13).Set.w1) ((at_ s1 t13).Set.w2) ((at_ s1 t13).Set.w3) ((at_ s1 t13).Name) ((at_ s1 t13).Sep) ((at_ s2 t13).Kind) ((at_ s2 t13).Text) ((at_ s2 t13).Set.w0) ((at_ s2 t13).Set.w1) ((at_ s2 t13).Set.w2) ((at_ s2 t13).Set.w3) ((at_ s2 t13).Name) ((at_ s2 t13).Sep)) rfl guard114) (d_done_seq (by kernel_rfl) ?_)))
 refine cC hL1 (fun hL1 => ?_) (fun hL1 => ?_)
 refine c_seq (c_region (oV vA (o_seq (c_ret ?_))))
 cases hL1
 obtain rfl := lrf_ret hF
 exact sR
 refine c_skip (sat_wc (c_region (oV vB (oV vM (o_nil ?_)))))
 intro a w hs
 exact ⟨j, Nat.lt_succ_self j, IntKind.wrap .i64 (t13 + 1), hL1, st_le [] (lea rfl) rfl (subs [0, 1] rfl) a w hs⟩
 refine c_exit0 ?_
 cases hL1
 exact sK [] [0, 1] (hN1 () rfl)
 intro d1 hd
 subst hd
 replace hF := lrf_done hF
 refine sat_wc (c_seq (c_region (oV vA (o_seq (c_ret ?_)))))
 cases hF
 exact sR
theorem tri58 {k : Nat} {x_ : Prod} {y_ : Prod} {A1 : OA} {L1 C1 : Nat} {A2 : OA} {L2 C2 : Nat} {r : Bool} (hF : F.defs.Same_c1 k x_ y_ = some r) :
    Tri Tryz.prog 58 [.agg (vProd x_ A1 L1 C1).toArray, .agg (vProd y_ A2 L2 C2).toArray] [] [fS A1 L1 C1 8 eSym x_.Syms, fS A2 L2 C2 8 eSym y_.Syms] (oR (bV r)) := by
 unfold F.defs.Same_c1 at hF
 refine tri_intro (n := 38) Tryz.func58 rfl Tryz.ntmps58 rfl fun w X => c_seq (c_region (o_box rfl rfl rfl fun b => o_box rfl rfl rfl fun b1 => oV vA (o_seq (c_seq ?_))))
 refine c_cut (fun E N' => ∀ (t4 : Bool), F.defs.Same_c1_j1 t4 = some r → Sat E [(0, .agg (vProd x_ A1 L1 C1).toArray), (1, .agg (vProd y_ A2 L2 C2).toArray), (4, bV t4)] [] [fS A1 L1 C1 8 eSym x_.Syms, fS A2 L2 C2 8 eSym y_.Syms] N') (fun N1 hN1 => ?_) ?_
 refine c_region ((fD 0) (oV (vL 1 ty4) ((fD 0) (oV (vL 0 ty4) (oV (v_booleq rfl rfl Tryz.underlying4) (oV vM ?_))))))
 refine oS 10 hF (fun hF => ?_) (fun hF => ?_)
 refine oN ((fD 1) (oN (oV (vL 1 ty9) (oN ((fD 1) (oN (oV (vL 0 ty9) (oN (oV (v_streq rfl rfl) (oV vPt (oV vM ?_)))))))))))
 refine oS 17 hF (fun hF => ?_) (fun hF => ?_)
 refine oN ((fD 2) (oN (oV (vL 1 ty9) (oN ((fD 2) (oN (oV (vL 0 ty9) (oN (oV (v_streq rfl rfl) (oV vPt (oV vM ?_)))))))))))
 refine oS 24 hF (fun hF => ?_) (fun hF => ?_)
 refine oN ((fD 3) (oN (oV (vL 1 ty4) (oN ((fD 3) (oN (oV (vL 0 ty4) (oN (oV (v_booleq rfl rfl Tryz.underlying4) (oV vPt (oV vM ?_)))))))))))
 refine oS 31 hF (fun hF => ?_) (fun hF => ?_)
 refine oN ((fD 4) (oN (oV (vL 1 ty55) (oN ((fD 4) (oN (oV (vL 0 ty55) (oN ?_))))))))
 obtain ⟨v, h5, hF⟩ := bd hF
 refine o_callSB call59 rfl (lent_f 0 rfl (lent_f 1 rfl lent_nil)) (tri59 h5 :) rfl (oV vPt (oV vA (o_nil ?_)))
 exact sK [] [0, 1] (hN1 v hF)
 refine oF (oF (oF (oF (oF (oV vPf (oV vA (o_nil ?_)))))))
 exact sK [] [0, 1] (hN1 false hF)
 refine oF (oF (oF (oF (oF (oV vPf (oV vM (oF (oF (oF (oF (oF (oV vPf (oV vA (o_nil ?_))))))))))))))
 exact sK [] [0, 1] (hN1 false hF)
 refine oF (oF (oF (oF (oF (oV vPf (oV vM (oF (oF (oF (oF (oF (oV vPf (oV vM (oF (oF ?_)))))))))))))))
 refine oF (oF (oF (oV vPf (oV vA (o_nil ?_)))))
 exact sK [] [0, 1] (hN1 false hF)
 refine oF (oF (oF (oF (oF (oV vPf (oV vM (oF (oF (oF (oF (oF (oV vPf (oV vM (oF (oF ?_)))))))))))))))
 refine oF (oF (oF (oV vPf (oV vM (oF (oF (oF (oF (oF (oV vPf (oV vA (o_nil ?_))))))))))))
 exact sK [] [0, 1] (hN1 false hF)
 intro t4 hF
 unfold F.defs.Same_c1_j1 at hF
 refine sat_wc (c_ret ?_)
 cases hF
 exact sR
theorem tri57_58 {k : Nat} {s1 : List Prod} {s2 : List Prod} {A1 : OA} {L1 C1 : Nat} {A2 : OA} {L2 C2 : Nat} {r : Bool} (hF : F.slices.EqualFunc_f57_58 k s1 s2 = some r) :
    Tri Tryz.prog 57 [sl A1 L1 C1, sl A2 L2 C2, .func (.func 58) #[] #[]] [] [fS A1 L1 C1 5 eProd s1, fS A2 L2 C2 5 eProd s2] (oR (bV r)) := by
 unfold F.slices.EqualFunc_f57_58 at hF
 refine tri_intro (n := 32) Tryz.func57 rfl Tryz.ntmps57 rfl fun w X => c_seq (c_region (oV vA (o_seq (c_seq (c_seq (c_region (oV vM (oV (v_lenS (enc := eProd) s1 sl22 rfl (.f 0 rfl)) (oV vM (oV (v_lenS (enc := eProd) s2 sl22 rfl (.f 1 rfl)) (oV vB (o_seq ?_))))))))))))
 refine cC hF (fun hF => ?_) (fun hF => ?_)
 refine c_seq (c_region (oV vA (o_seq (c_ret ?_))))
 cases hF
 exact sR
 refine c_skip (sat_wc (c_seq (c_seq (c_region (oV vM (oV (v_lenS (enc := eProd) s1 sl22 rfl (.f 0 rfl)) (oV vM (o_seq ?_))))))))
 obtain ⟨o1, ho1, hF⟩ := bd hF
 refine c_cut (fun E N' => ∀ (d1 : Unit), o1 = .done d1 → Sat E [(0, sl A1 L1 C1), (1, sl A2 L2 C2), (6, bV false), (15, sl A1 L1 C1)] [] [fS A1 L1 C1 5 eProd s1, fS A2 L2 C2 5 eProd s2] N') (fun N1 hN1 => ?_) ?_
 refine c_block ?_
 refine c_loopE (fun E j a w => ∃ (t17 : Int), F.slices.EqualFunc_f57_58_l1 k s1 s2 j t17 = some o1 ∧ St E [(0, sl A1 L1 C1), (1, sl A2 L2 C2), (2, .func (.func 58) #[] #[]), (6, bV false), (15, sl A1 L1 C1), (16, iI (s1.length : Int)), (17, iI t17)] [] [fS A1 L1 C1 5 eProd s1, fS A2 L2 C2 5 eProd s2] a w) k ?_ ?_
 intro a w hs
 exact ⟨0, ho1, st_le [] (lea rfl) rfl (subs [0, 1] rfl) a w hs⟩
 rintro j a w ⟨t17, hL1, hs⟩
 rcases j with _ | j
 cases hL1
 refine wc_app hs ?_
 unfold F.slices.EqualFunc_f57_58_l1 at hL1
 refine c_seq (c_region (oV vB (o_seq (c_seq ?_))))
 refine cC hL1 (fun hL1 => ?_) (fun hL1 => ?_)
 refine c_skip (sat_wc (c_seq (c_block (c_seq (c_region (oV vM (ite_some hL1 ?_)))))))
 intro h3 hL1
 refine oV (v_indexAddr_s (xs := s1) (enc := eProd) sl22 rfl rfl (.f 0 rfl) h3) (o_load_s (xs := s1) (enc := eProd) ty57 rfl (.f 0 rfl) h3 rfl rfl rfl rfl rfl rfl ?_)
 intro A3 L3 C3
 refine o_alloc zero57 rfl rfl fun b => oV vA ((sT 0 ty57) (o_seq (c_seq (c_region ?_))))
 refine oV vM (oV vM (ite_some hL1 ?_))
 intro h4 hL1
 refine oV (v_indexAddr_s (xs := s2) (enc := eProd) sl22 rfl rfl (.f 2 rfl) h4) (o_load_s (xs := s2) (enc := eProd) ty57 rfl (.f 2 rfl) h4 rfl rfl rfl rfl rfl rfl ?_)
 intro A4 L4 C4
 refine o_alloc zero57 rfl rfl fun b1 => (sT 0 ty57) (o_seq (c_seq (c_region (oV vM (oV (vL 1 ty57) (oV (vL 0 ty57) ?_))))))
 obtain ⟨v, h5, hL1⟩ := bd hL1
 refine o_call [] call58 (cap := #[]) rfl rfl rfl (subs [1, 0] rfl) (by exact (tri58 h5 :)) rfl ?_
 rintro _ _ _ ⟨rfl, rfl, rfl⟩
 refine oV vN (o_seq ?_)
 refine cC hL1 (fun hL1 => ?_) (fun hL1 => ?_)
 refine c_seq (c_region (oV vA (o_seq (c_ret ?_))))
 cases hL1
 obtain rfl := lrf_ret hF
 exact sR
 refine c_skip (sat_wc (c_region (oV vB (oV vM (o_nil ?_)))))
 intro a w hs
 exact ⟨j, Nat.lt_succ_self j, IntKind.wrap .i64 (t17 + 1), hL1, st_le [] (lea rfl) rfl (subs [2, 3] rfl) a w hs⟩
 refine c_exit0 ?_
 cases hL1
 exact sK [] [0, 1] (hN1 () rfl)
 intro d1 hd
 subst hd
 replace hF := lrf_done hF
 refine sat_wc (c_seq (c_region (oV vA (o_seq (c_ret ?_)))))
 cases hF
 exact sR
end Go.Vc
