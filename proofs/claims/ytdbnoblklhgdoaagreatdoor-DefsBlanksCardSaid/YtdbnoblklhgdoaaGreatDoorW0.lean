import Derived.Test.YtdbnoblklhgdoaaGreatDoorVS
import Derived.Test.YtdbnoblklhgdoaaGreatDoorTT
set_option linter.unusedVariables false
set_option linter.unusedSimpArgs false
set_option maxRecDepth 8000
set_option maxHeartbeats 2000000
namespace Go.Vc
open Go Go.Proofs
variable {A1 A2 A3 A4 A5 A6 A7 A8 A9 A10 A11 A12 A13 A14 A15 A16 A17 : OA} {L1 C1 L2 C2 L3 C3 L4 C4 L5 C5 L6 C6 L7 C7 L8 C8 L9 C9 L10 C10 L11 C11 L12 C12 L13 C13 L14 C14 L15 C15 L16 C16 L17 C17 : Nat}
theorem tri47 {k : Nat} {s : Words_scanner} {b : Nat} {r : Words_scanner} (hF : F.words.scanner_skip k s = some r) :
    Tri Tryz.prog 47 [pt b] [.box b 102 (vWords_scanner s A1 L1 C1), rW A1 L1 C1 106 11 eWord s.out] [] (fun o H Φ => o = .ret (.tuple #[]) ∧ H = [.box b 102 (vWords_scanner r A1 L1 C1), rW A1 L1 C1 106 11 eWord s.out] ∧ Φ = []) := by
 unfold F.words.scanner_skip at hF
 refine tri_intro (n := 80) Tryz.func47 rfl Tryz.ntmps47 rfl fun w X => ?_
 obtain ⟨o1, ho1, hF⟩ := bd hF
 refine c_cut (fun E N' => ∀ (d1 : Int × Int × Int), o1 = .done d1 → Sat E [] [.box b 102 [sV s.text, iI d1.1, iI d1.2.1, iI d1.2.2, sl A1 L1 C1], rW A1 L1 C1 106 11 eWord s.out] [] N') (fun N1 hN1 => ?_) ?_
 refine c_block ?_
 refine c_loopE (fun E j a w => ∃ (at__ : Int) (line_ : Int) (top_ : Int), F.words.scanner_skip_l1 k s j at__ line_ top_ = some o1 ∧ St E [(0, pt b)] [.box b 102 [sV s.text, iI at__, iI line_, iI top_, sl A1 L1 C1], rW A1 L1 C1 106 11 eWord s.out] [] a w) k ?_ ?_
 exact lq [0, 0] [] fun a w hs => ⟨s.at_, s.line, s.top, ho1, hs⟩
 rintro j a w ⟨at__, line_, top_, hL1, hs⟩
 rcases j with _ | j
 cases hL1
 refine wc_app hs ?_
 unfold F.words.scanner_skip_l1 at hL1
 refine c_seq (c_seq (c_draw (n := 10) [0, 0] mixed rfl rfl (dv 0 rfl vM (dv 1 rfl vC (dv 2 rfl (vF 1) (dv 3 rfl (vL 0 ty3) (dv 4 rfl vM (dv 5 rfl vC (dv 6 rfl (vF 0) (dv 7 rfl (vL 0 ty9) (dv 8 rfl (v_len_str Tryz.underlying9 rfl) (dv 9 rfl vB (d_done_seq (by kernel_rfl) ?_)))))))))))))
 refine cC hL1 (fun hL1 => ?_) (fun hL1 => ?_)
 refine c_skip (sat_wc ?_)
 refine c_cut (fun E N' => ∀ (at__1 : Int) (line_1 : Int) (top_1 : Int), F.words.scanner_skip_j2 (F.words.scanner_skip_l1 k s j) at__1 line_1 top_1 = some o1 → Sat E [(0, pt b), (20, iB (sAt s.text at__))] [.box b 102 [sV s.text, iI at__1, iI line_1, iI top_1, sl A1 L1 C1], rW A1 L1 C1 106 11 eWord s.out] [] N') (fun N2 hN2 => ?_) ?_
 refine c_block (c_seq (c_seq (c_draw (n := 9) [0, 0] mixed rfl rfl (dv 0 rfl vM (dv 1 rfl vC (dv 2 rfl (vF 0) (dv 3 rfl (vL 0 ty9) (dv 4 rfl vM (dv 5 rfl vC (dv 6 rfl (vF 1) (dv 7 rfl (vL 0 ty3) (ite_some hL1 ?_))))))))))))
 intro h2 hL1
 refine dv 8 rfl (v_sindex Tryz.underlying9 rfl rfl h2) (d_done_seq (by kernel_rfl) ?_)
 refine c_cut (fun E N' => ∀ (line_2 : Int) (top_2 : Int), F.words.scanner_skip_j3 (F.words.scanner_skip_l1 k s j) at__ line_2 top_2 = some o1 → Sat E [(0, pt b), (20, iB (sAt s.text at__))] [.box b 102 [sV s.text, iI at__, iI line_2, iI top_2, sl A1 L1 C1], rW A1 L1 C1 106 11 eWord s.out] [] N') (fun N3 hN3 => ?_) ?_
 refine c_block (cR (oV vB (oV vA (o_seq ?_))))
 refine c_cut (fun E N' => ∀ (line_3 : Int) (top_3 : Int), F.words.scanner_skip_j4 (F.words.scanner_skip_l1 k s j) at__ line_3 top_3 = some o1 → Sat E [(0, pt b), (20, iB (sAt s.text at__))] [.box b 102 [sV s.text, iI at__, iI line_3, iI top_3, sl A1 L1 C1], rW A1 L1 C1 106 11 eWord s.out] [] N') (fun N4 hN4 => ?_) ?_
 refine cC hL1 (fun hL1 => ?_) (fun hL1 => ?_)
 refine cR (oV vM (oV vC ((fD 2) (oV (vL 0 ty3) (oV vB (oV vC ((fD 2) ((sT 0 ty3) (o_seq (c_region (oV vM (oV vM (oV vC ((fD 1) ?_))))))))))))))
 refine oV (vL 0 ty3) (oV vB (oV vC ((fD 3) ((sT 0 ty3) (o_nil ?_)))))
 exact sK [0, 0] [] (hN4 (IntKind.wrap .i64 (line_ + 1)) (IntKind.wrap .i64 (at__ + 1)) hL1)
 refine c_seq (cR (oV vB (oV vA (o_seq ?_))))
 refine cT (fun E H Φ N' => ∀ (t38 : Bool), F.words.scanner_skip_j5 k (F.words.scanner_skip_l1 k s j) at__ line_ top_ s t38 = some o1 → Sat E [(0, pt b), (20, iB (sAt s.text at__)), (38, bV t38)] H [] N') (fun N7 hN7 => ?_) ?_
 refine cC hL1 (fun hL1 => ?_) (fun hL1 => ?_)
 refine c_skip ?_
 exact sK [0, 0] [] (hN7 ((sAt s.text at__) == 32) hL1)
 refine cR (oV vB (oV vA (o_seq ?_)))
 refine cT (fun E H Φ N' => ∀ (t381 : Bool), F.words.scanner_skip_j8 k (F.words.scanner_skip_l1 k s j) at__ line_ top_ s t381 = some o1 → Sat E [(0, pt b), (20, iB (sAt s.text at__)), (38, bV t381)] H [] N') (fun N8 hN8 => ?_) ?_
 refine cC hL1 (fun hL1 => ?_) (fun hL1 => ?_)
 refine c_skip ?_
 exact sK [0, 0] [] (hN8 ((sAt s.text at__) == 9) hL1)
 refine c_region (oV vB (oV vA (o_nil ?_)))
 exact sK [0, 0] [] (hN8 ((sAt s.text at__) == 13) hL1)
 intro t381 hL1
 unfold F.words.scanner_skip_j8 at hL1
 exact sK [0, 0] [] (hN7 t381 hL1)
 intro t38 hL1
 unfold F.words.scanner_skip_j5 at hL1
 refine sat_wc ?_
 refine cC hL1 (fun hL1 => ?_) (fun hL1 => ?_)
 refine c_skip ?_
 exact sK [0, 0] [] (hN4 line_ top_ hL1)
 refine cR (oV vB (oV vA (o_seq ?_)))
 refine cC hL1 (fun hL1 => ?_) (fun hL1 => ?_)
 refine c_seq ?_
 obtain ⟨o6, ho6, hL1⟩ := bd hL1
 refine c_cut (fun E N' => Sat E [(0, pt b), (20, iB (sAt s.text at__)), (38, bV t38)] [.box b 102 [sV s.text, iI o6, iI line_, iI top_, sl A1 L1 C1], rW A1 L1 C1 106 11 eWord s.out] [] N') (fun N6 hN6 => ?_) ?_
 refine c_block ?_
 refine c_loopE (fun E j a w => ∃ (at__2 : Int), F.words.scanner_skip_l6 s j at__2 = some o6 ∧ St E [(0, pt b), (20, iB (sAt s.text at__)), (38, bV t38)] [.box b 102 [sV s.text, iI at__2, iI line_, iI top_, sl A1 L1 C1], rW A1 L1 C1 106 11 eWord s.out] [] a w) k ?_ ?_
 exact lq [0, 0] [] fun a w hs => ⟨at__, ho6, hs⟩
 rintro j a w ⟨at__2, hL6, hs⟩
 rcases j with _ | j
 cases hL6
 refine wc_app hs ?_
 unfold F.words.scanner_skip_l6 at hL6
 refine c_seq (c_seq ?_)
 refine cT (fun E H Φ N' => ∀ (t65 : Bool), F.words.scanner_skip_j7 (F.words.scanner_skip_l6 s j) at__2 t65 = some o6 → Sat E [(0, pt b), (20, iB (sAt s.text at__)), (38, bV t38), (65, bV t65)] H [] N') (fun N7 hN7 => ?_) ?_
 refine c_draw (n := 22) [0, 0] mixed rfl rfl (dv 0 rfl vM (dv 1 rfl vC (dv 2 rfl (vF 1) (dv 3 rfl (vL 0 ty3) (dv 4 rfl vM (dv 5 rfl vC (dv 6 rfl (vF 0) (dv 7 rfl (vL 0 ty9) (dv 8 rfl (v_len_str Tryz.underlying9 rfl) (dv 9 rfl vB (dv 10 rfl vM ?_)))))))))))
 refine d_split (t := 54) rfl (fun h7 => ?_) (fun h7 => ?_)
 replace hL6 := ite_t h7 hL6
 refine dw 11 rfl rfl rfl vM (dw 12 rfl rfl rfl vC (dw 13 rfl rfl rfl (vF 0) (dw 14 rfl rfl rfl (vL 0 ty9) (dw 15 rfl rfl rfl vM (dw 16 rfl rfl rfl vC (dw 17 rfl rfl rfl (vF 1) (dw 18 rfl rfl rfl (vL 0 ty3) (ite_some hL6 ?_))))))))
 intro h8 hL6
 refine dw 19 rfl rfl rfl (v_sindex Tryz.underlying9 rfl rfl h8) (dw 20 rfl rfl rfl vB (dv 21 rfl vPt (dD ?_)))
 exact sK [0, 0] [] (hN7 ((sAt s.text at__2) != 10) hL6)
 replace hL6 := ite_f h7 hL6
 refine dF 11 rfl (dF 12 rfl (dF 13 rfl (dF 14 rfl (dF 15 rfl (dF 16 rfl (dF 17 rfl (dF 18 rfl (dF 19 rfl (dF 20 rfl (dv 21 rfl vPf (dD ?_)))))))))))
 exact sK [0, 0] [] (hN7 false hL6)
 intro t65 hL6
 unfold F.words.scanner_skip_j7 at hL6
 refine sat_wc ?_
 refine cC hL6 (fun hL6 => ?_) (fun hL6 => ?_)
 refine c_skip (sat_wc (c_block (c_region (oV vM (oV vC ((fD 1) (oV (vL 0 ty3) (oV vB (oV vC ((fD 1) ((sT 0 ty3) (o_nil ?_))))))))))))
 exact lp [0, 0] [] fun a w hs => ⟨IntKind.wrap .i64 (at__2 + 1), hL6, hs⟩
 refine c_exit0 ?_
 cases hL6
 exact sK [0, 0] [] (hN6)
 refine sat_wc (c_exit1 ?_)
 exact sK [0, 0] [] (hN2 o6 line_ top_ hL1)
 refine c_ret ?_
 cases hL1
 obtain rfl := lrf_ret hF
 refine s_ret0 rfl fun a w hs => fin_sel hs [0, 0] ⟨rfl, rfl, rfl⟩ rfl sub_nil
 intro line_3 top_3 hL1
 unfold F.words.scanner_skip_j4 at hL1
 exact sK [0, 0] [] (hN3 line_3 top_3 hL1)
 intro line_2 top_2 hL1
 unfold F.words.scanner_skip_j3 at hL1
 refine sat_wc (c_region (oV vM (oV vC ((fD 1) (oV (vL 0 ty3) (oV vB (oV vC ((fD 1) ((sT 0 ty3) (o_nil ?_))))))))))
 exact sK [0, 0] [] (hN2 (IntKind.wrap .i64 (at__ + 1)) line_2 top_2 hL1)
 intro at__1 line_1 top_1 hL1
 unfold F.words.scanner_skip_j2 at hL1
 exact lp [0, 0] [] fun a w hs => ⟨at__1, line_1, top_1, hL1, hs⟩
 refine c_exit0 ?_
 cases hL1
 refine s_st ?_ (hN1 (at__, line_, top_) rfl)
 exact st_le [0, 0] le_nil rfl sub_nil
 intro d1 hd
 subst hd
 replace hF := lrf_done hF
 cases hF
 refine s_ret0 rfl fun a w hs => fin_sel hs [0, 0] ⟨rfl, rfl, rfl⟩ rfl sub_nil
theorem tri43 {r_ : Int} {r : Bool} (hF : F.words.great r_ = some r) :
    Tri Tryz.prog 43 [.int .i32 r_] [] [] (oR (bV r)) := by
 unfold F.words.great at hF
 refine tri_intro (n := 9) Tryz.func43 rfl Tryz.ntmps43 rfl fun w X => cR (oV vA (o_seq (cR (oV vM (oV vB (oV vM ?_))))))
 refine oS 5 hF (fun hF => ?_) (fun hF => ?_)
 refine oN (oV vM (oN (oV vB (oV vPt (oV vA (o_seq (c_ret ?_)))))))
 cases hF
 exact sR
 refine oF (oF (oV vPf (oV vA (o_seq (c_ret ?_)))))
 cases hF
 exact sR
theorem tri96 {r_ : Int} {r : Bool} (hF : F.words.small r_ = some r) :
    Tri Tryz.prog 96 [.int .i32 r_] [] [] (oR (bV r)) := by
 unfold F.words.small at hF
 refine tri_intro (n := 9) Tryz.func96 rfl Tryz.ntmps96 rfl fun w X => cR (oV vA (o_seq (cR (oV vM (oV vB (oV vM ?_))))))
 refine oS 5 hF (fun hF => ?_) (fun hF => ?_)
 refine oN (oV vM (oN (oV vB (oV vPt (oV vA (o_seq (c_ret ?_)))))))
 cases hF
 exact sR
 refine oF (oF (oV vPf (oV vA (o_seq (c_ret ?_)))))
 cases hF
 exact sR
theorem tri97 {r_ : Int} {r : Bool} (hF : F.words.digit r_ = some r) :
    Tri Tryz.prog 97 [.int .i32 r_] [] [] (oR (bV r)) := by
 unfold F.words.digit at hF
 refine tri_intro (n := 9) Tryz.func97 rfl Tryz.ntmps97 rfl fun w X => cR (oV vA (o_seq (cR (oV vM (oV vB (oV vM ?_))))))
 refine oS 5 hF (fun hF => ?_) (fun hF => ?_)
 refine oN (oV vM (oN (oV vB (oV vPt (oV vA (o_seq (c_ret ?_)))))))
 cases hF
 exact sR
 refine oF (oF (oV vPf (oV vA (o_seq (c_ret ?_)))))
 cases hF
 exact sR
theorem tri44 {k : Nat} {s : Tx} {r : Int} (hF : F.words.run k s = some r) :
    Tri Tryz.prog 44 [sV s] [] [] (oR (iI r)) := by
 unfold F.words.run at hF
 refine tri_intro (n := 27) Tryz.func44 rfl Tryz.ntmps44 rfl fun w X => cR (oV vA (o_seq (c_seq (cR (oV vM (o_range Tryz.underlying9 rfl rfl ?_))))))
 intro b
 refine o_seq ?_
 obtain ⟨o1, ho1, hF⟩ := bd hF
 refine c_cut (fun E N' => ∀ (d1 : Unit), o1 = .done d1 → Sat E [(0, sV s), (2, iI 0)] [] [] N') (fun N1 hN1 => ?_) ?_
 refine c_block ?_
 refine c_loopE (fun E j a w => ∃ (v : Int), F.words.run_l1 s j v = some o1 ∧ St E [(0, sV s), (2, iI 0), (6, pt b)] [.itr b s v] [] a w) k ?_ ?_
 exact lq [0] [] fun a w hs => ⟨0, ho1, hs⟩
 rintro j a w ⟨v, hL1, hs⟩
 rcases j with _ | j
 cases hL1
 refine wc_app hs ?_
 unfold F.words.run_l1 at hL1
 refine cR ?_
 refine o_next 0 rfl rfl rfl (fun h1 => ?_) (fun h1 => ?_)
 replace hL1 := ite_t h1 hL1
 refine oV vX (o_seq (c_seq ?_))
 refine c_cond rfl (fun _ => ?_) (fun h => Bool.noConfusion h)
 refine c_skip (sat_wc ?_)
 refine cT (fun E H Φ N' => F.words.run_j2 (F.words.run_l1 s j) v s = some o1 → Sat E [(0, sV s), (2, iI 0), (3, iI v), (4, .int .i32 (runeAt s v)), (6, pt b), (7, .tuple #[bV true, iI v, .int .i32 (runeAt s v)])] H [] N') (fun N2 hN2 => ?_) ?_
 refine c_block (cR (oV vX (oV vX (oV vA (oV vA (o_seq (c_seq ?_)))))))
 refine cT (fun E H Φ N' => ∀ (t23 : Bool), F.words.run_j3 v (F.words.run_l1 s j) s t23 = some o1 → Sat E [(0, sV s), (2, iI 0), (3, iI v), (4, .int .i32 (runeAt s v)), (6, pt b), (7, .tuple #[bV true, iI v, .int .i32 (runeAt s v)]), (23, bV t23)] H [] N') (fun N3 hN3 => ?_) ?_
 refine c_region (oV vM ?_)
 obtain ⟨v1, h3, hL1⟩ := bd hL1
 refine o_callSB call43 rfl lent_nil (tri43 h3 :) rfl (oV vN (oV vM ?_))
 refine oS 14 hL1 (fun hL1 => ?_) (fun hL1 => ?_)
 refine oN (oV vM (oN ?_))
 obtain ⟨v2, h5, hL1⟩ := bd hL1
 refine o_callSB call96 rfl lent_nil (tri96 h5 :) rfl (oN (oV vN (oV vPt (oV vM ?_))))
 refine oS 19 hL1 (fun hL1 => ?_) (fun hL1 => ?_)
 refine oN (oV vM (oN ?_))
 obtain ⟨v3, h7, hL1⟩ := bd hL1
 refine o_callSB call97 rfl lent_nil (tri97 h7 :) rfl (oN (oV vN (oV vPt (o_nil ?_))))
 exact sK [0] [] (hN3 (!v3) hL1)
 refine oF (oF (oF (oV vPf (o_nil ?_))))
 exact sK [0] [] (hN3 false hL1)
 refine oF (oF (oF (oV vPf (oV vM (oF (oF (oF (oV vPf (o_nil ?_)))))))))
 exact sK [0] [] (hN3 false hL1)
 intro t23 hL1
 unfold F.words.run_j3 at hL1
 refine sat_wc ?_
 refine cC hL1 (fun hL1 => ?_) (fun hL1 => ?_)
 refine cR (oV vM (oV vA (o_seq (c_ret ?_))))
 cases hL1
 obtain rfl := lrf_ret hF
 exact sR
 refine c_skip ?_
 exact sK [0] [] (hN2 hL1)
 intro hL1
 unfold F.words.run_j2 at hL1
 exact lp [0] [] fun a w hs => ⟨(v + runeLen s v), hL1, hs⟩
 replace hL1 := ite_f h1 hL1
 refine oV vX (o_seq (c_seq ?_))
 refine c_cond rfl (fun h => Bool.noConfusion h) (fun _ => ?_)
 refine c_exit0 ?_
 cases hL1
 exact sK [] [] (hN1 () rfl)
 intro d1 hd
 subst hd
 replace hF := lrf_done hF
 refine sat_wc (cR (oV vM (oV (v_len_str Tryz.underlying9 rfl) (oV vA (o_seq (c_ret ?_))))))
 cases hF
 exact sR
theorem tri49 {s : Words_scanner} {w_ : Word} {end_ : Int} {b : Nat} {r : Words_scanner} (hF : F.words.scanner_put s w_ end_ = some r) :
    Tri Tryz.prog 49 [pt b, .agg (vWord w_ A2 L2 C2).toArray, iI end_] [.box b 102 (vWords_scanner s A1 L1 C1), rW A1 L1 C1 106 11 eWord s.out] [fS A2 L2 C2 1 eU8 w_.Bytes] (fun o H Φ => ∃ (A5 : OA) (L5 C5 : Nat), o = .ret (.tuple #[]) ∧ H = [.box b 102 (vWords_scanner r A5 L5 C5), rW A5 L5 C5 106 11 eWord r.out] ∧ Φ = []) := by
 unfold F.words.scanner_put at hF
 refine tri_intro (n := 52) Tryz.func49 rfl Tryz.ntmps49 rfl fun w X => cR (o_box rfl rfl rfl fun b1 => o_seq (c_seq (c_draw (n := 36) [1, 1] mixed rfl rfl (dv 0 rfl vM (dv 1 rfl vC (dv 2 rfl (vF 0) (dv 3 rfl (vL 0 ty9) (dv 4 rfl vM (dv 5 rfl vC (dv 6 rfl (vF 1) (dv 7 rfl (vL 0 ty3) (dv 8 rfl vM ?_))))))))))))
 refine ite_some hF fun h1 hF => dv 9 rfl (v_strslice Tryz.underlying9 rfl rfl rfl rfl rfl h1) (dv 10 rfl vM (dv 11 rfl vC (dv 12 rfl (vF 1) (dv 13 rfl (vL 0 ty3) (dv 14 rfl vM (dv 15 rfl vC (dv 16 rfl (vF 2) (dv 17 rfl (vL 0 ty3) (dv 18 rfl vM (dv 19 rfl vC (dv 20 rfl (vF 1) (dv 21 rfl (vL 0 ty3) (dv 22 rfl vM (dv 23 rfl vC ?_))))))))))))))
 refine dv 24 rfl (vF 3) (dv 25 rfl (vL 0 ty3) (dv 26 rfl vB (dv 27 rfl vB (dv 28 rfl (vF 1) (dO 29 rfl ((sT 0 ty9) (dN [1, 1] 0 (dv 30 rfl (vF 8) (dO 31 rfl ((sT 0 ty3) (dN [1, 1] 0 (dv 32 rfl (vF 9) (dO 33 rfl ((sT 0 ty3) (dN [1, 1] 0 ?_)))))))))))))))
 refine dv 34 rfl (vF 10) (dO 35 rfl ((sT 0 ty3) (dN [1, 1] 0 (d_done_seq (by kernel_rfl) (c_seq (c_draw (n := 11) [0] mixed rfl rfl (dv 0 rfl vM (dv 1 rfl vM (dv 2 rfl vC (dv 3 rfl (vF 4) (dv 5 rfl (vL 0 ty106) ?_)))))))))))
 refine d_all [4, 6] (by kernel_rfl) (by simp) ⟨⟨_, rfl, ?_⟩, ⟨_, rfl, ?_⟩, trivial⟩
 refine oV (vL 1 ty50) (dN [0] 0 (dO 6 rfl (o_buildSlice (enc := eWord) ([(Word.mk w_.Kind (sub s.text s.at_ end_) w_.Bytes w_.Set w_.N_ s.at_ s.line (IntKind.wrap .i64 ((IntKind.wrap .i64 (s.at_ - s.top)) + 1)))] : List Word) [iI w_.Kind, sV (sub s.text s.at_ end_), sl A2 L2 C2, iU w_.Set.w0, iU w_.Set.w1, iU w_.Set.w2, iU w_.Set.w3, iI w_.N_, iI s.at_, iI s.line, iI (IntKind.wrap .i64 ((IntKind.wrap .i64 (s.at_ - s.top)) + 1))] sl50 rfl (fun _ => by kernel_rfl) rfl rfl rfl (.s rfl (.s rfl (.f 0 rfl (.s rfl (.s rfl (.s rfl (.s rfl (.s rfl (.s rfl (.s rfl (.s rfl (.nil)))))))))))) rfl ?_)))
 intro A3 L3 C3
 refine dN [1] 0 (dO 7 rfl (ite_some hF ?_))
 intro h2 hF
 refine ite_some hF fun h3 hF => o_append (enc := eWord) (xs := s.out) (ys := ([(Word.mk w_.Kind (sub s.text s.at_ end_) w_.Bytes w_.Set w_.N_ s.at_ s.line (IntKind.wrap .i64 ((IntKind.wrap .i64 (s.at_ - s.top)) + 1)))] : List Word)) 3 sl50 rfl rfl rfl (.r 0 _ rfl) h2 h3 rfl fun A4 L4 C4 => dN [1] 0 (dv 8 rfl vC (dv 9 rfl (vF 4) (dO 10 rfl ((sT 2 ty50) (dN [1] 0 (d_done_seq (by kernel_rfl) ?_))))))
 refine c_region (oV vM (oV vM (oV vC ((fD 1) ((sT 2 ty3) (o_nil ?_))))))
 cases hF
 refine s_ret0 rfl fun a w hs => fin_sel hs [2, 2] ⟨A4, L4, C4, rfl, rfl, rfl⟩ rfl sub_nil
 refine o_buildSlice (enc := eWord) ([(Word.mk w_.Kind (sub s.text s.at_ end_) w_.Bytes w_.Set w_.N_ s.at_ s.line (IntKind.wrap .i64 ((IntKind.wrap .i64 (s.at_ - s.top)) + 1)))] : List Word) [iI w_.Kind, sV (sub s.text s.at_ end_), sl A2 L2 C2, iU w_.Set.w0, iU w_.Set.w1, iU w_.Set.w2, iU w_.Set.w3, iI w_.N_, iI s.at_, iI s.line, iI (IntKind.wrap .i64 ((IntKind.wrap .i64 (s.at_ - s.top)) + 1))] sl50 rfl (fun _ => by kernel_rfl) rfl rfl rfl (.s rfl (.s rfl (.f 0 rfl (.s rfl (.s rfl (.s rfl (.s rfl (.s rfl (.s rfl (.s rfl (.s rfl (.nil)))))))))))) rfl fun A3 L3 C3 => dN [1] 0 (dO 4 rfl (oV (vL 2 ty50) (dN [1] 0 (dO 7 rfl (ite_some hF ?_)))))
 intro h2 hF
 refine ite_some hF fun h3 hF => o_append (enc := eWord) (xs := s.out) (ys := ([(Word.mk w_.Kind (sub s.text s.at_ end_) w_.Bytes w_.Set w_.N_ s.at_ s.line (IntKind.wrap .i64 ((IntKind.wrap .i64 (s.at_ - s.top)) + 1)))] : List Word)) 3 sl50 rfl rfl rfl (.r 0 _ rfl) h2 h3 rfl fun A4 L4 C4 => dN [1] 0 (dv 8 rfl vC (dv 9 rfl (vF 4) (dO 10 rfl ((sT 2 ty50) (dN [1] 0 (d_done_seq (by kernel_rfl) ?_))))))
 refine c_region (oV vM (oV vM (oV vC ((fD 1) ((sT 2 ty3) (o_nil ?_))))))
 cases hF
 refine s_ret0 rfl fun a w hs => fin_sel hs [2, 2] ⟨A4, L4, C4, rfl, rfl, rfl⟩ rfl sub_nil
theorem tri99 {k : Nat} {s : Words_scanner} {b : Nat} {r : Int × Words_scanner} (hF : F.words.scanner_number k s = some r) :
    Tri Tryz.prog 99 [pt b] [.box b 102 (vWords_scanner s A1 L1 C1), rW A1 L1 C1 106 11 eWord s.out] [] (fun o H Φ => ∃ (A3 : OA) (L3 C3 : Nat), o = .ret (iI r.1) ∧ H = [.box b 102 (vWords_scanner r.2 A3 L3 C3), rW A3 L3 C3 106 11 eWord r.2.out] ∧ Φ = []) := by
 unfold F.words.scanner_number at hF
 refine tri_intro (n := 70) Tryz.func99 rfl Tryz.ntmps99 rfl fun w X => cR (oV vA (o_seq (cR (oV vM (oV vC ((fD 1) (oV (vL 0 ty3) (oV vA (o_seq (cR (oV vA ?_)))))))))))
 refine o_seq (c_seq ?_)
 obtain ⟨o1, ho1, hF⟩ := bd hF
 refine cT (fun E H Φ N' => ∀ (d1 : Int × Int), o1 = .done d1 → Sat E [(0, pt b), (2, iI 0), (3, iI d1.1), (4, iI d1.2)] H [] N') (fun N1 hN1 => ?_) ?_
 refine c_block ?_
 refine cL (fun E H Φ j a w => ∃ (end_ : Int) (n : Int), F.words.scanner_number_l1 s j end_ n = some o1 ∧ St E [(0, pt b), (2, iI 0), (3, iI end_), (4, iI n)] H [] a w) k ?_ ?_
 exact lq [0, 0] [] fun a w hs => ⟨s.at_, 0, ho1, hs⟩
 rintro j a w ⟨end_, n, hL1, hs⟩
 rcases j with _ | j
 cases hL1
 refine wc_app hs ?_
 unfold F.words.scanner_number_l1 at hL1
 refine c_seq (c_seq ?_)
 refine cT (fun E H Φ N' => ∀ (t25 : Bool), F.words.scanner_number_j2 end_ s (F.words.scanner_number_l1 s j) n t25 = some o1 → Sat E [(0, pt b), (2, iI 0), (3, iI end_), (4, iI n), (25, bV t25)] H [] N') (fun N2 hN2 => ?_) ?_
 refine c_region (oV vM (oV vM (oV vC ((fD 0) (oV (vL 0 ty9) (oV (v_len_str Tryz.underlying9 rfl) (oV vB (oV vM ?_))))))))
 refine oS 16 hL1 (fun hL1 => ?_) (fun hL1 => ?_)
 refine oN (oV vM (oN (oV vC (oN ((fD 0) (oN (oV (vL 0 ty9) (oN (oV vM (oN (ite_some hL1 ?_)))))))))))
 intro h5 hL1
 refine oV (v_sindex Tryz.underlying9 rfl rfl h5) (oN (oV (v_convert (v := .int .i32 (IntKind.wrap .i32 (sAt s.text end_))) rfl (fun _ => by kernel_rfl)) (oN ?_)))
 obtain ⟨v, h6, hL1⟩ := bd hL1
 refine o_callSB call97 rfl lent_nil (tri97 h6 :) rfl (oV vPt (o_nil ?_))
 exact sK [0, 0] [] (hN2 v hL1)
 refine oF (oF (oF (oF (oF (oF (oF (oF (oV vPf (o_nil ?_)))))))))
 exact sK [0, 0] [] (hN2 false hL1)
 intro t25 hL1
 unfold F.words.scanner_number_j2 at hL1
 refine sat_wc ?_
 refine cC hL1 (fun hL1 => ?_) (fun hL1 => ?_)
 refine c_skip (sat_wc (c_block (c_seq (cR (oV vM (oV vM (oV vC ((fD 1) (oV (vL 0 ty3) (oV vB (oV vB (o_seq ?_))))))))))))
 refine cC hL1 (fun hL1 => ?_) (fun hL1 => ?_)
 refine cR (oV vA (o_seq (c_ret ?_)))
 cases hL1
 obtain rfl := lrf_ret hF
 refine s_ret1 rfl (r_tmp rfl) fun a w hs => fin_sel hs [0, 0] ⟨A1, L1, C1, rfl, rfl, rfl⟩ rfl sub_nil
 refine c_skip (sat_wc (cR (oV vM (oV vB (oV vM (oV vC ((fD 0) (oV (vL 0 ty9) (oV vM (ite_some hL1 ?_))))))))))
 intro h3 hL1
 refine oV (v_sindex Tryz.underlying9 rfl rfl h3) (oV vB (oV (v_convert (v := iI (IntKind.wrap .i64 (IntKind.wrap .u8 ((sAt s.text end_) - 48)))) rfl (fun _ => by kernel_rfl)) (oV vB ?_)))
 refine oV vA (o_seq (c_region (oV vM (oV vB (oV vA (o_nil ?_))))))
 exact lp [0, 0] [] fun a w hs => ⟨IntKind.wrap .i64 (end_ + 1), IntKind.wrap .i64 ((IntKind.wrap .i64 (10 * n)) + (IntKind.wrap .i64 (IntKind.wrap .u8 ((sAt s.text end_) - 48)))), hL1, hs⟩
 refine c_exit0 ?_
 cases hL1
 exact sK [0, 0] [] (hN1 (end_, n) rfl)
 intro d1 hd
 subst hd
 replace hF := lrf_done hF
 refine sat_wc (c_seq (c_seq ?_))
 refine cT (fun E H Φ N' => ∀ (t64 : Bool), F.words.scanner_number_j3 s d1 t64 = some r → Sat E [(0, pt b), (2, iI 0), (3, iI d1.1), (4, iI d1.2), (64, bV t64)] H [] N') (fun N3 hN3 => ?_) ?_
 refine c_draw (n := 19) [0, 0] mixed rfl rfl (dv 0 rfl vM (dv 1 rfl vC (dv 2 rfl (vF 0) (dv 3 rfl (vL 0 ty9) (dv 4 rfl vM (dv 5 rfl vC (dv 6 rfl (vF 1) (dv 7 rfl (vL 0 ty3) (ite_some hF ?_)))))))))
 intro h9 hF
 refine dv 8 rfl (v_sindex Tryz.underlying9 rfl rfl h9) (dv 9 rfl vB (dv 10 rfl vM ?_))
 refine d_split (t := 56) rfl (fun h10 => ?_) (fun h10 => ?_)
 replace hF := ite_t h10 hF
 refine dw 11 rfl rfl rfl vM (dw 12 rfl rfl rfl vM (dw 13 rfl rfl rfl vC (dw 14 rfl rfl rfl (vF 1) (dw 15 rfl rfl rfl (vL 0 ty3) (dw 16 rfl rfl rfl vB (dw 17 rfl rfl rfl vB (dv 18 rfl vPt (dD ?_))))))))
 exact sK [0, 0] [] (hN3 (decide ((IntKind.wrap .i64 (s.at_ + 1)) < d1.1)) hF)
 replace hF := ite_f h10 hF
 refine dF 11 rfl (dF 12 rfl (dF 13 rfl (dF 14 rfl (dF 15 rfl (dF 16 rfl (dF 17 rfl (dv 18 rfl vPf (dD ?_))))))))
 exact sK [0, 0] [] (hN3 false hF)
 intro t64 hF
 unfold F.words.scanner_number_j3 at hF
 refine sat_wc ?_
 refine cC hF (fun hF => ?_) (fun hF => ?_)
 refine cR (oV vA (o_seq (c_ret ?_)))
 cases hF
 refine s_ret1 rfl (r_tmp rfl) fun a w hs => fin_sel hs [0, 0] ⟨A1, L1, C1, rfl, rfl, rfl⟩ rfl sub_nil
 refine c_skip (sat_wc (cR (oV vM (oV vM (oV (vU (.agg #[iI 3, sV ([] : Tx), nS, iU 0, iU 0, iU 0, iU 0, iI d1.2, iI 0, iI 0, iI 0])) (oV vM ?_))))))
 obtain ⟨v1, h8, hF⟩ := bd hF
 refine o_st (st_nilfact 1) (ocl [0, 0] call49 rfl rfl (subs [0] rfl) (tri49 h8 :) ?_)
 rintro _ _ _ ⟨A2, L2, C2, rfl, rfl, rfl⟩
 refine o_seq (cR (oV vA (o_seq (c_ret ?_))))
 cases hF
 refine s_ret1 rfl (r_tmp rfl) fun a w hs => fin_sel hs [0, 0] ⟨A2, L2, C2, rfl, rfl, rfl⟩ rfl sub_nil
theorem tri136 {c : Int} {r : Int} (hF : F.words.value c = some r) :
    Tri Tryz.prog 136 [iB c] [] [] (oR (iI r)) := by
 unfold F.words.value at hF
 refine tri_intro (n := 35) Tryz.func136 rfl Tryz.ntmps136 rfl fun w X => cR (oV vA (o_seq (c_seq ?_)))
 refine c_cut (fun E N' => F.words.value_j1 = some r → Sat E [(2, iI 0)] [] [] N') (fun N1 hN1 => ?_) ?_
 refine c_block (c_seq ?_)
 refine c_cut (fun E N' => ∀ (t3 : Bool), F.words.value_j2 c t3 = some r → Sat E [(0, iB c), (2, iI 0), (3, bV t3)] [] [] N') (fun N5 hN5 => ?_) ?_
 refine c_region (oV vM (oV vB (oV vM ?_)))
 refine oS 6 hF (fun hF => ?_) (fun hF => ?_)
 refine oN (oV vM (oN (oV vB (oV vPt (oV vA (o_nil ?_))))))
 exact sK [] [] (hN5 (decide (c ≤ 57)) hF)
 refine oF (oF (oV vPf (oV vA (o_nil ?_))))
 exact sK [] [] (hN5 false hF)
 intro t3 hF
 unfold F.words.value_j2 at hF
 refine sat_wc ?_
 refine c_cut (fun E N' => F.words.value_j3 = some r → Sat E [(0, iB c), (2, iI 0)] [] [] N') (fun N3 hN3 => ?_) ?_
 refine cC hF (fun hF => ?_) (fun hF => ?_)
 refine cR (oV vM (oV vB (oV (v_convert (v := iI (IntKind.wrap .i64 (IntKind.wrap .u8 (c - 48)))) rfl (fun _ => by kernel_rfl)) (oV vA (o_seq (c_ret ?_))))))
 cases hF
 exact sR
 refine c_seq ?_
 refine c_cut (fun E N' => ∀ (t13 : Bool), F.words.value_j4 c t13 = some r → Sat E [(0, iB c), (2, iI 0), (13, bV t13)] [] [] N') (fun N5 hN5 => ?_) ?_
 refine c_region (oV vM (oV vB (oV vM ?_)))
 refine oS 16 hF (fun hF => ?_) (fun hF => ?_)
 refine oN (oV vM (oN (oV vB (oV vPt (oV vA (o_nil ?_))))))
 exact sK [] [] (hN5 (decide (c ≤ 102)) hF)
 refine oF (oF (oV vPf (oV vA (o_nil ?_))))
 exact sK [] [] (hN5 false hF)
 intro t13 hF
 unfold F.words.value_j4 at hF
 refine sat_wc ?_
 refine cC hF (fun hF => ?_) (fun hF => ?_)
 refine cR (oV vM (oV vB (oV (v_convert (v := iI (IntKind.wrap .i64 (IntKind.wrap .u8 (c - 97)))) rfl (fun _ => by kernel_rfl)) (oV vB (oV vA (o_seq (c_ret ?_)))))))
 cases hF
 exact sR
 refine c_seq ?_
 refine c_cut (fun E N' => ∀ (t24 : Bool), F.words.value_j5 c t24 = some r → Sat E [(0, iB c), (2, iI 0), (24, bV t24)] [] [] N') (fun N5 hN5 => ?_) ?_
 refine c_region (oV vM (oV vB (oV vM ?_)))
 refine oS 27 hF (fun hF => ?_) (fun hF => ?_)
 refine oN (oV vM (oN (oV vB (oV vPt (oV vA (o_nil ?_))))))
 exact sK [] [] (hN5 (decide (c ≤ 70)) hF)
 refine oF (oF (oV vPf (oV vA (o_nil ?_))))
 exact sK [] [] (hN5 false hF)
 intro t24 hF
 unfold F.words.value_j5 at hF
 refine sat_wc ?_
 refine cC hF (fun hF => ?_) (fun hF => ?_)
 refine cR (oV vM (oV vB (oV (v_convert (v := iI (IntKind.wrap .i64 (IntKind.wrap .u8 (c - 65)))) rfl (fun _ => by kernel_rfl)) (oV vB (oV vA (o_seq (c_ret ?_)))))))
 cases hF
 exact sR
 refine c_skip ?_
 exact sK [] [] (hN3 hF)
 intro hF
 unfold F.words.value_j3 at hF
 exact sK [] [] (hN1 hF)
 intro hF
 unfold F.words.value_j1 at hF
 refine sat_wc (cR (oV vA (o_seq (c_ret ?_))))
 cases hF
 exact sR
theorem tri124 {s : Tx} {r : Int × Int} (hF : F.words.escape s = some r) :
    Tri Tryz.prog 124 [sV s] [] [] (oR (.tuple #[iB r.1, iI r.2])) := by
 unfold F.words.escape at hF
 refine tri_intro (n := 46) Tryz.func124 rfl Tryz.ntmps124 rfl fun w X => cR (oV vA (oV vA (o_seq (c_seq (cR (oV vM (oV (v_len_str Tryz.underlying9 rfl) (oV vB (o_seq ?_)))))))))
 refine cC hF (fun hF => ?_) (fun hF => ?_)
 refine cR (oV vA (oV vA (o_seq (c_ret ?_))))
 cases hF
 refine s_ret2 rfl (r_tmp rfl) (r_tmp rfl) fun a w hs => fin_sel hs [] ⟨rfl, rfl, rfl⟩ rfl sub_nil
 refine c_skip (sat_wc (c_seq (cR (oV vM (ite_some hF ?_)))))
 intro h2 hF
 refine oV (v_sindex Tryz.underlying9 rfl rfl h2) (o_seq (c_block (c_seq (cR (oV vB (oV vA (o_seq ?_)))))))
 refine c_cut (fun E N' => ∀ (t9 : Bool), F.words.escape_j1 s t9 = some r → Sat E [(0, sV s), (2, iB 0), (3, iI 0), (8, iB (sAt s 1)), (9, bV t9)] [] [] N') (fun N4 hN4 => ?_) ?_
 refine cC hF (fun hF => ?_) (fun hF => ?_)
 refine c_skip ?_
 exact sK [] [] (hN4 ((sAt s 1) == 34) hF)
 refine c_region (oV vB (oV vA (o_nil ?_)))
 exact sK [] [] (hN4 ((sAt s 1) == 92) hF)
 intro t9 hF
 unfold F.words.escape_j1 at hF
 refine sat_wc ?_
 refine c_cut (fun E N' => F.words.escape_j2 = some r → Sat E [(0, sV s), (2, iB 0), (3, iI 0), (8, iB (sAt s 1)), (9, bV t9)] [] [] N') (fun N2 hN2 => ?_) ?_
 refine cC hF (fun hF => ?_) (fun hF => ?_)
 refine cR (oV vM (oV (v_sindex Tryz.underlying9 rfl rfl h2) (oV vA (oV vA (o_seq (c_ret ?_))))))
 cases hF
 refine s_ret2 rfl (r_tmp rfl) (r_tmp rfl) fun a w hs => fin_sel hs [] ⟨rfl, rfl, rfl⟩ rfl sub_nil
 refine cR (oV vB (oV vA (o_seq ?_)))
 refine cC hF (fun hF => ?_) (fun hF => ?_)
 refine cR (oV vA (oV vA (o_seq (c_ret ?_))))
 cases hF
 refine s_ret2 rfl (r_tmp rfl) (r_tmp rfl) fun a w hs => fin_sel hs [] ⟨rfl, rfl, rfl⟩ rfl sub_nil
 refine cR (oV vB (oV vA (o_seq ?_)))
 refine cC hF (fun hF => ?_) (fun hF => ?_)
 refine cR (oV vA (oV vA (o_seq (c_ret ?_))))
 cases hF
 refine s_ret2 rfl (r_tmp rfl) (r_tmp rfl) fun a w hs => fin_sel hs [] ⟨rfl, rfl, rfl⟩ rfl sub_nil
 refine cR (oV vB (oV vA (o_seq ?_)))
 refine c_cut (fun E N' => F.words.escape_j3 = some r → Sat E [(0, sV s), (2, iB 0), (3, iI 0), (8, iB (sAt s 1)), (9, bV t9)] [] [] N') (fun N3 hN3 => ?_) ?_
 refine cC hF (fun hF => ?_) (fun hF => ?_)
 refine cR (oV vA (oV vA (o_seq (c_ret ?_))))
 cases hF
 refine s_ret2 rfl (r_tmp rfl) (r_tmp rfl) fun a w hs => fin_sel hs [] ⟨rfl, rfl, rfl⟩ rfl sub_nil
 refine cR (oV vB (oV vA (o_seq ?_)))
 refine cC hF (fun hF => ?_) (fun hF => ?_)
 refine c_seq ?_
 refine c_cut (fun E N' => ∀ (t36 : Bool), F.words.escape_j4 s t36 = some r → Sat E [(0, sV s), (2, iB 0), (3, iI 0), (8, iB (sAt s 1)), (9, bV t9), (36, bV t36)] [] [] N') (fun N4 hN4 => ?_) ?_
 refine c_region (oV vM (oV (v_len_str Tryz.underlying9 rfl) (oV vB (oV vM ?_))))
 refine oS 25 hF (fun hF => ?_) (fun hF => ?_)
 refine oN (oV vM (oN (ite_some hF ?_)))
 intro h14 hF
 refine oV (v_sindex Tryz.underlying9 rfl rfl h14) (oN ?_)
 obtain ⟨v2, h15, hF⟩ := bd hF
 refine o_callSB call136 rfl lent_nil (tri136 h15 :) rfl (oN (oV vB (oV vPt (oV vM ?_))))
 refine oS 31 hF (fun hF => ?_) (fun hF => ?_)
 refine oN (oV vM (oN (ite_some hF ?_)))
 intro h17 hF
 refine oV (v_sindex Tryz.underlying9 rfl rfl h17) (oN ?_)
 obtain ⟨v3, h18, hF⟩ := bd hF
 refine o_callSB call136 rfl lent_nil (tri136 h18 :) rfl (oN (oV vB (oV vPt (o_nil ?_))))
 exact sK [] [] (hN4 (decide (0 ≤ v3)) hF)
 refine oF (oF (oF (oF (oV vPf (o_nil ?_)))))
 exact sK [] [] (hN4 false hF)
 refine oF (oF (oF (oF (oV vPf (oV vM (oF (oF (oF (oF (oV vPf (o_nil ?_)))))))))))
 exact sK [] [] (hN4 false hF)
 intro t36 hF
 unfold F.words.escape_j4 at hF
 refine sat_wc ?_
 refine cC hF (fun hF => ?_) (fun hF => ?_)
 refine c_seq (c_draw (n := 11) [] mixed rfl rfl (dv 0 rfl vM (ite_some hF ?_)))
 intro h9 hF
 refine dv 1 rfl (v_sindex Tryz.underlying9 rfl rfl h9) (dv 4 rfl vM (ite_some hF ?_))
 intro h10 hF
 refine dv 5 rfl (v_sindex Tryz.underlying9 rfl rfl h10) (dO 2 rfl ?_)
 obtain ⟨v, h11, hF⟩ := bd hF
 refine o_callSB call136 rfl lent_nil (tri136 h11 :) rfl (dN [] 0 (dv 3 rfl vB (dO 6 rfl ?_)))
 obtain ⟨v1, h12, hF⟩ := bd hF
 refine o_callSB call136 rfl lent_nil (tri136 h12 :) rfl (dN [] 0 (dv 7 rfl vB (dv 8 rfl (v_convert (v := iB (IntKind.wrap .u8 (IntKind.wrap .i64 ((IntKind.wrap .i64 (16 * v)) + v1)))) rfl (fun _ => by kernel_rfl)) (dv 9 rfl vA (dv 10 rfl vA (d_done_seq (by kernel_rfl) (c_ret ?_)))))))
 cases hF
 refine s_ret2 rfl (r_tmp rfl) (r_tmp rfl) fun a w hs => fin_sel hs [] ⟨rfl, rfl, rfl⟩ rfl sub_nil
 refine c_skip ?_
 exact sK [] [] (hN3 hF)
 refine c_skip ?_
 exact sK [] [] (hN3 hF)
 intro hF
 unfold F.words.escape_j3 at hF
 exact sK [] [] (hN2 hF)
 intro hF
 unfold F.words.escape_j2 at hF
 refine sat_wc (cR (oV vA (oV vA (o_seq (c_ret ?_)))))
 cases hF
 refine s_ret2 rfl (r_tmp rfl) (r_tmp rfl) fun a w hs => fin_sel hs [] ⟨rfl, rfl, rfl⟩ rfl sub_nil
theorem tri100 {k : Nat} {text_ : Tx} {at__ : Int} {r : List Int × Int × Fault} (hF : F.words.quoted k text_ at__ = some r) :
    Tri Tryz.prog 100 [sV text_, iI at__] [] [] (fun o H Φ => ∃ (A10 : OA) (L10 C10 : Nat), o = .ret (.tuple #[sl A10 L10 C10, iI r.2.1, .agg #[iI r.2.2.At, iI r.2.2.Code]]) ∧ H = [rW A10 L10 C10 5 1 eU8 r.1] ∧ Φ = []) := by
 unfold F.words.quoted at hF
 refine tri_intro (n := 66) Tryz.func100 rfl Tryz.ntmps100 rfl fun w X => cR (oV vA (oV vA (o_alloc zero37 rfl rfl ?_)))
 intro b
 refine o_seq (cR (oV vA (o_seq (c_seq (cR (oV vM (oV vB ?_)))))))
 refine oV vA (o_seq ?_)
 obtain ⟨o1, ho1, hF⟩ := bd hF
 refine cT (fun E H Φ N' => ∀ (d1 : Unit), o1 = .done d1 → Sat E [(1, iI at__), (4, nS), (5, iI 0), (6, pt b)] H [] N') (fun N1 hN1 => ?_) ?_
 refine c_block ?_
 refine c_loopE (fun E j a w => ∃ (out_ : List Int) (i : Int) (A1 : OA) (L1 C1 : Nat), F.words.quoted_l1 text_ j out_ i = some o1 ∧ St E [(0, sV text_), (1, iI at__), (4, nS), (5, iI 0), (6, pt b), (7, sl A1 L1 C1), (8, iI i)] [.box b 37 [iI 0, iI 0], rW A1 L1 C1 5 1 eU8 out_] [] a w) k ?_ ?_
 refine s_st (st_nilrow 5 1) ?_
 exact lq [1, 0] [] fun a w hs => ⟨([] : List Int), IntKind.wrap .i64 (at__ + 1), none, 0, 0, ho1, hs⟩
 rintro j a w ⟨out_, i, A1, L1, C1, hL1, hs⟩
 rcases j with _ | j
 cases hL1
 refine wc_app hs ?_
 unfold F.words.quoted_l1 at hL1
 refine c_seq (cR (oV vM (oV vM (oV (v_len_str Tryz.underlying9 rfl) (oV vB (o_seq ?_))))))
 refine cC hL1 (fun hL1 => ?_) (fun hL1 => ?_)
 refine c_skip (sat_wc ?_)
 refine c_cut (fun E N' => ∀ (out_1 : List Int) (i1 : Int) (A2 : OA) (L2 C2 : Nat), F.words.quoted_j2 (F.words.quoted_l1 text_ j) out_1 i1 = some o1 → Sat E [(0, sV text_), (1, iI at__), (4, nS), (5, iI 0), (6, pt b), (7, sl A2 L2 C2), (8, iI i1), (9, iB (sAt text_ i))] [.box b 37 [iI 0, iI 0], rW A2 L2 C2 5 1 eU8 out_1] [] N') (fun N2 hN2 => ?_) ?_
 refine c_block (cR (oV vM (oV vM (ite_some hL1 ?_))))
 intro h2 hL1
 refine oV (v_sindex Tryz.underlying9 rfl rfl h2) (oV vA (o_seq ?_))
 refine c_cut (fun E N' => ∀ (out_2 : List Int) (i2 : Int) (A3 : OA) (L3 C3 : Nat), F.words.quoted_j3 (F.words.quoted_l1 text_ j) out_2 i2 = some o1 → Sat E [(0, sV text_), (1, iI at__), (4, nS), (5, iI 0), (6, pt b), (7, sl A3 L3 C3), (8, iI i2), (9, iB (sAt text_ i))] [.box b 37 [iI 0, iI 0], rW A3 L3 C3 5 1 eU8 out_2] [] N') (fun N3 hN3 => ?_) ?_
 refine c_block (cR (oV vM (oV vB (oV vA (o_seq ?_)))))
 refine c_cut (fun E N' => ∀ (out_3 : List Int) (i3 : Int) (A4 : OA) (L4 C4 : Nat), F.words.quoted_j4 (F.words.quoted_l1 text_ j) out_3 i3 = some o1 → Sat E [(0, sV text_), (1, iI at__), (4, nS), (5, iI 0), (6, pt b), (7, sl A4 L4 C4), (8, iI i3), (9, iB (sAt text_ i))] [.box b 37 [iI 0, iI 0], rW A4 L4 C4 5 1 eU8 out_3] [] N') (fun N4 hN4 => ?_) ?_
 refine cC hL1 (fun hL1 => ?_) (fun hL1 => ?_)
 refine cR (oV vM (oV vM (oV vB (oV (vU (.agg #[iI 0, iI 0])) (oV vA (oV vA ((sT 0 ty37) (o_seq (c_ret ?_)))))))))
 cases hL1
 obtain rfl := lrf_ret hF
 refine s_ret3 rfl (r_tmp rfl) (r_tmp rfl) (r_cell 0 rfl ty37 rfl rfl rfl rfl) fun a w hs => fin_sel hs [1] ⟨A1, L1, C1, rfl, rfl, rfl⟩ rfl sub_nil
 refine cR (oV vM (oV vB (oV vA (o_seq ?_))))
 refine c_cut (fun E N' => ∀ (out_4 : List Int) (i4 : Int) (A5 : OA) (L5 C5 : Nat), F.words.quoted_j5 (F.words.quoted_l1 text_ j) out_4 i4 = some o1 → Sat E [(0, sV text_), (1, iI at__), (4, nS), (5, iI 0), (6, pt b), (7, sl A5 L5 C5), (8, iI i4), (9, iB (sAt text_ i))] [.box b 37 [iI 0, iI 0], rW A5 L5 C5 5 1 eU8 out_4] [] N') (fun N5 hN5 => ?_) ?_
 refine cC hL1 (fun hL1 => ?_) (fun hL1 => ?_)
 refine cR (oV vM (oV vM (ite_some hL1 ?_)))
 intro h5 hL1
 refine oV (v_strslice Tryz.underlying9 rfl rfl rfl rfl rfl h5) ?_
 obtain ⟨v, h6, hL1⟩ := bd hL1
 refine o_callSB call124 rfl lent_nil (tri124 h6 :) rfl (oV vM (oV vX (oV vX (oV vA (oV vA (o_seq (c_seq (cR (oV vM (oV vB (o_seq ?_)))))))))))
 refine cC hL1 (fun hL1 => ?_) (fun hL1 => ?_)
 refine cR (oV vM (oV (vU (.agg #[iI i, iI 12])) (oV vA (oV vA ((sT 0 ty37) (o_seq (c_ret ?_)))))))
 cases hL1
 obtain rfl := lrf_ret hF
 refine s_st (st_nilrow 5 1) (s_ret3 rfl (r_tmp rfl) (r_tmp rfl) (r_cell 1 rfl ty37 rfl rfl rfl rfl) fun a w hs => fin_sel hs [0] ⟨none, 0, 0, rfl, rfl, rfl⟩ rfl sub_nil)
 refine c_skip (sat_wc (cR (oV vM (oV vM (o_buildSlice (enc := eU8) ([v.1] : List Int) [iB v.1] sl67 rfl (fun _ => by kernel_rfl) rfl rfl rfl (.s rfl (.nil)) rfl ?_)))))
 intro A6 L6 C6
 refine ite_some hL1 fun h8 hL1 => ite_some hL1 fun h9 hL1 => o_append (enc := eU8) (xs := out_) (ys := ([v.1] : List Int)) 2 sl67 rfl rfl rfl (.r 0 _ rfl) h8 h9 rfl fun A7 L7 C7 => oV vA (o_seq (c_region (oV vM (oV vM (oV vB ?_)))))
 refine oV vA (o_nil ?_)
 exact sK [1, 1] [] (hN5 (out_ ++ ([v.1] : List Int)) (IntKind.wrap .i64 (i + v.2)) A7 L7 C7 hL1)
 refine c_seq ?_
 refine cT (fun E H Φ N' => ∀ (t55 : Bool), F.words.quoted_j6 i out_ text_ (F.words.quoted_l1 text_ j) t55 = some o1 → Sat E [(0, sV text_), (1, iI at__), (4, nS), (5, iI 0), (6, pt b), (7, sl A1 L1 C1), (8, iI i), (9, iB (sAt text_ i)), (55, bV t55)] H [] N') (fun N6 hN6 => ?_) ?_
 refine c_region (oV vM (oV vB (oV vM ?_)))
 refine oS 58 hL1 (fun hL1 => ?_) (fun hL1 => ?_)
 refine oF (oF (oV vPt (oV vA (o_nil ?_))))
 exact sK [0, 0] [] (hN6 true hL1)
 refine oN (oV vM (oN (oV vB (oV vPf (oV vA (o_nil ?_))))))
 exact sK [0, 0] [] (hN6 (decide (126 < (sAt text_ i))) hL1)
 intro t55 hL1
 unfold F.words.quoted_j6 at hL1
 refine sat_wc ?_
 refine cC hL1 (fun hL1 => ?_) (fun hL1 => ?_)
 refine cR (oV vM (oV (vU (.agg #[iI i, iI 11])) (oV vA (oV vA ((sT 0 ty37) (o_seq (c_ret ?_)))))))
 cases hL1
 obtain rfl := lrf_ret hF
 refine s_st (st_nilrow 5 1) (s_ret3 rfl (r_tmp rfl) (r_tmp rfl) (r_cell 1 rfl ty37 rfl rfl rfl rfl) fun a w hs => fin_sel hs [0] ⟨none, 0, 0, rfl, rfl, rfl⟩ rfl sub_nil)
 refine cR (oV vM (oV vM (o_buildSlice (enc := eU8) ([sAt text_ i] : List Int) [iB (sAt text_ i)] sl67 rfl (fun _ => by kernel_rfl) rfl rfl rfl (.s rfl (.nil)) rfl ?_)))
 intro A8 L8 C8
 refine ite_some hL1 fun h11 hL1 => ite_some hL1 fun h12 hL1 => o_append (enc := eU8) (xs := out_) (ys := ([sAt text_ i] : List Int)) 2 sl67 rfl rfl rfl (.r 0 _ rfl) h11 h12 rfl fun A9 L9 C9 => oV vA (o_seq (c_region (oV vM (oV vB (oV vA (o_nil ?_))))))
 exact sK [1, 1] [] (hN5 (out_ ++ ([sAt text_ i] : List Int)) (IntKind.wrap .i64 (i + 1)) A9 L9 C9 hL1)
 intro out_4 i4 A5 L5 C5 hL1
 unfold F.words.quoted_j5 at hL1
 exact sK [0, 0] [] (hN4 out_4 i4 A5 L5 C5 hL1)
 intro out_3 i3 A4 L4 C4 hL1
 unfold F.words.quoted_j4 at hL1
 exact sK [0, 0] [] (hN3 out_3 i3 A4 L4 C4 hL1)
 intro out_2 i2 A3 L3 C3 hL1
 unfold F.words.quoted_j3 at hL1
 exact sK [0, 0] [] (hN2 out_2 i2 A3 L3 C3 hL1)
 intro out_1 i1 A2 L2 C2 hL1
 unfold F.words.quoted_j2 at hL1
 exact lp [0, 0] [] fun a w hs => ⟨out_1, i1, A2, L2, C2, hL1, hs⟩
 refine c_exit0 ?_
 cases hL1
 exact sK [0] [] (hN1 () rfl)
 intro d1 hd
 subst hd
 replace hF := lrf_done hF
 refine sat_wc (cR (oV vM (oV (vU (.agg #[iI at__, iI 13])) (oV vA (oV vA ((sT 0 ty37) (o_seq (c_ret ?_))))))))
 cases hF
 refine s_st (st_nilrow 5 1) (s_ret3 rfl (r_tmp rfl) (r_tmp rfl) (r_cell 1 rfl ty37 rfl rfl rfl rfl) fun a w hs => fin_sel hs [0] ⟨none, 0, 0, rfl, rfl, rfl⟩ rfl sub_nil)
theorem tri157 {c : Int} {r : Int} (hF : F.charset.digit c = some r) :
    Tri Tryz.prog 157 [iB c] [] [] (oR (iI r)) := by
 unfold F.charset.digit at hF
 refine tri_intro (n := 35) Tryz.func157 rfl Tryz.ntmps157 rfl fun w X => cR (oV vA (o_seq (c_seq ?_)))
 refine c_cut (fun E N' => F.charset.digit_j1 = some r → Sat E [(2, iI 0)] [] [] N') (fun N1 hN1 => ?_) ?_
 refine c_block (c_seq ?_)
 refine c_cut (fun E N' => ∀ (t3 : Bool), F.charset.digit_j2 c t3 = some r → Sat E [(0, iB c), (2, iI 0), (3, bV t3)] [] [] N') (fun N5 hN5 => ?_) ?_
 refine c_region (oV vM (oV vB (oV vM ?_)))
 refine oS 6 hF (fun hF => ?_) (fun hF => ?_)
 refine oN (oV vM (oN (oV vB (oV vPt (oV vA (o_nil ?_))))))
 exact sK [] [] (hN5 (decide (c ≤ 57)) hF)
 refine oF (oF (oV vPf (oV vA (o_nil ?_))))
 exact sK [] [] (hN5 false hF)
 intro t3 hF
 unfold F.charset.digit_j2 at hF
 refine sat_wc ?_
 refine c_cut (fun E N' => F.charset.digit_j3 = some r → Sat E [(0, iB c), (2, iI 0)] [] [] N') (fun N3 hN3 => ?_) ?_
 refine cC hF (fun hF => ?_) (fun hF => ?_)
 refine cR (oV vM (oV vB (oV (v_convert (v := iI (IntKind.wrap .i64 (IntKind.wrap .u8 (c - 48)))) rfl (fun _ => by kernel_rfl)) (oV vA (o_seq (c_ret ?_))))))
 cases hF
 exact sR
 refine c_seq ?_
 refine c_cut (fun E N' => ∀ (t13 : Bool), F.charset.digit_j4 c t13 = some r → Sat E [(0, iB c), (2, iI 0), (13, bV t13)] [] [] N') (fun N5 hN5 => ?_) ?_
 refine c_region (oV vM (oV vB (oV vM ?_)))
 refine oS 16 hF (fun hF => ?_) (fun hF => ?_)
 refine oN (oV vM (oN (oV vB (oV vPt (oV vA (o_nil ?_))))))
 exact sK [] [] (hN5 (decide (c ≤ 102)) hF)
 refine oF (oF (oV vPf (oV vA (o_nil ?_))))
 exact sK [] [] (hN5 false hF)
 intro t13 hF
 unfold F.charset.digit_j4 at hF
 refine sat_wc ?_
 refine cC hF (fun hF => ?_) (fun hF => ?_)
 refine cR (oV vM (oV vB (oV (v_convert (v := iI (IntKind.wrap .i64 (IntKind.wrap .u8 (c - 97)))) rfl (fun _ => by kernel_rfl)) (oV vB (oV vA (o_seq (c_ret ?_)))))))
 cases hF
 exact sR
 refine c_seq ?_
 refine c_cut (fun E N' => ∀ (t24 : Bool), F.charset.digit_j5 c t24 = some r → Sat E [(0, iB c), (2, iI 0), (24, bV t24)] [] [] N') (fun N5 hN5 => ?_) ?_
 refine c_region (oV vM (oV vB (oV vM ?_)))
 refine oS 27 hF (fun hF => ?_) (fun hF => ?_)
 refine oN (oV vM (oN (oV vB (oV vPt (oV vA (o_nil ?_))))))
 exact sK [] [] (hN5 (decide (c ≤ 70)) hF)
 refine oF (oF (oV vPf (oV vA (o_nil ?_))))
 exact sK [] [] (hN5 false hF)
 intro t24 hF
 unfold F.charset.digit_j5 at hF
 refine sat_wc ?_
 refine cC hF (fun hF => ?_) (fun hF => ?_)
 refine cR (oV vM (oV vB (oV (v_convert (v := iI (IntKind.wrap .i64 (IntKind.wrap .u8 (c - 65)))) rfl (fun _ => by kernel_rfl)) (oV vB (oV vA (o_seq (c_ret ?_)))))))
 cases hF
 exact sR
 refine c_skip ?_
 exact sK [] [] (hN3 hF)
 intro hF
 unfold F.charset.digit_j3 at hF
 exact sK [] [] (hN1 hF)
 intro hF
 unfold F.charset.digit_j1 at hF
 refine sat_wc (cR (oV vA (o_seq (c_ret ?_))))
 cases hF
 exact sR
theorem tri154 {r_ : Charset_reader} {b : Nat} {r : Int × Fault × Charset_reader} (hF : F.charset.reader_escaped r_ = some r) :
    Tri Tryz.prog 154 [pt b] [.box b 177 [sV r_.text, iI r_.at_]] [] (fun o H Φ => o = .ret (.tuple #[iI r.1, .agg #[iI r.2.1.At, iI r.2.1.Code]]) ∧ H = [.box b 177 [sV r.2.2.text, iI r.2.2.at_]] ∧ Φ = []) := by
 unfold F.charset.reader_escaped at hF
 refine tri_intro (n := 89) Tryz.func154 rfl Tryz.ntmps154 rfl fun w X => cR (oV vA (o_alloc zero37 rfl rfl ?_))
 intro b1
 refine o_seq (cR (oV vM (oV vC ((fD 1) (oV (vL 1 ty3) (oV (vU (.agg #[iI r_.at_, iI 12])) (o_alloc zero37 rfl rfl ?_)))))))
 intro b2
 refine (sT 0 ty37) (o_seq ?_)
 refine c_seq (c_draw (n := 11) [0, 0, 0] mixed rfl rfl (dv 0 rfl vM (dv 1 rfl vC (dv 2 rfl (vF 0) (dv 3 rfl (vL 2 ty9) (dv 4 rfl vM (dv 5 rfl vC (dv 6 rfl (vF 1) (dv 7 rfl (vL 2 ty3) (dv 8 rfl vB (ite_some hF ?_)))))))))))
 intro h1 hF
 refine dv 9 rfl (v_strslice Tryz.underlying9 rfl rfl rfl rfl rfl h1) (dv 10 rfl vA (d_done_seq (by kernel_rfl) (c_seq ?_)))
 refine cR (oV vM (oV (v_streq rfl rfl) (o_seq ?_)))
 refine cC hF (fun hF => ?_) (fun hF => ?_)
 refine c_seq (c_draw (n := 3) [0, 1] mixed rfl rfl (dv 0 rfl (vL 0 ty37) (dv 1 rfl vA (dO 2 rfl ((sT 1 ty37) (dN [0, 1] 0 (d_done_seq (by kernel_rfl) (c_ret ?_))))))))
 cases hF
 refine s_ret2 rfl (r_tmp rfl) (r_cell 1 rfl ty37 rfl rfl rfl rfl) fun a w hs => fin_sel hs [2] ⟨rfl, rfl, rfl⟩ rfl sub_nil
 refine c_skip (sat_wc (cR (oV vM (oV vC ((fD 1) (oV (vL 2 ty3) (oV vB (oV vC ((fD 1) ((sT 2 ty3) (o_seq (c_seq (cR ?_)))))))))))))
 refine oV vM (ite_some hF ?_)
 intro h3 hF
 refine oV (v_sindex Tryz.underlying9 rfl rfl h3) (o_seq ?_)
 refine cT (fun E H Φ N' => F.charset.reader_escaped_j1 r_ = some r → Sat E [(0, pt b), (2, iI 0), (3, pt b1), (4, pt b2), (5, sV (sub r_.text (IntKind.wrap .i64 (r_.at_ + 1)) (r_.text.length : Int)))] H [] N') (fun N1 hN1 => ?_) ?_
 refine c_block (cR (oV vB (oV vA (o_seq ?_))))
 refine cC hF (fun hF => ?_) (fun hF => ?_)
 refine cR (oV (vU (.agg #[iI 0, iI 0])) (oV vA ((sT 1 ty37) (o_seq (c_ret ?_)))))
 cases hF
 refine s_ret2 rfl (r_tmp rfl) (r_cell 1 rfl ty37 rfl rfl rfl rfl) fun a w hs => fin_sel hs [2] ⟨rfl, rfl, rfl⟩ rfl sub_nil
 refine cR (oV vB (oV vA (o_seq ?_)))
 refine cT (fun E H Φ N' => F.charset.reader_escaped_j2 r_ = some r → Sat E [(0, pt b), (2, iI 0), (3, pt b1), (4, pt b2), (5, sV (sub r_.text (IntKind.wrap .i64 (r_.at_ + 1)) (r_.text.length : Int))), (32, iB (sAt (sub r_.text (IntKind.wrap .i64 (r_.at_ + 1)) (r_.text.length : Int)) 0))] H [] N') (fun N2 hN2 => ?_) ?_
 refine cC hF (fun hF => ?_) (fun hF => ?_)
 refine cR (oV (vU (.agg #[iI 0, iI 0])) (oV vA ((sT 1 ty37) (o_seq (c_ret ?_)))))
 cases hF
 refine s_ret2 rfl (r_tmp rfl) (r_cell 1 rfl ty37 rfl rfl rfl rfl) fun a w hs => fin_sel hs [2] ⟨rfl, rfl, rfl⟩ rfl sub_nil
 refine cR (oV vB (oV vA (o_seq ?_)))
 refine cC hF (fun hF => ?_) (fun hF => ?_)
 refine cR (oV (vU (.agg #[iI 0, iI 0])) (oV vA ((sT 1 ty37) (o_seq (c_ret ?_)))))
 cases hF
 refine s_ret2 rfl (r_tmp rfl) (r_cell 1 rfl ty37 rfl rfl rfl rfl) fun a w hs => fin_sel hs [2] ⟨rfl, rfl, rfl⟩ rfl sub_nil
 refine cR (oV vB (oV vA (o_seq ?_)))
 refine cC hF (fun hF => ?_) (fun hF => ?_)
 refine cR (oV (vU (.agg #[iI 0, iI 0])) (oV vA ((sT 1 ty37) (o_seq (c_ret ?_)))))
 cases hF
 refine s_ret2 rfl (r_tmp rfl) (r_cell 1 rfl ty37 rfl rfl rfl rfl) fun a w hs => fin_sel hs [2] ⟨rfl, rfl, rfl⟩ rfl sub_nil
 refine c_seq (cR (oV vB (oV vA (o_seq ?_))))
 refine cT (fun E H Φ N' => ∀ (t45 : Bool), F.charset.reader_escaped_j3 r_ t45 = some r → Sat E [(0, pt b), (2, iI 0), (3, pt b1), (4, pt b2), (5, sV (sub r_.text (IntKind.wrap .i64 (r_.at_ + 1)) (r_.text.length : Int))), (32, iB (sAt (sub r_.text (IntKind.wrap .i64 (r_.at_ + 1)) (r_.text.length : Int)) 0)), (45, bV t45)] H [] N') (fun N5 hN5 => ?_) ?_
 refine cC hF (fun hF => ?_) (fun hF => ?_)
 refine c_skip ?_
 exact sK [0, 0, 0] [] (hN5 ((sAt (sub r_.text (IntKind.wrap .i64 (r_.at_ + 1)) (r_.text.length : Int)) 0) == 91) hF)
 refine cR (oV vB (oV vA (o_seq ?_)))
 refine cC hF (fun hF => ?_) (fun hF => ?_)
 refine c_skip ?_
 exact sK [0, 0, 0] [] (hN5 ((sAt (sub r_.text (IntKind.wrap .i64 (r_.at_ + 1)) (r_.text.length : Int)) 0) == 93) hF)
 refine cR (oV vB (oV vA (o_seq ?_)))
 refine cT (fun E H Φ N' => ∀ (t451 : Bool), F.charset.reader_escaped_j6 r_ t451 = some r → Sat E [(0, pt b), (2, iI 0), (3, pt b1), (4, pt b2), (5, sV (sub r_.text (IntKind.wrap .i64 (r_.at_ + 1)) (r_.text.length : Int))), (32, iB (sAt (sub r_.text (IntKind.wrap .i64 (r_.at_ + 1)) (r_.text.length : Int)) 0)), (45, bV t451)] H [] N') (fun N6 hN6 => ?_) ?_
 refine cC hF (fun hF => ?_) (fun hF => ?_)
 refine c_skip ?_
 exact sK [0, 0, 0] [] (hN6 ((sAt (sub r_.text (IntKind.wrap .i64 (r_.at_ + 1)) (r_.text.length : Int)) 0) == 92) hF)
 refine cR (oV vB (oV vA (o_seq ?_)))
 refine cC hF (fun hF => ?_) (fun hF => ?_)
 refine c_skip ?_
 exact sK [0, 0, 0] [] (hN6 ((sAt (sub r_.text (IntKind.wrap .i64 (r_.at_ + 1)) (r_.text.length : Int)) 0) == 45) hF)
 refine c_region (oV vB (oV vA (o_nil ?_)))
 exact sK [0, 0, 0] [] (hN6 ((sAt (sub r_.text (IntKind.wrap .i64 (r_.at_ + 1)) (r_.text.length : Int)) 0) == 94) hF)
 intro t451 hF
 unfold F.charset.reader_escaped_j6 at hF
 exact sK [0, 0, 0] [] (hN5 t451 hF)
 intro t45 hF
 unfold F.charset.reader_escaped_j3 at hF
 refine sat_wc ?_
 refine cT (fun E H Φ N' => F.charset.reader_escaped_j4 r_ = some r → Sat E [(0, pt b), (2, iI 0), (3, pt b1), (4, pt b2), (5, sV (sub r_.text (IntKind.wrap .i64 (r_.at_ + 1)) (r_.text.length : Int))), (32, iB (sAt (sub r_.text (IntKind.wrap .i64 (r_.at_ + 1)) (r_.text.length : Int)) 0)), (45, bV t45)] H [] N') (fun N4 hN4 => ?_) ?_
 refine cC hF (fun hF => ?_) (fun hF => ?_)
 refine cR (oV vM (oV (v_sindex Tryz.underlying9 rfl rfl h3) (oV (v_convert (v := iI (IntKind.wrap .i64 (sAt (sub r_.text (IntKind.wrap .i64 (r_.at_ + 1)) (r_.text.length : Int)) 0))) rfl (fun _ => by kernel_rfl)) (oV (vU (.agg #[iI 0, iI 0])) (oV vA ((sT 1 ty37) (o_seq (c_ret ?_))))))))
 cases hF
 refine s_ret2 rfl (r_tmp rfl) (r_cell 1 rfl ty37 rfl rfl rfl rfl) fun a w hs => fin_sel hs [2] ⟨rfl, rfl, rfl⟩ rfl sub_nil
 refine cR (oV vB (oV vA (o_seq ?_)))
 refine cC hF (fun hF => ?_) (fun hF => ?_)
 refine c_seq ?_
 refine cT (fun E H Φ N' => ∀ (t71 : Bool), F.charset.reader_escaped_j5 r_ t71 = some r → Sat E [(0, pt b), (2, iI 0), (3, pt b1), (4, pt b2), (5, sV (sub r_.text (IntKind.wrap .i64 (r_.at_ + 1)) (r_.text.length : Int))), (32, iB (sAt (sub r_.text (IntKind.wrap .i64 (r_.at_ + 1)) (r_.text.length : Int)) 0)), (45, bV t45), (71, bV t71)] H [] N') (fun N5 hN5 => ?_) ?_
 refine c_region (oV vM (oV (v_len_str Tryz.underlying9 rfl) (oV vB (oV vM ?_))))
 refine oS 60 hF (fun hF => ?_) (fun hF => ?_)
 refine oN (oV vM (oN (ite_some hF ?_)))
 intro h16 hF
 refine oV (v_sindex Tryz.underlying9 rfl rfl h16) (oN ?_)
 obtain ⟨v2, h17, hF⟩ := bd hF
 refine o_callSB call157 rfl lent_nil (tri157 h17 :) rfl (oN (oV vB (oV vPt (oV vM ?_))))
 refine oS 66 hF (fun hF => ?_) (fun hF => ?_)
 refine oN (oV vM (oN (ite_some hF ?_)))
 intro h19 hF
 refine oV (v_sindex Tryz.underlying9 rfl rfl h19) (oN ?_)
 obtain ⟨v3, h20, hF⟩ := bd hF
 refine o_callSB call157 rfl lent_nil (tri157 h20 :) rfl (oN (oV vB (oV vPt (o_nil ?_))))
 exact sK [0, 0, 0] [] (hN5 (decide (0 ≤ v3)) hF)
 refine oF (oF (oF (oF (oV vPf (o_nil ?_)))))
 exact sK [0, 0, 0] [] (hN5 false hF)
 refine oF (oF (oF (oF (oV vPf (oV vM (oF (oF (oF (oF (oV vPf (o_nil ?_)))))))))))
 exact sK [0, 0, 0] [] (hN5 false hF)
 intro t71 hF
 unfold F.charset.reader_escaped_j5 at hF
 refine sat_wc ?_
 refine cC hF (fun hF => ?_) (fun hF => ?_)
 refine cR (oV vM (oV vC ((fD 1) (oV (vL 2 ty3) (oV vB (oV vC ((fD 1) ((sT 2 ty3) (o_seq (c_seq (c_draw (n := 11) [0, 1] mixed rfl rfl (dv 0 rfl vM (ite_some hF ?_)))))))))))))
 intro h11 hF
 refine dv 1 rfl (v_sindex Tryz.underlying9 rfl rfl h11) ?_
 refine dv 4 rfl vM (ite_some hF ?_)
 intro h12 hF
 refine dv 5 rfl (v_sindex Tryz.underlying9 rfl rfl h12) (dv 8 rfl (v_build (v := .agg #[iI 0, iI 0]) rfl (fun _ => by kernel_rfl)) (dO 2 rfl ?_))
 obtain ⟨v, h13, hF⟩ := bd hF
 refine o_callSB call157 rfl lent_nil (tri157 h13 :) rfl (dN [0, 1] 0 (dv 3 rfl vB (dO 6 rfl ?_)))
 obtain ⟨v1, h14, hF⟩ := bd hF
 refine o_callSB call157 rfl lent_nil (tri157 h14 :) rfl (dN [0, 1] 0 (dv 7 rfl vB (dv 9 rfl vA (dO 10 rfl ((sT 1 ty37) (dN [0, 1] 0 (d_done_seq (by kernel_rfl) (c_ret ?_))))))))
 cases hF
 refine s_ret2 rfl (r_tmp rfl) (r_cell 1 rfl ty37 rfl rfl rfl rfl) fun a w hs => fin_sel hs [2] ⟨rfl, rfl, rfl⟩ rfl sub_nil
 refine c_skip ?_
 exact sK [0, 0, 0] [] (hN4 hF)
 refine c_skip ?_
 exact sK [0, 0, 0] [] (hN4 hF)
 intro hF
 unfold F.charset.reader_escaped_j4 at hF
 exact sK [0, 0, 0] [] (hN2 hF)
 intro hF
 unfold F.charset.reader_escaped_j2 at hF
 exact sK [0, 0, 0] [] (hN1 hF)
 intro hF
 unfold F.charset.reader_escaped_j1 at hF
 refine sat_wc (c_seq (c_draw (n := 3) [0, 1] mixed rfl rfl (dv 0 rfl (vL 0 ty37) (dv 1 rfl vA (dO 2 rfl ((sT 1 ty37) (dN [0, 1] 0 (d_done_seq (by kernel_rfl) (c_ret ?_)))))))))
 cases hF
 refine s_ret2 rfl (r_tmp rfl) (r_cell 1 rfl ty37 rfl rfl rfl rfl) fun a w hs => fin_sel hs [2] ⟨rfl, rfl, rfl⟩ rfl sub_nil
theorem tri147 {r_ : Charset_reader} {b : Nat} {r : Int × Fault × Charset_reader} (hF : F.charset.reader_char r_ = some r) :
    Tri Tryz.prog 147 [pt b] [.box b 177 [sV r_.text, iI r_.at_]] [] (fun o H Φ => o = .ret (.tuple #[iI r.1, .agg #[iI r.2.1.At, iI r.2.1.Code]]) ∧ H = [.box b 177 [sV r.2.2.text, iI r.2.2.at_]] ∧ Φ = []) := by
 unfold F.charset.reader_char at hF
 refine tri_intro (n := 73) Tryz.func147 rfl Tryz.ntmps147 rfl fun w X => cR (oV vA (o_alloc zero37 rfl rfl ?_))
 intro b1
 refine o_seq (c_seq (c_seq (c_draw (n := 10) [0, 0] mixed rfl rfl (dv 0 rfl vM (dv 1 rfl vC (dv 2 rfl (vF 1) (dv 3 rfl (vL 1 ty3) (dv 4 rfl vM (dv 5 rfl vC (dv 6 rfl (vF 0) ?_))))))))))
 refine dv 7 rfl (vL 1 ty9) (dv 8 rfl (v_len_str Tryz.underlying9 rfl) (dv 9 rfl vB (d_done_seq (by kernel_rfl) ?_)))
 refine cC hF (fun hF => ?_) (fun hF => ?_)
 refine c_seq (c_draw (n := 8) [1] mixed rfl rfl (dv 0 rfl vM (dv 1 rfl vC (dv 2 rfl (vF 0) (dv 3 rfl (vL 0 ty9) (dv 4 rfl (v_len_str Tryz.underlying9 rfl) (dv 5 rfl (v_build (v := .agg #[iI (r_.text.length : Int), iI 14]) rfl (fun _ => by kernel_rfl)) (dv 6 rfl vA (dO 7 rfl ((sT 0 ty37) (dN [1] 0 (d_done_seq (by kernel_rfl) (c_ret ?_)))))))))))))
 cases hF
 refine s_ret2 rfl (r_tmp rfl) (r_cell 0 rfl ty37 rfl rfl rfl rfl) fun a w hs => fin_sel hs [1] ⟨rfl, rfl, rfl⟩ rfl sub_nil
 refine c_skip (sat_wc (c_seq (c_draw (n := 10) [0, 0] mixed rfl rfl (dv 0 rfl vM (dv 1 rfl vC (dv 2 rfl (vF 0) (dv 3 rfl (vL 1 ty9) (dv 4 rfl vM (dv 5 rfl vC (dv 6 rfl (vF 1) (dv 7 rfl (vL 1 ty3) (ite_some hF ?_))))))))))))
 intro h2 hF
 refine dv 8 rfl (v_sindex Tryz.underlying9 rfl rfl h2) (dv 9 rfl vA (d_done_seq (by kernel_rfl) ?_))
 refine c_seq (cR (oV vM (oV vB (o_seq ?_))))
 refine cC hF (fun hF => ?_) (fun hF => ?_)
 refine cR (oV vM ?_)
 obtain ⟨v, h4, hF⟩ := bd hF
 refine ocl [1] call154 rfl rfl sub_nil (tri154 h4 :) ?_
 rintro _ _ _ ⟨rfl, rfl, rfl⟩
 refine oV vX (oV vX (oV vA ((sT 1 ty37) (o_seq (c_ret ?_)))))
 cases hF
 refine s_ret2 rfl (r_tmp rfl) (r_cell 1 rfl ty37 rfl rfl rfl rfl) fun a w hs => fin_sel hs [0] ⟨rfl, rfl, rfl⟩ rfl sub_nil
 refine c_skip (sat_wc (c_seq (c_seq ?_)))
 refine cT (fun E H Φ N' => ∀ (t57 : Bool), F.charset.reader_char_j1 r_ t57 = some r → Sat E [(0, pt b), (2, iI 0), (3, pt b1), (4, iB (sAt r_.text r_.at_)), (57, bV t57)] H [] N') (fun N1 hN1 => ?_) ?_
 refine c_region (oV vM (oV vB (oV vM ?_)))
 refine oS 38 hF (fun hF => ?_) (fun hF => ?_)
 refine oF (oF (oV vPt (oV vM (oF (oF (oV vPt (oV vM (oF (oF (oV vPt (oV vM (oF (oF (oV vPt (oV vM ?_)))))))))))))))
 refine oF (oF (oV vPt (o_nil ?_)))
 exact sK [0, 0] [] (hN1 true hF)
 refine oN (oV vM (oN (oV vB (oV vPf (oV vM ?_)))))
 refine oS 42 hF (fun hF => ?_) (fun hF => ?_)
 refine oF (oF (oV vPt (oV vM (oF (oF (oV vPt (oV vM (oF (oF (oV vPt (oV vM (oF (oF (oV vPt (o_nil ?_)))))))))))))))
 exact sK [0, 0] [] (hN1 true hF)
 refine oN (oV vM (oN (oV vB (oV vPf (oV vM ?_)))))
 refine oS 46 hF (fun hF => ?_) (fun hF => ?_)
 refine oF (oF (oV vPt (oV vM (oF (oF (oV vPt (oV vM (oF (oF (oV vPt (o_nil ?_)))))))))))
 exact sK [0, 0] [] (hN1 true hF)
 refine oN (oV vM (oN (oV vB (oV vPf (oV vM ?_)))))
 refine oS 50 hF (fun hF => ?_) (fun hF => ?_)
 refine oF (oF (oV vPt (oV vM (oF (oF (oV vPt (o_nil ?_)))))))
 exact sK [0, 0] [] (hN1 true hF)
 refine oN (oV vM (oN (oV vB (oV vPf (oV vM ?_)))))
 refine oS 54 hF (fun hF => ?_) (fun hF => ?_)
 refine oF (oF (oV vPt (o_nil ?_)))
 exact sK [0, 0] [] (hN1 true hF)
 refine oN (oV vM (oN (oV vB (oV vPf (o_nil ?_)))))
 exact sK [0, 0] [] (hN1 ((sAt r_.text r_.at_) == 94) hF)
 intro t57 hF
 unfold F.charset.reader_char_j1 at hF
 refine sat_wc ?_
 refine cC hF (fun hF => ?_) (fun hF => ?_)
 refine c_seq (c_draw (n := 7) [1] mixed rfl rfl (dv 0 rfl vM (dv 1 rfl vC (dv 2 rfl (vF 1) (dv 3 rfl (vL 0 ty3) (dv 4 rfl (v_build (v := .agg #[iI r_.at_, iI 11]) rfl (fun _ => by kernel_rfl)) (dv 5 rfl vA (dO 6 rfl ((sT 0 ty37) (dN [1] 0 (d_done_seq (by kernel_rfl) (c_ret ?_))))))))))))
 cases hF
 refine s_ret2 rfl (r_tmp rfl) (r_cell 0 rfl ty37 rfl rfl rfl rfl) fun a w hs => fin_sel hs [1] ⟨rfl, rfl, rfl⟩ rfl sub_nil
 refine c_skip (sat_wc (cR (oV vM (oV vC ((fD 1) (oV (vL 1 ty3) (oV vB (oV vC ((fD 1) ((sT 1 ty3) (o_seq (cR (oV vM ?_)))))))))))))
 refine oV (v_convert (v := iI (IntKind.wrap .i64 (sAt r_.text r_.at_))) rfl (fun _ => by kernel_rfl)) (oV (vU (.agg #[iI 0, iI 0])) (oV vA ((sT 0 ty37) (o_seq (c_ret ?_)))))
 cases hF
 refine s_ret2 rfl (r_tmp rfl) (r_cell 0 rfl ty37 rfl rfl rfl rfl) fun a w hs => fin_sel hs [1] ⟨rfl, rfl, rfl⟩ rfl sub_nil
theorem tri148 {k : Nat} {lo : Int} {hi : Int} {r : S4 × Int} (hF : F.charset.Range k lo hi = some r) :
    Tri Tryz.prog 148 [iI lo, iI hi] [] [] (oR (.tuple #[.agg r.1.vs.toArray, iI r.2])) := by
 unfold F.charset.Range at hF
 refine tri_intro (n := 36) Tryz.func148 rfl Tryz.ntmps148 rfl fun w X => cR (o_alloc zero44 rfl rfl fun b => oV vA (o_seq (cR (o_alloc zero44 rfl rfl ?_))))
 intro b1
 refine o_seq (c_seq (cR (oV vM (oV vB (oV vM ?_)))))
 refine oS 10 hF (fun hF => ?_) (fun hF => ?_)
 refine oF (oF (oV vPt (oV vM (oF (oF (oF (oV vPt (o_seq ?_))))))))
 refine c_cond rfl (fun _ => ?_) (fun h => Bool.noConfusion h)
 refine cR (oV (vL 0 ty44) ((sT 1 ty44) (oV vA (o_seq (c_ret ?_)))))
 cases hF
 refine s_ret2 rfl (r_cell 1 rfl ty44 rfl rfl rfl rfl) (r_tmp rfl) fun a w hs => fin_sel hs [] ⟨rfl, rfl, rfl⟩ rfl sub_nil
 refine oN (oV vM (oN (oV vB (oV vPf (oV vM ?_)))))
 refine oS 14 hF (fun hF => ?_) (fun hF => ?_)
 refine oF (oF (oF (oV vPt (o_seq ?_))))
 refine c_cond rfl (fun _ => ?_) (fun h => Bool.noConfusion h)
 refine cR (oV (vL 0 ty44) ((sT 1 ty44) (oV vA (o_seq (c_ret ?_)))))
 cases hF
 refine s_ret2 rfl (r_cell 1 rfl ty44 rfl rfl rfl rfl) (r_tmp rfl) fun a w hs => fin_sel hs [] ⟨rfl, rfl, rfl⟩ rfl sub_nil
 refine oN (oV vM (oN (oV vM (oN (oV vB (oV vPf (o_seq ?_)))))))
 refine cC hF (fun hF => ?_) (fun hF => ?_)
 refine cR (oV (vL 0 ty44) ((sT 1 ty44) (oV vA (o_seq (c_ret ?_)))))
 cases hF
 refine s_ret2 rfl (r_cell 1 rfl ty44 rfl rfl rfl rfl) (r_tmp rfl) fun a w hs => fin_sel hs [] ⟨rfl, rfl, rfl⟩ rfl sub_nil
 refine c_skip (sat_wc (c_seq (cR (oV vM (oV vA (o_seq ?_))))))
 obtain ⟨o1, ho1, hF⟩ := bd hF
 refine c_cut (fun E N' => Sat E [(0, iI lo), (1, iI hi), (4, pt b), (5, iI 0), (6, pt b1)] [.box b1 44 o1.vs, .box b 44 [iU 0, iU 0, iU 0, iU 0]] [] N') (fun N1 hN1 => ?_) ?_
 refine c_block ?_
 refine c_loopE (fun E j a w => ∃ (i : Int) (s : S4), F.charset.Range_l1 hi j i s = some o1 ∧ St E [(0, iI lo), (1, iI hi), (4, pt b), (5, iI 0), (6, pt b1), (7, iI i)] [.box b1 44 s.vs, .box b 44 [iU 0, iU 0, iU 0, iU 0]] [] a w) k ?_ ?_
 exact lq [0, 0] [] fun a w hs => ⟨lo, (S4.mk 0 0 0 0), ho1, hs⟩
 rintro j a w ⟨i, s, hL1, hs⟩
 rcases j with _ | j
 cases hL1
 refine wc_app hs ?_
 unfold F.charset.Range_l1 at hL1
 refine c_seq (cR (oV vM (oV vM (oV vB (o_seq ?_)))))
 refine cC hL1 (fun hL1 => ?_) (fun hL1 => ?_)
 refine c_skip (sat_wc (c_seq (c_block (c_draw (n := 10) [1] mixed rfl rfl (dv 0 rfl vM (dv 1 rfl (v_quo rfl rfl rfl) (ite_some hL1 ?_)))))))
 intro h5 hL1
 refine dv 2 rfl (v_indexAddr_a ar44 rfl rfl h5) (dv 4 rfl vM (dv 5 rfl (v_rem rfl rfl rfl) (ite_none hL1 ?_)))
 intro h6 hL1
 refine dv 6 rfl (v_shl rfl rfl h6) (dO 3 rfl (oV (v_load_a 0 s ty42 rfl rfl h5) (dN [1] 0 ?_)))
 refine dv 7 rfl (v_bit rfl rfl rfl) (dv 8 rfl (v_indexAddr_a ar44 rfl rfl h5) (dO 9 rfl (o_store_a 0 s rfl ty42 rfl rfl rfl h5 (dN [1] 0 (dD (sat_wc (c_region (oV vM (oV vB (oV vA (o_nil ?_)))))))))))
 exact lp [0, 0] [] fun a w hs => ⟨IntKind.wrap .i64 (i + 1), (S4.set s (gquo .i64 i 64) (gor .u64 (S4.get s (gquo .i64 i 64)) (gshl .u64 1 (grem i 64)))), hL1, hs⟩
 refine c_exit0 ?_
 cases hL1
 exact sK [0, 0] [] (hN1)
 refine sat_wc (cR (oV (vL 0 ty44) ((sT 1 ty44) (oV vA (o_seq (c_ret ?_))))))
 cases hF
 refine s_ret2 rfl (r_cell 1 rfl ty44 rfl rfl rfl rfl) (r_tmp rfl) fun a w hs => fin_sel hs [] ⟨rfl, rfl, rfl⟩ rfl sub_nil
theorem tri137 {k : Nat} {r_ : Charset_reader} {b : Nat} {r : S4 × Fault × Charset_reader} (hF : F.charset.reader_item k r_ = some r) :
    Tri Tryz.prog 137 [pt b] [.box b 177 [sV r_.text, iI r_.at_]] [] (fun o H Φ => o = .ret (.tuple #[.agg r.1.vs.toArray, .agg #[iI r.2.1.At, iI r.2.1.Code]]) ∧ H = [.box b 177 [sV r.2.2.text, iI r.2.2.at_]] ∧ Φ = []) := by
 unfold F.charset.reader_item at hF
 refine tri_intro (n := 78) Tryz.func137 rfl Tryz.ntmps137 rfl fun w X => cR (o_alloc zero44 rfl rfl fun b1 => o_alloc zero37 rfl rfl fun b2 => o_seq (cR (oV vM (oV vC ((fD 1) (oV (vL 2 ty3) (oV vA (o_seq (cR ?_)))))))))
 refine oV vM ?_
 obtain ⟨v, h1, hF⟩ := bd hF
 refine ocl [2] call147 rfl rfl sub_nil (tri147 h1 :) ?_
 rintro _ _ _ ⟨rfl, rfl, rfl⟩
 refine oV vM (oV vX (oV vX (o_alloc zero37 rfl rfl ?_)))
 intro b3
 refine oV vA ((sT 0 ty37) (o_seq (c_seq (cR ((fD 1) (oV (vL 0 ty32) (oV vB (o_seq ?_))))))))
 refine cC hF (fun hF => ?_) (fun hF => ?_)
 refine c_seq (c_draw (n := 4) [0, 0] mixed rfl rfl (dv 0 rfl (v_build (v := .agg #[iU 0, iU 0, iU 0, iU 0]) rfl (fun _ => by kernel_rfl)) (dv 1 rfl (vL 0 ty37) (dO 2 rfl ((sT 3 ty44) (dN [0, 0] 0 (dO 3 rfl ((sT 2 ty37) (dN [0, 0] 0 (d_done_seq (by kernel_rfl) (c_ret ?_)))))))))))
 cases hF
 refine s_ret2 rfl (r_cell 3 rfl ty44 rfl rfl rfl rfl) (r_cell 2 rfl ty37 rfl rfl rfl rfl) fun a w hs => fin_sel hs [1] ⟨rfl, rfl, rfl⟩ rfl sub_nil
 refine c_skip (sat_wc (cR (oV vM (oV vA (o_seq (c_seq (c_seq ?_)))))))
 refine cT (fun E H Φ N' => ∀ (t46 : Bool), F.charset.reader_item_j1 k v r_ t46 = some r → Sat E [(0, pt b), (2, pt b1), (3, pt b2), (4, iI r_.at_), (5, iI v.1), (6, pt b3), (7, iI v.1), (46, bV t46)] H [] N') (fun N2 hN2 => ?_) ?_
 refine c_draw (n := 22) [0, 0, 0, 0] mixed rfl rfl (dv 0 rfl vM (dv 1 rfl vC (dv 2 rfl (vF 1) (dv 3 rfl (vL 1 ty3) (dv 4 rfl vM (dv 5 rfl vC (dv 6 rfl (vF 0) (dv 7 rfl (vL 1 ty9) (dv 8 rfl (v_len_str Tryz.underlying9 rfl) (dv 9 rfl vB (dv 10 rfl vM ?_)))))))))))
 refine d_split (t := 35) rfl (fun h8 => ?_) (fun h8 => ?_)
 replace hF := ite_t h8 hF
 refine dw 11 rfl rfl rfl vM (dw 12 rfl rfl rfl vC (dw 13 rfl rfl rfl (vF 0) (dw 14 rfl rfl rfl (vL 1 ty9) (dw 15 rfl rfl rfl vM (dw 16 rfl rfl rfl vC (dw 17 rfl rfl rfl (vF 1) (dw 18 rfl rfl rfl (vL 1 ty3) (ite_some hF ?_))))))))
 intro h9 hF
 refine dw 19 rfl rfl rfl (v_sindex Tryz.underlying9 rfl rfl h9) (dw 20 rfl rfl rfl vB (dv 21 rfl vPt (dD ?_)))
 exact sK [0, 0, 0, 0] [] (hN2 ((sAt v.2.2.text v.2.2.at_) == 45) hF)
 replace hF := ite_f h8 hF
 refine dF 11 rfl (dF 12 rfl (dF 13 rfl (dF 14 rfl (dF 15 rfl (dF 16 rfl (dF 17 rfl (dF 18 rfl (dF 19 rfl (dF 20 rfl (dv 21 rfl vPf (dD ?_)))))))))))
 exact sK [0, 0, 0, 0] [] (hN2 false hF)
 intro t46 hF
 unfold F.charset.reader_item_j1 at hF
 refine sat_wc ?_
 refine c_cut (fun E N' => ∀ (hi : Int) (text_ : Tx) (at__ : Int) (At_ : Int) (Code_ : Int), F.charset.reader_item_j2 k v r_ hi text_ at__ At_ Code_ = some r → Sat E [(0, pt b), (2, pt b1), (3, pt b2), (4, iI r_.at_), (5, iI v.1), (6, pt b3), (7, iI hi)] [.box b 177 [sV text_, iI at__], .box b3 37 [iI At_, iI Code_], .box b2 37 [iI 0, iI 0], .box b1 44 [iU 0, iU 0, iU 0, iU 0]] [] N') (fun N2 hN2 => ?_) ?_
 refine cC hF (fun hF => ?_) (fun hF => ?_)
 refine cR (oV vM (oV vC ((fD 1) (oV (vL 1 ty3) (oV vB (oV vC ((fD 1) ((sT 1 ty3) (o_seq (cR (oV vM ?_)))))))))))
 obtain ⟨v2, h6, hF⟩ := bd hF
 refine ocl [1] call147 rfl rfl sub_nil (tri147 h6 :) ?_
 rintro _ _ _ ⟨rfl, rfl, rfl⟩
 refine oV vM (oV vX (oV vX (oV vA ((sT 1 ty37) (o_seq (cR ((fD 1) (oV (vL 1 ty32) (oV vB (o_seq ?_))))))))))
 refine cC hF (fun hF => ?_) (fun hF => ?_)
 refine c_seq (c_draw (n := 4) [0, 0] mixed rfl rfl (dv 0 rfl (v_build (v := .agg #[iU 0, iU 0, iU 0, iU 0]) rfl (fun _ => by kernel_rfl)) (dv 1 rfl (vL 1 ty37) (dO 2 rfl ((sT 3 ty44) (dN [0, 0] 0 (dO 3 rfl ((sT 2 ty37) (dN [0, 0] 0 (d_done_seq (by kernel_rfl) (c_ret ?_)))))))))))
 cases hF
 refine s_ret2 rfl (r_cell 3 rfl ty44 rfl rfl rfl rfl) (r_cell 2 rfl ty37 rfl rfl rfl rfl) fun a w hs => fin_sel hs [0] ⟨rfl, rfl, rfl⟩ rfl sub_nil
 refine c_skip ?_
 exact sK [0, 0, 0, 0] [] (hN2 v2.1 v2.2.2.text v2.2.2.at_ v2.2.1.At v2.2.1.Code hF)
 refine c_skip ?_
 exact sK [1, 0, 0, 0] [] (hN2 v.1 v.2.2.text v.2.2.at_ v.2.1.At v.2.1.Code hF)
 intro hi text_ at__ At_ Code_ hF
 unfold F.charset.reader_item_j2 at hF
 refine sat_wc (cR (oV vM (oV vM ?_)))
 obtain ⟨v1, h3, hF⟩ := bd hF
 refine o_callSB call148 rfl lent_nil (tri148 h3 :) rfl (oV vM (oV vX (oV vX (o_alloc zero44 rfl rfl ?_))))
 intro b4
 refine (sT 0 ty44) (oV vA (o_seq (c_seq (cR (oV vM (oV vB (o_seq ?_)))))))
 refine cC hF (fun hF => ?_) (fun hF => ?_)
 refine cR (oV (vU (.agg #[iU 0, iU 0, iU 0, iU 0])) (oV vM (oV vM (oV (vU (.agg #[iI r_.at_, iI v1.2])) ((sT 4 ty44) ((sT 3 ty37) (o_seq (c_ret ?_))))))))
 cases hF
 refine s_ret2 rfl (r_cell 4 rfl ty44 rfl rfl rfl rfl) (r_cell 3 rfl ty37 rfl rfl rfl rfl) fun a w hs => fin_sel hs [1] ⟨rfl, rfl, rfl⟩ rfl sub_nil
 refine c_skip (sat_wc (cR (oV (vL 0 ty44) (oV (vU (.agg #[iI 0, iI 0])) ((sT 4 ty44) ((sT 3 ty37) (o_seq (c_ret ?_))))))))
 cases hF
 refine s_ret2 rfl (r_cell 4 rfl ty44 rfl rfl rfl rfl) (r_cell 3 rfl ty37 rfl rfl rfl rfl) fun a w hs => fin_sel hs [1] ⟨rfl, rfl, rfl⟩ rfl sub_nil
theorem tri138 {k : Nat} {a_ : S4} {b : S4} {r : S4} (hF : F.charset.Union k a_ b = some r) :
    Tri Tryz.prog 138 [.agg a_.vs.toArray, .agg b.vs.toArray] [] [] (oR (.agg r.vs.toArray)) := by
 unfold F.charset.Union at hF
 refine tri_intro (n := 19) Tryz.func138 rfl Tryz.ntmps138 rfl fun w X => cR (o_box rfl rfl rfl fun b1 => o_box rfl rfl rfl fun b2 => o_alloc zero44 rfl rfl fun b3 => o_seq (c_seq (cR (oV vM (o_seq ?_)))))
 obtain ⟨o1, ho1, hF⟩ := bd hF
 refine c_cut (fun E N' => Sat E [(0, .agg a_.vs.toArray), (1, .agg b.vs.toArray), (2, pt b1), (4, pt b3)] [.box b3 44 [iU 0, iU 0, iU 0, iU 0], .box b1 44 o1.vs] [] N') (fun N1 hN1 => ?_) ?_
 refine c_block ?_
 refine c_loopE (fun E j a w => ∃ (t6 : Int) (a_1 : S4), F.charset.Union_l1 b j t6 a_1 = some o1 ∧ St E [(0, .agg a_.vs.toArray), (1, .agg b.vs.toArray), (2, pt b1), (3, pt b2), (4, pt b3), (6, iI t6)] [.box b3 44 [iU 0, iU 0, iU 0, iU 0], .box b2 44 b.vs, .box b1 44 a_1.vs] [] a w) k ?_ ?_
 exact lq [0, 0, 0] [] fun a w hs => ⟨0, a_, ho1, hs⟩
 rintro j a w ⟨t6, a_1, hL1, hs⟩
 rcases j with _ | j
 cases hL1
 refine wc_app hs ?_
 unfold F.charset.Union_l1 at hL1
 refine cR (oV vB (o_seq (c_seq ?_)))
 refine cC hL1 (fun hL1 => ?_) (fun hL1 => ?_)
 refine c_skip (sat_wc (c_seq (c_block (cR (oV vM (oV vA (o_seq (c_draw (n := 9) [0, 0] mixed rfl rfl (dv 0 rfl vM (ite_some hL1 ?_))))))))))
 intro h2 hL1
 refine dv 1 rfl (v_indexAddr_a ar44 rfl rfl h2) (dv 3 rfl vM (dv 4 rfl (v_indexAddr_a ar44 rfl rfl h2) (dv 5 rfl (v_load_a 1 b ty42 rfl rfl h2) ?_)))
 refine dO 2 rfl (oV (v_load_a 2 a_1 ty42 rfl rfl h2) (dN [0, 0] 0 (dv 6 rfl (v_bit rfl rfl rfl) (dv 7 rfl (v_indexAddr_a ar44 rfl rfl h2) (dO 8 rfl (o_store_a 2 a_1 rfl ty42 rfl rfl rfl h2 (dN [0, 0] 0 (dD (sat_wc (c_region (oV vB (oV vM (o_nil ?_)))))))))))))
 exact lp [0, 0, 0] [] fun a w hs => ⟨IntKind.wrap .i64 (t6 + 1), (S4.set a_1 t6 (gor .u64 (S4.get a_1 t6) (S4.get b t6))), hL1, hs⟩
 refine c_exit0 ?_
 cases hL1
 exact sK [0, 1] [] (hN1)
 refine sat_wc (cR (oV (vL 1 ty44) ((sT 0 ty44) (o_seq (c_ret ?_)))))
 cases hF
 refine s_ret1 rfl (r_cell 0 rfl ty44 rfl rfl rfl rfl) fun a w hs => fin_sel hs [] ⟨rfl, rfl, rfl⟩ rfl sub_nil
theorem tri139 {k : Nat} {a_ : S4} {r : S4} (hF : F.charset.Not k a_ = some r) :
    Tri Tryz.prog 139 [.agg a_.vs.toArray] [] [] (oR (.agg r.vs.toArray)) := by
 unfold F.charset.Not at hF
 refine tri_intro (n := 15) Tryz.func139 rfl Tryz.ntmps139 rfl fun w X => cR (o_box rfl rfl rfl fun b => o_alloc zero44 rfl rfl fun b1 => o_seq (c_seq (cR (oV vM (o_seq ?_)))))
 obtain ⟨o1, ho1, hF⟩ := bd hF
 refine c_cut (fun E N' => Sat E [(0, .agg a_.vs.toArray), (1, pt b), (2, pt b1)] [.box b1 44 [iU 0, iU 0, iU 0, iU 0], .box b 44 o1.vs] [] N') (fun N1 hN1 => ?_) ?_
 refine c_block ?_
 refine c_loopE (fun E j a w => ∃ (t4 : Int) (a_1 : S4), F.charset.Not_l1 j t4 a_1 = some o1 ∧ St E [(0, .agg a_.vs.toArray), (1, pt b), (2, pt b1), (4, iI t4)] [.box b1 44 [iU 0, iU 0, iU 0, iU 0], .box b 44 a_1.vs] [] a w) k ?_ ?_
 exact lq [0, 0] [] fun a w hs => ⟨0, a_, ho1, hs⟩
 rintro j a w ⟨t4, a_1, hL1, hs⟩
 rcases j with _ | j
 cases hL1
 refine wc_app hs ?_
 unfold F.charset.Not_l1 at hL1
 refine cR (oV vB (o_seq (c_seq ?_)))
 refine cC hL1 (fun hL1 => ?_) (fun hL1 => ?_)
 refine c_skip (sat_wc (c_seq (c_block (cR (oV vM (oV vA (o_seq (c_region (oV vM (oV vM (ite_some hL1 ?_)))))))))))
 intro h2 hL1
 refine oV (v_indexAddr_a ar44 rfl rfl h2) (oV (v_load_a 1 a_1 ty42 rfl rfl h2) (oV (v_un (v := iU (gnot .u64 (S4.get a_1 t4))) rfl (fun _ => by kernel_rfl)) ?_))
 refine oV (v_indexAddr_a ar44 rfl rfl h2) (o_store_a 1 a_1 rfl ty42 rfl rfl rfl h2 (o_nil (sat_wc (c_region (oV vB (oV vM (o_nil ?_)))))))
 exact lp [0, 0] [] fun a w hs => ⟨IntKind.wrap .i64 (t4 + 1), (S4.set a_1 t4 (gnot .u64 (S4.get a_1 t4))), hL1, hs⟩
 refine c_exit0 ?_
 cases hL1
 exact sK [0, 0] [] (hN1)
 refine sat_wc (cR (oV (vL 1 ty44) ((sT 0 ty44) (o_seq (c_ret ?_)))))
 cases hF
 refine s_ret1 rfl (r_cell 0 rfl ty44 rfl rfl rfl rfl) fun a w hs => fin_sel hs [] ⟨rfl, rfl, rfl⟩ rfl sub_nil
theorem tri125 {k : Nat} {text_ : Tx} {r : S4 × Fault} (hF : F.charset.Parse k text_ = some r) :
    Tri Tryz.prog 125 [sV text_] [] [] (oR (.tuple #[.agg r.1.vs.toArray, .agg #[iI r.2.At, iI r.2.Code]])) := by
 unfold F.charset.Parse at hF
 refine tri_intro (n := 87) Tryz.func125 rfl Tryz.ntmps125 rfl fun w X => cR (o_alloc zero44 rfl rfl fun b => o_alloc zero37 rfl rfl fun b1 => o_seq (c_seq (cR (oV vM (oV (v_len_str Tryz.underlying9 rfl) (oV vB (o_seq ?_)))))))
 refine cC hF (fun hF => ?_) (fun hF => ?_)
 refine cR (oV (vU (.agg #[iU 0, iU 0, iU 0, iU 0])) (oV (vU (.agg #[iI 0, iI 2])) ((sT 1 ty44) ((sT 0 ty37) (o_seq (c_ret ?_))))))
 cases hF
 refine s_ret2 rfl (r_cell 1 rfl ty44 rfl rfl rfl rfl) (r_cell 0 rfl ty37 rfl rfl rfl rfl) fun a w hs => fin_sel hs [] ⟨rfl, rfl, rfl⟩ rfl sub_nil
 refine c_skip (sat_wc (c_seq (c_seq ?_)))
 refine cT (fun E H Φ N' => ∀ (t20 : Bool), F.charset.Parse_j1 k text_ t20 = some r → Sat E [(0, sV text_), (2, pt b), (3, pt b1), (20, bV t20)] H [] N') (fun N5 hN5 => ?_) ?_
 refine c_region (oV vM (oV (v_streq rfl rfl) (oV vM ?_)))
 refine oS 16 hF (fun hF => ?_) (fun hF => ?_)
 refine oF (oF (oF (oV vPt (o_nil ?_))))
 exact sK [0, 0] [] (hN5 true hF)
 refine oN (oV vM (oN (ite_some hF ?_)))
 intro h16 hF
 refine oV (v_sindex Tryz.underlying9 rfl rfl h16) (oN (oV vB (oV vPf (o_nil ?_))))
 exact sK [0, 0] [] (hN5 ((sAt text_ 0) != 91) hF)
 intro t20 hF
 unfold F.charset.Parse_j1 at hF
 refine sat_wc ?_
 refine cC hF (fun hF => ?_) (fun hF => ?_)
 refine cR (oV (vU (.agg #[iU 0, iU 0, iU 0, iU 0])) (oV (vU (.agg #[iI 0, iI 13])) ((sT 1 ty44) ((sT 0 ty37) (o_seq (c_ret ?_))))))
 cases hF
 refine s_ret2 rfl (r_cell 1 rfl ty44 rfl rfl rfl rfl) (r_cell 0 rfl ty37 rfl rfl rfl rfl) fun a w hs => fin_sel hs [] ⟨rfl, rfl, rfl⟩ rfl sub_nil
 refine c_skip (sat_wc (cR (oV vM (oV (vU (.agg #[sV text_, iI 1])) (o_box rfl rfl rfl ?_)))))
 intro b2
 refine oV vA (o_seq (c_seq ?_))
 refine cT (fun E H Φ N' => ∀ (not : Bool), F.charset.Parse_j2 k text_ not = some r → Sat E [(0, sV text_), (2, pt b), (3, pt b1), (4, pt b2), (5, bV not)] H [] N') (fun N5 hN5 => ?_) ?_
 refine c_region (oV vM (oV (v_len_str Tryz.underlying9 rfl) (oV vB (oV vM ?_))))
 refine oS 29 hF (fun hF => ?_) (fun hF => ?_)
 refine oN (oV vM (oN (ite_some hF ?_)))
 intro h14 hF
 refine oV (v_sindex Tryz.underlying9 rfl rfl h14) (oN (oV vB (oV vPt (oV vA (o_nil ?_)))))
 exact sK [0, 0, 0] [] (hN5 ((sAt text_ 1) == 94) hF)
 refine oF (oF (oF (oV vPf (oV vA (o_nil ?_)))))
 exact sK [0, 0, 0] [] (hN5 false hF)
 intro not hF
 unfold F.charset.Parse_j2 at hF
 refine sat_wc (c_seq (cR (oV vM (o_seq ?_))))
 refine c_cut (fun E N' => ∀ (at__ : Int), F.charset.Parse_j3 k text_ not at__ = some r → Sat E [(0, sV text_), (2, pt b), (3, pt b1), (4, pt b2), (5, bV not)] [.box b2 177 [sV text_, iI at__], .box b1 37 [iI 0, iI 0], .box b 44 [iU 0, iU 0, iU 0, iU 0]] [] N') (fun N5 hN5 => ?_) ?_
 refine cC hF (fun hF => ?_) (fun hF => ?_)
 refine c_region (oV vM (oV vC ((fD 1) ((sT 0 ty3) (o_nil ?_)))))
 exact sK [0, 0, 0] [] (hN5 2 hF)
 refine c_skip ?_
 exact sK [0, 0, 0] [] (hN5 1 hF)
 intro at__ hF
 unfold F.charset.Parse_j3 at hF
 refine sat_wc (cR (o_alloc zero44 rfl rfl fun b3 => o_seq (c_seq ?_)))
 obtain ⟨o4, ho4, hF⟩ := bd hF
 refine c_cut (fun E N' => ∀ (d4 : S4 × (List UInt8) × Int), o4 = .done d4 → Sat E [(0, sV text_), (2, pt b), (3, pt b1), (4, pt b2), (5, bV not), (6, pt b3)] [.box b3 44 d4.1.vs, .box b2 177 [sV d4.2.1, iI d4.2.2], .box b1 37 [iI 0, iI 0], .box b 44 [iU 0, iU 0, iU 0, iU 0]] [] N') (fun N4 hN4 => ?_) ?_
 refine c_block ?_
 refine c_loopE (fun E j a w => ∃ (out_ : S4) (text_1 : Tx) (at__1 : Int), F.charset.Parse_l4 k text_ j out_ text_1 at__1 = some o4 ∧ St E [(0, sV text_), (2, pt b), (3, pt b1), (4, pt b2), (5, bV not), (6, pt b3)] [.box b3 44 out_.vs, .box b2 177 [sV text_1, iI at__1], .box b1 37 [iI 0, iI 0], .box b 44 [iU 0, iU 0, iU 0, iU 0]] [] a w) k ?_ ?_
 exact lq [0, 0, 0, 0] [] fun a w hs => ⟨(S4.mk 0 0 0 0), text_, at__, ho4, hs⟩
 rintro j a w ⟨out_, text_1, at__1, hL4, hs⟩
 rcases j with _ | j
 cases hL4
 refine wc_app hs ?_
 unfold F.charset.Parse_l4 at hL4
 refine c_seq (c_seq ?_)
 refine cT (fun E H Φ N' => ∀ (t53 : Bool), F.charset.Parse_j5 k text_1 at__1 out_ (F.charset.Parse_l4 k text_ j) t53 = some o4 → Sat E [(0, sV text_), (2, pt b), (3, pt b1), (4, pt b2), (5, bV not), (6, pt b3), (53, bV t53)] H [] N') (fun N5 hN5 => ?_) ?_
 refine c_region (oV vM (oV vC ((fD 1) (oV (vL 1 ty3) (oV vM (oV (v_len_str Tryz.underlying9 rfl) (oV vB (oV vM ?_))))))))
 refine oS 45 hL4 (fun hL4 => ?_) (fun hL4 => ?_)
 refine oF (oF (oF (oF (oF (oF (oF (oV vPt (o_nil ?_))))))))
 exact sK [0, 0, 0, 0] [] (hN5 true hL4)
 refine oN (oV vM (oN (oV vM (oN (oV vC (oN ((fD 1) (oN (oV (vL 1 ty3) (oN (ite_some hL4 ?_)))))))))))
 intro h8 hL4
 refine oV (v_sindex Tryz.underlying9 rfl rfl h8) (oN (oV vB (oV vPf ?_)))
 refine o_nil ?_
 exact sK [0, 0, 0, 0] [] (hN5 ((sAt text_ at__1) != 93) hL4)
 intro t53 hL4
 unfold F.charset.Parse_j5 at hL4
 refine sat_wc ?_
 refine cC hL4 (fun hL4 => ?_) (fun hL4 => ?_)
 refine c_skip (sat_wc (c_block (cR (oV vM ?_))))
 obtain ⟨v, h4, hL4⟩ := bd hL4
 refine ocl [1] call137 rfl rfl sub_nil (tri137 h4 :) ?_
 rintro _ _ _ ⟨rfl, rfl, rfl⟩
 refine oV vM (oV vX (oV vX (o_alloc zero44 rfl rfl ?_)))
 intro b4
 refine o_alloc zero37 rfl rfl fun b5 => (sT 1 ty44) ((sT 0 ty37) (o_seq (c_seq (cR ((fD 1) (oV (vL 0 ty32) (oV vB (o_seq ?_))))))))
 refine cC hL4 (fun hL4 => ?_) (fun hL4 => ?_)
 refine c_seq (c_draw (n := 4) [0, 0, 0, 0] mixed rfl rfl (dv 0 rfl (v_build (v := .agg #[iU 0, iU 0, iU 0, iU 0]) rfl (fun _ => by kernel_rfl)) (dv 1 rfl (vL 0 ty37) (dO 2 rfl ((sT 5 ty44) (dN [0, 0, 0, 0] 0 (dO 3 rfl ((sT 4 ty37) (dN [0, 0, 0, 0] 0 (d_done_seq (by kernel_rfl) (c_ret ?_)))))))))))
 cases hL4
 obtain rfl := lrf_ret hF
 refine s_ret2 rfl (r_cell 5 rfl ty44 rfl rfl rfl rfl) (r_cell 4 rfl ty37 rfl rfl rfl rfl) fun a w hs => fin_sel hs [] ⟨rfl, rfl, rfl⟩ rfl sub_nil
 refine c_skip (sat_wc (c_region (oV (vL 3 ty44) (oV (vL 1 ty44) ?_))))
 obtain ⟨v1, h6, hL4⟩ := bd hL4
 refine o_callSB call138 rfl lent_nil (tri138 h6 :) rfl ((sT 3 ty44) (o_nil ?_))
 exact lp [3, 2, 2, 2] [] fun a w hs => ⟨v1, v.2.2.text, v.2.2.at_, hL4, hs⟩
 refine c_exit0 ?_
 cases hL4
 exact sK [0, 0, 0, 0] [] (hN4 (out_, text_1, at__1) rfl)
 intro d4 hd
 subst hd
 replace hF := lrf_done hF
 refine sat_wc (c_seq (cR (oV vM (oV vC ((fD 1) (oV (vL 1 ty3) (oV vB (oV vM (oV (v_len_str Tryz.underlying9 rfl) (oV vB (o_seq ?_)))))))))))
 refine cC hF (fun hF => ?_) (fun hF => ?_)
 refine c_seq (c_draw (n := 9) [0, 0] mixed rfl rfl (dv 0 rfl (v_build (v := .agg #[iU 0, iU 0, iU 0, iU 0]) rfl (fun _ => by kernel_rfl)) (dv 1 rfl vM (dv 2 rfl vC (dv 3 rfl (vF 1) (dv 4 rfl (vL 1 ty3) (dv 5 rfl vB (dv 6 rfl (v_build (v := .agg #[iI (IntKind.wrap .i64 (d4.2.2 + 1)), iI 15]) rfl (fun _ => by kernel_rfl)) (dO 7 rfl ((sT 3 ty44) (dN [0, 0] 0 (dO 8 rfl ((sT 2 ty37) (dN [0, 0] 0 (d_done_seq (by kernel_rfl) ?_)))))))))))))))
 refine c_ret ?_
 cases hF
 refine s_ret2 rfl (r_cell 3 rfl ty44 rfl rfl rfl rfl) (r_cell 2 rfl ty37 rfl rfl rfl rfl) fun a w hs => fin_sel hs [] ⟨rfl, rfl, rfl⟩ rfl sub_nil
 refine c_skip (sat_wc (c_seq (cR (oV vM (o_seq ?_)))))
 refine cC hF (fun hF => ?_) (fun hF => ?_)
 refine c_region (oV (vL 0 ty44) ?_)
 obtain ⟨v2, h11, hF⟩ := bd hF
 refine o_callSB call139 rfl lent_nil (tri139 h11 :) rfl ((sT 0 ty44) (o_seq (cR (oV (vL 0 ty44) (oV (vU (.agg #[iI 0, iI 0])) ((sT 3 ty44) ((sT 2 ty37) (o_seq (c_ret ?_)))))))))
 cases hF
 refine s_ret2 rfl (r_cell 3 rfl ty44 rfl rfl rfl rfl) (r_cell 2 rfl ty37 rfl rfl rfl rfl) fun a w hs => fin_sel hs [] ⟨rfl, rfl, rfl⟩ rfl sub_nil
 refine c_skip (sat_wc (cR (oV (vL 0 ty44) (oV (vU (.agg #[iI 0, iI 0])) ((sT 3 ty44) ((sT 2 ty37) (o_seq (c_ret ?_))))))))
 cases hF
 refine s_ret2 rfl (r_cell 3 rfl ty44 rfl rfl rfl rfl) (r_cell 2 rfl ty37 rfl rfl rfl rfl) fun a w hs => fin_sel hs [] ⟨rfl, rfl, rfl⟩ rfl sub_nil
theorem tri101 {k : Nat} {text_ : Tx} {at__ : Int} {r : S4 × Int × Fault} (hF : F.words.bracketed k text_ at__ = some r) :
    Tri Tryz.prog 101 [sV text_, iI at__] [] [] (oR (.tuple #[.agg r.1.vs.toArray, iI r.2.1, .agg #[iI r.2.2.At, iI r.2.2.Code]])) := by
 unfold F.words.bracketed at hF
 refine tri_intro (n := 51) Tryz.func101 rfl Tryz.ntmps101 rfl fun w X => cR (o_alloc zero44 rfl rfl fun b => oV vA (o_alloc zero37 rfl rfl ?_))
 intro b1
 refine o_seq (c_seq (cR (oV vM (oV vB (oV vA (o_seq ?_))))))
 obtain ⟨o1, ho1, hF⟩ := bd hF
 refine cT (fun E H Φ N' => ∀ (d1 : Unit), o1 = .done d1 → Sat E [(1, iI at__), (4, pt b), (5, iI 0), (6, pt b1)] H [] N') (fun N1 hN1 => ?_) ?_
 refine c_block ?_
 refine cL (fun E H Φ j a w => ∃ (i : Int), F.words.bracketed_l1 k text_ at__ j i = some o1 ∧ St E [(0, sV text_), (1, iI at__), (4, pt b), (5, iI 0), (6, pt b1), (7, iI i)] H [] a w) k ?_ ?_
 exact lq [0, 0] [] fun a w hs => ⟨IntKind.wrap .i64 (at__ + 1), ho1, hs⟩
 rintro j a w ⟨i, hL1, hs⟩
 rcases j with _ | j
 cases hL1
 refine wc_app hs ?_
 unfold F.words.bracketed_l1 at hL1
 refine c_seq (cR (oV vM (oV vM (oV (v_len_str Tryz.underlying9 rfl) (oV vB (o_seq ?_))))))
 refine cC hL1 (fun hL1 => ?_) (fun hL1 => ?_)
 refine c_skip (sat_wc (c_seq ?_))
 refine cT (fun E H Φ N' => ∀ (i1 : Int), F.words.bracketed_j2 (F.words.bracketed_l1 k text_ at__ j) i1 = some o1 → Sat E [(0, sV text_), (1, iI at__), (4, pt b), (5, iI 0), (6, pt b1), (7, iI i1), (20, iB (sAt text_ i))] H [] N') (fun N2 hN2 => ?_) ?_
 refine c_block (cR (oV vM (oV vM (ite_some hL1 ?_))))
 intro h2 hL1
 refine oV (v_sindex Tryz.underlying9 rfl rfl h2) (o_seq ?_)
 refine cT (fun E H Φ N' => ∀ (i2 : Int), F.words.bracketed_j3 (F.words.bracketed_l1 k text_ at__ j) i2 = some o1 → Sat E [(0, sV text_), (1, iI at__), (4, pt b), (5, iI 0), (6, pt b1), (7, iI i2), (20, iB (sAt text_ i))] H [] N') (fun N3 hN3 => ?_) ?_
 refine c_block (cR (oV vB (oV vA (o_seq ?_))))
 refine cT (fun E H Φ N' => ∀ (i3 : Int), F.words.bracketed_j4 (F.words.bracketed_l1 k text_ at__ j) i3 = some o1 → Sat E [(0, sV text_), (1, iI at__), (4, pt b), (5, iI 0), (6, pt b1), (7, iI i3), (20, iB (sAt text_ i))] H [] N') (fun N4 hN4 => ?_) ?_
 refine cC hL1 (fun hL1 => ?_) (fun hL1 => ?_)
 refine c_region (oV vM (oV vB (oV vA (o_nil ?_))))
 exact sK [0, 0] [] (hN4 (IntKind.wrap .i64 (i + 1)) hL1)
 refine cR (oV vB (oV vA (o_seq ?_)))
 refine cC hL1 (fun hL1 => ?_) (fun hL1 => ?_)
 refine cR (oV vM (oV vM (oV vM (oV vB (ite_some hL1 ?_)))))
 intro h5 hL1
 refine oV (v_strslice Tryz.underlying9 rfl rfl rfl rfl rfl h5) ?_
 obtain ⟨v, h6, hL1⟩ := bd hL1
 refine o_callSB call125 rfl lent_nil (tri125 h6 :) rfl (oV vM (oV vX (oV vX (o_alloc zero44 rfl rfl ?_))))
 intro b2
 refine o_alloc zero37 rfl rfl fun b3 => (sT 1 ty44) ((sT 0 ty37) (o_seq (c_seq (cR ((fD 1) (oV (vL 0 ty32) (oV vB (o_seq ?_))))))))
 refine c_cut (fun E N' => ∀ (At_ : Int), F.words.bracketed_j5 v i At_ = some o1 → Sat E [(0, sV text_), (1, iI at__), (4, pt b), (5, iI 0), (6, pt b1), (7, iI i), (8, pt b2), (9, pt b3), (20, iB (sAt text_ i))] [.box b3 37 [iI At_, iI v.2.Code], .box b2 44 v.1.vs, .box b1 37 [iI 0, iI 0], .box b 44 [iU 0, iU 0, iU 0, iU 0]] [] N') (fun N5 hN5 => ?_) ?_
 refine cC hL1 (fun hL1 => ?_) (fun hL1 => ?_)
 refine c_region ((fD 0) (oV (vL 0 ty3) (oV vM (oV vB ((fD 0) ((sT 0 ty3) (o_nil ?_)))))))
 exact sK [0, 0, 0, 0] [] (hN5 (IntKind.wrap .i64 (v.2.At + at__)) hL1)
 refine c_skip ?_
 exact sK [0, 0, 0, 0] [] (hN5 v.2.At hL1)
 intro At_ hL1
 unfold F.words.bracketed_j5 at hL1
 refine sat_wc (c_seq (c_draw (n := 7) [0, 0] mixed rfl rfl (dv 0 rfl (vL 1 ty44) (dv 1 rfl vM (dv 2 rfl vB (dv 3 rfl (vL 0 ty37) (dO 4 rfl ((sT 3 ty44) (dN [0, 0] 0 (dv 5 rfl vA (dO 6 rfl ((sT 2 ty37) (dN [0, 0] 0 (d_done_seq (by kernel_rfl) (c_ret ?_)))))))))))))))
 cases hL1
 obtain rfl := lrf_ret hF
 refine s_ret3 rfl (r_cell 3 rfl ty44 rfl rfl rfl rfl) (r_tmp rfl) (r_cell 2 rfl ty37 rfl rfl rfl rfl) fun a w hs => fin_sel hs [] ⟨rfl, rfl, rfl⟩ rfl sub_nil
 refine c_skip ?_
 exact sK [0, 0] [] (hN4 i hL1)
 intro i3 hL1
 unfold F.words.bracketed_j4 at hL1
 exact sK [0, 0] [] (hN3 i3 hL1)
 intro i2 hL1
 unfold F.words.bracketed_j3 at hL1
 exact sK [0, 0] [] (hN2 i2 hL1)
 intro i1 hL1
 unfold F.words.bracketed_j2 at hL1
 refine sat_wc (c_region (oV vM (oV vB (oV vA (o_nil ?_)))))
 exact lp [0, 0] [] fun a w hs => ⟨IntKind.wrap .i64 (i1 + 1), hL1, hs⟩
 refine c_exit0 ?_
 cases hL1
 exact sK [0, 0] [] (hN1 () rfl)
 intro d1 hd
 subst hd
 replace hF := lrf_done hF
 refine sat_wc (cR (oV (vU (.agg #[iU 0, iU 0, iU 0, iU 0])) (oV vM (oV (vU (.agg #[iI at__, iI 13])) ((sT 1 ty44) (oV vA ((sT 0 ty37) (o_seq (c_ret ?_)))))))))
 cases hF
 refine s_ret3 rfl (r_cell 1 rfl ty44 rfl rfl rfl rfl) (r_tmp rfl) (r_cell 0 rfl ty37 rfl rfl rfl rfl) fun a w hs => fin_sel hs [] ⟨rfl, rfl, rfl⟩ rfl sub_nil
theorem tri48 {k : Nat} {s : Words_scanner} {b : Nat} {r : Fault × Words_scanner} (hF : F.words.scanner_next k s = some r) :
    Tri Tryz.prog 48 [pt b] [.box b 102 (vWords_scanner s A1 L1 C1), rW A1 L1 C1 106 11 eWord s.out] [] (fun o H Φ => ∃ (A11 : OA) (L11 C11 : Nat), o = .ret (.agg #[iI r.1.At, iI r.1.Code]) ∧ H = [.box b 102 (vWords_scanner r.2 A11 L11 C11), rW A11 L11 C11 106 11 eWord r.2.out] ∧ Φ = []) := by
 unfold F.words.scanner_next at hF
 refine tri_intro (n := 143) Tryz.func48 rfl Tryz.ntmps48 rfl fun w X => cR (o_alloc zero37 rfl rfl fun b1 => o_seq (c_seq (c_draw (n := 10) [0, 0, 0] mixed rfl rfl (dv 0 rfl vM (dv 1 rfl vC (dv 2 rfl (vF 0) (dv 3 rfl (vL 1 ty9) (dv 4 rfl vM (dv 5 rfl vC (dv 6 rfl (vF 1) (dv 7 rfl (vL 1 ty3) (ite_some hF ?_))))))))))))
 intro h1 hF
 refine ?_
 refine dv 8 rfl (v_sindex Tryz.underlying9 rfl rfl h1) (dv 9 rfl vA (d_done_seq (by kernel_rfl) (c_seq (c_block (c_seq ?_)))))
 refine cT (fun E H Φ N' => ∀ (t27 : Bool), F.words.scanner_next_j1 k s t27 = some r → Sat E [(0, pt b), (2, pt b1), (3, iB (sAt s.text s.at_)), (27, bV t27)] H [] N') (fun N6 hN6 => ?_) ?_
 refine c_region (oV vM (oV (v_convert (v := .int .i32 (IntKind.wrap .i32 (sAt s.text s.at_))) rfl (fun _ => by kernel_rfl)) ?_))
 obtain ⟨v11, h24, hF⟩ := bd hF
 refine o_callSB call43 rfl lent_nil (tri43 h24 :) rfl (oV vM ?_)
 refine oS 31 hF (fun hF => ?_) (fun hF => ?_)
 refine oF (oF (oF (oV vPt (oV vA (o_nil ?_)))))
 exact sK [0, 0, 0] [] (hN6 true hF)
 refine oN (oV vM (oN (oV (v_convert (v := .int .i32 (IntKind.wrap .i32 (sAt s.text s.at_))) rfl (fun _ => by kernel_rfl)) (oN ?_))))
 obtain ⟨v12, h26, hF⟩ := bd hF
 refine o_callSB call96 rfl lent_nil (tri96 h26 :) rfl (oV vPf (oV vA (o_nil ?_)))
 exact sK [0, 0, 0] [] (hN6 v12 hF)
 intro t27 hF
 unfold F.words.scanner_next_j1 at hF
 refine sat_wc ?_
 refine c_cut (fun E N' => ∀ (text_ : Tx) (at__ : Int) (line_ : Int) (top_ : Int) (out_ : List Word) (A2 : OA) (L2 C2 : Nat), F.words.scanner_next_j2 text_ at__ line_ top_ out_ = some r → Sat E [(0, pt b), (2, pt b1), (3, iB (sAt s.text s.at_))] [.box b 102 [sV text_, iI at__, iI line_, iI top_, sl A2 L2 C2], .box b1 37 [iI 0, iI 0], rW A2 L2 C2 106 11 eWord out_] [] N') (fun N2 hN2 => ?_) ?_
 refine cC hF (fun hF => ?_) (fun hF => ?_)
 refine c_seq (c_draw (n := 11) [0, 0, 0] mixed rfl rfl (dv 0 rfl vM (dv 1 rfl vC (dv 2 rfl (vF 0) (dv 3 rfl (vL 1 ty9) (dv 4 rfl vM (dv 5 rfl vC (dv 6 rfl (vF 1) (dv 7 rfl (vL 1 ty3) (ite_some hF ?_))))))))))
 intro h3 hF
 refine dv 8 rfl (v_strslice Tryz.underlying9 rfl rfl rfl rfl rfl h3) (dO 9 rfl ?_)
 obtain ⟨v, h4, hF⟩ := bd hF
 refine o_callSB call44 rfl lent_nil (tri44 h4 :) rfl (dN [0, 0, 0] 0 (dv 10 rfl vA (d_done_seq (by kernel_rfl) (c_seq (cR (oV vM (oV vB (o_seq ?_))))))))
 refine cC hF (fun hF => ?_) (fun hF => ?_)
 refine cR (oV vM (oV vC ((fD 1) (oV (vL 1 ty3) (oV (vU (.agg #[iI s.at_, iI 20])) ((sT 0 ty37) (o_seq (c_ret ?_))))))))
 cases hF
 refine s_ret1 rfl (r_cell 0 rfl ty37 rfl rfl rfl rfl) fun a w hs => fin_sel hs [1, 1] ⟨A1, L1, C1, rfl, rfl, rfl⟩ rfl sub_nil
 refine c_skip (sat_wc (cR (oV vA (o_seq (c_seq (cR (oV vM (oV (v_convert (v := .int .i32 (IntKind.wrap .i32 (sAt s.text s.at_))) rfl (fun _ => by kernel_rfl)) ?_))))))))
 obtain ⟨v1, h6, hF⟩ := bd hF
 refine o_callSB call43 rfl lent_nil (tri43 h6 :) rfl (o_seq ?_)
 refine cT (fun E H Φ N' => ∀ (kind : Int), F.words.scanner_next_j3 s v kind = some r → Sat E [(0, pt b), (2, pt b1), (3, iB (sAt s.text s.at_)), (4, iI v), (5, iI kind)] H [] N') (fun N3 hN3 => ?_) ?_
 refine cC hF (fun hF => ?_) (fun hF => ?_)
 refine c_region (oV vA (o_nil ?_))
 exact sK [0, 0, 0] [] (hN3 1 hF)
 refine c_skip ?_
 exact sK [0, 0, 0] [] (hN3 2 hF)
 intro kind hF
 unfold F.words.scanner_next_j3 at hF
 refine sat_wc (c_region (oV vM (oV vM (oV (vU (.agg #[iI kind, sV ([] : Tx), nS, iU 0, iU 0, iU 0, iU 0, iI 0, iI 0, iI 0, iI 0])) (oV vM (oV vC ((fD 1) (oV (vL 1 ty3) (oV vM (oV vB ?_))))))))))
 obtain ⟨v2, h7, hF⟩ := bd hF
 refine o_st (st_nilfact 1) (ocl [1, 1] call49 rfl rfl (subs [0] rfl) (tri49 h7 :) ?_)
 rintro _ _ _ ⟨A3, L3, C3, rfl, rfl, rfl⟩
 refine o_nil ?_
 exact sK [0, 1, 0] [] (hN2 v2.text v2.at_ v2.line v2.top v2.out A3 L3 C3 hF)
 refine cR (oV vM (oV (v_convert (v := .int .i32 (IntKind.wrap .i32 (sAt s.text s.at_))) rfl (fun _ => by kernel_rfl)) ?_))
 obtain ⟨v3, h9, hF⟩ := bd hF
 refine o_callSB call97 rfl lent_nil (tri97 h9 :) rfl (oV vA (o_seq ?_))
 refine cC hF (fun hF => ?_) (fun hF => ?_)
 refine cR (oV vM ?_)
 obtain ⟨v4, h11, hF⟩ := bd hF
 refine ocl [1, 1] call99 rfl rfl sub_nil (tri99 h11 :) ?_
 rintro _ _ _ ⟨A4, L4, C4, rfl, rfl, rfl⟩
 refine oV vA (o_seq (cR (oV vM (oV vB (o_seq ?_)))))
 refine cC hF (fun hF => ?_) (fun hF => ?_)
 refine cR (oV vM (oV vC ((fD 1) (oV (vL 0 ty3) (oV vM (oV (vU (.agg #[iI v4.2.at_, iI v4.1])) ((sT 2 ty37) (o_seq (c_ret ?_)))))))))
 cases hF
 refine s_ret1 rfl (r_cell 2 rfl ty37 rfl rfl rfl rfl) fun a w hs => fin_sel hs [0, 0] ⟨A4, L4, C4, rfl, rfl, rfl⟩ rfl sub_nil
 refine c_skip ?_
 exact sK [0, 1, 0] [] (hN2 v4.2.text v4.2.at_ v4.2.line v4.2.top v4.2.out A4 L4 C4 hF)
 refine cR (oV vM (oV vB (oV vA (o_seq ?_))))
 refine c_cut (fun E N' => ∀ (text_1 : Tx) (at__1 : Int) (line_1 : Int) (top_1 : Int) (out_1 : List Word) (A5 : OA) (L5 C5 : Nat), F.words.scanner_next_j4 text_1 at__1 line_1 top_1 out_1 = some r → Sat E [(0, pt b), (2, pt b1), (3, iB (sAt s.text s.at_))] [.box b 102 [sV text_1, iI at__1, iI line_1, iI top_1, sl A5 L5 C5], .box b1 37 [iI 0, iI 0], rW A5 L5 C5 106 11 eWord out_1] [] N') (fun N4 hN4 => ?_) ?_
 refine cC hF (fun hF => ?_) (fun hF => ?_)
 refine c_seq ?_
 refine c_cut (fun E N' => ∀ (b2 : List Int) (end_ : Int) (At_ : Int) (Code_ : Int) (A6 : OA) (L6 C6 : Nat) (b3 : Nat), F.words.scanner_next_j5 s b2 end_ At_ Code_ = some r → Sat E [(0, pt b), (2, pt b1), (3, iB (sAt s.text s.at_)), (7, sl A6 L6 C6), (8, iI end_), (9, pt b3)] [.box b1 37 [iI 0, iI 0], .box b 102 (vWords_scanner s A1 L1 C1), .box b3 37 [iI At_, iI Code_], rW A6 L6 C6 5 1 eU8 b2, rW A1 L1 C1 106 11 eWord s.out] [] N') (fun N5 hN5 => ?_) ?_
 refine c_draw (n := 17) [0, 0, 0] mixed rfl rfl (dv 0 rfl vM (dv 1 rfl vC (dv 2 rfl (vF 0) (dv 3 rfl (vL 1 ty9) (dv 4 rfl vM (dv 5 rfl vC (dv 6 rfl (vF 1) (dv 7 rfl (vL 1 ty3) ?_))))))))
 obtain ⟨v6, h16, hF⟩ := bd hF
 refine d_all [8, 13] (by kernel_rfl) (by simp) ⟨⟨_, rfl, ?_⟩, ⟨_, rfl, ?_⟩, trivial⟩
 refine o_call0 call100 rfl sub_nil (tri100 h16 :) rfl ?_
 rintro _ _ _ ⟨A8, L8, C8, rfl, rfl, rfl⟩
 refine dN [1, 1, 1] 0 (dv 9 rfl vM (dv 10 rfl vX (dv 11 rfl vX (dv 12 rfl vX (dO 13 rfl (o_alloc zero37 rfl rfl ?_))))))
 intro b4
 refine dN [2, 2, 2] 0 (dv 14 rfl vA (dv 15 rfl vA (dO 16 rfl ((sT 0 ty37) (dN [2, 2, 2] 0 (dD ?_))))))
 exact sK [2, 2, 0, 0, 0] [] (hN5 v6.1 v6.2.1 v6.2.2.At v6.2.2.Code A8 L8 C8 b4 hF)
 refine o_alloc zero37 rfl rfl fun b4 => dN [1, 1, 1] 0 (dO 8 rfl (o_call0 call100 rfl sub_nil (tri100 h16 :) rfl ?_))
 rintro _ _ _ ⟨A8, L8, C8, rfl, rfl, rfl⟩
 refine dN [2, 2, 2] 0 (dv 9 rfl vM (dv 10 rfl vX (dv 11 rfl vX (dv 12 rfl vX (dv 14 rfl vA (dv 15 rfl vA (dO 16 rfl ((sT 1 ty37) (dN [2, 2, 2] 0 (dD ?_))))))))))
 exact sK [2, 2, 1, 0, 0] [] (hN5 v6.1 v6.2.1 v6.2.2.At v6.2.2.Code A8 L8 C8 b4 hF)
 intro b2 end_ At_ Code_ A6 L6 C6 b3 hF
 unfold F.words.scanner_next_j5 at hF
 refine sat_wc (c_seq (cR ((fD 1) (oV (vL 2 ty32) (oV vB (o_seq ?_))))))
 refine cC hF (fun hF => ?_) (fun hF => ?_)
 refine cR (oV (vL 2 ty37) ((sT 0 ty37) (o_seq (c_ret ?_))))
 cases hF
 refine s_ret1 rfl (r_cell 0 rfl ty37 rfl rfl rfl rfl) fun a w hs => fin_sel hs [1, 3] ⟨A1, L1, C1, rfl, rfl, rfl⟩ rfl sub_nil
 refine c_skip (sat_wc (c_region (oV vM (oV vM (oV (vU (.agg #[iI 4, sV ([] : Tx), sl A6 L6 C6, iU 0, iU 0, iU 0, iU 0, iI 0, iI 0, iI 0, iI 0])) (oV vM ?_))))))
 obtain ⟨v5, h15, hF⟩ := bd hF
 refine o_st (st_freeze 3 rfl) (ocl [1, 2] call49 rfl rfl (subs [0] rfl) (tri49 h15 :) ?_)
 rintro _ _ _ ⟨A7, L7, C7, rfl, rfl, rfl⟩
 refine o_nil ?_
 exact sK [0, 1, 0] [] (hN4 v5.text v5.at_ v5.line v5.top v5.out A7 L7 C7 hF)
 refine cR (oV vM (oV vB (oV vA (o_seq ?_))))
 refine cC hF (fun hF => ?_) (fun hF => ?_)
 refine c_seq ?_
 refine c_cut (fun E N' => ∀ (set__ : S4) (end_1 : Int) (At_1 : Int) (Code_1 : Int) (b5 : Nat) (b6 : Nat), F.words.scanner_next_j6 s set__ end_1 At_1 Code_1 = some r → Sat E [(0, pt b), (2, pt b1), (3, iB (sAt s.text s.at_)), (10, pt b5), (11, iI end_1), (12, pt b6)] [.box b1 37 [iI 0, iI 0], .box b 102 (vWords_scanner s A1 L1 C1), .box b5 44 set__.vs, .box b6 37 [iI At_1, iI Code_1], rW A1 L1 C1 106 11 eWord s.out] [] N') (fun N6 hN6 => ?_) ?_
 refine c_draw (n := 18) [0, 0, 0] mixed rfl rfl (dv 0 rfl vM (dv 1 rfl vC (dv 2 rfl (vF 0) (dv 3 rfl (vL 1 ty9) (dv 4 rfl vM (dv 5 rfl vC (dv 6 rfl (vF 1) (dv 7 rfl (vL 1 ty3) ?_))))))))
 obtain ⟨v8, h20, hF⟩ := bd hF
 refine d_all [8, 13, 14] (by kernel_rfl) (by simp) ⟨⟨_, rfl, ?_⟩, ⟨_, rfl, ?_⟩, ⟨_, rfl, ?_⟩, trivial⟩
 refine o_callSB call101 rfl lent_nil (tri101 h20 :) rfl (dN [0, 0, 0] 0 (dv 9 rfl vM (dv 10 rfl vX (dv 11 rfl vX (dv 12 rfl vX ?_)))))
 refine d_all [13, 14] (by kernel_rfl) (by simp) ⟨⟨_, rfl, ?_⟩, ⟨_, rfl, ?_⟩, trivial⟩
 refine o_alloc zero44 rfl rfl fun b7 => dN [1, 1, 1] 0 (dO 14 rfl (o_alloc zero37 rfl rfl ?_))
 intro b8
 refine dN [2, 2, 2] 0 (dO 15 rfl ((sT 1 ty44) (dN [2, 2, 2] 0 (dv 16 rfl vA (dO 17 rfl ((sT 0 ty37) (dN [2, 2, 2] 0 (dD ?_))))))))
 exact sK [2, 2, 1, 0, 0] [] (hN6 v8.1 v8.2.1 v8.2.2.At v8.2.2.Code b7 b8 hF)
 refine o_alloc zero37 rfl rfl fun b7 => dN [1, 1, 1] 0 (dO 13 rfl (o_alloc zero44 rfl rfl ?_))
 intro b8
 refine dN [2, 2, 2] 0 (dO 15 rfl ((sT 0 ty44) (dN [2, 2, 2] 0 (dv 16 rfl vA (dO 17 rfl ((sT 1 ty37) (dN [2, 2, 2] 0 (dD ?_))))))))
 exact sK [2, 2, 0, 0, 0] [] (hN6 v8.1 v8.2.1 v8.2.2.At v8.2.2.Code b8 b7 hF)
 refine o_alloc zero44 rfl rfl fun b7 => dN [1, 1, 1] 0 ?_
 refine d_all [8, 14] (by kernel_rfl) (by simp) ⟨⟨_, rfl, ?_⟩, ⟨_, rfl, ?_⟩, trivial⟩
 refine o_callSB call101 rfl lent_nil (tri101 h20 :) rfl (dN [1, 1, 1] 0 (dv 9 rfl vM (dv 10 rfl vX (dv 11 rfl vX (dv 12 rfl vX (dO 14 rfl (o_alloc zero37 rfl rfl ?_)))))))
 intro b8
 refine dN [2, 2, 2] 0 (dO 15 rfl ((sT 1 ty44) (dN [2, 2, 2] 0 (dv 16 rfl vA (dO 17 rfl ((sT 0 ty37) (dN [2, 2, 2] 0 ?_)))))))
 refine dD ?_
 exact sK [2, 2, 1, 0, 0] [] (hN6 v8.1 v8.2.1 v8.2.2.At v8.2.2.Code b7 b8 hF)
 refine o_alloc zero37 rfl rfl fun b8 => dN [2, 2, 2] 0 (dO 8 rfl (o_callSB call101 rfl lent_nil (tri101 h20 :) rfl (dN [2, 2, 2] 0 (dv 9 rfl vM (dv 10 rfl vX (dv 11 rfl vX (dv 12 rfl vX (dO 15 rfl ((sT 1 ty44) (dN [2, 2, 2] 0 (dv 16 rfl vA (dO 17 rfl ((sT 0 ty37) (dN [2, 2, 2] 0 ?_))))))))))))))
 refine dD ?_
 exact sK [2, 2, 1, 0, 0] [] (hN6 v8.1 v8.2.1 v8.2.2.At v8.2.2.Code b7 b8 hF)
 refine o_alloc zero37 rfl rfl fun b7 => dN [1, 1, 1] 0 ?_
 refine d_all [8, 13] (by kernel_rfl) (by simp) ⟨⟨_, rfl, ?_⟩, ⟨_, rfl, ?_⟩, trivial⟩
 refine o_callSB call101 rfl lent_nil (tri101 h20 :) rfl (dN [1, 1, 1] 0 (dv 9 rfl vM (dv 10 rfl vX (dv 11 rfl vX (dv 12 rfl vX (dO 13 rfl (o_alloc zero44 rfl rfl ?_)))))))
 intro b8
 refine dN [2, 2, 2] 0 (dO 15 rfl ((sT 0 ty44) (dN [2, 2, 2] 0 (dv 16 rfl vA (dO 17 rfl ((sT 1 ty37) (dN [2, 2, 2] 0 ?_)))))))
 refine dD ?_
 exact sK [2, 2, 0, 0, 0] [] (hN6 v8.1 v8.2.1 v8.2.2.At v8.2.2.Code b8 b7 hF)
 refine o_alloc zero44 rfl rfl fun b8 => dN [2, 2, 2] 0 (dO 8 rfl (o_callSB call101 rfl lent_nil (tri101 h20 :) rfl (dN [2, 2, 2] 0 (dv 9 rfl vM (dv 10 rfl vX (dv 11 rfl vX (dv 12 rfl vX (dO 15 rfl ((sT 0 ty44) (dN [2, 2, 2] 0 (dv 16 rfl vA (dO 17 rfl ((sT 1 ty37) (dN [2, 2, 2] 0 ?_))))))))))))))
 refine dD ?_
 exact sK [2, 2, 0, 0, 0] [] (hN6 v8.1 v8.2.1 v8.2.2.At v8.2.2.Code b8 b7 hF)
 intro set__ end_1 At_1 Code_1 b5 b6 hF
 unfold F.words.scanner_next_j6 at hF
 refine sat_wc (c_seq (cR ((fD 1) (oV (vL 3 ty32) (oV vB (o_seq ?_))))))
 refine cC hF (fun hF => ?_) (fun hF => ?_)
 refine cR (oV (vL 3 ty37) ((sT 0 ty37) (o_seq (c_ret ?_))))
 cases hF
 refine s_ret1 rfl (r_cell 0 rfl ty37 rfl rfl rfl rfl) fun a w hs => fin_sel hs [1, 3] ⟨A1, L1, C1, rfl, rfl, rfl⟩ rfl sub_nil
 refine c_skip (sat_wc (c_region (oV vM (oV (vL 2 ty44) (oV (vU (.agg #[iI 5, sV ([] : Tx), nS, iU set__.w0, iU set__.w1, iU set__.w2, iU set__.w3, iI 0, iI 0, iI 0, iI 0])) (oV vM ?_))))))
 obtain ⟨v7, h19, hF⟩ := bd hF
 refine o_st (st_nilfact 1) (ocl [1, 3] call49 rfl rfl (subs [0] rfl) (tri49 h19 :) ?_)
 rintro _ _ _ ⟨A9, L9, C9, rfl, rfl, rfl⟩
 refine o_nil ?_
 exact sK [0, 1, 0] [] (hN4 v7.text v7.at_ v7.line v7.top v7.out A9 L9 C9 hF)
 refine cR (oV vM ?_)
 obtain ⟨v9, h21, hF⟩ := bd hF
 refine o_callSB call102 rfl lent_nil (tri102 ([61, 124, 46, 59, 62, 63, 42, 43, 123, 125, 40, 41, 95, 47, 44, 45] : Tx) (sAt s.text s.at_) v9 h21) rfl (oV vB (oV vA (o_seq ?_)))
 refine cC hF (fun hF => ?_) (fun hF => ?_)
 refine c_region (oV vM (oV (vU (.agg #[iI 6, sV ([] : Tx), nS, iU 0, iU 0, iU 0, iU 0, iI 0, iI 0, iI 0, iI 0])) (oV vM (oV vC ((fD 1) (oV (vL 1 ty3) (oV vB ?_)))))))
 obtain ⟨v10, h23, hF⟩ := bd hF
 refine o_st (st_nilfact 1) (ocl [1, 1] call49 rfl rfl (subs [0] rfl) (tri49 h23 :) ?_)
 rintro _ _ _ ⟨A10, L10, C10, rfl, rfl, rfl⟩
 refine o_nil ?_
 exact sK [0, 1, 0] [] (hN4 v10.text v10.at_ v10.line v10.top v10.out A10 L10 C10 hF)
 refine cR (oV vM (oV vC ((fD 1) (oV (vL 1 ty3) (oV (vU (.agg #[iI s.at_, iI 11])) ((sT 0 ty37) (o_seq (c_ret ?_))))))))
 cases hF
 refine s_ret1 rfl (r_cell 0 rfl ty37 rfl rfl rfl rfl) fun a w hs => fin_sel hs [1, 1] ⟨A1, L1, C1, rfl, rfl, rfl⟩ rfl sub_nil
 intro text_1 at__1 line_1 top_1 out_1 A5 L5 C5 hF
 unfold F.words.scanner_next_j4 at hF
 exact sK [0, 0, 0] [] (hN2 text_1 at__1 line_1 top_1 out_1 A5 L5 C5 hF)
 intro text_ at__ line_ top_ out_ A2 L2 C2 hF
 unfold F.words.scanner_next_j2 at hF
 refine sat_wc (cR (oV (vU (.agg #[iI 0, iI 0])) ((sT 1 ty37) (o_seq (c_ret ?_)))))
 cases hF
 refine s_ret1 rfl (r_cell 1 rfl ty37 rfl rfl rfl rfl) fun a w hs => fin_sel hs [0, 1] ⟨A2, L2, C2, rfl, rfl, rfl⟩ rfl sub_nil
theorem tri20 {k : Nat} {text_ : Tx} {r : List Word × Fault} (hF : F.words.Scan k text_ = some r) :
    Tri Tryz.prog 20 [sV text_] [] [] (fun o H Φ => ∃ (A5 : OA) (L5 C5 : Nat), o = .ret (.tuple #[sl A5 L5 C5, .agg #[iI r.2.At, iI r.2.Code]]) ∧ H = [rW A5 L5 C5 106 11 eWord r.1] ∧ Φ = []) := by
 unfold F.words.Scan at hF
 refine tri_intro (n := 42) Tryz.func20 rfl Tryz.ntmps20 rfl fun w X => cR (oV vA (o_alloc zero37 rfl rfl ?_))
 intro b
 refine o_seq (c_seq (cR (oV vM (oV (v_len_str Tryz.underlying9 rfl) (oV vB (o_seq ?_))))))
 refine cC hF (fun hF => ?_) (fun hF => ?_)
 refine cR (oV (vU (.agg #[iI 0, iI 2])) (oV vA ((sT 0 ty37) (o_seq (c_ret ?_)))))
 cases hF
 refine s_st (st_nilrow 106 11) (s_ret2 rfl (r_tmp rfl) (r_cell 1 rfl ty37 rfl rfl rfl rfl) fun a w hs => fin_sel hs [0] ⟨none, 0, 0, rfl, rfl, rfl⟩ rfl sub_nil)
 refine c_skip (sat_wc (cR (oV vM (oV (vU (.agg #[sV text_, iI 0, iI 1, iI 0, nS])) (o_box rfl rfl rfl ?_)))))
 intro b1
 refine oV vA (o_seq (c_seq (cR (oV vM ?_))))
 obtain ⟨v, h2, hF⟩ := bd hF
 refine o_st (st_nilrow 106 11) (ocl [1, 0] call47 rfl rfl sub_nil (tri47 h2 :) ?_)
 rintro _ _ _ ⟨rfl, rfl, rfl⟩
 refine o_seq ?_
 obtain ⟨o1, ho1, hF⟩ := bd hF
 refine c_cut (fun E N' => ∀ (d1 : (List UInt8) × Int × Int × Int × (List Word)) (A2 : OA) (L2 C2 : Nat), o1 = .done d1 → Sat E [(0, sV text_), (2, nS), (3, pt b), (4, pt b1)] [.box b1 102 [sV d1.1, iI d1.2.1, iI d1.2.2.1, iI d1.2.2.2.1, sl A2 L2 C2], .box b 37 [iI 0, iI 0], rW A2 L2 C2 106 11 eWord d1.2.2.2.2] [] N') (fun N1 hN1 => ?_) ?_
 refine c_block ?_
 refine c_loopE (fun E j a w => ∃ (text_1 : Tx) (at__ : Int) (line_ : Int) (top_ : Int) (out_ : List Word) (A1 : OA) (L1 C1 : Nat), F.words.Scan_l1 k text_ j text_1 at__ line_ top_ out_ = some o1 ∧ St E [(0, sV text_), (2, nS), (3, pt b), (4, pt b1)] [.box b1 102 [sV text_1, iI at__, iI line_, iI top_, sl A1 L1 C1], .box b 37 [iI 0, iI 0], rW A1 L1 C1 106 11 eWord out_] [] a w) k ?_ ?_
 exact lq [0, 1, 0] [] fun a w hs => ⟨v.text, v.at_, v.line, v.top, ([] : List Word), none, 0, 0, ho1, hs⟩
 rintro j a w ⟨text_1, at__, line_, top_, out_, A1, L1, C1, hL1, hs⟩
 rcases j with _ | j
 cases hL1
 refine wc_app hs ?_
 unfold F.words.Scan_l1 at hL1
 refine c_seq (cR (oV vM (oV vC ((fD 1) (oV (vL 0 ty3) (oV vM (oV (v_len_str Tryz.underlying9 rfl) (oV vB (o_seq ?_)))))))))
 refine cC hL1 (fun hL1 => ?_) (fun hL1 => ?_)
 refine c_skip (sat_wc (c_seq (c_block (cR (oV vM ?_)))))
 obtain ⟨v1, h4, hL1⟩ := bd hL1
 refine ocl [0, 1] call48 rfl rfl sub_nil (tri48 h4 :) ?_
 rintro _ _ _ ⟨A3, L3, C3, rfl, rfl, rfl⟩
 refine o_alloc zero37 rfl rfl fun b2 => (sT 0 ty37) (o_seq (cR ((fD 1) (oV (vL 0 ty32) (oV vB (o_seq ?_))))))
 refine cC hL1 (fun hL1 => ?_) (fun hL1 => ?_)
 refine c_seq (c_draw (n := 3) [0, 0, 0] mixed rfl rfl (dv 0 rfl (vL 0 ty37) (dv 1 rfl vA (dO 2 rfl ((sT 3 ty37) (dN [0, 0, 0] 0 (d_done_seq (by kernel_rfl) (c_ret ?_))))))))
 cases hL1
 obtain rfl := lrf_ret hF
 refine s_st (st_nilrow 106 11) (s_ret2 rfl (r_tmp rfl) (r_cell 4 rfl ty37 rfl rfl rfl rfl) fun a w hs => fin_sel hs [0] ⟨none, 0, 0, rfl, rfl, rfl⟩ rfl sub_nil)
 refine c_skip (sat_wc (c_region (oV vM ?_)))
 obtain ⟨v2, h6, hL1⟩ := bd hL1
 refine ocl [1, 1] call47 rfl rfl sub_nil (tri47 h6 :) ?_
 rintro _ _ _ ⟨rfl, rfl, rfl⟩
 refine o_nil ?_
 exact lp [0, 2, 0] [] fun a w hs => ⟨v2.text, v2.at_, v2.line, v2.top, v1.2.out, A3, L3, C3, hL1, hs⟩
 refine c_exit0 ?_
 cases hL1
 exact sK [0, 0, 0] [] (hN1 (text_1, at__, line_, top_, out_) A1 L1 C1 rfl)
 intro d1 A2 L2 C2 hd
 subst hd
 replace hF := lrf_done hF
 refine sat_wc (cR (oV vM (oV (vU (.agg #[iI 7, sV ([] : Tx), nS, iU 0, iU 0, iU 0, iU 0, iI 0, iI 0, iI 0, iI 0])) (oV vM (oV vC ((fD 1) (oV (vL 0 ty3) ?_)))))))
 obtain ⟨v3, h7, hF⟩ := bd hF
 refine o_st (st_nilfact 1) (ocl [0, 1] call49 rfl rfl (subs [0] rfl) (tri49 h7 :) ?_)
 rintro _ _ _ ⟨A4, L4, C4, rfl, rfl, rfl⟩
 refine o_seq (cR (oV vM (oV vC ((fD 4) (oV (vL 0 ty50) (oV (vU (.agg #[iI 0, iI 0])) (oV vA ((sT 2 ty37) (o_seq (c_ret ?_))))))))))
 cases hF
 refine s_ret2 rfl (r_tmp rfl) (r_cell 2 rfl ty37 rfl rfl rfl rfl) fun a w hs => fin_sel hs [1] ⟨A4, L4, C4, rfl, rfl, rfl⟩ rfl sub_nil
theorem tri92 {w_ : Word} {e_ : Int} {r : Pn Unit Fault} (hF : F.defs.fail w_ e_ = some r) :
    Tri Tryz.prog 92 [.agg (vWord w_ A1 L1 C1).toArray, iI e_] [] [fS A1 L1 C1 1 eU8 w_.Bytes] (fun o H Φ => match (generalizing := false) r with | .ok r => (o = .ret (.tuple #[]) ∧ H = [] ∧ Φ = []) | .pan y => o = .pan (.iface 37 (.agg #[iI y.At, iI y.Code])) ∧ H = [] ∧ Φ = []) := by
 unfold F.defs.fail at hF
 refine tri_intro (n := 9) Tryz.func92 rfl Tryz.ntmps92 rfl fun w X => cR (o_box rfl rfl rfl fun b => o_seq (c_region ((fD 8) (oV (vL 0 ty3) (oV vM (oV (vU (.agg #[iI w_.At, iI e_])) (oV (v_makeIface (v := .iface 37 (.agg #[iI w_.At, iI e_])) rfl (fun _ => by kernel_rfl)) (o_panic rfl ?_))))))))
 cases hF
 exact sP
theorem tri87 {r_ : Defs_reader} {k_ : Int} {b : Nat} {r : Pn (Word × Defs_reader) Fault} (hF : F.defs.reader_kind r_ k_ = some r) :
    Tri Tryz.prog 87 [pt b, iI k_] [.box b 87 [sl A1 L1 C1, iI r_.at_, sV r_.d.Start, sV r_.d.Layout, sl A2 L2 C2, sl A3 L3 C3, sl A4 L4 C4, sl A5 L5 C5, sl A6 L6 C6, bV r_.start, bV r_.layout, iI r_.items], rW A2 L2 C2 57 5 eProd r_.d.Prods, rW A3 L3 C3 58 1 (eSl 2 eGroup) r_.d.Chains, rW A4 L4 C4 48 5 eFollow r_.d.Follows, rW A5 L5 C5 78 2 eReject r_.d.Rejects, rW A6 L6 C6 64 2 eBox r_.d.Boxes] [fS A1 L1 C1 11 eWord r_.l_] (fun o H Φ => match (generalizing := false) r with | .ok r => (∃ (A8 : OA) (L8 C8 : Nat) (A9 : OA) (L9 C9 : Nat), o = .ret (.agg (vWord r.1 A8 L8 C8).toArray) ∧ H = [.box b 87 [sl A9 L9 C9, iI r.2.at_, sV r.2.d.Start, sV r.2.d.Layout, sl A2 L2 C2, sl A3 L3 C3, sl A4 L4 C4, sl A5 L5 C5, sl A6 L6 C6, bV r.2.start, bV r.2.layout, iI r.2.items], rW A2 L2 C2 57 5 eProd r_.d.Prods, rW A3 L3 C3 58 1 (eSl 2 eGroup) r_.d.Chains, rW A4 L4 C4 48 5 eFollow r_.d.Follows, rW A5 L5 C5 78 2 eReject r_.d.Rejects, rW A6 L6 C6 64 2 eBox r_.d.Boxes] ∧ Φ = [fS A8 L8 C8 1 eU8 r.1.Bytes, fS A9 L9 C9 11 eWord r.2.l_]) | .pan y => o = .pan (.iface 37 (.agg #[iI y.At, iI y.Code])) ∧ H = [] ∧ Φ = []) := by
 unfold F.defs.reader_kind at hF
 refine tri_intro (n := 40) Tryz.func87 rfl Tryz.ntmps87 rfl fun w X => cR (o_alloc zero106 rfl rfl fun b1 => o_seq (c_seq (ite_some hF fun h1 hF => c_elem (xs := r_.l_) (enc := eWord) 0 rfl h1 rfl rfl fun A7 L7 C7 => c_draw (n := 12) [0, 0, 0, 0, 0, 0, 0] mixed rfl rfl (dv 0 rfl vM (dv 1 rfl vC (dv 2 rfl (vF 0) (dv 3 rfl (vL 1 ty50) (dv 4 rfl vM (dv 5 rfl vC (dv 6 rfl (vF 1) ?_))))))))))
 refine dv 7 rfl (vL 1 ty3) (dv 8 rfl (v_indexAddr_s (xs := r_.l_) (enc := eWord) sl50 rfl rfl (.f 2 rfl) h1) (dv 9 rfl (v_load_cl 0 ty106 rfl rfl rfl rfl rfl) (dO 10 rfl (o_alloc zero106 rfl rfl ?_))))
 intro b2
 refine dN [1, 1, 1, 1, 1, 1, 1] 0 (dO 11 rfl ((sT 0 ty106) (dN [1, 1, 1, 1, 1, 1, 1] 0 (d_done_seq (by kernel_rfl) (c_seq (cR ((fD 0) (oV (vL 0 ty3) (oV vM ?_)))))))))
 refine oV vB (o_seq ?_)
 refine cT (fun E H Φ N' => F.defs.reader_kind_j1 k_ r_ = some r → Sat E [(0, pt b), (1, iI k_), (4, pt b1), (5, pt b2)] H [fS A7 L7 C7 1 eU8 ((at_ r_.l_ r_.at_).Bytes), fS A1 L1 C1 11 eWord r_.l_] N') (fun N3 hN3 => ?_) ?_
 refine cC hF (fun hF => ?_) (fun hF => ?_)
 refine c_region (oV (vL 0 ty106) ?_)
 obtain ⟨v1, h6, hF⟩ := bd hF
 rcases v1 with x_1 | y_1
 replace hF := pn_ok hF
 refine o_call0 call92 rfl (subs [1] rfl) (tri92 h6 :) rfl ?_
 rintro _ _ _ ⟨rfl, rfl, rfl⟩
 refine o_nil ?_
 exact sK [0, 0, 0, 0, 0, 0, 0, 0] [1, 2] (hN3 hF)
 replace hF := pn_pan hF
 refine o_call0 call92 rfl (subs [1] rfl) (tri92 h6 :) rfl ?_
 rintro _ _ _ ⟨rfl, rfl, rfl⟩
 cases hF
 exact sP
 refine c_skip ?_
 exact sK [0, 0, 0, 0, 0, 0, 0, 0] [1, 2] (hN3 hF)
 intro hF
 unfold F.defs.reader_kind_j1 at hF
 refine sat_wc (c_seq (c_seq ?_))
 refine cT (fun E H Φ N' => ∀ (t29 : Bool), F.defs.reader_kind_j2 r_ t29 = some r → Sat E [(0, pt b), (1, iI k_), (4, pt b1), (5, pt b2), (29, bV t29)] H Φ N') (fun N3 hN3 => ?_) ?_
 refine c_region (oV vM (oV vB (oV vM ?_)))
 refine oS 24 hF (fun hF => ?_) (fun hF => ?_)
 refine oN ((fD 2) (oN (oV (vL 0 ty67) (oN (oV (v_lenS (enc := eU8) ((at_ r_.l_ r_.at_).Bytes) sl67 rfl (.f 0 rfl)) (oN (oV vB (oV vPt (o_nil ?_)))))))))
 exact sK [0, 0, 0, 0, 0, 0, 0, 0] [0, 1] (hN3 (decide (32 < (((at_ r_.l_ r_.at_).Bytes).length : Int))) hF)
 refine oF (oF (oF (oF (oV vPf (o_nil ?_)))))
 exact sK [0, 0, 0, 0, 0, 0, 0, 0] [0, 1] (hN3 false hF)
 intro t29 hF
 unfold F.defs.reader_kind_j2 at hF
 refine sat_wc ?_
 refine cT (fun E H Φ N' => F.defs.reader_kind_j3 r_ = some r → Sat E [(0, pt b), (1, iI k_), (4, pt b1), (5, pt b2)] H Φ N') (fun N3 hN3 => ?_) ?_
 refine cC hF (fun hF => ?_) (fun hF => ?_)
 refine c_region (oV (vL 0 ty106) ?_)
 obtain ⟨v, h3, hF⟩ := bd hF
 rcases v with x_ | y_
 replace hF := pn_ok hF
 refine o_call0 call92 rfl (subs [0] rfl) (tri92 h3 :) rfl ?_
 rintro _ _ _ ⟨rfl, rfl, rfl⟩
 refine o_nil ?_
 exact sK [0, 0, 0, 0, 0, 0, 0, 0] [0, 1] (hN3 hF)
 replace hF := pn_pan hF
 refine o_call0 call92 rfl (subs [0] rfl) (tri92 h3 :) rfl ?_
 rintro _ _ _ ⟨rfl, rfl, rfl⟩
 cases hF
 exact sP
 refine c_skip ?_
 exact sK [0, 0, 0, 0, 0, 0, 0, 0] [0, 1] (hN3 hF)
 intro hF
 unfold F.defs.reader_kind_j3 at hF
 refine sat_wc (cR (oV vM (oV vC ((fD 1) (oV (vL 2 ty3) (oV vB (oV vC ((fD 1) ((sT 2 ty3) (o_seq (cR (oV (vL 0 ty106) ((sT 1 ty106) ?_)))))))))))))
 refine o_seq (c_ret ?_)
 cases hF
 refine s_ret1 rfl (r_cell 1 rfl ty106 rfl rfl rfl rfl) fun a w hs => fin_sel hs [2, 2, 2, 2, 2, 2] ⟨A7, L7, C7, A1, L1, C1, rfl, rfl, rfl⟩ rfl (subs [0, 1] rfl)
theorem tri86 {r_ : Defs_reader} {b : Nat} {r : Pn (List UInt8 × Defs_reader) Fault} (hF : F.defs.reader_name r_ = some r) :
    Tri Tryz.prog 86 [pt b] [.box b 87 [sl A1 L1 C1, iI r_.at_, sV r_.d.Start, sV r_.d.Layout, sl A2 L2 C2, sl A3 L3 C3, sl A4 L4 C4, sl A5 L5 C5, sl A6 L6 C6, bV r_.start, bV r_.layout, iI r_.items], rW A2 L2 C2 57 5 eProd r_.d.Prods, rW A3 L3 C3 58 1 (eSl 2 eGroup) r_.d.Chains, rW A4 L4 C4 48 5 eFollow r_.d.Follows, rW A5 L5 C5 78 2 eReject r_.d.Rejects, rW A6 L6 C6 64 2 eBox r_.d.Boxes] [fS A1 L1 C1 11 eWord r_.l_] (fun o H Φ => match (generalizing := false) r with | .ok r => (∃ (A9 : OA) (L9 C9 : Nat), o = .ret (sV r.1) ∧ H = [.box b 87 [sl A9 L9 C9, iI r.2.at_, sV r.2.d.Start, sV r.2.d.Layout, sl A2 L2 C2, sl A3 L3 C3, sl A4 L4 C4, sl A5 L5 C5, sl A6 L6 C6, bV r.2.start, bV r.2.layout, iI r.2.items], rW A2 L2 C2 57 5 eProd r_.d.Prods, rW A3 L3 C3 58 1 (eSl 2 eGroup) r_.d.Chains, rW A4 L4 C4 48 5 eFollow r_.d.Follows, rW A5 L5 C5 78 2 eReject r_.d.Rejects, rW A6 L6 C6 64 2 eBox r_.d.Boxes] ∧ Φ = [fS A9 L9 C9 11 eWord r.2.l_]) | .pan y => o = .pan (.iface 37 (.agg #[iI y.At, iI y.Code])) ∧ H = [] ∧ Φ = []) := by
 unfold F.defs.reader_name at hF
 refine tri_intro (n := 6) Tryz.func86 rfl Tryz.ntmps86 rfl fun w X => cR (oV vA (o_seq (cR (oV vM ?_))))
 obtain ⟨v, h1, hF⟩ := bd hF
 rcases v with x_ | y_
 replace hF := pn_ok hF
 refine ocl [0, 0, 0, 0, 0, 0] call87 rfl rfl (subs [0] rfl) (tri87 h1 :) ?_
 rintro _ _ _ ⟨A7, L7, C7, A8, L8, C8, rfl, rfl, rfl⟩
 refine oV (v_field (v := sV x_.1.Text) rfl (fun _ => by kernel_rfl)) (oV vA (o_seq (c_ret ?_)))
 cases hF
 refine s_ret1 rfl (r_tmp rfl) fun a w hs => fin_sel hs [0, 0, 0, 0, 0, 0] ⟨A8, L8, C8, rfl, rfl, rfl⟩ rfl (subs [1] rfl)
 replace hF := pn_pan hF
 refine ocl [0, 0, 0, 0, 0, 0] call87 rfl rfl (subs [0] rfl) (tri87 h1 :) ?_
 rintro _ _ _ ⟨rfl, rfl, rfl⟩
 cases hF
 exact sP
theorem tri118 {r_ : Defs_reader} {text_ : Tx} {b : Nat} {r : Bool} (hF : F.defs.reader_is r_ text_ = some r) :
    Tri Tryz.prog 118 [pt b, sV text_] [.box b 87 [sl A1 L1 C1, iI r_.at_, sV r_.d.Start, sV r_.d.Layout, sl A2 L2 C2, sl A3 L3 C3, sl A4 L4 C4, sl A5 L5 C5, sl A6 L6 C6, bV r_.start, bV r_.layout, iI r_.items], rW A2 L2 C2 57 5 eProd r_.d.Prods, rW A3 L3 C3 58 1 (eSl 2 eGroup) r_.d.Chains, rW A4 L4 C4 48 5 eFollow r_.d.Follows, rW A5 L5 C5 78 2 eReject r_.d.Rejects, rW A6 L6 C6 64 2 eBox r_.d.Boxes] [fS A1 L1 C1 11 eWord r_.l_] (fun o H Φ => o = .ret (bV r) ∧ H = [.box b 87 [sl A1 L1 C1, iI r_.at_, sV r_.d.Start, sV r_.d.Layout, sl A2 L2 C2, sl A3 L3 C3, sl A4 L4 C4, sl A5 L5 C5, sl A6 L6 C6, bV r_.start, bV r_.layout, iI r_.items], rW A2 L2 C2 57 5 eProd r_.d.Prods, rW A3 L3 C3 58 1 (eSl 2 eGroup) r_.d.Chains, rW A4 L4 C4 48 5 eFollow r_.d.Follows, rW A5 L5 C5 78 2 eReject r_.d.Rejects, rW A6 L6 C6 64 2 eBox r_.d.Boxes] ∧ Φ = []) := by
 unfold F.defs.reader_is at hF
 refine tri_intro (n := 30) Tryz.func118 rfl Tryz.ntmps118 rfl fun w X => cR (oV vA (o_seq (c_seq (ite_some hF ?_))))
 intro h1 hF
 refine c_elem (xs := r_.l_) (enc := eWord) 0 rfl h1 rfl rfl fun A7 L7 C7 => c_draw (n := 12) [0, 0, 0, 0, 0, 0] mixed rfl rfl (dv 0 rfl vM (dv 1 rfl vC (dv 2 rfl (vF 0) (dv 3 rfl (vL 0 ty50) (dv 4 rfl vM (dv 5 rfl vC (dv 6 rfl (vF 1) ?_)))))))
 refine dv 7 rfl (vL 0 ty3) (dv 8 rfl (v_indexAddr_s (xs := r_.l_) (enc := eWord) sl50 rfl rfl (.f 2 rfl) h1) (dv 9 rfl (v_load_cl 0 ty106 rfl rfl rfl rfl rfl) (dO 10 rfl (o_alloc zero106 rfl rfl ?_))))
 intro b1
 refine dN [1, 1, 1, 1, 1, 1] 0 (dO 11 rfl ((sT 0 ty106) (dN [1, 1, 1, 1, 1, 1] 0 (d_done_seq (by kernel_rfl) (cR ((fD 0) (oV (vL 0 ty3) (oV vB (oV vM ?_)))))))))
 refine oS 19 hF (fun hF => ?_) (fun hF => ?_)
 refine oF (oF (oF (oV vPt (oV vM (oN ((fD 1) (oN (oV (vL 0 ty9) (oN (oV vM (oN (oV (v_streq rfl rfl) (oV vPt (oV vA (o_seq ?_)))))))))))))))
 refine c_ret ?_
 cases hF
 refine s_ret1 rfl (r_tmp rfl) fun a w hs => fin_sel hs [1, 1, 1, 1, 1, 1] ⟨rfl, rfl, rfl⟩ rfl sub_nil
 refine oN ((fD 0) (oN (oV (vL 0 ty3) (oN (oV vB (oV vPf (oV vM ?_)))))))
 refine oS 24 hF (fun hF => ?_) (fun hF => ?_)
 refine oN ((fD 1) (oN (oV (vL 0 ty9) (oN (oV vM (oN (oV (v_streq rfl rfl) (oV vPt (oV vA (o_seq (c_ret ?_)))))))))))
 cases hF
 refine s_ret1 rfl (r_tmp rfl) fun a w hs => fin_sel hs [1, 1, 1, 1, 1, 1] ⟨rfl, rfl, rfl⟩ rfl sub_nil
 refine oF (oF (oF (oF (oV vPf (oV vA (o_seq (c_ret ?_)))))))
 cases hF
 refine s_ret1 rfl (r_tmp rfl) fun a w hs => fin_sel hs [1, 1, 1, 1, 1, 1] ⟨rfl, rfl, rfl⟩ rfl sub_nil
theorem tri116 {r_ : Defs_reader} {text_ : Tx} {b : Nat} {r : Bool × Defs_reader} (hF : F.defs.reader_take r_ text_ = some r) :
    Tri Tryz.prog 116 [pt b, sV text_] [.box b 87 [sl A1 L1 C1, iI r_.at_, sV r_.d.Start, sV r_.d.Layout, sl A2 L2 C2, sl A3 L3 C3, sl A4 L4 C4, sl A5 L5 C5, sl A6 L6 C6, bV r_.start, bV r_.layout, iI r_.items], rW A2 L2 C2 57 5 eProd r_.d.Prods, rW A3 L3 C3 58 1 (eSl 2 eGroup) r_.d.Chains, rW A4 L4 C4 48 5 eFollow r_.d.Follows, rW A5 L5 C5 78 2 eReject r_.d.Rejects, rW A6 L6 C6 64 2 eBox r_.d.Boxes] [fS A1 L1 C1 11 eWord r_.l_] (fun o H Φ => ∃ (A7 : OA) (L7 C7 : Nat), o = .ret (bV r.1) ∧ H = [.box b 87 [sl A7 L7 C7, iI r.2.at_, sV r.2.d.Start, sV r.2.d.Layout, sl A2 L2 C2, sl A3 L3 C3, sl A4 L4 C4, sl A5 L5 C5, sl A6 L6 C6, bV r.2.start, bV r.2.layout, iI r.2.items], rW A2 L2 C2 57 5 eProd r_.d.Prods, rW A3 L3 C3 58 1 (eSl 2 eGroup) r_.d.Chains, rW A4 L4 C4 48 5 eFollow r_.d.Follows, rW A5 L5 C5 78 2 eReject r_.d.Rejects, rW A6 L6 C6 64 2 eBox r_.d.Boxes] ∧ Φ = [fS A7 L7 C7 11 eWord r.2.l_]) := by
 unfold F.defs.reader_take at hF
 refine tri_intro (n := 16) Tryz.func116 rfl Tryz.ntmps116 rfl fun w X => cR (oV vA (o_seq (c_seq (cR (oV vM (oV vM ?_))))))
 obtain ⟨v, h1, hF⟩ := bd hF
 refine ocl [0, 0, 0, 0, 0, 0] call118 rfl rfl (subs [0] rfl) (tri118 h1 :) ?_
 rintro _ _ _ ⟨rfl, rfl, rfl⟩
 refine oV vN (o_seq ?_)
 refine cC hF (fun hF => ?_) (fun hF => ?_)
 refine cR (oV vA (o_seq (c_ret ?_)))
 cases hF
 refine s_ret1 rfl (r_tmp rfl) fun a w hs => fin_sel hs [0, 0, 0, 0, 0, 0] ⟨A1, L1, C1, rfl, rfl, rfl⟩ rfl (subs [0] rfl)
 refine c_skip (sat_wc (cR (oV vM (oV vC ((fD 1) (oV (vL 0 ty3) (oV vB (oV vC ((fD 1) ((sT 0 ty3) (o_seq (cR (oV vA ?_)))))))))))))
 refine o_seq (c_ret ?_)
 cases hF
 refine s_ret1 rfl (r_tmp rfl) fun a w hs => fin_sel hs [0, 0, 0, 0, 0, 0] ⟨A1, L1, C1, rfl, rfl, rfl⟩ rfl (subs [0] rfl)
theorem tri88 {r_ : Defs_reader} {text_ : Tx} {b : Nat} {r : Pn Defs_reader Fault} (hF : F.defs.reader_want r_ text_ = some r) :
    Tri Tryz.prog 88 [pt b, sV text_] [.box b 87 [sl A1 L1 C1, iI r_.at_, sV r_.d.Start, sV r_.d.Layout, sl A2 L2 C2, sl A3 L3 C3, sl A4 L4 C4, sl A5 L5 C5, sl A6 L6 C6, bV r_.start, bV r_.layout, iI r_.items], rW A2 L2 C2 57 5 eProd r_.d.Prods, rW A3 L3 C3 58 1 (eSl 2 eGroup) r_.d.Chains, rW A4 L4 C4 48 5 eFollow r_.d.Follows, rW A5 L5 C5 78 2 eReject r_.d.Rejects, rW A6 L6 C6 64 2 eBox r_.d.Boxes] [fS A1 L1 C1 11 eWord r_.l_] (fun o H Φ => match (generalizing := false) r with | .ok r => (∃ (A9 : OA) (L9 C9 : Nat), o = .ret (.tuple #[]) ∧ H = [.box b 87 [sl A9 L9 C9, iI r.at_, sV r.d.Start, sV r.d.Layout, sl A2 L2 C2, sl A3 L3 C3, sl A4 L4 C4, sl A5 L5 C5, sl A6 L6 C6, bV r.start, bV r.layout, iI r.items], rW A2 L2 C2 57 5 eProd r_.d.Prods, rW A3 L3 C3 58 1 (eSl 2 eGroup) r_.d.Chains, rW A4 L4 C4 48 5 eFollow r_.d.Follows, rW A5 L5 C5 78 2 eReject r_.d.Rejects, rW A6 L6 C6 64 2 eBox r_.d.Boxes] ∧ Φ = [fS A9 L9 C9 11 eWord r.l_]) | .pan y => o = .pan (.iface 37 (.agg #[iI y.At, iI y.Code])) ∧ H = [] ∧ Φ = []) := by
 unfold F.defs.reader_want at hF
 refine tri_intro (n := 19) Tryz.func88 rfl Tryz.ntmps88 rfl fun w X => cR (oV vM (oV vM ?_))
 obtain ⟨v, h1, hF⟩ := bd hF
 refine ocl [0, 0, 0, 0, 0, 0] call116 rfl rfl (subs [0] rfl) (tri116 h1 :) ?_
 rintro _ _ _ ⟨A7, L7, C7, rfl, rfl, rfl⟩
 refine oV vN (o_seq ?_)
 refine cC hF (fun hF => ?_) (fun hF => ?_)
 refine ite_some hF fun h3 hF => c_elem (xs := v.2.l_) (enc := eWord) 0 rfl h3 rfl rfl fun A8 L8 C8 => c_draw (n := 11) [0, 0, 0, 0, 0, 0] mixed rfl rfl (dv 0 rfl vM (dv 1 rfl vC (dv 2 rfl (vF 0) (dv 3 rfl (vL 0 ty50) (dv 4 rfl vM (dv 5 rfl vC (dv 6 rfl (vF 1) (dv 7 rfl (vL 0 ty3) (dv 8 rfl (v_indexAddr_s (xs := v.2.l_) (enc := eWord) sl50 rfl rfl (.f 2 rfl) h3) (dv 9 rfl (v_load_cl 0 ty106 rfl rfl rfl rfl rfl) (dO 10 rfl ?_)))))))))))
 obtain ⟨v1, h4, hF⟩ := bd hF
 rcases v1 with x_ | y_
 replace hF := pn_ok hF
 refine o_call0 call92 rfl (subs [1] rfl) (tri92 h4 :) rfl ?_
 rintro _ _ _ ⟨rfl, rfl, rfl⟩
 refine dN [0, 0, 0, 0, 0, 0] 0 (dD ?_)
 cases hF
 refine s_ret0 rfl fun a w hs => fin_sel hs [0, 0, 0, 0, 0, 0] ⟨A7, L7, C7, rfl, rfl, rfl⟩ rfl (subs [2] rfl)
 replace hF := pn_pan hF
 refine o_call0 call92 rfl (subs [1] rfl) (tri92 h4 :) rfl ?_
 rintro _ _ _ ⟨rfl, rfl, rfl⟩
 cases hF
 exact sP
 refine c_skip ?_
 cases hF
 refine s_ret0 rfl fun a w hs => fin_sel hs [0, 0, 0, 0, 0, 0] ⟨A7, L7, C7, rfl, rfl, rfl⟩ rfl (subs [0] rfl)
theorem tri80_a0_9_a0_2 {r_ : Defs_reader} {first : Word} {b : Nat} {r : Pn Defs_reader Fault} (hF : F.defs.reader_once_a0_9_a0_2 r_ first = some r) :
    Tri Tryz.prog 80 [pt b, .agg (vWord first A7 L7 C7).toArray, .pointer (some ⟨b, 9, none⟩), .pointer (some ⟨b, 2, none⟩)] [.box b 87 [sl A1 L1 C1, iI r_.at_, sV r_.d.Start, sV r_.d.Layout, sl A2 L2 C2, sl A3 L3 C3, sl A4 L4 C4, sl A5 L5 C5, sl A6 L6 C6, bV r_.start, bV r_.layout, iI r_.items], rW A2 L2 C2 57 5 eProd r_.d.Prods, rW A3 L3 C3 58 1 (eSl 2 eGroup) r_.d.Chains, rW A4 L4 C4 48 5 eFollow r_.d.Follows, rW A5 L5 C5 78 2 eReject r_.d.Rejects, rW A6 L6 C6 64 2 eBox r_.d.Boxes] [fS A1 L1 C1 11 eWord r_.l_, fS A7 L7 C7 1 eU8 first.Bytes] (fun o H Φ => match (generalizing := false) r with | .ok r => (∃ (A10 : OA) (L10 C10 : Nat), o = .ret (.tuple #[]) ∧ H = [.box b 87 [sl A10 L10 C10, iI r.at_, sV r.d.Start, sV r.d.Layout, sl A2 L2 C2, sl A3 L3 C3, sl A4 L4 C4, sl A5 L5 C5, sl A6 L6 C6, bV r.start, bV r.layout, iI r.items], rW A2 L2 C2 57 5 eProd r_.d.Prods, rW A3 L3 C3 58 1 (eSl 2 eGroup) r_.d.Chains, rW A4 L4 C4 48 5 eFollow r_.d.Follows, rW A5 L5 C5 78 2 eReject r_.d.Rejects, rW A6 L6 C6 64 2 eBox r_.d.Boxes] ∧ Φ = [fS A10 L10 C10 11 eWord r.l_]) | .pan y => o = .pan (.iface 37 (.agg #[iI y.At, iI y.Code])) ∧ H = [] ∧ Φ = []) := by
 unfold F.defs.reader_once_a0_9_a0_2 at hF
 refine tri_intro (n := 21) Tryz.func80 rfl Tryz.ntmps80 rfl fun w X => cR (o_box rfl rfl rfl fun b1 => o_seq (c_seq (cR (oV vM (oV vC (oV (vL 1 ty4) (o_seq ?_)))))))
 refine c_cut (fun E N' => F.defs.reader_once_a0_9_a0_2_j1 r_ = some r → Sat E [(0, pt b), (1, .agg (vWord first A7 L7 C7).toArray), (2, .pointer (some ⟨b, 9, none⟩)), (3, .pointer (some ⟨b, 2, none⟩))] [.box b 87 [sl A1 L1 C1, iI r_.at_, sV r_.d.Start, sV r_.d.Layout, sl A2 L2 C2, sl A3 L3 C3, sl A4 L4 C4, sl A5 L5 C5, sl A6 L6 C6, bV r_.start, bV r_.layout, iI r_.items], rW A2 L2 C2 57 5 eProd r_.d.Prods, rW A3 L3 C3 58 1 (eSl 2 eGroup) r_.d.Chains, rW A4 L4 C4 48 5 eFollow r_.d.Follows, rW A5 L5 C5 78 2 eReject r_.d.Rejects, rW A6 L6 C6 64 2 eBox r_.d.Boxes] [fS A7 L7 C7 1 eU8 first.Bytes, fS A1 L1 C1 11 eWord r_.l_] N') (fun N1 hN1 => ?_) ?_
 refine cC hF (fun hF => ?_) (fun hF => ?_)
 refine c_region (oV (vL 0 ty106) ?_)
 obtain ⟨v2, h4, hF⟩ := bd hF
 rcases v2 with x_2 | y_2
 replace hF := pn_ok hF
 refine o_call0 call92 rfl (subs [1] rfl) (tri92 h4 :) rfl ?_
 rintro _ _ _ ⟨rfl, rfl, rfl⟩
 refine o_nil ?_
 exact sK [1, 1, 1, 1, 1, 1] [1, 0] (hN1 hF)
 replace hF := pn_pan hF
 refine o_call0 call92 rfl (subs [1] rfl) (tri92 h4 :) rfl ?_
 rintro _ _ _ ⟨rfl, rfl, rfl⟩
 cases hF
 exact sP
 refine c_skip ?_
 exact sK [1, 1, 1, 1, 1, 1] [1, 0] (hN1 hF)
 intro hF
 unfold F.defs.reader_once_a0_9_a0_2_j1 at hF
 refine sat_wc (cR (oV vM (oV vC ((sT 0 ty4) (o_seq (cR (oV vM (oV vM ?_))))))))
 obtain ⟨v, h1, hF⟩ := bd hF
 rcases v with x_ | y_
 replace hF := pn_ok hF
 refine ocl [0, 0, 0, 0, 0, 0] call86 rfl rfl (subs [1] rfl) (tri86 h1 :) ?_
 rintro _ _ _ ⟨A8, L8, C8, rfl, rfl, rfl⟩
 refine oV vC ((sT 0 ty9) (o_seq (c_region (oV vM ?_))))
 obtain ⟨v1, h2, hF⟩ := bd hF
 rcases v1 with x_1 | y_1
 replace hF := pn_ok hF
 refine ocl [0, 0, 0, 0, 0, 0] call88 rfl rfl (subs [0] rfl) (tri88 h2 :) ?_
 rintro _ _ _ ⟨A9, L9, C9, rfl, rfl, rfl⟩
 refine o_nil ?_
 cases hF
 refine s_ret0 rfl fun a w hs => fin_sel hs [0, 0, 0, 0, 0, 0] ⟨A9, L9, C9, rfl, rfl, rfl⟩ rfl (subs [0] rfl)
 replace hF := pn_pan hF
 refine ocl [0, 0, 0, 0, 0, 0] call88 rfl rfl (subs [0] rfl) (tri88 h2 :) ?_
 rintro _ _ _ ⟨rfl, rfl, rfl⟩
 cases hF
 exact sP
 replace hF := pn_pan hF
 refine ocl [0, 0, 0, 0, 0, 0] call86 rfl rfl (subs [1] rfl) (tri86 h1 :) ?_
 rintro _ _ _ ⟨rfl, rfl, rfl⟩
 cases hF
 exact sP
theorem tri79 {w_ : Word} {free : Defs_reader} {b : Nat} {b1 : Nat} {r : Pn Defs_reader Fault} (hF : F.defs.reader_all_c1 w_ free = some r) :
    Tri Tryz.prog 79 [.agg (vWord w_ A1 L1 C1).toArray, pt b1] [.box b 87 [sl A2 L2 C2, iI free.at_, sV free.d.Start, sV free.d.Layout, sl A3 L3 C3, sl A4 L4 C4, sl A5 L5 C5, sl A6 L6 C6, sl A7 L7 C7, bV free.start, bV free.layout, iI free.items], rW A3 L3 C3 57 5 eProd free.d.Prods, rW A4 L4 C4 58 1 (eSl 2 eGroup) free.d.Chains, rW A5 L5 C5 48 5 eFollow free.d.Follows, rW A6 L6 C6 78 2 eReject free.d.Rejects, rW A7 L7 C7 64 2 eBox free.d.Boxes, .box b1 85 [pt b]] [fS A1 L1 C1 1 eU8 w_.Bytes, fS A2 L2 C2 11 eWord free.l_] (fun o H Φ => match (generalizing := false) r with | .ok r => (∃ (A9 : OA) (L9 C9 : Nat), o = .ret (.tuple #[]) ∧ H = [.box b 87 [sl A9 L9 C9, iI r.at_, sV r.d.Start, sV r.d.Layout, sl A3 L3 C3, sl A4 L4 C4, sl A5 L5 C5, sl A6 L6 C6, sl A7 L7 C7, bV r.start, bV r.layout, iI r.items], rW A3 L3 C3 57 5 eProd free.d.Prods, rW A4 L4 C4 58 1 (eSl 2 eGroup) free.d.Chains, rW A5 L5 C5 48 5 eFollow free.d.Follows, rW A6 L6 C6 78 2 eReject free.d.Rejects, rW A7 L7 C7 64 2 eBox free.d.Boxes, .box b1 85 [pt b]] ∧ Φ = [fS A9 L9 C9 11 eWord r.l_]) | .pan y => o = .pan (.iface 37 (.agg #[iI y.At, iI y.Code])) ∧ H = [] ∧ Φ = []) := by
 unfold F.defs.reader_all_c1 at hF
 refine tri_intro (n := 13) Tryz.func79 rfl Tryz.ntmps79 rfl fun w X => cR (o_box rfl rfl rfl fun b2 => o_seq (c_draw (n := 10) [0, 1, 1, 1, 1, 1, 1] mixed rfl rfl (dv 0 rfl (vL 6 ty85) (dv 1 rfl (vL 0 ty106) (dv 2 rfl (vL 6 ty85) (dv 3 rfl vC (dv 4 rfl (vF 9) (dv 5 rfl (vL 6 ty85) (dv 6 rfl vC (dv 7 rfl (vF 2) (dv 8 rfl (vF 2) (dO 9 rfl ?_))))))))))))
 obtain ⟨v, h1, hF⟩ := bd hF
 rcases v with x_ | y_
 replace hF := pn_ok hF
 refine ocl [1, 1, 1, 1, 1, 1] call80 rfl rfl (subs [1, 0] rfl) (tri80_a0_9_a0_2 h1 :) ?_
 rintro _ _ _ ⟨A8, L8, C8, rfl, rfl, rfl⟩
 refine dN [6, 1, 1, 1, 1, 1, 1] 1 (dD ?_)
 cases hF
 refine s_ret0 rfl fun a w hs => fin_sel hs [0, 0, 0, 0, 0, 0, 1] ⟨A8, L8, C8, rfl, rfl, rfl⟩ rfl (subs [0] rfl)
 replace hF := pn_pan hF
 refine ocl [1, 1, 1, 1, 1, 1] call80 rfl rfl (subs [1, 0] rfl) (tri80_a0_9_a0_2 h1 :) ?_
 rintro _ _ _ ⟨rfl, rfl, rfl⟩
 cases hF
 exact sP
theorem tri80_a0_10_a0_3 {r_ : Defs_reader} {first : Word} {b : Nat} {r : Pn Defs_reader Fault} (hF : F.defs.reader_once_a0_10_a0_3 r_ first = some r) :
    Tri Tryz.prog 80 [pt b, .agg (vWord first A7 L7 C7).toArray, .pointer (some ⟨b, 10, none⟩), .pointer (some ⟨b, 3, none⟩)] [.box b 87 [sl A1 L1 C1, iI r_.at_, sV r_.d.Start, sV r_.d.Layout, sl A2 L2 C2, sl A3 L3 C3, sl A4 L4 C4, sl A5 L5 C5, sl A6 L6 C6, bV r_.start, bV r_.layout, iI r_.items], rW A2 L2 C2 57 5 eProd r_.d.Prods, rW A3 L3 C3 58 1 (eSl 2 eGroup) r_.d.Chains, rW A4 L4 C4 48 5 eFollow r_.d.Follows, rW A5 L5 C5 78 2 eReject r_.d.Rejects, rW A6 L6 C6 64 2 eBox r_.d.Boxes] [fS A1 L1 C1 11 eWord r_.l_, fS A7 L7 C7 1 eU8 first.Bytes] (fun o H Φ => match (generalizing := false) r with | .ok r => (∃ (A10 : OA) (L10 C10 : Nat), o = .ret (.tuple #[]) ∧ H = [.box b 87 [sl A10 L10 C10, iI r.at_, sV r.d.Start, sV r.d.Layout, sl A2 L2 C2, sl A3 L3 C3, sl A4 L4 C4, sl A5 L5 C5, sl A6 L6 C6, bV r.start, bV r.layout, iI r.items], rW A2 L2 C2 57 5 eProd r_.d.Prods, rW A3 L3 C3 58 1 (eSl 2 eGroup) r_.d.Chains, rW A4 L4 C4 48 5 eFollow r_.d.Follows, rW A5 L5 C5 78 2 eReject r_.d.Rejects, rW A6 L6 C6 64 2 eBox r_.d.Boxes] ∧ Φ = [fS A10 L10 C10 11 eWord r.l_]) | .pan y => o = .pan (.iface 37 (.agg #[iI y.At, iI y.Code])) ∧ H = [] ∧ Φ = []) := by
 unfold F.defs.reader_once_a0_10_a0_3 at hF
 refine tri_intro (n := 21) Tryz.func80 rfl Tryz.ntmps80 rfl fun w X => cR (o_box rfl rfl rfl fun b1 => o_seq (c_seq (cR (oV vM (oV vC (oV (vL 1 ty4) (o_seq ?_)))))))
 refine c_cut (fun E N' => F.defs.reader_once_a0_10_a0_3_j1 r_ = some r → Sat E [(0, pt b), (1, .agg (vWord first A7 L7 C7).toArray), (2, .pointer (some ⟨b, 10, none⟩)), (3, .pointer (some ⟨b, 3, none⟩))] [.box b 87 [sl A1 L1 C1, iI r_.at_, sV r_.d.Start, sV r_.d.Layout, sl A2 L2 C2, sl A3 L3 C3, sl A4 L4 C4, sl A5 L5 C5, sl A6 L6 C6, bV r_.start, bV r_.layout, iI r_.items], rW A2 L2 C2 57 5 eProd r_.d.Prods, rW A3 L3 C3 58 1 (eSl 2 eGroup) r_.d.Chains, rW A4 L4 C4 48 5 eFollow r_.d.Follows, rW A5 L5 C5 78 2 eReject r_.d.Rejects, rW A6 L6 C6 64 2 eBox r_.d.Boxes] [fS A7 L7 C7 1 eU8 first.Bytes, fS A1 L1 C1 11 eWord r_.l_] N') (fun N1 hN1 => ?_) ?_
 refine cC hF (fun hF => ?_) (fun hF => ?_)
 refine c_region (oV (vL 0 ty106) ?_)
 obtain ⟨v2, h4, hF⟩ := bd hF
 rcases v2 with x_2 | y_2
 replace hF := pn_ok hF
 refine o_call0 call92 rfl (subs [1] rfl) (tri92 h4 :) rfl ?_
 rintro _ _ _ ⟨rfl, rfl, rfl⟩
 refine o_nil ?_
 exact sK [1, 1, 1, 1, 1, 1] [1, 0] (hN1 hF)
 replace hF := pn_pan hF
 refine o_call0 call92 rfl (subs [1] rfl) (tri92 h4 :) rfl ?_
 rintro _ _ _ ⟨rfl, rfl, rfl⟩
 cases hF
 exact sP
 refine c_skip ?_
 exact sK [1, 1, 1, 1, 1, 1] [1, 0] (hN1 hF)
 intro hF
 unfold F.defs.reader_once_a0_10_a0_3_j1 at hF
 refine sat_wc (cR (oV vM (oV vC ((sT 0 ty4) (o_seq (cR (oV vM (oV vM ?_))))))))
 obtain ⟨v, h1, hF⟩ := bd hF
 rcases v with x_ | y_
 replace hF := pn_ok hF
 refine ocl [0, 0, 0, 0, 0, 0] call86 rfl rfl (subs [1] rfl) (tri86 h1 :) ?_
 rintro _ _ _ ⟨A8, L8, C8, rfl, rfl, rfl⟩
 refine oV vC ((sT 0 ty9) (o_seq (c_region (oV vM ?_))))
 obtain ⟨v1, h2, hF⟩ := bd hF
 rcases v1 with x_1 | y_1
 replace hF := pn_ok hF
 refine ocl [0, 0, 0, 0, 0, 0] call88 rfl rfl (subs [0] rfl) (tri88 h2 :) ?_
 rintro _ _ _ ⟨A9, L9, C9, rfl, rfl, rfl⟩
 refine o_nil ?_
 cases hF
 refine s_ret0 rfl fun a w hs => fin_sel hs [0, 0, 0, 0, 0, 0] ⟨A9, L9, C9, rfl, rfl, rfl⟩ rfl (subs [0] rfl)
 replace hF := pn_pan hF
 refine ocl [0, 0, 0, 0, 0, 0] call88 rfl rfl (subs [0] rfl) (tri88 h2 :) ?_
 rintro _ _ _ ⟨rfl, rfl, rfl⟩
 cases hF
 exact sP
 replace hF := pn_pan hF
 refine ocl [0, 0, 0, 0, 0, 0] call86 rfl rfl (subs [1] rfl) (tri86 h1 :) ?_
 rintro _ _ _ ⟨rfl, rfl, rfl⟩
 cases hF
 exact sP
theorem tri81 {w_ : Word} {free : Defs_reader} {b : Nat} {b1 : Nat} {r : Pn Defs_reader Fault} (hF : F.defs.reader_all_c2 w_ free = some r) :
    Tri Tryz.prog 81 [.agg (vWord w_ A1 L1 C1).toArray, pt b1] [.box b 87 [sl A2 L2 C2, iI free.at_, sV free.d.Start, sV free.d.Layout, sl A3 L3 C3, sl A4 L4 C4, sl A5 L5 C5, sl A6 L6 C6, sl A7 L7 C7, bV free.start, bV free.layout, iI free.items], rW A3 L3 C3 57 5 eProd free.d.Prods, rW A4 L4 C4 58 1 (eSl 2 eGroup) free.d.Chains, rW A5 L5 C5 48 5 eFollow free.d.Follows, rW A6 L6 C6 78 2 eReject free.d.Rejects, rW A7 L7 C7 64 2 eBox free.d.Boxes, .box b1 85 [pt b]] [fS A1 L1 C1 1 eU8 w_.Bytes, fS A2 L2 C2 11 eWord free.l_] (fun o H Φ => match (generalizing := false) r with | .ok r => (∃ (A9 : OA) (L9 C9 : Nat), o = .ret (.tuple #[]) ∧ H = [.box b 87 [sl A9 L9 C9, iI r.at_, sV r.d.Start, sV r.d.Layout, sl A3 L3 C3, sl A4 L4 C4, sl A5 L5 C5, sl A6 L6 C6, sl A7 L7 C7, bV r.start, bV r.layout, iI r.items], rW A3 L3 C3 57 5 eProd free.d.Prods, rW A4 L4 C4 58 1 (eSl 2 eGroup) free.d.Chains, rW A5 L5 C5 48 5 eFollow free.d.Follows, rW A6 L6 C6 78 2 eReject free.d.Rejects, rW A7 L7 C7 64 2 eBox free.d.Boxes, .box b1 85 [pt b]] ∧ Φ = [fS A9 L9 C9 11 eWord r.l_]) | .pan y => o = .pan (.iface 37 (.agg #[iI y.At, iI y.Code])) ∧ H = [] ∧ Φ = []) := by
 unfold F.defs.reader_all_c2 at hF
 refine tri_intro (n := 13) Tryz.func81 rfl Tryz.ntmps81 rfl fun w X => cR (o_box rfl rfl rfl fun b2 => o_seq (c_draw (n := 10) [0, 1, 1, 1, 1, 1, 1] mixed rfl rfl (dv 0 rfl (vL 6 ty85) (dv 1 rfl (vL 0 ty106) (dv 2 rfl (vL 6 ty85) (dv 3 rfl vC (dv 4 rfl (vF 10) (dv 5 rfl (vL 6 ty85) (dv 6 rfl vC (dv 7 rfl (vF 2) (dv 8 rfl (vF 3) (dO 9 rfl ?_))))))))))))
 obtain ⟨v, h1, hF⟩ := bd hF
 rcases v with x_ | y_
 replace hF := pn_ok hF
 refine ocl [1, 1, 1, 1, 1, 1] call80 rfl rfl (subs [1, 0] rfl) (tri80_a0_10_a0_3 h1 :) ?_
 rintro _ _ _ ⟨A8, L8, C8, rfl, rfl, rfl⟩
 refine dN [6, 1, 1, 1, 1, 1, 1] 1 (dD ?_)
 cases hF
 refine s_ret0 rfl fun a w hs => fin_sel hs [0, 0, 0, 0, 0, 0, 1] ⟨A8, L8, C8, rfl, rfl, rfl⟩ rfl (subs [0] rfl)
 replace hF := pn_pan hF
 refine ocl [1, 1, 1, 1, 1, 1] call80 rfl rfl (subs [1, 0] rfl) (tri80_a0_10_a0_3 h1 :) ?_
 rintro _ _ _ ⟨rfl, rfl, rfl⟩
 cases hF
 exact sP
theorem tri115 {r_ : Defs_reader} {w_ : Word} {b : Nat} {r : Pn Unit Fault} (hF : F.defs.reader_room r_ w_ = some r) :
    Tri Tryz.prog 115 [pt b, .agg (vWord w_ A7 L7 C7).toArray] [.box b 87 [sl A1 L1 C1, iI r_.at_, sV r_.d.Start, sV r_.d.Layout, sl A2 L2 C2, sl A3 L3 C3, sl A4 L4 C4, sl A5 L5 C5, sl A6 L6 C6, bV r_.start, bV r_.layout, iI r_.items], rW A2 L2 C2 57 5 eProd r_.d.Prods, rW A3 L3 C3 58 1 (eSl 2 eGroup) r_.d.Chains, rW A4 L4 C4 48 5 eFollow r_.d.Follows, rW A5 L5 C5 78 2 eReject r_.d.Rejects, rW A6 L6 C6 64 2 eBox r_.d.Boxes] [fS A1 L1 C1 11 eWord r_.l_, fS A7 L7 C7 1 eU8 w_.Bytes] (fun o H Φ => match (generalizing := false) r with | .ok r => (o = .ret (.tuple #[]) ∧ H = [.box b 87 [sl A1 L1 C1, iI r_.at_, sV r_.d.Start, sV r_.d.Layout, sl A2 L2 C2, sl A3 L3 C3, sl A4 L4 C4, sl A5 L5 C5, sl A6 L6 C6, bV r_.start, bV r_.layout, iI r_.items], rW A2 L2 C2 57 5 eProd r_.d.Prods, rW A3 L3 C3 58 1 (eSl 2 eGroup) r_.d.Chains, rW A4 L4 C4 48 5 eFollow r_.d.Follows, rW A5 L5 C5 78 2 eReject r_.d.Rejects, rW A6 L6 C6 64 2 eBox r_.d.Boxes] ∧ Φ = []) | .pan y => o = .pan (.iface 37 (.agg #[iI y.At, iI y.Code])) ∧ H = [] ∧ Φ = []) := by
 unfold F.defs.reader_room at hF
 refine tri_intro (n := 13) Tryz.func115 rfl Tryz.ntmps115 rfl fun w X => cR (o_box rfl rfl rfl fun b1 => o_seq (cR (oV vM (oV vC ((fD 2) ((fD 4) (oV (vL 1 ty22) (oV (v_lenS (enc := eProd) r_.d.Prods sl22 rfl (.r 2 _ rfl)) (oV vB (o_seq ?_))))))))))
 refine cC hF (fun hF => ?_) (fun hF => ?_)
 refine c_region (oV (vL 0 ty106) ?_)
 obtain ⟨v, h2, hF⟩ := bd hF
 rcases v with x_ | y_
 replace hF := pn_ok hF
 refine o_call0 call92 rfl (subs [1] rfl) (tri92 h2 :) rfl ?_
 rintro _ _ _ ⟨rfl, rfl, rfl⟩
 refine o_nil ?_
 cases hF
 refine s_ret0 rfl fun a w hs => fin_sel hs [1, 1, 1, 1, 1, 1] ⟨rfl, rfl, rfl⟩ rfl sub_nil
 replace hF := pn_pan hF
 refine o_call0 call92 rfl (subs [1] rfl) (tri92 h2 :) rfl ?_
 rintro _ _ _ ⟨rfl, rfl, rfl⟩
 cases hF
 exact sP
 refine c_skip ?_
 cases hF
 refine s_ret0 rfl fun a w hs => fin_sel hs [1, 1, 1, 1, 1, 1] ⟨rfl, rfl, rfl⟩ rfl sub_nil
theorem tri146 {r_ : Defs_reader} {b : Nat} {r : Pn (Sym × Defs_reader) Fault} (hF : F.defs.reader_part r_ = some r) :
    Tri Tryz.prog 146 [pt b] [.box b 87 [sl A1 L1 C1, iI r_.at_, sV r_.d.Start, sV r_.d.Layout, sl A2 L2 C2, sl A3 L3 C3, sl A4 L4 C4, sl A5 L5 C5, sl A6 L6 C6, bV r_.start, bV r_.layout, iI r_.items], rW A2 L2 C2 57 5 eProd r_.d.Prods, rW A3 L3 C3 58 1 (eSl 2 eGroup) r_.d.Chains, rW A4 L4 C4 48 5 eFollow r_.d.Follows, rW A5 L5 C5 78 2 eReject r_.d.Rejects, rW A6 L6 C6 64 2 eBox r_.d.Boxes] [fS A1 L1 C1 11 eWord r_.l_] (fun o H Φ => match (generalizing := false) r with | .ok r => (∃ (A15 : OA) (L15 C15 : Nat), o = .ret (.agg (vSym r.1).toArray) ∧ H = [.box b 87 [sl A15 L15 C15, iI r.2.at_, sV r.2.d.Start, sV r.2.d.Layout, sl A2 L2 C2, sl A3 L3 C3, sl A4 L4 C4, sl A5 L5 C5, sl A6 L6 C6, bV r.2.start, bV r.2.layout, iI r.2.items], rW A2 L2 C2 57 5 eProd r_.d.Prods, rW A3 L3 C3 58 1 (eSl 2 eGroup) r_.d.Chains, rW A4 L4 C4 48 5 eFollow r_.d.Follows, rW A5 L5 C5 78 2 eReject r_.d.Rejects, rW A6 L6 C6 64 2 eBox r_.d.Boxes] ∧ Φ = [fS A15 L15 C15 11 eWord r.2.l_]) | .pan y => o = .pan (.iface 37 (.agg #[iI y.At, iI y.Code])) ∧ H = [] ∧ Φ = []) := by
 unfold F.defs.reader_part at hF
 refine tri_intro (n := 46) Tryz.func146 rfl Tryz.ntmps146 rfl fun w X => cR (o_alloc zero114 rfl rfl fun b1 => o_seq (cR (oV (vU (.agg #[iI 3, sV ([] : Tx), iU 0, iU 0, iU 0, iU 0, sV ([] : Tx), sV ([] : Tx)])) (o_alloc zero114 rfl rfl ?_))))
 intro b2
 refine (sT 0 ty114) (o_seq (c_seq (c_seq (ite_some hF ?_))))
 intro h1 hF
 refine c_elem (xs := r_.l_) (enc := eWord) 0 rfl h1 rfl rfl fun A7 L7 C7 => c_draw (n := 12) [0, 0, 0, 0, 0, 0, 0, 0] mixed rfl rfl ?_
 refine dv 0 rfl vM (dv 1 rfl vC (dv 2 rfl (vF 0) (dv 3 rfl (vL 2 ty50) (dv 4 rfl vM (dv 5 rfl vC (dv 6 rfl (vF 1) (dv 7 rfl (vL 2 ty3) (dv 8 rfl (v_indexAddr_s (xs := r_.l_) (enc := eWord) sl50 rfl rfl (.f 2 rfl) h1) (dv 9 rfl (v_load_cl 0 ty106 rfl rfl rfl rfl rfl) (dO 10 rfl (o_alloc zero106 rfl rfl ?_)))))))))))
 intro b3
 refine dN [1, 1, 1, 1, 1, 1, 1, 1] 0 (dO 11 rfl ((sT 0 ty106) (dN [1, 1, 1, 1, 1, 1, 1, 1] 0 ?_)))
 refine d_done_seq (by kernel_rfl) (cR ((fD 0) (oV (vL 0 ty3) (oV vB (o_seq ?_)))))
 refine c_cut (fun E N' => ∀ (Kind__ : Int) (Set_ : S4) (Name_ : Tx) (l__ : List Word) (at__ : Int) (q1 : Tx) (q2 : Tx) (q8 : Bool) (q9 : Bool) (q0 : Int) (A8 : OA) (L8 C8 : Nat), F.defs.reader_part_j1 r_ Kind__ Set_ Name_ l__ at__ q1 q2 q8 q9 q0 = some r → Sat E [(0, pt b), (2, pt b1), (3, pt b2), (4, pt b3)] [.box b3 106 (vWord (at_ r_.l_ r_.at_) A7 L7 C7), .box b2 114 [iI Kind__, sV ([] : Tx), iU Set_.w0, iU Set_.w1, iU Set_.w2, iU Set_.w3, sV Name_, sV ([] : Tx)], .box b1 114 [iI 0, sV ([] : Tx), iU 0, iU 0, iU 0, iU 0, sV ([] : Tx), sV ([] : Tx)], .box b 87 [sl A8 L8 C8, iI at__, sV q1, sV q2, sl A2 L2 C2, sl A3 L3 C3, sl A4 L4 C4, sl A5 L5 C5, sl A6 L6 C6, bV q8, bV q9, iI q0], rW A2 L2 C2 57 5 eProd r_.d.Prods, rW A3 L3 C3 58 1 (eSl 2 eGroup) r_.d.Chains, rW A4 L4 C4 48 5 eFollow r_.d.Follows, rW A5 L5 C5 78 2 eReject r_.d.Rejects, rW A6 L6 C6 64 2 eBox r_.d.Boxes] [fS A7 L7 C7 1 eU8 ((at_ r_.l_ r_.at_).Bytes), fS A8 L8 C8 11 eWord l__] N') (fun N3 hN3 => ?_) ?_
 refine cC hF (fun hF => ?_) (fun hF => ?_)
 refine c_seq (c_draw (n := 6) [0, 1, 1, 1, 1, 1, 1, 1] mixed rfl rfl (dv 0 rfl (vF 3) (dv 1 rfl (vL 0 ty44) (dv 2 rfl (vF 0) (dO 3 rfl ((sT 1 ty3) (dN [0, 1, 1, 1, 1, 1, 1, 1] 0 (dv 4 rfl (vF 2) (dO 5 rfl ((sT 1 ty44) (dN [0, 1, 1, 1, 1, 1, 1, 1] 0 (d_done_seq (by kernel_rfl) (c_region (oV vM (oV vC ?_)))))))))))))))
 refine (fD 1) (oV (vL 3 ty3) (oV vB (oV vC ((fD 1) ((sT 3 ty3) (o_nil ?_))))))
 exact sK [0, 0, 0, 0, 0, 0, 0, 0, 0] [1, 2] (hN3 2 (S4.mk ((at_ r_.l_ r_.at_).Set.w0) ((at_ r_.l_ r_.at_).Set.w1) ((at_ r_.l_ r_.at_).Set.w2) ((at_ r_.l_ r_.at_).Set.w3)) ([] : Tx) r_.l_ (IntKind.wrap .i64 (r_.at_ + 1)) r_.d.Start r_.d.Layout r_.start r_.layout r_.items A1 L1 C1 hF)
 refine c_region (oV vM ?_)
 obtain ⟨v3, h9, hF⟩ := bd hF
 rcases v3 with x_ | y_
 replace hF := pn_ok hF
 refine ocl [3, 3, 3, 3, 3, 3] call86 rfl rfl (subs [2] rfl) (tri86 h9 :) ?_
 rintro _ _ _ ⟨A14, L14, C14, rfl, rfl, rfl⟩
 refine (fD 6) ((sT 7 ty9) (o_nil ?_))
 exact sK [6, 6, 6, 0, 0, 0, 0, 0, 0] [2, 0] (hN3 3 (S4.mk 0 0 0 0) x_.1 x_.2.l_ x_.2.at_ x_.2.d.Start x_.2.d.Layout x_.2.start x_.2.layout x_.2.items A14 L14 C14 hF)
 replace hF := pn_pan hF
 refine ocl [3, 3, 3, 3, 3, 3] call86 rfl rfl (subs [2] rfl) (tri86 h9 :) ?_
 rintro _ _ _ ⟨rfl, rfl, rfl⟩
 cases hF
 exact sP
 intro Kind__ Set_ Name_ l__ at__ q1 q2 q8 q9 q0 A8 L8 C8 hF
 unfold F.defs.reader_part_j1 at hF
 refine sat_wc (c_seq ?_)
 refine c_cut (fun E N' => ∀ (l__1 : List Word) (at__1 : Int) (q1_1 : Tx) (q2_1 : Tx) (q8_1 : Bool) (q9_1 : Bool) (q0_1 : Int) (Kind__1 : Int) (A9 : OA) (L9 C9 : Nat), F.defs.reader_part_j2 Set_ Name_ r_ l__1 at__1 q1_1 q2_1 q8_1 q9_1 q0_1 Kind__1 = some r → Sat E [(0, pt b), (2, pt b1), (3, pt b2), (4, pt b3)] [.box b 87 [sl A9 L9 C9, iI at__1, sV q1_1, sV q2_1, sl A2 L2 C2, sl A3 L3 C3, sl A4 L4 C4, sl A5 L5 C5, sl A6 L6 C6, bV q8_1, bV q9_1, iI q0_1], .box b3 106 (vWord (at_ r_.l_ r_.at_) A7 L7 C7), .box b2 114 [iI Kind__1, sV ([] : Tx), iU Set_.w0, iU Set_.w1, iU Set_.w2, iU Set_.w3, sV Name_, sV ([] : Tx)], .box b1 114 [iI 0, sV ([] : Tx), iU 0, iU 0, iU 0, iU 0, sV ([] : Tx), sV ([] : Tx)], rW A2 L2 C2 57 5 eProd r_.d.Prods, rW A3 L3 C3 58 1 (eSl 2 eGroup) r_.d.Chains, rW A4 L4 C4 48 5 eFollow r_.d.Follows, rW A5 L5 C5 78 2 eReject r_.d.Rejects, rW A6 L6 C6 64 2 eBox r_.d.Boxes] [fS A9 L9 C9 11 eWord l__1, fS A7 L7 C7 1 eU8 ((at_ r_.l_ r_.at_).Bytes)] N') (fun N2 hN2 => ?_) ?_
 refine c_block (cR (oV vM ?_))
 obtain ⟨v, h2, hF⟩ := bd hF
 refine ocl [3, 3, 3, 3, 3, 3] call116 rfl rfl (subs [1] rfl) (tri116 h2 :) ?_
 rintro _ _ _ ⟨A10, L10, C10, rfl, rfl, rfl⟩
 refine oV vA (o_seq ?_)
 refine cC hF (fun hF => ?_) (fun hF => ?_)
 refine c_region ((fD 0) ((sT 7 ty3) (o_nil ?_)))
 exact sK [0, 5, 5, 5, 0, 0, 0, 0, 0] [0, 1] (hN2 v.2.l_ v.2.at_ v.2.d.Start v.2.d.Layout v.2.start v.2.layout v.2.items 4 A10 L10 C10 hF)
 refine cR (oV vM ?_)
 obtain ⟨v1, h4, hF⟩ := bd hF
 refine ocl [0, 0, 0, 0, 0, 0] call116 rfl rfl (subs [0] rfl) (tri116 h4 :) ?_
 rintro _ _ _ ⟨A11, L11, C11, rfl, rfl, rfl⟩
 refine oV vA (o_seq ?_)
 refine c_cut (fun E N' => ∀ (l__2 : List Word) (at__2 : Int) (q1_2 : Tx) (q2_2 : Tx) (q8_2 : Bool) (q9_2 : Bool) (q0_2 : Int) (Kind__2 : Int) (A12 : OA) (L12 C12 : Nat), F.defs.reader_part_j3 Set_ Name_ r_ l__2 at__2 q1_2 q2_2 q8_2 q9_2 q0_2 Kind__2 = some r → Sat E [(0, pt b), (2, pt b1), (3, pt b2), (4, pt b3)] [.box b 87 [sl A12 L12 C12, iI at__2, sV q1_2, sV q2_2, sl A2 L2 C2, sl A3 L3 C3, sl A4 L4 C4, sl A5 L5 C5, sl A6 L6 C6, bV q8_2, bV q9_2, iI q0_2], .box b3 106 (vWord (at_ r_.l_ r_.at_) A7 L7 C7), .box b2 114 [iI Kind__2, sV ([] : Tx), iU Set_.w0, iU Set_.w1, iU Set_.w2, iU Set_.w3, sV Name_, sV ([] : Tx)], .box b1 114 [iI 0, sV ([] : Tx), iU 0, iU 0, iU 0, iU 0, sV ([] : Tx), sV ([] : Tx)], rW A2 L2 C2 57 5 eProd r_.d.Prods, rW A3 L3 C3 58 1 (eSl 2 eGroup) r_.d.Chains, rW A4 L4 C4 48 5 eFollow r_.d.Follows, rW A5 L5 C5 78 2 eReject r_.d.Rejects, rW A6 L6 C6 64 2 eBox r_.d.Boxes] [fS A12 L12 C12 11 eWord l__2, fS A7 L7 C7 1 eU8 ((at_ r_.l_ r_.at_).Bytes)] N') (fun N3 hN3 => ?_) ?_
 refine cC hF (fun hF => ?_) (fun hF => ?_)
 refine c_region ((fD 0) ((sT 7 ty3) (o_nil ?_)))
 exact sK [0, 5, 5, 5, 0, 0, 0, 0, 0] [0, 2] (hN3 v1.2.l_ v1.2.at_ v1.2.d.Start v1.2.d.Layout v1.2.start v1.2.layout v1.2.items 5 A11 L11 C11 hF)
 refine cR (oV vM ?_)
 obtain ⟨v2, h6, hF⟩ := bd hF
 refine ocl [0, 0, 0, 0, 0, 0] call116 rfl rfl (subs [0] rfl) (tri116 h6 :) ?_
 rintro _ _ _ ⟨A13, L13, C13, rfl, rfl, rfl⟩
 refine oV vA (o_seq ?_)
 refine cC hF (fun hF => ?_) (fun hF => ?_)
 refine c_region ((fD 0) ((sT 7 ty3) (o_nil ?_)))
 exact sK [0, 5, 5, 5, 0, 0, 0, 0, 0] [0, 3] (hN3 v2.2.l_ v2.2.at_ v2.2.d.Start v2.2.d.Layout v2.2.start v2.2.layout v2.2.items 6 A13 L13 C13 hF)
 refine c_skip ?_
 exact sK [0, 5, 5, 5, 0, 0, 0, 0, 0] [0, 3] (hN3 v2.2.l_ v2.2.at_ v2.2.d.Start v2.2.d.Layout v2.2.start v2.2.layout v2.2.items Kind__ A13 L13 C13 hF)
 intro l__2 at__2 q1_2 q2_2 q8_2 q9_2 q0_2 Kind__2 A12 L12 C12 hF
 unfold F.defs.reader_part_j3 at hF
 exact sK [0, 0, 0, 0, 0, 0, 0, 0, 0] [0, 1] (hN2 l__2 at__2 q1_2 q2_2 q8_2 q9_2 q0_2 Kind__2 A12 L12 C12 hF)
 intro l__1 at__1 q1_1 q2_1 q8_1 q9_1 q0_1 Kind__1 A9 L9 C9 hF
 unfold F.defs.reader_part_j2 at hF
 refine sat_wc (cR (oV (vL 2 ty114) ((sT 3 ty114) (o_seq (c_ret ?_)))))
 cases hF
 refine s_ret1 rfl (r_cell 3 rfl ty114 rfl rfl rfl rfl) fun a w hs => fin_sel hs [0, 3, 3, 3, 3, 3] ⟨A9, L9, C9, rfl, rfl, rfl⟩ rfl (subs [0] rfl)
theorem tri134 {r_ : Defs_reader} {b : Nat} {r : Pn (Sym × Defs_reader) Fault} (hF : F.defs.reader_sym r_ = some r) :
    Tri Tryz.prog 134 [pt b] [.box b 87 [sl A1 L1 C1, iI r_.at_, sV r_.d.Start, sV r_.d.Layout, sl A2 L2 C2, sl A3 L3 C3, sl A4 L4 C4, sl A5 L5 C5, sl A6 L6 C6, bV r_.start, bV r_.layout, iI r_.items], rW A2 L2 C2 57 5 eProd r_.d.Prods, rW A3 L3 C3 58 1 (eSl 2 eGroup) r_.d.Chains, rW A4 L4 C4 48 5 eFollow r_.d.Follows, rW A5 L5 C5 78 2 eReject r_.d.Rejects, rW A6 L6 C6 64 2 eBox r_.d.Boxes] [fS A1 L1 C1 11 eWord r_.l_] (fun o H Φ => match (generalizing := false) r with | .ok r => (∃ (A17 : OA) (L17 C17 : Nat), o = .ret (.agg (vSym r.1).toArray) ∧ H = [.box b 87 [sl A17 L17 C17, iI r.2.at_, sV r.2.d.Start, sV r.2.d.Layout, sl A2 L2 C2, sl A3 L3 C3, sl A4 L4 C4, sl A5 L5 C5, sl A6 L6 C6, bV r.2.start, bV r.2.layout, iI r.2.items], rW A2 L2 C2 57 5 eProd r_.d.Prods, rW A3 L3 C3 58 1 (eSl 2 eGroup) r_.d.Chains, rW A4 L4 C4 48 5 eFollow r_.d.Follows, rW A5 L5 C5 78 2 eReject r_.d.Rejects, rW A6 L6 C6 64 2 eBox r_.d.Boxes] ∧ Φ = [fS A17 L17 C17 11 eWord r.2.l_]) | .pan y => o = .pan (.iface 37 (.agg #[iI y.At, iI y.Code])) ∧ H = [] ∧ Φ = []) := by
 unfold F.defs.reader_sym at hF
 refine tri_intro (n := 50) Tryz.func134 rfl Tryz.ntmps134 rfl fun w X => cR (o_alloc zero114 rfl rfl fun b1 => o_seq (c_seq (c_seq (c_draw (n := 12) [0, 0, 0, 0, 0, 0, 0] mixed rfl rfl (dv 0 rfl vM (dv 1 rfl vC (dv 2 rfl (vF 0) (dv 3 rfl (vL 1 ty50) (dv 4 rfl vM (dv 5 rfl vC (dv 6 rfl (vF 1) (dv 7 rfl (vL 1 ty3) ?_))))))))))))
 refine ite_some hF fun h1 hF => dv 8 rfl (v_indexAddr_s (xs := r_.l_) (enc := eWord) sl50 rfl rfl (.f 0 rfl) h1) (dv 9 rfl (v_fieldAddr (v := .pointer (some ⟨blkA A1, offA A1 + (Int.toNat r_.at_ * 11 + 0), none⟩)) rfl (fun _ => by kernel_rfl)) (dv 10 rfl (v_load_s (xs := r_.l_) (enc := eWord) ty3 rfl (.f 0 rfl) h1 rfl rfl rfl rfl rfl rfl rfl) (dv 11 rfl vB (d_done_seq (by kernel_rfl) ?_))))
 refine cC hF (fun hF => ?_) (fun hF => ?_)
 refine cR (oV vM ?_)
 obtain ⟨v, h3, hF⟩ := bd hF
 rcases v with x_ | y_
 replace hF := pn_ok hF
 refine ocl [1, 1, 1, 1, 1, 1] call87 rfl rfl (subs [0] rfl) (tri87 h3 :) ?_
 rintro _ _ _ ⟨A7, L7, C7, A8, L8, C8, rfl, rfl, rfl⟩
 refine oV (v_field (v := sl A7 L7 C7) rfl (fun _ => by kernel_rfl)) (oV (v_bytesStr sl67 Tryz.underlying5 Tryz.underlying9 rfl (.f 0 rfl)) (oV (vU (.agg #[iI 1, sV (toS x_.1.Bytes), iU 0, iU 0, iU 0, iU 0, sV ([] : Tx), sV ([] : Tx)])) ((sT 6 ty114) (o_seq (c_ret ?_)))))
 cases hF
 refine s_ret1 rfl (r_cell 6 rfl ty114 rfl rfl rfl rfl) fun a w hs => fin_sel hs [0, 0, 0, 0, 0, 0] ⟨A8, L8, C8, rfl, rfl, rfl⟩ rfl (subs [1] rfl)
 replace hF := pn_pan hF
 refine ocl [1, 1, 1, 1, 1, 1] call87 rfl rfl (subs [0] rfl) (tri87 h3 :) ?_
 rintro _ _ _ ⟨rfl, rfl, rfl⟩
 cases hF
 exact sP
 refine c_skip (sat_wc (c_seq (cR (oV vM ?_))))
 obtain ⟨v1, h4, hF⟩ := bd hF
 refine ocl [1, 1, 1, 1, 1, 1] call116 rfl rfl (subs [0] rfl) (tri116 h4 :) ?_
 rintro _ _ _ ⟨A9, L9, C9, rfl, rfl, rfl⟩
 refine oV vN (o_seq ?_)
 refine cC hF (fun hF => ?_) (fun hF => ?_)
 refine cR (oV vM ?_)
 obtain ⟨v2, h6, hF⟩ := bd hF
 rcases v2 with x_1 | y_1
 replace hF := pn_ok hF
 refine ocl [0, 0, 0, 0, 0, 0] call146 rfl rfl (subs [0] rfl) (tri146 h6 :) ?_
 rintro _ _ _ ⟨A10, L10, C10, rfl, rfl, rfl⟩
 refine (sT 6 ty114) (o_seq (c_ret ?_))
 cases hF
 refine s_ret1 rfl (r_cell 6 rfl ty114 rfl rfl rfl rfl) fun a w hs => fin_sel hs [0, 0, 0, 0, 0, 0] ⟨A10, L10, C10, rfl, rfl, rfl⟩ rfl (subs [0] rfl)
 replace hF := pn_pan hF
 refine ocl [0, 0, 0, 0, 0, 0] call146 rfl rfl (subs [0] rfl) (tri146 h6 :) ?_
 rintro _ _ _ ⟨rfl, rfl, rfl⟩
 cases hF
 exact sP
 refine c_skip (sat_wc (cR (oV vM ?_)))
 obtain ⟨v3, h7, hF⟩ := bd hF
 rcases v3 with x_2 | y_2
 replace hF := pn_ok hF
 refine ocl [0, 0, 0, 0, 0, 0] call86 rfl rfl (subs [0] rfl) (tri86 h7 :) ?_
 rintro _ _ _ ⟨A11, L11, C11, rfl, rfl, rfl⟩
 refine oV (vU (.agg #[iI 6, sV ([] : Tx), iU 0, iU 0, iU 0, iU 0, sV x_2.1, sV ([] : Tx)])) (o_alloc zero114 rfl rfl ?_)
 intro b2
 refine (sT 0 ty114) (o_seq (cR (oV vM ?_)))
 obtain ⟨v4, h8, hF⟩ := bd hF
 rcases v4 with x_3 | y_3
 replace hF := pn_ok hF
 refine ocl [1, 1, 1, 1, 1, 1] call87 rfl rfl (subs [0] rfl) (tri87 h8 :) ?_
 rintro _ _ _ ⟨A12, L12, C12, A13, L13, C13, rfl, rfl, rfl⟩
 refine o_alloc zero106 rfl rfl fun b3 => (sT 0 ty106) (o_seq (c_seq (cR ((fD 2) (oV (vL 0 ty67) (oV (v_lenS (enc := eU8) x_3.1.Bytes sl67 rfl (.f 0 rfl)) (oV vB (o_seq ?_))))))))
 refine c_cut (fun E N' => F.defs.reader_sym_j1 x_3 r_ x_2 = some r → Sat E [(0, pt b), (2, pt b1), (3, pt b2), (4, pt b3)] [.box b3 106 (vWord x_3.1 A12 L12 C12), .box b 87 [sl A13 L13 C13, iI x_3.2.at_, sV x_3.2.d.Start, sV x_3.2.d.Layout, sl A2 L2 C2, sl A3 L3 C3, sl A4 L4 C4, sl A5 L5 C5, sl A6 L6 C6, bV x_3.2.start, bV x_3.2.layout, iI x_3.2.items], .box b2 114 [iI 6, sV ([] : Tx), iU 0, iU 0, iU 0, iU 0, sV x_2.1, sV ([] : Tx)], .box b1 114 [iI 0, sV ([] : Tx), iU 0, iU 0, iU 0, iU 0, sV ([] : Tx), sV ([] : Tx)], rW A2 L2 C2 57 5 eProd r_.d.Prods, rW A3 L3 C3 58 1 (eSl 2 eGroup) r_.d.Chains, rW A4 L4 C4 48 5 eFollow r_.d.Follows, rW A5 L5 C5 78 2 eReject r_.d.Rejects, rW A6 L6 C6 64 2 eBox r_.d.Boxes] [fS A12 L12 C12 1 eU8 x_3.1.Bytes, fS A13 L13 C13 11 eWord x_3.2.l_] N') (fun N1 hN1 => ?_) ?_
 refine cC hF (fun hF => ?_) (fun hF => ?_)
 refine c_region (oV (vL 0 ty106) ?_)
 obtain ⟨v8, h14, hF⟩ := bd hF
 rcases v8 with x_6 | y_6
 replace hF := pn_ok hF
 refine o_call0 call92 rfl (subs [0] rfl) (tri92 h14 :) rfl ?_
 rintro _ _ _ ⟨rfl, rfl, rfl⟩
 refine o_nil ?_
 exact sK [0, 0, 5, 5, 0, 0, 0, 0, 0] [0, 1] (hN1 hF)
 replace hF := pn_pan hF
 refine o_call0 call92 rfl (subs [0] rfl) (tri92 h14 :) rfl ?_
 rintro _ _ _ ⟨rfl, rfl, rfl⟩
 cases hF
 exact sP
 refine c_skip ?_
 exact sK [0, 0, 5, 5, 0, 0, 0, 0, 0] [0, 1] (hN1 hF)
 intro hF
 unfold F.defs.reader_sym_j1 at hF
 refine sat_wc (cR ((fD 2) (oV (vL 0 ty67) (oV (v_bytesStr sl67 Tryz.underlying5 Tryz.underlying9 rfl (.f 0 rfl)) ((fD 7) ((sT 2 ty9) (o_seq (cR (oV vM ?_)))))))))
 obtain ⟨v5, h9, hF⟩ := bd hF
 rcases v5 with x_4 | y_4
 replace hF := pn_ok hF
 refine ocl [1, 3, 3, 3, 3, 3] call88 rfl rfl (subs [1] rfl) (tri88 h9 :) ?_
 rintro _ _ _ ⟨A14, L14, C14, rfl, rfl, rfl⟩
 refine o_seq (c_seq (cR (oV vM ?_)))
 obtain ⟨v6, h10, hF⟩ := bd hF
 refine ocl [0, 0, 0, 0, 0, 0] call116 rfl rfl (subs [0] rfl) (tri116 h10 :) ?_
 rintro _ _ _ ⟨A15, L15, C15, rfl, rfl, rfl⟩
 refine o_seq ?_
 refine cC hF (fun hF => ?_) (fun hF => ?_)
 refine c_region ((fD 0) ((sT 7 ty3) (o_seq (cR (oV (vL 7 ty114) ((sT 8 ty114) (o_seq (c_ret ?_))))))))
 cases hF
 refine s_ret1 rfl (r_cell 8 rfl ty114 rfl rfl rfl rfl) fun a w hs => fin_sel hs [0, 0, 0, 0, 0, 0] ⟨A15, L15, C15, rfl, rfl, rfl⟩ rfl (subs [0] rfl)
 refine c_region (oV vM ?_)
 obtain ⟨v7, h12, hF⟩ := bd hF
 rcases v7 with x_5 | y_5
 replace hF := pn_ok hF
 refine ocl [0, 0, 0, 0, 0, 0] call88 rfl rfl (subs [0] rfl) (tri88 h12 :) ?_
 rintro _ _ _ ⟨A16, L16, C16, rfl, rfl, rfl⟩
 refine o_seq (cR (oV (vL 7 ty114) ((sT 8 ty114) (o_seq (c_ret ?_)))))
 cases hF
 refine s_ret1 rfl (r_cell 8 rfl ty114 rfl rfl rfl rfl) fun a w hs => fin_sel hs [0, 0, 0, 0, 0, 0] ⟨A16, L16, C16, rfl, rfl, rfl⟩ rfl (subs [0] rfl)
 replace hF := pn_pan hF
 refine ocl [0, 0, 0, 0, 0, 0] call88 rfl rfl (subs [0] rfl) (tri88 h12 :) ?_
 rintro _ _ _ ⟨rfl, rfl, rfl⟩
 cases hF
 exact sP
 replace hF := pn_pan hF
 refine ocl [1, 3, 3, 3, 3, 3] call88 rfl rfl (subs [1] rfl) (tri88 h9 :) ?_
 rintro _ _ _ ⟨rfl, rfl, rfl⟩
 cases hF
 exact sP
 replace hF := pn_pan hF
 refine ocl [1, 1, 1, 1, 1, 1] call87 rfl rfl (subs [0] rfl) (tri87 h8 :) ?_
 rintro _ _ _ ⟨rfl, rfl, rfl⟩
 cases hF
 exact sP
 replace hF := pn_pan hF
 refine ocl [0, 0, 0, 0, 0, 0] call86 rfl rfl (subs [0] rfl) (tri86 h7 :) ?_
 rintro _ _ _ ⟨rfl, rfl, rfl⟩
 cases hF
 exact sP
end Go.Vc
