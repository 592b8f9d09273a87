import Derived.Test.YtfhbgelpmbkooaaVS
import Derived.Test.YtfhbgelpmbkooaaT0
set_option linter.unusedVariables false
set_option linter.unusedSimpArgs false
set_option maxRecDepth 8000
set_option maxHeartbeats 2000000
namespace Go.Vc
open Go Go.Proofs
variable {A1 A2 A3 A4 A5 A6 A7 A8 A9 A10 A11 A12 A13 A14 A15 A16 A17 A18 A19 A20 A21 A22 A23 A24 A25 A26 A27 A28 A29 A30 A31 A32 A33 A34 A35 A36 A37 A38 A39 : OA} {L1 C1 L2 C2 L3 C3 L4 C4 L5 C5 L6 C6 L7 C7 L8 C8 L9 C9 L10 C10 L11 C11 L12 C12 L13 C13 L14 C14 L15 C15 L16 C16 L17 C17 L18 C18 L19 C19 L20 C20 L21 C21 L22 C22 L23 C23 L24 C24 L25 C25 L26 C26 L27 C27 L28 C28 L29 C29 L30 C30 L31 C31 L32 C32 L33 C33 L34 C34 L35 C35 L36 C36 L37 C37 L38 C38 L39 C39 : Nat}
theorem tri28 {k : Nat} {g_ : Gram} {most : Int} {r : Bool} (hF : F.ref06.Heavy k g_ most = some r) :
    Tri Try.prog 28 [.agg (vGram g_ A1 L1 C1).toArray, iI most] [] [fS A1 L1 C1 2 eRule g_.Rules] (oR (bV r)) := by
 unfold F.ref06.Heavy at hF
 refine tri_intro (n := 40) Try.func28 rfl Try.ntmps28 rfl fun w X => cR (o_box rfl rfl rfl fun b => oV vA (o_seq (c_seq (cR ((fD 0) (oV (vL 0 ty3) (oV vM (oV vB (oV vM ?_)))))))))
 refine oS 11 hF (fun hF => ?_) (fun hF => ?_)
 refine oF (oF (oF (oF (oF (oV vPt (o_seq ?_))))))
 refine c_cond rfl (fun _ => ?_) (fun h => Bool.noConfusion h)
 refine cR (oV vA (o_seq (c_ret ?_)))
 cases hF
 exact sR
 refine oN ((fD 2) (oN (oV (vL 0 ty22) (oN (oV (v_lenS (enc := eRule) g_.Rules sl22 rfl (.f 0 rfl)) (oN (oV vM (oN (oV vB (oV vPf (o_seq ?_)))))))))))
 refine cC hF (fun hF => ?_) (fun hF => ?_)
 refine cR (oV vA (o_seq (c_ret ?_)))
 cases hF
 exact sR
 refine c_skip (sat_wc (cR ((fD 0) (oV (vL 0 ty3) (oV vA (o_seq (c_seq (cR (oV vA (o_seq ?_))))))))))
 obtain ⟨o1, ho1, hF⟩ := bd hF
 refine cT (fun E H Φ N' => ∀ (d1 : Unit), o1 = .done d1 → Sat E [(0, .agg (vGram g_ A1 L1 C1).toArray), (1, iI most), (2, pt b), (4, bV false)] H Φ N') (fun N1 hN1 => ?_) ?_
 refine c_block ?_
 refine cL (fun E H Φ j a w => ∃ (n : Int) (i : Int), F.ref06.Heavy_l1 g_ most j n i = some o1 ∧ St E [(0, .agg (vGram g_ A1 L1 C1).toArray), (1, iI most), (2, pt b), (4, bV false), (5, iI n), (6, iI i)] H Φ a w) k ?_ ?_
 exact lq [0] [0] fun a w hs => ⟨g_.Nts, 0, ho1, hs⟩
 rintro j a w ⟨n, i, hL1, hs⟩
 rcases j with _ | j
 cases hL1
 refine wc_app hs ?_
 unfold F.ref06.Heavy_l1 at hL1
 refine c_seq (cR (oV vM ((fD 2) (oV (vL 0 ty22) (oV (v_lenS (enc := eRule) g_.Rules sl22 rfl (.f 0 rfl)) (oV vB (o_seq ?_)))))))
 refine cC hL1 (fun hL1 => ?_) (fun hL1 => ?_)
 refine c_skip (sat_wc (c_seq (c_block (cR (oV vM (oV vB ((fD 2) (oV (vL 0 ty22) (oV vM (ite_some hL1 ?_))))))))))
 intro h4 hL1
 refine oV (v_indexAddr_s (xs := g_.Rules) (enc := eRule) sl22 rfl rfl (.f 0 rfl) h4) (oV (v_fieldAddr (v := .pointer (some ⟨blkA A1, offA A1 + (Int.toNat i * 2 + 1), none⟩)) rfl (fun _ => by kernel_rfl)) (o_load_s (xs := g_.Rules) (enc := eRule) ty48 rfl (.f 0 rfl) h4 rfl rfl rfl rfl rfl rfl ?_))
 intro A2 L2 C2
 refine oV (v_lenS (enc := eKSym) ((at_ g_.Rules i).Rhs) sl48 rfl (.f 0 rfl)) ?_
 refine oV vB (oV vA (o_seq (cR (oV vM (oV vM (oV vB (o_seq ?_)))))))
 refine cC hL1 (fun hL1 => ?_) (fun hL1 => ?_)
 refine cR (oV vA (o_seq (c_ret ?_)))
 cases hL1
 obtain rfl := lrf_ret hF
 exact sR
 refine c_skip (sat_wc (c_region (oV vM (oV vB (oV vA (o_nil ?_))))))
 exact lp [0] [1] fun a w hs => ⟨IntKind.wrap .i64 ((IntKind.wrap .i64 (n + 1)) + (((at_ g_.Rules i).Rhs).length : Int)), IntKind.wrap .i64 (i + 1), hL1, hs⟩
 refine c_exit0 ?_
 cases hL1
 exact sK [0] [0] (hN1 () rfl)
 intro d1 hd
 subst hd
 replace hF := lrf_done hF
 refine sat_wc (cR (oV vA (o_seq (c_ret ?_))))
 cases hF
 exact sR
theorem tri11 {k : Nat} {g_ : Gram} {w__ : List Int} {r : Bool} (hF : F.ref08.Heavy k g_ w__ = some r) :
    Tri Try.prog 11 [.agg (vGram g_ A1 L1 C1).toArray, sl A2 L2 C2] [] [fS A1 L1 C1 2 eRule g_.Rules, fS A2 L2 C2 1 eU8 w__] (oR (bV r)) := by
 unfold F.ref08.Heavy at hF
 refine tri_intro (n := 17) Try.func11 rfl Try.ntmps11 rfl fun w X => cR (o_box rfl rfl rfl fun b => oV vA (o_seq (cR (oV vM (oV (v_lenS (enc := eU8) w__ sl25 rfl (.f 1 rfl)) (oV vB (oV vM ?_)))))))
 refine oS 8 hF (fun hF => ?_) (fun hF => ?_)
 refine oN (oV vM (oN (oV (v_lenS (enc := eU8) w__ sl25 rfl (.f 1 rfl)) (oN (oV vB (oV vPt (oV vM ?_)))))))
 refine oS 13 hF (fun hF => ?_) (fun hF => ?_)
 refine oF (oF (oV vPt (oV vA (o_seq (c_ret ?_)))))
 cases hF
 exact sR
 refine oN (oV (vL 0 ty24) (oN ?_))
 obtain ⟨v_, h3, hF⟩ := bd hF
 refine o_callSB call28 rfl (lent_f 0 rfl lent_nil) (tri28 h3 :) rfl (oV vPf (oV vA (o_seq (c_ret ?_))))
 cases hF
 exact sR
 refine oF (oF (oF (oV vPf (oV vM (oN (oV (vL 0 ty24) (oN ?_)))))))
 obtain ⟨v_1, h4, hF⟩ := bd hF
 refine o_callSB call28 rfl (lent_f 0 rfl lent_nil) (tri28 h4 :) rfl (oV vPf (oV vA (o_seq (c_ret ?_))))
 cases hF
 exact sR
theorem tri29 {r : Gram} (hF : F.law08.sum = some r) :
    Tri Try.prog 29 [] [] [] (fun o H Φ => ∃ (A4 : OA) (L4 C4 : Nat), o = .ret (.agg (vGram r A4 L4 C4).toArray) ∧ H = [] ∧ Φ = [fS A4 L4 C4 2 eRule r.Rules]) := by
 unfold F.law08.sum at hF
 refine tri_intro (n := 19) Try.func29 rfl Try.ntmps29 rfl fun w X => cR (o_alloc zero24 rfl rfl fun b => o_seq (cR (oV (vU (.agg #[iU 8796093022208, iU 0, iU 0, iU 0])) (oV (vU (.agg #[iI (-1), iU 8796093022208, iU 0, iU 0, iU 0])) (oV (vU (.agg #[iU 287948901175001088, iU 0, iU 0, iU 0])) (oV (vU (.agg #[iI (-1), iU 287948901175001088, iU 0, iU 0, iU 0])) (o_alloc zero47 rfl rfl ?_)))))))
 intro b1
 refine o_alloc zero47 rfl rfl fun b2 => (sT 1 ty47) ((sT 0 ty47) (o_seq ?_))
 refine cR (oV (vU (.agg #[iI 0, iU 0, iU 0, iU 0, iU 0])) (o_alloc zero47 rfl rfl ?_))
 intro b3
 refine (sT 0 ty47) (o_seq (cR (oV (vL 0 ty47) (oV (vL 2 ty47) (oV (vL 0 ty47) (o_buildSlice (enc := eKSym) ([(KSym.mk 0 (S4.mk 0 0 0 0)), (KSym.mk (-1) (S4.mk 8796093022208 0 0 0)), (KSym.mk 0 (S4.mk 0 0 0 0))] : List KSym) [iI 0, iU 0, iU 0, iU 0, iU 0, iI (-1), iU 8796093022208, iU 0, iU 0, iU 0, iI 0, iU 0, iU 0, iU 0, iU 0] sl48 rfl (fun _ => by kernel_rfl) rfl rfl rfl (.s rfl (.s rfl (.s rfl (.s rfl (.s rfl (.s rfl (.s rfl (.s rfl (.s rfl (.s rfl (.s rfl (.s rfl (.s rfl (.s rfl (.s rfl (.nil)))))))))))))))) rfl ?_))))))
 intro A1 L1 C1
 refine oV (vU (.agg #[iI 0, sl A1 L1 C1])) (oV (vL 2 ty47) (o_buildSlice (enc := eKSym) ([(KSym.mk (-1) (S4.mk 287948901175001088 0 0 0))] : List KSym) [iI (-1), iU 287948901175001088, iU 0, iU 0, iU 0] sl48 rfl (fun _ => by kernel_rfl) rfl rfl rfl (.s rfl (.s rfl (.s rfl (.s rfl (.s rfl (.nil)))))) rfl ?_))
 intro A2 L2 C2
 refine oV (vU (.agg #[iI 0, sl A2 L2 C2])) ?_
 refine o_st (st_freeze 1 rfl) (o_st (st_freeze 0 rfl) (o_buildSlice (enc := eRule) ([(Rule.mk 0 ([(KSym.mk 0 (S4.mk 0 0 0 0)), (KSym.mk (-1) (S4.mk 8796093022208 0 0 0)), (KSym.mk 0 (S4.mk 0 0 0 0))] : List KSym)), (Rule.mk 0 ([(KSym.mk (-1) (S4.mk 287948901175001088 0 0 0))] : List KSym))] : List Rule) [iI 0, sl A1 L1 C1, iI 0, sl A2 L2 C2] sl22 rfl (fun _ => by kernel_rfl) rfl rfl rfl (.s rfl (.f 1 rfl (.s rfl (.f 0 rfl (.nil))))) rfl fun A3 L3 C3 => oV (vU (.agg #[iI 1, iI 0, sl A3 L3 C3])) ((sT 4 ty24) (o_seq (c_ret ?_)))))
 cases hF
 refine s_st (st_freeze 0 rfl) (s_ret1 rfl (r_cell 3 rfl ty24 rfl rfl rfl rfl) fun a w hs => fin_sel hs [] ⟨A3, L3, C3, rfl, rfl, rfl⟩ rfl (subs [0] rfl))
theorem tri52 {k : Nat} {g_ : Gram} {r : Int} (hF : F.facts.Right k g_ = some r) :
    Tri Try.prog 52 [.agg (vGram g_ A1 L1 C1).toArray] [] [fS A1 L1 C1 2 eRule g_.Rules] (oR (iI r)) := by
 unfold F.facts.Right at hF
 refine tri_intro (n := 86) Try.func52 rfl Try.ntmps52 rfl fun w X => cR (o_box rfl rfl rfl fun b => oV vA (o_seq (c_seq (c_seq ?_))))
 refine cT (fun E H Φ N' => ∀ (t32 : Bool), F.facts.Right_j1 k g_ t32 = some r → Sat E [(0, .agg (vGram g_ A1 L1 C1).toArray), (1, pt b), (2, iI 0), (32, bV t32)] H Φ N') (fun N4 hN4 => ?_) ?_
 refine c_region ((fD 0) (oV (vL 0 ty3) (oV vB (oV vM ?_))))
 refine oS 10 hF (fun hF => ?_) (fun hF => ?_)
 refine oF (oF (oF (oV vPt (oV vM (oF (oF (oF (oV vPt (oV vM (oF (oF (oF (oF (oF (oV vPt ?_)))))))))))))))
 refine oV vM (oF (oF (oF (oF (oV vPt (o_nil ?_))))))
 exact sK [0] [0] (hN4 true hF)
 refine oN ((fD 0) (oN (oV (vL 0 ty3) (oN (oV vB (oV vPf (oV vM ?_)))))))
 refine oS 15 hF (fun hF => ?_) (fun hF => ?_)
 refine oF (oF (oF (oV vPt (oV vM (oF (oF (oF (oF (oF (oV vPt (oV vM (oF (oF (oF (oF ?_)))))))))))))))
 refine oV vPt (o_nil ?_)
 exact sK [0] [0] (hN4 true hF)
 refine oN ((fD 1) (oN (oV (vL 0 ty3) (oN (oV vB (oV vPf (oV vM ?_)))))))
 refine oS 20 hF (fun hF => ?_) (fun hF => ?_)
 refine oF (oF (oF (oF (oF (oV vPt (oV vM (oF (oF (oF (oF (oV vPt (o_nil ?_))))))))))))
 exact sK [0] [0] (hN4 true hF)
 refine oN ((fD 1) (oN (oV (vL 0 ty3) (oN ((fD 0) (oN (oV (vL 0 ty3) (oN (oV vB (oV vPf (oV vM ?_)))))))))))
 refine oS 27 hF (fun hF => ?_) (fun hF => ?_)
 refine oF (oF (oF (oF (oV vPt (o_nil ?_)))))
 exact sK [0] [0] (hN4 true hF)
 refine oN ((fD 2) (oN (oV (vL 0 ty22) (oN (oV (v_lenS (enc := eRule) g_.Rules sl22 rfl (.f 0 rfl)) (oN (oV vB (oV vPf (o_nil ?_)))))))))
 exact sK [0] [0] (hN4 (decide (8192 < (g_.Rules.length : Int))) hF)
 intro t32 hF
 unfold F.facts.Right_j1 at hF
 refine sat_wc ?_
 refine cC hF (fun hF => ?_) (fun hF => ?_)
 refine cR (oV vA (o_seq (c_ret ?_)))
 cases hF
 exact sR
 refine c_skip (sat_wc (c_seq (cR ((fD 2) (oV (vL 0 ty22) (oV (v_lenS (enc := eRule) g_.Rules sl22 rfl (.f 0 rfl)) (oV vM (o_seq ?_))))))))
 obtain ⟨o2, ho2, hF⟩ := bd hF
 refine cT (fun E H Φ N' => ∀ (d2 : Unit), o2 = .done d2 → Sat E [(0, .agg (vGram g_ A1 L1 C1).toArray), (1, pt b), (2, iI 0), (34, sl A1 L1 C1)] H Φ N') (fun N2 hN2 => ?_) ?_
 refine c_block ?_
 refine cL (fun E H Φ j a w => ∃ (t36 : Int), F.facts.Right_l2 k g_ j t36 = some o2 ∧ St E [(0, .agg (vGram g_ A1 L1 C1).toArray), (1, pt b), (2, iI 0), (34, sl A1 L1 C1), (35, iI (g_.Rules.length : Int)), (36, iI t36)] H Φ a w) k ?_ ?_
 exact lq [0] [0] fun a w hs => ⟨0, ho2, hs⟩
 rintro j a w ⟨t36, hL2, hs⟩
 rcases j with _ | j
 cases hL2
 refine wc_app hs ?_
 unfold F.facts.Right_l2 at hL2
 refine cR (oV vB (o_seq (c_seq ?_)))
 refine cC hL2 (fun hL2 => ?_) (fun hL2 => ?_)
 refine c_skip (sat_wc (c_seq (c_block (cR (ite_some hL2 fun h3 hL2 => oV (v_indexAddr_s (xs := g_.Rules) (enc := eRule) sl22 rfl rfl (.f 0 rfl) h3) (o_load_s (xs := g_.Rules) (enc := eRule) ty50 rfl (.f 0 rfl) h3 rfl rfl rfl rfl rfl rfl ?_))))))
 intro A2 L2 C2
 refine o_alloc zero50 rfl rfl fun b1 => (sT 0 ty50) (o_seq (c_seq (cR ((fD 0) ?_))))
 refine oV (vL 0 ty3) (oV vB (oV vM ?_))
 refine oS 43 hL2 (fun hL2 => ?_) (fun hL2 => ?_)
 refine oF (oF (oF (oF (oF (oV vPt (oV vM (oF (oF (oF (oF (oV vPt (o_seq ?_))))))))))))
 refine c_cond rfl (fun _ => ?_) (fun h => Bool.noConfusion h)
 refine cR (oV vA (o_seq (c_ret ?_)))
 cases hL2
 obtain rfl := lrf_ret hF
 exact sR
 refine oN ((fD 0) (oN (oV (vL 0 ty3) (oN ((fD 0) (oN (oV (vL 1 ty3) (oN (oV vB (oV vPf (oV vM ?_)))))))))))
 refine oS 50 hL2 (fun hL2 => ?_) (fun hL2 => ?_)
 refine oF (oF (oF (oF (oV vPt (o_seq ?_)))))
 refine c_cond rfl (fun _ => ?_) (fun h => Bool.noConfusion h)
 refine cR (oV vA (o_seq (c_ret ?_)))
 cases hL2
 obtain rfl := lrf_ret hF
 exact sR
 refine oN ((fD 1) (oN (oV (vL 0 ty48) (oN (oV (v_lenS (enc := eKSym) ((at_ g_.Rules t36).Rhs) sl48 rfl (.f 0 rfl)) (oN (oV vB (oV vPf (o_seq ?_)))))))))
 refine cC hL2 (fun hL2 => ?_) (fun hL2 => ?_)
 refine cR (oV vA (o_seq (c_ret ?_)))
 cases hL2
 obtain rfl := lrf_ret hF
 exact sR
 refine c_skip (sat_wc (cR ((fD 1) (oV (vL 0 ty48) (oV (v_lenS (enc := eKSym) ((at_ g_.Rules t36).Rhs) sl48 rfl (.f 0 rfl)) (oV vM (o_seq ?_)))))))
 obtain ⟨o3, ho3, hL2⟩ := bd hL2
 refine cT (fun E H Φ N' => ∀ (d3 : Int), o3 = .done d3 → Sat E [(0, .agg (vGram g_ A1 L1 C1).toArray), (1, pt b), (2, iI 0), (4, pt b1), (34, sl A1 L1 C1), (35, iI (g_.Rules.length : Int)), (36, iI t36), (57, sl A2 L2 C2), (58, iI (((at_ g_.Rules t36).Rhs).length : Int)), (59, iI d3)] H [fS A1 L1 C1 2 eRule g_.Rules, fS A2 L2 C2 5 eKSym ((at_ g_.Rules t36).Rhs)] N') (fun N3 hN3 => ?_) ?_
 refine c_block ?_
 refine cL (fun E H Φ j a w => ∃ (t59 : Int), F.facts.Right_l3 g_ t36 j t59 = some o3 ∧ St E [(0, .agg (vGram g_ A1 L1 C1).toArray), (1, pt b), (2, iI 0), (4, pt b1), (34, sl A1 L1 C1), (35, iI (g_.Rules.length : Int)), (36, iI t36), (57, sl A2 L2 C2), (58, iI (((at_ g_.Rules t36).Rhs).length : Int)), (59, iI t59)] H [fS A1 L1 C1 2 eRule g_.Rules, fS A2 L2 C2 5 eKSym ((at_ g_.Rules t36).Rhs)] a w) k ?_ ?_
 exact lq [0, 0] [1, 0] fun a w hs => ⟨0, ho3, hs⟩
 rintro j a w ⟨t59, hL3, hs⟩
 rcases j with _ | j
 cases hL3
 refine wc_app hs ?_
 unfold F.facts.Right_l3 at hL3
 refine cR (oV vB (o_seq (c_seq ?_)))
 refine cC hL3 (fun hL3 => ?_) (fun hL3 => ?_)
 refine c_skip (sat_wc (c_seq (c_block (cR (ite_some hL3 fun h8 hL3 => oV (v_indexAddr_s (xs := (at_ g_.Rules t36).Rhs) (enc := eKSym) sl48 rfl rfl (.f 1 rfl) h8) (oV (v_load_s (xs := (at_ g_.Rules t36).Rhs) (enc := eKSym) ty47 rfl (.f 1 rfl) h8 rfl rfl rfl rfl rfl rfl rfl) (o_alloc zero47 rfl rfl ?_)))))))
 intro b2
 refine (sT 0 ty47) (o_seq (c_seq ?_))
 refine cT (fun E H Φ N' => ∀ (t83 : Bool), F.facts.Right_j4 (F.facts.Right_l3 g_ t36 j) t59 t83 = some o3 → Sat E [(0, .agg (vGram g_ A1 L1 C1).toArray), (1, pt b), (2, iI 0), (4, pt b1), (6, pt b2), (34, sl A1 L1 C1), (35, iI (g_.Rules.length : Int)), (36, iI t36), (57, sl A2 L2 C2), (58, iI (((at_ g_.Rules t36).Rhs).length : Int)), (59, iI t59), (83, bV t83)] H Φ N') (fun N4 hN4 => ?_) ?_
 refine c_region ((fD 0) (oV (vL 0 ty3) (oV vB (oV vM ?_))))
 refine oS 66 hL3 (fun hL3 => ?_) (fun hL3 => ?_)
 refine oF (oF (oF (oF (oF (oV vPt (oV vM (oF (oF (oF (oF (oU (oU (oU (oU (oF ?_)))))))))))))))
 refine oV vPt (o_nil ?_)
 exact sK [0, 0, 0] [0, 1] (hN4 true hL3)
 refine oN ((fD 0) (oN (oV (vL 0 ty3) (oN ((fD 0) (oN (oV (vL 2 ty3) (oN (oV vB (oV vPf (oV vM ?_)))))))))))
 refine oS 73 hL3 (fun hL3 => ?_) (fun hL3 => ?_)
 refine oF (oF (oF (oF (oU (oU (oU (oU (oF (oV vPt (o_nil ?_))))))))))
 exact sK [0, 0, 0] [0, 1] (hN4 true hL3)
 refine oN ((fD 0) (oN (oV (vL 0 ty3) (oN (oV vB (oN (oV vM ?_)))))))
 refine oS 77 hL3 (fun hL3 => ?_) (fun hL3 => ?_)
 refine oN ((fD 1) (oN (oV (vL 0 ty45) (oN (oV (vU (.agg #[iU 0, iU 0, iU 0, iU 0])) (oN (oV (v_agne 2 rfl rfl (eq45 ((at_ ((at_ g_.Rules t36).Rhs) t59).Set.w0) ((at_ ((at_ g_.Rules t36).Rhs) t59).Set.w1) ((at_ ((at_ g_.Rules t36).Rhs) t59).Set.w2) ((at_ ((at_ g_.Rules t36).Rhs) t59).Set.w3) 0 0 0 0) rfl guard45) (oN (oV vPt (oV vPf (o_nil ?_)))))))))))
 exact sK [0, 0, 0] [0, 1] (hN4 (!(S4.eq (S4.mk ((at_ ((at_ g_.Rules t36).Rhs) t59).Set.w0) ((at_ ((at_ g_.Rules t36).Rhs) t59).Set.w1) ((at_ ((at_ g_.Rules t36).Rhs) t59).Set.w2) ((at_ ((at_ g_.Rules t36).Rhs) t59).Set.w3)) (S4.mk 0 0 0 0))) hL3)
 refine oF (oF (oF (oF (oN (oV vPf (oV vPf (o_nil ?_)))))))
 exact sK [0, 0, 0] [0, 1] (hN4 false hL3)
 intro t83 hL3
 unfold F.facts.Right_j4 at hL3
 refine sat_wc ?_
 refine cC hL3 (fun hL3 => ?_) (fun hL3 => ?_)
 refine cR (oV vA (o_seq (c_ret ?_)))
 cases hL3
 obtain rfl := lr_ret hL2
 obtain rfl := lrf_ret hF
 exact sR
 refine c_skip (sat_wc (c_region (oV vB (oV vM (o_nil ?_)))))
 exact lp [1, 1] [0, 1] fun a w hs => ⟨IntKind.wrap .i64 (t59 + 1), hL3, hs⟩
 refine c_exit0 ?_
 cases hL3
 exact sK [0, 0] [0, 1] (hN3 t59 rfl)
 intro d3 hd
 subst hd
 replace hL2 := lr_done hL2
 refine sat_wc (c_region (oV vB (oV vM (o_nil ?_))))
 exact lp [1] [0] fun a w hs => ⟨IntKind.wrap .i64 (t36 + 1), hL2, hs⟩
 refine c_exit0 ?_
 cases hL2
 exact sK [0] [0] (hN2 () rfl)
 intro d2 hd
 subst hd
 replace hF := lrf_done hF
 refine sat_wc (cR (oV vA (o_seq (c_ret ?_))))
 cases hF
 exact sR
theorem tri83 {s : KSym} {m : List Bool} {r : Bool} (hF : F.facts.Nullable_c1 s m = some r) :
    Tri Try.prog 83 [.agg (vKSym s).toArray, sl A1 L1 C1] [] [fS A1 L1 C1 1 eB m] (oR (bV r)) := by
 unfold F.facts.Nullable_c1 at hF
 refine tri_intro (n := 15) Try.func83 rfl Try.ntmps83 rfl fun w X => cR (o_box rfl rfl rfl fun b => oV vA (o_seq (cR ((fD 0) (oV (vL 0 ty3) (oV vB (oV vM ?_)))))))
 refine oS 8 hF (fun hF => ?_) (fun hF => ?_)
 refine oN (oV vM (oN ((fD 0) (oN (oV (vL 0 ty3) (oN (ite_some hF ?_)))))))
 intro h2 hF
 refine oV (v_indexAddr_s (xs := m) (enc := eB) sl79 rfl rfl (.f 0 rfl) h2) (oN (oV (v_load_s (xs := m) (enc := eB) ty4 rfl (.f 0 rfl) h2 rfl rfl rfl rfl rfl rfl rfl) (oV vPt (oV vA (o_seq (c_ret ?_))))))
 cases hF
 exact sR
 refine oF (oF (oF (oF (oF (oV vPf (oV vA (o_seq (c_ret ?_))))))))
 cases hF
 exact sR
theorem tri82_83 {k : Nat} {g_ : Gram} {r : List Bool} (hF : F.facts.closure_83 k g_ = some r) :
    Tri Try.prog 82 [.agg (vGram g_ A1 L1 C1).toArray, .func (.func 83) #[] #[]] [] [fS A1 L1 C1 2 eRule g_.Rules] (fun o H Φ => ∃ (A8 : OA) (L8 C8 : Nat), o = .ret (sl A8 L8 C8) ∧ H = [rW A8 L8 C8 4 1 eB r] ∧ Φ = []) := by
 unfold F.facts.closure_83 at hF
 refine tri_intro (n := 44) Try.func82 rfl Try.ntmps82 rfl fun w X => cR (o_box rfl rfl rfl fun b => oV vA (o_seq (c_scope (cR ((fD 0) (oV (vL 0 ty3) (ite_some hF ?_)))))))
 intro h1 hF
 refine ite_some hF fun h2 hF => ite_some hF fun h3 hF => o_makeEz (enc := eB) false sl79 zero4 (fun _ _ => .cons (.bool _) (.nil)) rfl rfl h1 h2 h3 rfl fun A2 L2 C2 => oV vA ?_
 refine o_seq (c_seq (c_label (sat_wc ?_)))
 obtain ⟨o1, ho1, hF⟩ := bd hF
 refine c_block ?_
 refine cL (fun E H Φ j a w => ∃ (marked : List Bool) (A3 : OA) (L3 C3 : Nat), F.facts.closure_83_l1 k g_ j marked = some o1 ∧ St E [(0, .agg (vGram g_ A1 L1 C1).toArray), (1, .func (.func 83) #[] #[]), (2, pt b), (4, nS), (5, sl A3 L3 C3)] [.box b 24 (vGram g_ A1 L1 C1), rW A3 L3 C3 4 1 eB marked] Φ a w) k ?_ ?_
 exact lq [1, 0] [0] fun a w hs => ⟨(List.replicate (Int.toNat g_.Nts) false), A2, L2, C2, ho1, hs⟩
 rintro j a w ⟨marked, A3, L3, C3, hL1, hs⟩
 rcases j with _ | j
 cases hL1
 refine wc_app hs ?_
 unfold F.facts.closure_83_l1 at hL1
 refine c_block (c_scope (c_seq (c_label (sat_wc (c_seq (cR ((fD 2) (oV (vL 0 ty22) (oV (v_lenS (enc := eRule) g_.Rules sl22 rfl (.f 0 rfl)) (oV vM (o_seq ?_)))))))))))
 obtain ⟨o2, ho2, hL1⟩ := bd hL1
 refine cT (fun E H Φ N' => ∀ (d2 : Int), o2 = .done d2 → Sat E [(0, .agg (vGram g_ A1 L1 C1).toArray), (1, .func (.func 83) #[] #[]), (2, pt b), (4, nS), (5, sl A3 L3 C3), (14, sl A1 L1 C1), (15, iI (g_.Rules.length : Int)), (16, iI d2)] H Φ N') (fun N2 hN2 => ?_) ?_
 refine c_cutX0 (fun E N' => ∀ (dx2 : (List Bool) × Int × (List KSym) × Int × Int × Int) (A4 : OA) (L4 C4 : Nat) (A5 : OA) (L5 C5 : Nat) (b1 : Nat), o2 = .out dx2 → Sat E [(0, .agg (vGram g_ A1 L1 C1).toArray), (1, .func (.func 83) #[] #[]), (2, pt b), (4, nS), (5, sl A4 L4 C4), (7, pt b1), (14, sl A1 L1 C1), (15, iI (g_.Rules.length : Int)), (16, iI dx2.2.2.2.1), (26, sl A5 L5 C5), (27, iI dx2.2.2.2.2.1), (28, iI dx2.2.2.2.2.2)] [.box b 24 (vGram g_ A1 L1 C1), .box b1 50 [iI dx2.2.1, sl A5 L5 C5], rW A4 L4 C4 4 1 eB dx2.1] [fS A1 L1 C1 2 eRule g_.Rules, fS A5 L5 C5 5 eKSym dx2.2.2.1] N') (fun NX2 hX2 => ?_) ?_
 refine c_block ?_
 refine cL (fun E H Φ j a w => ∃ (t16 : Int), F.facts.closure_83_l2 k g_ marked j t16 = some o2 ∧ St E [(0, .agg (vGram g_ A1 L1 C1).toArray), (1, .func (.func 83) #[] #[]), (2, pt b), (4, nS), (5, sl A3 L3 C3), (14, sl A1 L1 C1), (15, iI (g_.Rules.length : Int)), (16, iI t16)] H Φ a w) k ?_ ?_
 exact lq [0, 0] [0] fun a w hs => ⟨0, ho2, hs⟩
 rintro j a w ⟨t16, hL2, hs⟩
 rcases j with _ | j
 cases hL2
 refine wc_app hs ?_
 unfold F.facts.closure_83_l2 at hL2
 refine cR (oV vB (o_seq (c_seq ?_)))
 refine cC hL2 (fun hL2 => ?_) (fun hL2 => ?_)
 refine c_skip (sat_wc (c_seq ?_))
 refine c_cut (fun E N' => ∀ (A6 : OA) (L6 C6 : Nat) (b2 : Nat), F.facts.closure_83_j3 (F.facts.closure_83_l2 k g_ marked j) t16 = some o2 → Sat E [(0, .agg (vGram g_ A1 L1 C1).toArray), (1, .func (.func 83) #[] #[]), (2, pt b), (4, nS), (5, sl A3 L3 C3), (7, pt b2), (14, sl A1 L1 C1), (15, iI (g_.Rules.length : Int)), (16, iI t16)] [.box b 24 (vGram g_ A1 L1 C1), .box b2 50 [iI ((at_ g_.Rules t16).Lhs), sl A6 L6 C6], rW A3 L3 C3 4 1 eB marked] [fS A1 L1 C1 2 eRule g_.Rules, fS A6 L6 C6 5 eKSym ((at_ g_.Rules t16).Rhs)] N') (fun N3 hN3 => ?_) ?_
 refine c_block (cR (ite_some hL2 fun h5 hL2 => oV (v_indexAddr_s (xs := g_.Rules) (enc := eRule) sl22 rfl rfl (.f 0 rfl) h5) (o_load_s (xs := g_.Rules) (enc := eRule) ty50 rfl (.f 0 rfl) h5 rfl rfl rfl rfl rfl rfl ?_)))
 intro A7 L7 C7
 refine o_alloc zero50 rfl rfl fun b3 => (sT 0 ty50) (o_seq (c_seq (cR (oV vM ((fD 0) (oV (vL 0 ty3) (ite_some hL2 ?_)))))))
 intro h6 hL2
 refine ?_
 refine oV (v_indexAddr_s (xs := marked) (enc := eB) sl79 rfl rfl (.r 2 _ rfl) h6) (oV (v_load_s (xs := marked) (enc := eB) ty4 rfl (.r 2 _ rfl) h6 rfl rfl rfl rfl rfl rfl rfl) (o_seq ?_))
 refine cC hL2 (fun hL2 => ?_) (fun hL2 => ?_)
 refine c_exit0 ?_
 exact sK [1, 0, 0] [1, 0] (hN3 A7 L7 C7 b3 hL2)
 refine c_skip (sat_wc (c_seq (cR ((fD 1) (oV (vL 0 ty48) (oV (v_lenS (enc := eKSym) ((at_ g_.Rules t16).Rhs) sl48 rfl (.f 0 rfl)) (oV vM (o_seq ?_))))))))
 obtain ⟨o4, ho4, hL2⟩ := bd hL2
 refine cT (fun E H Φ N' => ∀ (d4 : Int), o4 = .done d4 → Sat E [(0, .agg (vGram g_ A1 L1 C1).toArray), (1, .func (.func 83) #[] #[]), (2, pt b), (4, nS), (5, sl A3 L3 C3), (7, pt b3), (14, sl A1 L1 C1), (15, iI (g_.Rules.length : Int)), (16, iI t16), (26, sl A7 L7 C7), (27, iI (((at_ g_.Rules t16).Rhs).length : Int)), (28, iI d4)] H [fS A1 L1 C1 2 eRule g_.Rules, fS A7 L7 C7 5 eKSym ((at_ g_.Rules t16).Rhs)] N') (fun N4 hN4 => ?_) ?_
 refine c_cutX0 (fun E N' => ∀ (dx4 : Int × S4 × Int) (b4 : Nat), o4 = .out dx4 → Sat E [(0, .agg (vGram g_ A1 L1 C1).toArray), (1, .func (.func 83) #[] #[]), (2, pt b), (4, nS), (5, sl A3 L3 C3), (7, pt b3), (9, pt b4), (14, sl A1 L1 C1), (15, iI (g_.Rules.length : Int)), (16, iI t16), (26, sl A7 L7 C7), (27, iI (((at_ g_.Rules t16).Rhs).length : Int)), (28, iI dx4.2.2)] [.box b3 50 [iI ((at_ g_.Rules t16).Lhs), sl A7 L7 C7], .box b 24 (vGram g_ A1 L1 C1), .box b4 47 [iI dx4.1, iU dx4.2.1.w0, iU dx4.2.1.w1, iU dx4.2.1.w2, iU dx4.2.1.w3], rW A3 L3 C3 4 1 eB marked] [fS A1 L1 C1 2 eRule g_.Rules, fS A7 L7 C7 5 eKSym ((at_ g_.Rules t16).Rhs)] N') (fun NX4 hX4 => ?_) ?_
 refine c_block ?_
 refine cL (fun E H Φ j a w => ∃ (t28 : Int), F.facts.closure_83_l4 g_ t16 marked j t28 = some o4 ∧ St E [(0, .agg (vGram g_ A1 L1 C1).toArray), (1, .func (.func 83) #[] #[]), (2, pt b), (4, nS), (5, sl A3 L3 C3), (7, pt b3), (14, sl A1 L1 C1), (15, iI (g_.Rules.length : Int)), (16, iI t16), (26, sl A7 L7 C7), (27, iI (((at_ g_.Rules t16).Rhs).length : Int)), (28, iI t28)] H [fS A1 L1 C1 2 eRule g_.Rules, fS A7 L7 C7 5 eKSym ((at_ g_.Rules t16).Rhs)] a w) k ?_ ?_
 exact lq [0, 0, 0] [1, 0] fun a w hs => ⟨0, ho4, hs⟩
 rintro j a w ⟨t28, hL4, hs⟩
 rcases j with _ | j
 cases hL4
 refine wc_app hs ?_
 unfold F.facts.closure_83_l4 at hL4
 refine cR (oV vB (o_seq (c_seq ?_)))
 refine cC hL4 (fun hL4 => ?_) (fun hL4 => ?_)
 refine c_skip (sat_wc (c_seq (c_block (cR (ite_some hL4 fun h9 hL4 => oV (v_indexAddr_s (xs := (at_ g_.Rules t16).Rhs) (enc := eKSym) sl48 rfl rfl (.f 1 rfl) h9) (oV (v_load_s (xs := (at_ g_.Rules t16).Rhs) (enc := eKSym) ty47 rfl (.f 1 rfl) h9 rfl rfl rfl rfl rfl rfl rfl) (o_alloc zero47 rfl rfl ?_)))))))
 intro b5
 refine (sT 0 ty47) (o_seq (cR (oV vM (oV (vL 0 ty47) ?_))))
 refine oV vM ?_
 obtain ⟨v_, h10, hL4⟩ := bd hL4
 refine o_callSBx call83 rfl rfl (lent_r 3 rfl lent_nil) (tri83 h10 :) rfl (oV vN (o_seq ?_))
 refine cC hL4 (fun hL4 => ?_) (fun hL4 => ?_)
 refine c_exit2 ?_
 cases hL4
 exact sK [1, 1, 0, 0] [0, 1] (hX4 ((at_ ((at_ g_.Rules t16).Rhs) t28).Nt, (S4.mk ((at_ ((at_ g_.Rules t16).Rhs) t28).Set.w0) ((at_ ((at_ g_.Rules t16).Rhs) t28).Set.w1) ((at_ ((at_ g_.Rules t16).Rhs) t28).Set.w2) ((at_ ((at_ g_.Rules t16).Rhs) t28).Set.w3)), t28) b5 rfl)
 refine c_skip (sat_wc (c_region (oV vB (oV vM (o_nil ?_)))))
 exact lp [1, 1, 1] [0, 1] fun a w hs => ⟨IntKind.wrap .i64 (t28 + 1), hL4, hs⟩
 refine c_exit0 ?_
 cases hL4
 exact sK [0, 0, 0] [0, 1] (hN4 t28 rfl)
 intro dx4 b4 hd
 subst hd
 replace hL2 := lxx_out hL2
 exact sK [1, 0, 1] [0, 1] (hN3 A7 L7 C7 b3 hL2)
 intro d4 hd
 subst hd
 replace hL2 := lxx_done hL2
 refine sat_wc (cR (oV vM ((fD 0) (oV (vL 0 ty3) (oV (v_indexAddr_s (xs := marked) (enc := eB) sl79 rfl rfl (.r 2 _ rfl) h6) (o_store_s (xs := marked) (enc := eB) 2 true rfl ty4 rfl rfl rfl rfl h6 (.s rfl (.nil)) rfl rfl rfl (o_seq (c_exit2 ?_))))))))
 cases hL2
 exact sK [1, 0, 0] [0, 1] (hX2 (set_ marked ((at_ g_.Rules t16).Lhs) true, (at_ g_.Rules t16).Lhs, (at_ g_.Rules t16).Rhs, t16, (((at_ g_.Rules t16).Rhs).length : Int), d4) A3 L3 C3 A7 L7 C7 b3 rfl)
 intro A6 L6 C6 b2 hL2
 unfold F.facts.closure_83_j3 at hL2
 refine sat_wc (c_region (oV vB (oV vM (o_nil ?_))))
 exact lp [0, 1] [0] fun a w hs => ⟨IntKind.wrap .i64 (t16 + 1), hL2, hs⟩
 refine c_exit0 ?_
 cases hL2
 exact sK [0, 0] [0] (hN2 t16 rfl)
 intro dx2 A4 L4 C4 A5 L5 C5 b1 hd
 subst hd
 replace hL1 := lxg_out hL1
 exact lp [0, 1] [0] fun a w hs => ⟨dx2.1, A4, L4, C4, hL1, hs⟩
 intro d2 hd
 subst hd
 replace hL1 := lxg_done hL1
 refine sat_wc (cR (oV vM (oV vA (o_seq (c_ret ?_)))))
 cases hL1
 obtain rfl := lrf_ret hF
 refine s_ret1 rfl (r_tmp rfl) fun a w hs => fin_sel hs [1] ⟨A3, L3, C3, rfl, rfl, rfl⟩ rfl sub_nil
theorem tri70 {k : Nat} {g_ : Gram} {r : List Bool × Int} (hF : F.facts.Nullable k g_ = some r) :
    Tri Try.prog 70 [.agg (vGram g_ A1 L1 C1).toArray] [] [fS A1 L1 C1 2 eRule g_.Rules] (fun o H Φ => ∃ (A3 : OA) (L3 C3 : Nat), o = .ret (.tuple #[sl A3 L3 C3, iI r.2]) ∧ H = [rW A3 L3 C3 4 1 eB r.1] ∧ Φ = []) := by
 unfold F.facts.Nullable at hF
 refine tri_intro (n := 12) Try.func70 rfl Try.ntmps70 rfl fun w X => cR (o_box rfl rfl rfl fun b => oV vA (oV vA (o_seq (c_seq (cR (oV (vL 0 ty24) ?_))))))
 obtain ⟨v_, h1, hF⟩ := bd hF
 refine o_callSB call52 rfl (lent_f 0 rfl lent_nil) (tri52 h1 :) rfl (oV vA (o_seq (cR (oV vM (oV vB (o_seq ?_))))))
 refine cC hF (fun hF => ?_) (fun hF => ?_)
 refine cR (oV vM (oV vA (oV vA (o_seq (c_ret ?_)))))
 cases hF
 refine s_st (st_nilrow 4 1) (s_ret2 rfl (r_tmp rfl) (r_tmp rfl) fun a w hs => fin_sel hs [0] ⟨none, 0, 0, rfl, rfl, rfl⟩ rfl sub_nil)
 refine c_skip (sat_wc (cR (oV (vL 0 ty24) ?_)))
 obtain ⟨v_1, h3, hF⟩ := bd hF
 refine o_call0 call82 rfl (subs [0] rfl) (tri82_83 h3 :) rfl ?_
 rintro _ _ _ ⟨A2, L2, C2, rfl, rfl, rfl⟩
 refine oV vA (oV vA (o_seq (c_ret ?_)))
 cases hF
 refine s_ret2 rfl (r_tmp rfl) (r_tmp rfl) fun a w hs => fin_sel hs [0] ⟨A2, L2, C2, rfl, rfl, rfl⟩ rfl sub_nil
theorem tri71 {k : Nat} {g_ : Gram} {null : List Bool} {r : List (List Int)} (hF : F.facts.steps k g_ null = some r) :
    Tri Try.prog 71 [.agg (vGram g_ A1 L1 C1).toArray, sl A2 L2 C2] [] [fS A1 L1 C1 2 eRule g_.Rules, fS A2 L2 C2 1 eB null] (fun o H Φ => ∃ (A14 : OA) (L14 C14 : Nat), o = .ret (sl A14 L14 C14) ∧ H = [] ∧ Φ = [fS A14 L14 C14 1 (eSl 1 eI64) r]) := by
 unfold F.facts.steps at hF
 refine tri_intro (n := 86) Try.func71 rfl Try.ntmps71 rfl fun w X => cR (o_box rfl rfl rfl fun b => oV vA (o_seq (cR ((fD 0) (oV (vL 0 ty3) (ite_some hF ?_))))))
 intro h1 hF
 refine ite_some hF fun h2 hF => ite_some hF fun h3 hF => o_makeDz (α := Int) eI64 3 1 sl87 zero59 rfl rfl h1 h2 h3 rfl fun A3 L3 C3 => oV vA (o_seq ?_)
 refine c_seq (cR ((fD 2) (oV (vL 2 ty22) (oV (v_lenS (enc := eRule) g_.Rules sl22 rfl (.f 0 rfl)) (oV vM (o_seq ?_))))))
 obtain ⟨o1, ho1, hF⟩ := bd hF
 refine c_cut (fun E N' => ∀ (A5 : OA) (L5 C5 : Nat) (gh1 : Nat → H3), Sat E [(0, .agg (vGram g_ A1 L1 C1).toArray), (2, pt b), (4, nS), (5, sl A5 L5 C5), (17, sl A1 L1 C1)] [.box b 24 (vGram g_ A1 L1 C1), .row (sl A5 L5 C5) 59 1 (dcells o1 gh1), .fam (dfam 3 1 eI64 o1 gh1)] [fS A1 L1 C1 2 eRule g_.Rules] N') (fun N1 hN1 => ?_) ?_
 refine c_block ?_
 refine cL (fun E H Φ j a w => ∃ (out : List (List Int)) (t19 : Int) (A4 : OA) (L4 C4 : Nat) (gh : Nat → H3), F.facts.steps_l1 k g_ null j out t19 = some o1 ∧ St E [(0, .agg (vGram g_ A1 L1 C1).toArray), (1, sl A2 L2 C2), (2, pt b), (4, nS), (5, sl A4 L4 C4), (17, sl A1 L1 C1), (18, iI (g_.Rules.length : Int)), (19, iI t19)] [.box b 24 (vGram g_ A1 L1 C1), .row (sl A4 L4 C4) 59 1 (dcells out gh), .fam (dfam 3 1 eI64 out gh)] Φ a w) k ?_ ?_
 exact lq [2, 1, 0] [0, 1] fun a w hs => ⟨(List.replicate (Int.toNat g_.Nts) ([] : List Int)), 0, A3, L3, C3, h0, ho1, hs⟩
 rintro j a w ⟨out, t19, A4, L4, C4, gh, hL1, hs⟩
 rcases j with _ | j
 cases hL1
 refine wc_app hs ?_
 unfold F.facts.steps_l1 at hL1
 refine cR (oV vB (o_seq (c_seq ?_)))
 refine cC hL1 (fun hL1 => ?_) (fun hL1 => ?_)
 refine c_skip (sat_wc (c_seq (c_block (cR (ite_some hL1 fun h5 hL1 => oV (v_indexAddr_s (xs := g_.Rules) (enc := eRule) sl22 rfl rfl (.f 0 rfl) h5) (o_load_s (xs := g_.Rules) (enc := eRule) ty50 rfl (.f 0 rfl) h5 rfl rfl rfl rfl rfl rfl ?_))))))
 intro A6 L6 C6
 refine o_alloc zero50 rfl rfl fun b1 => (sT 0 ty50) (o_seq (cR (oV vA (o_seq ?_))))
 refine c_seq (cR ((fD 1) (oV (vL 0 ty48) (oV (v_lenS (enc := eKSym) ((at_ g_.Rules t19).Rhs) sl48 rfl (.f 0 rfl)) (oV vM (o_seq ?_))))))
 obtain ⟨o2, ho2, hL1⟩ := bd hL1
 refine cT (fun E H Φ N' => Sat E [(0, .agg (vGram g_ A1 L1 C1).toArray), (1, sl A2 L2 C2), (2, pt b), (4, nS), (5, sl A4 L4 C4), (7, pt b1), (8, iI o2.1), (17, sl A1 L1 C1), (18, iI (g_.Rules.length : Int)), (19, iI t19), (24, sl A6 L6 C6), (25, iI (((at_ g_.Rules t19).Rhs).length : Int)), (26, iI o2.2)] H [fS A1 L1 C1 2 eRule g_.Rules, fS A2 L2 C2 1 eB null, fS A6 L6 C6 5 eKSym ((at_ g_.Rules t19).Rhs)] N') (fun N2 hN2 => ?_) ?_
 refine c_block ?_
 refine cL (fun E H Φ j a w => ∃ (bad : Int) (t26 : Int), F.facts.steps_l2 g_ t19 null j bad t26 = some o2 ∧ St E [(0, .agg (vGram g_ A1 L1 C1).toArray), (1, sl A2 L2 C2), (2, pt b), (4, nS), (5, sl A4 L4 C4), (7, pt b1), (8, iI bad), (17, sl A1 L1 C1), (18, iI (g_.Rules.length : Int)), (19, iI t19), (24, sl A6 L6 C6), (25, iI (((at_ g_.Rules t19).Rhs).length : Int)), (26, iI t26)] H [fS A1 L1 C1 2 eRule g_.Rules, fS A2 L2 C2 1 eB null, fS A6 L6 C6 5 eKSym ((at_ g_.Rules t19).Rhs)] a w) k ?_ ?_
 exact lq [0, 0, 0, 0] [1, 2, 0] fun a w hs => ⟨0, 0, ho2, hs⟩
 rintro j a w ⟨bad, t26, hL2, hs⟩
 rcases j with _ | j
 cases hL2
 refine wc_app hs ?_
 unfold F.facts.steps_l2 at hL2
 refine cR (oV vB (o_seq (c_seq ?_)))
 refine cC hL2 (fun hL2 => ?_) (fun hL2 => ?_)
 refine c_skip (sat_wc (c_seq ?_))
 refine cT (fun E H Φ N' => ∀ (bad1 : Int) (b2 : Nat), F.facts.steps_j3 (F.facts.steps_l2 g_ t19 null j) t26 bad1 = some o2 → Sat E [(0, .agg (vGram g_ A1 L1 C1).toArray), (1, sl A2 L2 C2), (2, pt b), (4, nS), (5, sl A4 L4 C4), (7, pt b1), (8, iI bad1), (10, pt b2), (17, sl A1 L1 C1), (18, iI (g_.Rules.length : Int)), (19, iI t19), (24, sl A6 L6 C6), (25, iI (((at_ g_.Rules t19).Rhs).length : Int)), (26, iI t26)] [.box b1 50 [iI ((at_ g_.Rules t19).Lhs), sl A6 L6 C6], .box b 24 (vGram g_ A1 L1 C1), .box b2 47 [iI ((at_ ((at_ g_.Rules t19).Rhs) t26).Nt), iU ((at_ ((at_ g_.Rules t19).Rhs) t26).Set.w0), iU ((at_ ((at_ g_.Rules t19).Rhs) t26).Set.w1), iU ((at_ ((at_ g_.Rules t19).Rhs) t26).Set.w2), iU ((at_ ((at_ g_.Rules t19).Rhs) t26).Set.w3)], .row (sl A4 L4 C4) 59 1 (dcells out gh), .fam (dfam 3 1 eI64 out gh)] Φ N') (fun N3 hN3 => ?_) ?_
 refine c_block (cR (ite_some hL2 fun h7 hL2 => oV (v_indexAddr_s (xs := (at_ g_.Rules t19).Rhs) (enc := eKSym) sl48 rfl rfl (.f 2 rfl) h7) (oV (v_load_s (xs := (at_ g_.Rules t19).Rhs) (enc := eKSym) ty47 rfl (.f 2 rfl) h7 rfl rfl rfl rfl rfl rfl rfl) (o_alloc zero47 rfl rfl ?_))))
 intro b3
 refine (sT 0 ty47) (o_seq (c_seq ?_))
 refine cT (fun E H Φ N' => ∀ (t40 : Bool), F.facts.steps_j4 (F.facts.steps_l2 g_ t19 null j) t26 bad t40 = some o2 → Sat E [(0, .agg (vGram g_ A1 L1 C1).toArray), (1, sl A2 L2 C2), (2, pt b), (4, nS), (5, sl A4 L4 C4), (7, pt b1), (8, iI bad), (10, pt b3), (17, sl A1 L1 C1), (18, iI (g_.Rules.length : Int)), (19, iI t19), (24, sl A6 L6 C6), (25, iI (((at_ g_.Rules t19).Rhs).length : Int)), (26, iI t26), (40, bV t40)] H Φ N') (fun N5 hN5 => ?_) ?_
 refine c_region ((fD 0) (oV (vL 0 ty3) (oV vB (oV vM ?_))))
 refine oS 33 hL2 (fun hL2 => ?_) (fun hL2 => ?_)
 refine oF (oF (oF (oF (oF (oF (oV vPt (o_nil ?_)))))))
 exact sK [0, 0, 0, 0, 0] [0, 1, 2] (hN5 true hL2)
 refine oN (oV vM (oN ((fD 0) (oN (oV (vL 0 ty3) (oN (ite_some hL2 ?_)))))))
 intro h10 hL2
 refine oV (v_indexAddr_s (xs := null) (enc := eB) sl79 rfl rfl (.f 1 rfl) h10) (oN (oV (v_load_s (xs := null) (enc := eB) ty4 rfl (.f 1 rfl) h10 rfl rfl rfl rfl rfl rfl rfl) (oN (oV vN (oV vPf (o_nil ?_))))))
 exact sK [0, 0, 0, 0, 0] [0, 1, 2] (hN5 (!(at_ null ((at_ ((at_ g_.Rules t19).Rhs) t26).Nt))) hL2)
 intro t40 hL2
 unfold F.facts.steps_j4 at hL2
 refine sat_wc ?_
 refine cT (fun E H Φ N' => ∀ (bad2 : Int), F.facts.steps_j5 (F.facts.steps_l2 g_ t19 null j) t26 bad2 = some o2 → Sat E [(0, .agg (vGram g_ A1 L1 C1).toArray), (1, sl A2 L2 C2), (2, pt b), (4, nS), (5, sl A4 L4 C4), (7, pt b1), (8, iI bad2), (10, pt b3), (17, sl A1 L1 C1), (18, iI (g_.Rules.length : Int)), (19, iI t19), (24, sl A6 L6 C6), (25, iI (((at_ g_.Rules t19).Rhs).length : Int)), (26, iI t26)] H Φ N') (fun N5 hN5 => ?_) ?_
 refine cC hL2 (fun hL2 => ?_) (fun hL2 => ?_)
 refine c_region (oV vM (oV vB (oV vA (o_nil ?_))))
 exact sK [0, 0, 0, 0, 0] [0, 1, 2] (hN5 (IntKind.wrap .i64 (bad + 1)) hL2)
 refine c_skip ?_
 exact sK [0, 0, 0, 0, 0] [0, 1, 2] (hN5 bad hL2)
 intro bad2 hL2
 unfold F.facts.steps_j5 at hL2
 exact sK [1, 1, 0, 0, 0] [0, 1, 2] (hN3 bad2 b3 hL2)
 intro bad1 b2 hL2
 unfold F.facts.steps_j3 at hL2
 refine sat_wc (c_region (oV vB (oV vM (o_nil ?_))))
 exact lp [0, 0, 1, 1] [0, 1, 2] fun a w hs => ⟨bad1, IntKind.wrap .i64 (t26 + 1), hL2, hs⟩
 refine c_exit0 ?_
 cases hL2
 exact sK [0, 0, 0, 0] [0, 1, 2] (hN2)
 refine sat_wc (cR ((fD 1) (oV (vL 0 ty48) (oV (v_lenS (enc := eKSym) ((at_ g_.Rules t19).Rhs) sl48 rfl (.f 2 rfl)) (oV vM (o_seq ?_))))))
 obtain ⟨o6, ho6, hL1⟩ := bd hL1
 refine cT (fun E H Φ N' => ∀ (A8 : OA) (L8 C8 : Nat) (gh3 : Nat → H3), Sat E [(0, .agg (vGram g_ A1 L1 C1).toArray), (1, sl A2 L2 C2), (2, pt b), (4, nS), (5, sl A8 L8 C8), (7, pt b1), (8, iI o2.1), (17, sl A1 L1 C1), (18, iI (g_.Rules.length : Int)), (19, iI t19), (24, sl A6 L6 C6), (25, iI (((at_ g_.Rules t19).Rhs).length : Int)), (26, iI o2.2), (45, sl A6 L6 C6), (46, iI (((at_ g_.Rules t19).Rhs).length : Int)), (47, iI o6.2)] [.box b1 50 [iI ((at_ g_.Rules t19).Lhs), sl A6 L6 C6], .box b 24 (vGram g_ A1 L1 C1), .row (sl A8 L8 C8) 59 1 (dcells o6.1 gh3), .fam (dfam 3 1 eI64 o6.1 gh3)] Φ N') (fun N6 hN6 => ?_) ?_
 refine c_block ?_
 refine cL (fun E H Φ j a w => ∃ (out1 : List (List Int)) (t47 : Int) (A7 : OA) (L7 C7 : Nat) (gh2 : Nat → H3), F.facts.steps_l6 g_ t19 o2 null j out1 t47 = some o6 ∧ St E [(0, .agg (vGram g_ A1 L1 C1).toArray), (1, sl A2 L2 C2), (2, pt b), (4, nS), (5, sl A7 L7 C7), (7, pt b1), (8, iI o2.1), (17, sl A1 L1 C1), (18, iI (g_.Rules.length : Int)), (19, iI t19), (24, sl A6 L6 C6), (25, iI (((at_ g_.Rules t19).Rhs).length : Int)), (26, iI o2.2), (45, sl A6 L6 C6), (46, iI (((at_ g_.Rules t19).Rhs).length : Int)), (47, iI t47)] [.box b1 50 [iI ((at_ g_.Rules t19).Lhs), sl A6 L6 C6], .box b 24 (vGram g_ A1 L1 C1), .row (sl A7 L7 C7) 59 1 (dcells out1 gh2), .fam (dfam 3 1 eI64 out1 gh2)] Φ a w) k ?_ ?_
 exact lq [0, 0, 0, 0] [0, 1, 2] fun a w hs => ⟨out, 0, A4, L4, C4, gh, ho6, hs⟩
 rintro j a w ⟨out1, t47, A7, L7, C7, gh2, hL6, hs⟩
 rcases j with _ | j
 cases hL6
 refine wc_app hs ?_
 unfold F.facts.steps_l6 at hL6
 refine cR (oV vB (o_seq (c_seq ?_)))
 refine cC hL6 (fun hL6 => ?_) (fun hL6 => ?_)
 refine c_skip (sat_wc (c_seq ?_))
 refine cT (fun E H Φ N' => ∀ (out2 : List (List Int)) (A9 : OA) (L9 C9 : Nat) (gh4 : Nat → H3) (b4 : Nat), F.facts.steps_j7 (F.facts.steps_l6 g_ t19 o2 null j) t47 out2 = some o6 → Sat E [(0, .agg (vGram g_ A1 L1 C1).toArray), (1, sl A2 L2 C2), (2, pt b), (4, nS), (5, sl A9 L9 C9), (7, pt b1), (8, iI o2.1), (12, pt b4), (17, sl A1 L1 C1), (18, iI (g_.Rules.length : Int)), (19, iI t19), (24, sl A6 L6 C6), (25, iI (((at_ g_.Rules t19).Rhs).length : Int)), (26, iI o2.2), (45, sl A6 L6 C6), (46, iI (((at_ g_.Rules t19).Rhs).length : Int)), (47, iI t47)] [.box b1 50 [iI ((at_ g_.Rules t19).Lhs), sl A6 L6 C6], .box b 24 (vGram g_ A1 L1 C1), .box b4 47 [iI ((at_ ((at_ g_.Rules t19).Rhs) t47).Nt), iU ((at_ ((at_ g_.Rules t19).Rhs) t47).Set.w0), iU ((at_ ((at_ g_.Rules t19).Rhs) t47).Set.w1), iU ((at_ ((at_ g_.Rules t19).Rhs) t47).Set.w2), iU ((at_ ((at_ g_.Rules t19).Rhs) t47).Set.w3)], .row (sl A9 L9 C9) 59 1 (dcells out2 gh4), .fam (dfam 3 1 eI64 out2 gh4)] Φ N') (fun N7 hN7 => ?_) ?_
 refine c_block (cR (ite_some hL6 fun h12 hL6 => oV (v_indexAddr_s (xs := (at_ g_.Rules t19).Rhs) (enc := eKSym) sl48 rfl rfl (.f 2 rfl) h12) (oV (v_load_s (xs := (at_ g_.Rules t19).Rhs) (enc := eKSym) ty47 rfl (.f 2 rfl) h12 rfl rfl rfl rfl rfl rfl rfl) (o_alloc zero47 rfl rfl ?_))))
 intro b5
 refine (sT 0 ty47) (o_seq (c_seq ?_))
 refine cT (fun E H Φ N' => ∀ (t69 : Bool), F.facts.steps_j8 g_ t19 out1 t47 (F.facts.steps_l6 g_ t19 o2 null j) t69 = some o6 → Sat E [(0, .agg (vGram g_ A1 L1 C1).toArray), (1, sl A2 L2 C2), (2, pt b), (4, nS), (5, sl A7 L7 C7), (7, pt b1), (8, iI o2.1), (12, pt b5), (17, sl A1 L1 C1), (18, iI (g_.Rules.length : Int)), (19, iI t19), (24, sl A6 L6 C6), (25, iI (((at_ g_.Rules t19).Rhs).length : Int)), (26, iI o2.2), (45, sl A6 L6 C6), (46, iI (((at_ g_.Rules t19).Rhs).length : Int)), (47, iI t47), (69, bV t69)] H Φ N') (fun N10 hN10 => ?_) ?_
 refine c_region ((fD 0) (oV (vL 0 ty3) (oV vB (oV vM ?_))))
 refine oS 54 hL6 (fun hL6 => ?_) (fun hL6 => ?_)
 refine oN (oV vM (oN (oV vB (oN (oV vM ?_)))))
 refine oS 57 hL6 (fun hL6 => ?_) (fun hL6 => ?_)
 refine oF (oF (oF (oU (oU (oU (oU (oU (oU (oF (oN (oV vPt (oV vPt (o_nil ?_)))))))))))))
 exact sK [0, 0, 0, 0, 0] [0, 1, 2] (hN10 true hL6)
 refine oN (oV vM (oN (oV vB (oN (oV vM ?_)))))
 refine oS 60 hL6 (fun hL6 => ?_) (fun hL6 => ?_)
 refine oN (oV vM (oN ((fD 0) (oN (oV (vL 0 ty3) (oN (ite_some hL6 ?_)))))))
 intro h20 hL6
 refine oV (v_indexAddr_s (xs := null) (enc := eB) sl79 rfl rfl (.f 1 rfl) h20) (oN (oV (v_load_s (xs := null) (enc := eB) ty4 rfl (.f 1 rfl) h20 rfl rfl rfl rfl rfl rfl rfl) (oN (oV vN (oN (oV vPt (oN ?_)))))))
 refine oV vPf (oV vPt (o_nil ?_))
 exact sK [0, 0, 0, 0, 0] [0, 1, 2] (hN10 (!(at_ null ((at_ ((at_ g_.Rules t19).Rhs) t47).Nt))) hL6)
 refine oF (oF (oF (oF (oF (oF (oN (oV vPf (oN (oV vPf (oV vPt (o_nil ?_)))))))))))
 exact sK [0, 0, 0, 0, 0] [0, 1, 2] (hN10 false hL6)
 refine oF (oF (oF (oU (oU (oU (oU (oU (oU (oU (oU (oU (oU (oF (oV vPf (o_nil ?_)))))))))))))))
 exact sK [0, 0, 0, 0, 0] [0, 1, 2] (hN10 false hL6)
 intro t69 hL6
 unfold F.facts.steps_j8 at hL6
 refine sat_wc ?_
 refine cT (fun E H Φ N' => ∀ (out3 : List (List Int)) (A10 : OA) (L10 C10 : Nat) (gh5 : Nat → H3), F.facts.steps_j9 (F.facts.steps_l6 g_ t19 o2 null j) t47 out3 = some o6 → Sat E [(0, .agg (vGram g_ A1 L1 C1).toArray), (1, sl A2 L2 C2), (2, pt b), (4, nS), (5, sl A10 L10 C10), (7, pt b1), (8, iI o2.1), (12, pt b5), (17, sl A1 L1 C1), (18, iI (g_.Rules.length : Int)), (19, iI t19), (24, sl A6 L6 C6), (25, iI (((at_ g_.Rules t19).Rhs).length : Int)), (26, iI o2.2), (45, sl A6 L6 C6), (46, iI (((at_ g_.Rules t19).Rhs).length : Int)), (47, iI t47)] [.box b5 47 [iI ((at_ ((at_ g_.Rules t19).Rhs) t47).Nt), iU ((at_ ((at_ g_.Rules t19).Rhs) t47).Set.w0), iU ((at_ ((at_ g_.Rules t19).Rhs) t47).Set.w1), iU ((at_ ((at_ g_.Rules t19).Rhs) t47).Set.w2), iU ((at_ ((at_ g_.Rules t19).Rhs) t47).Set.w3)], .box b1 50 [iI ((at_ g_.Rules t19).Lhs), sl A6 L6 C6], .box b 24 (vGram g_ A1 L1 C1), .row (sl A10 L10 C10) 59 1 (dcells out3 gh5), .fam (dfam 3 1 eI64 out3 gh5)] Φ N') (fun N9 hN9 => ?_) ?_
 refine cC hL6 (fun hL6 => ?_) (fun hL6 => ?_)
 refine cT (fun E H Φ N' => ∀ (out4 : List (List Int)) (A11 : OA) (L11 C11 : Nat) (gh6 : Nat → H3), F.facts.steps_j10 (F.facts.steps_l6 g_ t19 o2 null j) t47 out4 = some o6 → Sat E [(0, .agg (vGram g_ A1 L1 C1).toArray), (1, sl A2 L2 C2), (2, pt b), (4, nS), (5, sl A11 L11 C11), (7, pt b1), (8, iI o2.1), (12, pt b5), (17, sl A1 L1 C1), (18, iI (g_.Rules.length : Int)), (19, iI t19), (24, sl A6 L6 C6), (25, iI (((at_ g_.Rules t19).Rhs).length : Int)), (26, iI o2.2), (45, sl A6 L6 C6), (46, iI (((at_ g_.Rules t19).Rhs).length : Int)), (47, iI t47)] [.box b5 47 [iI ((at_ ((at_ g_.Rules t19).Rhs) t47).Nt), iU ((at_ ((at_ g_.Rules t19).Rhs) t47).Set.w0), iU ((at_ ((at_ g_.Rules t19).Rhs) t47).Set.w1), iU ((at_ ((at_ g_.Rules t19).Rhs) t47).Set.w2), iU ((at_ ((at_ g_.Rules t19).Rhs) t47).Set.w3)], .box b1 50 [iI ((at_ g_.Rules t19).Lhs), sl A6 L6 C6], .box b 24 (vGram g_ A1 L1 C1), .row (sl A11 L11 C11) 59 1 (dcells out4 gh6), .fam (dfam 3 1 eI64 out4 gh6)] Φ N') (fun N10 hN10 => ?_) ?_
 refine c_draw (n := 14) [0, 0, 0] mixed rfl rfl (dv 0 rfl vM (dv 1 rfl (vF 0) (dv 2 rfl (vL 1 ty3) (dv 3 rfl vM (dv 4 rfl (vF 0) (dv 5 rfl (vL 1 ty3) (dv 8 rfl (vF 0) (dv 9 rfl (vL 0 ty3) (ite_some hL6 ?_)))))))))
 intro h14 hL6
 refine ite_some hL6 fun h15 hL6 => ite_some hL6 fun h16 hL6 => ?_
 refine d_all [6, 10] (by kernel_rfl) (by simp) ⟨⟨_, rfl, ?_⟩, ⟨_, rfl, ?_⟩, trivial⟩
 refine oV (v_indexAddr_d (le := out1) (hs := gh2) 3 sl87 rfl rfl rfl h14) (dN [0, 0, 0] 0 ?_)
 refine d_all [7, 10] (by kernel_rfl) (by simp) ⟨⟨_, rfl, ?_⟩, ⟨_, rfl, ?_⟩, trivial⟩
 refine oV (v_load_d (le := out1) (hs := gh2) 3 ty59 rfl rfl h14) (dN [0, 0, 0] 0 (dO 10 rfl (o_buildSlice (enc := eI64) ([(at_ ((at_ g_.Rules t19).Rhs) t47).Nt] : List Int) [iI ((at_ ((at_ g_.Rules t19).Rhs) t47).Nt)] sl59 rfl (fun _ => by kernel_rfl) rfl rfl rfl (.s rfl (.nil)) rfl ?_)))
 intro A12 L12 C12
 refine dN [1, 1, 1] 0 (dO 11 rfl (o_appendF (enc := eI64) (le := out1) (ys := ([(at_ ((at_ g_.Rules t19).Rhs) t47).Nt] : List Int)) (hs := gh2) 5 sl59 rfl rfl rfl h14 0 rfl h15 h16 rfl ?_))
 intro A13 L13 C13
 refine dN [1, 1, 1] 0 (dO 12 rfl (oV (v_indexAddr_d (le := out1) (hs := gh2) 4 sl87 rfl rfl rfl h14) (dN [1, 1, 1] 0 (dO 13 rfl (o_store_d (le := out1) (hs := gh2) (set_ out1 ((at_ g_.Rules t19).Lhs) ((at_ out1 ((at_ g_.Rules t19).Lhs)) ++ ([(at_ ((at_ g_.Rules t19).Rhs) t47).Nt] : List Int))) 4 (set_len _ _ _) rfl ty59 rfl rfl rfl h14 (dN [1, 1, 1] 0 (dD ?_)))))))
 exact sK [1, 1, 1, 1, 1] [0, 1, 2] (hN10 (set_ out1 ((at_ g_.Rules t19).Lhs) ((at_ out1 ((at_ g_.Rules t19).Lhs)) ++ ([(at_ ((at_ g_.Rules t19).Rhs) t47).Nt] : List Int))) A7 L7 C7 (upd gh2 ((at_ g_.Rules t19).Lhs) (A13, L13, C13)) hL6)
 refine o_buildSlice (enc := eI64) ([(at_ ((at_ g_.Rules t19).Rhs) t47).Nt] : List Int) [iI ((at_ ((at_ g_.Rules t19).Rhs) t47).Nt)] sl59 rfl (fun _ => by kernel_rfl) rfl rfl rfl (.s rfl (.nil)) rfl fun A12 L12 C12 => dN [1, 1, 1] 0 (dO 7 rfl (oV (v_load_d (le := out1) (hs := gh2) 4 ty59 rfl rfl h14) (dN [1, 1, 1] 0 (dO 11 rfl (o_appendF (enc := eI64) (le := out1) (ys := ([(at_ ((at_ g_.Rules t19).Rhs) t47).Nt] : List Int)) (hs := gh2) 5 sl59 rfl rfl rfl h14 0 rfl h15 h16 rfl ?_)))))
 intro A13 L13 C13
 refine dN [1, 1, 1] 0 (dO 12 rfl (oV (v_indexAddr_d (le := out1) (hs := gh2) 4 sl87 rfl rfl rfl h14) (dN [1, 1, 1] 0 (dO 13 rfl (o_store_d (le := out1) (hs := gh2) (set_ out1 ((at_ g_.Rules t19).Lhs) ((at_ out1 ((at_ g_.Rules t19).Lhs)) ++ ([(at_ ((at_ g_.Rules t19).Rhs) t47).Nt] : List Int))) 4 (set_len _ _ _) rfl ty59 rfl rfl rfl h14 (dN [1, 1, 1] 0 (dD ?_)))))))
 exact sK [1, 1, 1, 1, 1] [0, 1, 2] (hN10 (set_ out1 ((at_ g_.Rules t19).Lhs) ((at_ out1 ((at_ g_.Rules t19).Lhs)) ++ ([(at_ ((at_ g_.Rules t19).Rhs) t47).Nt] : List Int))) A7 L7 C7 (upd gh2 ((at_ g_.Rules t19).Lhs) (A13, L13, C13)) hL6)
 refine o_buildSlice (enc := eI64) ([(at_ ((at_ g_.Rules t19).Rhs) t47).Nt] : List Int) [iI ((at_ ((at_ g_.Rules t19).Rhs) t47).Nt)] sl59 rfl (fun _ => by kernel_rfl) rfl rfl rfl (.s rfl (.nil)) rfl fun A12 L12 C12 => dN [1, 1, 1] 0 (dO 6 rfl (oV (v_indexAddr_d (le := out1) (hs := gh2) 4 sl87 rfl rfl rfl h14) (dN [1, 1, 1] 0 (dO 7 rfl (oV (v_load_d (le := out1) (hs := gh2) 4 ty59 rfl rfl h14) (dN [1, 1, 1] 0 (dO 11 rfl (o_appendF (enc := eI64) (le := out1) (ys := ([(at_ ((at_ g_.Rules t19).Rhs) t47).Nt] : List Int)) (hs := gh2) 5 sl59 rfl rfl rfl h14 0 rfl h15 h16 rfl ?_))))))))
 intro A13 L13 C13
 refine dN [1, 1, 1] 0 (dO 12 rfl (oV (v_indexAddr_d (le := out1) (hs := gh2) 4 sl87 rfl rfl rfl h14) (dN [1, 1, 1] 0 (dO 13 rfl (o_store_d (le := out1) (hs := gh2) (set_ out1 ((at_ g_.Rules t19).Lhs) ((at_ out1 ((at_ g_.Rules t19).Lhs)) ++ ([(at_ ((at_ g_.Rules t19).Rhs) t47).Nt] : List Int))) 4 (set_len _ _ _) rfl ty59 rfl rfl rfl h14 ?_)))))
 refine dN [1, 1, 1] 0 (dD ?_)
 exact sK [1, 1, 1, 1, 1] [0, 1, 2] (hN10 (set_ out1 ((at_ g_.Rules t19).Lhs) ((at_ out1 ((at_ g_.Rules t19).Lhs)) ++ ([(at_ ((at_ g_.Rules t19).Rhs) t47).Nt] : List Int))) A7 L7 C7 (upd gh2 ((at_ g_.Rules t19).Lhs) (A13, L13, C13)) hL6)
 intro out4 A11 L11 C11 gh6 hL6
 unfold F.facts.steps_j10 at hL6
 exact sK [0, 0, 0, 0, 0] [0, 1, 2] (hN9 out4 A11 L11 C11 gh6 hL6)
 refine c_skip ?_
 exact sK [0, 0, 0, 0, 0] [0, 1, 2] (hN9 out1 A7 L7 C7 gh2 hL6)
 intro out3 A10 L10 C10 gh5 hL6
 unfold F.facts.steps_j9 at hL6
 exact sK [1, 1, 0, 0, 0] [0, 1, 2] (hN7 out3 A10 L10 C10 gh5 b5 hL6)
 intro out2 A9 L9 C9 gh4 b4 hL6
 unfold F.facts.steps_j7 at hL6
 refine sat_wc (c_region (oV vB (oV vM (o_nil ?_))))
 exact lp [0, 0, 1, 1] [0, 1, 2] fun a w hs => ⟨out2, IntKind.wrap .i64 (t47 + 1), A9, L9, C9, gh4, hL6, hs⟩
 refine c_exit0 ?_
 cases hL6
 exact sK [0, 0, 0, 0] [0, 1, 2] (hN6 A7 L7 C7 gh2)
 intro A8 L8 C8 gh3
 refine sat_wc (c_region (oV vB (oV vM (o_nil ?_))))
 exact lp [1, 1, 1] [0, 1] fun a w hs => ⟨o6.1, IntKind.wrap .i64 (t19 + 1), A8, L8, C8, gh3, hL1, hs⟩
 refine c_exit0 ?_
 cases hL1
 exact sK [0, 0, 0] [0] (hN1 A4 L4 C4 gh)
 intro A5 L5 C5 gh1
 refine sat_wc (cR (oV vM (oV vA (o_seq (c_ret ?_)))))
 cases hF
 refine s_st (st_freezeD 2 1 rfl rfl) (s_ret1 rfl (r_tmp rfl) fun a w hs => fin_sel hs [] ⟨A5, L5, C5, rfl, rfl, rfl⟩ rfl (subs [0] rfl))
theorem tri72_B (k : Nat) (g72 : Int → List Int → List (List Int) → Option (Bool × List Int))
    (hg72 : ∀ {n : Int} {free : List Int} {free1 : List (List Int)} {b : Nat} {b1 : Nat} {b2 : Nat} {A1 : OA} {L1 C1 : Nat} {A2 : OA} {L2 C2 : Nat} {r : Bool × List Int}, g72 n free free1 = some r → Tri Try.prog 72 [iI n, pt b, pt b1, pt b2] [.box b 59 [sl A1 L1 C1], rW A1 L1 C1 3 1 eI64 free, .box b1 87 [sl A2 L2 C2], .box b2 143 [.func (.func 72) #[] #[pt b, pt b1, pt b2]]] [fS A2 L2 C2 1 (eSl 1 eI64) free1] (fun o H Φ => ∃ (A8 : OA) (L8 C8 : Nat), o = .ret (bV r.1) ∧ H = [.box b 59 [sl A8 L8 C8], rW A8 L8 C8 3 1 eI64 r.2, .box b1 87 [sl A2 L2 C2], .box b2 143 [.func (.func 72) #[] #[pt b, pt b1, pt b2]]] ∧ Φ = [])) {n : Int} {free : List Int} {free1 : List (List Int)} {b : Nat} {b1 : Nat} {b2 : Nat} {A1 : OA} {L1 C1 : Nat} {A2 : OA} {L2 C2 : Nat} {r : Bool × List Int} (hF : F.facts.Cyclic_c1_B k g72 n free free1 = some r) :
    Tri Try.prog 72 [iI n, pt b, pt b1, pt b2] [.box b 59 [sl A1 L1 C1], rW A1 L1 C1 3 1 eI64 free, .box b1 87 [sl A2 L2 C2], .box b2 143 [.func (.func 72) #[] #[pt b, pt b1, pt b2]]] [fS A2 L2 C2 1 (eSl 1 eI64) free1] (fun o H Φ => ∃ (A8 : OA) (L8 C8 : Nat), o = .ret (bV r.1) ∧ H = [.box b 59 [sl A8 L8 C8], rW A8 L8 C8 3 1 eI64 r.2, .box b1 87 [sl A2 L2 C2], .box b2 143 [.func (.func 72) #[] #[pt b, pt b1, pt b2]]] ∧ Φ = []) := by
 unfold F.facts.Cyclic_c1_B at hF
 refine tri_intro (n := 41) Try.func72 rfl Try.ntmps72 rfl fun w X => cR (oV vA (o_seq (cR (oV (vL 0 ty59) (oV vM (ite_some hF ?_))))))
 intro h1 hF
 refine oV (v_indexAddr_s (xs := free) (enc := eI64) sl59 rfl rfl (.r 1 _ rfl) h1) (o_store_s (xs := free) (enc := eI64) 1 1 rfl ty3 rfl rfl rfl rfl h1 (.s rfl (.nil)) rfl rfl rfl (o_seq (c_seq (cR ?_))))
 refine oV (vL 2 ty87) (oV vM (ite_some hF ?_))
 intro h2 hF
 refine oV (v_indexAddr_s (xs := free1) (enc := (eSl 1 eI64)) sl87 rfl rfl (.f 0 rfl) h2) (o_load_s (xs := free1) (enc := (eSl 1 eI64)) ty59 rfl (.f 0 rfl) h2 rfl rfl rfl rfl rfl rfl ?_)
 intro A3 L3 C3
 refine oV (v_lenS (enc := eI64) (at_ free1 n) sl59 rfl (.f 0 rfl)) (oV vM (o_seq ?_))
 obtain ⟨o1, ho1, hF⟩ := bd hF
 refine cT (fun E H Φ N' => ∀ (d1 : (List Int)) (A5 : OA) (L5 C5 : Nat), o1 = .done d1 → Sat E [(0, iI n), (1, pt b), (2, pt b1), (5, bV false), (14, sl A3 L3 C3)] [.box b 59 [sl A5 L5 C5], .box b1 87 [sl A2 L2 C2], .box b2 143 [.func (.func 72) #[] #[pt b, pt b1, pt b2]], rW A5 L5 C5 3 1 eI64 d1] Φ N') (fun N1 hN1 => ?_) ?_
 refine c_block ?_
 refine cL (fun E H Φ j a w => ∃ (t16 : Int) (v_ : List Int) (A4 : OA) (L4 C4 : Nat), F.facts.Cyclic_c1_l1 free1 n g72 j t16 v_ = some o1 ∧ St E [(0, iI n), (1, pt b), (2, pt b1), (3, pt b2), (5, bV false), (14, sl A3 L3 C3), (15, iI ((at_ free1 n).length : Int)), (16, iI t16)] [.box b 59 [sl A4 L4 C4], .box b1 87 [sl A2 L2 C2], .box b2 143 [.func (.func 72) #[] #[pt b, pt b1, pt b2]], rW A4 L4 C4 3 1 eI64 v_] Φ a w) k ?_ ?_
 exact lq [0, 1, 1, 0] [0, 1] fun a w hs => ⟨0, set_ free n 1, A1, L1, C1, ho1, hs⟩
 rintro j a w ⟨t16, v_, A4, L4, C4, hL1, hs⟩
 rcases j with _ | j
 cases hL1
 refine wc_app hs ?_
 unfold F.facts.Cyclic_c1_l1 at hL1
 refine cR (oV vB (o_seq (c_seq ?_)))
 refine cC hL1 (fun hL1 => ?_) (fun hL1 => ?_)
 refine c_skip (sat_wc (c_seq ?_))
 refine cT (fun E H Φ N' => ∀ (v_1 : List Int) (A6 : OA) (L6 C6 : Nat), F.facts.Cyclic_c1_j2 (F.facts.Cyclic_c1_l1 free1 n g72 j) t16 v_1 = some o1 → Sat E [(0, iI n), (1, pt b), (2, pt b1), (3, pt b2), (5, bV false), (7, iI (at_ (at_ free1 n) t16)), (14, sl A3 L3 C3), (15, iI ((at_ free1 n).length : Int)), (16, iI t16)] [.box b 59 [sl A6 L6 C6], .box b1 87 [sl A2 L2 C2], .box b2 143 [.func (.func 72) #[] #[pt b, pt b1, pt b2]], rW A6 L6 C6 3 1 eI64 v_1] Φ N') (fun N2 hN2 => ?_) ?_
 refine c_block (cR (ite_some hL1 fun h4 hL1 => oV (v_indexAddr_s (xs := at_ free1 n) (enc := eI64) sl59 rfl rfl (.f 0 rfl) h4) (oV (v_load_s (xs := at_ free1 n) (enc := eI64) ty3 rfl (.f 0 rfl) h4 rfl rfl rfl rfl rfl rfl rfl) (oV vA (o_seq (cR (oV (vL 0 ty59) (oV vM (ite_some hL1 ?_)))))))))
 intro h5 hL1
 refine oV (v_indexAddr_s (xs := v_) (enc := eI64) sl59 rfl rfl (.r 3 _ rfl) h5) (oV (v_load_s (xs := v_) (enc := eI64) ty3 rfl (.r 3 _ rfl) h5 rfl rfl rfl rfl rfl rfl rfl) (oV vB ?_))
 refine oV vM ?_
 refine oS 25 hL1 (fun hL1 => ?_) (fun hL1 => ?_)
 refine oF (oF (oF (oF (oF (oF (oU (oU (oU (oF (oV vPt (o_seq ?_)))))))))))
 refine c_cond rfl (fun _ => ?_) (fun h => Bool.noConfusion h)
 refine cR (oV vA (o_seq (c_ret ?_)))
 cases hL1
 obtain rfl := lrf_ret hF
 refine s_ret1 rfl (r_tmp rfl) fun a w hs => fin_sel hs [0, 2, 0, 0] ⟨A4, L4, C4, rfl, rfl, rfl⟩ rfl sub_nil
 refine oN (oV (vL 0 ty59) (oN (oV vM (oN (oV (v_indexAddr_s (xs := v_) (enc := eI64) sl59 rfl rfl (.r 3 _ rfl) h5) (oN (oV (v_load_s (xs := v_) (enc := eI64) ty3 rfl (.r 3 _ rfl) h5 rfl rfl rfl rfl rfl rfl rfl) (oN (oV vB (oN (oV vM ?_)))))))))))
 refine oS 31 hL1 (fun hL1 => ?_) (fun hL1 => ?_)
 refine oN (oV (vL 2 ty143) (oN (oV vM (oN ?_))))
 obtain ⟨v_2, h8, hL1⟩ := bd hL1
 refine o_call [0, 2, 0, 0] call72 (cap := #[pt b, pt b1, pt b2]) rfl rfl rfl (subs [1] rfl) (by exact (hg72 h8 :)) rfl ?_
 rintro _ _ _ ⟨A7, L7, C7, rfl, rfl, rfl⟩
 refine oN (oV vPt (oV vPf (o_seq ?_)))
 refine cC hL1 (fun hL1 => ?_) (fun hL1 => ?_)
 refine cR (oV vA (o_seq (c_ret ?_)))
 cases hL1
 obtain rfl := lrf_ret hF
 refine s_ret1 rfl (r_tmp rfl) fun a w hs => fin_sel hs [0, 0, 0, 0] ⟨A7, L7, C7, rfl, rfl, rfl⟩ rfl sub_nil
 refine c_skip ?_
 exact sK [0, 1, 1, 0] [0, 1] (hN2 v_2.2 A7 L7 C7 hL1)
 refine oF (oF (oF (oN (oV vPf (oV vPf (o_seq ?_))))))
 refine c_cond rfl (fun h => Bool.noConfusion h) (fun _ => ?_)
 refine c_skip ?_
 exact sK [0, 0, 0, 0] [0, 1] (hN2 v_ A4 L4 C4 hL1)
 intro v_1 A6 L6 C6 hL1
 unfold F.facts.Cyclic_c1_j2 at hL1
 refine sat_wc (c_region (oV vB (oV vM (o_nil ?_))))
 exact lp [0, 0, 0, 0] [0, 1] fun a w hs => ⟨IntKind.wrap .i64 (t16 + 1), v_1, A6, L6, C6, hL1, hs⟩
 refine c_exit0 ?_
 cases hL1
 exact sK [0, 0, 0, 0] [0, 1] (hN1 v_ A4 L4 C4 rfl)
 intro d1 A5 L5 C5 hd
 subst hd
 replace hF := lrf_done hF
 refine sat_wc (cR (oV (vL 0 ty59) (oV vM (ite_some hF ?_))))
 intro h10 hF
 refine oV (v_indexAddr_s (xs := d1) (enc := eI64) sl59 rfl rfl (.r 3 _ rfl) h10) (o_store_s (xs := d1) (enc := eI64) 3 2 rfl ty3 rfl rfl rfl rfl h10 (.s rfl (.nil)) rfl rfl rfl (o_seq (cR (oV vA (o_seq (c_ret ?_))))))
 cases hF
 refine s_ret1 rfl (r_tmp rfl) fun a w hs => fin_sel hs [0, 2, 0, 0] ⟨A5, L5, C5, rfl, rfl, rfl⟩ rfl sub_nil
theorem tri72 (k : Nat) : (∀ {n : Int} {free : List Int} {free1 : List (List Int)} {b : Nat} {b1 : Nat} {b2 : Nat} {A1 : OA} {L1 C1 : Nat} {A2 : OA} {L2 C2 : Nat} {r : Bool × List Int}, F.facts.Cyclic_c1 k n free free1 = some r → Tri Try.prog 72 [iI n, pt b, pt b1, pt b2] [.box b 59 [sl A1 L1 C1], rW A1 L1 C1 3 1 eI64 free, .box b1 87 [sl A2 L2 C2], .box b2 143 [.func (.func 72) #[] #[pt b, pt b1, pt b2]]] [fS A2 L2 C2 1 (eSl 1 eI64) free1] (fun o H Φ => ∃ (A8 : OA) (L8 C8 : Nat), o = .ret (bV r.1) ∧ H = [.box b 59 [sl A8 L8 C8], rW A8 L8 C8 3 1 eI64 r.2, .box b1 87 [sl A2 L2 C2], .box b2 143 [.func (.func 72) #[] #[pt b, pt b1, pt b2]]] ∧ Φ = [])) := by
 induction k with
 | zero => exact fun h => nomatch (show none = some _ from h)
 | succ k ih => exact tri72_B k _ ih
theorem tri53 {k : Nat} {g_ : Gram} {r : Bool × Int} (hF : F.facts.Cyclic k g_ = some r) :
    Tri Try.prog 53 [.agg (vGram g_ A1 L1 C1).toArray] [] [fS A1 L1 C1 2 eRule g_.Rules] (oR (.tuple #[bV r.1, iI r.2])) := by
 unfold F.facts.Cyclic at hF
 refine tri_intro (n := 41) Try.func53 rfl Try.ntmps53 rfl fun w X => cR (o_box rfl rfl rfl fun b => oV vA (oV vA (o_seq (cR (oV (vL 0 ty24) ?_)))))
 obtain ⟨v_, h1, hF⟩ := bd hF
 refine o_call0 call70 rfl (subs [0] rfl) (tri70 h1 :) rfl ?_
 rintro _ _ _ ⟨A2, L2, C2, rfl, rfl, rfl⟩
 refine oV vM (oV vX (oV vX (oV vA (oV vA (o_seq (c_seq (cR (oV vM (oV vB (o_seq ?_))))))))))
 refine cC hF (fun hF => ?_) (fun hF => ?_)
 refine cR (oV vM (oV vA (oV vA (o_seq (c_ret ?_)))))
 cases hF
 refine s_ret2 rfl (r_tmp rfl) (r_tmp rfl) fun a w hs => fin_sel hs [] ⟨rfl, rfl, rfl⟩ rfl sub_nil
 refine c_skip (sat_wc (cR (oV (vL 1 ty24) (oV vM ?_))))
 obtain ⟨v_1, h3, hF⟩ := bd hF
 refine o_st (st_freeze 0 rfl) (o_call0 call71 rfl (subs [1, 0] rfl) (tri71 h3 :) rfl ?_)
 rintro _ _ _ ⟨A3, L3, C3, rfl, rfl, rfl⟩
 refine o_alloc zero87 rfl rfl fun b1 => (sT 0 ty87) (o_seq (cR ((fD 0) (oV (vL 1 ty3) (ite_some hF ?_)))))
 intro h4 hF
 refine ite_some hF fun h5 hF => ite_some hF fun h6 hF => o_makeEz (enc := eI64) 0 sl59 zero3 (fun _ _ => .cons (.int _ _) (.nil)) rfl rfl h4 h5 h6 rfl fun A4 L4 C4 => o_alloc zero59 rfl rfl fun b2 => (sT 0 ty59) (o_seq (cR ?_))
 refine o_alloc zero143 rfl rfl fun b3 => o_seq (cR (oV (v_makeFunc (vs := [pt b2, pt b1, pt b3]) rfl) ((sT 0 ty143) (o_seq (c_seq (cR ((fD 0) (oV (vL 4 ty3) (oV vM (o_seq ?_))))))))))
 obtain ⟨o1, ho1, hF⟩ := bd hF
 refine c_cut (fun E N' => ∀ (d1 : (List Int)) (A6 : OA) (L6 C6 : Nat), o1 = .done d1 → Sat E [(0, .agg (vGram g_ A1 L1 C1).toArray), (1, pt b), (2, bV false), (3, iI 0), (4, sl A2 L2 C2), (5, iI v_.2), (6, pt b1), (7, pt b2), (8, pt b3)] [.box b3 143 [.func (.func 72) #[] #[pt b2, pt b1, pt b3]], .box b2 59 [sl A6 L6 C6], .box b1 87 [sl A3 L3 C3], .box b 24 (vGram g_ A1 L1 C1), rW A6 L6 C6 3 1 eI64 d1] [fS A1 L1 C1 2 eRule g_.Rules, fS A2 L2 C2 1 eB v_.1, fS A3 L3 C3 1 (eSl 1 eI64) v_1] N') (fun N1 hN1 => ?_) ?_
 refine c_block ?_
 refine c_loopE (fun E j a w => ∃ (t27 : Int) (state : List Int) (A5 : OA) (L5 C5 : Nat), F.facts.Cyclic_l1 k g_ v_1 j t27 state = some o1 ∧ St E [(0, .agg (vGram g_ A1 L1 C1).toArray), (1, pt b), (2, bV false), (3, iI 0), (4, sl A2 L2 C2), (5, iI v_.2), (6, pt b1), (7, pt b2), (8, pt b3), (26, iI g_.Nts), (27, iI t27)] [.box b3 143 [.func (.func 72) #[] #[pt b2, pt b1, pt b3]], .box b2 59 [sl A5 L5 C5], .box b1 87 [sl A3 L3 C3], .box b 24 (vGram g_ A1 L1 C1), rW A5 L5 C5 3 1 eI64 state] [fS A1 L1 C1 2 eRule g_.Rules, fS A2 L2 C2 1 eB v_.1, fS A3 L3 C3 1 (eSl 1 eI64) v_1] a w) k ?_ ?_
 exact lq [0, 0, 1, 1, 0] [2, 1, 0] fun a w hs => ⟨0, (List.replicate (Int.toNat g_.Nts) 0), A4, L4, C4, ho1, hs⟩
 rintro j a w ⟨t27, state, A5, L5, C5, hL1, hs⟩
 rcases j with _ | j
 cases hL1
 refine wc_app hs ?_
 unfold F.facts.Cyclic_l1 at hL1
 refine cR (oV vB (o_seq (c_seq ?_)))
 refine cC hL1 (fun hL1 => ?_) (fun hL1 => ?_)
 refine c_skip (sat_wc (c_seq ?_))
 refine cT (fun E H Φ N' => ∀ (state1 : List Int) (A7 : OA) (L7 C7 : Nat), F.facts.Cyclic_j2 (F.facts.Cyclic_l1 k g_ v_1 j) t27 state1 = some o1 → Sat E [(0, .agg (vGram g_ A1 L1 C1).toArray), (1, pt b), (2, bV false), (3, iI 0), (4, sl A2 L2 C2), (5, iI v_.2), (6, pt b1), (7, pt b2), (8, pt b3), (9, iI t27), (26, iI g_.Nts), (27, iI t27)] [.box b2 59 [sl A7 L7 C7], .box b1 87 [sl A3 L3 C3], .box b3 143 [.func (.func 72) #[] #[pt b2, pt b1, pt b3]], .box b 24 (vGram g_ A1 L1 C1), rW A7 L7 C7 3 1 eI64 state1] Φ N') (fun N2 hN2 => ?_) ?_
 refine c_block (cR (oV vM (oV vA (o_seq (c_seq ?_)))))
 refine cT (fun E H Φ N' => ∀ (t39 : Bool) (state2 : List Int) (A8 : OA) (L8 C8 : Nat), F.facts.Cyclic_j3 (F.facts.Cyclic_l1 k g_ v_1 j) t27 t39 state2 = some o1 → Sat E [(0, .agg (vGram g_ A1 L1 C1).toArray), (1, pt b), (2, bV false), (3, iI 0), (4, sl A2 L2 C2), (5, iI v_.2), (6, pt b1), (7, pt b2), (8, pt b3), (9, iI t27), (26, iI g_.Nts), (27, iI t27), (39, bV t39)] [.box b2 59 [sl A8 L8 C8], .box b1 87 [sl A3 L3 C3], .box b3 143 [.func (.func 72) #[] #[pt b2, pt b1, pt b3]], .box b 24 (vGram g_ A1 L1 C1), rW A8 L8 C8 3 1 eI64 state2] Φ N') (fun N3 hN3 => ?_) ?_
 refine c_region (oV (vL 1 ty59) (oV vM (ite_some hL1 ?_)))
 intro h9 hL1
 refine oV (v_indexAddr_s (xs := state) (enc := eI64) sl59 rfl rfl (.r 4 _ rfl) h9) (oV (v_load_s (xs := state) (enc := eI64) ty3 rfl (.r 4 _ rfl) h9 rfl rfl rfl rfl rfl rfl rfl) (oV vB (oV vM ?_)))
 refine oS 35 hL1 (fun hL1 => ?_) (fun hL1 => ?_)
 refine oN (oV (vL 0 ty143) (oN (oV vM (oN ?_))))
 obtain ⟨v_2, h11, hL1⟩ := bd hL1
 refine o_call [1, 3, 1, 0] call72 (cap := #[pt b2, pt b1, pt b3]) rfl rfl rfl (subs [2] rfl) (by exact ((tri72 _) h11 :)) rfl ?_
 rintro _ _ _ ⟨A9, L9, C9, rfl, rfl, rfl⟩
 refine oV vPt (o_nil ?_)
 exact sK [0, 1, 1, 1, 0] [0, 1, 2] (hN3 v_2.1 v_2.2 A9 L9 C9 hL1)
 refine oF (oF (oF (oV vPf (o_nil ?_))))
 exact sK [1, 1, 0, 0, 0] [0, 1, 2] (hN3 false state A5 L5 C5 hL1)
 intro t39 state2 A8 L8 C8 hL1
 unfold F.facts.Cyclic_j3 at hL1
 refine sat_wc ?_
 refine cC hL1 (fun hL1 => ?_) (fun hL1 => ?_)
 refine cR (oV vA (oV vA (o_seq (c_ret ?_))))
 cases hL1
 obtain rfl := lrf_ret hF
 refine s_ret2 rfl (r_tmp rfl) (r_tmp rfl) fun a w hs => fin_sel hs [] ⟨rfl, rfl, rfl⟩ rfl sub_nil
 refine c_skip ?_
 exact sK [0, 0, 0, 0, 0] [0, 1, 2] (hN2 state2 A8 L8 C8 hL1)
 intro state1 A7 L7 C7 hL1
 unfold F.facts.Cyclic_j2 at hL1
 refine sat_wc (c_region (oV vB (oV vM (o_nil ?_))))
 exact lp [2, 0, 0, 0, 0] [0, 1, 2] fun a w hs => ⟨IntKind.wrap .i64 (t27 + 1), state1, A7, L7, C7, hL1, hs⟩
 refine c_exit0 ?_
 cases hL1
 exact sK [0, 0, 0, 0, 0] [0, 1, 2] (hN1 state A5 L5 C5 rfl)
 intro d1 A6 L6 C6 hd
 subst hd
 replace hF := lrf_done hF
 refine sat_wc (cR (oV vA (oV vA (o_seq (c_ret ?_)))))
 cases hF
 refine s_ret2 rfl (r_tmp rfl) (r_tmp rfl) fun a w hs => fin_sel hs [] ⟨rfl, rfl, rfl⟩ rfl sub_nil
theorem tri30 {k : Nat} {g_ : Gram} {w__ : List Int} {r : Int} (hF : F.forest.fit k g_ w__ = some r) :
    Tri Try.prog 30 [.agg (vGram g_ A1 L1 C1).toArray, sl A2 L2 C2] [] [fS A1 L1 C1 2 eRule g_.Rules, fS A2 L2 C2 1 eU8 w__] (oR (iI r)) := by
 unfold F.forest.fit at hF
 refine tri_intro (n := 22) Try.func30 rfl Try.ntmps30 rfl fun w X => cR (o_box rfl rfl rfl fun b => oV vA (o_seq (c_seq (cR (oV (vL 0 ty24) ?_)))))
 obtain ⟨v_, h1, hF⟩ := bd hF
 refine o_callSB call52 rfl (lent_f 0 rfl lent_nil) (tri52 h1 :) rfl (oV vA (o_seq (cR (oV vM (oV vB (o_seq ?_))))))
 refine cC hF (fun hF => ?_) (fun hF => ?_)
 refine cR (oV vM (oV vA (o_seq (c_ret ?_))))
 cases hF
 exact sR
 refine c_skip (sat_wc (c_seq (cR (oV vM (oV (v_lenS (enc := eU8) w__ sl25 rfl (.f 1 rfl)) (oV vB (o_seq ?_)))))))
 refine cC hF (fun hF => ?_) (fun hF => ?_)
 refine cR (oV vA (o_seq (c_ret ?_)))
 cases hF
 exact sR
 refine c_skip (sat_wc (c_seq (cR (oV (vL 0 ty24) ?_))))
 obtain ⟨v_1, h4, hF⟩ := bd hF
 refine o_callSB call53 rfl (lent_f 0 rfl lent_nil) (tri53 h4 :) rfl (oV vM (oV vX (oV vX (oV vA (oV vA (o_seq (cR (oV vM (o_seq ?_)))))))))
 refine cC hF (fun hF => ?_) (fun hF => ?_)
 refine cR (oV vA (o_seq (c_ret ?_)))
 cases hF
 exact sR
 refine c_skip (sat_wc (cR (oV vA (o_seq (c_ret ?_)))))
 cases hF
 exact sR
theorem tri50 {k : Nat} {g_ : Gram} {w__ : List Int} {r : Int} (hF : F.earley.fit k g_ w__ = some r) :
    Tri Try.prog 50 [.agg (vGram g_ A1 L1 C1).toArray, sl A2 L2 C2] [] [fS A1 L1 C1 2 eRule g_.Rules, fS A2 L2 C2 1 eU8 w__] (oR (iI r)) := by
 unfold F.earley.fit at hF
 refine tri_intro (n := 14) Try.func50 rfl Try.ntmps50 rfl fun w X => cR (o_box rfl rfl rfl fun b => oV vA (o_seq (c_seq (cR (oV (vL 0 ty24) ?_)))))
 obtain ⟨v_, h1, hF⟩ := bd hF
 refine o_callSB call52 rfl (lent_f 0 rfl lent_nil) (tri52 h1 :) rfl (oV vA (o_seq (cR (oV vM (oV vB (o_seq ?_))))))
 refine cC hF (fun hF => ?_) (fun hF => ?_)
 refine cR (oV vM (oV vA (o_seq (c_ret ?_))))
 cases hF
 exact sR
 refine c_skip (sat_wc (c_seq (cR (oV vM (oV (v_lenS (enc := eU8) w__ sl25 rfl (.f 1 rfl)) (oV vB (o_seq ?_)))))))
 refine cC hF (fun hF => ?_) (fun hF => ?_)
 refine cR (oV vA (o_seq (c_ret ?_)))
 cases hF
 exact sR
 refine c_skip (sat_wc (cR (oV vA (o_seq (c_ret ?_)))))
 cases hF
 exact sR
theorem tri68 {c : Earley_chart} {j_ : Int} {x_ : EItem} {b : Nat} {gh : Nat → H3} {gm : Nat → Nat} {gv : Value} {r : Earley_chart} (hF : F.earley.chart_add c j_ x_ = some r) :
    Tri Try.prog 68 [pt b, iI j_, .agg (vEItem x_).toArray] [.box b 116 [iI c.g.Nts, iI c.g.Start, sl A1 L1 C1, sl A2 L2 C2, sl A3 L3 C3, sl A4 L4 C4, sl A5 L5 C5, gv], .row (sl A4 L4 C4) 111 1 (dcells c.sets gh), .fam (dfam 118 3 eEItem c.sets gh), .row (sl A5 L5 C5) 138 1 (mcells c.met gm), .fmp (mfam kEItem c.met gm)] [fS A1 L1 C1 2 eRule c.g.Rules, fS A2 L2 C2 1 eU8 c.w_, fS A3 L3 C3 1 (eSl 1 eI64) c.by_] (fun o H Φ => ∃ (A8 : OA) (L8 C8 : Nat) (gh1 : Nat → H3) (A9 : OA) (L9 C9 : Nat) (gm1 : Nat → Nat), o = .ret (.tuple #[]) ∧ H = [.box b 116 [iI c.g.Nts, iI c.g.Start, sl A1 L1 C1, sl A2 L2 C2, sl A3 L3 C3, sl A8 L8 C8, sl A9 L9 C9, gv], .row (sl A8 L8 C8) 111 1 (dcells r.sets gh1), .fam (dfam 118 3 eEItem r.sets gh1), .row (sl A9 L9 C9) 138 1 (mcells r.met gm1), .fmp (mfam kEItem r.met gm1)] ∧ Φ = []) := by
 unfold F.earley.chart_add at hF
 refine tri_intro (n := 40) Try.func68 rfl Try.ntmps68 rfl fun w X => cR (o_box rfl rfl rfl fun b1 => o_seq (c_seq (c_seq (c_draw (n := 10) [0, 0, 0, 0, 0, 0] mixed rfl rfl (dv 0 rfl vM (dv 1 rfl vC (dv 2 rfl (vF 6) (dv 3 rfl (vL 1 ty113) (dv 4 rfl vM (ite_some hF ?_))))))))))
 intro h1 hF
 refine dv 5 rfl (v_indexAddr_m (le := c.met) (ms := gm) 4 sl113 rfl rfl rfl h1) (dv 6 rfl (v_load_m (le := c.met) (ms := gm) 4 ty138 rfl rfl h1) ?_)
 refine dv 7 rfl (vL 0 ty118) (dv 8 rfl (v_lookF (enc := kEItem) (eq := qEItem) (k := x_) (le := c.met) (ms := gm) 5 Try.underlying138 kt118 zero3 rfl rfl rfl h1) (dv 9 rfl vB (d_done_seq (by kernel_rfl) ?_)))
 refine cC hF (fun hF => ?_) (fun hF => ?_)
 refine c_ret ?_
 cases hF
 refine s_ret0 rfl fun a w hs => fin_sel hs [1, 1, 1, 1, 1] ⟨A4, L4, C4, gh, A5, L5, C5, gm, rfl, rfl, rfl⟩ rfl sub_nil
 refine c_skip (sat_wc (c_seq (c_draw (n := 9) [0, 0, 0, 0] mixed rfl rfl (dv 0 rfl vM (dv 1 rfl vC (dv 2 rfl (vF 6) (dv 3 rfl (vL 1 ty113) (dv 4 rfl vM (dv 7 rfl (vL 0 ty118) (dO 5 rfl (oV (v_indexAddr_m (le := c.met) (ms := gm) 4 sl113 rfl rfl rfl h1) (dN [0, 0, 0, 0] 0 (dO 6 rfl (oV (v_load_m (le := c.met) (ms := gm) 4 ty138 rfl rfl h1) (dN [0, 0, 0, 0] 0 ?_)))))))))))))))
 refine dO 8 rfl (o_updateF (enc := kEItem) (eq := qEItem) (k := x_) (le := c.met) (ms := gm) 5 Try.underlying138 kt118 rfl rfl rfl rfl h1 (o_st (st_mlen 4 (set_ c.met j_ (tput qEItem x_ 1 (at_ c.met j_))) (set_len _ _ _) rfl) (dN [0, 0, 0, 0] 0 (d_done_seq (by kernel_rfl) (c_draw (n := 17) [0, 0, 2, 2] mixed rfl rfl (dv 0 rfl vM (dv 1 rfl vC (dv 2 rfl (vF 5) (dv 3 rfl (vL 1 ty112) (dv 4 rfl vM (dv 5 rfl vM (dv 6 rfl vC (dv 7 rfl (vF 5) (dv 8 rfl (vL 1 ty112) (dv 9 rfl vM ?_)))))))))))))))
 refine dv 12 rfl (vL 0 ty118) (ite_some hF ?_)
 intro h3 hF
 refine ite_some hF fun h4 hF => ite_some hF fun h5 hF => ?_
 refine d_all [10, 13] (by kernel_rfl) (by simp) ⟨⟨_, rfl, ?_⟩, ⟨_, rfl, ?_⟩, trivial⟩
 refine oV (v_indexAddr_d (le := c.sets) (hs := gh) 2 sl112 rfl rfl rfl h3) (dN [0, 0, 2, 2] 0 ?_)
 refine d_all [11, 13] (by kernel_rfl) (by simp) ⟨⟨_, rfl, ?_⟩, ⟨_, rfl, ?_⟩, trivial⟩
 refine oV (v_load_d (le := c.sets) (hs := gh) 2 ty111 rfl rfl h3) (dN [0, 0, 2, 2] 0 (dO 13 rfl (o_buildSlice (enc := eEItem) ([x_] : List EItem) (vEItem x_) sl111 rfl (fun _ => by kernel_rfl) rfl rfl rfl (.s rfl (.s rfl (.s rfl (.nil)))) rfl ?_)))
 intro A6 L6 C6
 refine dN [1, 1, 3, 3] 0 (dO 14 rfl (o_appendF (enc := eEItem) (le := c.sets) (ys := ([x_] : List EItem)) (hs := gh) 4 sl111 rfl rfl rfl h3 0 rfl h4 h5 rfl ?_))
 intro A7 L7 C7
 refine o_H [rW A6 L6 C6 118 3 eEItem ([x_] : List EItem), .box b1 118 (vEItem x_), .box b 116 [iI c.g.Nts, iI c.g.Start, sl A1 L1 C1, sl A2 L2 C2, sl A3 L3 C3, sl A4 L4 C4, sl A5 L5 C5, gv], .row (sl A4 L4 C4) 111 1 (dcells c.sets gh), .fam (dfam 118 3 eEItem (set_ c.sets j_ ((at_ c.sets j_) ++ ([x_] : List EItem))) (upd gh j_ (A7, L7, C7))), .row (sl A5 L5 C5) 138 1 (mcells (set_ c.met j_ (tput qEItem x_ 1 (at_ c.met j_))) gm), .fmp (mfam kEItem (set_ c.met j_ (tput qEItem x_ 1 (at_ c.met j_))) gm)] rfl (dN [1, 1, 3, 3] 0 (dO 15 rfl (oV (v_indexAddr_d (le := c.sets) (hs := gh) 3 sl112 rfl rfl rfl h3) (dN [1, 1, 3, 3] 0 (dO 16 rfl (o_store_d (le := c.sets) (hs := gh) (set_ c.sets j_ ((at_ c.sets j_) ++ ([x_] : List EItem))) 3 (set_len _ _ _) rfl ty111 rfl rfl rfl h3 (o_H [rW A6 L6 C6 118 3 eEItem ([x_] : List EItem), .box b1 118 (vEItem x_), .box b 116 [iI c.g.Nts, iI c.g.Start, sl A1 L1 C1, sl A2 L2 C2, sl A3 L3 C3, sl A4 L4 C4, sl A5 L5 C5, gv], .row (sl A4 L4 C4) 111 1 (dcells (set_ c.sets j_ ((at_ c.sets j_) ++ ([x_] : List EItem))) (upd gh j_ (A7, L7, C7))), .fam (dfam 118 3 eEItem (set_ c.sets j_ ((at_ c.sets j_) ++ ([x_] : List EItem))) (upd gh j_ (A7, L7, C7))), .row (sl A5 L5 C5) 138 1 (mcells (set_ c.met j_ (tput qEItem x_ 1 (at_ c.met j_))) gm), .fmp (mfam kEItem (set_ c.met j_ (tput qEItem x_ 1 (at_ c.met j_))) gm)] rfl (dN [1, 1, 3, 3] 0 ?_))))))))
 refine dD ?_
 cases hF
 refine s_ret0 rfl fun a w hs => fin_sel hs [2, 2, 2, 2, 2] ⟨A4, L4, C4, (upd gh j_ (A7, L7, C7)), A5, L5, C5, gm, rfl, rfl, rfl⟩ rfl sub_nil
 refine o_buildSlice (enc := eEItem) ([x_] : List EItem) (vEItem x_) sl111 rfl (fun _ => by kernel_rfl) rfl rfl rfl (.s rfl (.s rfl (.s rfl (.nil)))) rfl fun A6 L6 C6 => dN [1, 1, 3, 3] 0 (dO 11 rfl (oV (v_load_d (le := c.sets) (hs := gh) 3 ty111 rfl rfl h3) (dN [1, 1, 3, 3] 0 (dO 14 rfl (o_appendF (enc := eEItem) (le := c.sets) (ys := ([x_] : List EItem)) (hs := gh) 4 sl111 rfl rfl rfl h3 0 rfl h4 h5 rfl ?_)))))
 intro A7 L7 C7
 refine o_H [rW A6 L6 C6 118 3 eEItem ([x_] : List EItem), .box b1 118 (vEItem x_), .box b 116 [iI c.g.Nts, iI c.g.Start, sl A1 L1 C1, sl A2 L2 C2, sl A3 L3 C3, sl A4 L4 C4, sl A5 L5 C5, gv], .row (sl A4 L4 C4) 111 1 (dcells c.sets gh), .fam (dfam 118 3 eEItem (set_ c.sets j_ ((at_ c.sets j_) ++ ([x_] : List EItem))) (upd gh j_ (A7, L7, C7))), .row (sl A5 L5 C5) 138 1 (mcells (set_ c.met j_ (tput qEItem x_ 1 (at_ c.met j_))) gm), .fmp (mfam kEItem (set_ c.met j_ (tput qEItem x_ 1 (at_ c.met j_))) gm)] rfl (dN [1, 1, 3, 3] 0 (dO 15 rfl (oV (v_indexAddr_d (le := c.sets) (hs := gh) 3 sl112 rfl rfl rfl h3) (dN [1, 1, 3, 3] 0 (dO 16 rfl (o_store_d (le := c.sets) (hs := gh) (set_ c.sets j_ ((at_ c.sets j_) ++ ([x_] : List EItem))) 3 (set_len _ _ _) rfl ty111 rfl rfl rfl h3 (o_H [rW A6 L6 C6 118 3 eEItem ([x_] : List EItem), .box b1 118 (vEItem x_), .box b 116 [iI c.g.Nts, iI c.g.Start, sl A1 L1 C1, sl A2 L2 C2, sl A3 L3 C3, sl A4 L4 C4, sl A5 L5 C5, gv], .row (sl A4 L4 C4) 111 1 (dcells (set_ c.sets j_ ((at_ c.sets j_) ++ ([x_] : List EItem))) (upd gh j_ (A7, L7, C7))), .fam (dfam 118 3 eEItem (set_ c.sets j_ ((at_ c.sets j_) ++ ([x_] : List EItem))) (upd gh j_ (A7, L7, C7))), .row (sl A5 L5 C5) 138 1 (mcells (set_ c.met j_ (tput qEItem x_ 1 (at_ c.met j_))) gm), .fmp (mfam kEItem (set_ c.met j_ (tput qEItem x_ 1 (at_ c.met j_))) gm)] rfl (dN [1, 1, 3, 3] 0 ?_))))))))
 refine dD ?_
 cases hF
 refine s_ret0 rfl fun a w hs => fin_sel hs [2, 2, 2, 2, 2] ⟨A4, L4, C4, (upd gh j_ (A7, L7, C7)), A5, L5, C5, gm, rfl, rfl, rfl⟩ rfl sub_nil
 refine o_buildSlice (enc := eEItem) ([x_] : List EItem) (vEItem x_) sl111 rfl (fun _ => by kernel_rfl) rfl rfl rfl (.s rfl (.s rfl (.s rfl (.nil)))) rfl fun A6 L6 C6 => dN [1, 1, 3, 3] 0 (dO 10 rfl (oV (v_indexAddr_d (le := c.sets) (hs := gh) 3 sl112 rfl rfl rfl h3) (dN [1, 1, 3, 3] 0 (dO 11 rfl (oV (v_load_d (le := c.sets) (hs := gh) 3 ty111 rfl rfl h3) (dN [1, 1, 3, 3] 0 (dO 14 rfl (o_appendF (enc := eEItem) (le := c.sets) (ys := ([x_] : List EItem)) (hs := gh) 4 sl111 rfl rfl rfl h3 0 rfl h4 h5 rfl ?_))))))))
 intro A7 L7 C7
 refine o_H [rW A6 L6 C6 118 3 eEItem ([x_] : List EItem), .box b1 118 (vEItem x_), .box b 116 [iI c.g.Nts, iI c.g.Start, sl A1 L1 C1, sl A2 L2 C2, sl A3 L3 C3, sl A4 L4 C4, sl A5 L5 C5, gv], .row (sl A4 L4 C4) 111 1 (dcells c.sets gh), .fam (dfam 118 3 eEItem (set_ c.sets j_ ((at_ c.sets j_) ++ ([x_] : List EItem))) (upd gh j_ (A7, L7, C7))), .row (sl A5 L5 C5) 138 1 (mcells (set_ c.met j_ (tput qEItem x_ 1 (at_ c.met j_))) gm), .fmp (mfam kEItem (set_ c.met j_ (tput qEItem x_ 1 (at_ c.met j_))) gm)] rfl (dN [1, 1, 3, 3] 0 (dO 15 rfl (oV (v_indexAddr_d (le := c.sets) (hs := gh) 3 sl112 rfl rfl rfl h3) (dN [1, 1, 3, 3] 0 (dO 16 rfl ?_)))))
 refine o_store_d (le := c.sets) (hs := gh) (set_ c.sets j_ ((at_ c.sets j_) ++ ([x_] : List EItem))) 3 (set_len _ _ _) rfl ty111 rfl rfl rfl h3 (o_H [rW A6 L6 C6 118 3 eEItem ([x_] : List EItem), .box b1 118 (vEItem x_), .box b 116 [iI c.g.Nts, iI c.g.Start, sl A1 L1 C1, sl A2 L2 C2, sl A3 L3 C3, sl A4 L4 C4, sl A5 L5 C5, gv], .row (sl A4 L4 C4) 111 1 (dcells (set_ c.sets j_ ((at_ c.sets j_) ++ ([x_] : List EItem))) (upd gh j_ (A7, L7, C7))), .fam (dfam 118 3 eEItem (set_ c.sets j_ ((at_ c.sets j_) ++ ([x_] : List EItem))) (upd gh j_ (A7, L7, C7))), .row (sl A5 L5 C5) 138 1 (mcells (set_ c.met j_ (tput qEItem x_ 1 (at_ c.met j_))) gm), .fmp (mfam kEItem (set_ c.met j_ (tput qEItem x_ 1 (at_ c.met j_))) gm)] rfl (dN [1, 1, 3, 3] 0 (dD ?_)))
 cases hF
 refine s_ret0 rfl fun a w hs => fin_sel hs [2, 2, 2, 2, 2] ⟨A4, L4, C4, (upd gh j_ (A7, L7, C7)), A5, L5, C5, gm, rfl, rfl, rfl⟩ rfl sub_nil
theorem tri81 {k : Nat} {c : Earley_chart} {j_ : Int} {x_ : EItem} {b : Nat} {gh : Nat → H3} {gm : Nat → Nat} {gb : Nat} {r : Earley_chart} (hF : F.earley.chart_complete k c j_ x_ = some r) :
    Tri Try.prog 81 [pt b, iI j_, .agg (vEItem x_).toArray] [.box b 116 [iI c.g.Nts, iI c.g.Start, sl A1 L1 C1, sl A2 L2 C2, sl A3 L3 C3, sl A4 L4 C4, sl A5 L5 C5, .map (some gb)], .row (sl A4 L4 C4) 111 1 (dcells c.sets gh), .fam (dfam 118 3 eEItem c.sets gh), .row (sl A5 L5 C5) 138 1 (mcells c.met gm), .fmp (mfam kEItem c.met gm), .mp gb (mEnc intK (tenc c.empty))] [fS A1 L1 C1 2 eRule c.g.Rules, fS A2 L2 C2 1 eU8 c.w_, fS A3 L3 C3 1 (eSl 1 eI64) c.by_] (fun o H Φ => ∃ (A18 : OA) (L18 C18 : Nat) (gh6 : Nat → H3) (A19 : OA) (L19 C19 : Nat) (gm6 : Nat → Nat), o = .ret (.tuple #[]) ∧ H = [.box b 116 [iI c.g.Nts, iI c.g.Start, sl A1 L1 C1, sl A2 L2 C2, sl A3 L3 C3, sl A18 L18 C18, sl A19 L19 C19, .map (some gb)], .row (sl A18 L18 C18) 111 1 (dcells r.sets gh6), .fam (dfam 118 3 eEItem r.sets gh6), .row (sl A19 L19 C19) 138 1 (mcells r.met gm6), .fmp (mfam kEItem r.met gm6), .mp gb (mEnc intK (tenc r.empty))] ∧ Φ = []) := by
 unfold F.earley.chart_complete at hF
 refine tri_intro (n := 86) Try.func81 rfl Try.ntmps81 rfl fun w X => cR (o_box rfl rfl rfl fun b1 => o_seq (c_seq (c_draw (n := 11) [0, 0, 0, 0, 0, 0, 0] mixed rfl rfl (dv 0 rfl vM (dv 1 rfl vC (dv 2 rfl (vF 0) (dv 3 rfl (vF 2) (dv 4 rfl (vL 1 ty22) (dv 5 rfl (vF 0) (dv 6 rfl (vL 0 ty3) (ite_some hF ?_)))))))))))
 intro h1 hF
 refine dv 7 rfl (v_indexAddr_s (xs := c.g.Rules) (enc := eRule) sl22 rfl rfl (.f 0 rfl) h1) ?_
 refine dv 8 rfl (v_fieldAddr (v := .pointer (some ⟨blkA A1, offA A1 + (Int.toNat x_.Rule * 2 + 0), none⟩)) rfl (fun _ => by kernel_rfl)) (dv 9 rfl (v_load_s (xs := c.g.Rules) (enc := eRule) ty3 rfl (.f 0 rfl) h1 rfl rfl rfl rfl rfl rfl rfl) (dv 10 rfl vA (d_done_seq (by kernel_rfl) (c_seq (cR ((fD 2) (oV (vL 0 ty3) (oV vM (oV vB (o_seq ?_))))))))))
 refine cT (fun E H Φ N' => ∀ (v_ : List (Int × Int)), F.earley.chart_complete_j1 k x_ c j_ v_ = some r → Sat E [(0, pt b), (1, iI j_), (2, .agg (vEItem x_).toArray), (5, pt b1), (6, iI ((at_ c.g.Rules x_.Rule).Lhs))] [.box b1 118 (vEItem x_), .box b 116 [iI c.g.Nts, iI c.g.Start, sl A1 L1 C1, sl A2 L2 C2, sl A3 L3 C3, sl A4 L4 C4, sl A5 L5 C5, .map (some gb)], .mp gb (mEnc intK (tenc v_)), .row (sl A4 L4 C4) 111 1 (dcells c.sets gh), .fam (dfam 118 3 eEItem c.sets gh), .row (sl A5 L5 C5) 138 1 (mcells c.met gm), .fmp (mfam kEItem c.met gm)] Φ N') (fun N5 hN5 => ?_) ?_
 refine cC hF (fun hF => ?_) (fun hF => ?_)
 refine c_region (oV vM (oV vC ((fD 7) (oV (vL 1 ty114) (oV vM (o_updateT (enc := intK) (eq := intE) (k := (at_ c.g.Rules x_.Rule).Lhs) (m := c.empty) 6 Try.underlying114 kt3 rfl rfl rfl rfl (o_H [.box b1 118 (vEItem x_), .box b 116 [iI c.g.Nts, iI c.g.Start, sl A1 L1 C1, sl A2 L2 C2, sl A3 L3 C3, sl A4 L4 C4, sl A5 L5 C5, .map (some gb)], .row (sl A4 L4 C4) 111 1 (dcells c.sets gh), .fam (dfam 118 3 eEItem c.sets gh), .row (sl A5 L5 C5) 138 1 (mcells c.met gm), .fmp (mfam kEItem c.met gm), .mp gb (mEnc intK (tenc (tput intE ((at_ c.g.Rules x_.Rule).Lhs) 1 c.empty)))] rfl (o_nil ?_))))))))
 exact sK [0, 0, 4, 0, 0, 0, 0] [0, 1, 2] (hN5 (tput intE ((at_ c.g.Rules x_.Rule).Lhs) 1 c.empty) hF)
 refine c_skip ?_
 exact sK [0, 0, 4, 0, 0, 0, 0] [0, 1, 2] (hN5 c.empty hF)
 intro v_ hF
 unfold F.earley.chart_complete_j1 at hF
 refine sat_wc (cR (oV vA (o_seq ?_)))
 obtain ⟨o2, ho2, hF⟩ := bd hF
 refine cT (fun E H Φ N' => ∀ (A8 : OA) (L8 C8 : Nat) (gh2 : Nat → H3) (A9 : OA) (L9 C9 : Nat) (gm2 : Nat → Nat), Sat E [(0, pt b), (1, iI j_), (2, .agg (vEItem x_).toArray), (5, pt b1), (6, iI ((at_ c.g.Rules x_.Rule).Lhs))] [.box b1 118 (vEItem x_), .box b 116 [iI c.g.Nts, iI c.g.Start, sl A1 L1 C1, sl A2 L2 C2, sl A3 L3 C3, sl A8 L8 C8, sl A9 L9 C9, .map (some gb)], .mp gb (mEnc intK (tenc v_)), .row (sl A8 L8 C8) 111 1 (dcells o2.1 gh2), .fam (dfam 118 3 eEItem o2.1 gh2), .row (sl A9 L9 C9) 138 1 (mcells o2.2 gm2), .fmp (mfam kEItem o2.2 gm2)] Φ N') (fun N2 hN2 => ?_) ?_
 refine c_block ?_
 refine cL (fun E H Φ j a w => ∃ (i : Int) (sets_ : List (List EItem)) (met_ : List (List (EItem × Int))) (A6 : OA) (L6 C6 : Nat) (gh1 : Nat → H3) (A7 : OA) (L7 C7 : Nat) (gm1 : Nat → Nat), F.earley.chart_complete_l2 x_ c v_ j_ j i sets_ met_ = some o2 ∧ St E [(0, pt b), (1, iI j_), (2, .agg (vEItem x_).toArray), (5, pt b1), (6, iI ((at_ c.g.Rules x_.Rule).Lhs)), (7, iI i)] [.box b1 118 (vEItem x_), .box b 116 [iI c.g.Nts, iI c.g.Start, sl A1 L1 C1, sl A2 L2 C2, sl A3 L3 C3, sl A6 L6 C6, sl A7 L7 C7, .map (some gb)], .mp gb (mEnc intK (tenc v_)), .row (sl A6 L6 C6) 111 1 (dcells sets_ gh1), .fam (dfam 118 3 eEItem sets_ gh1), .row (sl A7 L7 C7) 138 1 (mcells met_ gm1), .fmp (mfam kEItem met_ gm1)] Φ a w) k ?_ ?_
 exact lq [0, 0, 0, 0, 0, 0, 0] [0, 1, 2] fun a w hs => ⟨0, c.sets, c.met, A4, L4, C4, gh, A5, L5, C5, gm, ho2, hs⟩
 rintro j a w ⟨i, sets_, met_, A6, L6, C6, gh1, A7, L7, C7, gm1, hL2, hs⟩
 rcases j with _ | j
 cases hL2
 refine wc_app hs ?_
 unfold F.earley.chart_complete_l2 at hL2
 refine c_seq (c_seq (c_draw (n := 11) [0, 0, 0, 0, 0, 0, 0] mixed rfl rfl (dv 0 rfl vM (dv 1 rfl vM (dv 2 rfl vC (dv 3 rfl (vF 5) (dv 4 rfl (vL 1 ty112) (dv 5 rfl (vF 2) (dv 6 rfl (vL 0 ty3) (ite_some hL2 ?_))))))))))
 intro h2 hL2
 refine dv 7 rfl (v_indexAddr_d (le := sets_) (hs := gh1) 3 sl112 rfl rfl rfl h2) (dv 8 rfl (v_load_d (le := sets_) (hs := gh1) 3 ty111 rfl rfl h2) (dv 9 rfl (v_lenS (enc := eEItem) (at_ sets_ x_.From) sl111 rfl (.m 4 _ _ rfl (dfam_get h2))) (dv 10 rfl vB (d_done_seq (by kernel_rfl) ?_))))
 refine cC hL2 (fun hL2 => ?_) (fun hL2 => ?_)
 refine c_skip (sat_wc (c_seq ?_))
 refine c_cut (fun E N' => ∀ (Dot_ : Int) (sets_1 : List (List EItem)) (met_1 : List (List (EItem × Int))) (A10 : OA) (L10 C10 : Nat) (A11 : OA) (L11 C11 : Nat) (gh3 : Nat → H3) (A12 : OA) (L12 C12 : Nat) (gm3 : Nat → Nat) (b2 : Nat), F.earley.chart_complete_j3 (F.earley.chart_complete_l2 x_ c v_ j_ j) i Dot_ sets_1 met_1 = some o2 → Sat E [(0, pt b), (1, iI j_), (2, .agg (vEItem x_).toArray), (5, pt b1), (6, iI ((at_ c.g.Rules x_.Rule).Lhs)), (7, iI i), (8, pt b2), (9, sl A10 L10 C10)] [.box b 116 [iI c.g.Nts, iI c.g.Start, sl A1 L1 C1, sl A2 L2 C2, sl A3 L3 C3, sl A11 L11 C11, sl A12 L12 C12, .map (some gb)], .box b1 118 (vEItem x_), .mp gb (mEnc intK (tenc v_)), .box b2 118 [iI ((at_ (at_ sets_ x_.From) i).Rule), iI Dot_, iI ((at_ (at_ sets_ x_.From) i).From)], .row (sl A11 L11 C11) 111 1 (dcells sets_1 gh3), .fam (dfam 118 3 eEItem sets_1 gh3), .row (sl A12 L12 C12) 138 1 (mcells met_1 gm3), .fmp (mfam kEItem met_1 gm3)] [(sl A10 L10 C10, .slice 5 (((at_ c.g.Rules ((at_ (at_ sets_ x_.From) i).Rule)).Rhs).map eKSym)), fS A1 L1 C1 2 eRule c.g.Rules, fS A2 L2 C2 1 eU8 c.w_, fS A3 L3 C3 1 (eSl 1 eI64) c.by_] N') (fun N3 hN3 => ?_) ?_
 refine c_block (c_seq (c_draw (n := 13) [0, 0, 0, 0, 0, 0, 0] mixed rfl rfl (dv 0 rfl vM (dv 1 rfl vC (dv 2 rfl (vF 5) (dv 3 rfl (vL 1 ty112) (dv 4 rfl (vF 2) (dv 5 rfl (vL 0 ty3) (dv 6 rfl (v_indexAddr_d (le := sets_) (hs := gh1) 3 sl112 rfl rfl rfl h2) (dv 7 rfl (v_load_d (le := sets_) (hs := gh1) 3 ty111 rfl rfl h2) (dv 8 rfl vM (ite_some hL2 ?_))))))))))))
 intro h4 hL2
 refine dv 9 rfl (v_indexAddr_s (xs := (at_ sets_ x_.From)) (enc := eEItem) sl111 rfl rfl (.m 4 _ _ rfl (dfam_get h2)) h4) (dv 10 rfl (v_load_s (xs := (at_ sets_ x_.From)) (enc := eEItem) ty118 rfl (.m 4 _ _ rfl (dfam_get h2)) h4 rfl rfl rfl rfl rfl rfl rfl) (dO 11 rfl ?_))
 refine o_alloc zero118 rfl rfl fun b3 => dN [1, 1, 1, 1, 1, 1, 1] 0 (dO 12 rfl ((sT 0 ty118) (dN [1, 1, 1, 1, 1, 1, 1] 0 (d_done_seq (by kernel_rfl) (c_seq (ite_some hL2 ?_))))))
 intro h5 hL2
 refine c_elem (xs := c.g.Rules) (enc := eRule) 0 rfl h5 rfl rfl fun A13 L13 C13 => c_draw (n := 11) [0, 0, 0, 0, 0, 0, 0, 0] mixed rfl rfl (dv 0 rfl vM (dv 1 rfl vC (dv 2 rfl (vF 0) (dv 3 rfl (vF 2) (dv 4 rfl (vL 2 ty22) (dv 5 rfl (vF 0) ?_))))))
 refine dv 6 rfl (vL 0 ty3) (dv 7 rfl (v_indexAddr_s (xs := c.g.Rules) (enc := eRule) sl22 rfl rfl (.f 2 rfl) h5) (dv 8 rfl (v_fieldAddr (v := .pointer (some ⟨blkA A1, offA A1 + (Int.toNat ((at_ (at_ sets_ x_.From) i).Rule) * 2 + 1), none⟩)) rfl (fun _ => by kernel_rfl)) (dv 9 rfl (v_load_cl 0 ty48 rfl rfl rfl rfl rfl) (dv 10 rfl vA (d_done_seq (by kernel_rfl) (c_seq ?_))))))
 refine cT (fun E H Φ N' => ∀ (t77 : Bool), F.earley.chart_complete_j4 c sets_ met_ v_ j_ x_ i (F.earley.chart_complete_l2 x_ c v_ j_ j) t77 = some o2 → Sat E [(0, pt b), (1, iI j_), (2, .agg (vEItem x_).toArray), (5, pt b1), (6, iI ((at_ c.g.Rules x_.Rule).Lhs)), (7, iI i), (8, pt b3), (9, sl A13 L13 C13), (77, bV t77)] H [(sl A13 L13 C13, .slice 5 (((at_ c.g.Rules ((at_ (at_ sets_ x_.From) i).Rule)).Rhs).map eKSym)), fS A1 L1 C1 2 eRule c.g.Rules, fS A2 L2 C2 1 eU8 c.w_, fS A3 L3 C3 1 (eSl 1 eI64) c.by_] N') (fun N5 hN5 => ?_) ?_
 refine c_region ((fD 1) (oV (vL 0 ty3) (oV vM (oV (v_lenS (enc := eKSym) ((at_ c.g.Rules ((at_ (at_ sets_ x_.From) i).Rule)).Rhs) sl48 rfl (.f 1 rfl)) (oV vB (oV vM ?_))))))
 refine oS 68 hL2 (fun hL2 => ?_) (fun hL2 => ?_)
 refine oN (oV vM (oN ((fD 1) (oN (oV (vL 0 ty3) (oN (ite_some hL2 ?_)))))))
 intro h9 hL2
 refine oV (v_indexAddr_s (xs := (at_ c.g.Rules ((at_ (at_ sets_ x_.From) i).Rule)).Rhs) (enc := eKSym) sl48 rfl rfl (.f 1 rfl) h9) (oN (oV (v_fieldAddr (v := .pointer (some ⟨blkA A13, offA A13 + (Int.toNat ((at_ (at_ sets_ x_.From) i).Dot) * 5 + 0), none⟩)) rfl (fun _ => by kernel_rfl)) (oN (oV (v_load_s (xs := (at_ c.g.Rules ((at_ (at_ sets_ x_.From) i).Rule)).Rhs) (enc := eKSym) ty3 rfl (.f 1 rfl) h9 rfl rfl rfl rfl rfl rfl rfl) (oN (oV vM (oN ?_)))))))
 refine oV vB (oV vPt (o_nil ?_))
 exact sK [0, 0, 0, 0, 0, 0, 0, 0] [1, 2, 3, 4] (hN5 (((at_ ((at_ c.g.Rules ((at_ (at_ sets_ x_.From) i).Rule)).Rhs) ((at_ (at_ sets_ x_.From) i).Dot)).Nt) == ((at_ c.g.Rules x_.Rule).Lhs)) hL2)
 refine oF (oF (oF (oF (oF (oF (oF (oF (oV vPf (o_nil ?_)))))))))
 exact sK [0, 0, 0, 0, 0, 0, 0, 0] [1, 2, 3, 4] (hN5 false hL2)
 intro t77 hL2
 unfold F.earley.chart_complete_j4 at hL2
 refine sat_wc ?_
 refine cT (fun E H Φ N' => ∀ (sets_2 : List (List EItem)) (met_2 : List (List (EItem × Int))) (Dot_1 : Int) (A14 : OA) (L14 C14 : Nat) (gh4 : Nat → H3) (A15 : OA) (L15 C15 : Nat) (gm4 : Nat → Nat), F.earley.chart_complete_j5 (F.earley.chart_complete_l2 x_ c v_ j_ j) i sets_2 met_2 Dot_1 = some o2 → Sat E [(0, pt b), (1, iI j_), (2, .agg (vEItem x_).toArray), (5, pt b1), (6, iI ((at_ c.g.Rules x_.Rule).Lhs)), (7, iI i), (8, pt b3), (9, sl A13 L13 C13)] [.box b 116 [iI c.g.Nts, iI c.g.Start, sl A1 L1 C1, sl A2 L2 C2, sl A3 L3 C3, sl A14 L14 C14, sl A15 L15 C15, .map (some gb)], .box b3 118 [iI ((at_ (at_ sets_ x_.From) i).Rule), iI Dot_1, iI ((at_ (at_ sets_ x_.From) i).From)], .box b1 118 (vEItem x_), .mp gb (mEnc intK (tenc v_)), .row (sl A14 L14 C14) 111 1 (dcells sets_2 gh4), .fam (dfam 118 3 eEItem sets_2 gh4), .row (sl A15 L15 C15) 138 1 (mcells met_2 gm4), .fmp (mfam kEItem met_2 gm4)] Φ N') (fun N5 hN5 => ?_) ?_
 refine cC hL2 (fun hL2 => ?_) (fun hL2 => ?_)
 refine cR ((fD 1) (oV (vL 0 ty3) (oV vB ((fD 1) ((sT 0 ty3) (o_seq (c_region (oV vM (oV vM (oV (vL 0 ty118) ?_))))))))))
 obtain ⟨v_1, h7, hL2⟩ := bd hL2
 refine ocl [2, 3, 3, 3, 3] call68 rfl rfl (subs [1, 2, 3] rfl) (tri68 h7 :) ?_
 rintro _ _ _ ⟨A16, L16, C16, gh5, A17, L17, C17, gm5, rfl, rfl, rfl⟩
 refine o_H [.box b 116 [iI c.g.Nts, iI c.g.Start, sl A1 L1 C1, sl A2 L2 C2, sl A3 L3 C3, sl A16 L16 C16, sl A17 L17 C17, .map (some gb)], .row (sl A16 L16 C16) 111 1 (dcells v_1.sets gh5), .fam (dfam 118 3 eEItem v_1.sets gh5), .row (sl A17 L17 C17) 138 1 (mcells v_1.met gm5), .fmp (mfam kEItem v_1.met gm5), .box b3 118 [iI ((at_ (at_ sets_ x_.From) i).Rule), iI (IntKind.wrap .i64 (((at_ (at_ sets_ x_.From) i).Dot) + 1)), iI ((at_ (at_ sets_ x_.From) i).From)], .box b1 118 (vEItem x_), .mp gb (mEnc intK (tenc v_))] rfl (o_nil ?_)
 exact sK [0, 4, 4, 4, 0, 0, 0, 0] [0, 1, 2, 3] (hN5 v_1.sets v_1.met (IntKind.wrap .i64 (((at_ (at_ sets_ x_.From) i).Dot) + 1)) A16 L16 C16 gh5 A17 L17 C17 gm5 hL2)
 refine c_skip ?_
 exact sK [2, 0, 0, 0, 0, 0, 0, 0] [0, 1, 2, 3] (hN5 sets_ met_ ((at_ (at_ sets_ x_.From) i).Dot) A6 L6 C6 gh1 A7 L7 C7 gm1 hL2)
 intro sets_2 met_2 Dot_1 A14 L14 C14 gh4 A15 L15 C15 gm4 hL2
 unfold F.earley.chart_complete_j5 at hL2
 exact sK [0, 1, 1, 0, 0, 0, 0, 0] [0, 1, 2, 3] (hN3 Dot_1 sets_2 met_2 A13 L13 C13 A14 L14 C14 gh4 A15 L15 C15 gm4 b3 hL2)
 intro Dot_ sets_1 met_1 A10 L10 C10 A11 L11 C11 gh3 A12 L12 C12 gm3 b2 hL2
 unfold F.earley.chart_complete_j3 at hL2
 refine sat_wc (c_region (oV vM (oV vB (oV vA (o_nil ?_)))))
 exact lp [1, 0, 0, 1, 1, 1, 1] [1, 2, 3] fun a w hs => ⟨IntKind.wrap .i64 (i + 1), sets_1, met_1, A11, L11, C11, gh3, A12, L12, C12, gm3, hL2, hs⟩
 refine c_exit0 ?_
 cases hL2
 exact sK [0, 0, 0, 0, 0, 0, 0] [0, 1, 2] (hN2 A6 L6 C6 gh1 A7 L7 C7 gm1)
 intro A8 L8 C8 gh2 A9 L9 C9 gm2
 cases hF
 refine s_ret0 rfl fun a w hs => fin_sel hs [1, 2, 2, 2, 2, 1] ⟨A8, L8, C8, gh2, A9, L9, C9, gm2, rfl, rfl, rfl⟩ rfl sub_nil
theorem tri62 {s : S4} {b : Int} {r : Bool} (hF : F.charset.Has s b = some r) :
    Tri Try.prog 62 [.agg s.vs.toArray, iB b] [] [] (oR (bV r)) := by
 unfold F.charset.Has at hF
 refine tri_intro (n := 14) Try.func62 rfl Try.ntmps62 rfl fun w X => cR (o_box rfl rfl rfl fun b1 => oV vA (o_seq (cR (oV vM (oV (v_quo rfl rfl rfl) (ite_some hF ?_))))))
 intro h1 hF
 refine oV (v_indexAddr_a ar45 rfl rfl h1) (oV (v_load_a 0 s ty43 rfl rfl h1) (oV vM (oV (v_rem rfl rfl rfl) (ite_none hF ?_))))
 intro h2 hF
 refine ?_
 refine oV (v_shr rfl rfl h2) (oV (v_bit rfl rfl rfl) (oV vB (oV vA (o_seq (c_ret ?_)))))
 cases hF
 exact sR
theorem tri69 {k : Nat} {c : Earley_chart} {j_ : Int} {x_ : EItem} {b : Nat} {gh : Nat → H3} {gm : Nat → Nat} {gb : Nat} {r : Earley_chart} (hF : F.earley.chart_step k c j_ x_ = some r) :
    Tri Try.prog 69 [pt b, iI j_, .agg (vEItem x_).toArray] [.box b 116 [iI c.g.Nts, iI c.g.Start, sl A1 L1 C1, sl A2 L2 C2, sl A3 L3 C3, sl A4 L4 C4, sl A5 L5 C5, .map (some gb)], .row (sl A4 L4 C4) 111 1 (dcells c.sets gh), .fam (dfam 118 3 eEItem c.sets gh), .row (sl A5 L5 C5) 138 1 (mcells c.met gm), .fmp (mfam kEItem c.met gm), .mp gb (mEnc intK (tenc c.empty))] [fS A1 L1 C1 2 eRule c.g.Rules, fS A2 L2 C2 1 eU8 c.w_, fS A3 L3 C3 1 (eSl 1 eI64) c.by_] (fun o H Φ => ∃ (A20 : OA) (L20 C20 : Nat) (gh7 : Nat → H3) (A21 : OA) (L21 C21 : Nat) (gm7 : Nat → Nat), o = .ret (.tuple #[]) ∧ H = [.box b 116 [iI c.g.Nts, iI c.g.Start, sl A1 L1 C1, sl A2 L2 C2, sl A3 L3 C3, sl A20 L20 C20, sl A21 L21 C21, .map (some gb)], .row (sl A20 L20 C20) 111 1 (dcells r.sets gh7), .fam (dfam 118 3 eEItem r.sets gh7), .row (sl A21 L21 C21) 138 1 (mcells r.met gm7), .fmp (mfam kEItem r.met gm7), .mp gb (mEnc intK (tenc r.empty))] ∧ Φ = []) := by
 unfold F.earley.chart_step at hF
 refine tri_intro (n := 102) Try.func69 rfl Try.ntmps69 rfl fun w X => cR (o_box rfl rfl rfl fun b1 => o_seq (c_seq (ite_some hF fun h1 hF => c_elem (xs := c.g.Rules) (enc := eRule) 0 rfl h1 rfl rfl fun A6 L6 C6 => c_draw (n := 11) [0, 0, 0, 0, 0, 0, 0] mixed rfl rfl (dv 0 rfl vM (dv 1 rfl vC (dv 2 rfl (vF 0) (dv 3 rfl (vF 2) (dv 4 rfl (vL 1 ty22) (dv 5 rfl (vF 0) (dv 6 rfl (vL 0 ty3) ?_))))))))))
 refine dv 7 rfl (v_indexAddr_s (xs := c.g.Rules) (enc := eRule) sl22 rfl rfl (.f 2 rfl) h1) (dv 8 rfl (v_fieldAddr (v := .pointer (some ⟨blkA A1, offA A1 + (Int.toNat x_.Rule * 2 + 1), none⟩)) rfl (fun _ => by kernel_rfl)) (dv 9 rfl (v_load_cl 0 ty48 rfl rfl rfl rfl rfl) (dv 10 rfl vA (d_done_seq (by kernel_rfl) (c_seq (cR ((fD 1) (oV (vL 0 ty3) (oV vM (oV (v_lenS (enc := eKSym) ((at_ c.g.Rules x_.Rule).Rhs) sl48 rfl (.f 1 rfl)) (oV vB (o_seq ?_))))))))))))
 refine cC hF (fun hF => ?_) (fun hF => ?_)
 refine cR (oV vM (oV vM (oV (vL 0 ty118) ?_)))
 obtain ⟨v_, h3, hF⟩ := bd hF
 refine ocl [1, 1, 1, 1, 1, 1] call81 rfl rfl (subs [2, 3, 4] rfl) (tri81 h3 :) ?_
 rintro _ _ _ ⟨A7, L7, C7, gh1, A8, L8, C8, gm1, rfl, rfl, rfl⟩
 refine o_H [.box b 116 [iI c.g.Nts, iI c.g.Start, sl A1 L1 C1, sl A2 L2 C2, sl A3 L3 C3, sl A7 L7 C7, sl A8 L8 C8, .map (some gb)], .row (sl A7 L7 C7) 111 1 (dcells v_.sets gh1), .fam (dfam 118 3 eEItem v_.sets gh1), .row (sl A8 L8 C8) 138 1 (mcells v_.met gm1), .fmp (mfam kEItem v_.met gm1), .mp gb (mEnc intK (tenc v_.empty)), .box b1 118 (vEItem x_)] rfl (o_seq (c_ret ?_))
 cases hF
 refine s_ret0 rfl fun a w hs => fin_sel hs [0, 0, 0, 0, 0, 0] ⟨A7, L7, C7, gh1, A8, L8, C8, gm1, rfl, rfl, rfl⟩ rfl sub_nil
 refine c_skip (sat_wc (cR (oV vM ((fD 1) (oV (vL 0 ty3) (ite_some hF ?_))))))
 intro h4 hF
 refine oV (v_indexAddr_s (xs := (at_ c.g.Rules x_.Rule).Rhs) (enc := eKSym) sl48 rfl rfl (.f 1 rfl) h4) (oV (v_load_s (xs := (at_ c.g.Rules x_.Rule).Rhs) (enc := eKSym) ty47 rfl (.f 1 rfl) h4 rfl rfl rfl rfl rfl rfl rfl) (o_alloc zero47 rfl rfl ?_))
 intro b2
 refine (sT 0 ty47) (o_seq (cR ((fD 0) ?_)))
 refine oV (vL 1 ty3) ((fD 1) (oV (vL 1 ty3) (oV vB ((fD 2) (oV (vL 1 ty3) (oV (vU (.agg #[iI x_.Rule, iI (IntKind.wrap .i64 (x_.Dot + 1)), iI x_.From])) (o_alloc zero118 rfl rfl ?_)))))))
 intro b3
 refine (sT 0 ty118) (o_H [.box b3 118 [iI x_.Rule, iI (IntKind.wrap .i64 (x_.Dot + 1)), iI x_.From], .box b2 47 [iI ((at_ ((at_ c.g.Rules x_.Rule).Rhs) x_.Dot).Nt), iU ((at_ ((at_ c.g.Rules x_.Rule).Rhs) x_.Dot).Set.w0), iU ((at_ ((at_ c.g.Rules x_.Rule).Rhs) x_.Dot).Set.w1), iU ((at_ ((at_ c.g.Rules x_.Rule).Rhs) x_.Dot).Set.w2), iU ((at_ ((at_ c.g.Rules x_.Rule).Rhs) x_.Dot).Set.w3)], .box b1 118 (vEItem x_), .box b 116 [iI c.g.Nts, iI c.g.Start, sl A1 L1 C1, sl A2 L2 C2, sl A3 L3 C3, sl A4 L4 C4, sl A5 L5 C5, .map (some gb)], .row (sl A4 L4 C4) 111 1 (dcells c.sets gh), .fam (dfam 118 3 eEItem c.sets gh), .row (sl A5 L5 C5) 138 1 (mcells c.met gm), .fmp (mfam kEItem c.met gm), .mp gb (mEnc intK (tenc c.empty))] rfl (o_seq (c_seq (cR ((fD 0) (oV (vL 1 ty3) ?_))))))
 refine oV vB (o_seq ?_)
 refine cC hF (fun hF => ?_) (fun hF => ?_)
 refine c_seq (c_seq ?_)
 refine c_cut (fun E N' => ∀ (t64 : Bool), F.earley.chart_step_j1 c j_ x_ t64 = some r → Sat E [(0, pt b), (1, iI j_), (2, .agg (vEItem x_).toArray), (5, pt b1), (6, sl A6 L6 C6), (7, pt b2), (8, pt b3), (64, bV t64)] [.box b3 118 [iI x_.Rule, iI (IntKind.wrap .i64 (x_.Dot + 1)), iI x_.From], .box b2 47 [iI ((at_ ((at_ c.g.Rules x_.Rule).Rhs) x_.Dot).Nt), iU ((at_ ((at_ c.g.Rules x_.Rule).Rhs) x_.Dot).Set.w0), iU ((at_ ((at_ c.g.Rules x_.Rule).Rhs) x_.Dot).Set.w1), iU ((at_ ((at_ c.g.Rules x_.Rule).Rhs) x_.Dot).Set.w2), iU ((at_ ((at_ c.g.Rules x_.Rule).Rhs) x_.Dot).Set.w3)], .box b1 118 (vEItem x_), .box b 116 [iI c.g.Nts, iI c.g.Start, sl A1 L1 C1, sl A2 L2 C2, sl A3 L3 C3, sl A4 L4 C4, sl A5 L5 C5, .map (some gb)], .mp gb (mEnc intK (tenc c.empty)), .row (sl A4 L4 C4) 111 1 (dcells c.sets gh), .fam (dfam 118 3 eEItem c.sets gh), .row (sl A5 L5 C5) 138 1 (mcells c.met gm), .fmp (mfam kEItem c.met gm)] [fS A6 L6 C6 5 eKSym ((at_ c.g.Rules x_.Rule).Rhs), fS A1 L1 C1 2 eRule c.g.Rules, fS A2 L2 C2 1 eU8 c.w_, fS A3 L3 C3 1 (eSl 1 eI64) c.by_] N') (fun N1 hN1 => ?_) ?_
 refine c_draw (n := 19) [0, 0, 0, 0, 0, 0, 0, 0, 0] mixed rfl rfl (dv 0 rfl vM (dv 1 rfl vM (dv 2 rfl vC (dv 3 rfl (vF 3) (dv 4 rfl (vL 3 ty25) (dv 5 rfl (v_lenS (enc := eU8) c.w_ sl25 rfl (.f 3 rfl)) (dv 6 rfl vB (dv 7 rfl vM ?_))))))))
 refine d_split (t := 53) rfl (fun h8 => ?_) (fun h8 => ?_)
 replace hF := ite_t h8 hF
 refine dw 8 rfl rfl rfl (vF 1) (dw 9 rfl rfl rfl (vL 1 ty45) (dw 10 rfl rfl rfl vM (dw 11 rfl rfl rfl vC (dw 12 rfl rfl rfl (vF 3) (dw 13 rfl rfl rfl (vL 3 ty25) (dw 14 rfl rfl rfl vM (ite_some hF ?_)))))))
 intro h9 hF
 refine dw 15 rfl rfl rfl (v_indexAddr_s (xs := c.w_) (enc := eU8) sl25 rfl rfl (.f 3 rfl) h9) (dw 16 rfl rfl rfl (v_load_s (xs := c.w_) (enc := eU8) ty5 rfl (.f 3 rfl) h9 rfl rfl rfl rfl rfl rfl rfl) (dO 17 rfl (oN ?_)))
 obtain ⟨v_2, h10, hF⟩ := bd hF
 refine o_callSB call62 rfl lent_nil (tri62 h10 :) rfl (dN [0, 0, 0, 0, 0, 0, 0, 0, 0] 0 (dv 18 rfl vPt (dD ?_)))
 exact sK [0, 0, 0, 0, 4, 0, 0, 0, 0] [1, 2, 3, 4] (hN1 v_2 hF)
 replace hF := ite_f h8 hF
 refine dF 8 rfl (dF 9 rfl (dF 10 rfl (dF 11 rfl (dF 12 rfl (dF 13 rfl (dF 14 rfl (dF 15 rfl (dF 16 rfl (dF 17 rfl (dv 18 rfl vPf (dD ?_)))))))))))
 exact sK [0, 0, 0, 0, 4, 0, 0, 0, 0] [1, 2, 3, 4] (hN1 false hF)
 intro t64 hF
 unfold F.earley.chart_step_j1 at hF
 refine sat_wc ?_
 refine cC hF (fun hF => ?_) (fun hF => ?_)
 refine c_region (oV vM (oV vM (oV vB (oV (vL 0 ty118) ?_))))
 obtain ⟨v_1, h7, hF⟩ := bd hF
 refine ocl [3, 4, 4, 4, 4] call68 rfl rfl (subs [1, 2, 3] rfl) (tri68 h7 :) ?_
 rintro _ _ _ ⟨A9, L9, C9, gh2, A10, L10, C10, gm2, rfl, rfl, rfl⟩
 refine o_H [.box b 116 [iI c.g.Nts, iI c.g.Start, sl A1 L1 C1, sl A2 L2 C2, sl A3 L3 C3, sl A9 L9 C9, sl A10 L10 C10, .map (some gb)], .row (sl A9 L9 C9) 111 1 (dcells v_1.sets gh2), .fam (dfam 118 3 eEItem v_1.sets gh2), .row (sl A10 L10 C10) 138 1 (mcells v_1.met gm2), .fmp (mfam kEItem v_1.met gm2), .box b3 118 [iI x_.Rule, iI (IntKind.wrap .i64 (x_.Dot + 1)), iI x_.From], .box b2 47 [iI ((at_ ((at_ c.g.Rules x_.Rule).Rhs) x_.Dot).Nt), iU ((at_ ((at_ c.g.Rules x_.Rule).Rhs) x_.Dot).Set.w0), iU ((at_ ((at_ c.g.Rules x_.Rule).Rhs) x_.Dot).Set.w1), iU ((at_ ((at_ c.g.Rules x_.Rule).Rhs) x_.Dot).Set.w2), iU ((at_ ((at_ c.g.Rules x_.Rule).Rhs) x_.Dot).Set.w3)], .box b1 118 (vEItem x_), .mp gb (mEnc intK (tenc c.empty))] rfl (o_seq (c_ret ?_))
 cases hF
 refine s_ret0 rfl fun a w hs => fin_sel hs [0, 0, 0, 0, 0, 3] ⟨A9, L9, C9, gh2, A10, L10, C10, gm2, rfl, rfl, rfl⟩ rfl sub_nil
 refine c_skip (sat_wc (c_ret ?_))
 cases hF
 refine s_ret0 rfl fun a w hs => fin_sel hs [3, 4, 4, 4, 4, 3] ⟨A4, L4, C4, gh, A5, L5, C5, gm, rfl, rfl, rfl⟩ rfl sub_nil
 refine c_skip (sat_wc (c_seq (c_seq (ite_some hF fun h11 hF => c_elem (xs := c.by_) (enc := (eSl 1 eI64)) 4 rfl h11 rfl rfl fun A11 L11 C11 => c_draw (n := 10) [0, 0, 0, 0, 0, 0, 0, 0, 0] mixed rfl rfl (dv 0 rfl vM (dv 1 rfl vC (dv 2 rfl (vF 4) (dv 3 rfl (vL 3 ty87) (dv 4 rfl (vF 0) (dv 5 rfl (vL 1 ty3) (dv 6 rfl (v_indexAddr_s (xs := c.by_) (enc := (eSl 1 eI64)) sl87 rfl rfl (.f 6 rfl) h11) (dv 7 rfl (v_load_cl 0 ty59 rfl rfl rfl rfl rfl) (dv 8 rfl (v_lenS (enc := eI64) (at_ c.by_ ((at_ ((at_ c.g.Rules x_.Rule).Rhs) x_.Dot).Nt)) sl59 rfl (.f 1 rfl)) ?_)))))))))))))
 refine dv 9 rfl vM (d_done_seq (by kernel_rfl) ?_)
 obtain ⟨o2, ho2, hF⟩ := bd hF
 refine c_cut (fun E N' => ∀ (A14 : OA) (L14 C14 : Nat) (gh4 : Nat → H3) (A15 : OA) (L15 C15 : Nat) (gm4 : Nat → Nat), Sat E [(0, pt b), (1, iI j_), (2, .agg (vEItem x_).toArray), (5, pt b1), (6, sl A6 L6 C6), (7, pt b2), (8, pt b3), (77, sl A11 L11 C11)] [.box b3 118 [iI x_.Rule, iI (IntKind.wrap .i64 (x_.Dot + 1)), iI x_.From], .box b2 47 [iI ((at_ ((at_ c.g.Rules x_.Rule).Rhs) x_.Dot).Nt), iU ((at_ ((at_ c.g.Rules x_.Rule).Rhs) x_.Dot).Set.w0), iU ((at_ ((at_ c.g.Rules x_.Rule).Rhs) x_.Dot).Set.w1), iU ((at_ ((at_ c.g.Rules x_.Rule).Rhs) x_.Dot).Set.w2), iU ((at_ ((at_ c.g.Rules x_.Rule).Rhs) x_.Dot).Set.w3)], .box b1 118 (vEItem x_), .box b 116 [iI c.g.Nts, iI c.g.Start, sl A1 L1 C1, sl A2 L2 C2, sl A3 L3 C3, sl A14 L14 C14, sl A15 L15 C15, .map (some gb)], .mp gb (mEnc intK (tenc c.empty)), .row (sl A14 L14 C14) 111 1 (dcells o2.1 gh4), .fam (dfam 118 3 eEItem o2.1 gh4), .row (sl A15 L15 C15) 138 1 (mcells o2.2 gm4), .fmp (mfam kEItem o2.2 gm4)] [fS A6 L6 C6 5 eKSym ((at_ c.g.Rules x_.Rule).Rhs), (sl A11 L11 C11, .slice 1 ((at_ c.by_ ((at_ ((at_ c.g.Rules x_.Rule).Rhs) x_.Dot).Nt)).map eI64)), fS A1 L1 C1 2 eRule c.g.Rules, fS A2 L2 C2 1 eU8 c.w_, fS A3 L3 C3 1 (eSl 1 eI64) c.by_] N') (fun N2 hN2 => ?_) ?_
 refine c_block ?_
 refine c_loopE (fun E j a w => ∃ (t79 : Int) (sets_ : List (List EItem)) (met_ : List (List (EItem × Int))) (A12 : OA) (L12 C12 : Nat) (gh3 : Nat → H3) (A13 : OA) (L13 C13 : Nat) (gm3 : Nat → Nat), F.earley.chart_step_l2 c x_ j_ j t79 sets_ met_ = some o2 ∧ St E [(0, pt b), (1, iI j_), (2, .agg (vEItem x_).toArray), (5, pt b1), (6, sl A6 L6 C6), (7, pt b2), (8, pt b3), (77, sl A11 L11 C11), (78, iI ((at_ c.by_ ((at_ ((at_ c.g.Rules x_.Rule).Rhs) x_.Dot).Nt)).length : Int)), (79, iI t79)] [.box b3 118 [iI x_.Rule, iI (IntKind.wrap .i64 (x_.Dot + 1)), iI x_.From], .box b2 47 [iI ((at_ ((at_ c.g.Rules x_.Rule).Rhs) x_.Dot).Nt), iU ((at_ ((at_ c.g.Rules x_.Rule).Rhs) x_.Dot).Set.w0), iU ((at_ ((at_ c.g.Rules x_.Rule).Rhs) x_.Dot).Set.w1), iU ((at_ ((at_ c.g.Rules x_.Rule).Rhs) x_.Dot).Set.w2), iU ((at_ ((at_ c.g.Rules x_.Rule).Rhs) x_.Dot).Set.w3)], .box b1 118 (vEItem x_), .box b 116 [iI c.g.Nts, iI c.g.Start, sl A1 L1 C1, sl A2 L2 C2, sl A3 L3 C3, sl A12 L12 C12, sl A13 L13 C13, .map (some gb)], .mp gb (mEnc intK (tenc c.empty)), .row (sl A12 L12 C12) 111 1 (dcells sets_ gh3), .fam (dfam 118 3 eEItem sets_ gh3), .row (sl A13 L13 C13) 138 1 (mcells met_ gm3), .fmp (mfam kEItem met_ gm3)] [fS A6 L6 C6 5 eKSym ((at_ c.g.Rules x_.Rule).Rhs), (sl A11 L11 C11, .slice 1 ((at_ c.by_ ((at_ ((at_ c.g.Rules x_.Rule).Rhs) x_.Dot).Nt)).map eI64)), fS A1 L1 C1 2 eRule c.g.Rules, fS A2 L2 C2 1 eU8 c.w_, fS A3 L3 C3 1 (eSl 1 eI64) c.by_] a w) k ?_ ?_
 exact lq [0, 0, 0, 0, 4, 0, 0, 0, 0] [3, 1, 4, 5, 6] fun a w hs => ⟨0, c.sets, c.met, A4, L4, C4, gh, A5, L5, C5, gm, ho2, hs⟩
 rintro j a w ⟨t79, sets_, met_, A12, L12, C12, gh3, A13, L13, C13, gm3, hL2, hs⟩
 rcases j with _ | j
 cases hL2
 refine wc_app hs ?_
 unfold F.earley.chart_step_l2 at hL2
 refine cR (oV vB (o_seq (c_seq ?_)))
 refine cC hL2 (fun hL2 => ?_) (fun hL2 => ?_)
 refine c_skip (sat_wc (c_seq (c_block (cR (ite_some hL2 fun h13 hL2 => oV (v_indexAddr_s (xs := at_ c.by_ ((at_ ((at_ c.g.Rules x_.Rule).Rhs) x_.Dot).Nt)) (enc := eI64) sl59 rfl rfl (.f 1 rfl) h13) (oV (v_load_s (xs := at_ c.by_ ((at_ ((at_ c.g.Rules x_.Rule).Rhs) x_.Dot).Nt)) (enc := eI64) ty3 rfl (.f 1 rfl) h13 rfl rfl rfl rfl rfl rfl rfl) (oV vA (o_seq (c_region (oV vM (oV vM (oV vM (oV vM ?_)))))))))))))
 refine oV (vU (.agg #[iI (at_ (at_ c.by_ ((at_ ((at_ c.g.Rules x_.Rule).Rhs) x_.Dot).Nt)) t79), iI 0, iI j_])) ?_
 obtain ⟨v_3, h14, hL2⟩ := bd hL2
 refine ocl [3, 4, 4, 4, 4] call68 rfl rfl (subs [2, 3, 4] rfl) (tri68 h14 :) ?_
 rintro _ _ _ ⟨A16, L16, C16, gh5, A17, L17, C17, gm5, rfl, rfl, rfl⟩
 refine o_H [.box b 116 [iI c.g.Nts, iI c.g.Start, sl A1 L1 C1, sl A2 L2 C2, sl A3 L3 C3, sl A16 L16 C16, sl A17 L17 C17, .map (some gb)], .row (sl A16 L16 C16) 111 1 (dcells v_3.sets gh5), .fam (dfam 118 3 eEItem v_3.sets gh5), .row (sl A17 L17 C17) 138 1 (mcells v_3.met gm5), .fmp (mfam kEItem v_3.met gm5), .box b3 118 [iI x_.Rule, iI (IntKind.wrap .i64 (x_.Dot + 1)), iI x_.From], .box b2 47 [iI ((at_ ((at_ c.g.Rules x_.Rule).Rhs) x_.Dot).Nt), iU ((at_ ((at_ c.g.Rules x_.Rule).Rhs) x_.Dot).Set.w0), iU ((at_ ((at_ c.g.Rules x_.Rule).Rhs) x_.Dot).Set.w1), iU ((at_ ((at_ c.g.Rules x_.Rule).Rhs) x_.Dot).Set.w2), iU ((at_ ((at_ c.g.Rules x_.Rule).Rhs) x_.Dot).Set.w3)], .box b1 118 (vEItem x_), .mp gb (mEnc intK (tenc c.empty))] rfl (o_nil (sat_wc (c_region (oV vB (oV vM (o_nil ?_))))))
 exact lp [5, 5, 5, 0, 4, 0, 0, 0, 0] [0, 1, 2, 3, 4] fun a w hs => ⟨IntKind.wrap .i64 (t79 + 1), v_3.sets, v_3.met, A16, L16, C16, gh5, A17, L17, C17, gm5, hL2, hs⟩
 refine c_exit0 ?_
 cases hL2
 exact sK [0, 0, 0, 0, 0, 0, 0, 0, 0] [0, 1, 2, 3, 4] (hN2 A12 L12 C12 gh3 A13 L13 C13 gm3)
 intro A14 L14 C14 gh4 A15 L15 C15 gm4
 refine sat_wc (c_seq (c_draw (n := 8) [0, 0, 0, 0, 0, 0, 0, 0, 0] mixed rfl rfl (dv 0 rfl vM (dv 1 rfl vC (dv 2 rfl (vF 7) (dv 3 rfl (vL 3 ty114) (dv 4 rfl (vF 0) (dv 5 rfl (vL 1 ty3) (dv 6 rfl (v_lookT (enc := intK) (eq := intE) (k := (at_ ((at_ c.g.Rules x_.Rule).Rhs) x_.Dot).Nt) (m := c.empty) 4 Try.underlying114 kt3 zero3 rfl rfl rfl) (dv 7 rfl vB (d_done_seq (by kernel_rfl) ?_)))))))))))
 refine cC hF (fun hF => ?_) (fun hF => ?_)
 refine c_region (oV vM (oV vM (oV (vL 0 ty118) ?_)))
 obtain ⟨v_4, h16, hF⟩ := bd hF
 refine ocl [3, 4, 4, 4, 4] call68 rfl rfl (subs [2, 3, 4] rfl) (tri68 h16 :) ?_
 rintro _ _ _ ⟨A18, L18, C18, gh6, A19, L19, C19, gm6, rfl, rfl, rfl⟩
 refine o_H [.box b 116 [iI c.g.Nts, iI c.g.Start, sl A1 L1 C1, sl A2 L2 C2, sl A3 L3 C3, sl A18 L18 C18, sl A19 L19 C19, .map (some gb)], .row (sl A18 L18 C18) 111 1 (dcells v_4.sets gh6), .fam (dfam 118 3 eEItem v_4.sets gh6), .row (sl A19 L19 C19) 138 1 (mcells v_4.met gm6), .fmp (mfam kEItem v_4.met gm6), .box b3 118 [iI x_.Rule, iI (IntKind.wrap .i64 (x_.Dot + 1)), iI x_.From], .box b2 47 [iI ((at_ ((at_ c.g.Rules x_.Rule).Rhs) x_.Dot).Nt), iU ((at_ ((at_ c.g.Rules x_.Rule).Rhs) x_.Dot).Set.w0), iU ((at_ ((at_ c.g.Rules x_.Rule).Rhs) x_.Dot).Set.w1), iU ((at_ ((at_ c.g.Rules x_.Rule).Rhs) x_.Dot).Set.w2), iU ((at_ ((at_ c.g.Rules x_.Rule).Rhs) x_.Dot).Set.w3)], .box b1 118 (vEItem x_), .mp gb (mEnc intK (tenc c.empty))] rfl (o_nil ?_)
 cases hF
 refine s_ret0 rfl fun a w hs => fin_sel hs [0, 0, 0, 0, 0, 3] ⟨A18, L18, C18, gh6, A19, L19, C19, gm6, rfl, rfl, rfl⟩ rfl sub_nil
 refine c_skip ?_
 cases hF
 refine s_ret0 rfl fun a w hs => fin_sel hs [3, 4, 4, 4, 4, 3] ⟨A14, L14, C14, gh4, A15, L15, C15, gm4, rfl, rfl, rfl⟩ rfl sub_nil
theorem tri51 {k : Nat} {g_ : Gram} {w__ : List Int} {r : Earley_chart} (hF : F.earley.open_ k g_ w__ = some r) :
    Tri Try.prog 51 [.agg (vGram g_ A1 L1 C1).toArray, sl A2 L2 C2] [] [fS A1 L1 C1 2 eRule g_.Rules, fS A2 L2 C2 1 eU8 w__] (fun o H Φ => ∃ (gb : Nat) (A36 : OA) (L36 C36 : Nat) (A37 : OA) (L37 C37 : Nat) (A38 : OA) (L38 C38 : Nat) (A39 : OA) (L39 C39 : Nat) (gv2 : Value) (gv3 : Value), o = .ret (pt gb) ∧ H = [.box gb 116 [iI r.g.Nts, iI r.g.Start, sl A36 L36 C36, sl A37 L37 C37, sl A38 L38 C38, sl A39 L39 C39, gv2, gv3]] ∧ Φ = [fS A36 L36 C36 2 eRule r.g.Rules, fS A37 L37 C37 1 eU8 r.w_, fS A38 L38 C38 1 (eSl 1 eI64) r.by_, fS A39 L39 C39 1 (eSl 3 eEItem) r.sets]) := by
 unfold F.earley.open_ at hF
 refine tri_intro (n := 125) Try.func51 rfl Try.ntmps51 rfl fun w X => cR (o_box rfl rfl rfl fun b => oV vA (o_seq (c_seq ?_)))
 refine cT (fun E H Φ N' => ∀ (by__ : List (List Int)) (sets_ : List (List EItem)) (A3 : OA) (L3 C3 : Nat) (gh : Nat → H3) (A4 : OA) (L4 C4 : Nat) (gh1 : Nat → H3) (b1 : Nat), F.earley.open__j1 k g_ w__ by__ sets_ = some r → Sat E [(0, .agg (vGram g_ A1 L1 C1).toArray), (2, pt b), (5, pt b1)] [.box b 24 (vGram g_ A1 L1 C1), .box b1 116 [iI g_.Nts, iI g_.Start, sl A1 L1 C1, sl A2 L2 C2, sl A3 L3 C3, sl A4 L4 C4, nS, .map none], .row (sl A3 L3 C3) 59 1 (dcells by__ gh), .fam (dfam 3 1 eI64 by__ gh), .row (sl A4 L4 C4) 111 1 (dcells sets_ gh1), .fam (dfam 118 3 eEItem sets_ gh1)] Φ N') (fun N8 hN8 => ?_) ?_
 refine c_draw (n := 12) [0] mixed rfl rfl (dv 0 rfl (vL 0 ty24) (dv 1 rfl vM (dv 2 rfl (vF 0) (dv 3 rfl (vL 0 ty3) (dv 5 rfl vM (dv 6 rfl (v_lenS (enc := eU8) w__ sl25 rfl (.f 1 rfl)) (dv 7 rfl vB (ite_some hF ?_))))))))
 intro h18 hF
 refine ite_some hF fun h19 hF => ite_some hF fun h20 hF => ite_some hF fun h21 hF => ite_some hF fun h22 hF => ite_some hF fun h23 hF => ?_
 refine d_all [4, 8] (by kernel_rfl) (by simp) ⟨⟨_, rfl, ?_⟩, ⟨_, rfl, ?_⟩, trivial⟩
 refine o_makeDz (α := Int) eI64 3 1 sl87 zero59 rfl rfl h18 h19 h20 rfl fun A34 L34 C34 => dN [2] 0 (dO 8 rfl (o_makeDz (α := EItem) eEItem 118 3 sl112 zero111 rfl rfl h21 h22 h23 rfl ?_))
 intro A35 L35 C35
 refine dN [4] 0 (dv 9 rfl (v_build (v := .agg #[iI g_.Nts, iI g_.Start, sl A1 L1 C1, sl A2 L2 C2, sl A34 L34 C34, sl A35 L35 C35, nS, .map none]) rfl (fun _ => by kernel_rfl)) (dO 10 rfl (o_box rfl rfl rfl ?_)))
 intro b6
 refine dN [5] 0 (dv 11 rfl vA (dD ?_))
 exact sK [5, 0, 3, 2, 1, 0] [0, 1] (hN8 (List.replicate (Int.toNat g_.Nts) ([] : List Int)) (List.replicate (Int.toNat (IntKind.wrap .i64 ((w__.length : Int) + 1))) ([] : List EItem)) A34 L34 C34 h0 A35 L35 C35 h0 b6 hF)
 refine o_makeDz (α := EItem) eEItem 118 3 sl112 zero111 rfl rfl h21 h22 h23 rfl fun A34 L34 C34 => dN [2] 0 (dO 4 rfl (o_makeDz (α := Int) eI64 3 1 sl87 zero59 rfl rfl h18 h19 h20 rfl ?_))
 intro A35 L35 C35
 refine dN [4] 0 (dv 9 rfl (v_build (v := .agg #[iI g_.Nts, iI g_.Start, sl A1 L1 C1, sl A2 L2 C2, sl A35 L35 C35, sl A34 L34 C34, nS, .map none]) rfl (fun _ => by kernel_rfl)) (dO 10 rfl (o_box rfl rfl rfl ?_)))
 intro b6
 refine dN [5] 0 (dv 11 rfl vA (dD ?_))
 exact sK [5, 0, 1, 0, 1, 0] [0, 1] (hN8 (List.replicate (Int.toNat g_.Nts) ([] : List Int)) (List.replicate (Int.toNat (IntKind.wrap .i64 ((w__.length : Int) + 1))) ([] : List EItem)) A35 L35 C35 h0 A34 L34 C34 h0 b6 hF)
 intro by__ sets_ A3 L3 C3 gh A4 L4 C4 gh1 b1 hF
 unfold F.earley.open__j1 at hF
 refine sat_wc (c_seq (cR ((fD 2) (oV (vL 0 ty22) (oV (v_lenS (enc := eRule) g_.Rules sl22 rfl (.f 0 rfl)) (oV vM (o_seq ?_)))))))
 obtain ⟨o2, ho2, hF⟩ := bd hF
 refine cT (fun E H Φ N' => ∀ (A6 : OA) (L6 C6 : Nat) (gh3 : Nat → H3), Sat E [(0, .agg (vGram g_ A1 L1 C1).toArray), (2, pt b), (5, pt b1), (24, sl A1 L1 C1)] [.box b 24 (vGram g_ A1 L1 C1), .box b1 116 [iI g_.Nts, iI g_.Start, sl A1 L1 C1, sl A2 L2 C2, sl A6 L6 C6, sl A4 L4 C4, nS, .map none], .row (sl A6 L6 C6) 59 1 (dcells o2 gh3), .fam (dfam 3 1 eI64 o2 gh3), .row (sl A4 L4 C4) 111 1 (dcells sets_ gh1), .fam (dfam 118 3 eEItem sets_ gh1)] Φ N') (fun N2 hN2 => ?_) ?_
 refine c_block ?_
 refine cL (fun E H Φ j a w => ∃ (t26 : Int) (by__1 : List (List Int)) (A5 : OA) (L5 C5 : Nat) (gh2 : Nat → H3), F.earley.open__l2 g_ j t26 by__1 = some o2 ∧ St E [(0, .agg (vGram g_ A1 L1 C1).toArray), (2, pt b), (5, pt b1), (24, sl A1 L1 C1), (25, iI (g_.Rules.length : Int)), (26, iI t26)] [.box b 24 (vGram g_ A1 L1 C1), .box b1 116 [iI g_.Nts, iI g_.Start, sl A1 L1 C1, sl A2 L2 C2, sl A5 L5 C5, sl A4 L4 C4, nS, .map none], .row (sl A5 L5 C5) 59 1 (dcells by__1 gh2), .fam (dfam 3 1 eI64 by__1 gh2), .row (sl A4 L4 C4) 111 1 (dcells sets_ gh1), .fam (dfam 118 3 eEItem sets_ gh1)] Φ a w) k ?_ ?_
 exact lq [0, 0, 0, 0, 0, 0] [0, 1] fun a w hs => ⟨0, by__, A3, L3, C3, gh, ho2, hs⟩
 rintro j a w ⟨t26, by__1, A5, L5, C5, gh2, hL2, hs⟩
 rcases j with _ | j
 cases hL2
 refine wc_app hs ?_
 unfold F.earley.open__l2 at hL2
 refine cR (oV vB (o_seq (c_seq ?_)))
 refine cC hL2 (fun hL2 => ?_) (fun hL2 => ?_)
 refine c_skip (sat_wc (c_seq ?_))
 refine c_cut (fun E N' => ∀ (by__2 : List (List Int)) (A7 : OA) (L7 C7 : Nat) (A8 : OA) (L8 C8 : Nat) (gh4 : Nat → H3) (b2 : Nat), F.earley.open__j3 (F.earley.open__l2 g_ j) t26 by__2 = some o2 → Sat E [(0, .agg (vGram g_ A1 L1 C1).toArray), (2, pt b), (5, pt b1), (6, iI t26), (7, pt b2), (24, sl A1 L1 C1), (25, iI (g_.Rules.length : Int)), (26, iI t26)] [.box b 24 (vGram g_ A1 L1 C1), .box b1 116 [iI g_.Nts, iI g_.Start, sl A1 L1 C1, sl A2 L2 C2, sl A8 L8 C8, sl A4 L4 C4, nS, .map none], .box b2 50 [iI ((at_ g_.Rules t26).Lhs), sl A7 L7 C7], .row (sl A8 L8 C8) 59 1 (dcells by__2 gh4), .fam (dfam 3 1 eI64 by__2 gh4), .row (sl A4 L4 C4) 111 1 (dcells sets_ gh1), .fam (dfam 118 3 eEItem sets_ gh1)] [fS A1 L1 C1 2 eRule g_.Rules, fS A2 L2 C2 1 eU8 w__, fS A7 L7 C7 5 eKSym ((at_ g_.Rules t26).Rhs)] N') (fun N3 hN3 => ?_) ?_
 refine c_block (cR (oV vM (ite_some hL2 ?_)))
 intro h2 hL2
 refine oV (v_indexAddr_s (xs := g_.Rules) (enc := eRule) sl22 rfl rfl (.f 0 rfl) h2) (o_load_s (xs := g_.Rules) (enc := eRule) ty50 rfl (.f 0 rfl) h2 rfl rfl rfl rfl rfl rfl ?_)
 intro A9 L9 C9
 refine o_alloc zero50 rfl rfl fun b3 => oV vA ((sT 0 ty50) (o_seq ?_))
 refine c_cut (fun E N' => ∀ (by__3 : List (List Int)) (A10 : OA) (L10 C10 : Nat) (gh5 : Nat → H3), F.earley.open__j4 (F.earley.open__l2 g_ j) t26 by__3 = some o2 → Sat E [(0, .agg (vGram g_ A1 L1 C1).toArray), (2, pt b), (5, pt b1), (6, iI t26), (7, pt b3), (24, sl A1 L1 C1), (25, iI (g_.Rules.length : Int)), (26, iI t26)] [.box b3 50 [iI ((at_ g_.Rules t26).Lhs), sl A9 L9 C9], .box b 24 (vGram g_ A1 L1 C1), .box b1 116 [iI g_.Nts, iI g_.Start, sl A1 L1 C1, sl A2 L2 C2, sl A10 L10 C10, sl A4 L4 C4, nS, .map none], .row (sl A10 L10 C10) 59 1 (dcells by__3 gh5), .fam (dfam 3 1 eI64 by__3 gh5), .row (sl A4 L4 C4) 111 1 (dcells sets_ gh1), .fam (dfam 118 3 eEItem sets_ gh1)] [fS A1 L1 C1 2 eRule g_.Rules, fS A9 L9 C9 5 eKSym ((at_ g_.Rules t26).Rhs), fS A2 L2 C2 1 eU8 w__] N') (fun N4 hN4 => ?_) ?_
 refine c_draw (n := 19) [0, 0, 0, 2, 2] mixed rfl rfl (dv 0 rfl vM (dv 1 rfl vC (dv 2 rfl (vF 4) (dv 3 rfl (vL 2 ty87) (dv 4 rfl (vF 0) (dv 5 rfl (vL 0 ty3) (dv 6 rfl vM (dv 7 rfl vC (dv 8 rfl (vF 4) (dv 9 rfl (vL 2 ty87) (dv 10 rfl (vF 0) (dv 11 rfl (vL 0 ty3) (dv 14 rfl vM (ite_some hL2 ?_))))))))))))))
 intro h3 hL2
 refine ite_some hL2 fun h4 hL2 => ?_
 refine ite_some hL2 fun h5 hL2 => ?_
 refine d_all [12, 15] (by kernel_rfl) (by simp) ⟨⟨_, rfl, ?_⟩, ⟨_, rfl, ?_⟩, trivial⟩
 refine oV (v_indexAddr_d (le := by__1) (hs := gh2) 3 sl87 rfl rfl rfl h3) (dN [0, 0, 0, 2, 2] 0 ?_)
 refine d_all [13, 15] (by kernel_rfl) (by simp) ⟨⟨_, rfl, ?_⟩, ⟨_, rfl, ?_⟩, trivial⟩
 refine oV (v_load_d (le := by__1) (hs := gh2) 3 ty59 rfl rfl h3) (dN [0, 0, 0, 2, 2] 0 (dO 15 rfl (o_buildSlice (enc := eI64) ([t26] : List Int) [iI t26] sl59 rfl (fun _ => by kernel_rfl) rfl rfl rfl (.s rfl (.nil)) rfl ?_)))
 intro A11 L11 C11
 refine dN [1, 1, 1, 3, 3] 0 (dO 16 rfl (o_appendF (enc := eI64) (le := by__1) (ys := ([t26] : List Int)) (hs := gh2) 5 sl59 rfl rfl rfl h3 0 rfl h4 h5 rfl ?_))
 intro A12 L12 C12
 refine o_H [rW A11 L11 C11 3 1 eI64 ([t26] : List Int), .box b3 50 [iI ((at_ g_.Rules t26).Lhs), sl A9 L9 C9], .box b 24 (vGram g_ A1 L1 C1), .box b1 116 [iI g_.Nts, iI g_.Start, sl A1 L1 C1, sl A2 L2 C2, sl A5 L5 C5, sl A4 L4 C4, nS, .map none], .row (sl A5 L5 C5) 59 1 (dcells by__1 gh2), .fam (dfam 3 1 eI64 (set_ by__1 ((at_ g_.Rules t26).Lhs) ((at_ by__1 ((at_ g_.Rules t26).Lhs)) ++ ([t26] : List Int))) (upd gh2 ((at_ g_.Rules t26).Lhs) (A12, L12, C12))), .row (sl A4 L4 C4) 111 1 (dcells sets_ gh1), .fam (dfam 118 3 eEItem sets_ gh1)] rfl (dN [1, 1, 1, 3, 3] 0 (dO 17 rfl (oV (v_indexAddr_d (le := by__1) (hs := gh2) 4 sl87 rfl rfl rfl h3) (dN [1, 1, 1, 3, 3] 0 (dO 18 rfl (o_store_d (le := by__1) (hs := gh2) (set_ by__1 ((at_ g_.Rules t26).Lhs) ((at_ by__1 ((at_ g_.Rules t26).Lhs)) ++ ([t26] : List Int))) 4 (set_len _ _ _) rfl ty59 rfl rfl rfl h3 (o_H [rW A11 L11 C11 3 1 eI64 ([t26] : List Int), .box b3 50 [iI ((at_ g_.Rules t26).Lhs), sl A9 L9 C9], .box b 24 (vGram g_ A1 L1 C1), .box b1 116 [iI g_.Nts, iI g_.Start, sl A1 L1 C1, sl A2 L2 C2, sl A5 L5 C5, sl A4 L4 C4, nS, .map none], .row (sl A5 L5 C5) 59 1 (dcells (set_ by__1 ((at_ g_.Rules t26).Lhs) ((at_ by__1 ((at_ g_.Rules t26).Lhs)) ++ ([t26] : List Int))) (upd gh2 ((at_ g_.Rules t26).Lhs) (A12, L12, C12))), .fam (dfam 3 1 eI64 (set_ by__1 ((at_ g_.Rules t26).Lhs) ((at_ by__1 ((at_ g_.Rules t26).Lhs)) ++ ([t26] : List Int))) (upd gh2 ((at_ g_.Rules t26).Lhs) (A12, L12, C12))), .row (sl A4 L4 C4) 111 1 (dcells sets_ gh1), .fam (dfam 118 3 eEItem sets_ gh1)] rfl (dN [1, 1, 1, 3, 3] 0 ?_))))))))
 refine dD ?_
 exact sK [1, 1, 1, 1, 1, 1, 1] [1, 0, 2] (hN4 (set_ by__1 ((at_ g_.Rules t26).Lhs) ((at_ by__1 ((at_ g_.Rules t26).Lhs)) ++ ([t26] : List Int))) A5 L5 C5 (upd gh2 ((at_ g_.Rules t26).Lhs) (A12, L12, C12)) hL2)
 refine o_buildSlice (enc := eI64) ([t26] : List Int) [iI t26] sl59 rfl (fun _ => by kernel_rfl) rfl rfl rfl (.s rfl (.nil)) rfl fun A11 L11 C11 => dN [1, 1, 1, 3, 3] 0 (dO 13 rfl (oV (v_load_d (le := by__1) (hs := gh2) 4 ty59 rfl rfl h3) (dN [1, 1, 1, 3, 3] 0 (dO 16 rfl (o_appendF (enc := eI64) (le := by__1) (ys := ([t26] : List Int)) (hs := gh2) 5 sl59 rfl rfl rfl h3 0 rfl h4 h5 rfl ?_)))))
 intro A12 L12 C12
 refine o_H [rW A11 L11 C11 3 1 eI64 ([t26] : List Int), .box b3 50 [iI ((at_ g_.Rules t26).Lhs), sl A9 L9 C9], .box b 24 (vGram g_ A1 L1 C1), .box b1 116 [iI g_.Nts, iI g_.Start, sl A1 L1 C1, sl A2 L2 C2, sl A5 L5 C5, sl A4 L4 C4, nS, .map none], .row (sl A5 L5 C5) 59 1 (dcells by__1 gh2), .fam (dfam 3 1 eI64 (set_ by__1 ((at_ g_.Rules t26).Lhs) ((at_ by__1 ((at_ g_.Rules t26).Lhs)) ++ ([t26] : List Int))) (upd gh2 ((at_ g_.Rules t26).Lhs) (A12, L12, C12))), .row (sl A4 L4 C4) 111 1 (dcells sets_ gh1), .fam (dfam 118 3 eEItem sets_ gh1)] rfl (dN [1, 1, 1, 3, 3] 0 (dO 17 rfl (oV (v_indexAddr_d (le := by__1) (hs := gh2) 4 sl87 rfl rfl rfl h3) (dN [1, 1, 1, 3, 3] 0 (dO 18 rfl (o_store_d (le := by__1) (hs := gh2) (set_ by__1 ((at_ g_.Rules t26).Lhs) ((at_ by__1 ((at_ g_.Rules t26).Lhs)) ++ ([t26] : List Int))) 4 (set_len _ _ _) rfl ty59 rfl rfl rfl h3 (o_H [rW A11 L11 C11 3 1 eI64 ([t26] : List Int), .box b3 50 [iI ((at_ g_.Rules t26).Lhs), sl A9 L9 C9], .box b 24 (vGram g_ A1 L1 C1), .box b1 116 [iI g_.Nts, iI g_.Start, sl A1 L1 C1, sl A2 L2 C2, sl A5 L5 C5, sl A4 L4 C4, nS, .map none], .row (sl A5 L5 C5) 59 1 (dcells (set_ by__1 ((at_ g_.Rules t26).Lhs) ((at_ by__1 ((at_ g_.Rules t26).Lhs)) ++ ([t26] : List Int))) (upd gh2 ((at_ g_.Rules t26).Lhs) (A12, L12, C12))), .fam (dfam 3 1 eI64 (set_ by__1 ((at_ g_.Rules t26).Lhs) ((at_ by__1 ((at_ g_.Rules t26).Lhs)) ++ ([t26] : List Int))) (upd gh2 ((at_ g_.Rules t26).Lhs) (A12, L12, C12))), .row (sl A4 L4 C4) 111 1 (dcells sets_ gh1), .fam (dfam 118 3 eEItem sets_ gh1)] rfl (dN [1, 1, 1, 3, 3] 0 ?_))))))))
 refine dD ?_
 exact sK [1, 1, 1, 1, 1, 1, 1] [1, 0, 2] (hN4 (set_ by__1 ((at_ g_.Rules t26).Lhs) ((at_ by__1 ((at_ g_.Rules t26).Lhs)) ++ ([t26] : List Int))) A5 L5 C5 (upd gh2 ((at_ g_.Rules t26).Lhs) (A12, L12, C12)) hL2)
 refine o_buildSlice (enc := eI64) ([t26] : List Int) [iI t26] sl59 rfl (fun _ => by kernel_rfl) rfl rfl rfl (.s rfl (.nil)) rfl fun A11 L11 C11 => dN [1, 1, 1, 3, 3] 0 (dO 12 rfl (oV (v_indexAddr_d (le := by__1) (hs := gh2) 4 sl87 rfl rfl rfl h3) (dN [1, 1, 1, 3, 3] 0 (dO 13 rfl (oV (v_load_d (le := by__1) (hs := gh2) 4 ty59 rfl rfl h3) (dN [1, 1, 1, 3, 3] 0 (dO 16 rfl (o_appendF (enc := eI64) (le := by__1) (ys := ([t26] : List Int)) (hs := gh2) 5 sl59 rfl rfl rfl h3 0 rfl h4 h5 rfl ?_))))))))
 intro A12 L12 C12
 refine o_H [rW A11 L11 C11 3 1 eI64 ([t26] : List Int), .box b3 50 [iI ((at_ g_.Rules t26).Lhs), sl A9 L9 C9], .box b 24 (vGram g_ A1 L1 C1), .box b1 116 [iI g_.Nts, iI g_.Start, sl A1 L1 C1, sl A2 L2 C2, sl A5 L5 C5, sl A4 L4 C4, nS, .map none], .row (sl A5 L5 C5) 59 1 (dcells by__1 gh2), .fam (dfam 3 1 eI64 (set_ by__1 ((at_ g_.Rules t26).Lhs) ((at_ by__1 ((at_ g_.Rules t26).Lhs)) ++ ([t26] : List Int))) (upd gh2 ((at_ g_.Rules t26).Lhs) (A12, L12, C12))), .row (sl A4 L4 C4) 111 1 (dcells sets_ gh1), .fam (dfam 118 3 eEItem sets_ gh1)] rfl (dN [1, 1, 1, 3, 3] 0 (dO 17 rfl (oV (v_indexAddr_d (le := by__1) (hs := gh2) 4 sl87 rfl rfl rfl h3) (dN [1, 1, 1, 3, 3] 0 (dO 18 rfl ?_)))))
 refine o_store_d (le := by__1) (hs := gh2) (set_ by__1 ((at_ g_.Rules t26).Lhs) ((at_ by__1 ((at_ g_.Rules t26).Lhs)) ++ ([t26] : List Int))) 4 (set_len _ _ _) rfl ty59 rfl rfl rfl h3 (o_H [rW A11 L11 C11 3 1 eI64 ([t26] : List Int), .box b3 50 [iI ((at_ g_.Rules t26).Lhs), sl A9 L9 C9], .box b 24 (vGram g_ A1 L1 C1), .box b1 116 [iI g_.Nts, iI g_.Start, sl A1 L1 C1, sl A2 L2 C2, sl A5 L5 C5, sl A4 L4 C4, nS, .map none], .row (sl A5 L5 C5) 59 1 (dcells (set_ by__1 ((at_ g_.Rules t26).Lhs) ((at_ by__1 ((at_ g_.Rules t26).Lhs)) ++ ([t26] : List Int))) (upd gh2 ((at_ g_.Rules t26).Lhs) (A12, L12, C12))), .fam (dfam 3 1 eI64 (set_ by__1 ((at_ g_.Rules t26).Lhs) ((at_ by__1 ((at_ g_.Rules t26).Lhs)) ++ ([t26] : List Int))) (upd gh2 ((at_ g_.Rules t26).Lhs) (A12, L12, C12))), .row (sl A4 L4 C4) 111 1 (dcells sets_ gh1), .fam (dfam 118 3 eEItem sets_ gh1)] rfl (dN [1, 1, 1, 3, 3] 0 (dD ?_)))
 exact sK [1, 1, 1, 1, 1, 1, 1] [1, 0, 2] (hN4 (set_ by__1 ((at_ g_.Rules t26).Lhs) ((at_ by__1 ((at_ g_.Rules t26).Lhs)) ++ ([t26] : List Int))) A5 L5 C5 (upd gh2 ((at_ g_.Rules t26).Lhs) (A12, L12, C12)) hL2)
 intro by__3 A10 L10 C10 gh5 hL2
 unfold F.earley.open__j4 at hL2
 exact sK [1, 1, 0, 0, 0, 0, 0] [0, 2, 1] (hN3 by__3 A9 L9 C9 A10 L10 C10 gh5 b3 hL2)
 intro by__2 A7 L7 C7 A8 L8 C8 gh4 b2 hL2
 unfold F.earley.open__j3 at hL2
 refine sat_wc (c_region (oV vB (oV vM (o_nil ?_))))
 exact lp [0, 0, 1, 1, 1, 1] [0, 1] fun a w hs => ⟨IntKind.wrap .i64 (t26 + 1), by__2, A8, L8, C8, gh4, hL2, hs⟩
 refine c_exit0 ?_
 cases hL2
 exact sK [0, 0, 0, 0, 0, 0] [0, 1] (hN2 A5 L5 C5 gh2)
 intro A6 L6 C6 gh3
 refine sat_wc (c_seq (cR (oV vM (oV vC ((fD 5) (oV (vL 1 ty112) (oV (v_lenD (le := sets_) (hs := gh1) 4 sl112 rfl rfl) (oV vM (o_seq ?_)))))))))
 obtain ⟨o5, ho5, hF⟩ := bd hF
 refine cT (fun E H Φ N' => ∀ (A14 : OA) (L14 C14 : Nat) (gm1 : Nat → Nat), Sat E [(0, .agg (vGram g_ A1 L1 C1).toArray), (2, pt b), (5, pt b1), (24, sl A1 L1 C1)] [.box b 24 (vGram g_ A1 L1 C1), .box b1 116 [iI g_.Nts, iI g_.Start, sl A1 L1 C1, sl A2 L2 C2, sl A6 L6 C6, sl A4 L4 C4, sl A14 L14 C14, .map none], .row (sl A6 L6 C6) 59 1 (dcells o2 gh3), .fam (dfam 3 1 eI64 o2 gh3), .row (sl A4 L4 C4) 111 1 (dcells sets_ gh1), .fam (dfam 118 3 eEItem sets_ gh1), .row (sl A14 L14 C14) 138 1 (mcells o5 gm1), .fmp (mfam kEItem o5 gm1)] Φ N') (fun N5 hN5 => ?_) ?_
 refine c_block ?_
 refine cL (fun E H Φ j a w => ∃ (t55 : Int) (met_ : List (List (EItem × Int))) (A13 : OA) (L13 C13 : Nat) (gm : Nat → Nat), F.earley.open__l5 sets_ j t55 met_ = some o5 ∧ St E [(0, .agg (vGram g_ A1 L1 C1).toArray), (2, pt b), (5, pt b1), (24, sl A1 L1 C1), (54, iI (sets_.length : Int)), (55, iI t55)] [.box b 24 (vGram g_ A1 L1 C1), .box b1 116 [iI g_.Nts, iI g_.Start, sl A1 L1 C1, sl A2 L2 C2, sl A6 L6 C6, sl A4 L4 C4, sl A13 L13 C13, .map none], .row (sl A6 L6 C6) 59 1 (dcells o2 gh3), .fam (dfam 3 1 eI64 o2 gh3), .row (sl A4 L4 C4) 111 1 (dcells sets_ gh1), .fam (dfam 118 3 eEItem sets_ gh1), .row (sl A13 L13 C13) 138 1 (mcells met_ gm), .fmp (mfam kEItem met_ gm)] Φ a w) k ?_ ?_
 refine s_st (st_nilrow 138 1) (s_st (st_nilfmp) ?_)
 exact lq [2, 2, 2, 2, 2, 2, 1, 0] [0, 1] fun a w hs => ⟨0, ([] : List (List (EItem × Int))), none, 0, 0, m0, ho5, hs⟩
 rintro j a w ⟨t55, met_, A13, L13, C13, gm, hL5, hs⟩
 rcases j with _ | j
 cases hL5
 refine wc_app hs ?_
 unfold F.earley.open__l5 at hL5
 refine cR (oV vB (o_seq (c_seq ?_)))
 refine cC hL5 (fun hL5 => ?_) (fun hL5 => ?_)
 refine c_skip (sat_wc (c_seq (c_block (c_region (oV vM (oV vM (oV vC ((fD 6) (oV (vL 1 ty113) (o_makeMap rfl ?_))))))))))
 intro b4
 refine o_buildSlice (enc := id) ([[Dc.mp b4]] : List (List Dc)) [.map (some b4)] sl113 rfl (fun _ => by kernel_rfl) rfl rfl rfl (.s rfl .nil) rfl fun A15 L15 C15 => ite_some hL5 fun h7 hL5 => ite_some hL5 fun h8 hL5 => o_appendM (enc := kEItem) (le := met_) (ms := gm) ([] : List (EItem × Int)) 8 0 sl113 rfl rfl rfl rfl h7 h8 rfl 1 8 rfl rfl 7 rfl (fun _ => rfl) (by decide) fun A16 L16 C16 => oV vC ?_
 refine (fD 6) ((sT 2 ty113) (o_nil (sat_wc (c_region (oV vB (oV vM (o_nil ?_)))))))
 exact lp [1, 1, 1, 1, 1, 1, 1, 1] [0, 1] fun a w hs => ⟨IntKind.wrap .i64 (t55 + 1), (met_ ++ [([] : List (EItem × Int))]), A16, L16, C16, (upd gm (met_.length : Int) b4), hL5, hs⟩
 refine c_exit0 ?_
 cases hL5
 exact sK [0, 0, 0, 0, 0, 0, 0, 0] [0, 1] (hN5 A13 L13 C13 gm)
 intro A14 L14 C14 gm1
 refine sat_wc (c_seq (c_seq (c_draw (n := 10) [0, 3, 3, 3, 3] mixed rfl rfl (dv 0 rfl vM (dv 1 rfl vC (dv 2 rfl (vF 4) (dv 4 rfl (vF 1) (dv 5 rfl (vL 0 ty3) (dv 9 rfl vM (dO 3 rfl (oV (vL 1 ty87) (dN [0, 3, 3, 3, 3] 0 (dO 6 rfl (ite_some hF ?_))))))))))))))
 intro h9 hF
 refine oV (v_indexAddr_d (le := o2) (hs := gh3) 2 sl87 rfl rfl rfl h9) ?_
 refine dN [0, 3, 3, 3, 3] 0 (dO 7 rfl (o_st (st_freezeD 3 2 rfl rfl) (o_load_s (xs := o2) (enc := (eSl 1 eI64)) ty59 rfl (.f 0 rfl) h9 rfl rfl rfl rfl rfl rfl ?_)))
 intro A17 L17 C17
 refine dN [0, 1, 1, 1, 1] 2 (dO 8 rfl (oV (v_lenS (enc := eI64) (at_ o2 g_.Start) sl59 rfl (.f 0 rfl)) (dN [0, 1, 1, 1, 1] 2 (d_done_seq (by kernel_rfl) ?_))))
 obtain ⟨o6, ho6, hF⟩ := bd hF
 refine c_cut (fun E N' => ∀ (A20 : OA) (L20 C20 : Nat) (gh7 : Nat → H3) (A21 : OA) (L21 C21 : Nat) (gm3 : Nat → Nat), Sat E [(0, .agg (vGram g_ A1 L1 C1).toArray), (2, pt b), (5, pt b1), (24, sl A1 L1 C1), (75, sl A17 L17 C17)] [.box b 24 (vGram g_ A1 L1 C1), .box b1 116 [iI g_.Nts, iI g_.Start, sl A1 L1 C1, sl A2 L2 C2, sl A6 L6 C6, sl A20 L20 C20, sl A21 L21 C21, .map none], .row (sl A20 L20 C20) 111 1 (dcells o6.1 gh7), .fam (dfam 118 3 eEItem o6.1 gh7), .row (sl A21 L21 C21) 138 1 (mcells o6.2 gm3), .fmp (mfam kEItem o6.2 gm3)] [fS A1 L1 C1 2 eRule g_.Rules, fS A17 L17 C17 1 eI64 (at_ o2 g_.Start), fS A2 L2 C2 1 eU8 w__, fS A6 L6 C6 1 (eSl 1 eI64) o2] N') (fun N6 hN6 => ?_) ?_
 refine c_block ?_
 refine c_loopE (fun E j a w => ∃ (t77 : Int) (sets_1 : List (List EItem)) (met_1 : List (List (EItem × Int))) (A18 : OA) (L18 C18 : Nat) (gh6 : Nat → H3) (A19 : OA) (L19 C19 : Nat) (gm2 : Nat → Nat), F.earley.open__l6 o2 g_ w__ j t77 sets_1 met_1 = some o6 ∧ St E [(0, .agg (vGram g_ A1 L1 C1).toArray), (2, pt b), (5, pt b1), (24, sl A1 L1 C1), (75, sl A17 L17 C17), (76, iI ((at_ o2 g_.Start).length : Int)), (77, iI t77)] [.box b 24 (vGram g_ A1 L1 C1), .box b1 116 [iI g_.Nts, iI g_.Start, sl A1 L1 C1, sl A2 L2 C2, sl A6 L6 C6, sl A18 L18 C18, sl A19 L19 C19, .map none], .row (sl A18 L18 C18) 111 1 (dcells sets_1 gh6), .fam (dfam 118 3 eEItem sets_1 gh6), .row (sl A19 L19 C19) 138 1 (mcells met_1 gm2), .fmp (mfam kEItem met_1 gm2)] [fS A1 L1 C1 2 eRule g_.Rules, fS A17 L17 C17 1 eI64 (at_ o2 g_.Start), fS A2 L2 C2 1 eU8 w__, fS A6 L6 C6 1 (eSl 1 eI64) o2] a w) k ?_ ?_
 exact lq [0, 0, 0, 0, 0, 0] [2, 0, 3, 1] fun a w hs => ⟨0, sets_, o5, A4, L4, C4, gh1, A14, L14, C14, gm1, ho6, hs⟩
 rintro j a w ⟨t77, sets_1, met_1, A18, L18, C18, gh6, A19, L19, C19, gm2, hL6, hs⟩
 rcases j with _ | j
 cases hL6
 refine wc_app hs ?_
 unfold F.earley.open__l6 at hL6
 refine cR (oV vB (o_seq (c_seq ?_)))
 refine cC hL6 (fun hL6 => ?_) (fun hL6 => ?_)
 refine c_skip (sat_wc (c_seq (c_block (cR (ite_some hL6 fun h11 hL6 => oV (v_indexAddr_s (xs := at_ o2 g_.Start) (enc := eI64) sl59 rfl rfl (.f 1 rfl) h11) (oV (v_load_s (xs := at_ o2 g_.Start) (enc := eI64) ty3 rfl (.f 1 rfl) h11 rfl rfl rfl rfl rfl rfl rfl) (oV vA (o_seq (c_region (oV vM (oV vM (oV (vU (.agg #[iI (at_ (at_ o2 g_.Start) t77), iI 0, iI 0])) ?_))))))))))))
 obtain ⟨v_, h12, hL6⟩ := bd hL6
 refine ocl [1, 1, 1, 1, 1] call68 rfl rfl (subs [0, 2, 3] rfl) (tri68 h12 :) ?_
 rintro _ _ _ ⟨A22, L22, C22, gh8, A23, L23, C23, gm4, rfl, rfl, rfl⟩
 refine o_H [.box b1 116 [iI g_.Nts, iI g_.Start, sl A1 L1 C1, sl A2 L2 C2, sl A6 L6 C6, sl A22 L22 C22, sl A23 L23 C23, .map none], .row (sl A22 L22 C22) 111 1 (dcells v_.sets gh8), .fam (dfam 118 3 eEItem v_.sets gh8), .row (sl A23 L23 C23) 138 1 (mcells v_.met gm4), .fmp (mfam kEItem v_.met gm4), .box b 24 (vGram g_ A1 L1 C1)] rfl (o_nil (sat_wc (c_region (oV vB (oV vM (o_nil ?_))))))
 exact lp [5, 0, 0, 0, 0, 0] [0, 1, 2, 3] fun a w hs => ⟨IntKind.wrap .i64 (t77 + 1), v_.sets, v_.met, A22, L22, C22, gh8, A23, L23, C23, gm4, hL6, hs⟩
 refine c_exit0 ?_
 cases hL6
 exact sK [0, 0, 0, 0, 0, 0] [0, 1, 2, 3] (hN6 A18 L18 C18 gh6 A19 L19 C19 gm2)
 intro A20 L20 C20 gh7 A21 L21 C21 gm3
 refine sat_wc (c_seq (cR (oV vM (oV vC ((fD 5) (oV (vL 1 ty112) (oV (v_lenD (le := o6.1) (hs := gh7) 2 sl112 rfl rfl) (oV vM (o_seq ?_)))))))))
 obtain ⟨o7, ho7, hF⟩ := bd hF
 refine cT (fun E H Φ N' => ∀ (A26 : OA) (L26 C26 : Nat) (gh10 : Nat → H3) (A27 : OA) (L27 C27 : Nat) (gm6 : Nat → Nat) (gv1 : Value), Sat E [(0, .agg (vGram g_ A1 L1 C1).toArray), (2, pt b), (5, pt b1), (24, sl A1 L1 C1), (75, sl A17 L17 C17)] [.box b 24 (vGram g_ A1 L1 C1), .box b1 116 [iI g_.Nts, iI g_.Start, sl A1 L1 C1, sl A2 L2 C2, sl A6 L6 C6, sl A26 L26 C26, sl A27 L27 C27, gv1], .row (sl A26 L26 C26) 111 1 (dcells o7.1 gh10), .fam (dfam 118 3 eEItem o7.1 gh10), .row (sl A27 L27 C27) 138 1 (mcells o7.2 gm6), .fmp (mfam kEItem o7.2 gm6)] Φ N') (fun N7 hN7 => ?_) ?_
 refine c_block ?_
 refine cL (fun E H Φ j a w => ∃ (t91 : Int) (sets_2 : List (List EItem)) (met_2 : List (List (EItem × Int))) (A24 : OA) (L24 C24 : Nat) (gh9 : Nat → H3) (A25 : OA) (L25 C25 : Nat) (gm5 : Nat → Nat) (gv : Value), F.earley.open__l7 k o6 g_ w__ o2 j t91 sets_2 met_2 = some o7 ∧ St E [(0, .agg (vGram g_ A1 L1 C1).toArray), (2, pt b), (5, pt b1), (24, sl A1 L1 C1), (75, sl A17 L17 C17), (90, iI (o6.1.length : Int)), (91, iI t91)] [.box b 24 (vGram g_ A1 L1 C1), .box b1 116 [iI g_.Nts, iI g_.Start, sl A1 L1 C1, sl A2 L2 C2, sl A6 L6 C6, sl A24 L24 C24, sl A25 L25 C25, gv], .row (sl A24 L24 C24) 111 1 (dcells sets_2 gh9), .fam (dfam 118 3 eEItem sets_2 gh9), .row (sl A25 L25 C25) 138 1 (mcells met_2 gm5), .fmp (mfam kEItem met_2 gm5)] Φ a w) k ?_ ?_
 exact lq [0, 0, 0, 0, 0, 0] [0, 1, 2, 3] fun a w hs => ⟨0, o6.1, o6.2, A20, L20, C20, gh7, A21, L21, C21, gm3, (.map none), ho7, hs⟩
 rintro j a w ⟨t91, sets_2, met_2, A24, L24, C24, gh9, A25, L25, C25, gm5, gv, hL7, hs⟩
 rcases j with _ | j
 cases hL7
 refine wc_app hs ?_
 unfold F.earley.open__l7 at hL7
 refine cR (oV vB (o_seq (c_seq ?_)))
 refine cC hL7 (fun hL7 => ?_) (fun hL7 => ?_)
 refine c_skip (sat_wc (c_seq (c_block (cR (oV vM (oV vA (o_seq (cR (oV vM (o_makeMap rfl ?_))))))))))
 intro b5
 refine oV vC ((fD 7) ((sT 2 ty114) ?_))
 refine o_seq (cR (oV vA (o_seq ?_)))
 obtain ⟨o8, ho8, hL7⟩ := bd hL7
 refine cT (fun E H Φ N' => ∀ (A30 : OA) (L30 C30 : Nat) (gh12 : Nat → H3) (A31 : OA) (L31 C31 : Nat) (gm8 : Nat → Nat), Sat E [(0, .agg (vGram g_ A1 L1 C1).toArray), (2, pt b), (5, pt b1), (10, iI t91), (11, iI o8.1), (24, sl A1 L1 C1), (75, sl A17 L17 C17), (90, iI (o6.1.length : Int)), (91, iI t91)] [.mp b5 (mEnc intK (tenc o8.2.2.2)), .box b 24 (vGram g_ A1 L1 C1), .box b1 116 [iI g_.Nts, iI g_.Start, sl A1 L1 C1, sl A2 L2 C2, sl A6 L6 C6, sl A30 L30 C30, sl A31 L31 C31, .map (some b5)], .row (sl A30 L30 C30) 111 1 (dcells o8.2.1 gh12), .fam (dfam 118 3 eEItem o8.2.1 gh12), .row (sl A31 L31 C31) 138 1 (mcells o8.2.2.1 gm8), .fmp (mfam kEItem o8.2.2.1 gm8)] Φ N') (fun N8 hN8 => ?_) ?_
 refine c_block ?_
 refine cL (fun E H Φ j a w => ∃ (i : Int) (sets_3 : List (List EItem)) (met_3 : List (List (EItem × Int))) (v_1 : List (Int × Int)) (A28 : OA) (L28 C28 : Nat) (gh11 : Nat → H3) (A29 : OA) (L29 C29 : Nat) (gm7 : Nat → Nat), F.earley.open__l8 k t91 g_ w__ o2 j i sets_3 met_3 v_1 = some o8 ∧ St E [(0, .agg (vGram g_ A1 L1 C1).toArray), (2, pt b), (5, pt b1), (10, iI t91), (11, iI i), (24, sl A1 L1 C1), (75, sl A17 L17 C17), (90, iI (o6.1.length : Int)), (91, iI t91)] [.mp b5 (mEnc intK (tenc v_1)), .box b 24 (vGram g_ A1 L1 C1), .box b1 116 [iI g_.Nts, iI g_.Start, sl A1 L1 C1, sl A2 L2 C2, sl A6 L6 C6, sl A28 L28 C28, sl A29 L29 C29, .map (some b5)], .row (sl A28 L28 C28) 111 1 (dcells sets_3 gh11), .fam (dfam 118 3 eEItem sets_3 gh11), .row (sl A29 L29 C29) 138 1 (mcells met_3 gm7), .fmp (mfam kEItem met_3 gm7)] Φ a w) k ?_ ?_
 exact lq [0, 0, 0, 0, 0, 0, 0] [0, 1, 2, 3] fun a w hs => ⟨0, sets_2, met_2, ([] : List (Int × Int)), A24, L24, C24, gh9, A25, L25, C25, gm5, ho8, hs⟩
 rintro j a w ⟨i, sets_3, met_3, v_1, A28, L28, C28, gh11, A29, L29, C29, gm7, hL8, hs⟩
 rcases j with _ | j
 cases hL8
 refine wc_app hs ?_
 unfold F.earley.open__l8 at hL8
 refine c_seq (cR (oV vM (oV vM (oV vC ((fD 5) (oV (vL 2 ty112) (oV vM (ite_some hL8 ?_))))))))
 intro h14 hL8
 refine oV (v_indexAddr_d (le := sets_3) (hs := gh11) 3 sl112 rfl rfl rfl h14) (oV (v_load_d (le := sets_3) (hs := gh11) 3 ty111 rfl rfl h14) (oV (v_lenS (enc := eEItem) (at_ sets_3 t91) sl111 rfl (.m 4 _ _ rfl (dfam_get h14))) (oV vB (o_seq ?_))))
 refine cC hL8 (fun hL8 => ?_) (fun hL8 => ?_)
 refine c_skip (sat_wc (c_seq (c_block (c_region (oV vM (oV vM (oV vM (oV vC ((fD 5) (oV (vL 2 ty112) (oV vM (oV (v_indexAddr_d (le := sets_3) (hs := gh11) 3 sl112 rfl rfl rfl h14) (oV (v_load_d (le := sets_3) (hs := gh11) 3 ty111 rfl rfl h14) (oV vM (ite_some hL8 ?_)))))))))))))))
 intro h16 hL8
 refine ?_
 refine oV (v_indexAddr_s (xs := (at_ sets_3 t91)) (enc := eEItem) sl111 rfl rfl (.m 4 _ _ rfl (dfam_get h14)) h16) (oV (v_load_s (xs := (at_ sets_3 t91)) (enc := eEItem) ty118 rfl (.m 4 _ _ rfl (dfam_get h14)) h16 rfl rfl rfl rfl rfl rfl rfl) ?_)
 obtain ⟨v_2, h17, hL8⟩ := bd hL8
 refine ocl [2, 2, 2, 2, 2, 0] call69 rfl rfl (subs [0, 2, 3] rfl) (tri69 h17 :) ?_
 rintro _ _ _ ⟨A32, L32, C32, gh13, A33, L33, C33, gm9, rfl, rfl, rfl⟩
 refine o_H [.box b1 116 [iI g_.Nts, iI g_.Start, sl A1 L1 C1, sl A2 L2 C2, sl A6 L6 C6, sl A32 L32 C32, sl A33 L33 C33, .map (some b5)], .row (sl A32 L32 C32) 111 1 (dcells v_2.sets gh13), .fam (dfam 118 3 eEItem v_2.sets gh13), .row (sl A33 L33 C33) 138 1 (mcells v_2.met gm9), .fmp (mfam kEItem v_2.met gm9), .mp b5 (mEnc intK (tenc v_2.empty)), .box b 24 (vGram g_ A1 L1 C1)] rfl (o_nil (sat_wc (c_region (oV vM (oV vB (oV vA (o_nil ?_)))))))
 exact lp [5, 5, 0, 0, 0, 0, 0] [0, 1, 2, 3] fun a w hs => ⟨IntKind.wrap .i64 (i + 1), v_2.sets, v_2.met, v_2.empty, A32, L32, C32, gh13, A33, L33, C33, gm9, hL8, hs⟩
 refine c_exit0 ?_
 cases hL8
 exact sK [0, 0, 0, 0, 0, 0, 0] [0, 1, 2, 3] (hN8 A28 L28 C28 gh11 A29 L29 C29 gm7)
 intro A30 L30 C30 gh12 A31 L31 C31 gm8
 refine sat_wc (c_region (oV vB (oV vM (o_nil ?_))))
 exact lp [1, 1, 1, 1, 1, 1] [0, 1, 2, 3] fun a w hs => ⟨IntKind.wrap .i64 (t91 + 1), o8.2.1, o8.2.2.1, A30, L30, C30, gh12, A31, L31, C31, gm8, (.map (some b5)), hL7, hs⟩
 refine c_exit0 ?_
 cases hL7
 exact sK [0, 0, 0, 0, 0, 0] [0, 1, 2, 3] (hN7 A24 L24 C24 gh9 A25 L25 C25 gm5 gv)
 intro A26 L26 C26 gh10 A27 L27 C27 gm6 gv1
 refine sat_wc (cR (oV vM (oV vA (o_seq (c_ret ?_)))))
 cases hF
 refine s_st (st_freezeD 3 2 rfl rfl) (s_ret1 rfl (r_tmp rfl) fun a w hs => fin_sel hs [1] ⟨b1, A1, L1, C1, A2, L2, C2, A6, L6, C6, A26, L26, C26, (sl A27 L27 C27), gv1, rfl, rfl, rfl⟩ rfl (subs [1, 3, 4, 0] rfl))
theorem tri74 {x_ : EItem} {free : Gram} {free1 : Int} {b : Nat} {b1 : Nat} {r : Bool} (hF : F.earley.Spans_c1 x_ free free1 = some r) :
    Tri Try.prog 74 [.agg (vEItem x_).toArray, pt b, pt b1] [.box b 24 (vGram free A1 L1 C1), .box b1 3 [iI free1]] [fS A1 L1 C1 2 eRule free.Rules] (fun o H Φ => o = .ret (bV r) ∧ H = [.box b 24 (vGram free A1 L1 C1), .box b1 3 [iI free1]] ∧ Φ = []) := by
 unfold F.earley.Spans_c1 at hF
 refine tri_intro (n := 29) Try.func74 rfl Try.ntmps74 rfl fun w X => cR (o_box rfl rfl rfl fun b2 => oV vA (o_seq (cR ((fD 2) (oV (vL 1 ty22) ((fD 0) (oV (vL 0 ty3) (ite_some hF ?_))))))))
 intro h1 hF
 refine oV (v_indexAddr_s (xs := free.Rules) (enc := eRule) sl22 rfl rfl (.f 0 rfl) h1) (o_load_s (xs := free.Rules) (enc := eRule) ty50 rfl (.f 0 rfl) h1 rfl rfl rfl rfl rfl rfl ?_)
 intro A2 L2 C2
 refine o_alloc zero50 rfl rfl fun b3 => ?_
 refine (sT 0 ty50) (o_seq (cR ((fD 0) (oV (vL 0 ty3) (oV (vL 3 ty3) (oV vB (oV vM ?_)))))))
 refine oS 16 hF (fun hF => ?_) (fun hF => ?_)
 refine oN ((fD 2) (oN (oV (vL 1 ty3) (oN (oV vB (oV vPt (oV vM ?_)))))))
 refine oS 21 hF (fun hF => ?_) (fun hF => ?_)
 refine oN ((fD 1) (oN (oV (vL 1 ty3) (oN ((fD 1) (oN (oV (vL 0 ty48) (oN (oV (v_lenS (enc := eKSym) ((at_ free.Rules x_.Rule).Rhs) sl48 rfl (.f 0 rfl)) (oN (oV vB (oV vPt (oV vA (o_seq (c_ret ?_)))))))))))))))
 cases hF
 refine s_ret1 rfl (r_tmp rfl) fun a w hs => fin_sel hs [2, 2] ⟨rfl, rfl, rfl⟩ rfl sub_nil
 refine oF (oF (oF (oF (oF (oF (oV vPf (oV vA (o_seq (c_ret ?_)))))))))
 cases hF
 refine s_ret1 rfl (r_tmp rfl) fun a w hs => fin_sel hs [2, 2] ⟨rfl, rfl, rfl⟩ rfl sub_nil
 refine oF (oF (oF (oV vPf (oV vM (oF (oF (oF (oF (oF (oF (oV vPf (oV vA (o_seq (c_ret ?_))))))))))))))
 cases hF
 refine s_ret1 rfl (r_tmp rfl) fun a w hs => fin_sel hs [2, 2] ⟨rfl, rfl, rfl⟩ rfl sub_nil
theorem tri84_74 {k : Nat} {s : List EItem} {cap : Gram} {cap1 : Int} {b : Nat} {b1 : Nat} {r : Int} (hF : F.slices.IndexFunc_f84_74 k s cap cap1 = some r) :
    Tri Try.prog 84 [sl A1 L1 C1, .func (.func 74) #[] #[pt b, pt b1]] [.box b 24 (vGram cap A2 L2 C2), .box b1 3 [iI cap1]] [fS A1 L1 C1 3 eEItem s, fS A2 L2 C2 2 eRule cap.Rules] (fun o H Φ => o = .ret (iI r) ∧ H = [.box b 24 (vGram cap A2 L2 C2), .box b1 3 [iI cap1]] ∧ Φ = []) := by
 unfold F.slices.IndexFunc_f84_74 at hF
 refine tri_intro (n := 19) Try.func84 rfl Try.ntmps84 rfl fun w X => cR (oV vA (o_seq (c_seq (cR (oV vM (oV (v_lenS (enc := eEItem) s sl111 rfl (.f 0 rfl)) (oV vM (o_seq ?_))))))))
 obtain ⟨o1, ho1, hF⟩ := bd hF
 refine cT (fun E H Φ N' => ∀ (d1 : Unit), o1 = .done d1 → Sat E [(0, sl A1 L1 C1), (4, iI 0)] H Φ N') (fun N1 hN1 => ?_) ?_
 refine c_block ?_
 refine cL (fun E H Φ j a w => ∃ (t8 : Int), F.slices.IndexFunc_f84_74_l1 s cap cap1 j t8 = some o1 ∧ St E [(0, sl A1 L1 C1), (1, .func (.func 74) #[] #[pt b, pt b1]), (4, iI 0), (7, iI (s.length : Int)), (8, iI t8)] H Φ a w) k ?_ ?_
 exact lq [0, 0] [0, 1] fun a w hs => ⟨0, ho1, hs⟩
 rintro j a w ⟨t8, hL1, hs⟩
 rcases j with _ | j
 cases hL1
 refine wc_app hs ?_
 unfold F.slices.IndexFunc_f84_74_l1 at hL1
 refine cR (oV vB (o_seq (c_seq ?_)))
 refine cC hL1 (fun hL1 => ?_) (fun hL1 => ?_)
 refine c_skip (sat_wc (c_seq (c_block (cR (oV vM (oV vA (o_seq (cR (oV vM (oV vM (oV vM (ite_some hL1 ?_))))))))))))
 intro h2 hL1
 refine oV (v_indexAddr_s (xs := s) (enc := eEItem) sl111 rfl rfl (.f 0 rfl) h2) ?_
 refine oV (v_load_s (xs := s) (enc := eEItem) ty118 rfl (.f 0 rfl) h2 rfl rfl rfl rfl rfl rfl rfl) ?_
 obtain ⟨v_, h3, hL1⟩ := bd hL1
 refine o_call [0, 0] call74 (cap := #[pt b, pt b1]) rfl rfl rfl (subs [1] rfl) (by exact (tri74 h3 :)) rfl ?_
 rintro _ _ _ ⟨rfl, rfl, rfl⟩
 refine o_seq ?_
 refine cC hL1 (fun hL1 => ?_) (fun hL1 => ?_)
 refine cR (oV vM (oV vA (o_seq (c_ret ?_))))
 cases hL1
 obtain rfl := lrf_ret hF
 refine s_ret1 rfl (r_tmp rfl) fun a w hs => fin_sel hs [0, 0] ⟨rfl, rfl, rfl⟩ rfl sub_nil
 refine c_skip (sat_wc (c_region (oV vB (oV vM (o_nil ?_)))))
 exact lp [0, 0] [0, 1] fun a w hs => ⟨IntKind.wrap .i64 (t8 + 1), hL1, hs⟩
 refine c_exit0 ?_
 cases hL1
 exact sK [0, 0] [0, 1] (hN1 () rfl)
 intro d1 hd
 subst hd
 replace hF := lrf_done hF
 refine sat_wc (cR (oV vA (o_seq (c_ret ?_))))
 cases hF
 refine s_ret1 rfl (r_tmp rfl) fun a w hs => fin_sel hs [0, 0] ⟨rfl, rfl, rfl⟩ rfl sub_nil
theorem tri73_74 {k : Nat} {s : List EItem} {cap : Gram} {cap1 : Int} {b : Nat} {b1 : Nat} {r : Bool} (hF : F.slices.ContainsFunc_f73_74 k s cap cap1 = some r) :
    Tri Try.prog 73 [sl A1 L1 C1, .func (.func 74) #[] #[pt b, pt b1]] [.box b 24 (vGram cap A2 L2 C2), .box b1 3 [iI cap1]] [fS A1 L1 C1 3 eEItem s, fS A2 L2 C2 2 eRule cap.Rules] (fun o H Φ => o = .ret (bV r) ∧ H = [.box b 24 (vGram cap A2 L2 C2), .box b1 3 [iI cap1]] ∧ Φ = []) := by
 unfold F.slices.ContainsFunc_f73_74 at hF
 refine tri_intro (n := 9) Try.func73 rfl Try.ntmps73 rfl fun w X => cR (oV vA (o_seq (cR (oV vM (oV vM ?_)))))
 obtain ⟨v_, h1, hF⟩ := bd hF
 refine ocl [0, 0] call84 rfl rfl (subs [0, 1] rfl) (tri84_74 h1 :) ?_
 rintro _ _ _ ⟨rfl, rfl, rfl⟩
 refine oV vB (oV vA (o_seq (c_ret ?_)))
 cases hF
 refine s_ret1 rfl (r_tmp rfl) fun a w hs => fin_sel hs [0, 0] ⟨rfl, rfl, rfl⟩ rfl sub_nil
theorem tri54 {k : Nat} {g_ : Gram} {w__ : List Int} {nt_ : Int} {r : List Run × Int} (hF : F.earley.Spans k g_ w__ nt_ = some r) :
    Tri Try.prog 54 [.agg (vGram g_ A1 L1 C1).toArray, sl A2 L2 C2, iI nt_] [] [fS A1 L1 C1 2 eRule g_.Rules, fS A2 L2 C2 1 eU8 w__] (fun o H Φ => ∃ (A18 : OA) (L18 C18 : Nat), o = .ret (.tuple #[sl A18 L18 C18, iI r.2]) ∧ H = [rW A18 L18 C18 125 2 eRun r.1] ∧ Φ = []) := by
 unfold F.earley.Spans at hF
 refine tri_intro (n := 64) Try.func54 rfl Try.ntmps54 rfl fun w X => cR (o_box rfl rfl rfl fun b => o_box rfl rfl rfl fun b1 => oV vA (oV vA (o_seq (c_seq (cR (oV (vL 1 ty24) (oV vM ?_)))))))
 obtain ⟨v_, h1, hF⟩ := bd hF
 refine o_callSB call50 rfl (lent_f 0 rfl (lent_f 1 rfl lent_nil)) (tri50 h1 :) rfl (oV vA (o_seq (cR (oV vM (oV vB (o_seq ?_))))))
 refine cC hF (fun hF => ?_) (fun hF => ?_)
 refine cR (oV vM (oV vA (oV vA (o_seq (c_ret ?_)))))
 cases hF
 refine s_st (st_nilrow 125 2) (s_ret2 rfl (r_tmp rfl) (r_tmp rfl) fun a w hs => fin_sel hs [0] ⟨none, 0, 0, rfl, rfl, rfl⟩ rfl sub_nil)
 refine c_skip (sat_wc (c_seq (cR (oV (vL 0 ty3) (oV vB (oV vM ?_))))))
 refine oS 22 hF (fun hF => ?_) (fun hF => ?_)
 refine oF (oF (oF (oF (oV vPt (o_seq ?_)))))
 refine c_cond rfl (fun _ => ?_) (fun h => Bool.noConfusion h)
 refine cR (oV vA (oV vA (o_seq (c_ret ?_))))
 cases hF
 refine s_st (st_nilrow 125 2) (s_ret2 rfl (r_tmp rfl) (r_tmp rfl) fun a w hs => fin_sel hs [0] ⟨none, 0, 0, rfl, rfl, rfl⟩ rfl sub_nil)
 refine oN (oV (vL 0 ty3) (oN ((fD 0) (oN (oV (vL 1 ty3) (oN (oV vB (oV vPf (o_seq ?_)))))))))
 refine cC hF (fun hF => ?_) (fun hF => ?_)
 refine cR (oV vA (oV vA (o_seq (c_ret ?_))))
 cases hF
 refine s_st (st_nilrow 125 2) (s_ret2 rfl (r_tmp rfl) (r_tmp rfl) fun a w hs => fin_sel hs [0] ⟨none, 0, 0, rfl, rfl, rfl⟩ rfl sub_nil)
 refine c_skip (sat_wc (cR (oV vA (o_seq (cR (oV (vL 0 ty3) ((fD 1) ((sT 1 ty3) (o_seq (c_seq (cR (oV vA ?_))))))))))))
 refine o_seq ?_
 obtain ⟨o1, ho1, hF⟩ := bd hF
 refine cT (fun E H Φ N' => ∀ (A4 : OA) (L4 C4 : Nat), Sat E [(0, .agg (vGram g_ A1 L1 C1).toArray), (1, sl A2 L2 C2), (2, iI nt_), (3, pt b), (5, pt b1), (6, nS), (7, iI 0), (8, iI v_), (9, sl A4 L4 C4)] [.box b1 3 [iI nt_], .box b 24 [iI g_.Nts, iI nt_, sl A1 L1 C1], rW A4 L4 C4 125 2 eRun o1] Φ N') (fun N1 hN1 => ?_) ?_
 refine c_block ?_
 refine cL (fun E H Φ j a w => ∃ (out : List Run) (lo : Int) (A3 : OA) (L3 C3 : Nat), F.earley.Spans_l1 k w__ g_ nt_ j out lo = some o1 ∧ St E [(0, .agg (vGram g_ A1 L1 C1).toArray), (1, sl A2 L2 C2), (2, iI nt_), (3, pt b), (5, pt b1), (6, nS), (7, iI 0), (8, iI v_), (9, sl A3 L3 C3), (10, iI lo)] [.box b1 3 [iI nt_], .box b 24 [iI g_.Nts, iI nt_, sl A1 L1 C1], rW A3 L3 C3 125 2 eRun out] Φ a w) k ?_ ?_
 refine s_st (st_nilrow 125 2) ?_
 exact lq [1, 1, 0] [0, 1] fun a w hs => ⟨([] : List Run), 0, none, 0, 0, ho1, hs⟩
 rintro j a w ⟨out, lo, A3, L3, C3, hL1, hs⟩
 rcases j with _ | j
 cases hL1
 refine wc_app hs ?_
 unfold F.earley.Spans_l1 at hL1
 refine c_seq (cR (oV vM (oV vM (oV (v_lenS (enc := eU8) w__ sl25 rfl (.f 1 rfl)) (oV vB (o_seq ?_))))))
 refine cC hL1 (fun hL1 => ?_) (fun hL1 => ?_)
 refine c_skip (sat_wc (c_seq (c_block (c_seq (c_draw (n := 6) [0, 0, 0] mixed rfl rfl (dv 0 rfl (vL 1 ty24) (dv 1 rfl vM (dv 2 rfl vM (dO 3 rfl (ite_some hL1 ?_))))))))))
 intro h6 hL1
 refine o_cutS (enc := eU8) (xs := w__) 1 sl25 rfl rfl rfl rfl rfl rfl h6 rfl fun A5 L5 C5 => dN [0, 0, 0] 1 (dO 4 rfl ?_)
 obtain ⟨v_1, h7, hL1⟩ := bd hL1
 refine o_call0 call51 rfl (subs [1, 0] rfl) (tri51 h7 :) rfl ?_
 rintro _ _ _ ⟨gb, A6, L6, C6, A7, L7, C7, A8, L8, C8, A9, L9, C9, gv, gv1, rfl, rfl, rfl⟩
 refine dN [1, 1, 1] 5 (dv 5 rfl vA (d_done_seq (by kernel_rfl) (cR (oV vM (oV vC ((fD 5) (oV (vL 0 ty112) (oV (v_lenS (enc := (eSl 3 eEItem)) v_1.sets sl112 rfl (.f 3 rfl)) (oV vM (o_seq ?_))))))))))
 obtain ⟨o2, ho2, hL1⟩ := bd hL1
 refine c_cut (fun E N' => ∀ (A11 : OA) (L11 C11 : Nat), Sat E [(0, .agg (vGram g_ A1 L1 C1).toArray), (1, sl A2 L2 C2), (2, iI nt_), (3, pt b), (5, pt b1), (6, nS), (7, iI 0), (8, iI v_), (9, sl A11 L11 C11), (10, iI lo), (11, pt gb), (44, sl A9 L9 C9), (45, iI (v_1.sets.length : Int)), (46, iI o2.2)] [.box gb 116 [iI v_1.g.Nts, iI v_1.g.Start, sl A6 L6 C6, sl A7 L7 C7, sl A8 L8 C8, sl A9 L9 C9, gv, gv1], .box b1 3 [iI nt_], .box b 24 [iI g_.Nts, iI nt_, sl A1 L1 C1], rW A11 L11 C11 125 2 eRun o2.1] [fS A1 L1 C1 2 eRule g_.Rules, fS A2 L2 C2 1 eU8 w__, fS A9 L9 C9 1 (eSl 3 eEItem) v_1.sets, fS A6 L6 C6 2 eRule v_1.g.Rules, fS A7 L7 C7 1 eU8 v_1.w_, fS A8 L8 C8 1 (eSl 1 eI64) v_1.by_] N') (fun N2 hN2 => ?_) ?_
 refine c_block ?_
 refine c_loopE (fun E j a w => ∃ (out1 : List Run) (t46 : Int) (A10 : OA) (L10 C10 : Nat), F.earley.Spans_l2 k v_1 g_ nt_ lo j out1 t46 = some o2 ∧ St E [(0, .agg (vGram g_ A1 L1 C1).toArray), (1, sl A2 L2 C2), (2, iI nt_), (3, pt b), (5, pt b1), (6, nS), (7, iI 0), (8, iI v_), (9, sl A10 L10 C10), (10, iI lo), (11, pt gb), (44, sl A9 L9 C9), (45, iI (v_1.sets.length : Int)), (46, iI t46)] [.box gb 116 [iI v_1.g.Nts, iI v_1.g.Start, sl A6 L6 C6, sl A7 L7 C7, sl A8 L8 C8, sl A9 L9 C9, gv, gv1], .box b1 3 [iI nt_], .box b 24 [iI g_.Nts, iI nt_, sl A1 L1 C1], rW A10 L10 C10 125 2 eRun out1] [fS A1 L1 C1 2 eRule g_.Rules, fS A2 L2 C2 1 eU8 w__, fS A9 L9 C9 1 (eSl 3 eEItem) v_1.sets, fS A6 L6 C6 2 eRule v_1.g.Rules, fS A7 L7 C7 1 eU8 v_1.w_, fS A8 L8 C8 1 (eSl 1 eI64) v_1.by_] a w) k ?_ ?_
 exact lq [0, 0, 0, 0] [5, 6, 3, 0, 1, 2] fun a w hs => ⟨out, 0, A3, L3, C3, ho2, hs⟩
 rintro j a w ⟨out1, t46, A10, L10, C10, hL2, hs⟩
 rcases j with _ | j
 cases hL2
 refine wc_app hs ?_
 unfold F.earley.Spans_l2 at hL2
 refine cR (oV vB (o_seq (c_seq ?_)))
 refine cC hL2 (fun hL2 => ?_) (fun hL2 => ?_)
 refine c_skip (sat_wc (c_seq ?_))
 refine c_cut (fun E N' => ∀ (out2 : List Run) (A12 : OA) (L12 C12 : Nat) (A13 : OA) (L13 C13 : Nat), F.earley.Spans_j3 (F.earley.Spans_l2 k v_1 g_ nt_ lo j) t46 out2 = some o2 → Sat E [(0, .agg (vGram g_ A1 L1 C1).toArray), (1, sl A2 L2 C2), (2, iI nt_), (3, pt b), (5, pt b1), (6, nS), (7, iI 0), (8, iI v_), (9, sl A12 L12 C12), (10, iI lo), (11, pt gb), (12, iI t46), (13, sl A13 L13 C13), (44, sl A9 L9 C9), (45, iI (v_1.sets.length : Int)), (46, iI t46)] [.box b 24 [iI g_.Nts, iI nt_, sl A1 L1 C1], .box b1 3 [iI nt_], .box gb 116 [iI v_1.g.Nts, iI v_1.g.Start, sl A6 L6 C6, sl A7 L7 C7, sl A8 L8 C8, sl A9 L9 C9, gv, gv1], rW A12 L12 C12 125 2 eRun out2] [fS A1 L1 C1 2 eRule g_.Rules, fS A2 L2 C2 1 eU8 w__, fS A13 L13 C13 3 eEItem (at_ v_1.sets t46), fS A9 L9 C9 1 (eSl 3 eEItem) v_1.sets, fS A6 L6 C6 2 eRule v_1.g.Rules, fS A7 L7 C7 1 eU8 v_1.w_, fS A8 L8 C8 1 (eSl 1 eI64) v_1.by_] N') (fun N3 hN3 => ?_) ?_
 refine c_block (cR (oV vM (ite_some hL2 ?_)))
 intro h9 hL2
 refine oV (v_indexAddr_s (xs := v_1.sets) (enc := (eSl 3 eEItem)) sl112 rfl rfl (.f 2 rfl) h9) (o_load_s (xs := v_1.sets) (enc := (eSl 3 eEItem)) ty111 rfl (.f 2 rfl) h9 rfl rfl rfl rfl rfl rfl ?_)
 intro A14 L14 C14
 refine oV vA (oV vA (o_seq (cR (oV vM (oV (v_makeFunc (vs := [pt b, pt b1]) rfl) ?_)))))
 obtain ⟨v_2, h10, hL2⟩ := bd hL2
 refine ocl [2, 1] call73 rfl rfl (subs [0, 1] rfl) (tri73_74 h10 :) ?_
 rintro _ _ _ ⟨rfl, rfl, rfl⟩
 refine o_seq ?_
 refine c_cut (fun E N' => ∀ (out3 : List Run) (A15 : OA) (L15 C15 : Nat), F.earley.Spans_j4 (F.earley.Spans_l2 k v_1 g_ nt_ lo j) t46 out3 = some o2 → Sat E [(0, .agg (vGram g_ A1 L1 C1).toArray), (1, sl A2 L2 C2), (2, iI nt_), (3, pt b), (5, pt b1), (6, nS), (7, iI 0), (8, iI v_), (9, sl A15 L15 C15), (10, iI lo), (11, pt gb), (12, iI t46), (13, sl A14 L14 C14), (44, sl A9 L9 C9), (45, iI (v_1.sets.length : Int)), (46, iI t46)] [.box b 24 [iI g_.Nts, iI nt_, sl A1 L1 C1], .box b1 3 [iI nt_], .box gb 116 [iI v_1.g.Nts, iI v_1.g.Start, sl A6 L6 C6, sl A7 L7 C7, sl A8 L8 C8, sl A9 L9 C9, gv, gv1], rW A15 L15 C15 125 2 eRun out3] [fS A1 L1 C1 2 eRule g_.Rules, fS A2 L2 C2 1 eU8 w__, fS A14 L14 C14 3 eEItem (at_ v_1.sets t46), fS A9 L9 C9 1 (eSl 3 eEItem) v_1.sets, fS A6 L6 C6 2 eRule v_1.g.Rules, fS A7 L7 C7 1 eU8 v_1.w_, fS A8 L8 C8 1 (eSl 1 eI64) v_1.by_] N') (fun N4 hN4 => ?_) ?_
 refine cC hL2 (fun hL2 => ?_) (fun hL2 => ?_)
 refine c_region (oV vM (oV vM (oV vM (oV vM (oV vB (oV (vU (.agg #[iI lo, iI (IntKind.wrap .i64 (lo + t46))])) (o_buildSlice (enc := eRun) ([(Run.mk lo (IntKind.wrap .i64 (lo + t46)))] : List Run) [iI lo, iI (IntKind.wrap .i64 (lo + t46))] sl121 rfl (fun _ => by kernel_rfl) rfl rfl rfl (.s rfl (.s rfl (.nil))) rfl ?_)))))))
 intro A16 L16 C16
 refine ite_some hL2 fun h12 hL2 => ite_some hL2 fun h13 hL2 => o_append (enc := eRun) (xs := out1) (ys := ([(Run.mk lo (IntKind.wrap .i64 (lo + t46)))] : List Run)) 4 sl121 rfl rfl rfl (.r 0 _ rfl) h12 h13 rfl fun A17 L17 C17 => oV vA (o_nil ?_)
 exact sK [1, 1, 1, 1] [1, 2, 0, 3, 4, 5, 6] (hN4 (out1 ++ ([(Run.mk lo (IntKind.wrap .i64 (lo + t46)))] : List Run)) A17 L17 C17 hL2)
 refine c_skip ?_
 exact sK [0, 0, 0, 0] [1, 2, 0, 3, 4, 5, 6] (hN4 out1 A10 L10 C10 hL2)
 intro out3 A15 L15 C15 hL2
 unfold F.earley.Spans_j4 at hL2
 exact sK [0, 0, 0, 0] [0, 1, 2, 3, 4, 5, 6] (hN3 out3 A15 L15 C15 A14 L14 C14 hL2)
 intro out2 A12 L12 C12 A13 L13 C13 hL2
 unfold F.earley.Spans_j3 at hL2
 refine sat_wc (c_region (oV vB (oV vM (o_nil ?_))))
 exact lp [2, 1, 0, 0] [0, 1, 3, 4, 5, 6] fun a w hs => ⟨out2, IntKind.wrap .i64 (t46 + 1), A12, L12, C12, hL2, hs⟩
 refine c_exit0 ?_
 cases hL2
 exact sK [0, 0, 0, 0] [0, 1, 2, 3, 4, 5] (hN2 A10 L10 C10)
 intro A11 L11 C11
 refine sat_wc (c_region (oV vM (oV vB (oV vA (o_nil ?_)))))
 exact lp [1, 1, 1] [0, 1] fun a w hs => ⟨o2.1, IntKind.wrap .i64 (lo + 1), A11, L11, C11, hL1, hs⟩
 refine c_exit0 ?_
 cases hL1
 exact sK [0, 0, 0] [0, 1] (hN1 A3 L3 C3)
 intro A4 L4 C4
 refine sat_wc (cR (oV vM (oV vA (oV vA (o_seq (c_ret ?_))))))
 cases hF
 refine s_ret2 rfl (r_tmp rfl) (r_tmp rfl) fun a w hs => fin_sel hs [2] ⟨A4, L4, C4, rfl, rfl, rfl⟩ rfl sub_nil
end Go.Vc
