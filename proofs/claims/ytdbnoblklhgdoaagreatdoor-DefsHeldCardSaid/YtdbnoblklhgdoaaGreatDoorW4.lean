import Derived.Test.YtdbnoblklhgdoaaGreatDoorW3
set_option linter.unusedVariables false
set_option linter.unusedSimpArgs false
set_option maxRecDepth 8000
set_option maxHeartbeats 2000000
namespace Go.Vc
open Go Go.Proofs
theorem tri64 {k : Nat} {s1 : List (List UInt8)} {s2 : List (List UInt8)} {A1 : OA} {L1 C1 : Nat} {A2 : OA} {L2 C2 : Nat} {r : Bool} (hF : F.slices.Equal_f64 k s1 s2 = some r) :
    Tri Tryz.prog 64 [sl A1 L1 C1, sl A2 L2 C2] [] [fS A1 L1 C1 1 eStr s1, fS A2 L2 C2 1 eStr s2] (oR (bV r)) := by
 unfold F.slices.Equal_f64 at hF
 refine tri_intro (n := 26) Tryz.func64 rfl Tryz.ntmps64 rfl fun w X => c_seq (c_region (oV vA (o_seq (c_seq (c_seq (c_region (oV vM (oV (v_lenS (enc := eStr) s1 sl59 rfl (.f 0 rfl)) (oV vM (oV (v_lenS (enc := eStr) s2 sl59 rfl (.f 1 rfl)) (oV vB (o_seq ?_))))))))))))
 refine cC hF (fun hF => ?_) (fun hF => ?_)
 refine c_seq (c_region (oV vA (o_seq (c_ret ?_))))
 cases hF
 exact sR
 refine c_skip (sat_wc (c_seq (c_seq (c_region (oV vM (oV (v_lenS (enc := eStr) s1 sl59 rfl (.f 0 rfl)) (oV vM (o_seq ?_))))))))
 obtain ⟨o1, ho1, hF⟩ := bd hF
 refine c_cut (fun E N' => ∀ (d1 : Unit), o1 = .done d1 → Sat E [(0, sl A1 L1 C1), (1, sl A2 L2 C2), (4, bV false)] [] [fS A1 L1 C1 1 eStr s1, fS A2 L2 C2 1 eStr s2] N') (fun N1 hN1 => ?_) ?_
 refine c_block ?_
 refine c_loopE (fun E j a w => ∃ (t13 : Int), F.slices.Equal_f64_l1 s1 s2 j t13 = some o1 ∧ St E [(0, sl A1 L1 C1), (1, sl A2 L2 C2), (4, bV false), (12, iI (s1.length : Int)), (13, iI t13)] [] [fS A1 L1 C1 1 eStr s1, fS A2 L2 C2 1 eStr s2] a w) k ?_ ?_
 intro a w hs
 exact ⟨0, ho1, st_le [] (lea rfl) rfl (subs [0, 1] rfl) a w hs⟩
 rintro j a w ⟨t13, hL1, hs⟩
 rcases j with _ | j
 cases hL1
 refine wc_app hs ?_
 unfold F.slices.Equal_f64_l1 at hL1
 refine c_seq (c_region (oV vB (o_seq (c_seq ?_))))
 refine cC hL1 (fun hL1 => ?_) (fun hL1 => ?_)
 refine c_skip (sat_wc (c_seq (c_block (c_seq (c_region (oV vM (oV vA (o_seq (c_seq (c_draw (n := 9) [] mixed rfl rfl (dv 0 rfl vM (dv 1 rfl vM (ite_some hL1 ?_)))))))))))))
 intro h3 hL1
 refine dv 2 rfl (v_indexAddr_s (xs := s1) (enc := eStr) sl59 rfl rfl (.f 0 rfl) h3) (dv 3 rfl (v_load_s (xs := s1) (enc := eStr) ty9 rfl (.f 0 rfl) h3 rfl rfl rfl rfl rfl rfl rfl) ?_)
 refine dv 4 rfl vM (dv 5 rfl vM (ite_some hL1 ?_))
 intro h4 hL1
 refine dv 6 rfl (v_indexAddr_s (xs := s2) (enc := eStr) sl59 rfl rfl (.f 1 rfl) h4) (dv 7 rfl (v_load_s (xs := s2) (enc := eStr) ty9 rfl (.f 1 rfl) h4 rfl rfl rfl rfl rfl rfl rfl) (dv 8 rfl (v_strne rfl rfl) (d_done_seq (by kernel_rfl) ?_)))
 refine cC hL1 (fun hL1 => ?_) (fun hL1 => ?_)
 refine c_seq (c_region (oV vA (o_seq (c_ret ?_))))
 cases hL1
 obtain rfl := lrf_ret hF
 exact sR
 refine c_skip (sat_wc (c_region (oV vB (oV vM (o_nil ?_)))))
 intro a w hs
 exact ⟨j, Nat.lt_succ_self j, IntKind.wrap .i64 (t13 + 1), hL1, st_le [] (lea rfl) rfl (subs [0, 1] rfl) a w hs⟩
 refine c_exit0 ?_
 cases hL1
 exact sK [] [0, 1] (hN1 () rfl)
 intro d1 hd
 subst hd
 replace hF := lrf_done hF
 refine sat_wc (c_seq (c_region (oV vA (o_seq (c_ret ?_)))))
 cases hF
 exact sR
theorem tri63 {k : Nat} {g_ : Group} {h_ : Group} {A1 : OA} {L1 C1 : Nat} {A2 : OA} {L2 C2 : Nat} {r : Bool} (hF : F.defs.Same_c2_c1 k g_ h_ = some r) :
    Tri Tryz.prog 63 [.agg #[iI g_.Assoc, sl A1 L1 C1], .agg #[iI h_.Assoc, sl A2 L2 C2]] [] [fS A1 L1 C1 1 eStr g_.Cons, fS A2 L2 C2 1 eStr h_.Cons] (oR (bV r)) := by
 unfold F.defs.Same_c2_c1 at hF
 refine tri_intro (n := 17) Tryz.func63 rfl Tryz.ntmps63 rfl fun w X => c_seq (c_region (o_box rfl rfl rfl fun b => o_box rfl rfl rfl fun b1 => oV vA (o_seq (c_seq (c_region ((fD 0) (oV (vL 1 ty3) ((fD 0) (oV (vL 0 ty3) (oV vB (oV vM ?_)))))))))))
 refine oS 10 hF (fun hF => ?_) (fun hF => ?_)
 refine oN ((fD 1) (oN (oV (vL 1 ty59) (oN ((fD 1) (oN (oV (vL 0 ty59) (oN ?_))))))))
 obtain ⟨v, h2, hF⟩ := bd hF
 refine o_callSB call64 rfl (lent_f 0 rfl (lent_f 1 rfl lent_nil)) (tri64 h2 :) rfl (oV vPt (oV vA (o_seq (c_ret ?_))))
 cases hF
 exact sR
 refine oF (oF (oF (oF (oF (oV vPf (oV vA (o_seq (c_ret ?_))))))))
 cases hF
 exact sR
theorem tri62_63 {k : Nat} {s1 : List Group} {s2 : List Group} {A1 : OA} {L1 C1 : Nat} {A2 : OA} {L2 C2 : Nat} {r : Bool} (hF : F.slices.EqualFunc_f62_63 k s1 s2 = some r) :
    Tri Tryz.prog 62 [sl A1 L1 C1, sl A2 L2 C2, .func (.func 63) #[] #[]] [] [fS A1 L1 C1 2 eGroup s1, fS A2 L2 C2 2 eGroup s2] (oR (bV r)) := by
 unfold F.slices.EqualFunc_f62_63 at hF
 refine tri_intro (n := 32) Tryz.func62 rfl Tryz.ntmps62 rfl fun w X => c_seq (c_region (oV vA (o_seq (c_seq (c_seq (c_region (oV vM (oV (v_lenS (enc := eGroup) s1 sl58 rfl (.f 0 rfl)) (oV vM (oV (v_lenS (enc := eGroup) s2 sl58 rfl (.f 1 rfl)) (oV vB (o_seq ?_))))))))))))
 refine cC hF (fun hF => ?_) (fun hF => ?_)
 refine c_seq (c_region (oV vA (o_seq (c_ret ?_))))
 cases hF
 exact sR
 refine c_skip (sat_wc (c_seq (c_seq (c_region (oV vM (oV (v_lenS (enc := eGroup) s1 sl58 rfl (.f 0 rfl)) (oV vM (o_seq ?_))))))))
 obtain ⟨o1, ho1, hF⟩ := bd hF
 refine c_cut (fun E N' => ∀ (d1 : Unit), o1 = .done d1 → Sat E [(0, sl A1 L1 C1), (1, sl A2 L2 C2), (6, bV false), (15, sl A1 L1 C1)] [] [fS A1 L1 C1 2 eGroup s1, fS A2 L2 C2 2 eGroup s2] N') (fun N1 hN1 => ?_) ?_
 refine c_block ?_
 refine c_loopE (fun E j a w => ∃ (t17 : Int), F.slices.EqualFunc_f62_63_l1 k s1 s2 j t17 = some o1 ∧ St E [(0, sl A1 L1 C1), (1, sl A2 L2 C2), (2, .func (.func 63) #[] #[]), (6, bV false), (15, sl A1 L1 C1), (16, iI (s1.length : Int)), (17, iI t17)] [] [fS A1 L1 C1 2 eGroup s1, fS A2 L2 C2 2 eGroup s2] a w) k ?_ ?_
 intro a w hs
 exact ⟨0, ho1, st_le [] (lea rfl) rfl (subs [0, 1] rfl) a w hs⟩
 rintro j a w ⟨t17, hL1, hs⟩
 rcases j with _ | j
 cases hL1
 refine wc_app hs ?_
 unfold F.slices.EqualFunc_f62_63_l1 at hL1
 refine c_seq (c_region (oV vB (o_seq (c_seq ?_))))
 refine cC hL1 (fun hL1 => ?_) (fun hL1 => ?_)
 refine c_skip (sat_wc (c_seq (c_block (c_seq (c_region (oV vM (ite_some hL1 ?_)))))))
 intro h3 hL1
 refine oV (v_indexAddr_s (xs := s1) (enc := eGroup) sl58 rfl rfl (.f 0 rfl) h3) (o_load_s (xs := s1) (enc := eGroup) ty61 rfl (.f 0 rfl) h3 rfl rfl rfl rfl rfl rfl ?_)
 intro A3 L3 C3
 refine o_alloc zero61 rfl rfl fun b => oV vA ((sT 0 ty61) (o_seq (c_seq (c_region ?_))))
 refine oV vM (oV vM (ite_some hL1 ?_))
 intro h4 hL1
 refine oV (v_indexAddr_s (xs := s2) (enc := eGroup) sl58 rfl rfl (.f 2 rfl) h4) (o_load_s (xs := s2) (enc := eGroup) ty61 rfl (.f 2 rfl) h4 rfl rfl rfl rfl rfl rfl ?_)
 intro A4 L4 C4
 refine o_alloc zero61 rfl rfl fun b1 => (sT 0 ty61) (o_seq (c_seq (c_region (oV vM (oV (vL 1 ty61) (oV (vL 0 ty61) ?_))))))
 obtain ⟨v, h5, hL1⟩ := bd hL1
 refine o_call [] call63 (cap := #[]) rfl rfl rfl (subs [1, 0] rfl) (by exact (tri63 h5 :)) rfl ?_
 rintro _ _ _ ⟨rfl, rfl, rfl⟩
 refine oV vN (o_seq ?_)
 refine cC hL1 (fun hL1 => ?_) (fun hL1 => ?_)
 refine c_seq (c_region (oV vA (o_seq (c_ret ?_))))
 cases hL1
 obtain rfl := lrf_ret hF
 exact sR
 refine c_skip (sat_wc (c_region (oV vB (oV vM (o_nil ?_)))))
 intro a w hs
 exact ⟨j, Nat.lt_succ_self j, IntKind.wrap .i64 (t17 + 1), hL1, st_le [] (lea rfl) rfl (subs [2, 3] rfl) a w hs⟩
 refine c_exit0 ?_
 cases hL1
 exact sK [] [0, 1] (hN1 () rfl)
 intro d1 hd
 subst hd
 replace hF := lrf_done hF
 refine sat_wc (c_seq (c_region (oV vA (o_seq (c_ret ?_)))))
 cases hF
 exact sR
theorem tri61 {k : Nat} {x_ : List Group} {y_ : List Group} {A1 : OA} {L1 C1 : Nat} {A2 : OA} {L2 C2 : Nat} {r : Bool} (hF : F.defs.Same_c2 k x_ y_ = some r) :
    Tri Tryz.prog 61 [sl A1 L1 C1, sl A2 L2 C2] [] [fS A1 L1 C1 2 eGroup x_, fS A2 L2 C2 2 eGroup y_] (oR (bV r)) := by
 unfold F.defs.Same_c2 at hF
 refine tri_intro (n := 8) Tryz.func61 rfl Tryz.ntmps61 rfl fun w X => c_seq (c_region (oV vA (o_seq (c_seq (c_region (oV vM (oV vM ?_)))))))
 obtain ⟨v, h1, hF⟩ := bd hF
 refine o_callSB call62 rfl (lent_f 0 rfl (lent_f 1 rfl lent_nil)) (tri62_63 h1 :) rfl (oV vA (o_seq (c_ret ?_)))
 cases hF
 exact sR
theorem tri60_61 {k : Nat} {s1 : List (List Group)} {s2 : List (List Group)} {A1 : OA} {L1 C1 : Nat} {A2 : OA} {L2 C2 : Nat} {r : Bool} (hF : F.slices.EqualFunc_f60_61 k s1 s2 = some r) :
    Tri Tryz.prog 60 [sl A1 L1 C1, sl A2 L2 C2, .func (.func 61) #[] #[]] [] [fS A1 L1 C1 1 (eSl 2 eGroup) s1, fS A2 L2 C2 1 (eSl 2 eGroup) s2] (oR (bV r)) := by
 unfold F.slices.EqualFunc_f60_61 at hF
 refine tri_intro (n := 32) Tryz.func60 rfl Tryz.ntmps60 rfl fun w X => c_seq (c_region (oV vA (o_seq (c_seq (c_seq (c_region (oV vM (oV (v_lenS (enc := (eSl 2 eGroup)) s1 sl23 rfl (.f 0 rfl)) (oV vM (oV (v_lenS (enc := (eSl 2 eGroup)) s2 sl23 rfl (.f 1 rfl)) (oV vB (o_seq ?_))))))))))))
 refine cC hF (fun hF => ?_) (fun hF => ?_)
 refine c_seq (c_region (oV vA (o_seq (c_ret ?_))))
 cases hF
 exact sR
 refine c_skip (sat_wc (c_seq (c_seq (c_region (oV vM (oV (v_lenS (enc := (eSl 2 eGroup)) s1 sl23 rfl (.f 0 rfl)) (oV vM (o_seq ?_))))))))
 obtain ⟨o1, ho1, hF⟩ := bd hF
 refine c_cut (fun E N' => ∀ (d1 : Unit), o1 = .done d1 → Sat E [(0, sl A1 L1 C1), (1, sl A2 L2 C2), (6, bV false), (15, sl A1 L1 C1)] [] [fS A1 L1 C1 1 (eSl 2 eGroup) s1, fS A2 L2 C2 1 (eSl 2 eGroup) s2] N') (fun N1 hN1 => ?_) ?_
 refine c_block ?_
 refine c_loopE (fun E j a w => ∃ (t17 : Int), F.slices.EqualFunc_f60_61_l1 k s1 s2 j t17 = some o1 ∧ St E [(0, sl A1 L1 C1), (1, sl A2 L2 C2), (2, .func (.func 61) #[] #[]), (6, bV false), (15, sl A1 L1 C1), (16, iI (s1.length : Int)), (17, iI t17)] [] [fS A1 L1 C1 1 (eSl 2 eGroup) s1, fS A2 L2 C2 1 (eSl 2 eGroup) s2] a w) k ?_ ?_
 intro a w hs
 exact ⟨0, ho1, st_le [] (lea rfl) rfl (subs [0, 1] rfl) a w hs⟩
 rintro j a w ⟨t17, hL1, hs⟩
 rcases j with _ | j
 cases hL1
 refine wc_app hs ?_
 unfold F.slices.EqualFunc_f60_61_l1 at hL1
 refine c_seq (c_region (oV vB (o_seq (c_seq ?_))))
 refine cC hL1 (fun hL1 => ?_) (fun hL1 => ?_)
 refine c_skip (sat_wc (c_seq (c_block (c_seq (c_region (oV vM (ite_some hL1 ?_)))))))
 intro h3 hL1
 refine oV (v_indexAddr_s (xs := s1) (enc := (eSl 2 eGroup)) sl23 rfl rfl (.f 0 rfl) h3) (o_load_s (xs := s1) (enc := (eSl 2 eGroup)) ty58 rfl (.f 0 rfl) h3 rfl rfl rfl rfl rfl rfl ?_)
 intro A3 L3 C3
 refine oV vA (oV vA (o_seq (c_seq (c_region (oV vM ?_)))))
 refine oV vM (ite_some hL1 ?_)
 intro h4 hL1
 refine oV (v_indexAddr_s (xs := s2) (enc := (eSl 2 eGroup)) sl23 rfl rfl (.f 2 rfl) h4) (o_load_s (xs := s2) (enc := (eSl 2 eGroup)) ty58 rfl (.f 2 rfl) h4 rfl rfl rfl rfl rfl rfl ?_)
 intro A4 L4 C4
 refine oV vA (o_seq (c_seq (c_region (oV vM (oV vM (oV vM ?_))))))
 obtain ⟨v, h5, hL1⟩ := bd hL1
 refine o_call [] call61 (cap := #[]) rfl rfl rfl (subs [1, 0] rfl) (by exact (tri61 h5 :)) rfl ?_
 rintro _ _ _ ⟨rfl, rfl, rfl⟩
 refine oV vN (o_seq ?_)
 refine cC hL1 (fun hL1 => ?_) (fun hL1 => ?_)
 refine c_seq (c_region (oV vA (o_seq (c_ret ?_))))
 cases hL1
 obtain rfl := lrf_ret hF
 exact sR
 refine c_skip (sat_wc (c_region (oV vB (oV vM (o_nil ?_)))))
 intro a w hs
 exact ⟨j, Nat.lt_succ_self j, IntKind.wrap .i64 (t17 + 1), hL1, st_le [] (lea rfl) rfl (subs [2, 3] rfl) a w hs⟩
 refine c_exit0 ?_
 cases hL1
 exact sK [] [0, 1] (hN1 () rfl)
 intro d1 hd
 subst hd
 replace hF := lrf_done hF
 refine sat_wc (c_seq (c_region (oV vA (o_seq (c_ret ?_)))))
 cases hF
 exact sR
theorem tri67_B (k : Nat) (g105_106 : List Item → List Item → Option Bool)
    (hg105_106 : ∀ {s1 : List Item} {s2 : List Item} {A1 : OA} {L1 C1 : Nat} {A2 : OA} {L2 C2 : Nat} {r : Bool}, g105_106 s1 s2 = some r → Tri Tryz.prog 105 [sl A1 L1 C1, sl A2 L2 C2, .func (.func 106) #[] #[]] [] [fS A1 L1 C1 4 eItem s1, fS A2 L2 C2 4 eItem s2] (oR (bV r))) {a_ : List Item} {b : List Item} {A1 : OA} {L1 C1 : Nat} {A2 : OA} {L2 C2 : Nat} {r : Bool} (hF : F.defs.sameItems_B k g105_106 a_ b = some r) :
    Tri Tryz.prog 67 [sl A1 L1 C1, sl A2 L2 C2] [] [fS A1 L1 C1 4 eItem a_, fS A2 L2 C2 4 eItem b] (oR (bV r)) := by
 unfold F.defs.sameItems_B at hF
 refine tri_intro (n := 8) Tryz.func67 rfl Tryz.ntmps67 rfl fun w X => c_seq (c_region (oV vA (o_seq (c_seq (c_region (oV vM (oV vM ?_)))))))
 obtain ⟨v, h1, hF⟩ := bd hF
 refine o_callSB call105 rfl (lent_f 0 rfl (lent_f 1 rfl lent_nil)) (hg105_106 h1 :) rfl (oV vA (o_seq (c_ret ?_)))
 cases hF
 exact sR
theorem tri105_106_B (k : Nat) (g106 : Item → Item → Option Bool)
    (hg106 : ∀ {x_ : Item} {y_ : Item} {A1 : OA} {L1 C1 : Nat} {A2 : OA} {L2 C2 : Nat} {r : Bool}, g106 x_ y_ = some r → Tri Tryz.prog 106 [.agg (vItem x_ A1 L1 C1).toArray, .agg (vItem y_ A2 L2 C2).toArray] [] [fS A1 L1 C1 4 eItem x_.Items, fS A2 L2 C2 4 eItem y_.Items] (oR (bV r))) {s1 : List Item} {s2 : List Item} {A1 : OA} {L1 C1 : Nat} {A2 : OA} {L2 C2 : Nat} {r : Bool} (hF : F.slices.EqualFunc_f105_106_B k g106 s1 s2 = some r) :
    Tri Tryz.prog 105 [sl A1 L1 C1, sl A2 L2 C2, .func (.func 106) #[] #[]] [] [fS A1 L1 C1 4 eItem s1, fS A2 L2 C2 4 eItem s2] (oR (bV r)) := by
 unfold F.slices.EqualFunc_f105_106_B at hF
 refine tri_intro (n := 32) Tryz.func105 rfl Tryz.ntmps105 rfl fun w X => c_seq (c_region (oV vA (o_seq (c_seq (c_seq (c_region (oV vM (oV (v_lenS (enc := eItem) s1 sl62 rfl (.f 0 rfl)) (oV vM (oV (v_lenS (enc := eItem) s2 sl62 rfl (.f 1 rfl)) (oV vB (o_seq ?_))))))))))))
 refine cC hF (fun hF => ?_) (fun hF => ?_)
 refine c_seq (c_region (oV vA (o_seq (c_ret ?_))))
 cases hF
 exact sR
 refine c_skip (sat_wc (c_seq (c_seq (c_region (oV vM (oV (v_lenS (enc := eItem) s1 sl62 rfl (.f 0 rfl)) (oV vM (o_seq ?_))))))))
 obtain ⟨o1, ho1, hF⟩ := bd hF
 refine c_cut (fun E N' => ∀ (d1 : Unit), o1 = .done d1 → Sat E [(0, sl A1 L1 C1), (1, sl A2 L2 C2), (6, bV false), (15, sl A1 L1 C1)] [] [fS A1 L1 C1 4 eItem s1, fS A2 L2 C2 4 eItem s2] N') (fun N1 hN1 => ?_) ?_
 refine c_block ?_
 refine c_loopE (fun E j a w => ∃ (t17 : Int), F.slices.EqualFunc_f105_106_l1 s1 s2 g106 j t17 = some o1 ∧ St E [(0, sl A1 L1 C1), (1, sl A2 L2 C2), (2, .func (.func 106) #[] #[]), (6, bV false), (15, sl A1 L1 C1), (16, iI (s1.length : Int)), (17, iI t17)] [] [fS A1 L1 C1 4 eItem s1, fS A2 L2 C2 4 eItem s2] a w) k ?_ ?_
 intro a w hs
 exact ⟨0, ho1, st_le [] (lea rfl) rfl (subs [0, 1] rfl) a w hs⟩
 rintro j a w ⟨t17, hL1, hs⟩
 rcases j with _ | j
 cases hL1
 refine wc_app hs ?_
 unfold F.slices.EqualFunc_f105_106_l1 at hL1
 refine c_seq (c_region (oV vB (o_seq (c_seq ?_))))
 refine cC hL1 (fun hL1 => ?_) (fun hL1 => ?_)
 refine c_skip (sat_wc (c_seq (c_block (c_seq (c_region (oV vM (ite_some hL1 ?_)))))))
 intro h3 hL1
 refine oV (v_indexAddr_s (xs := s1) (enc := eItem) sl62 rfl rfl (.f 0 rfl) h3) (o_load_s (ds := [.int .i64 ((at_ s1 t17).Kind), .str ((at_ s1 t17).Text), .int .i64 ((at_ s1 t17).N_), .slice 4 (((at_ s1 t17).Items).map eItem)]) (xs := s1) (enc := eItem) ty124 rfl (.f 0 rfl) h3 (by simp only [eItem_eq] <;> rfl) rfl rfl rfl rfl rfl ?_)
 intro A3 L3 C3
 refine o_alloc zero124 rfl rfl fun b => oV vA ((sT 0 ty124) (o_seq (c_seq (c_region ?_))))
 refine oV vM (oV vM (ite_some hL1 ?_))
 intro h4 hL1
 refine oV (v_indexAddr_s (xs := s2) (enc := eItem) sl62 rfl rfl (.f 2 rfl) h4) (o_load_s (ds := [.int .i64 ((at_ s2 t17).Kind), .str ((at_ s2 t17).Text), .int .i64 ((at_ s2 t17).N_), .slice 4 (((at_ s2 t17).Items).map eItem)]) (xs := s2) (enc := eItem) ty124 rfl (.f 2 rfl) h4 (by simp only [eItem_eq] <;> rfl) rfl rfl rfl rfl rfl ?_)
 intro A4 L4 C4
 refine o_alloc zero124 rfl rfl fun b1 => (sT 0 ty124) (o_seq (c_seq (c_region (oV vM (oV (vL 1 ty124) (oV (vL 0 ty124) ?_))))))
 obtain ⟨v, h5, hL1⟩ := bd hL1
 refine o_call [] call106 (cap := #[]) rfl rfl rfl (subs [1, 0] rfl) (by exact (hg106 h5 :)) rfl ?_
 rintro _ _ _ ⟨rfl, rfl, rfl⟩
 refine oV vN (o_seq ?_)
 refine cC hL1 (fun hL1 => ?_) (fun hL1 => ?_)
 refine c_seq (c_region (oV vA (o_seq (c_ret ?_))))
 cases hL1
 obtain rfl := lrf_ret hF
 exact sR
 refine c_skip (sat_wc (c_region (oV vB (oV vM (o_nil ?_)))))
 intro a w hs
 exact ⟨j, Nat.lt_succ_self j, IntKind.wrap .i64 (t17 + 1), hL1, st_le [] (lea rfl) rfl (subs [2, 3] rfl) a w hs⟩
 refine c_exit0 ?_
 cases hL1
 exact sK [] [0, 1] (hN1 () rfl)
 intro d1 hd
 subst hd
 replace hF := lrf_done hF
 refine sat_wc (c_seq (c_region (oV vA (o_seq (c_ret ?_)))))
 cases hF
 exact sR
theorem tri106_B (k : Nat) (g67 : List Item → List Item → Option Bool)
    (hg67 : ∀ {a_ : List Item} {b : List Item} {A1 : OA} {L1 C1 : Nat} {A2 : OA} {L2 C2 : Nat} {r : Bool}, g67 a_ b = some r → Tri Tryz.prog 67 [sl A1 L1 C1, sl A2 L2 C2] [] [fS A1 L1 C1 4 eItem a_, fS A2 L2 C2 4 eItem b] (oR (bV r))) {x_ : Item} {y_ : Item} {A1 : OA} {L1 C1 : Nat} {A2 : OA} {L2 C2 : Nat} {r : Bool} (hF : F.defs.sameItems_c1_B k g67 x_ y_ = some r) :
    Tri Tryz.prog 106 [.agg (vItem x_ A1 L1 C1).toArray, .agg (vItem y_ A2 L2 C2).toArray] [] [fS A1 L1 C1 4 eItem x_.Items, fS A2 L2 C2 4 eItem y_.Items] (oR (bV r)) := by
 unfold F.defs.sameItems_c1_B at hF
 refine tri_intro (n := 31) Tryz.func106 rfl Tryz.ntmps106 rfl fun w X => c_seq (c_region (o_box rfl rfl rfl fun b => o_box rfl rfl rfl fun b1 => oV vA (o_seq (c_seq ?_))))
 refine c_cut (fun E N' => ∀ (t4 : Bool), F.defs.sameItems_c1_j1 t4 = some r → Sat E [(0, .agg (vItem x_ A1 L1 C1).toArray), (1, .agg (vItem y_ A2 L2 C2).toArray), (4, bV t4)] [] [fS A1 L1 C1 4 eItem x_.Items, fS A2 L2 C2 4 eItem y_.Items] N') (fun N1 hN1 => ?_) ?_
 refine c_region ((fD 0) (oV (vL 1 ty3) ((fD 0) (oV (vL 0 ty3) (oV vB (oV vM ?_))))))
 refine oS 10 hF (fun hF => ?_) (fun hF => ?_)
 refine oN ((fD 1) (oN (oV (vL 1 ty9) (oN ((fD 1) (oN (oV (vL 0 ty9) (oN (oV (v_streq rfl rfl) (oV vPt (oV vM ?_)))))))))))
 refine oS 17 hF (fun hF => ?_) (fun hF => ?_)
 refine oN ((fD 2) (oN (oV (vL 1 ty3) (oN ((fD 2) (oN (oV (vL 0 ty3) (oN (oV vB (oV vPt (oV vM ?_)))))))))))
 refine oS 24 hF (fun hF => ?_) (fun hF => ?_)
 refine oN ((fD 3) (oN (oV (vL 1 ty62) (oN ((fD 3) (oN (oV (vL 0 ty62) (oN ?_))))))))
 obtain ⟨v, h4, hF⟩ := bd hF
 refine o_callSB call67 rfl (lent_f 0 rfl (lent_f 1 rfl lent_nil)) (hg67 h4 :) rfl (oV vPt (oV vA (o_nil ?_)))
 exact sK [] [0, 1] (hN1 v hF)
 refine oF (oF (oF (oF (oF (oV vPf (oV vA (o_nil ?_)))))))
 exact sK [] [0, 1] (hN1 false hF)
 refine oF (oF (oF (oF (oF (oV vPf (oV vM (oF (oF (oF (oF (oF (oV vPf (oV vA (o_nil ?_))))))))))))))
 exact sK [] [0, 1] (hN1 false hF)
 refine oF (oF (oF (oF (oF (oV vPf (oV vM (oF (oF (oF (oF (oF (oV vPf (oV vM (oF (oF ?_)))))))))))))))
 refine oF (oF (oF (oV vPf (oV vA (o_nil ?_)))))
 exact sK [] [0, 1] (hN1 false hF)
 intro t4 hF
 unfold F.defs.sameItems_c1_j1 at hF
 refine sat_wc (c_ret ?_)
 cases hF
 exact sR
theorem tri67_G (k : Nat) : (∀ {a_ : List Item} {b : List Item} {A1 : OA} {L1 C1 : Nat} {A2 : OA} {L2 C2 : Nat} {r : Bool}, F.defs.sameItems k a_ b = some r → Tri Tryz.prog 67 [sl A1 L1 C1, sl A2 L2 C2] [] [fS A1 L1 C1 4 eItem a_, fS A2 L2 C2 4 eItem b] (oR (bV r))) ∧ (∀ {s1 : List Item} {s2 : List Item} {A1 : OA} {L1 C1 : Nat} {A2 : OA} {L2 C2 : Nat} {r : Bool}, F.slices.EqualFunc_f105_106 k s1 s2 = some r → Tri Tryz.prog 105 [sl A1 L1 C1, sl A2 L2 C2, .func (.func 106) #[] #[]] [] [fS A1 L1 C1 4 eItem s1, fS A2 L2 C2 4 eItem s2] (oR (bV r))) ∧ (∀ {x_ : Item} {y_ : Item} {A1 : OA} {L1 C1 : Nat} {A2 : OA} {L2 C2 : Nat} {r : Bool}, F.defs.sameItems_c1 k x_ y_ = some r → Tri Tryz.prog 106 [.agg (vItem x_ A1 L1 C1).toArray, .agg (vItem y_ A2 L2 C2).toArray] [] [fS A1 L1 C1 4 eItem x_.Items, fS A2 L2 C2 4 eItem y_.Items] (oR (bV r))) := by
 induction k with
 | zero => exact ⟨(fun h => nomatch (show none = some _ from h)), (fun h => nomatch (show none = some _ from h)), (fun h => nomatch (show none = some _ from h))⟩
 | succ k ih => exact ⟨tri67_B k _ ih.2.1, tri105_106_B k _ ih.2.2, tri106_B k _ ih.1⟩
theorem tri67 {k : Nat} {a_ : List Item} {b : List Item} {A1 : OA} {L1 C1 : Nat} {A2 : OA} {L2 C2 : Nat} {r : Bool} (hF : F.defs.sameItems k a_ b = some r) :
    Tri Tryz.prog 67 [sl A1 L1 C1, sl A2 L2 C2] [] [fS A1 L1 C1 4 eItem a_, fS A2 L2 C2 4 eItem b] (oR (bV r)) := (tri67_G k).1 hF
theorem tri105_106 {k : Nat} {s1 : List Item} {s2 : List Item} {A1 : OA} {L1 C1 : Nat} {A2 : OA} {L2 C2 : Nat} {r : Bool} (hF : F.slices.EqualFunc_f105_106 k s1 s2 = some r) :
    Tri Tryz.prog 105 [sl A1 L1 C1, sl A2 L2 C2, .func (.func 106) #[] #[]] [] [fS A1 L1 C1 4 eItem s1, fS A2 L2 C2 4 eItem s2] (oR (bV r)) := (tri67_G k).2.1 hF
theorem tri106 {k : Nat} {x_ : Item} {y_ : Item} {A1 : OA} {L1 C1 : Nat} {A2 : OA} {L2 C2 : Nat} {r : Bool} (hF : F.defs.sameItems_c1 k x_ y_ = some r) :
    Tri Tryz.prog 106 [.agg (vItem x_ A1 L1 C1).toArray, .agg (vItem y_ A2 L2 C2).toArray] [] [fS A1 L1 C1 4 eItem x_.Items, fS A2 L2 C2 4 eItem y_.Items] (oR (bV r)) := (tri67_G k).2.2 hF
theorem tri66 {k : Nat} {x_ : Box} {y_ : Box} {A1 : OA} {L1 C1 : Nat} {A2 : OA} {L2 C2 : Nat} {r : Bool} (hF : F.defs.Same_c3 k x_ y_ = some r) :
    Tri Tryz.prog 66 [.agg #[sV x_.Cons, sl A1 L1 C1], .agg #[sV y_.Cons, sl A2 L2 C2]] [] [fS A1 L1 C1 4 eItem x_.Items, fS A2 L2 C2 4 eItem y_.Items] (oR (bV r)) := by
 unfold F.defs.Same_c3 at hF
 refine tri_intro (n := 17) Tryz.func66 rfl Tryz.ntmps66 rfl fun w X => c_seq (c_region (o_box rfl rfl rfl fun b => o_box rfl rfl rfl fun b1 => oV vA (o_seq (c_seq (c_region ((fD 0) (oV (vL 1 ty9) ((fD 0) (oV (vL 0 ty9) (oV (v_streq rfl rfl) (oV vM ?_)))))))))))
 refine oS 10 hF (fun hF => ?_) (fun hF => ?_)
 refine oN ((fD 1) (oN (oV (vL 1 ty62) (oN ((fD 1) (oN (oV (vL 0 ty62) (oN ?_))))))))
 obtain ⟨v, h2, hF⟩ := bd hF
 refine o_callSB call67 rfl (lent_f 0 rfl (lent_f 1 rfl lent_nil)) (tri67 h2 :) rfl (oV vPt (oV vA (o_seq (c_ret ?_))))
 cases hF
 exact sR
 refine oF (oF (oF (oF (oF (oV vPf (oV vA (o_seq (c_ret ?_))))))))
 cases hF
 exact sR
theorem tri65_66 {k : Nat} {s1 : List Box} {s2 : List Box} {A1 : OA} {L1 C1 : Nat} {A2 : OA} {L2 C2 : Nat} {r : Bool} (hF : F.slices.EqualFunc_f65_66 k s1 s2 = some r) :
    Tri Tryz.prog 65 [sl A1 L1 C1, sl A2 L2 C2, .func (.func 66) #[] #[]] [] [fS A1 L1 C1 2 eBox s1, fS A2 L2 C2 2 eBox s2] (oR (bV r)) := by
 unfold F.slices.EqualFunc_f65_66 at hF
 refine tri_intro (n := 32) Tryz.func65 rfl Tryz.ntmps65 rfl fun w X => c_seq (c_region (oV vA (o_seq (c_seq (c_seq (c_region (oV vM (oV (v_lenS (enc := eBox) s1 sl26 rfl (.f 0 rfl)) (oV vM (oV (v_lenS (enc := eBox) s2 sl26 rfl (.f 1 rfl)) (oV vB (o_seq ?_))))))))))))
 refine cC hF (fun hF => ?_) (fun hF => ?_)
 refine c_seq (c_region (oV vA (o_seq (c_ret ?_))))
 cases hF
 exact sR
 refine c_skip (sat_wc (c_seq (c_seq (c_region (oV vM (oV (v_lenS (enc := eBox) s1 sl26 rfl (.f 0 rfl)) (oV vM (o_seq ?_))))))))
 obtain ⟨o1, ho1, hF⟩ := bd hF
 refine c_cut (fun E N' => ∀ (d1 : Unit), o1 = .done d1 → Sat E [(0, sl A1 L1 C1), (1, sl A2 L2 C2), (6, bV false), (15, sl A1 L1 C1)] [] [fS A1 L1 C1 2 eBox s1, fS A2 L2 C2 2 eBox s2] N') (fun N1 hN1 => ?_) ?_
 refine c_block ?_
 refine c_loopE (fun E j a w => ∃ (t17 : Int), F.slices.EqualFunc_f65_66_l1 k s1 s2 j t17 = some o1 ∧ St E [(0, sl A1 L1 C1), (1, sl A2 L2 C2), (2, .func (.func 66) #[] #[]), (6, bV false), (15, sl A1 L1 C1), (16, iI (s1.length : Int)), (17, iI t17)] [] [fS A1 L1 C1 2 eBox s1, fS A2 L2 C2 2 eBox s2] a w) k ?_ ?_
 intro a w hs
 exact ⟨0, ho1, st_le [] (lea rfl) rfl (subs [0, 1] rfl) a w hs⟩
 rintro j a w ⟨t17, hL1, hs⟩
 rcases j with _ | j
 cases hL1
 refine wc_app hs ?_
 unfold F.slices.EqualFunc_f65_66_l1 at hL1
 refine c_seq (c_region (oV vB (o_seq (c_seq ?_))))
 refine cC hL1 (fun hL1 => ?_) (fun hL1 => ?_)
 refine c_skip (sat_wc (c_seq (c_block (c_seq (c_region (oV vM (ite_some hL1 ?_)))))))
 intro h3 hL1
 refine oV (v_indexAddr_s (xs := s1) (enc := eBox) sl26 rfl rfl (.f 0 rfl) h3) (o_load_s (xs := s1) (enc := eBox) ty64 rfl (.f 0 rfl) h3 rfl rfl rfl rfl rfl rfl ?_)
 intro A3 L3 C3
 refine o_alloc zero64 rfl rfl fun b => oV vA ((sT 0 ty64) (o_seq (c_seq (c_region ?_))))
 refine oV vM (oV vM (ite_some hL1 ?_))
 intro h4 hL1
 refine oV (v_indexAddr_s (xs := s2) (enc := eBox) sl26 rfl rfl (.f 2 rfl) h4) (o_load_s (xs := s2) (enc := eBox) ty64 rfl (.f 2 rfl) h4 rfl rfl rfl rfl rfl rfl ?_)
 intro A4 L4 C4
 refine o_alloc zero64 rfl rfl fun b1 => (sT 0 ty64) (o_seq (c_seq (c_region (oV vM (oV (vL 1 ty64) (oV (vL 0 ty64) ?_))))))
 obtain ⟨v, h5, hL1⟩ := bd hL1
 refine o_call [] call66 (cap := #[]) rfl rfl rfl (subs [1, 0] rfl) (by exact (tri66 h5 :)) rfl ?_
 rintro _ _ _ ⟨rfl, rfl, rfl⟩
 refine oV vN (o_seq ?_)
 refine cC hL1 (fun hL1 => ?_) (fun hL1 => ?_)
 refine c_seq (c_region (oV vA (o_seq (c_ret ?_))))
 cases hL1
 obtain rfl := lrf_ret hF
 exact sR
 refine c_skip (sat_wc (c_region (oV vB (oV vM (o_nil ?_)))))
 intro a w hs
 exact ⟨j, Nat.lt_succ_self j, IntKind.wrap .i64 (t17 + 1), hL1, st_le [] (lea rfl) rfl (subs [2, 3] rfl) a w hs⟩
 refine c_exit0 ?_
 cases hL1
 exact sK [] [0, 1] (hN1 () rfl)
 intro d1 hd
 subst hd
 replace hF := lrf_done hF
 refine sat_wc (c_seq (c_region (oV vA (o_seq (c_ret ?_)))))
 cases hF
 exact sR
theorem tri23 {k : Nat} {a_ : Def} {b : Def} {A1 : OA} {L1 C1 : Nat} {A2 : OA} {L2 C2 : Nat} {A3 : OA} {L3 C3 : Nat} {A4 : OA} {L4 C4 : Nat} {A5 : OA} {L5 C5 : Nat} {A6 : OA} {L6 C6 : Nat} {A7 : OA} {L7 C7 : Nat} {A8 : OA} {L8 C8 : Nat} {A9 : OA} {L9 C9 : Nat} {A10 : OA} {L10 C10 : Nat} {r : Bool} (hF : F.defs.Same k a_ b = some r) :
    Tri Tryz.prog 23 [.agg (vDef a_ A1 L1 C1 A2 L2 C2 A3 L3 C3 A4 L4 C4 A5 L5 C5).toArray, .agg (vDef b A6 L6 C6 A7 L7 C7 A8 L8 C8 A9 L9 C9 A10 L10 C10).toArray] [] [fS A1 L1 C1 5 eProd a_.Prods, fS A2 L2 C2 1 (eSl 2 eGroup) a_.Chains, fS A3 L3 C3 5 eFollow a_.Follows, fS A4 L4 C4 2 eReject a_.Rejects, fS A5 L5 C5 2 eBox a_.Boxes, fS A6 L6 C6 5 eProd b.Prods, fS A7 L7 C7 1 (eSl 2 eGroup) b.Chains, fS A8 L8 C8 5 eFollow b.Follows, fS A9 L9 C9 2 eReject b.Rejects, fS A10 L10 C10 2 eBox b.Boxes] (oR (bV r)) := by
 unfold F.defs.Same at hF
 refine tri_intro (n := 56) Tryz.func23 rfl Tryz.ntmps23 rfl fun w X => c_seq (c_region (o_box rfl rfl rfl fun b1 => o_box rfl rfl rfl fun b2 => oV vA (o_seq (c_seq (c_seq ?_)))))
 refine c_cut (fun E N' => ∀ (t34 : Bool), F.defs.Same_j1 k a_ b t34 = some r → Sat E [(0, .agg (vDef a_ A1 L1 C1 A2 L2 C2 A3 L3 C3 A4 L4 C4 A5 L5 C5).toArray), (1, .agg (vDef b A6 L6 C6 A7 L7 C7 A8 L8 C8 A9 L9 C9 A10 L10 C10).toArray), (2, pt b1), (3, pt b2), (4, bV false), (34, bV t34)] [.box b2 28 (vDef b A6 L6 C6 A7 L7 C7 A8 L8 C8 A9 L9 C9 A10 L10 C10), .box b1 28 (vDef a_ A1 L1 C1 A2 L2 C2 A3 L3 C3 A4 L4 C4 A5 L5 C5)] [fS A1 L1 C1 5 eProd a_.Prods, fS A2 L2 C2 1 (eSl 2 eGroup) a_.Chains, fS A3 L3 C3 5 eFollow a_.Follows, fS A4 L4 C4 2 eReject a_.Rejects, fS A5 L5 C5 2 eBox a_.Boxes, fS A6 L6 C6 5 eProd b.Prods, fS A7 L7 C7 1 (eSl 2 eGroup) b.Chains, fS A8 L8 C8 5 eFollow b.Follows, fS A9 L9 C9 2 eReject b.Rejects, fS A10 L10 C10 2 eBox b.Boxes] N') (fun N1 hN1 => ?_) ?_
 refine c_region ((fD 0) (oV (vL 1 ty9) ((fD 0) (oV (vL 0 ty9) (oV (v_strne rfl rfl) (oV vM ?_))))))
 refine oS 12 hF (fun hF => ?_) (fun hF => ?_)
 refine oF (oF (oF (oF (oF (oV vPt (oV vM (oF (oF (oF (oF (oF (oF (oV vPt (oV vM (oF ?_)))))))))))))))
 refine oF (oF (oF (oF (oF (oV vPt (o_nil ?_))))))
 exact sK [0, 0] [0, 1, 2, 3, 4, 5, 6, 7, 8, 9] (hN1 true hF)
 refine oN ((fD 1) (oN (oV (vL 1 ty9) (oN ((fD 1) (oN (oV (vL 0 ty9) (oN (oV (v_strne rfl rfl) (oV vPf (oV vM ?_)))))))))))
 refine oS 19 hF (fun hF => ?_) (fun hF => ?_)
 refine oF (oF (oF (oF (oF (oF (oV vPt (oV vM (oF (oF (oF (oF (oF (oF (oV vPt (o_nil ?_)))))))))))))))
 exact sK [0, 0] [0, 1, 2, 3, 4, 5, 6, 7, 8, 9] (hN1 true hF)
 refine oN ((fD 4) (oN (oV (vL 1 ty24) (oN ((fD 4) (oN (oV (vL 0 ty24) (oN ?_))))))))
 obtain ⟨v3, h9, hF⟩ := bd hF
 refine o_callSB call55 rfl (lent_f 2 rfl (lent_f 7 rfl lent_nil)) (tri55 h9 :) rfl (oN (oV vN (oV vPf (oV vM ?_))))
 refine oS 27 hF (fun hF => ?_) (fun hF => ?_)
 refine oF (oF (oF (oF (oF (oF (oV vPt (o_nil ?_)))))))
 exact sK [0, 0] [0, 1, 2, 3, 4, 5, 6, 7, 8, 9] (hN1 true hF)
 refine oN ((fD 5) (oN (oV (vL 1 ty25) (oN ((fD 5) (oN (oV (vL 0 ty25) (oN ?_))))))))
 obtain ⟨v4, h11, hF⟩ := bd hF
 refine o_callSB call56 rfl (lent_f 3 rfl (lent_f 8 rfl lent_nil)) (tri56 h11 :) rfl (oN (oV vN (oV vPf (o_nil ?_))))
 exact sK [0, 0] [0, 1, 2, 3, 4, 5, 6, 7, 8, 9] (hN1 (!v4) hF)
 intro t34 hF
 unfold F.defs.Same_j1 at hF
 refine sat_wc ?_
 refine cC hF (fun hF => ?_) (fun hF => ?_)
 refine c_seq (c_region (oV vA (o_seq (c_ret ?_))))
 cases hF
 exact sR
 refine c_skip (sat_wc (c_seq (c_region ((fD 2) (oV (vL 1 ty22) ((fD 2) (oV (vL 0 ty22) ?_)))))))
 obtain ⟨v, h2, hF⟩ := bd hF
 refine o_callSB call57 rfl (lent_f 0 rfl (lent_f 5 rfl lent_nil)) (tri57_58 h2 :) rfl (oV vA (o_seq (c_seq (c_region ((fD 3) (oV (vL 1 ty23) ((fD 3) (oV (vL 0 ty23) ?_))))))))
 obtain ⟨v1, h3, hF⟩ := bd hF
 refine o_callSB call60 rfl (lent_f 1 rfl (lent_f 6 rfl lent_nil)) (tri60_61 h3 :) rfl (oV vA (o_seq (c_seq (c_region (oV vM (oV vM ?_))))))
 refine oS 46 hF (fun hF => ?_) (fun hF => ?_)
 refine oN (oV vM (oV vPt (oV vM ?_)))
 refine oS 49 hF (fun hF => ?_) (fun hF => ?_)
 refine oN ((fD 6) (oN (oV (vL 1 ty26) (oN ((fD 6) (oN (oV (vL 0 ty26) (oN ?_))))))))
 obtain ⟨v2, h6, hF⟩ := bd hF
 refine o_callSB call65 rfl (lent_f 4 rfl (lent_f 9 rfl lent_nil)) (tri65_66 h6 :) rfl (oV vPt (oV vA (o_seq (c_ret ?_))))
 cases hF
 exact sR
 refine oF (oF (oF (oF (oF (oV vPf (oV vA (o_seq (c_ret ?_))))))))
 cases hF
 exact sR
 refine oF (oV vPf (oV vM (oF (oF (oF (oF (oF (oV vPf (oV vA (o_seq (c_ret ?_)))))))))))
 cases hF
 exact sR
theorem tri34_B (k : Nat) (g34 : List Item → List Item → Option Bool)
    (hg34 : ∀ {a_ : List Item} {b : List Item} {A1 : OA} {L1 C1 : Nat} {A2 : OA} {L2 C2 : Nat} {r : Bool}, g34 a_ b = some r → Tri Tryz.prog 34 [sl A1 L1 C1, sl A2 L2 C2] [] [fS A1 L1 C1 4 eItem a_, fS A2 L2 C2 4 eItem b] (oR (bV r))) {a_ : List Item} {b : List Item} {A1 : OA} {L1 C1 : Nat} {A2 : OA} {L2 C2 : Nat} {r : Bool} (hF : F.ref03.SameItems_B k g34 a_ b = some r) :
    Tri Tryz.prog 34 [sl A1 L1 C1, sl A2 L2 C2] [] [fS A1 L1 C1 4 eItem a_, fS A2 L2 C2 4 eItem b] (oR (bV r)) := by
 unfold F.ref03.SameItems_B at hF
 refine tri_intro (n := 68) Tryz.func34 rfl Tryz.ntmps34 rfl fun w X => c_seq (c_region (oV vA (o_seq (c_seq (c_seq (c_region (oV vM (oV (v_lenS (enc := eItem) a_ sl62 rfl (.f 0 rfl)) (oV vM (oV (v_lenS (enc := eItem) b sl62 rfl (.f 1 rfl)) (oV vB (o_seq ?_))))))))))))
 refine cC hF (fun hF => ?_) (fun hF => ?_)
 refine c_seq (c_region (oV vA (o_seq (c_ret ?_))))
 cases hF
 exact sR
 refine c_skip (sat_wc (c_seq (c_seq (c_region (oV vA (o_seq ?_))))))
 obtain ⟨o1, ho1, hF⟩ := bd hF
 refine c_cut (fun E N' => ∀ (d1 : Unit), o1 = .done d1 → Sat E [(0, sl A1 L1 C1), (1, sl A2 L2 C2), (4, bV false)] [] [fS A1 L1 C1 4 eItem a_, fS A2 L2 C2 4 eItem b] N') (fun N1 hN1 => ?_) ?_
 refine c_block ?_
 refine c_loopE (fun E j a w => ∃ (i : Int), F.ref03.SameItems_l1 a_ b g34 j i = some o1 ∧ St E [(0, sl A1 L1 C1), (1, sl A2 L2 C2), (4, bV false), (5, iI i)] [] [fS A1 L1 C1 4 eItem a_, fS A2 L2 C2 4 eItem b] a w) k ?_ ?_
 intro a w hs
 exact ⟨0, ho1, st_le [] (lea rfl) rfl (subs [0, 1] rfl) a w hs⟩
 rintro j a w ⟨i, hL1, hs⟩
 rcases j with _ | j
 cases hL1
 refine wc_app hs ?_
 unfold F.ref03.SameItems_l1 at hL1
 refine c_seq (c_seq (c_region (oV vM (oV vM (oV (v_lenS (enc := eItem) a_ sl62 rfl (.f 0 rfl)) (oV vB (o_seq ?_)))))))
 refine cC hL1 (fun hL1 => ?_) (fun hL1 => ?_)
 refine c_skip (sat_wc (c_seq (c_block (c_seq ?_))))
 refine c_cut (fun E N' => ∀ (t67 : Bool), F.ref03.SameItems_j2 (F.ref03.SameItems_l1 a_ b g34 j) i t67 = some o1 → Sat E [(0, sl A1 L1 C1), (1, sl A2 L2 C2), (4, bV false), (5, iI i), (67, bV t67)] [] [fS A1 L1 C1 4 eItem a_, fS A2 L2 C2 4 eItem b] N') (fun N2 hN2 => ?_) ?_
 refine c_draw (n := 51) [] mixed rfl rfl (dv 0 rfl vM (dv 1 rfl vM (ite_some hL1 ?_)))
 intro h4 hL1
 refine dv 2 rfl (v_indexAddr_s (xs := a_) (enc := eItem) sl62 rfl rfl (.f 0 rfl) h4) (dv 3 rfl (v_fieldAddr (v := .pointer (some ⟨blkA A1, offA A1 + (Int.toNat i * 4 + 0), none⟩)) rfl (fun _ => by kernel_rfl)) (dv 4 rfl (v_load_s (ds := [.int .i64 ((at_ a_ i).Kind)]) (xs := a_) (enc := eItem) ty3 rfl (.f 0 rfl) h4 (by simp only [eItem_eq] <;> rfl) rfl rfl rfl rfl rfl rfl) (dv 5 rfl vM (dv 6 rfl vM (ite_some hL1 ?_)))))
 intro h5 hL1
 refine dv 7 rfl (v_indexAddr_s (xs := b) (enc := eItem) sl62 rfl rfl (.f 1 rfl) h5) (dv 8 rfl (v_fieldAddr (v := .pointer (some ⟨blkA A2, offA A2 + (Int.toNat i * 4 + 0), none⟩)) rfl (fun _ => by kernel_rfl)) (dv 9 rfl (v_load_s (ds := [.int .i64 ((at_ b i).Kind)]) (xs := b) (enc := eItem) ty3 rfl (.f 1 rfl) h5 (by simp only [eItem_eq] <;> rfl) rfl rfl rfl rfl rfl rfl) (dv 10 rfl vB (dv 11 rfl vM ?_))))
 refine d_split (t := 28) rfl (fun h6 => ?_) (fun h6 => ?_)
 replace hL1 := ite_t h6 hL1
 refine dF 12 rfl (dF 13 rfl (dF 14 rfl (dF 15 rfl (dF 16 rfl (dF 17 rfl (dF 18 rfl (dF 19 rfl (dF 20 rfl (dF 21 rfl (dF 22 rfl (dv 23 rfl vPt (dv 24 rfl vM (dF 25 rfl (dF 26 rfl (dF 27 rfl ?_)))))))))))))))
 refine dF 28 rfl (dF 29 rfl (dF 30 rfl (dF 31 rfl (dF 32 rfl (dF 33 rfl (dF 34 rfl (dF 35 rfl (dv 36 rfl vPt (dv 37 rfl vM (dF 38 rfl (dF 39 rfl (dF 40 rfl (dF 41 rfl (dF 42 rfl (dF 43 rfl ?_)))))))))))))))
 refine dF 44 rfl (dF 45 rfl (dF 46 rfl (dF 47 rfl (dF 48 rfl (dF 49 rfl (dv 50 rfl vPt (dD ?_)))))))
 exact sK [] [0, 1] (hN2 true hL1)
 replace hL1 := ite_f h6 hL1
 refine dw 12 rfl rfl rfl vM (dw 13 rfl rfl rfl vM (dw 14 rfl rfl rfl (v_indexAddr_s (xs := a_) (enc := eItem) sl62 rfl rfl (.f 0 rfl) h4) (dw 15 rfl rfl rfl (v_fieldAddr (v := .pointer (some ⟨blkA A1, offA A1 + (Int.toNat i * 4 + 1), none⟩)) rfl (fun _ => by kernel_rfl)) (dw 16 rfl rfl rfl (v_load_s (ds := [.str ((at_ a_ i).Text)]) (xs := a_) (enc := eItem) ty9 rfl (.f 0 rfl) h4 (by simp only [eItem_eq] <;> rfl) rfl rfl rfl rfl rfl rfl) (dw 17 rfl rfl rfl vM (dw 18 rfl rfl rfl vM (dw 19 rfl rfl rfl (v_indexAddr_s (xs := b) (enc := eItem) sl62 rfl rfl (.f 1 rfl) h5) (dw 20 rfl rfl rfl (v_fieldAddr (v := .pointer (some ⟨blkA A2, offA A2 + (Int.toNat i * 4 + 1), none⟩)) rfl (fun _ => by kernel_rfl)) (dw 21 rfl rfl rfl (v_load_s (ds := [.str ((at_ b i).Text)]) (xs := b) (enc := eItem) ty9 rfl (.f 1 rfl) h5 (by simp only [eItem_eq] <;> rfl) rfl rfl rfl rfl rfl rfl) (dw 22 rfl rfl rfl (v_strne rfl rfl) (dv 23 rfl vPf (dv 24 rfl vM ?_))))))))))))
 refine d_split (t := 41) rfl (fun h7 => ?_) (fun h7 => ?_)
 replace hL1 := ite_t h7 hL1
 refine dF 25 rfl (dF 26 rfl (dF 27 rfl (dF 28 rfl (dF 29 rfl (dF 30 rfl (dF 31 rfl (dF 32 rfl (dF 33 rfl (dF 34 rfl (dF 35 rfl (dv 36 rfl vPt (dv 37 rfl vM (dF 38 rfl (dF 39 rfl (dF 40 rfl ?_)))))))))))))))
 refine dF 41 rfl (dF 42 rfl (dF 43 rfl (dF 44 rfl (dF 45 rfl (dF 46 rfl (dF 47 rfl (dF 48 rfl (dF 49 rfl (dv 50 rfl vPt (dD ?_))))))))))
 exact sK [] [0, 1] (hN2 true hL1)
 replace hL1 := ite_f h7 hL1
 refine dw 25 rfl rfl rfl vM (dw 26 rfl rfl rfl vM (dw 27 rfl rfl rfl (v_indexAddr_s (xs := a_) (enc := eItem) sl62 rfl rfl (.f 0 rfl) h4) (dw 28 rfl rfl rfl (v_fieldAddr (v := .pointer (some ⟨blkA A1, offA A1 + (Int.toNat i * 4 + 2), none⟩)) rfl (fun _ => by kernel_rfl)) (dw 29 rfl rfl rfl (v_load_s (ds := [.int .i64 ((at_ a_ i).N_)]) (xs := a_) (enc := eItem) ty3 rfl (.f 0 rfl) h4 (by simp only [eItem_eq] <;> rfl) rfl rfl rfl rfl rfl rfl) (dw 30 rfl rfl rfl vM (dw 31 rfl rfl rfl vM (dw 32 rfl rfl rfl (v_indexAddr_s (xs := b) (enc := eItem) sl62 rfl rfl (.f 1 rfl) h5) (dw 33 rfl rfl rfl (v_fieldAddr (v := .pointer (some ⟨blkA A2, offA A2 + (Int.toNat i * 4 + 2), none⟩)) rfl (fun _ => by kernel_rfl)) (dw 34 rfl rfl rfl (v_load_s (ds := [.int .i64 ((at_ b i).N_)]) (xs := b) (enc := eItem) ty3 rfl (.f 1 rfl) h5 (by simp only [eItem_eq] <;> rfl) rfl rfl rfl rfl rfl rfl) (dw 35 rfl rfl rfl vB (dv 36 rfl vPf (dv 37 rfl vM ?_))))))))))))
 refine d_split (t := 54) rfl (fun h8 => ?_) (fun h8 => ?_)
 replace hL1 := ite_t h8 hL1
 refine dF 38 rfl (dF 39 rfl (dF 40 rfl (dF 41 rfl (dF 42 rfl (dF 43 rfl (dF 44 rfl (dF 45 rfl (dF 46 rfl (dF 47 rfl (dF 48 rfl (dF 49 rfl (dv 50 rfl vPt (dD ?_)))))))))))))
 exact sK [] [0, 1] (hN2 true hL1)
 replace hL1 := ite_f h8 hL1
 refine dw 38 rfl rfl rfl vM (dw 39 rfl rfl rfl vM (dw 40 rfl rfl rfl (v_indexAddr_s (xs := a_) (enc := eItem) sl62 rfl rfl (.f 0 rfl) h4) (dw 41 rfl rfl rfl (v_fieldAddr (v := .pointer (some ⟨blkA A1, offA A1 + (Int.toNat i * 4 + 3), none⟩)) rfl (fun _ => by kernel_rfl)) (dw 43 rfl rfl rfl vM (dw 44 rfl rfl rfl vM (dw 45 rfl rfl rfl (v_indexAddr_s (xs := b) (enc := eItem) sl62 rfl rfl (.f 1 rfl) h5) (dw 46 rfl rfl rfl (v_fieldAddr (v := .pointer (some ⟨blkA A2, offA A2 + (Int.toNat i * 4 + 3), none⟩)) rfl (fun _ => by kernel_rfl)) ?_)))))))
 obtain ⟨v, h9, hL1⟩ := bd hL1
 refine d_all [42, 47] (by kernel_rfl) (by simp) ⟨⟨_, rfl, ?_⟩, ⟨_, rfl, ?_⟩, trivial⟩
 refine oN (o_load_s (ds := [.slice 4 (((at_ a_ i).Items).map eItem)]) (xs := a_) (enc := eItem) ty62 rfl (.f 0 rfl) h4 (by simp only [eItem_eq] <;> rfl) rfl rfl rfl rfl rfl ?_)
 intro A3 L3 C3
 refine dN [] 1 (dO 47 rfl (oN (o_load_s (ds := [.slice 4 (((at_ b i).Items).map eItem)]) (xs := b) (enc := eItem) ty62 rfl (.f 2 rfl) h5 (by simp only [eItem_eq] <;> rfl) rfl rfl rfl rfl rfl ?_)))
 intro A4 L4 C4
 refine dN [] 2 (dO 48 rfl (oN (o_callSB call34 rfl (lent_f 1 rfl (lent_f 0 rfl lent_nil)) (hg34 h9 :) rfl (dN [] 2 (dw 49 rfl rfl rfl vN (dv 50 rfl vPf (dD ?_)))))))
 exact sK [] [2, 3] (hN2 (!v) hL1)
 refine oN (o_load_s (ds := [.slice 4 (((at_ b i).Items).map eItem)]) (xs := b) (enc := eItem) ty62 rfl (.f 1 rfl) h5 (by simp only [eItem_eq] <;> rfl) rfl rfl rfl rfl rfl ?_)
 intro A3 L3 C3
 refine dN [] 1 (dO 42 rfl (oN (o_load_s (ds := [.slice 4 (((at_ a_ i).Items).map eItem)]) (xs := a_) (enc := eItem) ty62 rfl (.f 1 rfl) h4 (by simp only [eItem_eq] <;> rfl) rfl rfl rfl rfl rfl ?_)))
 intro A4 L4 C4
 refine dN [] 2 (dO 48 rfl (oN (o_callSB call34 rfl (lent_f 0 rfl (lent_f 1 rfl lent_nil)) (hg34 h9 :) rfl (dN [] 2 (dw 49 rfl rfl rfl vN (dv 50 rfl vPf (dD ?_)))))))
 exact sK [] [2, 3] (hN2 (!v) hL1)
 intro t67 hL1
 unfold F.ref03.SameItems_j2 at hL1
 refine sat_wc ?_
 refine cC hL1 (fun hL1 => ?_) (fun hL1 => ?_)
 refine c_seq (c_region (oV vA (o_seq (c_ret ?_))))
 cases hL1
 obtain rfl := lrf_ret hF
 exact sR
 refine c_skip (sat_wc (c_region (oV vM (oV vB (oV vA (o_nil ?_))))))
 intro a w hs
 exact ⟨j, Nat.lt_succ_self j, IntKind.wrap .i64 (i + 1), hL1, st_le [] (lea rfl) rfl (subs [0, 1] rfl) a w hs⟩
 refine c_exit0 ?_
 cases hL1
 exact sK [] [0, 1] (hN1 () rfl)
 intro d1 hd
 subst hd
 replace hF := lrf_done hF
 refine sat_wc (c_seq (c_region (oV vA (o_seq (c_ret ?_)))))
 cases hF
 exact sR
theorem tri34 (k : Nat) : (∀ {a_ : List Item} {b : List Item} {A1 : OA} {L1 C1 : Nat} {A2 : OA} {L2 C2 : Nat} {r : Bool}, F.ref03.SameItems k a_ b = some r → Tri Tryz.prog 34 [sl A1 L1 C1, sl A2 L2 C2] [] [fS A1 L1 C1 4 eItem a_, fS A2 L2 C2 4 eItem b] (oR (bV r))) := by
 induction k with
 | zero => exact fun h => nomatch (show none = some _ from h)
 | succ k ih => exact tri34_B k _ ih
theorem tri35 {k : Nat} {a_ : List Prod} {b : List Prod} {A1 : OA} {L1 C1 : Nat} {A2 : OA} {L2 C2 : Nat} {r : Bool} (hF : F.ref03.sameProds k a_ b = some r) :
    Tri Tryz.prog 35 [sl A1 L1 C1, sl A2 L2 C2] [] [fS A1 L1 C1 5 eProd a_, fS A2 L2 C2 5 eProd b] (oR (bV r)) := by
 unfold F.ref03.sameProds at hF
 refine tri_intro (n := 81) Tryz.func35 rfl Tryz.ntmps35 rfl fun w X => c_seq (c_region (oV vA (o_seq (c_seq (c_seq (c_region (oV vM (oV (v_lenS (enc := eProd) a_ sl22 rfl (.f 0 rfl)) (oV vM (oV (v_lenS (enc := eProd) b sl22 rfl (.f 1 rfl)) (oV vB (o_seq ?_))))))))))))
 refine cC hF (fun hF => ?_) (fun hF => ?_)
 refine c_seq (c_region (oV vA (o_seq (c_ret ?_))))
 cases hF
 exact sR
 refine c_skip (sat_wc (c_seq (c_seq (c_region (oV vA (o_seq ?_))))))
 obtain ⟨o1, ho1, hF⟩ := bd hF
 refine c_cut (fun E N' => ∀ (d1 : Unit), o1 = .done d1 → Sat E [(0, sl A1 L1 C1), (1, sl A2 L2 C2), (4, bV false)] [] [fS A1 L1 C1 5 eProd a_, fS A2 L2 C2 5 eProd b] N') (fun N1 hN1 => ?_) ?_
 refine c_block ?_
 refine c_loopE (fun E j a w => ∃ (i : Int), F.ref03.sameProds_l1 k a_ b j i = some o1 ∧ St E [(0, sl A1 L1 C1), (1, sl A2 L2 C2), (4, bV false), (5, iI i)] [] [fS A1 L1 C1 5 eProd a_, fS A2 L2 C2 5 eProd b] a w) k ?_ ?_
 intro a w hs
 exact ⟨0, ho1, st_le [] (lea rfl) rfl (subs [0, 1] rfl) a w hs⟩
 rintro j a w ⟨i, hL1, hs⟩
 rcases j with _ | j
 cases hL1
 refine wc_app hs ?_
 unfold F.ref03.sameProds_l1 at hL1
 refine c_seq (c_seq (c_region (oV vM (oV vM (oV (v_lenS (enc := eProd) a_ sl22 rfl (.f 0 rfl)) (oV vB (o_seq ?_)))))))
 refine cC hL1 (fun hL1 => ?_) (fun hL1 => ?_)
 refine c_skip (sat_wc (c_seq ?_))
 refine c_cut (fun E N' => ∀ (k_ : Int) (A3 : OA) (L3 C3 : Nat) (A4 : OA) (L4 C4 : Nat) (b1 : Nat) (b2 : Nat), F.ref03.sameProds_j2 (F.ref03.sameProds_l1 k a_ b j) i k_ = some o1 → Sat E [(0, sl A1 L1 C1), (1, sl A2 L2 C2), (4, bV false), (5, iI i), (6, pt b1), (7, pt b2), (8, iI k_)] [.box b1 57 (vProd (at_ a_ i) A3 L3 C3), .box b2 57 (vProd (at_ b i) A4 L4 C4)] [fS A1 L1 C1 5 eProd a_, fS A2 L2 C2 5 eProd b, fS A3 L3 C3 8 eSym ((at_ a_ i).Syms), fS A4 L4 C4 8 eSym ((at_ b i).Syms)] N') (fun N2 hN2 => ?_) ?_
 refine c_block (c_seq ?_)
 refine c_cut (fun E N' => ∀ (A5 : OA) (L5 C5 : Nat) (A6 : OA) (L6 C6 : Nat) (b3 : Nat) (b4 : Nat), F.ref03.sameProds_j3 k a_ i b (F.ref03.sameProds_l1 k a_ b j) = some o1 → Sat E [(0, sl A1 L1 C1), (1, sl A2 L2 C2), (4, bV false), (5, iI i), (6, pt b3), (7, pt b4)] [.box b3 57 (vProd (at_ a_ i) A5 L5 C5), .box b4 57 (vProd (at_ b i) A6 L6 C6)] [fS A1 L1 C1 5 eProd a_, fS A2 L2 C2 5 eProd b, fS A5 L5 C5 8 eSym ((at_ a_ i).Syms), fS A6 L6 C6 8 eSym ((at_ b i).Syms)] N') (fun N5 hN5 => ?_) ?_
 refine ite_some hL1 fun h12 hL1 => c_elem (xs := a_) (enc := eProd) 0 rfl h12 rfl rfl fun A7 L7 C7 => ite_some hL1 fun h13 hL1 => c_elem (xs := b) (enc := eProd) 3 rfl h13 rfl rfl fun A8 L8 C8 => c_draw (n := 12) [] mixed rfl rfl (dv 0 rfl vM (dv 1 rfl vM (dv 2 rfl (v_indexAddr_s (xs := a_) (enc := eProd) sl22 rfl rfl (.f 4 rfl) h12) (dv 3 rfl (v_load_cl 2 ty57 rfl rfl rfl rfl rfl) (dv 4 rfl vM (dv 5 rfl vM (dv 6 rfl (v_indexAddr_s (xs := b) (enc := eProd) sl22 rfl rfl (.f 5 rfl) h13) (dv 7 rfl (v_load_cl 0 ty57 rfl rfl rfl rfl rfl) ?_))))))))
 refine d_all [8, 9] (by kernel_rfl) (by simp) ⟨⟨_, rfl, ?_⟩, ⟨_, rfl, ?_⟩, trivial⟩
 refine o_alloc zero57 rfl rfl fun b5 => dN [] 0 (dO 9 rfl (o_alloc zero57 rfl rfl ?_))
 intro b6
 refine dN [] 0 (dO 10 rfl ((sT 1 ty57) (dN [] 0 (dO 11 rfl ((sT 0 ty57) (dN [] 0 (dD ?_)))))))
 exact sK [1, 0] [4, 5, 3, 1] (hN5 A7 L7 C7 A8 L8 C8 b5 b6 hL1)
 refine o_alloc zero57 rfl rfl fun b5 => dN [] 0 (dO 8 rfl (o_alloc zero57 rfl rfl ?_))
 intro b6
 refine dN [] 0 (dO 10 rfl ((sT 0 ty57) (dN [] 0 (dO 11 rfl ((sT 1 ty57) (dN [] 0 (dD ?_)))))))
 exact sK [0, 0] [4, 5, 3, 1] (hN5 A7 L7 C7 A8 L8 C8 b6 b5 hL1)
 intro A5 L5 C5 A6 L6 C6 b3 b4 hL1
 unfold F.ref03.sameProds_j3 at hL1
 refine sat_wc (c_seq (c_seq ?_))
 refine c_cut (fun E N' => ∀ (t62 : Bool), F.ref03.sameProds_j4 k a_ i b (F.ref03.sameProds_l1 k a_ b j) t62 = some o1 → Sat E [(0, sl A1 L1 C1), (1, sl A2 L2 C2), (4, bV false), (5, iI i), (6, pt b3), (7, pt b4), (62, bV t62)] [.box b3 57 (vProd (at_ a_ i) A5 L5 C5), .box b4 57 (vProd (at_ b i) A6 L6 C6)] [fS A1 L1 C1 5 eProd a_, fS A2 L2 C2 5 eProd b, fS A5 L5 C5 8 eSym ((at_ a_ i).Syms), fS A6 L6 C6 8 eSym ((at_ b i).Syms)] N') (fun N5 hN5 => ?_) ?_
 refine c_region ((fD 0) (oV (vL 0 ty4) ((fD 0) (oV (vL 1 ty4) (oV (v_boolne rfl rfl Tryz.underlying4) (oV vM ?_))))))
 refine oS 33 hL1 (fun hL1 => ?_) (fun hL1 => ?_)
 refine oF (oF (oF (oF (oF (oV vPt (oV vM (oF (oF (oF (oF (oF (oV vPt (oV vM (oF (oF ?_)))))))))))))))
 refine oF (oF (oF (oV vPt (oV vM (oF (oF (oF (oF (oF (oF (oF (oV vPt (o_nil ?_)))))))))))))
 exact sK [0, 0] [0, 1, 2, 3] (hN5 true hL1)
 refine oN ((fD 1) (oN (oV (vL 0 ty9) (oN ((fD 1) (oN (oV (vL 1 ty9) (oN (oV (v_strne rfl rfl) (oV vPf (oV vM ?_)))))))))))
 refine oS 40 hL1 (fun hL1 => ?_) (fun hL1 => ?_)
 refine oF (oF (oF (oF (oF (oV vPt (oV vM (oF (oF (oF (oF (oF (oV vPt (oV vM (oF (oF ?_)))))))))))))))
 refine oF (oF (oF (oF (oF (oV vPt (o_nil ?_))))))
 exact sK [0, 0] [0, 1, 2, 3] (hN5 true hL1)
 refine oN ((fD 2) (oN (oV (vL 0 ty9) (oN ((fD 2) (oN (oV (vL 1 ty9) (oN (oV (v_strne rfl rfl) (oV vPf (oV vM ?_)))))))))))
 refine oS 47 hL1 (fun hL1 => ?_) (fun hL1 => ?_)
 refine oF (oF (oF (oF (oF (oV vPt (oV vM (oF (oF (oF (oF (oF (oF (oF (oV vPt (o_nil ?_)))))))))))))))
 exact sK [0, 0] [0, 1, 2, 3] (hN5 true hL1)
 refine oN ((fD 3) (oN (oV (vL 0 ty4) (oN ((fD 3) (oN (oV (vL 1 ty4) (oN (oV (v_boolne rfl rfl Tryz.underlying4) (oV vPf (oV vM ?_)))))))))))
 refine oS 54 hL1 (fun hL1 => ?_) (fun hL1 => ?_)
 refine oF (oF (oF (oF (oF (oF (oF (oV vPt (o_nil ?_))))))))
 exact sK [0, 0] [0, 1, 2, 3] (hN5 true hL1)
 refine oN ((fD 4) (oN (oV (vL 0 ty55) (oN (oV (v_lenS (enc := eSym) ((at_ a_ i).Syms) sl55 rfl (.f 2 rfl)) (oN ((fD 4) (oN (oV (vL 1 ty55) (oN (oV (v_lenS (enc := eSym) ((at_ b i).Syms) sl55 rfl (.f 3 rfl)) (oN (oV vB (oV vPf (o_nil ?_)))))))))))))))
 exact sK [0, 0] [0, 1, 2, 3] (hN5 ((((at_ a_ i).Syms).length : Int) != (((at_ b i).Syms).length : Int)) hL1)
 intro t62 hL1
 unfold F.ref03.sameProds_j4 at hL1
 refine sat_wc ?_
 refine cC hL1 (fun hL1 => ?_) (fun hL1 => ?_)
 refine c_seq (c_region (oV vA (o_seq (c_ret ?_))))
 cases hL1
 obtain rfl := lrf_ret hF
 exact sR
 refine c_skip (sat_wc (c_seq (c_region (oV vA (o_seq ?_)))))
 obtain ⟨o5, ho5, hL1⟩ := bd hL1
 refine c_cut (fun E N' => ∀ (d5 : Int), o5 = .done d5 → Sat E [(0, sl A1 L1 C1), (1, sl A2 L2 C2), (4, bV false), (5, iI i), (6, pt b3), (7, pt b4), (8, iI d5)] [.box b3 57 (vProd (at_ a_ i) A5 L5 C5), .box b4 57 (vProd (at_ b i) A6 L6 C6)] [fS A1 L1 C1 5 eProd a_, fS A2 L2 C2 5 eProd b, fS A5 L5 C5 8 eSym ((at_ a_ i).Syms), fS A6 L6 C6 8 eSym ((at_ b i).Syms)] N') (fun N5 hN5 => ?_) ?_
 refine c_block ?_
 refine c_loopE (fun E j a w => ∃ (k_1 : Int), F.ref03.sameProds_l5 a_ i b j k_1 = some o5 ∧ St E [(0, sl A1 L1 C1), (1, sl A2 L2 C2), (4, bV false), (5, iI i), (6, pt b3), (7, pt b4), (8, iI k_1)] [.box b3 57 (vProd (at_ a_ i) A5 L5 C5), .box b4 57 (vProd (at_ b i) A6 L6 C6)] [fS A1 L1 C1 5 eProd a_, fS A2 L2 C2 5 eProd b, fS A5 L5 C5 8 eSym ((at_ a_ i).Syms), fS A6 L6 C6 8 eSym ((at_ b i).Syms)] a w) k ?_ ?_
 intro a w hs
 exact ⟨0, ho5, st_le [0, 0] (lea rfl) rfl (subs [0, 1, 2, 3] rfl) a w hs⟩
 rintro j a w ⟨k_1, hL5, hs⟩
 rcases j with _ | j
 cases hL5
 refine wc_app hs ?_
 unfold F.ref03.sameProds_l5 at hL5
 refine c_seq (c_seq (c_region (oV vM ((fD 4) (oV (vL 0 ty55) (oV (v_lenS (enc := eSym) ((at_ a_ i).Syms) sl55 rfl (.f 2 rfl)) (oV vB (o_seq ?_))))))))
 refine cC hL5 (fun hL5 => ?_) (fun hL5 => ?_)
 refine c_skip (sat_wc (c_seq (c_block (c_seq (c_draw (n := 11) [0, 0] mixed rfl rfl (dv 0 rfl (vF 4) (dv 1 rfl (vL 0 ty55) (dv 2 rfl vM (ite_some hL5 ?_)))))))))
 intro h5 hL5
 refine dv 3 rfl (v_indexAddr_s (xs := (at_ a_ i).Syms) (enc := eSym) sl55 rfl rfl (.f 2 rfl) h5) (dv 4 rfl (v_load_s (xs := (at_ a_ i).Syms) (enc := eSym) ty114 rfl (.f 2 rfl) h5 rfl rfl rfl rfl rfl rfl rfl) (dv 5 rfl (vF 4) (dv 6 rfl (vL 1 ty55) (dv 7 rfl vM (ite_some hL5 ?_)))))
 intro h6 hL5
 refine ?_
 refine dv 8 rfl (v_indexAddr_s (xs := (at_ b i).Syms) (enc := eSym) sl55 rfl rfl (.f 3 rfl) h6) (dv 9 rfl (v_load_s (xs := (at_ b i).Syms) (enc := eSym) ty114 rfl (.f 3 rfl) h6 rfl rfl rfl rfl rfl rfl rfl) (dv 10 rfl (v_agne 3 rfl rfl (eq114 ((at_ ((at_ a_ i).Syms) k_1).Kind) ((at_ ((at_ a_ i).Syms) k_1).Text) ((at_ ((at_ a_ i).Syms) k_1).Set.w0) ((at_ ((at_ a_ i).Syms) k_1).Set.w1) ((at_ ((at_ a_ i).Syms) k_1).Set.w2) ((at_ ((at_ a_ i).Syms) k_1).Set.w3) ((at_ ((at_ a_ i).Syms) k_1).Name) ((at_ ((at_ a_ i).Syms) k_1).Sep) ((at_ ((at_ b i).Syms) k_1).Kind) ((at_ ((at_ b i).Syms) k_1).Text) ((at_ ((at_ b i).Syms) k_1).Set.w0) ((at_ ((at_ b i).Syms) k_1).Set.w1) ((at_ ((at_ b i).Syms) k_1).Set.w2) ((at_ ((at_ b i).Syms) k_1).Set.w3) ((at_ ((at_ b i).Syms) k_1).Name) ((at_ ((at_ b i).Syms) k_1).Sep)) rfl guard114) (d_done_seq (by kernel_rfl) ?_)))
 refine cC hL5 (fun hL5 => ?_) (fun hL5 => ?_)
 refine c_seq (c_region (oV vA (o_seq (c_ret ?_))))
 cases hL5
 obtain rfl := lr_ret hL1
 obtain rfl := lrf_ret hF
 exact sR
 refine c_skip (sat_wc (c_region (oV vM (oV vB (oV vA (o_nil ?_))))))
 intro a w hs
 exact ⟨j, Nat.lt_succ_self j, IntKind.wrap .i64 (k_1 + 1), hL5, st_le [0, 0] (lea rfl) rfl (subs [0, 1, 2, 3] rfl) a w hs⟩
 refine c_exit0 ?_
 cases hL5
 exact sK [0, 0] [0, 1, 2, 3] (hN5 k_1 rfl)
 intro d5 hd
 subst hd
 replace hL1 := lr_done hL1
 exact sK [0, 0] [0, 1, 2, 3] (hN2 d5 A5 L5 C5 A6 L6 C6 b3 b4 hL1)
 intro k_ A3 L3 C3 A4 L4 C4 b1 b2 hL1
 unfold F.ref03.sameProds_j2 at hL1
 refine sat_wc (c_region (oV vM (oV vB (oV vA (o_nil ?_)))))
 intro a w hs
 exact ⟨j, Nat.lt_succ_self j, IntKind.wrap .i64 (i + 1), hL1, st_le [] (lea rfl) rfl (subs [0, 1] rfl) a w hs⟩
 refine c_exit0 ?_
 cases hL1
 exact sK [] [0, 1] (hN1 () rfl)
 intro d1 hd
 subst hd
 replace hF := lrf_done hF
 refine sat_wc (c_seq (c_region (oV vA (o_seq (c_ret ?_)))))
 cases hF
 exact sR
theorem tri78 {k : Nat} {a_ : List (List UInt8)} {b : List (List UInt8)} {A1 : OA} {L1 C1 : Nat} {A2 : OA} {L2 C2 : Nat} {r : Bool} (hF : F.ref03.SameNames k a_ b = some r) :
    Tri Tryz.prog 78 [sl A1 L1 C1, sl A2 L2 C2] [] [fS A1 L1 C1 1 eStr a_, fS A2 L2 C2 1 eStr b] (oR (bV r)) := by
 unfold F.ref03.SameNames at hF
 refine tri_intro (n := 26) Tryz.func78 rfl Tryz.ntmps78 rfl fun w X => c_seq (c_region (oV vA (o_seq (c_seq (c_seq (c_region (oV vM (oV (v_lenS (enc := eStr) a_ sl59 rfl (.f 0 rfl)) (oV vM (oV (v_lenS (enc := eStr) b sl59 rfl (.f 1 rfl)) (oV vB (o_seq ?_))))))))))))
 refine cC hF (fun hF => ?_) (fun hF => ?_)
 refine c_seq (c_region (oV vA (o_seq (c_ret ?_))))
 cases hF
 exact sR
 refine c_skip (sat_wc (c_seq (c_seq (c_region (oV vA (o_seq ?_))))))
 obtain ⟨o1, ho1, hF⟩ := bd hF
 refine c_cut (fun E N' => ∀ (d1 : Unit), o1 = .done d1 → Sat E [(0, sl A1 L1 C1), (1, sl A2 L2 C2), (4, bV false)] [] [fS A1 L1 C1 1 eStr a_, fS A2 L2 C2 1 eStr b] N') (fun N1 hN1 => ?_) ?_
 refine c_block ?_
 refine c_loopE (fun E j a w => ∃ (i : Int), F.ref03.SameNames_l1 a_ b j i = some o1 ∧ St E [(0, sl A1 L1 C1), (1, sl A2 L2 C2), (4, bV false), (5, iI i)] [] [fS A1 L1 C1 1 eStr a_, fS A2 L2 C2 1 eStr b] a w) k ?_ ?_
 intro a w hs
 exact ⟨0, ho1, st_le [] (lea rfl) rfl (subs [0, 1] rfl) a w hs⟩
 rintro j a w ⟨i, hL1, hs⟩
 rcases j with _ | j
 cases hL1
 refine wc_app hs ?_
 unfold F.ref03.SameNames_l1 at hL1
 refine c_seq (c_seq (c_region (oV vM (oV vM (oV (v_lenS (enc := eStr) a_ sl59 rfl (.f 0 rfl)) (oV vB (o_seq ?_)))))))
 refine cC hL1 (fun hL1 => ?_) (fun hL1 => ?_)
 refine c_skip (sat_wc (c_seq (c_block (c_seq (c_draw (n := 9) [] mixed rfl rfl (dv 0 rfl vM (dv 1 rfl vM (ite_some hL1 ?_))))))))
 intro h3 hL1
 refine dv 2 rfl (v_indexAddr_s (xs := a_) (enc := eStr) sl59 rfl rfl (.f 0 rfl) h3) (dv 3 rfl (v_load_s (xs := a_) (enc := eStr) ty9 rfl (.f 0 rfl) h3 rfl rfl rfl rfl rfl rfl rfl) (dv 4 rfl vM (dv 5 rfl vM (ite_some hL1 ?_))))
 intro h4 hL1
 refine dv 6 rfl (v_indexAddr_s (xs := b) (enc := eStr) sl59 rfl rfl (.f 1 rfl) h4) (dv 7 rfl (v_load_s (xs := b) (enc := eStr) ty9 rfl (.f 1 rfl) h4 rfl rfl rfl rfl rfl rfl rfl) ?_)
 refine dv 8 rfl (v_strne rfl rfl) (d_done_seq (by kernel_rfl) ?_)
 refine cC hL1 (fun hL1 => ?_) (fun hL1 => ?_)
 refine c_seq (c_region (oV vA (o_seq (c_ret ?_))))
 cases hL1
 obtain rfl := lrf_ret hF
 exact sR
 refine c_skip (sat_wc (c_region (oV vM (oV vB (oV vA (o_nil ?_))))))
 intro a w hs
 exact ⟨j, Nat.lt_succ_self j, IntKind.wrap .i64 (i + 1), hL1, st_le [] (lea rfl) rfl (subs [0, 1] rfl) a w hs⟩
 refine c_exit0 ?_
 cases hL1
 exact sK [] [0, 1] (hN1 () rfl)
 intro d1 hd
 subst hd
 replace hF := lrf_done hF
 refine sat_wc (c_seq (c_region (oV vA (o_seq (c_ret ?_)))))
 cases hF
 exact sR
theorem tri36 {k : Nat} {a_ : List (List Group)} {b : List (List Group)} {A1 : OA} {L1 C1 : Nat} {A2 : OA} {L2 C2 : Nat} {r : Bool} (hF : F.ref03.sameChains k a_ b = some r) :
    Tri Tryz.prog 36 [sl A1 L1 C1, sl A2 L2 C2] [] [fS A1 L1 C1 1 (eSl 2 eGroup) a_, fS A2 L2 C2 1 (eSl 2 eGroup) b] (oR (bV r)) := by
 unfold F.ref03.sameChains at hF
 refine tri_intro (n := 75) Tryz.func36 rfl Tryz.ntmps36 rfl fun w X => c_seq (c_region (oV vA (o_seq (c_seq (c_seq (c_region (oV vM (oV (v_lenS (enc := (eSl 2 eGroup)) a_ sl23 rfl (.f 0 rfl)) (oV vM (oV (v_lenS (enc := (eSl 2 eGroup)) b sl23 rfl (.f 1 rfl)) (oV vB (o_seq ?_))))))))))))
 refine cC hF (fun hF => ?_) (fun hF => ?_)
 refine c_seq (c_region (oV vA (o_seq (c_ret ?_))))
 cases hF
 exact sR
 refine c_skip (sat_wc (c_seq (c_seq (c_region (oV vA (o_seq ?_))))))
 obtain ⟨o1, ho1, hF⟩ := bd hF
 refine c_cut (fun E N' => ∀ (d1 : Unit), o1 = .done d1 → Sat E [(0, sl A1 L1 C1), (1, sl A2 L2 C2), (4, bV false)] [] [fS A1 L1 C1 1 (eSl 2 eGroup) a_, fS A2 L2 C2 1 (eSl 2 eGroup) b] N') (fun N1 hN1 => ?_) ?_
 refine c_block ?_
 refine c_loopE (fun E j a w => ∃ (i : Int), F.ref03.sameChains_l1 k a_ b j i = some o1 ∧ St E [(0, sl A1 L1 C1), (1, sl A2 L2 C2), (4, bV false), (5, iI i)] [] [fS A1 L1 C1 1 (eSl 2 eGroup) a_, fS A2 L2 C2 1 (eSl 2 eGroup) b] a w) k ?_ ?_
 intro a w hs
 exact ⟨0, ho1, st_le [] (lea rfl) rfl (subs [0, 1] rfl) a w hs⟩
 rintro j a w ⟨i, hL1, hs⟩
 rcases j with _ | j
 cases hL1
 refine wc_app hs ?_
 unfold F.ref03.sameChains_l1 at hL1
 refine c_seq (c_seq (c_region (oV vM (oV vM (oV (v_lenS (enc := (eSl 2 eGroup)) a_ sl23 rfl (.f 0 rfl)) (oV vB (o_seq ?_)))))))
 refine cC hL1 (fun hL1 => ?_) (fun hL1 => ?_)
 refine c_skip (sat_wc (c_seq (c_block (c_seq (c_seq (ite_some hL1 fun h3 hL1 => c_elem (xs := a_) (enc := (eSl 2 eGroup)) 0 rfl h3 rfl rfl fun A3 L3 C3 => ite_some hL1 fun h4 hL1 => c_elem (xs := b) (enc := (eSl 2 eGroup)) 3 rfl h4 rfl rfl fun A4 L4 C4 => c_draw (n := 11) [] mixed rfl rfl (dv 0 rfl vM (dv 1 rfl vM (dv 2 rfl (v_indexAddr_s (xs := a_) (enc := (eSl 2 eGroup)) sl23 rfl rfl (.f 4 rfl) h3) (dv 3 rfl (v_load_cl 2 ty58 rfl rfl rfl rfl rfl) (dv 4 rfl (v_lenS (enc := eGroup) (at_ a_ i) sl58 rfl (.f 3 rfl)) ?_)))))))))))
 refine dv 5 rfl vM (dv 6 rfl vM (dv 7 rfl (v_indexAddr_s (xs := b) (enc := (eSl 2 eGroup)) sl23 rfl rfl (.f 5 rfl) h4) (dv 8 rfl (v_load_cl 0 ty58 rfl rfl rfl rfl rfl) (dv 9 rfl (v_lenS (enc := eGroup) (at_ b i) sl58 rfl (.f 1 rfl)) (dv 10 rfl vB (d_done_seq (by kernel_rfl) ?_))))))
 refine cC hL1 (fun hL1 => ?_) (fun hL1 => ?_)
 refine c_seq (c_region (oV vA (o_seq (c_ret ?_))))
 cases hL1
 obtain rfl := lrf_ret hF
 exact sR
 refine c_skip (sat_wc (c_seq (c_region (oV vA (o_seq ?_)))))
 obtain ⟨o2, ho2, hL1⟩ := bd hL1
 refine c_cut (fun E N' => ∀ (d2 : Int), o2 = .done d2 → Sat E [(0, sl A1 L1 C1), (1, sl A2 L2 C2), (4, bV false), (5, iI i), (6, iI d2)] [] [fS A1 L1 C1 1 (eSl 2 eGroup) a_, fS A2 L2 C2 1 (eSl 2 eGroup) b] N') (fun N2 hN2 => ?_) ?_
 refine c_block ?_
 refine c_loopE (fun E j a w => ∃ (k_ : Int), F.ref03.sameChains_l2 k a_ i b j k_ = some o2 ∧ St E [(0, sl A1 L1 C1), (1, sl A2 L2 C2), (4, bV false), (5, iI i), (6, iI k_)] [] [fS A1 L1 C1 1 (eSl 2 eGroup) a_, fS A2 L2 C2 1 (eSl 2 eGroup) b] a w) k ?_ ?_
 intro a w hs
 exact ⟨0, ho2, st_le [] (lea rfl) rfl (subs [4, 5] rfl) a w hs⟩
 rintro j a w ⟨k_, hL2, hs⟩
 rcases j with _ | j
 cases hL2
 refine wc_app hs ?_
 unfold F.ref03.sameChains_l2 at hL2
 refine c_seq (c_seq (c_region (oV vM (oV vM (oV vM (oV (v_indexAddr_s (xs := a_) (enc := (eSl 2 eGroup)) sl23 rfl rfl (.f 0 rfl) h3) (o_load_s (xs := a_) (enc := (eSl 2 eGroup)) ty58 rfl (.f 0 rfl) h3 rfl rfl rfl rfl rfl rfl ?_)))))))
 intro A5 L5 C5
 refine oV (v_lenS (enc := eGroup) (at_ a_ i) sl58 rfl (.f 0 rfl)) (oV vB (o_seq ?_))
 refine cC hL2 (fun hL2 => ?_) (fun hL2 => ?_)
 refine c_skip (sat_wc (c_seq ?_))
 refine c_cut (fun E N' => F.ref03.sameChains_j3 (F.ref03.sameChains_l2 k a_ i b j) k_ = some o2 → Sat E [(0, sl A1 L1 C1), (1, sl A2 L2 C2), (4, bV false), (5, iI i), (6, iI k_)] [] [fS A1 L1 C1 1 (eSl 2 eGroup) a_, fS A2 L2 C2 1 (eSl 2 eGroup) b] N') (fun N3 hN3 => ?_) ?_
 refine c_block (c_seq (c_elem (xs := a_) (enc := (eSl 2 eGroup)) 1 rfl h3 rfl rfl fun A6 L6 C6 => c_elem (xs := b) (enc := (eSl 2 eGroup)) 4 rfl h4 rfl rfl fun A7 L7 C7 => c_draw (n := 37) [] mixed rfl rfl (dv 0 rfl vM (dv 1 rfl vM (dv 2 rfl (v_indexAddr_s (xs := a_) (enc := (eSl 2 eGroup)) sl23 rfl rfl (.f 5 rfl) h3) (dv 3 rfl (v_load_cl 2 ty58 rfl rfl rfl rfl rfl) (dv 4 rfl vM (ite_some hL2 ?_))))))))
 intro h7 hL2
 refine dv 5 rfl (v_indexAddr_s (xs := at_ a_ i) (enc := eGroup) sl58 rfl rfl (.f 3 rfl) h7) (dv 6 rfl (v_fieldAddr (v := .pointer (some ⟨blkA A6, offA A6 + (Int.toNat k_ * 2 + 0), none⟩)) rfl (fun _ => by kernel_rfl)) (dv 7 rfl (v_load_s (xs := at_ a_ i) (enc := eGroup) ty3 rfl (.f 3 rfl) h7 rfl rfl rfl rfl rfl rfl rfl) (dv 8 rfl vM (dv 9 rfl vM ?_))))
 refine dv 10 rfl (v_indexAddr_s (xs := b) (enc := (eSl 2 eGroup)) sl23 rfl rfl (.f 6 rfl) h4) (dv 11 rfl (v_load_cl 0 ty58 rfl rfl rfl rfl rfl) (dv 12 rfl vM (ite_some hL2 ?_)))
 intro h8 hL2
 refine dv 13 rfl (v_indexAddr_s (xs := at_ b i) (enc := eGroup) sl58 rfl rfl (.f 1 rfl) h8) (dv 14 rfl (v_fieldAddr (v := .pointer (some ⟨blkA A7, offA A7 + (Int.toNat k_ * 2 + 0), none⟩)) rfl (fun _ => by kernel_rfl)) (dv 15 rfl (v_load_s (xs := at_ b i) (enc := eGroup) ty3 rfl (.f 1 rfl) h8 rfl rfl rfl rfl rfl rfl rfl) (dv 16 rfl vB (dv 17 rfl vM ?_))))
 refine d_split (t := 55) rfl (fun h9 => ?_) (fun h9 => ?_)
 replace hL2 := ite_t h9 hL2
 refine dF 18 rfl (dF 19 rfl (dF 20 rfl (dF 21 rfl (dF 22 rfl (dF 23 rfl (dF 24 rfl (dF 25 rfl (dF 26 rfl (dF 27 rfl (dF 28 rfl (dF 29 rfl (dF 30 rfl (dF 31 rfl (dF 32 rfl (dF 33 rfl ?_)))))))))))))))
 refine dF 34 rfl (dF 35 rfl (dv 36 rfl vPt (d_done_seq (by kernel_rfl) ?_)))
 refine c_cond rfl (fun _ => ?_) (fun h => Bool.noConfusion h)
 refine c_seq (c_region (oV vA (o_seq (c_ret ?_))))
 cases hL2
 obtain rfl := lr_ret hL1
 obtain rfl := lrf_ret hF
 exact sR
 replace hL2 := ite_f h9 hL2
 refine dw 18 rfl rfl rfl vM (dw 19 rfl rfl rfl vM (dw 20 rfl rfl rfl (v_indexAddr_s (xs := a_) (enc := (eSl 2 eGroup)) sl23 rfl rfl (.f 5 rfl) h3) (dw 21 rfl rfl rfl (v_load_cl 2 ty58 rfl rfl rfl rfl rfl) (dw 22 rfl rfl rfl vM (dw 23 rfl rfl rfl (v_indexAddr_s (xs := at_ a_ i) (enc := eGroup) sl58 rfl rfl (.f 3 rfl) h7) (dw 24 rfl rfl rfl (v_fieldAddr (v := .pointer (some ⟨blkA A6, offA A6 + (Int.toNat k_ * 2 + 1), none⟩)) rfl (fun _ => by kernel_rfl)) (dw 26 rfl rfl rfl vM (dw 27 rfl rfl rfl vM (dw 28 rfl rfl rfl (v_indexAddr_s (xs := b) (enc := (eSl 2 eGroup)) sl23 rfl rfl (.f 6 rfl) h4) (dw 29 rfl rfl rfl (v_load_cl 0 ty58 rfl rfl rfl rfl rfl) (dw 30 rfl rfl rfl vM (dw 31 rfl rfl rfl (v_indexAddr_s (xs := at_ b i) (enc := eGroup) sl58 rfl rfl (.f 1 rfl) h8) (dw 32 rfl rfl rfl (v_fieldAddr (v := .pointer (some ⟨blkA A7, offA A7 + (Int.toNat k_ * 2 + 1), none⟩)) rfl (fun _ => by kernel_rfl)) ?_)))))))))))))
 obtain ⟨v, h10, hL2⟩ := bd hL2
 refine d_all [25, 33] (by kernel_rfl) (by simp) ⟨⟨_, rfl, ?_⟩, ⟨_, rfl, ?_⟩, trivial⟩
 refine oN (o_load_s (xs := at_ a_ i) (enc := eGroup) ty59 rfl (.f 3 rfl) h7 rfl rfl rfl rfl rfl rfl ?_)
 intro A8 L8 C8
 refine dN [] 1 (dO 33 rfl (oN (o_load_s (xs := at_ b i) (enc := eGroup) ty59 rfl (.f 2 rfl) h8 rfl rfl rfl rfl rfl rfl ?_)))
 intro A9 L9 C9
 refine dN [] 2 (dO 34 rfl (oN (o_callSB call78 rfl (lent_f 1 rfl (lent_f 0 rfl lent_nil)) (tri78 h10 :) rfl (dN [] 2 (dw 35 rfl rfl rfl vN (dv 36 rfl vPf (d_done_seq (by kernel_rfl) ?_)))))))
 refine cC hL2 (fun hL2 => ?_) (fun hL2 => ?_)
 refine c_seq (c_region (oV vA (o_seq (c_ret ?_))))
 cases hL2
 obtain rfl := lr_ret hL1
 obtain rfl := lrf_ret hF
 exact sR
 refine c_skip ?_
 exact sK [] [7, 8] (hN3 hL2)
 refine oN (o_load_s (xs := at_ b i) (enc := eGroup) ty59 rfl (.f 1 rfl) h8 rfl rfl rfl rfl rfl rfl ?_)
 intro A8 L8 C8
 refine dN [] 1 (dO 25 rfl (oN (o_load_s (xs := at_ a_ i) (enc := eGroup) ty59 rfl (.f 4 rfl) h7 rfl rfl rfl rfl rfl rfl ?_)))
 intro A9 L9 C9
 refine dN [] 2 (dO 34 rfl (oN (o_callSB call78 rfl (lent_f 0 rfl (lent_f 1 rfl lent_nil)) (tri78 h10 :) rfl (dN [] 2 (dw 35 rfl rfl rfl vN (dv 36 rfl vPf (d_done_seq (by kernel_rfl) ?_)))))))
 refine cC hL2 (fun hL2 => ?_) (fun hL2 => ?_)
 refine c_seq (c_region (oV vA (o_seq (c_ret ?_))))
 cases hL2
 obtain rfl := lr_ret hL1
 obtain rfl := lrf_ret hF
 exact sR
 refine c_skip ?_
 exact sK [] [7, 8] (hN3 hL2)
 intro hL2
 unfold F.ref03.sameChains_j3 at hL2
 refine sat_wc (c_region (oV vM (oV vB (oV vA (o_nil ?_)))))
 intro a w hs
 exact ⟨j, Nat.lt_succ_self j, IntKind.wrap .i64 (k_ + 1), hL2, st_le [] (lea rfl) rfl (subs [0, 1] rfl) a w hs⟩
 refine c_exit0 ?_
 cases hL2
 exact sK [] [1, 2] (hN2 k_ rfl)
 intro d2 hd
 subst hd
 replace hL1 := lr_done hL1
 refine sat_wc (c_region (oV vM (oV vB (oV vA (o_nil ?_)))))
 intro a w hs
 exact ⟨j, Nat.lt_succ_self j, IntKind.wrap .i64 (i + 1), hL1, st_le [] (lea rfl) rfl (subs [0, 1] rfl) a w hs⟩
 refine c_exit0 ?_
 cases hL1
 exact sK [] [0, 1] (hN1 () rfl)
 intro d1 hd
 subst hd
 replace hF := lrf_done hF
 refine sat_wc (c_seq (c_region (oV vA (o_seq (c_ret ?_)))))
 cases hF
 exact sR
theorem tri15 {k : Nat} {a_ : Def} {b : Def} {A1 : OA} {L1 C1 : Nat} {A2 : OA} {L2 C2 : Nat} {A3 : OA} {L3 C3 : Nat} {A4 : OA} {L4 C4 : Nat} {A5 : OA} {L5 C5 : Nat} {A6 : OA} {L6 C6 : Nat} {A7 : OA} {L7 C7 : Nat} {A8 : OA} {L8 C8 : Nat} {A9 : OA} {L9 C9 : Nat} {A10 : OA} {L10 C10 : Nat} {r : Bool} (hF : F.ref03.Same k a_ b = some r) :
    Tri Tryz.prog 15 [.agg (vDef a_ A1 L1 C1 A2 L2 C2 A3 L3 C3 A4 L4 C4 A5 L5 C5).toArray, .agg (vDef b A6 L6 C6 A7 L7 C7 A8 L8 C8 A9 L9 C9 A10 L10 C10).toArray] [] [fS A1 L1 C1 5 eProd a_.Prods, fS A2 L2 C2 1 (eSl 2 eGroup) a_.Chains, fS A3 L3 C3 5 eFollow a_.Follows, fS A4 L4 C4 2 eReject a_.Rejects, fS A5 L5 C5 2 eBox a_.Boxes, fS A6 L6 C6 5 eProd b.Prods, fS A7 L7 C7 1 (eSl 2 eGroup) b.Chains, fS A8 L8 C8 5 eFollow b.Follows, fS A9 L9 C9 2 eReject b.Rejects, fS A10 L10 C10 2 eBox b.Boxes] (oR (bV r)) := by
 unfold F.ref03.Same at hF
 refine tri_intro (n := 131) Tryz.func15 rfl Tryz.ntmps15 rfl fun w X => c_seq (c_region (o_box rfl rfl rfl fun b1 => o_box rfl rfl rfl fun b2 => oV vA (o_seq (c_seq (c_seq ?_)))))
 refine c_cut (fun E N' => ∀ (t46 : Bool), F.ref03.Same_j1 k a_ b t46 = some r → Sat E [(0, .agg (vDef a_ A1 L1 C1 A2 L2 C2 A3 L3 C3 A4 L4 C4 A5 L5 C5).toArray), (1, .agg (vDef b A6 L6 C6 A7 L7 C7 A8 L8 C8 A9 L9 C9 A10 L10 C10).toArray), (2, pt b1), (3, pt b2), (4, bV false), (46, bV t46)] [.box b2 28 (vDef b A6 L6 C6 A7 L7 C7 A8 L8 C8 A9 L9 C9 A10 L10 C10), .box b1 28 (vDef a_ A1 L1 C1 A2 L2 C2 A3 L3 C3 A4 L4 C4 A5 L5 C5)] [fS A1 L1 C1 5 eProd a_.Prods, fS A2 L2 C2 1 (eSl 2 eGroup) a_.Chains, fS A3 L3 C3 5 eFollow a_.Follows, fS A4 L4 C4 2 eReject a_.Rejects, fS A5 L5 C5 2 eBox a_.Boxes, fS A6 L6 C6 5 eProd b.Prods, fS A7 L7 C7 1 (eSl 2 eGroup) b.Chains, fS A8 L8 C8 5 eFollow b.Follows, fS A9 L9 C9 2 eReject b.Rejects, fS A10 L10 C10 2 eBox b.Boxes] N') (fun N5 hN5 => ?_) ?_
 refine c_region ((fD 0) (oV (vL 1 ty9) ((fD 0) (oV (vL 0 ty9) (oV (v_strne rfl rfl) (oV vM ?_))))))
 refine oS 13 hF (fun hF => ?_) (fun hF => ?_)
 refine oF (oF (oF (oF (oF (oV vPt (oV vM (oF (oF (oF (oF (oF (oF (oF (oV vPt (oV vM ?_)))))))))))))))
 refine oF (oF (oF (oF (oF (oF (oF (oV vPt (oV vM (oF (oF (oF (oF (oF (oF (oF ?_)))))))))))))))
 refine oV vPt (o_nil ?_)
 exact sK [0, 0] [0, 1, 2, 3, 4, 5, 6, 7, 8, 9] (hN5 true hF)
 refine oN ((fD 1) (oN (oV (vL 1 ty9) (oN ((fD 1) (oN (oV (vL 0 ty9) (oN (oV (v_strne rfl rfl) (oV vPf (oV vM ?_)))))))))))
 refine oS 20 hF (fun hF => ?_) (fun hF => ?_)
 refine oF (oF (oF (oF (oF (oF (oF (oV vPt (oV vM (oF (oF (oF (oF (oF (oF (oF ?_)))))))))))))))
 refine oV vPt (oV vM (oF (oF (oF (oF (oF (oF (oF (oV vPt (o_nil ?_))))))))))
 exact sK [0, 0] [0, 1, 2, 3, 4, 5, 6, 7, 8, 9] (hN5 true hF)
 refine oN ((fD 4) (oN (oV (vL 1 ty24) (oN (oV (v_lenS (enc := eFollow) a_.Follows sl24 rfl (.f 2 rfl)) (oN ((fD 4) (oN (oV (vL 0 ty24) (oN (oV (v_lenS (enc := eFollow) b.Follows sl24 rfl (.f 7 rfl)) (oN (oV vB (oV vPf (oV vM ?_)))))))))))))))
 refine oS 29 hF (fun hF => ?_) (fun hF => ?_)
 refine oF (oF (oF (oF (oF (oF (oF (oV vPt (oV vM (oF (oF (oF (oF (oF (oF (oF ?_)))))))))))))))
 refine oV vPt (o_nil ?_)
 exact sK [0, 0] [0, 1, 2, 3, 4, 5, 6, 7, 8, 9] (hN5 true hF)
 refine oN ((fD 5) (oN (oV (vL 1 ty25) (oN (oV (v_lenS (enc := eReject) a_.Rejects sl25 rfl (.f 3 rfl)) (oN ((fD 5) (oN (oV (vL 0 ty25) (oN (oV (v_lenS (enc := eReject) b.Rejects sl25 rfl (.f 8 rfl)) (oN (oV vB (oV vPf (oV vM ?_)))))))))))))))
 refine oS 38 hF (fun hF => ?_) (fun hF => ?_)
 refine oF (oF (oF (oF (oF (oF (oF (oV vPt (o_nil ?_))))))))
 exact sK [0, 0] [0, 1, 2, 3, 4, 5, 6, 7, 8, 9] (hN5 true hF)
 refine oN ((fD 6) (oN (oV (vL 1 ty26) (oN (oV (v_lenS (enc := eBox) a_.Boxes sl26 rfl (.f 4 rfl)) (oN ((fD 6) (oN (oV (vL 0 ty26) (oN (oV (v_lenS (enc := eBox) b.Boxes sl26 rfl (.f 9 rfl)) (oN (oV vB (oV vPf (o_nil ?_)))))))))))))))
 exact sK [0, 0] [0, 1, 2, 3, 4, 5, 6, 7, 8, 9] (hN5 ((a_.Boxes.length : Int) != (b.Boxes.length : Int)) hF)
 intro t46 hF
 unfold F.ref03.Same_j1 at hF
 refine sat_wc ?_
 refine cC hF (fun hF => ?_) (fun hF => ?_)
 refine c_seq (c_region (oV vA (o_seq (c_ret ?_))))
 cases hF
 exact sR
 refine c_skip (sat_wc (c_seq (c_seq (c_region (oV vA (o_seq ?_))))))
 obtain ⟨o2, ho2, hF⟩ := bd hF
 refine c_cut (fun E N' => ∀ (d2 : Unit), o2 = .done d2 → Sat E [(0, .agg (vDef a_ A1 L1 C1 A2 L2 C2 A3 L3 C3 A4 L4 C4 A5 L5 C5).toArray), (1, .agg (vDef b A6 L6 C6 A7 L7 C7 A8 L8 C8 A9 L9 C9 A10 L10 C10).toArray), (2, pt b1), (3, pt b2), (4, bV false)] [.box b2 28 (vDef b A6 L6 C6 A7 L7 C7 A8 L8 C8 A9 L9 C9 A10 L10 C10), .box b1 28 (vDef a_ A1 L1 C1 A2 L2 C2 A3 L3 C3 A4 L4 C4 A5 L5 C5)] [fS A1 L1 C1 5 eProd a_.Prods, fS A2 L2 C2 1 (eSl 2 eGroup) a_.Chains, fS A3 L3 C3 5 eFollow a_.Follows, fS A4 L4 C4 2 eReject a_.Rejects, fS A5 L5 C5 2 eBox a_.Boxes, fS A6 L6 C6 5 eProd b.Prods, fS A7 L7 C7 1 (eSl 2 eGroup) b.Chains, fS A8 L8 C8 5 eFollow b.Follows, fS A9 L9 C9 2 eReject b.Rejects, fS A10 L10 C10 2 eBox b.Boxes] N') (fun N2 hN2 => ?_) ?_
 refine c_block ?_
 refine c_loopE (fun E j a w => ∃ (i : Int), F.ref03.Same_l2 a_ b j i = some o2 ∧ St E [(0, .agg (vDef a_ A1 L1 C1 A2 L2 C2 A3 L3 C3 A4 L4 C4 A5 L5 C5).toArray), (1, .agg (vDef b A6 L6 C6 A7 L7 C7 A8 L8 C8 A9 L9 C9 A10 L10 C10).toArray), (2, pt b1), (3, pt b2), (4, bV false), (5, iI i)] [.box b2 28 (vDef b A6 L6 C6 A7 L7 C7 A8 L8 C8 A9 L9 C9 A10 L10 C10), .box b1 28 (vDef a_ A1 L1 C1 A2 L2 C2 A3 L3 C3 A4 L4 C4 A5 L5 C5)] [fS A1 L1 C1 5 eProd a_.Prods, fS A2 L2 C2 1 (eSl 2 eGroup) a_.Chains, fS A3 L3 C3 5 eFollow a_.Follows, fS A4 L4 C4 2 eReject a_.Rejects, fS A5 L5 C5 2 eBox a_.Boxes, fS A6 L6 C6 5 eProd b.Prods, fS A7 L7 C7 1 (eSl 2 eGroup) b.Chains, fS A8 L8 C8 5 eFollow b.Follows, fS A9 L9 C9 2 eReject b.Rejects, fS A10 L10 C10 2 eBox b.Boxes] a w) k ?_ ?_
 intro a w hs
 exact ⟨0, ho2, st_le [0, 0] (lea rfl) rfl (subs [0, 1, 2, 3, 4, 5, 6, 7, 8, 9] rfl) a w hs⟩
 rintro j a w ⟨i, hL2, hs⟩
 rcases j with _ | j
 cases hL2
 refine wc_app hs ?_
 unfold F.ref03.Same_l2 at hL2
 refine c_seq (c_seq (c_region (oV vM ((fD 4) (oV (vL 1 ty24) (oV (v_lenS (enc := eFollow) a_.Follows sl24 rfl (.f 2 rfl)) (oV vB (o_seq ?_))))))))
 refine cC hL2 (fun hL2 => ?_) (fun hL2 => ?_)
 refine c_skip (sat_wc (c_seq (c_block (c_seq (c_draw (n := 11) [0, 0] mixed rfl rfl (dv 0 rfl (vF 4) (dv 1 rfl (vL 1 ty24) (dv 2 rfl vM (ite_some hL2 ?_)))))))))
 intro h3 hL2
 refine dv 3 rfl (v_indexAddr_s (xs := a_.Follows) (enc := eFollow) sl24 rfl rfl (.f 2 rfl) h3) (dv 4 rfl (v_load_s (xs := a_.Follows) (enc := eFollow) ty48 rfl (.f 2 rfl) h3 rfl rfl rfl rfl rfl rfl rfl) (dv 5 rfl (vF 4) (dv 6 rfl (vL 0 ty24) (dv 7 rfl vM (ite_some hL2 ?_)))))
 intro h4 hL2
 refine ?_
 refine dv 8 rfl (v_indexAddr_s (xs := b.Follows) (enc := eFollow) sl24 rfl rfl (.f 7 rfl) h4) (dv 9 rfl (v_load_s (xs := b.Follows) (enc := eFollow) ty48 rfl (.f 7 rfl) h4 rfl rfl rfl rfl rfl rfl rfl) (dv 10 rfl (v_agne 3 rfl rfl (eq48 ((at_ a_.Follows i).Sort_) ((at_ a_.Follows i).Set.w0) ((at_ a_.Follows i).Set.w1) ((at_ a_.Follows i).Set.w2) ((at_ a_.Follows i).Set.w3) ((at_ b.Follows i).Sort_) ((at_ b.Follows i).Set.w0) ((at_ b.Follows i).Set.w1) ((at_ b.Follows i).Set.w2) ((at_ b.Follows i).Set.w3)) rfl guard48) (d_done_seq (by kernel_rfl) ?_)))
 refine cC hL2 (fun hL2 => ?_) (fun hL2 => ?_)
 refine c_seq (c_region (oV vA (o_seq (c_ret ?_))))
 cases hL2
 obtain rfl := lrf_ret hF
 exact sR
 refine c_skip (sat_wc (c_region (oV vM (oV vB (oV vA (o_nil ?_))))))
 intro a w hs
 exact ⟨j, Nat.lt_succ_self j, IntKind.wrap .i64 (i + 1), hL2, st_le [0, 0] (lea rfl) rfl (subs [0, 1, 2, 3, 4, 5, 6, 7, 8, 9] rfl) a w hs⟩
 refine c_exit0 ?_
 cases hL2
 exact sK [0, 0] [0, 1, 2, 3, 4, 5, 6, 7, 8, 9] (hN2 () rfl)
 intro d2 hd
 subst hd
 replace hF := lrf_done hF
 refine sat_wc (c_seq (c_seq (c_region (oV vA (o_seq ?_)))))
 obtain ⟨o3, ho3, hF⟩ := bd hF
 refine c_cut (fun E N' => ∀ (d3 : Unit), o3 = .done d3 → Sat E [(0, .agg (vDef a_ A1 L1 C1 A2 L2 C2 A3 L3 C3 A4 L4 C4 A5 L5 C5).toArray), (1, .agg (vDef b A6 L6 C6 A7 L7 C7 A8 L8 C8 A9 L9 C9 A10 L10 C10).toArray), (2, pt b1), (3, pt b2), (4, bV false)] [.box b2 28 (vDef b A6 L6 C6 A7 L7 C7 A8 L8 C8 A9 L9 C9 A10 L10 C10), .box b1 28 (vDef a_ A1 L1 C1 A2 L2 C2 A3 L3 C3 A4 L4 C4 A5 L5 C5)] [fS A1 L1 C1 5 eProd a_.Prods, fS A2 L2 C2 1 (eSl 2 eGroup) a_.Chains, fS A3 L3 C3 5 eFollow a_.Follows, fS A4 L4 C4 2 eReject a_.Rejects, fS A5 L5 C5 2 eBox a_.Boxes, fS A6 L6 C6 5 eProd b.Prods, fS A7 L7 C7 1 (eSl 2 eGroup) b.Chains, fS A8 L8 C8 5 eFollow b.Follows, fS A9 L9 C9 2 eReject b.Rejects, fS A10 L10 C10 2 eBox b.Boxes] N') (fun N3 hN3 => ?_) ?_
 refine c_block ?_
 refine c_loopE (fun E j a w => ∃ (i1 : Int), F.ref03.Same_l3 a_ b j i1 = some o3 ∧ St E [(0, .agg (vDef a_ A1 L1 C1 A2 L2 C2 A3 L3 C3 A4 L4 C4 A5 L5 C5).toArray), (1, .agg (vDef b A6 L6 C6 A7 L7 C7 A8 L8 C8 A9 L9 C9 A10 L10 C10).toArray), (2, pt b1), (3, pt b2), (4, bV false), (6, iI i1)] [.box b2 28 (vDef b A6 L6 C6 A7 L7 C7 A8 L8 C8 A9 L9 C9 A10 L10 C10), .box b1 28 (vDef a_ A1 L1 C1 A2 L2 C2 A3 L3 C3 A4 L4 C4 A5 L5 C5)] [fS A1 L1 C1 5 eProd a_.Prods, fS A2 L2 C2 1 (eSl 2 eGroup) a_.Chains, fS A3 L3 C3 5 eFollow a_.Follows, fS A4 L4 C4 2 eReject a_.Rejects, fS A5 L5 C5 2 eBox a_.Boxes, fS A6 L6 C6 5 eProd b.Prods, fS A7 L7 C7 1 (eSl 2 eGroup) b.Chains, fS A8 L8 C8 5 eFollow b.Follows, fS A9 L9 C9 2 eReject b.Rejects, fS A10 L10 C10 2 eBox b.Boxes] a w) k ?_ ?_
 intro a w hs
 exact ⟨0, ho3, st_le [0, 0] (lea rfl) rfl (subs [0, 1, 2, 3, 4, 5, 6, 7, 8, 9] rfl) a w hs⟩
 rintro j a w ⟨i1, hL3, hs⟩
 rcases j with _ | j
 cases hL3
 refine wc_app hs ?_
 unfold F.ref03.Same_l3 at hL3
 refine c_seq (c_seq (c_region (oV vM ((fD 5) (oV (vL 1 ty25) (oV (v_lenS (enc := eReject) a_.Rejects sl25 rfl (.f 3 rfl)) (oV vB (o_seq ?_))))))))
 refine cC hL3 (fun hL3 => ?_) (fun hL3 => ?_)
 refine c_skip (sat_wc (c_seq (c_block (c_seq (c_draw (n := 11) [0, 0] mixed rfl rfl (dv 0 rfl (vF 5) (dv 1 rfl (vL 1 ty25) (dv 2 rfl vM (ite_some hL3 ?_)))))))))
 intro h7 hL3
 refine dv 3 rfl (v_indexAddr_s (xs := a_.Rejects) (enc := eReject) sl25 rfl rfl (.f 3 rfl) h7) (dv 4 rfl (v_load_s (xs := a_.Rejects) (enc := eReject) ty78 rfl (.f 3 rfl) h7 rfl rfl rfl rfl rfl rfl rfl) (dv 5 rfl (vF 5) (dv 6 rfl (vL 0 ty25) (dv 7 rfl vM (ite_some hL3 ?_)))))
 intro h8 hL3
 refine ?_
 refine dv 8 rfl (v_indexAddr_s (xs := b.Rejects) (enc := eReject) sl25 rfl rfl (.f 8 rfl) h8) (dv 9 rfl (v_load_s (xs := b.Rejects) (enc := eReject) ty78 rfl (.f 8 rfl) h8 rfl rfl rfl rfl rfl rfl rfl) (dv 10 rfl (v_agne 2 rfl rfl (eq78 ((at_ a_.Rejects i1).Sort_) ((at_ a_.Rejects i1).By) ((at_ b.Rejects i1).Sort_) ((at_ b.Rejects i1).By)) rfl guard78) (d_done_seq (by kernel_rfl) ?_)))
 refine cC hL3 (fun hL3 => ?_) (fun hL3 => ?_)
 refine c_seq (c_region (oV vA (o_seq (c_ret ?_))))
 cases hL3
 obtain rfl := lrf_ret hF
 exact sR
 refine c_skip (sat_wc (c_region (oV vM (oV vB (oV vA (o_nil ?_))))))
 intro a w hs
 exact ⟨j, Nat.lt_succ_self j, IntKind.wrap .i64 (i1 + 1), hL3, st_le [0, 0] (lea rfl) rfl (subs [0, 1, 2, 3, 4, 5, 6, 7, 8, 9] rfl) a w hs⟩
 refine c_exit0 ?_
 cases hL3
 exact sK [0, 0] [0, 1, 2, 3, 4, 5, 6, 7, 8, 9] (hN3 () rfl)
 intro d3 hd
 subst hd
 replace hF := lrf_done hF
 refine sat_wc (c_seq (c_seq (c_region (oV vA (o_seq ?_)))))
 obtain ⟨o4, ho4, hF⟩ := bd hF
 refine c_cut (fun E N' => ∀ (d4 : Unit), o4 = .done d4 → Sat E [(0, .agg (vDef a_ A1 L1 C1 A2 L2 C2 A3 L3 C3 A4 L4 C4 A5 L5 C5).toArray), (1, .agg (vDef b A6 L6 C6 A7 L7 C7 A8 L8 C8 A9 L9 C9 A10 L10 C10).toArray), (2, pt b1), (3, pt b2), (4, bV false)] [.box b2 28 (vDef b A6 L6 C6 A7 L7 C7 A8 L8 C8 A9 L9 C9 A10 L10 C10), .box b1 28 (vDef a_ A1 L1 C1 A2 L2 C2 A3 L3 C3 A4 L4 C4 A5 L5 C5)] [fS A1 L1 C1 5 eProd a_.Prods, fS A2 L2 C2 1 (eSl 2 eGroup) a_.Chains, fS A3 L3 C3 5 eFollow a_.Follows, fS A4 L4 C4 2 eReject a_.Rejects, fS A5 L5 C5 2 eBox a_.Boxes, fS A6 L6 C6 5 eProd b.Prods, fS A7 L7 C7 1 (eSl 2 eGroup) b.Chains, fS A8 L8 C8 5 eFollow b.Follows, fS A9 L9 C9 2 eReject b.Rejects, fS A10 L10 C10 2 eBox b.Boxes] N') (fun N4 hN4 => ?_) ?_
 refine c_block ?_
 refine c_loopE (fun E j a w => ∃ (i2 : Int), F.ref03.Same_l4 k a_ b j i2 = some o4 ∧ St E [(0, .agg (vDef a_ A1 L1 C1 A2 L2 C2 A3 L3 C3 A4 L4 C4 A5 L5 C5).toArray), (1, .agg (vDef b A6 L6 C6 A7 L7 C7 A8 L8 C8 A9 L9 C9 A10 L10 C10).toArray), (2, pt b1), (3, pt b2), (4, bV false), (7, iI i2)] [.box b2 28 (vDef b A6 L6 C6 A7 L7 C7 A8 L8 C8 A9 L9 C9 A10 L10 C10), .box b1 28 (vDef a_ A1 L1 C1 A2 L2 C2 A3 L3 C3 A4 L4 C4 A5 L5 C5)] [fS A1 L1 C1 5 eProd a_.Prods, fS A2 L2 C2 1 (eSl 2 eGroup) a_.Chains, fS A3 L3 C3 5 eFollow a_.Follows, fS A4 L4 C4 2 eReject a_.Rejects, fS A5 L5 C5 2 eBox a_.Boxes, fS A6 L6 C6 5 eProd b.Prods, fS A7 L7 C7 1 (eSl 2 eGroup) b.Chains, fS A8 L8 C8 5 eFollow b.Follows, fS A9 L9 C9 2 eReject b.Rejects, fS A10 L10 C10 2 eBox b.Boxes] a w) k ?_ ?_
 intro a w hs
 exact ⟨0, ho4, st_le [0, 0] (lea rfl) rfl (subs [0, 1, 2, 3, 4, 5, 6, 7, 8, 9] rfl) a w hs⟩
 rintro j a w ⟨i2, hL4, hs⟩
 rcases j with _ | j
 cases hL4
 refine wc_app hs ?_
 unfold F.ref03.Same_l4 at hL4
 refine c_seq (c_seq (c_region (oV vM ((fD 6) (oV (vL 1 ty26) (oV (v_lenS (enc := eBox) a_.Boxes sl26 rfl (.f 4 rfl)) (oV vB (o_seq ?_))))))))
 refine cC hL4 (fun hL4 => ?_) (fun hL4 => ?_)
 refine c_skip (sat_wc (c_seq ?_))
 refine c_cut (fun E N' => F.ref03.Same_j5 (F.ref03.Same_l4 k a_ b j) i2 = some o4 → Sat E [(0, .agg (vDef a_ A1 L1 C1 A2 L2 C2 A3 L3 C3 A4 L4 C4 A5 L5 C5).toArray), (1, .agg (vDef b A6 L6 C6 A7 L7 C7 A8 L8 C8 A9 L9 C9 A10 L10 C10).toArray), (2, pt b1), (3, pt b2), (4, bV false), (7, iI i2)] [.box b2 28 (vDef b A6 L6 C6 A7 L7 C7 A8 L8 C8 A9 L9 C9 A10 L10 C10), .box b1 28 (vDef a_ A1 L1 C1 A2 L2 C2 A3 L3 C3 A4 L4 C4 A5 L5 C5)] [fS A1 L1 C1 5 eProd a_.Prods, fS A2 L2 C2 1 (eSl 2 eGroup) a_.Chains, fS A3 L3 C3 5 eFollow a_.Follows, fS A4 L4 C4 2 eReject a_.Rejects, fS A5 L5 C5 2 eBox a_.Boxes, fS A6 L6 C6 5 eProd b.Prods, fS A7 L7 C7 1 (eSl 2 eGroup) b.Chains, fS A8 L8 C8 5 eFollow b.Follows, fS A9 L9 C9 2 eReject b.Rejects, fS A10 L10 C10 2 eBox b.Boxes] N') (fun N5 hN5 => ?_) ?_
 refine c_block (c_seq (c_draw (n := 29) [0, 0] mixed rfl rfl (dv 0 rfl (vF 6) (dv 1 rfl (vL 1 ty26) (dv 2 rfl vM (ite_some hL4 ?_))))))
 intro h11 hL4
 refine dv 3 rfl (v_indexAddr_s (xs := a_.Boxes) (enc := eBox) sl26 rfl rfl (.f 4 rfl) h11) (dv 4 rfl (v_fieldAddr (v := .pointer (some ⟨blkA A5, offA A5 + (Int.toNat i2 * 2 + 0), none⟩)) rfl (fun _ => by kernel_rfl)) (dv 5 rfl (v_load_s (xs := a_.Boxes) (enc := eBox) ty9 rfl (.f 4 rfl) h11 rfl rfl rfl rfl rfl rfl rfl) (dv 6 rfl (vF 6) (dv 7 rfl (vL 0 ty26) (dv 8 rfl vM (ite_some hL4 ?_))))))
 intro h12 hL4
 refine dv 9 rfl (v_indexAddr_s (xs := b.Boxes) (enc := eBox) sl26 rfl rfl (.f 9 rfl) h12) (dv 10 rfl (v_fieldAddr (v := .pointer (some ⟨blkA A10, offA A10 + (Int.toNat i2 * 2 + 0), none⟩)) rfl (fun _ => by kernel_rfl)) ?_)
 refine dv 11 rfl (v_load_s (xs := b.Boxes) (enc := eBox) ty9 rfl (.f 9 rfl) h12 rfl rfl rfl rfl rfl rfl rfl) (dv 12 rfl (v_strne rfl rfl) (dv 13 rfl vM ?_))
 refine d_split (t := 103) rfl (fun h13 => ?_) (fun h13 => ?_)
 replace hL4 := ite_t h13 hL4
 refine dF 14 rfl (dF 15 rfl (dF 16 rfl (dF 17 rfl (dF 18 rfl (dF 19 rfl (dF 20 rfl (dF 21 rfl (dF 22 rfl (dF 23 rfl (dF 24 rfl (dF 25 rfl (dF 26 rfl (dF 27 rfl (dv 28 rfl vPt (d_done_seq (by kernel_rfl) ?_)))))))))))))))
 refine c_cond rfl (fun _ => ?_) (fun h => Bool.noConfusion h)
 refine c_seq (c_region (oV vA (o_seq (c_ret ?_))))
 cases hL4
 obtain rfl := lrf_ret hF
 exact sR
 replace hL4 := ite_f h13 hL4
 refine dw 14 rfl rfl rfl (vF 6) (dw 15 rfl rfl rfl (vL 1 ty26) (dw 16 rfl rfl rfl vM (dw 17 rfl rfl rfl (v_indexAddr_s (xs := a_.Boxes) (enc := eBox) sl26 rfl rfl (.f 4 rfl) h11) (dw 18 rfl rfl rfl (v_fieldAddr (v := .pointer (some ⟨blkA A5, offA A5 + (Int.toNat i2 * 2 + 1), none⟩)) rfl (fun _ => by kernel_rfl)) (dw 20 rfl rfl rfl (vF 6) (dw 21 rfl rfl rfl (vL 0 ty26) (dw 22 rfl rfl rfl vM (dw 23 rfl rfl rfl (v_indexAddr_s (xs := b.Boxes) (enc := eBox) sl26 rfl rfl (.f 9 rfl) h12) (dw 24 rfl rfl rfl (v_fieldAddr (v := .pointer (some ⟨blkA A10, offA A10 + (Int.toNat i2 * 2 + 1), none⟩)) rfl (fun _ => by kernel_rfl)) ?_)))))))))
 obtain ⟨v, h14, hL4⟩ := bd hL4
 refine d_all [19, 25] (by kernel_rfl) (by simp) ⟨⟨_, rfl, ?_⟩, ⟨_, rfl, ?_⟩, trivial⟩
 refine oN (o_load_s (xs := a_.Boxes) (enc := eBox) ty62 rfl (.f 4 rfl) h11 rfl rfl rfl rfl rfl rfl ?_)
 intro A11 L11 C11
 refine dN [0, 0] 1 (dO 25 rfl (oN (o_load_s (xs := b.Boxes) (enc := eBox) ty62 rfl (.f 10 rfl) h12 rfl rfl rfl rfl rfl rfl ?_)))
 intro A12 L12 C12
 refine dN [0, 0] 2 (dO 26 rfl (oN (o_callSB call34 rfl (lent_f 1 rfl (lent_f 0 rfl lent_nil)) ((tri34 _) h14 :) rfl (dN [0, 0] 2 (dw 27 rfl rfl rfl vN (dv 28 rfl vPf (d_done_seq (by kernel_rfl) ?_)))))))
 refine cC hL4 (fun hL4 => ?_) (fun hL4 => ?_)
 refine c_seq (c_region (oV vA (o_seq (c_ret ?_))))
 cases hL4
 obtain rfl := lrf_ret hF
 exact sR
 refine c_skip ?_
 exact sK [0, 0] [2, 3, 4, 5, 6, 7, 8, 9, 10, 11] (hN5 hL4)
 refine oN (o_load_s (xs := b.Boxes) (enc := eBox) ty62 rfl (.f 9 rfl) h12 rfl rfl rfl rfl rfl rfl ?_)
 intro A11 L11 C11
 refine dN [0, 0] 1 (dO 19 rfl (oN (o_load_s (xs := a_.Boxes) (enc := eBox) ty62 rfl (.f 5 rfl) h11 rfl rfl rfl rfl rfl rfl ?_)))
 intro A12 L12 C12
 refine dN [0, 0] 2 (dO 26 rfl (oN (o_callSB call34 rfl (lent_f 0 rfl (lent_f 1 rfl lent_nil)) ((tri34 _) h14 :) rfl (dN [0, 0] 2 (dw 27 rfl rfl rfl vN (dv 28 rfl vPf (d_done_seq (by kernel_rfl) ?_)))))))
 refine cC hL4 (fun hL4 => ?_) (fun hL4 => ?_)
 refine c_seq (c_region (oV vA (o_seq (c_ret ?_))))
 cases hL4
 obtain rfl := lrf_ret hF
 exact sR
 refine c_skip ?_
 exact sK [0, 0] [2, 3, 4, 5, 6, 7, 8, 9, 10, 11] (hN5 hL4)
 intro hL4
 unfold F.ref03.Same_j5 at hL4
 refine sat_wc (c_region (oV vM (oV vB (oV vA (o_nil ?_)))))
 intro a w hs
 exact ⟨j, Nat.lt_succ_self j, IntKind.wrap .i64 (i2 + 1), hL4, st_le [0, 0] (lea rfl) rfl (subs [0, 1, 2, 3, 4, 5, 6, 7, 8, 9] rfl) a w hs⟩
 refine c_exit0 ?_
 cases hL4
 exact sK [0, 0] [0, 1, 2, 3, 4, 5, 6, 7, 8, 9] (hN4 () rfl)
 intro d4 hd
 subst hd
 replace hF := lrf_done hF
 refine sat_wc (c_seq (c_region ((fD 2) (oV (vL 1 ty22) ((fD 2) (oV (vL 0 ty22) ?_))))))
 obtain ⟨v1, h16, hF⟩ := bd hF
 refine o_callSB call35 rfl (lent_f 0 rfl (lent_f 5 rfl lent_nil)) (tri35 h16 :) rfl (oV vM ?_)
 refine oS 124 hF (fun hF => ?_) (fun hF => ?_)
 refine oN ((fD 3) (oN (oV (vL 1 ty23) (oN ((fD 3) (oN (oV (vL 0 ty23) (oN ?_))))))))
 obtain ⟨v2, h18, hF⟩ := bd hF
 refine o_callSB call36 rfl (lent_f 1 rfl (lent_f 6 rfl lent_nil)) (tri36 h18 :) rfl (oV vPt (oV vA (o_seq (c_ret ?_))))
 cases hF
 exact sR
 refine oF (oF (oF (oF (oF (oV vPf (oV vA (o_seq (c_ret ?_))))))))
 cases hF
 exact sR
theorem tri25_B (k : Nat) (g25 : List Item → Option (List Item))
    (hg25 : ∀ {l__ : List Item} {A1 : OA} {L1 C1 : Nat} {r : List Item}, g25 l__ = some r → Tri Tryz.prog 25 [sl A1 L1 C1] [] [fS A1 L1 C1 4 eItem l__] (fun o H Φ => ∃ (A8 : OA) (L8 C8 : Nat), o = .ret (sl A8 L8 C8) ∧ H = [rW A8 L8 C8 124 4 eItem r] ∧ Φ = [])) {l__ : List Item} {A1 : OA} {L1 C1 : Nat} {r : List Item} (hF : F.ref03.copyItems_B k g25 l__ = some r) :
    Tri Tryz.prog 25 [sl A1 L1 C1] [] [fS A1 L1 C1 4 eItem l__] (fun o H Φ => ∃ (A8 : OA) (L8 C8 : Nat), o = .ret (sl A8 L8 C8) ∧ H = [rW A8 L8 C8 124 4 eItem r] ∧ Φ = []) := by
 unfold F.ref03.copyItems_B at hF
 refine tri_intro (n := 25) Tryz.func25 rfl Tryz.ntmps25 rfl fun w X => c_seq (c_region (oV vA (o_seq (c_seq (c_region (oV vA (o_seq (c_seq (c_seq (c_region (oV vA (o_seq ?_))))))))))))
 obtain ⟨o1, ho1, hF⟩ := bd hF
 refine c_cut (fun E N' => ∀ (A3 : OA) (L3 C3 : Nat), Sat E [(2, nS), (3, sl A3 L3 C3)] [rW A3 L3 C3 124 4 eItem o1] [] N') (fun N1 hN1 => ?_) ?_
 refine c_block ?_
 refine c_loopE (fun E j a w => ∃ (out_ : List Item) (i : Int) (A2 : OA) (L2 C2 : Nat), F.ref03.copyItems_l1 l__ g25 j out_ i = some o1 ∧ St E [(0, sl A1 L1 C1), (2, nS), (3, sl A2 L2 C2), (4, iI i)] [rW A2 L2 C2 124 4 eItem out_] [fS A1 L1 C1 4 eItem l__] a w) k ?_ ?_
 refine s_st (st_nilrow 124 4) ?_
 intro a w hs
 exact ⟨([] : List Item), 0, none, 0, 0, ho1, st_le [0] (lea rfl) rfl (subs [0] rfl) a w hs⟩
 rintro j a w ⟨out_, i, A2, L2, C2, hL1, hs⟩
 rcases j with _ | j
 cases hL1
 refine wc_app hs ?_
 unfold F.ref03.copyItems_l1 at hL1
 refine c_seq (c_seq (c_region (oV vM (oV vM (oV (v_lenS (enc := eItem) l__ sl62 rfl (.f 0 rfl)) (oV vB (o_seq ?_)))))))
 refine cC hL1 (fun hL1 => ?_) (fun hL1 => ?_)
 refine c_skip (sat_wc (c_seq (c_block (c_seq (c_region (oV vM (oV vM (ite_some hL1 ?_))))))))
 intro h2 hL1
 refine oV (v_indexAddr_s (xs := l__) (enc := eItem) sl62 rfl rfl (.f 0 rfl) h2) (o_load_s (ds := [.int .i64 ((at_ l__ i).Kind), .str ((at_ l__ i).Text), .int .i64 ((at_ l__ i).N_), .slice 4 (((at_ l__ i).Items).map eItem)]) (xs := l__) (enc := eItem) ty124 rfl (.f 0 rfl) h2 (by simp only [eItem_eq] <;> rfl) rfl rfl rfl rfl rfl ?_)
 intro A4 L4 C4
 refine o_alloc zero124 rfl rfl fun b => (sT 0 ty124) (o_seq (c_seq (c_region ?_)))
 refine (fD 3) (oV (vL 0 ty62) ?_)
 obtain ⟨v, h3, hL1⟩ := bd hL1
 refine o_call0 call25 rfl (subs [0] rfl) (hg25 h3 :) rfl ?_
 rintro _ _ _ ⟨A5, L5, C5, rfl, rfl, rfl⟩
 refine (fD 3) ((sT 1 ty62) (o_seq (c_region (oV vM (oV (vL 1 ty124) (o_st (st_freeze 0 rfl) (o_buildSlice (enc := eItem) ([(Item.mk ((at_ l__ i).Kind) ((at_ l__ i).Text) ((at_ l__ i).N_) v)] : List Item) (vItem (at_ l__ i) A5 L5 C5) sl62 rfl (fun _ => by kernel_rfl) rfl rfl (by simp only [List.map, List.all, eItem_eq] <;> rfl) (cp_of (ds := [.int .i64 ((at_ l__ i).Kind), .str ((at_ l__ i).Text), .int .i64 ((at_ l__ i).N_), .slice 4 (v.map eItem)]) (by simp only [List.map, List.flatten, eItem_eq] <;> rfl) (.s rfl (.s rfl (.s rfl (.f 0 rfl (.nil)))))) rfl ?_)))))))
 intro A6 L6 C6
 refine ite_some hL1 fun h4 hL1 => ite_some hL1 fun h5 hL1 => o_append (enc := eItem) (xs := out_) (ys := ([(Item.mk ((at_ l__ i).Kind) ((at_ l__ i).Text) ((at_ l__ i).N_) v)] : List Item)) 2 sl62 rfl rfl rfl (.r 0 _ rfl) h4 h5 rfl fun A7 L7 C7 => oV vA (o_nil (sat_wc (c_region (oV vM ?_))))
 refine oV vB (oV vA (o_nil ?_))
 intro a w hs
 exact ⟨j, Nat.lt_succ_self j, (out_ ++ ([(Item.mk ((at_ l__ i).Kind) ((at_ l__ i).Text) ((at_ l__ i).N_) v)] : List Item)), IntKind.wrap .i64 (i + 1), A7, L7, C7, hL1, st_le [2] (lea rfl) rfl (subs [2] rfl) a w hs⟩
 refine c_exit0 ?_
 cases hL1
 exact sK [0] [] (hN1 A2 L2 C2)
 intro A3 L3 C3
 refine sat_wc (c_seq (c_region (oV vM (oV vA (o_seq (c_ret ?_))))))
 cases hF
 refine s_ret1 rfl (r_tmp rfl) fun a w hs => fin_sel hs [0] ⟨A3, L3, C3, rfl, rfl, rfl⟩ rfl sub_nil
theorem tri25 (k : Nat) : (∀ {l__ : List Item} {A1 : OA} {L1 C1 : Nat} {r : List Item}, F.ref03.copyItems k l__ = some r → Tri Tryz.prog 25 [sl A1 L1 C1] [] [fS A1 L1 C1 4 eItem l__] (fun o H Φ => ∃ (A8 : OA) (L8 C8 : Nat), o = .ret (sl A8 L8 C8) ∧ H = [rW A8 L8 C8 124 4 eItem r] ∧ Φ = [])) := by
 induction k with
 | zero => exact fun h => nomatch (show none = some _ from h)
 | succ k ih => exact tri25_B k _ ih
theorem tri12 {k : Nat} {d_ : Def} {A1 : OA} {L1 C1 : Nat} {A2 : OA} {L2 C2 : Nat} {A3 : OA} {L3 C3 : Nat} {A4 : OA} {L4 C4 : Nat} {A5 : OA} {L5 C5 : Nat} {r : Def} (hF : F.ref03.Copy k d_ = some r) :
    Tri Tryz.prog 12 [.agg (vDef d_ A1 L1 C1 A2 L2 C2 A3 L3 C3 A4 L4 C4 A5 L5 C5).toArray] [] [fS A1 L1 C1 5 eProd d_.Prods, fS A2 L2 C2 1 (eSl 2 eGroup) d_.Chains, fS A3 L3 C3 5 eFollow d_.Follows, fS A4 L4 C4 2 eReject d_.Rejects, fS A5 L5 C5 2 eBox d_.Boxes] (fun o H Φ => ∃ (A35 : OA) (L35 C35 : Nat) (A36 : OA) (L36 C36 : Nat) (A37 : OA) (L37 C37 : Nat) (A38 : OA) (L38 C38 : Nat) (A39 : OA) (L39 C39 : Nat), o = .ret (.agg (vDef r A35 L35 C35 A36 L36 C36 A37 L37 C37 A38 L38 C38 A39 L39 C39).toArray) ∧ H = [rW A35 L35 C35 57 5 eProd r.Prods, rW A36 L36 C36 58 1 (eSl 2 eGroup) r.Chains, rW A37 L37 C37 48 5 eFollow r.Follows, rW A38 L38 C38 78 2 eReject r.Rejects, rW A39 L39 C39 64 2 eBox r.Boxes] ∧ Φ = []) := by
 unfold F.ref03.Copy at hF
 refine tri_intro (n := 130) Tryz.func12 rfl Tryz.ntmps12 rfl fun w X => c_seq (c_region (o_box rfl rfl rfl fun b => o_alloc zero28 rfl rfl fun b1 => o_seq (c_seq (c_region ((fD 0) (oV (vL 1 ty9) ((fD 1) (oV (vL 1 ty9) (oV (vU (.agg (vDef d_ none 0 0 none 0 0 none 0 0 none 0 0 none 0 0).toArray)) (o_alloc zero28 rfl rfl ?_))))))))))
 intro b2
 refine (sT 0 ty28) (o_seq ?_)
 refine c_seq (c_seq (c_region (oV vA (o_seq ?_))))
 obtain ⟨o1, ho1, hF⟩ := bd hF
 refine c_cut (fun E N' => ∀ (A7 : OA) (L7 C7 : Nat), Sat E [(0, .agg (vDef d_ A1 L1 C1 A2 L2 C2 A3 L3 C3 A4 L4 C4 A5 L5 C5).toArray), (1, pt b), (2, pt b1), (3, pt b2)] [.box b2 28 (vDef d_ A7 L7 C7 none 0 0 none 0 0 none 0 0 none 0 0), .box b1 28 [sV ([] : Tx), sV ([] : Tx), nS, nS, nS, nS, nS], .box b 28 (vDef d_ A1 L1 C1 A2 L2 C2 A3 L3 C3 A4 L4 C4 A5 L5 C5), rW A7 L7 C7 57 5 eProd o1] [fS A1 L1 C1 5 eProd d_.Prods, fS A2 L2 C2 1 (eSl 2 eGroup) d_.Chains, fS A3 L3 C3 5 eFollow d_.Follows, fS A4 L4 C4 2 eReject d_.Rejects, fS A5 L5 C5 2 eBox d_.Boxes] N') (fun N1 hN1 => ?_) ?_
 refine c_block ?_
 refine c_loopE (fun E j a w => ∃ (i : Int) (Prods_ : List Prod) (A6 : OA) (L6 C6 : Nat), F.ref03.Copy_l1 d_ j i Prods_ = some o1 ∧ St E [(0, .agg (vDef d_ A1 L1 C1 A2 L2 C2 A3 L3 C3 A4 L4 C4 A5 L5 C5).toArray), (1, pt b), (2, pt b1), (3, pt b2), (4, iI i)] [.box b2 28 (vDef d_ A6 L6 C6 none 0 0 none 0 0 none 0 0 none 0 0), .box b1 28 [sV ([] : Tx), sV ([] : Tx), nS, nS, nS, nS, nS], .box b 28 (vDef d_ A1 L1 C1 A2 L2 C2 A3 L3 C3 A4 L4 C4 A5 L5 C5), rW A6 L6 C6 57 5 eProd Prods_] [fS A1 L1 C1 5 eProd d_.Prods, fS A2 L2 C2 1 (eSl 2 eGroup) d_.Chains, fS A3 L3 C3 5 eFollow d_.Follows, fS A4 L4 C4 2 eReject d_.Rejects, fS A5 L5 C5 2 eBox d_.Boxes] a w) k ?_ ?_
 refine s_st (st_nilrow 57 5) ?_
 intro a w hs
 exact ⟨0, ([] : List Prod), none, 0, 0, ho1, st_le [1, 1, 1, 0] (lea rfl) rfl (subs [0, 1, 2, 3, 4] rfl) a w hs⟩
 rintro j a w ⟨i, Prods_, A6, L6, C6, hL1, hs⟩
 rcases j with _ | j
 cases hL1
 refine wc_app hs ?_
 unfold F.ref03.Copy_l1 at hL1
 refine c_seq (c_seq (c_region (oV vM ((fD 2) (oV (vL 2 ty22) (oV (v_lenS (enc := eProd) d_.Prods sl22 rfl (.f 0 rfl)) (oV vB (o_seq ?_))))))))
 refine cC hL1 (fun hL1 => ?_) (fun hL1 => ?_)
 refine c_skip (sat_wc (c_seq (c_block (c_seq (c_region ((fD 2) (oV (vL 2 ty22) (oV vM (ite_some hL1 ?_)))))))))
 intro h2 hL1
 refine oV (v_indexAddr_s (xs := d_.Prods) (enc := eProd) sl22 rfl rfl (.f 0 rfl) h2) (o_load_s (xs := d_.Prods) (enc := eProd) ty57 rfl (.f 0 rfl) h2 rfl rfl rfl rfl rfl rfl ?_)
 intro A8 L8 C8
 refine o_alloc zero57 rfl rfl fun b3 => (sT 0 ty57) (o_seq (c_seq ?_))
 refine c_region (oV vA (o_seq (c_seq (c_region (oV vM ((fD 4) (oV (vL 0 ty55) (ite_some hL1 ?_))))))))
 intro h3 hL1
 refine ite_some hL1 fun h4 hL1 => o_st (st_nilrow 114 8) (o_append (enc := eSym) (xs := ([] : List Sym)) (ys := (at_ d_.Prods i).Syms) 0 sl55 rfl rfl rfl (.f 0 rfl) h3 h4 rfl fun A9 L9 C9 => oV vA (o_seq (c_seq (c_region ?_))))
 refine oV vM ((fD 4) ((sT 1 ty55) (o_seq (c_region ((fD 2) (oV (vL 2 ty22) (oV (vL 1 ty57) (o_st (st_freeze 0 rfl) (o_buildSlice (enc := eProd) ([(Prod.mk ((at_ d_.Prods i).Lex) ((at_ d_.Prods i).Sort_) ((at_ d_.Prods i).Cons) ((at_ d_.Prods i).Bracket) (([] : List Sym) ++ ((at_ d_.Prods i).Syms)))] : List Prod) (vProd (at_ d_.Prods i) A9 L9 C9) sl22 rfl (fun _ => by kernel_rfl) rfl rfl rfl (.s rfl (.s rfl (.s rfl (.s rfl (.f 0 rfl (.nil)))))) rfl ?_)))))))))
 intro A10 L10 C10
 refine ite_some hL1 fun h5 hL1 => ite_some hL1 fun h6 hL1 => o_append (enc := eProd) (xs := Prods_) (ys := ([(Prod.mk ((at_ d_.Prods i).Lex) ((at_ d_.Prods i).Sort_) ((at_ d_.Prods i).Cons) ((at_ d_.Prods i).Bracket) (([] : List Sym) ++ ((at_ d_.Prods i).Syms)))] : List Prod)) 5 sl22 rfl rfl rfl (.r 0 _ rfl) h5 h6 rfl fun A11 L11 C11 => (fD 2) ((sT 2 ty22) (o_nil ?_))
 refine sat_wc (c_region (oV vM (oV vB (oV vA (o_nil ?_)))))
 intro a w hs
 exact ⟨j, Nat.lt_succ_self j, IntKind.wrap .i64 (i + 1), (Prods_ ++ ([(Prod.mk ((at_ d_.Prods i).Lex) ((at_ d_.Prods i).Sort_) ((at_ d_.Prods i).Cons) ((at_ d_.Prods i).Bracket) (([] : List Sym) ++ ((at_ d_.Prods i).Syms)))] : List Prod)), A11, L11, C11, hL1, st_le [2, 2, 2, 2] (lea rfl) rfl (subs [2, 3, 4, 5, 6] rfl) a w hs⟩
 refine c_exit0 ?_
 cases hL1
 exact sK [0, 0, 0, 0] [0, 1, 2, 3, 4] (hN1 A6 L6 C6)
 intro A7 L7 C7
 refine sat_wc (c_seq (c_seq (c_region (oV vA (o_seq ?_)))))
 obtain ⟨o2, ho2, hF⟩ := bd hF
 refine c_cut (fun E N' => ∀ (A13 : OA) (L13 C13 : Nat), Sat E [(0, .agg (vDef d_ A1 L1 C1 A2 L2 C2 A3 L3 C3 A4 L4 C4 A5 L5 C5).toArray), (1, pt b), (2, pt b1), (3, pt b2)] [.box b2 28 (vDef d_ A7 L7 C7 A13 L13 C13 none 0 0 none 0 0 none 0 0), .box b1 28 [sV ([] : Tx), sV ([] : Tx), nS, nS, nS, nS, nS], .box b 28 (vDef d_ A1 L1 C1 A2 L2 C2 A3 L3 C3 A4 L4 C4 A5 L5 C5), rW A7 L7 C7 57 5 eProd o1, rW A13 L13 C13 58 1 (eSl 2 eGroup) o2] [fS A1 L1 C1 5 eProd d_.Prods, fS A2 L2 C2 1 (eSl 2 eGroup) d_.Chains, fS A3 L3 C3 5 eFollow d_.Follows, fS A4 L4 C4 2 eReject d_.Rejects, fS A5 L5 C5 2 eBox d_.Boxes] N') (fun N2 hN2 => ?_) ?_
 refine c_block ?_
 refine c_loopE (fun E j a w => ∃ (i1 : Int) (Chains_ : List (List Group)) (A12 : OA) (L12 C12 : Nat), F.ref03.Copy_l2 k d_ j i1 Chains_ = some o2 ∧ St E [(0, .agg (vDef d_ A1 L1 C1 A2 L2 C2 A3 L3 C3 A4 L4 C4 A5 L5 C5).toArray), (1, pt b), (2, pt b1), (3, pt b2), (7, iI i1)] [.box b2 28 (vDef d_ A7 L7 C7 A12 L12 C12 none 0 0 none 0 0 none 0 0), .box b1 28 [sV ([] : Tx), sV ([] : Tx), nS, nS, nS, nS, nS], .box b 28 (vDef d_ A1 L1 C1 A2 L2 C2 A3 L3 C3 A4 L4 C4 A5 L5 C5), rW A7 L7 C7 57 5 eProd o1, rW A12 L12 C12 58 1 (eSl 2 eGroup) Chains_] [fS A1 L1 C1 5 eProd d_.Prods, fS A2 L2 C2 1 (eSl 2 eGroup) d_.Chains, fS A3 L3 C3 5 eFollow d_.Follows, fS A4 L4 C4 2 eReject d_.Rejects, fS A5 L5 C5 2 eBox d_.Boxes] a w) k ?_ ?_
 refine s_st (st_nilrow 58 1) ?_
 intro a w hs
 exact ⟨0, ([] : List (List Group)), none, 0, 0, ho2, st_le [1, 1, 1, 1, 0] (lea rfl) rfl (subs [0, 1, 2, 3, 4] rfl) a w hs⟩
 rintro j a w ⟨i1, Chains_, A12, L12, C12, hL2, hs⟩
 rcases j with _ | j
 cases hL2
 refine wc_app hs ?_
 unfold F.ref03.Copy_l2 at hL2
 refine c_seq (c_seq (c_region (oV vM ((fD 3) (oV (vL 2 ty23) (oV (v_lenS (enc := (eSl 2 eGroup)) d_.Chains sl23 rfl (.f 1 rfl)) (oV vB (o_seq ?_))))))))
 refine cC hL2 (fun hL2 => ?_) (fun hL2 => ?_)
 refine c_skip (sat_wc (c_seq (c_block (c_seq (c_region (oV vA (o_seq (c_seq (c_seq (c_region (oV vA (o_seq ?_))))))))))))
 obtain ⟨o3, ho3, hL2⟩ := bd hL2
 refine c_cut (fun E N' => ∀ (A15 : OA) (L15 C15 : Nat), Sat E [(0, .agg (vDef d_ A1 L1 C1 A2 L2 C2 A3 L3 C3 A4 L4 C4 A5 L5 C5).toArray), (1, pt b), (2, pt b1), (3, pt b2), (7, iI i1), (8, sl A15 L15 C15), (9, iI o3.2)] [.box b2 28 (vDef d_ A7 L7 C7 A12 L12 C12 none 0 0 none 0 0 none 0 0), .box b1 28 [sV ([] : Tx), sV ([] : Tx), nS, nS, nS, nS, nS], .box b 28 (vDef d_ A1 L1 C1 A2 L2 C2 A3 L3 C3 A4 L4 C4 A5 L5 C5), rW A15 L15 C15 61 2 eGroup o3.1, rW A7 L7 C7 57 5 eProd o1, rW A12 L12 C12 58 1 (eSl 2 eGroup) Chains_] [fS A1 L1 C1 5 eProd d_.Prods, fS A2 L2 C2 1 (eSl 2 eGroup) d_.Chains, fS A3 L3 C3 5 eFollow d_.Follows, fS A4 L4 C4 2 eReject d_.Rejects, fS A5 L5 C5 2 eBox d_.Boxes] N') (fun N3 hN3 => ?_) ?_
 refine c_block ?_
 refine c_loopE (fun E j a w => ∃ (l__ : List Group) (k_ : Int) (A14 : OA) (L14 C14 : Nat), F.ref03.Copy_l3 i1 d_ j l__ k_ = some o3 ∧ St E [(0, .agg (vDef d_ A1 L1 C1 A2 L2 C2 A3 L3 C3 A4 L4 C4 A5 L5 C5).toArray), (1, pt b), (2, pt b1), (3, pt b2), (7, iI i1), (8, sl A14 L14 C14), (9, iI k_)] [.box b2 28 (vDef d_ A7 L7 C7 A12 L12 C12 none 0 0 none 0 0 none 0 0), .box b1 28 [sV ([] : Tx), sV ([] : Tx), nS, nS, nS, nS, nS], .box b 28 (vDef d_ A1 L1 C1 A2 L2 C2 A3 L3 C3 A4 L4 C4 A5 L5 C5), rW A14 L14 C14 61 2 eGroup l__, rW A7 L7 C7 57 5 eProd o1, rW A12 L12 C12 58 1 (eSl 2 eGroup) Chains_] [fS A1 L1 C1 5 eProd d_.Prods, fS A2 L2 C2 1 (eSl 2 eGroup) d_.Chains, fS A3 L3 C3 5 eFollow d_.Follows, fS A4 L4 C4 2 eReject d_.Rejects, fS A5 L5 C5 2 eBox d_.Boxes] a w) k ?_ ?_
 refine s_st (st_nilrow 61 2) ?_
 intro a w hs
 exact ⟨([] : List Group), 0, none, 0, 0, ho3, st_le [1, 1, 1, 0, 0, 0] (lea rfl) rfl (subs [0, 1, 2, 3, 4] rfl) a w hs⟩
 rintro j a w ⟨l__, k_, A14, L14, C14, hL3, hs⟩
 rcases j with _ | j
 cases hL3
 refine wc_app hs ?_
 unfold F.ref03.Copy_l3 at hL3
 refine c_seq (c_seq (c_region (oV vM ((fD 3) (oV (vL 2 ty23) (oV vM (ite_some hL3 ?_)))))))
 intro h8 hL3
 refine oV (v_indexAddr_s (xs := d_.Chains) (enc := (eSl 2 eGroup)) sl23 rfl rfl (.f 1 rfl) h8) (o_load_s (xs := d_.Chains) (enc := (eSl 2 eGroup)) ty58 rfl (.f 1 rfl) h8 rfl rfl rfl rfl rfl rfl ?_)
 intro A16 L16 C16
 refine oV (v_lenS (enc := eGroup) (at_ d_.Chains i1) sl58 rfl (.f 0 rfl)) (oV vB (o_seq ?_))
 refine cC hL3 (fun hL3 => ?_) (fun hL3 => ?_)
 refine c_skip (sat_wc (c_seq (c_block (c_seq (c_region ((fD 3) (oV (vL 2 ty23) (oV vM (oV (v_indexAddr_s (xs := d_.Chains) (enc := (eSl 2 eGroup)) sl23 rfl rfl (.f 2 rfl) h8) (o_load_s (xs := d_.Chains) (enc := (eSl 2 eGroup)) ty58 rfl (.f 2 rfl) h8 rfl rfl rfl rfl rfl rfl ?_))))))))))
 intro A17 L17 C17
 refine oV vM (ite_some hL3 ?_)
 intro h10 hL3
 refine oV (v_indexAddr_s (xs := at_ d_.Chains i1) (enc := eGroup) sl58 rfl rfl (.f 0 rfl) h10) (oV (v_fieldAddr (v := .pointer (some ⟨blkA A17, offA A17 + (Int.toNat k_ * 2 + 0), none⟩)) rfl (fun _ => by kernel_rfl)) (oV (v_load_s (xs := at_ d_.Chains i1) (enc := eGroup) ty3 rfl (.f 0 rfl) h10 rfl rfl rfl rfl rfl rfl rfl) ?_))
 refine oV (vU (.agg #[iI ((at_ (at_ d_.Chains i1) k_).Assoc), nS])) (o_alloc zero61 rfl rfl ?_)
 intro b4
 refine (sT 0 ty61) (o_seq (c_seq (c_elem (xs := d_.Chains) (enc := (eSl 2 eGroup)) 3 rfl h8 rfl rfl ?_)))
 intro A18 L18 C18
 refine c_elem (xs := at_ d_.Chains i1) (enc := eGroup) 1 rfl h10 rfl rfl fun A19 L19 C19 => c_draw (n := 14) [1, 1, 1, 1, 1, 1] mixed rfl rfl (dv 0 rfl (vF 1) (dv 2 rfl (vF 3) (dv 3 rfl (vL 2 ty23) (dv 4 rfl vM (dv 5 rfl (v_indexAddr_s (xs := d_.Chains) (enc := (eSl 2 eGroup)) sl23 rfl rfl (.f 7 rfl) h8) (dv 6 rfl (v_load_cl 2 ty58 rfl rfl rfl rfl rfl) (dv 7 rfl vM (dv 8 rfl (v_indexAddr_s (xs := at_ d_.Chains i1) (enc := eGroup) sl58 rfl rfl (.f 3 rfl) h10) ?_))))))))
 refine dv 9 rfl (v_fieldAddr (v := .pointer (some ⟨blkA A18, offA A18 + (Int.toNat k_ * 2 + 1), none⟩)) rfl (fun _ => by kernel_rfl)) (dv 10 rfl (v_load_cl 0 ty59 rfl rfl rfl rfl rfl) (dO 1 rfl (oV (vL 0 ty59) (dN [1, 1, 1, 1, 1, 1] 0 (dO 11 rfl (ite_some hL3 ?_))))))
 intro h11 hL3
 refine ite_some hL3 fun h12 hL3 => o_st (st_nilrow 9 1) (o_append (enc := eStr) (xs := ([] : List (List UInt8))) (ys := (at_ (at_ d_.Chains i1) k_).Cons) 0 sl59 rfl rfl rfl (.f 1 rfl) h11 h12 rfl fun A20 L20 C20 => dN [2, 2, 2, 2, 2, 2] 0 (dv 12 rfl (vF 1) (dO 13 rfl ((sT 1 ty59) (dN [2, 2, 2, 2, 2, 2] 0 (d_done_seq (by kernel_rfl) ?_))))))
 refine c_region (oV vM (oV (vL 1 ty61) (o_st (st_freeze 0 rfl) (o_buildSlice (enc := eGroup) ([(Group.mk ((at_ (at_ d_.Chains i1) k_).Assoc) (([] : List (List UInt8)) ++ ((at_ (at_ d_.Chains i1) k_).Cons)))] : List Group) [iI ((at_ (at_ d_.Chains i1) k_).Assoc), sl A20 L20 C20] sl58 rfl (fun _ => by kernel_rfl) rfl rfl rfl (.s rfl (.f 0 rfl (.nil))) rfl ?_))))
 intro A21 L21 C21
 refine ite_some hL3 fun h13 hL3 => ite_some hL3 fun h14 hL3 => o_append (enc := eGroup) (xs := l__) (ys := ([(Group.mk ((at_ (at_ d_.Chains i1) k_).Assoc) (([] : List (List UInt8)) ++ ((at_ (at_ d_.Chains i1) k_).Cons)))] : List Group)) 5 sl58 rfl rfl rfl (.r 0 _ rfl) h13 h14 rfl fun A22 L22 C22 => oV vA (o_nil (sat_wc (c_region (oV vM (oV vB (oV vA (o_nil ?_)))))))
 intro a w hs
 exact ⟨j, Nat.lt_succ_self j, (l__ ++ ([(Group.mk ((at_ (at_ d_.Chains i1) k_).Assoc) (([] : List (List UInt8)) ++ ((at_ (at_ d_.Chains i1) k_).Cons)))] : List Group)), IntKind.wrap .i64 (k_ + 1), A22, L22, C22, hL3, st_le [2, 2, 2, 2, 2, 2] (lea rfl) rfl (subs [7, 8, 9, 10, 11] rfl) a w hs⟩
 refine c_exit0 ?_
 cases hL3
 exact sK [0, 0, 0, 0, 0, 0] [1, 2, 3, 4, 5] (hN3 A14 L14 C14)
 intro A15 L15 C15
 refine sat_wc (c_region ((fD 3) (oV (vL 0 ty23) (oV vM (o_st (st_freeze 3 rfl) (o_buildSlice (enc := (eSl 2 eGroup)) ([o3.1] : List (List Group)) [sl A15 L15 C15] sl23 rfl (fun _ => by kernel_rfl) rfl rfl rfl (.f 0 rfl (.nil)) rfl ?_))))))
 intro A23 L23 C23
 refine ite_some hL2 fun h15 hL2 => ite_some hL2 fun h16 hL2 => o_append (enc := (eSl 2 eGroup)) (xs := Chains_) (ys := ([o3.1] : List (List Group))) 5 sl23 rfl rfl rfl (.r 0 _ rfl) h15 h16 rfl fun A24 L24 C24 => (fD 3) ((sT 1 ty23) (o_nil (sat_wc (c_region (oV vM ?_)))))
 refine oV vB (oV vA (o_nil ?_))
 intro a w hs
 exact ⟨j, Nat.lt_succ_self j, IntKind.wrap .i64 (i1 + 1), (Chains_ ++ ([o3.1] : List (List Group))), A24, L24, C24, hL2, st_le [1, 1, 1, 1, 1] (lea rfl) rfl (subs [1, 2, 3, 4, 5] rfl) a w hs⟩
 refine c_exit0 ?_
 cases hL2
 exact sK [0, 0, 0, 0, 0] [0, 1, 2, 3, 4] (hN2 A12 L12 C12)
 intro A13 L13 C13
 refine sat_wc (c_seq (c_region ((fD 4) (oV (vL 0 ty24) ((fD 4) (oV (vL 2 ty24) (ite_some hF ?_)))))))
 intro h17 hF
 refine ite_some hF fun h18 hF => o_st (st_nilrow 48 5) (o_append (enc := eFollow) (xs := ([] : List Follow)) (ys := d_.Follows) 0 sl24 rfl rfl rfl (.f 2 rfl) h17 h18 rfl fun A25 L25 C25 => (fD 4) ((sT 1 ty24) (o_seq (c_seq (c_region ?_)))))
 refine (fD 5) (oV (vL 1 ty25) ((fD 5) (oV (vL 3 ty25) (ite_some hF ?_))))
 intro h19 hF
 refine ite_some hF fun h20 hF => o_st (st_nilrow 78 2) (o_append (enc := eReject) (xs := ([] : List Reject)) (ys := d_.Rejects) 0 sl25 rfl rfl rfl (.f 3 rfl) h19 h20 rfl fun A26 L26 C26 => (fD 5) ((sT 2 ty25) (o_seq (c_seq (c_seq (c_region (oV vA (o_seq ?_))))))))
 obtain ⟨o4, ho4, hF⟩ := bd hF
 refine c_cut (fun E N' => ∀ (A28 : OA) (L28 C28 : Nat), Sat E [(0, .agg (vDef d_ A1 L1 C1 A2 L2 C2 A3 L3 C3 A4 L4 C4 A5 L5 C5).toArray), (1, pt b), (2, pt b1), (3, pt b2)] [.box b2 28 (vDef d_ A7 L7 C7 A13 L13 C13 A25 L25 C25 A26 L26 C26 A28 L28 C28), .box b1 28 [sV ([] : Tx), sV ([] : Tx), nS, nS, nS, nS, nS], .box b 28 (vDef d_ A1 L1 C1 A2 L2 C2 A3 L3 C3 A4 L4 C4 A5 L5 C5), rW A7 L7 C7 57 5 eProd o1, rW A13 L13 C13 58 1 (eSl 2 eGroup) o2, rW A25 L25 C25 48 5 eFollow (([] : List Follow) ++ d_.Follows), rW A26 L26 C26 78 2 eReject (([] : List Reject) ++ d_.Rejects), rW A28 L28 C28 64 2 eBox o4] [fS A1 L1 C1 5 eProd d_.Prods, fS A2 L2 C2 1 (eSl 2 eGroup) d_.Chains, fS A3 L3 C3 5 eFollow d_.Follows, fS A4 L4 C4 2 eReject d_.Rejects, fS A5 L5 C5 2 eBox d_.Boxes] N') (fun N4 hN4 => ?_) ?_
 refine c_block ?_
 refine c_loopE (fun E j a w => ∃ (i2 : Int) (Boxes_ : List Box) (A27 : OA) (L27 C27 : Nat), F.ref03.Copy_l4 k d_ j i2 Boxes_ = some o4 ∧ St E [(0, .agg (vDef d_ A1 L1 C1 A2 L2 C2 A3 L3 C3 A4 L4 C4 A5 L5 C5).toArray), (1, pt b), (2, pt b1), (3, pt b2), (11, iI i2)] [.box b2 28 (vDef d_ A7 L7 C7 A13 L13 C13 A25 L25 C25 A26 L26 C26 A27 L27 C27), .box b1 28 [sV ([] : Tx), sV ([] : Tx), nS, nS, nS, nS, nS], .box b 28 (vDef d_ A1 L1 C1 A2 L2 C2 A3 L3 C3 A4 L4 C4 A5 L5 C5), rW A7 L7 C7 57 5 eProd o1, rW A13 L13 C13 58 1 (eSl 2 eGroup) o2, rW A25 L25 C25 48 5 eFollow (([] : List Follow) ++ d_.Follows), rW A26 L26 C26 78 2 eReject (([] : List Reject) ++ d_.Rejects), rW A27 L27 C27 64 2 eBox Boxes_] [fS A1 L1 C1 5 eProd d_.Prods, fS A2 L2 C2 1 (eSl 2 eGroup) d_.Chains, fS A3 L3 C3 5 eFollow d_.Follows, fS A4 L4 C4 2 eReject d_.Rejects, fS A5 L5 C5 2 eBox d_.Boxes] a w) k ?_ ?_
 refine s_st (st_nilrow 64 2) ?_
 intro a w hs
 exact ⟨0, ([] : List Box), none, 0, 0, ho4, st_le [3, 3, 3, 3, 3, 2, 1, 0] (lea rfl) rfl (subs [0, 1, 2, 3, 4] rfl) a w hs⟩
 rintro j a w ⟨i2, Boxes_, A27, L27, C27, hL4, hs⟩
 rcases j with _ | j
 cases hL4
 refine wc_app hs ?_
 unfold F.ref03.Copy_l4 at hL4
 refine c_seq (c_seq (c_region (oV vM ((fD 6) (oV (vL 2 ty26) (oV (v_lenS (enc := eBox) d_.Boxes sl26 rfl (.f 4 rfl)) (oV vB (o_seq ?_))))))))
 refine cC hL4 (fun hL4 => ?_) (fun hL4 => ?_)
 refine c_skip (sat_wc (c_seq ?_))
 refine c_cut (fun E N' => ∀ (Boxes_1 : List Box) (A29 : OA) (L29 C29 : Nat), F.ref03.Copy_j5 (F.ref03.Copy_l4 k d_ j) i2 Boxes_1 = some o4 → Sat E [(0, .agg (vDef d_ A1 L1 C1 A2 L2 C2 A3 L3 C3 A4 L4 C4 A5 L5 C5).toArray), (1, pt b), (2, pt b1), (3, pt b2), (11, iI i2)] [.box b2 28 (vDef d_ A7 L7 C7 A13 L13 C13 A25 L25 C25 A26 L26 C26 A29 L29 C29), .box b1 28 [sV ([] : Tx), sV ([] : Tx), nS, nS, nS, nS, nS], .box b 28 (vDef d_ A1 L1 C1 A2 L2 C2 A3 L3 C3 A4 L4 C4 A5 L5 C5), rW A7 L7 C7 57 5 eProd o1, rW A13 L13 C13 58 1 (eSl 2 eGroup) o2, rW A25 L25 C25 48 5 eFollow (([] : List Follow) ++ d_.Follows), rW A26 L26 C26 78 2 eReject (([] : List Reject) ++ d_.Rejects), rW A29 L29 C29 64 2 eBox Boxes_1] [fS A1 L1 C1 5 eProd d_.Prods, fS A2 L2 C2 1 (eSl 2 eGroup) d_.Chains, fS A3 L3 C3 5 eFollow d_.Follows, fS A4 L4 C4 2 eReject d_.Rejects, fS A5 L5 C5 2 eBox d_.Boxes] N') (fun N5 hN5 => ?_) ?_
 refine c_block ?_
 refine c_cut (fun E N' => ∀ (Boxes_2 : List Box) (A30 : OA) (L30 C30 : Nat), F.ref03.Copy_j6 (F.ref03.Copy_l4 k d_ j) i2 Boxes_2 = some o4 → Sat E [(0, .agg (vDef d_ A1 L1 C1 A2 L2 C2 A3 L3 C3 A4 L4 C4 A5 L5 C5).toArray), (1, pt b), (2, pt b1), (3, pt b2), (11, iI i2)] [.box b2 28 (vDef d_ A7 L7 C7 A13 L13 C13 A25 L25 C25 A26 L26 C26 A30 L30 C30), .box b1 28 [sV ([] : Tx), sV ([] : Tx), nS, nS, nS, nS, nS], .box b 28 (vDef d_ A1 L1 C1 A2 L2 C2 A3 L3 C3 A4 L4 C4 A5 L5 C5), rW A7 L7 C7 57 5 eProd o1, rW A13 L13 C13 58 1 (eSl 2 eGroup) o2, rW A25 L25 C25 48 5 eFollow (([] : List Follow) ++ d_.Follows), rW A26 L26 C26 78 2 eReject (([] : List Reject) ++ d_.Rejects), rW A30 L30 C30 64 2 eBox Boxes_2] [fS A1 L1 C1 5 eProd d_.Prods, fS A2 L2 C2 1 (eSl 2 eGroup) d_.Chains, fS A3 L3 C3 5 eFollow d_.Follows, fS A4 L4 C4 2 eReject d_.Rejects, fS A5 L5 C5 2 eBox d_.Boxes] N') (fun N6 hN6 => ?_) ?_
 refine ite_some hL4 fun h22 hL4 => c_elem (xs := d_.Boxes) (enc := eBox) 4 rfl h22 rfl rfl fun A31 L31 C31 => c_draw (n := 20) [1, 1, 1, 1, 1, 1] mixed rfl rfl (dv 0 rfl (vF 6) (dv 2 rfl (vF 6) (dv 3 rfl (vL 1 ty26) (dv 4 rfl vM (dv 5 rfl (v_indexAddr_s (xs := d_.Boxes) (enc := eBox) sl26 rfl rfl (.f 6 rfl) h22) (dv 6 rfl (v_fieldAddr (v := .pointer (some ⟨blkA A5, offA A5 + (Int.toNat i2 * 2 + 0), none⟩)) rfl (fun _ => by kernel_rfl)) (dv 7 rfl (v_load_s (xs := d_.Boxes) (enc := eBox) ty9 rfl (.f 6 rfl) h22 rfl rfl rfl rfl rfl rfl rfl) (dv 8 rfl (vF 6) (dv 9 rfl (vL 1 ty26) (dv 10 rfl vM (dv 11 rfl (v_indexAddr_s (xs := d_.Boxes) (enc := eBox) sl26 rfl rfl (.f 6 rfl) h22) (dv 12 rfl (v_fieldAddr (v := .pointer (some ⟨blkA A5, offA A5 + (Int.toNat i2 * 2 + 1), none⟩)) rfl (fun _ => by kernel_rfl)) (dv 13 rfl (v_load_cl 0 ty62 rfl rfl rfl rfl rfl) ?_)))))))))))))
 obtain ⟨v, h23, hL4⟩ := bd hL4
 refine d_all [1, 14] (by kernel_rfl) (by simp) ⟨⟨_, rfl, ?_⟩, ⟨_, rfl, ?_⟩, trivial⟩
 refine oV (vL 0 ty26) (dN [1, 1, 1, 1, 1, 1] 0 (dO 14 rfl (o_call0 call25 rfl (subs [1] rfl) ((tri25 _) h23 :) rfl ?_)))
 rintro _ _ _ ⟨A32, L32, C32, rfl, rfl, rfl⟩
 refine dN [2, 2, 2, 2, 2, 2] 0 (dv 15 rfl (v_build (v := .agg #[sV ((at_ d_.Boxes i2).Cons), sl A32 L32 C32]) rfl (fun _ => by kernel_rfl)) (dO 16 rfl (o_st (st_freeze 0 rfl) (o_buildSlice (enc := eBox) ([(Box.mk ((at_ d_.Boxes i2).Cons) v)] : List Box) [sV ((at_ d_.Boxes i2).Cons), sl A32 L32 C32] sl26 rfl (fun _ => by kernel_rfl) rfl rfl rfl (.s rfl (.f 0 rfl (.nil))) rfl ?_))))
 intro A33 L33 C33
 refine dN [2, 2, 2, 2, 2, 2] 1 (dO 17 rfl (ite_some hL4 ?_))
 intro h24 hL4
 refine ite_some hL4 fun h25 hL4 => o_append (enc := eBox) (xs := Boxes_) (ys := ([(Box.mk ((at_ d_.Boxes i2).Cons) v)] : List Box)) 8 sl26 rfl rfl rfl (.r 0 _ rfl) h24 h25 rfl fun A34 L34 C34 => dN [2, 2, 2, 2, 2, 2] 1 (dv 18 rfl (vF 6) (dO 19 rfl ((sT 1 ty26) (dN [2, 2, 2, 2, 2, 2] 1 (dD ?_)))))
 exact sK [1, 1, 1, 1, 1, 1, 1, 1] [3, 4, 5, 6, 7] (hN6 (Boxes_ ++ ([(Box.mk ((at_ d_.Boxes i2).Cons) v)] : List Box)) A34 L34 C34 hL4)
 refine o_call0 call25 rfl (subs [1] rfl) ((tri25 _) h23 :) rfl ?_
 rintro _ _ _ ⟨A32, L32, C32, rfl, rfl, rfl⟩
 refine dN [2, 2, 2, 2, 2, 2] 0 (dv 15 rfl (v_build (v := .agg #[sV ((at_ d_.Boxes i2).Cons), sl A32 L32 C32]) rfl (fun _ => by kernel_rfl)) ?_)
 refine d_all [1, 16] (by kernel_rfl) (by simp) ⟨⟨_, rfl, ?_⟩, ⟨_, rfl, ?_⟩, trivial⟩
 refine oV (vL 1 ty26) (dN [2, 2, 2, 2, 2, 2] 0 (dO 16 rfl (o_st (st_freeze 0 rfl) (o_buildSlice (enc := eBox) ([(Box.mk ((at_ d_.Boxes i2).Cons) v)] : List Box) [sV ((at_ d_.Boxes i2).Cons), sl A32 L32 C32] sl26 rfl (fun _ => by kernel_rfl) rfl rfl rfl (.s rfl (.f 0 rfl (.nil))) rfl ?_))))
 intro A33 L33 C33
 refine dN [2, 2, 2, 2, 2, 2] 1 (dO 17 rfl (ite_some hL4 ?_))
 intro h24 hL4
 refine ite_some hL4 fun h25 hL4 => o_append (enc := eBox) (xs := Boxes_) (ys := ([(Box.mk ((at_ d_.Boxes i2).Cons) v)] : List Box)) 8 sl26 rfl rfl rfl (.r 0 _ rfl) h24 h25 rfl fun A34 L34 C34 => dN [2, 2, 2, 2, 2, 2] 1 (dv 18 rfl (vF 6) (dO 19 rfl ((sT 1 ty26) (dN [2, 2, 2, 2, 2, 2] 1 (dD ?_)))))
 exact sK [1, 1, 1, 1, 1, 1, 1, 1] [3, 4, 5, 6, 7] (hN6 (Boxes_ ++ ([(Box.mk ((at_ d_.Boxes i2).Cons) v)] : List Box)) A34 L34 C34 hL4)
 refine o_st (st_freeze 0 rfl) (o_buildSlice (enc := eBox) ([(Box.mk ((at_ d_.Boxes i2).Cons) v)] : List Box) [sV ((at_ d_.Boxes i2).Cons), sl A32 L32 C32] sl26 rfl (fun _ => by kernel_rfl) rfl rfl rfl (.s rfl (.f 0 rfl (.nil))) rfl fun A33 L33 C33 => dN [2, 2, 2, 2, 2, 2] 1 (dO 1 rfl (oV (vL 1 ty26) (dN [2, 2, 2, 2, 2, 2] 1 (dO 17 rfl (ite_some hL4 ?_))))))
 intro h24 hL4
 refine ite_some hL4 fun h25 hL4 => o_append (enc := eBox) (xs := Boxes_) (ys := ([(Box.mk ((at_ d_.Boxes i2).Cons) v)] : List Box)) 8 sl26 rfl rfl rfl (.r 0 _ rfl) h24 h25 rfl fun A34 L34 C34 => dN [2, 2, 2, 2, 2, 2] 1 (dv 18 rfl (vF 6) (dO 19 rfl ((sT 1 ty26) (dN [2, 2, 2, 2, 2, 2] 1 (dD ?_)))))
 exact sK [1, 1, 1, 1, 1, 1, 1, 1] [3, 4, 5, 6, 7] (hN6 (Boxes_ ++ ([(Box.mk ((at_ d_.Boxes i2).Cons) v)] : List Box)) A34 L34 C34 hL4)
 intro Boxes_2 A30 L30 C30 hL4
 unfold F.ref03.Copy_j6 at hL4
 exact sK [0, 0, 0, 0, 0, 0, 0, 0] [0, 1, 2, 3, 4] (hN5 Boxes_2 A30 L30 C30 hL4)
 intro Boxes_1 A29 L29 C29 hL4
 unfold F.ref03.Copy_j5 at hL4
 refine sat_wc (c_region (oV vM (oV vB (oV vA (o_nil ?_)))))
 intro a w hs
 exact ⟨j, Nat.lt_succ_self j, IntKind.wrap .i64 (i2 + 1), Boxes_1, A29, L29, C29, hL4, st_le [0, 0, 0, 0, 0, 0, 0, 0] (lea rfl) rfl (subs [0, 1, 2, 3, 4] rfl) a w hs⟩
 refine c_exit0 ?_
 cases hL4
 exact sK [0, 0, 0, 0, 0, 0, 0, 0] [0, 1, 2, 3, 4] (hN4 A27 L27 C27)
 intro A28 L28 C28
 refine sat_wc (c_seq (c_region (oV (vL 0 ty28) ((sT 1 ty28) (o_seq (c_ret ?_))))))
 cases hF
 refine s_ret1 rfl (r_cell 1 rfl ty28 rfl rfl rfl rfl) fun a w hs => fin_sel hs [3, 3, 3, 3, 3] ⟨A7, L7, C7, A13, L13, C13, A25, L25, C25, A26, L26, C26, A28, L28, C28, rfl, rfl, rfl⟩ rfl sub_nil
theorem tri8 {k : Nat} {a_ : Def} {b : Def} {A1 : OA} {L1 C1 : Nat} {A2 : OA} {L2 C2 : Nat} {A3 : OA} {L3 C3 : Nat} {A4 : OA} {L4 C4 : Nat} {A5 : OA} {L5 C5 : Nat} {A6 : OA} {L6 C6 : Nat} {A7 : OA} {L7 C7 : Nat} {A8 : OA} {L8 C8 : Nat} {A9 : OA} {L9 C9 : Nat} {A10 : OA} {L10 C10 : Nat} {r : Bool} (hF : F.law03.DefsHeld k a_ b = some r) :
    Tri Tryz.prog 8 [.agg (vDef a_ A1 L1 C1 A2 L2 C2 A3 L3 C3 A4 L4 C4 A5 L5 C5).toArray, .agg (vDef b A6 L6 C6 A7 L7 C7 A8 L8 C8 A9 L9 C9 A10 L10 C10).toArray] [] [gf10 1, fS A1 L1 C1 5 eProd a_.Prods, fS A2 L2 C2 1 (eSl 2 eGroup) a_.Chains, fS A3 L3 C3 5 eFollow a_.Follows, fS A4 L4 C4 2 eReject a_.Rejects, fS A5 L5 C5 2 eBox a_.Boxes, fS A6 L6 C6 5 eProd b.Prods, fS A7 L7 C7 1 (eSl 2 eGroup) b.Chains, fS A8 L8 C8 5 eFollow b.Follows, fS A9 L9 C9 2 eReject b.Rejects, fS A10 L10 C10 2 eBox b.Boxes] (oR (bV r)) := by
 unfold F.law03.DefsHeld at hF
 refine tri_intro (n := 35) Tryz.func8 rfl Tryz.ntmps8 rfl fun w X => c_seq (c_region (o_box rfl rfl rfl fun b1 => o_box rfl rfl rfl fun b2 => oV vA (o_seq (c_seq (c_seq (c_region (oV (vL 1 ty28) ?_)))))))
 obtain ⟨v, h1, hF⟩ := bd hF
 refine o_callSB call10 rfl (lent_f 1 rfl (lent_f 2 rfl (lent_f 3 rfl (lent_f 4 rfl (lent_f 5 rfl lent_nil))))) (tri10 h1 :) rfl (oV vM ?_)
 refine oS 7 hF (fun hF => ?_) (fun hF => ?_)
 refine oF (oF (oV vPt (o_seq ?_)))
 refine c_cond rfl (fun _ => ?_) (fun h => Bool.noConfusion h)
 refine c_seq (c_region ?_)
 obtain ⟨v1, h3, hF⟩ := bd hF
 refine o_callSB call11 rfl (lent_f 0 rfl lent_nil) (tri11 h3 :) rfl (oV vA (o_seq (c_ret ?_)))
 cases hF
 exact sR
 refine oN (oV (vL 0 ty28) (oN ?_))
 obtain ⟨v2, h4, hF⟩ := bd hF
 refine o_callSB call10 rfl (lent_f 6 rfl (lent_f 7 rfl (lent_f 8 rfl (lent_f 9 rfl (lent_f 10 rfl lent_nil))))) (tri10 h4 :) rfl (oV vPf (o_seq ?_))
 refine cC hF (fun hF => ?_) (fun hF => ?_)
 refine c_seq (c_region ?_)
 obtain ⟨v3, h6, hF⟩ := bd hF
 refine o_callSB call11 rfl (lent_f 0 rfl lent_nil) (tri11 h6 :) rfl (oV vA (o_seq (c_ret ?_)))
 cases hF
 exact sR
 refine c_skip (sat_wc (c_seq ?_))
 refine c_cut (fun E N' => ∀ (t4 : Bool), F.law03.DefsHeld_j1 t4 = some r → Sat E [(0, .agg (vDef a_ A1 L1 C1 A2 L2 C2 A3 L3 C3 A4 L4 C4 A5 L5 C5).toArray), (1, .agg (vDef b A6 L6 C6 A7 L7 C7 A8 L8 C8 A9 L9 C9 A10 L10 C10).toArray), (2, pt b1), (3, pt b2), (4, bV t4)] [.box b2 28 (vDef b A6 L6 C6 A7 L7 C7 A8 L8 C8 A9 L9 C9 A10 L10 C10), .box b1 28 (vDef a_ A1 L1 C1 A2 L2 C2 A3 L3 C3 A4 L4 C4 A5 L5 C5)] [gf10 1, fS A1 L1 C1 5 eProd a_.Prods, fS A2 L2 C2 1 (eSl 2 eGroup) a_.Chains, fS A3 L3 C3 5 eFollow a_.Follows, fS A4 L4 C4 2 eReject a_.Rejects, fS A5 L5 C5 2 eBox a_.Boxes, fS A6 L6 C6 5 eProd b.Prods, fS A7 L7 C7 1 (eSl 2 eGroup) b.Chains, fS A8 L8 C8 5 eFollow b.Follows, fS A9 L9 C9 2 eReject b.Rejects, fS A10 L10 C10 2 eBox b.Boxes] N') (fun N1 hN1 => ?_) ?_
 refine c_draw (n := 24) [0, 0] mixed rfl rfl (dO 0 rfl ?_)
 obtain ⟨v4, h7, hF⟩ := bd hF
 refine o_callSB call11 rfl (lent_f 0 rfl lent_nil) (tri11 h7 :) rfl (dN [0, 0] 0 (dv 1 rfl vM ?_))
 refine d_split (t := 13) rfl (fun h8 => ?_) (fun h8 => ?_)
 replace hF := ite_t h8 hF
 refine dw 2 rfl rfl rfl (vL 1 ty28) (dw 4 rfl rfl rfl (vL 1 ty28) (dO 3 rfl (oN ?_)))
 obtain ⟨v5, h9, hF⟩ := bd hF
 refine o_callSB call17 rfl (lent_f 1 rfl (lent_f 2 rfl (lent_f 3 rfl (lent_f 4 rfl (lent_f 5 rfl lent_nil))))) (tri17 h9 :) rfl (dN [0, 0] 0 (dO 5 rfl (oN ?_)))
 obtain ⟨v6, h10, hF⟩ := bd hF
 refine o_callSB call22 rfl (lent_f 1 rfl (lent_f 2 rfl (lent_f 3 rfl (lent_f 4 rfl (lent_f 5 rfl lent_nil))))) (tri22 h10 :) rfl (dN [0, 0] 0 (dw 6 rfl rfl rfl (v_booleq rfl rfl Tryz.underlying4) (dv 7 rfl vPt (dv 8 rfl vM ?_))))
 refine d_split (t := 20) rfl (fun h11 => ?_) (fun h11 => ?_)
 replace hF := ite_t h11 hF
 refine dw 9 rfl rfl rfl (vL 1 ty28) (dw 10 rfl rfl rfl (vL 0 ty28) (dw 12 rfl rfl rfl (vL 1 ty28) (dw 13 rfl rfl rfl (vL 0 ty28) (dO 11 rfl (oN ?_)))))
 obtain ⟨v7, h12, hF⟩ := bd hF
 refine o_callSB call23 rfl (lent_f 1 rfl (lent_f 2 rfl (lent_f 3 rfl (lent_f 4 rfl (lent_f 5 rfl (lent_f 6 rfl (lent_f 7 rfl (lent_f 8 rfl (lent_f 9 rfl (lent_f 10 rfl lent_nil)))))))))) (tri23 h12 :) rfl (dN [0, 0] 0 (dO 14 rfl (oN ?_)))
 obtain ⟨v8, h13, hF⟩ := bd hF
 refine o_callSB call15 rfl (lent_f 1 rfl (lent_f 2 rfl (lent_f 3 rfl (lent_f 4 rfl (lent_f 5 rfl (lent_f 6 rfl (lent_f 7 rfl (lent_f 8 rfl (lent_f 9 rfl (lent_f 10 rfl lent_nil)))))))))) (tri15 h13 :) rfl (dN [0, 0] 0 (dw 15 rfl rfl rfl (v_booleq rfl rfl Tryz.underlying4) (dv 16 rfl vPt (dv 17 rfl vM ?_))))
 refine d_split (t := 29) rfl (fun h14 => ?_) (fun h14 => ?_)
 replace hF := ite_t h14 hF
 refine dw 18 rfl rfl rfl (vL 1 ty28) (dw 19 rfl rfl rfl (vL 1 ty28) (dO 20 rfl (oN ?_)))
 obtain ⟨v9, h15, hF⟩ := bd hF
 refine o_call0 call12 rfl (subs [1, 2, 3, 4, 5] rfl) (tri12 h15 :) rfl ?_
 rintro _ _ _ ⟨A11, L11, C11, A12, L12, C12, A13, L13, C13, A14, L14, C14, A15, L15, C15, rfl, rfl, rfl⟩
 refine dN [5, 5] 0 (dO 21 rfl (oN ?_))
 obtain ⟨v10, h16, hF⟩ := bd hF
 refine o_callSB call23 rfl (lent_f 1 rfl (lent_f 2 rfl (lent_f 3 rfl (lent_f 4 rfl (lent_f 5 rfl (lent_r 0 rfl (lent_r 1 rfl (lent_r 2 rfl (lent_r 3 rfl (lent_r 4 rfl lent_nil)))))))))) (tri23 h16 :) rfl (dN [5, 5] 0 (dv 22 rfl vPt (dv 23 rfl vA (dD ?_))))
 exact sK [5, 5] [0, 1, 2, 3, 4, 5, 6, 7, 8, 9, 10] (hN1 v10 hF)
 replace hF := ite_f h14 hF
 refine dF 18 rfl (dF 19 rfl (dF 20 rfl (dF 21 rfl (dv 22 rfl vPf (dv 23 rfl vA (dD ?_))))))
 exact sK [0, 0] [0, 1, 2, 3, 4, 5, 6, 7, 8, 9, 10] (hN1 false hF)
 replace hF := ite_f h11 hF
 refine dF 9 rfl (dF 10 rfl (dF 11 rfl (dF 12 rfl (dF 13 rfl (dF 14 rfl (dF 15 rfl (dv 16 rfl vPf (dv 17 rfl vM (dF 18 rfl (dF 19 rfl (dF 20 rfl (dF 21 rfl (dv 22 rfl vPf (dv 23 rfl vA (dD ?_)))))))))))))))
 exact sK [0, 0] [0, 1, 2, 3, 4, 5, 6, 7, 8, 9, 10] (hN1 false hF)
 replace hF := ite_f h8 hF
 refine dF 2 rfl (dF 3 rfl (dF 4 rfl (dF 5 rfl (dF 6 rfl (dv 7 rfl vPf (dv 8 rfl vM (dF 9 rfl (dF 10 rfl (dF 11 rfl (dF 12 rfl (dF 13 rfl (dF 14 rfl (dF 15 rfl (dv 16 rfl vPf (dv 17 rfl vM ?_)))))))))))))))
 refine dF 18 rfl (dF 19 rfl (dF 20 rfl (dF 21 rfl (dv 22 rfl vPf (dv 23 rfl vA (dD ?_))))))
 exact sK [0, 0] [0, 1, 2, 3, 4, 5, 6, 7, 8, 9, 10] (hN1 false hF)
 intro t4 hF
 unfold F.law03.DefsHeld_j1 at hF
 refine sat_wc (c_ret ?_)
 cases hF
 exact sR
end Go.Vc
