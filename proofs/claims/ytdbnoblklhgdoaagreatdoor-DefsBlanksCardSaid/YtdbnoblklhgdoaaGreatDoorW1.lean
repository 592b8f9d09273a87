import Derived.Test.YtdbnoblklhgdoaaGreatDoorW0
set_option linter.unusedVariables false
set_option linter.unusedSimpArgs false
set_option maxRecDepth 8000
set_option maxHeartbeats 2000000
namespace Go.Vc
open Go Go.Proofs
variable {A1 A2 A3 A4 A5 A6 A7 A8 A9 A10 A11 A12 A13 A14 A15 A16 A17 A18 A19 A20 A21 A22 A23 A24 A25 A26 A27 A28 A29 A30 : OA} {L1 C1 L2 C2 L3 C3 L4 C4 L5 C5 L6 C6 L7 C7 L8 C8 L9 C9 L10 C10 L11 C11 L12 C12 L13 C13 L14 C14 L15 C15 L16 C16 L17 C17 L18 C18 L19 C19 L20 C20 L21 C21 L22 C22 L23 C23 L24 C24 L25 C25 L26 C26 L27 C27 L28 C28 L29 C29 L30 C30 : Nat}
theorem tri117 {k : Nat} {r_ : Defs_reader} {b : Nat} {r : Pn (List Sym × Defs_reader) Fault} (hF : F.defs.reader_syms k r_ = some r) :
    Tri Tryz.prog 117 [pt b] [.box b 87 [sl A1 L1 C1, iI r_.at_, sV r_.d.Start, sV r_.d.Layout, sl A2 L2 C2, sl A3 L3 C3, sl A4 L4 C4, sl A5 L5 C5, sl A6 L6 C6, bV r_.start, bV r_.layout, iI r_.items], rW A2 L2 C2 57 5 eProd r_.d.Prods, rW A3 L3 C3 58 1 (eSl 2 eGroup) r_.d.Chains, rW A4 L4 C4 48 5 eFollow r_.d.Follows, rW A5 L5 C5 78 2 eReject r_.d.Rejects, rW A6 L6 C6 64 2 eBox r_.d.Boxes] [fS A1 L1 C1 11 eWord r_.l_] (fun o H Φ => match (generalizing := false) r with | .ok r => (∃ (A18 : OA) (L18 C18 : Nat) (A19 : OA) (L19 C19 : Nat), o = .ret (sl A18 L18 C18) ∧ H = [.box b 87 [sl A19 L19 C19, iI r.2.at_, sV r.2.d.Start, sV r.2.d.Layout, sl A2 L2 C2, sl A3 L3 C3, sl A4 L4 C4, sl A5 L5 C5, sl A6 L6 C6, bV r.2.start, bV r.2.layout, iI r.2.items], rW A2 L2 C2 57 5 eProd r_.d.Prods, rW A3 L3 C3 58 1 (eSl 2 eGroup) r_.d.Chains, rW A4 L4 C4 48 5 eFollow r_.d.Follows, rW A5 L5 C5 78 2 eReject r_.d.Rejects, rW A6 L6 C6 64 2 eBox r_.d.Boxes, rW A18 L18 C18 114 8 eSym r.1] ∧ Φ = [fS A19 L19 C19 11 eWord r.2.l_]) | .pan y => o = .pan (.iface 37 (.agg #[iI y.At, iI y.Code])) ∧ H = [] ∧ Φ = []) := by
 unfold F.defs.reader_syms at hF
 refine tri_intro (n := 47) Tryz.func117 rfl Tryz.ntmps117 rfl fun w X => cR (oV vA (o_seq (cR (oV vM ?_))))
 obtain ⟨v, h1, hF⟩ := bd hF
 rcases v with x_ | y_
 replace hF := pn_ok hF
 refine ocl [0, 0, 0, 0, 0, 0] call134 rfl rfl (subs [0] rfl) (tri134 h1 :) ?_
 rintro _ _ _ ⟨A7, L7, C7, rfl, rfl, rfl⟩
 refine o_buildSlice (enc := eSym) ([x_.1] : List Sym) (vSym x_.1) sl55 rfl (fun _ => by kernel_rfl) rfl rfl rfl (.s rfl (.s rfl (.s rfl (.s rfl (.s rfl (.s rfl (.s rfl (.s rfl (.nil))))))))) rfl ?_
 intro A8 L8 C8
 refine oV vA (o_seq ?_)
 obtain ⟨o1, ho1, hF⟩ := bd hF
 refine c_block ?_
 refine c_loopE (fun E j a w => ∃ (out_ : List Sym) (l__ : List Word) (at__ : Int) (q1 : Tx) (q2 : Tx) (q8 : Bool) (q9 : Bool) (q0 : Int) (A9 : OA) (L9 C9 : Nat) (A10 : OA) (L10 C10 : Nat), F.defs.reader_syms_l1 r_ j out_ l__ at__ q1 q2 q8 q9 q0 = some o1 ∧ St E [(0, pt b), (2, nS), (3, sl A9 L9 C9)] [.box b 87 [sl A10 L10 C10, iI at__, sV q1, sV q2, sl A2 L2 C2, sl A3 L3 C3, sl A4 L4 C4, sl A5 L5 C5, sl A6 L6 C6, bV q8, bV q9, iI q0], rW A9 L9 C9 114 8 eSym out_, rW A2 L2 C2 57 5 eProd r_.d.Prods, rW A3 L3 C3 58 1 (eSl 2 eGroup) r_.d.Chains, rW A4 L4 C4 48 5 eFollow r_.d.Follows, rW A5 L5 C5 78 2 eReject r_.d.Rejects, rW A6 L6 C6 64 2 eBox r_.d.Boxes] [fS A10 L10 C10 11 eWord l__] a w) k ?_ ?_
 exact lq [1, 0, 0, 0, 0, 0, 0] [0] fun a w hs => ⟨([x_.1] : List Sym), x_.2.l_, x_.2.at_, x_.2.d.Start, x_.2.d.Layout, x_.2.start, x_.2.layout, x_.2.items, A8, L8, C8, A7, L7, C7, ho1, hs⟩
 rintro j a w ⟨out_, l__, at__, q1, q2, q8, q9, q0, A9, L9, C9, A10, L10, C10, hL1, hs⟩
 rcases j with _ | j
 cases hL1
 refine wc_app hs ?_
 unfold F.defs.reader_syms_l1 at hL1
 refine c_cut (fun E N' => ∀ (out_1 : List Sym) (l__1 : List Word) (at__1 : Int) (q1_1 : Tx) (q2_1 : Tx) (q8_1 : Bool) (q9_1 : Bool) (q0_1 : Int) (A11 : OA) (L11 C11 : Nat) (A12 : OA) (L12 C12 : Nat) (A13 : OA) (L13 C13 : Nat) (b1 : Nat), F.defs.reader_syms_j2 (F.defs.reader_syms_l1 r_ j) out_1 l__1 at__1 q1_1 q2_1 q8_1 q9_1 q0_1 = some o1 → Sat E [(0, pt b), (2, nS), (3, sl A11 L11 C11), (4, pt b1)] [.box b 87 [sl A13 L13 C13, iI at__1, sV q1_1, sV q2_1, sl A2 L2 C2, sl A3 L3 C3, sl A4 L4 C4, sl A5 L5 C5, sl A6 L6 C6, bV q8_1, bV q9_1, iI q0_1], .box b1 106 (vWord (at_ l__ at__) A12 L12 C12), rW A11 L11 C11 114 8 eSym out_1, rW A2 L2 C2 57 5 eProd r_.d.Prods, rW A3 L3 C3 58 1 (eSl 2 eGroup) r_.d.Chains, rW A4 L4 C4 48 5 eFollow r_.d.Follows, rW A5 L5 C5 78 2 eReject r_.d.Rejects, rW A6 L6 C6 64 2 eBox r_.d.Boxes] [fS A13 L13 C13 11 eWord l__1, fS A12 L12 C12 1 eU8 ((at_ l__ at__).Bytes)] N') (fun N2 hN2 => ?_) ?_
 refine c_block (c_seq (ite_some hL1 fun h2 hL1 => c_elem (xs := l__) (enc := eWord) 0 rfl h2 rfl rfl fun A14 L14 C14 => c_draw (n := 12) [0, 0, 0, 0, 0, 0, 0] mixed rfl rfl (dv 0 rfl vM (dv 1 rfl vC (dv 2 rfl (vF 0) (dv 3 rfl (vL 0 ty50) (dv 4 rfl vM (dv 5 rfl vC (dv 6 rfl (vF 1) (dv 7 rfl (vL 0 ty3) (dv 8 rfl (v_indexAddr_s (xs := l__) (enc := eWord) sl50 rfl rfl (.f 2 rfl) h2) (dv 9 rfl (v_load_cl 0 ty106 rfl rfl rfl rfl rfl) (dO 10 rfl ?_)))))))))))))
 refine o_alloc zero106 rfl rfl fun b2 => dN [1, 1, 1, 1, 1, 1, 1] 0 (dO 11 rfl ((sT 0 ty106) (dN [1, 1, 1, 1, 1, 1, 1] 0 (d_done_seq (by kernel_rfl) (c_seq (c_seq ?_))))))
 refine c_cut (fun E N' => ∀ (t35 : Bool), F.defs.reader_syms_j3 out_ l__ at__ q1 q2 r_ q8 q9 q0 (F.defs.reader_syms_l1 r_ j) t35 = some o1 → Sat E [(0, pt b), (2, nS), (3, sl A9 L9 C9), (4, pt b2), (35, bV t35)] [.box b 87 [sl A10 L10 C10, iI at__, sV q1, sV q2, sl A2 L2 C2, sl A3 L3 C3, sl A4 L4 C4, sl A5 L5 C5, sl A6 L6 C6, bV q8, bV q9, iI q0], .box b2 106 (vWord (at_ l__ at__) A14 L14 C14), rW A9 L9 C9 114 8 eSym out_, rW A2 L2 C2 57 5 eProd r_.d.Prods, rW A3 L3 C3 58 1 (eSl 2 eGroup) r_.d.Chains, rW A4 L4 C4 48 5 eFollow r_.d.Follows, rW A5 L5 C5 78 2 eReject r_.d.Rejects, rW A6 L6 C6 64 2 eBox r_.d.Boxes] [fS A10 L10 C10 11 eWord l__, fS A14 L14 C14 1 eU8 ((at_ l__ at__).Bytes)] N') (fun N4 hN4 => ?_) ?_
 refine c_region ((fD 0) (oV (vL 0 ty3) (oV vB (oV vM ?_))))
 refine oS 21 hL1 (fun hL1 => ?_) (fun hL1 => ?_)
 refine oN ((fD 0) (oN (oV (vL 0 ty3) (oN (oV vB (oV vPt (oV vM ?_)))))))
 refine oS 26 hL1 (fun hL1 => ?_) (fun hL1 => ?_)
 refine oN ((fD 0) (oN (oV (vL 0 ty3) (oN (oV vB (oV vPt (oV vM ?_)))))))
 refine oS 31 hL1 (fun hL1 => ?_) (fun hL1 => ?_)
 refine oN (oV vM (oN ?_))
 obtain ⟨v3, h12, hL1⟩ := bd hL1
 refine ocl [1, 2, 2, 2, 2, 2] call118 rfl rfl (subs [2] rfl) (tri118 h12 :) ?_
 rintro _ _ _ ⟨rfl, rfl, rfl⟩
 refine oN (oV vN (oV vPt (o_nil ?_)))
 exact sK [0, 5, 5, 0, 0, 0, 0, 0] [2, 1] (hN4 (!v3) hL1)
 refine oF (oF (oF (oV vPf (o_nil ?_))))
 exact sK [1, 0, 0, 0, 0, 0, 0, 0] [2, 1] (hN4 false hL1)
 refine oF (oF (oF (oV vPf (oV vM (oF (oF (oF (oV vPf (o_nil ?_)))))))))
 exact sK [1, 0, 0, 0, 0, 0, 0, 0] [2, 1] (hN4 false hL1)
 refine oF (oF (oF (oV vPf (oV vM (oF (oF (oF (oV vPf (oV vM (oF (oF (oF (oV vPf (o_nil ?_))))))))))))))
 exact sK [1, 0, 0, 0, 0, 0, 0, 0] [2, 1] (hN4 false hL1)
 intro t35 hL1
 unfold F.defs.reader_syms_j3 at hL1
 refine sat_wc ?_
 refine cC hL1 (fun hL1 => ?_) (fun hL1 => ?_)
 refine cR (oV vM (oV vA (o_seq (c_ret ?_))))
 cases hL1
 obtain rfl := lrf_ret hF
 refine s_ret1 rfl (r_tmp rfl) fun a w hs => fin_sel hs [0, 2, 2, 2, 2, 2, 1] ⟨A9, L9, C9, A10, L10, C10, rfl, rfl, rfl⟩ rfl (subs [0] rfl)
 refine c_skip (sat_wc (c_seq (cR (oV vM (oV (v_lenS (enc := eSym) out_ sl55 rfl (.r 2 _ rfl)) (oV vB (o_seq ?_)))))))
 refine cT (fun E H Φ N' => F.defs.reader_syms_j4 l__ at__ q1 q2 r_ q8 q9 q0 out_ (F.defs.reader_syms_l1 r_ j) = some o1 → Sat E [(0, pt b), (2, nS), (3, sl A9 L9 C9), (4, pt b2)] H Φ N') (fun N4 hN4 => ?_) ?_
 refine cC hL1 (fun hL1 => ?_) (fun hL1 => ?_)
 refine c_region (oV (vL 1 ty106) ?_)
 obtain ⟨v2, h8, hL1⟩ := bd hL1
 rcases v2 with x_2 | y_2
 replace hL1 := pn_ok hL1
 refine o_call0 call92 rfl (subs [1] rfl) (tri92 h8 :) rfl ?_
 rintro _ _ _ ⟨rfl, rfl, rfl⟩
 refine o_nil ?_
 exact sK [0, 0, 0, 0, 0, 0, 0, 0] [0, 1] (hN4 hL1)
 replace hL1 := pn_pan hL1
 refine o_call0 call92 rfl (subs [1] rfl) (tri92 h8 :) rfl ?_
 rintro _ _ _ ⟨rfl, rfl, rfl⟩
 cases hL1
 obtain rfl := lrf_ret hF
 exact sP
 refine c_skip ?_
 exact sK [0, 0, 0, 0, 0, 0, 0, 0] [0, 1] (hN4 hL1)
 intro hL1
 unfold F.defs.reader_syms_j4 at hL1
 refine sat_wc (c_region (oV vM (oV vM ?_)))
 obtain ⟨v1, h4, hL1⟩ := bd hL1
 rcases v1 with x_1 | y_1
 replace hL1 := pn_ok hL1
 refine ocl [0, 2, 2, 2, 2, 2] call134 rfl rfl (subs [0] rfl) (tri134 h4 :) ?_
 rintro _ _ _ ⟨A15, L15, C15, rfl, rfl, rfl⟩
 refine o_buildSlice (enc := eSym) ([x_1.1] : List Sym) (vSym x_1.1) sl55 rfl (fun _ => by kernel_rfl) rfl rfl rfl (.s rfl (.s rfl (.s rfl (.s rfl (.s rfl (.s rfl (.s rfl (.s rfl (.nil))))))))) rfl ?_
 intro A16 L16 C16
 refine ite_some hL1 fun h5 hL1 => ite_some hL1 fun h6 hL1 => o_append (enc := eSym) (xs := out_) (ys := ([x_1.1] : List Sym)) 8 sl55 rfl rfl rfl (.r 0 _ rfl) h5 h6 rfl fun A17 L17 C17 => oV vA (o_nil ?_)
 exact sK [1, 6, 6, 1, 1, 1, 1, 1] [0, 2] (hN2 (out_ ++ ([x_1.1] : List Sym)) x_1.2.l_ x_1.2.at_ x_1.2.d.Start x_1.2.d.Layout x_1.2.start x_1.2.layout x_1.2.items A17 L17 C17 A14 L14 C14 A15 L15 C15 b2 hL1)
 replace hL1 := pn_pan hL1
 refine ocl [0, 2, 2, 2, 2, 2] call134 rfl rfl (subs [0] rfl) (tri134 h4 :) ?_
 rintro _ _ _ ⟨rfl, rfl, rfl⟩
 cases hL1
 obtain rfl := lrf_ret hF
 exact sP
 intro out_1 l__1 at__1 q1_1 q2_1 q8_1 q9_1 q0_1 A11 L11 C11 A12 L12 C12 A13 L13 C13 b1 hL1
 unfold F.defs.reader_syms_j2 at hL1
 exact lp [0, 1, 1, 1, 1, 1, 1] [0] fun a w hs => ⟨out_1, l__1, at__1, q1_1, q2_1, q8_1, q9_1, q0_1, A11, L11, C11, A13, L13, C13, hL1, hs⟩
 replace hF := pn_pan hF
 refine ocl [0, 0, 0, 0, 0, 0] call134 rfl rfl (subs [0] rfl) (tri134 h1 :) ?_
 rintro _ _ _ ⟨rfl, rfl, rfl⟩
 cases hF
 exact sP
theorem tri82 {k : Nat} {r_ : Defs_reader} {first : Word} {b : Nat} {r : Pn Defs_reader Fault} (hF : F.defs.reader_lex k r_ first = some r) :
    Tri Tryz.prog 82 [pt b, .agg (vWord first A7 L7 C7).toArray] [.box b 87 [sl A1 L1 C1, iI r_.at_, sV r_.d.Start, sV r_.d.Layout, sl A2 L2 C2, sl A3 L3 C3, sl A4 L4 C4, sl A5 L5 C5, sl A6 L6 C6, bV r_.start, bV r_.layout, iI r_.items], rW A2 L2 C2 57 5 eProd r_.d.Prods, rW A3 L3 C3 58 1 (eSl 2 eGroup) r_.d.Chains, rW A4 L4 C4 48 5 eFollow r_.d.Follows, rW A5 L5 C5 78 2 eReject r_.d.Rejects, rW A6 L6 C6 64 2 eBox r_.d.Boxes] [fS A1 L1 C1 11 eWord r_.l_, fS A7 L7 C7 1 eU8 first.Bytes] (fun o H Φ => match (generalizing := false) r with | .ok r => (∃ (A29 : OA) (L29 C29 : Nat) (A30 : OA) (L30 C30 : Nat), o = .ret (.tuple #[]) ∧ H = [.box b 87 [sl A29 L29 C29, iI r.at_, sV r.d.Start, sV r.d.Layout, sl A30 L30 C30, sl A3 L3 C3, sl A4 L4 C4, sl A5 L5 C5, sl A6 L6 C6, bV r.start, bV r.layout, iI r.items], rW A30 L30 C30 57 5 eProd r.d.Prods, rW A3 L3 C3 58 1 (eSl 2 eGroup) r_.d.Chains, rW A4 L4 C4 48 5 eFollow r_.d.Follows, rW A5 L5 C5 78 2 eReject r_.d.Rejects, rW A6 L6 C6 64 2 eBox r_.d.Boxes] ∧ Φ = [fS A29 L29 C29 11 eWord r.l_]) | .pan y => o = .pan (.iface 37 (.agg #[iI y.At, iI y.Code])) ∧ H = [] ∧ Φ = []) := by
 unfold F.defs.reader_lex at hF
 refine tri_intro (n := 58) Tryz.func82 rfl Tryz.ntmps82 rfl fun w X => cR (o_box rfl rfl rfl fun b1 => o_seq (cR (oV (vU (.agg #[bV true, sV ([] : Tx), sV ([] : Tx), bV false, nS])) (o_alloc zero57 rfl rfl ?_))))
 intro b2
 refine (sT 0 ty57) (o_seq (cR (oV vM (oV (vL 1 ty106) ?_))))
 obtain ⟨v, h1, hF⟩ := bd hF
 rcases v with x_ | y_
 replace hF := pn_ok hF
 refine ocl [2, 2, 2, 2, 2, 2] call115 rfl rfl (subs [0, 1] rfl) (tri115 h1 :) ?_
 rintro _ _ _ ⟨rfl, rfl, rfl⟩
 refine o_seq (cR (oV vM ?_))
 obtain ⟨v1, h2, hF⟩ := bd hF
 rcases v1 with x_1 | y_1
 replace hF := pn_ok hF
 refine ocl [0, 0, 0, 0, 0, 0] call86 rfl rfl (subs [0] rfl) (tri86 h2 :) ?_
 rintro _ _ _ ⟨A8, L8, C8, rfl, rfl, rfl⟩
 refine (fD 1) ((sT 6 ty9) (o_seq (c_seq (cR (oV vM ?_)))))
 obtain ⟨v2, h3, hF⟩ := bd hF
 refine ocl [0, 0, 0, 0, 0, 0] call116 rfl rfl (subs [0] rfl) (tri116 h3 :) ?_
 rintro _ _ _ ⟨A9, L9, C9, rfl, rfl, rfl⟩
 refine o_seq ?_
 refine c_cut (fun E N' => ∀ (l__ : List Word) (at__ : Int) (q1 : Tx) (q2 : Tx) (q8 : Bool) (q9 : Bool) (q0 : Int) (Cons_ : Tx) (A10 : OA) (L10 C10 : Nat), F.defs.reader_lex_j1 k r_ x_1 l__ at__ q1 q2 q8 q9 q0 Cons_ = some r → Sat E [(0, pt b), (1, .agg (vWord first A7 L7 C7).toArray), (3, pt b1), (4, pt b2)] [.box b 87 [sl A10 L10 C10, iI at__, sV q1, sV q2, sl A2 L2 C2, sl A3 L3 C3, sl A4 L4 C4, sl A5 L5 C5, sl A6 L6 C6, bV q8, bV q9, iI q0], .box b2 57 [bV true, sV x_1.1, sV Cons_, bV false, nS], .box b1 106 (vWord first A7 L7 C7), rW A2 L2 C2 57 5 eProd r_.d.Prods, rW A3 L3 C3 58 1 (eSl 2 eGroup) r_.d.Chains, rW A4 L4 C4 48 5 eFollow r_.d.Follows, rW A5 L5 C5 78 2 eReject r_.d.Rejects, rW A6 L6 C6 64 2 eBox r_.d.Boxes] [fS A7 L7 C7 1 eU8 first.Bytes, fS A10 L10 C10 11 eWord l__] N') (fun N4 hN4 => ?_) ?_
 refine cC hF (fun hF => ?_) (fun hF => ?_)
 refine c_region (oV vM ?_)
 obtain ⟨v8, h14, hF⟩ := bd hF
 rcases v8 with x_6 | y_6
 replace hF := pn_ok hF
 refine ocl [0, 0, 0, 0, 0, 0] call86 rfl rfl (subs [0] rfl) (tri86 h14 :) ?_
 rintro _ _ _ ⟨A28, L28, C28, rfl, rfl, rfl⟩
 refine (fD 2) ((sT 6 ty9) (o_nil ?_))
 exact sK [0, 5, 5, 0, 0, 0, 0, 0] [4, 0] (hN4 x_6.2.l_ x_6.2.at_ x_6.2.d.Start x_6.2.d.Layout x_6.2.start x_6.2.layout x_6.2.items x_6.1 A28 L28 C28 hF)
 replace hF := pn_pan hF
 refine ocl [0, 0, 0, 0, 0, 0] call86 rfl rfl (subs [0] rfl) (tri86 h14 :) ?_
 rintro _ _ _ ⟨rfl, rfl, rfl⟩
 cases hF
 exact sP
 refine c_skip ?_
 exact sK [0, 5, 5, 0, 0, 0, 0, 0] [3, 0] (hN4 v2.2.l_ v2.2.at_ v2.2.d.Start v2.2.d.Layout v2.2.start v2.2.layout v2.2.items ([] : Tx) A9 L9 C9 hF)
 intro l__ at__ q1 q2 q8 q9 q0 Cons_ A10 L10 C10 hF
 unfold F.defs.reader_lex_j1 at hF
 refine sat_wc (cR (oV vM ?_))
 obtain ⟨v3, h4, hF⟩ := bd hF
 rcases v3 with x_2 | y_2
 replace hF := pn_ok hF
 refine ocl [0, 2, 2, 2, 2, 2] call88 rfl rfl (subs [1] rfl) (tri88 h4 :) ?_
 rintro _ _ _ ⟨A11, L11, C11, rfl, rfl, rfl⟩
 refine o_seq (c_seq ?_)
 obtain ⟨o2, ho2, hF⟩ := bd hF
 refine c_cut (fun E N' => ∀ (d2 : (List Word) × Int × (List UInt8) × (List UInt8) × (List Prod) × Bool × Bool × Int × (List Sym)) (A15 : OA) (L15 C15 : Nat) (A16 : OA) (L16 C16 : Nat) (A17 : OA) (L17 C17 : Nat), o2 = .done d2 → Sat E [(0, pt b), (1, .agg (vWord first A7 L7 C7).toArray), (3, pt b1), (4, pt b2)] [.box b 87 [sl A15 L15 C15, iI d2.2.1, sV d2.2.2.1, sV d2.2.2.2.1, sl A16 L16 C16, sl A3 L3 C3, sl A4 L4 C4, sl A5 L5 C5, sl A6 L6 C6, bV d2.2.2.2.2.2.1, bV d2.2.2.2.2.2.2.1, iI d2.2.2.2.2.2.2.2.1], .box b2 57 [bV true, sV x_1.1, sV Cons_, bV false, sl A17 L17 C17], .box b1 106 (vWord first A7 L7 C7), rW A16 L16 C16 57 5 eProd d2.2.2.2.2.1, rW A3 L3 C3 58 1 (eSl 2 eGroup) r_.d.Chains, rW A4 L4 C4 48 5 eFollow r_.d.Follows, rW A5 L5 C5 78 2 eReject r_.d.Rejects, rW A6 L6 C6 64 2 eBox r_.d.Boxes] [fS A7 L7 C7 1 eU8 first.Bytes, fS A15 L15 C15 11 eWord d2.1, fS A17 L17 C17 8 eSym d2.2.2.2.2.2.2.2.2] N') (fun N2 hN2 => ?_) ?_
 refine c_block ?_
 refine c_loopE (fun E j a w => ∃ (l__1 : List Word) (at__1 : Int) (q1_1 : Tx) (q2_1 : Tx) (q3 : List Prod) (q8_1 : Bool) (q9_1 : Bool) (q0_1 : Int) (Syms_ : List Sym) (A12 : OA) (L12 C12 : Nat) (A13 : OA) (L13 C13 : Nat) (A14 : OA) (L14 C14 : Nat), F.defs.reader_lex_l2 k r_ x_1 Cons_ j l__1 at__1 q1_1 q2_1 q3 q8_1 q9_1 q0_1 Syms_ = some o2 ∧ St E [(0, pt b), (1, .agg (vWord first A7 L7 C7).toArray), (3, pt b1), (4, pt b2)] [.box b 87 [sl A12 L12 C12, iI at__1, sV q1_1, sV q2_1, sl A13 L13 C13, sl A3 L3 C3, sl A4 L4 C4, sl A5 L5 C5, sl A6 L6 C6, bV q8_1, bV q9_1, iI q0_1], .box b2 57 [bV true, sV x_1.1, sV Cons_, bV false, sl A14 L14 C14], .box b1 106 (vWord first A7 L7 C7), rW A13 L13 C13 57 5 eProd q3, rW A3 L3 C3 58 1 (eSl 2 eGroup) r_.d.Chains, rW A4 L4 C4 48 5 eFollow r_.d.Follows, rW A5 L5 C5 78 2 eReject r_.d.Rejects, rW A6 L6 C6 64 2 eBox r_.d.Boxes] [fS A7 L7 C7 1 eU8 first.Bytes, fS A12 L12 C12 11 eWord l__1, fS A14 L14 C14 8 eSym Syms_] a w) k ?_ ?_
 refine s_st (st_nilfact 8) ?_
 exact lq [0, 5, 5, 0, 0, 0, 0, 0] [2, 1, 0] fun a w hs => ⟨x_2.l_, x_2.at_, x_2.d.Start, x_2.d.Layout, r_.d.Prods, x_2.start, x_2.layout, x_2.items, ([] : List Sym), A11, L11, C11, A2, L2, C2, none, 0, 0, ho2, hs⟩
 rintro j a w ⟨l__1, at__1, q1_1, q2_1, q3, q8_1, q9_1, q0_1, Syms_, A12, L12, C12, A13, L13, C13, A14, L14, C14, hL2, hs⟩
 rcases j with _ | j
 cases hL2
 refine wc_app hs ?_
 unfold F.defs.reader_lex_l2 at hL2
 refine c_cut (fun E N' => ∀ (l__2 : List Word) (at__2 : Int) (q1_2 : Tx) (q2_2 : Tx) (q3_1 : List Prod) (q8_2 : Bool) (q9_2 : Bool) (q0_2 : Int) (Syms_1 : List Sym) (A18 : OA) (L18 C18 : Nat) (A19 : OA) (L19 C19 : Nat) (A20 : OA) (L20 C20 : Nat), F.defs.reader_lex_j3 (F.defs.reader_lex_l2 k r_ x_1 Cons_ j) l__2 at__2 q1_2 q2_2 q3_1 q8_2 q9_2 q0_2 Syms_1 = some o2 → Sat E [(0, pt b), (1, .agg (vWord first A7 L7 C7).toArray), (3, pt b1), (4, pt b2)] [.box b 87 [sl A18 L18 C18, iI at__2, sV q1_2, sV q2_2, sl A19 L19 C19, sl A3 L3 C3, sl A4 L4 C4, sl A5 L5 C5, sl A6 L6 C6, bV q8_2, bV q9_2, iI q0_2], .box b2 57 [bV true, sV x_1.1, sV Cons_, bV false, sl A20 L20 C20], .box b1 106 (vWord first A7 L7 C7), rW A19 L19 C19 57 5 eProd q3_1, rW A3 L3 C3 58 1 (eSl 2 eGroup) r_.d.Chains, rW A4 L4 C4 48 5 eFollow r_.d.Follows, rW A5 L5 C5 78 2 eReject r_.d.Rejects, rW A6 L6 C6 64 2 eBox r_.d.Boxes] [fS A7 L7 C7 1 eU8 first.Bytes, fS A18 L18 C18 11 eWord l__2, fS A20 L20 C20 8 eSym Syms_1] N') (fun N3 hN3 => ?_) ?_
 refine c_block (cR (oV vM ?_))
 obtain ⟨v4, h5, hL2⟩ := bd hL2
 rcases v4 with x_3 | y_3
 replace hL2 := pn_ok hL2
 refine ocl [0, 2, 2, 2, 2, 2] call117 rfl rfl (subs [1] rfl) (tri117 h5 :) ?_
 rintro _ _ _ ⟨A21, L21, C21, A22, L22, C22, rfl, rfl, rfl⟩
 refine (fD 4) ((sT 7 ty55) (o_seq (c_seq ?_)))
 refine c_cut (fun E N' => ∀ (A23 : OA) (L23 C23 : Nat), F.defs.reader_lex_j4 x_3 q3 x_1 Cons_ r_ (F.defs.reader_lex_l2 k r_ x_1 Cons_ j) = some o2 → Sat E [(0, pt b), (1, .agg (vWord first A7 L7 C7).toArray), (3, pt b1), (4, pt b2)] [.box b 87 [sl A22 L22 C22, iI x_3.2.at_, sV x_3.2.d.Start, sV x_3.2.d.Layout, sl A23 L23 C23, sl A3 L3 C3, sl A4 L4 C4, sl A5 L5 C5, sl A6 L6 C6, bV x_3.2.start, bV x_3.2.layout, iI x_3.2.items], .box b2 57 [bV true, sV x_1.1, sV Cons_, bV false, sl A21 L21 C21], .box b1 106 (vWord first A7 L7 C7), .row (sl A23 L23 C23) 57 5 ((q3 ++ ([(Prod.mk true x_1.1 Cons_ false x_3.1)] : List Prod)).map eProd), rW A3 L3 C3 58 1 (eSl 2 eGroup) r_.d.Chains, rW A4 L4 C4 48 5 eFollow r_.d.Follows, rW A5 L5 C5 78 2 eReject r_.d.Rejects, rW A6 L6 C6 64 2 eBox r_.d.Boxes] [fS A7 L7 C7 1 eU8 first.Bytes, fS A22 L22 C22 11 eWord x_3.2.l_, fS A21 L21 C21 8 eSym x_3.1] N') (fun N4 hN4 => ?_) ?_
 refine c_draw (n := 13) [2, 2, 2, 2, 4] mixed rfl rfl (dv 0 rfl vM (dv 1 rfl vM (dv 2 rfl vC (dv 3 rfl (vF 2) (dv 4 rfl (vF 4) ?_)))))
 refine d_all [5, 6] (by kernel_rfl) (by simp) ⟨⟨_, rfl, ?_⟩, ⟨_, rfl, ?_⟩, trivial⟩
 refine oV (vL 0 ty22) (dN [2, 2, 2, 2, 4] 0 (dO 6 rfl (oV (vL 7 ty57) (dN [2, 2, 2, 2, 4] 0 (dO 7 rfl (o_st (st_freeze 6 rfl) (o_buildSlice (enc := eProd) ([(Prod.mk true x_1.1 Cons_ false x_3.1)] : List Prod) [bV true, sV x_1.1, sV Cons_, bV false, sl A21 L21 C21] sl22 rfl (fun _ => by kernel_rfl) rfl rfl rfl (.s rfl (.s rfl (.s rfl (.s rfl (.f 0 rfl (.nil)))))) rfl ?_)))))))
 intro A25 L25 C25
 refine dN [3, 3, 3, 3, 4] 1 (dO 8 rfl (ite_some hL2 ?_))
 intro h10 hL2
 refine ite_some hL2 fun h11 hL2 => o_append (enc := eProd) (xs := q3) (ys := ([(Prod.mk true x_1.1 Cons_ false x_3.1)] : List Prod)) 2 sl22 rfl rfl rfl (.r 0 _ rfl) h10 h11 rfl fun A26 L26 C26 => dN [3, 3, 3, 3, 4] 1 (dv 9 rfl vC (dv 10 rfl (vF 2) ?_))
 refine dv 11 rfl (vF 4) (dO 12 rfl ((sT 1 ty22) (dN [3, 3, 3, 3, 4] 1 (dD ?_))))
 exact sK [1, 6, 6, 1, 1, 1, 1, 1] [2, 1, 0] (hN4 A26 L26 C26 hL2)
 refine oV (vL 7 ty57) (dN [2, 2, 2, 2, 4] 0 ?_)
 refine d_all [5, 7] (by kernel_rfl) (by simp) ⟨⟨_, rfl, ?_⟩, ⟨_, rfl, ?_⟩, trivial⟩
 refine oV (vL 0 ty22) (dN [2, 2, 2, 2, 4] 0 (dO 7 rfl (o_st (st_freeze 6 rfl) (o_buildSlice (enc := eProd) ([(Prod.mk true x_1.1 Cons_ false x_3.1)] : List Prod) [bV true, sV x_1.1, sV Cons_, bV false, sl A21 L21 C21] sl22 rfl (fun _ => by kernel_rfl) rfl rfl rfl (.s rfl (.s rfl (.s rfl (.s rfl (.f 0 rfl (.nil)))))) rfl ?_))))
 intro A25 L25 C25
 refine dN [3, 3, 3, 3, 4] 1 (dO 8 rfl (ite_some hL2 ?_))
 intro h10 hL2
 refine ite_some hL2 fun h11 hL2 => o_append (enc := eProd) (xs := q3) (ys := ([(Prod.mk true x_1.1 Cons_ false x_3.1)] : List Prod)) 2 sl22 rfl rfl rfl (.r 0 _ rfl) h10 h11 rfl fun A26 L26 C26 => dN [3, 3, 3, 3, 4] 1 (dv 9 rfl vC (dv 10 rfl (vF 2) (dv 11 rfl (vF 4) (dO 12 rfl ((sT 1 ty22) ?_)))))
 refine dN [3, 3, 3, 3, 4] 1 (dD ?_)
 exact sK [1, 6, 6, 1, 1, 1, 1, 1] [2, 1, 0] (hN4 A26 L26 C26 hL2)
 refine o_st (st_freeze 6 rfl) (o_buildSlice (enc := eProd) ([(Prod.mk true x_1.1 Cons_ false x_3.1)] : List Prod) [bV true, sV x_1.1, sV Cons_, bV false, sl A21 L21 C21] sl22 rfl (fun _ => by kernel_rfl) rfl rfl rfl (.s rfl (.s rfl (.s rfl (.s rfl (.f 0 rfl (.nil)))))) rfl fun A25 L25 C25 => dN [3, 3, 3, 3, 4] 1 (dO 5 rfl (oV (vL 1 ty22) (dN [3, 3, 3, 3, 4] 1 (dO 8 rfl (ite_some hL2 ?_))))))
 intro h10 hL2
 refine ite_some hL2 fun h11 hL2 => o_append (enc := eProd) (xs := q3) (ys := ([(Prod.mk true x_1.1 Cons_ false x_3.1)] : List Prod)) 2 sl22 rfl rfl rfl (.r 0 _ rfl) h10 h11 rfl fun A26 L26 C26 => dN [3, 3, 3, 3, 4] 1 (dv 9 rfl vC (dv 10 rfl (vF 2) (dv 11 rfl (vF 4) (dO 12 rfl ((sT 1 ty22) ?_)))))
 refine dN [3, 3, 3, 3, 4] 1 (dD ?_)
 exact sK [1, 6, 6, 1, 1, 1, 1, 1] [2, 1, 0] (hN4 A26 L26 C26 hL2)
 intro A23 L23 C23 hL2
 unfold F.defs.reader_lex_j4 at hL2
 refine sat_wc (c_seq (cR (oV vM ?_)))
 obtain ⟨v5, h6, hL2⟩ := bd hL2
 refine ocl [0, 2, 2, 2, 2, 2] call118 rfl rfl (subs [1] rfl) (tri118 h6 :) ?_
 rintro _ _ _ ⟨rfl, rfl, rfl⟩
 refine oV vN (o_seq ?_)
 refine cC hL2 (fun hL2 => ?_) (fun hL2 => ?_)
 refine c_exit1 ?_
 cases hL2
 exact sK [0, 5, 5, 0, 0, 0, 0, 0] [0, 1, 2] (hN2 (x_3.2.l_, x_3.2.at_, x_3.2.d.Start, x_3.2.d.Layout, (q3 ++ ([(Prod.mk true x_1.1 Cons_ false x_3.1)] : List Prod)), x_3.2.start, x_3.2.layout, x_3.2.items, x_3.1) A22 L22 C22 A23 L23 C23 A21 L21 C21 rfl)
 refine c_skip (sat_wc (c_seq (ite_some hL2 fun h8 hL2 => c_elem (xs := x_3.2.l_) (enc := eWord) 1 rfl h8 rfl rfl fun A24 L24 C24 => c_draw (n := 12) [0, 0, 0, 0, 0, 0, 0, 0] mixed rfl rfl (dv 0 rfl vM (dv 1 rfl vM (dv 2 rfl vC (dv 3 rfl (vF 0) (dv 4 rfl (vL 0 ty50) (dv 5 rfl vM (dv 6 rfl vC (dv 7 rfl (vF 1) (dv 8 rfl (vL 0 ty3) (dv 9 rfl (v_indexAddr_s (xs := x_3.2.l_) (enc := eWord) sl50 rfl rfl (.f 3 rfl) h8) ?_)))))))))))))
 refine dv 10 rfl (v_load_cl 0 ty106 rfl rfl rfl rfl rfl) (dO 11 rfl ?_)
 obtain ⟨v6, h9, hL2⟩ := bd hL2
 rcases v6 with x_4 | y_4
 replace hL2 := pn_ok hL2
 refine ocl [0, 0, 0, 0, 0, 0] call115 rfl rfl (subs [3, 1] rfl) (tri115 h9 :) ?_
 rintro _ _ _ ⟨rfl, rfl, rfl⟩
 refine dN [0, 0, 0, 0, 0, 0, 0, 0] 0 (d_done_seq (by kernel_rfl) (c_region (oV vM (oV vC ((fD 1) (oV (vL 0 ty3) (oV vB (oV vC ((fD 1) ((sT 0 ty3) (o_nil ?_)))))))))))
 exact sK [0, 5, 5, 0, 0, 0, 0, 0] [2, 3, 4] (hN3 x_3.2.l_ (IntKind.wrap .i64 (x_3.2.at_ + 1)) x_3.2.d.Start x_3.2.d.Layout (q3 ++ ([(Prod.mk true x_1.1 Cons_ false x_3.1)] : List Prod)) x_3.2.start x_3.2.layout x_3.2.items x_3.1 A22 L22 C22 A23 L23 C23 A21 L21 C21 hL2)
 replace hL2 := pn_pan hL2
 refine ocl [0, 0, 0, 0, 0, 0] call115 rfl rfl (subs [3, 1] rfl) (tri115 h9 :) ?_
 rintro _ _ _ ⟨rfl, rfl, rfl⟩
 cases hL2
 obtain rfl := lrf_ret hF
 exact sP
 replace hL2 := pn_pan hL2
 refine ocl [0, 2, 2, 2, 2, 2] call117 rfl rfl (subs [1] rfl) (tri117 h5 :) ?_
 rintro _ _ _ ⟨rfl, rfl, rfl⟩
 cases hL2
 obtain rfl := lrf_ret hF
 exact sP
 intro l__2 at__2 q1_2 q2_2 q3_1 q8_2 q9_2 q0_2 Syms_1 A18 L18 C18 A19 L19 C19 A20 L20 C20 hL2
 unfold F.defs.reader_lex_j3 at hL2
 exact lp [0, 0, 0, 0, 0, 0, 0, 0] [0, 1, 2] fun a w hs => ⟨l__2, at__2, q1_2, q2_2, q3_1, q8_2, q9_2, q0_2, Syms_1, A18, L18, C18, A19, L19, C19, A20, L20, C20, hL2, hs⟩
 intro d2 A15 L15 C15 A16 L16 C16 A17 L17 C17 hd
 subst hd
 replace hF := lrf_done hF
 refine sat_wc (c_region (oV vM ?_))
 obtain ⟨v7, h12, hF⟩ := bd hF
 rcases v7 with x_5 | y_5
 replace hF := pn_ok hF
 refine ocl [0, 2, 2, 2, 2, 2] call88 rfl rfl (subs [1] rfl) (tri88 h12 :) ?_
 rintro _ _ _ ⟨A27, L27, C27, rfl, rfl, rfl⟩
 refine o_nil ?_
 cases hF
 refine s_ret0 rfl fun a w hs => fin_sel hs [0, 0, 0, 0, 0, 0] ⟨A27, L27, C27, A16, L16, C16, rfl, rfl, rfl⟩ rfl (subs [0] rfl)
 replace hF := pn_pan hF
 refine ocl [0, 2, 2, 2, 2, 2] call88 rfl rfl (subs [1] rfl) (tri88 h12 :) ?_
 rintro _ _ _ ⟨rfl, rfl, rfl⟩
 cases hF
 exact sP
 replace hF := pn_pan hF
 refine ocl [0, 2, 2, 2, 2, 2] call88 rfl rfl (subs [1] rfl) (tri88 h4 :) ?_
 rintro _ _ _ ⟨rfl, rfl, rfl⟩
 cases hF
 exact sP
 replace hF := pn_pan hF
 refine ocl [0, 0, 0, 0, 0, 0] call86 rfl rfl (subs [0] rfl) (tri86 h2 :) ?_
 rintro _ _ _ ⟨rfl, rfl, rfl⟩
 cases hF
 exact sP
 replace hF := pn_pan hF
 refine ocl [2, 2, 2, 2, 2, 2] call115 rfl rfl (subs [0, 1] rfl) (tri115 h1 :) ?_
 rintro _ _ _ ⟨rfl, rfl, rfl⟩
 cases hF
 exact sP
theorem tri83 {k : Nat} {r_ : Defs_reader} {first : Word} {b : Nat} {r : Pn Defs_reader Fault} (hF : F.defs.reader_cf k r_ first = some r) :
    Tri Tryz.prog 83 [pt b, .agg (vWord first A7 L7 C7).toArray] [.box b 87 [sl A1 L1 C1, iI r_.at_, sV r_.d.Start, sV r_.d.Layout, sl A2 L2 C2, sl A3 L3 C3, sl A4 L4 C4, sl A5 L5 C5, sl A6 L6 C6, bV r_.start, bV r_.layout, iI r_.items], rW A2 L2 C2 57 5 eProd r_.d.Prods, rW A3 L3 C3 58 1 (eSl 2 eGroup) r_.d.Chains, rW A4 L4 C4 48 5 eFollow r_.d.Follows, rW A5 L5 C5 78 2 eReject r_.d.Rejects, rW A6 L6 C6 64 2 eBox r_.d.Boxes] [fS A1 L1 C1 11 eWord r_.l_, fS A7 L7 C7 1 eU8 first.Bytes] (fun o H Φ => match (generalizing := false) r with | .ok r => (∃ (A20 : OA) (L20 C20 : Nat) (A21 : OA) (L21 C21 : Nat), o = .ret (.tuple #[]) ∧ H = [.box b 87 [sl A20 L20 C20, iI r.at_, sV r.d.Start, sV r.d.Layout, sl A21 L21 C21, sl A3 L3 C3, sl A4 L4 C4, sl A5 L5 C5, sl A6 L6 C6, bV r.start, bV r.layout, iI r.items], rW A21 L21 C21 57 5 eProd r.d.Prods, rW A3 L3 C3 58 1 (eSl 2 eGroup) r_.d.Chains, rW A4 L4 C4 48 5 eFollow r_.d.Follows, rW A5 L5 C5 78 2 eReject r_.d.Rejects, rW A6 L6 C6 64 2 eBox r_.d.Boxes] ∧ Φ = [fS A20 L20 C20 11 eWord r.l_]) | .pan y => o = .pan (.iface 37 (.agg #[iI y.At, iI y.Code])) ∧ H = [] ∧ Φ = []) := by
 unfold F.defs.reader_cf at hF
 refine tri_intro (n := 41) Tryz.func83 rfl Tryz.ntmps83 rfl fun w X => cR (o_box rfl rfl rfl fun b1 => o_seq (cR (oV vM (oV (vL 0 ty106) ?_))))
 obtain ⟨v, h1, hF⟩ := bd hF
 rcases v with x_ | y_
 replace hF := pn_ok hF
 refine ocl [1, 1, 1, 1, 1, 1] call115 rfl rfl (subs [0, 1] rfl) (tri115 h1 :) ?_
 rintro _ _ _ ⟨rfl, rfl, rfl⟩
 refine o_seq (cR (oV vM ?_))
 obtain ⟨v1, h2, hF⟩ := bd hF
 rcases v1 with x_1 | y_1
 replace hF := pn_ok hF
 refine ocl [0, 0, 0, 0, 0, 0] call86 rfl rfl (subs [0] rfl) (tri86 h2 :) ?_
 rintro _ _ _ ⟨A8, L8, C8, rfl, rfl, rfl⟩
 refine oV (vU (.agg #[bV false, sV x_1.1, sV ([] : Tx), bV false, nS])) (o_alloc zero57 rfl rfl ?_)
 intro b2
 refine (sT 0 ty57) (o_seq (c_seq (cR (oV vM ?_))))
 obtain ⟨v2, h3, hF⟩ := bd hF
 refine ocl [1, 1, 1, 1, 1, 1] call116 rfl rfl (subs [0] rfl) (tri116 h3 :) ?_
 rintro _ _ _ ⟨A9, L9, C9, rfl, rfl, rfl⟩
 refine o_seq ?_
 refine c_cut (fun E N' => ∀ (l__ : List Word) (at__ : Int) (q1 : Tx) (q2 : Tx) (q8 : Bool) (q9 : Bool) (q0 : Int) (Cons_ : Tx) (A10 : OA) (L10 C10 : Nat), F.defs.reader_cf_j1 k r_ x_1 l__ at__ q1 q2 q8 q9 q0 Cons_ = some r → Sat E [(0, pt b), (1, .agg (vWord first A7 L7 C7).toArray), (3, pt b1), (4, pt b2)] [.box b 87 [sl A10 L10 C10, iI at__, sV q1, sV q2, sl A2 L2 C2, sl A3 L3 C3, sl A4 L4 C4, sl A5 L5 C5, sl A6 L6 C6, bV q8, bV q9, iI q0], .box b2 57 [bV false, sV x_1.1, sV Cons_, bV false, nS], .box b1 106 (vWord first A7 L7 C7), rW A2 L2 C2 57 5 eProd r_.d.Prods, rW A3 L3 C3 58 1 (eSl 2 eGroup) r_.d.Chains, rW A4 L4 C4 48 5 eFollow r_.d.Follows, rW A5 L5 C5 78 2 eReject r_.d.Rejects, rW A6 L6 C6 64 2 eBox r_.d.Boxes] [fS A7 L7 C7 1 eU8 first.Bytes, fS A10 L10 C10 11 eWord l__] N') (fun N2 hN2 => ?_) ?_
 refine cC hF (fun hF => ?_) (fun hF => ?_)
 refine c_region (oV vM ?_)
 obtain ⟨v7, h12, hF⟩ := bd hF
 rcases v7 with x_6 | y_6
 replace hF := pn_ok hF
 refine ocl [0, 0, 0, 0, 0, 0] call86 rfl rfl (subs [0] rfl) (tri86 h12 :) ?_
 rintro _ _ _ ⟨A19, L19, C19, rfl, rfl, rfl⟩
 refine (fD 2) ((sT 6 ty9) (o_nil ?_))
 exact sK [0, 5, 5, 0, 0, 0, 0, 0] [4, 0] (hN2 x_6.2.l_ x_6.2.at_ x_6.2.d.Start x_6.2.d.Layout x_6.2.start x_6.2.layout x_6.2.items x_6.1 A19 L19 C19 hF)
 replace hF := pn_pan hF
 refine ocl [0, 0, 0, 0, 0, 0] call86 rfl rfl (subs [0] rfl) (tri86 h12 :) ?_
 rintro _ _ _ ⟨rfl, rfl, rfl⟩
 cases hF
 exact sP
 refine c_skip ?_
 exact sK [0, 5, 5, 0, 0, 0, 0, 0] [3, 0] (hN2 v2.2.l_ v2.2.at_ v2.2.d.Start v2.2.d.Layout v2.2.start v2.2.layout v2.2.items ([] : Tx) A9 L9 C9 hF)
 intro l__ at__ q1 q2 q8 q9 q0 Cons_ A10 L10 C10 hF
 unfold F.defs.reader_cf_j1 at hF
 refine sat_wc (cR (oV vM ?_))
 obtain ⟨v3, h4, hF⟩ := bd hF
 rcases v3 with x_2 | y_2
 replace hF := pn_ok hF
 refine ocl [0, 2, 2, 2, 2, 2] call88 rfl rfl (subs [1] rfl) (tri88 h4 :) ?_
 rintro _ _ _ ⟨A11, L11, C11, rfl, rfl, rfl⟩
 refine o_seq (cR (oV vM ?_))
 obtain ⟨v4, h5, hF⟩ := bd hF
 rcases v4 with x_3 | y_3
 replace hF := pn_ok hF
 refine ocl [0, 0, 0, 0, 0, 0] call117 rfl rfl (subs [0] rfl) (tri117 h5 :) ?_
 rintro _ _ _ ⟨A12, L12, C12, A13, L13, C13, rfl, rfl, rfl⟩
 refine (fD 4) ((sT 7 ty55) (o_seq (c_seq (cR ((fD 2) (oV (vL 7 ty9) (oV (v_streq rfl rfl) (o_seq ?_))))))))
 refine c_cut (fun E N' => ∀ (l__1 : List Word) (at__1 : Int) (q1_1 : Tx) (q2_1 : Tx) (q8_1 : Bool) (q9_1 : Bool) (q0_1 : Int) (Bracket_ : Bool) (A14 : OA) (L14 C14 : Nat), F.defs.reader_cf_j2 r_ x_1 Cons_ x_3 l__1 at__1 q1_1 q2_1 q8_1 q9_1 q0_1 Bracket_ = some r → Sat E [(0, pt b), (1, .agg (vWord first A7 L7 C7).toArray), (3, pt b1), (4, pt b2)] [.box b 87 [sl A14 L14 C14, iI at__1, sV q1_1, sV q2_1, sl A2 L2 C2, sl A3 L3 C3, sl A4 L4 C4, sl A5 L5 C5, sl A6 L6 C6, bV q8_1, bV q9_1, iI q0_1], .box b2 57 [bV false, sV x_1.1, sV Cons_, bV Bracket_, sl A12 L12 C12], .box b1 106 (vWord first A7 L7 C7), rW A2 L2 C2 57 5 eProd r_.d.Prods, rW A3 L3 C3 58 1 (eSl 2 eGroup) r_.d.Chains, rW A4 L4 C4 48 5 eFollow r_.d.Follows, rW A5 L5 C5 78 2 eReject r_.d.Rejects, rW A6 L6 C6 64 2 eBox r_.d.Boxes, rW A12 L12 C12 114 8 eSym x_3.1] [fS A7 L7 C7 1 eU8 first.Bytes, fS A14 L14 C14 11 eWord l__1] N') (fun N2 hN2 => ?_) ?_
 refine cC hF (fun hF => ?_) (fun hF => ?_)
 refine cR (oV vM ?_)
 obtain ⟨v6, h10, hF⟩ := bd hF
 rcases v6 with x_5 | y_5
 replace hF := pn_ok hF
 refine ocl [0, 0, 0, 0, 0, 0] call88 rfl rfl (subs [0] rfl) (tri88 h10 :) ?_
 rintro _ _ _ ⟨A18, L18, C18, rfl, rfl, rfl⟩
 refine o_seq (c_region ((fD 3) ((sT 7 ty4) (o_nil ?_))))
 exact sK [0, 6, 6, 0, 0, 0, 0, 0, 0] [3, 0] (hN2 x_5.l_ x_5.at_ x_5.d.Start x_5.d.Layout x_5.start x_5.layout x_5.items true A18 L18 C18 hF)
 replace hF := pn_pan hF
 refine ocl [0, 0, 0, 0, 0, 0] call88 rfl rfl (subs [0] rfl) (tri88 h10 :) ?_
 rintro _ _ _ ⟨rfl, rfl, rfl⟩
 cases hF
 exact sP
 refine c_skip ?_
 exact sK [0, 6, 6, 0, 0, 0, 0, 0, 0] [2, 0] (hN2 x_3.2.l_ x_3.2.at_ x_3.2.d.Start x_3.2.d.Layout x_3.2.start x_3.2.layout x_3.2.items false A13 L13 C13 hF)
 intro l__1 at__1 q1_1 q2_1 q8_1 q9_1 q0_1 Bracket_ A14 L14 C14 hF
 unfold F.defs.reader_cf_j2 at hF
 refine sat_wc (cR (oV vM ?_))
 obtain ⟨v5, h6, hF⟩ := bd hF
 rcases v5 with x_4 | y_4
 replace hF := pn_ok hF
 refine ocl [0, 2, 2, 2, 2, 2] call88 rfl rfl (subs [1] rfl) (tri88 h6 :) ?_
 rintro _ _ _ ⟨A15, L15, C15, rfl, rfl, rfl⟩
 refine o_seq (c_draw (n := 13) [2, 2, 2, 2, 3] mixed rfl rfl (dv 0 rfl vM (dv 1 rfl vM (dv 2 rfl vC (dv 3 rfl (vF 2) (dv 4 rfl (vF 4) ?_))))))
 refine d_all [5, 6] (by kernel_rfl) (by simp) ⟨⟨_, rfl, ?_⟩, ⟨_, rfl, ?_⟩, trivial⟩
 refine oV (vL 0 ty22) (dN [2, 2, 2, 2, 3] 0 (dO 6 rfl (oV (vL 6 ty57) (dN [2, 2, 2, 2, 3] 0 (dO 7 rfl (o_st (st_freeze 8 rfl) (o_buildSlice (enc := eProd) ([(Prod.mk false x_1.1 Cons_ Bracket_ x_3.1)] : List Prod) [bV false, sV x_1.1, sV Cons_, bV Bracket_, sl A12 L12 C12] sl22 rfl (fun _ => by kernel_rfl) rfl rfl rfl (.s rfl (.s rfl (.s rfl (.s rfl (.f 0 rfl (.nil)))))) rfl ?_)))))))
 intro A16 L16 C16
 refine dN [3, 3, 3, 3, 4] 1 (dO 8 rfl (ite_some hF ?_))
 intro h7 hF
 refine ite_some hF fun h8 hF => o_append (enc := eProd) (xs := r_.d.Prods) (ys := ([(Prod.mk false x_1.1 Cons_ Bracket_ x_3.1)] : List Prod)) 2 sl22 rfl rfl rfl (.r 0 _ rfl) h7 h8 rfl fun A17 L17 C17 => dN [3, 3, 3, 3, 4] 1 (dv 9 rfl vC (dv 10 rfl (vF 2) ?_))
 refine dv 11 rfl (vF 4) (dO 12 rfl ((sT 1 ty22) (dN [3, 3, 3, 3, 4] 1 (dD ?_))))
 cases hF
 refine s_ret0 rfl fun a w hs => fin_sel hs [1, 1, 1, 1, 1, 1] ⟨A15, L15, C15, A17, L17, C17, rfl, rfl, rfl⟩ rfl (subs [1] rfl)
 refine oV (vL 6 ty57) (dN [2, 2, 2, 2, 3] 0 ?_)
 refine d_all [5, 7] (by kernel_rfl) (by simp) ⟨⟨_, rfl, ?_⟩, ⟨_, rfl, ?_⟩, trivial⟩
 refine oV (vL 0 ty22) (dN [2, 2, 2, 2, 3] 0 (dO 7 rfl (o_st (st_freeze 8 rfl) (o_buildSlice (enc := eProd) ([(Prod.mk false x_1.1 Cons_ Bracket_ x_3.1)] : List Prod) [bV false, sV x_1.1, sV Cons_, bV Bracket_, sl A12 L12 C12] sl22 rfl (fun _ => by kernel_rfl) rfl rfl rfl (.s rfl (.s rfl (.s rfl (.s rfl (.f 0 rfl (.nil)))))) rfl ?_))))
 intro A16 L16 C16
 refine dN [3, 3, 3, 3, 4] 1 (dO 8 rfl (ite_some hF ?_))
 intro h7 hF
 refine ite_some hF fun h8 hF => o_append (enc := eProd) (xs := r_.d.Prods) (ys := ([(Prod.mk false x_1.1 Cons_ Bracket_ x_3.1)] : List Prod)) 2 sl22 rfl rfl rfl (.r 0 _ rfl) h7 h8 rfl fun A17 L17 C17 => dN [3, 3, 3, 3, 4] 1 (dv 9 rfl vC (dv 10 rfl (vF 2) (dv 11 rfl (vF 4) (dO 12 rfl ((sT 1 ty22) ?_)))))
 refine dN [3, 3, 3, 3, 4] 1 (dD ?_)
 cases hF
 refine s_ret0 rfl fun a w hs => fin_sel hs [1, 1, 1, 1, 1, 1] ⟨A15, L15, C15, A17, L17, C17, rfl, rfl, rfl⟩ rfl (subs [1] rfl)
 refine o_st (st_freeze 8 rfl) (o_buildSlice (enc := eProd) ([(Prod.mk false x_1.1 Cons_ Bracket_ x_3.1)] : List Prod) [bV false, sV x_1.1, sV Cons_, bV Bracket_, sl A12 L12 C12] sl22 rfl (fun _ => by kernel_rfl) rfl rfl rfl (.s rfl (.s rfl (.s rfl (.s rfl (.f 0 rfl (.nil)))))) rfl fun A16 L16 C16 => dN [3, 3, 3, 3, 4] 1 (dO 5 rfl (oV (vL 1 ty22) (dN [3, 3, 3, 3, 4] 1 (dO 8 rfl (ite_some hF ?_))))))
 intro h7 hF
 refine ite_some hF fun h8 hF => o_append (enc := eProd) (xs := r_.d.Prods) (ys := ([(Prod.mk false x_1.1 Cons_ Bracket_ x_3.1)] : List Prod)) 2 sl22 rfl rfl rfl (.r 0 _ rfl) h7 h8 rfl fun A17 L17 C17 => dN [3, 3, 3, 3, 4] 1 (dv 9 rfl vC (dv 10 rfl (vF 2) (dv 11 rfl (vF 4) (dO 12 rfl ((sT 1 ty22) ?_)))))
 refine dN [3, 3, 3, 3, 4] 1 (dD ?_)
 cases hF
 refine s_ret0 rfl fun a w hs => fin_sel hs [1, 1, 1, 1, 1, 1] ⟨A15, L15, C15, A17, L17, C17, rfl, rfl, rfl⟩ rfl (subs [1] rfl)
 replace hF := pn_pan hF
 refine ocl [0, 2, 2, 2, 2, 2] call88 rfl rfl (subs [1] rfl) (tri88 h6 :) ?_
 rintro _ _ _ ⟨rfl, rfl, rfl⟩
 cases hF
 exact sP
 replace hF := pn_pan hF
 refine ocl [0, 0, 0, 0, 0, 0] call117 rfl rfl (subs [0] rfl) (tri117 h5 :) ?_
 rintro _ _ _ ⟨rfl, rfl, rfl⟩
 cases hF
 exact sP
 replace hF := pn_pan hF
 refine ocl [0, 2, 2, 2, 2, 2] call88 rfl rfl (subs [1] rfl) (tri88 h4 :) ?_
 rintro _ _ _ ⟨rfl, rfl, rfl⟩
 cases hF
 exact sP
 replace hF := pn_pan hF
 refine ocl [0, 0, 0, 0, 0, 0] call86 rfl rfl (subs [0] rfl) (tri86 h2 :) ?_
 rintro _ _ _ ⟨rfl, rfl, rfl⟩
 cases hF
 exact sP
 replace hF := pn_pan hF
 refine ocl [1, 1, 1, 1, 1, 1] call115 rfl rfl (subs [0, 1] rfl) (tri115 h1 :) ?_
 rintro _ _ _ ⟨rfl, rfl, rfl⟩
 cases hF
 exact sP
theorem tri119 {k : Nat} {r_ : Defs_reader} {b : Nat} {r : Pn (Group × Defs_reader) Fault} (hF : F.defs.reader_group k r_ = some r) :
    Tri Tryz.prog 119 [pt b] [.box b 87 [sl A1 L1 C1, iI r_.at_, sV r_.d.Start, sV r_.d.Layout, sl A2 L2 C2, sl A3 L3 C3, sl A4 L4 C4, sl A5 L5 C5, sl A6 L6 C6, bV r_.start, bV r_.layout, iI r_.items], rW A2 L2 C2 57 5 eProd r_.d.Prods, rW A3 L3 C3 58 1 (eSl 2 eGroup) r_.d.Chains, rW A4 L4 C4 48 5 eFollow r_.d.Follows, rW A5 L5 C5 78 2 eReject r_.d.Rejects, rW A6 L6 C6 64 2 eBox r_.d.Boxes] [fS A1 L1 C1 11 eWord r_.l_] (fun o H Φ => match (generalizing := false) r with | .ok r => (∃ (A28 : OA) (L28 C28 : Nat) (A29 : OA) (L29 C29 : Nat), o = .ret (.agg #[iI r.1.Assoc, sl A28 L28 C28]) ∧ H = [.box b 87 [sl A29 L29 C29, iI r.2.at_, sV r.2.d.Start, sV r.2.d.Layout, sl A2 L2 C2, sl A3 L3 C3, sl A4 L4 C4, sl A5 L5 C5, sl A6 L6 C6, bV r.2.start, bV r.2.layout, iI r.2.items], rW A2 L2 C2 57 5 eProd r_.d.Prods, rW A3 L3 C3 58 1 (eSl 2 eGroup) r_.d.Chains, rW A4 L4 C4 48 5 eFollow r_.d.Follows, rW A5 L5 C5 78 2 eReject r_.d.Rejects, rW A6 L6 C6 64 2 eBox r_.d.Boxes] ∧ Φ = [fS A28 L28 C28 1 eStr r.1.Cons, fS A29 L29 C29 11 eWord r.2.l_]) | .pan y => o = .pan (.iface 37 (.agg #[iI y.At, iI y.Code])) ∧ H = [] ∧ Φ = []) := by
 unfold F.defs.reader_group at hF
 refine tri_intro (n := 63) Tryz.func119 rfl Tryz.ntmps119 rfl fun w X => cR (o_alloc zero61 rfl rfl fun b1 => o_seq (cR (oV (vU (.agg #[iI 0, nS])) (o_alloc zero61 rfl rfl ?_))))
 intro b2
 refine (sT 0 ty61) (o_seq (c_seq (cR (o_buildSlice (enc := eStr) ([([108, 101, 102, 116] : Tx), ([114, 105, 103, 104, 116] : Tx), ([110, 111, 110] : Tx)] : List (List UInt8)) [sV ([108, 101, 102, 116] : Tx), sV ([114, 105, 103, 104, 116] : Tx), sV ([110, 111, 110] : Tx)] sl59 rfl (fun _ => by kernel_rfl) rfl rfl rfl (.s rfl (.s rfl (.s rfl (.nil)))) rfl ?_))))
 intro A7 L7 C7
 refine oV (v_lenS (enc := eStr) ([([108, 101, 102, 116] : Tx), ([114, 105, 103, 104, 116] : Tx), ([110, 111, 110] : Tx)] : List (List UInt8)) sl59 rfl (.r 0 _ rfl)) ?_
 refine oV vM (o_seq ?_)
 obtain ⟨o1, ho1, hF⟩ := bd hF
 refine c_cut (fun E N' => ∀ (A9 : OA) (L9 C9 : Nat), Sat E [(0, pt b), (2, pt b1), (3, pt b2), (7, sl A7 L7 C7)] [.box b 87 [sl A9 L9 C9, iI o1.2.1, sV o1.2.2.1, sV o1.2.2.2.1, sl A2 L2 C2, sl A3 L3 C3, sl A4 L4 C4, sl A5 L5 C5, sl A6 L6 C6, bV o1.2.2.2.2.1, bV o1.2.2.2.2.2.1, iI o1.2.2.2.2.2.2.1], .box b2 61 [iI o1.2.2.2.2.2.2.2, nS], .box b1 61 [iI 0, nS], rW A7 L7 C7 9 1 eStr ([([108, 101, 102, 116] : Tx), ([114, 105, 103, 104, 116] : Tx), ([110, 111, 110] : Tx)] : List (List UInt8)), rW A2 L2 C2 57 5 eProd r_.d.Prods, rW A3 L3 C3 58 1 (eSl 2 eGroup) r_.d.Chains, rW A4 L4 C4 48 5 eFollow r_.d.Follows, rW A5 L5 C5 78 2 eReject r_.d.Rejects, rW A6 L6 C6 64 2 eBox r_.d.Boxes] [fS A9 L9 C9 11 eWord o1.1] N') (fun N1 hN1 => ?_) ?_
 refine c_block ?_
 refine c_loopE (fun E j a w => ∃ (t9 : Int) (l__ : List Word) (at__ : Int) (q1 : Tx) (q2 : Tx) (q8 : Bool) (q9 : Bool) (q0 : Int) (A8 : OA) (L8 C8 : Nat), F.defs.reader_group_l1 r_ j t9 l__ at__ q1 q2 q8 q9 q0 = some o1 ∧ St E [(0, pt b), (2, pt b1), (3, pt b2), (7, sl A7 L7 C7), (8, iI (([([108, 101, 102, 116] : Tx), ([114, 105, 103, 104, 116] : Tx), ([110, 111, 110] : Tx)] : List (List UInt8)).length : Int)), (9, iI t9)] [.box b2 61 [iI 0, nS], .box b1 61 [iI 0, nS], .box b 87 [sl A8 L8 C8, iI at__, sV q1, sV q2, sl A2 L2 C2, sl A3 L3 C3, sl A4 L4 C4, sl A5 L5 C5, sl A6 L6 C6, bV q8, bV q9, iI q0], rW A7 L7 C7 9 1 eStr ([([108, 101, 102, 116] : Tx), ([114, 105, 103, 104, 116] : Tx), ([110, 111, 110] : Tx)] : List (List UInt8)), rW A2 L2 C2 57 5 eProd r_.d.Prods, rW A3 L3 C3 58 1 (eSl 2 eGroup) r_.d.Chains, rW A4 L4 C4 48 5 eFollow r_.d.Follows, rW A5 L5 C5 78 2 eReject r_.d.Rejects, rW A6 L6 C6 64 2 eBox r_.d.Boxes] [fS A8 L8 C8 11 eWord l__] a w) k ?_ ?_
 exact lq [1, 1, 1, 0, 0, 0, 0, 0, 0] [0] fun a w hs => ⟨0, r_.l_, r_.at_, r_.d.Start, r_.d.Layout, r_.start, r_.layout, r_.items, A1, L1, C1, ho1, hs⟩
 rintro j a w ⟨t9, l__, at__, q1, q2, q8, q9, q0, A8, L8, C8, hL1, hs⟩
 rcases j with _ | j
 cases hL1
 refine wc_app hs ?_
 unfold F.defs.reader_group_l1 at hL1
 refine cR (oV vB (o_seq (c_seq ?_)))
 refine cC hL1 (fun hL1 => ?_) (fun hL1 => ?_)
 refine c_skip (sat_wc (c_seq (c_block (cR (oV vM (ite_some hL1 ?_))))))
 intro h2 hL1
 refine oV (v_indexAddr_s (xs := ([([108, 101, 102, 116] : Tx), ([114, 105, 103, 104, 116] : Tx), ([110, 111, 110] : Tx)] : List (List UInt8))) (enc := eStr) sl59 rfl rfl (.r 3 _ rfl) h2) (oV (v_load_s (xs := ([([108, 101, 102, 116] : Tx), ([114, 105, 103, 104, 116] : Tx), ([110, 111, 110] : Tx)] : List (List UInt8))) (enc := eStr) ty9 rfl (.r 3 _ rfl) h2 rfl rfl rfl rfl rfl rfl rfl) (oV vA (oV vA (o_seq (cR (oV vM ?_))))))
 refine oV vM ?_
 obtain ⟨v, h3, hL1⟩ := bd hL1
 refine ocl [2, 3, 3, 3, 3, 3] call116 rfl rfl (subs [0] rfl) (tri116 h3 :) ?_
 rintro _ _ _ ⟨A10, L10, C10, rfl, rfl, rfl⟩
 refine o_seq ?_
 refine cC hL1 (fun hL1 => ?_) (fun hL1 => ?_)
 refine cR (oV vM (oV vB ((fD 0) ((sT 6 ty3) (o_seq (c_exit1 ?_))))))
 cases hL1
 exact sK [0, 5, 5, 5, 0, 0, 0, 0, 0] [0] (hN1 A10 L10 C10)
 refine c_skip (sat_wc (c_region (oV vB (oV vM (o_nil ?_)))))
 exact lp [6, 6, 0, 5, 0, 0, 0, 0, 0] [0] fun a w hs => ⟨IntKind.wrap .i64 (t9 + 1), v.2.l_, v.2.at_, v.2.d.Start, v.2.d.Layout, v.2.start, v.2.layout, v.2.items, A10, L10, C10, hL1, hs⟩
 refine c_exit0 ?_
 cases hL1
 exact sK [2, 0, 0, 0, 0, 0, 0, 0, 0] [0] (hN1 A8 L8 C8)
 intro A9 L9 C9
 refine sat_wc (c_seq ?_)
 refine c_cut (fun E N' => ∀ (l__1 : List Word) (at__1 : Int) (q1_1 : Tx) (q2_1 : Tx) (q8_1 : Bool) (q9_1 : Bool) (q0_1 : Int) (Cons_ : List (List UInt8)) (A11 : OA) (L11 C11 : Nat) (A12 : OA) (L12 C12 : Nat), F.defs.reader_group_j2 k r_ o1 l__1 at__1 q1_1 q2_1 q8_1 q9_1 q0_1 Cons_ = some r → Sat E [(0, pt b), (2, pt b1), (3, pt b2), (7, sl A7 L7 C7)] [.box b 87 [sl A11 L11 C11, iI at__1, sV q1_1, sV q2_1, sl A2 L2 C2, sl A3 L3 C3, sl A4 L4 C4, sl A5 L5 C5, sl A6 L6 C6, bV q8_1, bV q9_1, iI q0_1], .box b2 61 [iI o1.2.2.2.2.2.2.2, sl A12 L12 C12], .box b1 61 [iI 0, nS], rW A7 L7 C7 9 1 eStr ([([108, 101, 102, 116] : Tx), ([114, 105, 103, 104, 116] : Tx), ([110, 111, 110] : Tx)] : List (List UInt8)), rW A2 L2 C2 57 5 eProd r_.d.Prods, rW A3 L3 C3 58 1 (eSl 2 eGroup) r_.d.Chains, rW A4 L4 C4 48 5 eFollow r_.d.Follows, rW A5 L5 C5 78 2 eReject r_.d.Rejects, rW A6 L6 C6 64 2 eBox r_.d.Boxes, rW A12 L12 C12 9 1 eStr Cons_] [fS A11 L11 C11 11 eWord l__1] N') (fun N6 hN6 => ?_) ?_
 refine c_draw (n := 8) [2, 2, 2, 2, 2, 2, 2] mixed rfl rfl (dv 0 rfl (vF 1) (dv 2 rfl vM ?_))
 refine d_all [1, 3] (by kernel_rfl) (by simp) ⟨⟨_, rfl, ?_⟩, ⟨_, rfl, ?_⟩, trivial⟩
 refine oV (vL 1 ty59) (dN [2, 2, 2, 2, 2, 2, 2] 0 (dO 3 rfl ?_))
 obtain ⟨v3, h12, hF⟩ := bd hF
 rcases v3 with x_2 | y_2
 replace hF := pn_ok hF
 refine ocl [0, 3, 3, 3, 3, 3] call86 rfl rfl (subs [0] rfl) (tri86 h12 :) ?_
 rintro _ _ _ ⟨A25, L25, C25, rfl, rfl, rfl⟩
 refine dN [7, 7, 1, 1, 1, 1, 1] 1 (dO 4 rfl (o_buildSlice (enc := eStr) ([x_2.1] : List (List UInt8)) [sV x_2.1] sl59 rfl (fun _ => by kernel_rfl) rfl rfl rfl (.s rfl (.nil)) rfl ?_))
 intro A26 L26 C26
 refine dN [8, 8, 2, 2, 2, 2, 2] 1 (dO 5 rfl (ite_some hF ?_))
 intro h13 hF
 refine ite_some hF fun h14 hF => o_st (st_nilrow 9 1) (o_append (enc := eStr) (xs := ([] : List (List UInt8))) (ys := ([x_2.1] : List (List UInt8))) 0 sl59 rfl rfl rfl (.r 1 _ rfl) h13 h14 rfl fun A27 L27 C27 => dN [9, 9, 3, 3, 3, 3, 3] 1 (dv 6 rfl (vF 1) (dO 7 rfl ((sT 8 ty59) (dN [9, 9, 3, 3, 3, 3, 3] 1 (dD ?_))))))
 exact sK [2, 7, 7, 7, 2, 2, 2, 2, 2, 0] [0] (hN6 x_2.2.l_ x_2.2.at_ x_2.2.d.Start x_2.2.d.Layout x_2.2.start x_2.2.layout x_2.2.items (([] : List (List UInt8)) ++ ([x_2.1] : List (List UInt8))) A25 L25 C25 A27 L27 C27 hF)
 replace hF := pn_pan hF
 refine ocl [0, 3, 3, 3, 3, 3] call86 rfl rfl (subs [0] rfl) (tri86 h12 :) ?_
 rintro _ _ _ ⟨rfl, rfl, rfl⟩
 cases hF
 exact sP
 obtain ⟨v3, h12, hF⟩ := bd hF
 rcases v3 with x_2 | y_2
 replace hF := pn_ok hF
 refine ocl [0, 3, 3, 3, 3, 3] call86 rfl rfl (subs [0] rfl) (tri86 h12 :) ?_
 rintro _ _ _ ⟨A25, L25, C25, rfl, rfl, rfl⟩
 refine dN [7, 7, 1, 1, 1, 1, 1] 1 ?_
 refine d_all [1, 4] (by kernel_rfl) (by simp) ⟨⟨_, rfl, ?_⟩, ⟨_, rfl, ?_⟩, trivial⟩
 refine oV (vL 6 ty59) (dN [7, 7, 1, 1, 1, 1, 1] 1 (dO 4 rfl (o_buildSlice (enc := eStr) ([x_2.1] : List (List UInt8)) [sV x_2.1] sl59 rfl (fun _ => by kernel_rfl) rfl rfl rfl (.s rfl (.nil)) rfl ?_)))
 intro A26 L26 C26
 refine dN [8, 8, 2, 2, 2, 2, 2] 1 (dO 5 rfl (ite_some hF ?_))
 intro h13 hF
 refine ite_some hF fun h14 hF => o_st (st_nilrow 9 1) (o_append (enc := eStr) (xs := ([] : List (List UInt8))) (ys := ([x_2.1] : List (List UInt8))) 0 sl59 rfl rfl rfl (.r 1 _ rfl) h13 h14 rfl fun A27 L27 C27 => dN [9, 9, 3, 3, 3, 3, 3] 1 (dv 6 rfl (vF 1) (dO 7 rfl ((sT 8 ty59) (dN [9, 9, 3, 3, 3, 3, 3] 1 (dD ?_))))))
 exact sK [2, 7, 7, 7, 2, 2, 2, 2, 2, 0] [0] (hN6 x_2.2.l_ x_2.2.at_ x_2.2.d.Start x_2.2.d.Layout x_2.2.start x_2.2.layout x_2.2.items (([] : List (List UInt8)) ++ ([x_2.1] : List (List UInt8))) A25 L25 C25 A27 L27 C27 hF)
 refine o_buildSlice (enc := eStr) ([x_2.1] : List (List UInt8)) [sV x_2.1] sl59 rfl (fun _ => by kernel_rfl) rfl rfl rfl (.s rfl (.nil)) rfl fun A26 L26 C26 => dN [8, 8, 2, 2, 2, 2, 2] 1 (dO 1 rfl (oV (vL 7 ty59) (dN [8, 8, 2, 2, 2, 2, 2] 1 (dO 5 rfl (ite_some hF ?_)))))
 intro h13 hF
 refine ite_some hF fun h14 hF => o_st (st_nilrow 9 1) (o_append (enc := eStr) (xs := ([] : List (List UInt8))) (ys := ([x_2.1] : List (List UInt8))) 0 sl59 rfl rfl rfl (.r 1 _ rfl) h13 h14 rfl fun A27 L27 C27 => dN [9, 9, 3, 3, 3, 3, 3] 1 (dv 6 rfl (vF 1) (dO 7 rfl ((sT 8 ty59) (dN [9, 9, 3, 3, 3, 3, 3] 1 (dD ?_))))))
 exact sK [2, 7, 7, 7, 2, 2, 2, 2, 2, 0] [0] (hN6 x_2.2.l_ x_2.2.at_ x_2.2.d.Start x_2.2.d.Layout x_2.2.start x_2.2.layout x_2.2.items (([] : List (List UInt8)) ++ ([x_2.1] : List (List UInt8))) A25 L25 C25 A27 L27 C27 hF)
 replace hF := pn_pan hF
 refine ocl [0, 3, 3, 3, 3, 3] call86 rfl rfl (subs [0] rfl) (tri86 h12 :) ?_
 rintro _ _ _ ⟨rfl, rfl, rfl⟩
 cases hF
 exact sP
 intro l__1 at__1 q1_1 q2_1 q8_1 q9_1 q0_1 Cons_ A11 L11 C11 A12 L12 C12 hF
 unfold F.defs.reader_group_j2 at hF
 refine sat_wc (c_seq ?_)
 obtain ⟨o3, ho3, hF⟩ := bd hF
 refine c_cut (fun E N' => ∀ (d3 : (List Word) × Int × (List UInt8) × (List UInt8) × Bool × Bool × Int × (List (List UInt8))) (A15 : OA) (L15 C15 : Nat) (A16 : OA) (L16 C16 : Nat), o3 = .done d3 → Sat E [(0, pt b), (2, pt b1), (3, pt b2), (7, sl A7 L7 C7)] [.box b 87 [sl A15 L15 C15, iI d3.2.1, sV d3.2.2.1, sV d3.2.2.2.1, sl A2 L2 C2, sl A3 L3 C3, sl A4 L4 C4, sl A5 L5 C5, sl A6 L6 C6, bV d3.2.2.2.2.1, bV d3.2.2.2.2.2.1, iI d3.2.2.2.2.2.2.1], .box b2 61 [iI o1.2.2.2.2.2.2.2, sl A16 L16 C16], .box b1 61 [iI 0, nS], rW A7 L7 C7 9 1 eStr ([([108, 101, 102, 116] : Tx), ([114, 105, 103, 104, 116] : Tx), ([110, 111, 110] : Tx)] : List (List UInt8)), rW A2 L2 C2 57 5 eProd r_.d.Prods, rW A3 L3 C3 58 1 (eSl 2 eGroup) r_.d.Chains, rW A4 L4 C4 48 5 eFollow r_.d.Follows, rW A5 L5 C5 78 2 eReject r_.d.Rejects, rW A6 L6 C6 64 2 eBox r_.d.Boxes, rW A16 L16 C16 9 1 eStr d3.2.2.2.2.2.2.2] [fS A15 L15 C15 11 eWord d3.1] N') (fun N3 hN3 => ?_) ?_
 refine c_block ?_
 refine c_loopE (fun E j a w => ∃ (l__2 : List Word) (at__2 : Int) (q1_2 : Tx) (q2_2 : Tx) (q8_2 : Bool) (q9_2 : Bool) (q0_2 : Int) (Cons_1 : List (List UInt8)) (A13 : OA) (L13 C13 : Nat) (A14 : OA) (L14 C14 : Nat), F.defs.reader_group_l3 r_ j l__2 at__2 q1_2 q2_2 q8_2 q9_2 q0_2 Cons_1 = some o3 ∧ St E [(0, pt b), (2, pt b1), (3, pt b2), (7, sl A7 L7 C7)] [.box b 87 [sl A13 L13 C13, iI at__2, sV q1_2, sV q2_2, sl A2 L2 C2, sl A3 L3 C3, sl A4 L4 C4, sl A5 L5 C5, sl A6 L6 C6, bV q8_2, bV q9_2, iI q0_2], .box b2 61 [iI o1.2.2.2.2.2.2.2, sl A14 L14 C14], .box b1 61 [iI 0, nS], rW A7 L7 C7 9 1 eStr ([([108, 101, 102, 116] : Tx), ([114, 105, 103, 104, 116] : Tx), ([110, 111, 110] : Tx)] : List (List UInt8)), rW A2 L2 C2 57 5 eProd r_.d.Prods, rW A3 L3 C3 58 1 (eSl 2 eGroup) r_.d.Chains, rW A4 L4 C4 48 5 eFollow r_.d.Follows, rW A5 L5 C5 78 2 eReject r_.d.Rejects, rW A6 L6 C6 64 2 eBox r_.d.Boxes, rW A14 L14 C14 9 1 eStr Cons_1] [fS A13 L13 C13 11 eWord l__2] a w) k ?_ ?_
 exact lq [0, 0, 0, 0, 0, 0, 0, 0, 0, 0] [0] fun a w hs => ⟨l__1, at__1, q1_1, q2_1, q8_1, q9_1, q0_1, Cons_, A11, L11, C11, A12, L12, C12, ho3, hs⟩
 rintro j a w ⟨l__2, at__2, q1_2, q2_2, q8_2, q9_2, q0_2, Cons_1, A13, L13, C13, A14, L14, C14, hL3, hs⟩
 rcases j with _ | j
 cases hL3
 refine wc_app hs ?_
 unfold F.defs.reader_group_l3 at hL3
 refine c_seq (c_seq (c_draw (n := 12) [0, 0, 0, 0, 0, 0, 0, 0, 0, 0] mixed rfl rfl (dv 0 rfl vM (dv 1 rfl vC (dv 2 rfl (vF 0) (dv 3 rfl (vL 0 ty50) (dv 4 rfl vM (dv 5 rfl vC (dv 6 rfl (vF 1) (dv 7 rfl (vL 0 ty3) (ite_some hL3 ?_)))))))))))
 intro h5 hL3
 refine dv 8 rfl (v_indexAddr_s (xs := l__2) (enc := eWord) sl50 rfl rfl (.f 0 rfl) h5) (dv 9 rfl (v_fieldAddr (v := .pointer (some ⟨blkA A13, offA A13 + (Int.toNat at__2 * 11 + 0), none⟩)) rfl (fun _ => by kernel_rfl)) (dv 10 rfl (v_load_s (xs := l__2) (enc := eWord) ty3 rfl (.f 0 rfl) h5 rfl rfl rfl rfl rfl rfl rfl) (dv 11 rfl vB ?_)))
 refine d_done_seq (by kernel_rfl) ?_
 refine cC hL3 (fun hL3 => ?_) (fun hL3 => ?_)
 refine c_skip (sat_wc ?_)
 refine c_cut (fun E N' => ∀ (l__3 : List Word) (at__3 : Int) (q1_3 : Tx) (q2_3 : Tx) (q8_3 : Bool) (q9_3 : Bool) (q0_3 : Int) (Cons_2 : List (List UInt8)) (A17 : OA) (L17 C17 : Nat) (A18 : OA) (L18 C18 : Nat), F.defs.reader_group_j4 (F.defs.reader_group_l3 r_ j) l__3 at__3 q1_3 q2_3 q8_3 q9_3 q0_3 Cons_2 = some o3 → Sat E [(0, pt b), (2, pt b1), (3, pt b2), (7, sl A7 L7 C7)] [.box b 87 [sl A17 L17 C17, iI at__3, sV q1_3, sV q2_3, sl A2 L2 C2, sl A3 L3 C3, sl A4 L4 C4, sl A5 L5 C5, sl A6 L6 C6, bV q8_3, bV q9_3, iI q0_3], .box b2 61 [iI o1.2.2.2.2.2.2.2, sl A18 L18 C18], .box b1 61 [iI 0, nS], rW A7 L7 C7 9 1 eStr ([([108, 101, 102, 116] : Tx), ([114, 105, 103, 104, 116] : Tx), ([110, 111, 110] : Tx)] : List (List UInt8)), rW A2 L2 C2 57 5 eProd r_.d.Prods, rW A3 L3 C3 58 1 (eSl 2 eGroup) r_.d.Chains, rW A4 L4 C4 48 5 eFollow r_.d.Follows, rW A5 L5 C5 78 2 eReject r_.d.Rejects, rW A6 L6 C6 64 2 eBox r_.d.Boxes, rW A18 L18 C18 9 1 eStr Cons_2] [fS A17 L17 C17 11 eWord l__3] N') (fun N4 hN4 => ?_) ?_
 refine c_block (c_seq (cR ((fD 1) (oV (vL 1 ty59) (oV (v_lenS (enc := eStr) Cons_1 sl59 rfl (.r 9 _ rfl)) (oV vB (o_seq ?_)))))))
 refine cT (fun E H Φ N' => F.defs.reader_group_j5 l__2 at__2 q1_2 q2_2 r_ q8_2 q9_2 q0_2 Cons_1 (F.defs.reader_group_l3 r_ j) = some o3 → Sat E [(0, pt b), (2, pt b1), (3, pt b2), (7, sl A7 L7 C7)] H Φ N') (fun N6 hN6 => ?_) ?_
 refine cC hL3 (fun hL3 => ?_) (fun hL3 => ?_)
 refine c_elem (xs := l__2) (enc := eWord) 0 rfl h5 rfl rfl fun A24 L24 C24 => c_draw (n := 11) [0, 0, 0, 0, 0, 0, 0, 0, 0, 0] mixed rfl rfl (dv 0 rfl vM (dv 1 rfl vC (dv 2 rfl (vF 0) (dv 3 rfl (vL 0 ty50) (dv 4 rfl vM (dv 5 rfl vC (dv 6 rfl (vF 1) (dv 7 rfl (vL 0 ty3) (dv 8 rfl (v_indexAddr_s (xs := l__2) (enc := eWord) sl50 rfl rfl (.f 2 rfl) h5) (dv 9 rfl (v_load_cl 0 ty106 rfl rfl rfl rfl rfl) (dO 10 rfl ?_)))))))))))
 obtain ⟨v2, h11, hL3⟩ := bd hL3
 rcases v2 with x_1 | y_1
 replace hL3 := pn_ok hL3
 refine o_call0 call92 rfl (subs [1] rfl) (tri92 h11 :) rfl ?_
 rintro _ _ _ ⟨rfl, rfl, rfl⟩
 refine dN [0, 0, 0, 0, 0, 0, 0, 0, 0, 0] 0 (dD ?_)
 exact sK [0, 0, 0, 0, 0, 0, 0, 0, 0, 0] [2] (hN6 hL3)
 replace hL3 := pn_pan hL3
 refine o_call0 call92 rfl (subs [1] rfl) (tri92 h11 :) rfl ?_
 rintro _ _ _ ⟨rfl, rfl, rfl⟩
 cases hL3
 obtain rfl := lrf_ret hF
 exact sP
 refine c_skip ?_
 exact sK [0, 0, 0, 0, 0, 0, 0, 0, 0, 0] [0] (hN6 hL3)
 intro hL3
 unfold F.defs.reader_group_j5 at hL3
 refine sat_wc ?_
 refine c_cut (fun E N' => ∀ (l__4 : List Word) (at__4 : Int) (q1_4 : Tx) (q2_4 : Tx) (q8_4 : Bool) (q9_4 : Bool) (q0_4 : Int) (Cons_3 : List (List UInt8)) (A19 : OA) (L19 C19 : Nat) (A20 : OA) (L20 C20 : Nat), F.defs.reader_group_j6 (F.defs.reader_group_l3 r_ j) l__4 at__4 q1_4 q2_4 q8_4 q9_4 q0_4 Cons_3 = some o3 → Sat E [(0, pt b), (2, pt b1), (3, pt b2), (7, sl A7 L7 C7)] [.box b 87 [sl A19 L19 C19, iI at__4, sV q1_4, sV q2_4, sl A2 L2 C2, sl A3 L3 C3, sl A4 L4 C4, sl A5 L5 C5, sl A6 L6 C6, bV q8_4, bV q9_4, iI q0_4], .box b2 61 [iI o1.2.2.2.2.2.2.2, sl A20 L20 C20], .box b1 61 [iI 0, nS], rW A7 L7 C7 9 1 eStr ([([108, 101, 102, 116] : Tx), ([114, 105, 103, 104, 116] : Tx), ([110, 111, 110] : Tx)] : List (List UInt8)), rW A2 L2 C2 57 5 eProd r_.d.Prods, rW A3 L3 C3 58 1 (eSl 2 eGroup) r_.d.Chains, rW A4 L4 C4 48 5 eFollow r_.d.Follows, rW A5 L5 C5 78 2 eReject r_.d.Rejects, rW A6 L6 C6 64 2 eBox r_.d.Boxes, rW A20 L20 C20 9 1 eStr Cons_3] [fS A19 L19 C19 11 eWord l__4] N') (fun N6 hN6 => ?_) ?_
 refine c_draw (n := 8) [2, 2, 2, 2, 2, 2, 2] mixed rfl rfl (dv 0 rfl (vF 1) (dv 2 rfl vM ?_))
 refine d_all [1, 3] (by kernel_rfl) (by simp) ⟨⟨_, rfl, ?_⟩, ⟨_, rfl, ?_⟩, trivial⟩
 refine oV (vL 1 ty59) (dN [2, 2, 2, 2, 2, 2, 2] 0 (dO 3 rfl ?_))
 obtain ⟨v1, h7, hL3⟩ := bd hL3
 rcases v1 with x_ | y_
 replace hL3 := pn_ok hL3
 refine ocl [0, 3, 3, 3, 3, 3] call86 rfl rfl (subs [0] rfl) (tri86 h7 :) ?_
 rintro _ _ _ ⟨A21, L21, C21, rfl, rfl, rfl⟩
 refine dN [7, 7, 1, 1, 1, 1, 1] 1 (dO 4 rfl (o_buildSlice (enc := eStr) ([x_.1] : List (List UInt8)) [sV x_.1] sl59 rfl (fun _ => by kernel_rfl) rfl rfl rfl (.s rfl (.nil)) rfl ?_))
 intro A22 L22 C22
 refine dN [8, 8, 2, 2, 2, 2, 2] 1 (dO 5 rfl (ite_some hL3 ?_))
 intro h8 hL3
 refine ite_some hL3 fun h9 hL3 => o_append (enc := eStr) (xs := Cons_1) (ys := ([x_.1] : List (List UInt8))) 10 sl59 rfl rfl rfl (.r 0 _ rfl) h8 h9 rfl fun A23 L23 C23 => dN [8, 8, 2, 2, 2, 2, 2] 1 (dv 6 rfl (vF 1) (dO 7 rfl ((sT 7 ty59) (dN [8, 8, 2, 2, 2, 2, 2] 1 (dD ?_)))))
 exact sK [1, 6, 6, 6, 1, 1, 1, 1, 1, 1] [0] (hN6 x_.2.l_ x_.2.at_ x_.2.d.Start x_.2.d.Layout x_.2.start x_.2.layout x_.2.items (Cons_1 ++ ([x_.1] : List (List UInt8))) A21 L21 C21 A23 L23 C23 hL3)
 replace hL3 := pn_pan hL3
 refine ocl [0, 3, 3, 3, 3, 3] call86 rfl rfl (subs [0] rfl) (tri86 h7 :) ?_
 rintro _ _ _ ⟨rfl, rfl, rfl⟩
 cases hL3
 obtain rfl := lrf_ret hF
 exact sP
 obtain ⟨v1, h7, hL3⟩ := bd hL3
 rcases v1 with x_ | y_
 replace hL3 := pn_ok hL3
 refine ocl [0, 3, 3, 3, 3, 3] call86 rfl rfl (subs [0] rfl) (tri86 h7 :) ?_
 rintro _ _ _ ⟨A21, L21, C21, rfl, rfl, rfl⟩
 refine dN [7, 7, 1, 1, 1, 1, 1] 1 ?_
 refine d_all [1, 4] (by kernel_rfl) (by simp) ⟨⟨_, rfl, ?_⟩, ⟨_, rfl, ?_⟩, trivial⟩
 refine oV (vL 6 ty59) (dN [7, 7, 1, 1, 1, 1, 1] 1 (dO 4 rfl (o_buildSlice (enc := eStr) ([x_.1] : List (List UInt8)) [sV x_.1] sl59 rfl (fun _ => by kernel_rfl) rfl rfl rfl (.s rfl (.nil)) rfl ?_)))
 intro A22 L22 C22
 refine dN [8, 8, 2, 2, 2, 2, 2] 1 (dO 5 rfl (ite_some hL3 ?_))
 intro h8 hL3
 refine ite_some hL3 fun h9 hL3 => o_append (enc := eStr) (xs := Cons_1) (ys := ([x_.1] : List (List UInt8))) 10 sl59 rfl rfl rfl (.r 0 _ rfl) h8 h9 rfl fun A23 L23 C23 => dN [8, 8, 2, 2, 2, 2, 2] 1 (dv 6 rfl (vF 1) (dO 7 rfl ((sT 7 ty59) (dN [8, 8, 2, 2, 2, 2, 2] 1 (dD ?_)))))
 exact sK [1, 6, 6, 6, 1, 1, 1, 1, 1, 1] [0] (hN6 x_.2.l_ x_.2.at_ x_.2.d.Start x_.2.d.Layout x_.2.start x_.2.layout x_.2.items (Cons_1 ++ ([x_.1] : List (List UInt8))) A21 L21 C21 A23 L23 C23 hL3)
 refine o_buildSlice (enc := eStr) ([x_.1] : List (List UInt8)) [sV x_.1] sl59 rfl (fun _ => by kernel_rfl) rfl rfl rfl (.s rfl (.nil)) rfl fun A22 L22 C22 => dN [8, 8, 2, 2, 2, 2, 2] 1 (dO 1 rfl (oV (vL 7 ty59) (dN [8, 8, 2, 2, 2, 2, 2] 1 (dO 5 rfl (ite_some hL3 ?_)))))
 intro h8 hL3
 refine ite_some hL3 fun h9 hL3 => o_append (enc := eStr) (xs := Cons_1) (ys := ([x_.1] : List (List UInt8))) 10 sl59 rfl rfl rfl (.r 0 _ rfl) h8 h9 rfl fun A23 L23 C23 => dN [8, 8, 2, 2, 2, 2, 2] 1 (dv 6 rfl (vF 1) (dO 7 rfl ((sT 7 ty59) (dN [8, 8, 2, 2, 2, 2, 2] 1 (dD ?_)))))
 exact sK [1, 6, 6, 6, 1, 1, 1, 1, 1, 1] [0] (hN6 x_.2.l_ x_.2.at_ x_.2.d.Start x_.2.d.Layout x_.2.start x_.2.layout x_.2.items (Cons_1 ++ ([x_.1] : List (List UInt8))) A21 L21 C21 A23 L23 C23 hL3)
 replace hL3 := pn_pan hL3
 refine ocl [0, 3, 3, 3, 3, 3] call86 rfl rfl (subs [0] rfl) (tri86 h7 :) ?_
 rintro _ _ _ ⟨rfl, rfl, rfl⟩
 cases hL3
 obtain rfl := lrf_ret hF
 exact sP
 intro l__4 at__4 q1_4 q2_4 q8_4 q9_4 q0_4 Cons_3 A19 L19 C19 A20 L20 C20 hL3
 unfold F.defs.reader_group_j6 at hL3
 exact sK [0, 0, 0, 0, 0, 0, 0, 0, 0, 0] [0] (hN4 l__4 at__4 q1_4 q2_4 q8_4 q9_4 q0_4 Cons_3 A19 L19 C19 A20 L20 C20 hL3)
 intro l__3 at__3 q1_3 q2_3 q8_3 q9_3 q0_3 Cons_2 A17 L17 C17 A18 L18 C18 hL3
 unfold F.defs.reader_group_j4 at hL3
 exact lp [0, 0, 0, 0, 0, 0, 0, 0, 0, 0] [0] fun a w hs => ⟨l__3, at__3, q1_3, q2_3, q8_3, q9_3, q0_3, Cons_2, A17, L17, C17, A18, L18, C18, hL3, hs⟩
 refine c_exit0 ?_
 cases hL3
 exact sK [0, 0, 0, 0, 0, 0, 0, 0, 0, 0] [0] (hN3 (l__2, at__2, q1_2, q2_2, q8_2, q9_2, q0_2, Cons_1) A13 L13 C13 A14 L14 C14 rfl)
 intro d3 A15 L15 C15 A16 L16 C16 hd
 subst hd
 replace hF := lrf_done hF
 refine sat_wc (cR (oV (vL 1 ty61) ((sT 2 ty61) (o_seq (c_ret ?_)))))
 cases hF
 refine s_st (st_freeze 9 rfl) (s_ret1 rfl (r_cell 2 rfl ty61 rfl rfl rfl rfl) fun a w hs => fin_sel hs [0, 3, 3, 3, 3, 3] ⟨A16, L16, C16, A15, L15, C15, rfl, rfl, rfl⟩ rfl (subs [0, 1] rfl))
theorem tri84 {k : Nat} {r_ : Defs_reader} {p1 : Word} {b : Nat} {r : Pn Defs_reader Fault} (hF : F.defs.reader_prio k r_ p1 = some r) :
    Tri Tryz.prog 84 [pt b, .agg (vWord p1 A7 L7 C7).toArray] [.box b 87 [sl A1 L1 C1, iI r_.at_, sV r_.d.Start, sV r_.d.Layout, sl A2 L2 C2, sl A3 L3 C3, sl A4 L4 C4, sl A5 L5 C5, sl A6 L6 C6, bV r_.start, bV r_.layout, iI r_.items], rW A2 L2 C2 57 5 eProd r_.d.Prods, rW A3 L3 C3 58 1 (eSl 2 eGroup) r_.d.Chains, rW A4 L4 C4 48 5 eFollow r_.d.Follows, rW A5 L5 C5 78 2 eReject r_.d.Rejects, rW A6 L6 C6 64 2 eBox r_.d.Boxes] [fS A1 L1 C1 11 eWord r_.l_, fS A7 L7 C7 1 eU8 p1.Bytes] (fun o H Φ => match (generalizing := false) r with | .ok r => (∃ (A26 : OA) (L26 C26 : Nat) (A27 : OA) (L27 C27 : Nat), o = .ret (.tuple #[]) ∧ H = [.box b 87 [sl A26 L26 C26, iI r.at_, sV r.d.Start, sV r.d.Layout, sl A2 L2 C2, sl A27 L27 C27, sl A4 L4 C4, sl A5 L5 C5, sl A6 L6 C6, bV r.start, bV r.layout, iI r.items], rW A2 L2 C2 57 5 eProd r_.d.Prods, rW A27 L27 C27 58 1 (eSl 2 eGroup) r.d.Chains, rW A4 L4 C4 48 5 eFollow r_.d.Follows, rW A5 L5 C5 78 2 eReject r_.d.Rejects, rW A6 L6 C6 64 2 eBox r_.d.Boxes] ∧ Φ = [fS A26 L26 C26 11 eWord r.l_]) | .pan y => o = .pan (.iface 37 (.agg #[iI y.At, iI y.Code])) ∧ H = [] ∧ Φ = []) := by
 unfold F.defs.reader_prio at hF
 refine tri_intro (n := 43) Tryz.func84 rfl Tryz.ntmps84 rfl fun w X => cR (o_box rfl rfl rfl fun b1 => o_seq (cR (oV vM ?_)))
 obtain ⟨v, h1, hF⟩ := bd hF
 rcases v with x_ | y_
 replace hF := pn_ok hF
 refine ocl [1, 1, 1, 1, 1, 1] call119 rfl rfl (subs [0] rfl) (tri119 h1 :) ?_
 rintro _ _ _ ⟨A8, L8, C8, A9, L9, C9, rfl, rfl, rfl⟩
 refine o_buildSlice (enc := eGroup) ([x_.1] : List Group) [iI x_.1.Assoc, sl A8 L8 C8] sl58 rfl (fun _ => by kernel_rfl) rfl rfl rfl (.s rfl (.f 0 rfl (.nil))) rfl fun A10 L10 C10 => oV vA (o_seq (c_seq ?_))
 obtain ⟨o1, ho1, hF⟩ := bd hF
 refine c_cut (fun E N' => ∀ (d1 : (List Group) × (List Word) × Int × (List UInt8) × (List UInt8) × Bool × Bool × Int) (A13 : OA) (L13 C13 : Nat) (A14 : OA) (L14 C14 : Nat), o1 = .done d1 → Sat E [(0, pt b), (1, .agg (vWord p1 A7 L7 C7).toArray), (4, sl A13 L13 C13)] [.box b 87 [sl A14 L14 C14, iI d1.2.2.1, sV d1.2.2.2.1, sV d1.2.2.2.2.1, sl A2 L2 C2, sl A3 L3 C3, sl A4 L4 C4, sl A5 L5 C5, sl A6 L6 C6, bV d1.2.2.2.2.2.1, bV d1.2.2.2.2.2.2.1, iI d1.2.2.2.2.2.2.2], rW A13 L13 C13 61 2 eGroup d1.1, rW A2 L2 C2 57 5 eProd r_.d.Prods, rW A3 L3 C3 58 1 (eSl 2 eGroup) r_.d.Chains, rW A4 L4 C4 48 5 eFollow r_.d.Follows, rW A5 L5 C5 78 2 eReject r_.d.Rejects, rW A6 L6 C6 64 2 eBox r_.d.Boxes] [fS A7 L7 C7 1 eU8 p1.Bytes, fS A14 L14 C14 11 eWord d1.2.1] N') (fun N1 hN1 => ?_) ?_
 refine c_block ?_
 refine c_loopE (fun E j a w => ∃ (l__ : List Group) (l__1 : List Word) (at__ : Int) (q1 : Tx) (q2 : Tx) (q8 : Bool) (q9 : Bool) (q0 : Int) (A11 : OA) (L11 C11 : Nat) (A12 : OA) (L12 C12 : Nat), F.defs.reader_prio_l1 k r_ j l__ l__1 at__ q1 q2 q8 q9 q0 = some o1 ∧ St E [(0, pt b), (1, .agg (vWord p1 A7 L7 C7).toArray), (4, sl A11 L11 C11)] [.box b 87 [sl A12 L12 C12, iI at__, sV q1, sV q2, sl A2 L2 C2, sl A3 L3 C3, sl A4 L4 C4, sl A5 L5 C5, sl A6 L6 C6, bV q8, bV q9, iI q0], rW A11 L11 C11 61 2 eGroup l__, rW A2 L2 C2 57 5 eProd r_.d.Prods, rW A3 L3 C3 58 1 (eSl 2 eGroup) r_.d.Chains, rW A4 L4 C4 48 5 eFollow r_.d.Follows, rW A5 L5 C5 78 2 eReject r_.d.Rejects, rW A6 L6 C6 64 2 eBox r_.d.Boxes] [fS A7 L7 C7 1 eU8 p1.Bytes, fS A12 L12 C12 11 eWord l__1] a w) k ?_ ?_
 exact lq [1, 0, 0, 0, 0, 0, 0] [3, 1] fun a w hs => ⟨([x_.1] : List Group), x_.2.l_, x_.2.at_, x_.2.d.Start, x_.2.d.Layout, x_.2.start, x_.2.layout, x_.2.items, A10, L10, C10, A9, L9, C9, ho1, hs⟩
 rintro j a w ⟨l__, l__1, at__, q1, q2, q8, q9, q0, A11, L11, C11, A12, L12, C12, hL1, hs⟩
 rcases j with _ | j
 cases hL1
 refine wc_app hs ?_
 unfold F.defs.reader_prio_l1 at hL1
 refine c_seq (cR (oV vM ?_))
 obtain ⟨v1, h2, hL1⟩ := bd hL1
 refine ocl [0, 1, 1, 1, 1, 1] call116 rfl rfl (subs [1] rfl) (tri116 h2 :) ?_
 rintro _ _ _ ⟨A15, L15, C15, rfl, rfl, rfl⟩
 refine o_seq ?_
 refine cC hL1 (fun hL1 => ?_) (fun hL1 => ?_)
 refine c_skip (sat_wc ?_)
 refine c_cut (fun E N' => ∀ (l__2 : List Group) (l__3 : List Word) (at__1 : Int) (q1_1 : Tx) (q2_1 : Tx) (q8_1 : Bool) (q9_1 : Bool) (q0_1 : Int) (A16 : OA) (L16 C16 : Nat) (A17 : OA) (L17 C17 : Nat), F.defs.reader_prio_j2 (F.defs.reader_prio_l1 k r_ j) l__2 l__3 at__1 q1_1 q2_1 q8_1 q9_1 q0_1 = some o1 → Sat E [(0, pt b), (1, .agg (vWord p1 A7 L7 C7).toArray), (4, sl A16 L16 C16)] [.box b 87 [sl A17 L17 C17, iI at__1, sV q1_1, sV q2_1, sl A2 L2 C2, sl A3 L3 C3, sl A4 L4 C4, sl A5 L5 C5, sl A6 L6 C6, bV q8_1, bV q9_1, iI q0_1], rW A16 L16 C16 61 2 eGroup l__2, rW A2 L2 C2 57 5 eProd r_.d.Prods, rW A3 L3 C3 58 1 (eSl 2 eGroup) r_.d.Chains, rW A4 L4 C4 48 5 eFollow r_.d.Follows, rW A5 L5 C5 78 2 eReject r_.d.Rejects, rW A6 L6 C6 64 2 eBox r_.d.Boxes] [fS A7 L7 C7 1 eU8 p1.Bytes, fS A17 L17 C17 11 eWord l__3] N') (fun N2 hN2 => ?_) ?_
 refine c_block (c_seq (cR (oV vM (oV (v_lenS (enc := eGroup) l__ sl58 rfl (.r 6 _ rfl)) (oV vB (o_seq ?_))))))
 refine c_cut (fun E N' => F.defs.reader_prio_j3 k v1 r_ l__ (F.defs.reader_prio_l1 k r_ j) = some o1 → Sat E [(0, pt b), (1, .agg (vWord p1 A7 L7 C7).toArray), (4, sl A11 L11 C11)] [.box b 87 [sl A15 L15 C15, iI v1.2.at_, sV v1.2.d.Start, sV v1.2.d.Layout, sl A2 L2 C2, sl A3 L3 C3, sl A4 L4 C4, sl A5 L5 C5, sl A6 L6 C6, bV v1.2.start, bV v1.2.layout, iI v1.2.items], rW A11 L11 C11 61 2 eGroup l__, rW A2 L2 C2 57 5 eProd r_.d.Prods, rW A3 L3 C3 58 1 (eSl 2 eGroup) r_.d.Chains, rW A4 L4 C4 48 5 eFollow r_.d.Follows, rW A5 L5 C5 78 2 eReject r_.d.Rejects, rW A6 L6 C6 64 2 eBox r_.d.Boxes] [fS A7 L7 C7 1 eU8 p1.Bytes, fS A15 L15 C15 11 eWord v1.2.l_] N') (fun N3 hN3 => ?_) ?_
 refine cC hL1 (fun hL1 => ?_) (fun hL1 => ?_)
 refine ite_some hL1 fun h8 hL1 => c_elem (xs := v1.2.l_) (enc := eWord) 0 rfl h8 rfl rfl fun A22 L22 C22 => c_draw (n := 11) [0, 0, 0, 0, 0, 0, 0] mixed rfl rfl (dv 0 rfl vM (dv 1 rfl vC (dv 2 rfl (vF 0) (dv 3 rfl (vL 0 ty50) (dv 4 rfl vM (dv 5 rfl vC (dv 6 rfl (vF 1) (dv 7 rfl (vL 0 ty3) (dv 8 rfl (v_indexAddr_s (xs := v1.2.l_) (enc := eWord) sl50 rfl rfl (.f 2 rfl) h8) (dv 9 rfl (v_load_cl 0 ty106 rfl rfl rfl rfl rfl) (dO 10 rfl ?_)))))))))))
 obtain ⟨v3, h9, hL1⟩ := bd hL1
 rcases v3 with x_2 | y_2
 replace hL1 := pn_ok hL1
 refine o_call0 call92 rfl (subs [1] rfl) (tri92 h9 :) rfl ?_
 rintro _ _ _ ⟨rfl, rfl, rfl⟩
 refine dN [0, 0, 0, 0, 0, 0, 0] 0 (dD ?_)
 exact sK [0, 5, 0, 0, 0, 0, 0] [3, 2] (hN3 hL1)
 replace hL1 := pn_pan hL1
 refine o_call0 call92 rfl (subs [1] rfl) (tri92 h9 :) rfl ?_
 rintro _ _ _ ⟨rfl, rfl, rfl⟩
 cases hL1
 obtain rfl := lrf_ret hF
 exact sP
 refine c_skip ?_
 exact sK [0, 5, 0, 0, 0, 0, 0] [1, 0] (hN3 hL1)
 intro hL1
 unfold F.defs.reader_prio_j3 at hL1
 refine sat_wc (c_region (oV vM (oV vM ?_)))
 obtain ⟨v2, h4, hL1⟩ := bd hL1
 rcases v2 with x_1 | y_1
 replace hL1 := pn_ok hL1
 refine ocl [0, 1, 1, 1, 1, 1] call119 rfl rfl (subs [1] rfl) (tri119 h4 :) ?_
 rintro _ _ _ ⟨A18, L18, C18, A19, L19, C19, rfl, rfl, rfl⟩
 refine o_buildSlice (enc := eGroup) ([x_1.1] : List Group) [iI x_1.1.Assoc, sl A18 L18 C18] sl58 rfl (fun _ => by kernel_rfl) rfl rfl rfl (.s rfl (.f 0 rfl (.nil))) rfl fun A20 L20 C20 => ite_some hL1 fun h5 hL1 => ite_some hL1 fun h6 hL1 => o_append (enc := eGroup) (xs := l__) (ys := ([x_1.1] : List Group)) 7 sl58 rfl rfl rfl (.r 0 _ rfl) h5 h6 rfl fun A21 L21 C21 => oV vA (o_nil ?_)
 exact sK [1, 6, 1, 1, 1, 1, 1] [2, 1] (hN2 (l__ ++ ([x_1.1] : List Group)) x_1.2.l_ x_1.2.at_ x_1.2.d.Start x_1.2.d.Layout x_1.2.start x_1.2.layout x_1.2.items A21 L21 C21 A19 L19 C19 hL1)
 replace hL1 := pn_pan hL1
 refine ocl [0, 1, 1, 1, 1, 1] call119 rfl rfl (subs [1] rfl) (tri119 h4 :) ?_
 rintro _ _ _ ⟨rfl, rfl, rfl⟩
 cases hL1
 obtain rfl := lrf_ret hF
 exact sP
 intro l__2 l__3 at__1 q1_1 q2_1 q8_1 q9_1 q0_1 A16 L16 C16 A17 L17 C17 hL1
 unfold F.defs.reader_prio_j2 at hL1
 exact lp [0, 0, 0, 0, 0, 0, 0] [0, 1] fun a w hs => ⟨l__2, l__3, at__1, q1_1, q2_1, q8_1, q9_1, q0_1, A16, L16, C16, A17, L17, C17, hL1, hs⟩
 refine c_exit0 ?_
 cases hL1
 exact sK [0, 5, 0, 0, 0, 0, 0] [1, 0] (hN1 (l__, v1.2.l_, v1.2.at_, v1.2.d.Start, v1.2.d.Layout, v1.2.start, v1.2.layout, v1.2.items) A11 L11 C11 A15 L15 C15 rfl)
 intro d1 A13 L13 C13 A14 L14 C14 hd
 subst hd
 replace hF := lrf_done hF
 refine sat_wc (cR (oV vM ?_))
 obtain ⟨v4, h10, hF⟩ := bd hF
 rcases v4 with x_3 | y_3
 replace hF := pn_ok hF
 refine ocl [0, 1, 1, 1, 1, 1] call88 rfl rfl (subs [1] rfl) (tri88 h10 :) ?_
 rintro _ _ _ ⟨A23, L23, C23, rfl, rfl, rfl⟩
 refine o_seq (c_region (oV vM (oV vM (oV vC ((fD 2) ((fD 5) (oV (vL 0 ty23) (oV vM (o_st (st_freeze 6 rfl) (o_buildSlice (enc := (eSl 2 eGroup)) ([d1.1] : List (List Group)) [sl A13 L13 C13] sl23 rfl (fun _ => by kernel_rfl) rfl rfl rfl (.f 0 rfl (.nil)) rfl ?_))))))))))
 intro A24 L24 C24
 refine ite_some hF fun h11 hF => ite_some hF fun h12 hF => o_append (enc := (eSl 2 eGroup)) (xs := r_.d.Chains) (ys := ([d1.1] : List (List Group))) 3 sl23 rfl rfl rfl (.r 0 _ rfl) h11 h12 rfl fun A25 L25 C25 => oV vC ((fD 2) ?_)
 refine (fD 5) ((sT 1 ty23) (o_nil ?_))
 cases hF
 refine s_ret0 rfl fun a w hs => fin_sel hs [1, 1, 1, 1, 1, 1] ⟨A23, L23, C23, A25, L25, C25, rfl, rfl, rfl⟩ rfl (subs [1] rfl)
 replace hF := pn_pan hF
 refine ocl [0, 1, 1, 1, 1, 1] call88 rfl rfl (subs [1] rfl) (tri88 h10 :) ?_
 rintro _ _ _ ⟨rfl, rfl, rfl⟩
 cases hF
 exact sP
 replace hF := pn_pan hF
 refine ocl [1, 1, 1, 1, 1, 1] call119 rfl rfl (subs [0] rfl) (tri119 h1 :) ?_
 rintro _ _ _ ⟨rfl, rfl, rfl⟩
 cases hF
 exact sP
theorem tri85 {p0 : Word} {free : Defs_reader} {b : Nat} {b1 : Nat} {r : Pn Defs_reader Fault} (hF : F.defs.reader_all_c3 p0 free = some r) :
    Tri Tryz.prog 85 [.agg (vWord p0 A1 L1 C1).toArray, pt b1] [.box b 87 [sl A2 L2 C2, iI free.at_, sV free.d.Start, sV free.d.Layout, sl A3 L3 C3, sl A4 L4 C4, sl A5 L5 C5, sl A6 L6 C6, sl A7 L7 C7, bV free.start, bV free.layout, iI free.items], rW A3 L3 C3 57 5 eProd free.d.Prods, rW A4 L4 C4 58 1 (eSl 2 eGroup) free.d.Chains, rW A5 L5 C5 48 5 eFollow free.d.Follows, rW A6 L6 C6 78 2 eReject free.d.Rejects, rW A7 L7 C7 64 2 eBox free.d.Boxes, .box b1 85 [pt b]] [fS A1 L1 C1 1 eU8 p0.Bytes, fS A2 L2 C2 11 eWord free.l_] (fun o H Φ => match (generalizing := false) r with | .ok r => (∃ (A16 : OA) (L16 C16 : Nat) (A17 : OA) (L17 C17 : Nat), o = .ret (.tuple #[]) ∧ H = [.box b 87 [sl A16 L16 C16, iI r.at_, sV r.d.Start, sV r.d.Layout, sl A3 L3 C3, sl A4 L4 C4, sl A17 L17 C17, sl A6 L6 C6, sl A7 L7 C7, bV r.start, bV r.layout, iI r.items], rW A3 L3 C3 57 5 eProd free.d.Prods, rW A4 L4 C4 58 1 (eSl 2 eGroup) free.d.Chains, rW A17 L17 C17 48 5 eFollow r.d.Follows, rW A6 L6 C6 78 2 eReject free.d.Rejects, rW A7 L7 C7 64 2 eBox free.d.Boxes, .box b1 85 [pt b]] ∧ Φ = [fS A16 L16 C16 11 eWord r.l_]) | .pan y => o = .pan (.iface 37 (.agg #[iI y.At, iI y.Code])) ∧ H = [] ∧ Φ = []) := by
 unfold F.defs.reader_all_c3 at hF
 refine tri_intro (n := 24) Tryz.func85 rfl Tryz.ntmps85 rfl fun w X => cR (o_box rfl rfl rfl fun b2 => o_seq (cR (oV (vL 7 ty85) ?_)))
 obtain ⟨v, h1, hF⟩ := bd hF
 rcases v with x_ | y_
 replace hF := pn_ok hF
 refine ocl [1, 1, 1, 1, 1, 1] call86 rfl rfl (subs [1] rfl) (tri86 h1 :) ?_
 rintro _ _ _ ⟨A8, L8, C8, rfl, rfl, rfl⟩
 refine oV vA (o_seq (c_seq ?_))
 refine c_cut (fun E N' => ∀ (l__ : List Word) (at__ : Int) (q1 : Tx) (q2 : Tx) (q5 : List Follow) (q8 : Bool) (q9 : Bool) (q0 : Int) (A9 : OA) (L9 C9 : Nat) (A10 : OA) (L10 C10 : Nat), F.defs.reader_all_c3_j1 free l__ at__ q1 q2 q5 q8 q9 q0 = some r → Sat E [(0, .agg (vWord p0 A1 L1 C1).toArray), (1, pt b1)] [.box b 87 [sl A9 L9 C9, iI at__, sV q1, sV q2, sl A3 L3 C3, sl A4 L4 C4, sl A10 L10 C10, sl A6 L6 C6, sl A7 L7 C7, bV q8, bV q9, iI q0], .box b1 85 [pt b], rW A3 L3 C3 57 5 eProd free.d.Prods, rW A4 L4 C4 58 1 (eSl 2 eGroup) free.d.Chains, rW A10 L10 C10 48 5 eFollow q5, rW A6 L6 C6 78 2 eReject free.d.Rejects, rW A7 L7 C7 64 2 eBox free.d.Boxes] [fS A1 L1 C1 1 eU8 p0.Bytes, fS A9 L9 C9 11 eWord l__] N') (fun N1 hN1 => ?_) ?_
 refine c_draw (n := 17) [1, 1, 2, 2, 2, 2] mixed rfl rfl (dv 0 rfl (vL 5 ty85) (dv 1 rfl (vL 5 ty85) (dv 2 rfl vC (dv 3 rfl (vF 2) (dv 4 rfl (vF 6) (dv 6 rfl vM (dv 7 rfl (vL 5 ty85) ?_)))))))
 refine d_all [5, 8] (by kernel_rfl) (by simp) ⟨⟨_, rfl, ?_⟩, ⟨_, rfl, ?_⟩, trivial⟩
 refine oV (vL 0 ty24) (dN [1, 1, 2, 2, 2, 2] 0 (dO 8 rfl ?_))
 obtain ⟨v2, h3, hF⟩ := bd hF
 rcases v2 with x_2 | y_2
 replace hF := pn_ok hF
 refine ocl [0, 0, 0, 0, 0, 0] call87 rfl rfl (subs [0] rfl) (tri87 h3 :) ?_
 rintro _ _ _ ⟨A12, L12, C12, A13, L13, C13, rfl, rfl, rfl⟩
 refine dN [1, 1, 2, 2, 2, 2] 2 (dv 9 rfl (v_field (v := .agg x_2.1.Set.vs.toArray) rfl (fun _ => by kernel_rfl)) (dv 10 rfl (v_build (v := .agg #[sV x_.1, iU x_2.1.Set.w0, iU x_2.1.Set.w1, iU x_2.1.Set.w2, iU x_2.1.Set.w3]) rfl (fun _ => by kernel_rfl)) (dO 11 rfl (o_buildSlice (enc := eFollow) ([(Follow.mk x_.1 x_2.1.Set)] : List Follow) [sV x_.1, iU x_2.1.Set.w0, iU x_2.1.Set.w1, iU x_2.1.Set.w2, iU x_2.1.Set.w3] sl24 rfl (fun _ => by kernel_rfl) rfl rfl rfl (.s rfl (.s rfl (.s rfl (.s rfl (.s rfl (.nil)))))) rfl ?_))))
 intro A14 L14 C14
 refine dN [2, 2, 3, 3, 3, 3] 2 (dO 12 rfl (ite_some hF ?_))
 intro h4 hF
 refine ite_some hF fun h5 hF => o_append (enc := eFollow) (xs := free.d.Follows) (ys := ([(Follow.mk x_.1 x_2.1.Set)] : List Follow)) 4 sl24 rfl rfl rfl (.r 0 _ rfl) h4 h5 rfl fun A15 L15 C15 => dN [2, 2, 3, 3, 3, 3] 2 (dv 13 rfl vC (dv 14 rfl (vF 2) (dv 15 rfl (vF 6) (dO 16 rfl ((sT 1 ty24) ?_)))))
 refine dN [2, 2, 3, 3, 3, 3] 2 (dD ?_)
 exact sK [1, 7, 1, 1, 1, 1, 1] [3, 1] (hN1 x_2.2.l_ x_2.2.at_ x_2.2.d.Start x_2.2.d.Layout (free.d.Follows ++ ([(Follow.mk x_.1 x_2.1.Set)] : List Follow)) x_2.2.start x_2.2.layout x_2.2.items A13 L13 C13 A15 L15 C15 hF)
 replace hF := pn_pan hF
 refine ocl [0, 0, 0, 0, 0, 0] call87 rfl rfl (subs [0] rfl) (tri87 h3 :) ?_
 rintro _ _ _ ⟨rfl, rfl, rfl⟩
 cases hF
 exact sP
 obtain ⟨v2, h3, hF⟩ := bd hF
 rcases v2 with x_2 | y_2
 replace hF := pn_ok hF
 refine ocl [0, 0, 0, 0, 0, 0] call87 rfl rfl (subs [0] rfl) (tri87 h3 :) ?_
 rintro _ _ _ ⟨A12, L12, C12, A13, L13, C13, rfl, rfl, rfl⟩
 refine dN [1, 1, 2, 2, 2, 2] 2 (dv 9 rfl (v_field (v := .agg x_2.1.Set.vs.toArray) rfl (fun _ => by kernel_rfl)) (dv 10 rfl (v_build (v := .agg #[sV x_.1, iU x_2.1.Set.w0, iU x_2.1.Set.w1, iU x_2.1.Set.w2, iU x_2.1.Set.w3]) rfl (fun _ => by kernel_rfl)) ?_))
 refine d_all [5, 11] (by kernel_rfl) (by simp) ⟨⟨_, rfl, ?_⟩, ⟨_, rfl, ?_⟩, trivial⟩
 refine oV (vL 0 ty24) (dN [1, 1, 2, 2, 2, 2] 2 (dO 11 rfl (o_buildSlice (enc := eFollow) ([(Follow.mk x_.1 x_2.1.Set)] : List Follow) [sV x_.1, iU x_2.1.Set.w0, iU x_2.1.Set.w1, iU x_2.1.Set.w2, iU x_2.1.Set.w3] sl24 rfl (fun _ => by kernel_rfl) rfl rfl rfl (.s rfl (.s rfl (.s rfl (.s rfl (.s rfl (.nil)))))) rfl ?_)))
 intro A14 L14 C14
 refine dN [2, 2, 3, 3, 3, 3] 2 (dO 12 rfl (ite_some hF ?_))
 intro h4 hF
 refine ite_some hF fun h5 hF => o_append (enc := eFollow) (xs := free.d.Follows) (ys := ([(Follow.mk x_.1 x_2.1.Set)] : List Follow)) 4 sl24 rfl rfl rfl (.r 0 _ rfl) h4 h5 rfl fun A15 L15 C15 => dN [2, 2, 3, 3, 3, 3] 2 (dv 13 rfl vC (dv 14 rfl (vF 2) (dv 15 rfl (vF 6) (dO 16 rfl ((sT 1 ty24) (dN [2, 2, 3, 3, 3, 3] 2 ?_))))))
 refine dD ?_
 exact sK [1, 7, 1, 1, 1, 1, 1] [3, 1] (hN1 x_2.2.l_ x_2.2.at_ x_2.2.d.Start x_2.2.d.Layout (free.d.Follows ++ ([(Follow.mk x_.1 x_2.1.Set)] : List Follow)) x_2.2.start x_2.2.layout x_2.2.items A13 L13 C13 A15 L15 C15 hF)
 refine o_buildSlice (enc := eFollow) ([(Follow.mk x_.1 x_2.1.Set)] : List Follow) [sV x_.1, iU x_2.1.Set.w0, iU x_2.1.Set.w1, iU x_2.1.Set.w2, iU x_2.1.Set.w3] sl24 rfl (fun _ => by kernel_rfl) rfl rfl rfl (.s rfl (.s rfl (.s rfl (.s rfl (.s rfl (.nil)))))) rfl fun A14 L14 C14 => dN [2, 2, 3, 3, 3, 3] 2 (dO 5 rfl (oV (vL 1 ty24) (dN [2, 2, 3, 3, 3, 3] 2 (dO 12 rfl (ite_some hF ?_)))))
 intro h4 hF
 refine ite_some hF fun h5 hF => o_append (enc := eFollow) (xs := free.d.Follows) (ys := ([(Follow.mk x_.1 x_2.1.Set)] : List Follow)) 4 sl24 rfl rfl rfl (.r 0 _ rfl) h4 h5 rfl fun A15 L15 C15 => dN [2, 2, 3, 3, 3, 3] 2 (dv 13 rfl vC (dv 14 rfl (vF 2) (dv 15 rfl (vF 6) (dO 16 rfl ((sT 1 ty24) (dN [2, 2, 3, 3, 3, 3] 2 ?_))))))
 refine dD ?_
 exact sK [1, 7, 1, 1, 1, 1, 1] [3, 1] (hN1 x_2.2.l_ x_2.2.at_ x_2.2.d.Start x_2.2.d.Layout (free.d.Follows ++ ([(Follow.mk x_.1 x_2.1.Set)] : List Follow)) x_2.2.start x_2.2.layout x_2.2.items A13 L13 C13 A15 L15 C15 hF)
 replace hF := pn_pan hF
 refine ocl [0, 0, 0, 0, 0, 0] call87 rfl rfl (subs [0] rfl) (tri87 h3 :) ?_
 rintro _ _ _ ⟨rfl, rfl, rfl⟩
 cases hF
 exact sP
 intro l__ at__ q1 q2 q5 q8 q9 q0 A9 L9 C9 A10 L10 C10 hF
 unfold F.defs.reader_all_c3_j1 at hF
 refine sat_wc (c_region (oV (vL 1 ty85) ?_))
 obtain ⟨v1, h2, hF⟩ := bd hF
 rcases v1 with x_1 | y_1
 replace hF := pn_ok hF
 refine ocl [0, 1, 1, 1, 1, 1] call88 rfl rfl (subs [1] rfl) (tri88 h2 :) ?_
 rintro _ _ _ ⟨A11, L11, C11, rfl, rfl, rfl⟩
 refine o_nil ?_
 cases hF
 refine s_ret0 rfl fun a w hs => fin_sel hs [0, 0, 0, 0, 0, 0, 0] ⟨A11, L11, C11, A10, L10, C10, rfl, rfl, rfl⟩ rfl (subs [0] rfl)
 replace hF := pn_pan hF
 refine ocl [0, 1, 1, 1, 1, 1] call88 rfl rfl (subs [1] rfl) (tri88 h2 :) ?_
 rintro _ _ _ ⟨rfl, rfl, rfl⟩
 cases hF
 exact sP
 replace hF := pn_pan hF
 refine ocl [1, 1, 1, 1, 1, 1] call86 rfl rfl (subs [1] rfl) (tri86 h1 :) ?_
 rintro _ _ _ ⟨rfl, rfl, rfl⟩
 cases hF
 exact sP
theorem tri89 {p0 : Word} {free : Defs_reader} {b : Nat} {b1 : Nat} {r : Pn Defs_reader Fault} (hF : F.defs.reader_all_c4 p0 free = some r) :
    Tri Tryz.prog 89 [.agg (vWord p0 A1 L1 C1).toArray, pt b1] [.box b 87 [sl A2 L2 C2, iI free.at_, sV free.d.Start, sV free.d.Layout, sl A3 L3 C3, sl A4 L4 C4, sl A5 L5 C5, sl A6 L6 C6, sl A7 L7 C7, bV free.start, bV free.layout, iI free.items], rW A3 L3 C3 57 5 eProd free.d.Prods, rW A4 L4 C4 58 1 (eSl 2 eGroup) free.d.Chains, rW A5 L5 C5 48 5 eFollow free.d.Follows, rW A6 L6 C6 78 2 eReject free.d.Rejects, rW A7 L7 C7 64 2 eBox free.d.Boxes, .box b1 85 [pt b]] [fS A1 L1 C1 1 eU8 p0.Bytes, fS A2 L2 C2 11 eWord free.l_] (fun o H Φ => match (generalizing := false) r with | .ok r => (∃ (A15 : OA) (L15 C15 : Nat) (A16 : OA) (L16 C16 : Nat), o = .ret (.tuple #[]) ∧ H = [.box b 87 [sl A15 L15 C15, iI r.at_, sV r.d.Start, sV r.d.Layout, sl A3 L3 C3, sl A4 L4 C4, sl A5 L5 C5, sl A16 L16 C16, sl A7 L7 C7, bV r.start, bV r.layout, iI r.items], rW A3 L3 C3 57 5 eProd free.d.Prods, rW A4 L4 C4 58 1 (eSl 2 eGroup) free.d.Chains, rW A5 L5 C5 48 5 eFollow free.d.Follows, rW A16 L16 C16 78 2 eReject r.d.Rejects, rW A7 L7 C7 64 2 eBox free.d.Boxes, .box b1 85 [pt b]] ∧ Φ = [fS A15 L15 C15 11 eWord r.l_]) | .pan y => o = .pan (.iface 37 (.agg #[iI y.At, iI y.Code])) ∧ H = [] ∧ Φ = []) := by
 unfold F.defs.reader_all_c4 at hF
 refine tri_intro (n := 23) Tryz.func89 rfl Tryz.ntmps89 rfl fun w X => cR (o_box rfl rfl rfl fun b2 => o_seq (cR (oV (vL 7 ty85) ?_)))
 obtain ⟨v, h1, hF⟩ := bd hF
 rcases v with x_ | y_
 replace hF := pn_ok hF
 refine ocl [1, 1, 1, 1, 1, 1] call86 rfl rfl (subs [1] rfl) (tri86 h1 :) ?_
 rintro _ _ _ ⟨A8, L8, C8, rfl, rfl, rfl⟩
 refine oV vA (o_seq (c_seq ?_))
 refine c_cut (fun E N' => ∀ (l__ : List Word) (at__ : Int) (q1 : Tx) (q2 : Tx) (q6 : List Reject) (q8 : Bool) (q9 : Bool) (q0 : Int) (A9 : OA) (L9 C9 : Nat) (A10 : OA) (L10 C10 : Nat), F.defs.reader_all_c4_j1 free l__ at__ q1 q2 q6 q8 q9 q0 = some r → Sat E [(0, .agg (vWord p0 A1 L1 C1).toArray), (1, pt b1)] [.box b 87 [sl A9 L9 C9, iI at__, sV q1, sV q2, sl A3 L3 C3, sl A4 L4 C4, sl A5 L5 C5, sl A10 L10 C10, sl A7 L7 C7, bV q8, bV q9, iI q0], .box b1 85 [pt b], rW A3 L3 C3 57 5 eProd free.d.Prods, rW A4 L4 C4 58 1 (eSl 2 eGroup) free.d.Chains, rW A5 L5 C5 48 5 eFollow free.d.Follows, rW A10 L10 C10 78 2 eReject q6, rW A7 L7 C7 64 2 eBox free.d.Boxes] [fS A1 L1 C1 1 eU8 p0.Bytes, fS A9 L9 C9 11 eWord l__] N') (fun N1 hN1 => ?_) ?_
 refine c_draw (n := 16) [1, 1, 1, 2, 2, 2] mixed rfl rfl (dv 0 rfl (vL 5 ty85) (dv 1 rfl (vL 5 ty85) (dv 2 rfl vC (dv 3 rfl (vF 2) (dv 4 rfl (vF 7) (dv 6 rfl vM (dv 7 rfl (vL 5 ty85) ?_)))))))
 refine d_all [5, 8] (by kernel_rfl) (by simp) ⟨⟨_, rfl, ?_⟩, ⟨_, rfl, ?_⟩, trivial⟩
 refine oV (vL 0 ty25) (dN [1, 1, 1, 2, 2, 2] 0 (dO 8 rfl ?_))
 obtain ⟨v2, h3, hF⟩ := bd hF
 rcases v2 with x_2 | y_2
 replace hF := pn_ok hF
 refine ocl [0, 0, 0, 0, 0, 0] call86 rfl rfl (subs [0] rfl) (tri86 h3 :) ?_
 rintro _ _ _ ⟨A12, L12, C12, rfl, rfl, rfl⟩
 refine dN [1, 1, 1, 2, 2, 2] 1 (dv 9 rfl (v_build (v := .agg #[sV x_.1, sV x_2.1]) rfl (fun _ => by kernel_rfl)) (dO 10 rfl (o_buildSlice (enc := eReject) ([(Reject.mk x_.1 x_2.1)] : List Reject) [sV x_.1, sV x_2.1] sl25 rfl (fun _ => by kernel_rfl) rfl rfl rfl (.s rfl (.s rfl (.nil))) rfl ?_)))
 intro A13 L13 C13
 refine dN [2, 2, 2, 3, 3, 3] 1 (dO 11 rfl (ite_some hF ?_))
 intro h4 hF
 refine ite_some hF fun h5 hF => o_append (enc := eReject) (xs := free.d.Rejects) (ys := ([(Reject.mk x_.1 x_2.1)] : List Reject)) 5 sl25 rfl rfl rfl (.r 0 _ rfl) h4 h5 rfl fun A14 L14 C14 => dN [2, 2, 2, 3, 3, 3] 1 (dv 12 rfl vC (dv 13 rfl (vF 2) (dv 14 rfl (vF 7) (dO 15 rfl ((sT 1 ty25) (dN [2, 2, 2, 3, 3, 3] 1 ?_))))))
 refine dD ?_
 exact sK [1, 7, 1, 1, 1, 1, 1] [2, 0] (hN1 x_2.2.l_ x_2.2.at_ x_2.2.d.Start x_2.2.d.Layout (free.d.Rejects ++ ([(Reject.mk x_.1 x_2.1)] : List Reject)) x_2.2.start x_2.2.layout x_2.2.items A12 L12 C12 A14 L14 C14 hF)
 replace hF := pn_pan hF
 refine ocl [0, 0, 0, 0, 0, 0] call86 rfl rfl (subs [0] rfl) (tri86 h3 :) ?_
 rintro _ _ _ ⟨rfl, rfl, rfl⟩
 cases hF
 exact sP
 obtain ⟨v2, h3, hF⟩ := bd hF
 rcases v2 with x_2 | y_2
 replace hF := pn_ok hF
 refine ocl [0, 0, 0, 0, 0, 0] call86 rfl rfl (subs [0] rfl) (tri86 h3 :) ?_
 rintro _ _ _ ⟨A12, L12, C12, rfl, rfl, rfl⟩
 refine dN [1, 1, 1, 2, 2, 2] 1 (dv 9 rfl (v_build (v := .agg #[sV x_.1, sV x_2.1]) rfl (fun _ => by kernel_rfl)) ?_)
 refine d_all [5, 10] (by kernel_rfl) (by simp) ⟨⟨_, rfl, ?_⟩, ⟨_, rfl, ?_⟩, trivial⟩
 refine oV (vL 0 ty25) (dN [1, 1, 1, 2, 2, 2] 1 (dO 10 rfl (o_buildSlice (enc := eReject) ([(Reject.mk x_.1 x_2.1)] : List Reject) [sV x_.1, sV x_2.1] sl25 rfl (fun _ => by kernel_rfl) rfl rfl rfl (.s rfl (.s rfl (.nil))) rfl ?_)))
 intro A13 L13 C13
 refine dN [2, 2, 2, 3, 3, 3] 1 (dO 11 rfl (ite_some hF ?_))
 intro h4 hF
 refine ite_some hF fun h5 hF => o_append (enc := eReject) (xs := free.d.Rejects) (ys := ([(Reject.mk x_.1 x_2.1)] : List Reject)) 5 sl25 rfl rfl rfl (.r 0 _ rfl) h4 h5 rfl fun A14 L14 C14 => dN [2, 2, 2, 3, 3, 3] 1 (dv 12 rfl vC (dv 13 rfl (vF 2) (dv 14 rfl (vF 7) (dO 15 rfl ((sT 1 ty25) (dN [2, 2, 2, 3, 3, 3] 1 ?_))))))
 refine dD ?_
 exact sK [1, 7, 1, 1, 1, 1, 1] [2, 0] (hN1 x_2.2.l_ x_2.2.at_ x_2.2.d.Start x_2.2.d.Layout (free.d.Rejects ++ ([(Reject.mk x_.1 x_2.1)] : List Reject)) x_2.2.start x_2.2.layout x_2.2.items A12 L12 C12 A14 L14 C14 hF)
 refine o_buildSlice (enc := eReject) ([(Reject.mk x_.1 x_2.1)] : List Reject) [sV x_.1, sV x_2.1] sl25 rfl (fun _ => by kernel_rfl) rfl rfl rfl (.s rfl (.s rfl (.nil))) rfl fun A13 L13 C13 => dN [2, 2, 2, 3, 3, 3] 1 (dO 5 rfl (oV (vL 1 ty25) (dN [2, 2, 2, 3, 3, 3] 1 (dO 11 rfl (ite_some hF ?_)))))
 intro h4 hF
 refine ite_some hF fun h5 hF => o_append (enc := eReject) (xs := free.d.Rejects) (ys := ([(Reject.mk x_.1 x_2.1)] : List Reject)) 5 sl25 rfl rfl rfl (.r 0 _ rfl) h4 h5 rfl fun A14 L14 C14 => dN [2, 2, 2, 3, 3, 3] 1 (dv 12 rfl vC (dv 13 rfl (vF 2) (dv 14 rfl (vF 7) (dO 15 rfl ((sT 1 ty25) (dN [2, 2, 2, 3, 3, 3] 1 ?_))))))
 refine dD ?_
 exact sK [1, 7, 1, 1, 1, 1, 1] [2, 0] (hN1 x_2.2.l_ x_2.2.at_ x_2.2.d.Start x_2.2.d.Layout (free.d.Rejects ++ ([(Reject.mk x_.1 x_2.1)] : List Reject)) x_2.2.start x_2.2.layout x_2.2.items A12 L12 C12 A14 L14 C14 hF)
 replace hF := pn_pan hF
 refine ocl [0, 0, 0, 0, 0, 0] call86 rfl rfl (subs [0] rfl) (tri86 h3 :) ?_
 rintro _ _ _ ⟨rfl, rfl, rfl⟩
 cases hF
 exact sP
 intro l__ at__ q1 q2 q6 q8 q9 q0 A9 L9 C9 A10 L10 C10 hF
 unfold F.defs.reader_all_c4_j1 at hF
 refine sat_wc (c_region (oV (vL 1 ty85) ?_))
 obtain ⟨v1, h2, hF⟩ := bd hF
 rcases v1 with x_1 | y_1
 replace hF := pn_ok hF
 refine ocl [0, 1, 1, 1, 1, 1] call88 rfl rfl (subs [1] rfl) (tri88 h2 :) ?_
 rintro _ _ _ ⟨A11, L11, C11, rfl, rfl, rfl⟩
 refine o_nil ?_
 cases hF
 refine s_ret0 rfl fun a w hs => fin_sel hs [0, 0, 0, 0, 0, 0, 0] ⟨A11, L11, C11, A10, L10, C10, rfl, rfl, rfl⟩ rfl (subs [0] rfl)
 replace hF := pn_pan hF
 refine ocl [0, 1, 1, 1, 1, 1] call88 rfl rfl (subs [1] rfl) (tri88 h2 :) ?_
 rintro _ _ _ ⟨rfl, rfl, rfl⟩
 cases hF
 exact sP
 replace hF := pn_pan hF
 refine ocl [1, 1, 1, 1, 1, 1] call86 rfl rfl (subs [1] rfl) (tri86 h1 :) ?_
 rintro _ _ _ ⟨rfl, rfl, rfl⟩
 cases hF
 exact sP
theorem tri91_B (k : Nat) (g120 : Defs_reader → Option (Pn (Item × Bool × Defs_reader) Fault))
    (hg120 : ∀ {r_ : Defs_reader} {b : Nat} {A1 : OA} {L1 C1 : Nat} {A2 : OA} {L2 C2 : Nat} {A3 : OA} {L3 C3 : Nat} {A4 : OA} {L4 C4 : Nat} {A5 : OA} {L5 C5 : Nat} {A6 : OA} {L6 C6 : Nat} {r : Pn (Item × Bool × Defs_reader) Fault}, g120 r_ = some r → Tri Tryz.prog 120 [pt b] [.box b 87 [sl A1 L1 C1, iI r_.at_, sV r_.d.Start, sV r_.d.Layout, sl A2 L2 C2, sl A3 L3 C3, sl A4 L4 C4, sl A5 L5 C5, sl A6 L6 C6, bV r_.start, bV r_.layout, iI r_.items], rW A2 L2 C2 57 5 eProd r_.d.Prods, rW A3 L3 C3 58 1 (eSl 2 eGroup) r_.d.Chains, rW A4 L4 C4 48 5 eFollow r_.d.Follows, rW A5 L5 C5 78 2 eReject r_.d.Rejects, rW A6 L6 C6 64 2 eBox r_.d.Boxes] [fS A1 L1 C1 11 eWord r_.l_] (fun o H Φ => match (generalizing := false) r with | .ok r => (∃ (A21 : OA) (L21 C21 : Nat) (A22 : OA) (L22 C22 : Nat), o = .ret (.tuple #[.agg (vItem r.1 A21 L21 C21).toArray, bV r.2.1]) ∧ H = [.box b 87 [sl A22 L22 C22, iI r.2.2.at_, sV r.2.2.d.Start, sV r.2.2.d.Layout, sl A2 L2 C2, sl A3 L3 C3, sl A4 L4 C4, sl A5 L5 C5, sl A6 L6 C6, bV r.2.2.start, bV r.2.2.layout, iI r.2.2.items], rW A2 L2 C2 57 5 eProd r_.d.Prods, rW A3 L3 C3 58 1 (eSl 2 eGroup) r_.d.Chains, rW A4 L4 C4 48 5 eFollow r_.d.Follows, rW A5 L5 C5 78 2 eReject r_.d.Rejects, rW A6 L6 C6 64 2 eBox r_.d.Boxes] ∧ Φ = [fS A21 L21 C21 4 eItem r.1.Items, fS A22 L22 C22 11 eWord r.2.2.l_]) | .pan y => o = .pan (.iface 37 (.agg #[iI y.At, iI y.Code])) ∧ H = [] ∧ Φ = [])) {r_ : Defs_reader} {b : Nat} {A1 : OA} {L1 C1 : Nat} {A2 : OA} {L2 C2 : Nat} {A3 : OA} {L3 C3 : Nat} {A4 : OA} {L4 C4 : Nat} {A5 : OA} {L5 C5 : Nat} {A6 : OA} {L6 C6 : Nat} {r : Pn (List Item × Defs_reader) Fault} (hF : F.defs.reader_list_B k g120 r_ = some r) :
    Tri Tryz.prog 91 [pt b] [.box b 87 [sl A1 L1 C1, iI r_.at_, sV r_.d.Start, sV r_.d.Layout, sl A2 L2 C2, sl A3 L3 C3, sl A4 L4 C4, sl A5 L5 C5, sl A6 L6 C6, bV r_.start, bV r_.layout, iI r_.items], rW A2 L2 C2 57 5 eProd r_.d.Prods, rW A3 L3 C3 58 1 (eSl 2 eGroup) r_.d.Chains, rW A4 L4 C4 48 5 eFollow r_.d.Follows, rW A5 L5 C5 78 2 eReject r_.d.Rejects, rW A6 L6 C6 64 2 eBox r_.d.Boxes] [fS A1 L1 C1 11 eWord r_.l_] (fun o H Φ => match (generalizing := false) r with | .ok r => (∃ (A13 : OA) (L13 C13 : Nat) (A14 : OA) (L14 C14 : Nat), o = .ret (sl A13 L13 C13) ∧ H = [.box b 87 [sl A14 L14 C14, iI r.2.at_, sV r.2.d.Start, sV r.2.d.Layout, sl A2 L2 C2, sl A3 L3 C3, sl A4 L4 C4, sl A5 L5 C5, sl A6 L6 C6, bV r.2.start, bV r.2.layout, iI r.2.items], rW A2 L2 C2 57 5 eProd r_.d.Prods, rW A3 L3 C3 58 1 (eSl 2 eGroup) r_.d.Chains, rW A4 L4 C4 48 5 eFollow r_.d.Follows, rW A5 L5 C5 78 2 eReject r_.d.Rejects, rW A6 L6 C6 64 2 eBox r_.d.Boxes, rW A13 L13 C13 124 4 eItem r.1] ∧ Φ = [fS A14 L14 C14 11 eWord r.2.l_]) | .pan y => o = .pan (.iface 37 (.agg #[iI y.At, iI y.Code])) ∧ H = [] ∧ Φ = []) := by
 unfold F.defs.reader_list_B at hF
 refine tri_intro (n := 18) Tryz.func91 rfl Tryz.ntmps91 rfl fun w X => cR (oV vA (o_seq (cR (oV vA (o_seq ?_)))))
 obtain ⟨o1, ho1, hF⟩ := bd hF
 refine c_block ?_
 refine c_loopE (fun E j a w => ∃ (out_ : List Item) (l__ : List Word) (at__ : Int) (q1 : Tx) (q2 : Tx) (q8 : Bool) (q9 : Bool) (q0 : Int) (A7 : OA) (L7 C7 : Nat) (A8 : OA) (L8 C8 : Nat), F.defs.reader_list_l1 g120 r_ j out_ l__ at__ q1 q2 q8 q9 q0 = some o1 ∧ St E [(0, pt b), (2, nS), (3, sl A7 L7 C7)] [.box b 87 [sl A8 L8 C8, iI at__, sV q1, sV q2, sl A2 L2 C2, sl A3 L3 C3, sl A4 L4 C4, sl A5 L5 C5, sl A6 L6 C6, bV q8, bV q9, iI q0], rW A7 L7 C7 124 4 eItem out_, rW A2 L2 C2 57 5 eProd r_.d.Prods, rW A3 L3 C3 58 1 (eSl 2 eGroup) r_.d.Chains, rW A4 L4 C4 48 5 eFollow r_.d.Follows, rW A5 L5 C5 78 2 eReject r_.d.Rejects, rW A6 L6 C6 64 2 eBox r_.d.Boxes] [fS A8 L8 C8 11 eWord l__] a w) k ?_ ?_
 refine s_st (st_nilrow 124 4) ?_
 exact lq [1, 0, 0, 0, 0, 0, 0] [0] fun a w hs => ⟨([] : List Item), r_.l_, r_.at_, r_.d.Start, r_.d.Layout, r_.start, r_.layout, r_.items, none, 0, 0, A1, L1, C1, ho1, hs⟩
 rintro j a w ⟨out_, l__, at__, q1, q2, q8, q9, q0, A7, L7, C7, A8, L8, C8, hL1, hs⟩
 rcases j with _ | j
 cases hL1
 refine wc_app hs ?_
 unfold F.defs.reader_list_l1 at hL1
 refine c_block (cR (oV vM ?_))
 obtain ⟨v, h1, hL1⟩ := bd hL1
 rcases v with x_ | y_
 replace hL1 := pn_ok hL1
 refine ocl [0, 1, 1, 1, 1, 1] call120 rfl rfl (subs [0] rfl) (hg120 h1 :) ?_
 rintro _ _ _ ⟨A9, L9, C9, A10, L10, C10, rfl, rfl, rfl⟩
 refine oV vM (oV vX (oV vX (o_alloc zero124 rfl rfl ?_)))
 intro b1
 refine (sT 0 ty124) (oV vA (o_seq (c_seq (cR (oV vM (oV vN (o_seq ?_)))))))
 refine cC hL1 (fun hL1 => ?_) (fun hL1 => ?_)
 refine cR (oV vM (oV vA (o_seq (c_ret ?_))))
 cases hL1
 obtain rfl := lrf_ret hF
 refine s_ret1 rfl (r_tmp rfl) fun a w hs => fin_sel hs [1, 1, 1, 1, 1, 1, 1] ⟨A7, L7, C7, A10, L10, C10, rfl, rfl, rfl⟩ rfl (subs [1] rfl)
 refine c_skip (sat_wc (c_region (oV vM (oV (vL 0 ty124) (o_buildSlice (enc := eItem) ([x_.1] : List Item) (vItem x_.1 A9 L9 C9) sl62 rfl (fun _ => by kernel_rfl) rfl rfl (by simp only [List.map, List.all, eItem_eq] <;> rfl) (cp_of (ds := [.int .i64 x_.1.Kind, .str x_.1.Text, .int .i64 x_.1.N_, .slice 4 (x_.1.Items.map eItem)]) (by simp only [List.map, List.flatten, eItem_eq] <;> rfl) (.s rfl (.s rfl (.s rfl (.f 0 rfl (.nil)))))) rfl ?_)))))
 intro A11 L11 C11
 refine ite_some hL1 fun h3 hL1 => ite_some hL1 fun h4 hL1 => o_append (enc := eItem) (xs := out_) (ys := ([x_.1] : List Item)) 8 sl62 rfl rfl rfl (.r 0 _ rfl) h3 h4 rfl fun A12 L12 C12 => oV vA (o_nil ?_)
 exact lp [2, 7, 2, 2, 2, 2, 2] [1] fun a w hs => ⟨(out_ ++ ([x_.1] : List Item)), x_.2.2.l_, x_.2.2.at_, x_.2.2.d.Start, x_.2.2.d.Layout, x_.2.2.start, x_.2.2.layout, x_.2.2.items, A12, L12, C12, A10, L10, C10, hL1, hs⟩
 replace hL1 := pn_pan hL1
 refine ocl [0, 1, 1, 1, 1, 1] call120 rfl rfl (subs [0] rfl) (hg120 h1 :) ?_
 rintro _ _ _ ⟨rfl, rfl, rfl⟩
 cases hL1
 obtain rfl := lrf_ret hF
 exact sP
theorem tri120_B (k : Nat) (g135 : Defs_reader → Option (Pn (List Item × Defs_reader) Fault))
    (hg135 : ∀ {r_ : Defs_reader} {b : Nat} {A1 : OA} {L1 C1 : Nat} {A2 : OA} {L2 C2 : Nat} {A3 : OA} {L3 C3 : Nat} {A4 : OA} {L4 C4 : Nat} {A5 : OA} {L5 C5 : Nat} {A6 : OA} {L6 C6 : Nat} {r : Pn (List Item × Defs_reader) Fault}, g135 r_ = some r → Tri Tryz.prog 135 [pt b] [.box b 87 [sl A1 L1 C1, iI r_.at_, sV r_.d.Start, sV r_.d.Layout, sl A2 L2 C2, sl A3 L3 C3, sl A4 L4 C4, sl A5 L5 C5, sl A6 L6 C6, bV r_.start, bV r_.layout, iI r_.items], rW A2 L2 C2 57 5 eProd r_.d.Prods, rW A3 L3 C3 58 1 (eSl 2 eGroup) r_.d.Chains, rW A4 L4 C4 48 5 eFollow r_.d.Follows, rW A5 L5 C5 78 2 eReject r_.d.Rejects, rW A6 L6 C6 64 2 eBox r_.d.Boxes] [fS A1 L1 C1 11 eWord r_.l_] (fun o H Φ => match (generalizing := false) r with | .ok r => (∃ (A11 : OA) (L11 C11 : Nat) (A12 : OA) (L12 C12 : Nat), o = .ret (sl A11 L11 C11) ∧ H = [.box b 87 [sl A12 L12 C12, iI r.2.at_, sV r.2.d.Start, sV r.2.d.Layout, sl A2 L2 C2, sl A3 L3 C3, sl A4 L4 C4, sl A5 L5 C5, sl A6 L6 C6, bV r.2.start, bV r.2.layout, iI r.2.items], rW A2 L2 C2 57 5 eProd r_.d.Prods, rW A3 L3 C3 58 1 (eSl 2 eGroup) r_.d.Chains, rW A4 L4 C4 48 5 eFollow r_.d.Follows, rW A5 L5 C5 78 2 eReject r_.d.Rejects, rW A6 L6 C6 64 2 eBox r_.d.Boxes, rW A11 L11 C11 124 4 eItem r.1] ∧ Φ = [fS A12 L12 C12 11 eWord r.2.l_]) | .pan y => o = .pan (.iface 37 (.agg #[iI y.At, iI y.Code])) ∧ H = [] ∧ Φ = [])) {r_ : Defs_reader} {b : Nat} {A1 : OA} {L1 C1 : Nat} {A2 : OA} {L2 C2 : Nat} {A3 : OA} {L3 C3 : Nat} {A4 : OA} {L4 C4 : Nat} {A5 : OA} {L5 C5 : Nat} {A6 : OA} {L6 C6 : Nat} {r : Pn (Item × Bool × Defs_reader) Fault} (hF : F.defs.reader_item_B k g135 r_ = some r) :
    Tri Tryz.prog 120 [pt b] [.box b 87 [sl A1 L1 C1, iI r_.at_, sV r_.d.Start, sV r_.d.Layout, sl A2 L2 C2, sl A3 L3 C3, sl A4 L4 C4, sl A5 L5 C5, sl A6 L6 C6, bV r_.start, bV r_.layout, iI r_.items], rW A2 L2 C2 57 5 eProd r_.d.Prods, rW A3 L3 C3 58 1 (eSl 2 eGroup) r_.d.Chains, rW A4 L4 C4 48 5 eFollow r_.d.Follows, rW A5 L5 C5 78 2 eReject r_.d.Rejects, rW A6 L6 C6 64 2 eBox r_.d.Boxes] [fS A1 L1 C1 11 eWord r_.l_] (fun o H Φ => match (generalizing := false) r with | .ok r => (∃ (A21 : OA) (L21 C21 : Nat) (A22 : OA) (L22 C22 : Nat), o = .ret (.tuple #[.agg (vItem r.1 A21 L21 C21).toArray, bV r.2.1]) ∧ H = [.box b 87 [sl A22 L22 C22, iI r.2.2.at_, sV r.2.2.d.Start, sV r.2.2.d.Layout, sl A2 L2 C2, sl A3 L3 C3, sl A4 L4 C4, sl A5 L5 C5, sl A6 L6 C6, bV r.2.2.start, bV r.2.2.layout, iI r.2.2.items], rW A2 L2 C2 57 5 eProd r_.d.Prods, rW A3 L3 C3 58 1 (eSl 2 eGroup) r_.d.Chains, rW A4 L4 C4 48 5 eFollow r_.d.Follows, rW A5 L5 C5 78 2 eReject r_.d.Rejects, rW A6 L6 C6 64 2 eBox r_.d.Boxes] ∧ Φ = [fS A21 L21 C21 4 eItem r.1.Items, fS A22 L22 C22 11 eWord r.2.2.l_]) | .pan y => o = .pan (.iface 37 (.agg #[iI y.At, iI y.Code])) ∧ H = [] ∧ Φ = []) := by
 unfold F.defs.reader_item_B at hF
 refine tri_intro (n := 104) Tryz.func120 rfl Tryz.ntmps120 rfl fun w X => cR (o_alloc zero124 rfl rfl fun b1 => oV vA (o_seq (c_seq (ite_some hF ?_))))
 intro h1 hF
 refine c_elem (xs := r_.l_) (enc := eWord) 0 rfl h1 rfl rfl fun A7 L7 C7 => c_draw (n := 12) [0, 0, 0, 0, 0, 0, 0] mixed rfl rfl (dv 0 rfl vM (dv 1 rfl vC (dv 2 rfl (vF 0) (dv 3 rfl (vL 1 ty50) (dv 4 rfl vM (dv 5 rfl vC ?_))))))
 refine dv 6 rfl (vF 1) (dv 7 rfl (vL 1 ty3) (dv 8 rfl (v_indexAddr_s (xs := r_.l_) (enc := eWord) sl50 rfl rfl (.f 2 rfl) h1) (dv 9 rfl (v_load_cl 0 ty106 rfl rfl rfl rfl rfl) (dO 10 rfl (o_alloc zero106 rfl rfl ?_)))))
 intro b2
 refine dN [1, 1, 1, 1, 1, 1, 1] 0 (dO 11 rfl ((sT 0 ty106) (dN [1, 1, 1, 1, 1, 1, 1] 0 (d_done_seq (by kernel_rfl) (c_seq (c_seq ?_))))))
 refine c_cut (fun E N' => ∀ (t43 : Bool), F.defs.reader_item_j1 r_ g135 t43 = some r → Sat E [(0, pt b), (2, pt b1), (3, bV false), (4, pt b2), (43, bV t43)] [.box b 87 [sl A1 L1 C1, iI r_.at_, sV r_.d.Start, sV r_.d.Layout, sl A2 L2 C2, sl A3 L3 C3, sl A4 L4 C4, sl A5 L5 C5, sl A6 L6 C6, bV r_.start, bV r_.layout, iI r_.items], .box b2 106 (vWord (at_ r_.l_ r_.at_) A7 L7 C7), .box b1 124 [iI 0, sV ([] : Tx), iI 0, nS], rW A2 L2 C2 57 5 eProd r_.d.Prods, rW A3 L3 C3 58 1 (eSl 2 eGroup) r_.d.Chains, rW A4 L4 C4 48 5 eFollow r_.d.Follows, rW A5 L5 C5 78 2 eReject r_.d.Rejects, rW A6 L6 C6 64 2 eBox r_.d.Boxes] [fS A1 L1 C1 11 eWord r_.l_, fS A7 L7 C7 1 eU8 ((at_ r_.l_ r_.at_).Bytes)] N') (fun N2 hN2 => ?_) ?_
 refine c_region ((fD 0) (oV (vL 0 ty3) (oV vB (oV vM ?_))))
 refine oS 19 hF (fun hF => ?_) (fun hF => ?_)
 refine oN ((fD 0) (oN (oV (vL 0 ty3) (oN (oV vB (oV vPt (oV vM ?_)))))))
 refine oS 24 hF (fun hF => ?_) (fun hF => ?_)
 refine oN (oV vM (oN ?_))
 obtain ⟨v9, h20, hF⟩ := bd hF
 refine ocl [2, 2, 2, 2, 2, 2] call118 rfl rfl (subs [2] rfl) (tri118 h20 :) ?_
 rintro _ _ _ ⟨rfl, rfl, rfl⟩
 refine oN (oV vN (oV vPt (oV vM ?_)))
 refine oS 29 hF (fun hF => ?_) (fun hF => ?_)
 refine oN (oV vM (oN ?_))
 obtain ⟨v10, h22, hF⟩ := bd hF
 refine ocl [0, 0, 0, 0, 0, 0] call118 rfl rfl (subs [2] rfl) (tri118 h22 :) ?_
 rintro _ _ _ ⟨rfl, rfl, rfl⟩
 refine oN (oV vN (oV vPt (oV vM ?_)))
 refine oS 34 hF (fun hF => ?_) (fun hF => ?_)
 refine oN (oV vM (oN ?_))
 obtain ⟨v11, h24, hF⟩ := bd hF
 refine ocl [0, 0, 0, 0, 0, 0] call118 rfl rfl (subs [2] rfl) (tri118 h24 :) ?_
 rintro _ _ _ ⟨rfl, rfl, rfl⟩
 refine oN (oV vN (oV vPt (oV vM ?_)))
 refine oS 39 hF (fun hF => ?_) (fun hF => ?_)
 refine oN (oV vM (oN ?_))
 obtain ⟨v12, h26, hF⟩ := bd hF
 refine ocl [0, 0, 0, 0, 0, 0] call118 rfl rfl (subs [2] rfl) (tri118 h26 :) ?_
 rintro _ _ _ ⟨rfl, rfl, rfl⟩
 refine oN (oV vN (oV vPt (o_nil ?_)))
 exact sK [0, 5, 5, 0, 0, 0, 0, 0] [2, 1] (hN2 (!v12) hF)
 refine oF (oF (oF (oV vPf (o_nil ?_))))
 exact sK [0, 5, 5, 0, 0, 0, 0, 0] [2, 1] (hN2 false hF)
 refine oF (oF (oF (oV vPf (oV vM (oF (oF (oF (oV vPf (o_nil ?_)))))))))
 exact sK [0, 5, 5, 0, 0, 0, 0, 0] [2, 1] (hN2 false hF)
 refine oF (oF (oF (oV vPf (oV vM (oF (oF (oF (oV vPf (oV vM (oF (oF (oF (oV vPf (o_nil ?_))))))))))))))
 exact sK [0, 5, 5, 0, 0, 0, 0, 0] [2, 1] (hN2 false hF)
 refine oF (oF (oF (oV vPf (oV vM (oF (oF (oF (oV vPf (oV vM (oF (oF (oF (oV vPf (oV vM (oF ?_)))))))))))))))
 refine oF (oF (oV vPf (o_nil ?_)))
 exact sK [2, 0, 0, 0, 0, 0, 0, 0] [2, 1] (hN2 false hF)
 refine oF (oF (oF (oV vPf (oV vM (oF (oF (oF (oV vPf (oV vM (oF (oF (oF (oV vPf (oV vM (oF ?_)))))))))))))))
 refine oF (oF (oV vPf (oV vM (oF (oF (oF (oV vPf (o_nil ?_))))))))
 exact sK [2, 0, 0, 0, 0, 0, 0, 0] [2, 1] (hN2 false hF)
 intro t43 hF
 unfold F.defs.reader_item_j1 at hF
 refine sat_wc ?_
 refine cC hF (fun hF => ?_) (fun hF => ?_)
 refine cR (oV (vU (.agg #[iI 0, sV ([] : Tx), iI 0, nS])) ((sT 2 ty124) (oV vA (o_seq (c_ret ?_)))))
 cases hF
 refine s_st (st_nilfact 4) (s_ret2 rfl (r_cell 2 rfl ty124 rfl rfl rfl rfl) (r_tmp rfl) fun a w hs => fin_sel hs [0, 2, 2, 2, 2, 2] ⟨none, 0, 0, A1, L1, C1, rfl, rfl, rfl⟩ rfl (subs [0, 1] rfl))
 refine c_skip (sat_wc (c_seq (cR (oV vM (oV vC ((fD 11) (oV (vL 0 ty3) (oV vB (o_seq ?_)))))))))
 refine cT (fun E H Φ N' => F.defs.reader_item_j2 r_ g135 = some r → Sat E [(0, pt b), (2, pt b1), (3, bV false), (4, pt b2)] H Φ N') (fun N2 hN2 => ?_) ?_
 refine cC hF (fun hF => ?_) (fun hF => ?_)
 refine c_region (oV (vL 1 ty106) ?_)
 obtain ⟨v8, h17, hF⟩ := bd hF
 rcases v8 with x_5 | y_5
 replace hF := pn_ok hF
 refine o_call0 call92 rfl (subs [1] rfl) (tri92 h17 :) rfl ?_
 rintro _ _ _ ⟨rfl, rfl, rfl⟩
 refine o_nil ?_
 exact sK [0, 0, 0, 0, 0, 0, 0, 0] [0, 1] (hN2 hF)
 replace hF := pn_pan hF
 refine o_call0 call92 rfl (subs [1] rfl) (tri92 h17 :) rfl ?_
 rintro _ _ _ ⟨rfl, rfl, rfl⟩
 cases hF
 exact sP
 refine c_skip ?_
 exact sK [0, 0, 0, 0, 0, 0, 0, 0] [0, 1] (hN2 hF)
 intro hF
 unfold F.defs.reader_item_j2 at hF
 refine sat_wc (cR (oV vM (oV vC ((fD 11) (oV (vL 0 ty3) (oV vB (oV vC ((fD 11) ((sT 0 ty3) (o_seq (c_seq (c_block (cR ?_)))))))))))))
 refine (fD 0) (oV (vL 1 ty3) (oV vB (oV vA (o_seq ?_))))
 refine cC hF (fun hF => ?_) (fun hF => ?_)
 refine cR (oV vM ?_)
 obtain ⟨v, h4, hF⟩ := bd hF
 rcases v with x_ | y_
 replace hF := pn_ok hF
 refine ocl [0, 2, 2, 2, 2, 2] call87 rfl rfl (subs [0] rfl) (tri87 h4 :) ?_
 rintro _ _ _ ⟨A8, L8, C8, A9, L9, C9, rfl, rfl, rfl⟩
 refine oV (v_field (v := sl A8 L8 C8) rfl (fun _ => by kernel_rfl)) (oV (v_bytesStr sl67 Tryz.underlying5 Tryz.underlying9 rfl (.f 0 rfl)) (oV (vU (.agg #[iI 1, sV (toS x_.1.Bytes), iI 0, nS])) ((sT 7 ty124) (oV vA (o_seq (c_ret ?_))))))
 cases hF
 refine s_st (st_nilfact 4) (s_ret2 rfl (r_cell 7 rfl ty124 rfl rfl rfl rfl) (r_tmp rfl) fun a w hs => fin_sel hs [0, 0, 0, 0, 0, 0] ⟨none, 0, 0, A9, L9, C9, rfl, rfl, rfl⟩ rfl (subs [0, 2] rfl))
 replace hF := pn_pan hF
 refine ocl [0, 2, 2, 2, 2, 2] call87 rfl rfl (subs [0] rfl) (tri87 h4 :) ?_
 rintro _ _ _ ⟨rfl, rfl, rfl⟩
 cases hF
 exact sP
 refine cR ((fD 0) (oV (vL 1 ty3) (oV vB (oV vA (o_seq ?_)))))
 refine cC hF (fun hF => ?_) (fun hF => ?_)
 refine cR (oV vM ?_)
 obtain ⟨v1, h6, hF⟩ := bd hF
 rcases v1 with x_1 | y_1
 replace hF := pn_ok hF
 refine ocl [0, 2, 2, 2, 2, 2] call87 rfl rfl (subs [0] rfl) (tri87 h6 :) ?_
 rintro _ _ _ ⟨A10, L10, C10, A11, L11, C11, rfl, rfl, rfl⟩
 refine oV (v_field (v := iI x_1.1.N_) rfl (fun _ => by kernel_rfl)) (oV (vU (.agg #[iI 2, sV ([] : Tx), iI x_1.1.N_, nS])) ((sT 7 ty124) (oV vA (o_seq (c_ret ?_)))))
 cases hF
 refine s_st (st_nilfact 4) (s_ret2 rfl (r_cell 7 rfl ty124 rfl rfl rfl rfl) (r_tmp rfl) fun a w hs => fin_sel hs [0, 0, 0, 0, 0, 0] ⟨none, 0, 0, A11, L11, C11, rfl, rfl, rfl⟩ rfl (subs [0, 2] rfl))
 replace hF := pn_pan hF
 refine ocl [0, 2, 2, 2, 2, 2] call87 rfl rfl (subs [0] rfl) (tri87 h6 :) ?_
 rintro _ _ _ ⟨rfl, rfl, rfl⟩
 cases hF
 exact sP
 refine cR (oV vM ?_)
 obtain ⟨v2, h7, hF⟩ := bd hF
 refine ocl [0, 2, 2, 2, 2, 2] call116 rfl rfl (subs [0] rfl) (tri116 h7 :) ?_
 rintro _ _ _ ⟨A12, L12, C12, rfl, rfl, rfl⟩
 refine oV vA (o_seq ?_)
 refine cC hF (fun hF => ?_) (fun hF => ?_)
 refine cR (oV (vU (.agg #[iI 3, sV ([] : Tx), iI 0, nS])) ((sT 7 ty124) (oV vA (o_seq (c_ret ?_)))))
 cases hF
 refine s_st (st_nilfact 4) (s_ret2 rfl (r_cell 7 rfl ty124 rfl rfl rfl rfl) (r_tmp rfl) fun a w hs => fin_sel hs [0, 0, 0, 0, 0, 0] ⟨none, 0, 0, A12, L12, C12, rfl, rfl, rfl⟩ rfl (subs [0, 1] rfl))
 refine cR (oV vM ?_)
 obtain ⟨v3, h9, hF⟩ := bd hF
 refine ocl [0, 0, 0, 0, 0, 0] call116 rfl rfl (subs [0] rfl) (tri116 h9 :) ?_
 rintro _ _ _ ⟨A13, L13, C13, rfl, rfl, rfl⟩
 refine oV vA (o_seq ?_)
 refine cC hF (fun hF => ?_) (fun hF => ?_)
 refine cR (oV (vU (.agg #[iI 4, sV ([] : Tx), iI 0, nS])) ((sT 7 ty124) (oV vA (o_seq (c_ret ?_)))))
 cases hF
 refine s_st (st_nilfact 4) (s_ret2 rfl (r_cell 7 rfl ty124 rfl rfl rfl rfl) (r_tmp rfl) fun a w hs => fin_sel hs [0, 0, 0, 0, 0, 0] ⟨none, 0, 0, A13, L13, C13, rfl, rfl, rfl⟩ rfl (subs [0, 1] rfl))
 refine cR (oV vM ?_)
 obtain ⟨v4, h11, hF⟩ := bd hF
 refine ocl [0, 0, 0, 0, 0, 0] call116 rfl rfl (subs [0] rfl) (tri116 h11 :) ?_
 rintro _ _ _ ⟨A14, L14, C14, rfl, rfl, rfl⟩
 refine oV vA (o_seq ?_)
 refine cC hF (fun hF => ?_) (fun hF => ?_)
 refine cR (oV vM ?_)
 obtain ⟨v5, h13, hF⟩ := bd hF
 rcases v5 with x_2 | y_2
 replace hF := pn_ok hF
 refine ocl [0, 0, 0, 0, 0, 0] call87 rfl rfl (subs [0] rfl) (tri87 h13 :) ?_
 rintro _ _ _ ⟨A15, L15, C15, A16, L16, C16, rfl, rfl, rfl⟩
 refine oV (v_field (v := iI x_2.1.N_) rfl (fun _ => by kernel_rfl)) (oV vA (o_seq (cR (oV vM (oV vM ?_)))))
 obtain ⟨v6, h14, hF⟩ := bd hF
 rcases v6 with x_3 | y_3
 replace hF := pn_ok hF
 refine ocl [0, 0, 0, 0, 0, 0] call135 rfl rfl (subs [1] rfl) (hg135 h14 :) ?_
 rintro _ _ _ ⟨A17, L17, C17, A18, L18, C18, rfl, rfl, rfl⟩
 refine oV (vU (.agg #[iI 5, sV ([] : Tx), iI x_2.1.N_, sl A17 L17 C17])) ((sT 8 ty124) (oV vA (o_seq (c_ret ?_))))
 cases hF
 refine s_st (st_freeze 6 rfl) (s_ret2 rfl (r_cell 7 rfl ty124 rfl rfl rfl rfl) (r_tmp rfl) fun a w hs => fin_sel hs [0, 0, 0, 0, 0, 0] ⟨A17, L17, C17, A18, L18, C18, rfl, rfl, rfl⟩ rfl (subs [0, 1] rfl))
 replace hF := pn_pan hF
 refine ocl [0, 0, 0, 0, 0, 0] call135 rfl rfl (subs [1] rfl) (hg135 h14 :) ?_
 rintro _ _ _ ⟨rfl, rfl, rfl⟩
 cases hF
 exact sP
 replace hF := pn_pan hF
 refine ocl [0, 0, 0, 0, 0, 0] call87 rfl rfl (subs [0] rfl) (tri87 h13 :) ?_
 rintro _ _ _ ⟨rfl, rfl, rfl⟩
 cases hF
 exact sP
 refine c_skip (sat_wc (cR (oV vM (oV vC ((fD 1) (oV (vL 0 ty3) (oV vB (oV vC ((fD 1) ((sT 0 ty3) (o_seq (cR (oV vM ?_)))))))))))))
 obtain ⟨v7, h15, hF⟩ := bd hF
 rcases v7 with x_4 | y_4
 replace hF := pn_ok hF
 refine ocl [0, 0, 0, 0, 0, 0] call135 rfl rfl (subs [0] rfl) (hg135 h15 :) ?_
 rintro _ _ _ ⟨A19, L19, C19, A20, L20, C20, rfl, rfl, rfl⟩
 refine oV (vU (.agg #[iI 6, sV ([] : Tx), iI 0, sl A19 L19 C19])) ((sT 8 ty124) (oV vA (o_seq (c_ret ?_))))
 cases hF
 refine s_st (st_freeze 6 rfl) (s_ret2 rfl (r_cell 7 rfl ty124 rfl rfl rfl rfl) (r_tmp rfl) fun a w hs => fin_sel hs [0, 0, 0, 0, 0, 0] ⟨A19, L19, C19, A20, L20, C20, rfl, rfl, rfl⟩ rfl (subs [0, 1] rfl))
 replace hF := pn_pan hF
 refine ocl [0, 0, 0, 0, 0, 0] call135 rfl rfl (subs [0] rfl) (hg135 h15 :) ?_
 rintro _ _ _ ⟨rfl, rfl, rfl⟩
 cases hF
 exact sP
theorem tri135_B (k : Nat) (g91 : Defs_reader → Option (Pn (List Item × Defs_reader) Fault))
    (hg91 : ∀ {r_ : Defs_reader} {b : Nat} {A1 : OA} {L1 C1 : Nat} {A2 : OA} {L2 C2 : Nat} {A3 : OA} {L3 C3 : Nat} {A4 : OA} {L4 C4 : Nat} {A5 : OA} {L5 C5 : Nat} {A6 : OA} {L6 C6 : Nat} {r : Pn (List Item × Defs_reader) Fault}, g91 r_ = some r → Tri Tryz.prog 91 [pt b] [.box b 87 [sl A1 L1 C1, iI r_.at_, sV r_.d.Start, sV r_.d.Layout, sl A2 L2 C2, sl A3 L3 C3, sl A4 L4 C4, sl A5 L5 C5, sl A6 L6 C6, bV r_.start, bV r_.layout, iI r_.items], rW A2 L2 C2 57 5 eProd r_.d.Prods, rW A3 L3 C3 58 1 (eSl 2 eGroup) r_.d.Chains, rW A4 L4 C4 48 5 eFollow r_.d.Follows, rW A5 L5 C5 78 2 eReject r_.d.Rejects, rW A6 L6 C6 64 2 eBox r_.d.Boxes] [fS A1 L1 C1 11 eWord r_.l_] (fun o H Φ => match (generalizing := false) r with | .ok r => (∃ (A13 : OA) (L13 C13 : Nat) (A14 : OA) (L14 C14 : Nat), o = .ret (sl A13 L13 C13) ∧ H = [.box b 87 [sl A14 L14 C14, iI r.2.at_, sV r.2.d.Start, sV r.2.d.Layout, sl A2 L2 C2, sl A3 L3 C3, sl A4 L4 C4, sl A5 L5 C5, sl A6 L6 C6, bV r.2.start, bV r.2.layout, iI r.2.items], rW A2 L2 C2 57 5 eProd r_.d.Prods, rW A3 L3 C3 58 1 (eSl 2 eGroup) r_.d.Chains, rW A4 L4 C4 48 5 eFollow r_.d.Follows, rW A5 L5 C5 78 2 eReject r_.d.Rejects, rW A6 L6 C6 64 2 eBox r_.d.Boxes, rW A13 L13 C13 124 4 eItem r.1] ∧ Φ = [fS A14 L14 C14 11 eWord r.2.l_]) | .pan y => o = .pan (.iface 37 (.agg #[iI y.At, iI y.Code])) ∧ H = [] ∧ Φ = [])) {r_ : Defs_reader} {b : Nat} {A1 : OA} {L1 C1 : Nat} {A2 : OA} {L2 C2 : Nat} {A3 : OA} {L3 C3 : Nat} {A4 : OA} {L4 C4 : Nat} {A5 : OA} {L5 C5 : Nat} {A6 : OA} {L6 C6 : Nat} {r : Pn (List Item × Defs_reader) Fault} (hF : F.defs.reader_within_B k g91 r_ = some r) :
    Tri Tryz.prog 135 [pt b] [.box b 87 [sl A1 L1 C1, iI r_.at_, sV r_.d.Start, sV r_.d.Layout, sl A2 L2 C2, sl A3 L3 C3, sl A4 L4 C4, sl A5 L5 C5, sl A6 L6 C6, bV r_.start, bV r_.layout, iI r_.items], rW A2 L2 C2 57 5 eProd r_.d.Prods, rW A3 L3 C3 58 1 (eSl 2 eGroup) r_.d.Chains, rW A4 L4 C4 48 5 eFollow r_.d.Follows, rW A5 L5 C5 78 2 eReject r_.d.Rejects, rW A6 L6 C6 64 2 eBox r_.d.Boxes] [fS A1 L1 C1 11 eWord r_.l_] (fun o H Φ => match (generalizing := false) r with | .ok r => (∃ (A11 : OA) (L11 C11 : Nat) (A12 : OA) (L12 C12 : Nat), o = .ret (sl A11 L11 C11) ∧ H = [.box b 87 [sl A12 L12 C12, iI r.2.at_, sV r.2.d.Start, sV r.2.d.Layout, sl A2 L2 C2, sl A3 L3 C3, sl A4 L4 C4, sl A5 L5 C5, sl A6 L6 C6, bV r.2.start, bV r.2.layout, iI r.2.items], rW A2 L2 C2 57 5 eProd r_.d.Prods, rW A3 L3 C3 58 1 (eSl 2 eGroup) r_.d.Chains, rW A4 L4 C4 48 5 eFollow r_.d.Follows, rW A5 L5 C5 78 2 eReject r_.d.Rejects, rW A6 L6 C6 64 2 eBox r_.d.Boxes, rW A11 L11 C11 124 4 eItem r.1] ∧ Φ = [fS A12 L12 C12 11 eWord r.2.l_]) | .pan y => o = .pan (.iface 37 (.agg #[iI y.At, iI y.Code])) ∧ H = [] ∧ Φ = []) := by
 unfold F.defs.reader_within_B at hF
 refine tri_intro (n := 11) Tryz.func135 rfl Tryz.ntmps135 rfl fun w X => cR (oV vA (o_seq (cR (oV vM ?_))))
 obtain ⟨v, h1, hF⟩ := bd hF
 rcases v with x_ | y_
 replace hF := pn_ok hF
 refine ocl [0, 0, 0, 0, 0, 0] call88 rfl rfl (subs [0] rfl) (tri88 h1 :) ?_
 rintro _ _ _ ⟨A7, L7, C7, rfl, rfl, rfl⟩
 refine o_seq (cR (oV vM ?_))
 obtain ⟨v1, h2, hF⟩ := bd hF
 rcases v1 with x_1 | y_1
 replace hF := pn_ok hF
 refine ocl [0, 0, 0, 0, 0, 0] call91 rfl rfl (subs [0] rfl) (hg91 h2 :) ?_
 rintro _ _ _ ⟨A8, L8, C8, A9, L9, C9, rfl, rfl, rfl⟩
 refine oV vA (o_seq (cR (oV vM ?_)))
 obtain ⟨v2, h3, hF⟩ := bd hF
 rcases v2 with x_2 | y_2
 replace hF := pn_ok hF
 refine ocl [0, 0, 0, 0, 0, 0] call88 rfl rfl (subs [0] rfl) (tri88 h3 :) ?_
 rintro _ _ _ ⟨A10, L10, C10, rfl, rfl, rfl⟩
 refine o_seq (cR (oV vM (oV vA (o_seq (c_ret ?_)))))
 cases hF
 refine s_ret1 rfl (r_tmp rfl) fun a w hs => fin_sel hs [0, 0, 0, 0, 0, 0, 0] ⟨A8, L8, C8, A10, L10, C10, rfl, rfl, rfl⟩ rfl (subs [0] rfl)
 replace hF := pn_pan hF
 refine ocl [0, 0, 0, 0, 0, 0] call88 rfl rfl (subs [0] rfl) (tri88 h3 :) ?_
 rintro _ _ _ ⟨rfl, rfl, rfl⟩
 cases hF
 exact sP
 replace hF := pn_pan hF
 refine ocl [0, 0, 0, 0, 0, 0] call91 rfl rfl (subs [0] rfl) (hg91 h2 :) ?_
 rintro _ _ _ ⟨rfl, rfl, rfl⟩
 cases hF
 exact sP
 replace hF := pn_pan hF
 refine ocl [0, 0, 0, 0, 0, 0] call88 rfl rfl (subs [0] rfl) (tri88 h1 :) ?_
 rintro _ _ _ ⟨rfl, rfl, rfl⟩
 cases hF
 exact sP
theorem tri91_G (k : Nat) : (∀ {r_ : Defs_reader} {b : Nat} {A1 : OA} {L1 C1 : Nat} {A2 : OA} {L2 C2 : Nat} {A3 : OA} {L3 C3 : Nat} {A4 : OA} {L4 C4 : Nat} {A5 : OA} {L5 C5 : Nat} {A6 : OA} {L6 C6 : Nat} {r : Pn (List Item × Defs_reader) Fault}, F.defs.reader_list k r_ = some r → Tri Tryz.prog 91 [pt b] [.box b 87 [sl A1 L1 C1, iI r_.at_, sV r_.d.Start, sV r_.d.Layout, sl A2 L2 C2, sl A3 L3 C3, sl A4 L4 C4, sl A5 L5 C5, sl A6 L6 C6, bV r_.start, bV r_.layout, iI r_.items], rW A2 L2 C2 57 5 eProd r_.d.Prods, rW A3 L3 C3 58 1 (eSl 2 eGroup) r_.d.Chains, rW A4 L4 C4 48 5 eFollow r_.d.Follows, rW A5 L5 C5 78 2 eReject r_.d.Rejects, rW A6 L6 C6 64 2 eBox r_.d.Boxes] [fS A1 L1 C1 11 eWord r_.l_] (fun o H Φ => match (generalizing := false) r with | .ok r => (∃ (A13 : OA) (L13 C13 : Nat) (A14 : OA) (L14 C14 : Nat), o = .ret (sl A13 L13 C13) ∧ H = [.box b 87 [sl A14 L14 C14, iI r.2.at_, sV r.2.d.Start, sV r.2.d.Layout, sl A2 L2 C2, sl A3 L3 C3, sl A4 L4 C4, sl A5 L5 C5, sl A6 L6 C6, bV r.2.start, bV r.2.layout, iI r.2.items], rW A2 L2 C2 57 5 eProd r_.d.Prods, rW A3 L3 C3 58 1 (eSl 2 eGroup) r_.d.Chains, rW A4 L4 C4 48 5 eFollow r_.d.Follows, rW A5 L5 C5 78 2 eReject r_.d.Rejects, rW A6 L6 C6 64 2 eBox r_.d.Boxes, rW A13 L13 C13 124 4 eItem r.1] ∧ Φ = [fS A14 L14 C14 11 eWord r.2.l_]) | .pan y => o = .pan (.iface 37 (.agg #[iI y.At, iI y.Code])) ∧ H = [] ∧ Φ = [])) ∧ (∀ {r_ : Defs_reader} {b : Nat} {A1 : OA} {L1 C1 : Nat} {A2 : OA} {L2 C2 : Nat} {A3 : OA} {L3 C3 : Nat} {A4 : OA} {L4 C4 : Nat} {A5 : OA} {L5 C5 : Nat} {A6 : OA} {L6 C6 : Nat} {r : Pn (Item × Bool × Defs_reader) Fault}, F.defs.reader_item k r_ = some r → Tri Tryz.prog 120 [pt b] [.box b 87 [sl A1 L1 C1, iI r_.at_, sV r_.d.Start, sV r_.d.Layout, sl A2 L2 C2, sl A3 L3 C3, sl A4 L4 C4, sl A5 L5 C5, sl A6 L6 C6, bV r_.start, bV r_.layout, iI r_.items], rW A2 L2 C2 57 5 eProd r_.d.Prods, rW A3 L3 C3 58 1 (eSl 2 eGroup) r_.d.Chains, rW A4 L4 C4 48 5 eFollow r_.d.Follows, rW A5 L5 C5 78 2 eReject r_.d.Rejects, rW A6 L6 C6 64 2 eBox r_.d.Boxes] [fS A1 L1 C1 11 eWord r_.l_] (fun o H Φ => match (generalizing := false) r with | .ok r => (∃ (A21 : OA) (L21 C21 : Nat) (A22 : OA) (L22 C22 : Nat), o = .ret (.tuple #[.agg (vItem r.1 A21 L21 C21).toArray, bV r.2.1]) ∧ H = [.box b 87 [sl A22 L22 C22, iI r.2.2.at_, sV r.2.2.d.Start, sV r.2.2.d.Layout, sl A2 L2 C2, sl A3 L3 C3, sl A4 L4 C4, sl A5 L5 C5, sl A6 L6 C6, bV r.2.2.start, bV r.2.2.layout, iI r.2.2.items], rW A2 L2 C2 57 5 eProd r_.d.Prods, rW A3 L3 C3 58 1 (eSl 2 eGroup) r_.d.Chains, rW A4 L4 C4 48 5 eFollow r_.d.Follows, rW A5 L5 C5 78 2 eReject r_.d.Rejects, rW A6 L6 C6 64 2 eBox r_.d.Boxes] ∧ Φ = [fS A21 L21 C21 4 eItem r.1.Items, fS A22 L22 C22 11 eWord r.2.2.l_]) | .pan y => o = .pan (.iface 37 (.agg #[iI y.At, iI y.Code])) ∧ H = [] ∧ Φ = [])) ∧ (∀ {r_ : Defs_reader} {b : Nat} {A1 : OA} {L1 C1 : Nat} {A2 : OA} {L2 C2 : Nat} {A3 : OA} {L3 C3 : Nat} {A4 : OA} {L4 C4 : Nat} {A5 : OA} {L5 C5 : Nat} {A6 : OA} {L6 C6 : Nat} {r : Pn (List Item × Defs_reader) Fault}, F.defs.reader_within k r_ = some r → Tri Tryz.prog 135 [pt b] [.box b 87 [sl A1 L1 C1, iI r_.at_, sV r_.d.Start, sV r_.d.Layout, sl A2 L2 C2, sl A3 L3 C3, sl A4 L4 C4, sl A5 L5 C5, sl A6 L6 C6, bV r_.start, bV r_.layout, iI r_.items], rW A2 L2 C2 57 5 eProd r_.d.Prods, rW A3 L3 C3 58 1 (eSl 2 eGroup) r_.d.Chains, rW A4 L4 C4 48 5 eFollow r_.d.Follows, rW A5 L5 C5 78 2 eReject r_.d.Rejects, rW A6 L6 C6 64 2 eBox r_.d.Boxes] [fS A1 L1 C1 11 eWord r_.l_] (fun o H Φ => match (generalizing := false) r with | .ok r => (∃ (A11 : OA) (L11 C11 : Nat) (A12 : OA) (L12 C12 : Nat), o = .ret (sl A11 L11 C11) ∧ H = [.box b 87 [sl A12 L12 C12, iI r.2.at_, sV r.2.d.Start, sV r.2.d.Layout, sl A2 L2 C2, sl A3 L3 C3, sl A4 L4 C4, sl A5 L5 C5, sl A6 L6 C6, bV r.2.start, bV r.2.layout, iI r.2.items], rW A2 L2 C2 57 5 eProd r_.d.Prods, rW A3 L3 C3 58 1 (eSl 2 eGroup) r_.d.Chains, rW A4 L4 C4 48 5 eFollow r_.d.Follows, rW A5 L5 C5 78 2 eReject r_.d.Rejects, rW A6 L6 C6 64 2 eBox r_.d.Boxes, rW A11 L11 C11 124 4 eItem r.1] ∧ Φ = [fS A12 L12 C12 11 eWord r.2.l_]) | .pan y => o = .pan (.iface 37 (.agg #[iI y.At, iI y.Code])) ∧ H = [] ∧ Φ = [])) := by
 induction k with
 | zero => exact ⟨(fun h => nomatch (show none = some _ from h)), (fun h => nomatch (show none = some _ from h)), (fun h => nomatch (show none = some _ from h))⟩
 | succ k ih => exact ⟨tri91_B k _ ih.2.1, tri120_B k _ ih.2.2, tri135_B k _ ih.1⟩
theorem tri91 {k : Nat} {r_ : Defs_reader} {b : Nat} {A1 : OA} {L1 C1 : Nat} {A2 : OA} {L2 C2 : Nat} {A3 : OA} {L3 C3 : Nat} {A4 : OA} {L4 C4 : Nat} {A5 : OA} {L5 C5 : Nat} {A6 : OA} {L6 C6 : Nat} {r : Pn (List Item × Defs_reader) Fault} (hF : F.defs.reader_list k r_ = some r) :
    Tri Tryz.prog 91 [pt b] [.box b 87 [sl A1 L1 C1, iI r_.at_, sV r_.d.Start, sV r_.d.Layout, sl A2 L2 C2, sl A3 L3 C3, sl A4 L4 C4, sl A5 L5 C5, sl A6 L6 C6, bV r_.start, bV r_.layout, iI r_.items], rW A2 L2 C2 57 5 eProd r_.d.Prods, rW A3 L3 C3 58 1 (eSl 2 eGroup) r_.d.Chains, rW A4 L4 C4 48 5 eFollow r_.d.Follows, rW A5 L5 C5 78 2 eReject r_.d.Rejects, rW A6 L6 C6 64 2 eBox r_.d.Boxes] [fS A1 L1 C1 11 eWord r_.l_] (fun o H Φ => match (generalizing := false) r with | .ok r => (∃ (A13 : OA) (L13 C13 : Nat) (A14 : OA) (L14 C14 : Nat), o = .ret (sl A13 L13 C13) ∧ H = [.box b 87 [sl A14 L14 C14, iI r.2.at_, sV r.2.d.Start, sV r.2.d.Layout, sl A2 L2 C2, sl A3 L3 C3, sl A4 L4 C4, sl A5 L5 C5, sl A6 L6 C6, bV r.2.start, bV r.2.layout, iI r.2.items], rW A2 L2 C2 57 5 eProd r_.d.Prods, rW A3 L3 C3 58 1 (eSl 2 eGroup) r_.d.Chains, rW A4 L4 C4 48 5 eFollow r_.d.Follows, rW A5 L5 C5 78 2 eReject r_.d.Rejects, rW A6 L6 C6 64 2 eBox r_.d.Boxes, rW A13 L13 C13 124 4 eItem r.1] ∧ Φ = [fS A14 L14 C14 11 eWord r.2.l_]) | .pan y => o = .pan (.iface 37 (.agg #[iI y.At, iI y.Code])) ∧ H = [] ∧ Φ = []) := (tri91_G k).1 hF
theorem tri90 {k : Nat} {p0 : Word} {free : Defs_reader} {b : Nat} {b1 : Nat} {r : Pn Defs_reader Fault} (hF : F.defs.reader_all_c5 k p0 free = some r) :
    Tri Tryz.prog 90 [.agg (vWord p0 A1 L1 C1).toArray, pt b1] [.box b 87 [sl A2 L2 C2, iI free.at_, sV free.d.Start, sV free.d.Layout, sl A3 L3 C3, sl A4 L4 C4, sl A5 L5 C5, sl A6 L6 C6, sl A7 L7 C7, bV free.start, bV free.layout, iI free.items], rW A3 L3 C3 57 5 eProd free.d.Prods, rW A4 L4 C4 58 1 (eSl 2 eGroup) free.d.Chains, rW A5 L5 C5 48 5 eFollow free.d.Follows, rW A6 L6 C6 78 2 eReject free.d.Rejects, rW A7 L7 C7 64 2 eBox free.d.Boxes, .box b1 85 [pt b]] [fS A1 L1 C1 1 eU8 p0.Bytes, fS A2 L2 C2 11 eWord free.l_] (fun o H Φ => match (generalizing := false) r with | .ok r => (∃ (A15 : OA) (L15 C15 : Nat) (A16 : OA) (L16 C16 : Nat), o = .ret (.tuple #[]) ∧ H = [.box b 87 [sl A15 L15 C15, iI r.at_, sV r.d.Start, sV r.d.Layout, sl A3 L3 C3, sl A4 L4 C4, sl A5 L5 C5, sl A6 L6 C6, sl A16 L16 C16, bV r.start, bV r.layout, iI r.items], rW A3 L3 C3 57 5 eProd free.d.Prods, rW A4 L4 C4 58 1 (eSl 2 eGroup) free.d.Chains, rW A5 L5 C5 48 5 eFollow free.d.Follows, rW A6 L6 C6 78 2 eReject free.d.Rejects, rW A16 L16 C16 64 2 eBox r.d.Boxes, .box b1 85 [pt b]] ∧ Φ = [fS A15 L15 C15 11 eWord r.l_]) | .pan y => o = .pan (.iface 37 (.agg #[iI y.At, iI y.Code])) ∧ H = [] ∧ Φ = []) := by
 unfold F.defs.reader_all_c5 at hF
 refine tri_intro (n := 29) Tryz.func90 rfl Tryz.ntmps90 rfl fun w X => cR (o_box rfl rfl rfl fun b2 => o_seq (cR (oV (vL 7 ty85) ?_)))
 obtain ⟨v, h1, hF⟩ := bd hF
 rcases v with x_ | y_
 replace hF := pn_ok hF
 refine ocl [1, 1, 1, 1, 1, 1] call86 rfl rfl (subs [1] rfl) (tri86 h1 :) ?_
 rintro _ _ _ ⟨A8, L8, C8, rfl, rfl, rfl⟩
 refine oV (vU (.agg #[sV x_.1, nS])) (o_alloc zero64 rfl rfl ?_)
 intro b3
 refine (sT 0 ty64) (o_seq (cR (oV (vL 8 ty85) ?_)))
 obtain ⟨v1, h2, hF⟩ := bd hF
 rcases v1 with x_1 | y_1
 replace hF := pn_ok hF
 refine ocl [1, 1, 1, 1, 1, 1] call88 rfl rfl (subs [0] rfl) (tri88 h2 :) ?_
 rintro _ _ _ ⟨A9, L9, C9, rfl, rfl, rfl⟩
 refine o_seq (cR (oV (vL 8 ty85) (oV vC ((fD 11) ((sT 0 ty3) (o_seq (cR (oV (vL 8 ty85) ?_))))))))
 obtain ⟨v2, h3, hF⟩ := bd hF
 rcases v2 with x_2 | y_2
 replace hF := pn_ok hF
 refine ocl [0, 0, 0, 0, 0, 0] call91 rfl rfl (subs [0] rfl) (tri91 h3 :) ?_
 rintro _ _ _ ⟨A10, L10, C10, A11, L11, C11, rfl, rfl, rfl⟩
 refine (fD 1) ((sT 7 ty62) (o_seq (cR (oV (vL 9 ty85) ?_))))
 obtain ⟨v3, h4, hF⟩ := bd hF
 rcases v3 with x_3 | y_3
 replace hF := pn_ok hF
 refine ocl [0, 0, 0, 0, 0, 0] call88 rfl rfl (subs [0] rfl) (tri88 h4 :) ?_
 rintro _ _ _ ⟨A12, L12, C12, rfl, rfl, rfl⟩
 refine o_seq (c_draw (n := 13) [1, 1, 1, 1, 4, 4] mixed rfl rfl (dv 0 rfl (vL 5 ty85) (dv 1 rfl (vL 5 ty85) (dv 2 rfl vC (dv 3 rfl (vF 2) (dv 4 rfl (vF 8) ?_))))))
 refine d_all [5, 6] (by kernel_rfl) (by simp) ⟨⟨_, rfl, ?_⟩, ⟨_, rfl, ?_⟩, trivial⟩
 refine oV (vL 0 ty26) (dN [1, 1, 1, 1, 4, 4] 0 (dO 6 rfl (oV (vL 7 ty64) (dN [1, 1, 1, 1, 4, 4] 0 (dO 7 rfl (o_st (st_freeze 6 rfl) (o_buildSlice (enc := eBox) ([(Box.mk x_.1 x_2.1)] : List Box) [sV x_.1, sl A10 L10 C10] sl26 rfl (fun _ => by kernel_rfl) rfl rfl rfl (.s rfl (.f 0 rfl (.nil))) rfl ?_)))))))
 intro A13 L13 C13
 refine dN [2, 2, 2, 2, 4, 4] 1 (dO 8 rfl (ite_some hF ?_))
 intro h5 hF
 refine ite_some hF fun h6 hF => o_append (enc := eBox) (xs := free.d.Boxes) (ys := ([(Box.mk x_.1 x_2.1)] : List Box)) 6 sl26 rfl rfl rfl (.r 0 _ rfl) h5 h6 rfl fun A14 L14 C14 => dN [2, 2, 2, 2, 4, 4] 1 (dv 9 rfl vC (dv 10 rfl (vF 2) ?_))
 refine dv 11 rfl (vF 8) (dO 12 rfl ((sT 1 ty26) (dN [2, 2, 2, 2, 4, 4] 1 (dD ?_))))
 cases hF
 refine s_ret0 rfl fun a w hs => fin_sel hs [1, 1, 1, 1, 1, 1, 3] ⟨A12, L12, C12, A14, L14, C14, rfl, rfl, rfl⟩ rfl (subs [1] rfl)
 refine oV (vL 7 ty64) (dN [1, 1, 1, 1, 4, 4] 0 ?_)
 refine d_all [5, 7] (by kernel_rfl) (by simp) ⟨⟨_, rfl, ?_⟩, ⟨_, rfl, ?_⟩, trivial⟩
 refine oV (vL 0 ty26) (dN [1, 1, 1, 1, 4, 4] 0 (dO 7 rfl (o_st (st_freeze 6 rfl) (o_buildSlice (enc := eBox) ([(Box.mk x_.1 x_2.1)] : List Box) [sV x_.1, sl A10 L10 C10] sl26 rfl (fun _ => by kernel_rfl) rfl rfl rfl (.s rfl (.f 0 rfl (.nil))) rfl ?_))))
 intro A13 L13 C13
 refine dN [2, 2, 2, 2, 4, 4] 1 (dO 8 rfl (ite_some hF ?_))
 intro h5 hF
 refine ite_some hF fun h6 hF => o_append (enc := eBox) (xs := free.d.Boxes) (ys := ([(Box.mk x_.1 x_2.1)] : List Box)) 6 sl26 rfl rfl rfl (.r 0 _ rfl) h5 h6 rfl fun A14 L14 C14 => dN [2, 2, 2, 2, 4, 4] 1 (dv 9 rfl vC (dv 10 rfl (vF 2) (dv 11 rfl (vF 8) (dO 12 rfl ((sT 1 ty26) ?_)))))
 refine dN [2, 2, 2, 2, 4, 4] 1 (dD ?_)
 cases hF
 refine s_ret0 rfl fun a w hs => fin_sel hs [1, 1, 1, 1, 1, 1, 3] ⟨A12, L12, C12, A14, L14, C14, rfl, rfl, rfl⟩ rfl (subs [1] rfl)
 refine o_st (st_freeze 6 rfl) (o_buildSlice (enc := eBox) ([(Box.mk x_.1 x_2.1)] : List Box) [sV x_.1, sl A10 L10 C10] sl26 rfl (fun _ => by kernel_rfl) rfl rfl rfl (.s rfl (.f 0 rfl (.nil))) rfl fun A13 L13 C13 => dN [2, 2, 2, 2, 4, 4] 1 (dO 5 rfl (oV (vL 1 ty26) (dN [2, 2, 2, 2, 4, 4] 1 (dO 8 rfl (ite_some hF ?_))))))
 intro h5 hF
 refine ite_some hF fun h6 hF => o_append (enc := eBox) (xs := free.d.Boxes) (ys := ([(Box.mk x_.1 x_2.1)] : List Box)) 6 sl26 rfl rfl rfl (.r 0 _ rfl) h5 h6 rfl fun A14 L14 C14 => dN [2, 2, 2, 2, 4, 4] 1 (dv 9 rfl vC (dv 10 rfl (vF 2) (dv 11 rfl (vF 8) (dO 12 rfl ((sT 1 ty26) ?_)))))
 refine dN [2, 2, 2, 2, 4, 4] 1 (dD ?_)
 cases hF
 refine s_ret0 rfl fun a w hs => fin_sel hs [1, 1, 1, 1, 1, 1, 3] ⟨A12, L12, C12, A14, L14, C14, rfl, rfl, rfl⟩ rfl (subs [1] rfl)
 replace hF := pn_pan hF
 refine ocl [0, 0, 0, 0, 0, 0] call88 rfl rfl (subs [0] rfl) (tri88 h4 :) ?_
 rintro _ _ _ ⟨rfl, rfl, rfl⟩
 cases hF
 exact sP
 replace hF := pn_pan hF
 refine ocl [0, 0, 0, 0, 0, 0] call91 rfl rfl (subs [0] rfl) (tri91 h3 :) ?_
 rintro _ _ _ ⟨rfl, rfl, rfl⟩
 cases hF
 exact sP
 replace hF := pn_pan hF
 refine ocl [1, 1, 1, 1, 1, 1] call88 rfl rfl (subs [0] rfl) (tri88 h2 :) ?_
 rintro _ _ _ ⟨rfl, rfl, rfl⟩
 cases hF
 exact sP
 replace hF := pn_pan hF
 refine ocl [1, 1, 1, 1, 1, 1] call86 rfl rfl (subs [1] rfl) (tri86 h1 :) ?_
 rintro _ _ _ ⟨rfl, rfl, rfl⟩
 cases hF
 exact sP
end Go.Vc
