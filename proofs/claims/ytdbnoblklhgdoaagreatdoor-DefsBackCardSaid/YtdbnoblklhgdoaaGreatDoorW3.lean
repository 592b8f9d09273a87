import Derived.Test.YtdbnoblklhgdoaaGreatDoorW2
set_option linter.unusedVariables false
set_option linter.unusedSimpArgs false
set_option maxRecDepth 8000
set_option maxHeartbeats 2000000
namespace Go.Vc
open Go Go.Proofs
variable {A1 A2 A3 A4 A5 A6 A7 A8 A9 A10 A11 A12 A13 A14 A15 A16 A17 A18 A19 A20 A21 A22 A23 A24 A25 A26 A27 : OA} {L1 C1 L2 C2 L3 C3 L4 C4 L5 C5 L6 C6 L7 C7 L8 C8 L9 C9 L10 C10 L11 C11 L12 C12 L13 C13 L14 C14 L15 C15 L16 C16 L17 C17 L18 C18 L19 C19 L20 C20 L21 C21 L22 C22 L23 C23 L24 C24 L25 C25 L26 C26 L27 C27 : Nat}
@[reducible] def P31 (g31 : List Item -> Option Tx) : Prop := ∀ {l__ : List Item} {A1 : OA} {L1 C1 : Nat} {r : Tx}, g31 l__ = some r -> xu Tryz.prog 31 [sl A1 L1 C1] [] [jc 1, fS A1 L1 C1 4 zR l__] (oR (sV r))
@[reducible] def P34 (g34 : List Item -> List Item -> Option Bool) : Prop := ∀ {a_ : List Item} {b : List Item} {A1 : OA} {L1 C1 : Nat} {A2 : OA} {L2 C2 : Nat} {r : Bool}, g34 a_ b = some r -> xu Tryz.prog 34 [sl A1 L1 C1, sl A2 L2 C2] [] [fS A1 L1 C1 4 zR a_, fS A2 L2 C2 4 zR b] (oR (bV r))
theorem tri31_B (k : Nat) (g31 : List Item -> Option Tx)
    (hg31 : P31 g31) {l__ : List Item} {A1 : OA} {L1 C1 : Nat} {r : Tx} (hF : qd.itemsText_B k g31 l__ = some r) :
    xu Tryz.prog 31 [sl A1 L1 C1] [] [jc 1, fS A1 L1 C1 4 zR l__] (oR (sV r)) := by
 unfold qd.itemsText_B at hF
 refine zt (n := 64) Tryz.func31 rfl Tryz.ntmps31 rfl fun w X => cR (oV vA (zb (cR (oV vA (zb (zf (cR (oV vM (oV (zL (enc := zR) l__ kT rfl (.f 1 rfl)) (oV vM (zb ?_)))))))))))
 obtain ⟨o1, ho1, hF⟩ := bd hF
 refine cT (fun E H Φ N' => zT E [(0, sl A1 L1 C1), (2, sV ([] : Tx)), (3, sV o1), (6, sl A1 L1 C1)] [] Φ N') (fun N1 hN1 => ?_) ?_
 refine zq ?_
 refine cL (fun E H Φ j a w => ∃ (out_ : Tx) (t8 : Int), qd.itemsText_l1 k l__ g31 j out_ t8 = some o1 /\ St E [(0, sl A1 L1 C1), (2, sV ([] : Tx)), (3, sV out_), (6, sl A1 L1 C1), (7, iI (l__.length : Int)), (8, iI t8)] [] Φ a w) k ?_ ?_
 exact lq [] [0, 1] fun a w hs => ⟨([] : Tx), 0, ho1, hs⟩
 rintro j a w ⟨out_, t8, hL1, hs⟩
 rcases j with _ | j
 cases hL1
 refine yd hs ?_
 unfold qd.itemsText_l1 at hL1
 refine cR (oV vB (zb (zf ?_)))
 refine cC hL1 (fun hL1 => ?_) (fun hL1 => ?_)
 refine zk (ze (zf ?_))
 refine z8 (fun E N' => ∀ (out_1 : Tx) (A2 : OA) (L2 C2 : Nat) (b : Nat), qd.itemsText_j2 (qd.itemsText_l1 k l__ g31 j) t8 out_1 = some o1 -> zT E [(0, sl A1 L1 C1), (2, sV ([] : Tx)), (3, sV out_1), (5, pt b), (6, sl A1 L1 C1), (7, iI (l__.length : Int)), (8, iI t8), (13, iI ((at_ l__ t8).Kind))] [.box b 124 (vItem (at_ l__ t8) A2 L2 C2)] [jc 1, fS A1 L1 C1 4 zR l__, fS A2 L2 C2 4 zR ((at_ l__ t8).Items)] N') (fun N2 hN2 => ?_) ?_
 refine zq (cR (zc hL1 fun h2 hL1 => oV (zi (xs := l__) (enc := zR) kT rfl rfl (.f 1 rfl) h2) (yq (ds := [.int .i64 ((at_ l__ t8).Kind), .str ((at_ l__ t8).Text), .int .i64 ((at_ l__ t8).N_), .slice 4 (((at_ l__ t8).Items).map zR)]) (xs := l__) (enc := zR) vi rfl (.f 1 rfl) h2 (by simp only [xD] <;> rfl) rfl rfl rfl rfl rfl ?_)))
 intro A3 L3 C3
 refine zC zero124 rfl rfl fun b1 => (sT 0 vi) (zb (cR ((fD 0) (oV (vL 0 yz) (zb ?_)))))
 refine cT (fun E H Φ N' => ∀ (out_2 : Tx), qd.itemsText_j3 (qd.itemsText_l1 k l__ g31 j) t8 out_2 = some o1 -> zT E [(0, sl A1 L1 C1), (2, sV ([] : Tx)), (3, sV out_2), (5, pt b1), (6, sl A1 L1 C1), (7, iI (l__.length : Int)), (8, iI t8), (13, iI ((at_ l__ t8).Kind))] H [jc 1, fS A1 L1 C1 4 zR l__, fS A3 L3 C3 4 zR ((at_ l__ t8).Items)] N') (fun N3 hN3 => ?_) ?_
 refine zq (cR (oV vB (oV vA (zb ?_))))
 refine cT (fun E H Φ N' => ∀ (out_3 : Tx), qd.itemsText_j4 (qd.itemsText_l1 k l__ g31 j) t8 out_3 = some o1 -> zT E [(0, sl A1 L1 C1), (2, sV ([] : Tx)), (3, sV out_3), (5, pt b1), (6, sl A1 L1 C1), (7, iI (l__.length : Int)), (8, iI t8), (13, iI ((at_ l__ t8).Kind))] H [jc 1, fS A1 L1 C1 4 zR l__, fS A3 L3 C3 4 zR ((at_ l__ t8).Items)] N') (fun N4 hN4 => ?_) ?_
 refine cC hL1 (fun hL1 => ?_) (fun hL1 => ?_)
 refine zd (oV vM ((fD 1) (oV (vL 0 xE) (gI Tryz.underlying9 Tryz.underlying67 Tryz.underlying5 rfl rfl ?_))))
 intro A4 L4 C4
 refine ?_
 obtain ⟨v, h4, hL1⟩ := bd hL1
 refine zu call72 rfl (zA 0 rfl zv) (tri72 h4 :) rfl (zc hL1 fun h5 hL1 => oV (vS h5) (zc hL1 ?_))
 intro h6 hL1
 refine oV (vS h6) (oV vA (zh ?_))
 exact sK [0] [2, 3, 1] (hN4 (out_ ++ (([32] : Tx) ++ v)) hL1)
 refine cR (oV vB (oV vA (zb ?_)))
 refine cT (fun E H Φ N' => ∀ (out_4 : Tx), qd.itemsText_j5 (qd.itemsText_l1 k l__ g31 j) t8 out_4 = some o1 -> zT E [(0, sl A1 L1 C1), (2, sV ([] : Tx)), (3, sV out_4), (5, pt b1), (6, sl A1 L1 C1), (7, iI (l__.length : Int)), (8, iI t8), (13, iI ((at_ l__ t8).Kind))] H [jc 1, fS A1 L1 C1 4 zR l__, fS A3 L3 C3 4 zR ((at_ l__ t8).Items)] N') (fun N5 hN5 => ?_) ?_
 refine cC hL1 (fun hL1 => ?_) (fun hL1 => ?_)
 refine zd (oV vM ((fD 2) (oV (vL 0 yz) ?_)))
 obtain ⟨v1, h8, hL1⟩ := bd hL1
 refine zu call73 rfl (zA 1 rfl zv) (tri73 ((at_ l__ t8).N_) v1 h8) rfl (zc hL1 fun h9 hL1 => oV (vS h9) (zc hL1 ?_))
 intro h10 hL1
 refine oV (vS h10) (oV vA (zh ?_))
 exact sK [0] [1, 2, 0] (hN5 (out_ ++ (([32] : Tx) ++ v1)) hL1)
 refine cR (oV vB (oV vA (zb ?_)))
 refine cT (fun E H Φ N' => ∀ (out_5 : Tx), qd.itemsText_j6 (qd.itemsText_l1 k l__ g31 j) t8 out_5 = some o1 -> zT E [(0, sl A1 L1 C1), (2, sV ([] : Tx)), (3, sV out_5), (5, pt b1), (6, sl A1 L1 C1), (7, iI (l__.length : Int)), (8, iI t8), (13, iI ((at_ l__ t8).Kind))] H [jc 1, fS A1 L1 C1 4 zR l__, fS A3 L3 C3 4 zR ((at_ l__ t8).Items)] N') (fun N6 hN6 => ?_) ?_
 refine cC hL1 (fun hL1 => ?_) (fun hL1 => ?_)
 refine zd (oV vM (zc hL1 ?_))
 intro h12 hL1
 refine oV (vS h12) (oV vA (zh ?_))
 exact sK [0] [1, 2, 0] (hN6 (out_ ++ ([32, 95] : Tx)) hL1)
 refine cR (oV vB (oV vA (zb ?_)))
 refine cT (fun E H Φ N' => ∀ (out_6 : Tx), qd.itemsText_j7 (qd.itemsText_l1 k l__ g31 j) t8 out_6 = some o1 -> zT E [(0, sl A1 L1 C1), (2, sV ([] : Tx)), (3, sV out_6), (5, pt b1), (6, sl A1 L1 C1), (7, iI (l__.length : Int)), (8, iI t8), (13, iI ((at_ l__ t8).Kind))] H [jc 1, fS A1 L1 C1 4 zR l__, fS A3 L3 C3 4 zR ((at_ l__ t8).Items)] N') (fun N7 hN7 => ?_) ?_
 refine cC hL1 (fun hL1 => ?_) (fun hL1 => ?_)
 refine zd (oV vM (zc hL1 ?_))
 intro h14 hL1
 refine oV (vS h14) (oV vA (zh ?_))
 exact sK [0] [1, 2, 0] (hN7 (out_ ++ ([32, 47] : Tx)) hL1)
 refine cR (oV vB (oV vA (zb ?_)))
 refine cT (fun E H Φ N' => ∀ (out_7 : Tx), qd.itemsText_j8 (qd.itemsText_l1 k l__ g31 j) t8 out_7 = some o1 -> zT E [(0, sl A1 L1 C1), (2, sV ([] : Tx)), (3, sV out_7), (5, pt b1), (6, sl A1 L1 C1), (7, iI (l__.length : Int)), (8, iI t8), (13, iI ((at_ l__ t8).Kind))] H [jc 1, fS A1 L1 C1 4 zR l__, fS A3 L3 C3 4 zR ((at_ l__ t8).Items)] N') (fun N8 hN8 => ?_) ?_
 refine cC hL1 (fun hL1 => ?_) (fun hL1 => ?_)
 refine zP (n := 13) [0] mixed rfl rfl (dv 0 rfl vM (dv 1 rfl (vF 2) (dv 2 rfl (vL 0 yz) (dv 6 rfl (vF 3) (dv 7 rfl (vL 0 jQ) (dO 3 rfl ?_))))))
 obtain ⟨v2, h16, hL1⟩ := bd hL1
 refine zu call73 rfl (zA 1 rfl zv) (tri73 ((at_ l__ t8).N_) v2 h16) rfl (dN [0] 0 (zc hL1 ?_))
 intro h17 hL1
 refine dv 4 rfl (vS h17) (zc hL1 ?_)
 intro h18 hL1
 refine dv 5 rfl (vS h18) (dO 8 rfl ?_)
 obtain ⟨v3, h19, hL1⟩ := bd hL1
 refine zu call31 rfl (zA 1 rfl (zA 0 rfl zv)) (hg31 h19 :) rfl (dN [0] 0 (zc hL1 ?_))
 intro h20 hL1
 refine dv 9 rfl (vS h20) (zc hL1 ?_)
 intro h21 hL1
 refine dv 10 rfl (vS h21) (zc hL1 ?_)
 intro h22 hL1
 refine dv 11 rfl (vS h22) (dv 12 rfl vA (dD ?_))
 exact sK [0] [1, 2, 0] (hN8 (out_ ++ ((((([32, 110, 101, 115, 116, 32] : Tx) ++ v2) ++ ([32, 40] : Tx)) ++ v3) ++ ([32, 41] : Tx))) hL1)
 refine cR (oV vB (oV vA (zb ?_)))
 refine cT (fun E H Φ N' => ∀ (out_8 : Tx), qd.itemsText_j9 (qd.itemsText_l1 k l__ g31 j) t8 out_8 = some o1 -> zT E [(0, sl A1 L1 C1), (2, sV ([] : Tx)), (3, sV out_8), (5, pt b1), (6, sl A1 L1 C1), (7, iI (l__.length : Int)), (8, iI t8), (13, iI ((at_ l__ t8).Kind))] H [jc 1, fS A1 L1 C1 4 zR l__, fS A3 L3 C3 4 zR ((at_ l__ t8).Items)] N') (fun N9 hN9 => ?_) ?_
 refine cC hL1 (fun hL1 => ?_) (fun hL1 => ?_)
 refine zd (oV vM ((fD 3) (oV (vL 0 jQ) ?_)))
 obtain ⟨v4, h24, hL1⟩ := bd hL1
 refine zu call31 rfl (zA 1 rfl (zA 0 rfl zv)) (hg31 h24 :) rfl (zc hL1 fun h25 hL1 => oV (vS h25) (zc hL1 ?_))
 intro h26 hL1
 refine oV (vS h26) (zc hL1 ?_)
 intro h27 hL1
 refine oV (vS h27) (oV vA (zh ?_))
 exact sK [0] [1, 2, 0] (hN9 (out_ ++ ((([32, 103, 114, 111, 117, 112, 32, 40] : Tx) ++ v4) ++ ([32, 41] : Tx))) hL1)
 refine zk ?_
 exact sK [0] [1, 2, 0] (hN9 out_ hL1)
 intro out_8 hL1
 unfold qd.itemsText_j9 at hL1
 exact sK [0] [0, 1, 2] (hN8 out_8 hL1)
 intro out_7 hL1
 unfold qd.itemsText_j8 at hL1
 exact sK [0] [0, 1, 2] (hN7 out_7 hL1)
 intro out_6 hL1
 unfold qd.itemsText_j7 at hL1
 exact sK [0] [0, 1, 2] (hN6 out_6 hL1)
 intro out_5 hL1
 unfold qd.itemsText_j6 at hL1
 exact sK [0] [0, 1, 2] (hN5 out_5 hL1)
 intro out_4 hL1
 unfold qd.itemsText_j5 at hL1
 exact sK [0] [0, 1, 2] (hN4 out_4 hL1)
 intro out_3 hL1
 unfold qd.itemsText_j4 at hL1
 exact sK [0] [0, 1, 2] (hN3 out_3 hL1)
 intro out_2 hL1
 unfold qd.itemsText_j3 at hL1
 exact sK [0] [0, 1, 2] (hN2 out_2 A3 L3 C3 b1 hL1)
 intro out_1 A2 L2 C2 b hL1
 unfold qd.itemsText_j2 at hL1
 refine ze (zd (oV vB (oV vM (zh ?_))))
 exact lp [] [0, 1] fun a w hs => ⟨out_1, IntKind.wrap .i64 (t8 + 1), hL1, hs⟩
 refine zW ?_
 cases hL1
 exact sK [] [0, 1] (hN1)
 refine ze (cR (oV vM (oV vA (zb (zp ?_)))))
 cases hF
 exact sR
theorem tri31 (k : Nat) : (P31 (qd.itemsText k)) := by
 induction k with
 | zero => exact fun h => nomatch (show none = some _ from h)
 | succ k ih => exact tri31_B k _ ih
theorem tri13 {k : Nat} {d_ : zY} {r : Tx × Int} (hF : qd.Print k d_ = some r) :
    xu Tryz.prog 13 [.agg (yB d_ A1 L1 C1 A2 L2 C2 A3 L3 C3 A4 L4 C4 A5 L5 C5).toArray] [] [jc 1, fS A1 L1 C1 5 yh d_.Prods, fS A2 L2 C2 1 (w8 2 zD) d_.Chains, fS A3 L3 C3 5 z7 d_.Follows, fS A4 L4 C4 2 z6 d_.Rejects, fS A5 L5 C5 2 xq d_.Boxes] (oR (.tuple #[sV r.1, iI r.2])) := by
 unfold qd.Print at hF
 refine zt (n := 159) Tryz.func13 rfl Tryz.ntmps13 rfl fun w X => cR (xr rfl rfl rfl fun b => oV vA (oV vA (zb (zf (cR (oV (vL 0 vI) ?_))))))
 obtain ⟨v, h1, hF⟩ := bd hF
 refine zu call17 rfl (zA 1 rfl (zA 2 rfl (zA 3 rfl (zA 4 rfl (zA 5 rfl zv))))) (tri17 h1 :) rfl (oV vN (zb ?_))
 refine cC hF (fun hF => ?_) (fun hF => ?_)
 refine cR (oV vA (oV vA (zb (zp ?_))))
 cases hF
 refine ye rfl (zX rfl) (zX rfl) fun a w hs => zo hs [] ⟨rfl, rfl, rfl⟩ rfl zn
 refine zk (ze (cR (zC zero69 rfl rfl fun b1 => zb (cR (oV (wD (vs := [pt b1]) rfl) (oV vA (zb (zf (cR ((fD 0) (oV (vL 1 xE) ?_)))))))))))
 refine oV (w7 rfl rfl) (zb ?_)
 refine cT (fun E H Φ N' => ∀ (addr_ : Bool) (buf_ : List Int) (A6 : OA) (L6 C6 : Nat), qd.Print_j1 k d_ addr_ buf_ = some r -> zT E [(0, .agg (yB d_ A1 L1 C1 A2 L2 C2 A3 L3 C3 A4 L4 C4 A5 L5 C5).toArray), (1, pt b), (2, sV ([] : Tx)), (3, iI 0), (4, pt b1), (5, .func (.func 26) #[] #[pt b1])] [.box b1 69 [wL b1 addr_, sl A6 L6 C6], .box b 28 (yB d_ A1 L1 C1 A2 L2 C2 A3 L3 C3 A4 L4 C4 A5 L5 C5), rW A6 L6 C6 5 1 xj buf_] Φ N') (fun N12 hN12 => ?_) ?_
 refine cC hF (fun hF => ?_) (fun hF => ?_)
 refine zd (oV vM ((fD 0) (oV (vL 1 xE) (zc hF ?_))))
 intro h46 hF
 refine oV (vS h46) (zc hF ?_)
 intro h47 hF
 refine oV (vS h47) ?_
 obtain ⟨v12, h48, hF⟩ := bd hF
 refine wj (ym 5 1) (xZ [1, 0] gL (cap := #[pt b1]) rfl rfl rfl zn (by exact (tri26 h48 :)) rfl ?_)
 rintro _ _ _ ⟨A27, L27, C27, rfl, rfl, rfl⟩
 refine zh ?_
 exact sK [0, 1, 0] [0, 1, 2, 3, 4, 5] (hN12 v12.2.addr v12.2.buf A27 L27 C27 hF)
 refine zk (xP (ym 5 1) ?_)
 exact sK [1, 1, 0] [0, 1, 2, 3, 4, 5] (hN12 false ([] : List Int) none 0 0 hF)
 intro addr_ buf_ A6 L6 C6 hF
 unfold qd.Print_j1 at hF
 refine ze (zf (cR ((fD 1) (oV (vL 1 xE) (oV (w7 rfl rfl) (zb ?_))))))
 refine cT (fun E H Φ N' => ∀ (addr_1 : Bool) (buf_1 : List Int) (A7 : OA) (L7 C7 : Nat), qd.Print_j2 k d_ addr_1 buf_1 = some r -> zT E [(0, .agg (yB d_ A1 L1 C1 A2 L2 C2 A3 L3 C3 A4 L4 C4 A5 L5 C5).toArray), (1, pt b), (2, sV ([] : Tx)), (3, iI 0), (4, pt b1), (5, .func (.func 26) #[] #[pt b1])] [.box b1 69 [wL b1 addr_1, sl A7 L7 C7], .box b 28 (yB d_ A1 L1 C1 A2 L2 C2 A3 L3 C3 A4 L4 C4 A5 L5 C5), rW A7 L7 C7 5 1 xj buf_1] Φ N') (fun N12 hN12 => ?_) ?_
 refine cC hF (fun hF => ?_) (fun hF => ?_)
 refine zd (oV vM ((fD 1) (oV (vL 1 xE) (zc hF ?_))))
 intro h42 hF
 refine oV (vS h42) (zc hF ?_)
 intro h43 hF
 refine oV (vS h43) ?_
 obtain ⟨v11, h44, hF⟩ := bd hF
 refine xZ [0, 1] gL (cap := #[pt b1]) rfl rfl rfl zn (by exact (tri26 h44 :)) rfl ?_
 rintro _ _ _ ⟨A26, L26, C26, rfl, rfl, rfl⟩
 refine zh ?_
 exact sK [0, 1, 0] [0, 1, 2, 3, 4, 5] (hN12 v11.2.addr v11.2.buf A26 L26 C26 hF)
 refine zk ?_
 exact sK [0, 0, 0] [0, 1, 2, 3, 4, 5] (hN12 addr_ buf_ A6 L6 C6 hF)
 intro addr_1 buf_1 A7 L7 C7 hF
 unfold qd.Print_j2 at hF
 refine ze (cR (oV vA (zb (zf (cR (oV vA (zb ?_)))))))
 obtain ⟨o3, ho3, hF⟩ := bd hF
 refine cT (fun E H Φ N' => ∀ (A9 : OA) (L9 C9 : Nat), zT E [(0, .agg (yB d_ A1 L1 C1 A2 L2 C2 A3 L3 C3 A4 L4 C4 A5 L5 C5).toArray), (1, pt b), (2, sV ([] : Tx)), (3, iI 0), (4, pt b1), (5, .func (.func 26) #[] #[pt b1]), (6, bV o3.1)] [.box b1 69 [wL b1 o3.2.1, sl A9 L9 C9], .box b 28 (yB d_ A1 L1 C1 A2 L2 C2 A3 L3 C3 A4 L4 C4 A5 L5 C5), rW A9 L9 C9 5 1 xj o3.2.2] Φ N') (fun N3 hN3 => ?_) ?_
 refine zq ?_
 refine cL (fun E H Φ j a w => ∃ (ok_ : Bool) (i : Int) (addr_2 : Bool) (buf_2 : List Int) (A8 : OA) (L8 C8 : Nat), qd.Print_l3 k d_ j ok_ i addr_2 buf_2 = some o3 /\ St E [(0, .agg (yB d_ A1 L1 C1 A2 L2 C2 A3 L3 C3 A4 L4 C4 A5 L5 C5).toArray), (1, pt b), (2, sV ([] : Tx)), (3, iI 0), (4, pt b1), (5, .func (.func 26) #[] #[pt b1]), (6, bV ok_), (7, iI i)] [.box b1 69 [wL b1 addr_2, sl A8 L8 C8], .box b 28 (yB d_ A1 L1 C1 A2 L2 C2 A3 L3 C3 A4 L4 C4 A5 L5 C5), rW A8 L8 C8 5 1 xj buf_2] Φ a w) k ?_ ?_
 exact lq [0, 0, 0] [0, 1, 2, 3, 4, 5] fun a w hs => ⟨true, 0, addr_1, buf_1, A7, L7, C7, ho3, hs⟩
 rintro j a w ⟨ok_, i, addr_2, buf_2, A8, L8, C8, hL3, hs⟩
 rcases j with _ | j
 cases hL3
 refine yd hs ?_
 unfold qd.Print_l3 at hL3
 refine zf (zf ?_)
 refine cT (fun E H Φ N' => ∀ (t41 : Bool), qd.Print_j4 k i d_ addr_2 buf_2 (qd.Print_l3 k d_ j) ok_ t41 = some o3 -> zT E [(0, .agg (yB d_ A1 L1 C1 A2 L2 C2 A3 L3 C3 A4 L4 C4 A5 L5 C5).toArray), (1, pt b), (2, sV ([] : Tx)), (3, iI 0), (4, pt b1), (5, .func (.func 26) #[] #[pt b1]), (6, bV ok_), (7, iI i), (41, bV t41)] H Φ N') (fun N4 hN4 => ?_) ?_
 refine zd (oV vM ((fD 2) (oV (vL 1 kR) (oV (zL (enc := yh) d_.Prods vK rfl (.f 1 rfl)) (oV vB (oV vM ?_))))))
 refine oS 39 hL3 (fun hL3 => ?_) (fun hL3 => ?_)
 refine oN (oV vM (oV yt (zh ?_)))
 exact sK [0, 0, 0] [0, 1, 2, 3, 4, 5] (hN4 ok_ hL3)
 refine oF (oV yj (zh ?_))
 exact sK [0, 0, 0] [0, 1, 2, 3, 4, 5] (hN4 false hL3)
 intro t41 hL3
 unfold qd.Print_j4 at hL3
 refine ze ?_
 refine cC hL3 (fun hL3 => ?_) (fun hL3 => ?_)
 refine zk (ze (zf (zq (zd (oV vM ((fD 2) (oV (vL 1 kR) (oV vM (zc hL3 ?_)))))))))
 intro h4 hL3
 refine oV (zi (xs := d_.Prods) (enc := yh) vK rfl rfl (.f 1 rfl) h4) (yq (xs := d_.Prods) (enc := yh) gj rfl (.f 1 rfl) h4 rfl rfl rfl rfl rfl rfl ?_)
 intro A10 L10 C10
 refine ?_
 obtain ⟨v1, h5, hL3⟩ := bd hL3
 refine zu call29 rfl (zA 0 rfl zv) (tri29 h5 :) rfl ?_
 obtain ⟨v2, h6, hL3⟩ := bd hL3
 refine xZ [0, 1] gL (cap := #[pt b1]) rfl rfl rfl zn (by exact (tri26 h6 :)) rfl ?_
 rintro _ _ _ ⟨A11, L11, C11, rfl, rfl, rfl⟩
 refine oV vA (zh (ze (zd (oV vM (oV vB (oV vA (zh ?_)))))))
 exact lp [0, 1, 0] [1, 2, 3, 4, 5, 6] fun a w hs => ⟨v2.1, IntKind.wrap .i64 (i + 1), v2.2.addr, v2.2.buf, A11, L11, C11, hL3, hs⟩
 refine zW ?_
 cases hL3
 exact sK [0, 0, 0] [0, 1, 2, 3, 4, 5] (hN3 A8 L8 C8)
 intro A9 L9 C9
 refine ze (zf (cR (oV vA (zb ?_))))
 obtain ⟨o5, ho5, hF⟩ := bd hF
 refine cT (fun E H Φ N' => ∀ (A13 : OA) (L13 C13 : Nat), zT E [(0, .agg (yB d_ A1 L1 C1 A2 L2 C2 A3 L3 C3 A4 L4 C4 A5 L5 C5).toArray), (1, pt b), (2, sV ([] : Tx)), (3, iI 0), (4, pt b1), (5, .func (.func 26) #[] #[pt b1]), (6, bV o5.1)] [.box b1 69 [wL b1 o5.2.1, sl A13 L13 C13], .box b 28 (yB d_ A1 L1 C1 A2 L2 C2 A3 L3 C3 A4 L4 C4 A5 L5 C5), rW A13 L13 C13 5 1 xj o5.2.2] Φ N') (fun N5 hN5 => ?_) ?_
 refine zq ?_
 refine cL (fun E H Φ j a w => ∃ (ok_1 : Bool) (i1 : Int) (addr_3 : Bool) (buf_3 : List Int) (A12 : OA) (L12 C12 : Nat), qd.Print_l5 k d_ j ok_1 i1 addr_3 buf_3 = some o5 /\ St E [(0, .agg (yB d_ A1 L1 C1 A2 L2 C2 A3 L3 C3 A4 L4 C4 A5 L5 C5).toArray), (1, pt b), (2, sV ([] : Tx)), (3, iI 0), (4, pt b1), (5, .func (.func 26) #[] #[pt b1]), (6, bV ok_1), (8, iI i1)] [.box b1 69 [wL b1 addr_3, sl A12 L12 C12], .box b 28 (yB d_ A1 L1 C1 A2 L2 C2 A3 L3 C3 A4 L4 C4 A5 L5 C5), rW A12 L12 C12 5 1 xj buf_3] Φ a w) k ?_ ?_
 exact lq [0, 0, 0] [0, 1, 2, 3, 4, 5] fun a w hs => ⟨o3.1, 0, o3.2.1, o3.2.2, A9, L9, C9, ho5, hs⟩
 rintro j a w ⟨ok_1, i1, addr_3, buf_3, A12, L12, C12, hL5, hs⟩
 rcases j with _ | j
 cases hL5
 refine yd hs ?_
 unfold qd.Print_l5 at hL5
 refine zf (zf ?_)
 refine cT (fun E H Φ N' => ∀ (t59 : Bool), qd.Print_j6 k i1 d_ addr_3 buf_3 (qd.Print_l5 k d_ j) ok_1 t59 = some o5 -> zT E [(0, .agg (yB d_ A1 L1 C1 A2 L2 C2 A3 L3 C3 A4 L4 C4 A5 L5 C5).toArray), (1, pt b), (2, sV ([] : Tx)), (3, iI 0), (4, pt b1), (5, .func (.func 26) #[] #[pt b1]), (6, bV ok_1), (8, iI i1), (59, bV t59)] H Φ N') (fun N6 hN6 => ?_) ?_
 refine zd (oV vM ((fD 3) (oV (vL 1 ty23) (oV (zL (enc := (w8 2 zD)) d_.Chains jx rfl (.f 2 rfl)) (oV vB (oV vM ?_))))))
 refine oS 57 hL5 (fun hL5 => ?_) (fun hL5 => ?_)
 refine oN (oV vM (oV yt (zh ?_)))
 exact sK [0, 0, 0] [0, 1, 2, 3, 4, 5] (hN6 ok_1 hL5)
 refine oF (oV yj (zh ?_))
 exact sK [0, 0, 0] [0, 1, 2, 3, 4, 5] (hN6 false hL5)
 intro t59 hL5
 unfold qd.Print_j6 at hL5
 refine ze ?_
 refine cC hL5 (fun hL5 => ?_) (fun hL5 => ?_)
 refine zk (ze (zf (zq (zd (oV vM ((fD 3) (oV (vL 1 ty23) (oV vM (zc hL5 ?_)))))))))
 intro h9 hL5
 refine oV (zi (xs := d_.Chains) (enc := (w8 2 zD)) jx rfl rfl (.f 2 rfl) h9) (yq (xs := d_.Chains) (enc := (w8 2 zD)) ty58 rfl (.f 2 rfl) h9 rfl rfl rfl rfl rfl rfl ?_)
 intro A14 L14 C14
 refine ?_
 obtain ⟨v3, h10, hL5⟩ := bd hL5
 refine zu call30 rfl (zA 0 rfl zv) (tri30 h10 :) rfl ?_
 obtain ⟨v4, h11, hL5⟩ := bd hL5
 refine xZ [0, 1] gL (cap := #[pt b1]) rfl rfl rfl zn (by exact (tri26 h11 :)) rfl ?_
 rintro _ _ _ ⟨A15, L15, C15, rfl, rfl, rfl⟩
 refine oV vA (zh (ze (zd (oV vM (oV vB (oV vA (zh ?_)))))))
 exact lp [0, 1, 0] [1, 2, 3, 4, 5, 6] fun a w hs => ⟨v4.1, IntKind.wrap .i64 (i1 + 1), v4.2.addr, v4.2.buf, A15, L15, C15, hL5, hs⟩
 refine zW ?_
 cases hL5
 exact sK [0, 0, 0] [0, 1, 2, 3, 4, 5] (hN5 A12 L12 C12)
 intro A13 L13 C13
 refine ze (zf (cR (oV vA (zb ?_))))
 obtain ⟨o7, ho7, hF⟩ := bd hF
 refine cT (fun E H Φ N' => ∀ (A17 : OA) (L17 C17 : Nat), zT E [(0, .agg (yB d_ A1 L1 C1 A2 L2 C2 A3 L3 C3 A4 L4 C4 A5 L5 C5).toArray), (1, pt b), (2, sV ([] : Tx)), (3, iI 0), (4, pt b1), (5, .func (.func 26) #[] #[pt b1]), (6, bV o7.1)] [.box b1 69 [wL b1 o7.2.1, sl A17 L17 C17], .box b 28 (yB d_ A1 L1 C1 A2 L2 C2 A3 L3 C3 A4 L4 C4 A5 L5 C5), rW A17 L17 C17 5 1 xj o7.2.2] Φ N') (fun N7 hN7 => ?_) ?_
 refine zq ?_
 refine cL (fun E H Φ j a w => ∃ (ok_2 : Bool) (i2 : Int) (addr_4 : Bool) (buf_4 : List Int) (A16 : OA) (L16 C16 : Nat), qd.Print_l7 k d_ j ok_2 i2 addr_4 buf_4 = some o7 /\ St E [(0, .agg (yB d_ A1 L1 C1 A2 L2 C2 A3 L3 C3 A4 L4 C4 A5 L5 C5).toArray), (1, pt b), (2, sV ([] : Tx)), (3, iI 0), (4, pt b1), (5, .func (.func 26) #[] #[pt b1]), (6, bV ok_2), (9, iI i2)] [.box b1 69 [wL b1 addr_4, sl A16 L16 C16], .box b 28 (yB d_ A1 L1 C1 A2 L2 C2 A3 L3 C3 A4 L4 C4 A5 L5 C5), rW A16 L16 C16 5 1 xj buf_4] Φ a w) k ?_ ?_
 exact lq [0, 0, 0] [0, 1, 2, 3, 4, 5] fun a w hs => ⟨o5.1, 0, o5.2.1, o5.2.2, A13, L13, C13, ho7, hs⟩
 rintro j a w ⟨ok_2, i2, addr_4, buf_4, A16, L16, C16, hL7, hs⟩
 rcases j with _ | j
 cases hL7
 refine yd hs ?_
 unfold qd.Print_l7 at hL7
 refine zf (zf ?_)
 refine cT (fun E H Φ N' => ∀ (t77 : Bool), qd.Print_j8 k i2 d_ addr_4 buf_4 (qd.Print_l7 k d_ j) ok_2 t77 = some o7 -> zT E [(0, .agg (yB d_ A1 L1 C1 A2 L2 C2 A3 L3 C3 A4 L4 C4 A5 L5 C5).toArray), (1, pt b), (2, sV ([] : Tx)), (3, iI 0), (4, pt b1), (5, .func (.func 26) #[] #[pt b1]), (6, bV ok_2), (9, iI i2), (77, bV t77)] H Φ N') (fun N8 hN8 => ?_) ?_
 refine zd (oV vM ((fD 4) (oV (vL 1 gl) (oV (zL (enc := z7) d_.Follows qw rfl (.f 3 rfl)) (oV vB (oV vM ?_))))))
 refine oS 75 hL7 (fun hL7 => ?_) (fun hL7 => ?_)
 refine oN (oV vM (oV yt (zh ?_)))
 exact sK [0, 0, 0] [0, 1, 2, 3, 4, 5] (hN8 ok_2 hL7)
 refine oF (oV yj (zh ?_))
 exact sK [0, 0, 0] [0, 1, 2, 3, 4, 5] (hN8 false hL7)
 intro t77 hL7
 unfold qd.Print_j8 at hL7
 refine ze ?_
 refine cC hL7 (fun hL7 => ?_) (fun hL7 => ?_)
 refine zk (ze (zf (zq (zP (n := 20) [1] mixed rfl rfl (dv 0 rfl vM (dv 1 rfl (vF 4) (dv 2 rfl (vL 0 gl) (dv 3 rfl vM (zc hL7 ?_)))))))))
 intro h14 hL7
 refine dv 4 rfl (zi (xs := d_.Follows) (enc := z7) qw rfl rfl (.f 3 rfl) h14) (dv 5 rfl (zI (v := .pointer (some ⟨yW A3, yZ A3 + (Int.toNat i2 * 5 + 0), none⟩)) rfl (fun _ => by kernel_rfl)) (dv 6 rfl (yc (xs := d_.Follows) (enc := z7) xE rfl (.f 3 rfl) h14 rfl rfl rfl rfl rfl rfl rfl) (zc hL7 fun h15 hL7 => dv 7 rfl (vS h15) (zc hL7 ?_))))
 intro h16 hL7
 refine ?_
 refine dv 8 rfl (vS h16) (dv 9 rfl (vF 4) (dv 10 rfl (vL 0 gl) (dv 11 rfl vM (dv 12 rfl (zi (xs := d_.Follows) (enc := z7) qw rfl rfl (.f 3 rfl) h14) (dv 13 rfl (zI (v := .pointer (some ⟨yW A3, yZ A3 + (Int.toNat i2 * 5 + 1), none⟩)) rfl (fun _ => by kernel_rfl)) (dv 14 rfl (yc (xs := d_.Follows) (enc := z7) yT rfl (.f 3 rfl) h14 rfl rfl rfl rfl rfl rfl rfl) (dO 15 rfl ?_)))))))
 obtain ⟨v5, h17, hL7⟩ := bd hL7
 refine zu call19 rfl zv (tri19 h17 :) rfl (dN [1] 0 (zc hL7 ?_))
 intro h18 hL7
 refine dv 16 rfl (vS h18) (zc hL7 ?_)
 intro h19 hL7
 refine dv 17 rfl (vS h19) (dO 18 rfl ?_)
 obtain ⟨v6, h20, hL7⟩ := bd hL7
 refine xZ [0, 1] gL (cap := #[pt b1]) rfl rfl rfl zn (by exact (tri26 h20 :)) rfl ?_
 rintro _ _ _ ⟨A18, L18, C18, rfl, rfl, rfl⟩
 refine dN [2] 0 (dv 19 rfl vA (dD (ze (zd (oV vM (oV vB (oV vA (zh ?_))))))))
 exact lp [0, 1, 0] [0, 1, 2, 3, 4, 5] fun a w hs => ⟨v6.1, IntKind.wrap .i64 (i2 + 1), v6.2.addr, v6.2.buf, A18, L18, C18, hL7, hs⟩
 refine zW ?_
 cases hL7
 exact sK [0, 0, 0] [0, 1, 2, 3, 4, 5] (hN7 A16 L16 C16)
 intro A17 L17 C17
 refine ze (zf (cR (oV vA (zb ?_))))
 obtain ⟨o9, ho9, hF⟩ := bd hF
 refine cT (fun E H Φ N' => ∀ (A20 : OA) (L20 C20 : Nat), zT E [(0, .agg (yB d_ A1 L1 C1 A2 L2 C2 A3 L3 C3 A4 L4 C4 A5 L5 C5).toArray), (1, pt b), (2, sV ([] : Tx)), (3, iI 0), (4, pt b1), (5, .func (.func 26) #[] #[pt b1]), (6, bV o9.1)] [.box b1 69 [wL b1 o9.2.1, sl A20 L20 C20], .box b 28 (yB d_ A1 L1 C1 A2 L2 C2 A3 L3 C3 A4 L4 C4 A5 L5 C5), rW A20 L20 C20 5 1 xj o9.2.2] Φ N') (fun N9 hN9 => ?_) ?_
 refine zq ?_
 refine cL (fun E H Φ j a w => ∃ (ok_3 : Bool) (i3 : Int) (addr_5 : Bool) (buf_5 : List Int) (A19 : OA) (L19 C19 : Nat), qd.Print_l9 d_ j ok_3 i3 addr_5 buf_5 = some o9 /\ St E [(0, .agg (yB d_ A1 L1 C1 A2 L2 C2 A3 L3 C3 A4 L4 C4 A5 L5 C5).toArray), (1, pt b), (2, sV ([] : Tx)), (3, iI 0), (4, pt b1), (5, .func (.func 26) #[] #[pt b1]), (6, bV ok_3), (10, iI i3)] [.box b1 69 [wL b1 addr_5, sl A19 L19 C19], .box b 28 (yB d_ A1 L1 C1 A2 L2 C2 A3 L3 C3 A4 L4 C4 A5 L5 C5), rW A19 L19 C19 5 1 xj buf_5] Φ a w) k ?_ ?_
 exact lq [0, 0, 0] [0, 1, 2, 3, 4, 5] fun a w hs => ⟨o7.1, 0, o7.2.1, o7.2.2, A17, L17, C17, ho9, hs⟩
 rintro j a w ⟨ok_3, i3, addr_5, buf_5, A19, L19, C19, hL9, hs⟩
 rcases j with _ | j
 cases hL9
 refine yd hs ?_
 unfold qd.Print_l9 at hL9
 refine zf (zf ?_)
 refine cT (fun E H Φ N' => ∀ (t106 : Bool), qd.Print_j10 i3 d_ addr_5 buf_5 (qd.Print_l9 d_ j) ok_3 t106 = some o9 -> zT E [(0, .agg (yB d_ A1 L1 C1 A2 L2 C2 A3 L3 C3 A4 L4 C4 A5 L5 C5).toArray), (1, pt b), (2, sV ([] : Tx)), (3, iI 0), (4, pt b1), (5, .func (.func 26) #[] #[pt b1]), (6, bV ok_3), (10, iI i3), (106, bV t106)] H Φ N') (fun N10 hN10 => ?_) ?_
 refine zd (oV vM ((fD 5) (oV (vL 1 gk) (oV (zL (enc := z6) d_.Rejects qv rfl (.f 4 rfl)) (oV vB (oV vM ?_))))))
 refine oS 104 hL9 (fun hL9 => ?_) (fun hL9 => ?_)
 refine oN (oV vM (oV yt (zh ?_)))
 exact sK [0, 0, 0] [0, 1, 2, 3, 4, 5] (hN10 ok_3 hL9)
 refine oF (oV yj (zh ?_))
 exact sK [0, 0, 0] [0, 1, 2, 3, 4, 5] (hN10 false hL9)
 intro t106 hL9
 unfold qd.Print_j10 at hL9
 refine ze ?_
 refine cC hL9 (fun hL9 => ?_) (fun hL9 => ?_)
 refine zk (ze (zf (zq (zP (n := 19) [1] mixed rfl rfl (dv 0 rfl vM (dv 1 rfl (vF 5) (dv 2 rfl (vL 0 gk) (dv 3 rfl vM (zc hL9 ?_)))))))))
 intro h23 hL9
 refine dv 4 rfl (zi (xs := d_.Rejects) (enc := z6) qv rfl rfl (.f 4 rfl) h23) (dv 5 rfl (zI (v := .pointer (some ⟨yW A4, yZ A4 + (Int.toNat i3 * 2 + 0), none⟩)) rfl (fun _ => by kernel_rfl)) (dv 6 rfl (yc (xs := d_.Rejects) (enc := z6) xE rfl (.f 4 rfl) h23 rfl rfl rfl rfl rfl rfl rfl) (zc hL9 fun h24 hL9 => dv 7 rfl (vS h24) (zc hL9 ?_))))
 intro h25 hL9
 refine ?_
 refine dv 8 rfl (vS h25) (dv 9 rfl (vF 5) (dv 10 rfl (vL 0 gk) (dv 11 rfl vM (dv 12 rfl (zi (xs := d_.Rejects) (enc := z6) qv rfl rfl (.f 4 rfl) h23) (dv 13 rfl (zI (v := .pointer (some ⟨yW A4, yZ A4 + (Int.toNat i3 * 2 + 1), none⟩)) rfl (fun _ => by kernel_rfl)) (dv 14 rfl (yc (xs := d_.Rejects) (enc := z6) xE rfl (.f 4 rfl) h23 rfl rfl rfl rfl rfl rfl rfl) (zc hL9 ?_)))))))
 intro h26 hL9
 refine dv 15 rfl (vS h26) (zc hL9 ?_)
 intro h27 hL9
 refine dv 16 rfl (vS h27) (dO 17 rfl ?_)
 obtain ⟨v7, h28, hL9⟩ := bd hL9
 refine xZ [0, 1] gL (cap := #[pt b1]) rfl rfl rfl zn (by exact (tri26 h28 :)) rfl ?_
 rintro _ _ _ ⟨A21, L21, C21, rfl, rfl, rfl⟩
 refine dN [2] 0 (dv 18 rfl vA (dD (ze (zd (oV vM (oV vB (oV vA (zh ?_))))))))
 exact lp [0, 1, 0] [0, 1, 2, 3, 4, 5] fun a w hs => ⟨v7.1, IntKind.wrap .i64 (i3 + 1), v7.2.addr, v7.2.buf, A21, L21, C21, hL9, hs⟩
 refine zW ?_
 cases hL9
 exact sK [0, 0, 0] [0, 1, 2, 3, 4, 5] (hN9 A19 L19 C19)
 intro A20 L20 C20
 refine ze (zf (cR (oV vA (zb ?_))))
 obtain ⟨o11, ho11, hF⟩ := bd hF
 refine cT (fun E H Φ N' => ∀ (A23 : OA) (L23 C23 : Nat), zT E [(0, .agg (yB d_ A1 L1 C1 A2 L2 C2 A3 L3 C3 A4 L4 C4 A5 L5 C5).toArray), (1, pt b), (2, sV ([] : Tx)), (3, iI 0), (4, pt b1), (5, .func (.func 26) #[] #[pt b1]), (6, bV o11.1)] [.box b1 69 [wL b1 o11.2.1, sl A23 L23 C23], .box b 28 (yB d_ A1 L1 C1 A2 L2 C2 A3 L3 C3 A4 L4 C4 A5 L5 C5), rW A23 L23 C23 5 1 xj o11.2.2] Φ N') (fun N11 hN11 => ?_) ?_
 refine zq ?_
 refine cL (fun E H Φ j a w => ∃ (ok_4 : Bool) (i4 : Int) (addr_6 : Bool) (buf_6 : List Int) (A22 : OA) (L22 C22 : Nat), qd.Print_l11 k d_ j ok_4 i4 addr_6 buf_6 = some o11 /\ St E [(0, .agg (yB d_ A1 L1 C1 A2 L2 C2 A3 L3 C3 A4 L4 C4 A5 L5 C5).toArray), (1, pt b), (2, sV ([] : Tx)), (3, iI 0), (4, pt b1), (5, .func (.func 26) #[] #[pt b1]), (6, bV ok_4), (11, iI i4)] [.box b1 69 [wL b1 addr_6, sl A22 L22 C22], .box b 28 (yB d_ A1 L1 C1 A2 L2 C2 A3 L3 C3 A4 L4 C4 A5 L5 C5), rW A22 L22 C22 5 1 xj buf_6] Φ a w) k ?_ ?_
 exact lq [0, 0, 0] [0, 1, 2, 3, 4, 5] fun a w hs => ⟨o9.1, 0, o9.2.1, o9.2.2, A20, L20, C20, ho11, hs⟩
 rintro j a w ⟨ok_4, i4, addr_6, buf_6, A22, L22, C22, hL11, hs⟩
 rcases j with _ | j
 cases hL11
 refine yd hs ?_
 unfold qd.Print_l11 at hL11
 refine zf (zf ?_)
 refine cT (fun E H Φ N' => ∀ (t134 : Bool), qd.Print_j12 k i4 d_ addr_6 buf_6 (qd.Print_l11 k d_ j) ok_4 t134 = some o11 -> zT E [(0, .agg (yB d_ A1 L1 C1 A2 L2 C2 A3 L3 C3 A4 L4 C4 A5 L5 C5).toArray), (1, pt b), (2, sV ([] : Tx)), (3, iI 0), (4, pt b1), (5, .func (.func 26) #[] #[pt b1]), (6, bV ok_4), (11, iI i4), (134, bV t134)] H Φ N') (fun N12 hN12 => ?_) ?_
 refine zd (oV vM ((fD 6) (oV (vL 1 jC) (oV (zL (enc := xq) d_.Boxes jw rfl (.f 5 rfl)) (oV vB (oV vM ?_))))))
 refine oS 132 hL11 (fun hL11 => ?_) (fun hL11 => ?_)
 refine oN (oV vM (oV yt (zh ?_)))
 exact sK [0, 0, 0] [0, 1, 2, 3, 4, 5] (hN12 ok_4 hL11)
 refine oF (oV yj (zh ?_))
 exact sK [0, 0, 0] [0, 1, 2, 3, 4, 5] (hN12 false hL11)
 intro t134 hL11
 unfold qd.Print_j12 at hL11
 refine ze ?_
 refine cC hL11 (fun hL11 => ?_) (fun hL11 => ?_)
 refine zk (ze (zf (zq (zc hL11 fun h31 hL11 => wK (xs := d_.Boxes) (enc := xq) 5 rfl h31 rfl rfl fun A24 L24 C24 => zP (n := 20) [1] mixed rfl rfl (dv 0 rfl vM (dv 1 rfl (vF 6) (dv 2 rfl (vL 0 jC) (dv 3 rfl vM (dv 4 rfl (zi (xs := d_.Boxes) (enc := xq) jw rfl rfl (.f 7 rfl) h31) (dv 5 rfl (zI (v := .pointer (some ⟨yW A5, yZ A5 + (Int.toNat i4 * 2 + 0), none⟩)) rfl (fun _ => by kernel_rfl)) (dv 6 rfl (yc (xs := d_.Boxes) (enc := xq) xE rfl (.f 7 rfl) h31 rfl rfl rfl rfl rfl rfl rfl) (zc hL11 ?_))))))))))))
 intro h32 hL11
 refine dv 7 rfl (vS h32) ?_
 refine zc hL11 fun h33 hL11 => dv 8 rfl (vS h33) (dv 9 rfl (vF 6) (dv 10 rfl (vL 0 jC) (dv 11 rfl vM (dv 12 rfl (zi (xs := d_.Boxes) (enc := xq) jw rfl rfl (.f 7 rfl) h31) (dv 13 rfl (zI (v := .pointer (some ⟨yW A5, yZ A5 + (Int.toNat i4 * 2 + 1), none⟩)) rfl (fun _ => by kernel_rfl)) (dv 14 rfl (yS 0 jQ rfl rfl rfl rfl rfl) (dO 15 rfl ?_)))))))
 obtain ⟨v8, h34, hL11⟩ := bd hL11
 refine zu call31 rfl (zA 2 rfl (zA 1 rfl zv)) ((tri31 _) h34 :) rfl (dN [1] 0 (zc hL11 ?_))
 intro h35 hL11
 refine dv 16 rfl (vS h35) (zc hL11 ?_)
 intro h36 hL11
 refine dv 17 rfl (vS h36) (dO 18 rfl ?_)
 obtain ⟨v9, h37, hL11⟩ := bd hL11
 refine xZ [0, 1] gL (cap := #[pt b1]) rfl rfl rfl zn (by exact (tri26 h37 :)) rfl ?_
 rintro _ _ _ ⟨A25, L25, C25, rfl, rfl, rfl⟩
 refine dN [2] 0 (dv 19 rfl vA (dD (ze (zd (oV vM (oV vB (oV vA (zh ?_))))))))
 exact lp [0, 1, 0] [2, 3, 4, 5, 6, 7] fun a w hs => ⟨v9.1, IntKind.wrap .i64 (i4 + 1), v9.2.addr, v9.2.buf, A25, L25, C25, hL11, hs⟩
 refine zW ?_
 cases hL11
 exact sK [0, 0, 0] [0, 1, 2, 3, 4, 5] (hN11 A22 L22 C22)
 intro A23 L23 C23
 refine ze (zf (cR (oV vM (oV vN (zb ?_)))))
 refine cC hF (fun hF => ?_) (fun hF => ?_)
 refine cR (oV vA (oV vA (zb (zp ?_))))
 cases hF
 refine ye rfl (zX rfl) (zX rfl) fun a w hs => zo hs [] ⟨rfl, rfl, rfl⟩ rfl zn
 refine zk (ze (cR ?_))
 obtain ⟨v10, h40, hF⟩ := bd hF
 refine yx [0, 1] call32 rfl rfl zn (tri32 (zx.mk o11.2.1 o11.2.2) b1 A23 L23 C23 v10 h40) ?_
 rintro _ _ _ ⟨rfl, rfl, rfl⟩
 refine oV vA (oV vA (zb (zp ?_)))
 cases hF
 refine ye rfl (zX rfl) (zX rfl) fun a w hs => zo hs [] ⟨rfl, rfl, rfl⟩ rfl zn
theorem tri11 {k : Nat} {r : Bool} (hF : qv.alive k = some r) :
    xu Tryz.prog 11 [] [] [jc 1] (oR (bV r)) := by
 unfold qv.alive at hF
 refine zt (n := 42) Tryz.func11 rfl Tryz.ntmps11 rfl fun w X => cR (oV vA (zb (cR ?_)))
 obtain ⟨v, h1, hF⟩ := bd hF
 refine zV call16 rfl zn (tri16 h1 :) rfl ?_
 rintro _ _ _ ⟨A1, L1, C1, A2, L2, C2, A3, L3, C3, A4, L4, C4, A5, L5, C5, rfl, rfl, rfl⟩
 refine oV vM (oV vX (oV vX (zC ut rfl rfl ?_)))
 intro b
 refine zC xv rfl rfl fun b1 => (sT 1 vI) ((sT 0 ya) (zb (cR (oV (vL 1 vI) ?_))))
 obtain ⟨v1, h2, hF⟩ := bd hF
 refine zu call13 rfl (zA 5 rfl (zA 0 rfl (zA 1 rfl (zA 2 rfl (zA 3 rfl (zA 4 rfl zv)))))) (tri13 h2 :) rfl (oV vM (oV vX (oV vX (oV vA (oV vA (zb (cR ?_)))))))
 obtain ⟨v2, h3, hF⟩ := bd hF
 refine zV call16 rfl zn (tri16 h3 :) rfl ?_
 rintro _ _ _ ⟨A6, L6, C6, A7, L7, C7, A8, L8, C8, A9, L9, C9, A10, L10, C10, rfl, rfl, rfl⟩
 refine oV vM (oV vX (oV vX (zC ut rfl rfl ?_)))
 intro b2
 refine zC xv rfl rfl fun b3 => (sT 1 vI) ((sT 0 ya) (zb (zf ?_)))
 refine z8 (fun E N' => ∀ (t0 : Bool), qv.alive_j1 t0 = some r -> zT E [(0, bV t0), (1, pt b), (2, pt b1), (6, pt b3)] [.box b3 37 [iI v2.2.At, iI v2.2.Code], .box b1 37 [iI v.2.At, iI v.2.Code], .box b 28 (yB v.1 A1 L1 C1 A2 L2 C2 A3 L3 C3 A4 L4 C4 A5 L5 C5)] [jc 1, fS A1 L1 C1 5 yh v.1.Prods, fS A2 L2 C2 1 (w8 2 zD) v.1.Chains, fS A3 L3 C3 5 z7 v.1.Follows, fS A4 L4 C4 2 z6 v.1.Rejects, fS A5 L5 C5 2 xq v.1.Boxes] N') (fun N1 hN1 => ?_) ?_
 refine zd (oV (vL 2 ya) (oV (vU (.agg #[iI 0, iI 0])) (oV (v_ageq 2 rfl rfl (eq37 v.2.At v.2.Code 0 0) rfl guard37) (oV vM ?_))))
 refine oS 23 hF (fun hF => ?_) (fun hF => ?_)
 refine oN ((fD 2) (oN (oV (vL 3 kR) (oN (oV (zL (enc := yh) v.1.Prods vK rfl (.f 5 rfl)) (oN (oV vB (oV yt (oV vM ?_)))))))))
 refine oS 29 hF (fun hF => ?_) (fun hF => ?_)
 refine oN (oV vM (oN (oV vB (oV yt (oV vM ?_)))))
 refine oS 33 hF (fun hF => ?_) (fun hF => ?_)
 refine oN (oV vM (oN (oV (yP rfl rfl) (oV yt (oV vM ?_)))))
 refine oS 37 hF (fun hF => ?_) (fun hF => ?_)
 refine oN (oV (vL 0 ya) (oN (oV (vU (.agg #[iI 8, iI 30])) (oN (oV (v_ageq 2 rfl rfl (eq37 v2.2.At v2.2.Code 8 30) rfl guard37) (oV yt (oV vA (zh ?_))))))))
 exact sK [0, 1, 1] [10, 5, 6, 7, 8, 9] (hN1 ((v2.2.At == 8) && ((v2.2.Code == 30) && true)) hF)
 refine oF (oF (oF (oV yj (oV vA (zh ?_)))))
 exact sK [0, 1, 1] [10, 5, 6, 7, 8, 9] (hN1 false hF)
 refine oF (oF (oV yj (oV vM (oF (oF (oF (oV yj (oV vA (zh ?_)))))))))
 exact sK [0, 1, 1] [10, 5, 6, 7, 8, 9] (hN1 false hF)
 refine oF (oF (oV yj (oV vM (oF (oF (oV yj (oV vM (oF (oF (oF (oV yj (oV vA (zh ?_)))))))))))))
 exact sK [0, 1, 1] [10, 5, 6, 7, 8, 9] (hN1 false hF)
 refine oF (oF (oF (oF (oV yj (oV vM (oF (oF (oV yj (oV vM (oF (oF (oV yj (oV vM (oF (oF ?_)))))))))))))))
 refine oF (oV yj (oV vA (zh ?_)))
 exact sK [0, 1, 1] [10, 5, 6, 7, 8, 9] (hN1 false hF)
 intro t0 hF
 unfold qv.alive_j1 at hF
 refine ze (zp ?_)
 cases hF
 exact sR
theorem tri34_B (k : Nat) (g34 : List Item -> List Item -> Option Bool)
    (hg34 : P34 g34) {a_ : List Item} {b : List Item} {A1 : OA} {L1 C1 : Nat} {A2 : OA} {L2 C2 : Nat} {r : Bool} (hF : qr.SameItems_B k g34 a_ b = some r) :
    xu Tryz.prog 34 [sl A1 L1 C1, sl A2 L2 C2] [] [fS A1 L1 C1 4 zR a_, fS A2 L2 C2 4 zR b] (oR (bV r)) := by
 unfold qr.SameItems_B at hF
 refine zt (n := 68) Tryz.func34 rfl Tryz.ntmps34 rfl fun w X => cR (oV vA (zb (zf (cR (oV vM (oV (zL (enc := zR) a_ kT rfl (.f 0 rfl)) (oV vM (oV (zL (enc := zR) b kT rfl (.f 1 rfl)) (oV vB (zb ?_))))))))))
 refine cC hF (fun hF => ?_) (fun hF => ?_)
 refine cR (oV vA (zb (zp ?_)))
 cases hF
 exact sR
 refine zk (ze (zf (cR (oV vA (zb ?_)))))
 obtain ⟨o1, ho1, hF⟩ := bd hF
 refine cT (fun E H Φ N' => ∀ (d1 : Unit), o1 = .done d1 -> zT E [(0, sl A1 L1 C1), (1, sl A2 L2 C2), (4, bV false)] [] Φ N') (fun N1 hN1 => ?_) ?_
 refine zq ?_
 refine cL (fun E H Φ j a w => ∃ (i : Int), qr.SameItems_l1 a_ b g34 j i = some o1 /\ St E [(0, sl A1 L1 C1), (1, sl A2 L2 C2), (4, bV false), (5, iI i)] [] Φ a w) k ?_ ?_
 exact lq [] [0, 1] fun a w hs => ⟨0, ho1, hs⟩
 rintro j a w ⟨i, hL1, hs⟩
 rcases j with _ | j
 cases hL1
 refine yd hs ?_
 unfold qr.SameItems_l1 at hL1
 refine zf (cR (oV vM (oV vM (oV (zL (enc := zR) a_ kT rfl (.f 0 rfl)) (oV vB (zb ?_))))))
 refine cC hL1 (fun hL1 => ?_) (fun hL1 => ?_)
 refine zk (ze (zf (zq (zf ?_))))
 refine cT (fun E H Φ N' => ∀ (t67 : Bool), qr.SameItems_j2 (qr.SameItems_l1 a_ b g34 j) i t67 = some o1 -> zT E [(0, sl A1 L1 C1), (1, sl A2 L2 C2), (4, bV false), (5, iI i), (67, bV t67)] [] Φ N') (fun N2 hN2 => ?_) ?_
 refine zP (n := 51) [] mixed rfl rfl (dv 0 rfl vM (dv 1 rfl vM (zc hL1 ?_)))
 intro h4 hL1
 refine dv 2 rfl (zi (xs := a_) (enc := zR) kT rfl rfl (.f 0 rfl) h4) (dv 3 rfl (zI (v := .pointer (some ⟨yW A1, yZ A1 + (Int.toNat i * 4 + 0), none⟩)) rfl (fun _ => by kernel_rfl)) (dv 4 rfl (yc (ds := [.int .i64 ((at_ a_ i).Kind)]) (xs := a_) (enc := zR) yz rfl (.f 0 rfl) h4 (by simp only [xD] <;> rfl) rfl rfl rfl rfl rfl rfl) (dv 5 rfl vM (dv 6 rfl vM (zc hL1 ?_)))))
 intro h5 hL1
 refine dv 7 rfl (zi (xs := b) (enc := zR) kT rfl rfl (.f 1 rfl) h5) (dv 8 rfl (zI (v := .pointer (some ⟨yW A2, yZ A2 + (Int.toNat i * 4 + 0), none⟩)) rfl (fun _ => by kernel_rfl)) (dv 9 rfl (yc (ds := [.int .i64 ((at_ b i).Kind)]) (xs := b) (enc := zR) yz rfl (.f 1 rfl) h5 (by simp only [xD] <;> rfl) rfl rfl rfl rfl rfl rfl) (dv 10 rfl vB (dv 11 rfl vM ?_))))
 refine jq (t := 28) rfl (fun h6 => ?_) (fun h6 => ?_)
 replace hL1 := qF h6 hL1
 refine dF 12 rfl (dF 13 rfl (dF 14 rfl (dF 15 rfl (dF 16 rfl (dF 17 rfl (dF 18 rfl (dF 19 rfl (dF 20 rfl (dF 21 rfl (dF 22 rfl (dv 23 rfl yt (dv 24 rfl vM (dF 25 rfl (dF 26 rfl (dF 27 rfl ?_)))))))))))))))
 refine dF 28 rfl (dF 29 rfl (dF 30 rfl (dF 31 rfl (dF 32 rfl (dF 33 rfl (dF 34 rfl (dF 35 rfl (dv 36 rfl yt (dv 37 rfl vM (dF 38 rfl (dF 39 rfl (dF 40 rfl (dF 41 rfl (dF 42 rfl (dF 43 rfl ?_)))))))))))))))
 refine dF 44 rfl (dF 45 rfl (dF 46 rfl (dF 47 rfl (dF 48 rfl (dF 49 rfl (dv 50 rfl yt (dD ?_)))))))
 exact sK [] [0, 1] (hN2 true hL1)
 replace hL1 := qG h6 hL1
 refine dw 12 rfl rfl rfl vM (dw 13 rfl rfl rfl vM (dw 14 rfl rfl rfl (zi (xs := a_) (enc := zR) kT rfl rfl (.f 0 rfl) h4) (dw 15 rfl rfl rfl (zI (v := .pointer (some ⟨yW A1, yZ A1 + (Int.toNat i * 4 + 1), none⟩)) rfl (fun _ => by kernel_rfl)) (dw 16 rfl rfl rfl (yc (ds := [.str ((at_ a_ i).Text)]) (xs := a_) (enc := zR) xE rfl (.f 0 rfl) h4 (by simp only [xD] <;> rfl) rfl rfl rfl rfl rfl rfl) (dw 17 rfl rfl rfl vM (dw 18 rfl rfl rfl vM (dw 19 rfl rfl rfl (zi (xs := b) (enc := zR) kT rfl rfl (.f 1 rfl) h5) (dw 20 rfl rfl rfl (zI (v := .pointer (some ⟨yW A2, yZ A2 + (Int.toNat i * 4 + 1), none⟩)) rfl (fun _ => by kernel_rfl)) (dw 21 rfl rfl rfl (yc (ds := [.str ((at_ b i).Text)]) (xs := b) (enc := zR) xE rfl (.f 1 rfl) h5 (by simp only [xD] <;> rfl) rfl rfl rfl rfl rfl rfl) (dw 22 rfl rfl rfl (w7 rfl rfl) (dv 23 rfl yj (dv 24 rfl vM ?_))))))))))))
 refine jq (t := 41) rfl (fun h7 => ?_) (fun h7 => ?_)
 replace hL1 := qF h7 hL1
 refine dF 25 rfl (dF 26 rfl (dF 27 rfl (dF 28 rfl (dF 29 rfl (dF 30 rfl (dF 31 rfl (dF 32 rfl (dF 33 rfl (dF 34 rfl (dF 35 rfl (dv 36 rfl yt (dv 37 rfl vM (dF 38 rfl (dF 39 rfl (dF 40 rfl ?_)))))))))))))))
 refine dF 41 rfl (dF 42 rfl (dF 43 rfl (dF 44 rfl (dF 45 rfl (dF 46 rfl (dF 47 rfl (dF 48 rfl (dF 49 rfl (dv 50 rfl yt (dD ?_))))))))))
 exact sK [] [0, 1] (hN2 true hL1)
 replace hL1 := qG h7 hL1
 refine dw 25 rfl rfl rfl vM (dw 26 rfl rfl rfl vM (dw 27 rfl rfl rfl (zi (xs := a_) (enc := zR) kT rfl rfl (.f 0 rfl) h4) (dw 28 rfl rfl rfl (zI (v := .pointer (some ⟨yW A1, yZ A1 + (Int.toNat i * 4 + 2), none⟩)) rfl (fun _ => by kernel_rfl)) (dw 29 rfl rfl rfl (yc (ds := [.int .i64 ((at_ a_ i).N_)]) (xs := a_) (enc := zR) yz rfl (.f 0 rfl) h4 (by simp only [xD] <;> rfl) rfl rfl rfl rfl rfl rfl) (dw 30 rfl rfl rfl vM (dw 31 rfl rfl rfl vM (dw 32 rfl rfl rfl (zi (xs := b) (enc := zR) kT rfl rfl (.f 1 rfl) h5) (dw 33 rfl rfl rfl (zI (v := .pointer (some ⟨yW A2, yZ A2 + (Int.toNat i * 4 + 2), none⟩)) rfl (fun _ => by kernel_rfl)) (dw 34 rfl rfl rfl (yc (ds := [.int .i64 ((at_ b i).N_)]) (xs := b) (enc := zR) yz rfl (.f 1 rfl) h5 (by simp only [xD] <;> rfl) rfl rfl rfl rfl rfl rfl) (dw 35 rfl rfl rfl vB (dv 36 rfl yj (dv 37 rfl vM ?_))))))))))))
 refine jq (t := 54) rfl (fun h8 => ?_) (fun h8 => ?_)
 replace hL1 := qF h8 hL1
 refine dF 38 rfl (dF 39 rfl (dF 40 rfl (dF 41 rfl (dF 42 rfl (dF 43 rfl (dF 44 rfl (dF 45 rfl (dF 46 rfl (dF 47 rfl (dF 48 rfl (dF 49 rfl (dv 50 rfl yt (dD ?_)))))))))))))
 exact sK [] [0, 1] (hN2 true hL1)
 replace hL1 := qG h8 hL1
 refine dw 38 rfl rfl rfl vM (dw 39 rfl rfl rfl vM (dw 40 rfl rfl rfl (zi (xs := a_) (enc := zR) kT rfl rfl (.f 0 rfl) h4) (dw 41 rfl rfl rfl (zI (v := .pointer (some ⟨yW A1, yZ A1 + (Int.toNat i * 4 + 3), none⟩)) rfl (fun _ => by kernel_rfl)) (dw 43 rfl rfl rfl vM (dw 44 rfl rfl rfl vM (dw 45 rfl rfl rfl (zi (xs := b) (enc := zR) kT rfl rfl (.f 1 rfl) h5) (dw 46 rfl rfl rfl (zI (v := .pointer (some ⟨yW A2, yZ A2 + (Int.toNat i * 4 + 3), none⟩)) rfl (fun _ => by kernel_rfl)) ?_)))))))
 obtain ⟨v, h9, hL1⟩ := bd hL1
 refine wr [42, 47] (by kernel_rfl) (by simp) ⟨⟨_, rfl, ?_⟩, ⟨_, rfl, ?_⟩, trivial⟩
 refine oN (yq (ds := [.slice 4 (((at_ a_ i).Items).map zR)]) (xs := a_) (enc := zR) jQ rfl (.f 0 rfl) h4 (by simp only [xD] <;> rfl) rfl rfl rfl rfl rfl ?_)
 intro A3 L3 C3
 refine dN [] 1 (dO 47 rfl (oN (yq (ds := [.slice 4 (((at_ b i).Items).map zR)]) (xs := b) (enc := zR) jQ rfl (.f 2 rfl) h5 (by simp only [xD] <;> rfl) rfl rfl rfl rfl rfl ?_)))
 intro A4 L4 C4
 refine dN [] 2 (dO 48 rfl (oN (zu call34 rfl (zA 1 rfl (zA 0 rfl zv)) (hg34 h9 :) rfl (dN [] 2 (dw 49 rfl rfl rfl vN (dv 50 rfl yj (dD ?_)))))))
 exact sK [] [2, 3] (hN2 (!v) hL1)
 refine oN (yq (ds := [.slice 4 (((at_ b i).Items).map zR)]) (xs := b) (enc := zR) jQ rfl (.f 1 rfl) h5 (by simp only [xD] <;> rfl) rfl rfl rfl rfl rfl ?_)
 intro A3 L3 C3
 refine dN [] 1 (dO 42 rfl (oN (yq (ds := [.slice 4 (((at_ a_ i).Items).map zR)]) (xs := a_) (enc := zR) jQ rfl (.f 1 rfl) h4 (by simp only [xD] <;> rfl) rfl rfl rfl rfl rfl ?_)))
 intro A4 L4 C4
 refine dN [] 2 (dO 48 rfl (oN (zu call34 rfl (zA 0 rfl (zA 1 rfl zv)) (hg34 h9 :) rfl (dN [] 2 (dw 49 rfl rfl rfl vN (dv 50 rfl yj (dD ?_)))))))
 exact sK [] [2, 3] (hN2 (!v) hL1)
 intro t67 hL1
 unfold qr.SameItems_j2 at hL1
 refine ze ?_
 refine cC hL1 (fun hL1 => ?_) (fun hL1 => ?_)
 refine cR (oV vA (zb (zp ?_)))
 cases hL1
 obtain rfl := zK hF
 exact sR
 refine zk (ze (zd (oV vM (oV vB (oV vA (zh ?_))))))
 exact lp [] [0, 1] fun a w hs => ⟨IntKind.wrap .i64 (i + 1), hL1, hs⟩
 refine zW ?_
 cases hL1
 exact sK [] [0, 1] (hN1 () rfl)
 intro d1 hd
 subst hd
 replace hF := yF hF
 refine ze (cR (oV vA (zb (zp ?_))))
 cases hF
 exact sR
theorem tri34 (k : Nat) : (P34 (qr.SameItems k)) := by
 induction k with
 | zero => exact fun h => nomatch (show none = some _ from h)
 | succ k ih => exact tri34_B k _ ih
theorem tri35 {k : Nat} {a_ : List Prod} {b : List Prod} {r : Bool} (hF : qr.sameProds k a_ b = some r) :
    xu Tryz.prog 35 [sl A1 L1 C1, sl A2 L2 C2] [] [fS A1 L1 C1 5 yh a_, fS A2 L2 C2 5 yh b] (oR (bV r)) := by
 unfold qr.sameProds at hF
 refine zt (n := 81) Tryz.func35 rfl Tryz.ntmps35 rfl fun w X => cR (oV vA (zb (zf (cR (oV vM (oV (zL (enc := yh) a_ vK rfl (.f 0 rfl)) (oV vM (oV (zL (enc := yh) b vK rfl (.f 1 rfl)) (oV vB (zb ?_))))))))))
 refine cC hF (fun hF => ?_) (fun hF => ?_)
 refine cR (oV vA (zb (zp ?_)))
 cases hF
 exact sR
 refine zk (ze (zf (cR (oV vA (zb ?_)))))
 obtain ⟨o1, ho1, hF⟩ := bd hF
 refine cT (fun E H Φ N' => ∀ (d1 : Unit), o1 = .done d1 -> zT E [(0, sl A1 L1 C1), (1, sl A2 L2 C2), (4, bV false)] [] Φ N') (fun N1 hN1 => ?_) ?_
 refine zq ?_
 refine cL (fun E H Φ j a w => ∃ (i : Int), qr.sameProds_l1 k a_ b j i = some o1 /\ St E [(0, sl A1 L1 C1), (1, sl A2 L2 C2), (4, bV false), (5, iI i)] [] Φ a w) k ?_ ?_
 exact lq [] [0, 1] fun a w hs => ⟨0, ho1, hs⟩
 rintro j a w ⟨i, hL1, hs⟩
 rcases j with _ | j
 cases hL1
 refine yd hs ?_
 unfold qr.sameProds_l1 at hL1
 refine zf (cR (oV vM (oV vM (oV (zL (enc := yh) a_ vK rfl (.f 0 rfl)) (oV vB (zb ?_))))))
 refine cC hL1 (fun hL1 => ?_) (fun hL1 => ?_)
 refine zk (ze (zf ?_))
 refine z8 (fun E N' => ∀ (k_ : Int) (A3 : OA) (L3 C3 : Nat) (A4 : OA) (L4 C4 : Nat) (b1 : Nat) (b2 : Nat), qr.sameProds_j2 (qr.sameProds_l1 k a_ b j) i k_ = some o1 -> zT E [(0, sl A1 L1 C1), (1, sl A2 L2 C2), (4, bV false), (5, iI i), (6, pt b1), (7, pt b2), (8, iI k_)] [.box b1 57 (qg (at_ a_ i) A3 L3 C3), .box b2 57 (qg (at_ b i) A4 L4 C4)] [fS A1 L1 C1 5 yh a_, fS A2 L2 C2 5 yh b, fS A3 L3 C3 8 wn ((at_ a_ i).Syms), fS A4 L4 C4 8 wn ((at_ b i).Syms)] N') (fun N2 hN2 => ?_) ?_
 refine zq (zf ?_)
 refine z8 (fun E N' => ∀ (A5 : OA) (L5 C5 : Nat) (A6 : OA) (L6 C6 : Nat) (b3 : Nat) (b4 : Nat), qr.sameProds_j3 k a_ i b (qr.sameProds_l1 k a_ b j) = some o1 -> zT E [(0, sl A1 L1 C1), (1, sl A2 L2 C2), (4, bV false), (5, iI i), (6, pt b3), (7, pt b4)] [.box b3 57 (qg (at_ a_ i) A5 L5 C5), .box b4 57 (qg (at_ b i) A6 L6 C6)] [fS A1 L1 C1 5 yh a_, fS A2 L2 C2 5 yh b, fS A5 L5 C5 8 wn ((at_ a_ i).Syms), fS A6 L6 C6 8 wn ((at_ b i).Syms)] N') (fun N5 hN5 => ?_) ?_
 refine zc hL1 fun h12 hL1 => wK (xs := a_) (enc := yh) 0 rfl h12 rfl rfl fun A7 L7 C7 => zc hL1 fun h13 hL1 => wK (xs := b) (enc := yh) 3 rfl h13 rfl rfl fun A8 L8 C8 => zP (n := 12) [] mixed rfl rfl (dv 0 rfl vM (dv 1 rfl vM (dv 2 rfl (zi (xs := a_) (enc := yh) vK rfl rfl (.f 4 rfl) h12) (dv 3 rfl (yS 2 gj rfl rfl rfl rfl rfl) (dv 4 rfl vM (dv 5 rfl vM (dv 6 rfl (zi (xs := b) (enc := yh) vK rfl rfl (.f 5 rfl) h13) (dv 7 rfl (yS 0 gj rfl rfl rfl rfl rfl) ?_))))))))
 refine wr [8, 9] (by kernel_rfl) (by simp) ⟨⟨_, rfl, ?_⟩, ⟨_, rfl, ?_⟩, trivial⟩
 refine zC gA rfl rfl fun b5 => dN [] 0 (dO 9 rfl (zC gA rfl rfl ?_))
 intro b6
 refine dN [] 0 (dO 10 rfl ((sT 1 gj) (dN [] 0 (dO 11 rfl ((sT 0 gj) (dN [] 0 (dD ?_)))))))
 exact sK [1, 0] [4, 5, 3, 1] (hN5 A7 L7 C7 A8 L8 C8 b5 b6 hL1)
 refine zC gA rfl rfl fun b5 => dN [] 0 (dO 8 rfl (zC gA rfl rfl ?_))
 intro b6
 refine dN [] 0 (dO 10 rfl ((sT 0 gj) (dN [] 0 (dO 11 rfl ((sT 1 gj) (dN [] 0 (dD ?_)))))))
 exact sK [0, 0] [4, 5, 3, 1] (hN5 A7 L7 C7 A8 L8 C8 b6 b5 hL1)
 intro A5 L5 C5 A6 L6 C6 b3 b4 hL1
 unfold qr.sameProds_j3 at hL1
 refine ze (zf (zf ?_))
 refine cT (fun E H Φ N' => ∀ (t62 : Bool), qr.sameProds_j4 k a_ i b (qr.sameProds_l1 k a_ b j) t62 = some o1 -> zT E [(0, sl A1 L1 C1), (1, sl A2 L2 C2), (4, bV false), (5, iI i), (6, pt b3), (7, pt b4), (62, bV t62)] H Φ N') (fun N5 hN5 => ?_) ?_
 refine zd ((fD 0) (oV (vL 0 ty4) ((fD 0) (oV (vL 1 ty4) (oV (g6 rfl rfl Tryz.underlying4) (oV vM ?_))))))
 refine oS 33 hL1 (fun hL1 => ?_) (fun hL1 => ?_)
 refine oF (oF (oF (oF (oF (oV yt (oV vM (oF (oF (oF (oF (oF (oV yt (oV vM (oF (oF ?_)))))))))))))))
 refine oF (oF (oF (oV yt (oV vM (oF (oF (oF (oF (oF (oF (oF (oV yt (zh ?_)))))))))))))
 exact sK [0, 0] [0, 1, 2, 3] (hN5 true hL1)
 refine oN ((fD 1) (oN (oV (vL 0 xE) (oN ((fD 1) (oN (oV (vL 1 xE) (oN (oV (w7 rfl rfl) (oV yj (oV vM ?_)))))))))))
 refine oS 40 hL1 (fun hL1 => ?_) (fun hL1 => ?_)
 refine oF (oF (oF (oF (oF (oV yt (oV vM (oF (oF (oF (oF (oF (oV yt (oV vM (oF (oF ?_)))))))))))))))
 refine oF (oF (oF (oF (oF (oV yt (zh ?_))))))
 exact sK [0, 0] [0, 1, 2, 3] (hN5 true hL1)
 refine oN ((fD 2) (oN (oV (vL 0 xE) (oN ((fD 2) (oN (oV (vL 1 xE) (oN (oV (w7 rfl rfl) (oV yj (oV vM ?_)))))))))))
 refine oS 47 hL1 (fun hL1 => ?_) (fun hL1 => ?_)
 refine oF (oF (oF (oF (oF (oV yt (oV vM (oF (oF (oF (oF (oF (oF (oF (oV yt (zh ?_)))))))))))))))
 exact sK [0, 0] [0, 1, 2, 3] (hN5 true hL1)
 refine oN ((fD 3) (oN (oV (vL 0 ty4) (oN ((fD 3) (oN (oV (vL 1 ty4) (oN (oV (g6 rfl rfl Tryz.underlying4) (oV yj (oV vM ?_)))))))))))
 refine oS 54 hL1 (fun hL1 => ?_) (fun hL1 => ?_)
 refine oF (oF (oF (oF (oF (oF (oF (oV yt (zh ?_))))))))
 exact sK [0, 0] [0, 1, 2, 3] (hN5 true hL1)
 refine oN ((fD 4) (oN (oV (vL 0 ty55) (oN (oV (zL (enc := wn) ((at_ a_ i).Syms) gn rfl (.f 2 rfl)) (oN ((fD 4) (oN (oV (vL 1 ty55) (oN (oV (zL (enc := wn) ((at_ b i).Syms) gn rfl (.f 3 rfl)) (oN (oV vB (oV yj (zh ?_)))))))))))))))
 exact sK [0, 0] [0, 1, 2, 3] (hN5 ((((at_ a_ i).Syms).length : Int) != (((at_ b i).Syms).length : Int)) hL1)
 intro t62 hL1
 unfold qr.sameProds_j4 at hL1
 refine ze ?_
 refine cC hL1 (fun hL1 => ?_) (fun hL1 => ?_)
 refine cR (oV vA (zb (zp ?_)))
 cases hL1
 obtain rfl := zK hF
 exact sR
 refine zk (ze (cR (oV vA (zb ?_))))
 obtain ⟨o5, ho5, hL1⟩ := bd hL1
 refine cT (fun E H Φ N' => ∀ (d5 : Int), o5 = .done d5 -> zT E [(0, sl A1 L1 C1), (1, sl A2 L2 C2), (4, bV false), (5, iI i), (6, pt b3), (7, pt b4), (8, iI d5)] H Φ N') (fun N5 hN5 => ?_) ?_
 refine zq ?_
 refine cL (fun E H Φ j a w => ∃ (k_1 : Int), qr.sameProds_l5 a_ i b j k_1 = some o5 /\ St E [(0, sl A1 L1 C1), (1, sl A2 L2 C2), (4, bV false), (5, iI i), (6, pt b3), (7, pt b4), (8, iI k_1)] H Φ a w) k ?_ ?_
 exact lq [0, 0] [0, 1, 2, 3] fun a w hs => ⟨0, ho5, hs⟩
 rintro j a w ⟨k_1, hL5, hs⟩
 rcases j with _ | j
 cases hL5
 refine yd hs ?_
 unfold qr.sameProds_l5 at hL5
 refine zf (cR (oV vM ((fD 4) (oV (vL 0 ty55) (oV (zL (enc := wn) ((at_ a_ i).Syms) gn rfl (.f 2 rfl)) (oV vB (zb ?_)))))))
 refine cC hL5 (fun hL5 => ?_) (fun hL5 => ?_)
 refine zk (ze (zf (zq (zf (zP (n := 11) [0, 0] mixed rfl rfl (dv 0 rfl (vF 4) (dv 1 rfl (vL 0 ty55) (dv 2 rfl vM (zc hL5 ?_)))))))))
 intro h5 hL5
 refine dv 3 rfl (zi (xs := (at_ a_ i).Syms) (enc := wn) gn rfl rfl (.f 2 rfl) h5) (dv 4 rfl (yc (xs := (at_ a_ i).Syms) (enc := wn) wR rfl (.f 2 rfl) h5 rfl rfl rfl rfl rfl rfl rfl) (dv 5 rfl (vF 4) (dv 6 rfl (vL 1 ty55) (dv 7 rfl vM (zc hL5 ?_)))))
 intro h6 hL5
 refine ?_
 refine dv 8 rfl (zi (xs := (at_ b i).Syms) (enc := wn) gn rfl rfl (.f 3 rfl) h6) (dv 9 rfl (yc (xs := (at_ b i).Syms) (enc := wn) wR rfl (.f 3 rfl) h6 rfl rfl rfl rfl rfl rfl rfl) (dv 10 rfl (v_agne 3 rfl rfl (eq114 ((at_ ((at_ a_ i).Syms) k_1).Kind) ((at_ ((at_ a_ i).Syms) k_1).Text) ((at_ ((at_ a_ i).Syms) k_1).Set.w0) ((at_ ((at_ a_ i).Syms) k_1).Set.w1) ((at_ ((at_ a_ i).Syms) k_1).Set.w2) ((at_ ((at_ a_ i).Syms) k_1).Set.w3) ((at_ ((at_ a_ i).Syms) k_1).Name) ((at_ ((at_ a_ i).Syms) k_1).Sep) ((at_ ((at_ b i).Syms) k_1).Kind) ((at_ ((at_ b i).Syms) k_1).Text) ((at_ ((at_ b i).Syms) k_1).Set.w0) ((at_ ((at_ b i).Syms) k_1).Set.w1) ((at_ ((at_ b i).Syms) k_1).Set.w2) ((at_ ((at_ b i).Syms) k_1).Set.w3) ((at_ ((at_ b i).Syms) k_1).Name) ((at_ ((at_ b i).Syms) k_1).Sep)) rfl guard114) (zG (by kernel_rfl) ?_)))
 refine cC hL5 (fun hL5 => ?_) (fun hL5 => ?_)
 refine cR (oV vA (zb (zp ?_)))
 cases hL5
 obtain rfl := lr_ret hL1
 obtain rfl := zK hF
 exact sR
 refine zk (ze (zd (oV vM (oV vB (oV vA (zh ?_))))))
 exact lp [0, 0] [0, 1, 2, 3] fun a w hs => ⟨IntKind.wrap .i64 (k_1 + 1), hL5, hs⟩
 refine zW ?_
 cases hL5
 exact sK [0, 0] [0, 1, 2, 3] (hN5 k_1 rfl)
 intro d5 hd
 subst hd
 replace hL1 := lr_done hL1
 exact sK [0, 0] [0, 1, 2, 3] (hN2 d5 A5 L5 C5 A6 L6 C6 b3 b4 hL1)
 intro k_ A3 L3 C3 A4 L4 C4 b1 b2 hL1
 unfold qr.sameProds_j2 at hL1
 refine ze (zd (oV vM (oV vB (oV vA (zh ?_)))))
 exact lp [] [0, 1] fun a w hs => ⟨IntKind.wrap .i64 (i + 1), hL1, hs⟩
 refine zW ?_
 cases hL1
 exact sK [] [0, 1] (hN1 () rfl)
 intro d1 hd
 subst hd
 replace hF := yF hF
 refine ze (cR (oV vA (zb (zp ?_))))
 cases hF
 exact sR
theorem tri78 {k : Nat} {a_ : List Tx} {b : List Tx} {r : Bool} (hF : qr.SameNames k a_ b = some r) :
    xu Tryz.prog 78 [sl A1 L1 C1, sl A2 L2 C2] [] [fS A1 L1 C1 1 xn a_, fS A2 L2 C2 1 xn b] (oR (bV r)) := by
 unfold qr.SameNames at hF
 refine zt (n := 26) Tryz.func78 rfl Tryz.ntmps78 rfl fun w X => cR (oV vA (zb (zf (cR (oV vM (oV (zL (enc := xn) a_ vy rfl (.f 0 rfl)) (oV vM (oV (zL (enc := xn) b vy rfl (.f 1 rfl)) (oV vB (zb ?_))))))))))
 refine cC hF (fun hF => ?_) (fun hF => ?_)
 refine cR (oV vA (zb (zp ?_)))
 cases hF
 exact sR
 refine zk (ze (zf (cR (oV vA (zb ?_)))))
 obtain ⟨o1, ho1, hF⟩ := bd hF
 refine cT (fun E H Φ N' => ∀ (d1 : Unit), o1 = .done d1 -> zT E [(0, sl A1 L1 C1), (1, sl A2 L2 C2), (4, bV false)] [] Φ N') (fun N1 hN1 => ?_) ?_
 refine zq ?_
 refine cL (fun E H Φ j a w => ∃ (i : Int), qr.SameNames_l1 a_ b j i = some o1 /\ St E [(0, sl A1 L1 C1), (1, sl A2 L2 C2), (4, bV false), (5, iI i)] [] Φ a w) k ?_ ?_
 exact lq [] [0, 1] fun a w hs => ⟨0, ho1, hs⟩
 rintro j a w ⟨i, hL1, hs⟩
 rcases j with _ | j
 cases hL1
 refine yd hs ?_
 unfold qr.SameNames_l1 at hL1
 refine zf (cR (oV vM (oV vM (oV (zL (enc := xn) a_ vy rfl (.f 0 rfl)) (oV vB (zb ?_))))))
 refine cC hL1 (fun hL1 => ?_) (fun hL1 => ?_)
 refine zk (ze (zf (zq (zf (zP (n := 9) [] mixed rfl rfl (dv 0 rfl vM (dv 1 rfl vM (zc hL1 ?_))))))))
 intro h3 hL1
 refine dv 2 rfl (zi (xs := a_) (enc := xn) vy rfl rfl (.f 0 rfl) h3) (dv 3 rfl (yc (xs := a_) (enc := xn) xE rfl (.f 0 rfl) h3 rfl rfl rfl rfl rfl rfl rfl) (dv 4 rfl vM (dv 5 rfl vM (zc hL1 ?_))))
 intro h4 hL1
 refine dv 6 rfl (zi (xs := b) (enc := xn) vy rfl rfl (.f 1 rfl) h4) (dv 7 rfl (yc (xs := b) (enc := xn) xE rfl (.f 1 rfl) h4 rfl rfl rfl rfl rfl rfl rfl) ?_)
 refine dv 8 rfl (w7 rfl rfl) (zG (by kernel_rfl) ?_)
 refine cC hL1 (fun hL1 => ?_) (fun hL1 => ?_)
 refine cR (oV vA (zb (zp ?_)))
 cases hL1
 obtain rfl := zK hF
 exact sR
 refine zk (ze (zd (oV vM (oV vB (oV vA (zh ?_))))))
 exact lp [] [0, 1] fun a w hs => ⟨IntKind.wrap .i64 (i + 1), hL1, hs⟩
 refine zW ?_
 cases hL1
 exact sK [] [0, 1] (hN1 () rfl)
 intro d1 hd
 subst hd
 replace hF := yF hF
 refine ze (cR (oV vA (zb (zp ?_))))
 cases hF
 exact sR
theorem tri36 {k : Nat} {a_ : List (List zw)} {b : List (List zw)} {r : Bool} (hF : qr.sameChains k a_ b = some r) :
    xu Tryz.prog 36 [sl A1 L1 C1, sl A2 L2 C2] [] [fS A1 L1 C1 1 (w8 2 zD) a_, fS A2 L2 C2 1 (w8 2 zD) b] (oR (bV r)) := by
 unfold qr.sameChains at hF
 refine zt (n := 75) Tryz.func36 rfl Tryz.ntmps36 rfl fun w X => cR (oV vA (zb (zf (cR (oV vM (oV (zL (enc := (w8 2 zD)) a_ jx rfl (.f 0 rfl)) (oV vM (oV (zL (enc := (w8 2 zD)) b jx rfl (.f 1 rfl)) (oV vB (zb ?_))))))))))
 refine cC hF (fun hF => ?_) (fun hF => ?_)
 refine cR (oV vA (zb (zp ?_)))
 cases hF
 exact sR
 refine zk (ze (zf (cR (oV vA (zb ?_)))))
 obtain ⟨o1, ho1, hF⟩ := bd hF
 refine cT (fun E H Φ N' => ∀ (d1 : Unit), o1 = .done d1 -> zT E [(0, sl A1 L1 C1), (1, sl A2 L2 C2), (4, bV false)] [] Φ N') (fun N1 hN1 => ?_) ?_
 refine zq ?_
 refine cL (fun E H Φ j a w => ∃ (i : Int), qr.sameChains_l1 k a_ b j i = some o1 /\ St E [(0, sl A1 L1 C1), (1, sl A2 L2 C2), (4, bV false), (5, iI i)] [] Φ a w) k ?_ ?_
 exact lq [] [0, 1] fun a w hs => ⟨0, ho1, hs⟩
 rintro j a w ⟨i, hL1, hs⟩
 rcases j with _ | j
 cases hL1
 refine yd hs ?_
 unfold qr.sameChains_l1 at hL1
 refine zf (cR (oV vM (oV vM (oV (zL (enc := (w8 2 zD)) a_ jx rfl (.f 0 rfl)) (oV vB (zb ?_))))))
 refine cC hL1 (fun hL1 => ?_) (fun hL1 => ?_)
 refine zk (ze (zf (zq (zf (zf (zc hL1 fun h3 hL1 => wK (xs := a_) (enc := (w8 2 zD)) 0 rfl h3 rfl rfl fun A3 L3 C3 => zc hL1 fun h4 hL1 => wK (xs := b) (enc := (w8 2 zD)) 3 rfl h4 rfl rfl fun A4 L4 C4 => zP (n := 11) [] mixed rfl rfl (dv 0 rfl vM (dv 1 rfl vM (dv 2 rfl (zi (xs := a_) (enc := (w8 2 zD)) jx rfl rfl (.f 4 rfl) h3) (dv 3 rfl (yS 2 ty58 rfl rfl rfl rfl rfl) (dv 4 rfl (zL (enc := zD) (at_ a_ i) jF rfl (.f 3 rfl)) ?_)))))))))))
 refine dv 5 rfl vM (dv 6 rfl vM (dv 7 rfl (zi (xs := b) (enc := (w8 2 zD)) jx rfl rfl (.f 5 rfl) h4) (dv 8 rfl (yS 0 ty58 rfl rfl rfl rfl rfl) (dv 9 rfl (zL (enc := zD) (at_ b i) jF rfl (.f 1 rfl)) (dv 10 rfl vB (zG (by kernel_rfl) ?_))))))
 refine cC hL1 (fun hL1 => ?_) (fun hL1 => ?_)
 refine cR (oV vA (zb (zp ?_)))
 cases hL1
 obtain rfl := zK hF
 exact sR
 refine zk (ze (cR (oV vA (zb ?_))))
 obtain ⟨o2, ho2, hL1⟩ := bd hL1
 refine z8 (fun E N' => ∀ (d2 : Int), o2 = .done d2 -> zT E [(0, sl A1 L1 C1), (1, sl A2 L2 C2), (4, bV false), (5, iI i), (6, iI d2)] [] [fS A1 L1 C1 1 (w8 2 zD) a_, fS A2 L2 C2 1 (w8 2 zD) b] N') (fun N2 hN2 => ?_) ?_
 refine zq ?_
 refine xG (fun E j a w => ∃ (k_ : Int), qr.sameChains_l2 k a_ i b j k_ = some o2 /\ St E [(0, sl A1 L1 C1), (1, sl A2 L2 C2), (4, bV false), (5, iI i), (6, iI k_)] [] [fS A1 L1 C1 1 (w8 2 zD) a_, fS A2 L2 C2 1 (w8 2 zD) b] a w) k ?_ ?_
 exact lq [] [4, 5] fun a w hs => ⟨0, ho2, hs⟩
 rintro j a w ⟨k_, hL2, hs⟩
 rcases j with _ | j
 cases hL2
 refine yd hs ?_
 unfold qr.sameChains_l2 at hL2
 refine zf (cR (oV vM (oV vM (oV vM (oV (zi (xs := a_) (enc := (w8 2 zD)) jx rfl rfl (.f 0 rfl) h3) (yq (xs := a_) (enc := (w8 2 zD)) ty58 rfl (.f 0 rfl) h3 rfl rfl rfl rfl rfl rfl ?_))))))
 intro A5 L5 C5
 refine oV (zL (enc := zD) (at_ a_ i) jF rfl (.f 0 rfl)) (oV vB (zb ?_))
 refine cC hL2 (fun hL2 => ?_) (fun hL2 => ?_)
 refine zk (ze (zf ?_))
 refine z8 (fun E N' => qr.sameChains_j3 (qr.sameChains_l2 k a_ i b j) k_ = some o2 -> zT E [(0, sl A1 L1 C1), (1, sl A2 L2 C2), (4, bV false), (5, iI i), (6, iI k_)] [] [fS A1 L1 C1 1 (w8 2 zD) a_, fS A2 L2 C2 1 (w8 2 zD) b] N') (fun N3 hN3 => ?_) ?_
 refine zq (zf (wK (xs := a_) (enc := (w8 2 zD)) 1 rfl h3 rfl rfl fun A6 L6 C6 => wK (xs := b) (enc := (w8 2 zD)) 4 rfl h4 rfl rfl fun A7 L7 C7 => zP (n := 37) [] mixed rfl rfl (dv 0 rfl vM (dv 1 rfl vM (dv 2 rfl (zi (xs := a_) (enc := (w8 2 zD)) jx rfl rfl (.f 5 rfl) h3) (dv 3 rfl (yS 2 ty58 rfl rfl rfl rfl rfl) (dv 4 rfl vM (zc hL2 ?_))))))))
 intro h7 hL2
 refine dv 5 rfl (zi (xs := at_ a_ i) (enc := zD) jF rfl rfl (.f 3 rfl) h7) (dv 6 rfl (zI (v := .pointer (some ⟨yW A6, yZ A6 + (Int.toNat k_ * 2 + 0), none⟩)) rfl (fun _ => by kernel_rfl)) (dv 7 rfl (yc (xs := at_ a_ i) (enc := zD) yz rfl (.f 3 rfl) h7 rfl rfl rfl rfl rfl rfl rfl) (dv 8 rfl vM (dv 9 rfl vM ?_))))
 refine dv 10 rfl (zi (xs := b) (enc := (w8 2 zD)) jx rfl rfl (.f 6 rfl) h4) (dv 11 rfl (yS 0 ty58 rfl rfl rfl rfl rfl) (dv 12 rfl vM (zc hL2 ?_)))
 intro h8 hL2
 refine dv 13 rfl (zi (xs := at_ b i) (enc := zD) jF rfl rfl (.f 1 rfl) h8) (dv 14 rfl (zI (v := .pointer (some ⟨yW A7, yZ A7 + (Int.toNat k_ * 2 + 0), none⟩)) rfl (fun _ => by kernel_rfl)) (dv 15 rfl (yc (xs := at_ b i) (enc := zD) yz rfl (.f 1 rfl) h8 rfl rfl rfl rfl rfl rfl rfl) (dv 16 rfl vB (dv 17 rfl vM ?_))))
 refine jq (t := 55) rfl (fun h9 => ?_) (fun h9 => ?_)
 replace hL2 := qF h9 hL2
 refine dF 18 rfl (dF 19 rfl (dF 20 rfl (dF 21 rfl (dF 22 rfl (dF 23 rfl (dF 24 rfl (dF 25 rfl (dF 26 rfl (dF 27 rfl (dF 28 rfl (dF 29 rfl (dF 30 rfl (dF 31 rfl (dF 32 rfl (dF 33 rfl ?_)))))))))))))))
 refine dF 34 rfl (dF 35 rfl (dv 36 rfl yt (zG (by kernel_rfl) ?_)))
 refine xH rfl (fun _ => ?_) (fun h => Bool.noConfusion h)
 refine cR (oV vA (zb (zp ?_)))
 cases hL2
 obtain rfl := lr_ret hL1
 obtain rfl := zK hF
 exact sR
 replace hL2 := qG h9 hL2
 refine dw 18 rfl rfl rfl vM (dw 19 rfl rfl rfl vM (dw 20 rfl rfl rfl (zi (xs := a_) (enc := (w8 2 zD)) jx rfl rfl (.f 5 rfl) h3) (dw 21 rfl rfl rfl (yS 2 ty58 rfl rfl rfl rfl rfl) (dw 22 rfl rfl rfl vM (dw 23 rfl rfl rfl (zi (xs := at_ a_ i) (enc := zD) jF rfl rfl (.f 3 rfl) h7) (dw 24 rfl rfl rfl (zI (v := .pointer (some ⟨yW A6, yZ A6 + (Int.toNat k_ * 2 + 1), none⟩)) rfl (fun _ => by kernel_rfl)) (dw 26 rfl rfl rfl vM (dw 27 rfl rfl rfl vM (dw 28 rfl rfl rfl (zi (xs := b) (enc := (w8 2 zD)) jx rfl rfl (.f 6 rfl) h4) (dw 29 rfl rfl rfl (yS 0 ty58 rfl rfl rfl rfl rfl) (dw 30 rfl rfl rfl vM (dw 31 rfl rfl rfl (zi (xs := at_ b i) (enc := zD) jF rfl rfl (.f 1 rfl) h8) (dw 32 rfl rfl rfl (zI (v := .pointer (some ⟨yW A7, yZ A7 + (Int.toNat k_ * 2 + 1), none⟩)) rfl (fun _ => by kernel_rfl)) ?_)))))))))))))
 obtain ⟨v, h10, hL2⟩ := bd hL2
 refine wr [25, 33] (by kernel_rfl) (by simp) ⟨⟨_, rfl, ?_⟩, ⟨_, rfl, ?_⟩, trivial⟩
 refine oN (yq (xs := at_ a_ i) (enc := zD) ja rfl (.f 3 rfl) h7 rfl rfl rfl rfl rfl rfl ?_)
 intro A8 L8 C8
 refine dN [] 1 (dO 33 rfl (oN (yq (xs := at_ b i) (enc := zD) ja rfl (.f 2 rfl) h8 rfl rfl rfl rfl rfl rfl ?_)))
 intro A9 L9 C9
 refine dN [] 2 (dO 34 rfl (oN (zu call78 rfl (zA 1 rfl (zA 0 rfl zv)) (tri78 h10 :) rfl (dN [] 2 (dw 35 rfl rfl rfl vN (dv 36 rfl yj (zG (by kernel_rfl) ?_)))))))
 refine cC hL2 (fun hL2 => ?_) (fun hL2 => ?_)
 refine cR (oV vA (zb (zp ?_)))
 cases hL2
 obtain rfl := lr_ret hL1
 obtain rfl := zK hF
 exact sR
 refine zk ?_
 exact sK [] [7, 8] (hN3 hL2)
 refine oN (yq (xs := at_ b i) (enc := zD) ja rfl (.f 1 rfl) h8 rfl rfl rfl rfl rfl rfl ?_)
 intro A8 L8 C8
 refine dN [] 1 (dO 25 rfl (oN (yq (xs := at_ a_ i) (enc := zD) ja rfl (.f 4 rfl) h7 rfl rfl rfl rfl rfl rfl ?_)))
 intro A9 L9 C9
 refine dN [] 2 (dO 34 rfl (oN (zu call78 rfl (zA 0 rfl (zA 1 rfl zv)) (tri78 h10 :) rfl (dN [] 2 (dw 35 rfl rfl rfl vN (dv 36 rfl yj (zG (by kernel_rfl) ?_)))))))
 refine cC hL2 (fun hL2 => ?_) (fun hL2 => ?_)
 refine cR (oV vA (zb (zp ?_)))
 cases hL2
 obtain rfl := lr_ret hL1
 obtain rfl := zK hF
 exact sR
 refine zk ?_
 exact sK [] [7, 8] (hN3 hL2)
 intro hL2
 unfold qr.sameChains_j3 at hL2
 refine ze (zd (oV vM (oV vB (oV vA (zh ?_)))))
 exact lp [] [0, 1] fun a w hs => ⟨IntKind.wrap .i64 (k_ + 1), hL2, hs⟩
 refine zW ?_
 cases hL2
 exact sK [] [1, 2] (hN2 k_ rfl)
 intro d2 hd
 subst hd
 replace hL1 := lr_done hL1
 refine ze (zd (oV vM (oV vB (oV vA (zh ?_)))))
 exact lp [] [0, 1] fun a w hs => ⟨IntKind.wrap .i64 (i + 1), hL1, hs⟩
 refine zW ?_
 cases hL1
 exact sK [] [0, 1] (hN1 () rfl)
 intro d1 hd
 subst hd
 replace hF := yF hF
 refine ze (cR (oV vA (zb (zp ?_))))
 cases hF
 exact sR
theorem tri15 {k : Nat} {a_ : zY} {b : zY} {r : Bool} (hF : qr.Same k a_ b = some r) :
    xu Tryz.prog 15 [.agg (yB a_ A1 L1 C1 A2 L2 C2 A3 L3 C3 A4 L4 C4 A5 L5 C5).toArray, .agg (yB b A6 L6 C6 A7 L7 C7 A8 L8 C8 A9 L9 C9 A10 L10 C10).toArray] [] [fS A1 L1 C1 5 yh a_.Prods, fS A2 L2 C2 1 (w8 2 zD) a_.Chains, fS A3 L3 C3 5 z7 a_.Follows, fS A4 L4 C4 2 z6 a_.Rejects, fS A5 L5 C5 2 xq a_.Boxes, fS A6 L6 C6 5 yh b.Prods, fS A7 L7 C7 1 (w8 2 zD) b.Chains, fS A8 L8 C8 5 z7 b.Follows, fS A9 L9 C9 2 z6 b.Rejects, fS A10 L10 C10 2 xq b.Boxes] (oR (bV r)) := by
 unfold qr.Same at hF
 refine zt (n := 131) Tryz.func15 rfl Tryz.ntmps15 rfl fun w X => cR (xr rfl rfl rfl fun b1 => xr rfl rfl rfl fun b2 => oV vA (zb (zf (zf ?_))))
 refine cT (fun E H Φ N' => ∀ (t46 : Bool), qr.Same_j1 k a_ b t46 = some r -> zT E [(0, .agg (yB a_ A1 L1 C1 A2 L2 C2 A3 L3 C3 A4 L4 C4 A5 L5 C5).toArray), (1, .agg (yB b A6 L6 C6 A7 L7 C7 A8 L8 C8 A9 L9 C9 A10 L10 C10).toArray), (2, pt b1), (3, pt b2), (4, bV false), (46, bV t46)] H Φ N') (fun N5 hN5 => ?_) ?_
 refine zd ((fD 0) (oV (vL 1 xE) ((fD 0) (oV (vL 0 xE) (oV (w7 rfl rfl) (oV vM ?_))))))
 refine oS 13 hF (fun hF => ?_) (fun hF => ?_)
 refine oF (oF (oF (oF (oF (oV yt (oV vM (oF (oF (oF (oF (oF (oF (oF (oV yt (oV vM ?_)))))))))))))))
 refine oF (oF (oF (oF (oF (oF (oF (oV yt (oV vM (oF (oF (oF (oF (oF (oF (oF ?_)))))))))))))))
 refine oV yt (zh ?_)
 exact sK [0, 0] [0, 1, 2, 3, 4, 5, 6, 7, 8, 9] (hN5 true hF)
 refine oN ((fD 1) (oN (oV (vL 1 xE) (oN ((fD 1) (oN (oV (vL 0 xE) (oN (oV (w7 rfl rfl) (oV yj (oV vM ?_)))))))))))
 refine oS 20 hF (fun hF => ?_) (fun hF => ?_)
 refine oF (oF (oF (oF (oF (oF (oF (oV yt (oV vM (oF (oF (oF (oF (oF (oF (oF ?_)))))))))))))))
 refine oV yt (oV vM (oF (oF (oF (oF (oF (oF (oF (oV yt (zh ?_))))))))))
 exact sK [0, 0] [0, 1, 2, 3, 4, 5, 6, 7, 8, 9] (hN5 true hF)
 refine oN ((fD 4) (oN (oV (vL 1 gl) (oN (oV (zL (enc := z7) a_.Follows qw rfl (.f 2 rfl)) (oN ((fD 4) (oN (oV (vL 0 gl) (oN (oV (zL (enc := z7) b.Follows qw rfl (.f 7 rfl)) (oN (oV vB (oV yj (oV vM ?_)))))))))))))))
 refine oS 29 hF (fun hF => ?_) (fun hF => ?_)
 refine oF (oF (oF (oF (oF (oF (oF (oV yt (oV vM (oF (oF (oF (oF (oF (oF (oF ?_)))))))))))))))
 refine oV yt (zh ?_)
 exact sK [0, 0] [0, 1, 2, 3, 4, 5, 6, 7, 8, 9] (hN5 true hF)
 refine oN ((fD 5) (oN (oV (vL 1 gk) (oN (oV (zL (enc := z6) a_.Rejects qv rfl (.f 3 rfl)) (oN ((fD 5) (oN (oV (vL 0 gk) (oN (oV (zL (enc := z6) b.Rejects qv rfl (.f 8 rfl)) (oN (oV vB (oV yj (oV vM ?_)))))))))))))))
 refine oS 38 hF (fun hF => ?_) (fun hF => ?_)
 refine oF (oF (oF (oF (oF (oF (oF (oV yt (zh ?_))))))))
 exact sK [0, 0] [0, 1, 2, 3, 4, 5, 6, 7, 8, 9] (hN5 true hF)
 refine oN ((fD 6) (oN (oV (vL 1 jC) (oN (oV (zL (enc := xq) a_.Boxes jw rfl (.f 4 rfl)) (oN ((fD 6) (oN (oV (vL 0 jC) (oN (oV (zL (enc := xq) b.Boxes jw rfl (.f 9 rfl)) (oN (oV vB (oV yj (zh ?_)))))))))))))))
 exact sK [0, 0] [0, 1, 2, 3, 4, 5, 6, 7, 8, 9] (hN5 ((a_.Boxes.length : Int) != (b.Boxes.length : Int)) hF)
 intro t46 hF
 unfold qr.Same_j1 at hF
 refine ze ?_
 refine cC hF (fun hF => ?_) (fun hF => ?_)
 refine cR (oV vA (zb (zp ?_)))
 cases hF
 exact sR
 refine zk (ze (zf (cR (oV vA (zb ?_)))))
 obtain ⟨o2, ho2, hF⟩ := bd hF
 refine cT (fun E H Φ N' => ∀ (d2 : Unit), o2 = .done d2 -> zT E [(0, .agg (yB a_ A1 L1 C1 A2 L2 C2 A3 L3 C3 A4 L4 C4 A5 L5 C5).toArray), (1, .agg (yB b A6 L6 C6 A7 L7 C7 A8 L8 C8 A9 L9 C9 A10 L10 C10).toArray), (2, pt b1), (3, pt b2), (4, bV false)] H Φ N') (fun N2 hN2 => ?_) ?_
 refine zq ?_
 refine cL (fun E H Φ j a w => ∃ (i : Int), qr.Same_l2 a_ b j i = some o2 /\ St E [(0, .agg (yB a_ A1 L1 C1 A2 L2 C2 A3 L3 C3 A4 L4 C4 A5 L5 C5).toArray), (1, .agg (yB b A6 L6 C6 A7 L7 C7 A8 L8 C8 A9 L9 C9 A10 L10 C10).toArray), (2, pt b1), (3, pt b2), (4, bV false), (5, iI i)] H Φ a w) k ?_ ?_
 exact lq [0, 0] [0, 1, 2, 3, 4, 5, 6, 7, 8, 9] fun a w hs => ⟨0, ho2, hs⟩
 rintro j a w ⟨i, hL2, hs⟩
 rcases j with _ | j
 cases hL2
 refine yd hs ?_
 unfold qr.Same_l2 at hL2
 refine zf (cR (oV vM ((fD 4) (oV (vL 1 gl) (oV (zL (enc := z7) a_.Follows qw rfl (.f 2 rfl)) (oV vB (zb ?_)))))))
 refine cC hL2 (fun hL2 => ?_) (fun hL2 => ?_)
 refine zk (ze (zf (zq (zf (zP (n := 11) [0, 0] mixed rfl rfl (dv 0 rfl (vF 4) (dv 1 rfl (vL 1 gl) (dv 2 rfl vM (zc hL2 ?_)))))))))
 intro h3 hL2
 refine dv 3 rfl (zi (xs := a_.Follows) (enc := z7) qw rfl rfl (.f 2 rfl) h3) (dv 4 rfl (yc (xs := a_.Follows) (enc := z7) ty48 rfl (.f 2 rfl) h3 rfl rfl rfl rfl rfl rfl rfl) (dv 5 rfl (vF 4) (dv 6 rfl (vL 0 gl) (dv 7 rfl vM (zc hL2 ?_)))))
 intro h4 hL2
 refine ?_
 refine dv 8 rfl (zi (xs := b.Follows) (enc := z7) qw rfl rfl (.f 7 rfl) h4) (dv 9 rfl (yc (xs := b.Follows) (enc := z7) ty48 rfl (.f 7 rfl) h4 rfl rfl rfl rfl rfl rfl rfl) (dv 10 rfl (v_agne 3 rfl rfl (eq48 ((at_ a_.Follows i).Sort_) ((at_ a_.Follows i).Set.w0) ((at_ a_.Follows i).Set.w1) ((at_ a_.Follows i).Set.w2) ((at_ a_.Follows i).Set.w3) ((at_ b.Follows i).Sort_) ((at_ b.Follows i).Set.w0) ((at_ b.Follows i).Set.w1) ((at_ b.Follows i).Set.w2) ((at_ b.Follows i).Set.w3)) rfl guard48) (zG (by kernel_rfl) ?_)))
 refine cC hL2 (fun hL2 => ?_) (fun hL2 => ?_)
 refine cR (oV vA (zb (zp ?_)))
 cases hL2
 obtain rfl := zK hF
 exact sR
 refine zk (ze (zd (oV vM (oV vB (oV vA (zh ?_))))))
 exact lp [0, 0] [0, 1, 2, 3, 4, 5, 6, 7, 8, 9] fun a w hs => ⟨IntKind.wrap .i64 (i + 1), hL2, hs⟩
 refine zW ?_
 cases hL2
 exact sK [0, 0] [0, 1, 2, 3, 4, 5, 6, 7, 8, 9] (hN2 () rfl)
 intro d2 hd
 subst hd
 replace hF := yF hF
 refine ze (zf (cR (oV vA (zb ?_))))
 obtain ⟨o3, ho3, hF⟩ := bd hF
 refine cT (fun E H Φ N' => ∀ (d3 : Unit), o3 = .done d3 -> zT E [(0, .agg (yB a_ A1 L1 C1 A2 L2 C2 A3 L3 C3 A4 L4 C4 A5 L5 C5).toArray), (1, .agg (yB b A6 L6 C6 A7 L7 C7 A8 L8 C8 A9 L9 C9 A10 L10 C10).toArray), (2, pt b1), (3, pt b2), (4, bV false)] H Φ N') (fun N3 hN3 => ?_) ?_
 refine zq ?_
 refine cL (fun E H Φ j a w => ∃ (i1 : Int), qr.Same_l3 a_ b j i1 = some o3 /\ St E [(0, .agg (yB a_ A1 L1 C1 A2 L2 C2 A3 L3 C3 A4 L4 C4 A5 L5 C5).toArray), (1, .agg (yB b A6 L6 C6 A7 L7 C7 A8 L8 C8 A9 L9 C9 A10 L10 C10).toArray), (2, pt b1), (3, pt b2), (4, bV false), (6, iI i1)] H Φ a w) k ?_ ?_
 exact lq [0, 0] [0, 1, 2, 3, 4, 5, 6, 7, 8, 9] fun a w hs => ⟨0, ho3, hs⟩
 rintro j a w ⟨i1, hL3, hs⟩
 rcases j with _ | j
 cases hL3
 refine yd hs ?_
 unfold qr.Same_l3 at hL3
 refine zf (cR (oV vM ((fD 5) (oV (vL 1 gk) (oV (zL (enc := z6) a_.Rejects qv rfl (.f 3 rfl)) (oV vB (zb ?_)))))))
 refine cC hL3 (fun hL3 => ?_) (fun hL3 => ?_)
 refine zk (ze (zf (zq (zf (zP (n := 11) [0, 0] mixed rfl rfl (dv 0 rfl (vF 5) (dv 1 rfl (vL 1 gk) (dv 2 rfl vM (zc hL3 ?_)))))))))
 intro h7 hL3
 refine dv 3 rfl (zi (xs := a_.Rejects) (enc := z6) qv rfl rfl (.f 3 rfl) h7) (dv 4 rfl (yc (xs := a_.Rejects) (enc := z6) ty78 rfl (.f 3 rfl) h7 rfl rfl rfl rfl rfl rfl rfl) (dv 5 rfl (vF 5) (dv 6 rfl (vL 0 gk) (dv 7 rfl vM (zc hL3 ?_)))))
 intro h8 hL3
 refine ?_
 refine dv 8 rfl (zi (xs := b.Rejects) (enc := z6) qv rfl rfl (.f 8 rfl) h8) (dv 9 rfl (yc (xs := b.Rejects) (enc := z6) ty78 rfl (.f 8 rfl) h8 rfl rfl rfl rfl rfl rfl rfl) (dv 10 rfl (v_agne 2 rfl rfl (eq78 ((at_ a_.Rejects i1).Sort_) ((at_ a_.Rejects i1).By) ((at_ b.Rejects i1).Sort_) ((at_ b.Rejects i1).By)) rfl guard78) (zG (by kernel_rfl) ?_)))
 refine cC hL3 (fun hL3 => ?_) (fun hL3 => ?_)
 refine cR (oV vA (zb (zp ?_)))
 cases hL3
 obtain rfl := zK hF
 exact sR
 refine zk (ze (zd (oV vM (oV vB (oV vA (zh ?_))))))
 exact lp [0, 0] [0, 1, 2, 3, 4, 5, 6, 7, 8, 9] fun a w hs => ⟨IntKind.wrap .i64 (i1 + 1), hL3, hs⟩
 refine zW ?_
 cases hL3
 exact sK [0, 0] [0, 1, 2, 3, 4, 5, 6, 7, 8, 9] (hN3 () rfl)
 intro d3 hd
 subst hd
 replace hF := yF hF
 refine ze (zf (cR (oV vA (zb ?_))))
 obtain ⟨o4, ho4, hF⟩ := bd hF
 refine cT (fun E H Φ N' => ∀ (d4 : Unit), o4 = .done d4 -> zT E [(0, .agg (yB a_ A1 L1 C1 A2 L2 C2 A3 L3 C3 A4 L4 C4 A5 L5 C5).toArray), (1, .agg (yB b A6 L6 C6 A7 L7 C7 A8 L8 C8 A9 L9 C9 A10 L10 C10).toArray), (2, pt b1), (3, pt b2), (4, bV false)] H Φ N') (fun N4 hN4 => ?_) ?_
 refine zq ?_
 refine cL (fun E H Φ j a w => ∃ (i2 : Int), qr.Same_l4 k a_ b j i2 = some o4 /\ St E [(0, .agg (yB a_ A1 L1 C1 A2 L2 C2 A3 L3 C3 A4 L4 C4 A5 L5 C5).toArray), (1, .agg (yB b A6 L6 C6 A7 L7 C7 A8 L8 C8 A9 L9 C9 A10 L10 C10).toArray), (2, pt b1), (3, pt b2), (4, bV false), (7, iI i2)] H Φ a w) k ?_ ?_
 exact lq [0, 0] [0, 1, 2, 3, 4, 5, 6, 7, 8, 9] fun a w hs => ⟨0, ho4, hs⟩
 rintro j a w ⟨i2, hL4, hs⟩
 rcases j with _ | j
 cases hL4
 refine yd hs ?_
 unfold qr.Same_l4 at hL4
 refine zf (cR (oV vM ((fD 6) (oV (vL 1 jC) (oV (zL (enc := xq) a_.Boxes jw rfl (.f 4 rfl)) (oV vB (zb ?_)))))))
 refine cC hL4 (fun hL4 => ?_) (fun hL4 => ?_)
 refine zk (ze (zf ?_))
 refine cT (fun E H Φ N' => qr.Same_j5 (qr.Same_l4 k a_ b j) i2 = some o4 -> zT E [(0, .agg (yB a_ A1 L1 C1 A2 L2 C2 A3 L3 C3 A4 L4 C4 A5 L5 C5).toArray), (1, .agg (yB b A6 L6 C6 A7 L7 C7 A8 L8 C8 A9 L9 C9 A10 L10 C10).toArray), (2, pt b1), (3, pt b2), (4, bV false), (7, iI i2)] H Φ N') (fun N5 hN5 => ?_) ?_
 refine zq (zf (zP (n := 29) [0, 0] mixed rfl rfl (dv 0 rfl (vF 6) (dv 1 rfl (vL 1 jC) (dv 2 rfl vM (zc hL4 ?_))))))
 intro h11 hL4
 refine dv 3 rfl (zi (xs := a_.Boxes) (enc := xq) jw rfl rfl (.f 4 rfl) h11) (dv 4 rfl (zI (v := .pointer (some ⟨yW A5, yZ A5 + (Int.toNat i2 * 2 + 0), none⟩)) rfl (fun _ => by kernel_rfl)) (dv 5 rfl (yc (xs := a_.Boxes) (enc := xq) xE rfl (.f 4 rfl) h11 rfl rfl rfl rfl rfl rfl rfl) (dv 6 rfl (vF 6) (dv 7 rfl (vL 0 jC) (dv 8 rfl vM (zc hL4 ?_))))))
 intro h12 hL4
 refine dv 9 rfl (zi (xs := b.Boxes) (enc := xq) jw rfl rfl (.f 9 rfl) h12) (dv 10 rfl (zI (v := .pointer (some ⟨yW A10, yZ A10 + (Int.toNat i2 * 2 + 0), none⟩)) rfl (fun _ => by kernel_rfl)) ?_)
 refine dv 11 rfl (yc (xs := b.Boxes) (enc := xq) xE rfl (.f 9 rfl) h12 rfl rfl rfl rfl rfl rfl rfl) (dv 12 rfl (w7 rfl rfl) (dv 13 rfl vM ?_))
 refine jq (t := 103) rfl (fun h13 => ?_) (fun h13 => ?_)
 replace hL4 := qF h13 hL4
 refine dF 14 rfl (dF 15 rfl (dF 16 rfl (dF 17 rfl (dF 18 rfl (dF 19 rfl (dF 20 rfl (dF 21 rfl (dF 22 rfl (dF 23 rfl (dF 24 rfl (dF 25 rfl (dF 26 rfl (dF 27 rfl (dv 28 rfl yt (zG (by kernel_rfl) ?_)))))))))))))))
 refine xH rfl (fun _ => ?_) (fun h => Bool.noConfusion h)
 refine cR (oV vA (zb (zp ?_)))
 cases hL4
 obtain rfl := zK hF
 exact sR
 replace hL4 := qG h13 hL4
 refine dw 14 rfl rfl rfl (vF 6) (dw 15 rfl rfl rfl (vL 1 jC) (dw 16 rfl rfl rfl vM (dw 17 rfl rfl rfl (zi (xs := a_.Boxes) (enc := xq) jw rfl rfl (.f 4 rfl) h11) (dw 18 rfl rfl rfl (zI (v := .pointer (some ⟨yW A5, yZ A5 + (Int.toNat i2 * 2 + 1), none⟩)) rfl (fun _ => by kernel_rfl)) (dw 20 rfl rfl rfl (vF 6) (dw 21 rfl rfl rfl (vL 0 jC) (dw 22 rfl rfl rfl vM (dw 23 rfl rfl rfl (zi (xs := b.Boxes) (enc := xq) jw rfl rfl (.f 9 rfl) h12) (dw 24 rfl rfl rfl (zI (v := .pointer (some ⟨yW A10, yZ A10 + (Int.toNat i2 * 2 + 1), none⟩)) rfl (fun _ => by kernel_rfl)) ?_)))))))))
 obtain ⟨v, h14, hL4⟩ := bd hL4
 refine wr [19, 25] (by kernel_rfl) (by simp) ⟨⟨_, rfl, ?_⟩, ⟨_, rfl, ?_⟩, trivial⟩
 refine oN (yq (xs := a_.Boxes) (enc := xq) jQ rfl (.f 4 rfl) h11 rfl rfl rfl rfl rfl rfl ?_)
 intro A11 L11 C11
 refine dN [0, 0] 1 (dO 25 rfl (oN (yq (xs := b.Boxes) (enc := xq) jQ rfl (.f 10 rfl) h12 rfl rfl rfl rfl rfl rfl ?_)))
 intro A12 L12 C12
 refine dN [0, 0] 2 (dO 26 rfl (oN (zu call34 rfl (zA 1 rfl (zA 0 rfl zv)) ((tri34 _) h14 :) rfl (dN [0, 0] 2 (dw 27 rfl rfl rfl vN (dv 28 rfl yj (zG (by kernel_rfl) ?_)))))))
 refine cC hL4 (fun hL4 => ?_) (fun hL4 => ?_)
 refine cR (oV vA (zb (zp ?_)))
 cases hL4
 obtain rfl := zK hF
 exact sR
 refine zk ?_
 exact sK [0, 0] [2, 3, 4, 5, 6, 7, 8, 9, 10, 11] (hN5 hL4)
 refine oN (yq (xs := b.Boxes) (enc := xq) jQ rfl (.f 9 rfl) h12 rfl rfl rfl rfl rfl rfl ?_)
 intro A11 L11 C11
 refine dN [0, 0] 1 (dO 19 rfl (oN (yq (xs := a_.Boxes) (enc := xq) jQ rfl (.f 5 rfl) h11 rfl rfl rfl rfl rfl rfl ?_)))
 intro A12 L12 C12
 refine dN [0, 0] 2 (dO 26 rfl (oN (zu call34 rfl (zA 0 rfl (zA 1 rfl zv)) ((tri34 _) h14 :) rfl (dN [0, 0] 2 (dw 27 rfl rfl rfl vN (dv 28 rfl yj (zG (by kernel_rfl) ?_)))))))
 refine cC hL4 (fun hL4 => ?_) (fun hL4 => ?_)
 refine cR (oV vA (zb (zp ?_)))
 cases hL4
 obtain rfl := zK hF
 exact sR
 refine zk ?_
 exact sK [0, 0] [2, 3, 4, 5, 6, 7, 8, 9, 10, 11] (hN5 hL4)
 intro hL4
 unfold qr.Same_j5 at hL4
 refine ze (zd (oV vM (oV vB (oV vA (zh ?_)))))
 exact lp [0, 0] [0, 1, 2, 3, 4, 5, 6, 7, 8, 9] fun a w hs => ⟨IntKind.wrap .i64 (i2 + 1), hL4, hs⟩
 refine zW ?_
 cases hL4
 exact sK [0, 0] [0, 1, 2, 3, 4, 5, 6, 7, 8, 9] (hN4 () rfl)
 intro d4 hd
 subst hd
 replace hF := yF hF
 refine ze (cR ((fD 2) (oV (vL 1 kR) ((fD 2) (oV (vL 0 kR) ?_)))))
 obtain ⟨v1, h16, hF⟩ := bd hF
 refine zu call35 rfl (zA 0 rfl (zA 5 rfl zv)) (tri35 h16 :) rfl (oV vM ?_)
 refine oS 124 hF (fun hF => ?_) (fun hF => ?_)
 refine oN ((fD 3) (oN (oV (vL 1 ty23) (oN ((fD 3) (oN (oV (vL 0 ty23) (oN ?_))))))))
 obtain ⟨v2, h18, hF⟩ := bd hF
 refine zu call36 rfl (zA 1 rfl (zA 6 rfl zv)) (tri36 h18 :) rfl (oV yt (oV vA (zb (zp ?_))))
 cases hF
 exact sR
 refine oF (oF (oF (oF (oF (oV yj (oV vA (zb (zp ?_))))))))
 cases hF
 exact sR
theorem tri4 {k : Nat} {d_ : zY} {text_ : Tx} {r : Bool} (hF : qv.DefsBack k d_ text_ = some r) :
    xu Tryz.prog 4 [.agg (yB d_ A1 L1 C1 A2 L2 C2 A3 L3 C3 A4 L4 C4 A5 L5 C5).toArray, sV text_] [] [jc 1, fS A1 L1 C1 5 yh d_.Prods, fS A2 L2 C2 1 (w8 2 zD) d_.Chains, fS A3 L3 C3 5 z7 d_.Follows, fS A4 L4 C4 2 z6 d_.Rejects, fS A5 L5 C5 2 xq d_.Boxes] (oR (bV r)) := by
 unfold qv.DefsBack at hF
 refine zt (n := 92) Tryz.func4 rfl Tryz.ntmps4 rfl fun w X => cR (xr rfl rfl rfl fun b => oV vA (zb (zf (cR (oV (vL 0 vI) ?_)))))
 obtain ⟨v, h1, hF⟩ := bd hF
 refine zu call10 rfl (zA 1 rfl (zA 2 rfl (zA 3 rfl (zA 4 rfl (zA 5 rfl zv))))) (tri10 h1 :) rfl (oV vM ?_)
 refine oS 15 hF (fun hF => ?_) (fun hF => ?_)
 refine oF (oF (oF (oV yt (zb ?_))))
 refine xH rfl (fun _ => ?_) (fun h => Bool.noConfusion h)
 refine cR ?_
 obtain ⟨v1, h3, hF⟩ := bd hF
 refine zu call11 rfl (zA 0 rfl zv) (tri11 h3 :) rfl (oV vA (zb (zp ?_)))
 cases hF
 exact sR
 refine oN (oV vM (oN (oV (yo Tryz.underlying9 rfl) (oN (oV vB (oV yj (zb ?_)))))))
 refine cC hF (fun hF => ?_) (fun hF => ?_)
 refine cR ?_
 obtain ⟨v2, h5, hF⟩ := bd hF
 refine zu call11 rfl (zA 0 rfl zv) (tri11 h5 :) rfl (oV vA (zb (zp ?_)))
 cases hF
 exact sR
 refine zk (ze (cR (oV (vL 0 vI) ?_)))
 obtain ⟨v3, h6, hF⟩ := bd hF
 refine zu call13 rfl (zA 0 rfl (zA 1 rfl (zA 2 rfl (zA 3 rfl (zA 4 rfl (zA 5 rfl zv)))))) (tri13 h6 :) rfl (oV vM (oV vX (oV vX (oV vA (oV vA (zb (zf (cR (oV vM (oV vB (zb ?_)))))))))))
 refine cT (fun E H Φ N' => qv.DefsBack_j1 k text_ = some r -> zT E [(0, .agg (yB d_ A1 L1 C1 A2 L2 C2 A3 L3 C3 A4 L4 C4 A5 L5 C5).toArray), (1, sV text_), (2, pt b), (4, bV false), (5, sV v3.1), (6, iI v3.2)] H Φ N') (fun N2 hN2 => ?_) ?_
 refine cC hF (fun hF => ?_) (fun hF => ?_)
 refine cR (oV vM ?_)
 obtain ⟨v14, h26, hF⟩ := bd hF
 refine zV call16 rfl zn (tri16 h26 :) rfl ?_
 rintro _ _ _ ⟨A16, L16, C16, A17, L17, C17, A18, L18, C18, A19, L19, C19, A20, L20, C20, rfl, rfl, rfl⟩
 refine oV vM (oV vX (oV vX (zC ut rfl rfl ?_)))
 intro b5
 refine zC xv rfl rfl fun b6 => (sT 1 vI) ((sT 0 ya) (zb (cR ((fD 1) (oV (vL 0 ty32) (oV vB (oV vM ?_)))))))
 refine oS 36 hF (fun hF => ?_) (fun hF => ?_)
 refine oF (oF (oF (oF (oV yt (zb ?_)))))
 refine xH rfl (fun _ => ?_) (fun h => Bool.noConfusion h)
 refine cR (oV vA (zb (zp ?_)))
 cases hF
 exact sR
 refine oN (oV (vL 1 vI) (oN (oV (vL 2 vI) (oN ?_))))
 obtain ⟨v15, h28, hF⟩ := bd hF
 refine zu call15 rfl (zA 0 rfl (zA 1 rfl (zA 2 rfl (zA 3 rfl (zA 4 rfl (zA 6 rfl (zA 7 rfl (zA 8 rfl (zA 9 rfl (zA 10 rfl zv)))))))))) (tri15 h28 :) rfl (oN (oV vN (oV yj (zb ?_))))
 refine cC hF (fun hF => ?_) (fun hF => ?_)
 refine cR (oV vA (zb (zp ?_)))
 cases hF
 exact sR
 refine zk ?_
 exact sK [2] [5, 6, 7, 8, 9, 10] (hN2 hF)
 refine zk ?_
 exact sK [0] [0, 1, 2, 3, 4, 5] (hN2 hF)
 intro hF
 unfold qv.DefsBack_j1 at hF
 refine ze (cR (oV vM ?_))
 obtain ⟨v4, h7, hF⟩ := bd hF
 refine zV call16 rfl zn (tri16 h7 :) rfl ?_
 rintro _ _ _ ⟨A6, L6, C6, A7, L7, C7, A8, L8, C8, A9, L9, C9, A10, L10, C10, rfl, rfl, rfl⟩
 refine oV vM (oV vX (oV vX (zC ut rfl rfl ?_)))
 intro b1
 refine zC xv rfl rfl fun b2 => (sT 1 vI) ((sT 0 ya) (zb (zf (cR ((fD 1) (oV (vL 0 ty32) (oV vB (zb ?_))))))))
 refine cC hF (fun hF => ?_) (fun hF => ?_)
 refine cR ?_
 obtain ⟨v5, h9, hF⟩ := bd hF
 refine zu call11 rfl (zA 5 rfl zv) (tri11 h9 :) rfl (oV vM ?_)
 refine oS 51 hF (fun hF => ?_) (fun hF => ?_)
 refine oN (oV (vL 1 vI) (oN (oV (vU (.agg #[sV ([] : Tx), sV ([] : Tx), nS, nS, nS, nS, nS])) (oN ?_))))
 obtain ⟨v6, h11, hF⟩ := bd hF
 refine wj (zN 5) (wj (zN 1) (wj (zN 5) (wj (zN 2) (wj (zN 2) (zu call15 rfl (zA 5 rfl (zA 6 rfl (zA 7 rfl (zA 8 rfl (zA 9 rfl (zA 4 rfl (zA 3 rfl (zA 2 rfl (zA 1 rfl (zA 0 rfl zv)))))))))) (tri15 h11 :) rfl (oV yt (oV vA (zb (zp ?_)))))))))
 cases hF
 exact sR
 refine oF (oF (oF (oV yj (oV vA (zb (zp ?_))))))
 cases hF
 exact sR
 refine zk (ze (cR (oV (vL 1 vI) ?_)))
 obtain ⟨v7, h12, hF⟩ := bd hF
 refine zu call13 rfl (zA 5 rfl (zA 0 rfl (zA 1 rfl (zA 2 rfl (zA 3 rfl (zA 4 rfl zv)))))) (tri13 h12 :) rfl (oV vM (oV vX (oV vX (oV vA (oV vA (zb (zf (cR (oV vM (oV vB (zb ?_)))))))))))
 refine cC hF (fun hF => ?_) (fun hF => ?_)
 refine cR ?_
 obtain ⟨v8, h14, hF⟩ := bd hF
 refine zu call11 rfl (zA 5 rfl zv) (tri11 h14 :) rfl (oV vM ?_)
 refine oS 64 hF (fun hF => ?_) (fun hF => ?_)
 refine oN (oV vM (oN (oV vB (oV yt (oV vM ?_)))))
 refine oS 68 hF (fun hF => ?_) (fun hF => ?_)
 refine oN (oV (vL 1 vI) (oN ?_))
 obtain ⟨v9, h17, hF⟩ := bd hF
 refine zu call17 rfl (zA 0 rfl (zA 1 rfl (zA 2 rfl (zA 3 rfl (zA 4 rfl zv))))) (tri17 h17 :) rfl (oV yt (oV vA (zb (zp ?_))))
 cases hF
 exact sR
 refine oF (oF (oV yj (oV vA (zb (zp ?_)))))
 cases hF
 exact sR
 refine oF (oF (oV yj (oV vM (oF (oF (oV yj (oV vA (zb (zp ?_)))))))))
 cases hF
 exact sR
 refine zk (ze (cR (oV vM ?_)))
 obtain ⟨v10, h18, hF⟩ := bd hF
 refine zV call16 rfl zn (tri16 h18 :) rfl ?_
 rintro _ _ _ ⟨A11, L11, C11, A12, L12, C12, A13, L13, C13, A14, L14, C14, A15, L15, C15, rfl, rfl, rfl⟩
 refine oV vM (oV vX (oV vX (zC ut rfl rfl ?_)))
 intro b3
 refine zC xv rfl rfl fun b4 => (sT 1 vI) ((sT 0 ya) (zb (zf ?_)))
 refine cT (fun E H Φ N' => ∀ (t4 : Bool), qv.DefsBack_j2 t4 = some r -> zT E [(0, .agg (yB d_ A1 L1 C1 A2 L2 C2 A3 L3 C3 A4 L4 C4 A5 L5 C5).toArray), (1, sV text_), (2, pt b), (4, bV t4), (5, sV v7.1), (6, iI v7.2), (9, pt b1), (10, pt b2), (11, pt b3), (12, pt b4)] H [jc 1, fS A1 L1 C1 5 yh d_.Prods, fS A2 L2 C2 1 (w8 2 zD) d_.Chains, fS A3 L3 C3 5 z7 d_.Follows, fS A4 L4 C4 2 z6 d_.Rejects, fS A5 L5 C5 2 xq d_.Boxes, fS A11 L11 C11 5 yh v10.1.Prods, fS A12 L12 C12 1 (w8 2 zD) v10.1.Chains, fS A13 L13 C13 5 z7 v10.1.Follows, fS A14 L14 C14 2 z6 v10.1.Rejects, fS A15 L15 C15 2 xq v10.1.Boxes, fS A6 L6 C6 5 yh v4.1.Prods, fS A7 L7 C7 1 (w8 2 zD) v4.1.Chains, fS A8 L8 C8 5 z7 v4.1.Follows, fS A9 L9 C9 2 z6 v4.1.Rejects, fS A10 L10 C10 2 xq v4.1.Boxes] N') (fun N2 hN2 => ?_) ?_
 refine zd ?_
 obtain ⟨v11, h19, hF⟩ := bd hF
 refine zu call11 rfl (zA 10 rfl zv) (tri11 h19 :) rfl (oV vM ?_)
 refine oS 78 hF (fun hF => ?_) (fun hF => ?_)
 refine oN (oV (vL 3 vI) (oN ?_))
 obtain ⟨v12, h21, hF⟩ := bd hF
 refine zu call17 rfl (zA 5 rfl (zA 6 rfl (zA 7 rfl (zA 8 rfl (zA 9 rfl zv))))) (tri17 h21 :) rfl (oV yt (oV vM ?_))
 refine oS 82 hF (fun hF => ?_) (fun hF => ?_)
 refine oN ((fD 1) (oN (oV (vL 0 ty32) (oN (oV vB (oV yt (oV vM ?_)))))))
 refine oS 87 hF (fun hF => ?_) (fun hF => ?_)
 refine oN (oV (vL 3 vI) (oN (oV (vL 1 vI) (oN ?_))))
 obtain ⟨v13, h24, hF⟩ := bd hF
 refine zu call15 rfl (zA 5 rfl (zA 6 rfl (zA 7 rfl (zA 8 rfl (zA 9 rfl (zA 0 rfl (zA 1 rfl (zA 2 rfl (zA 3 rfl (zA 4 rfl zv)))))))))) (tri15 h24 :) rfl (oV yt (oV vA (zh ?_)))
 exact sK [0, 0, 0, 0, 0] [10, 11, 12, 13, 14, 15, 0, 1, 2, 3, 4, 5, 6, 7, 8, 9] (hN2 v13 hF)
 refine oF (oF (oF (oV yj (oV vA (zh ?_)))))
 exact sK [0, 0, 0, 0, 0] [10, 11, 12, 13, 14, 15, 0, 1, 2, 3, 4, 5, 6, 7, 8, 9] (hN2 false hF)
 refine oF (oF (oF (oV yj (oV vM (oF (oF (oF (oV yj (oV vA (zh ?_))))))))))
 exact sK [0, 0, 0, 0, 0] [10, 11, 12, 13, 14, 15, 0, 1, 2, 3, 4, 5, 6, 7, 8, 9] (hN2 false hF)
 refine oF (oF (oV yj (oV vM (oF (oF (oF (oV yj (oV vM (oF (oF (oF (oV yj (oV vA (zh ?_))))))))))))))
 exact sK [0, 0, 0, 0, 0] [10, 11, 12, 13, 14, 15, 0, 1, 2, 3, 4, 5, 6, 7, 8, 9] (hN2 false hF)
 intro t4 hF
 unfold qv.DefsBack_j2 at hF
 refine ze (zp ?_)
 cases hF
 exact sR
end Go.Vc
