import Derived.Test.YtdbnoblklhgdoaaGreatDoorVV
import Derived.Test.YtdbnoblklhgdoaaGreatDoorTT
set_option linter.unusedVariables false
set_option linter.unusedSimpArgs false
set_option maxRecDepth 8000
set_option maxHeartbeats 2000000
namespace Go.Vc
open Go Go.Proofs
variable {A1 A2 A3 A4 A5 A6 A7 A8 A9 A10 A11 : OA} {L1 C1 L2 C2 L3 C3 L4 C4 L5 C5 L6 C6 L7 C7 L8 C8 L9 C9 L10 C10 L11 C11 : Nat}
@[reducible] def P68 (g68 : List Item -> Int -> Option Int) : Prop := ∀ {l__ : List Item} {most : Int} {A1 : OA} {L1 C1 : Nat} {r : Int}, g68 l__ most = some r -> xu Tryz.prog 68 [sl A1 L1 C1, iI most] [] [fS A1 L1 C1 4 zR l__] (oR (iI r))
@[reducible] def bR (b : Nat) (A1 : OA) (L1 C1 : Nat) (at_ : Int) (s y : Tx) (A2 : OA) (L2 C2 : Nat) (A3 : OA) (L3 C3 : Nat) (A4 : OA) (L4 C4 : Nat) (A5 : OA) (L5 C5 : Nat) (A6 : OA) (L6 C6 : Nat) (f g : Bool) (n : Int) : HB := .box b 87 [sl A1 L1 C1, iI at_, sV s, sV y, sl A2 L2 C2, sl A3 L3 C3, sl A4 L4 C4, sl A5 L5 C5, sl A6 L6 C6, bV f, bV g, iI n]
@[reducible] def bQ (b : Nat) (A1 : OA) (L1 C1 : Nat) (A2 : OA) (L2 C2 : Nat) (A3 : OA) (L3 C3 : Nat) (A4 : OA) (L4 C4 : Nat) (A5 : OA) (L5 C5 : Nat) (A6 : OA) (L6 C6 : Nat) (x : za) : HB := .box b 87 [sl A1 L1 C1, iI x.at_, sV x.d.Start, sV x.d.Layout, sl A2 L2 C2, sl A3 L3 C3, sl A4 L4 C4, sl A5 L5 C5, sl A6 L6 C6, bV x.start, bV x.layout, iI x.items]
@[reducible] def r6 (A2 : OA) (L2 C2 : Nat) (A3 : OA) (L3 C3 : Nat) (A4 : OA) (L4 C4 : Nat) (A5 : OA) (L5 C5 : Nat) (A6 : OA) (L6 C6 : Nat) (p : List Prod) (c : List (List zw)) (f : List Follow) (r : List zz) (x : List xm) : List HB := [rW A2 L2 C2 57 5 yh p, rW A3 L3 C3 58 1 (w8 2 zD) c, rW A4 L4 C4 48 5 z7 f, rW A5 L5 C5 78 2 z6 r, rW A6 L6 C6 64 2 xq x]
@[reducible] def r5 (A2 : OA) (L2 C2 : Nat) (A3 : OA) (L3 C3 : Nat) (A4 : OA) (L4 C4 : Nat) (A5 : OA) (L5 C5 : Nat) (A6 : OA) (L6 C6 : Nat) (d : zY) : List HB := [rW A2 L2 C2 57 5 yh d.Prods, rW A3 L3 C3 58 1 (w8 2 zD) d.Chains, rW A4 L4 C4 48 5 z7 d.Follows, rW A5 L5 C5 78 2 z6 d.Rejects, rW A6 L6 C6 64 2 xq d.Boxes]
theorem tri68_B (k : Nat) (g68 : List Item -> Int -> Option Int)
    (hg68 : P68 g68) {l__ : List Item} {most : Int} {A1 : OA} {L1 C1 : Nat} {r : Int} (hF : qr.itemParts_B k g68 l__ most = some r) :
    xu Tryz.prog 68 [sl A1 L1 C1, iI most] [] [fS A1 L1 C1 4 zR l__] (oR (iI r)) := by
 unfold qr.itemParts_B at hF
 refine zt (n := 30) Tryz.func68 rfl Tryz.ntmps68 rfl fun w X => cR (oV vA (zb (cR (oV vM (oV (zL (enc := zR) l__ kT rfl (.f 0 rfl)) (oV vA (zb (zf (cR (oV vA (zb ?_)))))))))))
 obtain ⟨o1, ho1, hF⟩ := bd hF
 refine cT (fun E H Φ N' => zT E [(0, sl A1 L1 C1), (4, iI 0), (5, iI o1)] [] Φ N') (fun N1 hN1 => ?_) ?_
 refine zq ?_
 refine cL (fun E H Φ j a w => ∃ (n : Int) (i : Int), qr.itemParts_l1 l__ g68 most j n i = some o1 /\ St E [(0, sl A1 L1 C1), (1, iI most), (4, iI 0), (5, iI n), (6, iI i)] [] Φ a w) k ?_ ?_
 exact lq [] [0] fun a w hs => ⟨(l__.length : Int), 0, ho1, hs⟩
 rintro j a w ⟨n, i, hL1, hs⟩
 rcases j with _ | j
 cases hL1
 refine yd hs ?_
 unfold qr.itemParts_l1 at hL1
 refine zf (zf ?_)
 refine cT (fun E H Φ N' => ∀ (t17 : Bool), qr.itemParts_j2 i l__ g68 most (qr.itemParts_l1 l__ g68 most j) n t17 = some o1 -> zT E [(0, sl A1 L1 C1), (1, iI most), (4, iI 0), (5, iI n), (6, iI i), (17, bV t17)] [] Φ N') (fun N2 hN2 => ?_) ?_
 refine zd (oV vM (oV vM (oV (zL (enc := zR) l__ kT rfl (.f 0 rfl)) (oV vB (oV vM ?_)))))
 refine oS 13 hL1 (fun hL1 => ?_) (fun hL1 => ?_)
 refine oN (oV vM (oN (oV vM (oN (oV vB (oV yt (zh ?_)))))))
 exact sK [] [0] (hN2 (decide (n <= most)) hL1)
 refine oF (oF (oF (oV yj (zh ?_))))
 exact sK [] [0] (hN2 false hL1)
 intro t17 hL1
 unfold qr.itemParts_j2 at hL1
 refine ze ?_
 refine cC hL1 (fun hL1 => ?_) (fun hL1 => ?_)
 refine zk (ze (zf (zq (zd (oV vM (oV vM (oV vM (zc hL1 ?_))))))))
 intro h2 hL1
 refine oV (zi (xs := l__) (enc := zR) kT rfl rfl (.f 0 rfl) h2) (oV (zI (v := .pointer (some ⟨yW A1, yZ A1 + (Int.toNat i * 4 + 3), none⟩)) rfl (fun _ => by kernel_rfl)) (yq (ds := [.slice 4 (((at_ l__ i).Items).map zR)]) (xs := l__) (enc := zR) jQ rfl (.f 0 rfl) h2 (by simp only [xD] <;> rfl) rfl rfl rfl rfl rfl ?_))
 intro A2 L2 C2
 refine oV vM ?_
 obtain ⟨v, h3, hL1⟩ := bd hL1
 refine zu call68 rfl (zA 0 rfl zv) (hg68 h3 :) rfl (oV vB (oV vA (zh (ze (zd (oV vM (oV vB (oV vA (zh ?_)))))))))
 exact lp [] [1] fun a w hs => ⟨IntKind.wrap .i64 (n + v), IntKind.wrap .i64 (i + 1), hL1, hs⟩
 refine zW ?_
 cases hL1
 exact sK [] [0] (hN1)
 refine ze (cR (oV vM (oV vA (zb (zp ?_)))))
 cases hF
 exact sR
theorem tri68 (k : Nat) : (P68 (qr.itemParts k)) := by
 induction k with
 | zero => exact fun h => nomatch (show none = some _ from h)
 | succ k ih => exact tri68_B k _ ih
theorem tri24 {k : Nat} {d_ : zY} {most : Int} {r : Int} (hF : qr.Parts k d_ most = some r) :
    xu Tryz.prog 24 [.agg (yB d_ A1 L1 C1 A2 L2 C2 A3 L3 C3 A4 L4 C4 A5 L5 C5).toArray, iI most] [] [fS A1 L1 C1 5 yh d_.Prods, fS A2 L2 C2 1 (w8 2 zD) d_.Chains, fS A3 L3 C3 5 z7 d_.Follows, fS A4 L4 C4 2 z6 d_.Rejects, fS A5 L5 C5 2 xq d_.Boxes] (oR (iI r)) := by
 unfold qr.Parts at hF
 refine zt (n := 120) Tryz.func24 rfl Tryz.ntmps24 rfl fun w X => cR (xr rfl rfl rfl fun b => oV vA (zb (cR ((fD 2) (oV (vL 0 kR) (oV (zL (enc := yh) d_.Prods vK rfl (.f 0 rfl)) ((fD 3) (oV (vL 0 ty23) (oV (zL (enc := (w8 2 zD)) d_.Chains jx rfl (.f 1 rfl)) (oV vB ((fD 4) ?_)))))))))))
 refine oV (vL 0 gl) (oV (zL (enc := z7) d_.Follows qw rfl (.f 2 rfl)) (oV vB ((fD 5) (oV (vL 0 gk) (oV (zL (enc := z6) d_.Rejects qv rfl (.f 3 rfl)) (oV vB ((fD 6) (oV (vL 0 jC) (oV (zL (enc := xq) d_.Boxes jw rfl (.f 4 rfl)) (oV vB (oV vA (zb (zf (cR ?_))))))))))))))
 refine oV vA (zb ?_)
 obtain ⟨o1, ho1, hF⟩ := bd hF
 refine cT (fun E H Φ N' => zT E [(0, .agg (yB d_ A1 L1 C1 A2 L2 C2 A3 L3 C3 A4 L4 C4 A5 L5 C5).toArray), (1, iI most), (2, pt b), (4, iI 0), (5, iI o1)] H Φ N') (fun N1 hN1 => ?_) ?_
 refine zq ?_
 refine cL (fun E H Φ j a w => ∃ (n : Int) (i : Int), qr.Parts_l1 d_ most j n i = some o1 /\ St E [(0, .agg (yB d_ A1 L1 C1 A2 L2 C2 A3 L3 C3 A4 L4 C4 A5 L5 C5).toArray), (1, iI most), (2, pt b), (4, iI 0), (5, iI n), (6, iI i)] H Φ a w) k ?_ ?_
 exact lq [0] [0, 1, 2, 3, 4] fun a w hs => ⟨IntKind.wrap .i64 ((IntKind.wrap .i64 ((IntKind.wrap .i64 ((IntKind.wrap .i64 ((d_.Prods.length : Int) + (d_.Chains.length : Int))) + (d_.Follows.length : Int))) + (d_.Rejects.length : Int))) + (d_.Boxes.length : Int)), 0, ho1, hs⟩
 rintro j a w ⟨n, i, hL1, hs⟩
 rcases j with _ | j
 cases hL1
 refine yd hs ?_
 unfold qr.Parts_l1 at hL1
 refine zf (zf ?_)
 refine cT (fun E H Φ N' => ∀ (t38 : Bool), qr.Parts_j2 i d_ (qr.Parts_l1 d_ most j) n t38 = some o1 -> zT E [(0, .agg (yB d_ A1 L1 C1 A2 L2 C2 A3 L3 C3 A4 L4 C4 A5 L5 C5).toArray), (1, iI most), (2, pt b), (4, iI 0), (5, iI n), (6, iI i), (38, bV t38)] H Φ N') (fun N2 hN2 => ?_) ?_
 refine zd (oV vM ((fD 2) (oV (vL 0 kR) (oV (zL (enc := yh) d_.Prods vK rfl (.f 0 rfl)) (oV vB (oV vM ?_))))))
 refine oS 34 hL1 (fun hL1 => ?_) (fun hL1 => ?_)
 refine oN (oV vM (oN (oV vM (oN (oV vB (oV yt (zh ?_)))))))
 exact sK [0] [0, 1, 2, 3, 4] (hN2 (decide (n <= most)) hL1)
 refine oF (oF (oF (oV yj (zh ?_))))
 exact sK [0] [0, 1, 2, 3, 4] (hN2 false hL1)
 intro t38 hL1
 unfold qr.Parts_j2 at hL1
 refine ze ?_
 refine cC hL1 (fun hL1 => ?_) (fun hL1 => ?_)
 refine zk (ze (zf (zq (zd (oV vM ((fD 2) (oV (vL 0 kR) (oV vM (zc hL1 ?_)))))))))
 intro h2 hL1
 refine oV (zi (xs := d_.Prods) (enc := yh) vK rfl rfl (.f 0 rfl) h2) (oV (zI (v := .pointer (some ⟨yW A1, yZ A1 + (Int.toNat i * 5 + 4), none⟩)) rfl (fun _ => by kernel_rfl)) (yq (xs := d_.Prods) (enc := yh) ty55 rfl (.f 0 rfl) h2 rfl rfl rfl rfl rfl rfl ?_))
 intro A6 L6 C6
 refine oV (zL (enc := wn) ((at_ d_.Prods i).Syms) gn rfl (.f 0 rfl)) (oV vB (oV vA ?_))
 refine zh (ze (zd (oV vM (oV vB (oV vA (zh ?_))))))
 exact lp [0] [1, 2, 3, 4, 5] fun a w hs => ⟨IntKind.wrap .i64 (n + (((at_ d_.Prods i).Syms).length : Int)), IntKind.wrap .i64 (i + 1), hL1, hs⟩
 refine zW ?_
 cases hL1
 exact sK [0] [0, 1, 2, 3, 4] (hN1)
 refine ze (zf (cR (oV vA (zb ?_))))
 obtain ⟨o3, ho3, hF⟩ := bd hF
 refine cT (fun E H Φ N' => zT E [(0, .agg (yB d_ A1 L1 C1 A2 L2 C2 A3 L3 C3 A4 L4 C4 A5 L5 C5).toArray), (1, iI most), (2, pt b), (4, iI 0), (5, iI o3)] H Φ N') (fun N3 hN3 => ?_) ?_
 refine zq ?_
 refine cL (fun E H Φ j a w => ∃ (n1 : Int) (i1 : Int), qr.Parts_l3 k d_ most j n1 i1 = some o3 /\ St E [(0, .agg (yB d_ A1 L1 C1 A2 L2 C2 A3 L3 C3 A4 L4 C4 A5 L5 C5).toArray), (1, iI most), (2, pt b), (4, iI 0), (5, iI n1), (7, iI i1)] H Φ a w) k ?_ ?_
 exact lq [0] [0, 1, 2, 3, 4] fun a w hs => ⟨o1, 0, ho3, hs⟩
 rintro j a w ⟨n1, i1, hL3, hs⟩
 rcases j with _ | j
 cases hL3
 refine yd hs ?_
 unfold qr.Parts_l3 at hL3
 refine zf (zf ?_)
 refine cT (fun E H Φ N' => ∀ (t59 : Bool), qr.Parts_j4 k i1 d_ most n1 (qr.Parts_l3 k d_ most j) t59 = some o3 -> zT E [(0, .agg (yB d_ A1 L1 C1 A2 L2 C2 A3 L3 C3 A4 L4 C4 A5 L5 C5).toArray), (1, iI most), (2, pt b), (4, iI 0), (5, iI n1), (7, iI i1), (59, bV t59)] H Φ N') (fun N6 hN6 => ?_) ?_
 refine zd (oV vM ((fD 3) (oV (vL 0 ty23) (oV (zL (enc := (w8 2 zD)) d_.Chains jx rfl (.f 1 rfl)) (oV vB (oV vM ?_))))))
 refine oS 55 hL3 (fun hL3 => ?_) (fun hL3 => ?_)
 refine oN (oV vM (oN (oV vM (oN (oV vB (oV yt (zh ?_)))))))
 exact sK [0] [0, 1, 2, 3, 4] (hN6 (decide (n1 <= most)) hL3)
 refine oF (oF (oF (oV yj (zh ?_))))
 exact sK [0] [0, 1, 2, 3, 4] (hN6 false hL3)
 intro t59 hL3
 unfold qr.Parts_j4 at hL3
 refine ze ?_
 refine cC hL3 (fun hL3 => ?_) (fun hL3 => ?_)
 refine zk (ze (zf (zq (cR (oV vM ((fD 3) (oV (vL 0 ty23) (oV vM (zc hL3 ?_)))))))))
 intro h5 hL3
 refine oV (zi (xs := d_.Chains) (enc := (w8 2 zD)) jx rfl rfl (.f 1 rfl) h5) (yq (xs := d_.Chains) (enc := (w8 2 zD)) ty58 rfl (.f 1 rfl) h5 rfl rfl rfl rfl rfl rfl ?_)
 intro A7 L7 C7
 refine oV (zL (enc := zD) (at_ d_.Chains i1) jF rfl (.f 0 rfl)) (oV vB (oV vA ?_))
 refine zb (cR (oV vA (zb ?_)))
 obtain ⟨o5, ho5, hL3⟩ := bd hL3
 refine cT (fun E H Φ N' => zT E [(0, .agg (yB d_ A1 L1 C1 A2 L2 C2 A3 L3 C3 A4 L4 C4 A5 L5 C5).toArray), (1, iI most), (2, pt b), (4, iI 0), (5, iI o5.1), (7, iI i1), (8, iI o5.2)] H [fS A1 L1 C1 5 yh d_.Prods, fS A2 L2 C2 1 (w8 2 zD) d_.Chains, fS A3 L3 C3 5 z7 d_.Follows, fS A4 L4 C4 2 z6 d_.Rejects, fS A5 L5 C5 2 xq d_.Boxes] N') (fun N5 hN5 => ?_) ?_
 refine zq ?_
 refine cL (fun E H Φ j a w => ∃ (n2 : Int) (k_ : Int), qr.Parts_l5 d_ i1 most j n2 k_ = some o5 /\ St E [(0, .agg (yB d_ A1 L1 C1 A2 L2 C2 A3 L3 C3 A4 L4 C4 A5 L5 C5).toArray), (1, iI most), (2, pt b), (4, iI 0), (5, iI n2), (7, iI i1), (8, iI k_)] H [fS A1 L1 C1 5 yh d_.Prods, fS A2 L2 C2 1 (w8 2 zD) d_.Chains, fS A3 L3 C3 5 z7 d_.Follows, fS A4 L4 C4 2 z6 d_.Rejects, fS A5 L5 C5 2 xq d_.Boxes] a w) k ?_ ?_
 exact lq [0] [1, 2, 3, 4, 5] fun a w hs => ⟨IntKind.wrap .i64 (n1 + ((at_ d_.Chains i1).length : Int)), 0, ho5, hs⟩
 rintro j a w ⟨n2, k_, hL5, hs⟩
 rcases j with _ | j
 cases hL5
 refine yd hs ?_
 unfold qr.Parts_l5 at hL5
 refine zf (zf ?_)
 refine cT (fun E H Φ N' => ∀ (t82 : Bool), qr.Parts_j6 k_ d_ i1 (qr.Parts_l5 d_ i1 most j) n2 t82 = some o5 -> zT E [(0, .agg (yB d_ A1 L1 C1 A2 L2 C2 A3 L3 C3 A4 L4 C4 A5 L5 C5).toArray), (1, iI most), (2, pt b), (4, iI 0), (5, iI n2), (7, iI i1), (8, iI k_), (82, bV t82)] H Φ N') (fun N6 hN6 => ?_) ?_
 refine zd (oV vM ((fD 3) (oV (vL 0 ty23) (oV vM (oV (zi (xs := d_.Chains) (enc := (w8 2 zD)) jx rfl rfl (.f 1 rfl) h5) (yq (xs := d_.Chains) (enc := (w8 2 zD)) ty58 rfl (.f 1 rfl) h5 rfl rfl rfl rfl rfl rfl ?_))))))
 intro A10 L10 C10
 refine oV (zL (enc := zD) (at_ d_.Chains i1) jF rfl (.f 0 rfl)) (oV vB (oV vM ?_))
 refine oS 78 hL5 (fun hL5 => ?_) (fun hL5 => ?_)
 refine oN (oV vM (oN (oV vM (oN (oV vB (oV yt (zh ?_)))))))
 exact sK [0] [1, 2, 3, 4, 5] (hN6 (decide (n2 <= most)) hL5)
 refine oF (oF (oF (oV yj (zh ?_))))
 exact sK [0] [1, 2, 3, 4, 5] (hN6 false hL5)
 intro t82 hL5
 unfold qr.Parts_j6 at hL5
 refine ze ?_
 refine cC hL5 (fun hL5 => ?_) (fun hL5 => ?_)
 refine zk (ze (zf (zq (zd (oV vM ((fD 3) (oV (vL 0 ty23) (oV vM (oV (zi (xs := d_.Chains) (enc := (w8 2 zD)) jx rfl rfl (.f 1 rfl) h5) (yq (xs := d_.Chains) (enc := (w8 2 zD)) ty58 rfl (.f 1 rfl) h5 rfl rfl rfl rfl rfl rfl ?_))))))))))
 intro A8 L8 C8
 refine oV vM (zc hL5 ?_)
 intro h7 hL5
 refine oV (zi (xs := at_ d_.Chains i1) (enc := zD) jF rfl rfl (.f 0 rfl) h7) (oV (zI (v := .pointer (some ⟨yW A8, yZ A8 + (Int.toNat k_ * 2 + 1), none⟩)) rfl (fun _ => by kernel_rfl)) (yq (xs := at_ d_.Chains i1) (enc := zD) ja rfl (.f 0 rfl) h7 rfl rfl rfl rfl rfl rfl ?_))
 intro A9 L9 C9
 refine ?_
 refine oV (zL (enc := xn) ((at_ (at_ d_.Chains i1) k_).Cons) vy rfl (.f 0 rfl)) (oV vB (oV vA (zh (ze (zd (oV vM (oV vB (oV vA (zh ?_)))))))))
 exact lp [0] [2, 3, 4, 5, 6] fun a w hs => ⟨IntKind.wrap .i64 (n2 + (((at_ (at_ d_.Chains i1) k_).Cons).length : Int)), IntKind.wrap .i64 (k_ + 1), hL5, hs⟩
 refine zW ?_
 cases hL5
 exact sK [0] [0, 1, 2, 3, 4] (hN5)
 refine ze (zd (oV vM (oV vB (oV vA (zh ?_)))))
 exact lp [0] [0, 1, 2, 3, 4] fun a w hs => ⟨o5.1, IntKind.wrap .i64 (i1 + 1), hL3, hs⟩
 refine zW ?_
 cases hL3
 exact sK [0] [0, 1, 2, 3, 4] (hN3)
 refine ze (zf (cR (oV vA (zb ?_))))
 obtain ⟨o7, ho7, hF⟩ := bd hF
 refine cT (fun E H Φ N' => zT E [(0, .agg (yB d_ A1 L1 C1 A2 L2 C2 A3 L3 C3 A4 L4 C4 A5 L5 C5).toArray), (1, iI most), (2, pt b), (4, iI 0), (5, iI o7)] H Φ N') (fun N7 hN7 => ?_) ?_
 refine zq ?_
 refine cL (fun E H Φ j a w => ∃ (n3 : Int) (i2 : Int), qr.Parts_l7 k d_ most j n3 i2 = some o7 /\ St E [(0, .agg (yB d_ A1 L1 C1 A2 L2 C2 A3 L3 C3 A4 L4 C4 A5 L5 C5).toArray), (1, iI most), (2, pt b), (4, iI 0), (5, iI n3), (9, iI i2)] H Φ a w) k ?_ ?_
 exact lq [0] [0, 1, 2, 3, 4] fun a w hs => ⟨o3, 0, ho7, hs⟩
 rintro j a w ⟨n3, i2, hL7, hs⟩
 rcases j with _ | j
 cases hL7
 refine yd hs ?_
 unfold qr.Parts_l7 at hL7
 refine zf (zf ?_)
 refine cT (fun E H Φ N' => ∀ (t106 : Bool), qr.Parts_j8 k i2 d_ most (qr.Parts_l7 k d_ most j) n3 t106 = some o7 -> zT E [(0, .agg (yB d_ A1 L1 C1 A2 L2 C2 A3 L3 C3 A4 L4 C4 A5 L5 C5).toArray), (1, iI most), (2, pt b), (4, iI 0), (5, iI n3), (9, iI i2), (106, bV t106)] H Φ N') (fun N8 hN8 => ?_) ?_
 refine zd (oV vM ((fD 6) (oV (vL 0 jC) (oV (zL (enc := xq) d_.Boxes jw rfl (.f 4 rfl)) (oV vB (oV vM ?_))))))
 refine oS 102 hL7 (fun hL7 => ?_) (fun hL7 => ?_)
 refine oN (oV vM (oN (oV vM (oN (oV vB (oV yt (zh ?_)))))))
 exact sK [0] [0, 1, 2, 3, 4] (hN8 (decide (n3 <= most)) hL7)
 refine oF (oF (oF (oV yj (zh ?_))))
 exact sK [0] [0, 1, 2, 3, 4] (hN8 false hL7)
 intro t106 hL7
 unfold qr.Parts_j8 at hL7
 refine ze ?_
 refine cC hL7 (fun hL7 => ?_) (fun hL7 => ?_)
 refine zk (ze (zf (zq (zd (oV vM ((fD 6) (oV (vL 0 jC) (oV vM (zc hL7 ?_)))))))))
 intro h11 hL7
 refine oV (zi (xs := d_.Boxes) (enc := xq) jw rfl rfl (.f 4 rfl) h11) (oV (zI (v := .pointer (some ⟨yW A5, yZ A5 + (Int.toNat i2 * 2 + 1), none⟩)) rfl (fun _ => by kernel_rfl)) (yq (xs := d_.Boxes) (enc := xq) jQ rfl (.f 4 rfl) h11 rfl rfl rfl rfl rfl rfl ?_))
 intro A11 L11 C11
 refine oV vM ?_
 obtain ⟨v, h12, hL7⟩ := bd hL7
 refine zu call68 rfl (zA 0 rfl zv) ((tri68 _) h12 :) rfl (oV vB (oV vA (zh (ze (zd (oV vM (oV vB (oV vA (zh ?_)))))))))
 exact lp [0] [1, 2, 3, 4, 5] fun a w hs => ⟨IntKind.wrap .i64 (n3 + v), IntKind.wrap .i64 (i2 + 1), hL7, hs⟩
 refine zW ?_
 cases hL7
 exact sK [0] [0, 1, 2, 3, 4] (hN7)
 refine ze (cR (oV vM (oV vA (zb (zp ?_)))))
 cases hF
 exact sR
theorem tri10 {k : Nat} {d_ : zY} {r : Bool} (hF : qv.heavy k d_ = some r) :
    xu Tryz.prog 10 [.agg (yB d_ A1 L1 C1 A2 L2 C2 A3 L3 C3 A4 L4 C4 A5 L5 C5).toArray] [] [fS A1 L1 C1 5 yh d_.Prods, fS A2 L2 C2 1 (w8 2 zD) d_.Chains, fS A3 L3 C3 5 z7 d_.Follows, fS A4 L4 C4 2 z6 d_.Rejects, fS A5 L5 C5 2 xq d_.Boxes] (oR (bV r)) := by
 unfold qv.heavy at hF
 refine zt (n := 6) Tryz.func10 rfl Tryz.ntmps10 rfl fun w X => cR (xr rfl rfl rfl fun b => oV vA (zb (cR (oV (vL 0 vI) ?_))))
 obtain ⟨v, h1, hF⟩ := bd hF
 refine zu call24 rfl (zA 0 rfl (zA 1 rfl (zA 2 rfl (zA 3 rfl (zA 4 rfl zv))))) (tri24 h1 :) rfl (oV vB (oV vA (zb (zp ?_))))
 cases hF
 exact sR
theorem tri47 {k : Nat} {s : zm} {b : Nat} {r : zm} (hF : qw.scanner_skip k s = some r) :
    xu Tryz.prog 47 [pt b] [.box b 102 (y8 s A1 L1 C1), rW A1 L1 C1 106 11 zB s.out] [] (fun o H Φ => o = .ret (.tuple #[]) /\ H = [.box b 102 (y8 r A1 L1 C1), rW A1 L1 C1 106 11 zB s.out] /\ Φ = []) := by
 unfold qw.scanner_skip at hF
 refine zt (n := 80) Tryz.func47 rfl Tryz.ntmps47 rfl fun w X => ?_
 obtain ⟨o1, ho1, hF⟩ := bd hF
 refine z8 (fun E N' => ∀ (d1 : Int × Int × Int), o1 = .done d1 -> zT E [] [.box b 102 [sV s.text, iI d1.1, iI d1.2.1, iI d1.2.2, sl A1 L1 C1], rW A1 L1 C1 106 11 zB s.out] [] N') (fun N1 hN1 => ?_) ?_
 refine zq ?_
 refine xG (fun E j a w => ∃ (at__ : Int) (line_ : Int) (top_ : Int), qw.scanner_skip_l1 k s j at__ line_ top_ = some o1 /\ St E [(0, pt b)] [.box b 102 [sV s.text, iI at__, iI line_, iI top_, sl A1 L1 C1], rW A1 L1 C1 106 11 zB s.out] [] a w) k ?_ ?_
 exact lq [0, 0] [] fun a w hs => ⟨s.at_, s.line, s.top, ho1, hs⟩
 rintro j a w ⟨at__, line_, top_, hL1, hs⟩
 rcases j with _ | j
 cases hL1
 refine yd hs ?_
 unfold qw.scanner_skip_l1 at hL1
 refine zf (zf (zP (n := 10) [0, 0] mixed rfl rfl (dv 0 rfl vM (dv 1 rfl vC (dv 2 rfl (vF 1) (dv 3 rfl (vL 0 yz) (dv 4 rfl vM (dv 5 rfl vC (dv 6 rfl (vF 0) (dv 7 rfl (vL 0 xE) (dv 8 rfl (yo Tryz.underlying9 rfl) (dv 9 rfl vB (zG (by kernel_rfl) ?_)))))))))))))
 refine cC hL1 (fun hL1 => ?_) (fun hL1 => ?_)
 refine zk (ze ?_)
 refine z8 (fun E N' => ∀ (at__1 : Int) (line_1 : Int) (top_1 : Int), qw.scanner_skip_j2 (qw.scanner_skip_l1 k s j) at__1 line_1 top_1 = some o1 -> zT E [(0, pt b), (20, iB (yk s.text at__))] [.box b 102 [sV s.text, iI at__1, iI line_1, iI top_1, sl A1 L1 C1], rW A1 L1 C1 106 11 zB s.out] [] N') (fun N2 hN2 => ?_) ?_
 refine zq (zf (zf (zP (n := 9) [0, 0] mixed rfl rfl (dv 0 rfl vM (dv 1 rfl vC (dv 2 rfl (vF 0) (dv 3 rfl (vL 0 xE) (dv 4 rfl vM (dv 5 rfl vC (dv 6 rfl (vF 1) (dv 7 rfl (vL 0 yz) (zc hL1 ?_))))))))))))
 intro h2 hL1
 refine dv 8 rfl (yw Tryz.underlying9 rfl rfl h2) (zG (by kernel_rfl) ?_)
 refine z8 (fun E N' => ∀ (line_2 : Int) (top_2 : Int), qw.scanner_skip_j3 (qw.scanner_skip_l1 k s j) at__ line_2 top_2 = some o1 -> zT E [(0, pt b), (20, iB (yk s.text at__))] [.box b 102 [sV s.text, iI at__, iI line_2, iI top_2, sl A1 L1 C1], rW A1 L1 C1 106 11 zB s.out] [] N') (fun N3 hN3 => ?_) ?_
 refine zq (cR (oV vB (oV vA (zb ?_))))
 refine z8 (fun E N' => ∀ (line_3 : Int) (top_3 : Int), qw.scanner_skip_j4 (qw.scanner_skip_l1 k s j) at__ line_3 top_3 = some o1 -> zT E [(0, pt b), (20, iB (yk s.text at__))] [.box b 102 [sV s.text, iI at__, iI line_3, iI top_3, sl A1 L1 C1], rW A1 L1 C1 106 11 zB s.out] [] N') (fun N4 hN4 => ?_) ?_
 refine cC hL1 (fun hL1 => ?_) (fun hL1 => ?_)
 refine cR (oV vM (oV vC ((fD 2) (oV (vL 0 yz) (oV vB (oV vC ((fD 2) ((sT 0 yz) (zb (zd (oV vM (oV vM (oV vC ((fD 1) ?_))))))))))))))
 refine oV (vL 0 yz) (oV vB (oV vC ((fD 3) ((sT 0 yz) (zh ?_)))))
 exact sK [0, 0] [] (hN4 (IntKind.wrap .i64 (line_ + 1)) (IntKind.wrap .i64 (at__ + 1)) hL1)
 refine zf (cR (oV vB (oV vA (zb ?_))))
 refine cT (fun E H Φ N' => ∀ (t38 : Bool), qw.scanner_skip_j5 k (qw.scanner_skip_l1 k s j) at__ line_ top_ s t38 = some o1 -> zT E [(0, pt b), (20, iB (yk s.text at__)), (38, bV t38)] H [] N') (fun N7 hN7 => ?_) ?_
 refine cC hL1 (fun hL1 => ?_) (fun hL1 => ?_)
 refine zk ?_
 exact sK [0, 0] [] (hN7 ((yk s.text at__) == 32) hL1)
 refine cR (oV vB (oV vA (zb ?_)))
 refine cT (fun E H Φ N' => ∀ (t381 : Bool), qw.scanner_skip_j8 k (qw.scanner_skip_l1 k s j) at__ line_ top_ s t381 = some o1 -> zT E [(0, pt b), (20, iB (yk s.text at__)), (38, bV t381)] H [] N') (fun N8 hN8 => ?_) ?_
 refine cC hL1 (fun hL1 => ?_) (fun hL1 => ?_)
 refine zk ?_
 exact sK [0, 0] [] (hN8 ((yk s.text at__) == 9) hL1)
 refine zd (oV vB (oV vA (zh ?_)))
 exact sK [0, 0] [] (hN8 ((yk s.text at__) == 13) hL1)
 intro t381 hL1
 unfold qw.scanner_skip_j8 at hL1
 exact sK [0, 0] [] (hN7 t381 hL1)
 intro t38 hL1
 unfold qw.scanner_skip_j5 at hL1
 refine ze ?_
 refine cC hL1 (fun hL1 => ?_) (fun hL1 => ?_)
 refine zk ?_
 exact sK [0, 0] [] (hN4 line_ top_ hL1)
 refine cR (oV vB (oV vA (zb ?_)))
 refine cC hL1 (fun hL1 => ?_) (fun hL1 => ?_)
 refine zf ?_
 obtain ⟨o6, ho6, hL1⟩ := bd hL1
 refine z8 (fun E N' => zT E [(0, pt b), (20, iB (yk s.text at__)), (38, bV t38)] [.box b 102 [sV s.text, iI o6, iI line_, iI top_, sl A1 L1 C1], rW A1 L1 C1 106 11 zB s.out] [] N') (fun N6 hN6 => ?_) ?_
 refine zq ?_
 refine xG (fun E j a w => ∃ (at__2 : Int), qw.scanner_skip_l6 s j at__2 = some o6 /\ St E [(0, pt b), (20, iB (yk s.text at__)), (38, bV t38)] [.box b 102 [sV s.text, iI at__2, iI line_, iI top_, sl A1 L1 C1], rW A1 L1 C1 106 11 zB s.out] [] a w) k ?_ ?_
 exact lq [0, 0] [] fun a w hs => ⟨at__, ho6, hs⟩
 rintro j a w ⟨at__2, hL6, hs⟩
 rcases j with _ | j
 cases hL6
 refine yd hs ?_
 unfold qw.scanner_skip_l6 at hL6
 refine zf (zf ?_)
 refine cT (fun E H Φ N' => ∀ (t65 : Bool), qw.scanner_skip_j7 (qw.scanner_skip_l6 s j) at__2 t65 = some o6 -> zT E [(0, pt b), (20, iB (yk s.text at__)), (38, bV t38), (65, bV t65)] H [] N') (fun N7 hN7 => ?_) ?_
 refine zP (n := 22) [0, 0] mixed rfl rfl (dv 0 rfl vM (dv 1 rfl vC (dv 2 rfl (vF 1) (dv 3 rfl (vL 0 yz) (dv 4 rfl vM (dv 5 rfl vC (dv 6 rfl (vF 0) (dv 7 rfl (vL 0 xE) (dv 8 rfl (yo Tryz.underlying9 rfl) (dv 9 rfl vB (dv 10 rfl vM ?_)))))))))))
 refine jq (t := 54) rfl (fun h7 => ?_) (fun h7 => ?_)
 replace hL6 := qF h7 hL6
 refine dw 11 rfl rfl rfl vM (dw 12 rfl rfl rfl vC (dw 13 rfl rfl rfl (vF 0) (dw 14 rfl rfl rfl (vL 0 xE) (dw 15 rfl rfl rfl vM (dw 16 rfl rfl rfl vC (dw 17 rfl rfl rfl (vF 1) (dw 18 rfl rfl rfl (vL 0 yz) (zc hL6 ?_))))))))
 intro h8 hL6
 refine dw 19 rfl rfl rfl (yw Tryz.underlying9 rfl rfl h8) (dw 20 rfl rfl rfl vB (dv 21 rfl yt (dD ?_)))
 exact sK [0, 0] [] (hN7 ((yk s.text at__2) != 10) hL6)
 replace hL6 := qG h7 hL6
 refine dF 11 rfl (dF 12 rfl (dF 13 rfl (dF 14 rfl (dF 15 rfl (dF 16 rfl (dF 17 rfl (dF 18 rfl (dF 19 rfl (dF 20 rfl (dv 21 rfl yj (dD ?_)))))))))))
 exact sK [0, 0] [] (hN7 false hL6)
 intro t65 hL6
 unfold qw.scanner_skip_j7 at hL6
 refine ze ?_
 refine cC hL6 (fun hL6 => ?_) (fun hL6 => ?_)
 refine zk (ze (zq (zd (oV vM (oV vC ((fD 1) (oV (vL 0 yz) (oV vB (oV vC ((fD 1) ((sT 0 yz) (zh ?_))))))))))))
 exact lp [0, 0] [] fun a w hs => ⟨IntKind.wrap .i64 (at__2 + 1), hL6, hs⟩
 refine zW ?_
 cases hL6
 exact sK [0, 0] [] (hN6)
 refine ze (c_exit1 ?_)
 exact sK [0, 0] [] (hN2 o6 line_ top_ hL1)
 refine zp ?_
 cases hL1
 obtain rfl := zK hF
 refine xz rfl fun a w hs => zo hs [0, 0] ⟨rfl, rfl, rfl⟩ rfl zn
 intro line_3 top_3 hL1
 unfold qw.scanner_skip_j4 at hL1
 exact sK [0, 0] [] (hN3 line_3 top_3 hL1)
 intro line_2 top_2 hL1
 unfold qw.scanner_skip_j3 at hL1
 refine ze (zd (oV vM (oV vC ((fD 1) (oV (vL 0 yz) (oV vB (oV vC ((fD 1) ((sT 0 yz) (zh ?_))))))))))
 exact sK [0, 0] [] (hN2 (IntKind.wrap .i64 (at__ + 1)) line_2 top_2 hL1)
 intro at__1 line_1 top_1 hL1
 unfold qw.scanner_skip_j2 at hL1
 exact lp [0, 0] [] fun a w hs => ⟨at__1, line_1, top_1, hL1, hs⟩
 refine zW ?_
 cases hL1
 refine xP ?_ (hN1 (at__, line_, top_) rfl)
 exact st_le [0, 0] le_nil rfl zn
 intro d1 hd
 subst hd
 replace hF := yF hF
 cases hF
 refine xz rfl fun a w hs => zo hs [0, 0] ⟨rfl, rfl, rfl⟩ rfl zn
theorem tri43 {r_ : Int} {r : Bool} (hF : qw.great r_ = some r) :
    xu Tryz.prog 43 [.int .i32 r_] [] [] (oR (bV r)) := by
 unfold qw.great at hF
 refine zt (n := 9) Tryz.func43 rfl Tryz.ntmps43 rfl fun w X => cR (oV vA (zb (cR (oV vM (oV vB (oV vM ?_))))))
 refine oS 5 hF (fun hF => ?_) (fun hF => ?_)
 refine oN (oV vM (oN (oV vB (oV yt (oV vA (zb (zp ?_)))))))
 cases hF
 exact sR
 refine oF (oF (oV yj (oV vA (zb (zp ?_)))))
 cases hF
 exact sR
theorem tri96 {r_ : Int} {r : Bool} (hF : qw.small r_ = some r) :
    xu Tryz.prog 96 [.int .i32 r_] [] [] (oR (bV r)) := by
 unfold qw.small at hF
 refine zt (n := 9) Tryz.func96 rfl Tryz.ntmps96 rfl fun w X => cR (oV vA (zb (cR (oV vM (oV vB (oV vM ?_))))))
 refine oS 5 hF (fun hF => ?_) (fun hF => ?_)
 refine oN (oV vM (oN (oV vB (oV yt (oV vA (zb (zp ?_)))))))
 cases hF
 exact sR
 refine oF (oF (oV yj (oV vA (zb (zp ?_)))))
 cases hF
 exact sR
theorem tri97 {r_ : Int} {r : Bool} (hF : qw.digit r_ = some r) :
    xu Tryz.prog 97 [.int .i32 r_] [] [] (oR (bV r)) := by
 unfold qw.digit at hF
 refine zt (n := 9) Tryz.func97 rfl Tryz.ntmps97 rfl fun w X => cR (oV vA (zb (cR (oV vM (oV vB (oV vM ?_))))))
 refine oS 5 hF (fun hF => ?_) (fun hF => ?_)
 refine oN (oV vM (oN (oV vB (oV yt (oV vA (zb (zp ?_)))))))
 cases hF
 exact sR
 refine oF (oF (oV yj (oV vA (zb (zp ?_)))))
 cases hF
 exact sR
theorem tri44 {k : Nat} {s : Tx} {r : Int} (hF : qw.run k s = some r) :
    xu Tryz.prog 44 [sV s] [] [] (oR (iI r)) := by
 unfold qw.run at hF
 refine zt (n := 27) Tryz.func44 rfl Tryz.ntmps44 rfl fun w X => cR (oV vA (zb (zf (cR (oV vM (o_range Tryz.underlying9 rfl rfl ?_))))))
 intro b
 refine zb ?_
 obtain ⟨o1, ho1, hF⟩ := bd hF
 refine z8 (fun E N' => ∀ (d1 : Unit), o1 = .done d1 -> zT E [(0, sV s), (2, iI 0)] [] [] N') (fun N1 hN1 => ?_) ?_
 refine zq ?_
 refine xG (fun E j a w => ∃ (v : Int), qw.run_l1 s j v = some o1 /\ St E [(0, sV s), (2, iI 0), (6, pt b)] [.itr b s v] [] a w) k ?_ ?_
 exact lq [0] [] fun a w hs => ⟨0, ho1, hs⟩
 rintro j a w ⟨v, hL1, hs⟩
 rcases j with _ | j
 cases hL1
 refine yd hs ?_
 unfold qw.run_l1 at hL1
 refine cR ?_
 refine o_next 0 rfl rfl rfl (fun h1 => ?_) (fun h1 => ?_)
 replace hL1 := qF h1 hL1
 refine oV vX (zb (zf ?_))
 refine xH rfl (fun _ => ?_) (fun h => Bool.noConfusion h)
 refine zk (ze ?_)
 refine cT (fun E H Φ N' => qw.run_j2 (qw.run_l1 s j) v s = some o1 -> zT E [(0, sV s), (2, iI 0), (3, iI v), (4, .int .i32 (wX s v)), (6, pt b), (7, .tuple #[bV true, iI v, .int .i32 (wX s v)])] H [] N') (fun N2 hN2 => ?_) ?_
 refine zq (cR (oV vX (oV vX (oV vA (oV vA (zb (zf ?_)))))))
 refine cT (fun E H Φ N' => ∀ (t23 : Bool), qw.run_j3 v (qw.run_l1 s j) s t23 = some o1 -> zT E [(0, sV s), (2, iI 0), (3, iI v), (4, .int .i32 (wX s v)), (6, pt b), (7, .tuple #[bV true, iI v, .int .i32 (wX s v)]), (23, bV t23)] H [] N') (fun N3 hN3 => ?_) ?_
 refine zd (oV vM ?_)
 obtain ⟨v1, h3, hL1⟩ := bd hL1
 refine zu call43 rfl zv (tri43 h3 :) rfl (oV vN (oV vM ?_))
 refine oS 14 hL1 (fun hL1 => ?_) (fun hL1 => ?_)
 refine oN (oV vM (oN ?_))
 obtain ⟨v2, h5, hL1⟩ := bd hL1
 refine zu call96 rfl zv (tri96 h5 :) rfl (oN (oV vN (oV yt (oV vM ?_))))
 refine oS 19 hL1 (fun hL1 => ?_) (fun hL1 => ?_)
 refine oN (oV vM (oN ?_))
 obtain ⟨v3, h7, hL1⟩ := bd hL1
 refine zu call97 rfl zv (tri97 h7 :) rfl (oN (oV vN (oV yt (zh ?_))))
 exact sK [0] [] (hN3 (!v3) hL1)
 refine oF (oF (oF (oV yj (zh ?_))))
 exact sK [0] [] (hN3 false hL1)
 refine oF (oF (oF (oV yj (oV vM (oF (oF (oF (oV yj (zh ?_)))))))))
 exact sK [0] [] (hN3 false hL1)
 intro t23 hL1
 unfold qw.run_j3 at hL1
 refine ze ?_
 refine cC hL1 (fun hL1 => ?_) (fun hL1 => ?_)
 refine cR (oV vM (oV vA (zb (zp ?_))))
 cases hL1
 obtain rfl := zK hF
 exact sR
 refine zk ?_
 exact sK [0] [] (hN2 hL1)
 intro hL1
 unfold qw.run_j2 at hL1
 exact lp [0] [] fun a w hs => ⟨(v + jf s v), hL1, hs⟩
 replace hL1 := qG h1 hL1
 refine oV vX (zb (zf ?_))
 refine xH rfl (fun h => Bool.noConfusion h) (fun _ => ?_)
 refine zW ?_
 cases hL1
 exact sK [] [] (hN1 () rfl)
 intro d1 hd
 subst hd
 replace hF := yF hF
 refine ze (cR (oV vM (oV (yo Tryz.underlying9 rfl) (oV vA (zb (zp ?_))))))
 cases hF
 exact sR
theorem tri49 {s : zm} {w_ : zg} {end_ : Int} {b : Nat} {r : zm} (hF : qw.scanner_put s w_ end_ = some r) :
    xu Tryz.prog 49 [pt b, .agg (yX w_ A2 L2 C2).toArray, iI end_] [.box b 102 (y8 s A1 L1 C1), rW A1 L1 C1 106 11 zB s.out] [fS A2 L2 C2 1 xj w_.Bytes] (fun o H Φ => ∃ (A5 : OA) (L5 C5 : Nat), o = .ret (.tuple #[]) /\ H = [.box b 102 (y8 r A5 L5 C5), rW A5 L5 C5 106 11 zB r.out] /\ Φ = []) := by
 unfold qw.scanner_put at hF
 refine zt (n := 52) Tryz.func49 rfl Tryz.ntmps49 rfl fun w X => cR (xr rfl rfl rfl fun b1 => zb (zf (zP (n := 36) [1, 1] mixed rfl rfl (dv 0 rfl vM (dv 1 rfl vC (dv 2 rfl (vF 0) (dv 3 rfl (vL 0 xE) (dv 4 rfl vM (dv 5 rfl vC (dv 6 rfl (vF 1) (dv 7 rfl (vL 0 yz) (dv 8 rfl vM ?_))))))))))))
 refine zc hF fun h1 hF => dv 9 rfl (w9 Tryz.underlying9 rfl rfl rfl rfl rfl h1) (dv 10 rfl vM (dv 11 rfl vC (dv 12 rfl (vF 1) (dv 13 rfl (vL 0 yz) (dv 14 rfl vM (dv 15 rfl vC (dv 16 rfl (vF 2) (dv 17 rfl (vL 0 yz) (dv 18 rfl vM (dv 19 rfl vC (dv 20 rfl (vF 1) (dv 21 rfl (vL 0 yz) (dv 22 rfl vM (dv 23 rfl vC ?_))))))))))))))
 refine dv 24 rfl (vF 3) (dv 25 rfl (vL 0 yz) (dv 26 rfl vB (dv 27 rfl vB (dv 28 rfl (vF 1) (dO 29 rfl ((sT 0 xE) (dN [1, 1] 0 (dv 30 rfl (vF 8) (dO 31 rfl ((sT 0 yz) (dN [1, 1] 0 (dv 32 rfl (vF 9) (dO 33 rfl ((sT 0 yz) (dN [1, 1] 0 ?_)))))))))))))))
 refine dv 34 rfl (vF 10) (dO 35 rfl ((sT 0 yz) (dN [1, 1] 0 (zG (by kernel_rfl) (zf (zP (n := 11) [0] mixed rfl rfl (dv 0 rfl vM (dv 1 rfl vM (dv 2 rfl vC (dv 3 rfl (vF 4) (dv 5 rfl (vL 0 yJ) ?_)))))))))))
 refine wr [4, 6] (by kernel_rfl) (by simp) ⟨⟨_, rfl, ?_⟩, ⟨_, rfl, ?_⟩, trivial⟩
 refine oV (vL 1 qk) (dN [0] 0 (dO 6 rfl (zF (enc := zB) ([(zg.mk w_.Kind (sub s.text s.at_ end_) w_.Bytes w_.Set w_.N_ s.at_ s.line (IntKind.wrap .i64 ((IntKind.wrap .i64 (s.at_ - s.top)) + 1)))] : List zg) [iI w_.Kind, sV (sub s.text s.at_ end_), sl A2 L2 C2, iU w_.Set.w0, iU w_.Set.w1, iU w_.Set.w2, iU w_.Set.w3, iI w_.N_, iI s.at_, iI s.line, iI (IntKind.wrap .i64 ((IntKind.wrap .i64 (s.at_ - s.top)) + 1))] qu rfl (fun _ => by kernel_rfl) rfl rfl rfl (.s rfl (.s rfl (.f 0 rfl (.s rfl (.s rfl (.s rfl (.s rfl (.s rfl (.s rfl (.s rfl (.s rfl (.nil)))))))))))) rfl ?_)))
 intro A3 L3 C3
 refine dN [1] 0 (dO 7 rfl (zc hF ?_))
 intro h2 hF
 refine zc hF fun h3 hF => yf (enc := zB) (xs := s.out) (ys := ([(zg.mk w_.Kind (sub s.text s.at_ end_) w_.Bytes w_.Set w_.N_ s.at_ s.line (IntKind.wrap .i64 ((IntKind.wrap .i64 (s.at_ - s.top)) + 1)))] : List zg)) 3 qu rfl rfl rfl (.r 0 _ rfl) h2 h3 rfl fun A4 L4 C4 => dN [1] 0 (dv 8 rfl vC (dv 9 rfl (vF 4) (dO 10 rfl ((sT 2 qk) (dN [1] 0 (zG (by kernel_rfl) ?_))))))
 refine zd (oV vM (oV vM (oV vC ((fD 1) ((sT 2 yz) (zh ?_))))))
 cases hF
 refine xz rfl fun a w hs => zo hs [2, 2] ⟨A4, L4, C4, rfl, rfl, rfl⟩ rfl zn
 refine zF (enc := zB) ([(zg.mk w_.Kind (sub s.text s.at_ end_) w_.Bytes w_.Set w_.N_ s.at_ s.line (IntKind.wrap .i64 ((IntKind.wrap .i64 (s.at_ - s.top)) + 1)))] : List zg) [iI w_.Kind, sV (sub s.text s.at_ end_), sl A2 L2 C2, iU w_.Set.w0, iU w_.Set.w1, iU w_.Set.w2, iU w_.Set.w3, iI w_.N_, iI s.at_, iI s.line, iI (IntKind.wrap .i64 ((IntKind.wrap .i64 (s.at_ - s.top)) + 1))] qu rfl (fun _ => by kernel_rfl) rfl rfl rfl (.s rfl (.s rfl (.f 0 rfl (.s rfl (.s rfl (.s rfl (.s rfl (.s rfl (.s rfl (.s rfl (.s rfl (.nil)))))))))))) rfl fun A3 L3 C3 => dN [1] 0 (dO 4 rfl (oV (vL 2 qk) (dN [1] 0 (dO 7 rfl (zc hF ?_)))))
 intro h2 hF
 refine zc hF fun h3 hF => yf (enc := zB) (xs := s.out) (ys := ([(zg.mk w_.Kind (sub s.text s.at_ end_) w_.Bytes w_.Set w_.N_ s.at_ s.line (IntKind.wrap .i64 ((IntKind.wrap .i64 (s.at_ - s.top)) + 1)))] : List zg)) 3 qu rfl rfl rfl (.r 0 _ rfl) h2 h3 rfl fun A4 L4 C4 => dN [1] 0 (dv 8 rfl vC (dv 9 rfl (vF 4) (dO 10 rfl ((sT 2 qk) (dN [1] 0 (zG (by kernel_rfl) ?_))))))
 refine zd (oV vM (oV vM (oV vC ((fD 1) ((sT 2 yz) (zh ?_))))))
 cases hF
 refine xz rfl fun a w hs => zo hs [2, 2] ⟨A4, L4, C4, rfl, rfl, rfl⟩ rfl zn
theorem tri99 {k : Nat} {s : zm} {b : Nat} {r : Int × zm} (hF : qw.scanner_number k s = some r) :
    xu Tryz.prog 99 [pt b] [.box b 102 (y8 s A1 L1 C1), rW A1 L1 C1 106 11 zB s.out] [] (fun o H Φ => ∃ (A3 : OA) (L3 C3 : Nat), o = .ret (iI r.1) /\ H = [.box b 102 (y8 r.2 A3 L3 C3), rW A3 L3 C3 106 11 zB r.2.out] /\ Φ = []) := by
 unfold qw.scanner_number at hF
 refine zt (n := 70) Tryz.func99 rfl Tryz.ntmps99 rfl fun w X => cR (oV vA (zb (cR (oV vM (oV vC ((fD 1) (oV (vL 0 yz) (oV vA (zb (cR (oV vA ?_)))))))))))
 refine zb (zf ?_)
 obtain ⟨o1, ho1, hF⟩ := bd hF
 refine cT (fun E H Φ N' => ∀ (d1 : Int × Int), o1 = .done d1 -> zT E [(0, pt b), (2, iI 0), (3, iI d1.1), (4, iI d1.2)] H [] N') (fun N1 hN1 => ?_) ?_
 refine zq ?_
 refine cL (fun E H Φ j a w => ∃ (end_ : Int) (n : Int), qw.scanner_number_l1 s j end_ n = some o1 /\ St E [(0, pt b), (2, iI 0), (3, iI end_), (4, iI n)] H [] a w) k ?_ ?_
 exact lq [0, 0] [] fun a w hs => ⟨s.at_, 0, ho1, hs⟩
 rintro j a w ⟨end_, n, hL1, hs⟩
 rcases j with _ | j
 cases hL1
 refine yd hs ?_
 unfold qw.scanner_number_l1 at hL1
 refine zf (zf ?_)
 refine cT (fun E H Φ N' => ∀ (t25 : Bool), qw.scanner_number_j2 end_ s (qw.scanner_number_l1 s j) n t25 = some o1 -> zT E [(0, pt b), (2, iI 0), (3, iI end_), (4, iI n), (25, bV t25)] H [] N') (fun N2 hN2 => ?_) ?_
 refine zd (oV vM (oV vM (oV vC ((fD 0) (oV (vL 0 xE) (oV (yo Tryz.underlying9 rfl) (oV vB (oV vM ?_))))))))
 refine oS 16 hL1 (fun hL1 => ?_) (fun hL1 => ?_)
 refine oN (oV vM (oN (oV vC (oN ((fD 0) (oN (oV (vL 0 xE) (oN (oV vM (oN (zc hL1 ?_)))))))))))
 intro h5 hL1
 refine oV (yw Tryz.underlying9 rfl rfl h5) (oN (oV (yu (v := .int .i32 (IntKind.wrap .i32 (yk s.text end_))) rfl (fun _ => by kernel_rfl)) (oN ?_)))
 obtain ⟨v, h6, hL1⟩ := bd hL1
 refine zu call97 rfl zv (tri97 h6 :) rfl (oV yt (zh ?_))
 exact sK [0, 0] [] (hN2 v hL1)
 refine oF (oF (oF (oF (oF (oF (oF (oF (oV yj (zh ?_)))))))))
 exact sK [0, 0] [] (hN2 false hL1)
 intro t25 hL1
 unfold qw.scanner_number_j2 at hL1
 refine ze ?_
 refine cC hL1 (fun hL1 => ?_) (fun hL1 => ?_)
 refine zk (ze (zq (zf (cR (oV vM (oV vM (oV vC ((fD 1) (oV (vL 0 yz) (oV vB (oV vB (zb ?_))))))))))))
 refine cC hL1 (fun hL1 => ?_) (fun hL1 => ?_)
 refine cR (oV vA (zb (zp ?_)))
 cases hL1
 obtain rfl := zK hF
 refine yH rfl (zX rfl) fun a w hs => zo hs [0, 0] ⟨A1, L1, C1, rfl, rfl, rfl⟩ rfl zn
 refine zk (ze (cR (oV vM (oV vB (oV vM (oV vC ((fD 0) (oV (vL 0 xE) (oV vM (zc hL1 ?_))))))))))
 intro h3 hL1
 refine oV (yw Tryz.underlying9 rfl rfl h3) (oV vB (oV (yu (v := iI (IntKind.wrap .i64 (IntKind.wrap .u8 ((yk s.text end_) - 48)))) rfl (fun _ => by kernel_rfl)) (oV vB ?_)))
 refine oV vA (zb (zd (oV vM (oV vB (oV vA (zh ?_))))))
 exact lp [0, 0] [] fun a w hs => ⟨IntKind.wrap .i64 (end_ + 1), IntKind.wrap .i64 ((IntKind.wrap .i64 (10 * n)) + (IntKind.wrap .i64 (IntKind.wrap .u8 ((yk s.text end_) - 48)))), hL1, hs⟩
 refine zW ?_
 cases hL1
 exact sK [0, 0] [] (hN1 (end_, n) rfl)
 intro d1 hd
 subst hd
 replace hF := yF hF
 refine ze (zf (zf ?_))
 refine cT (fun E H Φ N' => ∀ (t64 : Bool), qw.scanner_number_j3 s d1 t64 = some r -> zT E [(0, pt b), (2, iI 0), (3, iI d1.1), (4, iI d1.2), (64, bV t64)] H [] N') (fun N3 hN3 => ?_) ?_
 refine zP (n := 19) [0, 0] mixed rfl rfl (dv 0 rfl vM (dv 1 rfl vC (dv 2 rfl (vF 0) (dv 3 rfl (vL 0 xE) (dv 4 rfl vM (dv 5 rfl vC (dv 6 rfl (vF 1) (dv 7 rfl (vL 0 yz) (zc hF ?_)))))))))
 intro h9 hF
 refine dv 8 rfl (yw Tryz.underlying9 rfl rfl h9) (dv 9 rfl vB (dv 10 rfl vM ?_))
 refine jq (t := 56) rfl (fun h10 => ?_) (fun h10 => ?_)
 replace hF := qF h10 hF
 refine dw 11 rfl rfl rfl vM (dw 12 rfl rfl rfl vM (dw 13 rfl rfl rfl vC (dw 14 rfl rfl rfl (vF 1) (dw 15 rfl rfl rfl (vL 0 yz) (dw 16 rfl rfl rfl vB (dw 17 rfl rfl rfl vB (dv 18 rfl yt (dD ?_))))))))
 exact sK [0, 0] [] (hN3 (decide ((IntKind.wrap .i64 (s.at_ + 1)) < d1.1)) hF)
 replace hF := qG h10 hF
 refine dF 11 rfl (dF 12 rfl (dF 13 rfl (dF 14 rfl (dF 15 rfl (dF 16 rfl (dF 17 rfl (dv 18 rfl yj (dD ?_))))))))
 exact sK [0, 0] [] (hN3 false hF)
 intro t64 hF
 unfold qw.scanner_number_j3 at hF
 refine ze ?_
 refine cC hF (fun hF => ?_) (fun hF => ?_)
 refine cR (oV vA (zb (zp ?_)))
 cases hF
 refine yH rfl (zX rfl) fun a w hs => zo hs [0, 0] ⟨A1, L1, C1, rfl, rfl, rfl⟩ rfl zn
 refine zk (ze (cR (oV vM (oV vM (oV (vU (.agg #[iI 3, sV ([] : Tx), nS, iU 0, iU 0, iU 0, iU 0, iI d1.2, iI 0, iI 0, iI 0])) (oV vM ?_))))))
 obtain ⟨v1, h8, hF⟩ := bd hF
 refine wj (zN 1) (yx [0, 0] uU rfl rfl (zy [0] rfl) (tri49 h8 :) ?_)
 rintro _ _ _ ⟨A2, L2, C2, rfl, rfl, rfl⟩
 refine zb (cR (oV vA (zb (zp ?_))))
 cases hF
 refine yH rfl (zX rfl) fun a w hs => zo hs [0, 0] ⟨A2, L2, C2, rfl, rfl, rfl⟩ rfl zn
theorem tri136 {c : Int} {r : Int} (hF : qw.value c = some r) :
    xu Tryz.prog 136 [iB c] [] [] (oR (iI r)) := by
 unfold qw.value at hF
 refine zt (n := 35) Tryz.func136 rfl Tryz.ntmps136 rfl fun w X => cR (oV vA (zb (zf ?_)))
 refine z8 (fun E N' => qw.value_j1 = some r -> zT E [(2, iI 0)] [] [] N') (fun N1 hN1 => ?_) ?_
 refine zq (zf ?_)
 refine z8 (fun E N' => ∀ (t3 : Bool), qw.value_j2 c t3 = some r -> zT E [(0, iB c), (2, iI 0), (3, bV t3)] [] [] N') (fun N5 hN5 => ?_) ?_
 refine zd (oV vM (oV vB (oV vM ?_)))
 refine oS 6 hF (fun hF => ?_) (fun hF => ?_)
 refine oN (oV vM (oN (oV vB (oV yt (oV vA (zh ?_))))))
 exact sK [] [] (hN5 (decide (c <= 57)) hF)
 refine oF (oF (oV yj (oV vA (zh ?_))))
 exact sK [] [] (hN5 false hF)
 intro t3 hF
 unfold qw.value_j2 at hF
 refine ze ?_
 refine z8 (fun E N' => qw.value_j3 = some r -> zT E [(0, iB c), (2, iI 0)] [] [] N') (fun N3 hN3 => ?_) ?_
 refine cC hF (fun hF => ?_) (fun hF => ?_)
 refine cR (oV vM (oV vB (oV (yu (v := iI (IntKind.wrap .i64 (IntKind.wrap .u8 (c - 48)))) rfl (fun _ => by kernel_rfl)) (oV vA (zb (zp ?_))))))
 cases hF
 exact sR
 refine zf ?_
 refine z8 (fun E N' => ∀ (t13 : Bool), qw.value_j4 c t13 = some r -> zT E [(0, iB c), (2, iI 0), (13, bV t13)] [] [] N') (fun N5 hN5 => ?_) ?_
 refine zd (oV vM (oV vB (oV vM ?_)))
 refine oS 16 hF (fun hF => ?_) (fun hF => ?_)
 refine oN (oV vM (oN (oV vB (oV yt (oV vA (zh ?_))))))
 exact sK [] [] (hN5 (decide (c <= 102)) hF)
 refine oF (oF (oV yj (oV vA (zh ?_))))
 exact sK [] [] (hN5 false hF)
 intro t13 hF
 unfold qw.value_j4 at hF
 refine ze ?_
 refine cC hF (fun hF => ?_) (fun hF => ?_)
 refine cR (oV vM (oV vB (oV (yu (v := iI (IntKind.wrap .i64 (IntKind.wrap .u8 (c - 97)))) rfl (fun _ => by kernel_rfl)) (oV vB (oV vA (zb (zp ?_)))))))
 cases hF
 exact sR
 refine zf ?_
 refine z8 (fun E N' => ∀ (t24 : Bool), qw.value_j5 c t24 = some r -> zT E [(0, iB c), (2, iI 0), (24, bV t24)] [] [] N') (fun N5 hN5 => ?_) ?_
 refine zd (oV vM (oV vB (oV vM ?_)))
 refine oS 27 hF (fun hF => ?_) (fun hF => ?_)
 refine oN (oV vM (oN (oV vB (oV yt (oV vA (zh ?_))))))
 exact sK [] [] (hN5 (decide (c <= 70)) hF)
 refine oF (oF (oV yj (oV vA (zh ?_))))
 exact sK [] [] (hN5 false hF)
 intro t24 hF
 unfold qw.value_j5 at hF
 refine ze ?_
 refine cC hF (fun hF => ?_) (fun hF => ?_)
 refine cR (oV vM (oV vB (oV (yu (v := iI (IntKind.wrap .i64 (IntKind.wrap .u8 (c - 65)))) rfl (fun _ => by kernel_rfl)) (oV vB (oV vA (zb (zp ?_)))))))
 cases hF
 exact sR
 refine zk ?_
 exact sK [] [] (hN3 hF)
 intro hF
 unfold qw.value_j3 at hF
 exact sK [] [] (hN1 hF)
 intro hF
 unfold qw.value_j1 at hF
 refine ze (cR (oV vA (zb (zp ?_))))
 cases hF
 exact sR
theorem tri124 {s : Tx} {r : Int × Int} (hF : qw.escape s = some r) :
    xu Tryz.prog 124 [sV s] [] [] (oR (.tuple #[iB r.1, iI r.2])) := by
 unfold qw.escape at hF
 refine zt (n := 46) Tryz.func124 rfl Tryz.ntmps124 rfl fun w X => cR (oV vA (oV vA (zb (zf (cR (oV vM (oV (yo Tryz.underlying9 rfl) (oV vB (zb ?_)))))))))
 refine cC hF (fun hF => ?_) (fun hF => ?_)
 refine cR (oV vA (oV vA (zb (zp ?_))))
 cases hF
 refine ye rfl (zX rfl) (zX rfl) fun a w hs => zo hs [] ⟨rfl, rfl, rfl⟩ rfl zn
 refine zk (ze (zf (cR (oV vM (zc hF ?_)))))
 intro h2 hF
 refine oV (yw Tryz.underlying9 rfl rfl h2) (zb (zq (zf (cR (oV vB (oV vA (zb ?_)))))))
 refine z8 (fun E N' => ∀ (t9 : Bool), qw.escape_j1 s t9 = some r -> zT E [(0, sV s), (2, iB 0), (3, iI 0), (8, iB (yk s 1)), (9, bV t9)] [] [] N') (fun N4 hN4 => ?_) ?_
 refine cC hF (fun hF => ?_) (fun hF => ?_)
 refine zk ?_
 exact sK [] [] (hN4 ((yk s 1) == 34) hF)
 refine zd (oV vB (oV vA (zh ?_)))
 exact sK [] [] (hN4 ((yk s 1) == 92) hF)
 intro t9 hF
 unfold qw.escape_j1 at hF
 refine ze ?_
 refine z8 (fun E N' => qw.escape_j2 = some r -> zT E [(0, sV s), (2, iB 0), (3, iI 0), (8, iB (yk s 1)), (9, bV t9)] [] [] N') (fun N2 hN2 => ?_) ?_
 refine cC hF (fun hF => ?_) (fun hF => ?_)
 refine cR (oV vM (oV (yw Tryz.underlying9 rfl rfl h2) (oV vA (oV vA (zb (zp ?_))))))
 cases hF
 refine ye rfl (zX rfl) (zX rfl) fun a w hs => zo hs [] ⟨rfl, rfl, rfl⟩ rfl zn
 refine cR (oV vB (oV vA (zb ?_)))
 refine cC hF (fun hF => ?_) (fun hF => ?_)
 refine cR (oV vA (oV vA (zb (zp ?_))))
 cases hF
 refine ye rfl (zX rfl) (zX rfl) fun a w hs => zo hs [] ⟨rfl, rfl, rfl⟩ rfl zn
 refine cR (oV vB (oV vA (zb ?_)))
 refine cC hF (fun hF => ?_) (fun hF => ?_)
 refine cR (oV vA (oV vA (zb (zp ?_))))
 cases hF
 refine ye rfl (zX rfl) (zX rfl) fun a w hs => zo hs [] ⟨rfl, rfl, rfl⟩ rfl zn
 refine cR (oV vB (oV vA (zb ?_)))
 refine z8 (fun E N' => qw.escape_j3 = some r -> zT E [(0, sV s), (2, iB 0), (3, iI 0), (8, iB (yk s 1)), (9, bV t9)] [] [] N') (fun N3 hN3 => ?_) ?_
 refine cC hF (fun hF => ?_) (fun hF => ?_)
 refine cR (oV vA (oV vA (zb (zp ?_))))
 cases hF
 refine ye rfl (zX rfl) (zX rfl) fun a w hs => zo hs [] ⟨rfl, rfl, rfl⟩ rfl zn
 refine cR (oV vB (oV vA (zb ?_)))
 refine cC hF (fun hF => ?_) (fun hF => ?_)
 refine zf ?_
 refine z8 (fun E N' => ∀ (t36 : Bool), qw.escape_j4 s t36 = some r -> zT E [(0, sV s), (2, iB 0), (3, iI 0), (8, iB (yk s 1)), (9, bV t9), (36, bV t36)] [] [] N') (fun N4 hN4 => ?_) ?_
 refine zd (oV vM (oV (yo Tryz.underlying9 rfl) (oV vB (oV vM ?_))))
 refine oS 25 hF (fun hF => ?_) (fun hF => ?_)
 refine oN (oV vM (oN (zc hF ?_)))
 intro h14 hF
 refine oV (yw Tryz.underlying9 rfl rfl h14) (oN ?_)
 obtain ⟨v2, h15, hF⟩ := bd hF
 refine zu call136 rfl zv (tri136 h15 :) rfl (oN (oV vB (oV yt (oV vM ?_))))
 refine oS 31 hF (fun hF => ?_) (fun hF => ?_)
 refine oN (oV vM (oN (zc hF ?_)))
 intro h17 hF
 refine oV (yw Tryz.underlying9 rfl rfl h17) (oN ?_)
 obtain ⟨v3, h18, hF⟩ := bd hF
 refine zu call136 rfl zv (tri136 h18 :) rfl (oN (oV vB (oV yt (zh ?_))))
 exact sK [] [] (hN4 (decide (0 <= v3)) hF)
 refine oF (oF (oF (oF (oV yj (zh ?_)))))
 exact sK [] [] (hN4 false hF)
 refine oF (oF (oF (oF (oV yj (oV vM (oF (oF (oF (oF (oV yj (zh ?_)))))))))))
 exact sK [] [] (hN4 false hF)
 intro t36 hF
 unfold qw.escape_j4 at hF
 refine ze ?_
 refine cC hF (fun hF => ?_) (fun hF => ?_)
 refine zf (zP (n := 11) [] mixed rfl rfl (dv 0 rfl vM (zc hF ?_)))
 intro h9 hF
 refine dv 1 rfl (yw Tryz.underlying9 rfl rfl h9) (dv 4 rfl vM (zc hF ?_))
 intro h10 hF
 refine dv 5 rfl (yw Tryz.underlying9 rfl rfl h10) (dO 2 rfl ?_)
 obtain ⟨v, h11, hF⟩ := bd hF
 refine zu call136 rfl zv (tri136 h11 :) rfl (dN [] 0 (dv 3 rfl vB (dO 6 rfl ?_)))
 obtain ⟨v1, h12, hF⟩ := bd hF
 refine zu call136 rfl zv (tri136 h12 :) rfl (dN [] 0 (dv 7 rfl vB (dv 8 rfl (yu (v := iB (IntKind.wrap .u8 (IntKind.wrap .i64 ((IntKind.wrap .i64 (16 * v)) + v1)))) rfl (fun _ => by kernel_rfl)) (dv 9 rfl vA (dv 10 rfl vA (zG (by kernel_rfl) (zp ?_)))))))
 cases hF
 refine ye rfl (zX rfl) (zX rfl) fun a w hs => zo hs [] ⟨rfl, rfl, rfl⟩ rfl zn
 refine zk ?_
 exact sK [] [] (hN3 hF)
 refine zk ?_
 exact sK [] [] (hN3 hF)
 intro hF
 unfold qw.escape_j3 at hF
 exact sK [] [] (hN2 hF)
 intro hF
 unfold qw.escape_j2 at hF
 refine ze (cR (oV vA (oV vA (zb (zp ?_)))))
 cases hF
 refine ye rfl (zX rfl) (zX rfl) fun a w hs => zo hs [] ⟨rfl, rfl, rfl⟩ rfl zn
theorem tri100 {k : Nat} {text_ : Tx} {at__ : Int} {r : List Int × Int × Fault} (hF : qw.quoted k text_ at__ = some r) :
    xu Tryz.prog 100 [sV text_, iI at__] [] [] (fun o H Φ => ∃ (A10 : OA) (L10 C10 : Nat), o = .ret (.tuple #[sl A10 L10 C10, iI r.2.1, .agg #[iI r.2.2.At, iI r.2.2.Code]]) /\ H = [rW A10 L10 C10 5 1 xj r.1] /\ Φ = []) := by
 unfold qw.quoted at hF
 refine zt (n := 66) Tryz.func100 rfl Tryz.ntmps100 rfl fun w X => cR (oV vA (oV vA (zC xv rfl rfl ?_)))
 intro b
 refine zb (cR (oV vA (zb (zf (cR (oV vM (oV vB ?_)))))))
 refine oV vA (zb ?_)
 obtain ⟨o1, ho1, hF⟩ := bd hF
 refine cT (fun E H Φ N' => ∀ (d1 : Unit), o1 = .done d1 -> zT E [(1, iI at__), (4, nS), (5, iI 0), (6, pt b)] H [] N') (fun N1 hN1 => ?_) ?_
 refine zq ?_
 refine xG (fun E j a w => ∃ (out_ : List Int) (i : Int) (A1 : OA) (L1 C1 : Nat), qw.quoted_l1 text_ j out_ i = some o1 /\ St E [(0, sV text_), (1, iI at__), (4, nS), (5, iI 0), (6, pt b), (7, sl A1 L1 C1), (8, iI i)] [.box b 37 [iI 0, iI 0], rW A1 L1 C1 5 1 xj out_] [] a w) k ?_ ?_
 refine xP (ym 5 1) ?_
 exact lq [1, 0] [] fun a w hs => ⟨([] : List Int), IntKind.wrap .i64 (at__ + 1), none, 0, 0, ho1, hs⟩
 rintro j a w ⟨out_, i, A1, L1, C1, hL1, hs⟩
 rcases j with _ | j
 cases hL1
 refine yd hs ?_
 unfold qw.quoted_l1 at hL1
 refine zf (cR (oV vM (oV vM (oV (yo Tryz.underlying9 rfl) (oV vB (zb ?_))))))
 refine cC hL1 (fun hL1 => ?_) (fun hL1 => ?_)
 refine zk (ze ?_)
 refine z8 (fun E N' => ∀ (out_1 : List Int) (i1 : Int) (A2 : OA) (L2 C2 : Nat), qw.quoted_j2 (qw.quoted_l1 text_ j) out_1 i1 = some o1 -> zT E [(0, sV text_), (1, iI at__), (4, nS), (5, iI 0), (6, pt b), (7, sl A2 L2 C2), (8, iI i1), (9, iB (yk text_ i))] [.box b 37 [iI 0, iI 0], rW A2 L2 C2 5 1 xj out_1] [] N') (fun N2 hN2 => ?_) ?_
 refine zq (cR (oV vM (oV vM (zc hL1 ?_))))
 intro h2 hL1
 refine oV (yw Tryz.underlying9 rfl rfl h2) (oV vA (zb ?_))
 refine z8 (fun E N' => ∀ (out_2 : List Int) (i2 : Int) (A3 : OA) (L3 C3 : Nat), qw.quoted_j3 (qw.quoted_l1 text_ j) out_2 i2 = some o1 -> zT E [(0, sV text_), (1, iI at__), (4, nS), (5, iI 0), (6, pt b), (7, sl A3 L3 C3), (8, iI i2), (9, iB (yk text_ i))] [.box b 37 [iI 0, iI 0], rW A3 L3 C3 5 1 xj out_2] [] N') (fun N3 hN3 => ?_) ?_
 refine zq (cR (oV vM (oV vB (oV vA (zb ?_)))))
 refine z8 (fun E N' => ∀ (out_3 : List Int) (i3 : Int) (A4 : OA) (L4 C4 : Nat), qw.quoted_j4 (qw.quoted_l1 text_ j) out_3 i3 = some o1 -> zT E [(0, sV text_), (1, iI at__), (4, nS), (5, iI 0), (6, pt b), (7, sl A4 L4 C4), (8, iI i3), (9, iB (yk text_ i))] [.box b 37 [iI 0, iI 0], rW A4 L4 C4 5 1 xj out_3] [] N') (fun N4 hN4 => ?_) ?_
 refine cC hL1 (fun hL1 => ?_) (fun hL1 => ?_)
 refine cR (oV vM (oV vM (oV vB (oV (vU (.agg #[iI 0, iI 0])) (oV vA (oV vA ((sT 0 ya) (zb (zp ?_)))))))))
 cases hL1
 obtain rfl := zK hF
 refine uB rfl (zX rfl) (zX rfl) (zM 0 rfl ya rfl rfl rfl rfl) fun a w hs => zo hs [1] ⟨A1, L1, C1, rfl, rfl, rfl⟩ rfl zn
 refine cR (oV vM (oV vB (oV vA (zb ?_))))
 refine z8 (fun E N' => ∀ (out_4 : List Int) (i4 : Int) (A5 : OA) (L5 C5 : Nat), qw.quoted_j5 (qw.quoted_l1 text_ j) out_4 i4 = some o1 -> zT E [(0, sV text_), (1, iI at__), (4, nS), (5, iI 0), (6, pt b), (7, sl A5 L5 C5), (8, iI i4), (9, iB (yk text_ i))] [.box b 37 [iI 0, iI 0], rW A5 L5 C5 5 1 xj out_4] [] N') (fun N5 hN5 => ?_) ?_
 refine cC hL1 (fun hL1 => ?_) (fun hL1 => ?_)
 refine cR (oV vM (oV vM (zc hL1 ?_)))
 intro h5 hL1
 refine oV (w9 Tryz.underlying9 rfl rfl rfl rfl rfl h5) ?_
 obtain ⟨v, h6, hL1⟩ := bd hL1
 refine zu call124 rfl zv (tri124 h6 :) rfl (oV vM (oV vX (oV vX (oV vA (oV vA (zb (zf (cR (oV vM (oV vB (zb ?_)))))))))))
 refine cC hL1 (fun hL1 => ?_) (fun hL1 => ?_)
 refine cR (oV vM (oV (vU (.agg #[iI i, iI 12])) (oV vA (oV vA ((sT 0 ya) (zb (zp ?_)))))))
 cases hL1
 obtain rfl := zK hF
 refine xP (ym 5 1) (uB rfl (zX rfl) (zX rfl) (zM 1 rfl ya rfl rfl rfl rfl) fun a w hs => zo hs [0] ⟨none, 0, 0, rfl, rfl, rfl⟩ rfl zn)
 refine zk (ze (cR (oV vM (oV vM (zF (enc := xj) ([v.1] : List Int) [iB v.1] jS rfl (fun _ => by kernel_rfl) rfl rfl rfl (.s rfl (.nil)) rfl ?_)))))
 intro A6 L6 C6
 refine zc hL1 fun h8 hL1 => zc hL1 fun h9 hL1 => yf (enc := xj) (xs := out_) (ys := ([v.1] : List Int)) 2 jS rfl rfl rfl (.r 0 _ rfl) h8 h9 rfl fun A7 L7 C7 => oV vA (zb (zd (oV vM (oV vM (oV vB ?_)))))
 refine oV vA (zh ?_)
 exact sK [1, 1] [] (hN5 (out_ ++ ([v.1] : List Int)) (IntKind.wrap .i64 (i + v.2)) A7 L7 C7 hL1)
 refine zf ?_
 refine cT (fun E H Φ N' => ∀ (t55 : Bool), qw.quoted_j6 i out_ text_ (qw.quoted_l1 text_ j) t55 = some o1 -> zT E [(0, sV text_), (1, iI at__), (4, nS), (5, iI 0), (6, pt b), (7, sl A1 L1 C1), (8, iI i), (9, iB (yk text_ i)), (55, bV t55)] H [] N') (fun N6 hN6 => ?_) ?_
 refine zd (oV vM (oV vB (oV vM ?_)))
 refine oS 58 hL1 (fun hL1 => ?_) (fun hL1 => ?_)
 refine oF (oF (oV yt (oV vA (zh ?_))))
 exact sK [0, 0] [] (hN6 true hL1)
 refine oN (oV vM (oN (oV vB (oV yj (oV vA (zh ?_))))))
 exact sK [0, 0] [] (hN6 (decide (126 < (yk text_ i))) hL1)
 intro t55 hL1
 unfold qw.quoted_j6 at hL1
 refine ze ?_
 refine cC hL1 (fun hL1 => ?_) (fun hL1 => ?_)
 refine cR (oV vM (oV (vU (.agg #[iI i, iI 11])) (oV vA (oV vA ((sT 0 ya) (zb (zp ?_)))))))
 cases hL1
 obtain rfl := zK hF
 refine xP (ym 5 1) (uB rfl (zX rfl) (zX rfl) (zM 1 rfl ya rfl rfl rfl rfl) fun a w hs => zo hs [0] ⟨none, 0, 0, rfl, rfl, rfl⟩ rfl zn)
 refine cR (oV vM (oV vM (zF (enc := xj) ([yk text_ i] : List Int) [iB (yk text_ i)] jS rfl (fun _ => by kernel_rfl) rfl rfl rfl (.s rfl (.nil)) rfl ?_)))
 intro A8 L8 C8
 refine zc hL1 fun h11 hL1 => zc hL1 fun h12 hL1 => yf (enc := xj) (xs := out_) (ys := ([yk text_ i] : List Int)) 2 jS rfl rfl rfl (.r 0 _ rfl) h11 h12 rfl fun A9 L9 C9 => oV vA (zb (zd (oV vM (oV vB (oV vA (zh ?_))))))
 exact sK [1, 1] [] (hN5 (out_ ++ ([yk text_ i] : List Int)) (IntKind.wrap .i64 (i + 1)) A9 L9 C9 hL1)
 intro out_4 i4 A5 L5 C5 hL1
 unfold qw.quoted_j5 at hL1
 exact sK [0, 0] [] (hN4 out_4 i4 A5 L5 C5 hL1)
 intro out_3 i3 A4 L4 C4 hL1
 unfold qw.quoted_j4 at hL1
 exact sK [0, 0] [] (hN3 out_3 i3 A4 L4 C4 hL1)
 intro out_2 i2 A3 L3 C3 hL1
 unfold qw.quoted_j3 at hL1
 exact sK [0, 0] [] (hN2 out_2 i2 A3 L3 C3 hL1)
 intro out_1 i1 A2 L2 C2 hL1
 unfold qw.quoted_j2 at hL1
 exact lp [0, 0] [] fun a w hs => ⟨out_1, i1, A2, L2, C2, hL1, hs⟩
 refine zW ?_
 cases hL1
 exact sK [0] [] (hN1 () rfl)
 intro d1 hd
 subst hd
 replace hF := yF hF
 refine ze (cR (oV vM (oV (vU (.agg #[iI at__, iI 13])) (oV vA (oV vA ((sT 0 ya) (zb (zp ?_))))))))
 cases hF
 refine xP (ym 5 1) (uB rfl (zX rfl) (zX rfl) (zM 1 rfl ya rfl rfl rfl rfl) fun a w hs => zo hs [0] ⟨none, 0, 0, rfl, rfl, rfl⟩ rfl zn)
theorem tri157 {c : Int} {r : Int} (hF : qc.digit c = some r) :
    xu Tryz.prog 157 [iB c] [] [] (oR (iI r)) := by
 unfold qc.digit at hF
 refine zt (n := 35) Tryz.func157 rfl Tryz.ntmps157 rfl fun w X => cR (oV vA (zb (zf ?_)))
 refine z8 (fun E N' => qc.digit_j1 = some r -> zT E [(2, iI 0)] [] [] N') (fun N1 hN1 => ?_) ?_
 refine zq (zf ?_)
 refine z8 (fun E N' => ∀ (t3 : Bool), qc.digit_j2 c t3 = some r -> zT E [(0, iB c), (2, iI 0), (3, bV t3)] [] [] N') (fun N5 hN5 => ?_) ?_
 refine zd (oV vM (oV vB (oV vM ?_)))
 refine oS 6 hF (fun hF => ?_) (fun hF => ?_)
 refine oN (oV vM (oN (oV vB (oV yt (oV vA (zh ?_))))))
 exact sK [] [] (hN5 (decide (c <= 57)) hF)
 refine oF (oF (oV yj (oV vA (zh ?_))))
 exact sK [] [] (hN5 false hF)
 intro t3 hF
 unfold qc.digit_j2 at hF
 refine ze ?_
 refine z8 (fun E N' => qc.digit_j3 = some r -> zT E [(0, iB c), (2, iI 0)] [] [] N') (fun N3 hN3 => ?_) ?_
 refine cC hF (fun hF => ?_) (fun hF => ?_)
 refine cR (oV vM (oV vB (oV (yu (v := iI (IntKind.wrap .i64 (IntKind.wrap .u8 (c - 48)))) rfl (fun _ => by kernel_rfl)) (oV vA (zb (zp ?_))))))
 cases hF
 exact sR
 refine zf ?_
 refine z8 (fun E N' => ∀ (t13 : Bool), qc.digit_j4 c t13 = some r -> zT E [(0, iB c), (2, iI 0), (13, bV t13)] [] [] N') (fun N5 hN5 => ?_) ?_
 refine zd (oV vM (oV vB (oV vM ?_)))
 refine oS 16 hF (fun hF => ?_) (fun hF => ?_)
 refine oN (oV vM (oN (oV vB (oV yt (oV vA (zh ?_))))))
 exact sK [] [] (hN5 (decide (c <= 102)) hF)
 refine oF (oF (oV yj (oV vA (zh ?_))))
 exact sK [] [] (hN5 false hF)
 intro t13 hF
 unfold qc.digit_j4 at hF
 refine ze ?_
 refine cC hF (fun hF => ?_) (fun hF => ?_)
 refine cR (oV vM (oV vB (oV (yu (v := iI (IntKind.wrap .i64 (IntKind.wrap .u8 (c - 97)))) rfl (fun _ => by kernel_rfl)) (oV vB (oV vA (zb (zp ?_)))))))
 cases hF
 exact sR
 refine zf ?_
 refine z8 (fun E N' => ∀ (t24 : Bool), qc.digit_j5 c t24 = some r -> zT E [(0, iB c), (2, iI 0), (24, bV t24)] [] [] N') (fun N5 hN5 => ?_) ?_
 refine zd (oV vM (oV vB (oV vM ?_)))
 refine oS 27 hF (fun hF => ?_) (fun hF => ?_)
 refine oN (oV vM (oN (oV vB (oV yt (oV vA (zh ?_))))))
 exact sK [] [] (hN5 (decide (c <= 70)) hF)
 refine oF (oF (oV yj (oV vA (zh ?_))))
 exact sK [] [] (hN5 false hF)
 intro t24 hF
 unfold qc.digit_j5 at hF
 refine ze ?_
 refine cC hF (fun hF => ?_) (fun hF => ?_)
 refine cR (oV vM (oV vB (oV (yu (v := iI (IntKind.wrap .i64 (IntKind.wrap .u8 (c - 65)))) rfl (fun _ => by kernel_rfl)) (oV vB (oV vA (zb (zp ?_)))))))
 cases hF
 exact sR
 refine zk ?_
 exact sK [] [] (hN3 hF)
 intro hF
 unfold qc.digit_j3 at hF
 exact sK [] [] (hN1 hF)
 intro hF
 unfold qc.digit_j1 at hF
 refine ze (cR (oV vA (zb (zp ?_))))
 cases hF
 exact sR
theorem tri154 {r_ : zl} {b : Nat} {r : Int × Fault × zl} (hF : qc.reader_escaped r_ = some r) :
    xu Tryz.prog 154 [pt b] [.box b 177 [sV r_.text, iI r_.at_]] [] (fun o H Φ => o = .ret (.tuple #[iI r.1, .agg #[iI r.2.1.At, iI r.2.1.Code]]) /\ H = [.box b 177 [sV r.2.2.text, iI r.2.2.at_]] /\ Φ = []) := by
 unfold qc.reader_escaped at hF
 refine zt (n := 89) Tryz.func154 rfl Tryz.ntmps154 rfl fun w X => cR (oV vA (zC xv rfl rfl ?_))
 intro b1
 refine zb (cR (oV vM (oV vC ((fD 1) (oV (vL 1 yz) (oV (vU (.agg #[iI r_.at_, iI 12])) (zC xv rfl rfl ?_)))))))
 intro b2
 refine (sT 0 ya) (zb ?_)
 refine zf (zP (n := 11) [0, 0, 0] mixed rfl rfl (dv 0 rfl vM (dv 1 rfl vC (dv 2 rfl (vF 0) (dv 3 rfl (vL 2 xE) (dv 4 rfl vM (dv 5 rfl vC (dv 6 rfl (vF 1) (dv 7 rfl (vL 2 yz) (dv 8 rfl vB (zc hF ?_)))))))))))
 intro h1 hF
 refine dv 9 rfl (w9 Tryz.underlying9 rfl rfl rfl rfl rfl h1) (dv 10 rfl vA (zG (by kernel_rfl) (zf ?_)))
 refine cR (oV vM (oV (yP rfl rfl) (zb ?_)))
 refine cC hF (fun hF => ?_) (fun hF => ?_)
 refine zf (zP (n := 3) [0, 1] mixed rfl rfl (dv 0 rfl (vL 0 ya) (dv 1 rfl vA (dO 2 rfl ((sT 1 ya) (dN [0, 1] 0 (zG (by kernel_rfl) (zp ?_))))))))
 cases hF
 refine ye rfl (zX rfl) (zM 1 rfl ya rfl rfl rfl rfl) fun a w hs => zo hs [2] ⟨rfl, rfl, rfl⟩ rfl zn
 refine zk (ze (cR (oV vM (oV vC ((fD 1) (oV (vL 2 yz) (oV vB (oV vC ((fD 1) ((sT 2 yz) (zb (zf (cR ?_)))))))))))))
 refine oV vM (zc hF ?_)
 intro h3 hF
 refine oV (yw Tryz.underlying9 rfl rfl h3) (zb ?_)
 refine cT (fun E H Φ N' => qc.reader_escaped_j1 r_ = some r -> zT E [(0, pt b), (2, iI 0), (3, pt b1), (4, pt b2), (5, sV (sub r_.text (IntKind.wrap .i64 (r_.at_ + 1)) (r_.text.length : Int)))] H [] N') (fun N1 hN1 => ?_) ?_
 refine zq (cR (oV vB (oV vA (zb ?_))))
 refine cC hF (fun hF => ?_) (fun hF => ?_)
 refine cR (oV (vU (.agg #[iI 0, iI 0])) (oV vA ((sT 1 ya) (zb (zp ?_)))))
 cases hF
 refine ye rfl (zX rfl) (zM 1 rfl ya rfl rfl rfl rfl) fun a w hs => zo hs [2] ⟨rfl, rfl, rfl⟩ rfl zn
 refine cR (oV vB (oV vA (zb ?_)))
 refine cT (fun E H Φ N' => qc.reader_escaped_j2 r_ = some r -> zT E [(0, pt b), (2, iI 0), (3, pt b1), (4, pt b2), (5, sV (sub r_.text (IntKind.wrap .i64 (r_.at_ + 1)) (r_.text.length : Int))), (32, iB (yk (sub r_.text (IntKind.wrap .i64 (r_.at_ + 1)) (r_.text.length : Int)) 0))] H [] N') (fun N2 hN2 => ?_) ?_
 refine cC hF (fun hF => ?_) (fun hF => ?_)
 refine cR (oV (vU (.agg #[iI 0, iI 0])) (oV vA ((sT 1 ya) (zb (zp ?_)))))
 cases hF
 refine ye rfl (zX rfl) (zM 1 rfl ya rfl rfl rfl rfl) fun a w hs => zo hs [2] ⟨rfl, rfl, rfl⟩ rfl zn
 refine cR (oV vB (oV vA (zb ?_)))
 refine cC hF (fun hF => ?_) (fun hF => ?_)
 refine cR (oV (vU (.agg #[iI 0, iI 0])) (oV vA ((sT 1 ya) (zb (zp ?_)))))
 cases hF
 refine ye rfl (zX rfl) (zM 1 rfl ya rfl rfl rfl rfl) fun a w hs => zo hs [2] ⟨rfl, rfl, rfl⟩ rfl zn
 refine cR (oV vB (oV vA (zb ?_)))
 refine cC hF (fun hF => ?_) (fun hF => ?_)
 refine cR (oV (vU (.agg #[iI 0, iI 0])) (oV vA ((sT 1 ya) (zb (zp ?_)))))
 cases hF
 refine ye rfl (zX rfl) (zM 1 rfl ya rfl rfl rfl rfl) fun a w hs => zo hs [2] ⟨rfl, rfl, rfl⟩ rfl zn
 refine zf (cR (oV vB (oV vA (zb ?_))))
 refine cT (fun E H Φ N' => ∀ (t45 : Bool), qc.reader_escaped_j3 r_ t45 = some r -> zT E [(0, pt b), (2, iI 0), (3, pt b1), (4, pt b2), (5, sV (sub r_.text (IntKind.wrap .i64 (r_.at_ + 1)) (r_.text.length : Int))), (32, iB (yk (sub r_.text (IntKind.wrap .i64 (r_.at_ + 1)) (r_.text.length : Int)) 0)), (45, bV t45)] H [] N') (fun N5 hN5 => ?_) ?_
 refine cC hF (fun hF => ?_) (fun hF => ?_)
 refine zk ?_
 exact sK [0, 0, 0] [] (hN5 ((yk (sub r_.text (IntKind.wrap .i64 (r_.at_ + 1)) (r_.text.length : Int)) 0) == 91) hF)
 refine cR (oV vB (oV vA (zb ?_)))
 refine cC hF (fun hF => ?_) (fun hF => ?_)
 refine zk ?_
 exact sK [0, 0, 0] [] (hN5 ((yk (sub r_.text (IntKind.wrap .i64 (r_.at_ + 1)) (r_.text.length : Int)) 0) == 93) hF)
 refine cR (oV vB (oV vA (zb ?_)))
 refine cT (fun E H Φ N' => ∀ (t451 : Bool), qc.reader_escaped_j6 r_ t451 = some r -> zT E [(0, pt b), (2, iI 0), (3, pt b1), (4, pt b2), (5, sV (sub r_.text (IntKind.wrap .i64 (r_.at_ + 1)) (r_.text.length : Int))), (32, iB (yk (sub r_.text (IntKind.wrap .i64 (r_.at_ + 1)) (r_.text.length : Int)) 0)), (45, bV t451)] H [] N') (fun N6 hN6 => ?_) ?_
 refine cC hF (fun hF => ?_) (fun hF => ?_)
 refine zk ?_
 exact sK [0, 0, 0] [] (hN6 ((yk (sub r_.text (IntKind.wrap .i64 (r_.at_ + 1)) (r_.text.length : Int)) 0) == 92) hF)
 refine cR (oV vB (oV vA (zb ?_)))
 refine cC hF (fun hF => ?_) (fun hF => ?_)
 refine zk ?_
 exact sK [0, 0, 0] [] (hN6 ((yk (sub r_.text (IntKind.wrap .i64 (r_.at_ + 1)) (r_.text.length : Int)) 0) == 45) hF)
 refine zd (oV vB (oV vA (zh ?_)))
 exact sK [0, 0, 0] [] (hN6 ((yk (sub r_.text (IntKind.wrap .i64 (r_.at_ + 1)) (r_.text.length : Int)) 0) == 94) hF)
 intro t451 hF
 unfold qc.reader_escaped_j6 at hF
 exact sK [0, 0, 0] [] (hN5 t451 hF)
 intro t45 hF
 unfold qc.reader_escaped_j3 at hF
 refine ze ?_
 refine cT (fun E H Φ N' => qc.reader_escaped_j4 r_ = some r -> zT E [(0, pt b), (2, iI 0), (3, pt b1), (4, pt b2), (5, sV (sub r_.text (IntKind.wrap .i64 (r_.at_ + 1)) (r_.text.length : Int))), (32, iB (yk (sub r_.text (IntKind.wrap .i64 (r_.at_ + 1)) (r_.text.length : Int)) 0)), (45, bV t45)] H [] N') (fun N4 hN4 => ?_) ?_
 refine cC hF (fun hF => ?_) (fun hF => ?_)
 refine cR (oV vM (oV (yw Tryz.underlying9 rfl rfl h3) (oV (yu (v := iI (IntKind.wrap .i64 (yk (sub r_.text (IntKind.wrap .i64 (r_.at_ + 1)) (r_.text.length : Int)) 0))) rfl (fun _ => by kernel_rfl)) (oV (vU (.agg #[iI 0, iI 0])) (oV vA ((sT 1 ya) (zb (zp ?_))))))))
 cases hF
 refine ye rfl (zX rfl) (zM 1 rfl ya rfl rfl rfl rfl) fun a w hs => zo hs [2] ⟨rfl, rfl, rfl⟩ rfl zn
 refine cR (oV vB (oV vA (zb ?_)))
 refine cC hF (fun hF => ?_) (fun hF => ?_)
 refine zf ?_
 refine cT (fun E H Φ N' => ∀ (t71 : Bool), qc.reader_escaped_j5 r_ t71 = some r -> zT E [(0, pt b), (2, iI 0), (3, pt b1), (4, pt b2), (5, sV (sub r_.text (IntKind.wrap .i64 (r_.at_ + 1)) (r_.text.length : Int))), (32, iB (yk (sub r_.text (IntKind.wrap .i64 (r_.at_ + 1)) (r_.text.length : Int)) 0)), (45, bV t45), (71, bV t71)] H [] N') (fun N5 hN5 => ?_) ?_
 refine zd (oV vM (oV (yo Tryz.underlying9 rfl) (oV vB (oV vM ?_))))
 refine oS 60 hF (fun hF => ?_) (fun hF => ?_)
 refine oN (oV vM (oN (zc hF ?_)))
 intro h16 hF
 refine oV (yw Tryz.underlying9 rfl rfl h16) (oN ?_)
 obtain ⟨v2, h17, hF⟩ := bd hF
 refine zu call157 rfl zv (tri157 h17 :) rfl (oN (oV vB (oV yt (oV vM ?_))))
 refine oS 66 hF (fun hF => ?_) (fun hF => ?_)
 refine oN (oV vM (oN (zc hF ?_)))
 intro h19 hF
 refine oV (yw Tryz.underlying9 rfl rfl h19) (oN ?_)
 obtain ⟨v3, h20, hF⟩ := bd hF
 refine zu call157 rfl zv (tri157 h20 :) rfl (oN (oV vB (oV yt (zh ?_))))
 exact sK [0, 0, 0] [] (hN5 (decide (0 <= v3)) hF)
 refine oF (oF (oF (oF (oV yj (zh ?_)))))
 exact sK [0, 0, 0] [] (hN5 false hF)
 refine oF (oF (oF (oF (oV yj (oV vM (oF (oF (oF (oF (oV yj (zh ?_)))))))))))
 exact sK [0, 0, 0] [] (hN5 false hF)
 intro t71 hF
 unfold qc.reader_escaped_j5 at hF
 refine ze ?_
 refine cC hF (fun hF => ?_) (fun hF => ?_)
 refine cR (oV vM (oV vC ((fD 1) (oV (vL 2 yz) (oV vB (oV vC ((fD 1) ((sT 2 yz) (zb (zf (zP (n := 11) [0, 1] mixed rfl rfl (dv 0 rfl vM (zc hF ?_)))))))))))))
 intro h11 hF
 refine dv 1 rfl (yw Tryz.underlying9 rfl rfl h11) ?_
 refine dv 4 rfl vM (zc hF ?_)
 intro h12 hF
 refine dv 5 rfl (yw Tryz.underlying9 rfl rfl h12) (dv 8 rfl (we (v := .agg #[iI 0, iI 0]) rfl (fun _ => by kernel_rfl)) (dO 2 rfl ?_))
 obtain ⟨v, h13, hF⟩ := bd hF
 refine zu call157 rfl zv (tri157 h13 :) rfl (dN [0, 1] 0 (dv 3 rfl vB (dO 6 rfl ?_)))
 obtain ⟨v1, h14, hF⟩ := bd hF
 refine zu call157 rfl zv (tri157 h14 :) rfl (dN [0, 1] 0 (dv 7 rfl vB (dv 9 rfl vA (dO 10 rfl ((sT 1 ya) (dN [0, 1] 0 (zG (by kernel_rfl) (zp ?_))))))))
 cases hF
 refine ye rfl (zX rfl) (zM 1 rfl ya rfl rfl rfl rfl) fun a w hs => zo hs [2] ⟨rfl, rfl, rfl⟩ rfl zn
 refine zk ?_
 exact sK [0, 0, 0] [] (hN4 hF)
 refine zk ?_
 exact sK [0, 0, 0] [] (hN4 hF)
 intro hF
 unfold qc.reader_escaped_j4 at hF
 exact sK [0, 0, 0] [] (hN2 hF)
 intro hF
 unfold qc.reader_escaped_j2 at hF
 exact sK [0, 0, 0] [] (hN1 hF)
 intro hF
 unfold qc.reader_escaped_j1 at hF
 refine ze (zf (zP (n := 3) [0, 1] mixed rfl rfl (dv 0 rfl (vL 0 ya) (dv 1 rfl vA (dO 2 rfl ((sT 1 ya) (dN [0, 1] 0 (zG (by kernel_rfl) (zp ?_)))))))))
 cases hF
 refine ye rfl (zX rfl) (zM 1 rfl ya rfl rfl rfl rfl) fun a w hs => zo hs [2] ⟨rfl, rfl, rfl⟩ rfl zn
theorem tri147 {r_ : zl} {b : Nat} {r : Int × Fault × zl} (hF : qc.reader_char r_ = some r) :
    xu Tryz.prog 147 [pt b] [.box b 177 [sV r_.text, iI r_.at_]] [] (fun o H Φ => o = .ret (.tuple #[iI r.1, .agg #[iI r.2.1.At, iI r.2.1.Code]]) /\ H = [.box b 177 [sV r.2.2.text, iI r.2.2.at_]] /\ Φ = []) := by
 unfold qc.reader_char at hF
 refine zt (n := 73) Tryz.func147 rfl Tryz.ntmps147 rfl fun w X => cR (oV vA (zC xv rfl rfl ?_))
 intro b1
 refine zb (zf (zf (zP (n := 10) [0, 0] mixed rfl rfl (dv 0 rfl vM (dv 1 rfl vC (dv 2 rfl (vF 1) (dv 3 rfl (vL 1 yz) (dv 4 rfl vM (dv 5 rfl vC (dv 6 rfl (vF 0) ?_))))))))))
 refine dv 7 rfl (vL 1 xE) (dv 8 rfl (yo Tryz.underlying9 rfl) (dv 9 rfl vB (zG (by kernel_rfl) ?_)))
 refine cC hF (fun hF => ?_) (fun hF => ?_)
 refine zf (zP (n := 8) [1] mixed rfl rfl (dv 0 rfl vM (dv 1 rfl vC (dv 2 rfl (vF 0) (dv 3 rfl (vL 0 xE) (dv 4 rfl (yo Tryz.underlying9 rfl) (dv 5 rfl (we (v := .agg #[iI (r_.text.length : Int), iI 14]) rfl (fun _ => by kernel_rfl)) (dv 6 rfl vA (dO 7 rfl ((sT 0 ya) (dN [1] 0 (zG (by kernel_rfl) (zp ?_)))))))))))))
 cases hF
 refine ye rfl (zX rfl) (zM 0 rfl ya rfl rfl rfl rfl) fun a w hs => zo hs [1] ⟨rfl, rfl, rfl⟩ rfl zn
 refine zk (ze (zf (zP (n := 10) [0, 0] mixed rfl rfl (dv 0 rfl vM (dv 1 rfl vC (dv 2 rfl (vF 0) (dv 3 rfl (vL 1 xE) (dv 4 rfl vM (dv 5 rfl vC (dv 6 rfl (vF 1) (dv 7 rfl (vL 1 yz) (zc hF ?_))))))))))))
 intro h2 hF
 refine dv 8 rfl (yw Tryz.underlying9 rfl rfl h2) (dv 9 rfl vA (zG (by kernel_rfl) ?_))
 refine zf (cR (oV vM (oV vB (zb ?_))))
 refine cC hF (fun hF => ?_) (fun hF => ?_)
 refine cR (oV vM ?_)
 obtain ⟨v, h4, hF⟩ := bd hF
 refine yx [1] call154 rfl rfl zn (tri154 h4 :) ?_
 rintro _ _ _ ⟨rfl, rfl, rfl⟩
 refine oV vX (oV vX (oV vA ((sT 1 ya) (zb (zp ?_)))))
 cases hF
 refine ye rfl (zX rfl) (zM 1 rfl ya rfl rfl rfl rfl) fun a w hs => zo hs [0] ⟨rfl, rfl, rfl⟩ rfl zn
 refine zk (ze (zf (zf ?_)))
 refine cT (fun E H Φ N' => ∀ (t57 : Bool), qc.reader_char_j1 r_ t57 = some r -> zT E [(0, pt b), (2, iI 0), (3, pt b1), (4, iB (yk r_.text r_.at_)), (57, bV t57)] H [] N') (fun N1 hN1 => ?_) ?_
 refine zd (oV vM (oV vB (oV vM ?_)))
 refine oS 38 hF (fun hF => ?_) (fun hF => ?_)
 refine oF (oF (oV yt (oV vM (oF (oF (oV yt (oV vM (oF (oF (oV yt (oV vM (oF (oF (oV yt (oV vM ?_)))))))))))))))
 refine oF (oF (oV yt (zh ?_)))
 exact sK [0, 0] [] (hN1 true hF)
 refine oN (oV vM (oN (oV vB (oV yj (oV vM ?_)))))
 refine oS 42 hF (fun hF => ?_) (fun hF => ?_)
 refine oF (oF (oV yt (oV vM (oF (oF (oV yt (oV vM (oF (oF (oV yt (oV vM (oF (oF (oV yt (zh ?_)))))))))))))))
 exact sK [0, 0] [] (hN1 true hF)
 refine oN (oV vM (oN (oV vB (oV yj (oV vM ?_)))))
 refine oS 46 hF (fun hF => ?_) (fun hF => ?_)
 refine oF (oF (oV yt (oV vM (oF (oF (oV yt (oV vM (oF (oF (oV yt (zh ?_)))))))))))
 exact sK [0, 0] [] (hN1 true hF)
 refine oN (oV vM (oN (oV vB (oV yj (oV vM ?_)))))
 refine oS 50 hF (fun hF => ?_) (fun hF => ?_)
 refine oF (oF (oV yt (oV vM (oF (oF (oV yt (zh ?_)))))))
 exact sK [0, 0] [] (hN1 true hF)
 refine oN (oV vM (oN (oV vB (oV yj (oV vM ?_)))))
 refine oS 54 hF (fun hF => ?_) (fun hF => ?_)
 refine oF (oF (oV yt (zh ?_)))
 exact sK [0, 0] [] (hN1 true hF)
 refine oN (oV vM (oN (oV vB (oV yj (zh ?_)))))
 exact sK [0, 0] [] (hN1 ((yk r_.text r_.at_) == 94) hF)
 intro t57 hF
 unfold qc.reader_char_j1 at hF
 refine ze ?_
 refine cC hF (fun hF => ?_) (fun hF => ?_)
 refine zf (zP (n := 7) [1] mixed rfl rfl (dv 0 rfl vM (dv 1 rfl vC (dv 2 rfl (vF 1) (dv 3 rfl (vL 0 yz) (dv 4 rfl (we (v := .agg #[iI r_.at_, iI 11]) rfl (fun _ => by kernel_rfl)) (dv 5 rfl vA (dO 6 rfl ((sT 0 ya) (dN [1] 0 (zG (by kernel_rfl) (zp ?_))))))))))))
 cases hF
 refine ye rfl (zX rfl) (zM 0 rfl ya rfl rfl rfl rfl) fun a w hs => zo hs [1] ⟨rfl, rfl, rfl⟩ rfl zn
 refine zk (ze (cR (oV vM (oV vC ((fD 1) (oV (vL 1 yz) (oV vB (oV vC ((fD 1) ((sT 1 yz) (zb (cR (oV vM ?_)))))))))))))
 refine oV (yu (v := iI (IntKind.wrap .i64 (yk r_.text r_.at_))) rfl (fun _ => by kernel_rfl)) (oV (vU (.agg #[iI 0, iI 0])) (oV vA ((sT 0 ya) (zb (zp ?_)))))
 cases hF
 refine ye rfl (zX rfl) (zM 0 rfl ya rfl rfl rfl rfl) fun a w hs => zo hs [1] ⟨rfl, rfl, rfl⟩ rfl zn
theorem tri148 {k : Nat} {lo : Int} {hi : Int} {r : S4 × Int} (hF : qc.Range k lo hi = some r) :
    xu Tryz.prog 148 [iI lo, iI hi] [] [] (oR (.tuple #[.agg r.1.vs.toArray, iI r.2])) := by
 unfold qc.Range at hF
 refine zt (n := 36) Tryz.func148 rfl Tryz.ntmps148 rfl fun w X => cR (zC wU rfl rfl fun b => oV vA (zb (cR (zC wU rfl rfl ?_))))
 intro b1
 refine zb (zf (cR (oV vM (oV vB (oV vM ?_)))))
 refine oS 10 hF (fun hF => ?_) (fun hF => ?_)
 refine oF (oF (oV yt (oV vM (oF (oF (oF (oV yt (zb ?_))))))))
 refine xH rfl (fun _ => ?_) (fun h => Bool.noConfusion h)
 refine cR (oV (vL 0 yT) ((sT 1 yT) (oV vA (zb (zp ?_)))))
 cases hF
 refine ye rfl (zM 1 rfl yT rfl rfl rfl rfl) (zX rfl) fun a w hs => zo hs [] ⟨rfl, rfl, rfl⟩ rfl zn
 refine oN (oV vM (oN (oV vB (oV yj (oV vM ?_)))))
 refine oS 14 hF (fun hF => ?_) (fun hF => ?_)
 refine oF (oF (oF (oV yt (zb ?_))))
 refine xH rfl (fun _ => ?_) (fun h => Bool.noConfusion h)
 refine cR (oV (vL 0 yT) ((sT 1 yT) (oV vA (zb (zp ?_)))))
 cases hF
 refine ye rfl (zM 1 rfl yT rfl rfl rfl rfl) (zX rfl) fun a w hs => zo hs [] ⟨rfl, rfl, rfl⟩ rfl zn
 refine oN (oV vM (oN (oV vM (oN (oV vB (oV yj (zb ?_)))))))
 refine cC hF (fun hF => ?_) (fun hF => ?_)
 refine cR (oV (vL 0 yT) ((sT 1 yT) (oV vA (zb (zp ?_)))))
 cases hF
 refine ye rfl (zM 1 rfl yT rfl rfl rfl rfl) (zX rfl) fun a w hs => zo hs [] ⟨rfl, rfl, rfl⟩ rfl zn
 refine zk (ze (zf (cR (oV vM (oV vA (zb ?_))))))
 obtain ⟨o1, ho1, hF⟩ := bd hF
 refine z8 (fun E N' => zT E [(0, iI lo), (1, iI hi), (4, pt b), (5, iI 0), (6, pt b1)] [.box b1 44 o1.vs, .box b 44 [iU 0, iU 0, iU 0, iU 0]] [] N') (fun N1 hN1 => ?_) ?_
 refine zq ?_
 refine xG (fun E j a w => ∃ (i : Int) (s : S4), qc.Range_l1 hi j i s = some o1 /\ St E [(0, iI lo), (1, iI hi), (4, pt b), (5, iI 0), (6, pt b1), (7, iI i)] [.box b1 44 s.vs, .box b 44 [iU 0, iU 0, iU 0, iU 0]] [] a w) k ?_ ?_
 exact lq [0, 0] [] fun a w hs => ⟨lo, (S4.mk 0 0 0 0), ho1, hs⟩
 rintro j a w ⟨i, s, hL1, hs⟩
 rcases j with _ | j
 cases hL1
 refine yd hs ?_
 unfold qc.Range_l1 at hL1
 refine zf (cR (oV vM (oV vM (oV vB (zb ?_)))))
 refine cC hL1 (fun hL1 => ?_) (fun hL1 => ?_)
 refine zk (ze (zf (zq (zP (n := 10) [1] mixed rfl rfl (dv 0 rfl vM (dv 1 rfl (v_quo rfl rfl rfl) (zc hL1 ?_)))))))
 intro h5 hL1
 refine dv 2 rfl (xI ar44 rfl rfl h5) (dv 4 rfl vM (dv 5 rfl (v_rem rfl rfl rfl) (ite_none hL1 ?_)))
 intro h6 hL1
 refine dv 6 rfl (v_shl rfl rfl h6) (dO 3 rfl (oV (qr 0 s ty42 rfl rfl h5) (dN [1] 0 ?_)))
 refine dv 7 rfl (v_bit rfl rfl rfl) (dv 8 rfl (xI ar44 rfl rfl h5) (dO 9 rfl (uJ 0 s rfl ty42 rfl rfl rfl h5 (dN [1] 0 (dD (ze (zd (oV vM (oV vB (oV vA (zh ?_)))))))))))
 exact lp [0, 0] [] fun a w hs => ⟨IntKind.wrap .i64 (i + 1), (S4.set s (vh .i64 i 64) (gor .u64 (S4.get s (vh .i64 i 64)) (gshl .u64 1 (jL i 64)))), hL1, hs⟩
 refine zW ?_
 cases hL1
 exact sK [0, 0] [] (hN1)
 refine ze (cR (oV (vL 0 yT) ((sT 1 yT) (oV vA (zb (zp ?_))))))
 cases hF
 refine ye rfl (zM 1 rfl yT rfl rfl rfl rfl) (zX rfl) fun a w hs => zo hs [] ⟨rfl, rfl, rfl⟩ rfl zn
theorem tri137 {k : Nat} {r_ : zl} {b : Nat} {r : S4 × Fault × zl} (hF : qc.reader_item k r_ = some r) :
    xu Tryz.prog 137 [pt b] [.box b 177 [sV r_.text, iI r_.at_]] [] (fun o H Φ => o = .ret (.tuple #[.agg r.1.vs.toArray, .agg #[iI r.2.1.At, iI r.2.1.Code]]) /\ H = [.box b 177 [sV r.2.2.text, iI r.2.2.at_]] /\ Φ = []) := by
 unfold qc.reader_item at hF
 refine zt (n := 78) Tryz.func137 rfl Tryz.ntmps137 rfl fun w X => cR (zC wU rfl rfl fun b1 => zC xv rfl rfl fun b2 => zb (cR (oV vM (oV vC ((fD 1) (oV (vL 2 yz) (oV vA (zb (cR ?_)))))))))
 refine oV vM ?_
 obtain ⟨v, h1, hF⟩ := bd hF
 refine yx [2] call147 rfl rfl zn (tri147 h1 :) ?_
 rintro _ _ _ ⟨rfl, rfl, rfl⟩
 refine oV vM (oV vX (oV vX (zC xv rfl rfl ?_)))
 intro b3
 refine oV vA ((sT 0 ya) (zb (zf (cR ((fD 1) (oV (vL 0 ty32) (oV vB (zb ?_))))))))
 refine cC hF (fun hF => ?_) (fun hF => ?_)
 refine zf (zP (n := 4) [0, 0] mixed rfl rfl (dv 0 rfl (we (v := .agg #[iU 0, iU 0, iU 0, iU 0]) rfl (fun _ => by kernel_rfl)) (dv 1 rfl (vL 0 ya) (dO 2 rfl ((sT 3 yT) (dN [0, 0] 0 (dO 3 rfl ((sT 2 ya) (dN [0, 0] 0 (zG (by kernel_rfl) (zp ?_)))))))))))
 cases hF
 refine ye rfl (zM 3 rfl yT rfl rfl rfl rfl) (zM 2 rfl ya rfl rfl rfl rfl) fun a w hs => zo hs [1] ⟨rfl, rfl, rfl⟩ rfl zn
 refine zk (ze (cR (oV vM (oV vA (zb (zf (zf ?_)))))))
 refine cT (fun E H Φ N' => ∀ (t46 : Bool), qc.reader_item_j1 k v r_ t46 = some r -> zT E [(0, pt b), (2, pt b1), (3, pt b2), (4, iI r_.at_), (5, iI v.1), (6, pt b3), (7, iI v.1), (46, bV t46)] H [] N') (fun N2 hN2 => ?_) ?_
 refine zP (n := 22) [0, 0, 0, 0] mixed rfl rfl (dv 0 rfl vM (dv 1 rfl vC (dv 2 rfl (vF 1) (dv 3 rfl (vL 1 yz) (dv 4 rfl vM (dv 5 rfl vC (dv 6 rfl (vF 0) (dv 7 rfl (vL 1 xE) (dv 8 rfl (yo Tryz.underlying9 rfl) (dv 9 rfl vB (dv 10 rfl vM ?_)))))))))))
 refine jq (t := 35) rfl (fun h8 => ?_) (fun h8 => ?_)
 replace hF := qF h8 hF
 refine dw 11 rfl rfl rfl vM (dw 12 rfl rfl rfl vC (dw 13 rfl rfl rfl (vF 0) (dw 14 rfl rfl rfl (vL 1 xE) (dw 15 rfl rfl rfl vM (dw 16 rfl rfl rfl vC (dw 17 rfl rfl rfl (vF 1) (dw 18 rfl rfl rfl (vL 1 yz) (zc hF ?_))))))))
 intro h9 hF
 refine dw 19 rfl rfl rfl (yw Tryz.underlying9 rfl rfl h9) (dw 20 rfl rfl rfl vB (dv 21 rfl yt (dD ?_)))
 exact sK [0, 0, 0, 0] [] (hN2 ((yk v.2.2.text v.2.2.at_) == 45) hF)
 replace hF := qG h8 hF
 refine dF 11 rfl (dF 12 rfl (dF 13 rfl (dF 14 rfl (dF 15 rfl (dF 16 rfl (dF 17 rfl (dF 18 rfl (dF 19 rfl (dF 20 rfl (dv 21 rfl yj (dD ?_)))))))))))
 exact sK [0, 0, 0, 0] [] (hN2 false hF)
 intro t46 hF
 unfold qc.reader_item_j1 at hF
 refine ze ?_
 refine z8 (fun E N' => ∀ (hi : Int) (text_ : Tx) (at__ : Int) (At_ : Int) (Code_ : Int), qc.reader_item_j2 k v r_ hi text_ at__ At_ Code_ = some r -> zT E [(0, pt b), (2, pt b1), (3, pt b2), (4, iI r_.at_), (5, iI v.1), (6, pt b3), (7, iI hi)] [.box b 177 [sV text_, iI at__], .box b3 37 [iI At_, iI Code_], .box b2 37 [iI 0, iI 0], .box b1 44 [iU 0, iU 0, iU 0, iU 0]] [] N') (fun N2 hN2 => ?_) ?_
 refine cC hF (fun hF => ?_) (fun hF => ?_)
 refine cR (oV vM (oV vC ((fD 1) (oV (vL 1 yz) (oV vB (oV vC ((fD 1) ((sT 1 yz) (zb (cR (oV vM ?_)))))))))))
 obtain ⟨v2, h6, hF⟩ := bd hF
 refine yx [1] call147 rfl rfl zn (tri147 h6 :) ?_
 rintro _ _ _ ⟨rfl, rfl, rfl⟩
 refine oV vM (oV vX (oV vX (oV vA ((sT 1 ya) (zb (cR ((fD 1) (oV (vL 1 ty32) (oV vB (zb ?_))))))))))
 refine cC hF (fun hF => ?_) (fun hF => ?_)
 refine zf (zP (n := 4) [0, 0] mixed rfl rfl (dv 0 rfl (we (v := .agg #[iU 0, iU 0, iU 0, iU 0]) rfl (fun _ => by kernel_rfl)) (dv 1 rfl (vL 1 ya) (dO 2 rfl ((sT 3 yT) (dN [0, 0] 0 (dO 3 rfl ((sT 2 ya) (dN [0, 0] 0 (zG (by kernel_rfl) (zp ?_)))))))))))
 cases hF
 refine ye rfl (zM 3 rfl yT rfl rfl rfl rfl) (zM 2 rfl ya rfl rfl rfl rfl) fun a w hs => zo hs [0] ⟨rfl, rfl, rfl⟩ rfl zn
 refine zk ?_
 exact sK [0, 0, 0, 0] [] (hN2 v2.1 v2.2.2.text v2.2.2.at_ v2.2.1.At v2.2.1.Code hF)
 refine zk ?_
 exact sK [1, 0, 0, 0] [] (hN2 v.1 v.2.2.text v.2.2.at_ v.2.1.At v.2.1.Code hF)
 intro hi text_ at__ At_ Code_ hF
 unfold qc.reader_item_j2 at hF
 refine ze (cR (oV vM (oV vM ?_)))
 obtain ⟨v1, h3, hF⟩ := bd hF
 refine zu call148 rfl zv (tri148 h3 :) rfl (oV vM (oV vX (oV vX (zC wU rfl rfl ?_))))
 intro b4
 refine (sT 0 yT) (oV vA (zb (zf (cR (oV vM (oV vB (zb ?_)))))))
 refine cC hF (fun hF => ?_) (fun hF => ?_)
 refine cR (oV (vU (.agg #[iU 0, iU 0, iU 0, iU 0])) (oV vM (oV vM (oV (vU (.agg #[iI r_.at_, iI v1.2])) ((sT 4 yT) ((sT 3 ya) (zb (zp ?_))))))))
 cases hF
 refine ye rfl (zM 4 rfl yT rfl rfl rfl rfl) (zM 3 rfl ya rfl rfl rfl rfl) fun a w hs => zo hs [1] ⟨rfl, rfl, rfl⟩ rfl zn
 refine zk (ze (cR (oV (vL 0 yT) (oV (vU (.agg #[iI 0, iI 0])) ((sT 4 yT) ((sT 3 ya) (zb (zp ?_))))))))
 cases hF
 refine ye rfl (zM 4 rfl yT rfl rfl rfl rfl) (zM 3 rfl ya rfl rfl rfl rfl) fun a w hs => zo hs [1] ⟨rfl, rfl, rfl⟩ rfl zn
theorem tri138 {k : Nat} {a_ : S4} {b : S4} {r : S4} (hF : qc.Union k a_ b = some r) :
    xu Tryz.prog 138 [.agg a_.vs.toArray, .agg b.vs.toArray] [] [] (oR (.agg r.vs.toArray)) := by
 unfold qc.Union at hF
 refine zt (n := 19) Tryz.func138 rfl Tryz.ntmps138 rfl fun w X => cR (xr rfl rfl rfl fun b1 => xr rfl rfl rfl fun b2 => zC wU rfl rfl fun b3 => zb (zf (cR (oV vM (zb ?_)))))
 obtain ⟨o1, ho1, hF⟩ := bd hF
 refine z8 (fun E N' => zT E [(0, .agg a_.vs.toArray), (1, .agg b.vs.toArray), (2, pt b1), (4, pt b3)] [.box b3 44 [iU 0, iU 0, iU 0, iU 0], .box b1 44 o1.vs] [] N') (fun N1 hN1 => ?_) ?_
 refine zq ?_
 refine xG (fun E j a w => ∃ (t6 : Int) (a_1 : S4), qc.Union_l1 b j t6 a_1 = some o1 /\ St E [(0, .agg a_.vs.toArray), (1, .agg b.vs.toArray), (2, pt b1), (3, pt b2), (4, pt b3), (6, iI t6)] [.box b3 44 [iU 0, iU 0, iU 0, iU 0], .box b2 44 b.vs, .box b1 44 a_1.vs] [] a w) k ?_ ?_
 exact lq [0, 0, 0] [] fun a w hs => ⟨0, a_, ho1, hs⟩
 rintro j a w ⟨t6, a_1, hL1, hs⟩
 rcases j with _ | j
 cases hL1
 refine yd hs ?_
 unfold qc.Union_l1 at hL1
 refine cR (oV vB (zb (zf ?_)))
 refine cC hL1 (fun hL1 => ?_) (fun hL1 => ?_)
 refine zk (ze (zf (zq (cR (oV vM (oV vA (zb (zP (n := 9) [0, 0] mixed rfl rfl (dv 0 rfl vM (zc hL1 ?_))))))))))
 intro h2 hL1
 refine dv 1 rfl (xI ar44 rfl rfl h2) (dv 3 rfl vM (dv 4 rfl (xI ar44 rfl rfl h2) (dv 5 rfl (qr 1 b ty42 rfl rfl h2) ?_)))
 refine dO 2 rfl (oV (qr 2 a_1 ty42 rfl rfl h2) (dN [0, 0] 0 (dv 6 rfl (v_bit rfl rfl rfl) (dv 7 rfl (xI ar44 rfl rfl h2) (dO 8 rfl (uJ 2 a_1 rfl ty42 rfl rfl rfl h2 (dN [0, 0] 0 (dD (ze (zd (oV vB (oV vM (zh ?_)))))))))))))
 exact lp [0, 0, 0] [] fun a w hs => ⟨IntKind.wrap .i64 (t6 + 1), (S4.set a_1 t6 (gor .u64 (S4.get a_1 t6) (S4.get b t6))), hL1, hs⟩
 refine zW ?_
 cases hL1
 exact sK [0, 1] [] (hN1)
 refine ze (cR (oV (vL 1 yT) ((sT 0 yT) (zb (zp ?_)))))
 cases hF
 refine yH rfl (zM 0 rfl yT rfl rfl rfl rfl) fun a w hs => zo hs [] ⟨rfl, rfl, rfl⟩ rfl zn
theorem tri139 {k : Nat} {a_ : S4} {r : S4} (hF : qc.Not k a_ = some r) :
    xu Tryz.prog 139 [.agg a_.vs.toArray] [] [] (oR (.agg r.vs.toArray)) := by
 unfold qc.Not at hF
 refine zt (n := 15) Tryz.func139 rfl Tryz.ntmps139 rfl fun w X => cR (xr rfl rfl rfl fun b => zC wU rfl rfl fun b1 => zb (zf (cR (oV vM (zb ?_)))))
 obtain ⟨o1, ho1, hF⟩ := bd hF
 refine z8 (fun E N' => zT E [(0, .agg a_.vs.toArray), (1, pt b), (2, pt b1)] [.box b1 44 [iU 0, iU 0, iU 0, iU 0], .box b 44 o1.vs] [] N') (fun N1 hN1 => ?_) ?_
 refine zq ?_
 refine xG (fun E j a w => ∃ (t4 : Int) (a_1 : S4), qc.Not_l1 j t4 a_1 = some o1 /\ St E [(0, .agg a_.vs.toArray), (1, pt b), (2, pt b1), (4, iI t4)] [.box b1 44 [iU 0, iU 0, iU 0, iU 0], .box b 44 a_1.vs] [] a w) k ?_ ?_
 exact lq [0, 0] [] fun a w hs => ⟨0, a_, ho1, hs⟩
 rintro j a w ⟨t4, a_1, hL1, hs⟩
 rcases j with _ | j
 cases hL1
 refine yd hs ?_
 unfold qc.Not_l1 at hL1
 refine cR (oV vB (zb (zf ?_)))
 refine cC hL1 (fun hL1 => ?_) (fun hL1 => ?_)
 refine zk (ze (zf (zq (cR (oV vM (oV vA (zb (zd (oV vM (oV vM (zc hL1 ?_)))))))))))
 intro h2 hL1
 refine oV (xI ar44 rfl rfl h2) (oV (qr 1 a_1 ty42 rfl rfl h2) (oV (v_un (v := iU (gu .u64 (S4.get a_1 t4))) rfl (fun _ => by kernel_rfl)) ?_))
 refine oV (xI ar44 rfl rfl h2) (uJ 1 a_1 rfl ty42 rfl rfl rfl h2 (zh (ze (zd (oV vB (oV vM (zh ?_)))))))
 exact lp [0, 0] [] fun a w hs => ⟨IntKind.wrap .i64 (t4 + 1), (S4.set a_1 t4 (gu .u64 (S4.get a_1 t4))), hL1, hs⟩
 refine zW ?_
 cases hL1
 exact sK [0, 0] [] (hN1)
 refine ze (cR (oV (vL 1 yT) ((sT 0 yT) (zb (zp ?_)))))
 cases hF
 refine yH rfl (zM 0 rfl yT rfl rfl rfl rfl) fun a w hs => zo hs [] ⟨rfl, rfl, rfl⟩ rfl zn
theorem tri125 {k : Nat} {text_ : Tx} {r : S4 × Fault} (hF : qc.Parse k text_ = some r) :
    xu Tryz.prog 125 [sV text_] [] [] (oR (.tuple #[.agg r.1.vs.toArray, .agg #[iI r.2.At, iI r.2.Code]])) := by
 unfold qc.Parse at hF
 refine zt (n := 87) Tryz.func125 rfl Tryz.ntmps125 rfl fun w X => cR (zC wU rfl rfl fun b => zC xv rfl rfl fun b1 => zb (zf (cR (oV vM (oV (yo Tryz.underlying9 rfl) (oV vB (zb ?_)))))))
 refine cC hF (fun hF => ?_) (fun hF => ?_)
 refine cR (oV (vU (.agg #[iU 0, iU 0, iU 0, iU 0])) (oV (vU (.agg #[iI 0, iI 2])) ((sT 1 yT) ((sT 0 ya) (zb (zp ?_))))))
 cases hF
 refine ye rfl (zM 1 rfl yT rfl rfl rfl rfl) (zM 0 rfl ya rfl rfl rfl rfl) fun a w hs => zo hs [] ⟨rfl, rfl, rfl⟩ rfl zn
 refine zk (ze (zf (zf ?_)))
 refine cT (fun E H Φ N' => ∀ (t20 : Bool), qc.Parse_j1 k text_ t20 = some r -> zT E [(0, sV text_), (2, pt b), (3, pt b1), (20, bV t20)] H [] N') (fun N5 hN5 => ?_) ?_
 refine zd (oV vM (oV (yP rfl rfl) (oV vM ?_)))
 refine oS 16 hF (fun hF => ?_) (fun hF => ?_)
 refine oF (oF (oF (oV yt (zh ?_))))
 exact sK [0, 0] [] (hN5 true hF)
 refine oN (oV vM (oN (zc hF ?_)))
 intro h16 hF
 refine oV (yw Tryz.underlying9 rfl rfl h16) (oN (oV vB (oV yj (zh ?_))))
 exact sK [0, 0] [] (hN5 ((yk text_ 0) != 91) hF)
 intro t20 hF
 unfold qc.Parse_j1 at hF
 refine ze ?_
 refine cC hF (fun hF => ?_) (fun hF => ?_)
 refine cR (oV (vU (.agg #[iU 0, iU 0, iU 0, iU 0])) (oV (vU (.agg #[iI 0, iI 13])) ((sT 1 yT) ((sT 0 ya) (zb (zp ?_))))))
 cases hF
 refine ye rfl (zM 1 rfl yT rfl rfl rfl rfl) (zM 0 rfl ya rfl rfl rfl rfl) fun a w hs => zo hs [] ⟨rfl, rfl, rfl⟩ rfl zn
 refine zk (ze (cR (oV vM (oV (vU (.agg #[sV text_, iI 1])) (xr rfl rfl rfl ?_)))))
 intro b2
 refine oV vA (zb (zf ?_))
 refine cT (fun E H Φ N' => ∀ (not : Bool), qc.Parse_j2 k text_ not = some r -> zT E [(0, sV text_), (2, pt b), (3, pt b1), (4, pt b2), (5, bV not)] H [] N') (fun N5 hN5 => ?_) ?_
 refine zd (oV vM (oV (yo Tryz.underlying9 rfl) (oV vB (oV vM ?_))))
 refine oS 29 hF (fun hF => ?_) (fun hF => ?_)
 refine oN (oV vM (oN (zc hF ?_)))
 intro h14 hF
 refine oV (yw Tryz.underlying9 rfl rfl h14) (oN (oV vB (oV yt (oV vA (zh ?_)))))
 exact sK [0, 0, 0] [] (hN5 ((yk text_ 1) == 94) hF)
 refine oF (oF (oF (oV yj (oV vA (zh ?_)))))
 exact sK [0, 0, 0] [] (hN5 false hF)
 intro not hF
 unfold qc.Parse_j2 at hF
 refine ze (zf (cR (oV vM (zb ?_))))
 refine z8 (fun E N' => ∀ (at__ : Int), qc.Parse_j3 k text_ not at__ = some r -> zT E [(0, sV text_), (2, pt b), (3, pt b1), (4, pt b2), (5, bV not)] [.box b2 177 [sV text_, iI at__], .box b1 37 [iI 0, iI 0], .box b 44 [iU 0, iU 0, iU 0, iU 0]] [] N') (fun N5 hN5 => ?_) ?_
 refine cC hF (fun hF => ?_) (fun hF => ?_)
 refine zd (oV vM (oV vC ((fD 1) ((sT 0 yz) (zh ?_)))))
 exact sK [0, 0, 0] [] (hN5 2 hF)
 refine zk ?_
 exact sK [0, 0, 0] [] (hN5 1 hF)
 intro at__ hF
 unfold qc.Parse_j3 at hF
 refine ze (cR (zC wU rfl rfl fun b3 => zb (zf ?_)))
 obtain ⟨o4, ho4, hF⟩ := bd hF
 refine z8 (fun E N' => ∀ (d4 : S4 × Tx × Int), o4 = .done d4 -> zT E [(0, sV text_), (2, pt b), (3, pt b1), (4, pt b2), (5, bV not), (6, pt b3)] [.box b3 44 d4.1.vs, .box b2 177 [sV d4.2.1, iI d4.2.2], .box b1 37 [iI 0, iI 0], .box b 44 [iU 0, iU 0, iU 0, iU 0]] [] N') (fun N4 hN4 => ?_) ?_
 refine zq ?_
 refine xG (fun E j a w => ∃ (out_ : S4) (text_1 : Tx) (at__1 : Int), qc.Parse_l4 k text_ j out_ text_1 at__1 = some o4 /\ St E [(0, sV text_), (2, pt b), (3, pt b1), (4, pt b2), (5, bV not), (6, pt b3)] [.box b3 44 out_.vs, .box b2 177 [sV text_1, iI at__1], .box b1 37 [iI 0, iI 0], .box b 44 [iU 0, iU 0, iU 0, iU 0]] [] a w) k ?_ ?_
 exact lq [0, 0, 0, 0] [] fun a w hs => ⟨(S4.mk 0 0 0 0), text_, at__, ho4, hs⟩
 rintro j a w ⟨out_, text_1, at__1, hL4, hs⟩
 rcases j with _ | j
 cases hL4
 refine yd hs ?_
 unfold qc.Parse_l4 at hL4
 refine zf (zf ?_)
 refine cT (fun E H Φ N' => ∀ (t53 : Bool), qc.Parse_j5 k text_1 at__1 out_ (qc.Parse_l4 k text_ j) t53 = some o4 -> zT E [(0, sV text_), (2, pt b), (3, pt b1), (4, pt b2), (5, bV not), (6, pt b3), (53, bV t53)] H [] N') (fun N5 hN5 => ?_) ?_
 refine zd (oV vM (oV vC ((fD 1) (oV (vL 1 yz) (oV vM (oV (yo Tryz.underlying9 rfl) (oV vB (oV vM ?_))))))))
 refine oS 45 hL4 (fun hL4 => ?_) (fun hL4 => ?_)
 refine oF (oF (oF (oF (oF (oF (oF (oV yt (zh ?_))))))))
 exact sK [0, 0, 0, 0] [] (hN5 true hL4)
 refine oN (oV vM (oN (oV vM (oN (oV vC (oN ((fD 1) (oN (oV (vL 1 yz) (oN (zc hL4 ?_)))))))))))
 intro h8 hL4
 refine oV (yw Tryz.underlying9 rfl rfl h8) (oN (oV vB (oV yj ?_)))
 refine zh ?_
 exact sK [0, 0, 0, 0] [] (hN5 ((yk text_ at__1) != 93) hL4)
 intro t53 hL4
 unfold qc.Parse_j5 at hL4
 refine ze ?_
 refine cC hL4 (fun hL4 => ?_) (fun hL4 => ?_)
 refine zk (ze (zq (cR (oV vM ?_))))
 obtain ⟨v, h4, hL4⟩ := bd hL4
 refine yx [1] call137 rfl rfl zn (tri137 h4 :) ?_
 rintro _ _ _ ⟨rfl, rfl, rfl⟩
 refine oV vM (oV vX (oV vX (zC wU rfl rfl ?_)))
 intro b4
 refine zC xv rfl rfl fun b5 => (sT 1 yT) ((sT 0 ya) (zb (zf (cR ((fD 1) (oV (vL 0 ty32) (oV vB (zb ?_))))))))
 refine cC hL4 (fun hL4 => ?_) (fun hL4 => ?_)
 refine zf (zP (n := 4) [0, 0, 0, 0] mixed rfl rfl (dv 0 rfl (we (v := .agg #[iU 0, iU 0, iU 0, iU 0]) rfl (fun _ => by kernel_rfl)) (dv 1 rfl (vL 0 ya) (dO 2 rfl ((sT 5 yT) (dN [0, 0, 0, 0] 0 (dO 3 rfl ((sT 4 ya) (dN [0, 0, 0, 0] 0 (zG (by kernel_rfl) (zp ?_)))))))))))
 cases hL4
 obtain rfl := zK hF
 refine ye rfl (zM 5 rfl yT rfl rfl rfl rfl) (zM 4 rfl ya rfl rfl rfl rfl) fun a w hs => zo hs [] ⟨rfl, rfl, rfl⟩ rfl zn
 refine zk (ze (zd (oV (vL 3 yT) (oV (vL 1 yT) ?_))))
 obtain ⟨v1, h6, hL4⟩ := bd hL4
 refine zu call138 rfl zv (tri138 h6 :) rfl ((sT 3 yT) (zh ?_))
 exact lp [3, 2, 2, 2] [] fun a w hs => ⟨v1, v.2.2.text, v.2.2.at_, hL4, hs⟩
 refine zW ?_
 cases hL4
 exact sK [0, 0, 0, 0] [] (hN4 (out_, text_1, at__1) rfl)
 intro d4 hd
 subst hd
 replace hF := yF hF
 refine ze (zf (cR (oV vM (oV vC ((fD 1) (oV (vL 1 yz) (oV vB (oV vM (oV (yo Tryz.underlying9 rfl) (oV vB (zb ?_)))))))))))
 refine cC hF (fun hF => ?_) (fun hF => ?_)
 refine zf (zP (n := 9) [0, 0] mixed rfl rfl (dv 0 rfl (we (v := .agg #[iU 0, iU 0, iU 0, iU 0]) rfl (fun _ => by kernel_rfl)) (dv 1 rfl vM (dv 2 rfl vC (dv 3 rfl (vF 1) (dv 4 rfl (vL 1 yz) (dv 5 rfl vB (dv 6 rfl (we (v := .agg #[iI (IntKind.wrap .i64 (d4.2.2 + 1)), iI 15]) rfl (fun _ => by kernel_rfl)) (dO 7 rfl ((sT 3 yT) (dN [0, 0] 0 (dO 8 rfl ((sT 2 ya) (dN [0, 0] 0 (zG (by kernel_rfl) ?_)))))))))))))))
 refine zp ?_
 cases hF
 refine ye rfl (zM 3 rfl yT rfl rfl rfl rfl) (zM 2 rfl ya rfl rfl rfl rfl) fun a w hs => zo hs [] ⟨rfl, rfl, rfl⟩ rfl zn
 refine zk (ze (zf (cR (oV vM (zb ?_)))))
 refine cC hF (fun hF => ?_) (fun hF => ?_)
 refine zd (oV (vL 0 yT) ?_)
 obtain ⟨v2, h11, hF⟩ := bd hF
 refine zu call139 rfl zv (tri139 h11 :) rfl ((sT 0 yT) (zb (cR (oV (vL 0 yT) (oV (vU (.agg #[iI 0, iI 0])) ((sT 3 yT) ((sT 2 ya) (zb (zp ?_)))))))))
 cases hF
 refine ye rfl (zM 3 rfl yT rfl rfl rfl rfl) (zM 2 rfl ya rfl rfl rfl rfl) fun a w hs => zo hs [] ⟨rfl, rfl, rfl⟩ rfl zn
 refine zk (ze (cR (oV (vL 0 yT) (oV (vU (.agg #[iI 0, iI 0])) ((sT 3 yT) ((sT 2 ya) (zb (zp ?_))))))))
 cases hF
 refine ye rfl (zM 3 rfl yT rfl rfl rfl rfl) (zM 2 rfl ya rfl rfl rfl rfl) fun a w hs => zo hs [] ⟨rfl, rfl, rfl⟩ rfl zn
theorem tri101 {k : Nat} {text_ : Tx} {at__ : Int} {r : S4 × Int × Fault} (hF : qw.bracketed k text_ at__ = some r) :
    xu Tryz.prog 101 [sV text_, iI at__] [] [] (oR (.tuple #[.agg r.1.vs.toArray, iI r.2.1, .agg #[iI r.2.2.At, iI r.2.2.Code]])) := by
 unfold qw.bracketed at hF
 refine zt (n := 51) Tryz.func101 rfl Tryz.ntmps101 rfl fun w X => cR (zC wU rfl rfl fun b => oV vA (zC xv rfl rfl ?_))
 intro b1
 refine zb (zf (cR (oV vM (oV vB (oV vA (zb ?_))))))
 obtain ⟨o1, ho1, hF⟩ := bd hF
 refine cT (fun E H Φ N' => ∀ (d1 : Unit), o1 = .done d1 -> zT E [(1, iI at__), (4, pt b), (5, iI 0), (6, pt b1)] H [] N') (fun N1 hN1 => ?_) ?_
 refine zq ?_
 refine cL (fun E H Φ j a w => ∃ (i : Int), qw.bracketed_l1 k text_ at__ j i = some o1 /\ St E [(0, sV text_), (1, iI at__), (4, pt b), (5, iI 0), (6, pt b1), (7, iI i)] H [] a w) k ?_ ?_
 exact lq [0, 0] [] fun a w hs => ⟨IntKind.wrap .i64 (at__ + 1), ho1, hs⟩
 rintro j a w ⟨i, hL1, hs⟩
 rcases j with _ | j
 cases hL1
 refine yd hs ?_
 unfold qw.bracketed_l1 at hL1
 refine zf (cR (oV vM (oV vM (oV (yo Tryz.underlying9 rfl) (oV vB (zb ?_))))))
 refine cC hL1 (fun hL1 => ?_) (fun hL1 => ?_)
 refine zk (ze (zf ?_))
 refine cT (fun E H Φ N' => ∀ (i1 : Int), qw.bracketed_j2 (qw.bracketed_l1 k text_ at__ j) i1 = some o1 -> zT E [(0, sV text_), (1, iI at__), (4, pt b), (5, iI 0), (6, pt b1), (7, iI i1), (20, iB (yk text_ i))] H [] N') (fun N2 hN2 => ?_) ?_
 refine zq (cR (oV vM (oV vM (zc hL1 ?_))))
 intro h2 hL1
 refine oV (yw Tryz.underlying9 rfl rfl h2) (zb ?_)
 refine cT (fun E H Φ N' => ∀ (i2 : Int), qw.bracketed_j3 (qw.bracketed_l1 k text_ at__ j) i2 = some o1 -> zT E [(0, sV text_), (1, iI at__), (4, pt b), (5, iI 0), (6, pt b1), (7, iI i2), (20, iB (yk text_ i))] H [] N') (fun N3 hN3 => ?_) ?_
 refine zq (cR (oV vB (oV vA (zb ?_))))
 refine cT (fun E H Φ N' => ∀ (i3 : Int), qw.bracketed_j4 (qw.bracketed_l1 k text_ at__ j) i3 = some o1 -> zT E [(0, sV text_), (1, iI at__), (4, pt b), (5, iI 0), (6, pt b1), (7, iI i3), (20, iB (yk text_ i))] H [] N') (fun N4 hN4 => ?_) ?_
 refine cC hL1 (fun hL1 => ?_) (fun hL1 => ?_)
 refine zd (oV vM (oV vB (oV vA (zh ?_))))
 exact sK [0, 0] [] (hN4 (IntKind.wrap .i64 (i + 1)) hL1)
 refine cR (oV vB (oV vA (zb ?_)))
 refine cC hL1 (fun hL1 => ?_) (fun hL1 => ?_)
 refine cR (oV vM (oV vM (oV vM (oV vB (zc hL1 ?_)))))
 intro h5 hL1
 refine oV (w9 Tryz.underlying9 rfl rfl rfl rfl rfl h5) ?_
 obtain ⟨v, h6, hL1⟩ := bd hL1
 refine zu call125 rfl zv (tri125 h6 :) rfl (oV vM (oV vX (oV vX (zC wU rfl rfl ?_))))
 intro b2
 refine zC xv rfl rfl fun b3 => (sT 1 yT) ((sT 0 ya) (zb (zf (cR ((fD 1) (oV (vL 0 ty32) (oV vB (zb ?_))))))))
 refine z8 (fun E N' => ∀ (At_ : Int), qw.bracketed_j5 v i At_ = some o1 -> zT E [(0, sV text_), (1, iI at__), (4, pt b), (5, iI 0), (6, pt b1), (7, iI i), (8, pt b2), (9, pt b3), (20, iB (yk text_ i))] [.box b3 37 [iI At_, iI v.2.Code], .box b2 44 v.1.vs, .box b1 37 [iI 0, iI 0], .box b 44 [iU 0, iU 0, iU 0, iU 0]] [] N') (fun N5 hN5 => ?_) ?_
 refine cC hL1 (fun hL1 => ?_) (fun hL1 => ?_)
 refine zd ((fD 0) (oV (vL 0 yz) (oV vM (oV vB ((fD 0) ((sT 0 yz) (zh ?_)))))))
 exact sK [0, 0, 0, 0] [] (hN5 (IntKind.wrap .i64 (v.2.At + at__)) hL1)
 refine zk ?_
 exact sK [0, 0, 0, 0] [] (hN5 v.2.At hL1)
 intro At_ hL1
 unfold qw.bracketed_j5 at hL1
 refine ze (zf (zP (n := 7) [0, 0] mixed rfl rfl (dv 0 rfl (vL 1 yT) (dv 1 rfl vM (dv 2 rfl vB (dv 3 rfl (vL 0 ya) (dO 4 rfl ((sT 3 yT) (dN [0, 0] 0 (dv 5 rfl vA (dO 6 rfl ((sT 2 ya) (dN [0, 0] 0 (zG (by kernel_rfl) (zp ?_)))))))))))))))
 cases hL1
 obtain rfl := zK hF
 refine uB rfl (zM 3 rfl yT rfl rfl rfl rfl) (zX rfl) (zM 2 rfl ya rfl rfl rfl rfl) fun a w hs => zo hs [] ⟨rfl, rfl, rfl⟩ rfl zn
 refine zk ?_
 exact sK [0, 0] [] (hN4 i hL1)
 intro i3 hL1
 unfold qw.bracketed_j4 at hL1
 exact sK [0, 0] [] (hN3 i3 hL1)
 intro i2 hL1
 unfold qw.bracketed_j3 at hL1
 exact sK [0, 0] [] (hN2 i2 hL1)
 intro i1 hL1
 unfold qw.bracketed_j2 at hL1
 refine ze (zd (oV vM (oV vB (oV vA (zh ?_)))))
 exact lp [0, 0] [] fun a w hs => ⟨IntKind.wrap .i64 (i1 + 1), hL1, hs⟩
 refine zW ?_
 cases hL1
 exact sK [0, 0] [] (hN1 () rfl)
 intro d1 hd
 subst hd
 replace hF := yF hF
 refine ze (cR (oV (vU (.agg #[iU 0, iU 0, iU 0, iU 0])) (oV vM (oV (vU (.agg #[iI at__, iI 13])) ((sT 1 yT) (oV vA ((sT 0 ya) (zb (zp ?_)))))))))
 cases hF
 refine uB rfl (zM 1 rfl yT rfl rfl rfl rfl) (zX rfl) (zM 0 rfl ya rfl rfl rfl rfl) fun a w hs => zo hs [] ⟨rfl, rfl, rfl⟩ rfl zn
theorem tri48 {k : Nat} {s : zm} {b : Nat} {r : Fault × zm} (hF : qw.scanner_next k s = some r) :
    xu Tryz.prog 48 [pt b] [.box b 102 (y8 s A1 L1 C1), rW A1 L1 C1 106 11 zB s.out] [] (fun o H Φ => ∃ (A11 : OA) (L11 C11 : Nat), o = .ret (.agg #[iI r.1.At, iI r.1.Code]) /\ H = [.box b 102 (y8 r.2 A11 L11 C11), rW A11 L11 C11 106 11 zB r.2.out] /\ Φ = []) := by
 unfold qw.scanner_next at hF
 refine zt (n := 143) Tryz.func48 rfl Tryz.ntmps48 rfl fun w X => cR (zC xv rfl rfl fun b1 => zb (zf (zP (n := 10) [0, 0, 0] mixed rfl rfl (dv 0 rfl vM (dv 1 rfl vC (dv 2 rfl (vF 0) (dv 3 rfl (vL 1 xE) (dv 4 rfl vM (dv 5 rfl vC (dv 6 rfl (vF 1) (dv 7 rfl (vL 1 yz) (zc hF ?_))))))))))))
 intro h1 hF
 refine ?_
 refine dv 8 rfl (yw Tryz.underlying9 rfl rfl h1) (dv 9 rfl vA (zG (by kernel_rfl) (zf (zq (zf ?_)))))
 refine cT (fun E H Φ N' => ∀ (t27 : Bool), qw.scanner_next_j1 k s t27 = some r -> zT E [(0, pt b), (2, pt b1), (3, iB (yk s.text s.at_)), (27, bV t27)] H [] N') (fun N6 hN6 => ?_) ?_
 refine zd (oV vM (oV (yu (v := .int .i32 (IntKind.wrap .i32 (yk s.text s.at_))) rfl (fun _ => by kernel_rfl)) ?_))
 obtain ⟨v11, h24, hF⟩ := bd hF
 refine zu call43 rfl zv (tri43 h24 :) rfl (oV vM ?_)
 refine oS 31 hF (fun hF => ?_) (fun hF => ?_)
 refine oF (oF (oF (oV yt (oV vA (zh ?_)))))
 exact sK [0, 0, 0] [] (hN6 true hF)
 refine oN (oV vM (oN (oV (yu (v := .int .i32 (IntKind.wrap .i32 (yk s.text s.at_))) rfl (fun _ => by kernel_rfl)) (oN ?_))))
 obtain ⟨v12, h26, hF⟩ := bd hF
 refine zu call96 rfl zv (tri96 h26 :) rfl (oV yj (oV vA (zh ?_)))
 exact sK [0, 0, 0] [] (hN6 v12 hF)
 intro t27 hF
 unfold qw.scanner_next_j1 at hF
 refine ze ?_
 refine z8 (fun E N' => ∀ (text_ : Tx) (at__ : Int) (line_ : Int) (top_ : Int) (out_ : List zg) (A2 : OA) (L2 C2 : Nat), qw.scanner_next_j2 text_ at__ line_ top_ out_ = some r -> zT E [(0, pt b), (2, pt b1), (3, iB (yk s.text s.at_))] [.box b 102 [sV text_, iI at__, iI line_, iI top_, sl A2 L2 C2], .box b1 37 [iI 0, iI 0], rW A2 L2 C2 106 11 zB out_] [] N') (fun N2 hN2 => ?_) ?_
 refine cC hF (fun hF => ?_) (fun hF => ?_)
 refine zf (zP (n := 11) [0, 0, 0] mixed rfl rfl (dv 0 rfl vM (dv 1 rfl vC (dv 2 rfl (vF 0) (dv 3 rfl (vL 1 xE) (dv 4 rfl vM (dv 5 rfl vC (dv 6 rfl (vF 1) (dv 7 rfl (vL 1 yz) (zc hF ?_))))))))))
 intro h3 hF
 refine dv 8 rfl (w9 Tryz.underlying9 rfl rfl rfl rfl rfl h3) (dO 9 rfl ?_)
 obtain ⟨v, h4, hF⟩ := bd hF
 refine zu call44 rfl zv (tri44 h4 :) rfl (dN [0, 0, 0] 0 (dv 10 rfl vA (zG (by kernel_rfl) (zf (cR (oV vM (oV vB (zb ?_))))))))
 refine cC hF (fun hF => ?_) (fun hF => ?_)
 refine cR (oV vM (oV vC ((fD 1) (oV (vL 1 yz) (oV (vU (.agg #[iI s.at_, iI 20])) ((sT 0 ya) (zb (zp ?_))))))))
 cases hF
 refine yH rfl (zM 0 rfl ya rfl rfl rfl rfl) fun a w hs => zo hs [1, 1] ⟨A1, L1, C1, rfl, rfl, rfl⟩ rfl zn
 refine zk (ze (cR (oV vA (zb (zf (cR (oV vM (oV (yu (v := .int .i32 (IntKind.wrap .i32 (yk s.text s.at_))) rfl (fun _ => by kernel_rfl)) ?_))))))))
 obtain ⟨v1, h6, hF⟩ := bd hF
 refine zu call43 rfl zv (tri43 h6 :) rfl (zb ?_)
 refine cT (fun E H Φ N' => ∀ (kind : Int), qw.scanner_next_j3 s v kind = some r -> zT E [(0, pt b), (2, pt b1), (3, iB (yk s.text s.at_)), (4, iI v), (5, iI kind)] H [] N') (fun N3 hN3 => ?_) ?_
 refine cC hF (fun hF => ?_) (fun hF => ?_)
 refine zd (oV vA (zh ?_))
 exact sK [0, 0, 0] [] (hN3 1 hF)
 refine zk ?_
 exact sK [0, 0, 0] [] (hN3 2 hF)
 intro kind hF
 unfold qw.scanner_next_j3 at hF
 refine ze (zd (oV vM (oV vM (oV (vU (.agg #[iI kind, sV ([] : Tx), nS, iU 0, iU 0, iU 0, iU 0, iI 0, iI 0, iI 0, iI 0])) (oV vM (oV vC ((fD 1) (oV (vL 1 yz) (oV vM (oV vB ?_))))))))))
 obtain ⟨v2, h7, hF⟩ := bd hF
 refine wj (zN 1) (yx [1, 1] uU rfl rfl (zy [0] rfl) (tri49 h7 :) ?_)
 rintro _ _ _ ⟨A3, L3, C3, rfl, rfl, rfl⟩
 refine zh ?_
 exact sK [0, 1, 0] [] (hN2 v2.text v2.at_ v2.line v2.top v2.out A3 L3 C3 hF)
 refine cR (oV vM (oV (yu (v := .int .i32 (IntKind.wrap .i32 (yk s.text s.at_))) rfl (fun _ => by kernel_rfl)) ?_))
 obtain ⟨v3, h9, hF⟩ := bd hF
 refine zu call97 rfl zv (tri97 h9 :) rfl (oV vA (zb ?_))
 refine cC hF (fun hF => ?_) (fun hF => ?_)
 refine cR (oV vM ?_)
 obtain ⟨v4, h11, hF⟩ := bd hF
 refine yx [1, 1] call99 rfl rfl zn (tri99 h11 :) ?_
 rintro _ _ _ ⟨A4, L4, C4, rfl, rfl, rfl⟩
 refine oV vA (zb (cR (oV vM (oV vB (zb ?_)))))
 refine cC hF (fun hF => ?_) (fun hF => ?_)
 refine cR (oV vM (oV vC ((fD 1) (oV (vL 0 yz) (oV vM (oV (vU (.agg #[iI v4.2.at_, iI v4.1])) ((sT 2 ya) (zb (zp ?_)))))))))
 cases hF
 refine yH rfl (zM 2 rfl ya rfl rfl rfl rfl) fun a w hs => zo hs [0, 0] ⟨A4, L4, C4, rfl, rfl, rfl⟩ rfl zn
 refine zk ?_
 exact sK [0, 1, 0] [] (hN2 v4.2.text v4.2.at_ v4.2.line v4.2.top v4.2.out A4 L4 C4 hF)
 refine cR (oV vM (oV vB (oV vA (zb ?_))))
 refine z8 (fun E N' => ∀ (text_1 : Tx) (at__1 : Int) (line_1 : Int) (top_1 : Int) (out_1 : List zg) (A5 : OA) (L5 C5 : Nat), qw.scanner_next_j4 text_1 at__1 line_1 top_1 out_1 = some r -> zT E [(0, pt b), (2, pt b1), (3, iB (yk s.text s.at_))] [.box b 102 [sV text_1, iI at__1, iI line_1, iI top_1, sl A5 L5 C5], .box b1 37 [iI 0, iI 0], rW A5 L5 C5 106 11 zB out_1] [] N') (fun N4 hN4 => ?_) ?_
 refine cC hF (fun hF => ?_) (fun hF => ?_)
 refine zf ?_
 refine z8 (fun E N' => ∀ (b2 : List Int) (end_ : Int) (At_ : Int) (Code_ : Int) (A6 : OA) (L6 C6 : Nat) (b3 : Nat), qw.scanner_next_j5 s b2 end_ At_ Code_ = some r -> zT E [(0, pt b), (2, pt b1), (3, iB (yk s.text s.at_)), (7, sl A6 L6 C6), (8, iI end_), (9, pt b3)] [.box b1 37 [iI 0, iI 0], .box b 102 (y8 s A1 L1 C1), .box b3 37 [iI At_, iI Code_], rW A6 L6 C6 5 1 xj b2, rW A1 L1 C1 106 11 zB s.out] [] N') (fun N5 hN5 => ?_) ?_
 refine zP (n := 17) [0, 0, 0] mixed rfl rfl (dv 0 rfl vM (dv 1 rfl vC (dv 2 rfl (vF 0) (dv 3 rfl (vL 1 xE) (dv 4 rfl vM (dv 5 rfl vC (dv 6 rfl (vF 1) (dv 7 rfl (vL 1 yz) ?_))))))))
 obtain ⟨v6, h16, hF⟩ := bd hF
 refine wr [8, 13] (by kernel_rfl) (by simp) ⟨⟨_, rfl, ?_⟩, ⟨_, rfl, ?_⟩, trivial⟩
 refine zV call100 rfl zn (tri100 h16 :) rfl ?_
 rintro _ _ _ ⟨A8, L8, C8, rfl, rfl, rfl⟩
 refine dN [1, 1, 1] 0 (dv 9 rfl vM (dv 10 rfl vX (dv 11 rfl vX (dv 12 rfl vX (dO 13 rfl (zC xv rfl rfl ?_))))))
 intro b4
 refine dN [2, 2, 2] 0 (dv 14 rfl vA (dv 15 rfl vA (dO 16 rfl ((sT 0 ya) (dN [2, 2, 2] 0 (dD ?_))))))
 exact sK [2, 2, 0, 0, 0] [] (hN5 v6.1 v6.2.1 v6.2.2.At v6.2.2.Code A8 L8 C8 b4 hF)
 refine zC xv rfl rfl fun b4 => dN [1, 1, 1] 0 (dO 8 rfl (zV call100 rfl zn (tri100 h16 :) rfl ?_))
 rintro _ _ _ ⟨A8, L8, C8, rfl, rfl, rfl⟩
 refine dN [2, 2, 2] 0 (dv 9 rfl vM (dv 10 rfl vX (dv 11 rfl vX (dv 12 rfl vX (dv 14 rfl vA (dv 15 rfl vA (dO 16 rfl ((sT 1 ya) (dN [2, 2, 2] 0 (dD ?_))))))))))
 exact sK [2, 2, 1, 0, 0] [] (hN5 v6.1 v6.2.1 v6.2.2.At v6.2.2.Code A8 L8 C8 b4 hF)
 intro b2 end_ At_ Code_ A6 L6 C6 b3 hF
 unfold qw.scanner_next_j5 at hF
 refine ze (zf (cR ((fD 1) (oV (vL 2 ty32) (oV vB (zb ?_))))))
 refine cC hF (fun hF => ?_) (fun hF => ?_)
 refine cR (oV (vL 2 ya) ((sT 0 ya) (zb (zp ?_))))
 cases hF
 refine yH rfl (zM 0 rfl ya rfl rfl rfl rfl) fun a w hs => zo hs [1, 3] ⟨A1, L1, C1, rfl, rfl, rfl⟩ rfl zn
 refine zk (ze (zd (oV vM (oV vM (oV (vU (.agg #[iI 4, sV ([] : Tx), sl A6 L6 C6, iU 0, iU 0, iU 0, iU 0, iI 0, iI 0, iI 0, iI 0])) (oV vM ?_))))))
 obtain ⟨v5, h15, hF⟩ := bd hF
 refine wj (yM 3 rfl) (yx [1, 2] uU rfl rfl (zy [0] rfl) (tri49 h15 :) ?_)
 rintro _ _ _ ⟨A7, L7, C7, rfl, rfl, rfl⟩
 refine zh ?_
 exact sK [0, 1, 0] [] (hN4 v5.text v5.at_ v5.line v5.top v5.out A7 L7 C7 hF)
 refine cR (oV vM (oV vB (oV vA (zb ?_))))
 refine cC hF (fun hF => ?_) (fun hF => ?_)
 refine zf ?_
 refine z8 (fun E N' => ∀ (set__ : S4) (end_1 : Int) (At_1 : Int) (Code_1 : Int) (b5 : Nat) (b6 : Nat), qw.scanner_next_j6 s set__ end_1 At_1 Code_1 = some r -> zT E [(0, pt b), (2, pt b1), (3, iB (yk s.text s.at_)), (10, pt b5), (11, iI end_1), (12, pt b6)] [.box b1 37 [iI 0, iI 0], .box b 102 (y8 s A1 L1 C1), .box b5 44 set__.vs, .box b6 37 [iI At_1, iI Code_1], rW A1 L1 C1 106 11 zB s.out] [] N') (fun N6 hN6 => ?_) ?_
 refine zP (n := 18) [0, 0, 0] mixed rfl rfl (dv 0 rfl vM (dv 1 rfl vC (dv 2 rfl (vF 0) (dv 3 rfl (vL 1 xE) (dv 4 rfl vM (dv 5 rfl vC (dv 6 rfl (vF 1) (dv 7 rfl (vL 1 yz) ?_))))))))
 obtain ⟨v8, h20, hF⟩ := bd hF
 refine wr [8, 13, 14] (by kernel_rfl) (by simp) ⟨⟨_, rfl, ?_⟩, ⟨_, rfl, ?_⟩, ⟨_, rfl, ?_⟩, trivial⟩
 refine zu uk rfl zv (tri101 h20 :) rfl (dN [0, 0, 0] 0 (dv 9 rfl vM (dv 10 rfl vX (dv 11 rfl vX (dv 12 rfl vX ?_)))))
 refine wr [13, 14] (by kernel_rfl) (by simp) ⟨⟨_, rfl, ?_⟩, ⟨_, rfl, ?_⟩, trivial⟩
 refine zC wU rfl rfl fun b7 => dN [1, 1, 1] 0 (dO 14 rfl (zC xv rfl rfl ?_))
 intro b8
 refine dN [2, 2, 2] 0 (dO 15 rfl ((sT 1 yT) (dN [2, 2, 2] 0 (dv 16 rfl vA (dO 17 rfl ((sT 0 ya) (dN [2, 2, 2] 0 (dD ?_))))))))
 exact sK [2, 2, 1, 0, 0] [] (hN6 v8.1 v8.2.1 v8.2.2.At v8.2.2.Code b7 b8 hF)
 refine zC xv rfl rfl fun b7 => dN [1, 1, 1] 0 (dO 13 rfl (zC wU rfl rfl ?_))
 intro b8
 refine dN [2, 2, 2] 0 (dO 15 rfl ((sT 0 yT) (dN [2, 2, 2] 0 (dv 16 rfl vA (dO 17 rfl ((sT 1 ya) (dN [2, 2, 2] 0 (dD ?_))))))))
 exact sK [2, 2, 0, 0, 0] [] (hN6 v8.1 v8.2.1 v8.2.2.At v8.2.2.Code b8 b7 hF)
 refine zC wU rfl rfl fun b7 => dN [1, 1, 1] 0 ?_
 refine wr [8, 14] (by kernel_rfl) (by simp) ⟨⟨_, rfl, ?_⟩, ⟨_, rfl, ?_⟩, trivial⟩
 refine zu uk rfl zv (tri101 h20 :) rfl (dN [1, 1, 1] 0 (dv 9 rfl vM (dv 10 rfl vX (dv 11 rfl vX (dv 12 rfl vX (dO 14 rfl (zC xv rfl rfl ?_)))))))
 intro b8
 refine dN [2, 2, 2] 0 (dO 15 rfl ((sT 1 yT) (dN [2, 2, 2] 0 (dv 16 rfl vA (dO 17 rfl ((sT 0 ya) (dN [2, 2, 2] 0 ?_)))))))
 refine dD ?_
 exact sK [2, 2, 1, 0, 0] [] (hN6 v8.1 v8.2.1 v8.2.2.At v8.2.2.Code b7 b8 hF)
 refine zC xv rfl rfl fun b8 => dN [2, 2, 2] 0 (dO 8 rfl (zu uk rfl zv (tri101 h20 :) rfl (dN [2, 2, 2] 0 (dv 9 rfl vM (dv 10 rfl vX (dv 11 rfl vX (dv 12 rfl vX (dO 15 rfl ((sT 1 yT) (dN [2, 2, 2] 0 (dv 16 rfl vA (dO 17 rfl ((sT 0 ya) (dN [2, 2, 2] 0 ?_))))))))))))))
 refine dD ?_
 exact sK [2, 2, 1, 0, 0] [] (hN6 v8.1 v8.2.1 v8.2.2.At v8.2.2.Code b7 b8 hF)
 refine zC xv rfl rfl fun b7 => dN [1, 1, 1] 0 ?_
 refine wr [8, 13] (by kernel_rfl) (by simp) ⟨⟨_, rfl, ?_⟩, ⟨_, rfl, ?_⟩, trivial⟩
 refine zu uk rfl zv (tri101 h20 :) rfl (dN [1, 1, 1] 0 (dv 9 rfl vM (dv 10 rfl vX (dv 11 rfl vX (dv 12 rfl vX (dO 13 rfl (zC wU rfl rfl ?_)))))))
 intro b8
 refine dN [2, 2, 2] 0 (dO 15 rfl ((sT 0 yT) (dN [2, 2, 2] 0 (dv 16 rfl vA (dO 17 rfl ((sT 1 ya) (dN [2, 2, 2] 0 ?_)))))))
 refine dD ?_
 exact sK [2, 2, 0, 0, 0] [] (hN6 v8.1 v8.2.1 v8.2.2.At v8.2.2.Code b8 b7 hF)
 refine zC wU rfl rfl fun b8 => dN [2, 2, 2] 0 (dO 8 rfl (zu uk rfl zv (tri101 h20 :) rfl (dN [2, 2, 2] 0 (dv 9 rfl vM (dv 10 rfl vX (dv 11 rfl vX (dv 12 rfl vX (dO 15 rfl ((sT 0 yT) (dN [2, 2, 2] 0 (dv 16 rfl vA (dO 17 rfl ((sT 1 ya) (dN [2, 2, 2] 0 ?_))))))))))))))
 refine dD ?_
 exact sK [2, 2, 0, 0, 0] [] (hN6 v8.1 v8.2.1 v8.2.2.At v8.2.2.Code b8 b7 hF)
 intro set__ end_1 At_1 Code_1 b5 b6 hF
 unfold qw.scanner_next_j6 at hF
 refine ze (zf (cR ((fD 1) (oV (vL 3 ty32) (oV vB (zb ?_))))))
 refine cC hF (fun hF => ?_) (fun hF => ?_)
 refine cR (oV (vL 3 ya) ((sT 0 ya) (zb (zp ?_))))
 cases hF
 refine yH rfl (zM 0 rfl ya rfl rfl rfl rfl) fun a w hs => zo hs [1, 3] ⟨A1, L1, C1, rfl, rfl, rfl⟩ rfl zn
 refine zk (ze (zd (oV vM (oV (vL 2 yT) (oV (vU (.agg #[iI 5, sV ([] : Tx), nS, iU set__.w0, iU set__.w1, iU set__.w2, iU set__.w3, iI 0, iI 0, iI 0, iI 0])) (oV vM ?_))))))
 obtain ⟨v7, h19, hF⟩ := bd hF
 refine wj (zN 1) (yx [1, 3] uU rfl rfl (zy [0] rfl) (tri49 h19 :) ?_)
 rintro _ _ _ ⟨A9, L9, C9, rfl, rfl, rfl⟩
 refine zh ?_
 exact sK [0, 1, 0] [] (hN4 v7.text v7.at_ v7.line v7.top v7.out A9 L9 C9 hF)
 refine cR (oV vM ?_)
 obtain ⟨v9, h21, hF⟩ := bd hF
 refine zu call102 rfl zv (tri102 ([61, 124, 46, 59, 62, 63, 42, 43, 123, 125, 40, 41, 95, 47, 44, 45] : Tx) (yk s.text s.at_) v9 h21) rfl (oV vB (oV vA (zb ?_)))
 refine cC hF (fun hF => ?_) (fun hF => ?_)
 refine zd (oV vM (oV (vU (.agg #[iI 6, sV ([] : Tx), nS, iU 0, iU 0, iU 0, iU 0, iI 0, iI 0, iI 0, iI 0])) (oV vM (oV vC ((fD 1) (oV (vL 1 yz) (oV vB ?_)))))))
 obtain ⟨v10, h23, hF⟩ := bd hF
 refine wj (zN 1) (yx [1, 1] uU rfl rfl (zy [0] rfl) (tri49 h23 :) ?_)
 rintro _ _ _ ⟨A10, L10, C10, rfl, rfl, rfl⟩
 refine zh ?_
 exact sK [0, 1, 0] [] (hN4 v10.text v10.at_ v10.line v10.top v10.out A10 L10 C10 hF)
 refine cR (oV vM (oV vC ((fD 1) (oV (vL 1 yz) (oV (vU (.agg #[iI s.at_, iI 11])) ((sT 0 ya) (zb (zp ?_))))))))
 cases hF
 refine yH rfl (zM 0 rfl ya rfl rfl rfl rfl) fun a w hs => zo hs [1, 1] ⟨A1, L1, C1, rfl, rfl, rfl⟩ rfl zn
 intro text_1 at__1 line_1 top_1 out_1 A5 L5 C5 hF
 unfold qw.scanner_next_j4 at hF
 exact sK [0, 0, 0] [] (hN2 text_1 at__1 line_1 top_1 out_1 A5 L5 C5 hF)
 intro text_ at__ line_ top_ out_ A2 L2 C2 hF
 unfold qw.scanner_next_j2 at hF
 refine ze (cR (oV (vU (.agg #[iI 0, iI 0])) ((sT 1 ya) (zb (zp ?_)))))
 cases hF
 refine yH rfl (zM 1 rfl ya rfl rfl rfl rfl) fun a w hs => zo hs [0, 1] ⟨A2, L2, C2, rfl, rfl, rfl⟩ rfl zn
theorem tri20 {k : Nat} {text_ : Tx} {r : List zg × Fault} (hF : qw.Scan k text_ = some r) :
    xu Tryz.prog 20 [sV text_] [] [] (fun o H Φ => ∃ (A5 : OA) (L5 C5 : Nat), o = .ret (.tuple #[sl A5 L5 C5, .agg #[iI r.2.At, iI r.2.Code]]) /\ H = [rW A5 L5 C5 106 11 zB r.1] /\ Φ = []) := by
 unfold qw.Scan at hF
 refine zt (n := 42) Tryz.func20 rfl Tryz.ntmps20 rfl fun w X => cR (oV vA (zC xv rfl rfl ?_))
 intro b
 refine zb (zf (cR (oV vM (oV (yo Tryz.underlying9 rfl) (oV vB (zb ?_))))))
 refine cC hF (fun hF => ?_) (fun hF => ?_)
 refine cR (oV (vU (.agg #[iI 0, iI 2])) (oV vA ((sT 0 ya) (zb (zp ?_)))))
 cases hF
 refine xP (ym 106 11) (ye rfl (zX rfl) (zM 1 rfl ya rfl rfl rfl rfl) fun a w hs => zo hs [0] ⟨none, 0, 0, rfl, rfl, rfl⟩ rfl zn)
 refine zk (ze (cR (oV vM (oV (vU (.agg #[sV text_, iI 0, iI 1, iI 0, nS])) (xr rfl rfl rfl ?_)))))
 intro b1
 refine oV vA (zb (zf (cR (oV vM ?_))))
 obtain ⟨v, h2, hF⟩ := bd hF
 refine wj (ym 106 11) (yx [1, 0] call47 rfl rfl zn (tri47 h2 :) ?_)
 rintro _ _ _ ⟨rfl, rfl, rfl⟩
 refine zb ?_
 obtain ⟨o1, ho1, hF⟩ := bd hF
 refine z8 (fun E N' => ∀ (d1 : Tx × Int × Int × Int × (List zg)) (A2 : OA) (L2 C2 : Nat), o1 = .done d1 -> zT E [(0, sV text_), (2, nS), (3, pt b), (4, pt b1)] [.box b1 102 [sV d1.1, iI d1.2.1, iI d1.2.2.1, iI d1.2.2.2.1, sl A2 L2 C2], .box b 37 [iI 0, iI 0], rW A2 L2 C2 106 11 zB d1.2.2.2.2] [] N') (fun N1 hN1 => ?_) ?_
 refine zq ?_
 refine xG (fun E j a w => ∃ (text_1 : Tx) (at__ : Int) (line_ : Int) (top_ : Int) (out_ : List zg) (A1 : OA) (L1 C1 : Nat), qw.Scan_l1 k text_ j text_1 at__ line_ top_ out_ = some o1 /\ St E [(0, sV text_), (2, nS), (3, pt b), (4, pt b1)] [.box b1 102 [sV text_1, iI at__, iI line_, iI top_, sl A1 L1 C1], .box b 37 [iI 0, iI 0], rW A1 L1 C1 106 11 zB out_] [] a w) k ?_ ?_
 exact lq [0, 1, 0] [] fun a w hs => ⟨v.text, v.at_, v.line, v.top, ([] : List zg), none, 0, 0, ho1, hs⟩
 rintro j a w ⟨text_1, at__, line_, top_, out_, A1, L1, C1, hL1, hs⟩
 rcases j with _ | j
 cases hL1
 refine yd hs ?_
 unfold qw.Scan_l1 at hL1
 refine zf (cR (oV vM (oV vC ((fD 1) (oV (vL 0 yz) (oV vM (oV (yo Tryz.underlying9 rfl) (oV vB (zb ?_)))))))))
 refine cC hL1 (fun hL1 => ?_) (fun hL1 => ?_)
 refine zk (ze (zf (zq (cR (oV vM ?_)))))
 obtain ⟨v1, h4, hL1⟩ := bd hL1
 refine yx [0, 1] call48 rfl rfl zn (tri48 h4 :) ?_
 rintro _ _ _ ⟨A3, L3, C3, rfl, rfl, rfl⟩
 refine zC xv rfl rfl fun b2 => (sT 0 ya) (zb (cR ((fD 1) (oV (vL 0 ty32) (oV vB (zb ?_))))))
 refine cC hL1 (fun hL1 => ?_) (fun hL1 => ?_)
 refine zf (zP (n := 3) [0, 0, 0] mixed rfl rfl (dv 0 rfl (vL 0 ya) (dv 1 rfl vA (dO 2 rfl ((sT 3 ya) (dN [0, 0, 0] 0 (zG (by kernel_rfl) (zp ?_))))))))
 cases hL1
 obtain rfl := zK hF
 refine xP (ym 106 11) (ye rfl (zX rfl) (zM 4 rfl ya rfl rfl rfl rfl) fun a w hs => zo hs [0] ⟨none, 0, 0, rfl, rfl, rfl⟩ rfl zn)
 refine zk (ze (zd (oV vM ?_)))
 obtain ⟨v2, h6, hL1⟩ := bd hL1
 refine yx [1, 1] call47 rfl rfl zn (tri47 h6 :) ?_
 rintro _ _ _ ⟨rfl, rfl, rfl⟩
 refine zh ?_
 exact lp [0, 2, 0] [] fun a w hs => ⟨v2.text, v2.at_, v2.line, v2.top, v1.2.out, A3, L3, C3, hL1, hs⟩
 refine zW ?_
 cases hL1
 exact sK [0, 0, 0] [] (hN1 (text_1, at__, line_, top_, out_) A1 L1 C1 rfl)
 intro d1 A2 L2 C2 hd
 subst hd
 replace hF := yF hF
 refine ze (cR (oV vM (oV (vU (.agg #[iI 7, sV ([] : Tx), nS, iU 0, iU 0, iU 0, iU 0, iI 0, iI 0, iI 0, iI 0])) (oV vM (oV vC ((fD 1) (oV (vL 0 yz) ?_)))))))
 obtain ⟨v3, h7, hF⟩ := bd hF
 refine wj (zN 1) (yx [0, 1] uU rfl rfl (zy [0] rfl) (tri49 h7 :) ?_)
 rintro _ _ _ ⟨A4, L4, C4, rfl, rfl, rfl⟩
 refine zb (cR (oV vM (oV vC ((fD 4) (oV (vL 0 qk) (oV (vU (.agg #[iI 0, iI 0])) (oV vA ((sT 2 ya) (zb (zp ?_))))))))))
 cases hF
 refine ye rfl (zX rfl) (zM 2 rfl ya rfl rfl rfl rfl) fun a w hs => zo hs [1] ⟨A4, L4, C4, rfl, rfl, rfl⟩ rfl zn
theorem xk {w_ : zg} {e_ : Int} {r : Pn Unit Fault} (hF : qd.fail w_ e_ = some r) :
    xu Tryz.prog 92 [.agg (yX w_ A1 L1 C1).toArray, iI e_] [] [fS A1 L1 C1 1 xj w_.Bytes] (fun o H Φ => match (generalizing := false) r with | .ok r => (o = .ret (.tuple #[]) /\ H = [] /\ Φ = []) | .pan y => o = .pan (.iface 37 (.agg #[iI y.At, iI y.Code])) /\ H = [] /\ Φ = []) := by
 unfold qd.fail at hF
 refine zt (n := 9) Tryz.func92 rfl Tryz.ntmps92 rfl fun w X => cR (xr rfl rfl rfl fun b => zb (zd ((fD 8) (oV (vL 0 yz) (oV vM (oV (vU (.agg #[iI w_.At, iI e_])) (oV (v_makeIface (v := .iface 37 (.agg #[iI w_.At, iI e_])) rfl (fun _ => by kernel_rfl)) (o_panic rfl ?_))))))))
 cases hF
 exact sP
theorem ky {r_ : za} {k_ : Int} {b : Nat} {r : Pn (zg × za) Fault} (hF : qd.reader_kind r_ k_ = some r) :
    xu Tryz.prog 87 [pt b, iI k_] (bQ b A1 L1 C1 A2 L2 C2 A3 L3 C3 A4 L4 C4 A5 L5 C5 A6 L6 C6 r_ :: r5 A2 L2 C2 A3 L3 C3 A4 L4 C4 A5 L5 C5 A6 L6 C6 r_.d) [fS A1 L1 C1 11 zB r_.l_] (fun o H Φ => match (generalizing := false) r with | .ok r => (∃ (A8 : OA) (L8 C8 : Nat) (A9 : OA) (L9 C9 : Nat), o = .ret (.agg (yX r.1 A8 L8 C8).toArray) /\ H = (bQ b A9 L9 C9 A2 L2 C2 A3 L3 C3 A4 L4 C4 A5 L5 C5 A6 L6 C6 r.2 :: r5 A2 L2 C2 A3 L3 C3 A4 L4 C4 A5 L5 C5 A6 L6 C6 r_.d) /\ Φ = [fS A8 L8 C8 1 xj r.1.Bytes, fS A9 L9 C9 11 zB r.2.l_]) | .pan y => o = .pan (.iface 37 (.agg #[iI y.At, iI y.Code])) /\ H = [] /\ Φ = []) := by
 unfold qd.reader_kind at hF
 refine zt (n := 40) Tryz.func87 rfl Tryz.ntmps87 rfl fun w X => cR (zC jd rfl rfl fun b1 => zb (zf (zc hF fun h1 hF => wK (xs := r_.l_) (enc := zB) 0 rfl h1 rfl rfl fun A7 L7 C7 => zP (n := 12) [0, 0, 0, 0, 0, 0, 0] mixed rfl rfl (dv 0 rfl vM (dv 1 rfl vC (dv 2 rfl (vF 0) (dv 3 rfl (vL 1 qk) (dv 4 rfl vM (dv 5 rfl vC (dv 6 rfl (vF 1) ?_))))))))))
 refine dv 7 rfl (vL 1 yz) (dv 8 rfl (zi (xs := r_.l_) (enc := zB) qu rfl rfl (.f 2 rfl) h1) (dv 9 rfl (yS 0 yJ rfl rfl rfl rfl rfl) (dO 10 rfl (zC jd rfl rfl ?_))))
 intro b2
 refine dN [1, 1, 1, 1, 1, 1, 1] 0 (dO 11 rfl ((sT 0 yJ) (dN [1, 1, 1, 1, 1, 1, 1] 0 (zG (by kernel_rfl) (zf (cR ((fD 0) (oV (vL 0 yz) (oV vM ?_)))))))))
 refine oV vB (zb ?_)
 refine cT (fun E H Φ N' => qd.reader_kind_j1 k_ r_ = some r -> zT E [(0, pt b), (1, iI k_), (4, pt b1), (5, pt b2)] H [fS A7 L7 C7 1 xj ((at_ r_.l_ r_.at_).Bytes), fS A1 L1 C1 11 zB r_.l_] N') (fun N3 hN3 => ?_) ?_
 refine cC hF (fun hF => ?_) (fun hF => ?_)
 refine zd (oV (vL 0 yJ) ?_)
 obtain ⟨v1, h6, hF⟩ := bd hF
 rcases v1 with x_1 | y_1
 replace hF := zU hF
 refine zV yE rfl (zy [1] rfl) (xk h6 :) rfl ?_
 rintro _ _ _ ⟨rfl, rfl, rfl⟩
 refine zh ?_
 exact sK [0, 0, 0, 0, 0, 0, 0, 0] [1, 2] (hN3 hF)
 replace hF := zH hF
 refine zV yE rfl (zy [1] rfl) (xk h6 :) rfl ?_
 rintro _ _ _ ⟨rfl, rfl, rfl⟩
 cases hF
 exact sP
 refine zk ?_
 exact sK [0, 0, 0, 0, 0, 0, 0, 0] [1, 2] (hN3 hF)
 intro hF
 unfold qd.reader_kind_j1 at hF
 refine ze (zf (zf ?_))
 refine cT (fun E H Φ N' => ∀ (t29 : Bool), qd.reader_kind_j2 r_ t29 = some r -> zT E [(0, pt b), (1, iI k_), (4, pt b1), (5, pt b2), (29, bV t29)] H Φ N') (fun N3 hN3 => ?_) ?_
 refine zd (oV vM (oV vB (oV vM ?_)))
 refine oS 24 hF (fun hF => ?_) (fun hF => ?_)
 refine oN ((fD 2) (oN (oV (vL 0 ty67) (oN (oV (zL (enc := xj) ((at_ r_.l_ r_.at_).Bytes) jS rfl (.f 0 rfl)) (oN (oV vB (oV yt (zh ?_)))))))))
 exact sK [0, 0, 0, 0, 0, 0, 0, 0] [0, 1] (hN3 (decide (32 < (((at_ r_.l_ r_.at_).Bytes).length : Int))) hF)
 refine oF (oF (oF (oF (oV yj (zh ?_)))))
 exact sK [0, 0, 0, 0, 0, 0, 0, 0] [0, 1] (hN3 false hF)
 intro t29 hF
 unfold qd.reader_kind_j2 at hF
 refine ze ?_
 refine cT (fun E H Φ N' => qd.reader_kind_j3 r_ = some r -> zT E [(0, pt b), (1, iI k_), (4, pt b1), (5, pt b2)] H Φ N') (fun N3 hN3 => ?_) ?_
 refine cC hF (fun hF => ?_) (fun hF => ?_)
 refine zd (oV (vL 0 yJ) ?_)
 obtain ⟨v, h3, hF⟩ := bd hF
 rcases v with x_ | y_
 replace hF := zU hF
 refine zV yE rfl (zy [0] rfl) (xk h3 :) rfl ?_
 rintro _ _ _ ⟨rfl, rfl, rfl⟩
 refine zh ?_
 exact sK [0, 0, 0, 0, 0, 0, 0, 0] [0, 1] (hN3 hF)
 replace hF := zH hF
 refine zV yE rfl (zy [0] rfl) (xk h3 :) rfl ?_
 rintro _ _ _ ⟨rfl, rfl, rfl⟩
 cases hF
 exact sP
 refine zk ?_
 exact sK [0, 0, 0, 0, 0, 0, 0, 0] [0, 1] (hN3 hF)
 intro hF
 unfold qd.reader_kind_j3 at hF
 refine ze (cR (oV vM (oV vC ((fD 1) (oV (vL 2 yz) (oV vB (oV vC ((fD 1) ((sT 2 yz) (zb (cR (oV (vL 0 yJ) ((sT 1 yJ) ?_)))))))))))))
 refine zb (zp ?_)
 cases hF
 refine yH rfl (zM 1 rfl yJ rfl rfl rfl rfl) fun a w hs => zo hs [2, 2, 2, 2, 2, 2] ⟨A7, L7, C7, A1, L1, C1, rfl, rfl, rfl⟩ rfl (zy [0, 1] rfl)
theorem xw {r_ : za} {b : Nat} {r : Pn (Tx × za) Fault} (hF : qd.reader_name r_ = some r) :
    xu Tryz.prog 86 [pt b] (bQ b A1 L1 C1 A2 L2 C2 A3 L3 C3 A4 L4 C4 A5 L5 C5 A6 L6 C6 r_ :: r5 A2 L2 C2 A3 L3 C3 A4 L4 C4 A5 L5 C5 A6 L6 C6 r_.d) [fS A1 L1 C1 11 zB r_.l_] (fun o H Φ => match (generalizing := false) r with | .ok r => (∃ (A9 : OA) (L9 C9 : Nat), o = .ret (sV r.1) /\ H = (bQ b A9 L9 C9 A2 L2 C2 A3 L3 C3 A4 L4 C4 A5 L5 C5 A6 L6 C6 r.2 :: r5 A2 L2 C2 A3 L3 C3 A4 L4 C4 A5 L5 C5 A6 L6 C6 r_.d) /\ Φ = [fS A9 L9 C9 11 zB r.2.l_]) | .pan y => o = .pan (.iface 37 (.agg #[iI y.At, iI y.Code])) /\ H = [] /\ Φ = []) := by
 unfold qd.reader_name at hF
 refine zt (n := 6) Tryz.func86 rfl Tryz.ntmps86 rfl fun w X => cR (oV vA (zb (cR (oV vM ?_))))
 obtain ⟨v, h1, hF⟩ := bd hF
 rcases v with x_ | y_
 replace hF := zU hF
 refine yx [0, 0, 0, 0, 0, 0] wY rfl rfl (zy [0] rfl) (ky h1 :) ?_
 rintro _ _ _ ⟨A7, L7, C7, A8, L8, C8, rfl, rfl, rfl⟩
 refine oV (jP (v := sV x_.1.Text) rfl (fun _ => by kernel_rfl)) (oV vA (zb (zp ?_)))
 cases hF
 refine yH rfl (zX rfl) fun a w hs => zo hs [0, 0, 0, 0, 0, 0] ⟨A8, L8, C8, rfl, rfl, rfl⟩ rfl (zy [1] rfl)
 replace hF := zH hF
 refine yx [0, 0, 0, 0, 0, 0] wY rfl rfl (zy [0] rfl) (ky h1 :) ?_
 rintro _ _ _ ⟨rfl, rfl, rfl⟩
 cases hF
 exact sP
theorem gC {r_ : za} {text_ : Tx} {b : Nat} {r : Bool} (hF : qd.reader_is r_ text_ = some r) :
    xu Tryz.prog 118 [pt b, sV text_] (bQ b A1 L1 C1 A2 L2 C2 A3 L3 C3 A4 L4 C4 A5 L5 C5 A6 L6 C6 r_ :: r5 A2 L2 C2 A3 L3 C3 A4 L4 C4 A5 L5 C5 A6 L6 C6 r_.d) [fS A1 L1 C1 11 zB r_.l_] (fun o H Φ => o = .ret (bV r) /\ H = (bQ b A1 L1 C1 A2 L2 C2 A3 L3 C3 A4 L4 C4 A5 L5 C5 A6 L6 C6 r_ :: r5 A2 L2 C2 A3 L3 C3 A4 L4 C4 A5 L5 C5 A6 L6 C6 r_.d) /\ Φ = []) := by
 unfold qd.reader_is at hF
 refine zt (n := 30) Tryz.func118 rfl Tryz.ntmps118 rfl fun w X => cR (oV vA (zb (zf (zc hF ?_))))
 intro h1 hF
 refine wK (xs := r_.l_) (enc := zB) 0 rfl h1 rfl rfl fun A7 L7 C7 => zP (n := 12) [0, 0, 0, 0, 0, 0] mixed rfl rfl (dv 0 rfl vM (dv 1 rfl vC (dv 2 rfl (vF 0) (dv 3 rfl (vL 0 qk) (dv 4 rfl vM (dv 5 rfl vC (dv 6 rfl (vF 1) ?_)))))))
 refine dv 7 rfl (vL 0 yz) (dv 8 rfl (zi (xs := r_.l_) (enc := zB) qu rfl rfl (.f 2 rfl) h1) (dv 9 rfl (yS 0 yJ rfl rfl rfl rfl rfl) (dO 10 rfl (zC jd rfl rfl ?_))))
 intro b1
 refine dN [1, 1, 1, 1, 1, 1] 0 (dO 11 rfl ((sT 0 yJ) (dN [1, 1, 1, 1, 1, 1] 0 (zG (by kernel_rfl) (cR ((fD 0) (oV (vL 0 yz) (oV vB (oV vM ?_)))))))))
 refine oS 19 hF (fun hF => ?_) (fun hF => ?_)
 refine oF (oF (oF (oV yt (oV vM (oN ((fD 1) (oN (oV (vL 0 xE) (oN (oV vM (oN (oV (yP rfl rfl) (oV yt (oV vA (zb ?_)))))))))))))))
 refine zp ?_
 cases hF
 refine yH rfl (zX rfl) fun a w hs => zo hs [1, 1, 1, 1, 1, 1] ⟨rfl, rfl, rfl⟩ rfl zn
 refine oN ((fD 0) (oN (oV (vL 0 yz) (oN (oV vB (oV yj (oV vM ?_)))))))
 refine oS 24 hF (fun hF => ?_) (fun hF => ?_)
 refine oN ((fD 1) (oN (oV (vL 0 xE) (oN (oV vM (oN (oV (yP rfl rfl) (oV yt (oV vA (zb (zp ?_)))))))))))
 cases hF
 refine yH rfl (zX rfl) fun a w hs => zo hs [1, 1, 1, 1, 1, 1] ⟨rfl, rfl, rfl⟩ rfl zn
 refine oF (oF (oF (oF (oV yj (oV vA (zb (zp ?_)))))))
 cases hF
 refine yH rfl (zX rfl) fun a w hs => zo hs [1, 1, 1, 1, 1, 1] ⟨rfl, rfl, rfl⟩ rfl zn
theorem vJ {r_ : za} {text_ : Tx} {b : Nat} {r : Bool × za} (hF : qd.reader_take r_ text_ = some r) :
    xu Tryz.prog 116 [pt b, sV text_] (bQ b A1 L1 C1 A2 L2 C2 A3 L3 C3 A4 L4 C4 A5 L5 C5 A6 L6 C6 r_ :: r5 A2 L2 C2 A3 L3 C3 A4 L4 C4 A5 L5 C5 A6 L6 C6 r_.d) [fS A1 L1 C1 11 zB r_.l_] (fun o H Φ => ∃ (A7 : OA) (L7 C7 : Nat), o = .ret (bV r.1) /\ H = (bQ b A7 L7 C7 A2 L2 C2 A3 L3 C3 A4 L4 C4 A5 L5 C5 A6 L6 C6 r.2 :: r5 A2 L2 C2 A3 L3 C3 A4 L4 C4 A5 L5 C5 A6 L6 C6 r_.d) /\ Φ = [fS A7 L7 C7 11 zB r.2.l_]) := by
 unfold qd.reader_take at hF
 refine zt (n := 16) Tryz.func116 rfl Tryz.ntmps116 rfl fun w X => cR (oV vA (zb (zf (cR (oV vM (oV vM ?_))))))
 obtain ⟨v, h1, hF⟩ := bd hF
 refine yx [0, 0, 0, 0, 0, 0] qa rfl rfl (zy [0] rfl) (gC h1 :) ?_
 rintro _ _ _ ⟨rfl, rfl, rfl⟩
 refine oV vN (zb ?_)
 refine cC hF (fun hF => ?_) (fun hF => ?_)
 refine cR (oV vA (zb (zp ?_)))
 cases hF
 refine yH rfl (zX rfl) fun a w hs => zo hs [0, 0, 0, 0, 0, 0] ⟨A1, L1, C1, rfl, rfl, rfl⟩ rfl (zy [0] rfl)
 refine zk (ze (cR (oV vM (oV vC ((fD 1) (oV (vL 0 yz) (oV vB (oV vC ((fD 1) ((sT 0 yz) (zb (cR (oV vA ?_)))))))))))))
 refine zb (zp ?_)
 cases hF
 refine yH rfl (zX rfl) fun a w hs => zo hs [0, 0, 0, 0, 0, 0] ⟨A1, L1, C1, rfl, rfl, rfl⟩ rfl (zy [0] rfl)
theorem xJ {r_ : za} {text_ : Tx} {b : Nat} {r : Pn za Fault} (hF : qd.reader_want r_ text_ = some r) :
    xu Tryz.prog 88 [pt b, sV text_] (bQ b A1 L1 C1 A2 L2 C2 A3 L3 C3 A4 L4 C4 A5 L5 C5 A6 L6 C6 r_ :: r5 A2 L2 C2 A3 L3 C3 A4 L4 C4 A5 L5 C5 A6 L6 C6 r_.d) [fS A1 L1 C1 11 zB r_.l_] (fun o H Φ => match (generalizing := false) r with | .ok r => (∃ (A9 : OA) (L9 C9 : Nat), o = .ret (.tuple #[]) /\ H = (bQ b A9 L9 C9 A2 L2 C2 A3 L3 C3 A4 L4 C4 A5 L5 C5 A6 L6 C6 r :: r5 A2 L2 C2 A3 L3 C3 A4 L4 C4 A5 L5 C5 A6 L6 C6 r_.d) /\ Φ = [fS A9 L9 C9 11 zB r.l_]) | .pan y => o = .pan (.iface 37 (.agg #[iI y.At, iI y.Code])) /\ H = [] /\ Φ = []) := by
 unfold qd.reader_want at hF
 refine zt (n := 19) Tryz.func88 rfl Tryz.ntmps88 rfl fun w X => cR (oV vM (oV vM ?_))
 obtain ⟨v, h1, hF⟩ := bd hF
 refine yx [0, 0, 0, 0, 0, 0] wP rfl rfl (zy [0] rfl) (vJ h1 :) ?_
 rintro _ _ _ ⟨A7, L7, C7, rfl, rfl, rfl⟩
 refine oV vN (zb ?_)
 refine cC hF (fun hF => ?_) (fun hF => ?_)
 refine zc hF fun h3 hF => wK (xs := v.2.l_) (enc := zB) 0 rfl h3 rfl rfl fun A8 L8 C8 => zP (n := 11) [0, 0, 0, 0, 0, 0] mixed rfl rfl (dv 0 rfl vM (dv 1 rfl vC (dv 2 rfl (vF 0) (dv 3 rfl (vL 0 qk) (dv 4 rfl vM (dv 5 rfl vC (dv 6 rfl (vF 1) (dv 7 rfl (vL 0 yz) (dv 8 rfl (zi (xs := v.2.l_) (enc := zB) qu rfl rfl (.f 2 rfl) h3) (dv 9 rfl (yS 0 yJ rfl rfl rfl rfl rfl) (dO 10 rfl ?_)))))))))))
 obtain ⟨v1, h4, hF⟩ := bd hF
 rcases v1 with x_ | y_
 replace hF := zU hF
 refine zV yE rfl (zy [1] rfl) (xk h4 :) rfl ?_
 rintro _ _ _ ⟨rfl, rfl, rfl⟩
 refine dN [0, 0, 0, 0, 0, 0] 0 (dD ?_)
 cases hF
 refine xz rfl fun a w hs => zo hs [0, 0, 0, 0, 0, 0] ⟨A7, L7, C7, rfl, rfl, rfl⟩ rfl (zy [2] rfl)
 replace hF := zH hF
 refine zV yE rfl (zy [1] rfl) (xk h4 :) rfl ?_
 rintro _ _ _ ⟨rfl, rfl, rfl⟩
 cases hF
 exact sP
 refine zk ?_
 cases hF
 refine xz rfl fun a w hs => zo hs [0, 0, 0, 0, 0, 0] ⟨A7, L7, C7, rfl, rfl, rfl⟩ rfl (zy [0] rfl)
theorem qh {r_ : za} {first : zg} {b : Nat} {r : Pn za Fault} (hF : qd.reader_once_a0_9_a0_2 r_ first = some r) :
    xu Tryz.prog 80 [pt b, .agg (yX first A7 L7 C7).toArray, .pointer (some ⟨b, 9, none⟩), .pointer (some ⟨b, 2, none⟩)] (bQ b A1 L1 C1 A2 L2 C2 A3 L3 C3 A4 L4 C4 A5 L5 C5 A6 L6 C6 r_ :: r5 A2 L2 C2 A3 L3 C3 A4 L4 C4 A5 L5 C5 A6 L6 C6 r_.d) [fS A1 L1 C1 11 zB r_.l_, fS A7 L7 C7 1 xj first.Bytes] (fun o H Φ => match (generalizing := false) r with | .ok r => (∃ (A10 : OA) (L10 C10 : Nat), o = .ret (.tuple #[]) /\ H = (bQ b A10 L10 C10 A2 L2 C2 A3 L3 C3 A4 L4 C4 A5 L5 C5 A6 L6 C6 r :: r5 A2 L2 C2 A3 L3 C3 A4 L4 C4 A5 L5 C5 A6 L6 C6 r_.d) /\ Φ = [fS A10 L10 C10 11 zB r.l_]) | .pan y => o = .pan (.iface 37 (.agg #[iI y.At, iI y.Code])) /\ H = [] /\ Φ = []) := by
 unfold qd.reader_once_a0_9_a0_2 at hF
 refine zt (n := 21) Tryz.func80 rfl Tryz.ntmps80 rfl fun w X => cR (xr rfl rfl rfl fun b1 => zb (zf (cR (oV vM (oV vC (oV (vL 1 ty4) (zb ?_)))))))
 refine z8 (fun E N' => qd.reader_once_a0_9_a0_2_j1 r_ = some r -> zT E [(0, pt b), (1, .agg (yX first A7 L7 C7).toArray), (2, .pointer (some ⟨b, 9, none⟩)), (3, .pointer (some ⟨b, 2, none⟩))] (bQ b A1 L1 C1 A2 L2 C2 A3 L3 C3 A4 L4 C4 A5 L5 C5 A6 L6 C6 r_ :: r5 A2 L2 C2 A3 L3 C3 A4 L4 C4 A5 L5 C5 A6 L6 C6 r_.d) [fS A7 L7 C7 1 xj first.Bytes, fS A1 L1 C1 11 zB r_.l_] N') (fun N1 hN1 => ?_) ?_
 refine cC hF (fun hF => ?_) (fun hF => ?_)
 refine zd (oV (vL 0 yJ) ?_)
 obtain ⟨v2, h4, hF⟩ := bd hF
 rcases v2 with x_2 | y_2
 replace hF := zU hF
 refine zV yE rfl (zy [1] rfl) (xk h4 :) rfl ?_
 rintro _ _ _ ⟨rfl, rfl, rfl⟩
 refine zh ?_
 exact sK [1, 1, 1, 1, 1, 1] [1, 0] (hN1 hF)
 replace hF := zH hF
 refine zV yE rfl (zy [1] rfl) (xk h4 :) rfl ?_
 rintro _ _ _ ⟨rfl, rfl, rfl⟩
 cases hF
 exact sP
 refine zk ?_
 exact sK [1, 1, 1, 1, 1, 1] [1, 0] (hN1 hF)
 intro hF
 unfold qd.reader_once_a0_9_a0_2_j1 at hF
 refine ze (cR (oV vM (oV vC ((sT 0 ty4) (zb (cR (oV vM (oV vM ?_))))))))
 obtain ⟨v, h1, hF⟩ := bd hF
 rcases v with x_ | y_
 replace hF := zU hF
 refine yx [0, 0, 0, 0, 0, 0] yV rfl rfl (zy [1] rfl) (xw h1 :) ?_
 rintro _ _ _ ⟨A8, L8, C8, rfl, rfl, rfl⟩
 refine oV vC ((sT 0 xE) (zb (zd (oV vM ?_))))
 obtain ⟨v1, h2, hF⟩ := bd hF
 rcases v1 with x_1 | y_1
 replace hF := zU hF
 refine yx [0, 0, 0, 0, 0, 0] xb rfl rfl (zy [0] rfl) (xJ h2 :) ?_
 rintro _ _ _ ⟨A9, L9, C9, rfl, rfl, rfl⟩
 refine zh ?_
 cases hF
 refine xz rfl fun a w hs => zo hs [0, 0, 0, 0, 0, 0] ⟨A9, L9, C9, rfl, rfl, rfl⟩ rfl (zy [0] rfl)
 replace hF := zH hF
 refine yx [0, 0, 0, 0, 0, 0] xb rfl rfl (zy [0] rfl) (xJ h2 :) ?_
 rintro _ _ _ ⟨rfl, rfl, rfl⟩
 cases hF
 exact sP
 replace hF := zH hF
 refine yx [0, 0, 0, 0, 0, 0] yV rfl rfl (zy [1] rfl) (xw h1 :) ?_
 rintro _ _ _ ⟨rfl, rfl, rfl⟩
 cases hF
 exact sP
theorem tri79 {w_ : zg} {free : za} {b : Nat} {b1 : Nat} {r : Pn za Fault} (hF : qd.reader_all_c1 w_ free = some r) :
    xu Tryz.prog 79 [.agg (yX w_ A1 L1 C1).toArray, pt b1] (bQ b A2 L2 C2 A3 L3 C3 A4 L4 C4 A5 L5 C5 A6 L6 C6 A7 L7 C7 free :: (r5 A3 L3 C3 A4 L4 C4 A5 L5 C5 A6 L6 C6 A7 L7 C7 free.d ++ [.box b1 85 [pt b]])) [fS A1 L1 C1 1 xj w_.Bytes, fS A2 L2 C2 11 zB free.l_] (fun o H Φ => match (generalizing := false) r with | .ok r => (∃ (A9 : OA) (L9 C9 : Nat), o = .ret (.tuple #[]) /\ H = (bQ b A9 L9 C9 A3 L3 C3 A4 L4 C4 A5 L5 C5 A6 L6 C6 A7 L7 C7 r :: (r5 A3 L3 C3 A4 L4 C4 A5 L5 C5 A6 L6 C6 A7 L7 C7 free.d ++ [.box b1 85 [pt b]])) /\ Φ = [fS A9 L9 C9 11 zB r.l_]) | .pan y => o = .pan (.iface 37 (.agg #[iI y.At, iI y.Code])) /\ H = [] /\ Φ = []) := by
 unfold qd.reader_all_c1 at hF
 refine zt (n := 13) Tryz.func79 rfl Tryz.ntmps79 rfl fun w X => cR (xr rfl rfl rfl fun b2 => zb (zP (n := 10) [0, 1, 1, 1, 1, 1, 1] mixed rfl rfl (dv 0 rfl (vL 6 wg) (dv 1 rfl (vL 0 yJ) (dv 2 rfl (vL 6 wg) (dv 3 rfl vC (dv 4 rfl (vF 9) (dv 5 rfl (vL 6 wg) (dv 6 rfl vC (dv 7 rfl (vF 2) (dv 8 rfl (vF 2) (dO 9 rfl ?_))))))))))))
 obtain ⟨v, h1, hF⟩ := bd hF
 rcases v with x_ | y_
 replace hF := zU hF
 refine yx [1, 1, 1, 1, 1, 1] call80 rfl rfl (zy [1, 0] rfl) (qh h1 :) ?_
 rintro _ _ _ ⟨A8, L8, C8, rfl, rfl, rfl⟩
 refine dN [6, 1, 1, 1, 1, 1, 1] 1 (dD ?_)
 cases hF
 refine xz rfl fun a w hs => zo hs [0, 0, 0, 0, 0, 0, 1] ⟨A8, L8, C8, rfl, rfl, rfl⟩ rfl (zy [0] rfl)
 replace hF := zH hF
 refine yx [1, 1, 1, 1, 1, 1] call80 rfl rfl (zy [1, 0] rfl) (qh h1 :) ?_
 rintro _ _ _ ⟨rfl, rfl, rfl⟩
 cases hF
 exact sP
theorem jD {r_ : za} {first : zg} {b : Nat} {r : Pn za Fault} (hF : qd.reader_once_a0_10_a0_3 r_ first = some r) :
    xu Tryz.prog 80 [pt b, .agg (yX first A7 L7 C7).toArray, .pointer (some ⟨b, 10, none⟩), .pointer (some ⟨b, 3, none⟩)] (bQ b A1 L1 C1 A2 L2 C2 A3 L3 C3 A4 L4 C4 A5 L5 C5 A6 L6 C6 r_ :: r5 A2 L2 C2 A3 L3 C3 A4 L4 C4 A5 L5 C5 A6 L6 C6 r_.d) [fS A1 L1 C1 11 zB r_.l_, fS A7 L7 C7 1 xj first.Bytes] (fun o H Φ => match (generalizing := false) r with | .ok r => (∃ (A10 : OA) (L10 C10 : Nat), o = .ret (.tuple #[]) /\ H = (bQ b A10 L10 C10 A2 L2 C2 A3 L3 C3 A4 L4 C4 A5 L5 C5 A6 L6 C6 r :: r5 A2 L2 C2 A3 L3 C3 A4 L4 C4 A5 L5 C5 A6 L6 C6 r_.d) /\ Φ = [fS A10 L10 C10 11 zB r.l_]) | .pan y => o = .pan (.iface 37 (.agg #[iI y.At, iI y.Code])) /\ H = [] /\ Φ = []) := by
 unfold qd.reader_once_a0_10_a0_3 at hF
 refine zt (n := 21) Tryz.func80 rfl Tryz.ntmps80 rfl fun w X => cR (xr rfl rfl rfl fun b1 => zb (zf (cR (oV vM (oV vC (oV (vL 1 ty4) (zb ?_)))))))
 refine z8 (fun E N' => qd.reader_once_a0_10_a0_3_j1 r_ = some r -> zT E [(0, pt b), (1, .agg (yX first A7 L7 C7).toArray), (2, .pointer (some ⟨b, 10, none⟩)), (3, .pointer (some ⟨b, 3, none⟩))] (bQ b A1 L1 C1 A2 L2 C2 A3 L3 C3 A4 L4 C4 A5 L5 C5 A6 L6 C6 r_ :: r5 A2 L2 C2 A3 L3 C3 A4 L4 C4 A5 L5 C5 A6 L6 C6 r_.d) [fS A7 L7 C7 1 xj first.Bytes, fS A1 L1 C1 11 zB r_.l_] N') (fun N1 hN1 => ?_) ?_
 refine cC hF (fun hF => ?_) (fun hF => ?_)
 refine zd (oV (vL 0 yJ) ?_)
 obtain ⟨v2, h4, hF⟩ := bd hF
 rcases v2 with x_2 | y_2
 replace hF := zU hF
 refine zV yE rfl (zy [1] rfl) (xk h4 :) rfl ?_
 rintro _ _ _ ⟨rfl, rfl, rfl⟩
 refine zh ?_
 exact sK [1, 1, 1, 1, 1, 1] [1, 0] (hN1 hF)
 replace hF := zH hF
 refine zV yE rfl (zy [1] rfl) (xk h4 :) rfl ?_
 rintro _ _ _ ⟨rfl, rfl, rfl⟩
 cases hF
 exact sP
 refine zk ?_
 exact sK [1, 1, 1, 1, 1, 1] [1, 0] (hN1 hF)
 intro hF
 unfold qd.reader_once_a0_10_a0_3_j1 at hF
 refine ze (cR (oV vM (oV vC ((sT 0 ty4) (zb (cR (oV vM (oV vM ?_))))))))
 obtain ⟨v, h1, hF⟩ := bd hF
 rcases v with x_ | y_
 replace hF := zU hF
 refine yx [0, 0, 0, 0, 0, 0] yV rfl rfl (zy [1] rfl) (xw h1 :) ?_
 rintro _ _ _ ⟨A8, L8, C8, rfl, rfl, rfl⟩
 refine oV vC ((sT 0 xE) (zb (zd (oV vM ?_))))
 obtain ⟨v1, h2, hF⟩ := bd hF
 rcases v1 with x_1 | y_1
 replace hF := zU hF
 refine yx [0, 0, 0, 0, 0, 0] xb rfl rfl (zy [0] rfl) (xJ h2 :) ?_
 rintro _ _ _ ⟨A9, L9, C9, rfl, rfl, rfl⟩
 refine zh ?_
 cases hF
 refine xz rfl fun a w hs => zo hs [0, 0, 0, 0, 0, 0] ⟨A9, L9, C9, rfl, rfl, rfl⟩ rfl (zy [0] rfl)
 replace hF := zH hF
 refine yx [0, 0, 0, 0, 0, 0] xb rfl rfl (zy [0] rfl) (xJ h2 :) ?_
 rintro _ _ _ ⟨rfl, rfl, rfl⟩
 cases hF
 exact sP
 replace hF := zH hF
 refine yx [0, 0, 0, 0, 0, 0] yV rfl rfl (zy [1] rfl) (xw h1 :) ?_
 rintro _ _ _ ⟨rfl, rfl, rfl⟩
 cases hF
 exact sP
theorem tri81 {w_ : zg} {free : za} {b : Nat} {b1 : Nat} {r : Pn za Fault} (hF : qd.reader_all_c2 w_ free = some r) :
    xu Tryz.prog 81 [.agg (yX w_ A1 L1 C1).toArray, pt b1] (bQ b A2 L2 C2 A3 L3 C3 A4 L4 C4 A5 L5 C5 A6 L6 C6 A7 L7 C7 free :: (r5 A3 L3 C3 A4 L4 C4 A5 L5 C5 A6 L6 C6 A7 L7 C7 free.d ++ [.box b1 85 [pt b]])) [fS A1 L1 C1 1 xj w_.Bytes, fS A2 L2 C2 11 zB free.l_] (fun o H Φ => match (generalizing := false) r with | .ok r => (∃ (A9 : OA) (L9 C9 : Nat), o = .ret (.tuple #[]) /\ H = (bQ b A9 L9 C9 A3 L3 C3 A4 L4 C4 A5 L5 C5 A6 L6 C6 A7 L7 C7 r :: (r5 A3 L3 C3 A4 L4 C4 A5 L5 C5 A6 L6 C6 A7 L7 C7 free.d ++ [.box b1 85 [pt b]])) /\ Φ = [fS A9 L9 C9 11 zB r.l_]) | .pan y => o = .pan (.iface 37 (.agg #[iI y.At, iI y.Code])) /\ H = [] /\ Φ = []) := by
 unfold qd.reader_all_c2 at hF
 refine zt (n := 13) Tryz.func81 rfl Tryz.ntmps81 rfl fun w X => cR (xr rfl rfl rfl fun b2 => zb (zP (n := 10) [0, 1, 1, 1, 1, 1, 1] mixed rfl rfl (dv 0 rfl (vL 6 wg) (dv 1 rfl (vL 0 yJ) (dv 2 rfl (vL 6 wg) (dv 3 rfl vC (dv 4 rfl (vF 10) (dv 5 rfl (vL 6 wg) (dv 6 rfl vC (dv 7 rfl (vF 2) (dv 8 rfl (vF 3) (dO 9 rfl ?_))))))))))))
 obtain ⟨v, h1, hF⟩ := bd hF
 rcases v with x_ | y_
 replace hF := zU hF
 refine yx [1, 1, 1, 1, 1, 1] call80 rfl rfl (zy [1, 0] rfl) (jD h1 :) ?_
 rintro _ _ _ ⟨A8, L8, C8, rfl, rfl, rfl⟩
 refine dN [6, 1, 1, 1, 1, 1, 1] 1 (dD ?_)
 cases hF
 refine xz rfl fun a w hs => zo hs [0, 0, 0, 0, 0, 0, 1] ⟨A8, L8, C8, rfl, rfl, rfl⟩ rfl (zy [0] rfl)
 replace hF := zH hF
 refine yx [1, 1, 1, 1, 1, 1] call80 rfl rfl (zy [1, 0] rfl) (jD h1 :) ?_
 rintro _ _ _ ⟨rfl, rfl, rfl⟩
 cases hF
 exact sP
theorem uw {r_ : za} {w_ : zg} {b : Nat} {r : Pn Unit Fault} (hF : qd.reader_room r_ w_ = some r) :
    xu Tryz.prog 115 [pt b, .agg (yX w_ A7 L7 C7).toArray] (bQ b A1 L1 C1 A2 L2 C2 A3 L3 C3 A4 L4 C4 A5 L5 C5 A6 L6 C6 r_ :: r5 A2 L2 C2 A3 L3 C3 A4 L4 C4 A5 L5 C5 A6 L6 C6 r_.d) [fS A1 L1 C1 11 zB r_.l_, fS A7 L7 C7 1 xj w_.Bytes] (fun o H Φ => match (generalizing := false) r with | .ok r => (o = .ret (.tuple #[]) /\ H = (bQ b A1 L1 C1 A2 L2 C2 A3 L3 C3 A4 L4 C4 A5 L5 C5 A6 L6 C6 r_ :: r5 A2 L2 C2 A3 L3 C3 A4 L4 C4 A5 L5 C5 A6 L6 C6 r_.d) /\ Φ = []) | .pan y => o = .pan (.iface 37 (.agg #[iI y.At, iI y.Code])) /\ H = [] /\ Φ = []) := by
 unfold qd.reader_room at hF
 refine zt (n := 13) Tryz.func115 rfl Tryz.ntmps115 rfl fun w X => cR (xr rfl rfl rfl fun b1 => zb (cR (oV vM (oV vC ((fD 2) ((fD 4) (oV (vL 1 kR) (oV (zL (enc := yh) r_.d.Prods vK rfl (.r 2 _ rfl)) (oV vB (zb ?_))))))))))
 refine cC hF (fun hF => ?_) (fun hF => ?_)
 refine zd (oV (vL 0 yJ) ?_)
 obtain ⟨v, h2, hF⟩ := bd hF
 rcases v with x_ | y_
 replace hF := zU hF
 refine zV yE rfl (zy [1] rfl) (xk h2 :) rfl ?_
 rintro _ _ _ ⟨rfl, rfl, rfl⟩
 refine zh ?_
 cases hF
 refine xz rfl fun a w hs => zo hs [1, 1, 1, 1, 1, 1] ⟨rfl, rfl, rfl⟩ rfl zn
 replace hF := zH hF
 refine zV yE rfl (zy [1] rfl) (xk h2 :) rfl ?_
 rintro _ _ _ ⟨rfl, rfl, rfl⟩
 cases hF
 exact sP
 refine zk ?_
 cases hF
 refine xz rfl fun a w hs => zo hs [1, 1, 1, 1, 1, 1] ⟨rfl, rfl, rfl⟩ rfl zn
end Go.Vc
