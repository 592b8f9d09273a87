import Derived.Test.YtdbnoblklhgdoaaGreatDoorW0
set_option linter.unusedVariables false
set_option linter.unusedSimpArgs false
set_option maxRecDepth 8000
set_option maxHeartbeats 2000000
namespace Go.Vc
open Go Go.Proofs
variable {A1 A2 A3 A4 A5 A6 A7 A8 A9 A10 A11 A12 A13 A14 A15 A16 A17 A18 A19 A20 A21 A22 A23 A24 A25 A26 A27 A28 A29 A30 : OA} {L1 C1 L2 C2 L3 C3 L4 C4 L5 C5 L6 C6 L7 C7 L8 C8 L9 C9 L10 C10 L11 C11 L12 C12 L13 C13 L14 C14 L15 C15 L16 C16 L17 C17 L18 C18 L19 C19 L20 C20 L21 C21 L22 C22 L23 C23 L24 C24 L25 C25 L26 C26 L27 C27 L28 C28 L29 C29 L30 C30 : Nat}
@[reducible] def P120 (g120 : za -> Option (Pn (Item × Bool × za) Fault)) : Prop := ∀ {r_ : za} {b : Nat} {A1 : OA} {L1 C1 : Nat} {A2 : OA} {L2 C2 : Nat} {A3 : OA} {L3 C3 : Nat} {A4 : OA} {L4 C4 : Nat} {A5 : OA} {L5 C5 : Nat} {A6 : OA} {L6 C6 : Nat} {r : Pn (Item × Bool × za) Fault}, g120 r_ = some r -> xu Tryz.prog 120 [pt b] (bQ b A1 L1 C1 A2 L2 C2 A3 L3 C3 A4 L4 C4 A5 L5 C5 A6 L6 C6 r_ :: r5 A2 L2 C2 A3 L3 C3 A4 L4 C4 A5 L5 C5 A6 L6 C6 r_.d) [fS A1 L1 C1 11 zB r_.l_] (fun o H Φ => match (generalizing := false) r with | .ok r => (∃ (A21 : OA) (L21 C21 : Nat) (A22 : OA) (L22 C22 : Nat), o = .ret (.tuple #[.agg (vItem r.1 A21 L21 C21).toArray, bV r.2.1]) /\ H = (bQ b A22 L22 C22 A2 L2 C2 A3 L3 C3 A4 L4 C4 A5 L5 C5 A6 L6 C6 r.2.2 :: r5 A2 L2 C2 A3 L3 C3 A4 L4 C4 A5 L5 C5 A6 L6 C6 r_.d) /\ Φ = [fS A21 L21 C21 4 zR r.1.Items, fS A22 L22 C22 11 zB r.2.2.l_]) | .pan y => o = .pan (.iface 37 (.agg #[iI y.At, iI y.Code])) /\ H = [] /\ Φ = [])
@[reducible] def P135 (g135 : za -> Option (Pn (List Item × za) Fault)) : Prop := ∀ {r_ : za} {b : Nat} {A1 : OA} {L1 C1 : Nat} {A2 : OA} {L2 C2 : Nat} {A3 : OA} {L3 C3 : Nat} {A4 : OA} {L4 C4 : Nat} {A5 : OA} {L5 C5 : Nat} {A6 : OA} {L6 C6 : Nat} {r : Pn (List Item × za) Fault}, g135 r_ = some r -> xu Tryz.prog 135 [pt b] (bQ b A1 L1 C1 A2 L2 C2 A3 L3 C3 A4 L4 C4 A5 L5 C5 A6 L6 C6 r_ :: r5 A2 L2 C2 A3 L3 C3 A4 L4 C4 A5 L5 C5 A6 L6 C6 r_.d) [fS A1 L1 C1 11 zB r_.l_] (fun o H Φ => match (generalizing := false) r with | .ok r => (∃ (A11 : OA) (L11 C11 : Nat) (A12 : OA) (L12 C12 : Nat), o = .ret (sl A11 L11 C11) /\ H = (bQ b A12 L12 C12 A2 L2 C2 A3 L3 C3 A4 L4 C4 A5 L5 C5 A6 L6 C6 r.2 :: (r5 A2 L2 C2 A3 L3 C3 A4 L4 C4 A5 L5 C5 A6 L6 C6 r_.d ++ [rW A11 L11 C11 124 4 zR r.1])) /\ Φ = [fS A12 L12 C12 11 zB r.2.l_]) | .pan y => o = .pan (.iface 37 (.agg #[iI y.At, iI y.Code])) /\ H = [] /\ Φ = [])
@[reducible] def P91 (g91 : za -> Option (Pn (List Item × za) Fault)) : Prop := ∀ {r_ : za} {b : Nat} {A1 : OA} {L1 C1 : Nat} {A2 : OA} {L2 C2 : Nat} {A3 : OA} {L3 C3 : Nat} {A4 : OA} {L4 C4 : Nat} {A5 : OA} {L5 C5 : Nat} {A6 : OA} {L6 C6 : Nat} {r : Pn (List Item × za) Fault}, g91 r_ = some r -> xu Tryz.prog 91 [pt b] (bQ b A1 L1 C1 A2 L2 C2 A3 L3 C3 A4 L4 C4 A5 L5 C5 A6 L6 C6 r_ :: r5 A2 L2 C2 A3 L3 C3 A4 L4 C4 A5 L5 C5 A6 L6 C6 r_.d) [fS A1 L1 C1 11 zB r_.l_] (fun o H Φ => match (generalizing := false) r with | .ok r => (∃ (A13 : OA) (L13 C13 : Nat) (A14 : OA) (L14 C14 : Nat), o = .ret (sl A13 L13 C13) /\ H = (bQ b A14 L14 C14 A2 L2 C2 A3 L3 C3 A4 L4 C4 A5 L5 C5 A6 L6 C6 r.2 :: (r5 A2 L2 C2 A3 L3 C3 A4 L4 C4 A5 L5 C5 A6 L6 C6 r_.d ++ [rW A13 L13 C13 124 4 zR r.1])) /\ Φ = [fS A14 L14 C14 11 zB r.2.l_]) | .pan y => o = .pan (.iface 37 (.agg #[iI y.At, iI y.Code])) /\ H = [] /\ Φ = [])
theorem tri146 {r_ : za} {b : Nat} {r : Pn (xg × za) Fault} (hF : qd.reader_part r_ = some r) :
    xu Tryz.prog 146 [pt b] (bQ b A1 L1 C1 A2 L2 C2 A3 L3 C3 A4 L4 C4 A5 L5 C5 A6 L6 C6 r_ :: r5 A2 L2 C2 A3 L3 C3 A4 L4 C4 A5 L5 C5 A6 L6 C6 r_.d) [fS A1 L1 C1 11 zB r_.l_] (fun o H Φ => match (generalizing := false) r with | .ok r => (∃ (A15 : OA) (L15 C15 : Nat), o = .ret (.agg (g7 r.1).toArray) /\ H = (bQ b A15 L15 C15 A2 L2 C2 A3 L3 C3 A4 L4 C4 A5 L5 C5 A6 L6 C6 r.2 :: r5 A2 L2 C2 A3 L3 C3 A4 L4 C4 A5 L5 C5 A6 L6 C6 r_.d) /\ Φ = [fS A15 L15 C15 11 zB r.2.l_]) | .pan y => o = .pan (.iface 37 (.agg #[iI y.At, iI y.Code])) /\ H = [] /\ Φ = []) := by
 unfold qd.reader_part at hF
 refine zt (n := 46) Tryz.func146 rfl Tryz.ntmps146 rfl fun w X => cR (zC gQ rfl rfl fun b1 => zb (cR (oV (vU (.agg #[iI 3, sV ([] : Tx), iU 0, iU 0, iU 0, iU 0, sV ([] : Tx), sV ([] : Tx)])) (zC gQ rfl rfl ?_))))
 intro b2
 refine (sT 0 wR) (zb (zf (zf (zc hF ?_))))
 intro h1 hF
 refine wK (xs := r_.l_) (enc := zB) 0 rfl h1 rfl rfl fun A7 L7 C7 => zP (n := 12) [0, 0, 0, 0, 0, 0, 0, 0] mixed rfl rfl ?_
 refine dv 0 rfl vM (dv 1 rfl vC (dv 2 rfl (vF 0) (dv 3 rfl (vL 2 qk) (dv 4 rfl vM (dv 5 rfl vC (dv 6 rfl (vF 1) (dv 7 rfl (vL 2 yz) (dv 8 rfl (zi (xs := r_.l_) (enc := zB) qu rfl rfl (.f 2 rfl) h1) (dv 9 rfl (yS 0 yJ rfl rfl rfl rfl rfl) (dO 10 rfl (zC jd rfl rfl ?_)))))))))))
 intro b3
 refine dN [1, 1, 1, 1, 1, 1, 1, 1] 0 (dO 11 rfl ((sT 0 yJ) (dN [1, 1, 1, 1, 1, 1, 1, 1] 0 ?_)))
 refine zG (by kernel_rfl) (cR ((fD 0) (oV (vL 0 yz) (oV vB (zb ?_)))))
 refine z8 (fun E N' => ∀ (Kind__ : Int) (Set_ : S4) (Name_ : Tx) (l__ : List zg) (at__ : Int) (q1 : Tx) (q2 : Tx) (q8 : Bool) (q9 : Bool) (q0 : Int) (A8 : OA) (L8 C8 : Nat), qd.reader_part_j1 r_ Kind__ Set_ Name_ l__ at__ q1 q2 q8 q9 q0 = some r -> zT E [(0, pt b), (2, pt b1), (3, pt b2), (4, pt b3)] (.box b3 106 (yX (at_ r_.l_ r_.at_) A7 L7 C7) :: .box b2 114 [iI Kind__, sV ([] : Tx), iU Set_.w0, iU Set_.w1, iU Set_.w2, iU Set_.w3, sV Name_, sV ([] : Tx)] :: .box b1 114 [iI 0, sV ([] : Tx), iU 0, iU 0, iU 0, iU 0, sV ([] : Tx), sV ([] : Tx)] :: bR b A8 L8 C8 at__ q1 q2 A2 L2 C2 A3 L3 C3 A4 L4 C4 A5 L5 C5 A6 L6 C6 q8 q9 q0 :: r5 A2 L2 C2 A3 L3 C3 A4 L4 C4 A5 L5 C5 A6 L6 C6 r_.d) [fS A7 L7 C7 1 xj ((at_ r_.l_ r_.at_).Bytes), fS A8 L8 C8 11 zB l__] N') (fun N3 hN3 => ?_) ?_
 refine cC hF (fun hF => ?_) (fun hF => ?_)
 refine zf (zP (n := 6) [0, 1, 1, 1, 1, 1, 1, 1] mixed rfl rfl (dv 0 rfl (vF 3) (dv 1 rfl (vL 0 yT) (dv 2 rfl (vF 0) (dO 3 rfl ((sT 1 yz) (dN [0, 1, 1, 1, 1, 1, 1, 1] 0 (dv 4 rfl (vF 2) (dO 5 rfl ((sT 1 yT) (dN [0, 1, 1, 1, 1, 1, 1, 1] 0 (zG (by kernel_rfl) (zd (oV vM (oV vC ?_)))))))))))))))
 refine (fD 1) (oV (vL 3 yz) (oV vB (oV vC ((fD 1) ((sT 3 yz) (zh ?_))))))
 exact sK [0, 0, 0, 0, 0, 0, 0, 0, 0] [1, 2] (hN3 2 (S4.mk ((at_ r_.l_ r_.at_).Set.w0) ((at_ r_.l_ r_.at_).Set.w1) ((at_ r_.l_ r_.at_).Set.w2) ((at_ r_.l_ r_.at_).Set.w3)) ([] : Tx) r_.l_ (IntKind.wrap .i64 (r_.at_ + 1)) r_.d.Start r_.d.Layout r_.start r_.layout r_.items A1 L1 C1 hF)
 refine zd (oV vM ?_)
 obtain ⟨v3, h9, hF⟩ := bd hF
 rcases v3 with x_ | y_
 replace hF := zU hF
 refine yx [3, 3, 3, 3, 3, 3] yV rfl rfl (zy [2] rfl) (xw h9 :) ?_
 rintro _ _ _ ⟨A14, L14, C14, rfl, rfl, rfl⟩
 refine (fD 6) ((sT 7 xE) (zh ?_))
 exact sK [6, 6, 6, 0, 0, 0, 0, 0, 0] [2, 0] (hN3 3 (S4.mk 0 0 0 0) x_.1 x_.2.l_ x_.2.at_ x_.2.d.Start x_.2.d.Layout x_.2.start x_.2.layout x_.2.items A14 L14 C14 hF)
 replace hF := zH hF
 refine yx [3, 3, 3, 3, 3, 3] yV rfl rfl (zy [2] rfl) (xw h9 :) ?_
 rintro _ _ _ ⟨rfl, rfl, rfl⟩
 cases hF
 exact sP
 intro Kind__ Set_ Name_ l__ at__ q1 q2 q8 q9 q0 A8 L8 C8 hF
 unfold qd.reader_part_j1 at hF
 refine ze (zf ?_)
 refine z8 (fun E N' => ∀ (l__1 : List zg) (at__1 : Int) (q1_1 : Tx) (q2_1 : Tx) (q8_1 : Bool) (q9_1 : Bool) (q0_1 : Int) (Kind__1 : Int) (A9 : OA) (L9 C9 : Nat), qd.reader_part_j2 Set_ Name_ r_ l__1 at__1 q1_1 q2_1 q8_1 q9_1 q0_1 Kind__1 = some r -> zT E [(0, pt b), (2, pt b1), (3, pt b2), (4, pt b3)] (bR b A9 L9 C9 at__1 q1_1 q2_1 A2 L2 C2 A3 L3 C3 A4 L4 C4 A5 L5 C5 A6 L6 C6 q8_1 q9_1 q0_1 :: .box b3 106 (yX (at_ r_.l_ r_.at_) A7 L7 C7) :: .box b2 114 [iI Kind__1, sV ([] : Tx), iU Set_.w0, iU Set_.w1, iU Set_.w2, iU Set_.w3, sV Name_, sV ([] : Tx)] :: .box b1 114 [iI 0, sV ([] : Tx), iU 0, iU 0, iU 0, iU 0, sV ([] : Tx), sV ([] : Tx)] :: r5 A2 L2 C2 A3 L3 C3 A4 L4 C4 A5 L5 C5 A6 L6 C6 r_.d) [fS A9 L9 C9 11 zB l__1, fS A7 L7 C7 1 xj ((at_ r_.l_ r_.at_).Bytes)] N') (fun N2 hN2 => ?_) ?_
 refine zq (cR (oV vM ?_))
 obtain ⟨v, h2, hF⟩ := bd hF
 refine yx [3, 3, 3, 3, 3, 3] wP rfl rfl (zy [1] rfl) (vJ h2 :) ?_
 rintro _ _ _ ⟨A10, L10, C10, rfl, rfl, rfl⟩
 refine oV vA (zb ?_)
 refine cC hF (fun hF => ?_) (fun hF => ?_)
 refine zd ((fD 0) ((sT 7 yz) (zh ?_)))
 exact sK [0, 5, 5, 5, 0, 0, 0, 0, 0] [0, 1] (hN2 v.2.l_ v.2.at_ v.2.d.Start v.2.d.Layout v.2.start v.2.layout v.2.items 4 A10 L10 C10 hF)
 refine cR (oV vM ?_)
 obtain ⟨v1, h4, hF⟩ := bd hF
 refine yx [0, 0, 0, 0, 0, 0] wP rfl rfl (zy [0] rfl) (vJ h4 :) ?_
 rintro _ _ _ ⟨A11, L11, C11, rfl, rfl, rfl⟩
 refine oV vA (zb ?_)
 refine z8 (fun E N' => ∀ (l__2 : List zg) (at__2 : Int) (q1_2 : Tx) (q2_2 : Tx) (q8_2 : Bool) (q9_2 : Bool) (q0_2 : Int) (Kind__2 : Int) (A12 : OA) (L12 C12 : Nat), qd.reader_part_j3 Set_ Name_ r_ l__2 at__2 q1_2 q2_2 q8_2 q9_2 q0_2 Kind__2 = some r -> zT E [(0, pt b), (2, pt b1), (3, pt b2), (4, pt b3)] (bR b A12 L12 C12 at__2 q1_2 q2_2 A2 L2 C2 A3 L3 C3 A4 L4 C4 A5 L5 C5 A6 L6 C6 q8_2 q9_2 q0_2 :: .box b3 106 (yX (at_ r_.l_ r_.at_) A7 L7 C7) :: .box b2 114 [iI Kind__2, sV ([] : Tx), iU Set_.w0, iU Set_.w1, iU Set_.w2, iU Set_.w3, sV Name_, sV ([] : Tx)] :: .box b1 114 [iI 0, sV ([] : Tx), iU 0, iU 0, iU 0, iU 0, sV ([] : Tx), sV ([] : Tx)] :: r5 A2 L2 C2 A3 L3 C3 A4 L4 C4 A5 L5 C5 A6 L6 C6 r_.d) [fS A12 L12 C12 11 zB l__2, fS A7 L7 C7 1 xj ((at_ r_.l_ r_.at_).Bytes)] N') (fun N3 hN3 => ?_) ?_
 refine cC hF (fun hF => ?_) (fun hF => ?_)
 refine zd ((fD 0) ((sT 7 yz) (zh ?_)))
 exact sK [0, 5, 5, 5, 0, 0, 0, 0, 0] [0, 2] (hN3 v1.2.l_ v1.2.at_ v1.2.d.Start v1.2.d.Layout v1.2.start v1.2.layout v1.2.items 5 A11 L11 C11 hF)
 refine cR (oV vM ?_)
 obtain ⟨v2, h6, hF⟩ := bd hF
 refine yx [0, 0, 0, 0, 0, 0] wP rfl rfl (zy [0] rfl) (vJ h6 :) ?_
 rintro _ _ _ ⟨A13, L13, C13, rfl, rfl, rfl⟩
 refine oV vA (zb ?_)
 refine cC hF (fun hF => ?_) (fun hF => ?_)
 refine zd ((fD 0) ((sT 7 yz) (zh ?_)))
 exact sK [0, 5, 5, 5, 0, 0, 0, 0, 0] [0, 3] (hN3 v2.2.l_ v2.2.at_ v2.2.d.Start v2.2.d.Layout v2.2.start v2.2.layout v2.2.items 6 A13 L13 C13 hF)
 refine zk ?_
 exact sK [0, 5, 5, 5, 0, 0, 0, 0, 0] [0, 3] (hN3 v2.2.l_ v2.2.at_ v2.2.d.Start v2.2.d.Layout v2.2.start v2.2.layout v2.2.items Kind__ A13 L13 C13 hF)
 intro l__2 at__2 q1_2 q2_2 q8_2 q9_2 q0_2 Kind__2 A12 L12 C12 hF
 unfold qd.reader_part_j3 at hF
 exact sK [0, 0, 0, 0, 0, 0, 0, 0, 0] [0, 1] (hN2 l__2 at__2 q1_2 q2_2 q8_2 q9_2 q0_2 Kind__2 A12 L12 C12 hF)
 intro l__1 at__1 q1_1 q2_1 q8_1 q9_1 q0_1 Kind__1 A9 L9 C9 hF
 unfold qd.reader_part_j2 at hF
 refine ze (cR (oV (vL 2 wR) ((sT 3 wR) (zb (zp ?_)))))
 cases hF
 refine yH rfl (zM 3 rfl wR rfl rfl rfl rfl) fun a w hs => zo hs [0, 3, 3, 3, 3, 3] ⟨A9, L9, C9, rfl, rfl, rfl⟩ rfl (zy [0] rfl)
theorem tri134 {r_ : za} {b : Nat} {r : Pn (xg × za) Fault} (hF : qd.reader_sym r_ = some r) :
    xu Tryz.prog 134 [pt b] (bQ b A1 L1 C1 A2 L2 C2 A3 L3 C3 A4 L4 C4 A5 L5 C5 A6 L6 C6 r_ :: r5 A2 L2 C2 A3 L3 C3 A4 L4 C4 A5 L5 C5 A6 L6 C6 r_.d) [fS A1 L1 C1 11 zB r_.l_] (fun o H Φ => match (generalizing := false) r with | .ok r => (∃ (A17 : OA) (L17 C17 : Nat), o = .ret (.agg (g7 r.1).toArray) /\ H = (bQ b A17 L17 C17 A2 L2 C2 A3 L3 C3 A4 L4 C4 A5 L5 C5 A6 L6 C6 r.2 :: r5 A2 L2 C2 A3 L3 C3 A4 L4 C4 A5 L5 C5 A6 L6 C6 r_.d) /\ Φ = [fS A17 L17 C17 11 zB r.2.l_]) | .pan y => o = .pan (.iface 37 (.agg #[iI y.At, iI y.Code])) /\ H = [] /\ Φ = []) := by
 unfold qd.reader_sym at hF
 refine zt (n := 50) Tryz.func134 rfl Tryz.ntmps134 rfl fun w X => cR (zC gQ rfl rfl fun b1 => zb (zf (zf (zP (n := 12) [0, 0, 0, 0, 0, 0, 0] mixed rfl rfl (dv 0 rfl vM (dv 1 rfl vC (dv 2 rfl (vF 0) (dv 3 rfl (vL 1 qk) (dv 4 rfl vM (dv 5 rfl vC (dv 6 rfl (vF 1) (dv 7 rfl (vL 1 yz) ?_))))))))))))
 refine zc hF fun h1 hF => dv 8 rfl (zi (xs := r_.l_) (enc := zB) qu rfl rfl (.f 0 rfl) h1) (dv 9 rfl (zI (v := .pointer (some ⟨yW A1, yZ A1 + (Int.toNat r_.at_ * 11 + 0), none⟩)) rfl (fun _ => by kernel_rfl)) (dv 10 rfl (yc (xs := r_.l_) (enc := zB) yz rfl (.f 0 rfl) h1 rfl rfl rfl rfl rfl rfl rfl) (dv 11 rfl vB (zG (by kernel_rfl) ?_))))
 refine cC hF (fun hF => ?_) (fun hF => ?_)
 refine cR (oV vM ?_)
 obtain ⟨v, h3, hF⟩ := bd hF
 rcases v with x_ | y_
 replace hF := zU hF
 refine yx [1, 1, 1, 1, 1, 1] wY rfl rfl (zy [0] rfl) (ky h3 :) ?_
 rintro _ _ _ ⟨A7, L7, C7, A8, L8, C8, rfl, rfl, rfl⟩
 refine oV (jP (v := sl A7 L7 C7) rfl (fun _ => by kernel_rfl)) (oV (kQ jS Tryz.underlying5 Tryz.underlying9 rfl (.f 0 rfl)) (oV (vU (.agg #[iI 1, sV (vj x_.1.Bytes), iU 0, iU 0, iU 0, iU 0, sV ([] : Tx), sV ([] : Tx)])) ((sT 6 wR) (zb (zp ?_)))))
 cases hF
 refine yH rfl (zM 6 rfl wR rfl rfl rfl rfl) fun a w hs => zo hs [0, 0, 0, 0, 0, 0] ⟨A8, L8, C8, rfl, rfl, rfl⟩ rfl (zy [1] rfl)
 replace hF := zH hF
 refine yx [1, 1, 1, 1, 1, 1] wY rfl rfl (zy [0] rfl) (ky h3 :) ?_
 rintro _ _ _ ⟨rfl, rfl, rfl⟩
 cases hF
 exact sP
 refine zk (ze (zf (cR (oV vM ?_))))
 obtain ⟨v1, h4, hF⟩ := bd hF
 refine yx [1, 1, 1, 1, 1, 1] wP rfl rfl (zy [0] rfl) (vJ h4 :) ?_
 rintro _ _ _ ⟨A9, L9, C9, rfl, rfl, rfl⟩
 refine oV vN (zb ?_)
 refine cC hF (fun hF => ?_) (fun hF => ?_)
 refine cR (oV vM ?_)
 obtain ⟨v2, h6, hF⟩ := bd hF
 rcases v2 with x_1 | y_1
 replace hF := zU hF
 refine yx [0, 0, 0, 0, 0, 0] call146 rfl rfl (zy [0] rfl) (tri146 h6 :) ?_
 rintro _ _ _ ⟨A10, L10, C10, rfl, rfl, rfl⟩
 refine (sT 6 wR) (zb (zp ?_))
 cases hF
 refine yH rfl (zM 6 rfl wR rfl rfl rfl rfl) fun a w hs => zo hs [0, 0, 0, 0, 0, 0] ⟨A10, L10, C10, rfl, rfl, rfl⟩ rfl (zy [0] rfl)
 replace hF := zH hF
 refine yx [0, 0, 0, 0, 0, 0] call146 rfl rfl (zy [0] rfl) (tri146 h6 :) ?_
 rintro _ _ _ ⟨rfl, rfl, rfl⟩
 cases hF
 exact sP
 refine zk (ze (cR (oV vM ?_)))
 obtain ⟨v3, h7, hF⟩ := bd hF
 rcases v3 with x_2 | y_2
 replace hF := zU hF
 refine yx [0, 0, 0, 0, 0, 0] yV rfl rfl (zy [0] rfl) (xw h7 :) ?_
 rintro _ _ _ ⟨A11, L11, C11, rfl, rfl, rfl⟩
 refine oV (vU (.agg #[iI 6, sV ([] : Tx), iU 0, iU 0, iU 0, iU 0, sV x_2.1, sV ([] : Tx)])) (zC gQ rfl rfl ?_)
 intro b2
 refine (sT 0 wR) (zb (cR (oV vM ?_)))
 obtain ⟨v4, h8, hF⟩ := bd hF
 rcases v4 with x_3 | y_3
 replace hF := zU hF
 refine yx [1, 1, 1, 1, 1, 1] wY rfl rfl (zy [0] rfl) (ky h8 :) ?_
 rintro _ _ _ ⟨A12, L12, C12, A13, L13, C13, rfl, rfl, rfl⟩
 refine zC jd rfl rfl fun b3 => (sT 0 yJ) (zb (zf (cR ((fD 2) (oV (vL 0 ty67) (oV (zL (enc := xj) x_3.1.Bytes jS rfl (.f 0 rfl)) (oV vB (zb ?_))))))))
 refine z8 (fun E N' => qd.reader_sym_j1 x_3 r_ x_2 = some r -> zT E [(0, pt b), (2, pt b1), (3, pt b2), (4, pt b3)] (.box b3 106 (yX x_3.1 A12 L12 C12) :: bQ b A13 L13 C13 A2 L2 C2 A3 L3 C3 A4 L4 C4 A5 L5 C5 A6 L6 C6 x_3.2 :: .box b2 114 [iI 6, sV ([] : Tx), iU 0, iU 0, iU 0, iU 0, sV x_2.1, sV ([] : Tx)] :: .box b1 114 [iI 0, sV ([] : Tx), iU 0, iU 0, iU 0, iU 0, sV ([] : Tx), sV ([] : Tx)] :: r5 A2 L2 C2 A3 L3 C3 A4 L4 C4 A5 L5 C5 A6 L6 C6 r_.d) [fS A12 L12 C12 1 xj x_3.1.Bytes, fS A13 L13 C13 11 zB x_3.2.l_] N') (fun N1 hN1 => ?_) ?_
 refine cC hF (fun hF => ?_) (fun hF => ?_)
 refine zd (oV (vL 0 yJ) ?_)
 obtain ⟨v8, h14, hF⟩ := bd hF
 rcases v8 with x_6 | y_6
 replace hF := zU hF
 refine zV yE rfl (zy [0] rfl) (xk h14 :) rfl ?_
 rintro _ _ _ ⟨rfl, rfl, rfl⟩
 refine zh ?_
 exact sK [0, 0, 5, 5, 0, 0, 0, 0, 0] [0, 1] (hN1 hF)
 replace hF := zH hF
 refine zV yE rfl (zy [0] rfl) (xk h14 :) rfl ?_
 rintro _ _ _ ⟨rfl, rfl, rfl⟩
 cases hF
 exact sP
 refine zk ?_
 exact sK [0, 0, 5, 5, 0, 0, 0, 0, 0] [0, 1] (hN1 hF)
 intro hF
 unfold qd.reader_sym_j1 at hF
 refine ze (cR ((fD 2) (oV (vL 0 ty67) (oV (kQ jS Tryz.underlying5 Tryz.underlying9 rfl (.f 0 rfl)) ((fD 7) ((sT 2 xE) (zb (cR (oV vM ?_)))))))))
 obtain ⟨v5, h9, hF⟩ := bd hF
 rcases v5 with x_4 | y_4
 replace hF := zU hF
 refine yx [1, 3, 3, 3, 3, 3] xb rfl rfl (zy [1] rfl) (xJ h9 :) ?_
 rintro _ _ _ ⟨A14, L14, C14, rfl, rfl, rfl⟩
 refine zb (zf (cR (oV vM ?_)))
 obtain ⟨v6, h10, hF⟩ := bd hF
 refine yx [0, 0, 0, 0, 0, 0] wP rfl rfl (zy [0] rfl) (vJ h10 :) ?_
 rintro _ _ _ ⟨A15, L15, C15, rfl, rfl, rfl⟩
 refine zb ?_
 refine cC hF (fun hF => ?_) (fun hF => ?_)
 refine zd ((fD 0) ((sT 7 yz) (zb (cR (oV (vL 7 wR) ((sT 8 wR) (zb (zp ?_))))))))
 cases hF
 refine yH rfl (zM 8 rfl wR rfl rfl rfl rfl) fun a w hs => zo hs [0, 0, 0, 0, 0, 0] ⟨A15, L15, C15, rfl, rfl, rfl⟩ rfl (zy [0] rfl)
 refine zd (oV vM ?_)
 obtain ⟨v7, h12, hF⟩ := bd hF
 rcases v7 with x_5 | y_5
 replace hF := zU hF
 refine yx [0, 0, 0, 0, 0, 0] xb rfl rfl (zy [0] rfl) (xJ h12 :) ?_
 rintro _ _ _ ⟨A16, L16, C16, rfl, rfl, rfl⟩
 refine zb (cR (oV (vL 7 wR) ((sT 8 wR) (zb (zp ?_)))))
 cases hF
 refine yH rfl (zM 8 rfl wR rfl rfl rfl rfl) fun a w hs => zo hs [0, 0, 0, 0, 0, 0] ⟨A16, L16, C16, rfl, rfl, rfl⟩ rfl (zy [0] rfl)
 replace hF := zH hF
 refine yx [0, 0, 0, 0, 0, 0] xb rfl rfl (zy [0] rfl) (xJ h12 :) ?_
 rintro _ _ _ ⟨rfl, rfl, rfl⟩
 cases hF
 exact sP
 replace hF := zH hF
 refine yx [1, 3, 3, 3, 3, 3] xb rfl rfl (zy [1] rfl) (xJ h9 :) ?_
 rintro _ _ _ ⟨rfl, rfl, rfl⟩
 cases hF
 exact sP
 replace hF := zH hF
 refine yx [1, 1, 1, 1, 1, 1] wY rfl rfl (zy [0] rfl) (ky h8 :) ?_
 rintro _ _ _ ⟨rfl, rfl, rfl⟩
 cases hF
 exact sP
 replace hF := zH hF
 refine yx [0, 0, 0, 0, 0, 0] yV rfl rfl (zy [0] rfl) (xw h7 :) ?_
 rintro _ _ _ ⟨rfl, rfl, rfl⟩
 cases hF
 exact sP
theorem tri117 {k : Nat} {r_ : za} {b : Nat} {r : Pn (List xg × za) Fault} (hF : qd.reader_syms k r_ = some r) :
    xu Tryz.prog 117 [pt b] (bQ b A1 L1 C1 A2 L2 C2 A3 L3 C3 A4 L4 C4 A5 L5 C5 A6 L6 C6 r_ :: r5 A2 L2 C2 A3 L3 C3 A4 L4 C4 A5 L5 C5 A6 L6 C6 r_.d) [fS A1 L1 C1 11 zB r_.l_] (fun o H Φ => match (generalizing := false) r with | .ok r => (∃ (A18 : OA) (L18 C18 : Nat) (A19 : OA) (L19 C19 : Nat), o = .ret (sl A18 L18 C18) /\ H = (bQ b A19 L19 C19 A2 L2 C2 A3 L3 C3 A4 L4 C4 A5 L5 C5 A6 L6 C6 r.2 :: (r5 A2 L2 C2 A3 L3 C3 A4 L4 C4 A5 L5 C5 A6 L6 C6 r_.d ++ [rW A18 L18 C18 114 8 wn r.1])) /\ Φ = [fS A19 L19 C19 11 zB r.2.l_]) | .pan y => o = .pan (.iface 37 (.agg #[iI y.At, iI y.Code])) /\ H = [] /\ Φ = []) := by
 unfold qd.reader_syms at hF
 refine zt (n := 47) Tryz.func117 rfl Tryz.ntmps117 rfl fun w X => cR (oV vA (zb (cR (oV vM ?_))))
 obtain ⟨v, h1, hF⟩ := bd hF
 rcases v with x_ | y_
 replace hF := zU hF
 refine yx [0, 0, 0, 0, 0, 0] call134 rfl rfl (zy [0] rfl) (tri134 h1 :) ?_
 rintro _ _ _ ⟨A7, L7, C7, rfl, rfl, rfl⟩
 refine zF (enc := wn) ([x_.1] : List xg) (g7 x_.1) gn rfl (fun _ => by kernel_rfl) rfl rfl rfl (.s rfl (.s rfl (.s rfl (.s rfl (.s rfl (.s rfl (.s rfl (.s rfl (.nil))))))))) rfl ?_
 intro A8 L8 C8
 refine oV vA (zb ?_)
 obtain ⟨o1, ho1, hF⟩ := bd hF
 refine zq ?_
 refine xG (fun E j a w => ∃ (out_ : List xg) (l__ : List zg) (at__ : Int) (q1 : Tx) (q2 : Tx) (q8 : Bool) (q9 : Bool) (q0 : Int) (A9 : OA) (L9 C9 : Nat) (A10 : OA) (L10 C10 : Nat), qd.reader_syms_l1 r_ j out_ l__ at__ q1 q2 q8 q9 q0 = some o1 /\ St E [(0, pt b), (2, nS), (3, sl A9 L9 C9)] (bR b A10 L10 C10 at__ q1 q2 A2 L2 C2 A3 L3 C3 A4 L4 C4 A5 L5 C5 A6 L6 C6 q8 q9 q0 :: rW A9 L9 C9 114 8 wn out_ :: r5 A2 L2 C2 A3 L3 C3 A4 L4 C4 A5 L5 C5 A6 L6 C6 r_.d) [fS A10 L10 C10 11 zB l__] a w) k ?_ ?_
 exact lq [1, 0, 0, 0, 0, 0, 0] [0] fun a w hs => ⟨([x_.1] : List xg), x_.2.l_, x_.2.at_, x_.2.d.Start, x_.2.d.Layout, x_.2.start, x_.2.layout, x_.2.items, A8, L8, C8, A7, L7, C7, ho1, hs⟩
 rintro j a w ⟨out_, l__, at__, q1, q2, q8, q9, q0, A9, L9, C9, A10, L10, C10, hL1, hs⟩
 rcases j with _ | j
 cases hL1
 refine yd hs ?_
 unfold qd.reader_syms_l1 at hL1
 refine z8 (fun E N' => ∀ (out_1 : List xg) (l__1 : List zg) (at__1 : Int) (q1_1 : Tx) (q2_1 : Tx) (q8_1 : Bool) (q9_1 : Bool) (q0_1 : Int) (A11 : OA) (L11 C11 : Nat) (A12 : OA) (L12 C12 : Nat) (A13 : OA) (L13 C13 : Nat) (b1 : Nat), qd.reader_syms_j2 (qd.reader_syms_l1 r_ j) out_1 l__1 at__1 q1_1 q2_1 q8_1 q9_1 q0_1 = some o1 -> zT E [(0, pt b), (2, nS), (3, sl A11 L11 C11), (4, pt b1)] (bR b A13 L13 C13 at__1 q1_1 q2_1 A2 L2 C2 A3 L3 C3 A4 L4 C4 A5 L5 C5 A6 L6 C6 q8_1 q9_1 q0_1 :: .box b1 106 (yX (at_ l__ at__) A12 L12 C12) :: rW A11 L11 C11 114 8 wn out_1 :: r5 A2 L2 C2 A3 L3 C3 A4 L4 C4 A5 L5 C5 A6 L6 C6 r_.d) [fS A13 L13 C13 11 zB l__1, fS A12 L12 C12 1 xj ((at_ l__ at__).Bytes)] N') (fun N2 hN2 => ?_) ?_
 refine zq (zf (zc hL1 fun h2 hL1 => wK (xs := l__) (enc := zB) 0 rfl h2 rfl rfl fun A14 L14 C14 => zP (n := 12) [0, 0, 0, 0, 0, 0, 0] mixed rfl rfl (dv 0 rfl vM (dv 1 rfl vC (dv 2 rfl (vF 0) (dv 3 rfl (vL 0 qk) (dv 4 rfl vM (dv 5 rfl vC (dv 6 rfl (vF 1) (dv 7 rfl (vL 0 yz) (dv 8 rfl (zi (xs := l__) (enc := zB) qu rfl rfl (.f 2 rfl) h2) (dv 9 rfl (yS 0 yJ rfl rfl rfl rfl rfl) (dO 10 rfl ?_)))))))))))))
 refine zC jd rfl rfl fun b2 => dN [1, 1, 1, 1, 1, 1, 1] 0 (dO 11 rfl ((sT 0 yJ) (dN [1, 1, 1, 1, 1, 1, 1] 0 (zG (by kernel_rfl) (zf (zf ?_))))))
 refine z8 (fun E N' => ∀ (t35 : Bool), qd.reader_syms_j3 out_ l__ at__ q1 q2 r_ q8 q9 q0 (qd.reader_syms_l1 r_ j) t35 = some o1 -> zT E [(0, pt b), (2, nS), (3, sl A9 L9 C9), (4, pt b2), (35, bV t35)] (bR b A10 L10 C10 at__ q1 q2 A2 L2 C2 A3 L3 C3 A4 L4 C4 A5 L5 C5 A6 L6 C6 q8 q9 q0 :: .box b2 106 (yX (at_ l__ at__) A14 L14 C14) :: rW A9 L9 C9 114 8 wn out_ :: r5 A2 L2 C2 A3 L3 C3 A4 L4 C4 A5 L5 C5 A6 L6 C6 r_.d) [fS A10 L10 C10 11 zB l__, fS A14 L14 C14 1 xj ((at_ l__ at__).Bytes)] N') (fun N4 hN4 => ?_) ?_
 refine zd ((fD 0) (oV (vL 0 yz) (oV vB (oV vM ?_))))
 refine oS 21 hL1 (fun hL1 => ?_) (fun hL1 => ?_)
 refine oN ((fD 0) (oN (oV (vL 0 yz) (oN (oV vB (oV yt (oV vM ?_)))))))
 refine oS 26 hL1 (fun hL1 => ?_) (fun hL1 => ?_)
 refine oN ((fD 0) (oN (oV (vL 0 yz) (oN (oV vB (oV yt (oV vM ?_)))))))
 refine oS 31 hL1 (fun hL1 => ?_) (fun hL1 => ?_)
 refine oN (oV vM (oN ?_))
 obtain ⟨v3, h12, hL1⟩ := bd hL1
 refine yx [1, 2, 2, 2, 2, 2] qa rfl rfl (zy [2] rfl) (gC h12 :) ?_
 rintro _ _ _ ⟨rfl, rfl, rfl⟩
 refine oN (oV vN (oV yt (zh ?_)))
 exact sK [0, 5, 5, 0, 0, 0, 0, 0] [2, 1] (hN4 (!v3) hL1)
 refine oF (oF (oF (oV yj (zh ?_))))
 exact sK [1, 0, 0, 0, 0, 0, 0, 0] [2, 1] (hN4 false hL1)
 refine oF (oF (oF (oV yj (oV vM (oF (oF (oF (oV yj (zh ?_)))))))))
 exact sK [1, 0, 0, 0, 0, 0, 0, 0] [2, 1] (hN4 false hL1)
 refine oF (oF (oF (oV yj (oV vM (oF (oF (oF (oV yj (oV vM (oF (oF (oF (oV yj (zh ?_))))))))))))))
 exact sK [1, 0, 0, 0, 0, 0, 0, 0] [2, 1] (hN4 false hL1)
 intro t35 hL1
 unfold qd.reader_syms_j3 at hL1
 refine ze ?_
 refine cC hL1 (fun hL1 => ?_) (fun hL1 => ?_)
 refine cR (oV vM (oV vA (zb (zp ?_))))
 cases hL1
 obtain rfl := zK hF
 refine yH rfl (zX rfl) fun a w hs => zo hs [0, 2, 2, 2, 2, 2, 1] ⟨A9, L9, C9, A10, L10, C10, rfl, rfl, rfl⟩ rfl (zy [0] rfl)
 refine zk (ze (zf (cR (oV vM (oV (zL (enc := wn) out_ gn rfl (.r 2 _ rfl)) (oV vB (zb ?_)))))))
 refine cT (fun E H Φ N' => qd.reader_syms_j4 l__ at__ q1 q2 r_ q8 q9 q0 out_ (qd.reader_syms_l1 r_ j) = some o1 -> zT E [(0, pt b), (2, nS), (3, sl A9 L9 C9), (4, pt b2)] H Φ N') (fun N4 hN4 => ?_) ?_
 refine cC hL1 (fun hL1 => ?_) (fun hL1 => ?_)
 refine zd (oV (vL 1 yJ) ?_)
 obtain ⟨v2, h8, hL1⟩ := bd hL1
 rcases v2 with x_2 | y_2
 replace hL1 := zU hL1
 refine zV yE rfl (zy [1] rfl) (xk h8 :) rfl ?_
 rintro _ _ _ ⟨rfl, rfl, rfl⟩
 refine zh ?_
 exact sK [0, 0, 0, 0, 0, 0, 0, 0] [0, 1] (hN4 hL1)
 replace hL1 := zH hL1
 refine zV yE rfl (zy [1] rfl) (xk h8 :) rfl ?_
 rintro _ _ _ ⟨rfl, rfl, rfl⟩
 cases hL1
 obtain rfl := zK hF
 exact sP
 refine zk ?_
 exact sK [0, 0, 0, 0, 0, 0, 0, 0] [0, 1] (hN4 hL1)
 intro hL1
 unfold qd.reader_syms_j4 at hL1
 refine ze (zd (oV vM (oV vM ?_)))
 obtain ⟨v1, h4, hL1⟩ := bd hL1
 rcases v1 with x_1 | y_1
 replace hL1 := zU hL1
 refine yx [0, 2, 2, 2, 2, 2] call134 rfl rfl (zy [0] rfl) (tri134 h4 :) ?_
 rintro _ _ _ ⟨A15, L15, C15, rfl, rfl, rfl⟩
 refine zF (enc := wn) ([x_1.1] : List xg) (g7 x_1.1) gn rfl (fun _ => by kernel_rfl) rfl rfl rfl (.s rfl (.s rfl (.s rfl (.s rfl (.s rfl (.s rfl (.s rfl (.s rfl (.nil))))))))) rfl ?_
 intro A16 L16 C16
 refine zc hL1 fun h5 hL1 => zc hL1 fun h6 hL1 => yf (enc := wn) (xs := out_) (ys := ([x_1.1] : List xg)) 8 gn rfl rfl rfl (.r 0 _ rfl) h5 h6 rfl fun A17 L17 C17 => oV vA (zh ?_)
 exact sK [1, 6, 6, 1, 1, 1, 1, 1] [0, 2] (hN2 (out_ ++ ([x_1.1] : List xg)) x_1.2.l_ x_1.2.at_ x_1.2.d.Start x_1.2.d.Layout x_1.2.start x_1.2.layout x_1.2.items A17 L17 C17 A14 L14 C14 A15 L15 C15 b2 hL1)
 replace hL1 := zH hL1
 refine yx [0, 2, 2, 2, 2, 2] call134 rfl rfl (zy [0] rfl) (tri134 h4 :) ?_
 rintro _ _ _ ⟨rfl, rfl, rfl⟩
 cases hL1
 obtain rfl := zK hF
 exact sP
 intro out_1 l__1 at__1 q1_1 q2_1 q8_1 q9_1 q0_1 A11 L11 C11 A12 L12 C12 A13 L13 C13 b1 hL1
 unfold qd.reader_syms_j2 at hL1
 exact lp [0, 1, 1, 1, 1, 1, 1] [0] fun a w hs => ⟨out_1, l__1, at__1, q1_1, q2_1, q8_1, q9_1, q0_1, A11, L11, C11, A13, L13, C13, hL1, hs⟩
 replace hF := zH hF
 refine yx [0, 0, 0, 0, 0, 0] call134 rfl rfl (zy [0] rfl) (tri134 h1 :) ?_
 rintro _ _ _ ⟨rfl, rfl, rfl⟩
 cases hF
 exact sP
theorem tri82 {k : Nat} {r_ : za} {first : zg} {b : Nat} {r : Pn za Fault} (hF : qd.reader_lex k r_ first = some r) :
    xu Tryz.prog 82 [pt b, .agg (yX first A7 L7 C7).toArray] (bQ b A1 L1 C1 A2 L2 C2 A3 L3 C3 A4 L4 C4 A5 L5 C5 A6 L6 C6 r_ :: r5 A2 L2 C2 A3 L3 C3 A4 L4 C4 A5 L5 C5 A6 L6 C6 r_.d) [fS A1 L1 C1 11 zB r_.l_, fS A7 L7 C7 1 xj first.Bytes] (fun o H Φ => match (generalizing := false) r with | .ok r => (∃ (A29 : OA) (L29 C29 : Nat) (A30 : OA) (L30 C30 : Nat), o = .ret (.tuple #[]) /\ H = (bQ b A29 L29 C29 A30 L30 C30 A3 L3 C3 A4 L4 C4 A5 L5 C5 A6 L6 C6 r :: r6 A30 L30 C30 A3 L3 C3 A4 L4 C4 A5 L5 C5 A6 L6 C6 r.d.Prods r_.d.Chains r_.d.Follows r_.d.Rejects r_.d.Boxes) /\ Φ = [fS A29 L29 C29 11 zB r.l_]) | .pan y => o = .pan (.iface 37 (.agg #[iI y.At, iI y.Code])) /\ H = [] /\ Φ = []) := by
 unfold qd.reader_lex at hF
 refine zt (n := 58) Tryz.func82 rfl Tryz.ntmps82 rfl fun w X => cR (xr rfl rfl rfl fun b1 => zb (cR (oV (vU (.agg #[bV true, sV ([] : Tx), sV ([] : Tx), bV false, nS])) (zC gA rfl rfl ?_))))
 intro b2
 refine (sT 0 gj) (zb (cR (oV vM (oV (vL 1 yJ) ?_))))
 obtain ⟨v, h1, hF⟩ := bd hF
 rcases v with x_ | y_
 replace hF := zU hF
 refine yx [2, 2, 2, 2, 2, 2] gc rfl rfl (zy [0, 1] rfl) (uw h1 :) ?_
 rintro _ _ _ ⟨rfl, rfl, rfl⟩
 refine zb (cR (oV vM ?_))
 obtain ⟨v1, h2, hF⟩ := bd hF
 rcases v1 with x_1 | y_1
 replace hF := zU hF
 refine yx [0, 0, 0, 0, 0, 0] yV rfl rfl (zy [0] rfl) (xw h2 :) ?_
 rintro _ _ _ ⟨A8, L8, C8, rfl, rfl, rfl⟩
 refine (fD 1) ((sT 6 xE) (zb (zf (cR (oV vM ?_)))))
 obtain ⟨v2, h3, hF⟩ := bd hF
 refine yx [0, 0, 0, 0, 0, 0] wP rfl rfl (zy [0] rfl) (vJ h3 :) ?_
 rintro _ _ _ ⟨A9, L9, C9, rfl, rfl, rfl⟩
 refine zb ?_
 refine z8 (fun E N' => ∀ (l__ : List zg) (at__ : Int) (q1 : Tx) (q2 : Tx) (q8 : Bool) (q9 : Bool) (q0 : Int) (Cons_ : Tx) (A10 : OA) (L10 C10 : Nat), qd.reader_lex_j1 k r_ x_1 l__ at__ q1 q2 q8 q9 q0 Cons_ = some r -> zT E [(0, pt b), (1, .agg (yX first A7 L7 C7).toArray), (3, pt b1), (4, pt b2)] (bR b A10 L10 C10 at__ q1 q2 A2 L2 C2 A3 L3 C3 A4 L4 C4 A5 L5 C5 A6 L6 C6 q8 q9 q0 :: .box b2 57 [bV true, sV x_1.1, sV Cons_, bV false, nS] :: .box b1 106 (yX first A7 L7 C7) :: r5 A2 L2 C2 A3 L3 C3 A4 L4 C4 A5 L5 C5 A6 L6 C6 r_.d) [fS A7 L7 C7 1 xj first.Bytes, fS A10 L10 C10 11 zB l__] N') (fun N4 hN4 => ?_) ?_
 refine cC hF (fun hF => ?_) (fun hF => ?_)
 refine zd (oV vM ?_)
 obtain ⟨v8, h14, hF⟩ := bd hF
 rcases v8 with x_6 | y_6
 replace hF := zU hF
 refine yx [0, 0, 0, 0, 0, 0] yV rfl rfl (zy [0] rfl) (xw h14 :) ?_
 rintro _ _ _ ⟨A28, L28, C28, rfl, rfl, rfl⟩
 refine (fD 2) ((sT 6 xE) (zh ?_))
 exact sK [0, 5, 5, 0, 0, 0, 0, 0] [4, 0] (hN4 x_6.2.l_ x_6.2.at_ x_6.2.d.Start x_6.2.d.Layout x_6.2.start x_6.2.layout x_6.2.items x_6.1 A28 L28 C28 hF)
 replace hF := zH hF
 refine yx [0, 0, 0, 0, 0, 0] yV rfl rfl (zy [0] rfl) (xw h14 :) ?_
 rintro _ _ _ ⟨rfl, rfl, rfl⟩
 cases hF
 exact sP
 refine zk ?_
 exact sK [0, 5, 5, 0, 0, 0, 0, 0] [3, 0] (hN4 v2.2.l_ v2.2.at_ v2.2.d.Start v2.2.d.Layout v2.2.start v2.2.layout v2.2.items ([] : Tx) A9 L9 C9 hF)
 intro l__ at__ q1 q2 q8 q9 q0 Cons_ A10 L10 C10 hF
 unfold qd.reader_lex_j1 at hF
 refine ze (cR (oV vM ?_))
 obtain ⟨v3, h4, hF⟩ := bd hF
 rcases v3 with x_2 | y_2
 replace hF := zU hF
 refine yx [0, 2, 2, 2, 2, 2] xb rfl rfl (zy [1] rfl) (xJ h4 :) ?_
 rintro _ _ _ ⟨A11, L11, C11, rfl, rfl, rfl⟩
 refine zb (zf ?_)
 obtain ⟨o2, ho2, hF⟩ := bd hF
 refine z8 (fun E N' => ∀ (d2 : (List zg) × Int × Tx × Tx × (List Prod) × Bool × Bool × Int × (List xg)) (A15 : OA) (L15 C15 : Nat) (A16 : OA) (L16 C16 : Nat) (A17 : OA) (L17 C17 : Nat), o2 = .done d2 -> zT E [(0, pt b), (1, .agg (yX first A7 L7 C7).toArray), (3, pt b1), (4, pt b2)] (bR b A15 L15 C15 d2.2.1 d2.2.2.1 d2.2.2.2.1 A16 L16 C16 A3 L3 C3 A4 L4 C4 A5 L5 C5 A6 L6 C6 d2.2.2.2.2.2.1 d2.2.2.2.2.2.2.1 d2.2.2.2.2.2.2.2.1 :: .box b2 57 [bV true, sV x_1.1, sV Cons_, bV false, sl A17 L17 C17] :: .box b1 106 (yX first A7 L7 C7) :: r6 A16 L16 C16 A3 L3 C3 A4 L4 C4 A5 L5 C5 A6 L6 C6 d2.2.2.2.2.1 r_.d.Chains r_.d.Follows r_.d.Rejects r_.d.Boxes) [fS A7 L7 C7 1 xj first.Bytes, fS A15 L15 C15 11 zB d2.1, fS A17 L17 C17 8 wn d2.2.2.2.2.2.2.2.2] N') (fun N2 hN2 => ?_) ?_
 refine zq ?_
 refine xG (fun E j a w => ∃ (l__1 : List zg) (at__1 : Int) (q1_1 : Tx) (q2_1 : Tx) (q3 : List Prod) (q8_1 : Bool) (q9_1 : Bool) (q0_1 : Int) (Syms_ : List xg) (A12 : OA) (L12 C12 : Nat) (A13 : OA) (L13 C13 : Nat) (A14 : OA) (L14 C14 : Nat), qd.reader_lex_l2 k r_ x_1 Cons_ j l__1 at__1 q1_1 q2_1 q3 q8_1 q9_1 q0_1 Syms_ = some o2 /\ St E [(0, pt b), (1, .agg (yX first A7 L7 C7).toArray), (3, pt b1), (4, pt b2)] (bR b A12 L12 C12 at__1 q1_1 q2_1 A13 L13 C13 A3 L3 C3 A4 L4 C4 A5 L5 C5 A6 L6 C6 q8_1 q9_1 q0_1 :: .box b2 57 [bV true, sV x_1.1, sV Cons_, bV false, sl A14 L14 C14] :: .box b1 106 (yX first A7 L7 C7) :: r6 A13 L13 C13 A3 L3 C3 A4 L4 C4 A5 L5 C5 A6 L6 C6 q3 r_.d.Chains r_.d.Follows r_.d.Rejects r_.d.Boxes) [fS A7 L7 C7 1 xj first.Bytes, fS A12 L12 C12 11 zB l__1, fS A14 L14 C14 8 wn Syms_] a w) k ?_ ?_
 refine xP (zN 8) ?_
 exact lq [0, 5, 5, 0, 0, 0, 0, 0] [2, 1, 0] fun a w hs => ⟨x_2.l_, x_2.at_, x_2.d.Start, x_2.d.Layout, r_.d.Prods, x_2.start, x_2.layout, x_2.items, ([] : List xg), A11, L11, C11, A2, L2, C2, none, 0, 0, ho2, hs⟩
 rintro j a w ⟨l__1, at__1, q1_1, q2_1, q3, q8_1, q9_1, q0_1, Syms_, A12, L12, C12, A13, L13, C13, A14, L14, C14, hL2, hs⟩
 rcases j with _ | j
 cases hL2
 refine yd hs ?_
 unfold qd.reader_lex_l2 at hL2
 refine z8 (fun E N' => ∀ (l__2 : List zg) (at__2 : Int) (q1_2 : Tx) (q2_2 : Tx) (q3_1 : List Prod) (q8_2 : Bool) (q9_2 : Bool) (q0_2 : Int) (Syms_1 : List xg) (A18 : OA) (L18 C18 : Nat) (A19 : OA) (L19 C19 : Nat) (A20 : OA) (L20 C20 : Nat), qd.reader_lex_j3 (qd.reader_lex_l2 k r_ x_1 Cons_ j) l__2 at__2 q1_2 q2_2 q3_1 q8_2 q9_2 q0_2 Syms_1 = some o2 -> zT E [(0, pt b), (1, .agg (yX first A7 L7 C7).toArray), (3, pt b1), (4, pt b2)] (bR b A18 L18 C18 at__2 q1_2 q2_2 A19 L19 C19 A3 L3 C3 A4 L4 C4 A5 L5 C5 A6 L6 C6 q8_2 q9_2 q0_2 :: .box b2 57 [bV true, sV x_1.1, sV Cons_, bV false, sl A20 L20 C20] :: .box b1 106 (yX first A7 L7 C7) :: r6 A19 L19 C19 A3 L3 C3 A4 L4 C4 A5 L5 C5 A6 L6 C6 q3_1 r_.d.Chains r_.d.Follows r_.d.Rejects r_.d.Boxes) [fS A7 L7 C7 1 xj first.Bytes, fS A18 L18 C18 11 zB l__2, fS A20 L20 C20 8 wn Syms_1] N') (fun N3 hN3 => ?_) ?_
 refine zq (cR (oV vM ?_))
 obtain ⟨v4, h5, hL2⟩ := bd hL2
 rcases v4 with x_3 | y_3
 replace hL2 := zU hL2
 refine yx [0, 2, 2, 2, 2, 2] call117 rfl rfl (zy [1] rfl) (tri117 h5 :) ?_
 rintro _ _ _ ⟨A21, L21, C21, A22, L22, C22, rfl, rfl, rfl⟩
 refine (fD 4) ((sT 7 ty55) (zb (zf ?_)))
 refine z8 (fun E N' => ∀ (A23 : OA) (L23 C23 : Nat), qd.reader_lex_j4 x_3 q3 x_1 Cons_ r_ (qd.reader_lex_l2 k r_ x_1 Cons_ j) = some o2 -> zT E [(0, pt b), (1, .agg (yX first A7 L7 C7).toArray), (3, pt b1), (4, pt b2)] [bQ b A22 L22 C22 A23 L23 C23 A3 L3 C3 A4 L4 C4 A5 L5 C5 A6 L6 C6 x_3.2, .box b2 57 [bV true, sV x_1.1, sV Cons_, bV false, sl A21 L21 C21], .box b1 106 (yX first A7 L7 C7), .row (sl A23 L23 C23) 57 5 ((q3 ++ ([(Prod.mk true x_1.1 Cons_ false x_3.1)] : List Prod)).map yh), rW A3 L3 C3 58 1 (w8 2 zD) r_.d.Chains, rW A4 L4 C4 48 5 z7 r_.d.Follows, rW A5 L5 C5 78 2 z6 r_.d.Rejects, rW A6 L6 C6 64 2 xq r_.d.Boxes] [fS A7 L7 C7 1 xj first.Bytes, fS A22 L22 C22 11 zB x_3.2.l_, fS A21 L21 C21 8 wn x_3.1] N') (fun N4 hN4 => ?_) ?_
 refine zP (n := 13) [2, 2, 2, 2, 4] mixed rfl rfl (dv 0 rfl vM (dv 1 rfl vM (dv 2 rfl vC (dv 3 rfl (vF 2) (dv 4 rfl (vF 4) ?_)))))
 refine wr [5, 6] (by kernel_rfl) (by simp) ⟨⟨_, rfl, ?_⟩, ⟨_, rfl, ?_⟩, trivial⟩
 refine oV (vL 0 kR) (dN [2, 2, 2, 2, 4] 0 (dO 6 rfl (oV (vL 7 gj) (dN [2, 2, 2, 2, 4] 0 (dO 7 rfl (wj (yM 6 rfl) (zF (enc := yh) ([(Prod.mk true x_1.1 Cons_ false x_3.1)] : List Prod) [bV true, sV x_1.1, sV Cons_, bV false, sl A21 L21 C21] vK rfl (fun _ => by kernel_rfl) rfl rfl rfl (.s rfl (.s rfl (.s rfl (.s rfl (.f 0 rfl (.nil)))))) rfl ?_)))))))
 intro A25 L25 C25
 refine dN [3, 3, 3, 3, 4] 1 (dO 8 rfl (zc hL2 ?_))
 intro h10 hL2
 refine zc hL2 fun h11 hL2 => yf (enc := yh) (xs := q3) (ys := ([(Prod.mk true x_1.1 Cons_ false x_3.1)] : List Prod)) 2 vK rfl rfl rfl (.r 0 _ rfl) h10 h11 rfl fun A26 L26 C26 => dN [3, 3, 3, 3, 4] 1 (dv 9 rfl vC (dv 10 rfl (vF 2) ?_))
 refine dv 11 rfl (vF 4) (dO 12 rfl ((sT 1 kR) (dN [3, 3, 3, 3, 4] 1 (dD ?_))))
 exact sK [1, 6, 6, 1, 1, 1, 1, 1] [2, 1, 0] (hN4 A26 L26 C26 hL2)
 refine oV (vL 7 gj) (dN [2, 2, 2, 2, 4] 0 ?_)
 refine wr [5, 7] (by kernel_rfl) (by simp) ⟨⟨_, rfl, ?_⟩, ⟨_, rfl, ?_⟩, trivial⟩
 refine oV (vL 0 kR) (dN [2, 2, 2, 2, 4] 0 (dO 7 rfl (wj (yM 6 rfl) (zF (enc := yh) ([(Prod.mk true x_1.1 Cons_ false x_3.1)] : List Prod) [bV true, sV x_1.1, sV Cons_, bV false, sl A21 L21 C21] vK rfl (fun _ => by kernel_rfl) rfl rfl rfl (.s rfl (.s rfl (.s rfl (.s rfl (.f 0 rfl (.nil)))))) rfl ?_))))
 intro A25 L25 C25
 refine dN [3, 3, 3, 3, 4] 1 (dO 8 rfl (zc hL2 ?_))
 intro h10 hL2
 refine zc hL2 fun h11 hL2 => yf (enc := yh) (xs := q3) (ys := ([(Prod.mk true x_1.1 Cons_ false x_3.1)] : List Prod)) 2 vK rfl rfl rfl (.r 0 _ rfl) h10 h11 rfl fun A26 L26 C26 => dN [3, 3, 3, 3, 4] 1 (dv 9 rfl vC (dv 10 rfl (vF 2) (dv 11 rfl (vF 4) (dO 12 rfl ((sT 1 kR) ?_)))))
 refine dN [3, 3, 3, 3, 4] 1 (dD ?_)
 exact sK [1, 6, 6, 1, 1, 1, 1, 1] [2, 1, 0] (hN4 A26 L26 C26 hL2)
 refine wj (yM 6 rfl) (zF (enc := yh) ([(Prod.mk true x_1.1 Cons_ false x_3.1)] : List Prod) [bV true, sV x_1.1, sV Cons_, bV false, sl A21 L21 C21] vK rfl (fun _ => by kernel_rfl) rfl rfl rfl (.s rfl (.s rfl (.s rfl (.s rfl (.f 0 rfl (.nil)))))) rfl fun A25 L25 C25 => dN [3, 3, 3, 3, 4] 1 (dO 5 rfl (oV (vL 1 kR) (dN [3, 3, 3, 3, 4] 1 (dO 8 rfl (zc hL2 ?_))))))
 intro h10 hL2
 refine zc hL2 fun h11 hL2 => yf (enc := yh) (xs := q3) (ys := ([(Prod.mk true x_1.1 Cons_ false x_3.1)] : List Prod)) 2 vK rfl rfl rfl (.r 0 _ rfl) h10 h11 rfl fun A26 L26 C26 => dN [3, 3, 3, 3, 4] 1 (dv 9 rfl vC (dv 10 rfl (vF 2) (dv 11 rfl (vF 4) (dO 12 rfl ((sT 1 kR) ?_)))))
 refine dN [3, 3, 3, 3, 4] 1 (dD ?_)
 exact sK [1, 6, 6, 1, 1, 1, 1, 1] [2, 1, 0] (hN4 A26 L26 C26 hL2)
 intro A23 L23 C23 hL2
 unfold qd.reader_lex_j4 at hL2
 refine ze (zf (cR (oV vM ?_)))
 obtain ⟨v5, h6, hL2⟩ := bd hL2
 refine yx [0, 2, 2, 2, 2, 2] qa rfl rfl (zy [1] rfl) (gC h6 :) ?_
 rintro _ _ _ ⟨rfl, rfl, rfl⟩
 refine oV vN (zb ?_)
 refine cC hL2 (fun hL2 => ?_) (fun hL2 => ?_)
 refine c_exit1 ?_
 cases hL2
 exact sK [0, 5, 5, 0, 0, 0, 0, 0] [0, 1, 2] (hN2 (x_3.2.l_, x_3.2.at_, x_3.2.d.Start, x_3.2.d.Layout, (q3 ++ ([(Prod.mk true x_1.1 Cons_ false x_3.1)] : List Prod)), x_3.2.start, x_3.2.layout, x_3.2.items, x_3.1) A22 L22 C22 A23 L23 C23 A21 L21 C21 rfl)
 refine zk (ze (zf (zc hL2 fun h8 hL2 => wK (xs := x_3.2.l_) (enc := zB) 1 rfl h8 rfl rfl fun A24 L24 C24 => zP (n := 12) [0, 0, 0, 0, 0, 0, 0, 0] mixed rfl rfl (dv 0 rfl vM (dv 1 rfl vM (dv 2 rfl vC (dv 3 rfl (vF 0) (dv 4 rfl (vL 0 qk) (dv 5 rfl vM (dv 6 rfl vC (dv 7 rfl (vF 1) (dv 8 rfl (vL 0 yz) (dv 9 rfl (zi (xs := x_3.2.l_) (enc := zB) qu rfl rfl (.f 3 rfl) h8) ?_)))))))))))))
 refine dv 10 rfl (yS 0 yJ rfl rfl rfl rfl rfl) (dO 11 rfl ?_)
 obtain ⟨v6, h9, hL2⟩ := bd hL2
 rcases v6 with x_4 | y_4
 replace hL2 := zU hL2
 refine yx [0, 0, 0, 0, 0, 0] gc rfl rfl (zy [3, 1] rfl) (uw h9 :) ?_
 rintro _ _ _ ⟨rfl, rfl, rfl⟩
 refine dN [0, 0, 0, 0, 0, 0, 0, 0] 0 (zG (by kernel_rfl) (zd (oV vM (oV vC ((fD 1) (oV (vL 0 yz) (oV vB (oV vC ((fD 1) ((sT 0 yz) (zh ?_)))))))))))
 exact sK [0, 5, 5, 0, 0, 0, 0, 0] [2, 3, 4] (hN3 x_3.2.l_ (IntKind.wrap .i64 (x_3.2.at_ + 1)) x_3.2.d.Start x_3.2.d.Layout (q3 ++ ([(Prod.mk true x_1.1 Cons_ false x_3.1)] : List Prod)) x_3.2.start x_3.2.layout x_3.2.items x_3.1 A22 L22 C22 A23 L23 C23 A21 L21 C21 hL2)
 replace hL2 := zH hL2
 refine yx [0, 0, 0, 0, 0, 0] gc rfl rfl (zy [3, 1] rfl) (uw h9 :) ?_
 rintro _ _ _ ⟨rfl, rfl, rfl⟩
 cases hL2
 obtain rfl := zK hF
 exact sP
 replace hL2 := zH hL2
 refine yx [0, 2, 2, 2, 2, 2] call117 rfl rfl (zy [1] rfl) (tri117 h5 :) ?_
 rintro _ _ _ ⟨rfl, rfl, rfl⟩
 cases hL2
 obtain rfl := zK hF
 exact sP
 intro l__2 at__2 q1_2 q2_2 q3_1 q8_2 q9_2 q0_2 Syms_1 A18 L18 C18 A19 L19 C19 A20 L20 C20 hL2
 unfold qd.reader_lex_j3 at hL2
 exact lp [0, 0, 0, 0, 0, 0, 0, 0] [0, 1, 2] fun a w hs => ⟨l__2, at__2, q1_2, q2_2, q3_1, q8_2, q9_2, q0_2, Syms_1, A18, L18, C18, A19, L19, C19, A20, L20, C20, hL2, hs⟩
 intro d2 A15 L15 C15 A16 L16 C16 A17 L17 C17 hd
 subst hd
 replace hF := yF hF
 refine ze (zd (oV vM ?_))
 obtain ⟨v7, h12, hF⟩ := bd hF
 rcases v7 with x_5 | y_5
 replace hF := zU hF
 refine yx [0, 2, 2, 2, 2, 2] xb rfl rfl (zy [1] rfl) (xJ h12 :) ?_
 rintro _ _ _ ⟨A27, L27, C27, rfl, rfl, rfl⟩
 refine zh ?_
 cases hF
 refine xz rfl fun a w hs => zo hs [0, 0, 0, 0, 0, 0] ⟨A27, L27, C27, A16, L16, C16, rfl, rfl, rfl⟩ rfl (zy [0] rfl)
 replace hF := zH hF
 refine yx [0, 2, 2, 2, 2, 2] xb rfl rfl (zy [1] rfl) (xJ h12 :) ?_
 rintro _ _ _ ⟨rfl, rfl, rfl⟩
 cases hF
 exact sP
 replace hF := zH hF
 refine yx [0, 2, 2, 2, 2, 2] xb rfl rfl (zy [1] rfl) (xJ h4 :) ?_
 rintro _ _ _ ⟨rfl, rfl, rfl⟩
 cases hF
 exact sP
 replace hF := zH hF
 refine yx [0, 0, 0, 0, 0, 0] yV rfl rfl (zy [0] rfl) (xw h2 :) ?_
 rintro _ _ _ ⟨rfl, rfl, rfl⟩
 cases hF
 exact sP
 replace hF := zH hF
 refine yx [2, 2, 2, 2, 2, 2] gc rfl rfl (zy [0, 1] rfl) (uw h1 :) ?_
 rintro _ _ _ ⟨rfl, rfl, rfl⟩
 cases hF
 exact sP
theorem tri83 {k : Nat} {r_ : za} {first : zg} {b : Nat} {r : Pn za Fault} (hF : qd.reader_cf k r_ first = some r) :
    xu Tryz.prog 83 [pt b, .agg (yX first A7 L7 C7).toArray] (bQ b A1 L1 C1 A2 L2 C2 A3 L3 C3 A4 L4 C4 A5 L5 C5 A6 L6 C6 r_ :: r5 A2 L2 C2 A3 L3 C3 A4 L4 C4 A5 L5 C5 A6 L6 C6 r_.d) [fS A1 L1 C1 11 zB r_.l_, fS A7 L7 C7 1 xj first.Bytes] (fun o H Φ => match (generalizing := false) r with | .ok r => (∃ (A20 : OA) (L20 C20 : Nat) (A21 : OA) (L21 C21 : Nat), o = .ret (.tuple #[]) /\ H = (bQ b A20 L20 C20 A21 L21 C21 A3 L3 C3 A4 L4 C4 A5 L5 C5 A6 L6 C6 r :: r6 A21 L21 C21 A3 L3 C3 A4 L4 C4 A5 L5 C5 A6 L6 C6 r.d.Prods r_.d.Chains r_.d.Follows r_.d.Rejects r_.d.Boxes) /\ Φ = [fS A20 L20 C20 11 zB r.l_]) | .pan y => o = .pan (.iface 37 (.agg #[iI y.At, iI y.Code])) /\ H = [] /\ Φ = []) := by
 unfold qd.reader_cf at hF
 refine zt (n := 41) Tryz.func83 rfl Tryz.ntmps83 rfl fun w X => cR (xr rfl rfl rfl fun b1 => zb (cR (oV vM (oV (vL 0 yJ) ?_))))
 obtain ⟨v, h1, hF⟩ := bd hF
 rcases v with x_ | y_
 replace hF := zU hF
 refine yx [1, 1, 1, 1, 1, 1] gc rfl rfl (zy [0, 1] rfl) (uw h1 :) ?_
 rintro _ _ _ ⟨rfl, rfl, rfl⟩
 refine zb (cR (oV vM ?_))
 obtain ⟨v1, h2, hF⟩ := bd hF
 rcases v1 with x_1 | y_1
 replace hF := zU hF
 refine yx [0, 0, 0, 0, 0, 0] yV rfl rfl (zy [0] rfl) (xw h2 :) ?_
 rintro _ _ _ ⟨A8, L8, C8, rfl, rfl, rfl⟩
 refine oV (vU (.agg #[bV false, sV x_1.1, sV ([] : Tx), bV false, nS])) (zC gA rfl rfl ?_)
 intro b2
 refine (sT 0 gj) (zb (zf (cR (oV vM ?_))))
 obtain ⟨v2, h3, hF⟩ := bd hF
 refine yx [1, 1, 1, 1, 1, 1] wP rfl rfl (zy [0] rfl) (vJ h3 :) ?_
 rintro _ _ _ ⟨A9, L9, C9, rfl, rfl, rfl⟩
 refine zb ?_
 refine z8 (fun E N' => ∀ (l__ : List zg) (at__ : Int) (q1 : Tx) (q2 : Tx) (q8 : Bool) (q9 : Bool) (q0 : Int) (Cons_ : Tx) (A10 : OA) (L10 C10 : Nat), qd.reader_cf_j1 k r_ x_1 l__ at__ q1 q2 q8 q9 q0 Cons_ = some r -> zT E [(0, pt b), (1, .agg (yX first A7 L7 C7).toArray), (3, pt b1), (4, pt b2)] (bR b A10 L10 C10 at__ q1 q2 A2 L2 C2 A3 L3 C3 A4 L4 C4 A5 L5 C5 A6 L6 C6 q8 q9 q0 :: .box b2 57 [bV false, sV x_1.1, sV Cons_, bV false, nS] :: .box b1 106 (yX first A7 L7 C7) :: r5 A2 L2 C2 A3 L3 C3 A4 L4 C4 A5 L5 C5 A6 L6 C6 r_.d) [fS A7 L7 C7 1 xj first.Bytes, fS A10 L10 C10 11 zB l__] N') (fun N2 hN2 => ?_) ?_
 refine cC hF (fun hF => ?_) (fun hF => ?_)
 refine zd (oV vM ?_)
 obtain ⟨v7, h12, hF⟩ := bd hF
 rcases v7 with x_6 | y_6
 replace hF := zU hF
 refine yx [0, 0, 0, 0, 0, 0] yV rfl rfl (zy [0] rfl) (xw h12 :) ?_
 rintro _ _ _ ⟨A19, L19, C19, rfl, rfl, rfl⟩
 refine (fD 2) ((sT 6 xE) (zh ?_))
 exact sK [0, 5, 5, 0, 0, 0, 0, 0] [4, 0] (hN2 x_6.2.l_ x_6.2.at_ x_6.2.d.Start x_6.2.d.Layout x_6.2.start x_6.2.layout x_6.2.items x_6.1 A19 L19 C19 hF)
 replace hF := zH hF
 refine yx [0, 0, 0, 0, 0, 0] yV rfl rfl (zy [0] rfl) (xw h12 :) ?_
 rintro _ _ _ ⟨rfl, rfl, rfl⟩
 cases hF
 exact sP
 refine zk ?_
 exact sK [0, 5, 5, 0, 0, 0, 0, 0] [3, 0] (hN2 v2.2.l_ v2.2.at_ v2.2.d.Start v2.2.d.Layout v2.2.start v2.2.layout v2.2.items ([] : Tx) A9 L9 C9 hF)
 intro l__ at__ q1 q2 q8 q9 q0 Cons_ A10 L10 C10 hF
 unfold qd.reader_cf_j1 at hF
 refine ze (cR (oV vM ?_))
 obtain ⟨v3, h4, hF⟩ := bd hF
 rcases v3 with x_2 | y_2
 replace hF := zU hF
 refine yx [0, 2, 2, 2, 2, 2] xb rfl rfl (zy [1] rfl) (xJ h4 :) ?_
 rintro _ _ _ ⟨A11, L11, C11, rfl, rfl, rfl⟩
 refine zb (cR (oV vM ?_))
 obtain ⟨v4, h5, hF⟩ := bd hF
 rcases v4 with x_3 | y_3
 replace hF := zU hF
 refine yx [0, 0, 0, 0, 0, 0] call117 rfl rfl (zy [0] rfl) (tri117 h5 :) ?_
 rintro _ _ _ ⟨A12, L12, C12, A13, L13, C13, rfl, rfl, rfl⟩
 refine (fD 4) ((sT 7 ty55) (zb (zf (cR ((fD 2) (oV (vL 7 xE) (oV (yP rfl rfl) (zb ?_))))))))
 refine z8 (fun E N' => ∀ (l__1 : List zg) (at__1 : Int) (q1_1 : Tx) (q2_1 : Tx) (q8_1 : Bool) (q9_1 : Bool) (q0_1 : Int) (Bracket_ : Bool) (A14 : OA) (L14 C14 : Nat), qd.reader_cf_j2 r_ x_1 Cons_ x_3 l__1 at__1 q1_1 q2_1 q8_1 q9_1 q0_1 Bracket_ = some r -> zT E [(0, pt b), (1, .agg (yX first A7 L7 C7).toArray), (3, pt b1), (4, pt b2)] (bR b A14 L14 C14 at__1 q1_1 q2_1 A2 L2 C2 A3 L3 C3 A4 L4 C4 A5 L5 C5 A6 L6 C6 q8_1 q9_1 q0_1 :: .box b2 57 [bV false, sV x_1.1, sV Cons_, bV Bracket_, sl A12 L12 C12] :: .box b1 106 (yX first A7 L7 C7) :: (r5 A2 L2 C2 A3 L3 C3 A4 L4 C4 A5 L5 C5 A6 L6 C6 r_.d ++ [rW A12 L12 C12 114 8 wn x_3.1])) [fS A7 L7 C7 1 xj first.Bytes, fS A14 L14 C14 11 zB l__1] N') (fun N2 hN2 => ?_) ?_
 refine cC hF (fun hF => ?_) (fun hF => ?_)
 refine cR (oV vM ?_)
 obtain ⟨v6, h10, hF⟩ := bd hF
 rcases v6 with x_5 | y_5
 replace hF := zU hF
 refine yx [0, 0, 0, 0, 0, 0] xb rfl rfl (zy [0] rfl) (xJ h10 :) ?_
 rintro _ _ _ ⟨A18, L18, C18, rfl, rfl, rfl⟩
 refine zb (zd ((fD 3) ((sT 7 ty4) (zh ?_))))
 exact sK [0, 6, 6, 0, 0, 0, 0, 0, 0] [3, 0] (hN2 x_5.l_ x_5.at_ x_5.d.Start x_5.d.Layout x_5.start x_5.layout x_5.items true A18 L18 C18 hF)
 replace hF := zH hF
 refine yx [0, 0, 0, 0, 0, 0] xb rfl rfl (zy [0] rfl) (xJ h10 :) ?_
 rintro _ _ _ ⟨rfl, rfl, rfl⟩
 cases hF
 exact sP
 refine zk ?_
 exact sK [0, 6, 6, 0, 0, 0, 0, 0, 0] [2, 0] (hN2 x_3.2.l_ x_3.2.at_ x_3.2.d.Start x_3.2.d.Layout x_3.2.start x_3.2.layout x_3.2.items false A13 L13 C13 hF)
 intro l__1 at__1 q1_1 q2_1 q8_1 q9_1 q0_1 Bracket_ A14 L14 C14 hF
 unfold qd.reader_cf_j2 at hF
 refine ze (cR (oV vM ?_))
 obtain ⟨v5, h6, hF⟩ := bd hF
 rcases v5 with x_4 | y_4
 replace hF := zU hF
 refine yx [0, 2, 2, 2, 2, 2] xb rfl rfl (zy [1] rfl) (xJ h6 :) ?_
 rintro _ _ _ ⟨A15, L15, C15, rfl, rfl, rfl⟩
 refine zb (zP (n := 13) [2, 2, 2, 2, 3] mixed rfl rfl (dv 0 rfl vM (dv 1 rfl vM (dv 2 rfl vC (dv 3 rfl (vF 2) (dv 4 rfl (vF 4) ?_))))))
 refine wr [5, 6] (by kernel_rfl) (by simp) ⟨⟨_, rfl, ?_⟩, ⟨_, rfl, ?_⟩, trivial⟩
 refine oV (vL 0 kR) (dN [2, 2, 2, 2, 3] 0 (dO 6 rfl (oV (vL 6 gj) (dN [2, 2, 2, 2, 3] 0 (dO 7 rfl (wj (yM 8 rfl) (zF (enc := yh) ([(Prod.mk false x_1.1 Cons_ Bracket_ x_3.1)] : List Prod) [bV false, sV x_1.1, sV Cons_, bV Bracket_, sl A12 L12 C12] vK rfl (fun _ => by kernel_rfl) rfl rfl rfl (.s rfl (.s rfl (.s rfl (.s rfl (.f 0 rfl (.nil)))))) rfl ?_)))))))
 intro A16 L16 C16
 refine dN [3, 3, 3, 3, 4] 1 (dO 8 rfl (zc hF ?_))
 intro h7 hF
 refine zc hF fun h8 hF => yf (enc := yh) (xs := r_.d.Prods) (ys := ([(Prod.mk false x_1.1 Cons_ Bracket_ x_3.1)] : List Prod)) 2 vK rfl rfl rfl (.r 0 _ rfl) h7 h8 rfl fun A17 L17 C17 => dN [3, 3, 3, 3, 4] 1 (dv 9 rfl vC (dv 10 rfl (vF 2) ?_))
 refine dv 11 rfl (vF 4) (dO 12 rfl ((sT 1 kR) (dN [3, 3, 3, 3, 4] 1 (dD ?_))))
 cases hF
 refine xz rfl fun a w hs => zo hs [1, 1, 1, 1, 1, 1] ⟨A15, L15, C15, A17, L17, C17, rfl, rfl, rfl⟩ rfl (zy [1] rfl)
 refine oV (vL 6 gj) (dN [2, 2, 2, 2, 3] 0 ?_)
 refine wr [5, 7] (by kernel_rfl) (by simp) ⟨⟨_, rfl, ?_⟩, ⟨_, rfl, ?_⟩, trivial⟩
 refine oV (vL 0 kR) (dN [2, 2, 2, 2, 3] 0 (dO 7 rfl (wj (yM 8 rfl) (zF (enc := yh) ([(Prod.mk false x_1.1 Cons_ Bracket_ x_3.1)] : List Prod) [bV false, sV x_1.1, sV Cons_, bV Bracket_, sl A12 L12 C12] vK rfl (fun _ => by kernel_rfl) rfl rfl rfl (.s rfl (.s rfl (.s rfl (.s rfl (.f 0 rfl (.nil)))))) rfl ?_))))
 intro A16 L16 C16
 refine dN [3, 3, 3, 3, 4] 1 (dO 8 rfl (zc hF ?_))
 intro h7 hF
 refine zc hF fun h8 hF => yf (enc := yh) (xs := r_.d.Prods) (ys := ([(Prod.mk false x_1.1 Cons_ Bracket_ x_3.1)] : List Prod)) 2 vK rfl rfl rfl (.r 0 _ rfl) h7 h8 rfl fun A17 L17 C17 => dN [3, 3, 3, 3, 4] 1 (dv 9 rfl vC (dv 10 rfl (vF 2) (dv 11 rfl (vF 4) (dO 12 rfl ((sT 1 kR) ?_)))))
 refine dN [3, 3, 3, 3, 4] 1 (dD ?_)
 cases hF
 refine xz rfl fun a w hs => zo hs [1, 1, 1, 1, 1, 1] ⟨A15, L15, C15, A17, L17, C17, rfl, rfl, rfl⟩ rfl (zy [1] rfl)
 refine wj (yM 8 rfl) (zF (enc := yh) ([(Prod.mk false x_1.1 Cons_ Bracket_ x_3.1)] : List Prod) [bV false, sV x_1.1, sV Cons_, bV Bracket_, sl A12 L12 C12] vK rfl (fun _ => by kernel_rfl) rfl rfl rfl (.s rfl (.s rfl (.s rfl (.s rfl (.f 0 rfl (.nil)))))) rfl fun A16 L16 C16 => dN [3, 3, 3, 3, 4] 1 (dO 5 rfl (oV (vL 1 kR) (dN [3, 3, 3, 3, 4] 1 (dO 8 rfl (zc hF ?_))))))
 intro h7 hF
 refine zc hF fun h8 hF => yf (enc := yh) (xs := r_.d.Prods) (ys := ([(Prod.mk false x_1.1 Cons_ Bracket_ x_3.1)] : List Prod)) 2 vK rfl rfl rfl (.r 0 _ rfl) h7 h8 rfl fun A17 L17 C17 => dN [3, 3, 3, 3, 4] 1 (dv 9 rfl vC (dv 10 rfl (vF 2) (dv 11 rfl (vF 4) (dO 12 rfl ((sT 1 kR) ?_)))))
 refine dN [3, 3, 3, 3, 4] 1 (dD ?_)
 cases hF
 refine xz rfl fun a w hs => zo hs [1, 1, 1, 1, 1, 1] ⟨A15, L15, C15, A17, L17, C17, rfl, rfl, rfl⟩ rfl (zy [1] rfl)
 replace hF := zH hF
 refine yx [0, 2, 2, 2, 2, 2] xb rfl rfl (zy [1] rfl) (xJ h6 :) ?_
 rintro _ _ _ ⟨rfl, rfl, rfl⟩
 cases hF
 exact sP
 replace hF := zH hF
 refine yx [0, 0, 0, 0, 0, 0] call117 rfl rfl (zy [0] rfl) (tri117 h5 :) ?_
 rintro _ _ _ ⟨rfl, rfl, rfl⟩
 cases hF
 exact sP
 replace hF := zH hF
 refine yx [0, 2, 2, 2, 2, 2] xb rfl rfl (zy [1] rfl) (xJ h4 :) ?_
 rintro _ _ _ ⟨rfl, rfl, rfl⟩
 cases hF
 exact sP
 replace hF := zH hF
 refine yx [0, 0, 0, 0, 0, 0] yV rfl rfl (zy [0] rfl) (xw h2 :) ?_
 rintro _ _ _ ⟨rfl, rfl, rfl⟩
 cases hF
 exact sP
 replace hF := zH hF
 refine yx [1, 1, 1, 1, 1, 1] gc rfl rfl (zy [0, 1] rfl) (uw h1 :) ?_
 rintro _ _ _ ⟨rfl, rfl, rfl⟩
 cases hF
 exact sP
theorem tri119 {k : Nat} {r_ : za} {b : Nat} {r : Pn (zw × za) Fault} (hF : qd.reader_group k r_ = some r) :
    xu Tryz.prog 119 [pt b] (bQ b A1 L1 C1 A2 L2 C2 A3 L3 C3 A4 L4 C4 A5 L5 C5 A6 L6 C6 r_ :: r5 A2 L2 C2 A3 L3 C3 A4 L4 C4 A5 L5 C5 A6 L6 C6 r_.d) [fS A1 L1 C1 11 zB r_.l_] (fun o H Φ => match (generalizing := false) r with | .ok r => (∃ (A28 : OA) (L28 C28 : Nat) (A29 : OA) (L29 C29 : Nat), o = .ret (.agg #[iI r.1.Assoc, sl A28 L28 C28]) /\ H = (bQ b A29 L29 C29 A2 L2 C2 A3 L3 C3 A4 L4 C4 A5 L5 C5 A6 L6 C6 r.2 :: r5 A2 L2 C2 A3 L3 C3 A4 L4 C4 A5 L5 C5 A6 L6 C6 r_.d) /\ Φ = [fS A28 L28 C28 1 xn r.1.Cons, fS A29 L29 C29 11 zB r.2.l_]) | .pan y => o = .pan (.iface 37 (.agg #[iI y.At, iI y.Code])) /\ H = [] /\ Φ = []) := by
 unfold qd.reader_group at hF
 refine zt (n := 63) Tryz.func119 rfl Tryz.ntmps119 rfl fun w X => cR (zC zero61 rfl rfl fun b1 => zb (cR (oV (vU (.agg #[iI 0, nS])) (zC zero61 rfl rfl ?_))))
 intro b2
 refine (sT 0 ty61) (zb (zf (cR (zF (enc := xn) ([([108, 101, 102, 116] : Tx), ([114, 105, 103, 104, 116] : Tx), ([110, 111, 110] : Tx)] : List Tx) [sV ([108, 101, 102, 116] : Tx), sV ([114, 105, 103, 104, 116] : Tx), sV ([110, 111, 110] : Tx)] vy rfl (fun _ => by kernel_rfl) rfl rfl rfl (.s rfl (.s rfl (.s rfl (.nil)))) rfl ?_))))
 intro A7 L7 C7
 refine oV (zL (enc := xn) ([([108, 101, 102, 116] : Tx), ([114, 105, 103, 104, 116] : Tx), ([110, 111, 110] : Tx)] : List Tx) vy rfl (.r 0 _ rfl)) ?_
 refine oV vM (zb ?_)
 obtain ⟨o1, ho1, hF⟩ := bd hF
 refine z8 (fun E N' => ∀ (A9 : OA) (L9 C9 : Nat), zT E [(0, pt b), (2, pt b1), (3, pt b2), (7, sl A7 L7 C7)] (bR b A9 L9 C9 o1.2.1 o1.2.2.1 o1.2.2.2.1 A2 L2 C2 A3 L3 C3 A4 L4 C4 A5 L5 C5 A6 L6 C6 o1.2.2.2.2.1 o1.2.2.2.2.2.1 o1.2.2.2.2.2.2.1 :: .box b2 61 [iI o1.2.2.2.2.2.2.2, nS] :: .box b1 61 [iI 0, nS] :: rW A7 L7 C7 9 1 xn ([([108, 101, 102, 116] : Tx), ([114, 105, 103, 104, 116] : Tx), ([110, 111, 110] : Tx)] : List Tx) :: r5 A2 L2 C2 A3 L3 C3 A4 L4 C4 A5 L5 C5 A6 L6 C6 r_.d) [fS A9 L9 C9 11 zB o1.1] N') (fun N1 hN1 => ?_) ?_
 refine zq ?_
 refine xG (fun E j a w => ∃ (t9 : Int) (l__ : List zg) (at__ : Int) (q1 : Tx) (q2 : Tx) (q8 : Bool) (q9 : Bool) (q0 : Int) (A8 : OA) (L8 C8 : Nat), qd.reader_group_l1 r_ j t9 l__ at__ q1 q2 q8 q9 q0 = some o1 /\ St E [(0, pt b), (2, pt b1), (3, pt b2), (7, sl A7 L7 C7), (8, iI (([([108, 101, 102, 116] : Tx), ([114, 105, 103, 104, 116] : Tx), ([110, 111, 110] : Tx)] : List Tx).length : Int)), (9, iI t9)] (.box b2 61 [iI 0, nS] :: .box b1 61 [iI 0, nS] :: bR b A8 L8 C8 at__ q1 q2 A2 L2 C2 A3 L3 C3 A4 L4 C4 A5 L5 C5 A6 L6 C6 q8 q9 q0 :: rW A7 L7 C7 9 1 xn ([([108, 101, 102, 116] : Tx), ([114, 105, 103, 104, 116] : Tx), ([110, 111, 110] : Tx)] : List Tx) :: r5 A2 L2 C2 A3 L3 C3 A4 L4 C4 A5 L5 C5 A6 L6 C6 r_.d) [fS A8 L8 C8 11 zB l__] a w) k ?_ ?_
 exact lq [1, 1, 1, 0, 0, 0, 0, 0, 0] [0] fun a w hs => ⟨0, r_.l_, r_.at_, r_.d.Start, r_.d.Layout, r_.start, r_.layout, r_.items, A1, L1, C1, ho1, hs⟩
 rintro j a w ⟨t9, l__, at__, q1, q2, q8, q9, q0, A8, L8, C8, hL1, hs⟩
 rcases j with _ | j
 cases hL1
 refine yd hs ?_
 unfold qd.reader_group_l1 at hL1
 refine cR (oV vB (zb (zf ?_)))
 refine cC hL1 (fun hL1 => ?_) (fun hL1 => ?_)
 refine zk (ze (zf (zq (cR (oV vM (zc hL1 ?_))))))
 intro h2 hL1
 refine oV (zi (xs := ([([108, 101, 102, 116] : Tx), ([114, 105, 103, 104, 116] : Tx), ([110, 111, 110] : Tx)] : List Tx)) (enc := xn) vy rfl rfl (.r 3 _ rfl) h2) (oV (yc (xs := ([([108, 101, 102, 116] : Tx), ([114, 105, 103, 104, 116] : Tx), ([110, 111, 110] : Tx)] : List Tx)) (enc := xn) xE rfl (.r 3 _ rfl) h2 rfl rfl rfl rfl rfl rfl rfl) (oV vA (oV vA (zb (cR (oV vM ?_))))))
 refine oV vM ?_
 obtain ⟨v, h3, hL1⟩ := bd hL1
 refine yx [2, 3, 3, 3, 3, 3] wP rfl rfl (zy [0] rfl) (vJ h3 :) ?_
 rintro _ _ _ ⟨A10, L10, C10, rfl, rfl, rfl⟩
 refine zb ?_
 refine cC hL1 (fun hL1 => ?_) (fun hL1 => ?_)
 refine cR (oV vM (oV vB ((fD 0) ((sT 6 yz) (zb (c_exit1 ?_))))))
 cases hL1
 exact sK [0, 5, 5, 5, 0, 0, 0, 0, 0] [0] (hN1 A10 L10 C10)
 refine zk (ze (zd (oV vB (oV vM (zh ?_)))))
 exact lp [6, 6, 0, 5, 0, 0, 0, 0, 0] [0] fun a w hs => ⟨IntKind.wrap .i64 (t9 + 1), v.2.l_, v.2.at_, v.2.d.Start, v.2.d.Layout, v.2.start, v.2.layout, v.2.items, A10, L10, C10, hL1, hs⟩
 refine zW ?_
 cases hL1
 exact sK [2, 0, 0, 0, 0, 0, 0, 0, 0] [0] (hN1 A8 L8 C8)
 intro A9 L9 C9
 refine ze (zf ?_)
 refine z8 (fun E N' => ∀ (l__1 : List zg) (at__1 : Int) (q1_1 : Tx) (q2_1 : Tx) (q8_1 : Bool) (q9_1 : Bool) (q0_1 : Int) (Cons_ : List Tx) (A11 : OA) (L11 C11 : Nat) (A12 : OA) (L12 C12 : Nat), qd.reader_group_j2 k r_ o1 l__1 at__1 q1_1 q2_1 q8_1 q9_1 q0_1 Cons_ = some r -> zT E [(0, pt b), (2, pt b1), (3, pt b2), (7, sl A7 L7 C7)] (bR b A11 L11 C11 at__1 q1_1 q2_1 A2 L2 C2 A3 L3 C3 A4 L4 C4 A5 L5 C5 A6 L6 C6 q8_1 q9_1 q0_1 :: .box b2 61 [iI o1.2.2.2.2.2.2.2, sl A12 L12 C12] :: .box b1 61 [iI 0, nS] :: rW A7 L7 C7 9 1 xn ([([108, 101, 102, 116] : Tx), ([114, 105, 103, 104, 116] : Tx), ([110, 111, 110] : Tx)] : List Tx) :: (r5 A2 L2 C2 A3 L3 C3 A4 L4 C4 A5 L5 C5 A6 L6 C6 r_.d ++ [rW A12 L12 C12 9 1 xn Cons_])) [fS A11 L11 C11 11 zB l__1] N') (fun N6 hN6 => ?_) ?_
 refine zP (n := 8) [2, 2, 2, 2, 2, 2, 2] mixed rfl rfl (dv 0 rfl (vF 1) (dv 2 rfl vM ?_))
 refine wr [1, 3] (by kernel_rfl) (by simp) ⟨⟨_, rfl, ?_⟩, ⟨_, rfl, ?_⟩, trivial⟩
 refine oV (vL 1 ja) (dN [2, 2, 2, 2, 2, 2, 2] 0 (dO 3 rfl ?_))
 obtain ⟨v3, h12, hF⟩ := bd hF
 rcases v3 with x_2 | y_2
 replace hF := zU hF
 refine yx [0, 3, 3, 3, 3, 3] yV rfl rfl (zy [0] rfl) (xw h12 :) ?_
 rintro _ _ _ ⟨A25, L25, C25, rfl, rfl, rfl⟩
 refine dN [7, 7, 1, 1, 1, 1, 1] 1 (dO 4 rfl (zF (enc := xn) ([x_2.1] : List Tx) [sV x_2.1] vy rfl (fun _ => by kernel_rfl) rfl rfl rfl (.s rfl (.nil)) rfl ?_))
 intro A26 L26 C26
 refine dN [8, 8, 2, 2, 2, 2, 2] 1 (dO 5 rfl (zc hF ?_))
 intro h13 hF
 refine zc hF fun h14 hF => wj (ym 9 1) (yf (enc := xn) (xs := ([] : List Tx)) (ys := ([x_2.1] : List Tx)) 0 vy rfl rfl rfl (.r 1 _ rfl) h13 h14 rfl fun A27 L27 C27 => dN [9, 9, 3, 3, 3, 3, 3] 1 (dv 6 rfl (vF 1) (dO 7 rfl ((sT 8 ja) (dN [9, 9, 3, 3, 3, 3, 3] 1 (dD ?_))))))
 exact sK [2, 7, 7, 7, 2, 2, 2, 2, 2, 0] [0] (hN6 x_2.2.l_ x_2.2.at_ x_2.2.d.Start x_2.2.d.Layout x_2.2.start x_2.2.layout x_2.2.items (([] : List Tx) ++ ([x_2.1] : List Tx)) A25 L25 C25 A27 L27 C27 hF)
 replace hF := zH hF
 refine yx [0, 3, 3, 3, 3, 3] yV rfl rfl (zy [0] rfl) (xw h12 :) ?_
 rintro _ _ _ ⟨rfl, rfl, rfl⟩
 cases hF
 exact sP
 obtain ⟨v3, h12, hF⟩ := bd hF
 rcases v3 with x_2 | y_2
 replace hF := zU hF
 refine yx [0, 3, 3, 3, 3, 3] yV rfl rfl (zy [0] rfl) (xw h12 :) ?_
 rintro _ _ _ ⟨A25, L25, C25, rfl, rfl, rfl⟩
 refine dN [7, 7, 1, 1, 1, 1, 1] 1 ?_
 refine wr [1, 4] (by kernel_rfl) (by simp) ⟨⟨_, rfl, ?_⟩, ⟨_, rfl, ?_⟩, trivial⟩
 refine oV (vL 6 ja) (dN [7, 7, 1, 1, 1, 1, 1] 1 (dO 4 rfl (zF (enc := xn) ([x_2.1] : List Tx) [sV x_2.1] vy rfl (fun _ => by kernel_rfl) rfl rfl rfl (.s rfl (.nil)) rfl ?_)))
 intro A26 L26 C26
 refine dN [8, 8, 2, 2, 2, 2, 2] 1 (dO 5 rfl (zc hF ?_))
 intro h13 hF
 refine zc hF fun h14 hF => wj (ym 9 1) (yf (enc := xn) (xs := ([] : List Tx)) (ys := ([x_2.1] : List Tx)) 0 vy rfl rfl rfl (.r 1 _ rfl) h13 h14 rfl fun A27 L27 C27 => dN [9, 9, 3, 3, 3, 3, 3] 1 (dv 6 rfl (vF 1) (dO 7 rfl ((sT 8 ja) (dN [9, 9, 3, 3, 3, 3, 3] 1 (dD ?_))))))
 exact sK [2, 7, 7, 7, 2, 2, 2, 2, 2, 0] [0] (hN6 x_2.2.l_ x_2.2.at_ x_2.2.d.Start x_2.2.d.Layout x_2.2.start x_2.2.layout x_2.2.items (([] : List Tx) ++ ([x_2.1] : List Tx)) A25 L25 C25 A27 L27 C27 hF)
 refine zF (enc := xn) ([x_2.1] : List Tx) [sV x_2.1] vy rfl (fun _ => by kernel_rfl) rfl rfl rfl (.s rfl (.nil)) rfl fun A26 L26 C26 => dN [8, 8, 2, 2, 2, 2, 2] 1 (dO 1 rfl (oV (vL 7 ja) (dN [8, 8, 2, 2, 2, 2, 2] 1 (dO 5 rfl (zc hF ?_)))))
 intro h13 hF
 refine zc hF fun h14 hF => wj (ym 9 1) (yf (enc := xn) (xs := ([] : List Tx)) (ys := ([x_2.1] : List Tx)) 0 vy rfl rfl rfl (.r 1 _ rfl) h13 h14 rfl fun A27 L27 C27 => dN [9, 9, 3, 3, 3, 3, 3] 1 (dv 6 rfl (vF 1) (dO 7 rfl ((sT 8 ja) (dN [9, 9, 3, 3, 3, 3, 3] 1 (dD ?_))))))
 exact sK [2, 7, 7, 7, 2, 2, 2, 2, 2, 0] [0] (hN6 x_2.2.l_ x_2.2.at_ x_2.2.d.Start x_2.2.d.Layout x_2.2.start x_2.2.layout x_2.2.items (([] : List Tx) ++ ([x_2.1] : List Tx)) A25 L25 C25 A27 L27 C27 hF)
 replace hF := zH hF
 refine yx [0, 3, 3, 3, 3, 3] yV rfl rfl (zy [0] rfl) (xw h12 :) ?_
 rintro _ _ _ ⟨rfl, rfl, rfl⟩
 cases hF
 exact sP
 intro l__1 at__1 q1_1 q2_1 q8_1 q9_1 q0_1 Cons_ A11 L11 C11 A12 L12 C12 hF
 unfold qd.reader_group_j2 at hF
 refine ze (zf ?_)
 obtain ⟨o3, ho3, hF⟩ := bd hF
 refine z8 (fun E N' => ∀ (d3 : (List zg) × Int × Tx × Tx × Bool × Bool × Int × (List Tx)) (A15 : OA) (L15 C15 : Nat) (A16 : OA) (L16 C16 : Nat), o3 = .done d3 -> zT E [(0, pt b), (2, pt b1), (3, pt b2), (7, sl A7 L7 C7)] (bR b A15 L15 C15 d3.2.1 d3.2.2.1 d3.2.2.2.1 A2 L2 C2 A3 L3 C3 A4 L4 C4 A5 L5 C5 A6 L6 C6 d3.2.2.2.2.1 d3.2.2.2.2.2.1 d3.2.2.2.2.2.2.1 :: .box b2 61 [iI o1.2.2.2.2.2.2.2, sl A16 L16 C16] :: .box b1 61 [iI 0, nS] :: rW A7 L7 C7 9 1 xn ([([108, 101, 102, 116] : Tx), ([114, 105, 103, 104, 116] : Tx), ([110, 111, 110] : Tx)] : List Tx) :: (r5 A2 L2 C2 A3 L3 C3 A4 L4 C4 A5 L5 C5 A6 L6 C6 r_.d ++ [rW A16 L16 C16 9 1 xn d3.2.2.2.2.2.2.2])) [fS A15 L15 C15 11 zB d3.1] N') (fun N3 hN3 => ?_) ?_
 refine zq ?_
 refine xG (fun E j a w => ∃ (l__2 : List zg) (at__2 : Int) (q1_2 : Tx) (q2_2 : Tx) (q8_2 : Bool) (q9_2 : Bool) (q0_2 : Int) (Cons_1 : List Tx) (A13 : OA) (L13 C13 : Nat) (A14 : OA) (L14 C14 : Nat), qd.reader_group_l3 r_ j l__2 at__2 q1_2 q2_2 q8_2 q9_2 q0_2 Cons_1 = some o3 /\ St E [(0, pt b), (2, pt b1), (3, pt b2), (7, sl A7 L7 C7)] (bR b A13 L13 C13 at__2 q1_2 q2_2 A2 L2 C2 A3 L3 C3 A4 L4 C4 A5 L5 C5 A6 L6 C6 q8_2 q9_2 q0_2 :: .box b2 61 [iI o1.2.2.2.2.2.2.2, sl A14 L14 C14] :: .box b1 61 [iI 0, nS] :: rW A7 L7 C7 9 1 xn ([([108, 101, 102, 116] : Tx), ([114, 105, 103, 104, 116] : Tx), ([110, 111, 110] : Tx)] : List Tx) :: (r5 A2 L2 C2 A3 L3 C3 A4 L4 C4 A5 L5 C5 A6 L6 C6 r_.d ++ [rW A14 L14 C14 9 1 xn Cons_1])) [fS A13 L13 C13 11 zB l__2] a w) k ?_ ?_
 exact lq [0, 0, 0, 0, 0, 0, 0, 0, 0, 0] [0] fun a w hs => ⟨l__1, at__1, q1_1, q2_1, q8_1, q9_1, q0_1, Cons_, A11, L11, C11, A12, L12, C12, ho3, hs⟩
 rintro j a w ⟨l__2, at__2, q1_2, q2_2, q8_2, q9_2, q0_2, Cons_1, A13, L13, C13, A14, L14, C14, hL3, hs⟩
 rcases j with _ | j
 cases hL3
 refine yd hs ?_
 unfold qd.reader_group_l3 at hL3
 refine zf (zf (zP (n := 12) [0, 0, 0, 0, 0, 0, 0, 0, 0, 0] mixed rfl rfl (dv 0 rfl vM (dv 1 rfl vC (dv 2 rfl (vF 0) (dv 3 rfl (vL 0 qk) (dv 4 rfl vM (dv 5 rfl vC (dv 6 rfl (vF 1) (dv 7 rfl (vL 0 yz) (zc hL3 ?_)))))))))))
 intro h5 hL3
 refine dv 8 rfl (zi (xs := l__2) (enc := zB) qu rfl rfl (.f 0 rfl) h5) (dv 9 rfl (zI (v := .pointer (some ⟨yW A13, yZ A13 + (Int.toNat at__2 * 11 + 0), none⟩)) rfl (fun _ => by kernel_rfl)) (dv 10 rfl (yc (xs := l__2) (enc := zB) yz rfl (.f 0 rfl) h5 rfl rfl rfl rfl rfl rfl rfl) (dv 11 rfl vB ?_)))
 refine zG (by kernel_rfl) ?_
 refine cC hL3 (fun hL3 => ?_) (fun hL3 => ?_)
 refine zk (ze ?_)
 refine z8 (fun E N' => ∀ (l__3 : List zg) (at__3 : Int) (q1_3 : Tx) (q2_3 : Tx) (q8_3 : Bool) (q9_3 : Bool) (q0_3 : Int) (Cons_2 : List Tx) (A17 : OA) (L17 C17 : Nat) (A18 : OA) (L18 C18 : Nat), qd.reader_group_j4 (qd.reader_group_l3 r_ j) l__3 at__3 q1_3 q2_3 q8_3 q9_3 q0_3 Cons_2 = some o3 -> zT E [(0, pt b), (2, pt b1), (3, pt b2), (7, sl A7 L7 C7)] (bR b A17 L17 C17 at__3 q1_3 q2_3 A2 L2 C2 A3 L3 C3 A4 L4 C4 A5 L5 C5 A6 L6 C6 q8_3 q9_3 q0_3 :: .box b2 61 [iI o1.2.2.2.2.2.2.2, sl A18 L18 C18] :: .box b1 61 [iI 0, nS] :: rW A7 L7 C7 9 1 xn ([([108, 101, 102, 116] : Tx), ([114, 105, 103, 104, 116] : Tx), ([110, 111, 110] : Tx)] : List Tx) :: (r5 A2 L2 C2 A3 L3 C3 A4 L4 C4 A5 L5 C5 A6 L6 C6 r_.d ++ [rW A18 L18 C18 9 1 xn Cons_2])) [fS A17 L17 C17 11 zB l__3] N') (fun N4 hN4 => ?_) ?_
 refine zq (zf (cR ((fD 1) (oV (vL 1 ja) (oV (zL (enc := xn) Cons_1 vy rfl (.r 9 _ rfl)) (oV vB (zb ?_)))))))
 refine cT (fun E H Φ N' => qd.reader_group_j5 l__2 at__2 q1_2 q2_2 r_ q8_2 q9_2 q0_2 Cons_1 (qd.reader_group_l3 r_ j) = some o3 -> zT E [(0, pt b), (2, pt b1), (3, pt b2), (7, sl A7 L7 C7)] H Φ N') (fun N6 hN6 => ?_) ?_
 refine cC hL3 (fun hL3 => ?_) (fun hL3 => ?_)
 refine wK (xs := l__2) (enc := zB) 0 rfl h5 rfl rfl fun A24 L24 C24 => zP (n := 11) [0, 0, 0, 0, 0, 0, 0, 0, 0, 0] mixed rfl rfl (dv 0 rfl vM (dv 1 rfl vC (dv 2 rfl (vF 0) (dv 3 rfl (vL 0 qk) (dv 4 rfl vM (dv 5 rfl vC (dv 6 rfl (vF 1) (dv 7 rfl (vL 0 yz) (dv 8 rfl (zi (xs := l__2) (enc := zB) qu rfl rfl (.f 2 rfl) h5) (dv 9 rfl (yS 0 yJ rfl rfl rfl rfl rfl) (dO 10 rfl ?_)))))))))))
 obtain ⟨v2, h11, hL3⟩ := bd hL3
 rcases v2 with x_1 | y_1
 replace hL3 := zU hL3
 refine zV yE rfl (zy [1] rfl) (xk h11 :) rfl ?_
 rintro _ _ _ ⟨rfl, rfl, rfl⟩
 refine dN [0, 0, 0, 0, 0, 0, 0, 0, 0, 0] 0 (dD ?_)
 exact sK [0, 0, 0, 0, 0, 0, 0, 0, 0, 0] [2] (hN6 hL3)
 replace hL3 := zH hL3
 refine zV yE rfl (zy [1] rfl) (xk h11 :) rfl ?_
 rintro _ _ _ ⟨rfl, rfl, rfl⟩
 cases hL3
 obtain rfl := zK hF
 exact sP
 refine zk ?_
 exact sK [0, 0, 0, 0, 0, 0, 0, 0, 0, 0] [0] (hN6 hL3)
 intro hL3
 unfold qd.reader_group_j5 at hL3
 refine ze ?_
 refine z8 (fun E N' => ∀ (l__4 : List zg) (at__4 : Int) (q1_4 : Tx) (q2_4 : Tx) (q8_4 : Bool) (q9_4 : Bool) (q0_4 : Int) (Cons_3 : List Tx) (A19 : OA) (L19 C19 : Nat) (A20 : OA) (L20 C20 : Nat), qd.reader_group_j6 (qd.reader_group_l3 r_ j) l__4 at__4 q1_4 q2_4 q8_4 q9_4 q0_4 Cons_3 = some o3 -> zT E [(0, pt b), (2, pt b1), (3, pt b2), (7, sl A7 L7 C7)] (bR b A19 L19 C19 at__4 q1_4 q2_4 A2 L2 C2 A3 L3 C3 A4 L4 C4 A5 L5 C5 A6 L6 C6 q8_4 q9_4 q0_4 :: .box b2 61 [iI o1.2.2.2.2.2.2.2, sl A20 L20 C20] :: .box b1 61 [iI 0, nS] :: rW A7 L7 C7 9 1 xn ([([108, 101, 102, 116] : Tx), ([114, 105, 103, 104, 116] : Tx), ([110, 111, 110] : Tx)] : List Tx) :: (r5 A2 L2 C2 A3 L3 C3 A4 L4 C4 A5 L5 C5 A6 L6 C6 r_.d ++ [rW A20 L20 C20 9 1 xn Cons_3])) [fS A19 L19 C19 11 zB l__4] N') (fun N6 hN6 => ?_) ?_
 refine zP (n := 8) [2, 2, 2, 2, 2, 2, 2] mixed rfl rfl (dv 0 rfl (vF 1) (dv 2 rfl vM ?_))
 refine wr [1, 3] (by kernel_rfl) (by simp) ⟨⟨_, rfl, ?_⟩, ⟨_, rfl, ?_⟩, trivial⟩
 refine oV (vL 1 ja) (dN [2, 2, 2, 2, 2, 2, 2] 0 (dO 3 rfl ?_))
 obtain ⟨v1, h7, hL3⟩ := bd hL3
 rcases v1 with x_ | y_
 replace hL3 := zU hL3
 refine yx [0, 3, 3, 3, 3, 3] yV rfl rfl (zy [0] rfl) (xw h7 :) ?_
 rintro _ _ _ ⟨A21, L21, C21, rfl, rfl, rfl⟩
 refine dN [7, 7, 1, 1, 1, 1, 1] 1 (dO 4 rfl (zF (enc := xn) ([x_.1] : List Tx) [sV x_.1] vy rfl (fun _ => by kernel_rfl) rfl rfl rfl (.s rfl (.nil)) rfl ?_))
 intro A22 L22 C22
 refine dN [8, 8, 2, 2, 2, 2, 2] 1 (dO 5 rfl (zc hL3 ?_))
 intro h8 hL3
 refine zc hL3 fun h9 hL3 => yf (enc := xn) (xs := Cons_1) (ys := ([x_.1] : List Tx)) 10 vy rfl rfl rfl (.r 0 _ rfl) h8 h9 rfl fun A23 L23 C23 => dN [8, 8, 2, 2, 2, 2, 2] 1 (dv 6 rfl (vF 1) (dO 7 rfl ((sT 7 ja) (dN [8, 8, 2, 2, 2, 2, 2] 1 (dD ?_)))))
 exact sK [1, 6, 6, 6, 1, 1, 1, 1, 1, 1] [0] (hN6 x_.2.l_ x_.2.at_ x_.2.d.Start x_.2.d.Layout x_.2.start x_.2.layout x_.2.items (Cons_1 ++ ([x_.1] : List Tx)) A21 L21 C21 A23 L23 C23 hL3)
 replace hL3 := zH hL3
 refine yx [0, 3, 3, 3, 3, 3] yV rfl rfl (zy [0] rfl) (xw h7 :) ?_
 rintro _ _ _ ⟨rfl, rfl, rfl⟩
 cases hL3
 obtain rfl := zK hF
 exact sP
 obtain ⟨v1, h7, hL3⟩ := bd hL3
 rcases v1 with x_ | y_
 replace hL3 := zU hL3
 refine yx [0, 3, 3, 3, 3, 3] yV rfl rfl (zy [0] rfl) (xw h7 :) ?_
 rintro _ _ _ ⟨A21, L21, C21, rfl, rfl, rfl⟩
 refine dN [7, 7, 1, 1, 1, 1, 1] 1 ?_
 refine wr [1, 4] (by kernel_rfl) (by simp) ⟨⟨_, rfl, ?_⟩, ⟨_, rfl, ?_⟩, trivial⟩
 refine oV (vL 6 ja) (dN [7, 7, 1, 1, 1, 1, 1] 1 (dO 4 rfl (zF (enc := xn) ([x_.1] : List Tx) [sV x_.1] vy rfl (fun _ => by kernel_rfl) rfl rfl rfl (.s rfl (.nil)) rfl ?_)))
 intro A22 L22 C22
 refine dN [8, 8, 2, 2, 2, 2, 2] 1 (dO 5 rfl (zc hL3 ?_))
 intro h8 hL3
 refine zc hL3 fun h9 hL3 => yf (enc := xn) (xs := Cons_1) (ys := ([x_.1] : List Tx)) 10 vy rfl rfl rfl (.r 0 _ rfl) h8 h9 rfl fun A23 L23 C23 => dN [8, 8, 2, 2, 2, 2, 2] 1 (dv 6 rfl (vF 1) (dO 7 rfl ((sT 7 ja) (dN [8, 8, 2, 2, 2, 2, 2] 1 (dD ?_)))))
 exact sK [1, 6, 6, 6, 1, 1, 1, 1, 1, 1] [0] (hN6 x_.2.l_ x_.2.at_ x_.2.d.Start x_.2.d.Layout x_.2.start x_.2.layout x_.2.items (Cons_1 ++ ([x_.1] : List Tx)) A21 L21 C21 A23 L23 C23 hL3)
 refine zF (enc := xn) ([x_.1] : List Tx) [sV x_.1] vy rfl (fun _ => by kernel_rfl) rfl rfl rfl (.s rfl (.nil)) rfl fun A22 L22 C22 => dN [8, 8, 2, 2, 2, 2, 2] 1 (dO 1 rfl (oV (vL 7 ja) (dN [8, 8, 2, 2, 2, 2, 2] 1 (dO 5 rfl (zc hL3 ?_)))))
 intro h8 hL3
 refine zc hL3 fun h9 hL3 => yf (enc := xn) (xs := Cons_1) (ys := ([x_.1] : List Tx)) 10 vy rfl rfl rfl (.r 0 _ rfl) h8 h9 rfl fun A23 L23 C23 => dN [8, 8, 2, 2, 2, 2, 2] 1 (dv 6 rfl (vF 1) (dO 7 rfl ((sT 7 ja) (dN [8, 8, 2, 2, 2, 2, 2] 1 (dD ?_)))))
 exact sK [1, 6, 6, 6, 1, 1, 1, 1, 1, 1] [0] (hN6 x_.2.l_ x_.2.at_ x_.2.d.Start x_.2.d.Layout x_.2.start x_.2.layout x_.2.items (Cons_1 ++ ([x_.1] : List Tx)) A21 L21 C21 A23 L23 C23 hL3)
 replace hL3 := zH hL3
 refine yx [0, 3, 3, 3, 3, 3] yV rfl rfl (zy [0] rfl) (xw h7 :) ?_
 rintro _ _ _ ⟨rfl, rfl, rfl⟩
 cases hL3
 obtain rfl := zK hF
 exact sP
 intro l__4 at__4 q1_4 q2_4 q8_4 q9_4 q0_4 Cons_3 A19 L19 C19 A20 L20 C20 hL3
 unfold qd.reader_group_j6 at hL3
 exact sK [0, 0, 0, 0, 0, 0, 0, 0, 0, 0] [0] (hN4 l__4 at__4 q1_4 q2_4 q8_4 q9_4 q0_4 Cons_3 A19 L19 C19 A20 L20 C20 hL3)
 intro l__3 at__3 q1_3 q2_3 q8_3 q9_3 q0_3 Cons_2 A17 L17 C17 A18 L18 C18 hL3
 unfold qd.reader_group_j4 at hL3
 exact lp [0, 0, 0, 0, 0, 0, 0, 0, 0, 0] [0] fun a w hs => ⟨l__3, at__3, q1_3, q2_3, q8_3, q9_3, q0_3, Cons_2, A17, L17, C17, A18, L18, C18, hL3, hs⟩
 refine zW ?_
 cases hL3
 exact sK [0, 0, 0, 0, 0, 0, 0, 0, 0, 0] [0] (hN3 (l__2, at__2, q1_2, q2_2, q8_2, q9_2, q0_2, Cons_1) A13 L13 C13 A14 L14 C14 rfl)
 intro d3 A15 L15 C15 A16 L16 C16 hd
 subst hd
 replace hF := yF hF
 refine ze (cR (oV (vL 1 ty61) ((sT 2 ty61) (zb (zp ?_)))))
 cases hF
 refine xP (yM 9 rfl) (yH rfl (zM 2 rfl ty61 rfl rfl rfl rfl) fun a w hs => zo hs [0, 3, 3, 3, 3, 3] ⟨A16, L16, C16, A15, L15, C15, rfl, rfl, rfl⟩ rfl (zy [0, 1] rfl))
theorem tri84 {k : Nat} {r_ : za} {p1 : zg} {b : Nat} {r : Pn za Fault} (hF : qd.reader_prio k r_ p1 = some r) :
    xu Tryz.prog 84 [pt b, .agg (yX p1 A7 L7 C7).toArray] (bQ b A1 L1 C1 A2 L2 C2 A3 L3 C3 A4 L4 C4 A5 L5 C5 A6 L6 C6 r_ :: r5 A2 L2 C2 A3 L3 C3 A4 L4 C4 A5 L5 C5 A6 L6 C6 r_.d) [fS A1 L1 C1 11 zB r_.l_, fS A7 L7 C7 1 xj p1.Bytes] (fun o H Φ => match (generalizing := false) r with | .ok r => (∃ (A26 : OA) (L26 C26 : Nat) (A27 : OA) (L27 C27 : Nat), o = .ret (.tuple #[]) /\ H = (bQ b A26 L26 C26 A2 L2 C2 A27 L27 C27 A4 L4 C4 A5 L5 C5 A6 L6 C6 r :: r6 A2 L2 C2 A27 L27 C27 A4 L4 C4 A5 L5 C5 A6 L6 C6 r_.d.Prods r.d.Chains r_.d.Follows r_.d.Rejects r_.d.Boxes) /\ Φ = [fS A26 L26 C26 11 zB r.l_]) | .pan y => o = .pan (.iface 37 (.agg #[iI y.At, iI y.Code])) /\ H = [] /\ Φ = []) := by
 unfold qd.reader_prio at hF
 refine zt (n := 43) Tryz.func84 rfl Tryz.ntmps84 rfl fun w X => cR (xr rfl rfl rfl fun b1 => zb (cR (oV vM ?_)))
 obtain ⟨v, h1, hF⟩ := bd hF
 rcases v with x_ | y_
 replace hF := zU hF
 refine yx [1, 1, 1, 1, 1, 1] call119 rfl rfl (zy [0] rfl) (tri119 h1 :) ?_
 rintro _ _ _ ⟨A8, L8, C8, A9, L9, C9, rfl, rfl, rfl⟩
 refine zF (enc := zD) ([x_.1] : List zw) [iI x_.1.Assoc, sl A8 L8 C8] jF rfl (fun _ => by kernel_rfl) rfl rfl rfl (.s rfl (.f 0 rfl (.nil))) rfl fun A10 L10 C10 => oV vA (zb (zf ?_))
 obtain ⟨o1, ho1, hF⟩ := bd hF
 refine z8 (fun E N' => ∀ (d1 : (List zw) × (List zg) × Int × Tx × Tx × Bool × Bool × Int) (A13 : OA) (L13 C13 : Nat) (A14 : OA) (L14 C14 : Nat), o1 = .done d1 -> zT E [(0, pt b), (1, .agg (yX p1 A7 L7 C7).toArray), (4, sl A13 L13 C13)] (bR b A14 L14 C14 d1.2.2.1 d1.2.2.2.1 d1.2.2.2.2.1 A2 L2 C2 A3 L3 C3 A4 L4 C4 A5 L5 C5 A6 L6 C6 d1.2.2.2.2.2.1 d1.2.2.2.2.2.2.1 d1.2.2.2.2.2.2.2 :: rW A13 L13 C13 61 2 zD d1.1 :: r5 A2 L2 C2 A3 L3 C3 A4 L4 C4 A5 L5 C5 A6 L6 C6 r_.d) [fS A7 L7 C7 1 xj p1.Bytes, fS A14 L14 C14 11 zB d1.2.1] N') (fun N1 hN1 => ?_) ?_
 refine zq ?_
 refine xG (fun E j a w => ∃ (l__ : List zw) (l__1 : List zg) (at__ : Int) (q1 : Tx) (q2 : Tx) (q8 : Bool) (q9 : Bool) (q0 : Int) (A11 : OA) (L11 C11 : Nat) (A12 : OA) (L12 C12 : Nat), qd.reader_prio_l1 k r_ j l__ l__1 at__ q1 q2 q8 q9 q0 = some o1 /\ St E [(0, pt b), (1, .agg (yX p1 A7 L7 C7).toArray), (4, sl A11 L11 C11)] (bR b A12 L12 C12 at__ q1 q2 A2 L2 C2 A3 L3 C3 A4 L4 C4 A5 L5 C5 A6 L6 C6 q8 q9 q0 :: rW A11 L11 C11 61 2 zD l__ :: r5 A2 L2 C2 A3 L3 C3 A4 L4 C4 A5 L5 C5 A6 L6 C6 r_.d) [fS A7 L7 C7 1 xj p1.Bytes, fS A12 L12 C12 11 zB l__1] a w) k ?_ ?_
 exact lq [1, 0, 0, 0, 0, 0, 0] [3, 1] fun a w hs => ⟨([x_.1] : List zw), x_.2.l_, x_.2.at_, x_.2.d.Start, x_.2.d.Layout, x_.2.start, x_.2.layout, x_.2.items, A10, L10, C10, A9, L9, C9, ho1, hs⟩
 rintro j a w ⟨l__, l__1, at__, q1, q2, q8, q9, q0, A11, L11, C11, A12, L12, C12, hL1, hs⟩
 rcases j with _ | j
 cases hL1
 refine yd hs ?_
 unfold qd.reader_prio_l1 at hL1
 refine zf (cR (oV vM ?_))
 obtain ⟨v1, h2, hL1⟩ := bd hL1
 refine yx [0, 1, 1, 1, 1, 1] wP rfl rfl (zy [1] rfl) (vJ h2 :) ?_
 rintro _ _ _ ⟨A15, L15, C15, rfl, rfl, rfl⟩
 refine zb ?_
 refine cC hL1 (fun hL1 => ?_) (fun hL1 => ?_)
 refine zk (ze ?_)
 refine z8 (fun E N' => ∀ (l__2 : List zw) (l__3 : List zg) (at__1 : Int) (q1_1 : Tx) (q2_1 : Tx) (q8_1 : Bool) (q9_1 : Bool) (q0_1 : Int) (A16 : OA) (L16 C16 : Nat) (A17 : OA) (L17 C17 : Nat), qd.reader_prio_j2 (qd.reader_prio_l1 k r_ j) l__2 l__3 at__1 q1_1 q2_1 q8_1 q9_1 q0_1 = some o1 -> zT E [(0, pt b), (1, .agg (yX p1 A7 L7 C7).toArray), (4, sl A16 L16 C16)] (bR b A17 L17 C17 at__1 q1_1 q2_1 A2 L2 C2 A3 L3 C3 A4 L4 C4 A5 L5 C5 A6 L6 C6 q8_1 q9_1 q0_1 :: rW A16 L16 C16 61 2 zD l__2 :: r5 A2 L2 C2 A3 L3 C3 A4 L4 C4 A5 L5 C5 A6 L6 C6 r_.d) [fS A7 L7 C7 1 xj p1.Bytes, fS A17 L17 C17 11 zB l__3] N') (fun N2 hN2 => ?_) ?_
 refine zq (zf (cR (oV vM (oV (zL (enc := zD) l__ jF rfl (.r 6 _ rfl)) (oV vB (zb ?_))))))
 refine z8 (fun E N' => qd.reader_prio_j3 k v1 r_ l__ (qd.reader_prio_l1 k r_ j) = some o1 -> zT E [(0, pt b), (1, .agg (yX p1 A7 L7 C7).toArray), (4, sl A11 L11 C11)] (bQ b A15 L15 C15 A2 L2 C2 A3 L3 C3 A4 L4 C4 A5 L5 C5 A6 L6 C6 v1.2 :: rW A11 L11 C11 61 2 zD l__ :: r5 A2 L2 C2 A3 L3 C3 A4 L4 C4 A5 L5 C5 A6 L6 C6 r_.d) [fS A7 L7 C7 1 xj p1.Bytes, fS A15 L15 C15 11 zB v1.2.l_] N') (fun N3 hN3 => ?_) ?_
 refine cC hL1 (fun hL1 => ?_) (fun hL1 => ?_)
 refine zc hL1 fun h8 hL1 => wK (xs := v1.2.l_) (enc := zB) 0 rfl h8 rfl rfl fun A22 L22 C22 => zP (n := 11) [0, 0, 0, 0, 0, 0, 0] mixed rfl rfl (dv 0 rfl vM (dv 1 rfl vC (dv 2 rfl (vF 0) (dv 3 rfl (vL 0 qk) (dv 4 rfl vM (dv 5 rfl vC (dv 6 rfl (vF 1) (dv 7 rfl (vL 0 yz) (dv 8 rfl (zi (xs := v1.2.l_) (enc := zB) qu rfl rfl (.f 2 rfl) h8) (dv 9 rfl (yS 0 yJ rfl rfl rfl rfl rfl) (dO 10 rfl ?_)))))))))))
 obtain ⟨v3, h9, hL1⟩ := bd hL1
 rcases v3 with x_2 | y_2
 replace hL1 := zU hL1
 refine zV yE rfl (zy [1] rfl) (xk h9 :) rfl ?_
 rintro _ _ _ ⟨rfl, rfl, rfl⟩
 refine dN [0, 0, 0, 0, 0, 0, 0] 0 (dD ?_)
 exact sK [0, 5, 0, 0, 0, 0, 0] [3, 2] (hN3 hL1)
 replace hL1 := zH hL1
 refine zV yE rfl (zy [1] rfl) (xk h9 :) rfl ?_
 rintro _ _ _ ⟨rfl, rfl, rfl⟩
 cases hL1
 obtain rfl := zK hF
 exact sP
 refine zk ?_
 exact sK [0, 5, 0, 0, 0, 0, 0] [1, 0] (hN3 hL1)
 intro hL1
 unfold qd.reader_prio_j3 at hL1
 refine ze (zd (oV vM (oV vM ?_)))
 obtain ⟨v2, h4, hL1⟩ := bd hL1
 rcases v2 with x_1 | y_1
 replace hL1 := zU hL1
 refine yx [0, 1, 1, 1, 1, 1] call119 rfl rfl (zy [1] rfl) (tri119 h4 :) ?_
 rintro _ _ _ ⟨A18, L18, C18, A19, L19, C19, rfl, rfl, rfl⟩
 refine zF (enc := zD) ([x_1.1] : List zw) [iI x_1.1.Assoc, sl A18 L18 C18] jF rfl (fun _ => by kernel_rfl) rfl rfl rfl (.s rfl (.f 0 rfl (.nil))) rfl fun A20 L20 C20 => zc hL1 fun h5 hL1 => zc hL1 fun h6 hL1 => yf (enc := zD) (xs := l__) (ys := ([x_1.1] : List zw)) 7 jF rfl rfl rfl (.r 0 _ rfl) h5 h6 rfl fun A21 L21 C21 => oV vA (zh ?_)
 exact sK [1, 6, 1, 1, 1, 1, 1] [2, 1] (hN2 (l__ ++ ([x_1.1] : List zw)) x_1.2.l_ x_1.2.at_ x_1.2.d.Start x_1.2.d.Layout x_1.2.start x_1.2.layout x_1.2.items A21 L21 C21 A19 L19 C19 hL1)
 replace hL1 := zH hL1
 refine yx [0, 1, 1, 1, 1, 1] call119 rfl rfl (zy [1] rfl) (tri119 h4 :) ?_
 rintro _ _ _ ⟨rfl, rfl, rfl⟩
 cases hL1
 obtain rfl := zK hF
 exact sP
 intro l__2 l__3 at__1 q1_1 q2_1 q8_1 q9_1 q0_1 A16 L16 C16 A17 L17 C17 hL1
 unfold qd.reader_prio_j2 at hL1
 exact lp [0, 0, 0, 0, 0, 0, 0] [0, 1] fun a w hs => ⟨l__2, l__3, at__1, q1_1, q2_1, q8_1, q9_1, q0_1, A16, L16, C16, A17, L17, C17, hL1, hs⟩
 refine zW ?_
 cases hL1
 exact sK [0, 5, 0, 0, 0, 0, 0] [1, 0] (hN1 (l__, v1.2.l_, v1.2.at_, v1.2.d.Start, v1.2.d.Layout, v1.2.start, v1.2.layout, v1.2.items) A11 L11 C11 A15 L15 C15 rfl)
 intro d1 A13 L13 C13 A14 L14 C14 hd
 subst hd
 replace hF := yF hF
 refine ze (cR (oV vM ?_))
 obtain ⟨v4, h10, hF⟩ := bd hF
 rcases v4 with x_3 | y_3
 replace hF := zU hF
 refine yx [0, 1, 1, 1, 1, 1] xb rfl rfl (zy [1] rfl) (xJ h10 :) ?_
 rintro _ _ _ ⟨A23, L23, C23, rfl, rfl, rfl⟩
 refine zb (zd (oV vM (oV vM (oV vC ((fD 2) ((fD 5) (oV (vL 0 ty23) (oV vM (wj (yM 6 rfl) (zF (enc := (w8 2 zD)) ([d1.1] : List (List zw)) [sl A13 L13 C13] jx rfl (fun _ => by kernel_rfl) rfl rfl rfl (.f 0 rfl (.nil)) rfl ?_))))))))))
 intro A24 L24 C24
 refine zc hF fun h11 hF => zc hF fun h12 hF => yf (enc := (w8 2 zD)) (xs := r_.d.Chains) (ys := ([d1.1] : List (List zw))) 3 jx rfl rfl rfl (.r 0 _ rfl) h11 h12 rfl fun A25 L25 C25 => oV vC ((fD 2) ?_)
 refine (fD 5) ((sT 1 ty23) (zh ?_))
 cases hF
 refine xz rfl fun a w hs => zo hs [1, 1, 1, 1, 1, 1] ⟨A23, L23, C23, A25, L25, C25, rfl, rfl, rfl⟩ rfl (zy [1] rfl)
 replace hF := zH hF
 refine yx [0, 1, 1, 1, 1, 1] xb rfl rfl (zy [1] rfl) (xJ h10 :) ?_
 rintro _ _ _ ⟨rfl, rfl, rfl⟩
 cases hF
 exact sP
 replace hF := zH hF
 refine yx [1, 1, 1, 1, 1, 1] call119 rfl rfl (zy [0] rfl) (tri119 h1 :) ?_
 rintro _ _ _ ⟨rfl, rfl, rfl⟩
 cases hF
 exact sP
theorem tri85 {p0 : zg} {free : za} {b : Nat} {b1 : Nat} {r : Pn za Fault} (hF : qd.reader_all_c3 p0 free = some r) :
    xu Tryz.prog 85 [.agg (yX p0 A1 L1 C1).toArray, pt b1] (bQ b A2 L2 C2 A3 L3 C3 A4 L4 C4 A5 L5 C5 A6 L6 C6 A7 L7 C7 free :: (r5 A3 L3 C3 A4 L4 C4 A5 L5 C5 A6 L6 C6 A7 L7 C7 free.d ++ [.box b1 85 [pt b]])) [fS A1 L1 C1 1 xj p0.Bytes, fS A2 L2 C2 11 zB free.l_] (fun o H Φ => match (generalizing := false) r with | .ok r => (∃ (A16 : OA) (L16 C16 : Nat) (A17 : OA) (L17 C17 : Nat), o = .ret (.tuple #[]) /\ H = (bQ b A16 L16 C16 A3 L3 C3 A4 L4 C4 A17 L17 C17 A6 L6 C6 A7 L7 C7 r :: (r6 A3 L3 C3 A4 L4 C4 A17 L17 C17 A6 L6 C6 A7 L7 C7 free.d.Prods free.d.Chains r.d.Follows free.d.Rejects free.d.Boxes ++ [.box b1 85 [pt b]])) /\ Φ = [fS A16 L16 C16 11 zB r.l_]) | .pan y => o = .pan (.iface 37 (.agg #[iI y.At, iI y.Code])) /\ H = [] /\ Φ = []) := by
 unfold qd.reader_all_c3 at hF
 refine zt (n := 24) Tryz.func85 rfl Tryz.ntmps85 rfl fun w X => cR (xr rfl rfl rfl fun b2 => zb (cR (oV (vL 7 wg) ?_)))
 obtain ⟨v, h1, hF⟩ := bd hF
 rcases v with x_ | y_
 replace hF := zU hF
 refine yx [1, 1, 1, 1, 1, 1] yV rfl rfl (zy [1] rfl) (xw h1 :) ?_
 rintro _ _ _ ⟨A8, L8, C8, rfl, rfl, rfl⟩
 refine oV vA (zb (zf ?_))
 refine z8 (fun E N' => ∀ (l__ : List zg) (at__ : Int) (q1 : Tx) (q2 : Tx) (q5 : List Follow) (q8 : Bool) (q9 : Bool) (q0 : Int) (A9 : OA) (L9 C9 : Nat) (A10 : OA) (L10 C10 : Nat), qd.reader_all_c3_j1 free l__ at__ q1 q2 q5 q8 q9 q0 = some r -> zT E [(0, .agg (yX p0 A1 L1 C1).toArray), (1, pt b1)] (bR b A9 L9 C9 at__ q1 q2 A3 L3 C3 A4 L4 C4 A10 L10 C10 A6 L6 C6 A7 L7 C7 q8 q9 q0 :: .box b1 85 [pt b] :: r6 A3 L3 C3 A4 L4 C4 A10 L10 C10 A6 L6 C6 A7 L7 C7 free.d.Prods free.d.Chains q5 free.d.Rejects free.d.Boxes) [fS A1 L1 C1 1 xj p0.Bytes, fS A9 L9 C9 11 zB l__] N') (fun N1 hN1 => ?_) ?_
 refine zP (n := 17) [1, 1, 2, 2, 2, 2] mixed rfl rfl (dv 0 rfl (vL 5 wg) (dv 1 rfl (vL 5 wg) (dv 2 rfl vC (dv 3 rfl (vF 2) (dv 4 rfl (vF 6) (dv 6 rfl vM (dv 7 rfl (vL 5 wg) ?_)))))))
 refine wr [5, 8] (by kernel_rfl) (by simp) ⟨⟨_, rfl, ?_⟩, ⟨_, rfl, ?_⟩, trivial⟩
 refine oV (vL 0 gl) (dN [1, 1, 2, 2, 2, 2] 0 (dO 8 rfl ?_))
 obtain ⟨v2, h3, hF⟩ := bd hF
 rcases v2 with x_2 | y_2
 replace hF := zU hF
 refine yx [0, 0, 0, 0, 0, 0] wY rfl rfl (zy [0] rfl) (ky h3 :) ?_
 rintro _ _ _ ⟨A12, L12, C12, A13, L13, C13, rfl, rfl, rfl⟩
 refine dN [1, 1, 2, 2, 2, 2] 2 (dv 9 rfl (jP (v := .agg x_2.1.Set.vs.toArray) rfl (fun _ => by kernel_rfl)) (dv 10 rfl (we (v := .agg #[sV x_.1, iU x_2.1.Set.w0, iU x_2.1.Set.w1, iU x_2.1.Set.w2, iU x_2.1.Set.w3]) rfl (fun _ => by kernel_rfl)) (dO 11 rfl (zF (enc := z7) ([(Follow.mk x_.1 x_2.1.Set)] : List Follow) [sV x_.1, iU x_2.1.Set.w0, iU x_2.1.Set.w1, iU x_2.1.Set.w2, iU x_2.1.Set.w3] qw rfl (fun _ => by kernel_rfl) rfl rfl rfl (.s rfl (.s rfl (.s rfl (.s rfl (.s rfl (.nil)))))) rfl ?_))))
 intro A14 L14 C14
 refine dN [2, 2, 3, 3, 3, 3] 2 (dO 12 rfl (zc hF ?_))
 intro h4 hF
 refine zc hF fun h5 hF => yf (enc := z7) (xs := free.d.Follows) (ys := ([(Follow.mk x_.1 x_2.1.Set)] : List Follow)) 4 qw rfl rfl rfl (.r 0 _ rfl) h4 h5 rfl fun A15 L15 C15 => dN [2, 2, 3, 3, 3, 3] 2 (dv 13 rfl vC (dv 14 rfl (vF 2) (dv 15 rfl (vF 6) (dO 16 rfl ((sT 1 gl) ?_)))))
 refine dN [2, 2, 3, 3, 3, 3] 2 (dD ?_)
 exact sK [1, 7, 1, 1, 1, 1, 1] [3, 1] (hN1 x_2.2.l_ x_2.2.at_ x_2.2.d.Start x_2.2.d.Layout (free.d.Follows ++ ([(Follow.mk x_.1 x_2.1.Set)] : List Follow)) x_2.2.start x_2.2.layout x_2.2.items A13 L13 C13 A15 L15 C15 hF)
 replace hF := zH hF
 refine yx [0, 0, 0, 0, 0, 0] wY rfl rfl (zy [0] rfl) (ky h3 :) ?_
 rintro _ _ _ ⟨rfl, rfl, rfl⟩
 cases hF
 exact sP
 obtain ⟨v2, h3, hF⟩ := bd hF
 rcases v2 with x_2 | y_2
 replace hF := zU hF
 refine yx [0, 0, 0, 0, 0, 0] wY rfl rfl (zy [0] rfl) (ky h3 :) ?_
 rintro _ _ _ ⟨A12, L12, C12, A13, L13, C13, rfl, rfl, rfl⟩
 refine dN [1, 1, 2, 2, 2, 2] 2 (dv 9 rfl (jP (v := .agg x_2.1.Set.vs.toArray) rfl (fun _ => by kernel_rfl)) (dv 10 rfl (we (v := .agg #[sV x_.1, iU x_2.1.Set.w0, iU x_2.1.Set.w1, iU x_2.1.Set.w2, iU x_2.1.Set.w3]) rfl (fun _ => by kernel_rfl)) ?_))
 refine wr [5, 11] (by kernel_rfl) (by simp) ⟨⟨_, rfl, ?_⟩, ⟨_, rfl, ?_⟩, trivial⟩
 refine oV (vL 0 gl) (dN [1, 1, 2, 2, 2, 2] 2 (dO 11 rfl (zF (enc := z7) ([(Follow.mk x_.1 x_2.1.Set)] : List Follow) [sV x_.1, iU x_2.1.Set.w0, iU x_2.1.Set.w1, iU x_2.1.Set.w2, iU x_2.1.Set.w3] qw rfl (fun _ => by kernel_rfl) rfl rfl rfl (.s rfl (.s rfl (.s rfl (.s rfl (.s rfl (.nil)))))) rfl ?_)))
 intro A14 L14 C14
 refine dN [2, 2, 3, 3, 3, 3] 2 (dO 12 rfl (zc hF ?_))
 intro h4 hF
 refine zc hF fun h5 hF => yf (enc := z7) (xs := free.d.Follows) (ys := ([(Follow.mk x_.1 x_2.1.Set)] : List Follow)) 4 qw rfl rfl rfl (.r 0 _ rfl) h4 h5 rfl fun A15 L15 C15 => dN [2, 2, 3, 3, 3, 3] 2 (dv 13 rfl vC (dv 14 rfl (vF 2) (dv 15 rfl (vF 6) (dO 16 rfl ((sT 1 gl) (dN [2, 2, 3, 3, 3, 3] 2 ?_))))))
 refine dD ?_
 exact sK [1, 7, 1, 1, 1, 1, 1] [3, 1] (hN1 x_2.2.l_ x_2.2.at_ x_2.2.d.Start x_2.2.d.Layout (free.d.Follows ++ ([(Follow.mk x_.1 x_2.1.Set)] : List Follow)) x_2.2.start x_2.2.layout x_2.2.items A13 L13 C13 A15 L15 C15 hF)
 refine zF (enc := z7) ([(Follow.mk x_.1 x_2.1.Set)] : List Follow) [sV x_.1, iU x_2.1.Set.w0, iU x_2.1.Set.w1, iU x_2.1.Set.w2, iU x_2.1.Set.w3] qw rfl (fun _ => by kernel_rfl) rfl rfl rfl (.s rfl (.s rfl (.s rfl (.s rfl (.s rfl (.nil)))))) rfl fun A14 L14 C14 => dN [2, 2, 3, 3, 3, 3] 2 (dO 5 rfl (oV (vL 1 gl) (dN [2, 2, 3, 3, 3, 3] 2 (dO 12 rfl (zc hF ?_)))))
 intro h4 hF
 refine zc hF fun h5 hF => yf (enc := z7) (xs := free.d.Follows) (ys := ([(Follow.mk x_.1 x_2.1.Set)] : List Follow)) 4 qw rfl rfl rfl (.r 0 _ rfl) h4 h5 rfl fun A15 L15 C15 => dN [2, 2, 3, 3, 3, 3] 2 (dv 13 rfl vC (dv 14 rfl (vF 2) (dv 15 rfl (vF 6) (dO 16 rfl ((sT 1 gl) (dN [2, 2, 3, 3, 3, 3] 2 ?_))))))
 refine dD ?_
 exact sK [1, 7, 1, 1, 1, 1, 1] [3, 1] (hN1 x_2.2.l_ x_2.2.at_ x_2.2.d.Start x_2.2.d.Layout (free.d.Follows ++ ([(Follow.mk x_.1 x_2.1.Set)] : List Follow)) x_2.2.start x_2.2.layout x_2.2.items A13 L13 C13 A15 L15 C15 hF)
 replace hF := zH hF
 refine yx [0, 0, 0, 0, 0, 0] wY rfl rfl (zy [0] rfl) (ky h3 :) ?_
 rintro _ _ _ ⟨rfl, rfl, rfl⟩
 cases hF
 exact sP
 intro l__ at__ q1 q2 q5 q8 q9 q0 A9 L9 C9 A10 L10 C10 hF
 unfold qd.reader_all_c3_j1 at hF
 refine ze (zd (oV (vL 1 wg) ?_))
 obtain ⟨v1, h2, hF⟩ := bd hF
 rcases v1 with x_1 | y_1
 replace hF := zU hF
 refine yx [0, 1, 1, 1, 1, 1] xb rfl rfl (zy [1] rfl) (xJ h2 :) ?_
 rintro _ _ _ ⟨A11, L11, C11, rfl, rfl, rfl⟩
 refine zh ?_
 cases hF
 refine xz rfl fun a w hs => zo hs [0, 0, 0, 0, 0, 0, 0] ⟨A11, L11, C11, A10, L10, C10, rfl, rfl, rfl⟩ rfl (zy [0] rfl)
 replace hF := zH hF
 refine yx [0, 1, 1, 1, 1, 1] xb rfl rfl (zy [1] rfl) (xJ h2 :) ?_
 rintro _ _ _ ⟨rfl, rfl, rfl⟩
 cases hF
 exact sP
 replace hF := zH hF
 refine yx [1, 1, 1, 1, 1, 1] yV rfl rfl (zy [1] rfl) (xw h1 :) ?_
 rintro _ _ _ ⟨rfl, rfl, rfl⟩
 cases hF
 exact sP
theorem tri89 {p0 : zg} {free : za} {b : Nat} {b1 : Nat} {r : Pn za Fault} (hF : qd.reader_all_c4 p0 free = some r) :
    xu Tryz.prog 89 [.agg (yX p0 A1 L1 C1).toArray, pt b1] (bQ b A2 L2 C2 A3 L3 C3 A4 L4 C4 A5 L5 C5 A6 L6 C6 A7 L7 C7 free :: (r5 A3 L3 C3 A4 L4 C4 A5 L5 C5 A6 L6 C6 A7 L7 C7 free.d ++ [.box b1 85 [pt b]])) [fS A1 L1 C1 1 xj p0.Bytes, fS A2 L2 C2 11 zB free.l_] (fun o H Φ => match (generalizing := false) r with | .ok r => (∃ (A15 : OA) (L15 C15 : Nat) (A16 : OA) (L16 C16 : Nat), o = .ret (.tuple #[]) /\ H = (bQ b A15 L15 C15 A3 L3 C3 A4 L4 C4 A5 L5 C5 A16 L16 C16 A7 L7 C7 r :: (r6 A3 L3 C3 A4 L4 C4 A5 L5 C5 A16 L16 C16 A7 L7 C7 free.d.Prods free.d.Chains free.d.Follows r.d.Rejects free.d.Boxes ++ [.box b1 85 [pt b]])) /\ Φ = [fS A15 L15 C15 11 zB r.l_]) | .pan y => o = .pan (.iface 37 (.agg #[iI y.At, iI y.Code])) /\ H = [] /\ Φ = []) := by
 unfold qd.reader_all_c4 at hF
 refine zt (n := 23) Tryz.func89 rfl Tryz.ntmps89 rfl fun w X => cR (xr rfl rfl rfl fun b2 => zb (cR (oV (vL 7 wg) ?_)))
 obtain ⟨v, h1, hF⟩ := bd hF
 rcases v with x_ | y_
 replace hF := zU hF
 refine yx [1, 1, 1, 1, 1, 1] yV rfl rfl (zy [1] rfl) (xw h1 :) ?_
 rintro _ _ _ ⟨A8, L8, C8, rfl, rfl, rfl⟩
 refine oV vA (zb (zf ?_))
 refine z8 (fun E N' => ∀ (l__ : List zg) (at__ : Int) (q1 : Tx) (q2 : Tx) (q6 : List zz) (q8 : Bool) (q9 : Bool) (q0 : Int) (A9 : OA) (L9 C9 : Nat) (A10 : OA) (L10 C10 : Nat), qd.reader_all_c4_j1 free l__ at__ q1 q2 q6 q8 q9 q0 = some r -> zT E [(0, .agg (yX p0 A1 L1 C1).toArray), (1, pt b1)] (bR b A9 L9 C9 at__ q1 q2 A3 L3 C3 A4 L4 C4 A5 L5 C5 A10 L10 C10 A7 L7 C7 q8 q9 q0 :: .box b1 85 [pt b] :: r6 A3 L3 C3 A4 L4 C4 A5 L5 C5 A10 L10 C10 A7 L7 C7 free.d.Prods free.d.Chains free.d.Follows q6 free.d.Boxes) [fS A1 L1 C1 1 xj p0.Bytes, fS A9 L9 C9 11 zB l__] N') (fun N1 hN1 => ?_) ?_
 refine zP (n := 16) [1, 1, 1, 2, 2, 2] mixed rfl rfl (dv 0 rfl (vL 5 wg) (dv 1 rfl (vL 5 wg) (dv 2 rfl vC (dv 3 rfl (vF 2) (dv 4 rfl (vF 7) (dv 6 rfl vM (dv 7 rfl (vL 5 wg) ?_)))))))
 refine wr [5, 8] (by kernel_rfl) (by simp) ⟨⟨_, rfl, ?_⟩, ⟨_, rfl, ?_⟩, trivial⟩
 refine oV (vL 0 gk) (dN [1, 1, 1, 2, 2, 2] 0 (dO 8 rfl ?_))
 obtain ⟨v2, h3, hF⟩ := bd hF
 rcases v2 with x_2 | y_2
 replace hF := zU hF
 refine yx [0, 0, 0, 0, 0, 0] yV rfl rfl (zy [0] rfl) (xw h3 :) ?_
 rintro _ _ _ ⟨A12, L12, C12, rfl, rfl, rfl⟩
 refine dN [1, 1, 1, 2, 2, 2] 1 (dv 9 rfl (we (v := .agg #[sV x_.1, sV x_2.1]) rfl (fun _ => by kernel_rfl)) (dO 10 rfl (zF (enc := z6) ([(zz.mk x_.1 x_2.1)] : List zz) [sV x_.1, sV x_2.1] qv rfl (fun _ => by kernel_rfl) rfl rfl rfl (.s rfl (.s rfl (.nil))) rfl ?_)))
 intro A13 L13 C13
 refine dN [2, 2, 2, 3, 3, 3] 1 (dO 11 rfl (zc hF ?_))
 intro h4 hF
 refine zc hF fun h5 hF => yf (enc := z6) (xs := free.d.Rejects) (ys := ([(zz.mk x_.1 x_2.1)] : List zz)) 5 qv rfl rfl rfl (.r 0 _ rfl) h4 h5 rfl fun A14 L14 C14 => dN [2, 2, 2, 3, 3, 3] 1 (dv 12 rfl vC (dv 13 rfl (vF 2) (dv 14 rfl (vF 7) (dO 15 rfl ((sT 1 gk) (dN [2, 2, 2, 3, 3, 3] 1 ?_))))))
 refine dD ?_
 exact sK [1, 7, 1, 1, 1, 1, 1] [2, 0] (hN1 x_2.2.l_ x_2.2.at_ x_2.2.d.Start x_2.2.d.Layout (free.d.Rejects ++ ([(zz.mk x_.1 x_2.1)] : List zz)) x_2.2.start x_2.2.layout x_2.2.items A12 L12 C12 A14 L14 C14 hF)
 replace hF := zH hF
 refine yx [0, 0, 0, 0, 0, 0] yV rfl rfl (zy [0] rfl) (xw h3 :) ?_
 rintro _ _ _ ⟨rfl, rfl, rfl⟩
 cases hF
 exact sP
 obtain ⟨v2, h3, hF⟩ := bd hF
 rcases v2 with x_2 | y_2
 replace hF := zU hF
 refine yx [0, 0, 0, 0, 0, 0] yV rfl rfl (zy [0] rfl) (xw h3 :) ?_
 rintro _ _ _ ⟨A12, L12, C12, rfl, rfl, rfl⟩
 refine dN [1, 1, 1, 2, 2, 2] 1 (dv 9 rfl (we (v := .agg #[sV x_.1, sV x_2.1]) rfl (fun _ => by kernel_rfl)) ?_)
 refine wr [5, 10] (by kernel_rfl) (by simp) ⟨⟨_, rfl, ?_⟩, ⟨_, rfl, ?_⟩, trivial⟩
 refine oV (vL 0 gk) (dN [1, 1, 1, 2, 2, 2] 1 (dO 10 rfl (zF (enc := z6) ([(zz.mk x_.1 x_2.1)] : List zz) [sV x_.1, sV x_2.1] qv rfl (fun _ => by kernel_rfl) rfl rfl rfl (.s rfl (.s rfl (.nil))) rfl ?_)))
 intro A13 L13 C13
 refine dN [2, 2, 2, 3, 3, 3] 1 (dO 11 rfl (zc hF ?_))
 intro h4 hF
 refine zc hF fun h5 hF => yf (enc := z6) (xs := free.d.Rejects) (ys := ([(zz.mk x_.1 x_2.1)] : List zz)) 5 qv rfl rfl rfl (.r 0 _ rfl) h4 h5 rfl fun A14 L14 C14 => dN [2, 2, 2, 3, 3, 3] 1 (dv 12 rfl vC (dv 13 rfl (vF 2) (dv 14 rfl (vF 7) (dO 15 rfl ((sT 1 gk) (dN [2, 2, 2, 3, 3, 3] 1 ?_))))))
 refine dD ?_
 exact sK [1, 7, 1, 1, 1, 1, 1] [2, 0] (hN1 x_2.2.l_ x_2.2.at_ x_2.2.d.Start x_2.2.d.Layout (free.d.Rejects ++ ([(zz.mk x_.1 x_2.1)] : List zz)) x_2.2.start x_2.2.layout x_2.2.items A12 L12 C12 A14 L14 C14 hF)
 refine zF (enc := z6) ([(zz.mk x_.1 x_2.1)] : List zz) [sV x_.1, sV x_2.1] qv rfl (fun _ => by kernel_rfl) rfl rfl rfl (.s rfl (.s rfl (.nil))) rfl fun A13 L13 C13 => dN [2, 2, 2, 3, 3, 3] 1 (dO 5 rfl (oV (vL 1 gk) (dN [2, 2, 2, 3, 3, 3] 1 (dO 11 rfl (zc hF ?_)))))
 intro h4 hF
 refine zc hF fun h5 hF => yf (enc := z6) (xs := free.d.Rejects) (ys := ([(zz.mk x_.1 x_2.1)] : List zz)) 5 qv rfl rfl rfl (.r 0 _ rfl) h4 h5 rfl fun A14 L14 C14 => dN [2, 2, 2, 3, 3, 3] 1 (dv 12 rfl vC (dv 13 rfl (vF 2) (dv 14 rfl (vF 7) (dO 15 rfl ((sT 1 gk) (dN [2, 2, 2, 3, 3, 3] 1 ?_))))))
 refine dD ?_
 exact sK [1, 7, 1, 1, 1, 1, 1] [2, 0] (hN1 x_2.2.l_ x_2.2.at_ x_2.2.d.Start x_2.2.d.Layout (free.d.Rejects ++ ([(zz.mk x_.1 x_2.1)] : List zz)) x_2.2.start x_2.2.layout x_2.2.items A12 L12 C12 A14 L14 C14 hF)
 replace hF := zH hF
 refine yx [0, 0, 0, 0, 0, 0] yV rfl rfl (zy [0] rfl) (xw h3 :) ?_
 rintro _ _ _ ⟨rfl, rfl, rfl⟩
 cases hF
 exact sP
 intro l__ at__ q1 q2 q6 q8 q9 q0 A9 L9 C9 A10 L10 C10 hF
 unfold qd.reader_all_c4_j1 at hF
 refine ze (zd (oV (vL 1 wg) ?_))
 obtain ⟨v1, h2, hF⟩ := bd hF
 rcases v1 with x_1 | y_1
 replace hF := zU hF
 refine yx [0, 1, 1, 1, 1, 1] xb rfl rfl (zy [1] rfl) (xJ h2 :) ?_
 rintro _ _ _ ⟨A11, L11, C11, rfl, rfl, rfl⟩
 refine zh ?_
 cases hF
 refine xz rfl fun a w hs => zo hs [0, 0, 0, 0, 0, 0, 0] ⟨A11, L11, C11, A10, L10, C10, rfl, rfl, rfl⟩ rfl (zy [0] rfl)
 replace hF := zH hF
 refine yx [0, 1, 1, 1, 1, 1] xb rfl rfl (zy [1] rfl) (xJ h2 :) ?_
 rintro _ _ _ ⟨rfl, rfl, rfl⟩
 cases hF
 exact sP
 replace hF := zH hF
 refine yx [1, 1, 1, 1, 1, 1] yV rfl rfl (zy [1] rfl) (xw h1 :) ?_
 rintro _ _ _ ⟨rfl, rfl, rfl⟩
 cases hF
 exact sP
theorem tri91_B (k : Nat) (g120 : za -> Option (Pn (Item × Bool × za) Fault))
    (hg120 : P120 g120) {r_ : za} {b : Nat} {A1 : OA} {L1 C1 : Nat} {A2 : OA} {L2 C2 : Nat} {A3 : OA} {L3 C3 : Nat} {A4 : OA} {L4 C4 : Nat} {A5 : OA} {L5 C5 : Nat} {A6 : OA} {L6 C6 : Nat} {r : Pn (List Item × za) Fault} (hF : qd.reader_list_B k g120 r_ = some r) :
    xu Tryz.prog 91 [pt b] (bQ b A1 L1 C1 A2 L2 C2 A3 L3 C3 A4 L4 C4 A5 L5 C5 A6 L6 C6 r_ :: r5 A2 L2 C2 A3 L3 C3 A4 L4 C4 A5 L5 C5 A6 L6 C6 r_.d) [fS A1 L1 C1 11 zB r_.l_] (fun o H Φ => match (generalizing := false) r with | .ok r => (∃ (A13 : OA) (L13 C13 : Nat) (A14 : OA) (L14 C14 : Nat), o = .ret (sl A13 L13 C13) /\ H = (bQ b A14 L14 C14 A2 L2 C2 A3 L3 C3 A4 L4 C4 A5 L5 C5 A6 L6 C6 r.2 :: (r5 A2 L2 C2 A3 L3 C3 A4 L4 C4 A5 L5 C5 A6 L6 C6 r_.d ++ [rW A13 L13 C13 124 4 zR r.1])) /\ Φ = [fS A14 L14 C14 11 zB r.2.l_]) | .pan y => o = .pan (.iface 37 (.agg #[iI y.At, iI y.Code])) /\ H = [] /\ Φ = []) := by
 unfold qd.reader_list_B at hF
 refine zt (n := 18) Tryz.func91 rfl Tryz.ntmps91 rfl fun w X => cR (oV vA (zb (cR (oV vA (zb ?_)))))
 obtain ⟨o1, ho1, hF⟩ := bd hF
 refine zq ?_
 refine xG (fun E j a w => ∃ (out_ : List Item) (l__ : List zg) (at__ : Int) (q1 : Tx) (q2 : Tx) (q8 : Bool) (q9 : Bool) (q0 : Int) (A7 : OA) (L7 C7 : Nat) (A8 : OA) (L8 C8 : Nat), qd.reader_list_l1 g120 r_ j out_ l__ at__ q1 q2 q8 q9 q0 = some o1 /\ St E [(0, pt b), (2, nS), (3, sl A7 L7 C7)] (bR b A8 L8 C8 at__ q1 q2 A2 L2 C2 A3 L3 C3 A4 L4 C4 A5 L5 C5 A6 L6 C6 q8 q9 q0 :: rW A7 L7 C7 124 4 zR out_ :: r5 A2 L2 C2 A3 L3 C3 A4 L4 C4 A5 L5 C5 A6 L6 C6 r_.d) [fS A8 L8 C8 11 zB l__] a w) k ?_ ?_
 refine xP (ym 124 4) ?_
 exact lq [1, 0, 0, 0, 0, 0, 0] [0] fun a w hs => ⟨([] : List Item), r_.l_, r_.at_, r_.d.Start, r_.d.Layout, r_.start, r_.layout, r_.items, none, 0, 0, A1, L1, C1, ho1, hs⟩
 rintro j a w ⟨out_, l__, at__, q1, q2, q8, q9, q0, A7, L7, C7, A8, L8, C8, hL1, hs⟩
 rcases j with _ | j
 cases hL1
 refine yd hs ?_
 unfold qd.reader_list_l1 at hL1
 refine zq (cR (oV vM ?_))
 obtain ⟨v, h1, hL1⟩ := bd hL1
 rcases v with x_ | y_
 replace hL1 := zU hL1
 refine yx [0, 1, 1, 1, 1, 1] call120 rfl rfl (zy [0] rfl) (hg120 h1 :) ?_
 rintro _ _ _ ⟨A9, L9, C9, A10, L10, C10, rfl, rfl, rfl⟩
 refine oV vM (oV vX (oV vX (zC zero124 rfl rfl ?_)))
 intro b1
 refine (sT 0 vi) (oV vA (zb (zf (cR (oV vM (oV vN (zb ?_)))))))
 refine cC hL1 (fun hL1 => ?_) (fun hL1 => ?_)
 refine cR (oV vM (oV vA (zb (zp ?_))))
 cases hL1
 obtain rfl := zK hF
 refine yH rfl (zX rfl) fun a w hs => zo hs [1, 1, 1, 1, 1, 1, 1] ⟨A7, L7, C7, A10, L10, C10, rfl, rfl, rfl⟩ rfl (zy [1] rfl)
 refine zk (ze (zd (oV vM (oV (vL 0 vi) (zF (enc := zR) ([x_.1] : List Item) (vItem x_.1 A9 L9 C9) kT rfl (fun _ => by kernel_rfl) rfl rfl (by simp only [List.map, List.all, xD] <;> rfl) (cp_of (ds := [.int .i64 x_.1.Kind, .str x_.1.Text, .int .i64 x_.1.N_, .slice 4 (x_.1.Items.map zR)]) (by simp only [List.map, List.flatten, xD] <;> rfl) (.s rfl (.s rfl (.s rfl (.f 0 rfl (.nil)))))) rfl ?_)))))
 intro A11 L11 C11
 refine zc hL1 fun h3 hL1 => zc hL1 fun h4 hL1 => yf (enc := zR) (xs := out_) (ys := ([x_.1] : List Item)) 8 kT rfl rfl rfl (.r 0 _ rfl) h3 h4 rfl fun A12 L12 C12 => oV vA (zh ?_)
 exact lp [2, 7, 2, 2, 2, 2, 2] [1] fun a w hs => ⟨(out_ ++ ([x_.1] : List Item)), x_.2.2.l_, x_.2.2.at_, x_.2.2.d.Start, x_.2.2.d.Layout, x_.2.2.start, x_.2.2.layout, x_.2.2.items, A12, L12, C12, A10, L10, C10, hL1, hs⟩
 replace hL1 := zH hL1
 refine yx [0, 1, 1, 1, 1, 1] call120 rfl rfl (zy [0] rfl) (hg120 h1 :) ?_
 rintro _ _ _ ⟨rfl, rfl, rfl⟩
 cases hL1
 obtain rfl := zK hF
 exact sP
theorem tri120_B (k : Nat) (g135 : za -> Option (Pn (List Item × za) Fault))
    (hg135 : P135 g135) {r_ : za} {b : Nat} {A1 : OA} {L1 C1 : Nat} {A2 : OA} {L2 C2 : Nat} {A3 : OA} {L3 C3 : Nat} {A4 : OA} {L4 C4 : Nat} {A5 : OA} {L5 C5 : Nat} {A6 : OA} {L6 C6 : Nat} {r : Pn (Item × Bool × za) Fault} (hF : qd.reader_item_B k g135 r_ = some r) :
    xu Tryz.prog 120 [pt b] (bQ b A1 L1 C1 A2 L2 C2 A3 L3 C3 A4 L4 C4 A5 L5 C5 A6 L6 C6 r_ :: r5 A2 L2 C2 A3 L3 C3 A4 L4 C4 A5 L5 C5 A6 L6 C6 r_.d) [fS A1 L1 C1 11 zB r_.l_] (fun o H Φ => match (generalizing := false) r with | .ok r => (∃ (A21 : OA) (L21 C21 : Nat) (A22 : OA) (L22 C22 : Nat), o = .ret (.tuple #[.agg (vItem r.1 A21 L21 C21).toArray, bV r.2.1]) /\ H = (bQ b A22 L22 C22 A2 L2 C2 A3 L3 C3 A4 L4 C4 A5 L5 C5 A6 L6 C6 r.2.2 :: r5 A2 L2 C2 A3 L3 C3 A4 L4 C4 A5 L5 C5 A6 L6 C6 r_.d) /\ Φ = [fS A21 L21 C21 4 zR r.1.Items, fS A22 L22 C22 11 zB r.2.2.l_]) | .pan y => o = .pan (.iface 37 (.agg #[iI y.At, iI y.Code])) /\ H = [] /\ Φ = []) := by
 unfold qd.reader_item_B at hF
 refine zt (n := 104) Tryz.func120 rfl Tryz.ntmps120 rfl fun w X => cR (zC zero124 rfl rfl fun b1 => oV vA (zb (zf (zc hF ?_))))
 intro h1 hF
 refine wK (xs := r_.l_) (enc := zB) 0 rfl h1 rfl rfl fun A7 L7 C7 => zP (n := 12) [0, 0, 0, 0, 0, 0, 0] mixed rfl rfl (dv 0 rfl vM (dv 1 rfl vC (dv 2 rfl (vF 0) (dv 3 rfl (vL 1 qk) (dv 4 rfl vM (dv 5 rfl vC ?_))))))
 refine dv 6 rfl (vF 1) (dv 7 rfl (vL 1 yz) (dv 8 rfl (zi (xs := r_.l_) (enc := zB) qu rfl rfl (.f 2 rfl) h1) (dv 9 rfl (yS 0 yJ rfl rfl rfl rfl rfl) (dO 10 rfl (zC jd rfl rfl ?_)))))
 intro b2
 refine dN [1, 1, 1, 1, 1, 1, 1] 0 (dO 11 rfl ((sT 0 yJ) (dN [1, 1, 1, 1, 1, 1, 1] 0 (zG (by kernel_rfl) (zf (zf ?_))))))
 refine z8 (fun E N' => ∀ (t43 : Bool), qd.reader_item_j1 r_ g135 t43 = some r -> zT E [(0, pt b), (2, pt b1), (3, bV false), (4, pt b2), (43, bV t43)] (bQ b A1 L1 C1 A2 L2 C2 A3 L3 C3 A4 L4 C4 A5 L5 C5 A6 L6 C6 r_ :: .box b2 106 (yX (at_ r_.l_ r_.at_) A7 L7 C7) :: .box b1 124 [iI 0, sV ([] : Tx), iI 0, nS] :: r5 A2 L2 C2 A3 L3 C3 A4 L4 C4 A5 L5 C5 A6 L6 C6 r_.d) [fS A1 L1 C1 11 zB r_.l_, fS A7 L7 C7 1 xj ((at_ r_.l_ r_.at_).Bytes)] N') (fun N2 hN2 => ?_) ?_
 refine zd ((fD 0) (oV (vL 0 yz) (oV vB (oV vM ?_))))
 refine oS 19 hF (fun hF => ?_) (fun hF => ?_)
 refine oN ((fD 0) (oN (oV (vL 0 yz) (oN (oV vB (oV yt (oV vM ?_)))))))
 refine oS 24 hF (fun hF => ?_) (fun hF => ?_)
 refine oN (oV vM (oN ?_))
 obtain ⟨v9, h20, hF⟩ := bd hF
 refine yx [2, 2, 2, 2, 2, 2] qa rfl rfl (zy [2] rfl) (gC h20 :) ?_
 rintro _ _ _ ⟨rfl, rfl, rfl⟩
 refine oN (oV vN (oV yt (oV vM ?_)))
 refine oS 29 hF (fun hF => ?_) (fun hF => ?_)
 refine oN (oV vM (oN ?_))
 obtain ⟨v10, h22, hF⟩ := bd hF
 refine yx [0, 0, 0, 0, 0, 0] qa rfl rfl (zy [2] rfl) (gC h22 :) ?_
 rintro _ _ _ ⟨rfl, rfl, rfl⟩
 refine oN (oV vN (oV yt (oV vM ?_)))
 refine oS 34 hF (fun hF => ?_) (fun hF => ?_)
 refine oN (oV vM (oN ?_))
 obtain ⟨v11, h24, hF⟩ := bd hF
 refine yx [0, 0, 0, 0, 0, 0] qa rfl rfl (zy [2] rfl) (gC h24 :) ?_
 rintro _ _ _ ⟨rfl, rfl, rfl⟩
 refine oN (oV vN (oV yt (oV vM ?_)))
 refine oS 39 hF (fun hF => ?_) (fun hF => ?_)
 refine oN (oV vM (oN ?_))
 obtain ⟨v12, h26, hF⟩ := bd hF
 refine yx [0, 0, 0, 0, 0, 0] qa rfl rfl (zy [2] rfl) (gC h26 :) ?_
 rintro _ _ _ ⟨rfl, rfl, rfl⟩
 refine oN (oV vN (oV yt (zh ?_)))
 exact sK [0, 5, 5, 0, 0, 0, 0, 0] [2, 1] (hN2 (!v12) hF)
 refine oF (oF (oF (oV yj (zh ?_))))
 exact sK [0, 5, 5, 0, 0, 0, 0, 0] [2, 1] (hN2 false hF)
 refine oF (oF (oF (oV yj (oV vM (oF (oF (oF (oV yj (zh ?_)))))))))
 exact sK [0, 5, 5, 0, 0, 0, 0, 0] [2, 1] (hN2 false hF)
 refine oF (oF (oF (oV yj (oV vM (oF (oF (oF (oV yj (oV vM (oF (oF (oF (oV yj (zh ?_))))))))))))))
 exact sK [0, 5, 5, 0, 0, 0, 0, 0] [2, 1] (hN2 false hF)
 refine oF (oF (oF (oV yj (oV vM (oF (oF (oF (oV yj (oV vM (oF (oF (oF (oV yj (oV vM (oF ?_)))))))))))))))
 refine oF (oF (oV yj (zh ?_)))
 exact sK [2, 0, 0, 0, 0, 0, 0, 0] [2, 1] (hN2 false hF)
 refine oF (oF (oF (oV yj (oV vM (oF (oF (oF (oV yj (oV vM (oF (oF (oF (oV yj (oV vM (oF ?_)))))))))))))))
 refine oF (oF (oV yj (oV vM (oF (oF (oF (oV yj (zh ?_))))))))
 exact sK [2, 0, 0, 0, 0, 0, 0, 0] [2, 1] (hN2 false hF)
 intro t43 hF
 unfold qd.reader_item_j1 at hF
 refine ze ?_
 refine cC hF (fun hF => ?_) (fun hF => ?_)
 refine cR (oV (vU (.agg #[iI 0, sV ([] : Tx), iI 0, nS])) ((sT 2 vi) (oV vA (zb (zp ?_)))))
 cases hF
 refine xP (zN 4) (ye rfl (zM 2 rfl vi rfl rfl rfl rfl) (zX rfl) fun a w hs => zo hs [0, 2, 2, 2, 2, 2] ⟨none, 0, 0, A1, L1, C1, rfl, rfl, rfl⟩ rfl (zy [0, 1] rfl))
 refine zk (ze (zf (cR (oV vM (oV vC ((fD 11) (oV (vL 0 yz) (oV vB (zb ?_)))))))))
 refine cT (fun E H Φ N' => qd.reader_item_j2 r_ g135 = some r -> zT E [(0, pt b), (2, pt b1), (3, bV false), (4, pt b2)] H Φ N') (fun N2 hN2 => ?_) ?_
 refine cC hF (fun hF => ?_) (fun hF => ?_)
 refine zd (oV (vL 1 yJ) ?_)
 obtain ⟨v8, h17, hF⟩ := bd hF
 rcases v8 with x_5 | y_5
 replace hF := zU hF
 refine zV yE rfl (zy [1] rfl) (xk h17 :) rfl ?_
 rintro _ _ _ ⟨rfl, rfl, rfl⟩
 refine zh ?_
 exact sK [0, 0, 0, 0, 0, 0, 0, 0] [0, 1] (hN2 hF)
 replace hF := zH hF
 refine zV yE rfl (zy [1] rfl) (xk h17 :) rfl ?_
 rintro _ _ _ ⟨rfl, rfl, rfl⟩
 cases hF
 exact sP
 refine zk ?_
 exact sK [0, 0, 0, 0, 0, 0, 0, 0] [0, 1] (hN2 hF)
 intro hF
 unfold qd.reader_item_j2 at hF
 refine ze (cR (oV vM (oV vC ((fD 11) (oV (vL 0 yz) (oV vB (oV vC ((fD 11) ((sT 0 yz) (zb (zf (zq (cR ?_)))))))))))))
 refine (fD 0) (oV (vL 1 yz) (oV vB (oV vA (zb ?_))))
 refine cC hF (fun hF => ?_) (fun hF => ?_)
 refine cR (oV vM ?_)
 obtain ⟨v, h4, hF⟩ := bd hF
 rcases v with x_ | y_
 replace hF := zU hF
 refine yx [0, 2, 2, 2, 2, 2] wY rfl rfl (zy [0] rfl) (ky h4 :) ?_
 rintro _ _ _ ⟨A8, L8, C8, A9, L9, C9, rfl, rfl, rfl⟩
 refine oV (jP (v := sl A8 L8 C8) rfl (fun _ => by kernel_rfl)) (oV (kQ jS Tryz.underlying5 Tryz.underlying9 rfl (.f 0 rfl)) (oV (vU (.agg #[iI 1, sV (vj x_.1.Bytes), iI 0, nS])) ((sT 7 vi) (oV vA (zb (zp ?_))))))
 cases hF
 refine xP (zN 4) (ye rfl (zM 7 rfl vi rfl rfl rfl rfl) (zX rfl) fun a w hs => zo hs [0, 0, 0, 0, 0, 0] ⟨none, 0, 0, A9, L9, C9, rfl, rfl, rfl⟩ rfl (zy [0, 2] rfl))
 replace hF := zH hF
 refine yx [0, 2, 2, 2, 2, 2] wY rfl rfl (zy [0] rfl) (ky h4 :) ?_
 rintro _ _ _ ⟨rfl, rfl, rfl⟩
 cases hF
 exact sP
 refine cR ((fD 0) (oV (vL 1 yz) (oV vB (oV vA (zb ?_)))))
 refine cC hF (fun hF => ?_) (fun hF => ?_)
 refine cR (oV vM ?_)
 obtain ⟨v1, h6, hF⟩ := bd hF
 rcases v1 with x_1 | y_1
 replace hF := zU hF
 refine yx [0, 2, 2, 2, 2, 2] wY rfl rfl (zy [0] rfl) (ky h6 :) ?_
 rintro _ _ _ ⟨A10, L10, C10, A11, L11, C11, rfl, rfl, rfl⟩
 refine oV (jP (v := iI x_1.1.N_) rfl (fun _ => by kernel_rfl)) (oV (vU (.agg #[iI 2, sV ([] : Tx), iI x_1.1.N_, nS])) ((sT 7 vi) (oV vA (zb (zp ?_)))))
 cases hF
 refine xP (zN 4) (ye rfl (zM 7 rfl vi rfl rfl rfl rfl) (zX rfl) fun a w hs => zo hs [0, 0, 0, 0, 0, 0] ⟨none, 0, 0, A11, L11, C11, rfl, rfl, rfl⟩ rfl (zy [0, 2] rfl))
 replace hF := zH hF
 refine yx [0, 2, 2, 2, 2, 2] wY rfl rfl (zy [0] rfl) (ky h6 :) ?_
 rintro _ _ _ ⟨rfl, rfl, rfl⟩
 cases hF
 exact sP
 refine cR (oV vM ?_)
 obtain ⟨v2, h7, hF⟩ := bd hF
 refine yx [0, 2, 2, 2, 2, 2] wP rfl rfl (zy [0] rfl) (vJ h7 :) ?_
 rintro _ _ _ ⟨A12, L12, C12, rfl, rfl, rfl⟩
 refine oV vA (zb ?_)
 refine cC hF (fun hF => ?_) (fun hF => ?_)
 refine cR (oV (vU (.agg #[iI 3, sV ([] : Tx), iI 0, nS])) ((sT 7 vi) (oV vA (zb (zp ?_)))))
 cases hF
 refine xP (zN 4) (ye rfl (zM 7 rfl vi rfl rfl rfl rfl) (zX rfl) fun a w hs => zo hs [0, 0, 0, 0, 0, 0] ⟨none, 0, 0, A12, L12, C12, rfl, rfl, rfl⟩ rfl (zy [0, 1] rfl))
 refine cR (oV vM ?_)
 obtain ⟨v3, h9, hF⟩ := bd hF
 refine yx [0, 0, 0, 0, 0, 0] wP rfl rfl (zy [0] rfl) (vJ h9 :) ?_
 rintro _ _ _ ⟨A13, L13, C13, rfl, rfl, rfl⟩
 refine oV vA (zb ?_)
 refine cC hF (fun hF => ?_) (fun hF => ?_)
 refine cR (oV (vU (.agg #[iI 4, sV ([] : Tx), iI 0, nS])) ((sT 7 vi) (oV vA (zb (zp ?_)))))
 cases hF
 refine xP (zN 4) (ye rfl (zM 7 rfl vi rfl rfl rfl rfl) (zX rfl) fun a w hs => zo hs [0, 0, 0, 0, 0, 0] ⟨none, 0, 0, A13, L13, C13, rfl, rfl, rfl⟩ rfl (zy [0, 1] rfl))
 refine cR (oV vM ?_)
 obtain ⟨v4, h11, hF⟩ := bd hF
 refine yx [0, 0, 0, 0, 0, 0] wP rfl rfl (zy [0] rfl) (vJ h11 :) ?_
 rintro _ _ _ ⟨A14, L14, C14, rfl, rfl, rfl⟩
 refine oV vA (zb ?_)
 refine cC hF (fun hF => ?_) (fun hF => ?_)
 refine cR (oV vM ?_)
 obtain ⟨v5, h13, hF⟩ := bd hF
 rcases v5 with x_2 | y_2
 replace hF := zU hF
 refine yx [0, 0, 0, 0, 0, 0] wY rfl rfl (zy [0] rfl) (ky h13 :) ?_
 rintro _ _ _ ⟨A15, L15, C15, A16, L16, C16, rfl, rfl, rfl⟩
 refine oV (jP (v := iI x_2.1.N_) rfl (fun _ => by kernel_rfl)) (oV vA (zb (cR (oV vM (oV vM ?_)))))
 obtain ⟨v6, h14, hF⟩ := bd hF
 rcases v6 with x_3 | y_3
 replace hF := zU hF
 refine yx [0, 0, 0, 0, 0, 0] call135 rfl rfl (zy [1] rfl) (hg135 h14 :) ?_
 rintro _ _ _ ⟨A17, L17, C17, A18, L18, C18, rfl, rfl, rfl⟩
 refine oV (vU (.agg #[iI 5, sV ([] : Tx), iI x_2.1.N_, sl A17 L17 C17])) ((sT 8 vi) (oV vA (zb (zp ?_))))
 cases hF
 refine xP (yM 6 rfl) (ye rfl (zM 7 rfl vi rfl rfl rfl rfl) (zX rfl) fun a w hs => zo hs [0, 0, 0, 0, 0, 0] ⟨A17, L17, C17, A18, L18, C18, rfl, rfl, rfl⟩ rfl (zy [0, 1] rfl))
 replace hF := zH hF
 refine yx [0, 0, 0, 0, 0, 0] call135 rfl rfl (zy [1] rfl) (hg135 h14 :) ?_
 rintro _ _ _ ⟨rfl, rfl, rfl⟩
 cases hF
 exact sP
 replace hF := zH hF
 refine yx [0, 0, 0, 0, 0, 0] wY rfl rfl (zy [0] rfl) (ky h13 :) ?_
 rintro _ _ _ ⟨rfl, rfl, rfl⟩
 cases hF
 exact sP
 refine zk (ze (cR (oV vM (oV vC ((fD 1) (oV (vL 0 yz) (oV vB (oV vC ((fD 1) ((sT 0 yz) (zb (cR (oV vM ?_)))))))))))))
 obtain ⟨v7, h15, hF⟩ := bd hF
 rcases v7 with x_4 | y_4
 replace hF := zU hF
 refine yx [0, 0, 0, 0, 0, 0] call135 rfl rfl (zy [0] rfl) (hg135 h15 :) ?_
 rintro _ _ _ ⟨A19, L19, C19, A20, L20, C20, rfl, rfl, rfl⟩
 refine oV (vU (.agg #[iI 6, sV ([] : Tx), iI 0, sl A19 L19 C19])) ((sT 8 vi) (oV vA (zb (zp ?_))))
 cases hF
 refine xP (yM 6 rfl) (ye rfl (zM 7 rfl vi rfl rfl rfl rfl) (zX rfl) fun a w hs => zo hs [0, 0, 0, 0, 0, 0] ⟨A19, L19, C19, A20, L20, C20, rfl, rfl, rfl⟩ rfl (zy [0, 1] rfl))
 replace hF := zH hF
 refine yx [0, 0, 0, 0, 0, 0] call135 rfl rfl (zy [0] rfl) (hg135 h15 :) ?_
 rintro _ _ _ ⟨rfl, rfl, rfl⟩
 cases hF
 exact sP
theorem tri135_B (k : Nat) (g91 : za -> Option (Pn (List Item × za) Fault))
    (hg91 : P91 g91) {r_ : za} {b : Nat} {A1 : OA} {L1 C1 : Nat} {A2 : OA} {L2 C2 : Nat} {A3 : OA} {L3 C3 : Nat} {A4 : OA} {L4 C4 : Nat} {A5 : OA} {L5 C5 : Nat} {A6 : OA} {L6 C6 : Nat} {r : Pn (List Item × za) Fault} (hF : qd.reader_within_B k g91 r_ = some r) :
    xu Tryz.prog 135 [pt b] (bQ b A1 L1 C1 A2 L2 C2 A3 L3 C3 A4 L4 C4 A5 L5 C5 A6 L6 C6 r_ :: r5 A2 L2 C2 A3 L3 C3 A4 L4 C4 A5 L5 C5 A6 L6 C6 r_.d) [fS A1 L1 C1 11 zB r_.l_] (fun o H Φ => match (generalizing := false) r with | .ok r => (∃ (A11 : OA) (L11 C11 : Nat) (A12 : OA) (L12 C12 : Nat), o = .ret (sl A11 L11 C11) /\ H = (bQ b A12 L12 C12 A2 L2 C2 A3 L3 C3 A4 L4 C4 A5 L5 C5 A6 L6 C6 r.2 :: (r5 A2 L2 C2 A3 L3 C3 A4 L4 C4 A5 L5 C5 A6 L6 C6 r_.d ++ [rW A11 L11 C11 124 4 zR r.1])) /\ Φ = [fS A12 L12 C12 11 zB r.2.l_]) | .pan y => o = .pan (.iface 37 (.agg #[iI y.At, iI y.Code])) /\ H = [] /\ Φ = []) := by
 unfold qd.reader_within_B at hF
 refine zt (n := 11) Tryz.func135 rfl Tryz.ntmps135 rfl fun w X => cR (oV vA (zb (cR (oV vM ?_))))
 obtain ⟨v, h1, hF⟩ := bd hF
 rcases v with x_ | y_
 replace hF := zU hF
 refine yx [0, 0, 0, 0, 0, 0] xb rfl rfl (zy [0] rfl) (xJ h1 :) ?_
 rintro _ _ _ ⟨A7, L7, C7, rfl, rfl, rfl⟩
 refine zb (cR (oV vM ?_))
 obtain ⟨v1, h2, hF⟩ := bd hF
 rcases v1 with x_1 | y_1
 replace hF := zU hF
 refine yx [0, 0, 0, 0, 0, 0] call91 rfl rfl (zy [0] rfl) (hg91 h2 :) ?_
 rintro _ _ _ ⟨A8, L8, C8, A9, L9, C9, rfl, rfl, rfl⟩
 refine oV vA (zb (cR (oV vM ?_)))
 obtain ⟨v2, h3, hF⟩ := bd hF
 rcases v2 with x_2 | y_2
 replace hF := zU hF
 refine yx [0, 0, 0, 0, 0, 0] xb rfl rfl (zy [0] rfl) (xJ h3 :) ?_
 rintro _ _ _ ⟨A10, L10, C10, rfl, rfl, rfl⟩
 refine zb (cR (oV vM (oV vA (zb (zp ?_)))))
 cases hF
 refine yH rfl (zX rfl) fun a w hs => zo hs [0, 0, 0, 0, 0, 0, 0] ⟨A8, L8, C8, A10, L10, C10, rfl, rfl, rfl⟩ rfl (zy [0] rfl)
 replace hF := zH hF
 refine yx [0, 0, 0, 0, 0, 0] xb rfl rfl (zy [0] rfl) (xJ h3 :) ?_
 rintro _ _ _ ⟨rfl, rfl, rfl⟩
 cases hF
 exact sP
 replace hF := zH hF
 refine yx [0, 0, 0, 0, 0, 0] call91 rfl rfl (zy [0] rfl) (hg91 h2 :) ?_
 rintro _ _ _ ⟨rfl, rfl, rfl⟩
 cases hF
 exact sP
 replace hF := zH hF
 refine yx [0, 0, 0, 0, 0, 0] xb rfl rfl (zy [0] rfl) (xJ h1 :) ?_
 rintro _ _ _ ⟨rfl, rfl, rfl⟩
 cases hF
 exact sP
theorem tri91_G (k : Nat) : (P91 (qd.reader_list k)) /\ (P120 (qd.reader_item k)) /\ (P135 (qd.reader_within k)) := by
 induction k with
 | zero => exact ⟨(fun h => nomatch (show none = some _ from h)), (fun h => nomatch (show none = some _ from h)), (fun h => nomatch (show none = some _ from h))⟩
 | succ k ih => exact ⟨tri91_B k _ ih.2.1, tri120_B k _ ih.2.2, tri135_B k _ ih.1⟩
theorem tri91 {k : Nat} {r_ : za} {b : Nat} {A1 : OA} {L1 C1 : Nat} {A2 : OA} {L2 C2 : Nat} {A3 : OA} {L3 C3 : Nat} {A4 : OA} {L4 C4 : Nat} {A5 : OA} {L5 C5 : Nat} {A6 : OA} {L6 C6 : Nat} {r : Pn (List Item × za) Fault} (hF : qd.reader_list k r_ = some r) :
    xu Tryz.prog 91 [pt b] (bQ b A1 L1 C1 A2 L2 C2 A3 L3 C3 A4 L4 C4 A5 L5 C5 A6 L6 C6 r_ :: r5 A2 L2 C2 A3 L3 C3 A4 L4 C4 A5 L5 C5 A6 L6 C6 r_.d) [fS A1 L1 C1 11 zB r_.l_] (fun o H Φ => match (generalizing := false) r with | .ok r => (∃ (A13 : OA) (L13 C13 : Nat) (A14 : OA) (L14 C14 : Nat), o = .ret (sl A13 L13 C13) /\ H = (bQ b A14 L14 C14 A2 L2 C2 A3 L3 C3 A4 L4 C4 A5 L5 C5 A6 L6 C6 r.2 :: (r5 A2 L2 C2 A3 L3 C3 A4 L4 C4 A5 L5 C5 A6 L6 C6 r_.d ++ [rW A13 L13 C13 124 4 zR r.1])) /\ Φ = [fS A14 L14 C14 11 zB r.2.l_]) | .pan y => o = .pan (.iface 37 (.agg #[iI y.At, iI y.Code])) /\ H = [] /\ Φ = []) := (tri91_G k).1 hF
theorem tri90 {k : Nat} {p0 : zg} {free : za} {b : Nat} {b1 : Nat} {r : Pn za Fault} (hF : qd.reader_all_c5 k p0 free = some r) :
    xu Tryz.prog 90 [.agg (yX p0 A1 L1 C1).toArray, pt b1] (bQ b A2 L2 C2 A3 L3 C3 A4 L4 C4 A5 L5 C5 A6 L6 C6 A7 L7 C7 free :: (r5 A3 L3 C3 A4 L4 C4 A5 L5 C5 A6 L6 C6 A7 L7 C7 free.d ++ [.box b1 85 [pt b]])) [fS A1 L1 C1 1 xj p0.Bytes, fS A2 L2 C2 11 zB free.l_] (fun o H Φ => match (generalizing := false) r with | .ok r => (∃ (A15 : OA) (L15 C15 : Nat) (A16 : OA) (L16 C16 : Nat), o = .ret (.tuple #[]) /\ H = (bQ b A15 L15 C15 A3 L3 C3 A4 L4 C4 A5 L5 C5 A6 L6 C6 A16 L16 C16 r :: (r6 A3 L3 C3 A4 L4 C4 A5 L5 C5 A6 L6 C6 A16 L16 C16 free.d.Prods free.d.Chains free.d.Follows free.d.Rejects r.d.Boxes ++ [.box b1 85 [pt b]])) /\ Φ = [fS A15 L15 C15 11 zB r.l_]) | .pan y => o = .pan (.iface 37 (.agg #[iI y.At, iI y.Code])) /\ H = [] /\ Φ = []) := by
 unfold qd.reader_all_c5 at hF
 refine zt (n := 29) Tryz.func90 rfl Tryz.ntmps90 rfl fun w X => cR (xr rfl rfl rfl fun b2 => zb (cR (oV (vL 7 wg) ?_)))
 obtain ⟨v, h1, hF⟩ := bd hF
 rcases v with x_ | y_
 replace hF := zU hF
 refine yx [1, 1, 1, 1, 1, 1] yV rfl rfl (zy [1] rfl) (xw h1 :) ?_
 rintro _ _ _ ⟨A8, L8, C8, rfl, rfl, rfl⟩
 refine oV (vU (.agg #[sV x_.1, nS])) (zC zero64 rfl rfl ?_)
 intro b3
 refine (sT 0 ty64) (zb (cR (oV (vL 8 wg) ?_)))
 obtain ⟨v1, h2, hF⟩ := bd hF
 rcases v1 with x_1 | y_1
 replace hF := zU hF
 refine yx [1, 1, 1, 1, 1, 1] xb rfl rfl (zy [0] rfl) (xJ h2 :) ?_
 rintro _ _ _ ⟨A9, L9, C9, rfl, rfl, rfl⟩
 refine zb (cR (oV (vL 8 wg) (oV vC ((fD 11) ((sT 0 yz) (zb (cR (oV (vL 8 wg) ?_))))))))
 obtain ⟨v2, h3, hF⟩ := bd hF
 rcases v2 with x_2 | y_2
 replace hF := zU hF
 refine yx [0, 0, 0, 0, 0, 0] call91 rfl rfl (zy [0] rfl) (tri91 h3 :) ?_
 rintro _ _ _ ⟨A10, L10, C10, A11, L11, C11, rfl, rfl, rfl⟩
 refine (fD 1) ((sT 7 jQ) (zb (cR (oV (vL 9 wg) ?_))))
 obtain ⟨v3, h4, hF⟩ := bd hF
 rcases v3 with x_3 | y_3
 replace hF := zU hF
 refine yx [0, 0, 0, 0, 0, 0] xb rfl rfl (zy [0] rfl) (xJ h4 :) ?_
 rintro _ _ _ ⟨A12, L12, C12, rfl, rfl, rfl⟩
 refine zb (zP (n := 13) [1, 1, 1, 1, 4, 4] mixed rfl rfl (dv 0 rfl (vL 5 wg) (dv 1 rfl (vL 5 wg) (dv 2 rfl vC (dv 3 rfl (vF 2) (dv 4 rfl (vF 8) ?_))))))
 refine wr [5, 6] (by kernel_rfl) (by simp) ⟨⟨_, rfl, ?_⟩, ⟨_, rfl, ?_⟩, trivial⟩
 refine oV (vL 0 jC) (dN [1, 1, 1, 1, 4, 4] 0 (dO 6 rfl (oV (vL 7 ty64) (dN [1, 1, 1, 1, 4, 4] 0 (dO 7 rfl (wj (yM 6 rfl) (zF (enc := xq) ([(xm.mk x_.1 x_2.1)] : List xm) [sV x_.1, sl A10 L10 C10] jw rfl (fun _ => by kernel_rfl) rfl rfl rfl (.s rfl (.f 0 rfl (.nil))) rfl ?_)))))))
 intro A13 L13 C13
 refine dN [2, 2, 2, 2, 4, 4] 1 (dO 8 rfl (zc hF ?_))
 intro h5 hF
 refine zc hF fun h6 hF => yf (enc := xq) (xs := free.d.Boxes) (ys := ([(xm.mk x_.1 x_2.1)] : List xm)) 6 jw rfl rfl rfl (.r 0 _ rfl) h5 h6 rfl fun A14 L14 C14 => dN [2, 2, 2, 2, 4, 4] 1 (dv 9 rfl vC (dv 10 rfl (vF 2) ?_))
 refine dv 11 rfl (vF 8) (dO 12 rfl ((sT 1 jC) (dN [2, 2, 2, 2, 4, 4] 1 (dD ?_))))
 cases hF
 refine xz rfl fun a w hs => zo hs [1, 1, 1, 1, 1, 1, 3] ⟨A12, L12, C12, A14, L14, C14, rfl, rfl, rfl⟩ rfl (zy [1] rfl)
 refine oV (vL 7 ty64) (dN [1, 1, 1, 1, 4, 4] 0 ?_)
 refine wr [5, 7] (by kernel_rfl) (by simp) ⟨⟨_, rfl, ?_⟩, ⟨_, rfl, ?_⟩, trivial⟩
 refine oV (vL 0 jC) (dN [1, 1, 1, 1, 4, 4] 0 (dO 7 rfl (wj (yM 6 rfl) (zF (enc := xq) ([(xm.mk x_.1 x_2.1)] : List xm) [sV x_.1, sl A10 L10 C10] jw rfl (fun _ => by kernel_rfl) rfl rfl rfl (.s rfl (.f 0 rfl (.nil))) rfl ?_))))
 intro A13 L13 C13
 refine dN [2, 2, 2, 2, 4, 4] 1 (dO 8 rfl (zc hF ?_))
 intro h5 hF
 refine zc hF fun h6 hF => yf (enc := xq) (xs := free.d.Boxes) (ys := ([(xm.mk x_.1 x_2.1)] : List xm)) 6 jw rfl rfl rfl (.r 0 _ rfl) h5 h6 rfl fun A14 L14 C14 => dN [2, 2, 2, 2, 4, 4] 1 (dv 9 rfl vC (dv 10 rfl (vF 2) (dv 11 rfl (vF 8) (dO 12 rfl ((sT 1 jC) ?_)))))
 refine dN [2, 2, 2, 2, 4, 4] 1 (dD ?_)
 cases hF
 refine xz rfl fun a w hs => zo hs [1, 1, 1, 1, 1, 1, 3] ⟨A12, L12, C12, A14, L14, C14, rfl, rfl, rfl⟩ rfl (zy [1] rfl)
 refine wj (yM 6 rfl) (zF (enc := xq) ([(xm.mk x_.1 x_2.1)] : List xm) [sV x_.1, sl A10 L10 C10] jw rfl (fun _ => by kernel_rfl) rfl rfl rfl (.s rfl (.f 0 rfl (.nil))) rfl fun A13 L13 C13 => dN [2, 2, 2, 2, 4, 4] 1 (dO 5 rfl (oV (vL 1 jC) (dN [2, 2, 2, 2, 4, 4] 1 (dO 8 rfl (zc hF ?_))))))
 intro h5 hF
 refine zc hF fun h6 hF => yf (enc := xq) (xs := free.d.Boxes) (ys := ([(xm.mk x_.1 x_2.1)] : List xm)) 6 jw rfl rfl rfl (.r 0 _ rfl) h5 h6 rfl fun A14 L14 C14 => dN [2, 2, 2, 2, 4, 4] 1 (dv 9 rfl vC (dv 10 rfl (vF 2) (dv 11 rfl (vF 8) (dO 12 rfl ((sT 1 jC) ?_)))))
 refine dN [2, 2, 2, 2, 4, 4] 1 (dD ?_)
 cases hF
 refine xz rfl fun a w hs => zo hs [1, 1, 1, 1, 1, 1, 3] ⟨A12, L12, C12, A14, L14, C14, rfl, rfl, rfl⟩ rfl (zy [1] rfl)
 replace hF := zH hF
 refine yx [0, 0, 0, 0, 0, 0] xb rfl rfl (zy [0] rfl) (xJ h4 :) ?_
 rintro _ _ _ ⟨rfl, rfl, rfl⟩
 cases hF
 exact sP
 replace hF := zH hF
 refine yx [0, 0, 0, 0, 0, 0] call91 rfl rfl (zy [0] rfl) (tri91 h3 :) ?_
 rintro _ _ _ ⟨rfl, rfl, rfl⟩
 cases hF
 exact sP
 replace hF := zH hF
 refine yx [1, 1, 1, 1, 1, 1] xb rfl rfl (zy [0] rfl) (xJ h2 :) ?_
 rintro _ _ _ ⟨rfl, rfl, rfl⟩
 cases hF
 exact sP
 replace hF := zH hF
 refine yx [1, 1, 1, 1, 1, 1] yV rfl rfl (zy [1] rfl) (xw h1 :) ?_
 rintro _ _ _ ⟨rfl, rfl, rfl⟩
 cases hF
 exact sP
end Go.Vc
