import Derived.Test.YtdbnoblklhgdoaaGreatDoorW1
set_option linter.unusedVariables false
set_option linter.unusedSimpArgs false
set_option maxRecDepth 8000
set_option maxHeartbeats 2000000
namespace Go.Vc
open Go Go.Proofs
variable {A1 A2 A3 A4 A5 A6 A7 A8 A9 A10 A11 A12 A13 A14 A15 A16 A17 A18 A19 A20 A21 A22 A23 A24 A25 A26 A27 A28 A29 A30 A31 A32 A33 A34 A35 A36 A37 A38 A39 A40 A41 A42 A43 A44 A45 A46 : OA} {L1 C1 L2 C2 L3 C3 L4 C4 L5 C5 L6 C6 L7 C7 L8 C8 L9 C9 L10 C10 L11 C11 L12 C12 L13 C13 L14 C14 L15 C15 L16 C16 L17 C17 L18 C18 L19 C19 L20 C20 L21 C21 L22 C22 L23 C23 L24 C24 L25 C25 L26 C26 L27 C27 L28 C28 L29 C29 L30 C30 L31 C31 L32 C32 L33 C33 L34 C34 L35 C35 L36 C36 L37 C37 L38 C38 L39 C39 L40 C40 L41 C41 L42 C42 L43 C43 L44 C44 L45 C45 L46 C46 : Nat}
@[reducible] def P42 (g42 : List Item -> Int -> Option (Bool × Int)) : Prop := ∀ {l__ : List Item} {left : Int} {b : Nat} {A1 : OA} {L1 C1 : Nat} {r : Bool × Int}, g42 l__ left = some r -> xu Tryz.prog 42 [sl A1 L1 C1, pt b] [.box b 3 [iI left]] [fS A1 L1 C1 4 zR l__] (fun o H Φ => o = .ret (bV r.1) /\ H = [.box b 3 [iI r.2]] /\ Φ = [])
theorem tri38 {k : Nat} {r_ : za} {b : Nat} {r : Pn za Fault} (hF : qd.reader_all k r_ = some r) :
    xu Tryz.prog 38 [pt b] (bQ b A1 L1 C1 A2 L2 C2 A3 L3 C3 A4 L4 C4 A5 L5 C5 A6 L6 C6 r_ :: r5 A2 L2 C2 A3 L3 C3 A4 L4 C4 A5 L5 C5 A6 L6 C6 r_.d) [fS A1 L1 C1 11 zB r_.l_] (fun o H Φ => match (generalizing := false) r with | .ok r => (∃ (A41 : OA) (L41 C41 : Nat) (A42 : OA) (L42 C42 : Nat) (A43 : OA) (L43 C43 : Nat) (A44 : OA) (L44 C44 : Nat) (A45 : OA) (L45 C45 : Nat) (A46 : OA) (L46 C46 : Nat), o = .ret (.tuple #[]) /\ H = (bQ b A41 L41 C41 A42 L42 C42 A43 L43 C43 A44 L44 C44 A45 L45 C45 A46 L46 C46 r :: r5 A42 L42 C42 A43 L43 C43 A44 L44 C44 A45 L45 C45 A46 L46 C46 r.d) /\ Φ = [fS A41 L41 C41 11 zB r.l_]) | .pan y => o = .pan (.iface 37 (.agg #[iI y.At, iI y.Code])) /\ H = [] /\ Φ = []) := by
 unfold qd.reader_all at hF
 refine zt (n := 67) Tryz.func38 rfl Tryz.ntmps38 rfl fun w X => cR (xr rfl rfl rfl fun b1 => zb (cR (o_makeMap rfl fun b2 => oV (wD (vs := [pt b1]) rfl) (ke 0 (enc := strK) (eq := strE) (m := []) (m' := [(([115, 116, 97, 114, 116] : Tx), .func (.func 79) #[] #[pt b1])]) (k := ([115, 116, 97, 114, 116] : Tx)) Tryz.underlying138 (j5 Tryz.underlying9) rfl rfl rfl rfl (by kernel_rfl) (oV (wD (vs := [pt b1]) rfl) (ke 0 (enc := strK) (eq := strE) (m := [(([115, 116, 97, 114, 116] : Tx), .func (.func 79) #[] #[pt b1])]) (m' := [(([115, 116, 97, 114, 116] : Tx), .func (.func 79) #[] #[pt b1]), (([108, 97, 121, 111, 117, 116] : Tx), .func (.func 81) #[] #[pt b1])]) (k := ([108, 97, 121, 111, 117, 116] : Tx)) Tryz.underlying138 (j5 Tryz.underlying9) rfl rfl rfl rfl (by kernel_rfl) (oV (vL 1 wg) (oV (qq (vs := [pt b]) rfl) (ke 0 (enc := strK) (eq := strE) (m := [(([115, 116, 97, 114, 116] : Tx), .func (.func 79) #[] #[pt b1]), (([108, 97, 121, 111, 117, 116] : Tx), .func (.func 81) #[] #[pt b1])]) (m' := [(([115, 116, 97, 114, 116] : Tx), .func (.func 79) #[] #[pt b1]), (([108, 97, 121, 111, 117, 116] : Tx), .func (.func 81) #[] #[pt b1]), (([108, 101, 120] : Tx), .func (.func 82) #[pt b] #[])]) (k := ([108, 101, 120] : Tx)) Tryz.underlying138 (j5 Tryz.underlying9) rfl rfl rfl rfl (by kernel_rfl) (oV (vL 1 wg) ?_))))))))))
 refine oV (qq (vs := [pt b]) rfl) (ke 0 (enc := strK) (eq := strE) (m := [(([115, 116, 97, 114, 116] : Tx), .func (.func 79) #[] #[pt b1]), (([108, 97, 121, 111, 117, 116] : Tx), .func (.func 81) #[] #[pt b1]), (([108, 101, 120] : Tx), .func (.func 82) #[pt b] #[])]) (m' := [(([115, 116, 97, 114, 116] : Tx), .func (.func 79) #[] #[pt b1]), (([108, 97, 121, 111, 117, 116] : Tx), .func (.func 81) #[] #[pt b1]), (([108, 101, 120] : Tx), .func (.func 82) #[pt b] #[]), (([99, 102] : Tx), .func (.func 83) #[pt b] #[])]) (k := ([99, 102] : Tx)) Tryz.underlying138 (j5 Tryz.underlying9) rfl rfl rfl rfl (by kernel_rfl) (oV (vL 1 wg) (oV (qq (vs := [pt b]) rfl) (ke 0 (enc := strK) (eq := strE) (m := [(([115, 116, 97, 114, 116] : Tx), .func (.func 79) #[] #[pt b1]), (([108, 97, 121, 111, 117, 116] : Tx), .func (.func 81) #[] #[pt b1]), (([108, 101, 120] : Tx), .func (.func 82) #[pt b] #[]), (([99, 102] : Tx), .func (.func 83) #[pt b] #[])]) (m' := [(([115, 116, 97, 114, 116] : Tx), .func (.func 79) #[] #[pt b1]), (([108, 97, 121, 111, 117, 116] : Tx), .func (.func 81) #[] #[pt b1]), (([108, 101, 120] : Tx), .func (.func 82) #[pt b] #[]), (([99, 102] : Tx), .func (.func 83) #[pt b] #[]), (([112, 114, 105, 111] : Tx), .func (.func 84) #[pt b] #[])]) (k := ([112, 114, 105, 111] : Tx)) Tryz.underlying138 (j5 Tryz.underlying9) rfl rfl rfl rfl (by kernel_rfl) (oV (wD (vs := [pt b1]) rfl) (ke 0 (enc := strK) (eq := strE) (m := [(([115, 116, 97, 114, 116] : Tx), .func (.func 79) #[] #[pt b1]), (([108, 97, 121, 111, 117, 116] : Tx), .func (.func 81) #[] #[pt b1]), (([108, 101, 120] : Tx), .func (.func 82) #[pt b] #[]), (([99, 102] : Tx), .func (.func 83) #[pt b] #[]), (([112, 114, 105, 111] : Tx), .func (.func 84) #[pt b] #[])]) (m' := [(([115, 116, 97, 114, 116] : Tx), .func (.func 79) #[] #[pt b1]), (([108, 97, 121, 111, 117, 116] : Tx), .func (.func 81) #[] #[pt b1]), (([108, 101, 120] : Tx), .func (.func 82) #[pt b] #[]), (([99, 102] : Tx), .func (.func 83) #[pt b] #[]), (([112, 114, 105, 111] : Tx), .func (.func 84) #[pt b] #[]), (([102, 111, 108, 108, 111, 119] : Tx), .func (.func 85) #[] #[pt b1])]) (k := ([102, 111, 108, 108, 111, 119] : Tx)) Tryz.underlying138 (j5 Tryz.underlying9) rfl rfl rfl rfl (by kernel_rfl) (oV (wD (vs := [pt b1]) rfl) (ke 0 (enc := strK) (eq := strE) (m := [(([115, 116, 97, 114, 116] : Tx), .func (.func 79) #[] #[pt b1]), (([108, 97, 121, 111, 117, 116] : Tx), .func (.func 81) #[] #[pt b1]), (([108, 101, 120] : Tx), .func (.func 82) #[pt b] #[]), (([99, 102] : Tx), .func (.func 83) #[pt b] #[]), (([112, 114, 105, 111] : Tx), .func (.func 84) #[pt b] #[]), (([102, 111, 108, 108, 111, 119] : Tx), .func (.func 85) #[] #[pt b1])]) (m' := [(([115, 116, 97, 114, 116] : Tx), .func (.func 79) #[] #[pt b1]), (([108, 97, 121, 111, 117, 116] : Tx), .func (.func 81) #[] #[pt b1]), (([108, 101, 120] : Tx), .func (.func 82) #[pt b] #[]), (([99, 102] : Tx), .func (.func 83) #[pt b] #[]), (([112, 114, 105, 111] : Tx), .func (.func 84) #[pt b] #[]), (([102, 111, 108, 108, 111, 119] : Tx), .func (.func 85) #[] #[pt b1]), (([114, 101, 106, 101, 99, 116] : Tx), .func (.func 89) #[] #[pt b1])]) (k := ([114, 101, 106, 101, 99, 116] : Tx)) Tryz.underlying138 (j5 Tryz.underlying9) rfl rfl rfl rfl (by kernel_rfl) (oV (wD (vs := [pt b1]) rfl) (ke 0 (enc := strK) (eq := strE) (m := [(([115, 116, 97, 114, 116] : Tx), .func (.func 79) #[] #[pt b1]), (([108, 97, 121, 111, 117, 116] : Tx), .func (.func 81) #[] #[pt b1]), (([108, 101, 120] : Tx), .func (.func 82) #[pt b] #[]), (([99, 102] : Tx), .func (.func 83) #[pt b] #[]), (([112, 114, 105, 111] : Tx), .func (.func 84) #[pt b] #[]), (([102, 111, 108, 108, 111, 119] : Tx), .func (.func 85) #[] #[pt b1]), (([114, 101, 106, 101, 99, 116] : Tx), .func (.func 89) #[] #[pt b1])]) (m' := [(([115, 116, 97, 114, 116] : Tx), .func (.func 79) #[] #[pt b1]), (([108, 97, 121, 111, 117, 116] : Tx), .func (.func 81) #[] #[pt b1]), (([108, 101, 120] : Tx), .func (.func 82) #[pt b] #[]), (([99, 102] : Tx), .func (.func 83) #[pt b] #[]), (([112, 114, 105, 111] : Tx), .func (.func 84) #[pt b] #[]), (([102, 111, 108, 108, 111, 119] : Tx), .func (.func 85) #[] #[pt b1]), (([114, 101, 106, 101, 99, 116] : Tx), .func (.func 89) #[] #[pt b1]), (([98, 111, 120] : Tx), .func (.func 90) #[] #[pt b1])]) (k := ([98, 111, 120] : Tx)) Tryz.underlying138 (j5 Tryz.underlying9) rfl rfl rfl rfl (by kernel_rfl) (oV vM (oV vA (zb ?_)))))))))))))
 obtain ⟨o1, ho1, hF⟩ := bd hF
 refine z8 (fun E N' => ∀ (d1 : (List zg) × Int × Tx × Tx × (List Prod) × (List (List zw)) × (List Follow) × (List zz) × (List xm) × Bool × Bool × Int) (A13 : OA) (L13 C13 : Nat) (A14 : OA) (L14 C14 : Nat) (A15 : OA) (L15 C15 : Nat) (A16 : OA) (L16 C16 : Nat) (A17 : OA) (L17 C17 : Nat) (A18 : OA) (L18 C18 : Nat), o1 = .done d1 -> zT E [(0, pt b), (1, pt b1)] (.box b1 85 [pt b] :: bR b A13 L13 C13 d1.2.1 d1.2.2.1 d1.2.2.2.1 A14 L14 C14 A15 L15 C15 A16 L16 C16 A17 L17 C17 A18 L18 C18 d1.2.2.2.2.2.2.2.2.2.1 d1.2.2.2.2.2.2.2.2.2.2.1 d1.2.2.2.2.2.2.2.2.2.2.2 :: r6 A14 L14 C14 A15 L15 C15 A16 L16 C16 A17 L17 C17 A18 L18 C18 d1.2.2.2.2.1 d1.2.2.2.2.2.1 d1.2.2.2.2.2.2.1 d1.2.2.2.2.2.2.2.1 d1.2.2.2.2.2.2.2.2.1) [fS A13 L13 C13 11 zB d1.1] N') (fun N1 hN1 => ?_) ?_
 refine zq ?_
 refine xG (fun E j a w => ∃ (l__ : List zg) (at__ : Int) (q1 : Tx) (q2 : Tx) (q3 : List Prod) (q4 : List (List zw)) (q5 : List Follow) (q6 : List zz) (q7 : List xm) (q8 : Bool) (q9 : Bool) (q0 : Int) (A7 : OA) (L7 C7 : Nat) (A8 : OA) (L8 C8 : Nat) (A9 : OA) (L9 C9 : Nat) (A10 : OA) (L10 C10 : Nat) (A11 : OA) (L11 C11 : Nat) (A12 : OA) (L12 C12 : Nat), qd.reader_all_l1 k j l__ at__ q1 q2 q3 q4 q5 q6 q7 q8 q9 q0 = some o1 /\ St E [(0, pt b), (1, pt b1), (2, .map (some b2))] (.mp b2 (qA strK [(([115, 116, 97, 114, 116] : Tx), .func (.func 79) #[] #[pt b1]), (([108, 97, 121, 111, 117, 116] : Tx), .func (.func 81) #[] #[pt b1]), (([108, 101, 120] : Tx), .func (.func 82) #[pt b] #[]), (([99, 102] : Tx), .func (.func 83) #[pt b] #[]), (([112, 114, 105, 111] : Tx), .func (.func 84) #[pt b] #[]), (([102, 111, 108, 108, 111, 119] : Tx), .func (.func 85) #[] #[pt b1]), (([114, 101, 106, 101, 99, 116] : Tx), .func (.func 89) #[] #[pt b1]), (([98, 111, 120] : Tx), .func (.func 90) #[] #[pt b1])]) :: .box b1 85 [pt b] :: bR b A7 L7 C7 at__ q1 q2 A8 L8 C8 A9 L9 C9 A10 L10 C10 A11 L11 C11 A12 L12 C12 q8 q9 q0 :: r6 A8 L8 C8 A9 L9 C9 A10 L10 C10 A11 L11 C11 A12 L12 C12 q3 q4 q5 q6 q7) [fS A7 L7 C7 11 zB l__] a w) k ?_ ?_
 exact lq [0, 0, 0, 0, 0, 0, 0, 0] [0] fun a w hs => ⟨r_.l_, r_.at_, r_.d.Start, r_.d.Layout, r_.d.Prods, r_.d.Chains, r_.d.Follows, r_.d.Rejects, r_.d.Boxes, r_.start, r_.layout, r_.items, A1, L1, C1, A2, L2, C2, A3, L3, C3, A4, L4, C4, A5, L5, C5, A6, L6, C6, ho1, hs⟩
 rintro j a w ⟨l__, at__, q1, q2, q3, q4, q5, q6, q7, q8, q9, q0, A7, L7, C7, A8, L8, C8, A9, L9, C9, A10, L10, C10, A11, L11, C11, A12, L12, C12, hL1, hs⟩
 rcases j with _ | j
 cases hL1
 refine yd hs ?_
 unfold qd.reader_all_l1 at hL1
 refine zf (zf (zP (n := 12) [0, 0, 0, 0, 0, 0, 0, 0] mixed rfl rfl (dv 0 rfl (vL 1 wg) (dv 1 rfl vC (dv 2 rfl (vF 0) (dv 3 rfl (vL 2 qk) (dv 4 rfl (vL 1 wg) (dv 5 rfl vC (dv 6 rfl (vF 1) (dv 7 rfl (vL 2 yz) (zc hL1 ?_)))))))))))
 intro h1 hL1
 refine dv 8 rfl (zi (xs := l__) (enc := zB) qu rfl rfl (.f 0 rfl) h1) (dv 9 rfl (zI (v := .pointer (some ⟨yW A7, yZ A7 + (Int.toNat at__ * 11 + 0), none⟩)) rfl (fun _ => by kernel_rfl)) (dv 10 rfl (yc (xs := l__) (enc := zB) yz rfl (.f 0 rfl) h1 rfl rfl rfl rfl rfl rfl rfl) (dv 11 rfl vB ?_)))
 refine zG (by kernel_rfl) ?_
 refine cC hL1 (fun hL1 => ?_) (fun hL1 => ?_)
 refine zk (ze ?_)
 refine z8 (fun E N' => ∀ (l__1 : List zg) (at__1 : Int) (q1_1 : Tx) (q2_1 : Tx) (q3_1 : List Prod) (q4_1 : List (List zw)) (q5_1 : List Follow) (q6_1 : List zz) (q7_1 : List xm) (q8_1 : Bool) (q9_1 : Bool) (q0_1 : Int) (A19 : OA) (L19 C19 : Nat) (A20 : OA) (L20 C20 : Nat) (A21 : OA) (L21 C21 : Nat) (A22 : OA) (L22 C22 : Nat) (A23 : OA) (L23 C23 : Nat) (A24 : OA) (L24 C24 : Nat) (A25 : OA) (L25 C25 : Nat) (b3 : Nat), qd.reader_all_j2 (qd.reader_all_l1 k j) l__1 at__1 q1_1 q2_1 q3_1 q4_1 q5_1 q6_1 q7_1 q8_1 q9_1 q0_1 = some o1 -> zT E [(0, pt b), (1, pt b1), (2, .map (some b2)), (3, pt b3), (5, bV true)] (bR b A20 L20 C20 at__1 q1_1 q2_1 A21 L21 C21 A22 L22 C22 A23 L23 C23 A24 L24 C24 A25 L25 C25 q8_1 q9_1 q0_1 :: .box b1 85 [pt b] :: .mp b2 (qA strK [(([115, 116, 97, 114, 116] : Tx), .func (.func 79) #[] #[pt b1]), (([108, 97, 121, 111, 117, 116] : Tx), .func (.func 81) #[] #[pt b1]), (([108, 101, 120] : Tx), .func (.func 82) #[pt b] #[]), (([99, 102] : Tx), .func (.func 83) #[pt b] #[]), (([112, 114, 105, 111] : Tx), .func (.func 84) #[pt b] #[]), (([102, 111, 108, 108, 111, 119] : Tx), .func (.func 85) #[] #[pt b1]), (([114, 101, 106, 101, 99, 116] : Tx), .func (.func 89) #[] #[pt b1]), (([98, 111, 120] : Tx), .func (.func 90) #[] #[pt b1])]) :: .box b3 106 (yX (at_ l__ at__) A19 L19 C19) :: r6 A21 L21 C21 A22 L22 C22 A23 L23 C23 A24 L24 C24 A25 L25 C25 q3_1 q4_1 q5_1 q6_1 q7_1) [fS A20 L20 C20 11 zB l__1, fS A19 L19 C19 1 xj ((at_ l__ at__).Bytes)] N') (fun N2 hN2 => ?_) ?_
 refine zq (zf (wK (xs := l__) (enc := zB) 0 rfl h1 rfl rfl fun A26 L26 C26 => zP (n := 12) [0, 0, 0, 0, 0, 0, 0, 0] mixed rfl rfl (dv 0 rfl (vL 1 wg) (dv 1 rfl vC (dv 2 rfl (vF 0) (dv 3 rfl (vL 2 qk) (dv 4 rfl (vL 1 wg) (dv 5 rfl vC (dv 6 rfl (vF 1) (dv 7 rfl (vL 2 yz) (dv 8 rfl (zi (xs := l__) (enc := zB) qu rfl rfl (.f 2 rfl) h1) (dv 9 rfl (yS 0 yJ rfl rfl rfl rfl rfl) (dO 10 rfl (zC jd rfl rfl ?_))))))))))))))
 intro b4
 refine ?_
 refine dN [1, 1, 1, 1, 1, 1, 1, 1] 0 (dO 11 rfl ((sT 0 yJ) (dN [1, 1, 1, 1, 1, 1, 1, 1] 0 (zG (by kernel_rfl) (cR (oV vM ((fD 1) (oV (vL 0 xE) (o_lookK 1 (enc := strK) (eq := strE) (m := [(([115, 116, 97, 114, 116] : Tx), .func (.func 79) #[] #[pt b1]), (([108, 97, 121, 111, 117, 116] : Tx), .func (.func 81) #[] #[pt b1]), (([108, 101, 120] : Tx), .func (.func 82) #[pt b] #[]), (([99, 102] : Tx), .func (.func 83) #[pt b] #[]), (([112, 114, 105, 111] : Tx), .func (.func 84) #[pt b] #[]), (([102, 111, 108, 108, 111, 119] : Tx), .func (.func 85) #[] #[pt b1]), (([114, 101, 106, 101, 99, 116] : Tx), .func (.func 89) #[] #[pt b1]), (([98, 111, 120] : Tx), .func (.func 90) #[] #[pt b1])]) (k := ((at_ l__ at__).Text)) Tryz.underlying138 (j5 Tryz.underlying9) zero134 rfl rfl rfl rfl ?_)))))))))
 refine jm (fun h3 => ?_) (fun h3 => ?_)
 replace hL1 := (if_pos h3).symm.trans hL1
 refine oV vM (oV vX (oV vX (oV vA (oV vA (zb (zf (zf ?_)))))))
 refine cT (fun E H Φ N' => ∀ (t54 : Bool), qd.reader_all_j3 l__ at__ q1 q2 q3 q4 q5 q6 q7 q8 q9 q0 (qd.reader_all_l1 k j) t54 = some o1 -> zT E [(0, pt b), (1, pt b1), (2, .map (some b2)), (3, pt b4), (4, .func (.func 79) #[] #[pt b1]), (5, bV true), (54, bV t54)] H [fS A26 L26 C26 1 xj ((at_ l__ at__).Bytes), fS A7 L7 C7 11 zB l__] N') (fun N4 hN4 => ?_) ?_
 refine zd (oV vM (oV vN (oV vM ?_)))
 refine oS 50 hL1 (fun hL1 => ?_) (fun hL1 => ?_)
 refine oF (oF (oF (oV yt (zh ?_))))
 exact sK [0, 0, 0, 0, 0, 0, 0, 0, 0] [1, 2] (hN4 true hL1)
 refine oN ((fD 0) (oN (oV (vL 0 yz) (oN (oV vB (oV yj (zh ?_)))))))
 exact sK [0, 0, 0, 0, 0, 0, 0, 0, 0] [1, 2] (hN4 (((at_ l__ at__).Kind) != 2) hL1)
 intro t54 hL1
 unfold qd.reader_all_j3 at hL1
 refine ze ?_
 refine cT (fun E H Φ N' => qd.reader_all_j4 l__ at__ q1 q2 q3 q4 q5 q6 q7 q8 q9 q0 (qd.reader_all_l1 k j) = some o1 -> zT E [(0, pt b), (1, pt b1), (2, .map (some b2)), (3, pt b4), (4, .func (.func 79) #[] #[pt b1]), (5, bV true)] H Φ N') (fun N4 hN4 => ?_) ?_
 refine cC hL1 (fun hL1 => ?_) (fun hL1 => ?_)
 refine zd (oV (vL 0 yJ) ?_)
 obtain ⟨v1, h6, hL1⟩ := bd hL1
 rcases v1 with x_1 | y_1
 replace hL1 := zU hL1
 refine zV yE rfl (zy [0] rfl) (xk h6 :) rfl ?_
 rintro _ _ _ ⟨rfl, rfl, rfl⟩
 refine zh ?_
 exact sK [0, 0, 0, 0, 0, 0, 0, 0, 0] [0, 1] (hN4 hL1)
 replace hL1 := zH hL1
 refine zV yE rfl (zy [0] rfl) (xk h6 :) rfl ?_
 rintro _ _ _ ⟨rfl, rfl, rfl⟩
 cases hL1
 obtain rfl := zK hF
 exact sP
 refine zk ?_
 exact sK [0, 0, 0, 0, 0, 0, 0, 0, 0] [0, 1] (hN4 hL1)
 intro hL1
 unfold qd.reader_all_j4 at hL1
 refine ze (cR (oV (vL 2 wg) (oV vC ((fD 1) (oV (vL 3 yz) (oV vB (oV vC ((fD 1) ((sT 3 yz) (zb (zd (oV vM (oV (vL 0 yJ) ?_)))))))))))))
 obtain ⟨v, h4, hL1⟩ := bd hL1
 rcases v with x_ | y_
 replace hL1 := zU hL1
 refine xZ [3, 3, 3, 3, 3, 3, 2] call79 (cap := #[pt b1]) rfl rfl rfl (zy [0, 1] rfl) (by exact (tri79 h4 :)) rfl ?_
 rintro _ _ _ ⟨A27, L27, C27, rfl, rfl, rfl⟩
 refine zh ?_
 exact sK [0, 5, 6, 5, 0, 0, 0, 0, 0] [0, 1] (hN2 x_.l_ x_.at_ x_.d.Start x_.d.Layout q3 q4 q5 q6 q7 x_.start x_.layout x_.items A26 L26 C26 A27 L27 C27 A8 L8 C8 A9 L9 C9 A10 L10 C10 A11 L11 C11 A12 L12 C12 b4 hL1)
 replace hL1 := zH hL1
 refine xZ [3, 3, 3, 3, 3, 3, 2] call79 (cap := #[pt b1]) rfl rfl rfl (zy [0, 1] rfl) (by exact (tri79 h4 :)) rfl ?_
 rintro _ _ _ ⟨rfl, rfl, rfl⟩
 cases hL1
 obtain rfl := zK hF
 exact sP
 replace hL1 := (if_neg (Bool.eq_false_iff.1 h3)).symm.trans hL1
 refine jm (fun h8 => ?_) (fun h8 => ?_)
 replace hL1 := (if_pos h8).symm.trans hL1
 refine oV vM (oV vX (oV vX (oV vA (oV vA (zb (zf (zf ?_)))))))
 refine cT (fun E H Φ N' => ∀ (t541 : Bool), qd.reader_all_j5 l__ at__ q1 q2 q3 q4 q5 q6 q7 q8 q9 q0 (qd.reader_all_l1 k j) t541 = some o1 -> zT E [(0, pt b), (1, pt b1), (2, .map (some b2)), (3, pt b4), (4, .func (.func 81) #[] #[pt b1]), (5, bV true), (54, bV t541)] H [fS A26 L26 C26 1 xj ((at_ l__ at__).Bytes), fS A7 L7 C7 11 zB l__] N') (fun N6 hN6 => ?_) ?_
 refine zd (oV vM (oV vN (oV vM ?_)))
 refine oS 50 hL1 (fun hL1 => ?_) (fun hL1 => ?_)
 refine oF (oF (oF (oV yt (zh ?_))))
 exact sK [0, 0, 0, 0, 0, 0, 0, 0, 0] [1, 2] (hN6 true hL1)
 refine oN ((fD 0) (oN (oV (vL 0 yz) (oN (oV vB (oV yj (zh ?_)))))))
 exact sK [0, 0, 0, 0, 0, 0, 0, 0, 0] [1, 2] (hN6 (((at_ l__ at__).Kind) != 2) hL1)
 intro t541 hL1
 unfold qd.reader_all_j5 at hL1
 refine ze ?_
 refine cT (fun E H Φ N' => qd.reader_all_j6 l__ at__ q1 q2 q3 q4 q5 q6 q7 q8 q9 q0 (qd.reader_all_l1 k j) = some o1 -> zT E [(0, pt b), (1, pt b1), (2, .map (some b2)), (3, pt b4), (4, .func (.func 81) #[] #[pt b1]), (5, bV true)] H Φ N') (fun N6 hN6 => ?_) ?_
 refine cC hL1 (fun hL1 => ?_) (fun hL1 => ?_)
 refine zd (oV (vL 0 yJ) ?_)
 obtain ⟨v3, h11, hL1⟩ := bd hL1
 rcases v3 with x_3 | y_3
 replace hL1 := zU hL1
 refine zV yE rfl (zy [0] rfl) (xk h11 :) rfl ?_
 rintro _ _ _ ⟨rfl, rfl, rfl⟩
 refine zh ?_
 exact sK [0, 0, 0, 0, 0, 0, 0, 0, 0] [0, 1] (hN6 hL1)
 replace hL1 := zH hL1
 refine zV yE rfl (zy [0] rfl) (xk h11 :) rfl ?_
 rintro _ _ _ ⟨rfl, rfl, rfl⟩
 cases hL1
 obtain rfl := zK hF
 exact sP
 refine zk ?_
 exact sK [0, 0, 0, 0, 0, 0, 0, 0, 0] [0, 1] (hN6 hL1)
 intro hL1
 unfold qd.reader_all_j6 at hL1
 refine ze (cR (oV (vL 2 wg) (oV vC ((fD 1) (oV (vL 3 yz) (oV vB (oV vC ((fD 1) ((sT 3 yz) (zb (zd (oV vM (oV (vL 0 yJ) ?_)))))))))))))
 obtain ⟨v2, h9, hL1⟩ := bd hL1
 rcases v2 with x_2 | y_2
 replace hL1 := zU hL1
 refine xZ [3, 3, 3, 3, 3, 3, 2] call81 (cap := #[pt b1]) rfl rfl rfl (zy [0, 1] rfl) (by exact (tri81 h9 :)) rfl ?_
 rintro _ _ _ ⟨A28, L28, C28, rfl, rfl, rfl⟩
 refine zh ?_
 exact sK [0, 5, 6, 5, 0, 0, 0, 0, 0] [0, 1] (hN2 x_2.l_ x_2.at_ x_2.d.Start x_2.d.Layout q3 q4 q5 q6 q7 x_2.start x_2.layout x_2.items A26 L26 C26 A28 L28 C28 A8 L8 C8 A9 L9 C9 A10 L10 C10 A11 L11 C11 A12 L12 C12 b4 hL1)
 replace hL1 := zH hL1
 refine xZ [3, 3, 3, 3, 3, 3, 2] call81 (cap := #[pt b1]) rfl rfl rfl (zy [0, 1] rfl) (by exact (tri81 h9 :)) rfl ?_
 rintro _ _ _ ⟨rfl, rfl, rfl⟩
 cases hL1
 obtain rfl := zK hF
 exact sP
 replace hL1 := (if_neg (Bool.eq_false_iff.1 h8)).symm.trans hL1
 refine jm (fun h13 => ?_) (fun h13 => ?_)
 replace hL1 := (if_pos h13).symm.trans hL1
 refine oV vM (oV vX (oV vX (oV vA (oV vA (zb (zf (zf ?_)))))))
 refine cT (fun E H Φ N' => ∀ (t542 : Bool), qd.reader_all_j7 k l__ at__ q1 q2 q3 q4 q5 q6 q7 q8 q9 q0 (qd.reader_all_l1 k j) t542 = some o1 -> zT E [(0, pt b), (1, pt b1), (2, .map (some b2)), (3, pt b4), (4, .func (.func 82) #[pt b] #[]), (5, bV true), (54, bV t542)] H [fS A26 L26 C26 1 xj ((at_ l__ at__).Bytes), fS A7 L7 C7 11 zB l__] N') (fun N8 hN8 => ?_) ?_
 refine zd (oV vM (oV vN (oV vM ?_)))
 refine oS 50 hL1 (fun hL1 => ?_) (fun hL1 => ?_)
 refine oF (oF (oF (oV yt (zh ?_))))
 exact sK [0, 0, 0, 0, 0, 0, 0, 0, 0] [1, 2] (hN8 true hL1)
 refine oN ((fD 0) (oN (oV (vL 0 yz) (oN (oV vB (oV yj (zh ?_)))))))
 exact sK [0, 0, 0, 0, 0, 0, 0, 0, 0] [1, 2] (hN8 (((at_ l__ at__).Kind) != 2) hL1)
 intro t542 hL1
 unfold qd.reader_all_j7 at hL1
 refine ze ?_
 refine cT (fun E H Φ N' => qd.reader_all_j8 k l__ at__ q1 q2 q3 q4 q5 q6 q7 q8 q9 q0 (qd.reader_all_l1 k j) = some o1 -> zT E [(0, pt b), (1, pt b1), (2, .map (some b2)), (3, pt b4), (4, .func (.func 82) #[pt b] #[]), (5, bV true)] H Φ N') (fun N8 hN8 => ?_) ?_
 refine cC hL1 (fun hL1 => ?_) (fun hL1 => ?_)
 refine zd (oV (vL 0 yJ) ?_)
 obtain ⟨v5, h16, hL1⟩ := bd hL1
 rcases v5 with x_5 | y_5
 replace hL1 := zU hL1
 refine zV yE rfl (zy [0] rfl) (xk h16 :) rfl ?_
 rintro _ _ _ ⟨rfl, rfl, rfl⟩
 refine zh ?_
 exact sK [0, 0, 0, 0, 0, 0, 0, 0, 0] [0, 1] (hN8 hL1)
 replace hL1 := zH hL1
 refine zV yE rfl (zy [0] rfl) (xk h16 :) rfl ?_
 rintro _ _ _ ⟨rfl, rfl, rfl⟩
 cases hL1
 obtain rfl := zK hF
 exact sP
 refine zk ?_
 exact sK [0, 0, 0, 0, 0, 0, 0, 0, 0] [0, 1] (hN8 hL1)
 intro hL1
 unfold qd.reader_all_j8 at hL1
 refine ze (cR (oV (vL 2 wg) (oV vC ((fD 1) (oV (vL 3 yz) (oV vB (oV vC ((fD 1) ((sT 3 yz) (zb (zd (oV vM (oV (vL 0 yJ) ?_)))))))))))))
 obtain ⟨v4, h14, hL1⟩ := bd hL1
 rcases v4 with x_4 | y_4
 replace hL1 := zU hL1
 refine qU [3, 3, 3, 3, 3, 3] call82 (first := #[pt b]) (cap := #[]) rfl rfl rfl (zy [1, 0] rfl) (by exact (tri82 h14 :)) rfl ?_
 rintro _ _ _ ⟨A29, L29, C29, A30, L30, C30, rfl, rfl, rfl⟩
 refine zh ?_
 exact sK [0, 7, 6, 5, 0, 0, 0, 0, 0] [0, 1] (hN2 x_4.l_ x_4.at_ x_4.d.Start x_4.d.Layout x_4.d.Prods q4 q5 q6 q7 x_4.start x_4.layout x_4.items A26 L26 C26 A29 L29 C29 A30 L30 C30 A9 L9 C9 A10 L10 C10 A11 L11 C11 A12 L12 C12 b4 hL1)
 replace hL1 := zH hL1
 refine qU [3, 3, 3, 3, 3, 3] call82 (first := #[pt b]) (cap := #[]) rfl rfl rfl (zy [1, 0] rfl) (by exact (tri82 h14 :)) rfl ?_
 rintro _ _ _ ⟨rfl, rfl, rfl⟩
 cases hL1
 obtain rfl := zK hF
 exact sP
 replace hL1 := (if_neg (Bool.eq_false_iff.1 h13)).symm.trans hL1
 refine jm (fun h18 => ?_) (fun h18 => ?_)
 replace hL1 := (if_pos h18).symm.trans hL1
 refine oV vM (oV vX (oV vX (oV vA (oV vA (zb (zf (zf ?_)))))))
 refine cT (fun E H Φ N' => ∀ (t543 : Bool), qd.reader_all_j9 k l__ at__ q1 q2 q3 q4 q5 q6 q7 q8 q9 q0 (qd.reader_all_l1 k j) t543 = some o1 -> zT E [(0, pt b), (1, pt b1), (2, .map (some b2)), (3, pt b4), (4, .func (.func 83) #[pt b] #[]), (5, bV true), (54, bV t543)] H [fS A26 L26 C26 1 xj ((at_ l__ at__).Bytes), fS A7 L7 C7 11 zB l__] N') (fun N10 hN10 => ?_) ?_
 refine zd (oV vM (oV vN (oV vM ?_)))
 refine oS 50 hL1 (fun hL1 => ?_) (fun hL1 => ?_)
 refine oF (oF (oF (oV yt (zh ?_))))
 exact sK [0, 0, 0, 0, 0, 0, 0, 0, 0] [1, 2] (hN10 true hL1)
 refine oN ((fD 0) (oN (oV (vL 0 yz) (oN (oV vB (oV yj (zh ?_)))))))
 exact sK [0, 0, 0, 0, 0, 0, 0, 0, 0] [1, 2] (hN10 (((at_ l__ at__).Kind) != 2) hL1)
 intro t543 hL1
 unfold qd.reader_all_j9 at hL1
 refine ze ?_
 refine cT (fun E H Φ N' => qd.reader_all_j10 k l__ at__ q1 q2 q3 q4 q5 q6 q7 q8 q9 q0 (qd.reader_all_l1 k j) = some o1 -> zT E [(0, pt b), (1, pt b1), (2, .map (some b2)), (3, pt b4), (4, .func (.func 83) #[pt b] #[]), (5, bV true)] H Φ N') (fun N10 hN10 => ?_) ?_
 refine cC hL1 (fun hL1 => ?_) (fun hL1 => ?_)
 refine zd (oV (vL 0 yJ) ?_)
 obtain ⟨v7, h21, hL1⟩ := bd hL1
 rcases v7 with x_7 | y_7
 replace hL1 := zU hL1
 refine zV yE rfl (zy [0] rfl) (xk h21 :) rfl ?_
 rintro _ _ _ ⟨rfl, rfl, rfl⟩
 refine zh ?_
 exact sK [0, 0, 0, 0, 0, 0, 0, 0, 0] [0, 1] (hN10 hL1)
 replace hL1 := zH hL1
 refine zV yE rfl (zy [0] rfl) (xk h21 :) rfl ?_
 rintro _ _ _ ⟨rfl, rfl, rfl⟩
 cases hL1
 obtain rfl := zK hF
 exact sP
 refine zk ?_
 exact sK [0, 0, 0, 0, 0, 0, 0, 0, 0] [0, 1] (hN10 hL1)
 intro hL1
 unfold qd.reader_all_j10 at hL1
 refine ze (cR (oV (vL 2 wg) (oV vC ((fD 1) (oV (vL 3 yz) (oV vB (oV vC ((fD 1) ((sT 3 yz) (zb (zd (oV vM (oV (vL 0 yJ) ?_)))))))))))))
 obtain ⟨v6, h19, hL1⟩ := bd hL1
 rcases v6 with x_6 | y_6
 replace hL1 := zU hL1
 refine qU [3, 3, 3, 3, 3, 3] call83 (first := #[pt b]) (cap := #[]) rfl rfl rfl (zy [1, 0] rfl) (by exact (tri83 h19 :)) rfl ?_
 rintro _ _ _ ⟨A31, L31, C31, A32, L32, C32, rfl, rfl, rfl⟩
 refine zh ?_
 exact sK [0, 7, 6, 5, 0, 0, 0, 0, 0] [0, 1] (hN2 x_6.l_ x_6.at_ x_6.d.Start x_6.d.Layout x_6.d.Prods q4 q5 q6 q7 x_6.start x_6.layout x_6.items A26 L26 C26 A31 L31 C31 A32 L32 C32 A9 L9 C9 A10 L10 C10 A11 L11 C11 A12 L12 C12 b4 hL1)
 replace hL1 := zH hL1
 refine qU [3, 3, 3, 3, 3, 3] call83 (first := #[pt b]) (cap := #[]) rfl rfl rfl (zy [1, 0] rfl) (by exact (tri83 h19 :)) rfl ?_
 rintro _ _ _ ⟨rfl, rfl, rfl⟩
 cases hL1
 obtain rfl := zK hF
 exact sP
 replace hL1 := (if_neg (Bool.eq_false_iff.1 h18)).symm.trans hL1
 refine jm (fun h23 => ?_) (fun h23 => ?_)
 replace hL1 := (if_pos h23).symm.trans hL1
 refine oV vM (oV vX (oV vX (oV vA (oV vA (zb (zf (zf ?_)))))))
 refine cT (fun E H Φ N' => ∀ (t544 : Bool), qd.reader_all_j11 k l__ at__ q1 q2 q3 q4 q5 q6 q7 q8 q9 q0 (qd.reader_all_l1 k j) t544 = some o1 -> zT E [(0, pt b), (1, pt b1), (2, .map (some b2)), (3, pt b4), (4, .func (.func 84) #[pt b] #[]), (5, bV true), (54, bV t544)] H [fS A26 L26 C26 1 xj ((at_ l__ at__).Bytes), fS A7 L7 C7 11 zB l__] N') (fun N12 hN12 => ?_) ?_
 refine zd (oV vM (oV vN (oV vM ?_)))
 refine oS 50 hL1 (fun hL1 => ?_) (fun hL1 => ?_)
 refine oF (oF (oF (oV yt (zh ?_))))
 exact sK [0, 0, 0, 0, 0, 0, 0, 0, 0] [1, 2] (hN12 true hL1)
 refine oN ((fD 0) (oN (oV (vL 0 yz) (oN (oV vB (oV yj (zh ?_)))))))
 exact sK [0, 0, 0, 0, 0, 0, 0, 0, 0] [1, 2] (hN12 (((at_ l__ at__).Kind) != 2) hL1)
 intro t544 hL1
 unfold qd.reader_all_j11 at hL1
 refine ze ?_
 refine cT (fun E H Φ N' => qd.reader_all_j12 k l__ at__ q1 q2 q3 q4 q5 q6 q7 q8 q9 q0 (qd.reader_all_l1 k j) = some o1 -> zT E [(0, pt b), (1, pt b1), (2, .map (some b2)), (3, pt b4), (4, .func (.func 84) #[pt b] #[]), (5, bV true)] H Φ N') (fun N12 hN12 => ?_) ?_
 refine cC hL1 (fun hL1 => ?_) (fun hL1 => ?_)
 refine zd (oV (vL 0 yJ) ?_)
 obtain ⟨v9, h26, hL1⟩ := bd hL1
 rcases v9 with x_9 | y_9
 replace hL1 := zU hL1
 refine zV yE rfl (zy [0] rfl) (xk h26 :) rfl ?_
 rintro _ _ _ ⟨rfl, rfl, rfl⟩
 refine zh ?_
 exact sK [0, 0, 0, 0, 0, 0, 0, 0, 0] [0, 1] (hN12 hL1)
 replace hL1 := zH hL1
 refine zV yE rfl (zy [0] rfl) (xk h26 :) rfl ?_
 rintro _ _ _ ⟨rfl, rfl, rfl⟩
 cases hL1
 obtain rfl := zK hF
 exact sP
 refine zk ?_
 exact sK [0, 0, 0, 0, 0, 0, 0, 0, 0] [0, 1] (hN12 hL1)
 intro hL1
 unfold qd.reader_all_j12 at hL1
 refine ze (cR (oV (vL 2 wg) (oV vC ((fD 1) (oV (vL 3 yz) (oV vB (oV vC ((fD 1) ((sT 3 yz) (zb (zd (oV vM (oV (vL 0 yJ) ?_)))))))))))))
 obtain ⟨v8, h24, hL1⟩ := bd hL1
 rcases v8 with x_8 | y_8
 replace hL1 := zU hL1
 refine qU [3, 3, 3, 3, 3, 3] call84 (first := #[pt b]) (cap := #[]) rfl rfl rfl (zy [1, 0] rfl) (by exact (tri84 h24 :)) rfl ?_
 rintro _ _ _ ⟨A33, L33, C33, A34, L34, C34, rfl, rfl, rfl⟩
 refine zh ?_
 exact sK [0, 7, 6, 5, 0, 0, 0, 0, 0] [0, 1] (hN2 x_8.l_ x_8.at_ x_8.d.Start x_8.d.Layout q3 x_8.d.Chains q5 q6 q7 x_8.start x_8.layout x_8.items A26 L26 C26 A33 L33 C33 A8 L8 C8 A34 L34 C34 A10 L10 C10 A11 L11 C11 A12 L12 C12 b4 hL1)
 replace hL1 := zH hL1
 refine qU [3, 3, 3, 3, 3, 3] call84 (first := #[pt b]) (cap := #[]) rfl rfl rfl (zy [1, 0] rfl) (by exact (tri84 h24 :)) rfl ?_
 rintro _ _ _ ⟨rfl, rfl, rfl⟩
 cases hL1
 obtain rfl := zK hF
 exact sP
 replace hL1 := (if_neg (Bool.eq_false_iff.1 h23)).symm.trans hL1
 refine jm (fun h28 => ?_) (fun h28 => ?_)
 replace hL1 := (if_pos h28).symm.trans hL1
 refine oV vM (oV vX (oV vX (oV vA (oV vA (zb (zf (zf ?_)))))))
 refine cT (fun E H Φ N' => ∀ (t545 : Bool), qd.reader_all_j13 l__ at__ q1 q2 q3 q4 q5 q6 q7 q8 q9 q0 (qd.reader_all_l1 k j) t545 = some o1 -> zT E [(0, pt b), (1, pt b1), (2, .map (some b2)), (3, pt b4), (4, .func (.func 85) #[] #[pt b1]), (5, bV true), (54, bV t545)] H [fS A26 L26 C26 1 xj ((at_ l__ at__).Bytes), fS A7 L7 C7 11 zB l__] N') (fun N14 hN14 => ?_) ?_
 refine zd (oV vM (oV vN (oV vM ?_)))
 refine oS 50 hL1 (fun hL1 => ?_) (fun hL1 => ?_)
 refine oF (oF (oF (oV yt (zh ?_))))
 exact sK [0, 0, 0, 0, 0, 0, 0, 0, 0] [1, 2] (hN14 true hL1)
 refine oN ((fD 0) (oN (oV (vL 0 yz) (oN (oV vB (oV yj (zh ?_)))))))
 exact sK [0, 0, 0, 0, 0, 0, 0, 0, 0] [1, 2] (hN14 (((at_ l__ at__).Kind) != 2) hL1)
 intro t545 hL1
 unfold qd.reader_all_j13 at hL1
 refine ze ?_
 refine cT (fun E H Φ N' => qd.reader_all_j14 l__ at__ q1 q2 q3 q4 q5 q6 q7 q8 q9 q0 (qd.reader_all_l1 k j) = some o1 -> zT E [(0, pt b), (1, pt b1), (2, .map (some b2)), (3, pt b4), (4, .func (.func 85) #[] #[pt b1]), (5, bV true)] H Φ N') (fun N14 hN14 => ?_) ?_
 refine cC hL1 (fun hL1 => ?_) (fun hL1 => ?_)
 refine zd (oV (vL 0 yJ) ?_)
 obtain ⟨v11, h31, hL1⟩ := bd hL1
 rcases v11 with x_11 | y_11
 replace hL1 := zU hL1
 refine zV yE rfl (zy [0] rfl) (xk h31 :) rfl ?_
 rintro _ _ _ ⟨rfl, rfl, rfl⟩
 refine zh ?_
 exact sK [0, 0, 0, 0, 0, 0, 0, 0, 0] [0, 1] (hN14 hL1)
 replace hL1 := zH hL1
 refine zV yE rfl (zy [0] rfl) (xk h31 :) rfl ?_
 rintro _ _ _ ⟨rfl, rfl, rfl⟩
 cases hL1
 obtain rfl := zK hF
 exact sP
 refine zk ?_
 exact sK [0, 0, 0, 0, 0, 0, 0, 0, 0] [0, 1] (hN14 hL1)
 intro hL1
 unfold qd.reader_all_j14 at hL1
 refine ze (cR (oV (vL 2 wg) (oV vC ((fD 1) (oV (vL 3 yz) (oV vB (oV vC ((fD 1) ((sT 3 yz) (zb (zd (oV vM (oV (vL 0 yJ) ?_)))))))))))))
 obtain ⟨v10, h29, hL1⟩ := bd hL1
 rcases v10 with x_10 | y_10
 replace hL1 := zU hL1
 refine xZ [3, 3, 3, 3, 3, 3, 2] call85 (cap := #[pt b1]) rfl rfl rfl (zy [0, 1] rfl) (by exact (tri85 h29 :)) rfl ?_
 rintro _ _ _ ⟨A35, L35, C35, A36, L36, C36, rfl, rfl, rfl⟩
 refine zh ?_
 exact sK [0, 5, 6, 5, 0, 0, 0, 0, 0] [0, 1] (hN2 x_10.l_ x_10.at_ x_10.d.Start x_10.d.Layout q3 q4 x_10.d.Follows q6 q7 x_10.start x_10.layout x_10.items A26 L26 C26 A35 L35 C35 A8 L8 C8 A9 L9 C9 A36 L36 C36 A11 L11 C11 A12 L12 C12 b4 hL1)
 replace hL1 := zH hL1
 refine xZ [3, 3, 3, 3, 3, 3, 2] call85 (cap := #[pt b1]) rfl rfl rfl (zy [0, 1] rfl) (by exact (tri85 h29 :)) rfl ?_
 rintro _ _ _ ⟨rfl, rfl, rfl⟩
 cases hL1
 obtain rfl := zK hF
 exact sP
 replace hL1 := (if_neg (Bool.eq_false_iff.1 h28)).symm.trans hL1
 refine jm (fun h33 => ?_) (fun h33 => ?_)
 replace hL1 := (if_pos h33).symm.trans hL1
 refine oV vM (oV vX (oV vX (oV vA (oV vA (zb (zf (zf ?_)))))))
 refine cT (fun E H Φ N' => ∀ (t546 : Bool), qd.reader_all_j15 l__ at__ q1 q2 q3 q4 q5 q6 q7 q8 q9 q0 (qd.reader_all_l1 k j) t546 = some o1 -> zT E [(0, pt b), (1, pt b1), (2, .map (some b2)), (3, pt b4), (4, .func (.func 89) #[] #[pt b1]), (5, bV true), (54, bV t546)] H [fS A26 L26 C26 1 xj ((at_ l__ at__).Bytes), fS A7 L7 C7 11 zB l__] N') (fun N16 hN16 => ?_) ?_
 refine zd (oV vM (oV vN (oV vM ?_)))
 refine oS 50 hL1 (fun hL1 => ?_) (fun hL1 => ?_)
 refine oF (oF (oF (oV yt (zh ?_))))
 exact sK [0, 0, 0, 0, 0, 0, 0, 0, 0] [1, 2] (hN16 true hL1)
 refine oN ((fD 0) (oN (oV (vL 0 yz) (oN (oV vB (oV yj (zh ?_)))))))
 exact sK [0, 0, 0, 0, 0, 0, 0, 0, 0] [1, 2] (hN16 (((at_ l__ at__).Kind) != 2) hL1)
 intro t546 hL1
 unfold qd.reader_all_j15 at hL1
 refine ze ?_
 refine cT (fun E H Φ N' => qd.reader_all_j16 l__ at__ q1 q2 q3 q4 q5 q6 q7 q8 q9 q0 (qd.reader_all_l1 k j) = some o1 -> zT E [(0, pt b), (1, pt b1), (2, .map (some b2)), (3, pt b4), (4, .func (.func 89) #[] #[pt b1]), (5, bV true)] H Φ N') (fun N16 hN16 => ?_) ?_
 refine cC hL1 (fun hL1 => ?_) (fun hL1 => ?_)
 refine zd (oV (vL 0 yJ) ?_)
 obtain ⟨v13, h36, hL1⟩ := bd hL1
 rcases v13 with x_13 | y_13
 replace hL1 := zU hL1
 refine zV yE rfl (zy [0] rfl) (xk h36 :) rfl ?_
 rintro _ _ _ ⟨rfl, rfl, rfl⟩
 refine zh ?_
 exact sK [0, 0, 0, 0, 0, 0, 0, 0, 0] [0, 1] (hN16 hL1)
 replace hL1 := zH hL1
 refine zV yE rfl (zy [0] rfl) (xk h36 :) rfl ?_
 rintro _ _ _ ⟨rfl, rfl, rfl⟩
 cases hL1
 obtain rfl := zK hF
 exact sP
 refine zk ?_
 exact sK [0, 0, 0, 0, 0, 0, 0, 0, 0] [0, 1] (hN16 hL1)
 intro hL1
 unfold qd.reader_all_j16 at hL1
 refine ze (cR (oV (vL 2 wg) (oV vC ((fD 1) (oV (vL 3 yz) (oV vB (oV vC ((fD 1) ((sT 3 yz) (zb (zd (oV vM (oV (vL 0 yJ) ?_)))))))))))))
 obtain ⟨v12, h34, hL1⟩ := bd hL1
 rcases v12 with x_12 | y_12
 replace hL1 := zU hL1
 refine xZ [3, 3, 3, 3, 3, 3, 2] call89 (cap := #[pt b1]) rfl rfl rfl (zy [0, 1] rfl) (by exact (tri89 h34 :)) rfl ?_
 rintro _ _ _ ⟨A37, L37, C37, A38, L38, C38, rfl, rfl, rfl⟩
 refine zh ?_
 exact sK [0, 5, 6, 5, 0, 0, 0, 0, 0] [0, 1] (hN2 x_12.l_ x_12.at_ x_12.d.Start x_12.d.Layout q3 q4 q5 x_12.d.Rejects q7 x_12.start x_12.layout x_12.items A26 L26 C26 A37 L37 C37 A8 L8 C8 A9 L9 C9 A10 L10 C10 A38 L38 C38 A12 L12 C12 b4 hL1)
 replace hL1 := zH hL1
 refine xZ [3, 3, 3, 3, 3, 3, 2] call89 (cap := #[pt b1]) rfl rfl rfl (zy [0, 1] rfl) (by exact (tri89 h34 :)) rfl ?_
 rintro _ _ _ ⟨rfl, rfl, rfl⟩
 cases hL1
 obtain rfl := zK hF
 exact sP
 replace hL1 := (if_neg (Bool.eq_false_iff.1 h33)).symm.trans hL1
 refine jm (fun h38 => ?_) (fun h38 => ?_)
 replace hL1 := (if_pos h38).symm.trans hL1
 refine oV vM (oV vX (oV vX (oV vA (oV vA (zb (zf (zf ?_)))))))
 refine cT (fun E H Φ N' => ∀ (t547 : Bool), qd.reader_all_j17 k l__ at__ q1 q2 q3 q4 q5 q6 q7 q8 q9 q0 (qd.reader_all_l1 k j) t547 = some o1 -> zT E [(0, pt b), (1, pt b1), (2, .map (some b2)), (3, pt b4), (4, .func (.func 90) #[] #[pt b1]), (5, bV true), (54, bV t547)] H [fS A26 L26 C26 1 xj ((at_ l__ at__).Bytes), fS A7 L7 C7 11 zB l__] N') (fun N18 hN18 => ?_) ?_
 refine zd (oV vM (oV vN (oV vM ?_)))
 refine oS 50 hL1 (fun hL1 => ?_) (fun hL1 => ?_)
 refine oF (oF (oF (oV yt (zh ?_))))
 exact sK [0, 0, 0, 0, 0, 0, 0, 0, 0] [1, 2] (hN18 true hL1)
 refine oN ((fD 0) (oN (oV (vL 0 yz) (oN (oV vB (oV yj (zh ?_)))))))
 exact sK [0, 0, 0, 0, 0, 0, 0, 0, 0] [1, 2] (hN18 (((at_ l__ at__).Kind) != 2) hL1)
 intro t547 hL1
 unfold qd.reader_all_j17 at hL1
 refine ze ?_
 refine cT (fun E H Φ N' => qd.reader_all_j18 k l__ at__ q1 q2 q3 q4 q5 q6 q7 q8 q9 q0 (qd.reader_all_l1 k j) = some o1 -> zT E [(0, pt b), (1, pt b1), (2, .map (some b2)), (3, pt b4), (4, .func (.func 90) #[] #[pt b1]), (5, bV true)] H Φ N') (fun N18 hN18 => ?_) ?_
 refine cC hL1 (fun hL1 => ?_) (fun hL1 => ?_)
 refine zd (oV (vL 0 yJ) ?_)
 obtain ⟨v15, h41, hL1⟩ := bd hL1
 rcases v15 with x_15 | y_15
 replace hL1 := zU hL1
 refine zV yE rfl (zy [0] rfl) (xk h41 :) rfl ?_
 rintro _ _ _ ⟨rfl, rfl, rfl⟩
 refine zh ?_
 exact sK [0, 0, 0, 0, 0, 0, 0, 0, 0] [0, 1] (hN18 hL1)
 replace hL1 := zH hL1
 refine zV yE rfl (zy [0] rfl) (xk h41 :) rfl ?_
 rintro _ _ _ ⟨rfl, rfl, rfl⟩
 cases hL1
 obtain rfl := zK hF
 exact sP
 refine zk ?_
 exact sK [0, 0, 0, 0, 0, 0, 0, 0, 0] [0, 1] (hN18 hL1)
 intro hL1
 unfold qd.reader_all_j18 at hL1
 refine ze (cR (oV (vL 2 wg) (oV vC ((fD 1) (oV (vL 3 yz) (oV vB (oV vC ((fD 1) ((sT 3 yz) (zb (zd (oV vM (oV (vL 0 yJ) ?_)))))))))))))
 obtain ⟨v14, h39, hL1⟩ := bd hL1
 rcases v14 with x_14 | y_14
 replace hL1 := zU hL1
 refine xZ [3, 3, 3, 3, 3, 3, 2] call90 (cap := #[pt b1]) rfl rfl rfl (zy [0, 1] rfl) (by exact (tri90 h39 :)) rfl ?_
 rintro _ _ _ ⟨A39, L39, C39, A40, L40, C40, rfl, rfl, rfl⟩
 refine zh ?_
 exact sK [0, 5, 6, 5, 0, 0, 0, 0, 0] [0, 1] (hN2 x_14.l_ x_14.at_ x_14.d.Start x_14.d.Layout q3 q4 q5 q6 x_14.d.Boxes x_14.start x_14.layout x_14.items A26 L26 C26 A39 L39 C39 A8 L8 C8 A9 L9 C9 A10 L10 C10 A11 L11 C11 A40 L40 C40 b4 hL1)
 replace hL1 := zH hL1
 refine xZ [3, 3, 3, 3, 3, 3, 2] call90 (cap := #[pt b1]) rfl rfl rfl (zy [0, 1] rfl) (by exact (tri90 h39 :)) rfl ?_
 rintro _ _ _ ⟨rfl, rfl, rfl⟩
 cases hL1
 obtain rfl := zK hF
 exact sP
 replace hL1 := (if_neg (Bool.eq_false_iff.1 h38)).symm.trans hL1
 refine lk_nil (oV vM (oV vX (oV vX (oV vA (oV vA (zb (zf (zf ?_))))))))
 refine cT (fun E H Φ N' => ∀ (t548 : Bool), qd.reader_all_j19 l__ at__ t548 = some o1 -> zT E [(0, pt b), (1, pt b1), (2, .map (some b2)), (3, pt b4), (4, .nilFunc), (5, bV false), (54, bV t548)] H [fS A26 L26 C26 1 xj ((at_ l__ at__).Bytes), fS A7 L7 C7 11 zB l__] N') (fun N20 hN20 => ?_) ?_
 refine zd (oV vM (oV vN (oV vM ?_)))
 refine oS 50 hL1 (fun hL1 => ?_) (fun hL1 => ?_)
 refine oF (oF (oF (oV yt (zh ?_))))
 exact sK [0, 0, 0, 0, 0, 0, 0, 0, 0] [1, 2] (hN20 true hL1)
 refine oN ((fD 0) (oN (oV (vL 0 yz) (oN (oV vB (oV yj (zh ?_)))))))
 exact sK [0, 0, 0, 0, 0, 0, 0, 0, 0] [1, 2] (hN20 (((at_ l__ at__).Kind) != 2) hL1)
 intro t548 hL1
 unfold qd.reader_all_j19 at hL1
 refine ze ?_
 refine cT (fun E H Φ N' => qd.reader_all_j20 = some o1 -> zT E [(0, pt b), (1, pt b1), (2, .map (some b2)), (3, pt b4), (4, .nilFunc), (5, bV false)] H Φ N') (fun N20 hN20 => ?_) ?_
 refine cC hL1 (fun hL1 => ?_) (fun hL1 => ?_)
 refine zd (oV (vL 0 yJ) ?_)
 obtain ⟨v16, h44, hL1⟩ := bd hL1
 rcases v16 with x_16 | y_16
 replace hL1 := zU hL1
 refine zV yE rfl (zy [0] rfl) (xk h44 :) rfl ?_
 rintro _ _ _ ⟨rfl, rfl, rfl⟩
 refine zh ?_
 exact sK [0, 0, 0, 0, 0, 0, 0, 0, 0] [0, 1] (hN20 hL1)
 replace hL1 := zH hL1
 refine zV yE rfl (zy [0] rfl) (xk h44 :) rfl ?_
 rintro _ _ _ ⟨rfl, rfl, rfl⟩
 cases hL1
 obtain rfl := zK hF
 exact sP
 refine zk ?_
 exact sK [0, 0, 0, 0, 0, 0, 0, 0, 0] [0, 1] (hN20 hL1)
 intro hL1
 unfold qd.reader_all_j20 at hL1
 refine ze (cR (oV (vL 2 wg) (oV vC ((fD 1) (oV (vL 3 yz) (oV vB (oV vC ((fD 1) ((sT 3 yz) (zb (zd (oV vM (oV (vL 0 yJ) (nomatch (show none = some _ from hL1)))))))))))))))
 intro l__1 at__1 q1_1 q2_1 q3_1 q4_1 q5_1 q6_1 q7_1 q8_1 q9_1 q0_1 A19 L19 C19 A20 L20 C20 A21 L21 C21 A22 L22 C22 A23 L23 C23 A24 L24 C24 A25 L25 C25 b3 hL1
 unfold qd.reader_all_j2 at hL1
 exact lp [2, 1, 0, 1, 1, 1, 1, 1] [0] fun a w hs => ⟨l__1, at__1, q1_1, q2_1, q3_1, q4_1, q5_1, q6_1, q7_1, q8_1, q9_1, q0_1, A20, L20, C20, A21, L21, C21, A22, L22, C22, A23, L23, C23, A24, L24, C24, A25, L25, C25, hL1, hs⟩
 refine zW ?_
 cases hL1
 exact sK [1, 1, 1, 1, 1, 1, 1] [0] (hN1 (l__, at__, q1, q2, q3, q4, q5, q6, q7, q8, q9, q0) A7 L7 C7 A8 L8 C8 A9 L9 C9 A10 L10 C10 A11 L11 C11 A12 L12 C12 rfl)
 intro d1 A13 L13 C13 A14 L14 C14 A15 L15 C15 A16 L16 C16 A17 L17 C17 A18 L18 C18 hd
 subst hd
 replace hF := yF hF
 cases hF
 refine xz rfl fun a w hs => zo hs [1, 1, 1, 1, 1, 1] ⟨A13, L13, C13, A14, L14, C14, A15, L15, C15, A16, L16, C16, A17, L17, C17, A18, L18, C18, rfl, rfl, rfl⟩ rfl (zy [0] rfl)
theorem triD37_pan (p0 : zY) (p1 : Fault) (y : Fault) (b : Nat) (b1 : Nat) (A1 : OA) (L1 C1 : Nat) (A2 : OA) (L2 C2 : Nat) (A3 : OA) (L3 C3 : Nat) (A4 : OA) (L4 C4 : Nat) (A5 : OA) (L5 C5 : Nat) (r : zY × Fault) (hF : qd.Parse_c1_pan p0 p1 y = some r) :
    TriD Tryz.prog 37 [pt b, pt b1] [.box b 28 (yB p0 A1 L1 C1 A2 L2 C2 A3 L3 C3 A4 L4 C4 A5 L5 C5), .box b1 37 [iI p1.At, iI p1.Code]] [fS A1 L1 C1 5 yh p0.Prods, fS A2 L2 C2 1 (w8 2 zD) p0.Chains, fS A3 L3 C3 5 z7 p0.Follows, fS A4 L4 C4 2 z6 p0.Rejects, fS A5 L5 C5 2 xq p0.Boxes] (some (.iface 37 (.agg #[iI y.At, iI y.Code]))) (fun H Φ => ∃ (A6 : OA) (L6 C6 : Nat) (A7 : OA) (L7 C7 : Nat) (A8 : OA) (L8 C8 : Nat) (A9 : OA) (L9 C9 : Nat) (A10 : OA) (L10 C10 : Nat), H = [.box b 28 (yB r.1 A6 L6 C6 A7 L7 C7 A8 L8 C8 A9 L9 C9 A10 L10 C10), .box b1 37 [iI r.2.At, iI r.2.Code]] /\ Φ = [fS A6 L6 C6 5 yh r.1.Prods, fS A7 L7 C7 1 (w8 2 zD) r.1.Chains, fS A8 L8 C8 5 z7 r.1.Follows, fS A9 L9 C9 2 z6 r.1.Rejects, fS A10 L10 C10 2 xq r.1.Boxes]) := by
 unfold qd.Parse_c1_pan at hF
 refine triD_intro (n := 9) Tryz.func37 rfl Tryz.ntmps37 rfl rfl rfl rfl rfl rfl rfl rfl rfl rfl fun w X => cR (oV vM (oV (wV (v := bV true) rfl rfl (fun _ => by kernel_rfl)) (zb ?_)))
 refine xH rfl (fun _ => ?_) (fun h => Bool.noConfusion h)
 refine zP (n := 5) [] mixed rfl rfl (dv 0 rfl (we (v := .agg #[sV ([] : Tx), sV ([] : Tx), nS, nS, nS, nS, nS]) rfl (fun _ => by kernel_rfl)) (dv 1 rfl vM (dv 2 rfl (v_typeAssert (v := .agg #[iI y.At, iI y.Code]) rfl (fun _ => by kernel_rfl)) (dO 3 rfl ((sT 0 vI) (dN [] 0 (dO 4 rfl ((sT 1 ya) (dN [] 0 (dD ?_))))))))))
 cases hF
 refine xP (zN 5) (xP (zN 1) (xP (zN 5) (xP (zN 2) (xP (zN 2) (s_retDs [0, 0] ⟨none, 0, 0, none, 0, 0, none, 0, 0, none, 0, 0, none, 0, 0, rfl, rfl⟩ rfl (zy [4, 3, 2, 1, 0] rfl))))))
theorem triD37_ret (p0 : zY) (p1 : Fault) (b : Nat) (b1 : Nat) (A1 : OA) (L1 C1 : Nat) (A2 : OA) (L2 C2 : Nat) (A3 : OA) (L3 C3 : Nat) (A4 : OA) (L4 C4 : Nat) (A5 : OA) (L5 C5 : Nat) (r : zY × Fault) (hF : qd.Parse_c1_ret p0 p1 = some r) :
    TriD Tryz.prog 37 [pt b, pt b1] [.box b 28 (yB p0 A1 L1 C1 A2 L2 C2 A3 L3 C3 A4 L4 C4 A5 L5 C5), .box b1 37 [iI p1.At, iI p1.Code]] [fS A1 L1 C1 5 yh p0.Prods, fS A2 L2 C2 1 (w8 2 zD) p0.Chains, fS A3 L3 C3 5 z7 p0.Follows, fS A4 L4 C4 2 z6 p0.Rejects, fS A5 L5 C5 2 xq p0.Boxes] none (fun H Φ => ∃ (A6 : OA) (L6 C6 : Nat) (A7 : OA) (L7 C7 : Nat) (A8 : OA) (L8 C8 : Nat) (A9 : OA) (L9 C9 : Nat) (A10 : OA) (L10 C10 : Nat), H = [.box b 28 (yB r.1 A6 L6 C6 A7 L7 C7 A8 L8 C8 A9 L9 C9 A10 L10 C10), .box b1 37 [iI r.2.At, iI r.2.Code]] /\ Φ = [fS A6 L6 C6 5 yh r.1.Prods, fS A7 L7 C7 1 (w8 2 zD) r.1.Chains, fS A8 L8 C8 5 z7 r.1.Follows, fS A9 L9 C9 2 z6 r.1.Rejects, fS A10 L10 C10 2 xq r.1.Boxes]) := by
 unfold qd.Parse_c1_ret at hF
 refine triD_intro (n := 9) Tryz.func37 rfl Tryz.ntmps37 rfl rfl rfl rfl rfl rfl rfl rfl rfl rfl fun w X => cR (oV vM (oV (wV (v := bV false) rfl rfl (fun _ => by kernel_rfl)) (zb ?_)))
 refine xH rfl (fun h => Bool.noConfusion h) (fun _ => ?_)
 refine zk ?_
 cases hF
 exact s_retDs [0, 0] ⟨A1, L1, C1, A2, L2, C2, A3, L3, C3, A4, L4, C4, A5, L5, C5, rfl, rfl⟩ rfl (zy [0, 1, 2, 3, 4] rfl)
theorem tri16 {k : Nat} {text_ : Tx} {r : zY × Fault} (hF : qd.Parse k text_ = some r) :
    xu Tryz.prog 16 [sV text_] [] [] (fun o H Φ => ∃ (A18 : OA) (L18 C18 : Nat) (A19 : OA) (L19 C19 : Nat) (A20 : OA) (L20 C20 : Nat) (A21 : OA) (L21 C21 : Nat) (A22 : OA) (L22 C22 : Nat), o = .ret (.tuple #[.agg (yB r.1 A18 L18 C18 A19 L19 C19 A20 L20 C20 A21 L21 C21 A22 L22 C22).toArray, .agg #[iI r.2.At, iI r.2.Code]]) /\ H = [] /\ Φ = [fS A18 L18 C18 5 yh r.1.Prods, fS A19 L19 C19 1 (w8 2 zD) r.1.Chains, fS A20 L20 C20 5 z7 r.1.Follows, fS A21 L21 C21 2 z6 r.1.Rejects, fS A22 L22 C22 2 xq r.1.Boxes]) := by
 unfold qd.Parse at hF
 refine tri_introD (n := 27) Tryz.func16 rfl Tryz.ntmps16 rfl fun w X => cR (zC ut rfl rfl fun b => zC xv rfl rfl fun b1 => zb (cR (oV vM ?_)))
 obtain ⟨v, h1, hF⟩ := bd hF
 refine zV call20 rfl zn (tri20 h1 :) rfl ?_
 rintro _ _ _ ⟨A1, L1, C1, rfl, rfl, rfl⟩
 refine oV vM (oV vX (oV vX (oV vA ((sT 1 ya) (zb (zf (cR ((fD 1) (oV (vL 1 ty32) (oV vB (zb ?_)))))))))))
 refine cC hF (fun hF => ?_) (fun hF => ?_)
 refine zf (c_noP (zP (n := 4) [0] mixed rfl rfl (dv 0 rfl (we (v := .agg #[sV ([] : Tx), sV ([] : Tx), nS, nS, nS, nS, nS]) rfl (fun _ => by kernel_rfl)) ?_)))
 refine wr [1, 2] (by kernel_rfl) (by simp) ⟨⟨_, rfl, ?_⟩, ⟨_, rfl, ?_⟩, trivial⟩
 refine oV (vL 1 ya) (dN [0] 0 (dO 2 rfl ((sT 2 vI) (dN [0] 0 (dO 3 rfl ((sT 1 ya) (dN [0] 0 (dD (ze (zp ?_))))))))))
 cases hF
 refine xP (zN 5) (xP (zN 1) (xP (zN 5) (xP (zN 2) (xP (zN 2) (ye rfl (zM 2 rfl vI rfl rfl rfl rfl) (zM 1 rfl ya rfl rfl rfl rfl) fun a w hs => zo hs [] ⟨none, 0, 0, none, 0, 0, none, 0, 0, none, 0, 0, none, 0, 0, rfl, rfl, rfl⟩ rfl (zy [4, 3, 2, 1, 0] rfl))))))
 refine (sT 2 vI) (dN [0] 0 (dO 1 rfl (oV (vL 1 ya) (dN [0] 0 (dO 3 rfl ((sT 1 ya) (dN [0] 0 (dD (ze (zp ?_))))))))))
 cases hF
 refine xP (zN 5) (xP (zN 1) (xP (zN 5) (xP (zN 2) (xP (zN 2) (ye rfl (zM 2 rfl vI rfl rfl rfl rfl) (zM 1 rfl ya rfl rfl rfl rfl) fun a w hs => zo hs [] ⟨none, 0, 0, none, 0, 0, none, 0, 0, none, 0, 0, none, 0, 0, rfl, rfl, rfl⟩ rfl (zy [4, 3, 2, 1, 0] rfl))))))
 refine zk (ze (cR (oV (wD (vs := [pt b, pt b1]) rfl) (o_defer rfl (zb (cR (oV vM (oV (vU (.agg #[sl A1 L1 C1, iI 0, sV ([] : Tx), sV ([] : Tx), nS, nS, nS, nS, nS, bV false, bV false, iI 0])) (xr rfl rfl rfl ?_)))))))))
 intro b2
 refine oV vA (zb (cR ?_))
 refine oV vM ?_
 obtain ⟨v1, h3, hF⟩ := bd hF
 rcases v1 with x_ | y_
 replace hF := zU hF
 refine wj (yM 1 rfl) (wj (ym 57 5) (wj (ym 58 1) (wj (ym 48 5) (wj (ym 78 2) (wj (ym 64 2) (yx [5, 4, 3, 2, 1, 0] call38 rfl rfl (zy [0] rfl) (tri38 h3 :) ?_))))))
 rintro _ _ _ ⟨A2, L2, C2, A3, L3, C3, A4, L4, C4, A5, L5, C5, A6, L6, C6, A7, L7, C7, rfl, rfl, rfl⟩
 refine zb (cR (oV vM (oV vC ((fD 2) (oV (vL 0 vI) (oV (vU (.agg #[iI 0, iI 0])) ((sT 7 vI) ((sT 6 ya) (zb (zp (xP (yM 1 rfl) (xP (yM 1 rfl) (xP (yM 1 rfl) (xP (yM 1 rfl) ?_))))))))))))))
 refine xP (yM 1 rfl) ?_
 obtain ⟨v2, h4, hF⟩ := bd hF
 refine s_defer [2, 1] none rfl call37 rfl (zy [4, 3, 2, 1, 0] rfl) (triD37_ret x_.d (Fault.mk 0 0) b b1 A3 L3 C3 A4 L4 C4 A5 L5 C5 A6 L6 C6 A7 L7 C7 v2 h4) ?_
 rintro _ _ ⟨A8, L8, C8, A9, L9, C9, A10, L10, C10, A11, L11, C11, A12, L12, C12, rfl, rfl⟩
 cases hF
 refine ye rfl (zM 0 rfl vI rfl rfl rfl rfl) (zM 1 rfl ya rfl rfl rfl rfl) fun a w hs => zo hs [] ⟨A8, L8, C8, A9, L9, C9, A10, L10, C10, A11, L11, C11, A12, L12, C12, rfl, rfl, rfl⟩ rfl (zy [0, 1, 2, 3, 4] rfl)
 replace hF := zH hF
 refine wj (yM 1 rfl) (wj (ym 57 5) (wj (ym 58 1) (wj (ym 48 5) (wj (ym 78 2) (wj (ym 64 2) (yx [5, 4, 3, 2, 1, 0] call38 rfl rfl (zy [0] rfl) (tri38 h3 :) ?_))))))
 rintro _ _ _ ⟨rfl, rfl, rfl⟩
 refine xP (zN 5) (xP (zN 1) (xP (zN 5) (xP (zN 2) (xP (zN 2) ?_))))
 obtain ⟨v3, h5, hF⟩ := bd hF
 refine s_defer [1, 0] (some (.iface 37 (.agg #[iI y_.At, iI y_.Code]))) rfl call37 rfl (zy [4, 3, 2, 1, 0] rfl) (triD37_pan (zY.mk ([] : Tx) ([] : Tx) ([] : List Prod) ([] : List (List zw)) ([] : List Follow) ([] : List zz) ([] : List xm)) v.2 y_ b b1 none 0 0 none 0 0 none 0 0 none 0 0 none 0 0 v3 h5) ?_
 rintro _ _ ⟨A13, L13, C13, A14, L14, C14, A15, L15, C15, A16, L16, C16, A17, L17, C17, rfl, rfl⟩
 cases hF
 refine ye rfl (zM 0 rfl vI rfl rfl rfl rfl) (zM 1 rfl ya rfl rfl rfl rfl) fun a w hs => zo hs [] ⟨A13, L13, C13, A14, L14, C14, A15, L15, C15, A16, L16, C16, A17, L17, C17, rfl, rfl, rfl⟩ rfl (zy [0, 1, 2, 3, 4] rfl)
theorem tri18 {k : Nat} {s : Tx} {r : Bool} (hF : qw.IsName k s = some r) :
    xu Tryz.prog 18 [sV s] [] [] (oR (bV r)) := by
 unfold qw.IsName at hF
 refine zt (n := 23) Tryz.func18 rfl Tryz.ntmps18 rfl fun w X => cR (oV vA (zb (zf ?_)))
 refine z8 (fun E N' => ∀ (t2 : Bool), qw.IsName_j1 t2 = some r -> zT E [(2, bV t2)] [] [] N') (fun N1 hN1 => ?_) ?_
 refine zd (oV vM (oV (w7 rfl rfl) (oV vM ?_)))
 refine oS 5 hF (fun hF => ?_) (fun hF => ?_)
 refine oN (oV vM (oN (oV (yo Tryz.underlying9 rfl) (oN (oV vB (oV yt (oV vM ?_)))))))
 refine oS 10 hF (fun hF => ?_) (fun hF => ?_)
 refine oN (oV vM (oN (zc hF ?_)))
 intro h3 hF
 refine oV (yw Tryz.underlying9 rfl rfl h3) (oN (oV (yu (v := .int .i32 (IntKind.wrap .i32 (yk s 0))) rfl (fun _ => by kernel_rfl)) (oN ?_)))
 obtain ⟨v, h4, hF⟩ := bd hF
 refine zu call43 rfl zv (tri43 h4 :) rfl (oV yt (oV vM ?_))
 refine oS 16 hF (fun hF => ?_) (fun hF => ?_)
 refine oN (oV vM (oN ?_))
 obtain ⟨v1, h6, hF⟩ := bd hF
 refine zu call44 rfl zv (tri44 h6 :) rfl (oN (oV vM (oN (oV (yo Tryz.underlying9 rfl) (oN (oV vB (oV yt (oV vA (zh ?_)))))))))
 exact sK [] [] (hN1 (v1 == (s.length : Int)) hF)
 refine oF (oF (oF (oF (oF (oV yj (oV vA (zh ?_)))))))
 exact sK [] [] (hN1 false hF)
 refine oF (oF (oF (oF (oV yj (oV vM (oF (oF (oF (oF (oF (oV yj (oV vA (zh ?_)))))))))))))
 exact sK [] [] (hN1 false hF)
 refine oF (oF (oF (oV yj (oV vM (oF (oF (oF (oF (oV yj (oV vM (oF (oF (oF (oF (oF ?_)))))))))))))))
 refine oV yj (oV vA (zh ?_))
 exact sK [] [] (hN1 false hF)
 intro t2 hF
 unfold qw.IsName_j1 at hF
 refine ze (zp ?_)
 cases hF
 exact sR
theorem qi {k : Nat} {s : Tx} {empty : Bool} {r : Bool} (hF : qd.named k s empty = some r) :
    xu Tryz.prog 39 [sV s, bV empty] [] [] (oR (bV r)) := by
 unfold qd.named at hF
 refine zt (n := 14) Tryz.func39 rfl Tryz.ntmps39 rfl fun w X => cR (oV vA (zb (cR (oV vM (oV (yP rfl rfl) (oV vM ?_))))))
 refine oS 7 hF (fun hF => ?_) (fun hF => ?_)
 refine oN (oV vM (oV yt (oV vM ?_)))
 refine oS 10 hF (fun hF => ?_) (fun hF => ?_)
 refine oF (oF (oV yt (oV vA (zb (zp ?_)))))
 cases hF
 exact sR
 refine oN (oV vM (oN ?_))
 obtain ⟨v, h3, hF⟩ := bd hF
 refine zu call18 rfl zv (tri18 h3 :) rfl (oV yj (oV vA (zb (zp ?_))))
 cases hF
 exact sR
 refine oF (oV yj (oV vM (oN (oV vM (oN ?_)))))
 obtain ⟨v1, h4, hF⟩ := bd hF
 refine zu call18 rfl zv (tri18 h4 :) rfl (oV yj (oV vA (zb (zp ?_))))
 cases hF
 exact sR
theorem tri95 {k : Nat} {s : xg} {r : Bool} (hF : qd.rightSym k s = some r) :
    xu Tryz.prog 95 [.agg (g7 s).toArray] [] [] (oR (bV r)) := by
 unfold qd.rightSym at hF
 refine zt (n := 120) Tryz.func95 rfl Tryz.ntmps95 rfl fun w X => cR (xr rfl rfl rfl fun b => oV vA (zb (cR ((fD 2) (oV (vL 0 yT) (oV (vU (.agg #[iU 0, iU 0, iU 0, iU 0])) (oV (v_agne 2 rfl rfl (eq44 s.Set.w0 s.Set.w1 s.Set.w2 s.Set.w3 0 0 0 0) rfl guard44) (oV vA (zb (zf (zf ?_)))))))))))
 refine zd ((fD 0) (oV (vL 0 yz) (zb (zq (cR (oV vB (oV vA (zb ?_))))))))
 refine cC hF (fun hF => ?_) (fun hF => ?_)
 refine zf ?_
 refine cT (fun E H Φ N' => ∀ (t2 : Bool), qd.rightSym_j1 t2 = some r -> zT E [(0, .agg (g7 s).toArray), (1, pt b), (2, bV t2), (3, bV (!(S4.eq s.Set (S4.mk 0 0 0 0)))), (9, iI s.Kind)] H [] N') (fun N1 hN1 => ?_) ?_
 refine zd ((fD 1) (oV (vL 0 xE) (oV (yo Tryz.underlying9 rfl) (oV vB (oV vM ?_)))))
 refine oS 16 hF (fun hF => ?_) (fun hF => ?_)
 refine oN (oV vM (oN (oV (v_nn rfl) (oV yt (oV vM ?_)))))
 refine oS 20 hF (fun hF => ?_) (fun hF => ?_)
 refine oN ((fD 6) (oN (oV (vL 0 xE) (oN (oV (yP rfl rfl) (oV yt (oV vM ?_)))))))
 refine oS 25 hF (fun hF => ?_) (fun hF => ?_)
 refine oN ((fD 7) (oN (oV (vL 0 xE) (oN (oV (yP rfl rfl) (oV yt (oV vA (zh ?_))))))))
 exact sK [0] [] (hN1 (s.Sep == ([] : Tx)) hF)
 refine oF (oF (oF (oV yj (oV vA (zh ?_)))))
 exact sK [0] [] (hN1 false hF)
 refine oF (oF (oF (oV yj (oV vM (oF (oF (oF (oV yj (oV vA (zh ?_))))))))))
 exact sK [0] [] (hN1 false hF)
 refine oF (oF (oV yj (oV vM (oF (oF (oF (oV yj (oV vM (oF (oF (oF (oV yj (oV vA (zh ?_))))))))))))))
 exact sK [0] [] (hN1 false hF)
 intro t2 hF
 unfold qd.rightSym_j1 at hF
 refine ze (zp ?_)
 cases hF
 exact sR
 refine cR (oV vB (oV vA (zb ?_)))
 refine cC hF (fun hF => ?_) (fun hF => ?_)
 refine cR ((fD 1) (oV (vL 0 xE) (oV (yP rfl rfl) (oV vM ?_))))
 refine oS 35 hF (fun hF => ?_) (fun hF => ?_)
 refine oN ((fD 6) (oN (oV (vL 0 xE) (oN (oV (yP rfl rfl) (oV yt (oV vM ?_)))))))
 refine oS 40 hF (fun hF => ?_) (fun hF => ?_)
 refine oN ((fD 7) (oN (oV (vL 0 xE) (oN (oV (yP rfl rfl) (oV yt (oV vA (zb (zp ?_)))))))))
 cases hF
 exact sR
 refine oF (oF (oF (oV yj (oV vA (zb (zp ?_))))))
 cases hF
 exact sR
 refine oF (oF (oF (oV yj (oV vM (oF (oF (oF (oV yj (oV vA (zb (zp ?_)))))))))))
 cases hF
 exact sR
 refine cR (oV vB (oV vA (zb ?_)))
 refine cC hF (fun hF => ?_) (fun hF => ?_)
 refine zf ?_
 refine cT (fun E H Φ N' => ∀ (t21 : Bool), qd.rightSym_j2 t21 = some r -> zT E [(0, .agg (g7 s).toArray), (1, pt b), (2, bV t21), (3, bV (!(S4.eq s.Set (S4.mk 0 0 0 0)))), (9, iI s.Kind)] H [] N') (fun N2 hN2 => ?_) ?_
 refine zd ((fD 1) (oV (vL 0 xE) (oV (yP rfl rfl) (oV vM ?_))))
 refine oS 50 hF (fun hF => ?_) (fun hF => ?_)
 refine oN (oV vM (oN (oV (v_nn rfl) (oV yt (oV vM ?_)))))
 refine oS 54 hF (fun hF => ?_) (fun hF => ?_)
 refine oN ((fD 6) (oN (oV (vL 0 xE) (oN ?_))))
 obtain ⟨v, h11, hF⟩ := bd hF
 refine zu kq rfl zv (qi h11 :) rfl (oV yt (oV vM ?_))
 refine oS 59 hF (fun hF => ?_) (fun hF => ?_)
 refine oN ((fD 7) (oN (oV (vL 0 xE) (oN (oV (yP rfl rfl) (oV yt (oV vA (zh ?_))))))))
 exact sK [0] [] (hN2 (s.Sep == ([] : Tx)) hF)
 refine oF (oF (oF (oV yj (oV vA (zh ?_)))))
 exact sK [0] [] (hN2 false hF)
 refine oF (oF (oF (oV yj (oV vM (oF (oF (oF (oV yj (oV vA (zh ?_))))))))))
 exact sK [0] [] (hN2 false hF)
 refine oF (oF (oV yj (oV vM (oF (oF (oF (oV yj (oV vM (oF (oF (oF (oV yj (oV vA (zh ?_))))))))))))))
 exact sK [0] [] (hN2 false hF)
 intro t21 hF
 unfold qd.rightSym_j2 at hF
 refine ze (zp ?_)
 cases hF
 exact sR
 refine cR (oV vB (oV vA (zb ?_)))
 refine cC hF (fun hF => ?_) (fun hF => ?_)
 refine zf ?_
 refine cT (fun E H Φ N' => ∀ (t22 : Bool), qd.rightSym_j3 t22 = some r -> zT E [(0, .agg (g7 s).toArray), (1, pt b), (2, bV t22), (3, bV (!(S4.eq s.Set (S4.mk 0 0 0 0)))), (9, iI s.Kind)] H [] N') (fun N3 hN3 => ?_) ?_
 refine zd ((fD 1) (oV (vL 0 xE) (oV (yP rfl rfl) (oV vM ?_))))
 refine oS 69 hF (fun hF => ?_) (fun hF => ?_)
 refine oN ((fD 7) (oN (oV (vL 0 xE) (oN (oV (yP rfl rfl) (oV yt (oV vM ?_)))))))
 refine oS 74 hF (fun hF => ?_) (fun hF => ?_)
 refine oN ((fD 6) (oN (oV (vL 0 xE) (oN (oV (yP rfl rfl) (oN (oV vM ?_)))))))
 refine oS 78 hF (fun hF => ?_) (fun hF => ?_)
 refine oF (oF (oF (oU (oU (oU (oF (oN (oV yt (oV yt (oV vA (zh ?_)))))))))))
 exact sK [0] [] (hN3 true hF)
 refine oN (oV vM (oN (oV (v_nn rfl) (oN (oV vM ?_)))))
 refine oS 81 hF (fun hF => ?_) (fun hF => ?_)
 refine oN ((fD 6) (oN (oV (vL 0 xE) (oN ?_))))
 obtain ⟨v1, h18, hF⟩ := bd hF
 refine zu kq rfl zv (qi h18 :) rfl (oN (oV yt (oN (oV yj (oV yt (oV vA (zh ?_)))))))
 exact sK [0] [] (hN3 v1 hF)
 refine oF (oF (oF (oN (oV yj (oN (oV yj (oV yt (oV vA (zh ?_)))))))))
 exact sK [0] [] (hN3 false hF)
 refine oF (oF (oF (oF (oU (oU (oU (oU (oU (oU (oU (oF (oV yj (oV vA (zh ?_))))))))))))))
 exact sK [0] [] (hN3 false hF)
 refine oF (oF (oF (oV yj (oV vM (oF (oF (oF (oF (oU (oU (oU (oU (oU (oU (oU ?_)))))))))))))))
 refine oF (oV yj (oV vA (zh ?_)))
 exact sK [0] [] (hN3 false hF)
 intro t22 hF
 unfold qd.rightSym_j3 at hF
 refine ze (zp ?_)
 cases hF
 exact sR
 refine zf (cR (oV vB (oV vA (zb ?_))))
 refine cT (fun E H Φ N' => ∀ (t88 : Bool), qd.rightSym_j4 k s t88 = some r -> zT E [(0, .agg (g7 s).toArray), (1, pt b), (2, bV false), (3, bV (!(S4.eq s.Set (S4.mk 0 0 0 0)))), (9, iI s.Kind), (88, bV t88)] H [] N') (fun N5 hN5 => ?_) ?_
 refine cC hF (fun hF => ?_) (fun hF => ?_)
 refine zk ?_
 exact sK [0] [] (hN5 (s.Kind == 5) hF)
 refine zd (oV vB (oV vA (zh ?_)))
 exact sK [0] [] (hN5 (s.Kind == 6) hF)
 intro t88 hF
 unfold qd.rightSym_j4 at hF
 refine ze ?_
 refine cC hF (fun hF => ?_) (fun hF => ?_)
 refine zf (cR ((fD 6) (oV (vL 0 xE) (oV (yP rfl rfl) (zb ?_)))))
 refine cC hF (fun hF => ?_) (fun hF => ?_)
 refine cR ((fD 1) (oV (vL 0 xE) (oV (yP rfl rfl) (oV vM ?_))))
 refine oS 97 hF (fun hF => ?_) (fun hF => ?_)
 refine oN ((fD 7) (oN (oV (vL 0 xE) (oN (oV (yP rfl rfl) (oV yt (oV vA (zb (zp ?_)))))))))
 cases hF
 exact sR
 refine oF (oF (oF (oV yj (oV vA (zb (zp ?_))))))
 cases hF
 exact sR
 refine zk (ze (zf ?_))
 refine cT (fun E H Φ N' => ∀ (t23 : Bool), qd.rightSym_j5 t23 = some r -> zT E [(0, .agg (g7 s).toArray), (1, pt b), (2, bV t23), (3, bV (!(S4.eq s.Set (S4.mk 0 0 0 0)))), (9, iI s.Kind), (88, bV t88)] H [] N') (fun N5 hN5 => ?_) ?_
 refine zd ((fD 1) (oV (vL 0 xE) (oV (yP rfl rfl) (oV vM ?_))))
 refine oS 105 hF (fun hF => ?_) (fun hF => ?_)
 refine oN (oV vM (oN (oV (v_nn rfl) (oV yt (oV vM ?_)))))
 refine oS 109 hF (fun hF => ?_) (fun hF => ?_)
 refine oN ((fD 6) (oN (oV (vL 0 xE) (oN ?_))))
 obtain ⟨v2, h24, hF⟩ := bd hF
 refine zu kq rfl zv (qi h24 :) rfl (oV yt (oV vM ?_))
 refine oS 114 hF (fun hF => ?_) (fun hF => ?_)
 refine oN ((fD 7) (oN (oV (vL 0 xE) (oN (oV (yo Tryz.underlying9 rfl) (oN (oV vB (oV yt (oV vA (zh ?_))))))))))
 exact sK [0] [] (hN5 (decide ((s.Sep.length : Int) <= 32)) hF)
 refine oF (oF (oF (oF (oV yj (oV vA (zh ?_))))))
 exact sK [0] [] (hN5 false hF)
 refine oF (oF (oF (oV yj (oV vM (oF (oF (oF (oF (oV yj (oV vA (zh ?_)))))))))))
 exact sK [0] [] (hN5 false hF)
 refine oF (oF (oV yj (oV vM (oF (oF (oF (oV yj (oV vM (oF (oF (oF (oF (oV yj (oV vA (zh ?_)))))))))))))))
 exact sK [0] [] (hN5 false hF)
 intro t23 hF
 unfold qd.rightSym_j5 at hF
 refine ze (zp ?_)
 cases hF
 exact sR
 refine zk (ze (cR (oV vA (zb (zp ?_)))))
 cases hF
 exact sR
theorem tri94 {k : Nat} {s : xg} {r : Bool} (hF : qd.rightProd_c1 k s = some r) :
    xu Tryz.prog 94 [.agg (g7 s).toArray] [] [] (oR (bV r)) := by
 unfold qd.rightProd_c1 at hF
 refine zt (n := 6) Tryz.func94 rfl Tryz.ntmps94 rfl fun w X => cR (xr rfl rfl rfl fun b => oV vA (zb (cR (oV (vL 0 wR) ?_))))
 obtain ⟨v, h1, hF⟩ := bd hF
 refine zu call95 rfl zv (tri95 h1 :) rfl (oV vN (oV vA (zb (zp ?_))))
 cases hF
 exact sR
theorem tri121_94 {k : Nat} {s : List xg} {r : Int} (hF : ql.IndexFunc_f121_94 k s = some r) :
    xu Tryz.prog 121 [sl A1 L1 C1, .func (.func 94) #[] #[]] [] [fS A1 L1 C1 8 wn s] (oR (iI r)) := by
 unfold ql.IndexFunc_f121_94 at hF
 refine zt (n := 19) Tryz.func121 rfl Tryz.ntmps121 rfl fun w X => cR (oV vA (zb (zf (cR (oV vM (oV (zL (enc := wn) s gn rfl (.f 0 rfl)) (oV vM (zb ?_))))))))
 obtain ⟨o1, ho1, hF⟩ := bd hF
 refine cT (fun E H Φ N' => ∀ (d1 : Unit), o1 = .done d1 -> zT E [(0, sl A1 L1 C1), (4, iI 0)] [] Φ N') (fun N1 hN1 => ?_) ?_
 refine zq ?_
 refine cL (fun E H Φ j a w => ∃ (t8 : Int), ql.IndexFunc_f121_94_l1 k s j t8 = some o1 /\ St E [(0, sl A1 L1 C1), (1, .func (.func 94) #[] #[]), (4, iI 0), (7, iI (s.length : Int)), (8, iI t8)] [] Φ a w) k ?_ ?_
 exact lq [] [0] fun a w hs => ⟨0, ho1, hs⟩
 rintro j a w ⟨t8, hL1, hs⟩
 rcases j with _ | j
 cases hL1
 refine yd hs ?_
 unfold ql.IndexFunc_f121_94_l1 at hL1
 refine cR (oV vB (zb (zf ?_)))
 refine cC hL1 (fun hL1 => ?_) (fun hL1 => ?_)
 refine zk (ze (zf (zq (cR (oV vM (oV vA (zb (cR (oV vM (oV vM (oV vM (zc hL1 ?_))))))))))))
 intro h2 hL1
 refine oV (zi (xs := s) (enc := wn) gn rfl rfl (.f 0 rfl) h2) ?_
 refine oV (yc (xs := s) (enc := wn) wR rfl (.f 0 rfl) h2 rfl rfl rfl rfl rfl rfl rfl) ?_
 obtain ⟨v, h3, hL1⟩ := bd hL1
 refine xZ [] call94 (cap := #[]) rfl rfl rfl zn (by exact (tri94 h3 :)) rfl ?_
 rintro _ _ _ ⟨rfl, rfl, rfl⟩
 refine zb ?_
 refine cC hL1 (fun hL1 => ?_) (fun hL1 => ?_)
 refine cR (oV vM (oV vA (zb (zp ?_))))
 cases hL1
 obtain rfl := zK hF
 exact sR
 refine zk (ze (zd (oV vB (oV vM (zh ?_)))))
 exact lp [] [0] fun a w hs => ⟨IntKind.wrap .i64 (t8 + 1), hL1, hs⟩
 refine zW ?_
 cases hL1
 exact sK [] [0] (hN1 () rfl)
 intro d1 hd
 subst hd
 replace hF := yF hF
 refine ze (cR (oV vA (zb (zp ?_))))
 cases hF
 exact sR
theorem tri93_94 {k : Nat} {s : List xg} {r : Bool} (hF : ql.ContainsFunc_f93_94 k s = some r) :
    xu Tryz.prog 93 [sl A1 L1 C1, .func (.func 94) #[] #[]] [] [fS A1 L1 C1 8 wn s] (oR (bV r)) := by
 unfold ql.ContainsFunc_f93_94 at hF
 refine zt (n := 9) Tryz.func93 rfl Tryz.ntmps93 rfl fun w X => cR (oV vA (zb (cR (oV vM (oV vM ?_)))))
 obtain ⟨v, h1, hF⟩ := bd hF
 refine zu call121 rfl (zA 0 rfl zv) (tri121_94 h1 :) rfl (oV vB (oV vA (zb (zp ?_))))
 cases hF
 exact sR
theorem tri40 {k : Nat} {p : Prod} {r : Bool} (hF : qd.rightProd k p = some r) :
    xu Tryz.prog 40 [.agg (qg p A1 L1 C1).toArray] [] [fS A1 L1 C1 8 wn p.Syms] (oR (bV r)) := by
 unfold qd.rightProd at hF
 refine zt (n := 48) Tryz.func40 rfl Tryz.ntmps40 rfl fun w X => cR (xr rfl rfl rfl fun b => oV vA (zb (zf (zf ?_))))
 refine cT (fun E H Φ N' => ∀ (t24 : Bool), qd.rightProd_j1 k p t24 = some r -> zT E [(0, .agg (qg p A1 L1 C1).toArray), (1, pt b), (2, bV false), (24, bV t24)] H Φ N') (fun N2 hN2 => ?_) ?_
 refine zd ((fD 1) (oV (vL 0 xE) ?_))
 obtain ⟨v1, h8, hF⟩ := bd hF
 refine zu kq rfl zv (qi h8 :) rfl (oV vN (oV vM ?_))
 refine oS 7 hF (fun hF => ?_) (fun hF => ?_)
 refine oF (oF (oF (oF (oV yt (oV vM (oF (oF (oF (oF (oV yt (oV vM (oF (oF (oF (oF ?_)))))))))))))))
 refine oV yt (zh ?_)
 exact sK [0] [0] (hN2 true hF)
 refine oN ((fD 2) (oN (oV (vL 0 xE) (oN ?_))))
 obtain ⟨v2, h10, hF⟩ := bd hF
 refine zu kq rfl zv (qi h10 :) rfl (oN (oV vN (oV yj (oV vM ?_))))
 refine oS 13 hF (fun hF => ?_) (fun hF => ?_)
 refine oF (oF (oF (oF (oV yt (oV vM (oF (oF (oF (oF (oV yt (zh ?_)))))))))))
 exact sK [0] [0] (hN2 true hF)
 refine oN ((fD 4) (oN (oV (vL 0 ty55) (oN (oV (zL (enc := wn) p.Syms gn rfl (.f 0 rfl)) (oN (oV vB (oV yj (oV vM ?_)))))))))
 refine oS 19 hF (fun hF => ?_) (fun hF => ?_)
 refine oF (oF (oF (oF (oV yt (zh ?_)))))
 exact sK [0] [0] (hN2 true hF)
 refine oN ((fD 4) (oN (oV (vL 0 ty55) (oN (oV (zL (enc := wn) p.Syms gn rfl (.f 0 rfl)) (oN (oV vB (oV yj (zh ?_)))))))))
 exact sK [0] [0] (hN2 (decide (12 < (p.Syms.length : Int))) hF)
 intro t24 hF
 unfold qd.rightProd_j1 at hF
 refine ze ?_
 refine cC hF (fun hF => ?_) (fun hF => ?_)
 refine cR (oV vA (zb (zp ?_)))
 cases hF
 exact sR
 refine zk (ze (zf (zf ?_)))
 refine cT (fun E H Φ N' => ∀ (t43 : Bool), qd.rightProd_j2 k p t43 = some r -> zT E [(0, .agg (qg p A1 L1 C1).toArray), (1, pt b), (2, bV false), (43, bV t43)] H Φ N') (fun N2 hN2 => ?_) ?_
 refine zd ((fD 0) (oV (vL 0 ty4) (oV vM ?_)))
 refine oS 27 hF (fun hF => ?_) (fun hF => ?_)
 refine oN ((fD 3) (oN (oV (vL 0 ty4) (oV yt (oV vM ?_)))))
 refine oS 31 hF (fun hF => ?_) (fun hF => ?_)
 refine oF (oF (oF (oF (oU (oU (oU (oU (oU (oU (oF (oV yt (zh ?_))))))))))))
 exact sK [0] [0] (hN2 true hF)
 refine oN ((fD 0) (oN (oV (vL 0 ty4) (oN (oV vN (oN (oV vM ?_)))))))
 refine oS 35 hF (fun hF => ?_) (fun hF => ?_)
 refine oN ((fD 3) (oN (oV (vL 0 ty4) (oN ((fD 2) (oN (oV (vL 0 xE) (oN (oV (yP rfl rfl) (oN (oV (g6 rfl rfl Tryz.underlying4) (oN (oV yt (oV yj (zh ?_)))))))))))))))
 exact sK [0] [0] (hN2 (p.Bracket != (p.Cons == ([] : Tx))) hF)
 refine oF (oF (oF (oF (oF (oF (oN (oV yj (oV yj (zh ?_)))))))))
 exact sK [0] [0] (hN2 false hF)
 refine oF (oF (oV yj (oV vM (oN ((fD 0) (oN (oV (vL 0 ty4) (oN (oV vN (oN (oV vM ?_)))))))))))
 refine oS 35 hF (fun hF => ?_) (fun hF => ?_)
 refine oN ((fD 3) (oN (oV (vL 0 ty4) (oN ((fD 2) (oN (oV (vL 0 xE) (oN (oV (yP rfl rfl) (oN (oV (g6 rfl rfl Tryz.underlying4) (oN (oV yt (oV yj (zh ?_)))))))))))))))
 exact sK [0] [0] (hN2 (p.Bracket != (p.Cons == ([] : Tx))) hF)
 refine oF (oF (oF (oF (oF (oF (oN (oV yj (oV yj (zh ?_)))))))))
 exact sK [0] [0] (hN2 false hF)
 intro t43 hF
 unfold qd.rightProd_j2 at hF
 refine ze ?_
 refine cC hF (fun hF => ?_) (fun hF => ?_)
 refine cR (oV vA (zb (zp ?_)))
 cases hF
 exact sR
 refine zk (ze (cR ((fD 4) (oV (vL 0 ty55) ?_))))
 obtain ⟨v, h3, hF⟩ := bd hF
 refine zu call93 rfl (zA 0 rfl zv) (tri93_94 h3 :) rfl (oV vN (oV vA (zb (zp ?_))))
 cases hF
 exact sR
theorem tri41 {k : Nat} {l__ : List zw} {r : Bool} (hF : qd.rightChain k l__ = some r) :
    xu Tryz.prog 41 [sl A1 L1 C1] [] [fS A1 L1 C1 2 zD l__] (oR (bV r)) := by
 unfold qd.rightChain at hF
 refine zt (n := 53) Tryz.func41 rfl Tryz.ntmps41 rfl fun w X => cR (oV vA (zb (zf (cR (oV vM (oV (zL (enc := zD) l__ jF rfl (.f 0 rfl)) (oV vM (zb ?_))))))))
 obtain ⟨o1, ho1, hF⟩ := bd hF
 refine cT (fun E H Φ N' => ∀ (d1 : Unit), o1 = .done d1 -> zT E [(0, sl A1 L1 C1), (2, bV false), (7, sl A1 L1 C1)] [] Φ N') (fun N1 hN1 => ?_) ?_
 refine zq ?_
 refine cL (fun E H Φ j a w => ∃ (t9 : Int), qd.rightChain_l1 k l__ j t9 = some o1 /\ St E [(0, sl A1 L1 C1), (2, bV false), (7, sl A1 L1 C1), (8, iI (l__.length : Int)), (9, iI t9)] [] Φ a w) k ?_ ?_
 exact lq [] [0] fun a w hs => ⟨0, ho1, hs⟩
 rintro j a w ⟨t9, hL1, hs⟩
 rcases j with _ | j
 cases hL1
 refine yd hs ?_
 unfold qd.rightChain_l1 at hL1
 refine cR (oV vB (zb (zf ?_)))
 refine cC hL1 (fun hL1 => ?_) (fun hL1 => ?_)
 refine zk (ze (zf (zq (cR (zc hL1 fun h2 hL1 => oV (zi (xs := l__) (enc := zD) jF rfl rfl (.f 0 rfl) h2) (yq (xs := l__) (enc := zD) ty61 rfl (.f 0 rfl) h2 rfl rfl rfl rfl rfl rfl ?_))))))
 intro A2 L2 C2
 refine zC zero61 rfl rfl fun b => (sT 0 ty61) (zb (zf (zf ?_)))
 refine cT (fun E H Φ N' => ∀ (t32 : Bool), qd.rightChain_j2 k l__ t9 (qd.rightChain_l1 k l__ j) t32 = some o1 -> zT E [(0, sl A1 L1 C1), (2, bV false), (4, pt b), (7, sl A1 L1 C1), (8, iI (l__.length : Int)), (9, iI t9), (32, bV t32)] H [fS A1 L1 C1 2 zD l__, fS A2 L2 C2 1 xn ((at_ l__ t9).Cons)] N') (fun N3 hN3 => ?_) ?_
 refine zd ((fD 0) (oV (vL 0 yz) (oV vB (oV vM ?_))))
 refine oS 16 hL1 (fun hL1 => ?_) (fun hL1 => ?_)
 refine oF (oF (oF (oV yt (oV vM (oF (oF (oF (oF (oV yt (oV vM (oF (oF (oF (oF (oV yt ?_)))))))))))))))
 refine zh ?_
 exact sK [0] [1, 0] (hN3 true hL1)
 refine oN ((fD 0) (oN (oV (vL 0 yz) (oN (oV vB (oV yj (oV vM ?_)))))))
 refine oS 21 hL1 (fun hL1 => ?_) (fun hL1 => ?_)
 refine oF (oF (oF (oF (oV yt (oV vM (oF (oF (oF (oF (oV yt (zh ?_)))))))))))
 exact sK [0] [1, 0] (hN3 true hL1)
 refine oN ((fD 1) (oN (oV (vL 0 ja) (oN (oV (zL (enc := xn) ((at_ l__ t9).Cons) vy rfl (.f 0 rfl)) (oN (oV vB (oV yj (oV vM ?_)))))))))
 refine oS 27 hL1 (fun hL1 => ?_) (fun hL1 => ?_)
 refine oF (oF (oF (oF (oV yt (zh ?_)))))
 exact sK [0] [1, 0] (hN3 true hL1)
 refine oN ((fD 1) (oN (oV (vL 0 ja) (oN (oV (zL (enc := xn) ((at_ l__ t9).Cons) vy rfl (.f 0 rfl)) (oN (oV vB (oV yj (zh ?_)))))))))
 exact sK [0] [1, 0] (hN3 (decide (16 < (((at_ l__ t9).Cons).length : Int))) hL1)
 intro t32 hL1
 unfold qd.rightChain_j2 at hL1
 refine ze ?_
 refine cC hL1 (fun hL1 => ?_) (fun hL1 => ?_)
 refine cR (oV vA (zb (zp ?_)))
 cases hL1
 obtain rfl := zK hF
 exact sR
 refine zk (ze (cR ((fD 1) (oV (vL 0 ja) (oV (zL (enc := xn) ((at_ l__ t9).Cons) vy rfl (.f 1 rfl)) (oV vM (zb ?_)))))))
 obtain ⟨o3, ho3, hL1⟩ := bd hL1
 refine cT (fun E H Φ N' => ∀ (d3 : Int), o3 = .done d3 -> zT E [(0, sl A1 L1 C1), (2, bV false), (4, pt b), (7, sl A1 L1 C1), (8, iI (l__.length : Int)), (9, iI t9), (34, sl A2 L2 C2), (35, iI (((at_ l__ t9).Cons).length : Int)), (36, iI d3)] H Φ N') (fun N3 hN3 => ?_) ?_
 refine zq ?_
 refine cL (fun E H Φ j a w => ∃ (t36 : Int), qd.rightChain_l3 k l__ t9 j t36 = some o3 /\ St E [(0, sl A1 L1 C1), (2, bV false), (4, pt b), (7, sl A1 L1 C1), (8, iI (l__.length : Int)), (9, iI t9), (34, sl A2 L2 C2), (35, iI (((at_ l__ t9).Cons).length : Int)), (36, iI t36)] H Φ a w) k ?_ ?_
 exact lq [0] [0, 1] fun a w hs => ⟨0, ho3, hs⟩
 rintro j a w ⟨t36, hL3, hs⟩
 rcases j with _ | j
 cases hL3
 refine yd hs ?_
 unfold qd.rightChain_l3 at hL3
 refine cR (oV vB (zb (zf ?_)))
 refine cC hL3 (fun hL3 => ?_) (fun hL3 => ?_)
 refine zk (ze (zf (zq (cR (zc hL3 fun h5 hL3 => oV (zi (xs := (at_ l__ t9).Cons) (enc := xn) vy rfl rfl (.f 1 rfl) h5) (oV (yc (xs := (at_ l__ t9).Cons) (enc := xn) xE rfl (.f 1 rfl) h5 rfl rfl rfl rfl rfl rfl rfl) (oV vA (zb (cR (oV vM ?_))))))))))
 obtain ⟨v, h6, hL3⟩ := bd hL3
 refine zu kq rfl zv (qi h6 :) rfl (oV vN (zb ?_))
 refine cC hL3 (fun hL3 => ?_) (fun hL3 => ?_)
 refine cR (oV vA (zb (zp ?_)))
 cases hL3
 obtain rfl := lr_ret hL1
 obtain rfl := zK hF
 exact sR
 refine zk (ze (zd (oV vB (oV vM (zh ?_)))))
 exact lp [0] [0, 1] fun a w hs => ⟨IntKind.wrap .i64 (t36 + 1), hL3, hs⟩
 refine zW ?_
 cases hL3
 exact sK [0] [0, 1] (hN3 t36 rfl)
 intro d3 hd
 subst hd
 replace hL1 := lr_done hL1
 refine ze (zd (oV vB (oV vM (zh ?_))))
 exact lp [] [0] fun a w hs => ⟨IntKind.wrap .i64 (t9 + 1), hL1, hs⟩
 refine zW ?_
 cases hL1
 exact sK [] [0] (hN1 () rfl)
 intro d1 hd
 subst hd
 replace hF := yF hF
 refine ze (cR (oV vM (oV (zL (enc := zD) l__ jF rfl (.f 0 rfl)) (oV vB (oV vM ?_)))))
 refine oS 48 hF (fun hF => ?_) (fun hF => ?_)
 refine oN (oV vM (oN (oV (zL (enc := zD) l__ jF rfl (.f 0 rfl)) (oN (oV vB (oV yt (oV vA (zb (zp ?_)))))))))
 cases hF
 exact sR
 refine oF (oF (oF (oV yj (oV vA (zb (zp ?_))))))
 cases hF
 exact sR
theorem tri42_B (k : Nat) (g42 : List Item -> Int -> Option (Bool × Int))
    (hg42 : P42 g42) {l__ : List Item} {left : Int} {b : Nat} {A1 : OA} {L1 C1 : Nat} {r : Bool × Int} (hF : qd.rightItems_B k g42 l__ left = some r) :
    xu Tryz.prog 42 [sl A1 L1 C1, pt b] [.box b 3 [iI left]] [fS A1 L1 C1 4 zR l__] (fun o H Φ => o = .ret (bV r.1) /\ H = [.box b 3 [iI r.2]] /\ Φ = []) := by
 unfold qd.rightItems_B at hF
 refine zt (n := 112) Tryz.func42 rfl Tryz.ntmps42 rfl fun w X => cR (oV vA (zb (zf (cR (oV vM (oV (zL (enc := zR) l__ kT rfl (.f 0 rfl)) (oV vM (zb ?_))))))))
 obtain ⟨o1, ho1, hF⟩ := bd hF
 refine cT (fun E H Φ N' => ∀ (d1 : Int), o1 = .done d1 -> zT E [(0, sl A1 L1 C1), (4, bV false), (9, sl A1 L1 C1)] [.box b 3 [iI d1]] Φ N') (fun N1 hN1 => ?_) ?_
 refine zq ?_
 refine cL (fun E H Φ j a w => ∃ (t11 : Int) (left1 : Int), qd.rightItems_l1 l__ g42 j t11 left1 = some o1 /\ St E [(0, sl A1 L1 C1), (1, pt b), (4, bV false), (9, sl A1 L1 C1), (10, iI (l__.length : Int)), (11, iI t11)] [.box b 3 [iI left1]] Φ a w) k ?_ ?_
 exact lq [0] [0] fun a w hs => ⟨0, left, ho1, hs⟩
 rintro j a w ⟨t11, left1, hL1, hs⟩
 rcases j with _ | j
 cases hL1
 refine yd hs ?_
 unfold qd.rightItems_l1 at hL1
 refine cR (oV vB (zb (zf ?_)))
 refine cC hL1 (fun hL1 => ?_) (fun hL1 => ?_)
 refine zk (ze (zf ?_))
 refine z8 (fun E N' => ∀ (number : Bool) (ok_ : Bool) (left2 : Int) (A2 : OA) (L2 C2 : Nat) (b1 : Nat), qd.rightItems_j2 (qd.rightItems_l1 l__ g42 j) t11 number ok_ left2 = some o1 -> zT E [(0, sl A1 L1 C1), (1, pt b), (4, bV false), (6, pt b1), (7, bV number), (8, bV ok_), (9, sl A1 L1 C1), (10, iI (l__.length : Int)), (11, iI t11), (29, iI ((at_ l__ t11).Kind))] [.box b 3 [iI left2], .box b1 124 (vItem (at_ l__ t11) A2 L2 C2)] [fS A1 L1 C1 4 zR l__, fS A2 L2 C2 4 zR ((at_ l__ t11).Items)] N') (fun N2 hN2 => ?_) ?_
 refine zq (cR (zc hL1 fun h2 hL1 => oV (zi (xs := l__) (enc := zR) kT rfl rfl (.f 0 rfl) h2) (yq (ds := [.int .i64 ((at_ l__ t11).Kind), .str ((at_ l__ t11).Text), .int .i64 ((at_ l__ t11).N_), .slice 4 (((at_ l__ t11).Items).map zR)]) (xs := l__) (enc := zR) vi rfl (.f 0 rfl) h2 (by simp only [xD] <;> rfl) rfl rfl rfl rfl rfl ?_)))
 intro A3 L3 C3
 refine zC zero124 rfl rfl fun b2 => (sT 0 vi) (zb (cR (oV vM (oV vC (oV (vL 1 yz) (oV vB (oV vC ?_)))))))
 refine (sT 1 yz) (zb (zf ?_))
 refine cT (fun E H Φ N' => ∀ (number1 : Bool), qd.rightItems_j3 l__ t11 left1 g42 (qd.rightItems_l1 l__ g42 j) number1 = some o1 -> zT E [(0, sl A1 L1 C1), (1, pt b), (4, bV false), (6, pt b2), (7, bV number1), (9, sl A1 L1 C1), (10, iI (l__.length : Int)), (11, iI t11)] H [fS A1 L1 C1 4 zR l__, fS A3 L3 C3 4 zR ((at_ l__ t11).Items)] N') (fun N15 hN15 => ?_) ?_
 refine zd ((fD 2) (oV (vL 0 yz) (oV vB (oV vM ?_))))
 refine oS 23 hL1 (fun hL1 => ?_) (fun hL1 => ?_)
 refine oN ((fD 2) (oN (oV (vL 0 yz) (oN (oV vB (oV yt (oV vA (zh ?_))))))))
 exact sK [0, 0] [1, 0] (hN15 (decide (((at_ l__ t11).N_) <= 999999)) hL1)
 refine oF (oF (oF (oV yj (oV vA (zh ?_)))))
 exact sK [0, 0] [1, 0] (hN15 false hL1)
 intro number1 hL1
 unfold qd.rightItems_j3 at hL1
 refine ze (cR (oV vA (zb (zf (cR ((fD 0) (oV (vL 0 yz) (zb ?_))))))))
 refine cT (fun E H Φ N' => ∀ (ok_1 : Bool), qd.rightItems_j4 left1 g42 l__ t11 (qd.rightItems_l1 l__ g42 j) number1 ok_1 = some o1 -> zT E [(0, sl A1 L1 C1), (1, pt b), (4, bV false), (6, pt b2), (7, bV number1), (8, bV ok_1), (9, sl A1 L1 C1), (10, iI (l__.length : Int)), (11, iI t11), (29, iI ((at_ l__ t11).Kind))] H Φ N') (fun N4 hN4 => ?_) ?_
 refine zq (cR (oV vB (oV vA (zb ?_))))
 refine cT (fun E H Φ N' => ∀ (ok_2 : Bool), qd.rightItems_j5 left1 g42 l__ t11 (qd.rightItems_l1 l__ g42 j) number1 ok_2 = some o1 -> zT E [(0, sl A1 L1 C1), (1, pt b), (4, bV false), (6, pt b2), (7, bV number1), (8, bV ok_2), (9, sl A1 L1 C1), (10, iI (l__.length : Int)), (11, iI t11), (29, iI ((at_ l__ t11).Kind))] H Φ N') (fun N5 hN5 => ?_) ?_
 refine cC hL1 (fun hL1 => ?_) (fun hL1 => ?_)
 refine cT (fun E H Φ N' => ∀ (ok_3 : Bool), qd.rightItems_j6 left1 g42 l__ t11 (qd.rightItems_l1 l__ g42 j) number1 ok_3 = some o1 -> zT E [(0, sl A1 L1 C1), (1, pt b), (4, bV false), (6, pt b2), (7, bV number1), (8, bV ok_3), (9, sl A1 L1 C1), (10, iI (l__.length : Int)), (11, iI t11), (29, iI ((at_ l__ t11).Kind))] H Φ N') (fun N6 hN6 => ?_) ?_
 refine zd ((fD 1) (oV (vL 0 xE) (oV (yo Tryz.underlying9 rfl) (oV vB (oV vM ?_)))))
 refine oS 36 hL1 (fun hL1 => ?_) (fun hL1 => ?_)
 refine oN ((fD 2) (oN (oV (vL 0 yz) (oN (oV vB (oV yt (oV vM ?_)))))))
 refine oS 41 hL1 (fun hL1 => ?_) (fun hL1 => ?_)
 refine oN ((fD 3) (oN (oV (vL 0 jQ) (oN (oV (zL (enc := zR) ((at_ l__ t11).Items) kT rfl (.f 1 rfl)) (oN (oV vB (oV yt (oV vA (zh ?_))))))))))
 exact sK [0, 0] [0, 1] (hN6 ((((at_ l__ t11).Items).length : Int) == 0) hL1)
 refine oF (oF (oF (oF (oV yj (oV vA (zh ?_))))))
 exact sK [0, 0] [0, 1] (hN6 false hL1)
 refine oF (oF (oF (oV yj (oV vM (oF (oF (oF (oF (oV yj (oV vA (zh ?_)))))))))))
 exact sK [0, 0] [0, 1] (hN6 false hL1)
 intro ok_3 hL1
 unfold qd.rightItems_j6 at hL1
 exact sK [0, 0] [0, 1] (hN5 ok_3 hL1)
 refine cR (oV vB (oV vA (zb ?_)))
 refine cT (fun E H Φ N' => ∀ (ok_4 : Bool), qd.rightItems_j7 left1 g42 l__ t11 (qd.rightItems_l1 l__ g42 j) number1 ok_4 = some o1 -> zT E [(0, sl A1 L1 C1), (1, pt b), (4, bV false), (6, pt b2), (7, bV number1), (8, bV ok_4), (9, sl A1 L1 C1), (10, iI (l__.length : Int)), (11, iI t11), (29, iI ((at_ l__ t11).Kind))] H Φ N') (fun N7 hN7 => ?_) ?_
 refine cC hL1 (fun hL1 => ?_) (fun hL1 => ?_)
 refine cT (fun E H Φ N' => ∀ (ok_5 : Bool), qd.rightItems_j8 left1 g42 l__ t11 (qd.rightItems_l1 l__ g42 j) number1 ok_5 = some o1 -> zT E [(0, sl A1 L1 C1), (1, pt b), (4, bV false), (6, pt b2), (7, bV number1), (8, bV ok_5), (9, sl A1 L1 C1), (10, iI (l__.length : Int)), (11, iI t11), (29, iI ((at_ l__ t11).Kind))] H Φ N') (fun N8 hN8 => ?_) ?_
 refine zd ((fD 1) (oV (vL 0 xE) (oV (yP rfl rfl) (oV vM ?_))))
 refine oS 52 hL1 (fun hL1 => ?_) (fun hL1 => ?_)
 refine oN (oV vM (oV yt (oV vM ?_)))
 refine oS 55 hL1 (fun hL1 => ?_) (fun hL1 => ?_)
 refine oN ((fD 3) (oN (oV (vL 0 jQ) (oN (oV (zL (enc := zR) ((at_ l__ t11).Items) kT rfl (.f 1 rfl)) (oN (oV vB (oV yt (oV vA (zh ?_))))))))))
 exact sK [0, 0] [0, 1] (hN8 ((((at_ l__ t11).Items).length : Int) == 0) hL1)
 refine oF (oF (oF (oF (oV yj (oV vA (zh ?_))))))
 exact sK [0, 0] [0, 1] (hN8 false hL1)
 refine oF (oV yj (oV vM (oF (oF (oF (oF (oV yj (oV vA (zh ?_)))))))))
 exact sK [0, 0] [0, 1] (hN8 false hL1)
 intro ok_5 hL1
 unfold qd.rightItems_j8 at hL1
 exact sK [0, 0] [0, 1] (hN7 ok_5 hL1)
 refine zf (cR (oV vB (oV vA (zb ?_))))
 refine cT (fun E H Φ N' => ∀ (t61 : Bool), qd.rightItems_j9 l__ t11 left1 g42 (qd.rightItems_l1 l__ g42 j) number1 t61 = some o1 -> zT E [(0, sl A1 L1 C1), (1, pt b), (4, bV false), (6, pt b2), (7, bV number1), (8, bV false), (9, sl A1 L1 C1), (10, iI (l__.length : Int)), (11, iI t11), (29, iI ((at_ l__ t11).Kind)), (61, bV t61)] H Φ N') (fun N15 hN15 => ?_) ?_
 refine cC hL1 (fun hL1 => ?_) (fun hL1 => ?_)
 refine zk ?_
 exact sK [0, 0] [0, 1] (hN15 (((at_ l__ t11).Kind) == 3) hL1)
 refine zd (oV vB (oV vA (zh ?_)))
 exact sK [0, 0] [0, 1] (hN15 (((at_ l__ t11).Kind) == 4) hL1)
 intro t61 hL1
 unfold qd.rightItems_j9 at hL1
 refine ze ?_
 refine cT (fun E H Φ N' => ∀ (ok_6 : Bool), qd.rightItems_j10 left1 g42 l__ t11 (qd.rightItems_l1 l__ g42 j) number1 ok_6 = some o1 -> zT E [(0, sl A1 L1 C1), (1, pt b), (4, bV false), (6, pt b2), (7, bV number1), (8, bV ok_6), (9, sl A1 L1 C1), (10, iI (l__.length : Int)), (11, iI t11), (29, iI ((at_ l__ t11).Kind)), (61, bV t61)] H Φ N') (fun N10 hN10 => ?_) ?_
 refine cC hL1 (fun hL1 => ?_) (fun hL1 => ?_)
 refine cT (fun E H Φ N' => ∀ (ok_7 : Bool), qd.rightItems_j11 left1 g42 l__ t11 (qd.rightItems_l1 l__ g42 j) number1 ok_7 = some o1 -> zT E [(0, sl A1 L1 C1), (1, pt b), (4, bV false), (6, pt b2), (7, bV number1), (8, bV ok_7), (9, sl A1 L1 C1), (10, iI (l__.length : Int)), (11, iI t11), (29, iI ((at_ l__ t11).Kind)), (61, bV t61)] H Φ N') (fun N11 hN11 => ?_) ?_
 refine zd ((fD 1) (oV (vL 0 xE) (oV (yP rfl rfl) (oV vM ?_))))
 refine oS 67 hL1 (fun hL1 => ?_) (fun hL1 => ?_)
 refine oN ((fD 2) (oN (oV (vL 0 yz) (oN (oV vB (oV yt (oV vM ?_)))))))
 refine oS 72 hL1 (fun hL1 => ?_) (fun hL1 => ?_)
 refine oN ((fD 3) (oN (oV (vL 0 jQ) (oN (oV (zL (enc := zR) ((at_ l__ t11).Items) kT rfl (.f 1 rfl)) (oN (oV vB (oV yt (oV vA (zh ?_))))))))))
 exact sK [0, 0] [0, 1] (hN11 ((((at_ l__ t11).Items).length : Int) == 0) hL1)
 refine oF (oF (oF (oF (oV yj (oV vA (zh ?_))))))
 exact sK [0, 0] [0, 1] (hN11 false hL1)
 refine oF (oF (oF (oV yj (oV vM (oF (oF (oF (oF (oV yj (oV vA (zh ?_)))))))))))
 exact sK [0, 0] [0, 1] (hN11 false hL1)
 intro ok_7 hL1
 unfold qd.rightItems_j11 at hL1
 exact sK [0, 0] [0, 1] (hN10 ok_7 hL1)
 refine cR (oV vB (oV vA (zb ?_)))
 refine cT (fun E H Φ N' => ∀ (ok_8 : Bool), qd.rightItems_j12 left1 g42 l__ t11 (qd.rightItems_l1 l__ g42 j) number1 ok_8 = some o1 -> zT E [(0, sl A1 L1 C1), (1, pt b), (4, bV false), (6, pt b2), (7, bV number1), (8, bV ok_8), (9, sl A1 L1 C1), (10, iI (l__.length : Int)), (11, iI t11), (29, iI ((at_ l__ t11).Kind)), (61, bV t61)] H Φ N') (fun N12 hN12 => ?_) ?_
 refine cC hL1 (fun hL1 => ?_) (fun hL1 => ?_)
 refine cT (fun E H Φ N' => ∀ (ok_9 : Bool), qd.rightItems_j13 left1 g42 l__ t11 (qd.rightItems_l1 l__ g42 j) number1 ok_9 = some o1 -> zT E [(0, sl A1 L1 C1), (1, pt b), (4, bV false), (6, pt b2), (7, bV number1), (8, bV ok_9), (9, sl A1 L1 C1), (10, iI (l__.length : Int)), (11, iI t11), (29, iI ((at_ l__ t11).Kind)), (61, bV t61)] H Φ N') (fun N13 hN13 => ?_) ?_
 refine zd ((fD 1) (oV (vL 0 xE) (oV (yP rfl rfl) (oV vM ?_))))
 refine oS 83 hL1 (fun hL1 => ?_) (fun hL1 => ?_)
 refine oN (oV vM (oV yt (oV vA (zh ?_))))
 exact sK [0, 0] [0, 1] (hN13 number1 hL1)
 refine oF (oV yj (oV vA (zh ?_)))
 exact sK [0, 0] [0, 1] (hN13 false hL1)
 intro ok_9 hL1
 unfold qd.rightItems_j13 at hL1
 exact sK [0, 0] [0, 1] (hN12 ok_9 hL1)
 refine cR (oV vB (oV vA (zb ?_)))
 refine cT (fun E H Φ N' => ∀ (ok_10 : Bool), qd.rightItems_j14 left1 g42 l__ t11 (qd.rightItems_l1 l__ g42 j) number1 ok_10 = some o1 -> zT E [(0, sl A1 L1 C1), (1, pt b), (4, bV false), (6, pt b2), (7, bV number1), (8, bV ok_10), (9, sl A1 L1 C1), (10, iI (l__.length : Int)), (11, iI t11), (29, iI ((at_ l__ t11).Kind)), (61, bV t61)] H Φ N') (fun N14 hN14 => ?_) ?_
 refine cC hL1 (fun hL1 => ?_) (fun hL1 => ?_)
 refine cT (fun E H Φ N' => ∀ (ok_11 : Bool), qd.rightItems_j15 left1 g42 l__ t11 (qd.rightItems_l1 l__ g42 j) number1 ok_11 = some o1 -> zT E [(0, sl A1 L1 C1), (1, pt b), (4, bV false), (6, pt b2), (7, bV number1), (8, bV ok_11), (9, sl A1 L1 C1), (10, iI (l__.length : Int)), (11, iI t11), (29, iI ((at_ l__ t11).Kind)), (61, bV t61)] H Φ N') (fun N15 hN15 => ?_) ?_
 refine zd ((fD 1) (oV (vL 0 xE) (oV (yP rfl rfl) (oV vM ?_))))
 refine oS 91 hL1 (fun hL1 => ?_) (fun hL1 => ?_)
 refine oN ((fD 2) (oN (oV (vL 0 yz) (oN (oV vB (oV yt (oV vA (zh ?_))))))))
 exact sK [0, 0] [0, 1] (hN15 (((at_ l__ t11).N_) == 0) hL1)
 refine oF (oF (oF (oV yj (oV vA (zh ?_)))))
 exact sK [0, 0] [0, 1] (hN15 false hL1)
 intro ok_11 hL1
 unfold qd.rightItems_j15 at hL1
 exact sK [0, 0] [0, 1] (hN14 ok_11 hL1)
 refine zk ?_
 exact sK [0, 0] [0, 1] (hN14 false hL1)
 intro ok_10 hL1
 unfold qd.rightItems_j14 at hL1
 exact sK [0, 0] [0, 1] (hN12 ok_10 hL1)
 intro ok_8 hL1
 unfold qd.rightItems_j12 at hL1
 exact sK [0, 0] [0, 1] (hN10 ok_8 hL1)
 intro ok_6 hL1
 unfold qd.rightItems_j10 at hL1
 exact sK [0, 0] [0, 1] (hN7 ok_6 hL1)
 intro ok_4 hL1
 unfold qd.rightItems_j7 at hL1
 exact sK [0, 0] [0, 1] (hN5 ok_4 hL1)
 intro ok_2 hL1
 unfold qd.rightItems_j5 at hL1
 exact sK [0, 0] [0, 1] (hN4 ok_2 hL1)
 intro ok_1 hL1
 unfold qd.rightItems_j4 at hL1
 refine ze (cR (oV vM (oV vN (oV vM ?_))))
 refine oS 98 hL1 (fun hL1 => ?_) (fun hL1 => ?_)
 refine oF (oF (oF (oF (oV yt (oV vM (oF (oF (oF (oF (oF (oV yt (zb ?_))))))))))))
 refine xH rfl (fun _ => ?_) (fun h => Bool.noConfusion h)
 refine cR (oV vA (zb (zp ?_)))
 cases hL1
 obtain rfl := zK hF
 refine yH rfl (zX rfl) fun a w hs => zo hs [1] ⟨rfl, rfl, rfl⟩ rfl zn
 refine oN (oV vM (oN (oV vC (oN (oV (vL 1 yz) (oN (oV vB (oV yj (oV vM ?_)))))))))
 refine oS 104 hL1 (fun hL1 => ?_) (fun hL1 => ?_)
 refine oF (oF (oF (oF (oF (oV yt (zb ?_))))))
 refine xH rfl (fun _ => ?_) (fun h => Bool.noConfusion h)
 refine cR (oV vA (zb (zp ?_)))
 cases hL1
 obtain rfl := zK hF
 refine yH rfl (zX rfl) fun a w hs => zo hs [1] ⟨rfl, rfl, rfl⟩ rfl zn
 refine oN ((fD 3) (oN (oV (vL 0 jQ) (oN (oV vM (oN ?_))))))
 obtain ⟨v, h5, hL1⟩ := bd hL1
 refine yx [1] call42 rfl rfl (zy [1] rfl) (hg42 h5 :) ?_
 rintro _ _ _ ⟨rfl, rfl, rfl⟩
 refine oN (oV vN (oV yj (zb ?_)))
 refine cC hL1 (fun hL1 => ?_) (fun hL1 => ?_)
 refine cR (oV vA (zb (zp ?_)))
 cases hL1
 obtain rfl := zK hF
 refine yH rfl (zX rfl) fun a w hs => zo hs [0] ⟨rfl, rfl, rfl⟩ rfl zn
 refine zk ?_
 exact sK [0, 0] [0, 1] (hN2 number1 ok_1 v.2 A3 L3 C3 b2 hL1)
 intro number ok_ left2 A2 L2 C2 b1 hL1
 unfold qd.rightItems_j2 at hL1
 refine ze (zd (oV vB (oV vM (zh ?_))))
 exact lp [0] [0] fun a w hs => ⟨IntKind.wrap .i64 (t11 + 1), left2, hL1, hs⟩
 refine zW ?_
 cases hL1
 exact sK [0] [0] (hN1 left1 rfl)
 intro d1 hd
 subst hd
 replace hF := yF hF
 refine ze (cR (oV vA (zb (zp ?_))))
 cases hF
 refine yH rfl (zX rfl) fun a w hs => zo hs [0] ⟨rfl, rfl, rfl⟩ rfl zn
theorem tri42 (k : Nat) : (P42 (qd.rightItems k)) := by
 induction k with
 | zero => exact fun h => nomatch (show none = some _ from h)
 | succ k ih => exact tri42_B k _ ih
theorem tri17 {k : Nat} {d_ : zY} {r : Bool} (hF : qd.Right k d_ = some r) :
    xu Tryz.prog 17 [.agg (yB d_ A1 L1 C1 A2 L2 C2 A3 L3 C3 A4 L4 C4 A5 L5 C5).toArray] [] [fS A1 L1 C1 5 yh d_.Prods, fS A2 L2 C2 1 (w8 2 zD) d_.Chains, fS A3 L3 C3 5 z7 d_.Follows, fS A4 L4 C4 2 z6 d_.Rejects, fS A5 L5 C5 2 xq d_.Boxes] (oR (bV r)) := by
 unfold qd.Right at hF
 refine zt (n := 100) Tryz.func17 rfl Tryz.ntmps17 rfl fun w X => cR (xr rfl rfl rfl fun b => oV vA (zb (zf (cR ((fD 0) (oV (vL 0 xE) ?_))))))
 obtain ⟨v, h1, hF⟩ := bd hF
 refine zu kq rfl zv (qi h1 :) rfl (oV vN (oV vM ?_))
 refine oS 18 hF (fun hF => ?_) (fun hF => ?_)
 refine oF (oF (oF (oF (oV yt (oV vM (oF (oF (oF (oF (oV yt (zb ?_)))))))))))
 refine xH rfl (fun _ => ?_) (fun h => Bool.noConfusion h)
 refine cR (oV vA (zb (zp ?_)))
 cases hF
 exact sR
 refine oN ((fD 1) (oN (oV (vL 0 xE) (oN ?_))))
 obtain ⟨v1, h3, hF⟩ := bd hF
 refine zu kq rfl zv (qi h3 :) rfl (oN (oV vN (oV yj (oV vM ?_))))
 refine oS 24 hF (fun hF => ?_) (fun hF => ?_)
 refine oF (oF (oF (oF (oV yt (zb ?_)))))
 refine xH rfl (fun _ => ?_) (fun h => Bool.noConfusion h)
 refine cR (oV vA (zb (zp ?_)))
 cases hF
 exact sR
 refine oN ((fD 2) (oN (oV (vL 0 kR) (oN (oV (zL (enc := yh) d_.Prods vK rfl (.f 0 rfl)) (oN (oV vB (oV yj (zb ?_)))))))))
 refine cC hF (fun hF => ?_) (fun hF => ?_)
 refine cR (oV vA (zb (zp ?_)))
 cases hF
 exact sR
 refine zk (ze (zf (cR ((fD 2) (oV (vL 0 kR) (oV (zL (enc := yh) d_.Prods vK rfl (.f 0 rfl)) (oV vM (zb ?_))))))))
 obtain ⟨o1, ho1, hF⟩ := bd hF
 refine cT (fun E H Φ N' => ∀ (d1 : Unit), o1 = .done d1 -> zT E [(0, .agg (yB d_ A1 L1 C1 A2 L2 C2 A3 L3 C3 A4 L4 C4 A5 L5 C5).toArray), (1, pt b), (2, bV false), (31, sl A1 L1 C1)] H Φ N') (fun N1 hN1 => ?_) ?_
 refine zq ?_
 refine cL (fun E H Φ j a w => ∃ (t33 : Int), qd.Right_l1 k d_ j t33 = some o1 /\ St E [(0, .agg (yB d_ A1 L1 C1 A2 L2 C2 A3 L3 C3 A4 L4 C4 A5 L5 C5).toArray), (1, pt b), (2, bV false), (31, sl A1 L1 C1), (32, iI (d_.Prods.length : Int)), (33, iI t33)] H Φ a w) k ?_ ?_
 exact lq [0] [0, 1, 2, 3, 4] fun a w hs => ⟨0, ho1, hs⟩
 rintro j a w ⟨t33, hL1, hs⟩
 rcases j with _ | j
 cases hL1
 refine yd hs ?_
 unfold qd.Right_l1 at hL1
 refine cR (oV vB (zb (zf ?_)))
 refine cC hL1 (fun hL1 => ?_) (fun hL1 => ?_)
 refine zk (ze (zf (zq (cR (zc hL1 fun h7 hL1 => oV (zi (xs := d_.Prods) (enc := yh) vK rfl rfl (.f 0 rfl) h7) (yq (xs := d_.Prods) (enc := yh) gj rfl (.f 0 rfl) h7 rfl rfl rfl rfl rfl rfl ?_))))))
 intro A6 L6 C6
 refine zC gA rfl rfl fun b1 => (sT 0 gj) (zb (cR (oV (vL 0 gj) ?_)))
 obtain ⟨v2, h8, hL1⟩ := bd hL1
 refine zu call40 rfl (zA 0 rfl zv) (tri40 h8 :) rfl (oV vN (zb ?_))
 refine cC hL1 (fun hL1 => ?_) (fun hL1 => ?_)
 refine cR (oV vA (zb (zp ?_)))
 cases hL1
 obtain rfl := zK hF
 exact sR
 refine zk (ze (zd (oV vB (oV vM (zh ?_)))))
 exact lp [1] [1, 2, 3, 4, 5] fun a w hs => ⟨IntKind.wrap .i64 (t33 + 1), hL1, hs⟩
 refine zW ?_
 cases hL1
 exact sK [0] [0, 1, 2, 3, 4] (hN1 () rfl)
 intro d1 hd
 subst hd
 replace hF := yF hF
 refine ze (zf (cR ((fD 3) (oV (vL 0 ty23) (oV (zL (enc := (w8 2 zD)) d_.Chains jx rfl (.f 1 rfl)) (oV vM (zb ?_)))))))
 obtain ⟨o2, ho2, hF⟩ := bd hF
 refine cT (fun E H Φ N' => ∀ (d2 : Unit), o2 = .done d2 -> zT E [(0, .agg (yB d_ A1 L1 C1 A2 L2 C2 A3 L3 C3 A4 L4 C4 A5 L5 C5).toArray), (1, pt b), (2, bV false), (31, sl A1 L1 C1), (42, sl A2 L2 C2)] H Φ N') (fun N2 hN2 => ?_) ?_
 refine zq ?_
 refine cL (fun E H Φ j a w => ∃ (t44 : Int), qd.Right_l2 k d_ j t44 = some o2 /\ St E [(0, .agg (yB d_ A1 L1 C1 A2 L2 C2 A3 L3 C3 A4 L4 C4 A5 L5 C5).toArray), (1, pt b), (2, bV false), (31, sl A1 L1 C1), (42, sl A2 L2 C2), (43, iI (d_.Chains.length : Int)), (44, iI t44)] H Φ a w) k ?_ ?_
 exact lq [0] [0, 1, 2, 3, 4] fun a w hs => ⟨0, ho2, hs⟩
 rintro j a w ⟨t44, hL2, hs⟩
 rcases j with _ | j
 cases hL2
 refine yd hs ?_
 unfold qd.Right_l2 at hL2
 refine cR (oV vB (zb (zf ?_)))
 refine cC hL2 (fun hL2 => ?_) (fun hL2 => ?_)
 refine zk (ze (zf (zq (cR (zc hL2 fun h11 hL2 => oV (zi (xs := d_.Chains) (enc := (w8 2 zD)) jx rfl rfl (.f 1 rfl) h11) (yq (xs := d_.Chains) (enc := (w8 2 zD)) ty58 rfl (.f 1 rfl) h11 rfl rfl rfl rfl rfl rfl ?_))))))
 intro A7 L7 C7
 refine oV vA (zb (cR (oV vM ?_)))
 obtain ⟨v3, h12, hL2⟩ := bd hL2
 refine zu call41 rfl (zA 0 rfl zv) (tri41 h12 :) rfl (oV vN (zb ?_))
 refine cC hL2 (fun hL2 => ?_) (fun hL2 => ?_)
 refine cR (oV vA (zb (zp ?_)))
 cases hL2
 obtain rfl := zK hF
 exact sR
 refine zk (ze (zd (oV vB (oV vM (zh ?_)))))
 exact lp [0] [1, 2, 3, 4, 5] fun a w hs => ⟨IntKind.wrap .i64 (t44 + 1), hL2, hs⟩
 refine zW ?_
 cases hL2
 exact sK [0] [0, 1, 2, 3, 4] (hN2 () rfl)
 intro d2 hd
 subst hd
 replace hF := yF hF
 refine ze (zf (cR ((fD 4) (oV (vL 0 gl) (oV (zL (enc := z7) d_.Follows qw rfl (.f 2 rfl)) (oV vM (zb ?_)))))))
 obtain ⟨o3, ho3, hF⟩ := bd hF
 refine cT (fun E H Φ N' => ∀ (d3 : Unit), o3 = .done d3 -> zT E [(0, .agg (yB d_ A1 L1 C1 A2 L2 C2 A3 L3 C3 A4 L4 C4 A5 L5 C5).toArray), (1, pt b), (2, bV false), (31, sl A1 L1 C1), (42, sl A2 L2 C2), (53, sl A3 L3 C3)] H Φ N') (fun N3 hN3 => ?_) ?_
 refine zq ?_
 refine cL (fun E H Φ j a w => ∃ (t55 : Int), qd.Right_l3 k d_ j t55 = some o3 /\ St E [(0, .agg (yB d_ A1 L1 C1 A2 L2 C2 A3 L3 C3 A4 L4 C4 A5 L5 C5).toArray), (1, pt b), (2, bV false), (31, sl A1 L1 C1), (42, sl A2 L2 C2), (53, sl A3 L3 C3), (54, iI (d_.Follows.length : Int)), (55, iI t55)] H Φ a w) k ?_ ?_
 exact lq [0] [0, 1, 2, 3, 4] fun a w hs => ⟨0, ho3, hs⟩
 rintro j a w ⟨t55, hL3, hs⟩
 rcases j with _ | j
 cases hL3
 refine yd hs ?_
 unfold qd.Right_l3 at hL3
 refine cR (oV vB (zb (zf ?_)))
 refine cC hL3 (fun hL3 => ?_) (fun hL3 => ?_)
 refine zk (ze (zf (zq (cR (zc hL3 fun h15 hL3 => oV (zi (xs := d_.Follows) (enc := z7) qw rfl rfl (.f 2 rfl) h15) (oV (yc (xs := d_.Follows) (enc := z7) ty48 rfl (.f 2 rfl) h15 rfl rfl rfl rfl rfl rfl rfl) (zC zero48 rfl rfl ?_)))))))
 intro b2
 refine (sT 0 ty48) (zb (cR ((fD 0) (oV (vL 0 xE) ?_))))
 obtain ⟨v4, h16, hL3⟩ := bd hL3
 refine zu kq rfl zv (qi h16 :) rfl (oV vN (zb ?_))
 refine cC hL3 (fun hL3 => ?_) (fun hL3 => ?_)
 refine cR (oV vA (zb (zp ?_)))
 cases hL3
 obtain rfl := zK hF
 exact sR
 refine zk (ze (zd (oV vB (oV vM (zh ?_)))))
 exact lp [1] [0, 1, 2, 3, 4] fun a w hs => ⟨IntKind.wrap .i64 (t55 + 1), hL3, hs⟩
 refine zW ?_
 cases hL3
 exact sK [0] [0, 1, 2, 3, 4] (hN3 () rfl)
 intro d3 hd
 subst hd
 replace hF := yF hF
 refine ze (zf (cR ((fD 5) (oV (vL 0 gk) (oV (zL (enc := z6) d_.Rejects qv rfl (.f 3 rfl)) (oV vM (zb ?_)))))))
 obtain ⟨o4, ho4, hF⟩ := bd hF
 refine cT (fun E H Φ N' => ∀ (d4 : Unit), o4 = .done d4 -> zT E [(0, .agg (yB d_ A1 L1 C1 A2 L2 C2 A3 L3 C3 A4 L4 C4 A5 L5 C5).toArray), (1, pt b), (2, bV false), (31, sl A1 L1 C1), (42, sl A2 L2 C2), (53, sl A3 L3 C3), (65, sl A4 L4 C4)] H Φ N') (fun N4 hN4 => ?_) ?_
 refine zq ?_
 refine cL (fun E H Φ j a w => ∃ (t67 : Int), qd.Right_l4 k d_ j t67 = some o4 /\ St E [(0, .agg (yB d_ A1 L1 C1 A2 L2 C2 A3 L3 C3 A4 L4 C4 A5 L5 C5).toArray), (1, pt b), (2, bV false), (31, sl A1 L1 C1), (42, sl A2 L2 C2), (53, sl A3 L3 C3), (65, sl A4 L4 C4), (66, iI (d_.Rejects.length : Int)), (67, iI t67)] H Φ a w) k ?_ ?_
 exact lq [0] [0, 1, 2, 3, 4] fun a w hs => ⟨0, ho4, hs⟩
 rintro j a w ⟨t67, hL4, hs⟩
 rcases j with _ | j
 cases hL4
 refine yd hs ?_
 unfold qd.Right_l4 at hL4
 refine cR (oV vB (zb (zf ?_)))
 refine cC hL4 (fun hL4 => ?_) (fun hL4 => ?_)
 refine zk (ze (zf (zq (cR (zc hL4 fun h19 hL4 => oV (zi (xs := d_.Rejects) (enc := z6) qv rfl rfl (.f 3 rfl) h19) (oV (yc (xs := d_.Rejects) (enc := z6) ty78 rfl (.f 3 rfl) h19 rfl rfl rfl rfl rfl rfl rfl) (zC zero78 rfl rfl ?_)))))))
 intro b3
 refine (sT 0 ty78) (zb (cR ((fD 0) (oV (vL 0 xE) ?_))))
 obtain ⟨v5, h20, hL4⟩ := bd hL4
 refine zu kq rfl zv (qi h20 :) rfl (oV vN (oV vM ?_))
 refine oS 75 hL4 (fun hL4 => ?_) (fun hL4 => ?_)
 refine oF (oF (oF (oF (oV yt (zb ?_)))))
 refine xH rfl (fun _ => ?_) (fun h => Bool.noConfusion h)
 refine cR (oV vA (zb (zp ?_)))
 cases hL4
 obtain rfl := zK hF
 exact sR
 refine oN ((fD 1) (oN (oV (vL 0 xE) (oN ?_))))
 obtain ⟨v6, h22, hL4⟩ := bd hL4
 refine zu kq rfl zv (qi h22 :) rfl (oN (oV vN (oV yj (zb ?_))))
 refine cC hL4 (fun hL4 => ?_) (fun hL4 => ?_)
 refine cR (oV vA (zb (zp ?_)))
 cases hL4
 obtain rfl := zK hF
 exact sR
 refine zk (ze (zd (oV vB (oV vM (zh ?_)))))
 exact lp [1] [0, 1, 2, 3, 4] fun a w hs => ⟨IntKind.wrap .i64 (t67 + 1), hL4, hs⟩
 refine zW ?_
 cases hL4
 exact sK [0] [0, 1, 2, 3, 4] (hN4 () rfl)
 intro d4 hd
 subst hd
 replace hF := yF hF
 refine ze (zf (cR ((fD 6) (oV (vL 0 jC) (oV (zL (enc := xq) d_.Boxes jw rfl (.f 4 rfl)) (oV vM (zb ?_)))))))
 obtain ⟨o5, ho5, hF⟩ := bd hF
 refine cT (fun E H Φ N' => ∀ (d5 : Unit), o5 = .done d5 -> zT E [(0, .agg (yB d_ A1 L1 C1 A2 L2 C2 A3 L3 C3 A4 L4 C4 A5 L5 C5).toArray), (1, pt b), (2, bV false), (31, sl A1 L1 C1), (42, sl A2 L2 C2), (53, sl A3 L3 C3), (65, sl A4 L4 C4), (83, sl A5 L5 C5)] H Φ N') (fun N5 hN5 => ?_) ?_
 refine zq ?_
 refine cL (fun E H Φ j a w => ∃ (t85 : Int), qd.Right_l5 k d_ j t85 = some o5 /\ St E [(0, .agg (yB d_ A1 L1 C1 A2 L2 C2 A3 L3 C3 A4 L4 C4 A5 L5 C5).toArray), (1, pt b), (2, bV false), (31, sl A1 L1 C1), (42, sl A2 L2 C2), (53, sl A3 L3 C3), (65, sl A4 L4 C4), (83, sl A5 L5 C5), (84, iI (d_.Boxes.length : Int)), (85, iI t85)] H Φ a w) k ?_ ?_
 exact lq [0] [0, 1, 2, 3, 4] fun a w hs => ⟨0, ho5, hs⟩
 rintro j a w ⟨t85, hL5, hs⟩
 rcases j with _ | j
 cases hL5
 refine yd hs ?_
 unfold qd.Right_l5 at hL5
 refine cR (oV vB (zb (zf ?_)))
 refine cC hL5 (fun hL5 => ?_) (fun hL5 => ?_)
 refine zk (ze (zf (zq (cR (zc hL5 fun h25 hL5 => oV (zi (xs := d_.Boxes) (enc := xq) jw rfl rfl (.f 4 rfl) h25) (yq (xs := d_.Boxes) (enc := xq) ty64 rfl (.f 4 rfl) h25 rfl rfl rfl rfl rfl rfl ?_))))))
 intro A8 L8 C8
 refine zC zero64 rfl rfl fun b4 => (sT 0 ty64) (zb (cR (zC zero3 rfl rfl ?_)))
 intro b5
 refine (sT 0 yz) ?_
 refine zb (cR ((fD 0) (oV (vL 1 xE) ?_)))
 obtain ⟨v7, h26, hL5⟩ := bd hL5
 refine zu kq rfl zv (qi h26 :) rfl (oV vN (oV vM ?_))
 refine oS 93 hL5 (fun hL5 => ?_) (fun hL5 => ?_)
 refine oF (oF (oF (oF (oV yt (zb ?_)))))
 refine xH rfl (fun _ => ?_) (fun h => Bool.noConfusion h)
 refine cR (oV vA (zb (zp ?_)))
 cases hL5
 obtain rfl := zK hF
 exact sR
 refine oN ((fD 1) (oN (oV (vL 1 jQ) (oN ?_))))
 obtain ⟨v8, h28, hL5⟩ := bd hL5
 refine yx [0] call42 rfl rfl (zy [0] rfl) ((tri42 _) h28 :) ?_
 rintro _ _ _ ⟨rfl, rfl, rfl⟩
 refine oN (oV vN (oV yj (zb ?_)))
 refine cC hL5 (fun hL5 => ?_) (fun hL5 => ?_)
 refine cR (oV vA (zb (zp ?_)))
 cases hL5
 obtain rfl := zK hF
 exact sR
 refine zk (ze (zd (oV vB (oV vM (zh ?_)))))
 exact lp [2] [1, 2, 3, 4, 5] fun a w hs => ⟨IntKind.wrap .i64 (t85 + 1), hL5, hs⟩
 refine zW ?_
 cases hL5
 exact sK [0] [0, 1, 2, 3, 4] (hN5 () rfl)
 intro d5 hd
 subst hd
 replace hF := yF hF
 refine ze (cR (oV vA (zb (zp ?_))))
 cases hF
 exact sR
theorem tri27 {b : zx} {s : Tx} {b1 : Nat} {r : Int × zx} (hF : F.strings.Builder_WriteString b s = some r) :
    xu Tryz.prog 27 [pt b1, sV s] [.box b1 69 [wL b1 b.addr, sl A1 L1 C1], rW A1 L1 C1 5 1 xj b.buf] [] (fun o H Φ => ∃ (A4 : OA) (L4 C4 : Nat), o = .ret (.tuple #[iI r.1, .nilIface]) /\ H = [.box b1 69 [wL b1 r.2.addr, sl A4 L4 C4], rW A4 L4 C4 5 1 xj r.2.buf] /\ Φ = []) := by
 unfold F.strings.Builder_WriteString at hF
 refine zt (n := 19) Tryz.func27 rfl Tryz.ntmps27 rfl fun w X => cR (oV vA (oV vA (zb (cR (oV vM ?_)))))
 obtain ⟨v, h1, hF⟩ := bd hF
 refine yx [0, 0] call69 rfl rfl zn (tri69 b b1 A1 L1 C1 v h1) ?_
 rintro _ _ _ ⟨A2, L2, C2, rfl, rfl, rfl⟩
 refine zb (cR (oV vM (oV vM (oV vC ((fD 1) (oV (vL 0 ty67) (oV vM (zc hF ?_))))))))
 intro h2 hF
 refine zc hF fun h3 hF => o_append_str (xs := v.buf) (s := s) 1 (kM jS).1 Tryz.underlying9 byt5 rfl rfl rfl h2 h3 rfl fun A3 L3 C3 => oV vC ((fD 1) ((sT 0 ty67) (zb ?_)))
 refine cR (oV vM (oV (yo Tryz.underlying9 rfl) (oV vA (oV vA (zb (zp ?_))))))
 cases hF
 refine ye rfl (zX rfl) (zX rfl) fun a w hs => zo hs [0, 0] ⟨A3, L3, C3, rfl, rfl, rfl⟩ rfl zn
theorem tri28 {b : zx} {b1 : Nat} {r : Int} (hF : F.strings.Builder_Len b = some r) :
    xu Tryz.prog 28 [pt b1] [.box b1 69 [wL b1 b.addr, sl A1 L1 C1], rW A1 L1 C1 5 1 xj b.buf] [] (fun o H Φ => o = .ret (iI r) /\ H = [.box b1 69 [wL b1 b.addr, sl A1 L1 C1], rW A1 L1 C1 5 1 xj b.buf] /\ Φ = []) := by
 unfold F.strings.Builder_Len at hF
 refine zt (n := 8) Tryz.func28 rfl Tryz.ntmps28 rfl fun w X => cR (oV vA (zb (cR (oV vM (oV vC ((fD 1) (oV (vL 0 ty67) (oV (zL (enc := xj) b.buf jS rfl (.r 1 _ rfl)) (oV vA (zb (zp ?_)))))))))))
 cases hF
 refine yH rfl (zX rfl) fun a w hs => zo hs [0, 0] ⟨rfl, rfl, rfl⟩ rfl zn
theorem tri26 {s : Tx} {free : zx} {b : Nat} {r : Bool × zx} (hF : qd.Print_c1 s free = some r) :
    xu Tryz.prog 26 [sV s, pt b] [.box b 69 [wL b free.addr, sl A1 L1 C1], rW A1 L1 C1 5 1 xj free.buf] [] (fun o H Φ => ∃ (A3 : OA) (L3 C3 : Nat), o = .ret (bV r.1) /\ H = [.box b 69 [wL b r.2.addr, sl A3 L3 C3], rW A3 L3 C3 5 1 xj r.2.buf] /\ Φ = []) := by
 unfold qd.Print_c1 at hF
 refine zt (n := 8) Tryz.func26 rfl Tryz.ntmps26 rfl fun w X => cR (oV vA (zb (cR (oV vM ?_))))
 obtain ⟨v, h1, hF⟩ := bd hF
 refine yx [0, 0] call27 rfl rfl zn (tri27 h1 :) ?_
 rintro _ _ _ ⟨A2, L2, C2, rfl, rfl, rfl⟩
 refine zb (cR ?_)
 obtain ⟨v1, h2, hF⟩ := bd hF
 refine yx [0, 0] call28 rfl rfl zn (tri28 h2 :) ?_
 rintro _ _ _ ⟨rfl, rfl, rfl⟩
 refine oV vB (oV vA (zb (zp ?_)))
 cases hF
 refine yH rfl (zX rfl) fun a w hs => zo hs [0, 0] ⟨A2, L2, C2, rfl, rfl, rfl⟩ rfl zn
theorem tri45 {s : S4} {r : List vw} (hF : qc.Runs s = some r) :
    xu Tryz.prog 45 [.agg s.vs.toArray] [] [] (fun o H Φ => ∃ (A4 : OA) (L4 C4 : Nat), o = .ret (sl A4 L4 C4) /\ H = [rW A4 L4 C4 98 2 gv r] /\ Φ = []) := by
 unfold qc.Runs at hF
 refine zt (n := 41) Tryz.func45 rfl Tryz.ntmps45 rfl fun w X => cR (xr rfl rfl rfl fun b => oV vA (zb (cR (zC zero95 rfl rfl ?_))))
 intro b1
 refine zb (zf (cR (oV (vL 1 yT) (zV call98 rfl zn (tri98 s) rfl ?_))))
 rintro _ _ _ ⟨b2, rfl, rfl, rfl⟩
 refine zb (zq (c_st (ym 98 2) ?_))
 obtain ⟨ob1, hb1, hF⟩ := bd hF
 refine c_range (i := 0) (V := (List vw)) (U := (Option Addr × Nat × Nat)) (qc.Runs_b1) ([] : List vw) (none, 0, 0) (allB s) 256 (fun (v1 : (List vw)) (u1 : (Option Addr × Nat × Nat)) => [.box b2 44 s.vs, .box b1 95 [.slice u1.1 u1.2.1 u1.2.2], .box b 44 s.vs, .row (.slice u1.1 u1.2.1 u1.2.2) 98 2 (v1.map gv)]) (fun (v1 : (List vw)) (u1 : (Option Addr × Nat × Nat)) => []) (fun (x_ : Int) => [(0, .agg s.vs.toArray), (1, pt b), (2, nS), (3, pt b1), (6, .agg s.vs.toArray), (7, .func (.func 122) #[] #[pt b2]), (8, iB x_), (4, iB x_)]) rfl rfl rfl call122 rfl (fun w hb => all_stops s _ w hb) (fun v1 u1 => List.mem_of_getElem? (i := 0) rfl) (fun v1 u1 => rfl) (st_sel [1, 1, 1, 0] rfl zn) (gm) ?_ ?_ ?_ ?_ ?_
 intro W1 rd1 x_ v1 u1
 refine zd (oV vA (zh (st_le [0, 0, 0, 0] (lea rfl) rfl zn)))
 intro W1 rd1 x_ v1 u1 o1 ho1
 unfold qc.Runs_b1 at ho1
 refine z8 (fun E N' => ∀ (out_ : List vw) (A1 : OA) (L1 C1 : Nat), qc.Runs_j2 out_ = some o1 -> zT E [(0, .agg s.vs.toArray), (1, pt b), (2, nS), (3, pt b1), (4, iB x_), (5, iI (v1.length : Int)), (7, .func (.func 122) #[] #[pt b2])] [.box b2 44 s.vs, .box b1 95 [sl A1 L1 C1], .box b 44 s.vs, rW A1 L1 C1 98 2 gv out_] [] N') (fun N2 hN2 => ?_) ?_
 refine zq (zf (cR (oV (vL 1 ty95) (oV (zL (enc := gv) v1 sl95 rfl (.r 3 _ rfl)) (oV vA (zb (zf ?_)))))))
 refine cT (fun E H Φ N' => ∀ (t24 : Bool), qc.Runs_j3 v1 x_ t24 = some o1 -> zT E [(0, .agg s.vs.toArray), (1, pt b), (2, nS), (3, pt b1), (4, iB x_), (5, iI (v1.length : Int)), (7, .func (.func 122) #[] #[pt b2]), (24, bV t24)] H [] N') (fun N3 hN3 => ?_) ?_
 refine zd (oV vM (oV vB (oV vM ?_)))
 refine oS 13 ho1 (fun ho1 => ?_) (fun ho1 => ?_)
 refine oN (oV (vL 1 ty95) (oN (oV vM (oN (oV vB (oN (zc ho1 ?_)))))))
 intro h6 ho1
 refine oV (zi (xs := v1) (enc := gv) sl95 rfl rfl (.r 3 _ rfl) h6) (oN (oV (zI (v := .pointer (some ⟨yW u1.1, yZ u1.1 + (Int.toNat (IntKind.wrap .i64 ((v1.length : Int) - 1)) * 2 + 1), none⟩)) rfl (fun _ => by kernel_rfl)) (oN (oV (yc (xs := v1) (enc := gv) yz rfl (.r 3 _ rfl) h6 rfl rfl rfl rfl rfl rfl rfl) (oN (oV vB (oN ?_)))))))
 refine oV vM (oN (oV (yu (v := iI (IntKind.wrap .i64 x_)) rfl (fun _ => by kernel_rfl)) (oN (oV vB (oV yt (zh ?_))))))
 exact sK [0, 0, 0, 0] [] (hN3 ((IntKind.wrap .i64 (((at_ v1 (IntKind.wrap .i64 ((v1.length : Int) - 1))).Hi) + 1)) == (IntKind.wrap .i64 x_)) ho1)
 refine oF (oF (oF (oF (oF (oF (oF (oF (oF (oF (oV yj (zh ?_)))))))))))
 exact sK [0, 0, 0, 0] [] (hN3 false ho1)
 intro t24 ho1
 unfold qc.Runs_j3 at ho1
 refine ze ?_
 refine cC ho1 (fun ho1 => ?_) (fun ho1 => ?_)
 refine cR (oV (vL 1 ty95) (oV vM (oV vB (oV vM (oV (yu (v := iI (IntKind.wrap .i64 x_)) rfl (fun _ => by kernel_rfl)) (zc ho1 ?_))))))
 intro h2 ho1
 refine oV (zi (xs := v1) (enc := gv) sl95 rfl rfl (.r 3 _ rfl) h2) (oV (zI (v := .pointer (some ⟨yW u1.1, yZ u1.1 + (Int.toNat (IntKind.wrap .i64 ((v1.length : Int) - 1)) * 2 + 1), none⟩)) rfl (fun _ => by kernel_rfl)) (o_store_s (xs := v1) (enc := gv) 3 (vw.mk ((at_ v1 (IntKind.wrap .i64 ((v1.length : Int) - 1))).Lo) (IntKind.wrap .i64 x_)) rfl yz rfl rfl rfl rfl h2 (.s rfl (.nil)) rfl rfl rfl (zb (zW ?_))))
 exact sK [0, 0, 0, 0] [] (hN2 (jG v1 (IntKind.wrap .i64 ((v1.length : Int) - 1)) (vw.mk ((at_ v1 (IntKind.wrap .i64 ((v1.length : Int) - 1))).Lo) (IntKind.wrap .i64 x_))) u1.1 u1.2.1 u1.2.2 ho1)
 refine zk (ze (zd (oV (vL 1 ty95) (oV vM (oV (yu (v := iI (IntKind.wrap .i64 x_)) rfl (fun _ => by kernel_rfl)) (oV vM (oV (yu (v := iI (IntKind.wrap .i64 x_)) rfl (fun _ => by kernel_rfl)) (oV (vU (.agg #[iI (IntKind.wrap .i64 x_), iI (IntKind.wrap .i64 x_)])) (zF (enc := gv) ([(vw.mk (IntKind.wrap .i64 x_) (IntKind.wrap .i64 x_))] : List vw) [iI (IntKind.wrap .i64 x_), iI (IntKind.wrap .i64 x_)] sl95 rfl (fun _ => by kernel_rfl) rfl rfl rfl (.s rfl (.s rfl (.nil))) rfl ?_)))))))))
 intro A2 L2 C2
 refine zc ho1 fun h3 ho1 => zc ho1 fun h4 ho1 => yf (enc := gv) (xs := v1) (ys := ([(vw.mk (IntKind.wrap .i64 x_) (IntKind.wrap .i64 x_))] : List vw)) 4 sl95 rfl rfl rfl (.r 0 _ rfl) h3 h4 rfl fun A3 L3 C3 => (sT 2 ty95) (zh ?_)
 exact sK [1, 1, 1, 1] [] (hN2 (v1 ++ ([(vw.mk (IntKind.wrap .i64 x_) (IntKind.wrap .i64 x_))] : List vw)) A3 L3 C3 ho1)
 intro out_ A1 L1 C1 ho1
 unfold qc.Runs_j2 at ho1
 cases ho1
 intro a w hs
 exact ⟨out_, (A1, L1, C1), rfl, sws_of (st_le [0, 0, 0, 0] le_nil rfl zn a w hs)⟩
 intro D1 v1 u1 hD1 hr1
 have e1 := Option.some.inj (hb1.symm.trans hr1)
 subst e1
 refine ze (cR (oV (vL 2 ty95) (oV vA (zb (zp ?_)))))
 cases hF
 refine s_dfr 0 D1 hD1 rfl rfl rfl (yH rfl (zX rfl) fun a w hs => zo hs [3] ⟨u1.1, u1.2.1, u1.2.2, rfl, rfl, rfl⟩ rfl zn)
 intro D1 v1 u1 hD1 hr1
 have e1 := Option.some.inj (hb1.symm.trans hr1)
 subst e1
 cases hF
 intro D1 v1 u1 hD1 hr1
 have e1 := Option.some.inj (hb1.symm.trans hr1)
 subst e1
 cases hF
theorem tri46 {b : Int} {r : Tx} (hF : qc.sign b = some r) :
    xu Tryz.prog 46 [iB b] [] [] (oR (sV r)) := by
 unfold qc.sign at hF
 refine zt (n := 45) Tryz.func46 rfl Tryz.ntmps46 rfl fun w X => cR (oV vA (zb (zf (cR (oV vM (zb (zq (cR (oV vB (oV vA (zb ?_)))))))))))
 refine cC hF (fun hF => ?_) (fun hF => ?_)
 refine cR (oV vA (zb (zp ?_)))
 cases hF
 exact sR
 refine cR (oV vB (oV vA (zb ?_)))
 refine cC hF (fun hF => ?_) (fun hF => ?_)
 refine cR (oV vA (zb (zp ?_)))
 cases hF
 exact sR
 refine cR (oV vB (oV vA (zb ?_)))
 refine cC hF (fun hF => ?_) (fun hF => ?_)
 refine cR (oV vA (zb (zp ?_)))
 cases hF
 exact sR
 refine cR (oV vB (oV vA (zb ?_)))
 refine cC hF (fun hF => ?_) (fun hF => ?_)
 refine cR (oV vA (zb (zp ?_)))
 cases hF
 exact sR
 refine zf (cR (oV vB (oV vA (zb ?_))))
 refine z8 (fun E N' => ∀ (t12 : Bool), qc.sign_j1 b t12 = some r -> zT E [(0, iB b), (2, sV ([] : Tx)), (3, iB b), (12, bV t12)] [] [] N') (fun N2 hN2 => ?_) ?_
 refine cC hF (fun hF => ?_) (fun hF => ?_)
 refine zk ?_
 exact sK [] [] (hN2 (b == 91) hF)
 refine cR (oV vB (oV vA (zb ?_)))
 refine cC hF (fun hF => ?_) (fun hF => ?_)
 refine zk ?_
 exact sK [] [] (hN2 (b == 93) hF)
 refine cR (oV vB (oV vA (zb ?_)))
 refine z8 (fun E N' => ∀ (t121 : Bool), qc.sign_j3 b t121 = some r -> zT E [(0, iB b), (2, sV ([] : Tx)), (3, iB b), (12, bV t121)] [] [] N') (fun N3 hN3 => ?_) ?_
 refine cC hF (fun hF => ?_) (fun hF => ?_)
 refine zk ?_
 exact sK [] [] (hN3 (b == 92) hF)
 refine cR (oV vB (oV vA (zb ?_)))
 refine cC hF (fun hF => ?_) (fun hF => ?_)
 refine zk ?_
 exact sK [] [] (hN3 (b == 45) hF)
 refine zd (oV vB (oV vA (zh ?_)))
 exact sK [] [] (hN3 (b == 94) hF)
 intro t121 hF
 unfold qc.sign_j3 at hF
 exact sK [] [] (hN2 t121 hF)
 intro t12 hF
 unfold qc.sign_j1 at hF
 refine ze ?_
 refine cC hF (fun hF => ?_) (fun hF => ?_)
 refine cR (oV vM (zF (enc := xj) ([b] : List Int) [iB b] jS rfl (fun _ => by kernel_rfl) rfl rfl rfl (.s rfl (.nil)) rfl ?_))
 intro A1 L1 C1
 refine oV (kQ jS Tryz.underlying5 Tryz.underlying9 rfl (.r 0 _ rfl)) (zc hF ?_)
 intro h6 hF
 refine oV (vS h6) (oV vA (zb (zp ?_)))
 cases hF
 exact sR
 refine zk (ze (zf (zf ?_)))
 refine z8 (fun E N' => ∀ (t27 : Bool), qc.sign_j2 b t27 = some r -> zT E [(0, iB b), (2, sV ([] : Tx)), (3, iB b), (12, bV t12), (27, bV t27)] [] [] N') (fun N2 hN2 => ?_) ?_
 refine zd (oV vM (oV vB (oV vM ?_)))
 refine oS 24 hF (fun hF => ?_) (fun hF => ?_)
 refine oN (oV vM (oN (oV vB (oV yt (zh ?_)))))
 exact sK [] [] (hN2 (decide (b < 127)) hF)
 refine oF (oF (oV yj (zh ?_)))
 exact sK [] [] (hN2 false hF)
 intro t27 hF
 unfold qc.sign_j2 at hF
 refine ze ?_
 refine cC hF (fun hF => ?_) (fun hF => ?_)
 refine cR (oV vM (zF (enc := xj) ([b] : List Int) [iB b] jS rfl (fun _ => by kernel_rfl) rfl rfl rfl (.s rfl (.nil)) rfl ?_))
 intro A2 L2 C2
 refine oV (kQ jS Tryz.underlying5 Tryz.underlying9 rfl (.r 0 _ rfl)) (oV vA (zb (zp ?_)))
 cases hF
 exact sR
 refine zk (ze (zf (zP (n := 15) [] mixed rfl rfl (dv 0 rfl vM (dv 1 rfl (v_quo rfl rfl rfl) (dv 2 rfl vM (dv 3 rfl (v_quo rfl rfl rfl) (dv 4 rfl vB (zc hF ?_)))))))))
 intro h8 hF
 refine dv 5 rfl (w9 Tryz.underlying9 rfl rfl rfl rfl rfl h8) (zc hF fun h9 hF => dv 6 rfl (vS h9) (dv 7 rfl vM (dv 8 rfl (v_rem rfl rfl rfl) (dv 9 rfl vM ?_))))
 refine dv 10 rfl (v_rem rfl rfl rfl) (dv 11 rfl vB (zc hF ?_))
 intro h10 hF
 refine dv 12 rfl (w9 Tryz.underlying9 rfl rfl rfl rfl rfl h10) (zc hF fun h11 hF => dv 13 rfl (vS h11) (dv 14 rfl vA (zG (by kernel_rfl) (zp ?_))))
 cases hF
 exact sR
theorem tri19 {k : Nat} {s : S4} {r : Tx} (hF : qc.Print k s = some r) :
    xu Tryz.prog 19 [.agg s.vs.toArray] [] [] (oR (sV r)) := by
 unfold qc.Print at hF
 refine zt (n := 41) Tryz.func19 rfl Tryz.ntmps19 rfl fun w X => cR (xr rfl rfl rfl fun b => oV vA (zb (cR (oV vA (zb (zf (cR (oV (vL 0 yT) ?_))))))))
 obtain ⟨v, h1, hF⟩ := bd hF
 refine zV call45 rfl zn (tri45 h1 :) rfl ?_
 rintro _ _ _ ⟨A1, L1, C1, rfl, rfl, rfl⟩
 refine oV (zL (enc := gv) v sl95 rfl (.r 0 _ rfl)) (oV vM (zb ?_))
 obtain ⟨o1, ho1, hF⟩ := bd hF
 refine z8 (fun E N' => zT E [(0, .agg s.vs.toArray), (1, pt b), (2, sV ([] : Tx)), (3, sV o1), (7, sl A1 L1 C1)] [.box b 44 s.vs, rW A1 L1 C1 98 2 gv v] [] N') (fun N1 hN1 => ?_) ?_
 refine zq ?_
 refine xG (fun E j a w => ∃ (out_ : Tx) (t9 : Int), qc.Print_l1 v j out_ t9 = some o1 /\ St E [(0, .agg s.vs.toArray), (1, pt b), (2, sV ([] : Tx)), (3, sV out_), (7, sl A1 L1 C1), (8, iI (v.length : Int)), (9, iI t9)] [.box b 44 s.vs, rW A1 L1 C1 98 2 gv v] [] a w) k ?_ ?_
 exact lq [1, 0] [] fun a w hs => ⟨([91] : Tx), 0, ho1, hs⟩
 rintro j a w ⟨out_, t9, hL1, hs⟩
 rcases j with _ | j
 cases hL1
 refine yd hs ?_
 unfold qc.Print_l1 at hL1
 refine cR (oV vB (zb (zf ?_)))
 refine cC hL1 (fun hL1 => ?_) (fun hL1 => ?_)
 refine zk (ze (zf ?_))
 refine z8 (fun E N' => ∀ (out_1 : Tx) (b1 : Nat), qc.Print_j2 (qc.Print_l1 v j) t9 out_1 = some o1 -> zT E [(0, .agg s.vs.toArray), (1, pt b), (2, sV ([] : Tx)), (3, sV out_1), (5, pt b1), (7, sl A1 L1 C1), (8, iI (v.length : Int)), (9, iI t9)] [.box b 44 s.vs, .box b1 98 [iI ((at_ v t9).Lo), iI ((at_ v t9).Hi)], rW A1 L1 C1 98 2 gv v] [] N') (fun N2 hN2 => ?_) ?_
 refine zq (cR (zc hL1 fun h3 hL1 => oV (zi (xs := v) (enc := gv) sl95 rfl rfl (.r 1 _ rfl) h3) (oV (yc (xs := v) (enc := gv) ty98 rfl (.r 1 _ rfl) h3 rfl rfl rfl rfl rfl rfl rfl) (zC zero98 rfl rfl ?_))))
 intro b2
 refine (sT 0 ty98) (zb (cR (oV vM ((fD 0) (oV (vL 0 yz) (oV (yu (v := iB (IntKind.wrap .u8 ((at_ v t9).Lo))) rfl (fun _ => by kernel_rfl)) ?_))))))
 obtain ⟨v1, h4, hL1⟩ := bd hL1
 refine zu call46 rfl zv (tri46 h4 :) rfl (zc hL1 fun h5 hL1 => oV (vS h5) (oV vA (zb (zf (cR ((fD 1) (oV (vL 0 yz) ((fD 0) (oV (vL 0 yz) (oV vB (oV vB (zb ?_))))))))))))
 refine cT (fun E H Φ N' => ∀ (out_2 : Tx), qc.Print_j3 v t9 (qc.Print_l1 v j) out_2 = some o1 -> zT E [(0, .agg s.vs.toArray), (1, pt b), (2, sV ([] : Tx)), (3, sV out_2), (5, pt b2), (7, sl A1 L1 C1), (8, iI (v.length : Int)), (9, iI t9)] H [] N') (fun N4 hN4 => ?_) ?_
 refine cC hL1 (fun hL1 => ?_) (fun hL1 => ?_)
 refine zd (oV vM (zc hL1 ?_))
 intro h10 hL1
 refine oV (vS h10) (oV vA (zh ?_))
 exact sK [0, 0, 0] [] (hN4 ((out_ ++ v1) ++ ([45] : Tx)) hL1)
 refine zk ?_
 exact sK [0, 0, 0] [] (hN4 (out_ ++ v1) hL1)
 intro out_2 hL1
 unfold qc.Print_j3 at hL1
 refine ze (cR ((fD 1) (oV (vL 0 yz) ((fD 0) (oV (vL 0 yz) (oV vB (zb ?_)))))))
 refine cT (fun E H Φ N' => ∀ (out_3 : Tx), qc.Print_j4 (qc.Print_l1 v j) t9 out_3 = some o1 -> zT E [(0, .agg s.vs.toArray), (1, pt b), (2, sV ([] : Tx)), (3, sV out_3), (5, pt b2), (7, sl A1 L1 C1), (8, iI (v.length : Int)), (9, iI t9)] H [] N') (fun N4 hN4 => ?_) ?_
 refine cC hL1 (fun hL1 => ?_) (fun hL1 => ?_)
 refine zd (oV vM ((fD 1) (oV (vL 0 yz) (oV (yu (v := iB (IntKind.wrap .u8 ((at_ v t9).Hi))) rfl (fun _ => by kernel_rfl)) ?_))))
 obtain ⟨v2, h7, hL1⟩ := bd hL1
 refine zu call46 rfl zv (tri46 h7 :) rfl (zc hL1 fun h8 hL1 => oV (vS h8) (oV vA (zh ?_)))
 exact sK [0, 0, 0] [] (hN4 (out_2 ++ v2) hL1)
 refine zk ?_
 exact sK [0, 0, 0] [] (hN4 out_2 hL1)
 intro out_3 hL1
 unfold qc.Print_j4 at hL1
 exact sK [1, 0, 0] [] (hN2 out_3 b2 hL1)
 intro out_1 b1 hL1
 unfold qc.Print_j2 at hL1
 refine ze (zd (oV vB (oV vM (zh ?_))))
 exact lp [0, 1] [] fun a w hs => ⟨out_1, IntKind.wrap .i64 (t9 + 1), hL1, hs⟩
 refine zW ?_
 cases hL1
 exact sK [0, 0] [] (hN1)
 refine ze (cR (oV vM (zc hF ?_)))
 intro h11 hF
 refine oV (vS h11) (oV vA (zb (zp ?_)))
 cases hF
 exact sR
theorem tri50 {b : zx} {c : Int} {b1 : Nat} {r : zx} (hF : F.strings.Builder_WriteByte b c = some r) :
    xu Tryz.prog 50 [pt b1, iB c] [.box b1 69 [wL b1 b.addr, sl A1 L1 C1], rW A1 L1 C1 5 1 xj b.buf] [] (fun o H Φ => ∃ (A5 : OA) (L5 C5 : Nat), o = .ret (.nilIface) /\ H = [.box b1 69 [wL b1 r.addr, sl A5 L5 C5], rW A5 L5 C5 5 1 xj r.buf] /\ Φ = []) := by
 unfold F.strings.Builder_WriteByte at hF
 refine zt (n := 17) Tryz.func50 rfl Tryz.ntmps50 rfl fun w X => cR (oV vA (zb (cR (oV vM ?_))))
 obtain ⟨v, h1, hF⟩ := bd hF
 refine yx [0, 0] call69 rfl rfl zn (tri69 b b1 A1 L1 C1 v h1) ?_
 rintro _ _ _ ⟨A2, L2, C2, rfl, rfl, rfl⟩
 refine zb (cR (oV vM (oV vM (oV vC ((fD 1) (oV (vL 0 ty67) (oV vM (zF (enc := xj) ([c] : List Int) [iB c] jS rfl (fun _ => by kernel_rfl) rfl rfl rfl (.s rfl (.nil)) rfl ?_))))))))
 intro A3 L3 C3
 refine zc hF fun h2 hF => zc hF fun h3 hF => yf (enc := xj) (xs := v.buf) (ys := ([c] : List Int)) 2 jS rfl rfl rfl (.r 0 _ rfl) h2 h3 rfl fun A4 L4 C4 => oV vC ((fD 1) ((sT 1 ty67) ?_))
 refine zb (cR (oV vA (zb (zp ?_))))
 cases hF
 refine yH rfl (zX rfl) fun a w hs => zo hs [1, 1] ⟨A4, L4, C4, rfl, rfl, rfl⟩ rfl zn
theorem tri72 {k : Nat} {b : List Int} {r : Tx} (hF : qw.Quote k b = some r) :
    xu Tryz.prog 72 [sl A1 L1 C1] [] [fS A1 L1 C1 1 xj b] (oR (sV r)) := by
 unfold qw.Quote at hF
 refine zt (n := 56) Tryz.func72 rfl Tryz.ntmps72 rfl fun w X => cR (oV vA (zb (cR (zC zero69 rfl rfl ?_))))
 intro b1
 refine zb (cR ?_)
 obtain ⟨v, h1, hF⟩ := bd hF
 refine wj (ym 5 1) (yx [1, 0] gK rfl rfl zn (tri50 h1 :) ?_)
 rintro _ _ _ ⟨A2, L2, C2, rfl, rfl, rfl⟩
 refine zb (zf (cR (oV vM (oV (zL (enc := xj) b jS rfl (.f 0 rfl)) (oV vM (zb ?_))))))
 obtain ⟨o1, ho1, hF⟩ := bd hF
 refine cT (fun E H Φ N' => ∀ (A4 : OA) (L4 C4 : Nat), zT E [(0, sl A1 L1 C1), (2, sV ([] : Tx)), (3, pt b1), (7, sl A1 L1 C1)] [.box b1 69 [wL b1 o1.1, sl A4 L4 C4], rW A4 L4 C4 5 1 xj o1.2] Φ N') (fun N1 hN1 => ?_) ?_
 refine zq ?_
 refine cL (fun E H Φ j a w => ∃ (t9 : Int) (addr_ : Bool) (buf_ : List Int) (A3 : OA) (L3 C3 : Nat), qw.Quote_l1 b j t9 addr_ buf_ = some o1 /\ St E [(0, sl A1 L1 C1), (2, sV ([] : Tx)), (3, pt b1), (7, sl A1 L1 C1), (8, iI (b.length : Int)), (9, iI t9)] [.box b1 69 [wL b1 addr_, sl A3 L3 C3], rW A3 L3 C3 5 1 xj buf_] Φ a w) k ?_ ?_
 exact lq [0, 0] [0] fun a w hs => ⟨0, v.addr, v.buf, A2, L2, C2, ho1, hs⟩
 rintro j a w ⟨t9, addr_, buf_, A3, L3, C3, hL1, hs⟩
 rcases j with _ | j
 cases hL1
 refine yd hs ?_
 unfold qw.Quote_l1 at hL1
 refine cR (oV vB (zb (zf ?_)))
 refine cC hL1 (fun hL1 => ?_) (fun hL1 => ?_)
 refine zk (ze (zf ?_))
 refine cT (fun E H Φ N' => ∀ (addr_1 : Bool) (buf_1 : List Int) (A5 : OA) (L5 C5 : Nat), qw.Quote_j2 (qw.Quote_l1 b j) t9 addr_1 buf_1 = some o1 -> zT E [(0, sl A1 L1 C1), (2, sV ([] : Tx)), (3, pt b1), (5, iB (at_ b t9)), (7, sl A1 L1 C1), (8, iI (b.length : Int)), (9, iI t9)] [.box b1 69 [wL b1 addr_1, sl A5 L5 C5], rW A5 L5 C5 5 1 xj buf_1] Φ N') (fun N2 hN2 => ?_) ?_
 refine zq (cR (zc hL1 fun h3 hL1 => oV (zi (xs := b) (enc := xj) jS rfl rfl (.f 0 rfl) h3) (oV (yc (xs := b) (enc := xj) ty5 rfl (.f 0 rfl) h3 rfl rfl rfl rfl rfl rfl rfl) (oV vA (zb ?_)))))
 refine cT (fun E H Φ N' => ∀ (addr_2 : Bool) (buf_2 : List Int) (A6 : OA) (L6 C6 : Nat), qw.Quote_j3 (qw.Quote_l1 b j) t9 addr_2 buf_2 = some o1 -> zT E [(0, sl A1 L1 C1), (2, sV ([] : Tx)), (3, pt b1), (5, iB (at_ b t9)), (7, sl A1 L1 C1), (8, iI (b.length : Int)), (9, iI t9)] [.box b1 69 [wL b1 addr_2, sl A6 L6 C6], rW A6 L6 C6 5 1 xj buf_2] Φ N') (fun N3 hN3 => ?_) ?_
 refine zq (zf ?_)
 refine cT (fun E H Φ N' => ∀ (t15 : Bool), qw.Quote_j4 addr_ buf_ b t9 (qw.Quote_l1 b j) t15 = some o1 -> zT E [(0, sl A1 L1 C1), (2, sV ([] : Tx)), (3, pt b1), (5, iB (at_ b t9)), (7, sl A1 L1 C1), (8, iI (b.length : Int)), (9, iI t9), (15, bV t15)] H Φ N') (fun N10 hN10 => ?_) ?_
 refine zd (oV vM (oV vB (oV vM ?_)))
 refine oS 18 hL1 (fun hL1 => ?_) (fun hL1 => ?_)
 refine oF (oF (oV yt (oV vA (zh ?_))))
 exact sK [0, 0] [0] (hN10 true hL1)
 refine oN (oV vM (oN (oV vB (oV yj (oV vA (zh ?_))))))
 exact sK [0, 0] [0] (hN10 ((at_ b t9) == 92) hL1)
 intro t15 hL1
 unfold qw.Quote_j4 at hL1
 refine ze ?_
 refine cT (fun E H Φ N' => ∀ (addr_3 : Bool) (buf_3 : List Int) (A7 : OA) (L7 C7 : Nat), qw.Quote_j5 (qw.Quote_l1 b j) t9 addr_3 buf_3 = some o1 -> zT E [(0, sl A1 L1 C1), (2, sV ([] : Tx)), (3, pt b1), (5, iB (at_ b t9)), (7, sl A1 L1 C1), (8, iI (b.length : Int)), (9, iI t9)] [.box b1 69 [wL b1 addr_3, sl A7 L7 C7], rW A7 L7 C7 5 1 xj buf_3] Φ N') (fun N5 hN5 => ?_) ?_
 refine cC hL1 (fun hL1 => ?_) (fun hL1 => ?_)
 refine cR ?_
 obtain ⟨v1, h5, hL1⟩ := bd hL1
 refine yx [0, 0] gK rfl rfl zn (tri50 h5 :) ?_
 rintro _ _ _ ⟨A8, L8, C8, rfl, rfl, rfl⟩
 refine zb (zd (oV vM ?_))
 obtain ⟨v2, h6, hL1⟩ := bd hL1
 refine yx [0, 0] gK rfl rfl zn (tri50 h6 :) ?_
 rintro _ _ _ ⟨A9, L9, C9, rfl, rfl, rfl⟩
 refine zh ?_
 exact sK [0, 0] [0] (hN5 v2.addr v2.buf A9 L9 C9 hL1)
 refine cR (oV vM (oV vB (oV vA (zb ?_))))
 refine cT (fun E H Φ N' => ∀ (addr_4 : Bool) (buf_4 : List Int) (A10 : OA) (L10 C10 : Nat), qw.Quote_j6 (qw.Quote_l1 b j) t9 addr_4 buf_4 = some o1 -> zT E [(0, sl A1 L1 C1), (2, sV ([] : Tx)), (3, pt b1), (5, iB (at_ b t9)), (7, sl A1 L1 C1), (8, iI (b.length : Int)), (9, iI t9)] [.box b1 69 [wL b1 addr_4, sl A10 L10 C10], rW A10 L10 C10 5 1 xj buf_4] Φ N') (fun N6 hN6 => ?_) ?_
 refine cC hL1 (fun hL1 => ?_) (fun hL1 => ?_)
 refine zd ?_
 obtain ⟨v3, h8, hL1⟩ := bd hL1
 refine yx [0, 0] call27 rfl rfl zn (tri27 h8 :) ?_
 rintro _ _ _ ⟨A11, L11, C11, rfl, rfl, rfl⟩
 refine zh ?_
 exact sK [0, 0] [0] (hN6 v3.2.addr v3.2.buf A11 L11 C11 hL1)
 refine cR (oV vM (oV vB (oV vA (zb ?_))))
 refine cT (fun E H Φ N' => ∀ (addr_5 : Bool) (buf_5 : List Int) (A12 : OA) (L12 C12 : Nat), qw.Quote_j7 (qw.Quote_l1 b j) t9 addr_5 buf_5 = some o1 -> zT E [(0, sl A1 L1 C1), (2, sV ([] : Tx)), (3, pt b1), (5, iB (at_ b t9)), (7, sl A1 L1 C1), (8, iI (b.length : Int)), (9, iI t9)] [.box b1 69 [wL b1 addr_5, sl A12 L12 C12], rW A12 L12 C12 5 1 xj buf_5] Φ N') (fun N7 hN7 => ?_) ?_
 refine cC hL1 (fun hL1 => ?_) (fun hL1 => ?_)
 refine zd ?_
 obtain ⟨v4, h10, hL1⟩ := bd hL1
 refine yx [0, 0] call27 rfl rfl zn (tri27 h10 :) ?_
 rintro _ _ _ ⟨A13, L13, C13, rfl, rfl, rfl⟩
 refine zh ?_
 exact sK [0, 0] [0] (hN7 v4.2.addr v4.2.buf A13 L13 C13 hL1)
 refine cR (oV vM (oV vB (oV vA (zb ?_))))
 refine cT (fun E H Φ N' => ∀ (addr_6 : Bool) (buf_6 : List Int) (A14 : OA) (L14 C14 : Nat), qw.Quote_j8 (qw.Quote_l1 b j) t9 addr_6 buf_6 = some o1 -> zT E [(0, sl A1 L1 C1), (2, sV ([] : Tx)), (3, pt b1), (5, iB (at_ b t9)), (7, sl A1 L1 C1), (8, iI (b.length : Int)), (9, iI t9)] [.box b1 69 [wL b1 addr_6, sl A14 L14 C14], rW A14 L14 C14 5 1 xj buf_6] Φ N') (fun N8 hN8 => ?_) ?_
 refine cC hL1 (fun hL1 => ?_) (fun hL1 => ?_)
 refine zd ?_
 obtain ⟨v5, h12, hL1⟩ := bd hL1
 refine yx [0, 0] call27 rfl rfl zn (tri27 h12 :) ?_
 rintro _ _ _ ⟨A15, L15, C15, rfl, rfl, rfl⟩
 refine zh ?_
 exact sK [0, 0] [0] (hN8 v5.2.addr v5.2.buf A15 L15 C15 hL1)
 refine zf ?_
 refine cT (fun E H Φ N' => ∀ (t37 : Bool), qw.Quote_j9 addr_ buf_ b t9 (qw.Quote_l1 b j) t37 = some o1 -> zT E [(0, sl A1 L1 C1), (2, sV ([] : Tx)), (3, pt b1), (5, iB (at_ b t9)), (7, sl A1 L1 C1), (8, iI (b.length : Int)), (9, iI t9), (37, bV t37)] H Φ N') (fun N10 hN10 => ?_) ?_
 refine zd (oV vM (oV vB (oV vM ?_)))
 refine oS 40 hL1 (fun hL1 => ?_) (fun hL1 => ?_)
 refine oF (oF (oV yt (oV vA (zh ?_))))
 exact sK [0, 0] [0] (hN10 true hL1)
 refine oN (oV vM (oN (oV vB (oV yj (oV vA (zh ?_))))))
 exact sK [0, 0] [0] (hN10 (decide (126 < (at_ b t9))) hL1)
 intro t37 hL1
 unfold qw.Quote_j9 at hL1
 refine ze ?_
 refine cT (fun E H Φ N' => ∀ (addr_7 : Bool) (buf_7 : List Int) (A16 : OA) (L16 C16 : Nat), qw.Quote_j10 (qw.Quote_l1 b j) t9 addr_7 buf_7 = some o1 -> zT E [(0, sl A1 L1 C1), (2, sV ([] : Tx)), (3, pt b1), (5, iB (at_ b t9)), (7, sl A1 L1 C1), (8, iI (b.length : Int)), (9, iI t9)] [.box b1 69 [wL b1 addr_7, sl A16 L16 C16], rW A16 L16 C16 5 1 xj buf_7] Φ N') (fun N10 hN10 => ?_) ?_
 refine cC hL1 (fun hL1 => ?_) (fun hL1 => ?_)
 refine cR ?_
 obtain ⟨v6, h14, hL1⟩ := bd hL1
 refine yx [0, 0] call27 rfl rfl zn (tri27 h14 :) ?_
 rintro _ _ _ ⟨A17, L17, C17, rfl, rfl, rfl⟩
 refine zb (cR (oV vM (oV (v_quo rfl rfl rfl) (zc hL1 ?_))))
 intro h15 hL1
 refine oV (yw Tryz.underlying9 rfl rfl h15) ?_
 obtain ⟨v7, h16, hL1⟩ := bd hL1
 refine yx [0, 0] gK rfl rfl zn (tri50 h16 :) ?_
 rintro _ _ _ ⟨A18, L18, C18, rfl, rfl, rfl⟩
 refine zb (zd (oV vM (oV (v_rem rfl rfl rfl) (zc hL1 ?_))))
 intro h17 hL1
 refine oV (yw Tryz.underlying9 rfl rfl h17) ?_
 obtain ⟨v8, h18, hL1⟩ := bd hL1
 refine yx [0, 0] gK rfl rfl zn (tri50 h18 :) ?_
 rintro _ _ _ ⟨A19, L19, C19, rfl, rfl, rfl⟩
 refine zh ?_
 exact sK [0, 0] [0] (hN10 v8.addr v8.buf A19 L19 C19 hL1)
 refine zd (oV vM ?_)
 obtain ⟨v9, h19, hL1⟩ := bd hL1
 refine yx [0, 0] gK rfl rfl zn (tri50 h19 :) ?_
 rintro _ _ _ ⟨A20, L20, C20, rfl, rfl, rfl⟩
 refine zh ?_
 exact sK [0, 0] [0] (hN10 v9.addr v9.buf A20 L20 C20 hL1)
 intro addr_7 buf_7 A16 L16 C16 hL1
 unfold qw.Quote_j10 at hL1
 exact sK [0, 0] [0] (hN8 addr_7 buf_7 A16 L16 C16 hL1)
 intro addr_6 buf_6 A14 L14 C14 hL1
 unfold qw.Quote_j8 at hL1
 exact sK [0, 0] [0] (hN7 addr_6 buf_6 A14 L14 C14 hL1)
 intro addr_5 buf_5 A12 L12 C12 hL1
 unfold qw.Quote_j7 at hL1
 exact sK [0, 0] [0] (hN6 addr_5 buf_5 A12 L12 C12 hL1)
 intro addr_4 buf_4 A10 L10 C10 hL1
 unfold qw.Quote_j6 at hL1
 exact sK [0, 0] [0] (hN5 addr_4 buf_4 A10 L10 C10 hL1)
 intro addr_3 buf_3 A7 L7 C7 hL1
 unfold qw.Quote_j5 at hL1
 exact sK [0, 0] [0] (hN3 addr_3 buf_3 A7 L7 C7 hL1)
 intro addr_2 buf_2 A6 L6 C6 hL1
 unfold qw.Quote_j3 at hL1
 exact sK [0, 0] [0] (hN2 addr_2 buf_2 A6 L6 C6 hL1)
 intro addr_1 buf_1 A5 L5 C5 hL1
 unfold qw.Quote_j2 at hL1
 refine ze (zd (oV vB (oV vM (zh ?_))))
 exact lp [0, 0] [0] fun a w hs => ⟨IntKind.wrap .i64 (t9 + 1), addr_1, buf_1, A5, L5, C5, hL1, hs⟩
 refine zW ?_
 cases hL1
 exact sK [0, 0] [0] (hN1 A3 L3 C3)
 intro A4 L4 C4
 refine ze (cR ?_)
 obtain ⟨v10, h22, hF⟩ := bd hF
 refine yx [0, 0] gK rfl rfl zn (tri50 h22 :) ?_
 rintro _ _ _ ⟨A21, L21, C21, rfl, rfl, rfl⟩
 refine zb (cR ?_)
 obtain ⟨v11, h23, hF⟩ := bd hF
 refine yx [0, 0] call32 rfl rfl zn (tri32 v10 b1 A21 L21 C21 v11 h23) ?_
 rintro _ _ _ ⟨rfl, rfl, rfl⟩
 refine oV vA (zb (zp ?_))
 cases hF
 exact sR
theorem tri70 {k : Nat} {s : xg} {r : Tx} (hF : qd.symText k s = some r) :
    xu Tryz.prog 70 [.agg (g7 s).toArray] [] [] (oR (sV r)) := by
 unfold qd.symText at hF
 refine zt (n := 46) Tryz.func70 rfl Tryz.ntmps70 rfl fun w X => cR (xr rfl rfl rfl fun b => oV vA (zb (cR ((fD 6) (oV (vL 0 xE) (oV vA (zb (zf (cR ((fD 6) ?_))))))))))
 refine oV (vL 0 xE) (oV (yP rfl rfl) (zb ?_))
 refine cT (fun E H Φ N' => ∀ (part : Tx), qd.symText_j1 k s part = some r -> zT E [(0, .agg (g7 s).toArray), (1, pt b), (2, sV ([] : Tx)), (3, sV part)] H [] N') (fun N2 hN2 => ?_) ?_
 refine cC hF (fun hF => ?_) (fun hF => ?_)
 refine zd ((fD 2) (oV (vL 0 yT) ?_))
 obtain ⟨v2, h16, hF⟩ := bd hF
 refine zu call19 rfl zv (tri19 h16 :) rfl (oV vA (zh ?_))
 exact sK [0] [] (hN2 v2 hF)
 refine zk ?_
 exact sK [0] [] (hN2 s.Name hF)
 intro part hF
 unfold qd.symText_j1 at hF
 refine ze (zf (cR ((fD 7) (oV (vL 0 xE) (oV (w7 rfl rfl) (zb ?_))))))
 refine cT (fun E H Φ N' => ∀ (part1 : Tx), qd.symText_j2 k s part1 = some r -> zT E [(0, .agg (g7 s).toArray), (1, pt b), (2, sV ([] : Tx)), (3, sV part1)] H [] N') (fun N2 hN2 => ?_) ?_
 refine cC hF (fun hF => ?_) (fun hF => ?_)
 refine zP (n := 11) [0] mixed rfl rfl (dv 0 rfl (vF 6) (dv 1 rfl (vL 0 xE) (zc hF ?_)))
 intro h10 hF
 refine dv 2 rfl (vS h10) (zc hF ?_)
 intro h11 hF
 refine dv 3 rfl (vS h11) (dv 4 rfl (vF 7) (dv 5 rfl (vL 0 xE) (dO 6 rfl (gI Tryz.underlying9 Tryz.underlying67 Tryz.underlying5 rfl rfl ?_))))
 intro A2 L2 C2
 refine dN [0] 1 (dO 7 rfl ?_)
 obtain ⟨v1, h12, hF⟩ := bd hF
 refine zu call72 rfl (zA 0 rfl zv) (tri72 h12 :) rfl (dN [0] 1 (zc hF ?_))
 intro h13 hF
 refine dv 8 rfl (vS h13) (zc hF ?_)
 intro h14 hF
 refine dv 9 rfl (vS h14) (dv 10 rfl vA (dD ?_))
 exact sK [0] [] (hN2 ((((([123] : Tx) ++ s.Name) ++ ([32] : Tx)) ++ v1) ++ ([125] : Tx)) hF)
 refine zk ?_
 exact sK [0] [] (hN2 part hF)
 intro part1 hF
 unfold qd.symText_j2 at hF
 refine ze (zf (cR ((fD 0) (oV (vL 0 yz) (zb (zq (cR (oV vB (oV vA (zb ?_))))))))))
 refine cC hF (fun hF => ?_) (fun hF => ?_)
 refine cR ((fD 1) (oV (vL 0 xE) (gI Tryz.underlying9 Tryz.underlying67 Tryz.underlying5 rfl rfl ?_)))
 intro A1 L1 C1
 refine ?_
 obtain ⟨v, h2, hF⟩ := bd hF
 refine zu call72 rfl (zA 0 rfl zv) (tri72 h2 :) rfl (oV vA (zb (zp ?_)))
 cases hF
 exact sR
 refine cR (oV vB (oV vA (zb ?_)))
 refine cC hF (fun hF => ?_) (fun hF => ?_)
 refine cR (oV vM (zc hF ?_))
 intro h4 hF
 refine oV (vS h4) (oV vA (zb (zp ?_)))
 cases hF
 exact sR
 refine cR (oV vB (oV vA (zb ?_)))
 refine cC hF (fun hF => ?_) (fun hF => ?_)
 refine cR (oV vM (zc hF ?_))
 intro h6 hF
 refine oV (vS h6) (oV vA (zb (zp ?_)))
 cases hF
 exact sR
 refine cR (oV vB (oV vA (zb ?_)))
 refine cC hF (fun hF => ?_) (fun hF => ?_)
 refine cR (oV vM (zc hF ?_))
 intro h8 hF
 refine oV (vS h8) (oV vA (zb (zp ?_)))
 cases hF
 exact sR
 refine zk (ze (cR (oV vM (oV vA (zb (zp ?_))))))
 cases hF
 exact sR
theorem tri29 {k : Nat} {p : Prod} {r : Tx} (hF : qd.prodText k p = some r) :
    xu Tryz.prog 29 [.agg (qg p A1 L1 C1).toArray] [] [fS A1 L1 C1 8 wn p.Syms] (oR (sV r)) := by
 unfold qd.prodText at hF
 refine zt (n := 41) Tryz.func29 rfl Tryz.ntmps29 rfl fun w X => cR (xr rfl rfl rfl fun b => oV vA (zb (cR (oV vA (zb (zf (cR ((fD 0) (oV (vL 0 ty4) (zb ?_))))))))))
 refine cT (fun E H Φ N' => ∀ (out_ : Tx), qd.prodText_j1 k p out_ = some r -> zT E [(0, .agg (qg p A1 L1 C1).toArray), (1, pt b), (2, sV ([] : Tx)), (3, sV out_)] H Φ N') (fun N3 hN3 => ?_) ?_
 refine cC hF (fun hF => ?_) (fun hF => ?_)
 refine zd (oV vA (zh ?_))
 exact sK [0] [0] (hN3 ([108, 101, 120, 32] : Tx) hF)
 refine zk ?_
 exact sK [0] [0] (hN3 ([99, 102, 32] : Tx) hF)
 intro out_ hF
 unfold qd.prodText_j1 at hF
 refine ze (cR (oV vM ((fD 1) (oV (vL 0 xE) (zc hF ?_)))))
 intro h1 hF
 refine oV (vS h1) (oV vA (zb (zf (cR ((fD 2) (oV (vL 0 xE) (oV (w7 rfl rfl) ?_)))))))
 refine zb ?_
 refine cT (fun E H Φ N' => ∀ (out_1 : Tx), qd.prodText_j2 k p out_1 = some r -> zT E [(0, .agg (qg p A1 L1 C1).toArray), (1, pt b), (2, sV ([] : Tx)), (3, sV out_1)] H Φ N') (fun N3 hN3 => ?_) ?_
 refine cC hF (fun hF => ?_) (fun hF => ?_)
 refine zd (oV vM ((fD 2) (oV (vL 0 xE) (zc hF ?_))))
 intro h13 hF
 refine oV (vS h13) (zc hF ?_)
 intro h14 hF
 refine oV (vS h14) (oV vA (zh ?_))
 exact sK [0] [0] (hN3 ((out_ ++ p.Sort_) ++ (([46] : Tx) ++ p.Cons)) hF)
 refine zk ?_
 exact sK [0] [0] (hN3 (out_ ++ p.Sort_) hF)
 intro out_1 hF
 unfold qd.prodText_j2 at hF
 refine ze (cR (oV vM (zc hF ?_)))
 intro h2 hF
 refine oV (vS h2) (oV vA (zb (zf (cR ((fD 4) (oV (vL 0 ty55) (oV (zL (enc := wn) p.Syms gn rfl (.f 0 rfl)) (oV vM (zb ?_)))))))))
 obtain ⟨o3, ho3, hF⟩ := bd hF
 refine cT (fun E H Φ N' => zT E [(0, .agg (qg p A1 L1 C1).toArray), (1, pt b), (2, sV ([] : Tx)), (3, sV o3), (23, sl A1 L1 C1)] H Φ N') (fun N3 hN3 => ?_) ?_
 refine zq ?_
 refine cL (fun E H Φ j a w => ∃ (out_2 : Tx) (t25 : Int), qd.prodText_l3 k p j out_2 t25 = some o3 /\ St E [(0, .agg (qg p A1 L1 C1).toArray), (1, pt b), (2, sV ([] : Tx)), (3, sV out_2), (23, sl A1 L1 C1), (24, iI (p.Syms.length : Int)), (25, iI t25)] H Φ a w) k ?_ ?_
 exact lq [0] [0] fun a w hs => ⟨(out_1 ++ ([32, 61] : Tx)), 0, ho3, hs⟩
 rintro j a w ⟨out_2, t25, hL3, hs⟩
 rcases j with _ | j
 cases hL3
 refine yd hs ?_
 unfold qd.prodText_l3 at hL3
 refine cR (oV vB (zb (zf ?_)))
 refine cC hL3 (fun hL3 => ?_) (fun hL3 => ?_)
 refine zk (ze (zf (zq (cR (zc hL3 fun h4 hL3 => oV (zi (xs := p.Syms) (enc := wn) gn rfl rfl (.f 0 rfl) h4) (oV (yc (xs := p.Syms) (enc := wn) wR rfl (.f 0 rfl) h4 rfl rfl rfl rfl rfl rfl rfl) (zC gQ rfl rfl ?_)))))))
 intro b1
 refine (sT 0 wR) (zb (zd (oV vM (oV (vL 0 wR) ?_))))
 obtain ⟨v, h5, hL3⟩ := bd hL3
 refine zu call70 rfl zv (tri70 h5 :) rfl (zc hL3 fun h6 hL3 => oV (vS h6) (zc hL3 ?_))
 intro h7 hL3
 refine oV (vS h7) (oV vA (zh (ze (zd (oV vB (oV vM (zh ?_)))))))
 exact lp [1] [0] fun a w hs => ⟨(out_2 ++ (([32] : Tx) ++ v)), IntKind.wrap .i64 (t25 + 1), hL3, hs⟩
 refine zW ?_
 cases hL3
 exact sK [0] [0] (hN3)
 refine ze (zf (cR ((fD 3) (oV (vL 0 ty4) (zb ?_)))))
 refine cC hF (fun hF => ?_) (fun hF => ?_)
 refine zd (oV vM (zc hF ?_))
 intro h9 hF
 refine oV (vS h9) (oV vA (zb (cR (oV vM (zc hF ?_)))))
 intro h10 hF
 refine oV (vS h10) (oV vA (zb (zp ?_)))
 cases hF
 exact sR
 refine zk (ze (cR (oV vM (zc hF ?_))))
 intro h11 hF
 refine oV (vS h11) (oV vA (zb (zp ?_)))
 cases hF
 exact sR
theorem tri30 {k : Nat} {l__ : List zw} {r : Tx} (hF : qd.chainText k l__ = some r) :
    xu Tryz.prog 30 [sl A1 L1 C1] [] [fS A1 L1 C1 2 zD l__] (oR (sV r)) := by
 unfold qd.chainText at hF
 refine zt (n := 34) Tryz.func30 rfl Tryz.ntmps30 rfl fun w X => cR (oV vA (zb (cR (oV vA (zb (zf (cR (oV vM (oV (zL (enc := zD) l__ jF rfl (.f 0 rfl)) (oV vM (zb ?_)))))))))))
 obtain ⟨o1, ho1, hF⟩ := bd hF
 refine cT (fun E H Φ N' => ∀ (A3 : OA) (L3 C3 : Nat), zT E [(0, sl A1 L1 C1), (2, sV ([] : Tx)), (3, sl A3 L3 C3), (7, sl A1 L1 C1)] [rW A3 L3 C3 9 1 xn o1] Φ N') (fun N1 hN1 => ?_) ?_
 refine zq ?_
 refine cL (fun E H Φ j a w => ∃ (parts : List Tx) (t9 : Int) (A2 : OA) (L2 C2 : Nat), qd.chainText_l1 l__ j parts t9 = some o1 /\ St E [(0, sl A1 L1 C1), (2, sV ([] : Tx)), (3, sl A2 L2 C2), (7, sl A1 L1 C1), (8, iI (l__.length : Int)), (9, iI t9)] [rW A2 L2 C2 9 1 xn parts] Φ a w) k ?_ ?_
 refine xP (ym 9 1) ?_
 exact lq [0] [0] fun a w hs => ⟨([] : List Tx), 0, none, 0, 0, ho1, hs⟩
 rintro j a w ⟨parts, t9, A2, L2, C2, hL1, hs⟩
 rcases j with _ | j
 cases hL1
 refine yd hs ?_
 unfold qd.chainText_l1 at hL1
 refine cR (oV vB (zb (zf ?_)))
 refine cC hL1 (fun hL1 => ?_) (fun hL1 => ?_)
 refine zk (ze (zf ?_))
 refine z8 (fun E N' => ∀ (parts1 : List Tx) (t : Tx) (A4 : OA) (L4 C4 : Nat) (A5 : OA) (L5 C5 : Nat) (b : Nat), qd.chainText_j2 (qd.chainText_l1 l__ j) t9 parts1 t = some o1 -> zT E [(0, sl A1 L1 C1), (2, sV ([] : Tx)), (3, sl A4 L4 C4), (5, pt b), (6, sV t), (7, sl A1 L1 C1), (8, iI (l__.length : Int)), (9, iI t9)] [.box b 61 [iI ((at_ l__ t9).Assoc), sl A5 L5 C5], rW A4 L4 C4 9 1 xn parts1] [fS A1 L1 C1 2 zD l__, fS A5 L5 C5 1 xn ((at_ l__ t9).Cons)] N') (fun N2 hN2 => ?_) ?_
 refine zq (cR (zc hL1 fun h2 hL1 => oV (zi (xs := l__) (enc := zD) jF rfl rfl (.f 0 rfl) h2) (yq (xs := l__) (enc := zD) ty61 rfl (.f 0 rfl) h2 rfl rfl rfl rfl rfl rfl ?_)))
 intro A6 L6 C6
 refine zC zero61 rfl rfl fun b1 => (sT 0 ty61) (zb (cR ((fD 1) (oV (vL 0 ja) ?_))))
 obtain ⟨v, h3, hL1⟩ := bd hL1
 refine zu call71 rfl (zA 0 rfl zv) (tri71 ((at_ l__ t9).Cons) ([32] : Tx) A6 L6 C6 v h3) rfl (oV vA (zb (zf (cR ((fD 0) (oV (vL 0 yz) (oV vB (zb ?_))))))))
 refine cT (fun E H Φ N' => ∀ (t1 : Tx), qd.chainText_j3 parts (qd.chainText_l1 l__ j) t9 t1 = some o1 -> zT E [(0, sl A1 L1 C1), (2, sV ([] : Tx)), (3, sl A2 L2 C2), (5, pt b1), (6, sV t1), (7, sl A1 L1 C1), (8, iI (l__.length : Int)), (9, iI t9)] H [fS A1 L1 C1 2 zD l__, fS A6 L6 C6 1 xn ((at_ l__ t9).Cons)] N') (fun N3 hN3 => ?_) ?_
 refine cC hL1 (fun hL1 => ?_) (fun hL1 => ?_)
 refine zd (oV (vU (.agg #[sV ([] : Tx), sV ([108, 101, 102, 116, 32] : Tx), sV ([114, 105, 103, 104, 116, 32] : Tx), sV ([110, 111, 110, 32] : Tx)])) ((fD 0) (oV (vL 0 yz) (zc hL1 ?_))))
 intro h7 hL1
 refine oV (v_index_str ([([] : Tx), ([108, 101, 102, 116, 32] : Tx), ([114, 105, 103, 104, 116, 32] : Tx), ([110, 111, 110, 32] : Tx)] : List Tx) Tryz.underlying127 xE rfl rfl h7) (oV vM (zc hL1 ?_))
 intro h8 hL1
 refine oV (vS h8) (oV vA (zh ?_))
 exact sK [0, 0] [1, 0] (hN3 ((at_ ([([] : Tx), ([108, 101, 102, 116, 32] : Tx), ([114, 105, 103, 104, 116, 32] : Tx), ([110, 111, 110, 32] : Tx)] : List Tx) ((at_ l__ t9).Assoc)) ++ v) hL1)
 refine zk ?_
 exact sK [0, 0] [1, 0] (hN3 v hL1)
 intro t1 hL1
 unfold qd.chainText_j3 at hL1
 refine ze (zd (oV vM (oV vM (zF (enc := xn) ([t1] : List Tx) [sV t1] vy rfl (fun _ => by kernel_rfl) rfl rfl rfl (.s rfl (.nil)) rfl ?_))))
 intro A7 L7 C7
 refine zc hL1 fun h4 hL1 => zc hL1 fun h5 hL1 => yf (enc := xn) (xs := parts) (ys := ([t1] : List Tx)) 2 vy rfl rfl rfl (.r 0 _ rfl) h4 h5 rfl fun A8 L8 C8 => oV vA (zh ?_)
 exact sK [1, 1] [0, 1] (hN2 (parts ++ ([t1] : List Tx)) t1 A8 L8 C8 A6 L6 C6 b1 hL1)
 intro parts1 t A4 L4 C4 A5 L5 C5 b hL1
 unfold qd.chainText_j2 at hL1
 refine ze (zd (oV vB (oV vM (zh ?_))))
 exact lp [1] [0] fun a w hs => ⟨parts1, IntKind.wrap .i64 (t9 + 1), A4, L4, C4, hL1, hs⟩
 refine zW ?_
 cases hL1
 exact sK [0] [0] (hN1 A2 L2 C2)
 intro A3 L3 C3
 refine ze (cR (oV vM ?_))
 obtain ⟨v1, h9, hF⟩ := bd hF
 refine zu call71 rfl (lent_r 0 rfl zv) (tri71 o1 ([32, 62, 32] : Tx) A3 L3 C3 v1 h9) rfl (zc hF fun h10 hF => oV (vS h10) (zc hF ?_))
 intro h11 hF
 refine oV (vS h11) (oV vA (zb (zp ?_)))
 cases hF
 exact sR
end Go.Vc
