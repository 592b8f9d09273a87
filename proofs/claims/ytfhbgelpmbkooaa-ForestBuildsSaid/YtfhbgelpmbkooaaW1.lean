import Derived.Test.YtfhbgelpmbkooaaW0
set_option linter.unusedVariables false
set_option linter.unusedSimpArgs false
set_option maxRecDepth 8000
set_option maxHeartbeats 2000000
namespace Go.Vc
open Go Go.Proofs
variable {A1 A2 A3 A4 A5 A6 A7 A8 A9 A10 A11 A12 A13 A14 A15 A16 A17 A18 A19 A20 A21 A22 A23 A24 A25 A26 A27 A28 : OA} {L1 C1 L2 C2 L3 C3 L4 C4 L5 C5 L6 C6 L7 C7 L8 C8 L9 C9 L10 C10 L11 C11 L12 C12 L13 C13 L14 C14 L15 C15 L16 C16 L17 C17 L18 C18 L19 C19 L20 C20 L21 C21 L22 C22 L23 C23 L24 C24 L25 C25 L26 C26 L27 C27 L28 C28 : Nat}
theorem tri31 {k : Nat} {g_ : Gram} {w__ : List Int} {r : Forest_grove} (hF : F.forest.open_ k g_ w__ = some r) :
    Tri Try.prog 31 [.agg (vGram g_ A1 L1 C1).toArray, sl A2 L2 C2] [] [fS A1 L1 C1 2 eRule g_.Rules, fS A2 L2 C2 1 eU8 w__] (fun o H Φ => ∃ (gb : Nat) (A14 : OA) (L14 C14 : Nat) (A15 : OA) (L15 C15 : Nat) (A16 : OA) (L16 C16 : Nat) (gb1 : Nat) (gb2 : Nat) (gb3 : Nat), o = .ret (pt gb) ∧ H = [.box gb 91 [iI r.g.Nts, iI r.g.Start, sl A14 L14 C14, sl A15 L15 C15, sl A16 L16 C16, .map (some gb1), .map (some gb2), .map (some gb3)], .mp gb1 (mEnc kForest_span (tenc r.whole)), .mp gb2 (mEnc kForest_span (tenc r.counts)), .mp gb3 (mEnc kForest_part (tenc r.rows))] ∧ Φ = [fS A14 L14 C14 2 eRule r.g.Rules, fS A15 L15 C15 1 eU8 r.w_, fS A16 L16 C16 1 (eSl 1 eI64) r.by_]) := by
 unfold F.forest.open_ at hF
 refine tri_intro (n := 90) Try.func31 rfl Try.ntmps31 rfl fun w X => cR (o_box rfl rfl rfl fun b => oV vA (o_seq (c_seq ?_)))
 refine cT (fun E H Φ N' => ∀ (by__ : List (List Int)) (A3 : OA) (L3 C3 : Nat) (gh : Nat → H3) (b1 : Nat) (b2 : Nat) (b3 : Nat) (b4 : Nat), F.forest.open__j1 k g_ w__ by__ = some r → Sat E [(0, .agg (vGram g_ A1 L1 C1).toArray), (1, sl A2 L2 C2), (2, pt b), (5, pt b1)] [.box b 24 (vGram g_ A1 L1 C1), .box b1 91 [iI g_.Nts, iI g_.Start, sl A1 L1 C1, sl A2 L2 C2, sl A3 L3 C3, .map (some b2), .map (some b3), .map (some b4)], .mp b2 (mEnc kForest_span (tenc ([] : List (Forest_span × Int)))), .mp b3 (mEnc kForest_span (tenc ([] : List (Forest_span × Int)))), .mp b4 (mEnc kForest_part (tenc ([] : List (Forest_part × Int)))), .row (sl A3 L3 C3) 59 1 (dcells by__ gh), .fam (dfam 3 1 eI64 by__ gh)] Φ N') (fun N7 hN7 => ?_) ?_
 refine c_draw (n := 11) [0] mixed rfl rfl (dv 0 rfl (vL 0 ty24) (dv 1 rfl vM (dv 2 rfl (vF 0) (dv 3 rfl (vL 0 ty3) (ite_some hF ?_)))))
 intro h12 hF
 refine ite_some hF fun h13 hF => ite_some hF fun h14 hF => ?_
 refine d_all [4, 5, 6, 7] (by kernel_rfl) (by simp) ⟨⟨_, rfl, ?_⟩, ⟨_, rfl, ?_⟩, ⟨_, rfl, ?_⟩, ⟨_, rfl, ?_⟩, trivial⟩
 refine o_makeDz (α := Int) eI64 3 1 sl87 zero59 rfl rfl h12 h13 h14 rfl fun A13 L13 C13 => dN [2] 0 ?_
 refine d_all [5, 6, 7] (by kernel_rfl) (by simp) ⟨⟨_, rfl, ?_⟩, ⟨_, rfl, ?_⟩, ⟨_, rfl, ?_⟩, trivial⟩
 refine o_makeMap rfl fun b8 => dN [3] 0 ?_
 refine d_all [6, 7] (by kernel_rfl) (by simp) ⟨⟨_, rfl, ?_⟩, ⟨_, rfl, ?_⟩, trivial⟩
 refine o_makeMap rfl fun b9 => dN [4] 0 (dO 7 rfl (o_makeMap rfl ?_))
 intro b10
 refine dN [5] 0 (dv 8 rfl (v_build (v := .agg #[iI g_.Nts, iI g_.Start, sl A1 L1 C1, sl A2 L2 C2, sl A13 L13 C13, .map (some b8), .map (some b9), .map (some b10)]) rfl (fun _ => by kernel_rfl)) (dO 9 rfl (o_box rfl rfl rfl ?_)))
 intro b11
 refine dN [6] 0 (dv 10 rfl vA (dD ?_))
 exact sK [6, 0, 2, 1, 0, 1, 0] [0, 1] (hN7 (List.replicate (Int.toNat g_.Nts) ([] : List Int)) A13 L13 C13 h0 b11 b8 b9 b10 hF)
 refine o_makeMap rfl fun b9 => dN [4] 0 (dO 6 rfl (o_makeMap rfl ?_))
 intro b10
 refine dN [5] 0 (dv 8 rfl (v_build (v := .agg #[iI g_.Nts, iI g_.Start, sl A1 L1 C1, sl A2 L2 C2, sl A13 L13 C13, .map (some b8), .map (some b10), .map (some b9)]) rfl (fun _ => by kernel_rfl)) (dO 9 rfl (o_box rfl rfl rfl ?_)))
 intro b11
 refine dN [6] 0 (dv 10 rfl vA (dD ?_))
 exact sK [6, 0, 2, 0, 0, 1, 0] [0, 1] (hN7 (List.replicate (Int.toNat g_.Nts) ([] : List Int)) A13 L13 C13 h0 b11 b8 b10 b9 hF)
 refine o_makeMap rfl fun b8 => dN [3] 0 ?_
 refine d_all [5, 7] (by kernel_rfl) (by simp) ⟨⟨_, rfl, ?_⟩, ⟨_, rfl, ?_⟩, trivial⟩
 refine o_makeMap rfl fun b9 => dN [4] 0 (dO 7 rfl (o_makeMap rfl ?_))
 intro b10
 refine dN [5] 0 (dv 8 rfl (v_build (v := .agg #[iI g_.Nts, iI g_.Start, sl A1 L1 C1, sl A2 L2 C2, sl A13 L13 C13, .map (some b9), .map (some b8), .map (some b10)]) rfl (fun _ => by kernel_rfl)) (dO 9 rfl (o_box rfl rfl rfl ?_)))
 intro b11
 refine dN [6] 0 (dv 10 rfl vA (dD ?_))
 exact sK [6, 0, 1, 1, 0, 1, 0] [0, 1] (hN7 (List.replicate (Int.toNat g_.Nts) ([] : List Int)) A13 L13 C13 h0 b11 b9 b8 b10 hF)
 refine o_makeMap rfl fun b9 => dN [4] 0 (dO 5 rfl (o_makeMap rfl ?_))
 intro b10
 refine dN [5] 0 (dv 8 rfl (v_build (v := .agg #[iI g_.Nts, iI g_.Start, sl A1 L1 C1, sl A2 L2 C2, sl A13 L13 C13, .map (some b10), .map (some b8), .map (some b9)]) rfl (fun _ => by kernel_rfl)) (dO 9 rfl (o_box rfl rfl rfl ?_)))
 intro b11
 refine dN [6] 0 (dv 10 rfl vA (dD ?_))
 exact sK [6, 0, 0, 1, 0, 1, 0] [0, 1] (hN7 (List.replicate (Int.toNat g_.Nts) ([] : List Int)) A13 L13 C13 h0 b11 b10 b8 b9 hF)
 refine o_makeMap rfl fun b8 => dN [3] 0 ?_
 refine d_all [5, 6] (by kernel_rfl) (by simp) ⟨⟨_, rfl, ?_⟩, ⟨_, rfl, ?_⟩, trivial⟩
 refine o_makeMap rfl fun b9 => dN [4] 0 (dO 6 rfl (o_makeMap rfl ?_))
 intro b10
 refine dN [5] 0 (dv 8 rfl (v_build (v := .agg #[iI g_.Nts, iI g_.Start, sl A1 L1 C1, sl A2 L2 C2, sl A13 L13 C13, .map (some b9), .map (some b10), .map (some b8)]) rfl (fun _ => by kernel_rfl)) (dO 9 rfl (o_box rfl rfl rfl ?_)))
 intro b11
 refine dN [6] 0 (dv 10 rfl vA (dD ?_))
 exact sK [6, 0, 1, 0, 0, 1, 0] [0, 1] (hN7 (List.replicate (Int.toNat g_.Nts) ([] : List Int)) A13 L13 C13 h0 b11 b9 b10 b8 hF)
 refine o_makeMap rfl fun b9 => dN [4] 0 (dO 5 rfl (o_makeMap rfl ?_))
 intro b10
 refine dN [5] 0 (dv 8 rfl (v_build (v := .agg #[iI g_.Nts, iI g_.Start, sl A1 L1 C1, sl A2 L2 C2, sl A13 L13 C13, .map (some b10), .map (some b9), .map (some b8)]) rfl (fun _ => by kernel_rfl)) (dO 9 rfl (o_box rfl rfl rfl ?_)))
 intro b11
 refine dN [6] 0 (dv 10 rfl vA (dD ?_))
 exact sK [6, 0, 0, 0, 0, 1, 0] [0, 1] (hN7 (List.replicate (Int.toNat g_.Nts) ([] : List Int)) A13 L13 C13 h0 b11 b10 b9 b8 hF)
 refine o_makeMap rfl fun b8 => dN [1] 0 ?_
 refine d_all [4, 6, 7] (by kernel_rfl) (by simp) ⟨⟨_, rfl, ?_⟩, ⟨_, rfl, ?_⟩, ⟨_, rfl, ?_⟩, trivial⟩
 refine o_makeDz (α := Int) eI64 3 1 sl87 zero59 rfl rfl h12 h13 h14 rfl fun A13 L13 C13 => dN [3] 0 ?_
 refine d_all [6, 7] (by kernel_rfl) (by simp) ⟨⟨_, rfl, ?_⟩, ⟨_, rfl, ?_⟩, trivial⟩
 refine o_makeMap rfl fun b9 => dN [4] 0 (dO 7 rfl (o_makeMap rfl ?_))
 intro b10
 refine dN [5] 0 (dv 8 rfl (v_build (v := .agg #[iI g_.Nts, iI g_.Start, sl A1 L1 C1, sl A2 L2 C2, sl A13 L13 C13, .map (some b8), .map (some b9), .map (some b10)]) rfl (fun _ => by kernel_rfl)) (dO 9 rfl (o_box rfl rfl rfl ?_)))
 intro b11
 refine dN [6] 0 (dv 10 rfl vA (dD ?_))
 exact sK [6, 0, 4, 1, 0, 1, 0] [0, 1] (hN7 (List.replicate (Int.toNat g_.Nts) ([] : List Int)) A13 L13 C13 h0 b11 b8 b9 b10 hF)
 refine o_makeMap rfl fun b9 => dN [4] 0 (dO 6 rfl (o_makeMap rfl ?_))
 intro b10
 refine dN [5] 0 (dv 8 rfl (v_build (v := .agg #[iI g_.Nts, iI g_.Start, sl A1 L1 C1, sl A2 L2 C2, sl A13 L13 C13, .map (some b8), .map (some b10), .map (some b9)]) rfl (fun _ => by kernel_rfl)) (dO 9 rfl (o_box rfl rfl rfl ?_)))
 intro b11
 refine dN [6] 0 (dv 10 rfl vA (dD ?_))
 exact sK [6, 0, 4, 0, 0, 1, 0] [0, 1] (hN7 (List.replicate (Int.toNat g_.Nts) ([] : List Int)) A13 L13 C13 h0 b11 b8 b10 b9 hF)
 refine o_makeMap rfl fun b9 => dN [2] 0 ?_
 refine d_all [4, 7] (by kernel_rfl) (by simp) ⟨⟨_, rfl, ?_⟩, ⟨_, rfl, ?_⟩, trivial⟩
 refine o_makeDz (α := Int) eI64 3 1 sl87 zero59 rfl rfl h12 h13 h14 rfl fun A13 L13 C13 => dN [4] 0 (dO 7 rfl (o_makeMap rfl ?_))
 intro b10
 refine dN [5] 0 (dv 8 rfl (v_build (v := .agg #[iI g_.Nts, iI g_.Start, sl A1 L1 C1, sl A2 L2 C2, sl A13 L13 C13, .map (some b8), .map (some b9), .map (some b10)]) rfl (fun _ => by kernel_rfl)) (dO 9 rfl (o_box rfl rfl rfl ?_)))
 intro b11
 refine dN [6] 0 (dv 10 rfl vA (dD ?_))
 exact sK [6, 0, 4, 3, 0, 1, 0] [0, 1] (hN7 (List.replicate (Int.toNat g_.Nts) ([] : List Int)) A13 L13 C13 h0 b11 b8 b9 b10 hF)
 refine o_makeMap rfl fun b10 => dN [3] 0 (dO 4 rfl (o_makeDz (α := Int) eI64 3 1 sl87 zero59 rfl rfl h12 h13 h14 rfl ?_))
 intro A13 L13 C13
 refine dN [5] 0 (dv 8 rfl (v_build (v := .agg #[iI g_.Nts, iI g_.Start, sl A1 L1 C1, sl A2 L2 C2, sl A13 L13 C13, .map (some b8), .map (some b9), .map (some b10)]) rfl (fun _ => by kernel_rfl)) (dO 9 rfl (o_box rfl rfl rfl ?_)))
 intro b11
 refine dN [6] 0 (dv 10 rfl vA (dD ?_))
 exact sK [6, 0, 4, 3, 2, 1, 0] [0, 1] (hN7 (List.replicate (Int.toNat g_.Nts) ([] : List Int)) A13 L13 C13 h0 b11 b8 b9 b10 hF)
 refine o_makeMap rfl fun b9 => dN [2] 0 ?_
 refine d_all [4, 6] (by kernel_rfl) (by simp) ⟨⟨_, rfl, ?_⟩, ⟨_, rfl, ?_⟩, trivial⟩
 refine o_makeDz (α := Int) eI64 3 1 sl87 zero59 rfl rfl h12 h13 h14 rfl fun A13 L13 C13 => dN [4] 0 (dO 6 rfl (o_makeMap rfl ?_))
 intro b10
 refine dN [5] 0 (dv 8 rfl (v_build (v := .agg #[iI g_.Nts, iI g_.Start, sl A1 L1 C1, sl A2 L2 C2, sl A13 L13 C13, .map (some b8), .map (some b10), .map (some b9)]) rfl (fun _ => by kernel_rfl)) (dO 9 rfl (o_box rfl rfl rfl ?_)))
 intro b11
 refine dN [6] 0 (dv 10 rfl vA (dD ?_))
 exact sK [6, 0, 4, 0, 2, 1, 0] [0, 1] (hN7 (List.replicate (Int.toNat g_.Nts) ([] : List Int)) A13 L13 C13 h0 b11 b8 b10 b9 hF)
 refine o_makeMap rfl fun b10 => dN [3] 0 (dO 4 rfl (o_makeDz (α := Int) eI64 3 1 sl87 zero59 rfl rfl h12 h13 h14 rfl ?_))
 intro A13 L13 C13
 refine dN [5] 0 (dv 8 rfl (v_build (v := .agg #[iI g_.Nts, iI g_.Start, sl A1 L1 C1, sl A2 L2 C2, sl A13 L13 C13, .map (some b8), .map (some b10), .map (some b9)]) rfl (fun _ => by kernel_rfl)) (dO 9 rfl (o_box rfl rfl rfl ?_)))
 intro b11
 refine dN [6] 0 (dv 10 rfl vA (dD ?_))
 exact sK [6, 0, 4, 2, 2, 1, 0] [0, 1] (hN7 (List.replicate (Int.toNat g_.Nts) ([] : List Int)) A13 L13 C13 h0 b11 b8 b10 b9 hF)
 refine o_makeMap rfl fun b8 => dN [1] 0 ?_
 refine d_all [4, 5, 7] (by kernel_rfl) (by simp) ⟨⟨_, rfl, ?_⟩, ⟨_, rfl, ?_⟩, ⟨_, rfl, ?_⟩, trivial⟩
 refine o_makeDz (α := Int) eI64 3 1 sl87 zero59 rfl rfl h12 h13 h14 rfl fun A13 L13 C13 => dN [3] 0 ?_
 refine d_all [5, 7] (by kernel_rfl) (by simp) ⟨⟨_, rfl, ?_⟩, ⟨_, rfl, ?_⟩, trivial⟩
 refine o_makeMap rfl fun b9 => dN [4] 0 (dO 7 rfl (o_makeMap rfl ?_))
 intro b10
 refine dN [5] 0 (dv 8 rfl (v_build (v := .agg #[iI g_.Nts, iI g_.Start, sl A1 L1 C1, sl A2 L2 C2, sl A13 L13 C13, .map (some b9), .map (some b8), .map (some b10)]) rfl (fun _ => by kernel_rfl)) (dO 9 rfl (o_box rfl rfl rfl ?_)))
 intro b11
 refine dN [6] 0 (dv 10 rfl vA (dD ?_))
 exact sK [6, 0, 1, 3, 0, 1, 0] [0, 1] (hN7 (List.replicate (Int.toNat g_.Nts) ([] : List Int)) A13 L13 C13 h0 b11 b9 b8 b10 hF)
 refine o_makeMap rfl fun b9 => dN [4] 0 (dO 5 rfl (o_makeMap rfl ?_))
 intro b10
 refine dN [5] 0 (dv 8 rfl (v_build (v := .agg #[iI g_.Nts, iI g_.Start, sl A1 L1 C1, sl A2 L2 C2, sl A13 L13 C13, .map (some b10), .map (some b8), .map (some b9)]) rfl (fun _ => by kernel_rfl)) (dO 9 rfl (o_box rfl rfl rfl ?_)))
 intro b11
 refine dN [6] 0 (dv 10 rfl vA (dD ?_))
 exact sK [6, 0, 0, 3, 0, 1, 0] [0, 1] (hN7 (List.replicate (Int.toNat g_.Nts) ([] : List Int)) A13 L13 C13 h0 b11 b10 b8 b9 hF)
 refine o_makeMap rfl fun b9 => dN [2] 0 ?_
 refine d_all [4, 7] (by kernel_rfl) (by simp) ⟨⟨_, rfl, ?_⟩, ⟨_, rfl, ?_⟩, trivial⟩
 refine o_makeDz (α := Int) eI64 3 1 sl87 zero59 rfl rfl h12 h13 h14 rfl fun A13 L13 C13 => dN [4] 0 (dO 7 rfl (o_makeMap rfl ?_))
 intro b10
 refine dN [5] 0 (dv 8 rfl (v_build (v := .agg #[iI g_.Nts, iI g_.Start, sl A1 L1 C1, sl A2 L2 C2, sl A13 L13 C13, .map (some b9), .map (some b8), .map (some b10)]) rfl (fun _ => by kernel_rfl)) (dO 9 rfl (o_box rfl rfl rfl ?_)))
 intro b11
 refine dN [6] 0 (dv 10 rfl vA (dD ?_))
 exact sK [6, 0, 3, 3, 0, 1, 0] [0, 1] (hN7 (List.replicate (Int.toNat g_.Nts) ([] : List Int)) A13 L13 C13 h0 b11 b9 b8 b10 hF)
 refine o_makeMap rfl fun b10 => dN [3] 0 (dO 4 rfl (o_makeDz (α := Int) eI64 3 1 sl87 zero59 rfl rfl h12 h13 h14 rfl ?_))
 intro A13 L13 C13
 refine dN [5] 0 (dv 8 rfl (v_build (v := .agg #[iI g_.Nts, iI g_.Start, sl A1 L1 C1, sl A2 L2 C2, sl A13 L13 C13, .map (some b9), .map (some b8), .map (some b10)]) rfl (fun _ => by kernel_rfl)) (dO 9 rfl (o_box rfl rfl rfl ?_)))
 intro b11
 refine dN [6] 0 (dv 10 rfl vA (dD ?_))
 exact sK [6, 0, 3, 3, 2, 1, 0] [0, 1] (hN7 (List.replicate (Int.toNat g_.Nts) ([] : List Int)) A13 L13 C13 h0 b11 b9 b8 b10 hF)
 refine o_makeMap rfl fun b9 => dN [2] 0 ?_
 refine d_all [4, 5] (by kernel_rfl) (by simp) ⟨⟨_, rfl, ?_⟩, ⟨_, rfl, ?_⟩, trivial⟩
 refine o_makeDz (α := Int) eI64 3 1 sl87 zero59 rfl rfl h12 h13 h14 rfl fun A13 L13 C13 => dN [4] 0 (dO 5 rfl (o_makeMap rfl ?_))
 intro b10
 refine dN [5] 0 (dv 8 rfl (v_build (v := .agg #[iI g_.Nts, iI g_.Start, sl A1 L1 C1, sl A2 L2 C2, sl A13 L13 C13, .map (some b10), .map (some b8), .map (some b9)]) rfl (fun _ => by kernel_rfl)) (dO 9 rfl (o_box rfl rfl rfl ?_)))
 intro b11
 refine dN [6] 0 (dv 10 rfl vA (dD ?_))
 exact sK [6, 0, 0, 3, 2, 1, 0] [0, 1] (hN7 (List.replicate (Int.toNat g_.Nts) ([] : List Int)) A13 L13 C13 h0 b11 b10 b8 b9 hF)
 refine o_makeMap rfl fun b10 => dN [3] 0 (dO 4 rfl (o_makeDz (α := Int) eI64 3 1 sl87 zero59 rfl rfl h12 h13 h14 rfl ?_))
 intro A13 L13 C13
 refine dN [5] 0 (dv 8 rfl (v_build (v := .agg #[iI g_.Nts, iI g_.Start, sl A1 L1 C1, sl A2 L2 C2, sl A13 L13 C13, .map (some b10), .map (some b8), .map (some b9)]) rfl (fun _ => by kernel_rfl)) (dO 9 rfl (o_box rfl rfl rfl ?_)))
 intro b11
 refine dN [6] 0 (dv 10 rfl vA (dD ?_))
 exact sK [6, 0, 2, 3, 2, 1, 0] [0, 1] (hN7 (List.replicate (Int.toNat g_.Nts) ([] : List Int)) A13 L13 C13 h0 b11 b10 b8 b9 hF)
 refine o_makeMap rfl fun b8 => dN [1] 0 ?_
 refine d_all [4, 5, 6] (by kernel_rfl) (by simp) ⟨⟨_, rfl, ?_⟩, ⟨_, rfl, ?_⟩, ⟨_, rfl, ?_⟩, trivial⟩
 refine o_makeDz (α := Int) eI64 3 1 sl87 zero59 rfl rfl h12 h13 h14 rfl fun A13 L13 C13 => dN [3] 0 ?_
 refine d_all [5, 6] (by kernel_rfl) (by simp) ⟨⟨_, rfl, ?_⟩, ⟨_, rfl, ?_⟩, trivial⟩
 refine o_makeMap rfl fun b9 => dN [4] 0 (dO 6 rfl (o_makeMap rfl ?_))
 intro b10
 refine dN [5] 0 (dv 8 rfl (v_build (v := .agg #[iI g_.Nts, iI g_.Start, sl A1 L1 C1, sl A2 L2 C2, sl A13 L13 C13, .map (some b9), .map (some b10), .map (some b8)]) rfl (fun _ => by kernel_rfl)) (dO 9 rfl (o_box rfl rfl rfl ?_)))
 intro b11
 refine dN [6] 0 (dv 10 rfl vA (dD ?_))
 exact sK [6, 0, 1, 0, 2, 1, 0] [0, 1] (hN7 (List.replicate (Int.toNat g_.Nts) ([] : List Int)) A13 L13 C13 h0 b11 b9 b10 b8 hF)
 refine o_makeMap rfl fun b9 => dN [4] 0 (dO 5 rfl (o_makeMap rfl ?_))
 intro b10
 refine dN [5] 0 (dv 8 rfl (v_build (v := .agg #[iI g_.Nts, iI g_.Start, sl A1 L1 C1, sl A2 L2 C2, sl A13 L13 C13, .map (some b10), .map (some b9), .map (some b8)]) rfl (fun _ => by kernel_rfl)) (dO 9 rfl (o_box rfl rfl rfl ?_)))
 intro b11
 refine dN [6] 0 (dv 10 rfl vA (dD ?_))
 exact sK [6, 0, 0, 0, 2, 1, 0] [0, 1] (hN7 (List.replicate (Int.toNat g_.Nts) ([] : List Int)) A13 L13 C13 h0 b11 b10 b9 b8 hF)
 refine o_makeMap rfl fun b9 => dN [2] 0 ?_
 refine d_all [4, 6] (by kernel_rfl) (by simp) ⟨⟨_, rfl, ?_⟩, ⟨_, rfl, ?_⟩, trivial⟩
 refine o_makeDz (α := Int) eI64 3 1 sl87 zero59 rfl rfl h12 h13 h14 rfl fun A13 L13 C13 => dN [4] 0 (dO 6 rfl (o_makeMap rfl ?_))
 intro b10
 refine dN [5] 0 (dv 8 rfl (v_build (v := .agg #[iI g_.Nts, iI g_.Start, sl A1 L1 C1, sl A2 L2 C2, sl A13 L13 C13, .map (some b9), .map (some b10), .map (some b8)]) rfl (fun _ => by kernel_rfl)) (dO 9 rfl (o_box rfl rfl rfl ?_)))
 intro b11
 refine dN [6] 0 (dv 10 rfl vA (dD ?_))
 exact sK [6, 0, 3, 0, 2, 1, 0] [0, 1] (hN7 (List.replicate (Int.toNat g_.Nts) ([] : List Int)) A13 L13 C13 h0 b11 b9 b10 b8 hF)
 refine o_makeMap rfl fun b10 => dN [3] 0 (dO 4 rfl (o_makeDz (α := Int) eI64 3 1 sl87 zero59 rfl rfl h12 h13 h14 rfl ?_))
 intro A13 L13 C13
 refine dN [5] 0 (dv 8 rfl (v_build (v := .agg #[iI g_.Nts, iI g_.Start, sl A1 L1 C1, sl A2 L2 C2, sl A13 L13 C13, .map (some b9), .map (some b10), .map (some b8)]) rfl (fun _ => by kernel_rfl)) (dO 9 rfl (o_box rfl rfl rfl ?_)))
 intro b11
 refine dN [6] 0 (dv 10 rfl vA (dD ?_))
 exact sK [6, 0, 3, 2, 2, 1, 0] [0, 1] (hN7 (List.replicate (Int.toNat g_.Nts) ([] : List Int)) A13 L13 C13 h0 b11 b9 b10 b8 hF)
 refine o_makeMap rfl fun b9 => dN [2] 0 ?_
 refine d_all [4, 5] (by kernel_rfl) (by simp) ⟨⟨_, rfl, ?_⟩, ⟨_, rfl, ?_⟩, trivial⟩
 refine o_makeDz (α := Int) eI64 3 1 sl87 zero59 rfl rfl h12 h13 h14 rfl fun A13 L13 C13 => dN [4] 0 (dO 5 rfl (o_makeMap rfl ?_))
 intro b10
 refine dN [5] 0 (dv 8 rfl (v_build (v := .agg #[iI g_.Nts, iI g_.Start, sl A1 L1 C1, sl A2 L2 C2, sl A13 L13 C13, .map (some b10), .map (some b9), .map (some b8)]) rfl (fun _ => by kernel_rfl)) (dO 9 rfl (o_box rfl rfl rfl ?_)))
 intro b11
 refine dN [6] 0 (dv 10 rfl vA (dD ?_))
 exact sK [6, 0, 0, 2, 2, 1, 0] [0, 1] (hN7 (List.replicate (Int.toNat g_.Nts) ([] : List Int)) A13 L13 C13 h0 b11 b10 b9 b8 hF)
 refine o_makeMap rfl fun b10 => dN [3] 0 (dO 4 rfl (o_makeDz (α := Int) eI64 3 1 sl87 zero59 rfl rfl h12 h13 h14 rfl ?_))
 intro A13 L13 C13
 refine dN [5] 0 (dv 8 rfl (v_build (v := .agg #[iI g_.Nts, iI g_.Start, sl A1 L1 C1, sl A2 L2 C2, sl A13 L13 C13, .map (some b10), .map (some b9), .map (some b8)]) rfl (fun _ => by kernel_rfl)) (dO 9 rfl (o_box rfl rfl rfl ?_)))
 intro b11
 refine dN [6] 0 (dv 10 rfl vA (dD ?_))
 exact sK [6, 0, 2, 2, 2, 1, 0] [0, 1] (hN7 (List.replicate (Int.toNat g_.Nts) ([] : List Int)) A13 L13 C13 h0 b11 b10 b9 b8 hF)
 intro by__ A3 L3 C3 gh b1 b2 b3 b4 hF
 unfold F.forest.open__j1 at hF
 refine sat_wc (c_seq (cR ((fD 2) (oV (vL 0 ty22) (oV (v_lenS (enc := eRule) g_.Rules sl22 rfl (.f 0 rfl)) (oV vM (o_seq ?_)))))))
 obtain ⟨o2, ho2, hF⟩ := bd hF
 refine cT (fun E H Φ N' => ∀ (A5 : OA) (L5 C5 : Nat) (gh2 : Nat → H3), Sat E [(0, .agg (vGram g_ A1 L1 C1).toArray), (1, sl A2 L2 C2), (2, pt b), (5, pt b1), (24, sl A1 L1 C1)] [.box b 24 (vGram g_ A1 L1 C1), .box b1 91 [iI g_.Nts, iI g_.Start, sl A1 L1 C1, sl A2 L2 C2, sl A5 L5 C5, .map (some b2), .map (some b3), .map (some b4)], .mp b2 (mEnc kForest_span (tenc ([] : List (Forest_span × Int)))), .mp b3 (mEnc kForest_span (tenc ([] : List (Forest_span × Int)))), .mp b4 (mEnc kForest_part (tenc ([] : List (Forest_part × Int)))), .row (sl A5 L5 C5) 59 1 (dcells o2 gh2), .fam (dfam 3 1 eI64 o2 gh2)] Φ N') (fun N2 hN2 => ?_) ?_
 refine c_block ?_
 refine cL (fun E H Φ j a w => ∃ (t26 : Int) (by__1 : List (List Int)) (A4 : OA) (L4 C4 : Nat) (gh1 : Nat → H3), F.forest.open__l2 g_ j t26 by__1 = some o2 ∧ St E [(0, .agg (vGram g_ A1 L1 C1).toArray), (1, sl A2 L2 C2), (2, pt b), (5, pt b1), (24, sl A1 L1 C1), (25, iI (g_.Rules.length : Int)), (26, iI t26)] [.box b 24 (vGram g_ A1 L1 C1), .box b1 91 [iI g_.Nts, iI g_.Start, sl A1 L1 C1, sl A2 L2 C2, sl A4 L4 C4, .map (some b2), .map (some b3), .map (some b4)], .mp b2 (mEnc kForest_span (tenc ([] : List (Forest_span × Int)))), .mp b3 (mEnc kForest_span (tenc ([] : List (Forest_span × Int)))), .mp b4 (mEnc kForest_part (tenc ([] : List (Forest_part × Int)))), .row (sl A4 L4 C4) 59 1 (dcells by__1 gh1), .fam (dfam 3 1 eI64 by__1 gh1)] Φ a w) k ?_ ?_
 exact lq [0, 0, 0, 0, 0, 0, 0] [0, 1] fun a w hs => ⟨0, by__, A3, L3, C3, gh, ho2, hs⟩
 rintro j a w ⟨t26, by__1, A4, L4, C4, gh1, hL2, hs⟩
 rcases j with _ | j
 cases hL2
 refine wc_app hs ?_
 unfold F.forest.open__l2 at hL2
 refine cR (oV vB (o_seq (c_seq ?_)))
 refine cC hL2 (fun hL2 => ?_) (fun hL2 => ?_)
 refine c_skip (sat_wc (c_seq ?_))
 refine c_cut (fun E N' => ∀ (by__2 : List (List Int)) (A6 : OA) (L6 C6 : Nat) (A7 : OA) (L7 C7 : Nat) (gh3 : Nat → H3) (b5 : Nat), F.forest.open__j3 (F.forest.open__l2 g_ j) t26 by__2 = some o2 → Sat E [(0, .agg (vGram g_ A1 L1 C1).toArray), (1, sl A2 L2 C2), (2, pt b), (5, pt b1), (6, iI t26), (7, pt b5), (24, sl A1 L1 C1), (25, iI (g_.Rules.length : Int)), (26, iI t26)] [.box b 24 (vGram g_ A1 L1 C1), .box b1 91 [iI g_.Nts, iI g_.Start, sl A1 L1 C1, sl A2 L2 C2, sl A7 L7 C7, .map (some b2), .map (some b3), .map (some b4)], .mp b2 (mEnc kForest_span (tenc ([] : List (Forest_span × Int)))), .mp b3 (mEnc kForest_span (tenc ([] : List (Forest_span × Int)))), .mp b4 (mEnc kForest_part (tenc ([] : List (Forest_part × Int)))), .box b5 50 [iI ((at_ g_.Rules t26).Lhs), sl A6 L6 C6], .row (sl A7 L7 C7) 59 1 (dcells by__2 gh3), .fam (dfam 3 1 eI64 by__2 gh3)] [fS A1 L1 C1 2 eRule g_.Rules, fS A2 L2 C2 1 eU8 w__, fS A6 L6 C6 5 eKSym ((at_ g_.Rules t26).Rhs)] N') (fun N3 hN3 => ?_) ?_
 refine c_block (cR (oV vM (ite_some hL2 ?_)))
 intro h2 hL2
 refine oV (v_indexAddr_s (xs := g_.Rules) (enc := eRule) sl22 rfl rfl (.f 0 rfl) h2) (o_load_s (xs := g_.Rules) (enc := eRule) ty50 rfl (.f 0 rfl) h2 rfl rfl rfl rfl rfl rfl ?_)
 intro A8 L8 C8
 refine o_alloc zero50 rfl rfl fun b6 => oV vA ((sT 0 ty50) (o_seq ?_))
 refine c_cut (fun E N' => ∀ (by__3 : List (List Int)) (A9 : OA) (L9 C9 : Nat) (gh4 : Nat → H3), F.forest.open__j4 (F.forest.open__l2 g_ j) t26 by__3 = some o2 → Sat E [(0, .agg (vGram g_ A1 L1 C1).toArray), (1, sl A2 L2 C2), (2, pt b), (5, pt b1), (6, iI t26), (7, pt b6), (24, sl A1 L1 C1), (25, iI (g_.Rules.length : Int)), (26, iI t26)] [.box b6 50 [iI ((at_ g_.Rules t26).Lhs), sl A8 L8 C8], .box b 24 (vGram g_ A1 L1 C1), .box b1 91 [iI g_.Nts, iI g_.Start, sl A1 L1 C1, sl A2 L2 C2, sl A9 L9 C9, .map (some b2), .map (some b3), .map (some b4)], .mp b2 (mEnc kForest_span (tenc ([] : List (Forest_span × Int)))), .mp b3 (mEnc kForest_span (tenc ([] : List (Forest_span × Int)))), .mp b4 (mEnc kForest_part (tenc ([] : List (Forest_part × Int)))), .row (sl A9 L9 C9) 59 1 (dcells by__3 gh4), .fam (dfam 3 1 eI64 by__3 gh4)] [fS A1 L1 C1 2 eRule g_.Rules, fS A2 L2 C2 1 eU8 w__, fS A8 L8 C8 5 eKSym ((at_ g_.Rules t26).Rhs)] N') (fun N4 hN4 => ?_) ?_
 refine c_draw (n := 19) [0, 0, 0, 0, 0, 0] mixed rfl rfl (dv 0 rfl vM (dv 1 rfl vC (dv 2 rfl (vF 4) (dv 3 rfl (vL 2 ty87) (dv 4 rfl (vF 0) (dv 5 rfl (vL 0 ty3) (dv 6 rfl vM (dv 7 rfl vC (dv 8 rfl (vF 4) (dv 9 rfl (vL 2 ty87) (dv 10 rfl (vF 0) (dv 11 rfl (vL 0 ty3) (dv 14 rfl vM (ite_some hL2 ?_))))))))))))))
 intro h3 hL2
 refine ite_some hL2 fun h4 hL2 => ?_
 refine ite_some hL2 fun h5 hL2 => ?_
 refine d_all [12, 15] (by kernel_rfl) (by simp) ⟨⟨_, rfl, ?_⟩, ⟨_, rfl, ?_⟩, trivial⟩
 refine oV (v_indexAddr_d (le := by__1) (hs := gh1) 6 sl87 rfl rfl rfl h3) (dN [0, 0, 0, 0, 0, 0] 0 ?_)
 refine d_all [13, 15] (by kernel_rfl) (by simp) ⟨⟨_, rfl, ?_⟩, ⟨_, rfl, ?_⟩, trivial⟩
 refine oV (v_load_d (le := by__1) (hs := gh1) 6 ty59 rfl rfl h3) (dN [0, 0, 0, 0, 0, 0] 0 (dO 15 rfl (o_buildSlice (enc := eI64) ([t26] : List Int) [iI t26] sl59 rfl (fun _ => by kernel_rfl) rfl rfl rfl (.s rfl (.nil)) rfl ?_)))
 intro A10 L10 C10
 refine dN [1, 1, 1, 1, 1, 1] 0 (dO 16 rfl (o_appendF (enc := eI64) (le := by__1) (ys := ([t26] : List Int)) (hs := gh1) 8 sl59 rfl rfl rfl h3 0 rfl h4 h5 rfl ?_))
 intro A11 L11 C11
 refine o_H [rW A10 L10 C10 3 1 eI64 ([t26] : List Int), .box b6 50 [iI ((at_ g_.Rules t26).Lhs), sl A8 L8 C8], .box b 24 (vGram g_ A1 L1 C1), .box b1 91 [iI g_.Nts, iI g_.Start, sl A1 L1 C1, sl A2 L2 C2, sl A4 L4 C4, .map (some b2), .map (some b3), .map (some b4)], .mp b2 (mEnc kForest_span (tenc ([] : List (Forest_span × Int)))), .mp b3 (mEnc kForest_span (tenc ([] : List (Forest_span × Int)))), .mp b4 (mEnc kForest_part (tenc ([] : List (Forest_part × Int)))), .row (sl A4 L4 C4) 59 1 (dcells by__1 gh1), .fam (dfam 3 1 eI64 (set_ by__1 ((at_ g_.Rules t26).Lhs) ((at_ by__1 ((at_ g_.Rules t26).Lhs)) ++ ([t26] : List Int))) (upd gh1 ((at_ g_.Rules t26).Lhs) (A11, L11, C11)))] rfl (dN [1, 1, 1, 1, 1, 1] 0 (dO 17 rfl (oV (v_indexAddr_d (le := by__1) (hs := gh1) 7 sl87 rfl rfl rfl h3) (dN [1, 1, 1, 1, 1, 1] 0 (dO 18 rfl (o_store_d (le := by__1) (hs := gh1) (set_ by__1 ((at_ g_.Rules t26).Lhs) ((at_ by__1 ((at_ g_.Rules t26).Lhs)) ++ ([t26] : List Int))) 7 (set_len _ _ _) rfl ty59 rfl rfl rfl h3 (o_H [rW A10 L10 C10 3 1 eI64 ([t26] : List Int), .box b6 50 [iI ((at_ g_.Rules t26).Lhs), sl A8 L8 C8], .box b 24 (vGram g_ A1 L1 C1), .box b1 91 [iI g_.Nts, iI g_.Start, sl A1 L1 C1, sl A2 L2 C2, sl A4 L4 C4, .map (some b2), .map (some b3), .map (some b4)], .mp b2 (mEnc kForest_span (tenc ([] : List (Forest_span × Int)))), .mp b3 (mEnc kForest_span (tenc ([] : List (Forest_span × Int)))), .mp b4 (mEnc kForest_part (tenc ([] : List (Forest_part × Int)))), .row (sl A4 L4 C4) 59 1 (dcells (set_ by__1 ((at_ g_.Rules t26).Lhs) ((at_ by__1 ((at_ g_.Rules t26).Lhs)) ++ ([t26] : List Int))) (upd gh1 ((at_ g_.Rules t26).Lhs) (A11, L11, C11))), .fam (dfam 3 1 eI64 (set_ by__1 ((at_ g_.Rules t26).Lhs) ((at_ by__1 ((at_ g_.Rules t26).Lhs)) ++ ([t26] : List Int))) (upd gh1 ((at_ g_.Rules t26).Lhs) (A11, L11, C11)))] rfl (dN [1, 1, 1, 1, 1, 1] 0 ?_))))))))
 refine dD ?_
 exact sK [1, 1, 1, 1, 1, 1, 1, 1] [1, 2, 0] (hN4 (set_ by__1 ((at_ g_.Rules t26).Lhs) ((at_ by__1 ((at_ g_.Rules t26).Lhs)) ++ ([t26] : List Int))) A4 L4 C4 (upd gh1 ((at_ g_.Rules t26).Lhs) (A11, L11, C11)) hL2)
 refine o_buildSlice (enc := eI64) ([t26] : List Int) [iI t26] sl59 rfl (fun _ => by kernel_rfl) rfl rfl rfl (.s rfl (.nil)) rfl fun A10 L10 C10 => dN [1, 1, 1, 1, 1, 1] 0 (dO 13 rfl (oV (v_load_d (le := by__1) (hs := gh1) 7 ty59 rfl rfl h3) (dN [1, 1, 1, 1, 1, 1] 0 (dO 16 rfl (o_appendF (enc := eI64) (le := by__1) (ys := ([t26] : List Int)) (hs := gh1) 8 sl59 rfl rfl rfl h3 0 rfl h4 h5 rfl ?_)))))
 intro A11 L11 C11
 refine o_H [rW A10 L10 C10 3 1 eI64 ([t26] : List Int), .box b6 50 [iI ((at_ g_.Rules t26).Lhs), sl A8 L8 C8], .box b 24 (vGram g_ A1 L1 C1), .box b1 91 [iI g_.Nts, iI g_.Start, sl A1 L1 C1, sl A2 L2 C2, sl A4 L4 C4, .map (some b2), .map (some b3), .map (some b4)], .mp b2 (mEnc kForest_span (tenc ([] : List (Forest_span × Int)))), .mp b3 (mEnc kForest_span (tenc ([] : List (Forest_span × Int)))), .mp b4 (mEnc kForest_part (tenc ([] : List (Forest_part × Int)))), .row (sl A4 L4 C4) 59 1 (dcells by__1 gh1), .fam (dfam 3 1 eI64 (set_ by__1 ((at_ g_.Rules t26).Lhs) ((at_ by__1 ((at_ g_.Rules t26).Lhs)) ++ ([t26] : List Int))) (upd gh1 ((at_ g_.Rules t26).Lhs) (A11, L11, C11)))] rfl (dN [1, 1, 1, 1, 1, 1] 0 (dO 17 rfl (oV (v_indexAddr_d (le := by__1) (hs := gh1) 7 sl87 rfl rfl rfl h3) (dN [1, 1, 1, 1, 1, 1] 0 (dO 18 rfl (o_store_d (le := by__1) (hs := gh1) (set_ by__1 ((at_ g_.Rules t26).Lhs) ((at_ by__1 ((at_ g_.Rules t26).Lhs)) ++ ([t26] : List Int))) 7 (set_len _ _ _) rfl ty59 rfl rfl rfl h3 (o_H [rW A10 L10 C10 3 1 eI64 ([t26] : List Int), .box b6 50 [iI ((at_ g_.Rules t26).Lhs), sl A8 L8 C8], .box b 24 (vGram g_ A1 L1 C1), .box b1 91 [iI g_.Nts, iI g_.Start, sl A1 L1 C1, sl A2 L2 C2, sl A4 L4 C4, .map (some b2), .map (some b3), .map (some b4)], .mp b2 (mEnc kForest_span (tenc ([] : List (Forest_span × Int)))), .mp b3 (mEnc kForest_span (tenc ([] : List (Forest_span × Int)))), .mp b4 (mEnc kForest_part (tenc ([] : List (Forest_part × Int)))), .row (sl A4 L4 C4) 59 1 (dcells (set_ by__1 ((at_ g_.Rules t26).Lhs) ((at_ by__1 ((at_ g_.Rules t26).Lhs)) ++ ([t26] : List Int))) (upd gh1 ((at_ g_.Rules t26).Lhs) (A11, L11, C11))), .fam (dfam 3 1 eI64 (set_ by__1 ((at_ g_.Rules t26).Lhs) ((at_ by__1 ((at_ g_.Rules t26).Lhs)) ++ ([t26] : List Int))) (upd gh1 ((at_ g_.Rules t26).Lhs) (A11, L11, C11)))] rfl (dN [1, 1, 1, 1, 1, 1] 0 ?_))))))))
 refine dD ?_
 exact sK [1, 1, 1, 1, 1, 1, 1, 1] [1, 2, 0] (hN4 (set_ by__1 ((at_ g_.Rules t26).Lhs) ((at_ by__1 ((at_ g_.Rules t26).Lhs)) ++ ([t26] : List Int))) A4 L4 C4 (upd gh1 ((at_ g_.Rules t26).Lhs) (A11, L11, C11)) hL2)
 refine o_buildSlice (enc := eI64) ([t26] : List Int) [iI t26] sl59 rfl (fun _ => by kernel_rfl) rfl rfl rfl (.s rfl (.nil)) rfl fun A10 L10 C10 => dN [1, 1, 1, 1, 1, 1] 0 (dO 12 rfl (oV (v_indexAddr_d (le := by__1) (hs := gh1) 7 sl87 rfl rfl rfl h3) (dN [1, 1, 1, 1, 1, 1] 0 (dO 13 rfl (oV (v_load_d (le := by__1) (hs := gh1) 7 ty59 rfl rfl h3) (dN [1, 1, 1, 1, 1, 1] 0 (dO 16 rfl (o_appendF (enc := eI64) (le := by__1) (ys := ([t26] : List Int)) (hs := gh1) 8 sl59 rfl rfl rfl h3 0 rfl h4 h5 rfl ?_))))))))
 intro A11 L11 C11
 refine o_H [rW A10 L10 C10 3 1 eI64 ([t26] : List Int), .box b6 50 [iI ((at_ g_.Rules t26).Lhs), sl A8 L8 C8], .box b 24 (vGram g_ A1 L1 C1), .box b1 91 [iI g_.Nts, iI g_.Start, sl A1 L1 C1, sl A2 L2 C2, sl A4 L4 C4, .map (some b2), .map (some b3), .map (some b4)], .mp b2 (mEnc kForest_span (tenc ([] : List (Forest_span × Int)))), .mp b3 (mEnc kForest_span (tenc ([] : List (Forest_span × Int)))), .mp b4 (mEnc kForest_part (tenc ([] : List (Forest_part × Int)))), .row (sl A4 L4 C4) 59 1 (dcells by__1 gh1), .fam (dfam 3 1 eI64 (set_ by__1 ((at_ g_.Rules t26).Lhs) ((at_ by__1 ((at_ g_.Rules t26).Lhs)) ++ ([t26] : List Int))) (upd gh1 ((at_ g_.Rules t26).Lhs) (A11, L11, C11)))] rfl (dN [1, 1, 1, 1, 1, 1] 0 (dO 17 rfl (oV (v_indexAddr_d (le := by__1) (hs := gh1) 7 sl87 rfl rfl rfl h3) (dN [1, 1, 1, 1, 1, 1] 0 (dO 18 rfl ?_)))))
 refine o_store_d (le := by__1) (hs := gh1) (set_ by__1 ((at_ g_.Rules t26).Lhs) ((at_ by__1 ((at_ g_.Rules t26).Lhs)) ++ ([t26] : List Int))) 7 (set_len _ _ _) rfl ty59 rfl rfl rfl h3 (o_H [rW A10 L10 C10 3 1 eI64 ([t26] : List Int), .box b6 50 [iI ((at_ g_.Rules t26).Lhs), sl A8 L8 C8], .box b 24 (vGram g_ A1 L1 C1), .box b1 91 [iI g_.Nts, iI g_.Start, sl A1 L1 C1, sl A2 L2 C2, sl A4 L4 C4, .map (some b2), .map (some b3), .map (some b4)], .mp b2 (mEnc kForest_span (tenc ([] : List (Forest_span × Int)))), .mp b3 (mEnc kForest_span (tenc ([] : List (Forest_span × Int)))), .mp b4 (mEnc kForest_part (tenc ([] : List (Forest_part × Int)))), .row (sl A4 L4 C4) 59 1 (dcells (set_ by__1 ((at_ g_.Rules t26).Lhs) ((at_ by__1 ((at_ g_.Rules t26).Lhs)) ++ ([t26] : List Int))) (upd gh1 ((at_ g_.Rules t26).Lhs) (A11, L11, C11))), .fam (dfam 3 1 eI64 (set_ by__1 ((at_ g_.Rules t26).Lhs) ((at_ by__1 ((at_ g_.Rules t26).Lhs)) ++ ([t26] : List Int))) (upd gh1 ((at_ g_.Rules t26).Lhs) (A11, L11, C11)))] rfl (dN [1, 1, 1, 1, 1, 1] 0 (dD ?_)))
 exact sK [1, 1, 1, 1, 1, 1, 1, 1] [1, 2, 0] (hN4 (set_ by__1 ((at_ g_.Rules t26).Lhs) ((at_ by__1 ((at_ g_.Rules t26).Lhs)) ++ ([t26] : List Int))) A4 L4 C4 (upd gh1 ((at_ g_.Rules t26).Lhs) (A11, L11, C11)) hL2)
 intro by__3 A9 L9 C9 gh4 hL2
 unfold F.forest.open__j4 at hL2
 exact sK [1, 1, 1, 1, 1, 0, 0, 0] [0, 1, 2] (hN3 by__3 A8 L8 C8 A9 L9 C9 gh4 b6 hL2)
 intro by__2 A6 L6 C6 A7 L7 C7 gh3 b5 hL2
 unfold F.forest.open__j3 at hL2
 refine sat_wc (c_region (oV vB (oV vM (o_nil ?_))))
 exact lp [0, 0, 0, 0, 0, 1, 1] [0, 1] fun a w hs => ⟨IntKind.wrap .i64 (t26 + 1), by__2, A7, L7, C7, gh3, hL2, hs⟩
 refine c_exit0 ?_
 cases hL2
 exact sK [0, 0, 0, 0, 0, 0, 0] [0, 1] (hN2 A4 L4 C4 gh1)
 intro A5 L5 C5 gh2
 refine sat_wc (c_seq (cR ((fD 0) (oV (vL 0 ty3) (oV vM (o_seq ?_))))))
 obtain ⟨o5, ho5, hF⟩ := bd hF
 refine cT (fun E H Φ N' => Sat E [(0, .agg (vGram g_ A1 L1 C1).toArray), (1, sl A2 L2 C2), (2, pt b), (5, pt b1), (24, sl A1 L1 C1)] [.box b 24 (vGram g_ A1 L1 C1), .box b1 91 [iI g_.Nts, iI g_.Start, sl A1 L1 C1, sl A2 L2 C2, sl A5 L5 C5, .map (some b2), .map (some b3), .map (some b4)], .mp b2 (mEnc kForest_span (tenc o5)), .mp b3 (mEnc kForest_span (tenc ([] : List (Forest_span × Int)))), .mp b4 (mEnc kForest_part (tenc ([] : List (Forest_part × Int)))), .row (sl A5 L5 C5) 59 1 (dcells o2 gh2), .fam (dfam 3 1 eI64 o2 gh2)] Φ N') (fun N5 hN5 => ?_) ?_
 refine c_block ?_
 refine cL (fun E H Φ j a w => ∃ (t52 : Int) (v_ : List (Forest_span × Int)), F.forest.open__l5 k g_ o2 w__ j t52 v_ = some o5 ∧ St E [(0, .agg (vGram g_ A1 L1 C1).toArray), (1, sl A2 L2 C2), (2, pt b), (5, pt b1), (24, sl A1 L1 C1), (51, iI g_.Nts), (52, iI t52)] [.box b 24 (vGram g_ A1 L1 C1), .box b1 91 [iI g_.Nts, iI g_.Start, sl A1 L1 C1, sl A2 L2 C2, sl A5 L5 C5, .map (some b2), .map (some b3), .map (some b4)], .mp b2 (mEnc kForest_span (tenc v_)), .mp b3 (mEnc kForest_span (tenc ([] : List (Forest_span × Int)))), .mp b4 (mEnc kForest_part (tenc ([] : List (Forest_part × Int)))), .row (sl A5 L5 C5) 59 1 (dcells o2 gh2), .fam (dfam 3 1 eI64 o2 gh2)] Φ a w) k ?_ ?_
 exact lq [0, 0, 0, 0, 0, 0, 0] [0, 1] fun a w hs => ⟨0, ([] : List (Forest_span × Int)), ho5, hs⟩
 rintro j a w ⟨t52, v_, hL5, hs⟩
 rcases j with _ | j
 cases hL5
 refine wc_app hs ?_
 unfold F.forest.open__l5 at hL5
 refine cR (oV vB (o_seq (c_seq ?_)))
 refine cC hL5 (fun hL5 => ?_) (fun hL5 => ?_)
 refine c_skip (sat_wc (c_seq ?_))
 refine cT (fun E H Φ N' => ∀ (v_1 : List (Forest_span × Int)), F.forest.open__j6 (F.forest.open__l5 k g_ o2 w__ j) t52 v_1 = some o5 → Sat E [(0, .agg (vGram g_ A1 L1 C1).toArray), (1, sl A2 L2 C2), (2, pt b), (5, pt b1), (8, iI t52), (24, sl A1 L1 C1), (51, iI g_.Nts), (52, iI t52)] [.box b 24 (vGram g_ A1 L1 C1), .box b1 91 [iI g_.Nts, iI g_.Start, sl A1 L1 C1, sl A2 L2 C2, sl A5 L5 C5, .map (some b2), .map (some b3), .map (some b4)], .mp b2 (mEnc kForest_span (tenc v_1)), .mp b3 (mEnc kForest_span (tenc ([] : List (Forest_span × Int)))), .mp b4 (mEnc kForest_part (tenc ([] : List (Forest_part × Int)))), .row (sl A5 L5 C5) 59 1 (dcells o2 gh2), .fam (dfam 3 1 eI64 o2 gh2)] Φ N') (fun N6 hN6 => ?_) ?_
 refine c_block (cR (oV vM (oV vA (o_seq (c_seq (cR (oV vM (oV vC ((fD 4) (oV (vL 1 ty87) (oV vM (ite_some hL5 ?_))))))))))))
 intro h7 hL5
 refine oV (v_indexAddr_d (le := o2) (hs := gh2) 5 sl87 rfl rfl rfl h7) ?_
 refine oV (v_load_d (le := o2) (hs := gh2) 5 ty59 rfl rfl h7) (oV (v_lenS (enc := eI64) (at_ o2 t52) sl59 rfl (.m 6 _ _ rfl (dfam_get h7))) (oV vB (o_seq ?_)))
 refine cC hL5 (fun hL5 => ?_) (fun hL5 => ?_)
 refine c_exit0 ?_
 exact sK [0, 0, 0, 0, 0, 0, 0] [0, 1] (hN6 v_ hL5)
 refine c_skip (sat_wc (cR (oV (vL 0 ty24) (oV vM (oV vM ?_)))))
 obtain ⟨v_2, h9, hL5⟩ := bd hL5
 refine o_call0 call54 rfl (subs [0, 1] rfl) (tri54 h9 :) rfl ?_
 rintro _ _ _ ⟨A12, L12, C12, rfl, rfl, rfl⟩
 refine oV vM (oV vX (oV vX (oV vA (oV vA (o_seq (cR (oV vM (oV (v_lenS (enc := eRun) v_2.1 sl121 rfl (.r 0 _ rfl)) (oV vM (o_seq ?_))))))))))
 obtain ⟨o7, ho7, hL5⟩ := bd hL5
 refine cT (fun E H Φ N' => Sat E [(0, .agg (vGram g_ A1 L1 C1).toArray), (1, sl A2 L2 C2), (2, pt b), (5, pt b1), (8, iI t52), (9, sl A12 L12 C12), (24, sl A1 L1 C1), (51, iI g_.Nts), (52, iI t52), (71, sl A12 L12 C12), (72, iI (v_2.1.length : Int)), (73, iI o7.1)] [.box b 24 (vGram g_ A1 L1 C1), .box b1 91 [iI g_.Nts, iI g_.Start, sl A1 L1 C1, sl A2 L2 C2, sl A5 L5 C5, .map (some b2), .map (some b3), .map (some b4)], .mp b2 (mEnc kForest_span (tenc o7.2)), .mp b3 (mEnc kForest_span (tenc ([] : List (Forest_span × Int)))), .mp b4 (mEnc kForest_part (tenc ([] : List (Forest_part × Int)))), rW A12 L12 C12 125 2 eRun v_2.1, .row (sl A5 L5 C5) 59 1 (dcells o2 gh2), .fam (dfam 3 1 eI64 o2 gh2)] Φ N') (fun N7 hN7 => ?_) ?_
 refine c_block ?_
 refine cL (fun E H Φ j a w => ∃ (t73 : Int) (v_3 : List (Forest_span × Int)), F.forest.open__l7 v_2 t52 j t73 v_3 = some o7 ∧ St E [(0, .agg (vGram g_ A1 L1 C1).toArray), (1, sl A2 L2 C2), (2, pt b), (5, pt b1), (8, iI t52), (9, sl A12 L12 C12), (24, sl A1 L1 C1), (51, iI g_.Nts), (52, iI t52), (71, sl A12 L12 C12), (72, iI (v_2.1.length : Int)), (73, iI t73)] [.box b 24 (vGram g_ A1 L1 C1), .box b1 91 [iI g_.Nts, iI g_.Start, sl A1 L1 C1, sl A2 L2 C2, sl A5 L5 C5, .map (some b2), .map (some b3), .map (some b4)], .mp b2 (mEnc kForest_span (tenc v_3)), .mp b3 (mEnc kForest_span (tenc ([] : List (Forest_span × Int)))), .mp b4 (mEnc kForest_part (tenc ([] : List (Forest_part × Int)))), rW A12 L12 C12 125 2 eRun v_2.1, .row (sl A5 L5 C5) 59 1 (dcells o2 gh2), .fam (dfam 3 1 eI64 o2 gh2)] Φ a w) k ?_ ?_
 exact lq [1, 1, 1, 1, 1, 0, 0, 0] [0, 1] fun a w hs => ⟨0, v_, ho7, hs⟩
 rintro j a w ⟨t73, v_3, hL7, hs⟩
 rcases j with _ | j
 cases hL7
 refine wc_app hs ?_
 unfold F.forest.open__l7 at hL7
 refine cR (oV vB (o_seq (c_seq ?_)))
 refine cC hL7 (fun hL7 => ?_) (fun hL7 => ?_)
 refine c_skip (sat_wc (c_seq (c_block (cR (ite_some hL7 fun h11 hL7 => oV (v_indexAddr_s (xs := v_2.1) (enc := eRun) sl121 rfl rfl (.r 5 _ rfl) h11) (oV (v_load_s (xs := v_2.1) (enc := eRun) ty125 rfl (.r 5 _ rfl) h11 rfl rfl rfl rfl rfl rfl rfl) (o_alloc zero125 rfl rfl ?_)))))))
 intro b7
 refine (sT 0 ty125) (o_seq (c_draw (n := 11) [0, 0, 0, 1, 1, 1, 1, 1] mixed rfl rfl (dv 0 rfl vM (dv 1 rfl vC (dv 2 rfl (vF 5) ?_)))))
 refine dv 3 rfl (vL 2 ty88) (dv 4 rfl vM (dv 5 rfl (vF 0) (dv 6 rfl (vL 0 ty3) (dv 7 rfl (vF 1) (dv 8 rfl (vL 0 ty3) (dv 9 rfl (v_build (v := .agg #[iI t52, iI ((at_ v_2.1 t73).Lo), iI ((at_ v_2.1 t73).Hi)]) rfl (fun _ => by kernel_rfl)) (dO 10 rfl (o_updateT (enc := kForest_span) (eq := qForest_span) (k := (Forest_span.mk t52 ((at_ v_2.1 t73).Lo) ((at_ v_2.1 t73).Hi))) (m := v_3) 3 Try.underlying88 kt73 rfl rfl rfl rfl (o_H [.box b7 125 [iI ((at_ v_2.1 t73).Lo), iI ((at_ v_2.1 t73).Hi)], .box b 24 (vGram g_ A1 L1 C1), .box b1 91 [iI g_.Nts, iI g_.Start, sl A1 L1 C1, sl A2 L2 C2, sl A5 L5 C5, .map (some b2), .map (some b3), .map (some b4)], .mp b2 (mEnc kForest_span (tenc (tput qForest_span (Forest_span.mk t52 ((at_ v_2.1 t73).Lo) ((at_ v_2.1 t73).Hi)) 1 v_3))), .mp b3 (mEnc kForest_span (tenc ([] : List (Forest_span × Int)))), .mp b4 (mEnc kForest_part (tenc ([] : List (Forest_part × Int)))), rW A12 L12 C12 125 2 eRun v_2.1, .row (sl A5 L5 C5) 59 1 (dcells o2 gh2), .fam (dfam 3 1 eI64 o2 gh2)] rfl (dN [0, 0, 0, 1, 1, 1, 1, 1] 0 (dD (sat_wc (c_region (oV vB (oV vM ?_)))))))))))))))
 refine o_nil ?_
 exact lp [1, 1, 1, 1, 1, 1, 1, 1] [0, 1] fun a w hs => ⟨IntKind.wrap .i64 (t73 + 1), (tput qForest_span (Forest_span.mk t52 ((at_ v_2.1 t73).Lo) ((at_ v_2.1 t73).Hi)) 1 v_3), hL7, hs⟩
 refine c_exit0 ?_
 cases hL7
 exact sK [0, 0, 0, 0, 0, 0, 0, 0] [0, 1] (hN7)
 exact sK [0, 0, 0, 0, 0, 1, 1] [0, 1] (hN6 o7.2 hL5)
 intro v_1 hL5
 unfold F.forest.open__j6 at hL5
 refine sat_wc (c_region (oV vB (oV vM (o_nil ?_))))
 exact lp [0, 0, 0, 0, 0, 0, 0] [0, 1] fun a w hs => ⟨IntKind.wrap .i64 (t52 + 1), v_1, hL5, hs⟩
 refine c_exit0 ?_
 cases hL5
 exact sK [0, 0, 0, 0, 0, 0, 0] [0, 1] (hN5)
 refine sat_wc (cR (oV vM (oV vA (o_seq (c_ret ?_)))))
 cases hF
 refine s_st (st_freezeD 6 5 rfl rfl) (s_ret1 rfl (r_tmp rfl) fun a w hs => fin_sel hs [1, 1, 1, 1] ⟨b1, A1, L1, C1, A2, L2, C2, A5, L5, C5, b2, b3, b4, rfl, rfl, rfl⟩ rfl (subs [1, 2, 0] rfl))
theorem tri38 {v_ : Forest_grove} {s : KSym} {from__ : Int} {to_ : Int} {b : Nat} {gb : Nat} {gb1 : Nat} {gb2 : Nat} {r : Bool} (hF : F.forest.grove_sym v_ s from__ to_ = some r) :
    Tri Try.prog 38 [pt b, .agg (vKSym s).toArray, iI from__, iI to_] [.box b 91 [iI v_.g.Nts, iI v_.g.Start, sl A1 L1 C1, sl A2 L2 C2, sl A3 L3 C3, .map (some gb), .map (some gb1), .map (some gb2)], .mp gb (mEnc kForest_span (tenc v_.whole)), .mp gb1 (mEnc kForest_span (tenc v_.counts)), .mp gb2 (mEnc kForest_part (tenc v_.rows))] [fS A1 L1 C1 2 eRule v_.g.Rules, fS A2 L2 C2 1 eU8 v_.w_, fS A3 L3 C3 1 (eSl 1 eI64) v_.by_] (fun o H Φ => o = .ret (bV r) ∧ H = [.box b 91 [iI v_.g.Nts, iI v_.g.Start, sl A1 L1 C1, sl A2 L2 C2, sl A3 L3 C3, .map (some gb), .map (some gb1), .map (some gb2)], .mp gb (mEnc kForest_span (tenc v_.whole)), .mp gb1 (mEnc kForest_span (tenc v_.counts)), .mp gb2 (mEnc kForest_part (tenc v_.rows))] ∧ Φ = []) := by
 unfold F.forest.grove_sym at hF
 refine tri_intro (n := 39) Try.func38 rfl Try.ntmps38 rfl fun w X => cR (o_box rfl rfl rfl fun b1 => oV vA (o_seq (c_seq (cR ((fD 0) (oV (vL 0 ty3) (oV vB (o_seq ?_))))))))
 refine cC hF (fun hF => ?_) (fun hF => ?_)
 refine c_seq (c_draw (n := 17) [0, 0, 0, 0, 0] mixed rfl rfl (dv 0 rfl vM (dv 1 rfl vM (dv 2 rfl vB (dv 3 rfl vB (dv 4 rfl vM ?_))))))
 refine d_split (t := 16) rfl (fun h2 => ?_) (fun h2 => ?_)
 replace hF := ite_t h2 hF
 refine dw 5 rfl rfl rfl (vF 1) (dw 6 rfl rfl rfl (vL 0 ty45) (dw 7 rfl rfl rfl vM (dw 8 rfl rfl rfl vC (dw 9 rfl rfl rfl (vF 3) (dw 10 rfl rfl rfl (vL 1 ty25) (dw 11 rfl rfl rfl vM (ite_some hF ?_)))))))
 intro h3 hF
 refine dw 12 rfl rfl rfl (v_indexAddr_s (xs := v_.w_) (enc := eU8) sl25 rfl rfl (.f 1 rfl) h3) (dw 13 rfl rfl rfl (v_load_s (xs := v_.w_) (enc := eU8) ty5 rfl (.f 1 rfl) h3 rfl rfl rfl rfl rfl rfl rfl) (dO 14 rfl (oN ?_)))
 obtain ⟨v_1, h4, hF⟩ := bd hF
 refine o_callSB call62 rfl lent_nil (tri62 h4 :) rfl (dN [0, 0, 0, 0, 0] 0 (dv 15 rfl vPt (dv 16 rfl vA (d_done_seq (by kernel_rfl) (c_ret ?_)))))
 cases hF
 refine s_ret1 rfl (r_tmp rfl) fun a w hs => fin_sel hs [1, 1, 1, 1] ⟨rfl, rfl, rfl⟩ rfl sub_nil
 replace hF := ite_f h2 hF
 refine dF 5 rfl (dF 6 rfl (dF 7 rfl (dF 8 rfl (dF 9 rfl (dF 10 rfl (dF 11 rfl (dF 12 rfl (dF 13 rfl (dF 14 rfl (dv 15 rfl vPf (dv 16 rfl vA (d_done_seq (by kernel_rfl) (c_ret ?_)))))))))))))
 cases hF
 refine s_ret1 rfl (r_tmp rfl) fun a w hs => fin_sel hs [1, 1, 1, 1] ⟨rfl, rfl, rfl⟩ rfl sub_nil
 refine c_skip (sat_wc (c_seq (c_draw (n := 12) [0, 0, 0, 0, 0] mixed rfl rfl (dv 0 rfl vM (dv 1 rfl vC (dv 2 rfl (vF 5) (dv 3 rfl (vL 1 ty88) (dv 4 rfl (vF 0) (dv 5 rfl (vL 0 ty3) (dv 6 rfl vM (dv 7 rfl vM (dv 8 rfl (v_build (v := .agg #[iI s.Nt, iI from__, iI to_]) rfl (fun _ => by kernel_rfl)) (dv 9 rfl (v_lookT (enc := kForest_span) (eq := qForest_span) (k := (Forest_span.mk s.Nt from__ to_)) (m := v_.whole) 2 Try.underlying88 kt73 zero3 rfl rfl rfl) (dv 10 rfl vB (dv 11 rfl vA ?_)))))))))))))))
 refine d_done_seq (by kernel_rfl) (c_ret ?_)
 cases hF
 refine s_ret1 rfl (r_tmp rfl) fun a w hs => fin_sel hs [1, 1, 1, 1] ⟨rfl, rfl, rfl⟩ rfl sub_nil
theorem tri55 {a_ : Int} {b : Int} {r : Int} (hF : F.forest.add a_ b = some r) :
    Tri Try.prog 55 [iI a_, iI b] [] [] (oR (iI r)) := by
 unfold F.forest.add at hF
 refine tri_intro (n := 12) Try.func55 rfl Try.ntmps55 rfl fun w X => cR (oV vA (o_seq (c_seq (cR (oV vM (oV vM (oV vB (oV vB (o_seq ?_)))))))))
 refine cC hF (fun hF => ?_) (fun hF => ?_)
 refine cR (oV vA (o_seq (c_ret ?_)))
 cases hF
 exact sR
 refine c_skip (sat_wc (cR (oV vM (oV vM (oV vB (oV vA (o_seq (c_ret ?_))))))))
 cases hF
 exact sR
theorem tri63 {a_ : Int} {b : Int} {r : Int} (hF : F.forest.mul a_ b = some r) :
    Tri Try.prog 63 [iI a_, iI b] [] [] (oR (iI r)) := by
 unfold F.forest.mul at hF
 refine tri_intro (n := 16) Try.func63 rfl Try.ntmps63 rfl fun w X => cR (oV vA (o_seq (c_seq (c_seq ?_))))
 refine c_cut (fun E N' => ∀ (t12 : Bool), F.forest.mul_j1 a_ b t12 = some r → Sat E [(0, iI a_), (1, iI b), (4, iI 0), (12, bV t12)] [] [] N') (fun N1 hN1 => ?_) ?_
 refine c_region (oV vM (oV vB (oV vM ?_)))
 refine oS 7 hF (fun hF => ?_) (fun hF => ?_)
 refine oN (oV vM (oN (oV vM (oN (ite_none hF ?_)))))
 intro h3 hF
 refine oV (v_quo rfl rfl h3) (oN (oV vB (oV vPt (o_nil ?_))))
 exact sK [] [] (hN1 (decide ((gquo .i64 4611686018427387904 a_) < b)) hF)
 refine oF (oF (oF (oF (oV vPf (o_nil ?_)))))
 exact sK [] [] (hN1 false hF)
 intro t12 hF
 unfold F.forest.mul_j1 at hF
 refine sat_wc ?_
 refine cC hF (fun hF => ?_) (fun hF => ?_)
 refine cR (oV vA (o_seq (c_ret ?_)))
 cases hF
 exact sR
 refine c_skip (sat_wc (cR (oV vM (oV vM (oV vB (oV vA (o_seq (c_ret ?_))))))))
 cases hF
 exact sR
theorem tri32_B (k : Nat) (g39 : Forest_grove → Forest_part → Option (Int × Forest_grove))
    (hg39 : ∀ {v_ : Forest_grove} {x_ : Forest_part} {b : Nat} {A1 : OA} {L1 C1 : Nat} {A2 : OA} {L2 C2 : Nat} {A3 : OA} {L3 C3 : Nat} {gb : Nat} {gb1 : Nat} {gb2 : Nat} {r : Int × Forest_grove}, g39 v_ x_ = some r → Tri Try.prog 39 [pt b, .agg (vForest_part x_).toArray] [.box b 91 [iI v_.g.Nts, iI v_.g.Start, sl A1 L1 C1, sl A2 L2 C2, sl A3 L3 C3, .map (some gb), .map (some gb1), .map (some gb2)], .mp gb (mEnc kForest_span (tenc v_.whole)), .mp gb1 (mEnc kForest_span (tenc v_.counts)), .mp gb2 (mEnc kForest_part (tenc v_.rows))] [fS A1 L1 C1 2 eRule v_.g.Rules, fS A2 L2 C2 1 eU8 v_.w_, fS A3 L3 C3 1 (eSl 1 eI64) v_.by_] (fun o H Φ => o = .ret (iI r.1) ∧ H = [.box b 91 [iI v_.g.Nts, iI v_.g.Start, sl A1 L1 C1, sl A2 L2 C2, sl A3 L3 C3, .map (some gb), .map (some gb1), .map (some gb2)], .mp gb (mEnc kForest_span (tenc r.2.whole)), .mp gb1 (mEnc kForest_span (tenc r.2.counts)), .mp gb2 (mEnc kForest_part (tenc r.2.rows))] ∧ Φ = [])) {v_ : Forest_grove} {x_ : Forest_span} {b : Nat} {A1 : OA} {L1 C1 : Nat} {A2 : OA} {L2 C2 : Nat} {A3 : OA} {L3 C3 : Nat} {gb : Nat} {gb1 : Nat} {gb2 : Nat} {r : Int × Forest_grove} (hF : F.forest.grove_count_B k g39 v_ x_ = some r) :
    Tri Try.prog 32 [pt b, .agg (vForest_span x_).toArray] [.box b 91 [iI v_.g.Nts, iI v_.g.Start, sl A1 L1 C1, sl A2 L2 C2, sl A3 L3 C3, .map (some gb), .map (some gb1), .map (some gb2)], .mp gb (mEnc kForest_span (tenc v_.whole)), .mp gb1 (mEnc kForest_span (tenc v_.counts)), .mp gb2 (mEnc kForest_part (tenc v_.rows))] [fS A1 L1 C1 2 eRule v_.g.Rules, fS A2 L2 C2 1 eU8 v_.w_, fS A3 L3 C3 1 (eSl 1 eI64) v_.by_] (fun o H Φ => o = .ret (iI r.1) ∧ H = [.box b 91 [iI v_.g.Nts, iI v_.g.Start, sl A1 L1 C1, sl A2 L2 C2, sl A3 L3 C3, .map (some gb), .map (some gb1), .map (some gb2)], .mp gb (mEnc kForest_span (tenc r.2.whole)), .mp gb1 (mEnc kForest_span (tenc r.2.counts)), .mp gb2 (mEnc kForest_part (tenc r.2.rows))] ∧ Φ = []) := by
 unfold F.forest.grove_count_B at hF
 refine tri_intro (n := 69) Try.func32 rfl Try.ntmps32 rfl fun w X => cR (o_box rfl rfl rfl fun b1 => oV vA (o_seq (c_seq (c_seq (c_draw (n := 7) [0, 0, 0, 0, 0] mixed rfl rfl (dv 0 rfl vM (dv 1 rfl vC (dv 2 rfl (vF 5) (dv 3 rfl (vL 1 ty88) (dv 4 rfl (vL 0 ty73) (dv 5 rfl (v_lookT (enc := kForest_span) (eq := qForest_span) (k := x_) (m := v_.whole) 2 Try.underlying88 kt73 zero3 rfl rfl rfl) (dv 6 rfl vB ?_))))))))))))
 refine d_done_seq (by kernel_rfl) ?_
 refine cC hF (fun hF => ?_) (fun hF => ?_)
 refine cR (oV vA (o_seq (c_ret ?_)))
 cases hF
 refine s_ret1 rfl (r_tmp rfl) fun a w hs => fin_sel hs [1, 1, 1, 1] ⟨rfl, rfl, rfl⟩ rfl sub_nil
 refine c_skip (sat_wc (c_seq (c_seq (c_draw (n := 11) [0, 0, 0, 0, 0] mixed rfl rfl (dv 0 rfl vM (dv 1 rfl vC (dv 2 rfl (vF 6) (dv 3 rfl (vL 1 ty88) (dv 4 rfl (vL 0 ty73) (dv 5 rfl (v_lookT2 (enc := kForest_span) (eq := qForest_span) (k := x_) (m := v_.counts) 3 Try.underlying88 kt73 zero3 rfl rfl rfl) (dv 6 rfl vM (dv 7 rfl vX (dv 8 rfl vX (dv 9 rfl vA (dv 10 rfl vA ?_)))))))))))))))
 refine d_done_seq (by kernel_rfl) (cR (oV vM (o_seq ?_)))
 refine cC hF (fun hF => ?_) (fun hF => ?_)
 refine cR (oV vM (oV vA (o_seq (c_ret ?_))))
 cases hF
 refine s_ret1 rfl (r_tmp rfl) fun a w hs => fin_sel hs [1, 1, 1, 1] ⟨rfl, rfl, rfl⟩ rfl sub_nil
 refine c_skip (sat_wc (cR (oV vA (o_seq (c_seq (c_seq (ite_some hF ?_)))))))
 intro h3 hF
 refine c_elem (xs := v_.by_) (enc := (eSl 1 eI64)) 2 rfl h3 rfl rfl fun A4 L4 C4 => c_draw (n := 10) [0, 0, 0, 0, 0] mixed rfl rfl (dv 0 rfl vM (dv 1 rfl vC (dv 2 rfl (vF 4) (dv 3 rfl (vL 1 ty87) (dv 4 rfl (vF 0) ?_)))))
 refine dv 5 rfl (vL 0 ty3) (dv 6 rfl (v_indexAddr_s (xs := v_.by_) (enc := (eSl 1 eI64)) sl87 rfl rfl (.f 4 rfl) h3) (dv 7 rfl (v_load_cl 0 ty59 rfl rfl rfl rfl rfl) (dv 8 rfl (v_lenS (enc := eI64) (at_ v_.by_ x_.nt) sl59 rfl (.f 1 rfl)) (dv 9 rfl vM (d_done_seq (by kernel_rfl) ?_)))))
 obtain ⟨o1, ho1, hF⟩ := bd hF
 refine c_cut (fun E N' => Sat E [(0, pt b), (1, .agg (vForest_span x_).toArray), (3, pt b1), (4, iI 0), (5, iI ((tget qForest_span x_ v_.counts).getD 0)), (6, bV ((tget qForest_span x_ v_.counts).isSome)), (7, iI o1.1), (35, sl A4 L4 C4)] [.box b1 73 (vForest_span x_), .box b 91 [iI v_.g.Nts, iI v_.g.Start, sl A1 L1 C1, sl A2 L2 C2, sl A3 L3 C3, .map (some gb), .map (some gb1), .map (some gb2)], .mp gb (mEnc kForest_span (tenc o1.2.1)), .mp gb1 (mEnc kForest_span (tenc o1.2.2.1)), .mp gb2 (mEnc kForest_part (tenc o1.2.2.2))] [fS A4 L4 C4 1 eI64 (at_ v_.by_ x_.nt), fS A1 L1 C1 2 eRule v_.g.Rules, fS A2 L2 C2 1 eU8 v_.w_, fS A3 L3 C3 1 (eSl 1 eI64) v_.by_] N') (fun N1 hN1 => ?_) ?_
 refine c_block ?_
 refine c_loopE (fun E j a w => ∃ (n : Int) (t37 : Int) (v_1 : List (Forest_span × Int)) (v_2 : List (Forest_span × Int)) (v_3 : List (Forest_part × Int)), F.forest.grove_count_l1 v_ x_ g39 j n t37 v_1 v_2 v_3 = some o1 ∧ St E [(0, pt b), (1, .agg (vForest_span x_).toArray), (3, pt b1), (4, iI 0), (5, iI ((tget qForest_span x_ v_.counts).getD 0)), (6, bV ((tget qForest_span x_ v_.counts).isSome)), (7, iI n), (35, sl A4 L4 C4), (36, iI ((at_ v_.by_ x_.nt).length : Int)), (37, iI t37)] [.box b1 73 (vForest_span x_), .box b 91 [iI v_.g.Nts, iI v_.g.Start, sl A1 L1 C1, sl A2 L2 C2, sl A3 L3 C3, .map (some gb), .map (some gb1), .map (some gb2)], .mp gb (mEnc kForest_span (tenc v_1)), .mp gb1 (mEnc kForest_span (tenc v_2)), .mp gb2 (mEnc kForest_part (tenc v_3))] [fS A4 L4 C4 1 eI64 (at_ v_.by_ x_.nt), fS A1 L1 C1 2 eRule v_.g.Rules, fS A2 L2 C2 1 eU8 v_.w_, fS A3 L3 C3 1 (eSl 1 eI64) v_.by_] a w) k ?_ ?_
 exact lq [0, 0, 0, 0, 0] [1, 2, 3, 4] fun a w hs => ⟨0, 0, v_.whole, v_.counts, v_.rows, ho1, hs⟩
 rintro j a w ⟨n, t37, v_1, v_2, v_3, hL1, hs⟩
 rcases j with _ | j
 cases hL1
 refine wc_app hs ?_
 unfold F.forest.grove_count_l1 at hL1
 refine cR (oV vB (o_seq (c_seq ?_)))
 refine cC hL1 (fun hL1 => ?_) (fun hL1 => ?_)
 refine c_skip (sat_wc (c_seq (c_block (cR (ite_some hL1 fun h5 hL1 => oV (v_indexAddr_s (xs := at_ v_.by_ x_.nt) (enc := eI64) sl59 rfl rfl (.f 0 rfl) h5) (oV (v_load_s (xs := at_ v_.by_ x_.nt) (enc := eI64) ty3 rfl (.f 0 rfl) h5 rfl rfl rfl rfl rfl rfl rfl) (oV vA (o_seq (ite_some hL1 ?_)))))))))
 intro h6 hL1
 refine c_elem (xs := v_.g.Rules) (enc := eRule) 1 rfl h6 rfl rfl fun A5 L5 C5 => c_draw (n := 21) [0] mixed rfl rfl (dv 0 rfl vM (dv 1 rfl vM ?_))
 refine dv 2 rfl vM (dv 3 rfl vM (dv 4 rfl vC (dv 5 rfl (vF 0) (dv 6 rfl (vF 2) (dv 8 rfl vM (dv 13 rfl (vF 1) (dv 14 rfl (vL 0 ty3) (dv 15 rfl (vF 2) (dv 16 rfl (vL 0 ty3) (dO 7 rfl (oV (vL 1 ty22) (dN [0] 0 (dv 9 rfl (v_indexAddr_s (xs := v_.g.Rules) (enc := eRule) sl22 rfl rfl (.f 3 rfl) h6) (dv 10 rfl (v_fieldAddr (v := .pointer (some ⟨blkA A1, offA A1 + (Int.toNat (at_ (at_ v_.by_ x_.nt) t37) * 2 + 1), none⟩)) rfl (fun _ => by kernel_rfl)) (dv 11 rfl (v_load_cl 0 ty48 rfl rfl rfl rfl rfl) ?_)))))))))))))))
 refine dv 12 rfl (v_lenS (enc := eKSym) ((at_ v_.g.Rules (at_ (at_ v_.by_ x_.nt) t37)).Rhs) sl48 rfl (.f 1 rfl)) (dv 17 rfl (v_build (v := .agg #[iI (at_ (at_ v_.by_ x_.nt) t37), iI (((at_ v_.g.Rules (at_ (at_ v_.by_ x_.nt) t37)).Rhs).length : Int), iI x_.from_, iI x_.to]) rfl (fun _ => by kernel_rfl)) (dO 18 rfl ?_))
 obtain ⟨v_4, h7, hL1⟩ := bd hL1
 refine ocl [1, 1, 1, 1] call39 rfl rfl (subs [3, 4, 5] rfl) (hg39 h7 :) ?_
 rintro _ _ _ ⟨rfl, rfl, rfl⟩
 refine dN [4] 0 (dO 19 rfl ?_)
 obtain ⟨v_5, h8, hL1⟩ := bd hL1
 refine o_callSB call55 rfl lent_nil (tri55 h8 :) rfl (dN [4] 0 (dv 20 rfl vA (dD (sat_wc (c_region (oV vB (oV vM (o_nil ?_))))))))
 exact lp [4, 0, 0, 0, 0] [2, 3, 4, 5] fun a w hs => ⟨v_5, IntKind.wrap .i64 (t37 + 1), v_4.2.whole, v_4.2.counts, v_4.2.rows, hL1, hs⟩
 refine c_exit0 ?_
 cases hL1
 exact sK [0, 0, 0, 0, 0] [0, 1, 2, 3] (hN1)
 refine sat_wc (c_seq (c_draw (n := 7) [0, 0, 0, 1] mixed rfl rfl (dv 0 rfl vM (dv 1 rfl vC (dv 2 rfl (vF 6) (dv 3 rfl (vL 1 ty88) (dv 4 rfl (vL 0 ty73) (dv 5 rfl vM (dO 6 rfl (o_updateT (enc := kForest_span) (eq := qForest_span) (k := x_) (m := o1.2.2.1) 3 Try.underlying88 kt73 rfl rfl rfl rfl (dN [0, 0, 0, 1] 0 (d_done_seq (by kernel_rfl) (cR (oV vM ?_))))))))))))))
 refine oV vA (o_seq (c_ret ?_))
 cases hF
 refine s_ret1 rfl (r_tmp rfl) fun a w hs => fin_sel hs [1, 1, 1, 1] ⟨rfl, rfl, rfl⟩ rfl sub_nil
theorem tri39_B (k : Nat) (g32 : Forest_grove → Forest_span → Option (Int × Forest_grove))
    (hg32 : ∀ {v_ : Forest_grove} {x_ : Forest_span} {b : Nat} {A1 : OA} {L1 C1 : Nat} {A2 : OA} {L2 C2 : Nat} {A3 : OA} {L3 C3 : Nat} {gb : Nat} {gb1 : Nat} {gb2 : Nat} {r : Int × Forest_grove}, g32 v_ x_ = some r → Tri Try.prog 32 [pt b, .agg (vForest_span x_).toArray] [.box b 91 [iI v_.g.Nts, iI v_.g.Start, sl A1 L1 C1, sl A2 L2 C2, sl A3 L3 C3, .map (some gb), .map (some gb1), .map (some gb2)], .mp gb (mEnc kForest_span (tenc v_.whole)), .mp gb1 (mEnc kForest_span (tenc v_.counts)), .mp gb2 (mEnc kForest_part (tenc v_.rows))] [fS A1 L1 C1 2 eRule v_.g.Rules, fS A2 L2 C2 1 eU8 v_.w_, fS A3 L3 C3 1 (eSl 1 eI64) v_.by_] (fun o H Φ => o = .ret (iI r.1) ∧ H = [.box b 91 [iI v_.g.Nts, iI v_.g.Start, sl A1 L1 C1, sl A2 L2 C2, sl A3 L3 C3, .map (some gb), .map (some gb1), .map (some gb2)], .mp gb (mEnc kForest_span (tenc r.2.whole)), .mp gb1 (mEnc kForest_span (tenc r.2.counts)), .mp gb2 (mEnc kForest_part (tenc r.2.rows))] ∧ Φ = [])) (g39 : Forest_grove → Forest_part → Option (Int × Forest_grove))
    (hg39 : ∀ {v_ : Forest_grove} {x_ : Forest_part} {b : Nat} {A1 : OA} {L1 C1 : Nat} {A2 : OA} {L2 C2 : Nat} {A3 : OA} {L3 C3 : Nat} {gb : Nat} {gb1 : Nat} {gb2 : Nat} {r : Int × Forest_grove}, g39 v_ x_ = some r → Tri Try.prog 39 [pt b, .agg (vForest_part x_).toArray] [.box b 91 [iI v_.g.Nts, iI v_.g.Start, sl A1 L1 C1, sl A2 L2 C2, sl A3 L3 C3, .map (some gb), .map (some gb1), .map (some gb2)], .mp gb (mEnc kForest_span (tenc v_.whole)), .mp gb1 (mEnc kForest_span (tenc v_.counts)), .mp gb2 (mEnc kForest_part (tenc v_.rows))] [fS A1 L1 C1 2 eRule v_.g.Rules, fS A2 L2 C2 1 eU8 v_.w_, fS A3 L3 C3 1 (eSl 1 eI64) v_.by_] (fun o H Φ => o = .ret (iI r.1) ∧ H = [.box b 91 [iI v_.g.Nts, iI v_.g.Start, sl A1 L1 C1, sl A2 L2 C2, sl A3 L3 C3, .map (some gb), .map (some gb1), .map (some gb2)], .mp gb (mEnc kForest_span (tenc r.2.whole)), .mp gb1 (mEnc kForest_span (tenc r.2.counts)), .mp gb2 (mEnc kForest_part (tenc r.2.rows))] ∧ Φ = [])) {v_ : Forest_grove} {x_ : Forest_part} {b : Nat} {A1 : OA} {L1 C1 : Nat} {A2 : OA} {L2 C2 : Nat} {A3 : OA} {L3 C3 : Nat} {gb : Nat} {gb1 : Nat} {gb2 : Nat} {r : Int × Forest_grove} (hF : F.forest.grove_row_B k g32 g39 v_ x_ = some r) :
    Tri Try.prog 39 [pt b, .agg (vForest_part x_).toArray] [.box b 91 [iI v_.g.Nts, iI v_.g.Start, sl A1 L1 C1, sl A2 L2 C2, sl A3 L3 C3, .map (some gb), .map (some gb1), .map (some gb2)], .mp gb (mEnc kForest_span (tenc v_.whole)), .mp gb1 (mEnc kForest_span (tenc v_.counts)), .mp gb2 (mEnc kForest_part (tenc v_.rows))] [fS A1 L1 C1 2 eRule v_.g.Rules, fS A2 L2 C2 1 eU8 v_.w_, fS A3 L3 C3 1 (eSl 1 eI64) v_.by_] (fun o H Φ => o = .ret (iI r.1) ∧ H = [.box b 91 [iI v_.g.Nts, iI v_.g.Start, sl A1 L1 C1, sl A2 L2 C2, sl A3 L3 C3, .map (some gb), .map (some gb1), .map (some gb2)], .mp gb (mEnc kForest_span (tenc r.2.whole)), .mp gb1 (mEnc kForest_span (tenc r.2.counts)), .mp gb2 (mEnc kForest_part (tenc r.2.rows))] ∧ Φ = []) := by
 unfold F.forest.grove_row_B at hF
 refine tri_intro (n := 97) Try.func39 rfl Try.ntmps39 rfl fun w X => cR (o_box rfl rfl rfl fun b1 => oV vA (o_seq (c_seq (cR ((fD 1) (oV (vL 0 ty3) (oV vB (o_seq ?_))))))))
 refine cC hF (fun hF => ?_) (fun hF => ?_)
 refine c_seq (cR ((fD 2) (oV (vL 0 ty3) ((fD 3) (oV (vL 0 ty3) (oV vB (o_seq ?_)))))))
 refine cC hF (fun hF => ?_) (fun hF => ?_)
 refine cR (oV vA (o_seq (c_ret ?_)))
 cases hF
 refine s_ret1 rfl (r_tmp rfl) fun a w hs => fin_sel hs [1, 1, 1, 1] ⟨rfl, rfl, rfl⟩ rfl sub_nil
 refine c_skip (sat_wc (cR (oV vA (o_seq (c_ret ?_)))))
 cases hF
 refine s_ret1 rfl (r_tmp rfl) fun a w hs => fin_sel hs [1, 1, 1, 1] ⟨rfl, rfl, rfl⟩ rfl sub_nil
 refine c_skip (sat_wc (c_seq (c_seq (c_draw (n := 11) [0, 0, 0, 0, 0] mixed rfl rfl (dv 0 rfl vM (dv 1 rfl vC (dv 2 rfl (vF 7) (dv 3 rfl (vL 1 ty89) (dv 4 rfl (vL 0 ty85) (dv 5 rfl (v_lookT2 (enc := kForest_part) (eq := qForest_part) (k := x_) (m := v_.rows) 4 Try.underlying89 kt85 zero3 rfl rfl rfl) (dv 6 rfl vM (dv 7 rfl vX (dv 8 rfl vX (dv 9 rfl vA (dv 10 rfl vA ?_)))))))))))))))
 refine d_done_seq (by kernel_rfl) (cR (oV vM (o_seq ?_)))
 refine cC hF (fun hF => ?_) (fun hF => ?_)
 refine cR (oV vM (oV vA (o_seq (c_ret ?_))))
 cases hF
 refine s_ret1 rfl (r_tmp rfl) fun a w hs => fin_sel hs [1, 1, 1, 1] ⟨rfl, rfl, rfl⟩ rfl sub_nil
 refine c_skip (sat_wc (cR (oV vA (o_seq (c_seq (ite_some hF ?_))))))
 intro h4 hF
 refine c_elem (xs := v_.g.Rules) (enc := eRule) 0 rfl h4 rfl rfl fun A4 L4 C4 => c_draw (n := 17) [0, 0, 0, 0, 0] mixed rfl rfl (dv 0 rfl vM (dv 1 rfl vC (dv 2 rfl (vF 0) (dv 3 rfl (vF 2) (dv 4 rfl (vL 1 ty22) (dv 5 rfl (vF 0) ?_))))))
 refine dv 6 rfl (vL 0 ty3) (dv 7 rfl (v_indexAddr_s (xs := v_.g.Rules) (enc := eRule) sl22 rfl rfl (.f 2 rfl) h4) (dv 8 rfl (v_fieldAddr (v := .pointer (some ⟨blkA A1, offA A1 + (Int.toNat x_.rule * 2 + 1), none⟩)) rfl (fun _ => by kernel_rfl)) (dv 9 rfl (v_load_cl 0 ty48 rfl rfl rfl rfl rfl) (dv 10 rfl (vF 1) (dv 11 rfl (vL 0 ty3) (dv 12 rfl vB (ite_some hF ?_)))))))
 intro h5 hF
 refine dv 13 rfl (v_indexAddr_s (xs := (at_ v_.g.Rules x_.rule).Rhs) (enc := eKSym) sl48 rfl rfl (.f 1 rfl) h5) (dv 14 rfl (v_load_s (xs := (at_ v_.g.Rules x_.rule).Rhs) (enc := eKSym) ty47 rfl (.f 1 rfl) h5 rfl rfl rfl rfl rfl rfl rfl) (dO 15 rfl (o_alloc zero47 rfl rfl ?_)))
 intro b2
 refine dN [1, 1, 1, 1, 1] 0 (dO 16 rfl ((sT 0 ty47) (dN [1, 1, 1, 1, 1] 0 ?_)))
 refine d_done_seq (by kernel_rfl) (c_seq (cR ((fD 2) (oV (vL 1 ty3) (oV vA (o_seq ?_))))))
 obtain ⟨o1, ho1, hF⟩ := bd hF
 refine c_cut (fun E N' => Sat E [(0, pt b), (1, .agg (vForest_part x_).toArray), (3, pt b1), (4, iI 0), (5, iI ((tget qForest_part x_ v_.rows).getD 0)), (6, bV ((tget qForest_part x_ v_.rows).isSome)), (7, iI o1.1), (8, pt b2)] [.box b2 47 [iI ((at_ ((at_ v_.g.Rules x_.rule).Rhs) (IntKind.wrap .i64 (x_.dot - 1))).Nt), iU ((at_ ((at_ v_.g.Rules x_.rule).Rhs) (IntKind.wrap .i64 (x_.dot - 1))).Set.w0), iU ((at_ ((at_ v_.g.Rules x_.rule).Rhs) (IntKind.wrap .i64 (x_.dot - 1))).Set.w1), iU ((at_ ((at_ v_.g.Rules x_.rule).Rhs) (IntKind.wrap .i64 (x_.dot - 1))).Set.w2), iU ((at_ ((at_ v_.g.Rules x_.rule).Rhs) (IntKind.wrap .i64 (x_.dot - 1))).Set.w3)], .box b1 85 (vForest_part x_), .box b 91 [iI v_.g.Nts, iI v_.g.Start, sl A1 L1 C1, sl A2 L2 C2, sl A3 L3 C3, .map (some gb), .map (some gb1), .map (some gb2)], .mp gb (mEnc kForest_span (tenc o1.2.1)), .mp gb1 (mEnc kForest_span (tenc o1.2.2.1)), .mp gb2 (mEnc kForest_part (tenc o1.2.2.2))] [fS A1 L1 C1 2 eRule v_.g.Rules, fS A2 L2 C2 1 eU8 v_.w_, fS A3 L3 C3 1 (eSl 1 eI64) v_.by_] N') (fun N1 hN1 => ?_) ?_
 refine c_block ?_
 refine c_loopE (fun E j a w => ∃ (n : Int) (m : Int) (v_1 : List (Forest_span × Int)) (v_2 : List (Forest_span × Int)) (v_3 : List (Forest_part × Int)), F.forest.grove_row_l1 x_ v_ g39 g32 j n m v_1 v_2 v_3 = some o1 ∧ St E [(0, pt b), (1, .agg (vForest_part x_).toArray), (3, pt b1), (4, iI 0), (5, iI ((tget qForest_part x_ v_.rows).getD 0)), (6, bV ((tget qForest_part x_ v_.rows).isSome)), (7, iI n), (8, pt b2), (9, iI m)] [.box b2 47 [iI ((at_ ((at_ v_.g.Rules x_.rule).Rhs) (IntKind.wrap .i64 (x_.dot - 1))).Nt), iU ((at_ ((at_ v_.g.Rules x_.rule).Rhs) (IntKind.wrap .i64 (x_.dot - 1))).Set.w0), iU ((at_ ((at_ v_.g.Rules x_.rule).Rhs) (IntKind.wrap .i64 (x_.dot - 1))).Set.w1), iU ((at_ ((at_ v_.g.Rules x_.rule).Rhs) (IntKind.wrap .i64 (x_.dot - 1))).Set.w2), iU ((at_ ((at_ v_.g.Rules x_.rule).Rhs) (IntKind.wrap .i64 (x_.dot - 1))).Set.w3)], .box b1 85 (vForest_part x_), .box b 91 [iI v_.g.Nts, iI v_.g.Start, sl A1 L1 C1, sl A2 L2 C2, sl A3 L3 C3, .map (some gb), .map (some gb1), .map (some gb2)], .mp gb (mEnc kForest_span (tenc v_1)), .mp gb1 (mEnc kForest_span (tenc v_2)), .mp gb2 (mEnc kForest_part (tenc v_3))] [fS A1 L1 C1 2 eRule v_.g.Rules, fS A2 L2 C2 1 eU8 v_.w_, fS A3 L3 C3 1 (eSl 1 eI64) v_.by_] a w) k ?_ ?_
 exact lq [0, 0, 0, 0, 0, 0] [2, 3, 4] fun a w hs => ⟨0, x_.from_, v_.whole, v_.counts, v_.rows, ho1, hs⟩
 rintro j a w ⟨n, m, v_1, v_2, v_3, hL1, hs⟩
 rcases j with _ | j
 cases hL1
 refine wc_app hs ?_
 unfold F.forest.grove_row_l1 at hL1
 refine c_seq (cR (oV vM ((fD 3) (oV (vL 1 ty3) (oV vB (o_seq ?_))))))
 refine cC hL1 (fun hL1 => ?_) (fun hL1 => ?_)
 refine c_skip (sat_wc (c_seq ?_))
 refine cT (fun E H Φ N' => ∀ (n1 : Int) (v_4 : List (Forest_span × Int)) (v_5 : List (Forest_span × Int)) (v_6 : List (Forest_part × Int)), F.forest.grove_row_j2 (F.forest.grove_row_l1 x_ v_ g39 g32 j) m n1 v_4 v_5 v_6 = some o1 → Sat E [(0, pt b), (1, .agg (vForest_part x_).toArray), (3, pt b1), (4, iI 0), (5, iI ((tget qForest_part x_ v_.rows).getD 0)), (6, bV ((tget qForest_part x_ v_.rows).isSome)), (7, iI n1), (8, pt b2), (9, iI m)] [.box b 91 [iI v_.g.Nts, iI v_.g.Start, sl A1 L1 C1, sl A2 L2 C2, sl A3 L3 C3, .map (some gb), .map (some gb1), .map (some gb2)], .mp gb (mEnc kForest_span (tenc v_4)), .mp gb1 (mEnc kForest_span (tenc v_5)), .mp gb2 (mEnc kForest_part (tenc v_6)), .box b2 47 [iI ((at_ ((at_ v_.g.Rules x_.rule).Rhs) (IntKind.wrap .i64 (x_.dot - 1))).Nt), iU ((at_ ((at_ v_.g.Rules x_.rule).Rhs) (IntKind.wrap .i64 (x_.dot - 1))).Set.w0), iU ((at_ ((at_ v_.g.Rules x_.rule).Rhs) (IntKind.wrap .i64 (x_.dot - 1))).Set.w1), iU ((at_ ((at_ v_.g.Rules x_.rule).Rhs) (IntKind.wrap .i64 (x_.dot - 1))).Set.w2), iU ((at_ ((at_ v_.g.Rules x_.rule).Rhs) (IntKind.wrap .i64 (x_.dot - 1))).Set.w3)], .box b1 85 (vForest_part x_)] Φ N') (fun N2 hN2 => ?_) ?_
 refine c_block (c_seq (cR (oV vM (oV (vL 0 ty47) (oV vM ((fD 3) (oV (vL 1 ty3) ?_)))))))
 obtain ⟨v_7, h7, hL1⟩ := bd hL1
 refine ocl [2, 2, 2, 2] call38 rfl rfl (subs [0, 1, 2] rfl) (tri38 h7 :) ?_
 rintro _ _ _ ⟨rfl, rfl, rfl⟩
 refine o_H [.box b 91 [iI v_.g.Nts, iI v_.g.Start, sl A1 L1 C1, sl A2 L2 C2, sl A3 L3 C3, .map (some gb), .map (some gb1), .map (some gb2)], .mp gb (mEnc kForest_span (tenc v_1)), .mp gb1 (mEnc kForest_span (tenc v_2)), .mp gb2 (mEnc kForest_part (tenc v_3)), .box b2 47 [iI ((at_ ((at_ v_.g.Rules x_.rule).Rhs) (IntKind.wrap .i64 (x_.dot - 1))).Nt), iU ((at_ ((at_ v_.g.Rules x_.rule).Rhs) (IntKind.wrap .i64 (x_.dot - 1))).Set.w0), iU ((at_ ((at_ v_.g.Rules x_.rule).Rhs) (IntKind.wrap .i64 (x_.dot - 1))).Set.w1), iU ((at_ ((at_ v_.g.Rules x_.rule).Rhs) (IntKind.wrap .i64 (x_.dot - 1))).Set.w2), iU ((at_ ((at_ v_.g.Rules x_.rule).Rhs) (IntKind.wrap .i64 (x_.dot - 1))).Set.w3)], .box b1 85 (vForest_part x_)] rfl (oV vN (o_seq ?_))
 refine cC hL1 (fun hL1 => ?_) (fun hL1 => ?_)
 refine c_exit0 ?_
 exact sK [0, 0, 0, 0, 0, 0] [0, 1, 2] (hN2 n v_1 v_2 v_3 hL1)
 refine c_skip (sat_wc (cR (oV vM ((fD 0) (oV (vL 5 ty3) ((fD 1) (oV (vL 5 ty3) (oV vB ((fD 2) (oV (vL 5 ty3) (oV vM (oV (vU (.agg #[iI x_.rule, iI (IntKind.wrap .i64 (x_.dot - 1)), iI x_.from_, iI m])) ?_))))))))))))
 obtain ⟨v_8, h9, hL1⟩ := bd hL1
 refine ocl [0, 0, 0, 0] call39 rfl rfl (subs [0, 1, 2] rfl) (hg39 h9 :) ?_
 rintro _ _ _ ⟨rfl, rfl, rfl⟩
 refine o_H [.box b 91 [iI v_.g.Nts, iI v_.g.Start, sl A1 L1 C1, sl A2 L2 C2, sl A3 L3 C3, .map (some gb), .map (some gb1), .map (some gb2)], .mp gb (mEnc kForest_span (tenc v_8.2.whole)), .mp gb1 (mEnc kForest_span (tenc v_8.2.counts)), .mp gb2 (mEnc kForest_part (tenc v_8.2.rows)), .box b2 47 [iI ((at_ ((at_ v_.g.Rules x_.rule).Rhs) (IntKind.wrap .i64 (x_.dot - 1))).Nt), iU ((at_ ((at_ v_.g.Rules x_.rule).Rhs) (IntKind.wrap .i64 (x_.dot - 1))).Set.w0), iU ((at_ ((at_ v_.g.Rules x_.rule).Rhs) (IntKind.wrap .i64 (x_.dot - 1))).Set.w1), iU ((at_ ((at_ v_.g.Rules x_.rule).Rhs) (IntKind.wrap .i64 (x_.dot - 1))).Set.w2), iU ((at_ ((at_ v_.g.Rules x_.rule).Rhs) (IntKind.wrap .i64 (x_.dot - 1))).Set.w3)], .box b1 85 (vForest_part x_)] rfl (oV vA (o_seq (c_seq (cR (oV vM (oV vB (o_seq ?_)))))))
 refine cC hL1 (fun hL1 => ?_) (fun hL1 => ?_)
 refine c_exit0 ?_
 exact sK [0, 0, 0, 0, 0, 0] [0, 1, 2] (hN2 n v_8.2.whole v_8.2.counts v_8.2.rows hL1)
 refine c_skip (sat_wc (cR (oV vA (o_seq (c_seq (cR ((fD 0) (oV (vL 4 ty3) (oV vB (o_seq ?_))))))))))
 refine cT (fun E H Φ N' => ∀ (kid : Int) (v_9 : List (Forest_span × Int)) (v_10 : List (Forest_span × Int)) (v_11 : List (Forest_part × Int)), F.forest.grove_row_j3 v_8 n (F.forest.grove_row_l1 x_ v_ g39 g32 j) m kid v_9 v_10 v_11 = some o1 → Sat E [(0, pt b), (1, .agg (vForest_part x_).toArray), (3, pt b1), (4, iI 0), (5, iI ((tget qForest_part x_ v_.rows).getD 0)), (6, bV ((tget qForest_part x_ v_.rows).isSome)), (7, iI n), (8, pt b2), (9, iI m), (10, iI v_8.1), (11, iI kid)] [.box b 91 [iI v_.g.Nts, iI v_.g.Start, sl A1 L1 C1, sl A2 L2 C2, sl A3 L3 C3, .map (some gb), .map (some gb1), .map (some gb2)], .mp gb (mEnc kForest_span (tenc v_9)), .mp gb1 (mEnc kForest_span (tenc v_10)), .mp gb2 (mEnc kForest_part (tenc v_11)), .box b2 47 [iI ((at_ ((at_ v_.g.Rules x_.rule).Rhs) (IntKind.wrap .i64 (x_.dot - 1))).Nt), iU ((at_ ((at_ v_.g.Rules x_.rule).Rhs) (IntKind.wrap .i64 (x_.dot - 1))).Set.w0), iU ((at_ ((at_ v_.g.Rules x_.rule).Rhs) (IntKind.wrap .i64 (x_.dot - 1))).Set.w1), iU ((at_ ((at_ v_.g.Rules x_.rule).Rhs) (IntKind.wrap .i64 (x_.dot - 1))).Set.w2), iU ((at_ ((at_ v_.g.Rules x_.rule).Rhs) (IntKind.wrap .i64 (x_.dot - 1))).Set.w3)], .box b1 85 (vForest_part x_)] Φ N') (fun N3 hN3 => ?_) ?_
 refine cC hL1 (fun hL1 => ?_) (fun hL1 => ?_)
 refine c_region (oV vM ((fD 0) (oV (vL 4 ty3) (oV vM ((fD 3) (oV (vL 5 ty3) (oV (vU (.agg #[iI ((at_ ((at_ v_.g.Rules x_.rule).Rhs) (IntKind.wrap .i64 (x_.dot - 1))).Nt), iI m, iI x_.to])) ?_)))))))
 obtain ⟨v_14, h14, hL1⟩ := bd hL1
 refine ocl [0, 0, 0, 0] call32 rfl rfl (subs [0, 1, 2] rfl) (hg32 h14 :) ?_
 rintro _ _ _ ⟨rfl, rfl, rfl⟩
 refine o_H [.box b 91 [iI v_.g.Nts, iI v_.g.Start, sl A1 L1 C1, sl A2 L2 C2, sl A3 L3 C3, .map (some gb), .map (some gb1), .map (some gb2)], .mp gb (mEnc kForest_span (tenc v_14.2.whole)), .mp gb1 (mEnc kForest_span (tenc v_14.2.counts)), .mp gb2 (mEnc kForest_part (tenc v_14.2.rows)), .box b2 47 [iI ((at_ ((at_ v_.g.Rules x_.rule).Rhs) (IntKind.wrap .i64 (x_.dot - 1))).Nt), iU ((at_ ((at_ v_.g.Rules x_.rule).Rhs) (IntKind.wrap .i64 (x_.dot - 1))).Set.w0), iU ((at_ ((at_ v_.g.Rules x_.rule).Rhs) (IntKind.wrap .i64 (x_.dot - 1))).Set.w1), iU ((at_ ((at_ v_.g.Rules x_.rule).Rhs) (IntKind.wrap .i64 (x_.dot - 1))).Set.w2), iU ((at_ ((at_ v_.g.Rules x_.rule).Rhs) (IntKind.wrap .i64 (x_.dot - 1))).Set.w3)], .box b1 85 (vForest_part x_)] rfl (oV vA (o_nil ?_))
 exact sK [0, 0, 0, 0, 0, 0] [0, 1, 2] (hN3 v_14.1 v_14.2.whole v_14.2.counts v_14.2.rows hL1)
 refine c_skip ?_
 exact sK [0, 0, 0, 0, 0, 0] [0, 1, 2] (hN3 1 v_8.2.whole v_8.2.counts v_8.2.rows hL1)
 intro kid v_9 v_10 v_11 hL1
 unfold F.forest.grove_row_j3 at hL1
 refine sat_wc (c_region (oV vM (oV vM (oV vM ?_))))
 obtain ⟨v_12, h11, hL1⟩ := bd hL1
 refine o_callSB call63 rfl lent_nil (tri63 h11 :) rfl ?_
 obtain ⟨v_13, h12, hL1⟩ := bd hL1
 refine o_callSB call55 rfl lent_nil (tri55 h12 :) rfl (oV vA (o_nil ?_))
 exact sK [0, 0, 0, 0, 0, 0] [0, 1, 2] (hN2 v_13 v_9 v_10 v_11 hL1)
 intro n1 v_4 v_5 v_6 hL1
 unfold F.forest.grove_row_j2 at hL1
 refine sat_wc (c_region (oV vM (oV vB (oV vA (o_nil ?_)))))
 exact lp [4, 4, 0, 0, 0, 0] [0, 1, 2] fun a w hs => ⟨n1, IntKind.wrap .i64 (m + 1), v_4, v_5, v_6, hL1, hs⟩
 refine c_exit0 ?_
 cases hL1
 exact sK [0, 0, 0, 0, 0, 0] [0, 1, 2] (hN1)
 refine sat_wc (c_seq (c_draw (n := 7) [0, 0, 0, 0, 0] mixed rfl rfl (dv 0 rfl vM (dv 1 rfl vC (dv 2 rfl (vF 7) (dv 3 rfl (vL 2 ty89) (dv 4 rfl (vL 1 ty85) (dv 5 rfl vM (dO 6 rfl (o_updateT (enc := kForest_part) (eq := qForest_part) (k := x_) (m := o1.2.2.2) 5 Try.underlying89 kt85 rfl rfl rfl rfl (dN [0, 0, 0, 0, 0] 0 (d_done_seq (by kernel_rfl) (cR (oV vM ?_))))))))))))))
 refine oV vA (o_seq (c_ret ?_))
 cases hF
 refine s_ret1 rfl (r_tmp rfl) fun a w hs => fin_sel hs [2, 2, 2, 2] ⟨rfl, rfl, rfl⟩ rfl sub_nil
theorem tri32_G (k : Nat) : (∀ {v_ : Forest_grove} {x_ : Forest_span} {b : Nat} {A1 : OA} {L1 C1 : Nat} {A2 : OA} {L2 C2 : Nat} {A3 : OA} {L3 C3 : Nat} {gb : Nat} {gb1 : Nat} {gb2 : Nat} {r : Int × Forest_grove}, F.forest.grove_count k v_ x_ = some r → Tri Try.prog 32 [pt b, .agg (vForest_span x_).toArray] [.box b 91 [iI v_.g.Nts, iI v_.g.Start, sl A1 L1 C1, sl A2 L2 C2, sl A3 L3 C3, .map (some gb), .map (some gb1), .map (some gb2)], .mp gb (mEnc kForest_span (tenc v_.whole)), .mp gb1 (mEnc kForest_span (tenc v_.counts)), .mp gb2 (mEnc kForest_part (tenc v_.rows))] [fS A1 L1 C1 2 eRule v_.g.Rules, fS A2 L2 C2 1 eU8 v_.w_, fS A3 L3 C3 1 (eSl 1 eI64) v_.by_] (fun o H Φ => o = .ret (iI r.1) ∧ H = [.box b 91 [iI v_.g.Nts, iI v_.g.Start, sl A1 L1 C1, sl A2 L2 C2, sl A3 L3 C3, .map (some gb), .map (some gb1), .map (some gb2)], .mp gb (mEnc kForest_span (tenc r.2.whole)), .mp gb1 (mEnc kForest_span (tenc r.2.counts)), .mp gb2 (mEnc kForest_part (tenc r.2.rows))] ∧ Φ = [])) ∧ (∀ {v_ : Forest_grove} {x_ : Forest_part} {b : Nat} {A1 : OA} {L1 C1 : Nat} {A2 : OA} {L2 C2 : Nat} {A3 : OA} {L3 C3 : Nat} {gb : Nat} {gb1 : Nat} {gb2 : Nat} {r : Int × Forest_grove}, F.forest.grove_row k v_ x_ = some r → Tri Try.prog 39 [pt b, .agg (vForest_part x_).toArray] [.box b 91 [iI v_.g.Nts, iI v_.g.Start, sl A1 L1 C1, sl A2 L2 C2, sl A3 L3 C3, .map (some gb), .map (some gb1), .map (some gb2)], .mp gb (mEnc kForest_span (tenc v_.whole)), .mp gb1 (mEnc kForest_span (tenc v_.counts)), .mp gb2 (mEnc kForest_part (tenc v_.rows))] [fS A1 L1 C1 2 eRule v_.g.Rules, fS A2 L2 C2 1 eU8 v_.w_, fS A3 L3 C3 1 (eSl 1 eI64) v_.by_] (fun o H Φ => o = .ret (iI r.1) ∧ H = [.box b 91 [iI v_.g.Nts, iI v_.g.Start, sl A1 L1 C1, sl A2 L2 C2, sl A3 L3 C3, .map (some gb), .map (some gb1), .map (some gb2)], .mp gb (mEnc kForest_span (tenc r.2.whole)), .mp gb1 (mEnc kForest_span (tenc r.2.counts)), .mp gb2 (mEnc kForest_part (tenc r.2.rows))] ∧ Φ = [])) := by
 induction k with
 | zero => exact ⟨(fun h => nomatch (show none = some _ from h)), (fun h => nomatch (show none = some _ from h))⟩
 | succ k ih => exact ⟨tri32_B k _ ih.2, tri39_B k _ ih.1 _ ih.2⟩
theorem tri32 {k : Nat} {v_ : Forest_grove} {x_ : Forest_span} {b : Nat} {A1 : OA} {L1 C1 : Nat} {A2 : OA} {L2 C2 : Nat} {A3 : OA} {L3 C3 : Nat} {gb : Nat} {gb1 : Nat} {gb2 : Nat} {r : Int × Forest_grove} (hF : F.forest.grove_count k v_ x_ = some r) :
    Tri Try.prog 32 [pt b, .agg (vForest_span x_).toArray] [.box b 91 [iI v_.g.Nts, iI v_.g.Start, sl A1 L1 C1, sl A2 L2 C2, sl A3 L3 C3, .map (some gb), .map (some gb1), .map (some gb2)], .mp gb (mEnc kForest_span (tenc v_.whole)), .mp gb1 (mEnc kForest_span (tenc v_.counts)), .mp gb2 (mEnc kForest_part (tenc v_.rows))] [fS A1 L1 C1 2 eRule v_.g.Rules, fS A2 L2 C2 1 eU8 v_.w_, fS A3 L3 C3 1 (eSl 1 eI64) v_.by_] (fun o H Φ => o = .ret (iI r.1) ∧ H = [.box b 91 [iI v_.g.Nts, iI v_.g.Start, sl A1 L1 C1, sl A2 L2 C2, sl A3 L3 C3, .map (some gb), .map (some gb1), .map (some gb2)], .mp gb (mEnc kForest_span (tenc r.2.whole)), .mp gb1 (mEnc kForest_span (tenc r.2.counts)), .mp gb2 (mEnc kForest_part (tenc r.2.rows))] ∧ Φ = []) := (tri32_G k).1 hF
theorem tri39 {k : Nat} {v_ : Forest_grove} {x_ : Forest_part} {b : Nat} {A1 : OA} {L1 C1 : Nat} {A2 : OA} {L2 C2 : Nat} {A3 : OA} {L3 C3 : Nat} {gb : Nat} {gb1 : Nat} {gb2 : Nat} {r : Int × Forest_grove} (hF : F.forest.grove_row k v_ x_ = some r) :
    Tri Try.prog 39 [pt b, .agg (vForest_part x_).toArray] [.box b 91 [iI v_.g.Nts, iI v_.g.Start, sl A1 L1 C1, sl A2 L2 C2, sl A3 L3 C3, .map (some gb), .map (some gb1), .map (some gb2)], .mp gb (mEnc kForest_span (tenc v_.whole)), .mp gb1 (mEnc kForest_span (tenc v_.counts)), .mp gb2 (mEnc kForest_part (tenc v_.rows))] [fS A1 L1 C1 2 eRule v_.g.Rules, fS A2 L2 C2 1 eU8 v_.w_, fS A3 L3 C3 1 (eSl 1 eI64) v_.by_] (fun o H Φ => o = .ret (iI r.1) ∧ H = [.box b 91 [iI v_.g.Nts, iI v_.g.Start, sl A1 L1 C1, sl A2 L2 C2, sl A3 L3 C3, .map (some gb), .map (some gb1), .map (some gb2)], .mp gb (mEnc kForest_span (tenc r.2.whole)), .mp gb1 (mEnc kForest_span (tenc r.2.counts)), .mp gb2 (mEnc kForest_part (tenc r.2.rows))] ∧ Φ = []) := (tri32_G k).2 hF
theorem tri13 {k : Nat} {g_ : Gram} {w__ : List Int} {r : Int × Int} (hF : F.forest.Count k g_ w__ = some r) :
    Tri Try.prog 13 [.agg (vGram g_ A1 L1 C1).toArray, sl A2 L2 C2] [] [fS A1 L1 C1 2 eRule g_.Rules, fS A2 L2 C2 1 eU8 w__] (oR (.tuple #[iI r.1, iI r.2])) := by
 unfold F.forest.Count at hF
 refine tri_intro (n := 22) Try.func13 rfl Try.ntmps13 rfl fun w X => cR (o_box rfl rfl rfl fun b => oV vA (oV vA (o_seq (c_seq (cR (oV (vL 0 ty24) (oV vM ?_)))))))
 obtain ⟨v_, h1, hF⟩ := bd hF
 refine o_callSB call30 rfl (lent_f 0 rfl (lent_f 1 rfl lent_nil)) (tri30 h1 :) rfl (oV vA (o_seq (cR (oV vM (oV vB (o_seq ?_))))))
 refine cC hF (fun hF => ?_) (fun hF => ?_)
 refine cR (oV vM (oV vA (oV vA (o_seq (c_ret ?_)))))
 cases hF
 refine s_ret2 rfl (r_tmp rfl) (r_tmp rfl) fun a w hs => fin_sel hs [] ⟨rfl, rfl, rfl⟩ rfl sub_nil
 refine c_skip (sat_wc (c_seq (c_draw (n := 11) [0] mixed rfl rfl (dv 0 rfl (vL 0 ty24) (dv 1 rfl vM (dv 3 rfl (vF 1) (dv 4 rfl (vL 0 ty3) (dv 5 rfl vM (dv 6 rfl (v_lenS (enc := eU8) w__ sl25 rfl (.f 1 rfl)) (dv 7 rfl (v_build (v := .agg #[iI g_.Start, iI 0, iI (w__.length : Int)]) rfl (fun _ => by kernel_rfl)) (dO 2 rfl ?_)))))))))))
 obtain ⟨v_1, h3, hF⟩ := bd hF
 refine o_call0 call31 rfl (subs [0, 1] rfl) (tri31 h3 :) rfl ?_
 rintro _ _ _ ⟨gb, A3, L3, C3, A4, L4, C4, A5, L5, C5, gb1, gb2, gb3, rfl, rfl, rfl⟩
 refine dN [4] 3 (dO 8 rfl ?_)
 obtain ⟨v_2, h4, hF⟩ := bd hF
 refine ocl [0, 0, 0, 0] call32 rfl rfl (subs [0, 1, 2] rfl) (tri32 h4 :) ?_
 rintro _ _ _ ⟨rfl, rfl, rfl⟩
 refine dN [4] 3 (dv 9 rfl vA (dv 10 rfl vA (d_done_seq (by kernel_rfl) (c_ret ?_))))
 cases hF
 refine s_ret2 rfl (r_tmp rfl) (r_tmp rfl) fun a w hs => fin_sel hs [] ⟨rfl, rfl, rfl⟩ rfl sub_nil
theorem tri40_B (k : Nat) (g41 : Tree → Option Tree)
    (hg41 : ∀ {t : Tree} {A1 : OA} {L1 C1 : Nat} {r : Tree}, g41 t = some r → Tri Try.prog 41 [.agg (vTree t A1 L1 C1).toArray] [] [fS A1 L1 C1 3 eTree t.Kids] (fun o H Φ => ∃ (A3 : OA) (L3 C3 : Nat), o = .ret (.agg (vTree r A3 L3 C3).toArray) ∧ H = [] ∧ Φ = [fS A3 L3 C3 3 eTree r.Kids])) {l_ : List Tree} {A1 : OA} {L1 C1 : Nat} {r : List Tree} (hF : F.forest.clone_B k g41 l_ = some r) :
    Tri Try.prog 40 [sl A1 L1 C1] [] [fS A1 L1 C1 3 eTree l_] (fun o H Φ => ∃ (A9 : OA) (L9 C9 : Nat), o = .ret (sl A9 L9 C9) ∧ H = [rW A9 L9 C9 37 3 eTree r] ∧ Φ = []) := by
 unfold F.forest.clone_B at hF
 refine tri_intro (n := 23) Try.func40 rfl Try.ntmps40 rfl fun w X => cR (oV vA (o_seq (cR (oV vM (oV (v_lenS (enc := eTree) l_ sl31 rfl (.f 0 rfl)) (oV vB (ite_some hF ?_)))))))
 intro h1 hF
 refine ite_some hF fun h2 hF => ite_some hF fun h3 hF => o_make0 sl31 rfl rfl h1 h2 h3 rfl fun A2 L2 C2 => oV vA (o_seq ?_)
 refine c_seq (cR (oV vM (oV (v_lenS (enc := eTree) l_ sl31 rfl (.f 0 rfl)) (oV vM (o_seq ?_)))))
 obtain ⟨o1, ho1, hF⟩ := bd hF
 refine cT (fun E H Φ N' => ∀ (A4 : OA) (L4 C4 : Nat), Sat E [(0, sl A1 L1 C1), (2, nS), (3, sl A4 L4 C4), (10, sl A1 L1 C1)] [rW A4 L4 C4 37 3 eTree o1] Φ N') (fun N1 hN1 => ?_) ?_
 refine c_block ?_
 refine cL (fun E H Φ j a w => ∃ (out : List Tree) (t12 : Int) (A3 : OA) (L3 C3 : Nat), F.forest.clone_l1 l_ g41 j out t12 = some o1 ∧ St E [(0, sl A1 L1 C1), (2, nS), (3, sl A3 L3 C3), (10, sl A1 L1 C1), (11, iI (l_.length : Int)), (12, iI t12)] [rW A3 L3 C3 37 3 eTree out] Φ a w) k ?_ ?_
 exact lq [0] [0] fun a w hs => ⟨([] : List Tree), 0, A2, L2, C2, ho1, hs⟩
 rintro j a w ⟨out, t12, A3, L3, C3, hL1, hs⟩
 rcases j with _ | j
 cases hL1
 refine wc_app hs ?_
 unfold F.forest.clone_l1 at hL1
 refine cR (oV vB (o_seq (c_seq ?_)))
 refine cC hL1 (fun hL1 => ?_) (fun hL1 => ?_)
 refine c_skip (sat_wc (c_seq (c_block (cR (ite_some hL1 fun h5 hL1 => oV (v_indexAddr_s (xs := l_) (enc := eTree) sl31 rfl rfl (.f 0 rfl) h5) (o_load_s (ds := [.int .i64 ((at_ l_ t12).Rule), .int .u8 ((at_ l_ t12).Byte), .slice 3 (((at_ l_ t12).Kids).map eTree)]) (xs := l_) (enc := eTree) ty37 rfl (.f 0 rfl) h5 (by simp only [eTree_eq] <;> rfl) rfl rfl rfl rfl rfl ?_))))))
 intro A5 L5 C5
 refine o_alloc zero37 rfl rfl fun b => (sT 0 ty37) (o_seq (c_region (oV vM (oV (vL 0 ty37) ?_))))
 obtain ⟨v_, h6, hL1⟩ := bd hL1
 refine o_call0 call41 rfl (subs [0] rfl) (hg41 h6 :) rfl ?_
 rintro _ _ _ ⟨A6, L6, C6, rfl, rfl, rfl⟩
 refine o_buildSlice (enc := eTree) ([v_] : List Tree) (vTree v_ A6 L6 C6) sl31 rfl (fun _ => by kernel_rfl) rfl rfl (by simp only [List.map, List.all, eTree_eq] <;> rfl) (cp_of (ds := [.int .i64 v_.Rule, .int .u8 v_.Byte, .slice 3 (v_.Kids.map eTree)]) (by simp only [List.map, List.flatten, eTree_eq] <;> rfl) (.s rfl (.s rfl (.f 0 rfl (.nil))))) rfl fun A7 L7 C7 => ite_some hL1 fun h7 hL1 => ite_some hL1 fun h8 hL1 => o_append (enc := eTree) (xs := out) (ys := ([v_] : List Tree)) 2 sl31 rfl rfl rfl (.r 0 _ rfl) h7 h8 rfl fun A8 L8 C8 => oV vA (o_nil (sat_wc (c_region (oV vB (oV vM (o_nil ?_))))))
 exact lp [2] [2] fun a w hs => ⟨(out ++ ([v_] : List Tree)), IntKind.wrap .i64 (t12 + 1), A8, L8, C8, hL1, hs⟩
 refine c_exit0 ?_
 cases hL1
 exact sK [0] [0] (hN1 A3 L3 C3)
 intro A4 L4 C4
 refine sat_wc (cR (oV vM (oV vA (o_seq (c_ret ?_)))))
 cases hF
 refine s_ret1 rfl (r_tmp rfl) fun a w hs => fin_sel hs [0] ⟨A4, L4, C4, rfl, rfl, rfl⟩ rfl sub_nil
theorem tri41_B (k : Nat) (g40 : List Tree → Option (List Tree))
    (hg40 : ∀ {l_ : List Tree} {A1 : OA} {L1 C1 : Nat} {r : List Tree}, g40 l_ = some r → Tri Try.prog 40 [sl A1 L1 C1] [] [fS A1 L1 C1 3 eTree l_] (fun o H Φ => ∃ (A9 : OA) (L9 C9 : Nat), o = .ret (sl A9 L9 C9) ∧ H = [rW A9 L9 C9 37 3 eTree r] ∧ Φ = [])) {t : Tree} {A1 : OA} {L1 C1 : Nat} {r : Tree} (hF : F.forest.copied_B k g40 t = some r) :
    Tri Try.prog 41 [.agg (vTree t A1 L1 C1).toArray] [] [fS A1 L1 C1 3 eTree t.Kids] (fun o H Φ => ∃ (A3 : OA) (L3 C3 : Nat), o = .ret (.agg (vTree r A3 L3 C3).toArray) ∧ H = [] ∧ Φ = [fS A3 L3 C3 3 eTree r.Kids]) := by
 unfold F.forest.copied_B at hF
 refine tri_intro (n := 12) Try.func41 rfl Try.ntmps41 rfl fun w X => cR (o_box rfl rfl rfl fun b => o_alloc zero37 rfl rfl fun b1 => o_seq (c_seq (cR ((fD 2) (oV (vL 1 ty31) (oV (v_lenS (enc := eTree) t.Kids sl31 rfl (.f 0 rfl)) (oV vB (o_seq ?_))))))))
 refine cC hF (fun hF => ?_) (fun hF => ?_)
 refine c_region ((fD 2) (oV (vL 1 ty31) ?_))
 obtain ⟨v_, h2, hF⟩ := bd hF
 refine o_call0 call40 rfl (subs [0] rfl) (hg40 h2 :) rfl ?_
 rintro _ _ _ ⟨A2, L2, C2, rfl, rfl, rfl⟩
 refine (fD 2) ((sT 2 ty31) (o_seq (cR (oV (vL 2 ty37) ((sT 1 ty37) (o_seq (c_ret ?_)))))))
 cases hF
 refine s_st (st_freeze 0 rfl) (s_ret1 rfl (r_cell 0 rfl ty37 rfl rfl rfl rfl) fun a w hs => fin_sel hs [] ⟨A2, L2, C2, rfl, rfl, rfl⟩ rfl (subs [0] rfl))
 refine c_skip (sat_wc (cR (oV (vL 1 ty37) ((sT 0 ty37) (o_seq (c_ret ?_))))))
 cases hF
 refine s_ret1 rfl (r_cell 0 rfl ty37 rfl rfl rfl rfl) fun a w hs => fin_sel hs [] ⟨A1, L1, C1, rfl, rfl, rfl⟩ rfl (subs [0] rfl)
theorem tri40_G (k : Nat) : (∀ {l_ : List Tree} {A1 : OA} {L1 C1 : Nat} {r : List Tree}, F.forest.clone k l_ = some r → Tri Try.prog 40 [sl A1 L1 C1] [] [fS A1 L1 C1 3 eTree l_] (fun o H Φ => ∃ (A9 : OA) (L9 C9 : Nat), o = .ret (sl A9 L9 C9) ∧ H = [rW A9 L9 C9 37 3 eTree r] ∧ Φ = [])) ∧ (∀ {t : Tree} {A1 : OA} {L1 C1 : Nat} {r : Tree}, F.forest.copied k t = some r → Tri Try.prog 41 [.agg (vTree t A1 L1 C1).toArray] [] [fS A1 L1 C1 3 eTree t.Kids] (fun o H Φ => ∃ (A3 : OA) (L3 C3 : Nat), o = .ret (.agg (vTree r A3 L3 C3).toArray) ∧ H = [] ∧ Φ = [fS A3 L3 C3 3 eTree r.Kids])) := by
 induction k with
 | zero => exact ⟨(fun h => nomatch (show none = some _ from h)), (fun h => nomatch (show none = some _ from h))⟩
 | succ k ih => exact ⟨tri40_B k _ ih.2, tri41_B k _ ih.1⟩
theorem tri40 {k : Nat} {l_ : List Tree} {A1 : OA} {L1 C1 : Nat} {r : List Tree} (hF : F.forest.clone k l_ = some r) :
    Tri Try.prog 40 [sl A1 L1 C1] [] [fS A1 L1 C1 3 eTree l_] (fun o H Φ => ∃ (A9 : OA) (L9 C9 : Nat), o = .ret (sl A9 L9 C9) ∧ H = [rW A9 L9 C9 37 3 eTree r] ∧ Φ = []) := (tri40_G k).1 hF
theorem tri41 {k : Nat} {t : Tree} {A1 : OA} {L1 C1 : Nat} {r : Tree} (hF : F.forest.copied k t = some r) :
    Tri Try.prog 41 [.agg (vTree t A1 L1 C1).toArray] [] [fS A1 L1 C1 3 eTree t.Kids] (fun o H Φ => ∃ (A3 : OA) (L3 C3 : Nat), o = .ret (.agg (vTree r A3 L3 C3).toArray) ∧ H = [] ∧ Φ = [fS A3 L3 C3 3 eTree r.Kids]) := (tri40_G k).2 hF
theorem tri42_B (k : Nat) (g37 : Forest_part → Int → Forest_grove → Option (List (List Tree) × Forest_grove))
    (hg37 : ∀ {x_ : Forest_part} {most : Int} {free : Forest_grove} {b : Nat} {b1 : Nat} {b2 : Nat} {b3 : Nat} {A1 : OA} {L1 C1 : Nat} {A2 : OA} {L2 C2 : Nat} {A3 : OA} {L3 C3 : Nat} {gb : Nat} {gb1 : Nat} {gb2 : Nat} {r : List (List Tree) × Forest_grove}, g37 x_ most free = some r → Tri Try.prog 37 [.agg (vForest_part x_).toArray, iI most, pt b1, pt b2, pt b3] [.box b 91 [iI free.g.Nts, iI free.g.Start, sl A1 L1 C1, sl A2 L2 C2, sl A3 L3 C3, .map (some gb), .map (some gb1), .map (some gb2)], .mp gb (mEnc kForest_span (tenc free.whole)), .mp gb1 (mEnc kForest_span (tenc free.counts)), .mp gb2 (mEnc kForest_part (tenc free.rows)), .box b1 69 [pt b], .box b2 82 [.func (.func 42) #[] #[pt b1, pt b3]], .box b3 83 [.func (.func 37) #[] #[pt b1, pt b2, pt b3]]] [fS A1 L1 C1 2 eRule free.g.Rules, fS A2 L2 C2 1 eU8 free.w_, fS A3 L3 C3 1 (eSl 1 eI64) free.by_] (fun o H Φ => ∃ (A28 : OA) (L28 C28 : Nat), o = .ret (sl A28 L28 C28) ∧ H = [.box b 91 [iI free.g.Nts, iI free.g.Start, sl A1 L1 C1, sl A2 L2 C2, sl A3 L3 C3, .map (some gb), .map (some gb1), .map (some gb2)], .mp gb (mEnc kForest_span (tenc r.2.whole)), .mp gb1 (mEnc kForest_span (tenc r.2.counts)), .mp gb2 (mEnc kForest_part (tenc r.2.rows)), .box b1 69 [pt b], .box b2 82 [.func (.func 42) #[] #[pt b1, pt b3]], .box b3 83 [.func (.func 37) #[] #[pt b1, pt b2, pt b3]], rW A28 L28 C28 31 1 (eSl 3 eTree) r.1] ∧ Φ = [])) {x_ : Forest_span} {most : Int} {free : Forest_grove} {b : Nat} {b1 : Nat} {b2 : Nat} {b3 : Nat} {A1 : OA} {L1 C1 : Nat} {A2 : OA} {L2 C2 : Nat} {A3 : OA} {L3 C3 : Nat} {gb : Nat} {gb1 : Nat} {gb2 : Nat} {r : List Tree × Forest_grove} (hF : F.forest.Trees_c2_B k g37 x_ most free = some r) :
    Tri Try.prog 42 [.agg (vForest_span x_).toArray, iI most, pt b1, pt b2] [.box b 91 [iI free.g.Nts, iI free.g.Start, sl A1 L1 C1, sl A2 L2 C2, sl A3 L3 C3, .map (some gb), .map (some gb1), .map (some gb2)], .mp gb (mEnc kForest_span (tenc free.whole)), .mp gb1 (mEnc kForest_span (tenc free.counts)), .mp gb2 (mEnc kForest_part (tenc free.rows)), .box b1 69 [pt b], .box b2 83 [.func (.func 37) #[] #[pt b1, pt b3, pt b2]], .box b3 82 [.func (.func 42) #[] #[pt b1, pt b2]]] [fS A1 L1 C1 2 eRule free.g.Rules, fS A2 L2 C2 1 eU8 free.w_, fS A3 L3 C3 1 (eSl 1 eI64) free.by_] (fun o H Φ => ∃ (A15 : OA) (L15 C15 : Nat), o = .ret (sl A15 L15 C15) ∧ H = [.box b 91 [iI free.g.Nts, iI free.g.Start, sl A1 L1 C1, sl A2 L2 C2, sl A3 L3 C3, .map (some gb), .map (some gb1), .map (some gb2)], .mp gb (mEnc kForest_span (tenc r.2.whole)), .mp gb1 (mEnc kForest_span (tenc r.2.counts)), .mp gb2 (mEnc kForest_part (tenc r.2.rows)), .box b1 69 [pt b], .box b2 83 [.func (.func 37) #[] #[pt b1, pt b3, pt b2]], .box b3 82 [.func (.func 42) #[] #[pt b1, pt b2]], rW A15 L15 C15 37 3 eTree r.1] ∧ Φ = []) := by
 unfold F.forest.Trees_c2_B at hF
 refine tri_intro (n := 73) Try.func42 rfl Try.ntmps42 rfl fun w X => cR (o_box rfl rfl rfl fun b4 => oV vA (o_seq (cR (oV vA (o_seq (c_seq (c_seq (ite_some hF ?_))))))))
 intro h1 hF
 refine c_elem (xs := free.by_) (enc := (eSl 1 eI64)) 2 rfl h1 rfl rfl fun A4 L4 C4 => c_draw (n := 10) [0, 0, 0, 0, 0, 0, 0, 0] mixed rfl rfl (dv 0 rfl (vL 5 ty69) ?_)
 refine dv 1 rfl vC (dv 2 rfl (vF 4) (dv 3 rfl (vL 1 ty87) (dv 4 rfl (vF 0) (dv 5 rfl (vL 0 ty3) (dv 6 rfl (v_indexAddr_s (xs := free.by_) (enc := (eSl 1 eI64)) sl87 rfl rfl (.f 4 rfl) h1) (dv 7 rfl (v_load_cl 0 ty59 rfl rfl rfl rfl rfl) (dv 8 rfl (v_lenS (enc := eI64) (at_ free.by_ x_.nt) sl59 rfl (.f 1 rfl)) (dv 9 rfl vM (d_done_seq (by kernel_rfl) ?_)))))))))
 obtain ⟨o1, ho1, hF⟩ := bd hF
 refine c_cut (fun E N' => ∀ (A6 : OA) (L6 C6 : Nat), Sat E [(0, .agg (vForest_span x_).toArray), (2, pt b1), (4, pt b4), (6, nS), (7, sl A6 L6 C6), (20, sl A4 L4 C4)] [.box b4 73 (vForest_span x_), .box b 91 [iI free.g.Nts, iI free.g.Start, sl A1 L1 C1, sl A2 L2 C2, sl A3 L3 C3, .map (some gb), .map (some gb1), .map (some gb2)], .mp gb (mEnc kForest_span (tenc o1.2.1)), .mp gb1 (mEnc kForest_span (tenc o1.2.2.1)), .mp gb2 (mEnc kForest_part (tenc o1.2.2.2)), .box b1 69 [pt b], .box b2 83 [.func (.func 37) #[] #[pt b1, pt b3, pt b2]], .box b3 82 [.func (.func 42) #[] #[pt b1, pt b2]], rW A6 L6 C6 37 3 eTree o1.1] [fS A4 L4 C4 1 eI64 (at_ free.by_ x_.nt), fS A1 L1 C1 2 eRule free.g.Rules, fS A2 L2 C2 1 eU8 free.w_, fS A3 L3 C3 1 (eSl 1 eI64) free.by_] N') (fun N1 hN1 => ?_) ?_
 refine c_block ?_
 refine c_loopE (fun E j a w => ∃ (out : List Tree) (t22 : Int) (v_ : List (Forest_span × Int)) (v_1 : List (Forest_span × Int)) (v_2 : List (Forest_part × Int)) (A5 : OA) (L5 C5 : Nat), F.forest.Trees_c2_l1 k free x_ most g37 j out t22 v_ v_1 v_2 = some o1 ∧ St E [(0, .agg (vForest_span x_).toArray), (1, iI most), (2, pt b1), (3, pt b2), (4, pt b4), (6, nS), (7, sl A5 L5 C5), (20, sl A4 L4 C4), (21, iI ((at_ free.by_ x_.nt).length : Int)), (22, iI t22)] [.box b4 73 (vForest_span x_), .box b 91 [iI free.g.Nts, iI free.g.Start, sl A1 L1 C1, sl A2 L2 C2, sl A3 L3 C3, .map (some gb), .map (some gb1), .map (some gb2)], .mp gb (mEnc kForest_span (tenc v_)), .mp gb1 (mEnc kForest_span (tenc v_1)), .mp gb2 (mEnc kForest_part (tenc v_2)), .box b1 69 [pt b], .box b2 83 [.func (.func 37) #[] #[pt b1, pt b3, pt b2]], .box b3 82 [.func (.func 42) #[] #[pt b1, pt b2]], rW A5 L5 C5 37 3 eTree out] [fS A4 L4 C4 1 eI64 (at_ free.by_ x_.nt), fS A1 L1 C1 2 eRule free.g.Rules, fS A2 L2 C2 1 eU8 free.w_, fS A3 L3 C3 1 (eSl 1 eI64) free.by_] a w) k ?_ ?_
 refine s_st (st_nilrow 37 3) ?_
 exact lq [1, 1, 1, 1, 1, 1, 1, 1, 0] [1, 2, 3, 4] fun a w hs => ⟨([] : List Tree), 0, free.whole, free.counts, free.rows, none, 0, 0, ho1, hs⟩
 rintro j a w ⟨out, t22, v_, v_1, v_2, A5, L5, C5, hL1, hs⟩
 rcases j with _ | j
 cases hL1
 refine wc_app hs ?_
 unfold F.forest.Trees_c2_l1 at hL1
 refine cR (oV vB (o_seq (c_seq ?_)))
 refine cC hL1 (fun hL1 => ?_) (fun hL1 => ?_)
 refine c_skip (sat_wc (c_seq ?_))
 refine cT (fun E H Φ N' => ∀ (out1 : List Tree) (v_3 : List (Forest_span × Int)) (v_4 : List (Forest_span × Int)) (v_5 : List (Forest_part × Int)) (A7 : OA) (L7 C7 : Nat) (b5 : Nat), F.forest.Trees_c2_j2 (F.forest.Trees_c2_l1 k free x_ most g37 j) t22 out1 v_3 v_4 v_5 = some o1 → Sat E [(0, .agg (vForest_span x_).toArray), (1, iI most), (2, pt b1), (3, pt b2), (4, pt b4), (6, nS), (7, sl A7 L7 C7), (9, iI (at_ (at_ free.by_ x_.nt) t22)), (10, pt b5), (20, sl A4 L4 C4), (21, iI ((at_ free.by_ x_.nt).length : Int)), (22, iI t22)] [.box b4 73 (vForest_span x_), .box b 91 [iI free.g.Nts, iI free.g.Start, sl A1 L1 C1, sl A2 L2 C2, sl A3 L3 C3, .map (some gb), .map (some gb1), .map (some gb2)], .mp gb (mEnc kForest_span (tenc v_3)), .mp gb1 (mEnc kForest_span (tenc v_4)), .mp gb2 (mEnc kForest_part (tenc v_5)), .box b1 69 [pt b], .box b2 83 [.func (.func 37) #[] #[pt b1, pt b3, pt b2]], .box b3 82 [.func (.func 42) #[] #[pt b1, pt b2]], .box b5 85 [iI (at_ (at_ free.by_ x_.nt) t22), iI (((at_ free.g.Rules (at_ (at_ free.by_ x_.nt) t22)).Rhs).length : Int), iI x_.from_, iI x_.to], rW A7 L7 C7 37 3 eTree out1] Φ N') (fun N2 hN2 => ?_) ?_
 refine c_block (cR (ite_some hL1 fun h3 hL1 => oV (v_indexAddr_s (xs := at_ free.by_ x_.nt) (enc := eI64) sl59 rfl rfl (.f 0 rfl) h3) (oV (v_load_s (xs := at_ free.by_ x_.nt) (enc := eI64) ty3 rfl (.f 0 rfl) h3 rfl rfl rfl rfl rfl rfl rfl) (oV vA (o_seq (c_seq (ite_some hL1 ?_)))))))
 intro h4 hL1
 refine c_elem (xs := free.g.Rules) (enc := eRule) 1 rfl h4 rfl rfl fun A8 L8 C8 => c_draw (n := 18) [0, 0, 0, 0, 0, 0, 0, 0, 0] mixed rfl rfl (dv 0 rfl vM (dv 1 rfl (vL 5 ty69) (dv 2 rfl vC (dv 3 rfl (vF 0) ?_))))
 refine dv 4 rfl (vF 2) (dv 5 rfl (vL 1 ty22) (dv 6 rfl vM (dv 7 rfl (v_indexAddr_s (xs := free.g.Rules) (enc := eRule) sl22 rfl rfl (.f 3 rfl) h4) (dv 8 rfl (v_fieldAddr (v := .pointer (some ⟨blkA A1, offA A1 + (Int.toNat (at_ (at_ free.by_ x_.nt) t22) * 2 + 1), none⟩)) rfl (fun _ => by kernel_rfl)) (dv 9 rfl (v_load_cl 0 ty48 rfl rfl rfl rfl rfl) (dv 10 rfl (v_lenS (enc := eKSym) ((at_ free.g.Rules (at_ (at_ free.by_ x_.nt) t22)).Rhs) sl48 rfl (.f 1 rfl)) (dv 11 rfl (vF 1) (dv 12 rfl (vL 0 ty3) (dv 13 rfl (vF 2) (dv 14 rfl (vL 0 ty3) (dv 15 rfl (v_build (v := .agg #[iI (at_ (at_ free.by_ x_.nt) t22), iI (((at_ free.g.Rules (at_ (at_ free.by_ x_.nt) t22)).Rhs).length : Int), iI x_.from_, iI x_.to]) rfl (fun _ => by kernel_rfl)) (dO 16 rfl (o_alloc zero85 rfl rfl ?_)))))))))))))
 intro b6
 refine dN [1, 1, 1, 1, 1, 1, 1, 1, 1] 0 (dO 17 rfl ?_)
 refine (sT 0 ty85) (dN [1, 1, 1, 1, 1, 1, 1, 1, 1] 0 (d_done_seq (by kernel_rfl) (c_seq (c_seq ?_))))
 refine c_cut (fun E N' => ∀ (t51 : Bool) (v_6 : List (Forest_span × Int)) (v_7 : List (Forest_span × Int)) (v_8 : List (Forest_part × Int)), F.forest.Trees_c2_j3 k (F.forest.Trees_c2_l1 k free x_ most g37 j) t22 out g37 free x_ most t51 v_6 v_7 v_8 = some o1 → Sat E [(0, .agg (vForest_span x_).toArray), (1, iI most), (2, pt b1), (3, pt b2), (4, pt b4), (6, nS), (7, sl A5 L5 C5), (9, iI (at_ (at_ free.by_ x_.nt) t22)), (10, pt b6), (20, sl A4 L4 C4), (21, iI ((at_ free.by_ x_.nt).length : Int)), (22, iI t22), (51, bV t51)] [.box b6 85 [iI (at_ (at_ free.by_ x_.nt) t22), iI (((at_ free.g.Rules (at_ (at_ free.by_ x_.nt) t22)).Rhs).length : Int), iI x_.from_, iI x_.to], .box b4 73 (vForest_span x_), .box b 91 [iI free.g.Nts, iI free.g.Start, sl A1 L1 C1, sl A2 L2 C2, sl A3 L3 C3, .map (some gb), .map (some gb1), .map (some gb2)], .mp gb (mEnc kForest_span (tenc v_6)), .mp gb1 (mEnc kForest_span (tenc v_7)), .mp gb2 (mEnc kForest_part (tenc v_8)), .box b1 69 [pt b], .box b2 83 [.func (.func 37) #[] #[pt b1, pt b3, pt b2]], .box b3 82 [.func (.func 42) #[] #[pt b1, pt b2]], rW A5 L5 C5 37 3 eTree out] [fS A4 L4 C4 1 eI64 (at_ free.by_ x_.nt), fS A1 L1 C1 2 eRule free.g.Rules, fS A2 L2 C2 1 eU8 free.w_, fS A3 L3 C3 1 (eSl 1 eI64) free.by_] N') (fun N4 hN4 => ?_) ?_
 refine c_region (oV vM (oV (v_lenS (enc := eTree) out sl31 rfl (.r 9 _ rfl)) (oV vM (oV vB (oV vM ?_)))))
 refine oS 46 hL1 (fun hL1 => ?_) (fun hL1 => ?_)
 refine oF (oF (oF (oF (oV vPt (o_nil ?_)))))
 exact sK [0, 0, 0, 0, 0, 0, 0, 0, 0, 0] [2, 3, 4, 5] (hN4 true v_ v_1 v_2 hL1)
 refine oN (oV (vL 6 ty69) (oN (oV (vL 0 ty85) (oN ?_))))
 obtain ⟨v_10, h12, hL1⟩ := bd hL1
 refine ocl [2, 2, 2, 2] call39 rfl rfl (subs [3, 4, 5] rfl) (tri39 h12 :) ?_
 rintro _ _ _ ⟨rfl, rfl, rfl⟩
 refine o_H [.box b 91 [iI free.g.Nts, iI free.g.Start, sl A1 L1 C1, sl A2 L2 C2, sl A3 L3 C3, .map (some gb), .map (some gb1), .map (some gb2)], .mp gb (mEnc kForest_span (tenc v_10.2.whole)), .mp gb1 (mEnc kForest_span (tenc v_10.2.counts)), .mp gb2 (mEnc kForest_part (tenc v_10.2.rows)), .box b6 85 [iI (at_ (at_ free.by_ x_.nt) t22), iI (((at_ free.g.Rules (at_ (at_ free.by_ x_.nt) t22)).Rhs).length : Int), iI x_.from_, iI x_.to], .box b4 73 (vForest_span x_), .box b1 69 [pt b], .box b2 83 [.func (.func 37) #[] #[pt b1, pt b3, pt b2]], .box b3 82 [.func (.func 42) #[] #[pt b1, pt b2]], rW A5 L5 C5 37 3 eTree out] rfl (oN (oV vB (oV vPf (o_nil ?_))))
 exact sK [4, 4, 0, 0, 0, 0, 0, 0, 0, 0] [2, 3, 4, 5] (hN4 (v_10.1 == 0) v_10.2.whole v_10.2.counts v_10.2.rows hL1)
 intro t51 v_6 v_7 v_8 hL1
 unfold F.forest.Trees_c2_j3 at hL1
 refine sat_wc ?_
 refine cC hL1 (fun hL1 => ?_) (fun hL1 => ?_)
 refine c_exit0 ?_
 exact sK [1, 1, 1, 1, 1, 1, 1, 1, 0, 0] [0, 1, 2, 3] (hN2 out v_6 v_7 v_8 A5 L5 C5 b6 hL1)
 refine c_skip (sat_wc (cR (oV (vL 7 ty83) (oV (vL 0 ty85) (oV vM (oV vM (oV (v_lenS (enc := eTree) out sl31 rfl (.r 9 _ rfl)) (oV vB ?_))))))))
 obtain ⟨v_9, h6, hL1⟩ := bd hL1
 refine o_call [2, 2, 2, 2, 2, 3, 2] call37 (cap := #[pt b1, pt b3, pt b2]) rfl rfl rfl (subs [1, 2, 3] rfl) (by exact (hg37 h6 :)) rfl ?_
 rintro _ _ _ ⟨A9, L9, C9, rfl, rfl, rfl⟩
 refine o_H [.box b 91 [iI free.g.Nts, iI free.g.Start, sl A1 L1 C1, sl A2 L2 C2, sl A3 L3 C3, .map (some gb), .map (some gb1), .map (some gb2)], .mp gb (mEnc kForest_span (tenc v_9.2.whole)), .mp gb1 (mEnc kForest_span (tenc v_9.2.counts)), .mp gb2 (mEnc kForest_part (tenc v_9.2.rows)), .box b1 69 [pt b], .box b3 82 [.func (.func 42) #[] #[pt b1, pt b2]], .box b2 83 [.func (.func 37) #[] #[pt b1, pt b3, pt b2]], rW A9 L9 C9 31 1 (eSl 3 eTree) v_9.1, .box b6 85 [iI (at_ (at_ free.by_ x_.nt) t22), iI (((at_ free.g.Rules (at_ (at_ free.by_ x_.nt) t22)).Rhs).length : Int), iI x_.from_, iI x_.to], .box b4 73 (vForest_span x_), rW A5 L5 C5 37 3 eTree out] rfl (oV (v_lenS (enc := (eSl 3 eTree)) v_9.1 sl86 rfl (.r 7 _ rfl)) (oV vM (o_seq ?_)))
 obtain ⟨o4, ho4, hL1⟩ := bd hL1
 refine cT (fun E H Φ N' => ∀ (A11 : OA) (L11 C11 : Nat), Sat E [(0, .agg (vForest_span x_).toArray), (1, iI most), (2, pt b1), (3, pt b2), (4, pt b4), (6, nS), (7, sl A11 L11 C11), (9, iI (at_ (at_ free.by_ x_.nt) t22)), (10, pt b6), (20, sl A4 L4 C4), (21, iI ((at_ free.by_ x_.nt).length : Int)), (22, iI t22), (58, sl A9 L9 C9), (59, iI (v_9.1.length : Int)), (60, iI o4.2)] [.box b 91 [iI free.g.Nts, iI free.g.Start, sl A1 L1 C1, sl A2 L2 C2, sl A3 L3 C3, .map (some gb), .map (some gb1), .map (some gb2)], .mp gb (mEnc kForest_span (tenc v_9.2.whole)), .mp gb1 (mEnc kForest_span (tenc v_9.2.counts)), .mp gb2 (mEnc kForest_part (tenc v_9.2.rows)), .box b1 69 [pt b], .box b3 82 [.func (.func 42) #[] #[pt b1, pt b2]], .box b2 83 [.func (.func 37) #[] #[pt b1, pt b3, pt b2]], .box b6 85 [iI (at_ (at_ free.by_ x_.nt) t22), iI (((at_ free.g.Rules (at_ (at_ free.by_ x_.nt) t22)).Rhs).length : Int), iI x_.from_, iI x_.to], .box b4 73 (vForest_span x_), rW A11 L11 C11 37 3 eTree o4.1, rW A9 L9 C9 31 1 (eSl 3 eTree) v_9.1] Φ N') (fun N4 hN4 => ?_) ?_
 refine c_block ?_
 refine cL (fun E H Φ j a w => ∃ (out2 : List Tree) (t60 : Int) (A10 : OA) (L10 C10 : Nat), F.forest.Trees_c2_l4 v_9 free x_ t22 j out2 t60 = some o4 ∧ St E [(0, .agg (vForest_span x_).toArray), (1, iI most), (2, pt b1), (3, pt b2), (4, pt b4), (6, nS), (7, sl A10 L10 C10), (9, iI (at_ (at_ free.by_ x_.nt) t22)), (10, pt b6), (20, sl A4 L4 C4), (21, iI ((at_ free.by_ x_.nt).length : Int)), (22, iI t22), (58, sl A9 L9 C9), (59, iI (v_9.1.length : Int)), (60, iI t60)] [.box b 91 [iI free.g.Nts, iI free.g.Start, sl A1 L1 C1, sl A2 L2 C2, sl A3 L3 C3, .map (some gb), .map (some gb1), .map (some gb2)], .mp gb (mEnc kForest_span (tenc v_9.2.whole)), .mp gb1 (mEnc kForest_span (tenc v_9.2.counts)), .mp gb2 (mEnc kForest_part (tenc v_9.2.rows)), .box b1 69 [pt b], .box b3 82 [.func (.func 42) #[] #[pt b1, pt b2]], .box b2 83 [.func (.func 37) #[] #[pt b1, pt b3, pt b2]], .box b6 85 [iI (at_ (at_ free.by_ x_.nt) t22), iI (((at_ free.g.Rules (at_ (at_ free.by_ x_.nt) t22)).Rhs).length : Int), iI x_.from_, iI x_.to], .box b4 73 (vForest_span x_), rW A10 L10 C10 37 3 eTree out2, rW A9 L9 C9 31 1 (eSl 3 eTree) v_9.1] Φ a w) k ?_ ?_
 exact lq [0, 0, 0, 0, 0, 0, 0, 1, 1, 1, 0] [0, 1, 2, 3] fun a w hs => ⟨out, 0, A5, L5, C5, ho4, hs⟩
 rintro j a w ⟨out2, t60, A10, L10, C10, hL4, hs⟩
 rcases j with _ | j
 cases hL4
 refine wc_app hs ?_
 unfold F.forest.Trees_c2_l4 at hL4
 refine cR (oV vB (o_seq (c_seq ?_)))
 refine cC hL4 (fun hL4 => ?_) (fun hL4 => ?_)
 refine c_skip (sat_wc (c_seq (c_block (cR (ite_some hL4 fun h8 hL4 => oV (v_indexAddr_s (xs := v_9.1) (enc := (eSl 3 eTree)) sl86 rfl rfl (.r 10 _ rfl) h8) (o_load_s (xs := v_9.1) (enc := (eSl 3 eTree)) ty31 rfl (.r 10 _ rfl) h8 rfl rfl rfl rfl rfl rfl ?_))))))
 intro A12 L12 C12
 refine oV vA (o_seq (c_region (oV vM (oV vM (oV vM (oV (vU (.agg #[iI (at_ (at_ free.by_ x_.nt) t22), iB 0, sl A12 L12 C12])) ?_))))))
 refine o_buildSlice (enc := eTree) ([(Tree.mk (at_ (at_ free.by_ x_.nt) t22) 0 (at_ v_9.1 t60))] : List Tree) [iI (at_ (at_ free.by_ x_.nt) t22), iB 0, sl A12 L12 C12] sl31 rfl (fun _ => by kernel_rfl) rfl rfl (by simp only [List.map, List.all, eTree_eq] <;> rfl) (cp_of (ds := [.int .i64 (at_ (at_ free.by_ x_.nt) t22), .int .u8 0, .slice 3 ((at_ v_9.1 t60).map eTree)]) (by simp only [List.map, List.flatten, eTree_eq] <;> rfl) (.s rfl (.s rfl (.f 0 rfl (.nil))))) rfl fun A13 L13 C13 => ite_some hL4 fun h9 hL4 => ite_some hL4 fun h10 hL4 => o_append (enc := eTree) (xs := out2) (ys := ([(Tree.mk (at_ (at_ free.by_ x_.nt) t22) 0 (at_ v_9.1 t60))] : List Tree)) 10 sl31 rfl rfl rfl (.r 0 _ rfl) h9 h10 rfl fun A14 L14 C14 => o_H [.row (sl A13 L13 C13) 37 3 (([(Tree.mk (at_ (at_ free.by_ x_.nt) t22) 0 (at_ v_9.1 t60))] : List Tree).map eTree), .box b 91 [iI free.g.Nts, iI free.g.Start, sl A1 L1 C1, sl A2 L2 C2, sl A3 L3 C3, .map (some gb), .map (some gb1), .map (some gb2)], .mp gb (mEnc kForest_span (tenc v_9.2.whole)), .mp gb1 (mEnc kForest_span (tenc v_9.2.counts)), .mp gb2 (mEnc kForest_part (tenc v_9.2.rows)), .box b1 69 [pt b], .box b3 82 [.func (.func 42) #[] #[pt b1, pt b2]], .box b2 83 [.func (.func 37) #[] #[pt b1, pt b3, pt b2]], .box b6 85 [iI (at_ (at_ free.by_ x_.nt) t22), iI (((at_ free.g.Rules (at_ (at_ free.by_ x_.nt) t22)).Rhs).length : Int), iI x_.from_, iI x_.to], .box b4 73 (vForest_span x_), .row (sl A14 L14 C14) 37 3 ((out2 ++ ([(Tree.mk (at_ (at_ free.by_ x_.nt) t22) 0 (at_ v_9.1 t60))] : List Tree)).map eTree), rW A9 L9 C9 31 1 (eSl 3 eTree) v_9.1] rfl (oV vA (o_nil (sat_wc (c_region (oV vB (oV vM (o_nil ?_)))))))
 exact lp [1, 1, 1, 1, 1, 1, 1, 1, 1, 1, 1] [1, 2, 3, 4] fun a w hs => ⟨(out2 ++ ([(Tree.mk (at_ (at_ free.by_ x_.nt) t22) 0 (at_ v_9.1 t60))] : List Tree)), IntKind.wrap .i64 (t60 + 1), A14, L14, C14, hL4, hs⟩
 refine c_exit0 ?_
 cases hL4
 exact sK [0, 0, 0, 0, 0, 0, 0, 0, 0, 0, 0] [0, 1, 2, 3] (hN4 A10 L10 C10)
 intro A11 L11 C11
 exact sK [8, 0, 0, 0, 0, 0, 1, 0, 0, 0] [0, 1, 2, 3] (hN2 o4.1 v_9.2.whole v_9.2.counts v_9.2.rows A11 L11 C11 b6 hL1)
 intro out1 v_3 v_4 v_5 A7 L7 C7 b5 hL1
 unfold F.forest.Trees_c2_j2 at hL1
 refine sat_wc (c_region (oV vB (oV vM (o_nil ?_))))
 exact lp [0, 0, 0, 0, 0, 0, 0, 0, 1] [0, 1, 2, 3] fun a w hs => ⟨out1, IntKind.wrap .i64 (t22 + 1), v_3, v_4, v_5, A7, L7, C7, hL1, hs⟩
 refine c_exit0 ?_
 cases hL1
 exact sK [0, 0, 0, 0, 0, 0, 0, 0, 0] [0, 1, 2, 3] (hN1 A5 L5 C5)
 intro A6 L6 C6
 refine sat_wc (cR (oV vM (oV vA (o_seq (c_ret ?_)))))
 cases hF
 refine s_ret1 rfl (r_tmp rfl) fun a w hs => fin_sel hs [1, 1, 1, 1, 1, 1, 1, 1] ⟨A6, L6, C6, rfl, rfl, rfl⟩ rfl sub_nil
theorem tri37_B (k : Nat) (g42 : Forest_span → Int → Forest_grove → Option (List Tree × Forest_grove))
    (hg42 : ∀ {x_ : Forest_span} {most : Int} {free : Forest_grove} {b : Nat} {b1 : Nat} {b2 : Nat} {b3 : Nat} {A1 : OA} {L1 C1 : Nat} {A2 : OA} {L2 C2 : Nat} {A3 : OA} {L3 C3 : Nat} {gb : Nat} {gb1 : Nat} {gb2 : Nat} {r : List Tree × Forest_grove}, g42 x_ most free = some r → Tri Try.prog 42 [.agg (vForest_span x_).toArray, iI most, pt b1, pt b2] [.box b 91 [iI free.g.Nts, iI free.g.Start, sl A1 L1 C1, sl A2 L2 C2, sl A3 L3 C3, .map (some gb), .map (some gb1), .map (some gb2)], .mp gb (mEnc kForest_span (tenc free.whole)), .mp gb1 (mEnc kForest_span (tenc free.counts)), .mp gb2 (mEnc kForest_part (tenc free.rows)), .box b1 69 [pt b], .box b2 83 [.func (.func 37) #[] #[pt b1, pt b3, pt b2]], .box b3 82 [.func (.func 42) #[] #[pt b1, pt b2]]] [fS A1 L1 C1 2 eRule free.g.Rules, fS A2 L2 C2 1 eU8 free.w_, fS A3 L3 C3 1 (eSl 1 eI64) free.by_] (fun o H Φ => ∃ (A15 : OA) (L15 C15 : Nat), o = .ret (sl A15 L15 C15) ∧ H = [.box b 91 [iI free.g.Nts, iI free.g.Start, sl A1 L1 C1, sl A2 L2 C2, sl A3 L3 C3, .map (some gb), .map (some gb1), .map (some gb2)], .mp gb (mEnc kForest_span (tenc r.2.whole)), .mp gb1 (mEnc kForest_span (tenc r.2.counts)), .mp gb2 (mEnc kForest_part (tenc r.2.rows)), .box b1 69 [pt b], .box b2 83 [.func (.func 37) #[] #[pt b1, pt b3, pt b2]], .box b3 82 [.func (.func 42) #[] #[pt b1, pt b2]], rW A15 L15 C15 37 3 eTree r.1] ∧ Φ = [])) (g37 : Forest_part → Int → Forest_grove → Option (List (List Tree) × Forest_grove))
    (hg37 : ∀ {x_ : Forest_part} {most : Int} {free : Forest_grove} {b : Nat} {b1 : Nat} {b2 : Nat} {b3 : Nat} {A1 : OA} {L1 C1 : Nat} {A2 : OA} {L2 C2 : Nat} {A3 : OA} {L3 C3 : Nat} {gb : Nat} {gb1 : Nat} {gb2 : Nat} {r : List (List Tree) × Forest_grove}, g37 x_ most free = some r → Tri Try.prog 37 [.agg (vForest_part x_).toArray, iI most, pt b1, pt b2, pt b3] [.box b 91 [iI free.g.Nts, iI free.g.Start, sl A1 L1 C1, sl A2 L2 C2, sl A3 L3 C3, .map (some gb), .map (some gb1), .map (some gb2)], .mp gb (mEnc kForest_span (tenc free.whole)), .mp gb1 (mEnc kForest_span (tenc free.counts)), .mp gb2 (mEnc kForest_part (tenc free.rows)), .box b1 69 [pt b], .box b2 82 [.func (.func 42) #[] #[pt b1, pt b3]], .box b3 83 [.func (.func 37) #[] #[pt b1, pt b2, pt b3]]] [fS A1 L1 C1 2 eRule free.g.Rules, fS A2 L2 C2 1 eU8 free.w_, fS A3 L3 C3 1 (eSl 1 eI64) free.by_] (fun o H Φ => ∃ (A28 : OA) (L28 C28 : Nat), o = .ret (sl A28 L28 C28) ∧ H = [.box b 91 [iI free.g.Nts, iI free.g.Start, sl A1 L1 C1, sl A2 L2 C2, sl A3 L3 C3, .map (some gb), .map (some gb1), .map (some gb2)], .mp gb (mEnc kForest_span (tenc r.2.whole)), .mp gb1 (mEnc kForest_span (tenc r.2.counts)), .mp gb2 (mEnc kForest_part (tenc r.2.rows)), .box b1 69 [pt b], .box b2 82 [.func (.func 42) #[] #[pt b1, pt b3]], .box b3 83 [.func (.func 37) #[] #[pt b1, pt b2, pt b3]], rW A28 L28 C28 31 1 (eSl 3 eTree) r.1] ∧ Φ = [])) {x_ : Forest_part} {most : Int} {free : Forest_grove} {b : Nat} {b1 : Nat} {b2 : Nat} {b3 : Nat} {A1 : OA} {L1 C1 : Nat} {A2 : OA} {L2 C2 : Nat} {A3 : OA} {L3 C3 : Nat} {gb : Nat} {gb1 : Nat} {gb2 : Nat} {r : List (List Tree) × Forest_grove} (hF : F.forest.Trees_c1_B k g42 g37 x_ most free = some r) :
    Tri Try.prog 37 [.agg (vForest_part x_).toArray, iI most, pt b1, pt b2, pt b3] [.box b 91 [iI free.g.Nts, iI free.g.Start, sl A1 L1 C1, sl A2 L2 C2, sl A3 L3 C3, .map (some gb), .map (some gb1), .map (some gb2)], .mp gb (mEnc kForest_span (tenc free.whole)), .mp gb1 (mEnc kForest_span (tenc free.counts)), .mp gb2 (mEnc kForest_part (tenc free.rows)), .box b1 69 [pt b], .box b2 82 [.func (.func 42) #[] #[pt b1, pt b3]], .box b3 83 [.func (.func 37) #[] #[pt b1, pt b2, pt b3]]] [fS A1 L1 C1 2 eRule free.g.Rules, fS A2 L2 C2 1 eU8 free.w_, fS A3 L3 C3 1 (eSl 1 eI64) free.by_] (fun o H Φ => ∃ (A28 : OA) (L28 C28 : Nat), o = .ret (sl A28 L28 C28) ∧ H = [.box b 91 [iI free.g.Nts, iI free.g.Start, sl A1 L1 C1, sl A2 L2 C2, sl A3 L3 C3, .map (some gb), .map (some gb1), .map (some gb2)], .mp gb (mEnc kForest_span (tenc r.2.whole)), .mp gb1 (mEnc kForest_span (tenc r.2.counts)), .mp gb2 (mEnc kForest_part (tenc r.2.rows)), .box b1 69 [pt b], .box b2 82 [.func (.func 42) #[] #[pt b1, pt b3]], .box b3 83 [.func (.func 37) #[] #[pt b1, pt b2, pt b3]], rW A28 L28 C28 31 1 (eSl 3 eTree) r.1] ∧ Φ = []) := by
 unfold F.forest.Trees_c1_B at hF
 refine tri_intro (n := 133) Try.func37 rfl Try.ntmps37 rfl fun w X => cR (o_box rfl rfl rfl fun b4 => oV vA (o_seq (c_seq (cR ((fD 1) (oV (vL 0 ty3) (oV vB (o_seq ?_))))))))
 refine cC hF (fun hF => ?_) (fun hF => ?_)
 refine cR (o_st (st_nilfact 3) (o_buildSlice (enc := (eSl 3 eTree)) ([([] : List Tree)] : List (List Tree)) [nS] sl86 rfl (fun _ => by kernel_rfl) rfl rfl rfl (.f 0 rfl (.nil)) rfl fun A4 L4 C4 => oV vA (o_seq (c_ret ?_))))
 cases hF
 refine s_ret1 rfl (r_tmp rfl) fun a w hs => fin_sel hs [2, 2, 2, 2, 2, 2, 2, 0] ⟨A4, L4, C4, rfl, rfl, rfl⟩ rfl sub_nil
 refine c_skip (sat_wc (cR (oV vA (o_seq (c_seq (ite_some hF ?_))))))
 intro h2 hF
 refine c_elem (xs := free.g.Rules) (enc := eRule) 0 rfl h2 rfl rfl fun A5 L5 C5 => c_draw (n := 17) [0, 0, 0, 0, 0, 0, 0, 0] mixed rfl rfl (dv 0 rfl (vL 5 ty69) (dv 1 rfl vC (dv 2 rfl (vF 0) (dv 3 rfl (vF 2) (dv 4 rfl (vL 1 ty22) (dv 5 rfl (vF 0) ?_))))))
 refine dv 6 rfl (vL 0 ty3) (dv 7 rfl (v_indexAddr_s (xs := free.g.Rules) (enc := eRule) sl22 rfl rfl (.f 2 rfl) h2) (dv 8 rfl (v_fieldAddr (v := .pointer (some ⟨blkA A1, offA A1 + (Int.toNat x_.rule * 2 + 1), none⟩)) rfl (fun _ => by kernel_rfl)) (dv 9 rfl (v_load_cl 0 ty48 rfl rfl rfl rfl rfl) (dv 10 rfl (vF 1) (dv 11 rfl (vL 0 ty3) (dv 12 rfl vB (ite_some hF ?_)))))))
 intro h3 hF
 refine dv 13 rfl (v_indexAddr_s (xs := (at_ free.g.Rules x_.rule).Rhs) (enc := eKSym) sl48 rfl rfl (.f 1 rfl) h3) (dv 14 rfl (v_load_s (xs := (at_ free.g.Rules x_.rule).Rhs) (enc := eKSym) ty47 rfl (.f 1 rfl) h3 rfl rfl rfl rfl rfl rfl rfl) (dO 15 rfl (o_alloc zero47 rfl rfl ?_)))
 intro b5
 refine dN [1, 1, 1, 1, 1, 1, 1, 1] 0 (dO 16 rfl ((sT 0 ty47) (dN [1, 1, 1, 1, 1, 1, 1, 1] 0 ?_)))
 refine d_done_seq (by kernel_rfl) (c_seq (cR ((fD 2) (oV (vL 1 ty3) (oV vA (o_seq ?_))))))
 obtain ⟨o1, ho1, hF⟩ := bd hF
 refine c_cut (fun E N' => ∀ (A7 : OA) (L7 C7 : Nat), Sat E [(0, .agg (vForest_part x_).toArray), (2, pt b1), (5, pt b4), (7, nS), (8, sl A7 L7 C7), (9, pt b5)] [.box b5 47 [iI ((at_ ((at_ free.g.Rules x_.rule).Rhs) (IntKind.wrap .i64 (x_.dot - 1))).Nt), iU ((at_ ((at_ free.g.Rules x_.rule).Rhs) (IntKind.wrap .i64 (x_.dot - 1))).Set.w0), iU ((at_ ((at_ free.g.Rules x_.rule).Rhs) (IntKind.wrap .i64 (x_.dot - 1))).Set.w1), iU ((at_ ((at_ free.g.Rules x_.rule).Rhs) (IntKind.wrap .i64 (x_.dot - 1))).Set.w2), iU ((at_ ((at_ free.g.Rules x_.rule).Rhs) (IntKind.wrap .i64 (x_.dot - 1))).Set.w3)], .box b4 85 (vForest_part x_), .box b 91 [iI free.g.Nts, iI free.g.Start, sl A1 L1 C1, sl A2 L2 C2, sl A3 L3 C3, .map (some gb), .map (some gb1), .map (some gb2)], .mp gb (mEnc kForest_span (tenc o1.2.1)), .mp gb1 (mEnc kForest_span (tenc o1.2.2.1)), .mp gb2 (mEnc kForest_part (tenc o1.2.2.2)), .box b1 69 [pt b], .box b2 82 [.func (.func 42) #[] #[pt b1, pt b3]], .box b3 83 [.func (.func 37) #[] #[pt b1, pt b2, pt b3]], rW A7 L7 C7 31 1 (eSl 3 eTree) o1.1] [fS A1 L1 C1 2 eRule free.g.Rules, fS A2 L2 C2 1 eU8 free.w_, fS A3 L3 C3 1 (eSl 1 eI64) free.by_] N') (fun N1 hN1 => ?_) ?_
 refine c_block ?_
 refine c_loopE (fun E j a w => ∃ (out : List (List Tree)) (m : Int) (v_ : List (Forest_span × Int)) (v_1 : List (Forest_span × Int)) (v_2 : List (Forest_part × Int)) (A6 : OA) (L6 C6 : Nat), F.forest.Trees_c1_l1 k x_ free g42 most g37 j out m v_ v_1 v_2 = some o1 ∧ St E [(0, .agg (vForest_part x_).toArray), (1, iI most), (2, pt b1), (3, pt b2), (4, pt b3), (5, pt b4), (7, nS), (8, sl A6 L6 C6), (9, pt b5), (10, iI m)] [.box b5 47 [iI ((at_ ((at_ free.g.Rules x_.rule).Rhs) (IntKind.wrap .i64 (x_.dot - 1))).Nt), iU ((at_ ((at_ free.g.Rules x_.rule).Rhs) (IntKind.wrap .i64 (x_.dot - 1))).Set.w0), iU ((at_ ((at_ free.g.Rules x_.rule).Rhs) (IntKind.wrap .i64 (x_.dot - 1))).Set.w1), iU ((at_ ((at_ free.g.Rules x_.rule).Rhs) (IntKind.wrap .i64 (x_.dot - 1))).Set.w2), iU ((at_ ((at_ free.g.Rules x_.rule).Rhs) (IntKind.wrap .i64 (x_.dot - 1))).Set.w3)], .box b4 85 (vForest_part x_), .box b 91 [iI free.g.Nts, iI free.g.Start, sl A1 L1 C1, sl A2 L2 C2, sl A3 L3 C3, .map (some gb), .map (some gb1), .map (some gb2)], .mp gb (mEnc kForest_span (tenc v_)), .mp gb1 (mEnc kForest_span (tenc v_1)), .mp gb2 (mEnc kForest_part (tenc v_2)), .box b1 69 [pt b], .box b2 82 [.func (.func 42) #[] #[pt b1, pt b3]], .box b3 83 [.func (.func 37) #[] #[pt b1, pt b2, pt b3]], rW A6 L6 C6 31 1 (eSl 3 eTree) out] [fS A1 L1 C1 2 eRule free.g.Rules, fS A2 L2 C2 1 eU8 free.w_, fS A3 L3 C3 1 (eSl 1 eI64) free.by_] a w) k ?_ ?_
 refine s_st (st_nilrow 31 1) ?_
 exact lq [1, 1, 1, 1, 1, 1, 1, 1, 1, 0] [2, 3, 4] fun a w hs => ⟨([] : List (List Tree)), x_.from_, free.whole, free.counts, free.rows, none, 0, 0, ho1, hs⟩
 rintro j a w ⟨out, m, v_, v_1, v_2, A6, L6, C6, hL1, hs⟩
 rcases j with _ | j
 cases hL1
 refine wc_app hs ?_
 unfold F.forest.Trees_c1_l1 at hL1
 refine c_seq (c_seq ?_)
 refine cT (fun E H Φ N' => ∀ (t47 : Bool), F.forest.Trees_c1_j2 k free v_ v_1 v_2 x_ m (F.forest.Trees_c1_l1 k x_ free g42 most g37 j) out g42 most g37 t47 = some o1 → Sat E [(0, .agg (vForest_part x_).toArray), (1, iI most), (2, pt b1), (3, pt b2), (4, pt b3), (5, pt b4), (7, nS), (8, sl A6 L6 C6), (9, pt b5), (10, iI m), (47, bV t47)] H Φ N') (fun N9 hN9 => ?_) ?_
 refine c_region (oV vM ((fD 3) (oV (vL 1 ty3) (oV vB (oV vM ?_)))))
 refine oS 42 hL1 (fun hL1 => ?_) (fun hL1 => ?_)
 refine oN (oV vM (oN (oV (v_lenS (enc := (eSl 3 eTree)) out sl86 rfl (.r 9 _ rfl)) (oN (oV vM (oN (oV vB (oV vPt (o_nil ?_)))))))))
 exact sK [0, 0, 0, 0, 0, 0, 0, 0, 0, 0] [0, 1, 2] (hN9 (decide ((out.length : Int) < most)) hL1)
 refine oF (oF (oF (oF (oV vPf (o_nil ?_)))))
 exact sK [0, 0, 0, 0, 0, 0, 0, 0, 0, 0] [0, 1, 2] (hN9 false hL1)
 intro t47 hL1
 unfold F.forest.Trees_c1_j2 at hL1
 refine sat_wc ?_
 refine cC hL1 (fun hL1 => ?_) (fun hL1 => ?_)
 refine c_skip (sat_wc (c_seq ?_))
 refine cT (fun E H Φ N' => ∀ (out1 : List (List Tree)) (v_3 : List (Forest_span × Int)) (v_4 : List (Forest_span × Int)) (v_5 : List (Forest_part × Int)) (A8 : OA) (L8 C8 : Nat) (b6 : Nat), F.forest.Trees_c1_j3 (F.forest.Trees_c1_l1 k x_ free g42 most g37 j) m out1 v_3 v_4 v_5 = some o1 → Sat E [(0, .agg (vForest_part x_).toArray), (1, iI most), (2, pt b1), (3, pt b2), (4, pt b3), (5, pt b4), (7, nS), (8, sl A8 L8 C8), (9, pt b5), (10, iI m), (11, pt b6)] [.box b 91 [iI free.g.Nts, iI free.g.Start, sl A1 L1 C1, sl A2 L2 C2, sl A3 L3 C3, .map (some gb), .map (some gb1), .map (some gb2)], .mp gb (mEnc kForest_span (tenc v_3)), .mp gb1 (mEnc kForest_span (tenc v_4)), .mp gb2 (mEnc kForest_part (tenc v_5)), .box b5 47 [iI ((at_ ((at_ free.g.Rules x_.rule).Rhs) (IntKind.wrap .i64 (x_.dot - 1))).Nt), iU ((at_ ((at_ free.g.Rules x_.rule).Rhs) (IntKind.wrap .i64 (x_.dot - 1))).Set.w0), iU ((at_ ((at_ free.g.Rules x_.rule).Rhs) (IntKind.wrap .i64 (x_.dot - 1))).Set.w1), iU ((at_ ((at_ free.g.Rules x_.rule).Rhs) (IntKind.wrap .i64 (x_.dot - 1))).Set.w2), iU ((at_ ((at_ free.g.Rules x_.rule).Rhs) (IntKind.wrap .i64 (x_.dot - 1))).Set.w3)], .box b4 85 (vForest_part x_), .box b1 69 [pt b], .box b2 82 [.func (.func 42) #[] #[pt b1, pt b3]], .box b3 83 [.func (.func 37) #[] #[pt b1, pt b2, pt b3]], .box b6 85 [iI x_.rule, iI (IntKind.wrap .i64 (x_.dot - 1)), iI x_.from_, iI m], rW A8 L8 C8 31 1 (eSl 3 eTree) out1] Φ N') (fun N3 hN3 => ?_) ?_
 refine c_block (cR ((fD 0) (oV (vL 1 ty3) ((fD 1) (oV (vL 1 ty3) (oV vB ((fD 2) (oV (vL 1 ty3) (oV vM (oV (vU (.agg #[iI x_.rule, iI (IntKind.wrap .i64 (x_.dot - 1)), iI x_.from_, iI m])) (o_alloc zero85 rfl rfl ?_)))))))))))
 intro b7
 refine (sT 0 ty85) (o_seq (c_seq ?_))
 refine c_seq ?_
 refine cT (fun E H Φ N' => ∀ (t71 : Bool) (v_6 : List (Forest_span × Int)) (v_7 : List (Forest_span × Int)) (v_8 : List (Forest_part × Int)), F.forest.Trees_c1_j4 k (F.forest.Trees_c1_l1 k x_ free g42 most g37 j) m out free x_ g42 most g37 t71 v_6 v_7 v_8 = some o1 → Sat E [(0, .agg (vForest_part x_).toArray), (1, iI most), (2, pt b1), (3, pt b2), (4, pt b3), (5, pt b4), (7, nS), (8, sl A6 L6 C6), (9, pt b5), (10, iI m), (11, pt b7), (71, bV t71)] [.box b 91 [iI free.g.Nts, iI free.g.Start, sl A1 L1 C1, sl A2 L2 C2, sl A3 L3 C3, .map (some gb), .map (some gb1), .map (some gb2)], .mp gb (mEnc kForest_span (tenc v_6)), .mp gb1 (mEnc kForest_span (tenc v_7)), .mp gb2 (mEnc kForest_part (tenc v_8)), .box b7 85 [iI x_.rule, iI (IntKind.wrap .i64 (x_.dot - 1)), iI x_.from_, iI m], .box b5 47 [iI ((at_ ((at_ free.g.Rules x_.rule).Rhs) (IntKind.wrap .i64 (x_.dot - 1))).Nt), iU ((at_ ((at_ free.g.Rules x_.rule).Rhs) (IntKind.wrap .i64 (x_.dot - 1))).Set.w0), iU ((at_ ((at_ free.g.Rules x_.rule).Rhs) (IntKind.wrap .i64 (x_.dot - 1))).Set.w1), iU ((at_ ((at_ free.g.Rules x_.rule).Rhs) (IntKind.wrap .i64 (x_.dot - 1))).Set.w2), iU ((at_ ((at_ free.g.Rules x_.rule).Rhs) (IntKind.wrap .i64 (x_.dot - 1))).Set.w3)], .box b4 85 (vForest_part x_), .box b1 69 [pt b], .box b2 82 [.func (.func 42) #[] #[pt b1, pt b3]], .box b3 83 [.func (.func 37) #[] #[pt b1, pt b2, pt b3]], rW A6 L6 C6 31 1 (eSl 3 eTree) out] Φ N') (fun N9 hN9 => ?_) ?_
 refine c_region (oV (vL 7 ty69) (oV (vL 1 ty47) (oV vM ((fD 3) (oV (vL 2 ty3) ?_)))))
 obtain ⟨v_16, h22, hL1⟩ := bd hL1
 refine ocl [3, 3, 3, 3] call38 rfl rfl (subs [0, 1, 2] rfl) (tri38 h22 :) ?_
 rintro _ _ _ ⟨rfl, rfl, rfl⟩
 refine o_H [.box b 91 [iI free.g.Nts, iI free.g.Start, sl A1 L1 C1, sl A2 L2 C2, sl A3 L3 C3, .map (some gb), .map (some gb1), .map (some gb2)], .mp gb (mEnc kForest_span (tenc v_)), .mp gb1 (mEnc kForest_span (tenc v_1)), .mp gb2 (mEnc kForest_part (tenc v_2)), .box b7 85 [iI x_.rule, iI (IntKind.wrap .i64 (x_.dot - 1)), iI x_.from_, iI m], .box b5 47 [iI ((at_ ((at_ free.g.Rules x_.rule).Rhs) (IntKind.wrap .i64 (x_.dot - 1))).Nt), iU ((at_ ((at_ free.g.Rules x_.rule).Rhs) (IntKind.wrap .i64 (x_.dot - 1))).Set.w0), iU ((at_ ((at_ free.g.Rules x_.rule).Rhs) (IntKind.wrap .i64 (x_.dot - 1))).Set.w1), iU ((at_ ((at_ free.g.Rules x_.rule).Rhs) (IntKind.wrap .i64 (x_.dot - 1))).Set.w2), iU ((at_ ((at_ free.g.Rules x_.rule).Rhs) (IntKind.wrap .i64 (x_.dot - 1))).Set.w3)], .box b4 85 (vForest_part x_), .box b1 69 [pt b], .box b2 82 [.func (.func 42) #[] #[pt b1, pt b3]], .box b3 83 [.func (.func 37) #[] #[pt b1, pt b2, pt b3]], rW A6 L6 C6 31 1 (eSl 3 eTree) out] rfl (oV vN (oV vM ?_))
 refine oS 66 hL1 (fun hL1 => ?_) (fun hL1 => ?_)
 refine oF (oF (oF (oF (oV vPt (o_nil ?_)))))
 exact sK [0, 0, 0, 0, 0, 0, 0, 0, 0, 0, 0] [0, 1, 2] (hN9 true v_ v_1 v_2 hL1)
 refine oN (oV (vL 7 ty69) (oN (oV (vL 4 ty85) (oN ?_))))
 obtain ⟨v_17, h24, hL1⟩ := bd hL1
 refine ocl [0, 0, 0, 0] call39 rfl rfl (subs [0, 1, 2] rfl) (tri39 h24 :) ?_
 rintro _ _ _ ⟨rfl, rfl, rfl⟩
 refine o_H [.box b 91 [iI free.g.Nts, iI free.g.Start, sl A1 L1 C1, sl A2 L2 C2, sl A3 L3 C3, .map (some gb), .map (some gb1), .map (some gb2)], .mp gb (mEnc kForest_span (tenc v_17.2.whole)), .mp gb1 (mEnc kForest_span (tenc v_17.2.counts)), .mp gb2 (mEnc kForest_part (tenc v_17.2.rows)), .box b7 85 [iI x_.rule, iI (IntKind.wrap .i64 (x_.dot - 1)), iI x_.from_, iI m], .box b5 47 [iI ((at_ ((at_ free.g.Rules x_.rule).Rhs) (IntKind.wrap .i64 (x_.dot - 1))).Nt), iU ((at_ ((at_ free.g.Rules x_.rule).Rhs) (IntKind.wrap .i64 (x_.dot - 1))).Set.w0), iU ((at_ ((at_ free.g.Rules x_.rule).Rhs) (IntKind.wrap .i64 (x_.dot - 1))).Set.w1), iU ((at_ ((at_ free.g.Rules x_.rule).Rhs) (IntKind.wrap .i64 (x_.dot - 1))).Set.w2), iU ((at_ ((at_ free.g.Rules x_.rule).Rhs) (IntKind.wrap .i64 (x_.dot - 1))).Set.w3)], .box b4 85 (vForest_part x_), .box b1 69 [pt b], .box b2 82 [.func (.func 42) #[] #[pt b1, pt b3]], .box b3 83 [.func (.func 37) #[] #[pt b1, pt b2, pt b3]], rW A6 L6 C6 31 1 (eSl 3 eTree) out] rfl (oN (oV vB (oV vPf (o_nil ?_))))
 exact sK [0, 0, 0, 0, 0, 0, 0, 0, 0, 0, 0] [0, 1, 2] (hN9 (v_17.1 == 0) v_17.2.whole v_17.2.counts v_17.2.rows hL1)
 intro t71 v_6 v_7 v_8 hL1
 unfold F.forest.Trees_c1_j4 at hL1
 refine sat_wc ?_
 refine cC hL1 (fun hL1 => ?_) (fun hL1 => ?_)
 refine c_exit0 ?_
 exact sK [0, 0, 0, 0, 1, 1, 1, 1, 1, 0, 0] [0, 1, 2] (hN3 out v_6 v_7 v_8 A6 L6 C6 b7 hL1)
 refine c_skip (sat_wc (cR (oV (vU (.agg #[iI (-1), iB 0, nS])) (o_st (st_nilfact 3) (o_buildSlice (enc := eTree) ([(Tree.mk (-1) 0 ([] : List Tree))] : List Tree) [iI (-1), iB 0, nS] sl31 rfl (fun _ => by kernel_rfl) rfl rfl (by simp only [List.map, List.all, eTree_eq] <;> rfl) (cp_of (ds := [.int .i64 (-1), .int .u8 0, .slice 3 (([] : List Tree).map eTree)]) (by simp only [List.map, List.flatten, eTree_eq] <;> rfl) (.s rfl (.s rfl (.f 0 rfl (.nil))))) rfl ?_)))))
 intro A9 L9 C9
 refine oV vA (o_seq (c_seq (cR ((fD 0) (oV (vL 6 ty3) (oV vB (o_seq ?_)))))))
 refine c_cut (fun E N' => ∀ (last : List Tree) (v_9 : List (Forest_span × Int)) (v_10 : List (Forest_span × Int)) (v_11 : List (Forest_part × Int)) (A10 : OA) (L10 C10 : Nat), F.forest.Trees_c1_j5 k g37 x_ m most out free (F.forest.Trees_c1_l1 k x_ free g42 most g37 j) last v_9 v_10 v_11 = some o1 → Sat E [(0, .agg (vForest_part x_).toArray), (1, iI most), (2, pt b1), (3, pt b2), (4, pt b3), (5, pt b4), (7, nS), (8, sl A6 L6 C6), (9, pt b5), (10, iI m), (11, pt b7), (12, sl A10 L10 C10)] [.box b 91 [iI free.g.Nts, iI free.g.Start, sl A1 L1 C1, sl A2 L2 C2, sl A3 L3 C3, .map (some gb), .map (some gb1), .map (some gb2)], .mp gb (mEnc kForest_span (tenc v_9)), .mp gb1 (mEnc kForest_span (tenc v_10)), .mp gb2 (mEnc kForest_part (tenc v_11)), .box b1 69 [pt b], .box b3 83 [.func (.func 37) #[] #[pt b1, pt b2, pt b3]], .box b2 82 [.func (.func 42) #[] #[pt b1, pt b3]], .box b7 85 [iI x_.rule, iI (IntKind.wrap .i64 (x_.dot - 1)), iI x_.from_, iI m], .box b5 47 [iI ((at_ ((at_ free.g.Rules x_.rule).Rhs) (IntKind.wrap .i64 (x_.dot - 1))).Nt), iU ((at_ ((at_ free.g.Rules x_.rule).Rhs) (IntKind.wrap .i64 (x_.dot - 1))).Set.w0), iU ((at_ ((at_ free.g.Rules x_.rule).Rhs) (IntKind.wrap .i64 (x_.dot - 1))).Set.w1), iU ((at_ ((at_ free.g.Rules x_.rule).Rhs) (IntKind.wrap .i64 (x_.dot - 1))).Set.w2), iU ((at_ ((at_ free.g.Rules x_.rule).Rhs) (IntKind.wrap .i64 (x_.dot - 1))).Set.w3)], .box b4 85 (vForest_part x_), rW A6 L6 C6 31 1 (eSl 3 eTree) out, rW A10 L10 C10 37 3 eTree last] [fS A1 L1 C1 2 eRule free.g.Rules, fS A2 L2 C2 1 eU8 free.w_, fS A3 L3 C3 1 (eSl 1 eI64) free.by_] N') (fun N9 hN9 => ?_) ?_
 refine cC hL1 (fun hL1 => ?_) (fun hL1 => ?_)
 refine c_region (oV (vL 9 ty82) ((fD 0) (oV (vL 6 ty3) (oV vM ((fD 3) (oV (vL 7 ty3) (oV (vU (.agg #[iI ((at_ ((at_ free.g.Rules x_.rule).Rhs) (IntKind.wrap .i64 (x_.dot - 1))).Nt), iI m, iI x_.to])) (oV vM (oV vM (oV (v_lenS (enc := (eSl 3 eTree)) out sl86 rfl (.r 11 _ rfl)) (oV vB ?_)))))))))))
 obtain ⟨v_15, h19, hL1⟩ := bd hL1
 refine o_call [1, 1, 1, 1, 4, 5, 4] call42 (cap := #[pt b1, pt b3]) rfl rfl rfl (subs [1, 2, 3] rfl) (by exact (hg42 h19 :)) rfl ?_
 rintro _ _ _ ⟨A27, L27, C27, rfl, rfl, rfl⟩
 refine o_H [.box b 91 [iI free.g.Nts, iI free.g.Start, sl A1 L1 C1, sl A2 L2 C2, sl A3 L3 C3, .map (some gb), .map (some gb1), .map (some gb2)], .mp gb (mEnc kForest_span (tenc v_15.2.whole)), .mp gb1 (mEnc kForest_span (tenc v_15.2.counts)), .mp gb2 (mEnc kForest_part (tenc v_15.2.rows)), .box b1 69 [pt b], .box b3 83 [.func (.func 37) #[] #[pt b1, pt b2, pt b3]], .box b2 82 [.func (.func 42) #[] #[pt b1, pt b3]], rW A27 L27 C27 37 3 eTree v_15.1, .row (sl A9 L9 C9) 37 3 (([(Tree.mk (-1) 0 ([] : List Tree))] : List Tree).map eTree), .box b7 85 [iI x_.rule, iI (IntKind.wrap .i64 (x_.dot - 1)), iI x_.from_, iI m], .box b5 47 [iI ((at_ ((at_ free.g.Rules x_.rule).Rhs) (IntKind.wrap .i64 (x_.dot - 1))).Nt), iU ((at_ ((at_ free.g.Rules x_.rule).Rhs) (IntKind.wrap .i64 (x_.dot - 1))).Set.w0), iU ((at_ ((at_ free.g.Rules x_.rule).Rhs) (IntKind.wrap .i64 (x_.dot - 1))).Set.w1), iU ((at_ ((at_ free.g.Rules x_.rule).Rhs) (IntKind.wrap .i64 (x_.dot - 1))).Set.w2), iU ((at_ ((at_ free.g.Rules x_.rule).Rhs) (IntKind.wrap .i64 (x_.dot - 1))).Set.w3)], .box b4 85 (vForest_part x_), rW A6 L6 C6 31 1 (eSl 3 eTree) out] rfl (oV vA (o_nil ?_))
 exact sK [0, 0, 0, 0, 0, 0, 0, 2, 2, 2, 2, 0] [1, 2, 3] (hN9 v_15.1 v_15.2.whole v_15.2.counts v_15.2.rows A27 L27 C27 hL1)
 refine c_region (oV vM (oV (vL 8 ty69) (oV vC ((fD 3) (oV (vL 1 ty25) (oV vM (ite_some hL1 ?_)))))))
 intro h20 hL1
 refine oV (v_indexAddr_s (xs := free.w_) (enc := eU8) sl25 rfl rfl (.f 2 rfl) h20) (oV (v_load_s (xs := free.w_) (enc := eU8) ty5 rfl (.f 2 rfl) h20 rfl rfl rfl rfl rfl rfl rfl) (ite_some hL1 ?_))
 intro h21 hL1
 refine oV (v_indexAddr_s (xs := ([(Tree.mk (-1) 0 ([] : List Tree))] : List Tree)) (enc := eTree) sl31 rfl rfl (.r 0 _ rfl) h21) (oV (v_fieldAddr (v := .pointer (some ⟨blkA A9, offA A9 + (Int.toNat 0 * 3 + 1), none⟩)) rfl (fun _ => by kernel_rfl)) (o_store_s (xs := ([(Tree.mk (-1) 0 ([] : List Tree))] : List Tree)) (enc := eTree) 0 (Tree.mk ((at_ ([(Tree.mk (-1) 0 ([] : List Tree))] : List Tree) 0).Rule) (at_ free.w_ m) ((at_ ([(Tree.mk (-1) 0 ([] : List Tree))] : List Tree) 0).Kids)) rfl ty5 rfl rfl rfl rfl h21 (.s rfl (.nil)) rfl rfl (by simp only [eTree_eq] <;> rfl) (o_H [.row (sl A9 L9 C9) 37 3 ((set_ ([(Tree.mk (-1) 0 ([] : List Tree))] : List Tree) 0 (Tree.mk ((at_ ([(Tree.mk (-1) 0 ([] : List Tree))] : List Tree) 0).Rule) (at_ free.w_ m) ((at_ ([(Tree.mk (-1) 0 ([] : List Tree))] : List Tree) 0).Kids))).map eTree), .box b 91 [iI free.g.Nts, iI free.g.Start, sl A1 L1 C1, sl A2 L2 C2, sl A3 L3 C3, .map (some gb), .map (some gb1), .map (some gb2)], .mp gb (mEnc kForest_span (tenc v_6)), .mp gb1 (mEnc kForest_span (tenc v_7)), .mp gb2 (mEnc kForest_part (tenc v_8)), .box b7 85 [iI x_.rule, iI (IntKind.wrap .i64 (x_.dot - 1)), iI x_.from_, iI m], .box b5 47 [iI ((at_ ((at_ free.g.Rules x_.rule).Rhs) (IntKind.wrap .i64 (x_.dot - 1))).Nt), iU ((at_ ((at_ free.g.Rules x_.rule).Rhs) (IntKind.wrap .i64 (x_.dot - 1))).Set.w0), iU ((at_ ((at_ free.g.Rules x_.rule).Rhs) (IntKind.wrap .i64 (x_.dot - 1))).Set.w1), iU ((at_ ((at_ free.g.Rules x_.rule).Rhs) (IntKind.wrap .i64 (x_.dot - 1))).Set.w2), iU ((at_ ((at_ free.g.Rules x_.rule).Rhs) (IntKind.wrap .i64 (x_.dot - 1))).Set.w3)], .box b4 85 (vForest_part x_), .box b1 69 [pt b], .box b2 82 [.func (.func 42) #[] #[pt b1, pt b3]], .box b3 83 [.func (.func 37) #[] #[pt b1, pt b2, pt b3]], rW A6 L6 C6 31 1 (eSl 3 eTree) out] rfl (o_nil ?_))))
 exact sK [1, 1, 1, 1, 4, 5, 4, 1, 1, 1, 1, 0] [1, 2, 3] (hN9 (set_ ([(Tree.mk (-1) 0 ([] : List Tree))] : List Tree) 0 (Tree.mk ((at_ ([(Tree.mk (-1) 0 ([] : List Tree))] : List Tree) 0).Rule) (at_ free.w_ m) ((at_ ([(Tree.mk (-1) 0 ([] : List Tree))] : List Tree) 0).Kids))) v_6 v_7 v_8 A9 L9 C9 hL1)
 intro last v_9 v_10 v_11 A10 L10 C10 hL1
 unfold F.forest.Trees_c1_j5 at hL1
 refine sat_wc (cR (oV (vL 5 ty83) (oV (vL 7 ty85) (oV vM (oV vM (oV (v_lenS (enc := (eSl 3 eTree)) out sl86 rfl (.r 10 _ rfl)) (oV vB ?_)))))))
 obtain ⟨v_12, h6, hL1⟩ := bd hL1
 refine o_call [0, 0, 0, 0, 0, 1, 0] call37 (cap := #[pt b1, pt b2, pt b3]) rfl rfl rfl (subs [0, 1, 2] rfl) (by exact (hg37 h6 :)) rfl ?_
 rintro _ _ _ ⟨A11, L11, C11, rfl, rfl, rfl⟩
 refine o_H [.box b 91 [iI free.g.Nts, iI free.g.Start, sl A1 L1 C1, sl A2 L2 C2, sl A3 L3 C3, .map (some gb), .map (some gb1), .map (some gb2)], .mp gb (mEnc kForest_span (tenc v_12.2.whole)), .mp gb1 (mEnc kForest_span (tenc v_12.2.counts)), .mp gb2 (mEnc kForest_part (tenc v_12.2.rows)), .box b1 69 [pt b], .box b2 82 [.func (.func 42) #[] #[pt b1, pt b3]], .box b3 83 [.func (.func 37) #[] #[pt b1, pt b2, pt b3]], rW A11 L11 C11 31 1 (eSl 3 eTree) v_12.1, .box b7 85 [iI x_.rule, iI (IntKind.wrap .i64 (x_.dot - 1)), iI x_.from_, iI m], .box b5 47 [iI ((at_ ((at_ free.g.Rules x_.rule).Rhs) (IntKind.wrap .i64 (x_.dot - 1))).Nt), iU ((at_ ((at_ free.g.Rules x_.rule).Rhs) (IntKind.wrap .i64 (x_.dot - 1))).Set.w0), iU ((at_ ((at_ free.g.Rules x_.rule).Rhs) (IntKind.wrap .i64 (x_.dot - 1))).Set.w1), iU ((at_ ((at_ free.g.Rules x_.rule).Rhs) (IntKind.wrap .i64 (x_.dot - 1))).Set.w2), iU ((at_ ((at_ free.g.Rules x_.rule).Rhs) (IntKind.wrap .i64 (x_.dot - 1))).Set.w3)], .box b4 85 (vForest_part x_), rW A6 L6 C6 31 1 (eSl 3 eTree) out, rW A10 L10 C10 37 3 eTree last] rfl (oV (v_lenS (enc := (eSl 3 eTree)) v_12.1 sl86 rfl (.r 7 _ rfl)) (oV vM (o_seq ?_)))
 obtain ⟨o6, ho6, hL1⟩ := bd hL1
 refine cT (fun E H Φ N' => ∀ (A13 : OA) (L13 C13 : Nat), Sat E [(0, .agg (vForest_part x_).toArray), (1, iI most), (2, pt b1), (3, pt b2), (4, pt b3), (5, pt b4), (7, nS), (8, sl A13 L13 C13), (9, pt b5), (10, iI m), (11, pt b7), (12, sl A10 L10 C10), (105, sl A11 L11 C11), (106, iI (v_12.1.length : Int)), (107, iI o6.2)] [.box b 91 [iI free.g.Nts, iI free.g.Start, sl A1 L1 C1, sl A2 L2 C2, sl A3 L3 C3, .map (some gb), .map (some gb1), .map (some gb2)], .mp gb (mEnc kForest_span (tenc v_12.2.whole)), .mp gb1 (mEnc kForest_span (tenc v_12.2.counts)), .mp gb2 (mEnc kForest_part (tenc v_12.2.rows)), .box b1 69 [pt b], .box b2 82 [.func (.func 42) #[] #[pt b1, pt b3]], .box b3 83 [.func (.func 37) #[] #[pt b1, pt b2, pt b3]], .box b7 85 [iI x_.rule, iI (IntKind.wrap .i64 (x_.dot - 1)), iI x_.from_, iI m], .box b5 47 [iI ((at_ ((at_ free.g.Rules x_.rule).Rhs) (IntKind.wrap .i64 (x_.dot - 1))).Nt), iU ((at_ ((at_ free.g.Rules x_.rule).Rhs) (IntKind.wrap .i64 (x_.dot - 1))).Set.w0), iU ((at_ ((at_ free.g.Rules x_.rule).Rhs) (IntKind.wrap .i64 (x_.dot - 1))).Set.w1), iU ((at_ ((at_ free.g.Rules x_.rule).Rhs) (IntKind.wrap .i64 (x_.dot - 1))).Set.w2), iU ((at_ ((at_ free.g.Rules x_.rule).Rhs) (IntKind.wrap .i64 (x_.dot - 1))).Set.w3)], .box b4 85 (vForest_part x_), rW A13 L13 C13 31 1 (eSl 3 eTree) o6.1, rW A10 L10 C10 37 3 eTree last, rW A11 L11 C11 31 1 (eSl 3 eTree) v_12.1] Φ N') (fun N6 hN6 => ?_) ?_
 refine c_block ?_
 refine cL (fun E H Φ j a w => ∃ (out2 : List (List Tree)) (t107 : Int) (A12 : OA) (L12 C12 : Nat), F.forest.Trees_c1_l6 k v_12 last most j out2 t107 = some o6 ∧ St E [(0, .agg (vForest_part x_).toArray), (1, iI most), (2, pt b1), (3, pt b2), (4, pt b3), (5, pt b4), (7, nS), (8, sl A12 L12 C12), (9, pt b5), (10, iI m), (11, pt b7), (12, sl A10 L10 C10), (105, sl A11 L11 C11), (106, iI (v_12.1.length : Int)), (107, iI t107)] [.box b 91 [iI free.g.Nts, iI free.g.Start, sl A1 L1 C1, sl A2 L2 C2, sl A3 L3 C3, .map (some gb), .map (some gb1), .map (some gb2)], .mp gb (mEnc kForest_span (tenc v_12.2.whole)), .mp gb1 (mEnc kForest_span (tenc v_12.2.counts)), .mp gb2 (mEnc kForest_part (tenc v_12.2.rows)), .box b1 69 [pt b], .box b2 82 [.func (.func 42) #[] #[pt b1, pt b3]], .box b3 83 [.func (.func 37) #[] #[pt b1, pt b2, pt b3]], .box b7 85 [iI x_.rule, iI (IntKind.wrap .i64 (x_.dot - 1)), iI x_.from_, iI m], .box b5 47 [iI ((at_ ((at_ free.g.Rules x_.rule).Rhs) (IntKind.wrap .i64 (x_.dot - 1))).Nt), iU ((at_ ((at_ free.g.Rules x_.rule).Rhs) (IntKind.wrap .i64 (x_.dot - 1))).Set.w0), iU ((at_ ((at_ free.g.Rules x_.rule).Rhs) (IntKind.wrap .i64 (x_.dot - 1))).Set.w1), iU ((at_ ((at_ free.g.Rules x_.rule).Rhs) (IntKind.wrap .i64 (x_.dot - 1))).Set.w2), iU ((at_ ((at_ free.g.Rules x_.rule).Rhs) (IntKind.wrap .i64 (x_.dot - 1))).Set.w3)], .box b4 85 (vForest_part x_), rW A12 L12 C12 31 1 (eSl 3 eTree) out2, rW A10 L10 C10 37 3 eTree last, rW A11 L11 C11 31 1 (eSl 3 eTree) v_12.1] Φ a w) k ?_ ?_
 exact lq [0, 0, 0, 0, 0, 0, 0, 1, 1, 1, 1, 1, 0] [0, 1, 2] fun a w hs => ⟨out, 0, A6, L6, C6, ho6, hs⟩
 rintro j a w ⟨out2, t107, A12, L12, C12, hL6, hs⟩
 rcases j with _ | j
 cases hL6
 refine wc_app hs ?_
 unfold F.forest.Trees_c1_l6 at hL6
 refine cR (oV vB (o_seq (c_seq ?_)))
 refine cC hL6 (fun hL6 => ?_) (fun hL6 => ?_)
 refine c_skip (sat_wc (c_seq (c_block (cR (ite_some hL6 fun h8 hL6 => oV (v_indexAddr_s (xs := v_12.1) (enc := (eSl 3 eTree)) sl86 rfl rfl (.r 12 _ rfl) h8) (o_load_s (xs := v_12.1) (enc := (eSl 3 eTree)) ty31 rfl (.r 12 _ rfl) h8 rfl rfl rfl rfl rfl rfl ?_))))))
 intro A14 L14 C14
 refine oV vA (o_seq (cR (oV vM (oV (v_lenS (enc := eTree) last sl31 rfl (.r 11 _ rfl)) (oV vM ?_)))))
 refine o_seq ?_
 obtain ⟨o7, ho7, hL6⟩ := bd hL6
 refine cT (fun E H Φ N' => ∀ (A16 : OA) (L16 C16 : Nat), Sat E [(0, .agg (vForest_part x_).toArray), (1, iI most), (2, pt b1), (3, pt b2), (4, pt b3), (5, pt b4), (7, nS), (8, sl A16 L16 C16), (9, pt b5), (10, iI m), (11, pt b7), (12, sl A10 L10 C10), (14, sl A14 L14 C14), (105, sl A11 L11 C11), (106, iI (v_12.1.length : Int)), (107, iI t107), (111, sl A10 L10 C10), (112, iI (last.length : Int)), (113, iI o7.2)] [.box b 91 [iI free.g.Nts, iI free.g.Start, sl A1 L1 C1, sl A2 L2 C2, sl A3 L3 C3, .map (some gb), .map (some gb1), .map (some gb2)], .mp gb (mEnc kForest_span (tenc v_12.2.whole)), .mp gb1 (mEnc kForest_span (tenc v_12.2.counts)), .mp gb2 (mEnc kForest_part (tenc v_12.2.rows)), .box b1 69 [pt b], .box b2 82 [.func (.func 42) #[] #[pt b1, pt b3]], .box b3 83 [.func (.func 37) #[] #[pt b1, pt b2, pt b3]], .box b7 85 [iI x_.rule, iI (IntKind.wrap .i64 (x_.dot - 1)), iI x_.from_, iI m], .box b5 47 [iI ((at_ ((at_ free.g.Rules x_.rule).Rhs) (IntKind.wrap .i64 (x_.dot - 1))).Nt), iU ((at_ ((at_ free.g.Rules x_.rule).Rhs) (IntKind.wrap .i64 (x_.dot - 1))).Set.w0), iU ((at_ ((at_ free.g.Rules x_.rule).Rhs) (IntKind.wrap .i64 (x_.dot - 1))).Set.w1), iU ((at_ ((at_ free.g.Rules x_.rule).Rhs) (IntKind.wrap .i64 (x_.dot - 1))).Set.w2), iU ((at_ ((at_ free.g.Rules x_.rule).Rhs) (IntKind.wrap .i64 (x_.dot - 1))).Set.w3)], .box b4 85 (vForest_part x_), rW A16 L16 C16 31 1 (eSl 3 eTree) o7.1, rW A10 L10 C10 37 3 eTree last, rW A11 L11 C11 31 1 (eSl 3 eTree) v_12.1] Φ N') (fun N7 hN7 => ?_) ?_
 refine c_block ?_
 refine cL (fun E H Φ j a w => ∃ (out3 : List (List Tree)) (t113 : Int) (A15 : OA) (L15 C15 : Nat), F.forest.Trees_c1_l7 k last most v_12 t107 j out3 t113 = some o7 ∧ St E [(0, .agg (vForest_part x_).toArray), (1, iI most), (2, pt b1), (3, pt b2), (4, pt b3), (5, pt b4), (7, nS), (8, sl A15 L15 C15), (9, pt b5), (10, iI m), (11, pt b7), (12, sl A10 L10 C10), (14, sl A14 L14 C14), (105, sl A11 L11 C11), (106, iI (v_12.1.length : Int)), (107, iI t107), (111, sl A10 L10 C10), (112, iI (last.length : Int)), (113, iI t113)] [.box b 91 [iI free.g.Nts, iI free.g.Start, sl A1 L1 C1, sl A2 L2 C2, sl A3 L3 C3, .map (some gb), .map (some gb1), .map (some gb2)], .mp gb (mEnc kForest_span (tenc v_12.2.whole)), .mp gb1 (mEnc kForest_span (tenc v_12.2.counts)), .mp gb2 (mEnc kForest_part (tenc v_12.2.rows)), .box b1 69 [pt b], .box b2 82 [.func (.func 42) #[] #[pt b1, pt b3]], .box b3 83 [.func (.func 37) #[] #[pt b1, pt b2, pt b3]], .box b7 85 [iI x_.rule, iI (IntKind.wrap .i64 (x_.dot - 1)), iI x_.from_, iI m], .box b5 47 [iI ((at_ ((at_ free.g.Rules x_.rule).Rhs) (IntKind.wrap .i64 (x_.dot - 1))).Nt), iU ((at_ ((at_ free.g.Rules x_.rule).Rhs) (IntKind.wrap .i64 (x_.dot - 1))).Set.w0), iU ((at_ ((at_ free.g.Rules x_.rule).Rhs) (IntKind.wrap .i64 (x_.dot - 1))).Set.w1), iU ((at_ ((at_ free.g.Rules x_.rule).Rhs) (IntKind.wrap .i64 (x_.dot - 1))).Set.w2), iU ((at_ ((at_ free.g.Rules x_.rule).Rhs) (IntKind.wrap .i64 (x_.dot - 1))).Set.w3)], .box b4 85 (vForest_part x_), rW A15 L15 C15 31 1 (eSl 3 eTree) out3, rW A10 L10 C10 37 3 eTree last, rW A11 L11 C11 31 1 (eSl 3 eTree) v_12.1] Φ a w) k ?_ ?_
 exact lq [0, 0, 0, 0, 0, 0, 0, 0, 0, 0, 0, 0, 0] [0, 1, 2, 3] fun a w hs => ⟨out2, 0, A12, L12, C12, ho7, hs⟩
 rintro j a w ⟨out3, t113, A15, L15, C15, hL7, hs⟩
 rcases j with _ | j
 cases hL7
 refine wc_app hs ?_
 unfold F.forest.Trees_c1_l7 at hL7
 refine cR (oV vB (o_seq (c_seq ?_)))
 refine cC hL7 (fun hL7 => ?_) (fun hL7 => ?_)
 refine c_skip (sat_wc (c_seq ?_))
 refine c_cut (fun E N' => ∀ (out4 : List (List Tree)) (A17 : OA) (L17 C17 : Nat) (A18 : OA) (L18 C18 : Nat) (b8 : Nat), F.forest.Trees_c1_j8 (F.forest.Trees_c1_l7 k last most v_12 t107 j) t113 out4 = some o7 → Sat E [(0, .agg (vForest_part x_).toArray), (1, iI most), (2, pt b1), (3, pt b2), (4, pt b3), (5, pt b4), (7, nS), (8, sl A17 L17 C17), (9, pt b5), (10, iI m), (11, pt b7), (12, sl A10 L10 C10), (14, sl A14 L14 C14), (16, pt b8), (105, sl A11 L11 C11), (106, iI (v_12.1.length : Int)), (107, iI t107), (111, sl A10 L10 C10), (112, iI (last.length : Int)), (113, iI t113)] [.box b 91 [iI free.g.Nts, iI free.g.Start, sl A1 L1 C1, sl A2 L2 C2, sl A3 L3 C3, .map (some gb), .map (some gb1), .map (some gb2)], .mp gb (mEnc kForest_span (tenc v_12.2.whole)), .mp gb1 (mEnc kForest_span (tenc v_12.2.counts)), .mp gb2 (mEnc kForest_part (tenc v_12.2.rows)), .box b1 69 [pt b], .box b2 82 [.func (.func 42) #[] #[pt b1, pt b3]], .box b3 83 [.func (.func 37) #[] #[pt b1, pt b2, pt b3]], .box b7 85 [iI x_.rule, iI (IntKind.wrap .i64 (x_.dot - 1)), iI x_.from_, iI m], .box b5 47 [iI ((at_ ((at_ free.g.Rules x_.rule).Rhs) (IntKind.wrap .i64 (x_.dot - 1))).Nt), iU ((at_ ((at_ free.g.Rules x_.rule).Rhs) (IntKind.wrap .i64 (x_.dot - 1))).Set.w0), iU ((at_ ((at_ free.g.Rules x_.rule).Rhs) (IntKind.wrap .i64 (x_.dot - 1))).Set.w1), iU ((at_ ((at_ free.g.Rules x_.rule).Rhs) (IntKind.wrap .i64 (x_.dot - 1))).Set.w2), iU ((at_ ((at_ free.g.Rules x_.rule).Rhs) (IntKind.wrap .i64 (x_.dot - 1))).Set.w3)], .box b4 85 (vForest_part x_), .box b8 37 (vTree (at_ last t113) A18 L18 C18), rW A17 L17 C17 31 1 (eSl 3 eTree) out4, rW A10 L10 C10 37 3 eTree last, rW A11 L11 C11 31 1 (eSl 3 eTree) v_12.1] [fS A14 L14 C14 3 eTree (at_ v_12.1 t107), fS A1 L1 C1 2 eRule free.g.Rules, fS A2 L2 C2 1 eU8 free.w_, fS A3 L3 C3 1 (eSl 1 eI64) free.by_, fS A18 L18 C18 3 eTree ((at_ last t113).Kids)] N') (fun N8 hN8 => ?_) ?_
 refine c_block (cR (ite_some hL7 fun h10 hL7 => oV (v_indexAddr_s (xs := last) (enc := eTree) sl31 rfl rfl (.r 11 _ rfl) h10) (o_load_s (ds := [.int .i64 ((at_ last t113).Rule), .int .u8 ((at_ last t113).Byte), .slice 3 (((at_ last t113).Kids).map eTree)]) (xs := last) (enc := eTree) ty37 rfl (.r 11 _ rfl) h10 (by simp only [eTree_eq] <;> rfl) rfl rfl rfl rfl rfl ?_)))
 intro A19 L19 C19
 refine o_alloc zero37 rfl rfl fun b9 => (sT 0 ty37) (o_seq (cR (oV vM (oV (v_lenS (enc := (eSl 3 eTree)) out3 sl86 rfl (.r 11 _ rfl)) (oV vM (oV vB (o_seq ?_)))))))
 refine c_cut (fun E N' => ∀ (out5 : List (List Tree)) (A20 : OA) (L20 C20 : Nat), F.forest.Trees_c1_j9 (F.forest.Trees_c1_l7 k last most v_12 t107 j) t113 out5 = some o7 → Sat E [(0, .agg (vForest_part x_).toArray), (1, iI most), (2, pt b1), (3, pt b2), (4, pt b3), (5, pt b4), (7, nS), (8, sl A20 L20 C20), (9, pt b5), (10, iI m), (11, pt b7), (12, sl A10 L10 C10), (14, sl A14 L14 C14), (16, pt b9), (105, sl A11 L11 C11), (106, iI (v_12.1.length : Int)), (107, iI t107), (111, sl A10 L10 C10), (112, iI (last.length : Int)), (113, iI t113)] [.box b9 37 (vTree (at_ last t113) A19 L19 C19), .box b 91 [iI free.g.Nts, iI free.g.Start, sl A1 L1 C1, sl A2 L2 C2, sl A3 L3 C3, .map (some gb), .map (some gb1), .map (some gb2)], .mp gb (mEnc kForest_span (tenc v_12.2.whole)), .mp gb1 (mEnc kForest_span (tenc v_12.2.counts)), .mp gb2 (mEnc kForest_part (tenc v_12.2.rows)), .box b1 69 [pt b], .box b2 82 [.func (.func 42) #[] #[pt b1, pt b3]], .box b3 83 [.func (.func 37) #[] #[pt b1, pt b2, pt b3]], .box b7 85 [iI x_.rule, iI (IntKind.wrap .i64 (x_.dot - 1)), iI x_.from_, iI m], .box b5 47 [iI ((at_ ((at_ free.g.Rules x_.rule).Rhs) (IntKind.wrap .i64 (x_.dot - 1))).Nt), iU ((at_ ((at_ free.g.Rules x_.rule).Rhs) (IntKind.wrap .i64 (x_.dot - 1))).Set.w0), iU ((at_ ((at_ free.g.Rules x_.rule).Rhs) (IntKind.wrap .i64 (x_.dot - 1))).Set.w1), iU ((at_ ((at_ free.g.Rules x_.rule).Rhs) (IntKind.wrap .i64 (x_.dot - 1))).Set.w2), iU ((at_ ((at_ free.g.Rules x_.rule).Rhs) (IntKind.wrap .i64 (x_.dot - 1))).Set.w3)], .box b4 85 (vForest_part x_), rW A20 L20 C20 31 1 (eSl 3 eTree) out5, rW A10 L10 C10 37 3 eTree last, rW A11 L11 C11 31 1 (eSl 3 eTree) v_12.1] [fS A14 L14 C14 3 eTree (at_ v_12.1 t107), fS A19 L19 C19 3 eTree ((at_ last t113).Kids), fS A1 L1 C1 2 eRule free.g.Rules, fS A2 L2 C2 1 eU8 free.w_, fS A3 L3 C3 1 (eSl 1 eI64) free.by_] N') (fun N9 hN9 => ?_) ?_
 refine cC hL7 (fun hL7 => ?_) (fun hL7 => ?_)
 refine c_draw (n := 10) [0, 0, 0, 0, 0, 0, 0, 0, 0, 0, 0, 1, 1] mixed rfl rfl (dv 0 rfl vM (dv 1 rfl vM (dv 3 rfl (vL 0 ty37) (dO 2 rfl ?_))))
 obtain ⟨v_13, h12, hL7⟩ := bd hL7
 refine o_call0 call40 rfl (subs [1] rfl) (tri40 h12 :) rfl ?_
 rintro _ _ _ ⟨A21, L21, C21, rfl, rfl, rfl⟩
 refine dN [1, 1, 1, 1, 1, 1, 1, 1, 1, 1, 1, 2, 2] 0 (dO 4 rfl ?_)
 obtain ⟨v_14, h13, hL7⟩ := bd hL7
 refine o_call0 call41 rfl (subs [0] rfl) (tri41 h13 :) rfl ?_
 rintro _ _ _ ⟨A22, L22, C22, rfl, rfl, rfl⟩
 refine dN [1, 1, 1, 1, 1, 1, 1, 1, 1, 1, 1, 2, 2] 1 (dO 5 rfl (o_buildSlice (enc := eTree) ([v_14] : List Tree) (vTree v_14 A22 L22 C22) sl31 rfl (fun _ => by kernel_rfl) rfl rfl (by simp only [List.map, List.all, eTree_eq] <;> rfl) (cp_of (ds := [.int .i64 v_14.Rule, .int .u8 v_14.Byte, .slice 3 (v_14.Kids.map eTree)]) (by simp only [List.map, List.flatten, eTree_eq] <;> rfl) (.s rfl (.s rfl (.f 0 rfl (.nil))))) rfl ?_))
 intro A23 L23 C23
 refine dN [2, 2, 2, 2, 2, 2, 2, 2, 2, 2, 2, 3, 3] 1 (dO 6 rfl (ite_some hL7 ?_))
 intro h14 hL7
 refine ite_some hL7 fun h15 hL7 => o_append (enc := eTree) (xs := v_13) (ys := ([v_14] : List Tree)) 1 sl31 rfl rfl rfl (.r 0 _ rfl) h14 h15 rfl fun A24 L24 C24 => o_H [rW A23 L23 C23 37 3 eTree ([v_14] : List Tree), rW A24 L24 C24 37 3 eTree (v_13 ++ ([v_14] : List Tree)), .box b9 37 (vTree (at_ last t113) A19 L19 C19), .box b 91 [iI free.g.Nts, iI free.g.Start, sl A1 L1 C1, sl A2 L2 C2, sl A3 L3 C3, .map (some gb), .map (some gb1), .map (some gb2)], .mp gb (mEnc kForest_span (tenc v_12.2.whole)), .mp gb1 (mEnc kForest_span (tenc v_12.2.counts)), .mp gb2 (mEnc kForest_part (tenc v_12.2.rows)), .box b1 69 [pt b], .box b2 82 [.func (.func 42) #[] #[pt b1, pt b3]], .box b3 83 [.func (.func 37) #[] #[pt b1, pt b2, pt b3]], .box b7 85 [iI x_.rule, iI (IntKind.wrap .i64 (x_.dot - 1)), iI x_.from_, iI m], .box b5 47 [iI ((at_ ((at_ free.g.Rules x_.rule).Rhs) (IntKind.wrap .i64 (x_.dot - 1))).Nt), iU ((at_ ((at_ free.g.Rules x_.rule).Rhs) (IntKind.wrap .i64 (x_.dot - 1))).Set.w0), iU ((at_ ((at_ free.g.Rules x_.rule).Rhs) (IntKind.wrap .i64 (x_.dot - 1))).Set.w1), iU ((at_ ((at_ free.g.Rules x_.rule).Rhs) (IntKind.wrap .i64 (x_.dot - 1))).Set.w2), iU ((at_ ((at_ free.g.Rules x_.rule).Rhs) (IntKind.wrap .i64 (x_.dot - 1))).Set.w3)], .box b4 85 (vForest_part x_), rW A15 L15 C15 31 1 (eSl 3 eTree) out3, rW A10 L10 C10 37 3 eTree last, rW A11 L11 C11 31 1 (eSl 3 eTree) v_12.1] rfl (dN [2, 2, 2, 2, 2, 2, 2, 2, 2, 2, 2, 3, 3] 1 (dO 7 rfl (o_st (st_freeze 1 rfl) (o_buildSlice (enc := (eSl 3 eTree)) ([(v_13 ++ ([v_14] : List Tree))] : List (List Tree)) [sl A24 L24 C24] sl86 rfl (fun _ => by kernel_rfl) rfl rfl rfl (.f 0 rfl (.nil)) rfl ?_))))
 intro A25 L25 C25
 refine dN [2, 2, 2, 2, 2, 2, 2, 2, 2, 2, 2, 3, 3] 2 (dO 8 rfl (ite_some hL7 ?_))
 intro h16 hL7
 refine ?_
 refine ite_some hL7 fun h17 hL7 => o_append (enc := (eSl 3 eTree)) (xs := out3) (ys := ([(v_13 ++ ([v_14] : List Tree))] : List (List Tree))) 13 sl86 rfl rfl rfl (.r 0 _ rfl) h16 h17 rfl fun A26 L26 C26 => o_H [.row (sl A25 L25 C25) 31 1 (([(v_13 ++ ([v_14] : List Tree))] : List (List Tree)).map (eSl 3 eTree)), rW A23 L23 C23 37 3 eTree ([v_14] : List Tree), .box b9 37 (vTree (at_ last t113) A19 L19 C19), .box b 91 [iI free.g.Nts, iI free.g.Start, sl A1 L1 C1, sl A2 L2 C2, sl A3 L3 C3, .map (some gb), .map (some gb1), .map (some gb2)], .mp gb (mEnc kForest_span (tenc v_12.2.whole)), .mp gb1 (mEnc kForest_span (tenc v_12.2.counts)), .mp gb2 (mEnc kForest_part (tenc v_12.2.rows)), .box b1 69 [pt b], .box b2 82 [.func (.func 42) #[] #[pt b1, pt b3]], .box b3 83 [.func (.func 37) #[] #[pt b1, pt b2, pt b3]], .box b7 85 [iI x_.rule, iI (IntKind.wrap .i64 (x_.dot - 1)), iI x_.from_, iI m], .box b5 47 [iI ((at_ ((at_ free.g.Rules x_.rule).Rhs) (IntKind.wrap .i64 (x_.dot - 1))).Nt), iU ((at_ ((at_ free.g.Rules x_.rule).Rhs) (IntKind.wrap .i64 (x_.dot - 1))).Set.w0), iU ((at_ ((at_ free.g.Rules x_.rule).Rhs) (IntKind.wrap .i64 (x_.dot - 1))).Set.w1), iU ((at_ ((at_ free.g.Rules x_.rule).Rhs) (IntKind.wrap .i64 (x_.dot - 1))).Set.w2), iU ((at_ ((at_ free.g.Rules x_.rule).Rhs) (IntKind.wrap .i64 (x_.dot - 1))).Set.w3)], .box b4 85 (vForest_part x_), .row (sl A26 L26 C26) 31 1 ((out3 ++ ([(v_13 ++ ([v_14] : List Tree))] : List (List Tree))).map (eSl 3 eTree)), rW A10 L10 C10 37 3 eTree last, rW A11 L11 C11 31 1 (eSl 3 eTree) v_12.1] rfl (dN [2, 2, 2, 2, 2, 2, 2, 2, 2, 2, 2, 3, 3] 2 (dv 9 rfl vA (dD ?_)))
 exact sK [2, 2, 2, 2, 2, 2, 2, 2, 2, 2, 2, 2, 2, 2] [3, 2, 4, 5, 6] (hN9 (out3 ++ ([(v_13 ++ ([v_14] : List Tree))] : List (List Tree))) A26 L26 C26 hL7)
 refine c_skip ?_
 exact sK [0, 0, 0, 0, 0, 0, 0, 0, 0, 0, 0, 0, 0, 0] [1, 0, 2, 3, 4] (hN9 out3 A15 L15 C15 hL7)
 intro out5 A20 L20 C20 hL7
 unfold F.forest.Trees_c1_j9 at hL7
 exact sK [1, 1, 1, 1, 1, 1, 1, 1, 1, 1, 0, 0, 0, 0] [0, 2, 3, 4, 1] (hN8 out5 A20 L20 C20 A19 L19 C19 b9 hL7)
 intro out4 A17 L17 C17 A18 L18 C18 b8 hL7
 unfold F.forest.Trees_c1_j8 at hL7
 refine sat_wc (c_region (oV vB (oV vM (o_nil ?_))))
 exact lp [0, 0, 0, 0, 0, 0, 0, 0, 0, 0, 1, 1, 1] [0, 1, 2, 3] fun a w hs => ⟨out4, IntKind.wrap .i64 (t113 + 1), A17, L17, C17, hL7, hs⟩
 refine c_exit0 ?_
 cases hL7
 exact sK [0, 0, 0, 0, 0, 0, 0, 0, 0, 0, 0, 0, 0] [0, 1, 2, 3] (hN7 A15 L15 C15)
 intro A16 L16 C16
 refine sat_wc (c_region (oV vB (oV vM (o_nil ?_))))
 exact lp [0, 0, 0, 0, 0, 0, 0, 0, 0, 0, 0, 0, 0] [1, 2, 3] fun a w hs => ⟨o7.1, IntKind.wrap .i64 (t107 + 1), A16, L16, C16, hL6, hs⟩
 refine c_exit0 ?_
 cases hL6
 exact sK [0, 0, 0, 0, 0, 0, 0, 0, 0, 0, 0, 0, 0] [0, 1, 2] (hN6 A12 L12 C12)
 intro A13 L13 C13
 exact sK [0, 0, 0, 0, 4, 4, 0, 0, 0, 0, 0] [0, 1, 2] (hN3 o6.1 v_12.2.whole v_12.2.counts v_12.2.rows A13 L13 C13 b7 hL1)
 intro out1 v_3 v_4 v_5 A8 L8 C8 b6 hL1
 unfold F.forest.Trees_c1_j3 at hL1
 refine sat_wc (c_region (oV vM (oV vB (oV vA (o_nil ?_)))))
 exact lp [4, 4, 0, 0, 0, 0, 0, 0, 0, 1] [0, 1, 2] fun a w hs => ⟨out1, IntKind.wrap .i64 (m + 1), v_3, v_4, v_5, A8, L8, C8, hL1, hs⟩
 refine c_exit0 ?_
 cases hL1
 exact sK [0, 0, 0, 0, 0, 0, 0, 0, 0, 0] [0, 1, 2] (hN1 A6 L6 C6)
 intro A7 L7 C7
 refine sat_wc (cR (oV vM (oV vA (o_seq (c_ret ?_)))))
 cases hF
 refine s_ret1 rfl (r_tmp rfl) fun a w hs => fin_sel hs [2, 2, 2, 2, 2, 2, 2, 2] ⟨A7, L7, C7, rfl, rfl, rfl⟩ rfl sub_nil
theorem tri42_G (k : Nat) : (∀ {x_ : Forest_span} {most : Int} {free : Forest_grove} {b : Nat} {b1 : Nat} {b2 : Nat} {b3 : Nat} {A1 : OA} {L1 C1 : Nat} {A2 : OA} {L2 C2 : Nat} {A3 : OA} {L3 C3 : Nat} {gb : Nat} {gb1 : Nat} {gb2 : Nat} {r : List Tree × Forest_grove}, F.forest.Trees_c2 k x_ most free = some r → Tri Try.prog 42 [.agg (vForest_span x_).toArray, iI most, pt b1, pt b2] [.box b 91 [iI free.g.Nts, iI free.g.Start, sl A1 L1 C1, sl A2 L2 C2, sl A3 L3 C3, .map (some gb), .map (some gb1), .map (some gb2)], .mp gb (mEnc kForest_span (tenc free.whole)), .mp gb1 (mEnc kForest_span (tenc free.counts)), .mp gb2 (mEnc kForest_part (tenc free.rows)), .box b1 69 [pt b], .box b2 83 [.func (.func 37) #[] #[pt b1, pt b3, pt b2]], .box b3 82 [.func (.func 42) #[] #[pt b1, pt b2]]] [fS A1 L1 C1 2 eRule free.g.Rules, fS A2 L2 C2 1 eU8 free.w_, fS A3 L3 C3 1 (eSl 1 eI64) free.by_] (fun o H Φ => ∃ (A15 : OA) (L15 C15 : Nat), o = .ret (sl A15 L15 C15) ∧ H = [.box b 91 [iI free.g.Nts, iI free.g.Start, sl A1 L1 C1, sl A2 L2 C2, sl A3 L3 C3, .map (some gb), .map (some gb1), .map (some gb2)], .mp gb (mEnc kForest_span (tenc r.2.whole)), .mp gb1 (mEnc kForest_span (tenc r.2.counts)), .mp gb2 (mEnc kForest_part (tenc r.2.rows)), .box b1 69 [pt b], .box b2 83 [.func (.func 37) #[] #[pt b1, pt b3, pt b2]], .box b3 82 [.func (.func 42) #[] #[pt b1, pt b2]], rW A15 L15 C15 37 3 eTree r.1] ∧ Φ = [])) ∧ (∀ {x_ : Forest_part} {most : Int} {free : Forest_grove} {b : Nat} {b1 : Nat} {b2 : Nat} {b3 : Nat} {A1 : OA} {L1 C1 : Nat} {A2 : OA} {L2 C2 : Nat} {A3 : OA} {L3 C3 : Nat} {gb : Nat} {gb1 : Nat} {gb2 : Nat} {r : List (List Tree) × Forest_grove}, F.forest.Trees_c1 k x_ most free = some r → Tri Try.prog 37 [.agg (vForest_part x_).toArray, iI most, pt b1, pt b2, pt b3] [.box b 91 [iI free.g.Nts, iI free.g.Start, sl A1 L1 C1, sl A2 L2 C2, sl A3 L3 C3, .map (some gb), .map (some gb1), .map (some gb2)], .mp gb (mEnc kForest_span (tenc free.whole)), .mp gb1 (mEnc kForest_span (tenc free.counts)), .mp gb2 (mEnc kForest_part (tenc free.rows)), .box b1 69 [pt b], .box b2 82 [.func (.func 42) #[] #[pt b1, pt b3]], .box b3 83 [.func (.func 37) #[] #[pt b1, pt b2, pt b3]]] [fS A1 L1 C1 2 eRule free.g.Rules, fS A2 L2 C2 1 eU8 free.w_, fS A3 L3 C3 1 (eSl 1 eI64) free.by_] (fun o H Φ => ∃ (A28 : OA) (L28 C28 : Nat), o = .ret (sl A28 L28 C28) ∧ H = [.box b 91 [iI free.g.Nts, iI free.g.Start, sl A1 L1 C1, sl A2 L2 C2, sl A3 L3 C3, .map (some gb), .map (some gb1), .map (some gb2)], .mp gb (mEnc kForest_span (tenc r.2.whole)), .mp gb1 (mEnc kForest_span (tenc r.2.counts)), .mp gb2 (mEnc kForest_part (tenc r.2.rows)), .box b1 69 [pt b], .box b2 82 [.func (.func 42) #[] #[pt b1, pt b3]], .box b3 83 [.func (.func 37) #[] #[pt b1, pt b2, pt b3]], rW A28 L28 C28 31 1 (eSl 3 eTree) r.1] ∧ Φ = [])) := by
 induction k with
 | zero => exact ⟨(fun h => nomatch (show none = some _ from h)), (fun h => nomatch (show none = some _ from h))⟩
 | succ k ih => exact ⟨tri42_B k _ ih.2, tri37_B k _ ih.1 _ ih.2⟩
theorem tri42 {k : Nat} {x_ : Forest_span} {most : Int} {free : Forest_grove} {b : Nat} {b1 : Nat} {b2 : Nat} {b3 : Nat} {A1 : OA} {L1 C1 : Nat} {A2 : OA} {L2 C2 : Nat} {A3 : OA} {L3 C3 : Nat} {gb : Nat} {gb1 : Nat} {gb2 : Nat} {r : List Tree × Forest_grove} (hF : F.forest.Trees_c2 k x_ most free = some r) :
    Tri Try.prog 42 [.agg (vForest_span x_).toArray, iI most, pt b1, pt b2] [.box b 91 [iI free.g.Nts, iI free.g.Start, sl A1 L1 C1, sl A2 L2 C2, sl A3 L3 C3, .map (some gb), .map (some gb1), .map (some gb2)], .mp gb (mEnc kForest_span (tenc free.whole)), .mp gb1 (mEnc kForest_span (tenc free.counts)), .mp gb2 (mEnc kForest_part (tenc free.rows)), .box b1 69 [pt b], .box b2 83 [.func (.func 37) #[] #[pt b1, pt b3, pt b2]], .box b3 82 [.func (.func 42) #[] #[pt b1, pt b2]]] [fS A1 L1 C1 2 eRule free.g.Rules, fS A2 L2 C2 1 eU8 free.w_, fS A3 L3 C3 1 (eSl 1 eI64) free.by_] (fun o H Φ => ∃ (A15 : OA) (L15 C15 : Nat), o = .ret (sl A15 L15 C15) ∧ H = [.box b 91 [iI free.g.Nts, iI free.g.Start, sl A1 L1 C1, sl A2 L2 C2, sl A3 L3 C3, .map (some gb), .map (some gb1), .map (some gb2)], .mp gb (mEnc kForest_span (tenc r.2.whole)), .mp gb1 (mEnc kForest_span (tenc r.2.counts)), .mp gb2 (mEnc kForest_part (tenc r.2.rows)), .box b1 69 [pt b], .box b2 83 [.func (.func 37) #[] #[pt b1, pt b3, pt b2]], .box b3 82 [.func (.func 42) #[] #[pt b1, pt b2]], rW A15 L15 C15 37 3 eTree r.1] ∧ Φ = []) := (tri42_G k).1 hF
theorem tri15 {k : Nat} {g_ : Gram} {w__ : List Int} {most : Int} {r : List Tree × Int} (hF : F.forest.Trees k g_ w__ most = some r) :
    Tri Try.prog 15 [.agg (vGram g_ A1 L1 C1).toArray, sl A2 L2 C2, iI most] [] [fS A1 L1 C1 2 eRule g_.Rules, fS A2 L2 C2 1 eU8 w__] (fun o H Φ => ∃ (A7 : OA) (L7 C7 : Nat), o = .ret (.tuple #[sl A7 L7 C7, iI r.2]) ∧ H = [rW A7 L7 C7 37 3 eTree r.1] ∧ Φ = []) := by
 unfold F.forest.Trees at hF
 refine tri_intro (n := 49) Try.func15 rfl Try.ntmps15 rfl fun w X => cR (o_box rfl rfl rfl fun b => oV vA (oV vA (o_seq (c_seq (cR (oV (vL 0 ty24) (oV vM ?_)))))))
 obtain ⟨v_, h1, hF⟩ := bd hF
 refine o_callSB call30 rfl (lent_f 0 rfl (lent_f 1 rfl lent_nil)) (tri30 h1 :) rfl (oV vA (o_seq (cR (oV vM (oV vB (o_seq ?_))))))
 refine cC hF (fun hF => ?_) (fun hF => ?_)
 refine cR (oV vM (oV vA (oV vA (o_seq (c_ret ?_)))))
 cases hF
 refine s_st (st_nilrow 37 3) (s_ret2 rfl (r_tmp rfl) (r_tmp rfl) fun a w hs => fin_sel hs [0] ⟨none, 0, 0, rfl, rfl, rfl⟩ rfl sub_nil)
 refine c_skip (sat_wc (c_seq (cR (oV vM (oV vB (oV vM ?_))))))
 refine oS 20 hF (fun hF => ?_) (fun hF => ?_)
 refine oF (oF (oV vPt (o_seq ?_)))
 refine c_cond rfl (fun _ => ?_) (fun h => Bool.noConfusion h)
 refine cR (oV vA (oV vA (o_seq (c_ret ?_))))
 cases hF
 refine s_st (st_nilrow 37 3) (s_ret2 rfl (r_tmp rfl) (r_tmp rfl) fun a w hs => fin_sel hs [0] ⟨none, 0, 0, rfl, rfl, rfl⟩ rfl sub_nil)
 refine oN (oV vM (oN (oV vB (oV vPf (o_seq ?_)))))
 refine cC hF (fun hF => ?_) (fun hF => ?_)
 refine cR (oV vA (oV vA (o_seq (c_ret ?_))))
 cases hF
 refine s_st (st_nilrow 37 3) (s_ret2 rfl (r_tmp rfl) (r_tmp rfl) fun a w hs => fin_sel hs [0] ⟨none, 0, 0, rfl, rfl, rfl⟩ rfl sub_nil)
 refine c_skip (sat_wc (cR (oV (vL 0 ty24) (oV vM ?_))))
 obtain ⟨v_1, h5, hF⟩ := bd hF
 refine o_call0 call31 rfl (subs [0, 1] rfl) (tri31 h5 :) rfl ?_
 rintro _ _ _ ⟨gb, A3, L3, C3, A4, L4, C4, A5, L5, C5, gb1, gb2, gb3, rfl, rfl, rfl⟩
 refine o_alloc zero69 rfl rfl fun b1 => (sT 0 ty69) (o_seq (cR (o_alloc zero82 rfl rfl ?_)))
 intro b2
 refine o_seq (cR (o_alloc zero83 rfl rfl fun b3 => o_seq (cR (oV (v_makeFunc (vs := [pt b1, pt b2, pt b3]) rfl) ((sT 0 ty83) (o_H [.box b3 83 [.func (.func 37) #[] #[pt b1, pt b2, pt b3]], .box b2 82 [.nilFunc], .box b1 69 [pt gb], .box gb 91 [iI v_1.g.Nts, iI v_1.g.Start, sl A3 L3 C3, sl A4 L4 C4, sl A5 L5 C5, .map (some gb1), .map (some gb2), .map (some gb3)], .mp gb1 (mEnc kForest_span (tenc v_1.whole)), .mp gb2 (mEnc kForest_span (tenc v_1.counts)), .mp gb3 (mEnc kForest_part (tenc v_1.rows)), .box b 24 (vGram g_ A1 L1 C1)] rfl ?_))))))
 refine o_seq (cR (oV (v_makeFunc (vs := [pt b1, pt b3]) rfl) ((sT 1 ty82) (o_seq (c_seq (cR (oV vM (oV vB (oV vM ?_)))))))))
 refine oS 31 hF (fun hF => ?_) (fun hF => ?_)
 refine oF (oF (oF (oF (oF (oF (oF (oF (oV vPt (o_seq ?_)))))))))
 refine c_cond rfl (fun _ => ?_) (fun h => Bool.noConfusion h)
 refine cR (oV vA (oV vA (o_seq (c_ret ?_))))
 cases hF
 refine s_st (st_nilrow 37 3) (s_ret2 rfl (r_tmp rfl) (r_tmp rfl) fun a w hs => fin_sel hs [0] ⟨none, 0, 0, rfl, rfl, rfl⟩ rfl sub_nil)
 refine oN (oV (vL 2 ty69) (oN ((fD 1) (oN (oV (vL 7 ty3) (oN (oV vM (oN (oV (v_lenS (enc := eU8) w__ sl25 rfl (.f 4 rfl)) (oN (oV (vU (.agg #[iI g_.Start, iI 0, iI (w__.length : Int)])) (oN ?_))))))))))))
 obtain ⟨v_2, h7, hF⟩ := bd hF
 refine ocl [3, 3, 3, 3] call32 rfl rfl (subs [0, 1, 2] rfl) (tri32 h7 :) ?_
 rintro _ _ _ ⟨rfl, rfl, rfl⟩
 refine o_H [.box gb 91 [iI v_1.g.Nts, iI v_1.g.Start, sl A3 L3 C3, sl A4 L4 C4, sl A5 L5 C5, .map (some gb1), .map (some gb2), .map (some gb3)], .mp gb1 (mEnc kForest_span (tenc v_2.2.whole)), .mp gb2 (mEnc kForest_span (tenc v_2.2.counts)), .mp gb3 (mEnc kForest_part (tenc v_2.2.rows)), .box b3 83 [.func (.func 37) #[] #[pt b1, pt b2, pt b3]], .box b2 82 [.func (.func 42) #[] #[pt b1, pt b3]], .box b1 69 [pt gb], .box b 24 (vGram g_ A1 L1 C1)] rfl (oN (oV vB (oV vPf (o_seq ?_))))
 refine cC hF (fun hF => ?_) (fun hF => ?_)
 refine cR (oV vA (oV vA (o_seq (c_ret ?_))))
 cases hF
 refine s_st (st_nilrow 37 3) (s_ret2 rfl (r_tmp rfl) (r_tmp rfl) fun a w hs => fin_sel hs [0] ⟨none, 0, 0, rfl, rfl, rfl⟩ rfl sub_nil)
 refine c_skip (sat_wc (cR (oV (vL 5 ty82) ((fD 1) (oV (vL 7 ty3) (oV vM (oV (v_lenS (enc := eU8) w__ sl25 rfl (.f 4 rfl)) (oV (vU (.agg #[iI g_.Start, iI 0, iI (w__.length : Int)])) (oV vM ?_)))))))))
 obtain ⟨v_3, h9, hF⟩ := bd hF
 refine o_call [0, 0, 0, 0, 2, 0, 0] call42 (cap := #[pt b1, pt b3]) rfl rfl rfl (subs [0, 1, 2] rfl) (by exact (tri42 h9 :)) rfl ?_
 rintro _ _ _ ⟨A6, L6, C6, rfl, rfl, rfl⟩
 refine o_H [.box gb 91 [iI v_1.g.Nts, iI v_1.g.Start, sl A3 L3 C3, sl A4 L4 C4, sl A5 L5 C5, .map (some gb1), .map (some gb2), .map (some gb3)], .mp gb1 (mEnc kForest_span (tenc v_3.2.whole)), .mp gb2 (mEnc kForest_span (tenc v_3.2.counts)), .mp gb3 (mEnc kForest_part (tenc v_3.2.rows)), .box b1 69 [pt gb], .box b3 83 [.func (.func 37) #[] #[pt b1, pt b2, pt b3]], .box b2 82 [.func (.func 42) #[] #[pt b1, pt b3]], rW A6 L6 C6 37 3 eTree v_3.1, .box b 24 (vGram g_ A1 L1 C1)] rfl (oV vA (oV vA (o_seq (c_ret ?_))))
 cases hF
 refine s_ret2 rfl (r_tmp rfl) (r_tmp rfl) fun a w hs => fin_sel hs [7] ⟨A6, L6, C6, rfl, rfl, rfl⟩ rfl sub_nil
theorem tri45 {p : Forest_packer} {x_ : Forest_span} {b : Nat} {gb : Nat} {gb1 : Nat} {gb2 : Nat} {gb3 : Nat} {gb4 : Nat} {gb5 : Nat} {r : Int × Forest_packer} (hF : F.forest.packer_node p x_ = some r) :
    Tri Try.prog 45 [pt b, .agg (vForest_span x_).toArray] [.box b 100 [pt gb, .map (some gb4), .map (some gb5), iI p.f.Root, sl A4 L4 C4], .box gb 91 [iI p.v.g.Nts, iI p.v.g.Start, sl A1 L1 C1, sl A2 L2 C2, sl A3 L3 C3, .map (some gb1), .map (some gb2), .map (some gb3)], .mp gb1 (mEnc kForest_span (tenc p.v.whole)), .mp gb2 (mEnc kForest_span (tenc p.v.counts)), .mp gb3 (mEnc kForest_part (tenc p.v.rows)), .mp gb4 (mEnc kForest_span (tenc p.spans)), .mp gb5 (mEnc kForest_part (tenc p.parts)), rW A4 L4 C4 62 7 eFNode p.f.Nodes] [fS A1 L1 C1 2 eRule p.v.g.Rules, fS A2 L2 C2 1 eU8 p.v.w_, fS A3 L3 C3 1 (eSl 1 eI64) p.v.by_] (fun o H Φ => ∃ (A8 : OA) (L8 C8 : Nat), o = .ret (iI r.1) ∧ H = [.box b 100 [pt gb, .map (some gb4), .map (some gb5), iI p.f.Root, sl A8 L8 C8], .box gb 91 [iI p.v.g.Nts, iI p.v.g.Start, sl A1 L1 C1, sl A2 L2 C2, sl A3 L3 C3, .map (some gb1), .map (some gb2), .map (some gb3)], .mp gb1 (mEnc kForest_span (tenc r.2.v.whole)), .mp gb2 (mEnc kForest_span (tenc r.2.v.counts)), .mp gb3 (mEnc kForest_part (tenc r.2.v.rows)), .mp gb4 (mEnc kForest_span (tenc r.2.spans)), .mp gb5 (mEnc kForest_part (tenc r.2.parts)), rW A8 L8 C8 62 7 eFNode r.2.f.Nodes] ∧ Φ = []) := by
 unfold F.forest.packer_node at hF
 refine tri_intro (n := 49) Try.func45 rfl Try.ntmps45 rfl fun w X => cR (o_box rfl rfl rfl fun b1 => oV vA (o_seq (c_seq (c_draw (n := 11) [0, 0, 0, 0, 0, 0, 0, 0, 0] mixed rfl rfl (dv 0 rfl vM (dv 1 rfl vC (dv 2 rfl (vF 1) (dv 3 rfl (vL 1 ty88) (dv 4 rfl (vL 0 ty73) (dv 5 rfl (v_lookT2 (enc := kForest_span) (eq := qForest_span) (k := x_) (m := p.spans) 6 Try.underlying88 kt73 zero3 rfl rfl rfl) (dv 6 rfl vM (dv 7 rfl vX ?_))))))))))))
 refine dv 8 rfl vX (dv 9 rfl vA (dv 10 rfl vA (d_done_seq (by kernel_rfl) (c_seq (cR (oV vM (oV vN (o_seq ?_))))))))
 refine cT (fun E H Φ N' => ∀ (n : Int) (Nodes_ : List FNode) (v_ : List (Forest_span × Int)) (A5 : OA) (L5 C5 : Nat), F.forest.packer_node_j1 p n Nodes_ v_ = some r → Sat E [(0, pt b), (1, .agg (vForest_span x_).toArray), (3, pt b1), (4, iI 0), (5, iI n), (6, bV ((tget qForest_span x_ p.spans).isSome))] [.box b1 73 (vForest_span x_), .box b 100 [pt gb, .map (some gb4), .map (some gb5), iI p.f.Root, sl A5 L5 C5], .box gb 91 [iI p.v.g.Nts, iI p.v.g.Start, sl A1 L1 C1, sl A2 L2 C2, sl A3 L3 C3, .map (some gb1), .map (some gb2), .map (some gb3)], .mp gb1 (mEnc kForest_span (tenc p.v.whole)), .mp gb2 (mEnc kForest_span (tenc p.v.counts)), .mp gb3 (mEnc kForest_part (tenc p.v.rows)), .mp gb4 (mEnc kForest_span (tenc v_)), .mp gb5 (mEnc kForest_part (tenc p.parts)), rW A5 L5 C5 62 7 eFNode Nodes_] Φ N') (fun N1 hN1 => ?_) ?_
 refine cC hF (fun hF => ?_) (fun hF => ?_)
 refine cR (oV vM (oV vC ((fD 3) ((fD 4) (oV (vL 1 ty51) (oV (v_lenS (enc := eFNode) p.f.Nodes sl51 rfl (.r 8 _ rfl)) (oV vA (o_seq (c_seq (c_draw (n := 7) [0, 0, 0, 0, 0, 0, 1, 1] mixed rfl rfl (dv 0 rfl vM (dv 1 rfl vC (dv 2 rfl (vF 1) (dv 3 rfl (vL 1 ty88) ?_))))))))))))))
 refine dv 4 rfl (vL 0 ty73) (dv 5 rfl vM (dO 6 rfl (o_updateT (enc := kForest_span) (eq := qForest_span) (k := x_) (m := p.spans) 6 Try.underlying88 kt73 rfl rfl rfl rfl (o_H [.box b1 73 (vForest_span x_), .box b 100 [pt gb, .map (some gb4), .map (some gb5), iI p.f.Root, sl A4 L4 C4], .box gb 91 [iI p.v.g.Nts, iI p.v.g.Start, sl A1 L1 C1, sl A2 L2 C2, sl A3 L3 C3, .map (some gb1), .map (some gb2), .map (some gb3)], .mp gb1 (mEnc kForest_span (tenc p.v.whole)), .mp gb2 (mEnc kForest_span (tenc p.v.counts)), .mp gb3 (mEnc kForest_part (tenc p.v.rows)), .mp gb4 (mEnc kForest_span (tenc (tput qForest_span x_ (p.f.Nodes.length : Int) p.spans))), .mp gb5 (mEnc kForest_part (tenc p.parts)), rW A4 L4 C4 62 7 eFNode p.f.Nodes] rfl (dN [0, 0, 0, 0, 0, 0, 1, 1] 0 (d_done_seq (by kernel_rfl) (c_draw (n := 19) [0, 1, 1, 1, 1, 1, 1] mixed rfl rfl (dv 0 rfl vM (dv 1 rfl vM (dv 2 rfl vC (dv 3 rfl (vF 3) (dv 4 rfl (vF 4) (dv 6 rfl (vF 0) (dv 7 rfl (vL 0 ty3) (dv 8 rfl (vF 1) ?_)))))))))))))))
 refine dv 9 rfl (vL 0 ty3) (dv 10 rfl (vF 2) (dv 11 rfl (vL 0 ty3) (dv 12 rfl (v_build (v := .agg #[iI x_.nt, iI (-1), iI (-1), iI x_.from_, iI x_.to, nS, nS]) rfl (fun _ => by kernel_rfl)) (ite_some hF ?_))))
 intro h2 hF
 refine ite_some hF fun h3 hF => ?_
 refine d_all [5, 13] (by kernel_rfl) (by simp) ⟨⟨_, rfl, ?_⟩, ⟨_, rfl, ?_⟩, trivial⟩
 refine oV (vL 1 ty51) (dN [0, 1, 1, 1, 1, 1, 1] 0 (dO 13 rfl (o_st (st_nilfact 1) (o_st (st_nilfact 4) (o_buildSlice (enc := eFNode) ([(FNode.mk x_.nt (-1) (-1) x_.from_ x_.to ([] : List Int) ([] : List Alt))] : List FNode) [iI x_.nt, iI (-1), iI (-1), iI x_.from_, iI x_.to, nS, nS] sl51 rfl (fun _ => by kernel_rfl) rfl rfl rfl (.s rfl (.s rfl (.s rfl (.s rfl (.s rfl (.f 1 rfl (.f 0 rfl (.nil)))))))) rfl ?_)))))
 intro A6 L6 C6
 refine dN [1, 2, 2, 2, 2, 2, 2] 2 (dO 14 rfl (o_append (enc := eFNode) (xs := p.f.Nodes) (ys := ([(FNode.mk x_.nt (-1) (-1) x_.from_ x_.to ([] : List Int) ([] : List Alt))] : List FNode)) 9 sl51 rfl rfl rfl (.r 0 _ rfl) h2 h3 rfl ?_))
 intro A7 L7 C7
 refine o_H [.row (sl A6 L6 C6) 62 7 (([(FNode.mk x_.nt (-1) (-1) x_.from_ x_.to ([] : List Int) ([] : List Alt))] : List FNode).map eFNode), .box b1 73 (vForest_span x_), .box b 100 [pt gb, .map (some gb4), .map (some gb5), iI p.f.Root, sl A4 L4 C4], .box gb 91 [iI p.v.g.Nts, iI p.v.g.Start, sl A1 L1 C1, sl A2 L2 C2, sl A3 L3 C3, .map (some gb1), .map (some gb2), .map (some gb3)], .mp gb1 (mEnc kForest_span (tenc p.v.whole)), .mp gb2 (mEnc kForest_span (tenc p.v.counts)), .mp gb3 (mEnc kForest_part (tenc p.v.rows)), .mp gb4 (mEnc kForest_span (tenc (tput qForest_span x_ (p.f.Nodes.length : Int) p.spans))), .mp gb5 (mEnc kForest_part (tenc p.parts)), .row (sl A7 L7 C7) 62 7 ((p.f.Nodes ++ ([(FNode.mk x_.nt (-1) (-1) x_.from_ x_.to ([] : List Int) ([] : List Alt))] : List FNode)).map eFNode)] rfl (dN [1, 2, 2, 2, 2, 2, 2] 2 (dv 15 rfl vC (dv 16 rfl (vF 3) (dv 17 rfl (vF 4) (dO 18 rfl ((sT 2 ty51) ?_))))))
 refine dN [1, 2, 2, 2, 2, 2, 2] 2 (dD ?_)
 exact sK [1, 1, 1, 1, 1, 1, 1, 1, 1] [2, 3, 4] (hN1 (p.f.Nodes.length : Int) (p.f.Nodes ++ ([(FNode.mk x_.nt (-1) (-1) x_.from_ x_.to ([] : List Int) ([] : List Alt))] : List FNode)) (tput qForest_span x_ (p.f.Nodes.length : Int) p.spans) A7 L7 C7 hF)
 refine o_st (st_nilfact 1) (o_st (st_nilfact 4) (o_buildSlice (enc := eFNode) ([(FNode.mk x_.nt (-1) (-1) x_.from_ x_.to ([] : List Int) ([] : List Alt))] : List FNode) [iI x_.nt, iI (-1), iI (-1), iI x_.from_, iI x_.to, nS, nS] sl51 rfl (fun _ => by kernel_rfl) rfl rfl rfl (.s rfl (.s rfl (.s rfl (.s rfl (.s rfl (.f 1 rfl (.f 0 rfl (.nil)))))))) rfl fun A6 L6 C6 => dN [1, 2, 2, 2, 2, 2, 2] 2 (dO 5 rfl (oV (vL 2 ty51) (dN [1, 2, 2, 2, 2, 2, 2] 2 (dO 14 rfl (o_append (enc := eFNode) (xs := p.f.Nodes) (ys := ([(FNode.mk x_.nt (-1) (-1) x_.from_ x_.to ([] : List Int) ([] : List Alt))] : List FNode)) 9 sl51 rfl rfl rfl (.r 0 _ rfl) h2 h3 rfl ?_)))))))
 intro A7 L7 C7
 refine o_H [.row (sl A6 L6 C6) 62 7 (([(FNode.mk x_.nt (-1) (-1) x_.from_ x_.to ([] : List Int) ([] : List Alt))] : List FNode).map eFNode), .box b1 73 (vForest_span x_), .box b 100 [pt gb, .map (some gb4), .map (some gb5), iI p.f.Root, sl A4 L4 C4], .box gb 91 [iI p.v.g.Nts, iI p.v.g.Start, sl A1 L1 C1, sl A2 L2 C2, sl A3 L3 C3, .map (some gb1), .map (some gb2), .map (some gb3)], .mp gb1 (mEnc kForest_span (tenc p.v.whole)), .mp gb2 (mEnc kForest_span (tenc p.v.counts)), .mp gb3 (mEnc kForest_part (tenc p.v.rows)), .mp gb4 (mEnc kForest_span (tenc (tput qForest_span x_ (p.f.Nodes.length : Int) p.spans))), .mp gb5 (mEnc kForest_part (tenc p.parts)), .row (sl A7 L7 C7) 62 7 ((p.f.Nodes ++ ([(FNode.mk x_.nt (-1) (-1) x_.from_ x_.to ([] : List Int) ([] : List Alt))] : List FNode)).map eFNode)] rfl (dN [1, 2, 2, 2, 2, 2, 2] 2 (dv 15 rfl vC (dv 16 rfl (vF 3) (dv 17 rfl (vF 4) (dO 18 rfl ((sT 2 ty51) ?_))))))
 refine dN [1, 2, 2, 2, 2, 2, 2] 2 (dD ?_)
 exact sK [1, 1, 1, 1, 1, 1, 1, 1, 1] [2, 3, 4] (hN1 (p.f.Nodes.length : Int) (p.f.Nodes ++ ([(FNode.mk x_.nt (-1) (-1) x_.from_ x_.to ([] : List Int) ([] : List Alt))] : List FNode)) (tput qForest_span x_ (p.f.Nodes.length : Int) p.spans) A7 L7 C7 hF)
 refine c_skip ?_
 exact sK [0, 0, 0, 0, 0, 0, 0, 0, 0] [0, 1, 2] (hN1 ((tget qForest_span x_ p.spans).getD 0) p.f.Nodes p.spans A4 L4 C4 hF)
 intro n Nodes_ v_ A5 L5 C5 hF
 unfold F.forest.packer_node_j1 at hF
 refine sat_wc (cR (oV vM (oV vA (o_seq (c_ret ?_)))))
 cases hF
 refine s_ret1 rfl (r_tmp rfl) fun a w hs => fin_sel hs [1, 1, 1, 1, 1, 1, 1, 1] ⟨A5, L5, C5, rfl, rfl, rfl⟩ rfl sub_nil
theorem tri65 {p : Forest_packer} {x_ : Forest_part} {b : Nat} {gb : Nat} {gb1 : Nat} {gb2 : Nat} {gb3 : Nat} {gb4 : Nat} {gb5 : Nat} {r : Int × Forest_packer} (hF : F.forest.packer_piece p x_ = some r) :
    Tri Try.prog 65 [pt b, .agg (vForest_part x_).toArray] [.box b 100 [pt gb, .map (some gb4), .map (some gb5), iI p.f.Root, sl A4 L4 C4], .box gb 91 [iI p.v.g.Nts, iI p.v.g.Start, sl A1 L1 C1, sl A2 L2 C2, sl A3 L3 C3, .map (some gb1), .map (some gb2), .map (some gb3)], .mp gb1 (mEnc kForest_span (tenc p.v.whole)), .mp gb2 (mEnc kForest_span (tenc p.v.counts)), .mp gb3 (mEnc kForest_part (tenc p.v.rows)), .mp gb4 (mEnc kForest_span (tenc p.spans)), .mp gb5 (mEnc kForest_part (tenc p.parts)), rW A4 L4 C4 62 7 eFNode p.f.Nodes] [fS A1 L1 C1 2 eRule p.v.g.Rules, fS A2 L2 C2 1 eU8 p.v.w_, fS A3 L3 C3 1 (eSl 1 eI64) p.v.by_] (fun o H Φ => ∃ (A8 : OA) (L8 C8 : Nat), o = .ret (iI r.1) ∧ H = [.box b 100 [pt gb, .map (some gb4), .map (some gb5), iI p.f.Root, sl A8 L8 C8], .box gb 91 [iI p.v.g.Nts, iI p.v.g.Start, sl A1 L1 C1, sl A2 L2 C2, sl A3 L3 C3, .map (some gb1), .map (some gb2), .map (some gb3)], .mp gb1 (mEnc kForest_span (tenc r.2.v.whole)), .mp gb2 (mEnc kForest_span (tenc r.2.v.counts)), .mp gb3 (mEnc kForest_part (tenc r.2.v.rows)), .mp gb4 (mEnc kForest_span (tenc r.2.spans)), .mp gb5 (mEnc kForest_part (tenc r.2.parts)), rW A8 L8 C8 62 7 eFNode r.2.f.Nodes] ∧ Φ = []) := by
 unfold F.forest.packer_piece at hF
 refine tri_intro (n := 54) Try.func65 rfl Try.ntmps65 rfl fun w X => cR (o_box rfl rfl rfl fun b1 => oV vA (o_seq (c_seq (cR ((fD 1) (oV (vL 0 ty3) (oV vB (o_seq ?_))))))))
 refine cC hF (fun hF => ?_) (fun hF => ?_)
 refine cR (oV vA (o_seq (c_ret ?_)))
 cases hF
 refine s_ret1 rfl (r_tmp rfl) fun a w hs => fin_sel hs [1, 1, 1, 1, 1, 1, 1, 1] ⟨A4, L4, C4, rfl, rfl, rfl⟩ rfl sub_nil
 refine c_skip (sat_wc (c_seq (c_draw (n := 11) [0, 0, 0, 0, 0, 0, 0, 0, 0] mixed rfl rfl (dv 0 rfl vM (dv 1 rfl vC (dv 2 rfl (vF 2) (dv 3 rfl (vL 1 ty89) (dv 4 rfl (vL 0 ty85) (dv 5 rfl (v_lookT2 (enc := kForest_part) (eq := qForest_part) (k := x_) (m := p.parts) 7 Try.underlying89 kt85 zero3 rfl rfl rfl) (dv 6 rfl vM (dv 7 rfl vX (dv 8 rfl vX (dv 9 rfl vA (dv 10 rfl vA (d_done_seq (by kernel_rfl) ?_)))))))))))))))
 refine c_seq (cR (oV vM (oV vN (o_seq ?_))))
 refine cT (fun E H Φ N' => ∀ (n : Int) (Nodes_ : List FNode) (v_ : List (Forest_part × Int)) (A5 : OA) (L5 C5 : Nat), F.forest.packer_piece_j1 p n Nodes_ v_ = some r → Sat E [(0, pt b), (1, .agg (vForest_part x_).toArray), (3, pt b1), (4, iI 0), (5, iI n), (6, bV ((tget qForest_part x_ p.parts).isSome))] [.box b1 85 (vForest_part x_), .box b 100 [pt gb, .map (some gb4), .map (some gb5), iI p.f.Root, sl A5 L5 C5], .box gb 91 [iI p.v.g.Nts, iI p.v.g.Start, sl A1 L1 C1, sl A2 L2 C2, sl A3 L3 C3, .map (some gb1), .map (some gb2), .map (some gb3)], .mp gb1 (mEnc kForest_span (tenc p.v.whole)), .mp gb2 (mEnc kForest_span (tenc p.v.counts)), .mp gb3 (mEnc kForest_part (tenc p.v.rows)), .mp gb4 (mEnc kForest_span (tenc p.spans)), .mp gb5 (mEnc kForest_part (tenc v_)), rW A5 L5 C5 62 7 eFNode Nodes_] Φ N') (fun N1 hN1 => ?_) ?_
 refine cC hF (fun hF => ?_) (fun hF => ?_)
 refine cR (oV vM (oV vC ((fD 3) ((fD 4) (oV (vL 1 ty51) (oV (v_lenS (enc := eFNode) p.f.Nodes sl51 rfl (.r 8 _ rfl)) (oV vA (o_seq (c_seq (c_draw (n := 7) [0, 0, 0, 0, 0, 0, 0, 1] mixed rfl rfl (dv 0 rfl vM (dv 1 rfl vC (dv 2 rfl (vF 2) (dv 3 rfl (vL 1 ty89) ?_))))))))))))))
 refine dv 4 rfl (vL 0 ty85) (dv 5 rfl vM (dO 6 rfl (o_updateT (enc := kForest_part) (eq := qForest_part) (k := x_) (m := p.parts) 7 Try.underlying89 kt85 rfl rfl rfl rfl (o_H [.box b1 85 (vForest_part x_), .box b 100 [pt gb, .map (some gb4), .map (some gb5), iI p.f.Root, sl A4 L4 C4], .box gb 91 [iI p.v.g.Nts, iI p.v.g.Start, sl A1 L1 C1, sl A2 L2 C2, sl A3 L3 C3, .map (some gb1), .map (some gb2), .map (some gb3)], .mp gb1 (mEnc kForest_span (tenc p.v.whole)), .mp gb2 (mEnc kForest_span (tenc p.v.counts)), .mp gb3 (mEnc kForest_part (tenc p.v.rows)), .mp gb4 (mEnc kForest_span (tenc p.spans)), .mp gb5 (mEnc kForest_part (tenc (tput qForest_part x_ (p.f.Nodes.length : Int) p.parts))), rW A4 L4 C4 62 7 eFNode p.f.Nodes] rfl (dN [0, 0, 0, 0, 0, 0, 0, 1] 0 (d_done_seq (by kernel_rfl) (c_draw (n := 21) [0, 1, 1, 1, 1, 1, 1] mixed rfl rfl (dv 0 rfl vM (dv 1 rfl vM (dv 2 rfl vC (dv 3 rfl (vF 3) (dv 4 rfl (vF 4) (dv 6 rfl (vF 0) (dv 7 rfl (vL 0 ty3) (dv 8 rfl (vF 1) ?_)))))))))))))))
 refine dv 9 rfl (vL 0 ty3) (dv 10 rfl (vF 2) (dv 11 rfl (vL 0 ty3) (dv 12 rfl (vF 3) (dv 13 rfl (vL 0 ty3) (dv 14 rfl (v_build (v := .agg #[iI (-1), iI x_.rule, iI x_.dot, iI x_.from_, iI x_.to, nS, nS]) rfl (fun _ => by kernel_rfl)) (ite_some hF ?_))))))
 intro h3 hF
 refine ite_some hF fun h4 hF => ?_
 refine d_all [5, 15] (by kernel_rfl) (by simp) ⟨⟨_, rfl, ?_⟩, ⟨_, rfl, ?_⟩, trivial⟩
 refine oV (vL 1 ty51) (dN [0, 1, 1, 1, 1, 1, 1] 0 (dO 15 rfl (o_st (st_nilfact 1) (o_st (st_nilfact 4) (o_buildSlice (enc := eFNode) ([(FNode.mk (-1) x_.rule x_.dot x_.from_ x_.to ([] : List Int) ([] : List Alt))] : List FNode) [iI (-1), iI x_.rule, iI x_.dot, iI x_.from_, iI x_.to, nS, nS] sl51 rfl (fun _ => by kernel_rfl) rfl rfl rfl (.s rfl (.s rfl (.s rfl (.s rfl (.s rfl (.f 1 rfl (.f 0 rfl (.nil)))))))) rfl ?_)))))
 intro A6 L6 C6
 refine dN [1, 2, 2, 2, 2, 2, 2] 2 (dO 16 rfl (o_append (enc := eFNode) (xs := p.f.Nodes) (ys := ([(FNode.mk (-1) x_.rule x_.dot x_.from_ x_.to ([] : List Int) ([] : List Alt))] : List FNode)) 9 sl51 rfl rfl rfl (.r 0 _ rfl) h3 h4 rfl ?_))
 intro A7 L7 C7
 refine o_H [.row (sl A6 L6 C6) 62 7 (([(FNode.mk (-1) x_.rule x_.dot x_.from_ x_.to ([] : List Int) ([] : List Alt))] : List FNode).map eFNode), .box b1 85 (vForest_part x_), .box b 100 [pt gb, .map (some gb4), .map (some gb5), iI p.f.Root, sl A4 L4 C4], .box gb 91 [iI p.v.g.Nts, iI p.v.g.Start, sl A1 L1 C1, sl A2 L2 C2, sl A3 L3 C3, .map (some gb1), .map (some gb2), .map (some gb3)], .mp gb1 (mEnc kForest_span (tenc p.v.whole)), .mp gb2 (mEnc kForest_span (tenc p.v.counts)), .mp gb3 (mEnc kForest_part (tenc p.v.rows)), .mp gb4 (mEnc kForest_span (tenc p.spans)), .mp gb5 (mEnc kForest_part (tenc (tput qForest_part x_ (p.f.Nodes.length : Int) p.parts))), .row (sl A7 L7 C7) 62 7 ((p.f.Nodes ++ ([(FNode.mk (-1) x_.rule x_.dot x_.from_ x_.to ([] : List Int) ([] : List Alt))] : List FNode)).map eFNode)] rfl (dN [1, 2, 2, 2, 2, 2, 2] 2 (dv 17 rfl vC (dv 18 rfl (vF 3) (dv 19 rfl (vF 4) (dO 20 rfl ((sT 2 ty51) ?_))))))
 refine dN [1, 2, 2, 2, 2, 2, 2] 2 (dD ?_)
 exact sK [1, 1, 1, 1, 1, 1, 1, 1, 1] [2, 3, 4] (hN1 (p.f.Nodes.length : Int) (p.f.Nodes ++ ([(FNode.mk (-1) x_.rule x_.dot x_.from_ x_.to ([] : List Int) ([] : List Alt))] : List FNode)) (tput qForest_part x_ (p.f.Nodes.length : Int) p.parts) A7 L7 C7 hF)
 refine o_st (st_nilfact 1) (o_st (st_nilfact 4) (o_buildSlice (enc := eFNode) ([(FNode.mk (-1) x_.rule x_.dot x_.from_ x_.to ([] : List Int) ([] : List Alt))] : List FNode) [iI (-1), iI x_.rule, iI x_.dot, iI x_.from_, iI x_.to, nS, nS] sl51 rfl (fun _ => by kernel_rfl) rfl rfl rfl (.s rfl (.s rfl (.s rfl (.s rfl (.s rfl (.f 1 rfl (.f 0 rfl (.nil)))))))) rfl fun A6 L6 C6 => dN [1, 2, 2, 2, 2, 2, 2] 2 (dO 5 rfl (oV (vL 2 ty51) (dN [1, 2, 2, 2, 2, 2, 2] 2 (dO 16 rfl (o_append (enc := eFNode) (xs := p.f.Nodes) (ys := ([(FNode.mk (-1) x_.rule x_.dot x_.from_ x_.to ([] : List Int) ([] : List Alt))] : List FNode)) 9 sl51 rfl rfl rfl (.r 0 _ rfl) h3 h4 rfl ?_)))))))
 intro A7 L7 C7
 refine o_H [.row (sl A6 L6 C6) 62 7 (([(FNode.mk (-1) x_.rule x_.dot x_.from_ x_.to ([] : List Int) ([] : List Alt))] : List FNode).map eFNode), .box b1 85 (vForest_part x_), .box b 100 [pt gb, .map (some gb4), .map (some gb5), iI p.f.Root, sl A4 L4 C4], .box gb 91 [iI p.v.g.Nts, iI p.v.g.Start, sl A1 L1 C1, sl A2 L2 C2, sl A3 L3 C3, .map (some gb1), .map (some gb2), .map (some gb3)], .mp gb1 (mEnc kForest_span (tenc p.v.whole)), .mp gb2 (mEnc kForest_span (tenc p.v.counts)), .mp gb3 (mEnc kForest_part (tenc p.v.rows)), .mp gb4 (mEnc kForest_span (tenc p.spans)), .mp gb5 (mEnc kForest_part (tenc (tput qForest_part x_ (p.f.Nodes.length : Int) p.parts))), .row (sl A7 L7 C7) 62 7 ((p.f.Nodes ++ ([(FNode.mk (-1) x_.rule x_.dot x_.from_ x_.to ([] : List Int) ([] : List Alt))] : List FNode)).map eFNode)] rfl (dN [1, 2, 2, 2, 2, 2, 2] 2 (dv 17 rfl vC (dv 18 rfl (vF 3) (dv 19 rfl (vF 4) (dO 20 rfl ((sT 2 ty51) ?_))))))
 refine dN [1, 2, 2, 2, 2, 2, 2] 2 (dD ?_)
 exact sK [1, 1, 1, 1, 1, 1, 1, 1, 1] [2, 3, 4] (hN1 (p.f.Nodes.length : Int) (p.f.Nodes ++ ([(FNode.mk (-1) x_.rule x_.dot x_.from_ x_.to ([] : List Int) ([] : List Alt))] : List FNode)) (tput qForest_part x_ (p.f.Nodes.length : Int) p.parts) A7 L7 C7 hF)
 refine c_skip ?_
 exact sK [0, 0, 0, 0, 0, 0, 0, 0, 0] [0, 1, 2] (hN1 ((tget qForest_part x_ p.parts).getD 0) p.f.Nodes p.parts A4 L4 C4 hF)
 intro n Nodes_ v_ A5 L5 C5 hF
 unfold F.forest.packer_piece_j1 at hF
 refine sat_wc (cR (oV vM (oV vA (o_seq (c_ret ?_)))))
 cases hF
 refine s_ret1 rfl (r_tmp rfl) fun a w hs => fin_sel hs [1, 1, 1, 1, 1, 1, 1, 1] ⟨A5, L5, C5, rfl, rfl, rfl⟩ rfl sub_nil
end Go.Vc
