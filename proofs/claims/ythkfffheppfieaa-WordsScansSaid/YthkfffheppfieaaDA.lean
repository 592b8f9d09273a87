/-
  Words whose bytes are all the call's own: what they are; the scanner makes such.
-/
import Derived.Test.YthkfffheppfieaaW3
set_option linter.unusedVariables false
set_option linter.unusedSimpArgs false
set_option maxRecDepth 8000
set_option maxHeartbeats 2000000
namespace Go.Vc
open Go Go.Proofs
/-- a word by its memory -/
structure WV where
  w : Word
  a : Option Addr
  n : Nat
  c : Nat
instance : Inhabited WV := ⟨⟨default, none, 0, 0⟩⟩
def eWV (x : WV) : List Dc := [.int .i64 x.w.Kind, .str x.w.Text, .own x.a x.n x.c, .int .u64 x.w.Set.w0, .int .u64 x.w.Set.w1, .int .u64 x.w.Set.w2, .int .u64 x.w.Set.w3, .int .i64 x.w.N_, .int .i64 x.w.At, .int .i64 x.w.Line, .int .i64 x.w.Col]
def rwW (x : WV) : HB := .row (.slice x.a x.n x.c) 5 1 (x.w.Bytes.map eU8)
theorem rwW_nil {nw : Word} (h : nw.Bytes = []) : rwW ⟨nw, none, 0, 0⟩ = .row (.slice none 0 0) 5 1 [] := by simp [rwW, h]
section
variable {E : Env} {l : List (Nat × Value)} {H : List HB} {Φ : List (Value × Dc)}
theorem st_perm {H' : List HB} (hp : H.Perm H') : ∀ a w, St E l H Φ a w → St E l H' Φ a w := fun a w hs =>
  ⟨hs.size, hs.defers, hs.tm, hs.own.perm hp, hs.frm, fun b hb => hs.base b ((hp.filterMap HB.blk).mem_iff.2 hb)⟩
theorem st_sub {l' : List (Nat × Value)} {H' : List HB} {Φ' : List (Value × Dc)} (hl : LE l l') (hH : H'.Sublist H) (hΦ : ∀ p ∈ Φ', p ∈ Φ) : ∀ a w, St E l H Φ a w → St E l' H' Φ' a w := fun a w hs =>
  w_weaken (findT_le hl) hH hΦ hs
theorem st_nilrows : ∀ (new : List WV), (∀ x ∈ new, rwW x = .row (.slice none 0 0) 5 1 []) → ∀ a w, St E l H Φ a w → St E l (H ++ new.map rwW) Φ a w
  | [], _, a, w, hs => by rw [List.map_nil, List.append_nil]; exact hs
  | x :: new, hn, a, w, hs => by
    have h1 := st_nilrows new (fun y hy => hn y (List.mem_cons_of_mem _ hy)) a w hs
    have h2 := st_nilrow 5 1 a w h1
    rw [← hn x List.mem_cons_self] at h2
    exact st_perm List.perm_middle.symm a w h2
end
theorem skip_d (k : Nat) (R : List (List Dc)) (s : Words_scanner) (b : Nat) (sa1 : Option Addr) (sn1 sc1 : Nat) (r : Words_scanner) (hF : F.words.scanner_skip k s = some r) :
    Tri Try.prog 26 [.pointer (some ⟨b, 0, none⟩)] [.box b 49 [.string (bs s.text), .int .i64 s.at_, .int .i64 s.line, .int .i64 s.top, .slice sa1 sn1 sc1], .row (.slice sa1 sn1 sc1) 35 11 R] [] (fun o H Φ => ∃ (sa2 : Option Addr) (sn2 sc2 : Nat), r.out = s.out ∧ o = .ret (.tuple #[]) ∧ H = [.box b 49 [.string (bs r.text), .int .i64 r.at_, .int .i64 r.line, .int .i64 r.top, .slice sa2 sn2 sc2], .row (.slice sa2 sn2 sc2) 35 11 R] ∧ Φ = []) := by
  unfold F.words.scanner_skip at hF
  refine tri_intro (n := 80) Try.func26 rfl Try.ntmps26 rfl fun w X => ?_
  obtain ⟨o1, ho1, hF⟩ := bd hF
  refine c_cut (fun E N' => ∀ (d1 : Int × Int × Int), o1 = .done d1 → Sat E [] [.box b 49 [.string (bs s.text), .int .i64 d1.1, .int .i64 d1.2.1, .int .i64 d1.2.2, .slice sa1 sn1 sc1], .row (.slice sa1 sn1 sc1) 35 11 R] [] N') (fun N1 hN1 => ?_) ?_
  · refine c_block ?_
    refine c_loopE (fun E j a w => ∃ (at__ : Int) (line_ : Int) (top_ : Int), F.words.scanner_skip_l1 k s j at__ line_ top_ = some o1 ∧ St E [(0, .pointer (some ⟨b, 0, none⟩))] [.box b 49 [.string (bs s.text), .int .i64 at__, .int .i64 line_, .int .i64 top_, .slice sa1 sn1 sc1], .row (.slice sa1 sn1 sc1) 35 11 R] [] a w) k ?_ ?_
    · intro a w hs
      exact ⟨s.at_, s.line, s.top, ho1, st_le [0, 0] (le_cons rfl le_nil) rfl sub_nil a w hs⟩
    · rintro j a w ⟨at__, line_, top_, hL1, hs⟩
      cases j with
      | zero => cases hL1
      | succ j =>
        refine wc_app hs ?_
        unfold F.words.scanner_skip_l1 at hL1
        refine c_seq ?_
        refine c_seq ?_
        refine c_draw (n := 10) [0, 0] mixed rfl rfl ?_
        refine d_val 0 rfl pnok (by kernel_rfl) (by kernel_rfl) (by kernel_rfl) rfl (v_move rfl) ?_
        refine d_val 1 rfl pnok (by kernel_rfl) (by kernel_rfl) (by kernel_rfl) rfl (v_nilCheck rfl) ?_
        refine d_val 2 rfl pnok (by kernel_rfl) (by kernel_rfl) (by kernel_rfl) rfl (v_fieldAddr (v := .pointer (some ⟨b, 1, none⟩)) rfl (fun _ => by kernel_rfl)) ?_
        refine d_val 3 rfl pnok (by kernel_rfl) (by kernel_rfl) (by kernel_rfl) rfl (v_load_box 0 ty3 rfl rfl rfl rfl rfl) ?_
        refine d_val 4 rfl pnok (by kernel_rfl) (by kernel_rfl) (by kernel_rfl) rfl (v_move rfl) ?_
        refine d_val 5 rfl pnok (by kernel_rfl) (by kernel_rfl) (by kernel_rfl) rfl (v_nilCheck rfl) ?_
        refine d_val 6 rfl pnok (by kernel_rfl) (by kernel_rfl) (by kernel_rfl) rfl (v_fieldAddr (v := .pointer (some ⟨b, 0, none⟩)) rfl (fun _ => by kernel_rfl)) ?_
        refine d_val 7 rfl pnok (by kernel_rfl) (by kernel_rfl) (by kernel_rfl) rfl (v_load_box 0 ty9 rfl rfl rfl rfl rfl) ?_
        refine d_val 8 rfl pnok (by kernel_rfl) (by kernel_rfl) (by kernel_rfl) rfl (v_len_str Try.underlying9 rfl) ?_
        refine d_val 9 rfl pnok (by kernel_rfl) (by kernel_rfl) (by kernel_rfl) rfl (v_bin rfl rfl rfl) ?_
        refine d_done_seq (by kernel_rfl) ?_
        refine c_cond rfl (fun h1 => ?_) (fun h1 => ?_)
        · replace hL1 := ite_t h1 hL1
          refine c_skip ?_
          refine sat_wc ?_
          refine c_cut (fun E N' => ∀ (at__1 : Int) (line_1 : Int) (top_1 : Int), F.words.scanner_skip_j2 (F.words.scanner_skip_l1 k s j) at__1 line_1 top_1 = some o1 → Sat E [(0, .pointer (some ⟨b, 0, none⟩)), (20, .int .u8 (sAt s.text at__))] [.box b 49 [.string (bs s.text), .int .i64 at__1, .int .i64 line_1, .int .i64 top_1, .slice sa1 sn1 sc1], .row (.slice sa1 sn1 sc1) 35 11 R] [] N') (fun N2 hN2 => ?_) ?_
          · refine c_block ?_
            refine c_seq ?_
            refine c_seq ?_
            refine c_draw (n := 9) [0, 0] mixed rfl rfl ?_
            refine d_val 0 rfl pnok (by kernel_rfl) (by kernel_rfl) (by kernel_rfl) rfl (v_move rfl) ?_
            refine d_val 1 rfl pnok (by kernel_rfl) (by kernel_rfl) (by kernel_rfl) rfl (v_nilCheck rfl) ?_
            refine d_val 2 rfl pnok (by kernel_rfl) (by kernel_rfl) (by kernel_rfl) rfl (v_fieldAddr (v := .pointer (some ⟨b, 0, none⟩)) rfl (fun _ => by kernel_rfl)) ?_
            refine d_val 3 rfl pnok (by kernel_rfl) (by kernel_rfl) (by kernel_rfl) rfl (v_load_box 0 ty9 rfl rfl rfl rfl rfl) ?_
            refine d_val 4 rfl pnok (by kernel_rfl) (by kernel_rfl) (by kernel_rfl) rfl (v_move rfl) ?_
            refine d_val 5 rfl pnok (by kernel_rfl) (by kernel_rfl) (by kernel_rfl) rfl (v_nilCheck rfl) ?_
            refine d_val 6 rfl pnok (by kernel_rfl) (by kernel_rfl) (by kernel_rfl) rfl (v_fieldAddr (v := .pointer (some ⟨b, 1, none⟩)) rfl (fun _ => by kernel_rfl)) ?_
            refine d_val 7 rfl pnok (by kernel_rfl) (by kernel_rfl) (by kernel_rfl) rfl (v_load_box 0 ty3 rfl rfl rfl rfl rfl) ?_
            refine ite_some hL1 fun h2 hL1 => ?_
            refine d_val 8 rfl pnok (by kernel_rfl) (by kernel_rfl) (by kernel_rfl) rfl (v_sindex Try.underlying9 rfl rfl h2) ?_
            refine d_done_seq (by kernel_rfl) ?_
            refine c_cut (fun E N' => ∀ (line_2 : Int) (top_2 : Int), F.words.scanner_skip_j3 (F.words.scanner_skip_l1 k s j) at__ line_2 top_2 = some o1 → Sat E [(0, .pointer (some ⟨b, 0, none⟩)), (20, .int .u8 (sAt s.text at__))] [.box b 49 [.string (bs s.text), .int .i64 at__, .int .i64 line_2, .int .i64 top_2, .slice sa1 sn1 sc1], .row (.slice sa1 sn1 sc1) 35 11 R] [] N') (fun N3 hN3 => ?_) ?_
            · refine c_block ?_
              refine c_seq ?_
              refine c_region ?_
              refine o_v (v_bin rfl rfl rfl) rfl ?_
              refine o_v (v_assign rfl) rfl ?_
              refine o_seq ?_
              refine c_cut (fun E N' => ∀ (line_3 : Int) (top_3 : Int), F.words.scanner_skip_j4 (F.words.scanner_skip_l1 k s j) at__ line_3 top_3 = some o1 → Sat E [(0, .pointer (some ⟨b, 0, none⟩)), (20, .int .u8 (sAt s.text at__))] [.box b 49 [.string (bs s.text), .int .i64 at__, .int .i64 line_3, .int .i64 top_3, .slice sa1 sn1 sc1], .row (.slice sa1 sn1 sc1) 35 11 R] [] N') (fun N4 hN4 => ?_) ?_
              · refine c_cond rfl (fun h3 => ?_) (fun h3 => ?_)
                · replace hL1 := ite_t h3 hL1
                  refine c_seq ?_
                  refine c_region ?_
                  refine o_v (v_move rfl) rfl ?_
                  refine o_v (v_nilCheck rfl) rfl ?_
                  refine o_v (v_fieldAddr (v := .pointer (some ⟨b, 2, none⟩)) rfl (fun _ => by kernel_rfl)) rfl ?_
                  refine o_v (v_load_box 0 ty3 rfl rfl rfl rfl rfl) rfl ?_
                  refine o_v (v_bin rfl rfl rfl) rfl ?_
                  refine o_v (v_nilCheck rfl) rfl ?_
                  refine o_v (v_fieldAddr (v := .pointer (some ⟨b, 2, none⟩)) rfl (fun _ => by kernel_rfl)) rfl ?_
                  refine o_store_box 0 rfl ty3 rfl rfl rfl rfl rfl rfl rfl ?_
                  refine o_seq ?_
                  refine c_region ?_
                  refine o_v (v_move rfl) rfl ?_
                  refine o_v (v_move rfl) rfl ?_
                  refine o_v (v_nilCheck rfl) rfl ?_
                  refine o_v (v_fieldAddr (v := .pointer (some ⟨b, 1, none⟩)) rfl (fun _ => by kernel_rfl)) rfl ?_
                  refine o_v (v_load_box 0 ty3 rfl rfl rfl rfl rfl) rfl ?_
                  refine o_v (v_bin rfl rfl rfl) rfl ?_
                  refine o_v (v_nilCheck rfl) rfl ?_
                  refine o_v (v_fieldAddr (v := .pointer (some ⟨b, 3, none⟩)) rfl (fun _ => by kernel_rfl)) rfl ?_
                  refine o_store_box 0 rfl ty3 rfl rfl rfl rfl rfl rfl rfl ?_
                  refine o_nil ?_
                  refine s_st ?_ (hN4 (IntKind.wrap .i64 (line_ + 1)) (IntKind.wrap .i64 (at__ + 1)) hL1)
                  exact st_le [0, 0] (le_cons rfl (le_cons rfl le_nil)) rfl sub_nil
                · replace hL1 := ite_f h3 hL1
                  refine c_seq ?_
                  refine c_seq ?_
                  refine c_region ?_
                  refine o_v (v_bin rfl rfl rfl) rfl ?_
                  refine o_v (v_assign rfl) rfl ?_
                  refine o_seq ?_
                  refine c_cut (fun E N' => ∀ (t38 : Bool), F.words.scanner_skip_j5 k (F.words.scanner_skip_l1 k s j) at__ line_ top_ s t38 = some o1 → Sat E [(0, .pointer (some ⟨b, 0, none⟩)), (20, .int .u8 (sAt s.text at__)), (38, .bool t38)] [.box b 49 [.string (bs s.text), .int .i64 at__, .int .i64 line_, .int .i64 top_, .slice sa1 sn1 sc1], .row (.slice sa1 sn1 sc1) 35 11 R] [] N') (fun N7 hN7 => ?_) ?_
                  · refine c_cond rfl (fun h9 => ?_) (fun h9 => ?_)
                    · replace hL1 := ite_t h9 hL1
                      refine c_skip ?_
                      refine s_st ?_ (hN7 ((sAt s.text at__) == 32) hL1)
                      exact st_le [0, 0] (le_cons rfl (le_cons rfl (le_cons rfl le_nil))) rfl sub_nil
                    · replace hL1 := ite_f h9 hL1
                      refine c_seq ?_
                      refine c_region ?_
                      refine o_v (v_bin rfl rfl rfl) rfl ?_
                      refine o_v (v_assign rfl) rfl ?_
                      refine o_seq ?_
                      refine c_cut (fun E N' => ∀ (t381 : Bool), F.words.scanner_skip_j8 k (F.words.scanner_skip_l1 k s j) at__ line_ top_ s t381 = some o1 → Sat E [(0, .pointer (some ⟨b, 0, none⟩)), (20, .int .u8 (sAt s.text at__)), (38, .bool t381)] [.box b 49 [.string (bs s.text), .int .i64 at__, .int .i64 line_, .int .i64 top_, .slice sa1 sn1 sc1], .row (.slice sa1 sn1 sc1) 35 11 R] [] N') (fun N8 hN8 => ?_) ?_
                      · refine c_cond rfl (fun h10 => ?_) (fun h10 => ?_)
                        · replace hL1 := ite_t h10 hL1
                          refine c_skip ?_
                          refine s_st ?_ (hN8 ((sAt s.text at__) == 9) hL1)
                          exact st_le [0, 0] (le_cons rfl (le_cons rfl (le_cons rfl le_nil))) rfl sub_nil
                        · replace hL1 := ite_f h10 hL1
                          refine c_region ?_
                          refine o_v (v_bin rfl rfl rfl) rfl ?_
                          refine o_v (v_assign rfl) rfl ?_
                          refine o_nil ?_
                          refine s_st ?_ (hN8 ((sAt s.text at__) == 13) hL1)
                          exact st_le [0, 0] (le_cons rfl (le_cons rfl (le_cons rfl le_nil))) rfl sub_nil
                      · intro t381 hL1
                        unfold F.words.scanner_skip_j8 at hL1
                        refine s_st ?_ (hN7 t381 hL1)
                        exact st_le [0, 0] (le_cons rfl (le_cons rfl (le_cons rfl le_nil))) rfl sub_nil
                  · intro t38 hL1
                    unfold F.words.scanner_skip_j5 at hL1
                    refine sat_wc ?_
                    refine c_cond rfl (fun h4 => ?_) (fun h4 => ?_)
                    · replace hL1 := ite_t h4 hL1
                      refine c_skip ?_
                      refine s_st ?_ (hN4 line_ top_ hL1)
                      exact st_le [0, 0] (le_cons rfl (le_cons rfl le_nil)) rfl sub_nil
                    · replace hL1 := ite_f h4 hL1
                      refine c_seq ?_
                      refine c_region ?_
                      refine o_v (v_bin rfl rfl rfl) rfl ?_
                      refine o_v (v_assign rfl) rfl ?_
                      refine o_seq ?_
                      refine c_cond rfl (fun h5 => ?_) (fun h5 => ?_)
                      · replace hL1 := ite_t h5 hL1
                        refine c_seq ?_
                        obtain ⟨o6, ho6, hL1⟩ := bd hL1
                        refine c_cut (fun E N' => Sat E [(0, .pointer (some ⟨b, 0, none⟩)), (20, .int .u8 (sAt s.text at__)), (38, .bool t38)] [.box b 49 [.string (bs s.text), .int .i64 o6, .int .i64 line_, .int .i64 top_, .slice sa1 sn1 sc1], .row (.slice sa1 sn1 sc1) 35 11 R] [] N') (fun N6 hN6 => ?_) ?_
                        · refine c_block ?_
                          refine c_loopE (fun E j a w => ∃ (at__2 : Int), F.words.scanner_skip_l6 s j at__2 = some o6 ∧ St E [(0, .pointer (some ⟨b, 0, none⟩)), (20, .int .u8 (sAt s.text at__)), (38, .bool t38)] [.box b 49 [.string (bs s.text), .int .i64 at__2, .int .i64 line_, .int .i64 top_, .slice sa1 sn1 sc1], .row (.slice sa1 sn1 sc1) 35 11 R] [] a w) k ?_ ?_
                          · intro a w hs
                            exact ⟨at__, ho6, st_le [0, 0] (le_cons rfl (le_cons rfl (le_cons rfl le_nil))) rfl sub_nil a w hs⟩
                          · rintro j a w ⟨at__2, hL6, hs⟩
                            cases j with
                            | zero => cases hL6
                            | succ j =>
                              refine wc_app hs ?_
                              unfold F.words.scanner_skip_l6 at hL6
                              refine c_seq ?_
                              refine c_seq ?_
                              refine c_cut (fun E N' => ∀ (t65 : Bool), F.words.scanner_skip_j7 (F.words.scanner_skip_l6 s j) at__2 t65 = some o6 → Sat E [(0, .pointer (some ⟨b, 0, none⟩)), (20, .int .u8 (sAt s.text at__)), (38, .bool t38), (65, .bool t65)] [.box b 49 [.string (bs s.text), .int .i64 at__2, .int .i64 line_, .int .i64 top_, .slice sa1 sn1 sc1], .row (.slice sa1 sn1 sc1) 35 11 R] [] N') (fun N7 hN7 => ?_) ?_
                              · refine c_draw (n := 22) [0, 0] mixed rfl rfl ?_
                                refine d_val 0 rfl pnok (by kernel_rfl) (by kernel_rfl) (by kernel_rfl) rfl (v_move rfl) ?_
                                refine d_val 1 rfl pnok (by kernel_rfl) (by kernel_rfl) (by kernel_rfl) rfl (v_nilCheck rfl) ?_
                                refine d_val 2 rfl pnok (by kernel_rfl) (by kernel_rfl) (by kernel_rfl) rfl (v_fieldAddr (v := .pointer (some ⟨b, 1, none⟩)) rfl (fun _ => by kernel_rfl)) ?_
                                refine d_val 3 rfl pnok (by kernel_rfl) (by kernel_rfl) (by kernel_rfl) rfl (v_load_box 0 ty3 rfl rfl rfl rfl rfl) ?_
                                refine d_val 4 rfl pnok (by kernel_rfl) (by kernel_rfl) (by kernel_rfl) rfl (v_move rfl) ?_
                                refine d_val 5 rfl pnok (by kernel_rfl) (by kernel_rfl) (by kernel_rfl) rfl (v_nilCheck rfl) ?_
                                refine d_val 6 rfl pnok (by kernel_rfl) (by kernel_rfl) (by kernel_rfl) rfl (v_fieldAddr (v := .pointer (some ⟨b, 0, none⟩)) rfl (fun _ => by kernel_rfl)) ?_
                                refine d_val 7 rfl pnok (by kernel_rfl) (by kernel_rfl) (by kernel_rfl) rfl (v_load_box 0 ty9 rfl rfl rfl rfl rfl) ?_
                                refine d_val 8 rfl pnok (by kernel_rfl) (by kernel_rfl) (by kernel_rfl) rfl (v_len_str Try.underlying9 rfl) ?_
                                refine d_val 9 rfl pnok (by kernel_rfl) (by kernel_rfl) (by kernel_rfl) rfl (v_bin rfl rfl rfl) ?_
                                refine d_val 10 rfl pnok (by kernel_rfl) (by kernel_rfl) (by kernel_rfl) rfl (v_move rfl) ?_
                                refine d_split (t := 54) rfl (fun h7 => ?_) (fun h7 => ?_)
                                · replace hL6 := ite_t h7 hL6
                                  refine d_val_on 11 rfl rfl rfl pnok (by kernel_rfl) (by kernel_rfl) (by kernel_rfl) rfl (v_move rfl) ?_
                                  refine d_val_on 12 rfl rfl rfl pnok (by kernel_rfl) (by kernel_rfl) (by kernel_rfl) rfl (v_nilCheck rfl) ?_
                                  refine d_val_on 13 rfl rfl rfl pnok (by kernel_rfl) (by kernel_rfl) (by kernel_rfl) rfl (v_fieldAddr (v := .pointer (some ⟨b, 0, none⟩)) rfl (fun _ => by kernel_rfl)) ?_
                                  refine d_val_on 14 rfl rfl rfl pnok (by kernel_rfl) (by kernel_rfl) (by kernel_rfl) rfl (v_load_box 0 ty9 rfl rfl rfl rfl rfl) ?_
                                  refine d_val_on 15 rfl rfl rfl pnok (by kernel_rfl) (by kernel_rfl) (by kernel_rfl) rfl (v_move rfl) ?_
                                  refine d_val_on 16 rfl rfl rfl pnok (by kernel_rfl) (by kernel_rfl) (by kernel_rfl) rfl (v_nilCheck rfl) ?_
                                  refine d_val_on 17 rfl rfl rfl pnok (by kernel_rfl) (by kernel_rfl) (by kernel_rfl) rfl (v_fieldAddr (v := .pointer (some ⟨b, 1, none⟩)) rfl (fun _ => by kernel_rfl)) ?_
                                  refine d_val_on 18 rfl rfl rfl pnok (by kernel_rfl) (by kernel_rfl) (by kernel_rfl) rfl (v_load_box 0 ty3 rfl rfl rfl rfl rfl) ?_
                                  refine ite_some hL6 fun h8 hL6 => ?_
                                  refine d_val_on 19 rfl rfl rfl pnok (by kernel_rfl) (by kernel_rfl) (by kernel_rfl) rfl (v_sindex Try.underlying9 rfl rfl h8) ?_
                                  refine d_val_on 20 rfl rfl rfl pnok (by kernel_rfl) (by kernel_rfl) (by kernel_rfl) rfl (v_bin rfl rfl rfl) ?_
                                  refine d_val 21 rfl pnok (by kernel_rfl) (by kernel_rfl) (by kernel_rfl) rfl (v_pick_t rfl rfl) ?_
                                  refine d_done (by kernel_rfl) ?_
                                  refine s_st ?_ (hN7 ((sAt s.text at__2) != 10) hL6)
                                  exact st_le [0, 0] (le_cons rfl (le_cons rfl (le_cons rfl (le_cons rfl le_nil)))) rfl sub_nil
                                · replace hL6 := ite_f h7 hL6
                                  refine d_off 11 rfl rfl rfl (by decide) pnok (by kernel_rfl) (by kernel_rfl) (by kernel_rfl) rfl ?_
                                  refine d_off 12 rfl rfl rfl (by decide) pnok (by kernel_rfl) (by kernel_rfl) (by kernel_rfl) rfl ?_
                                  refine d_off 13 rfl rfl rfl (by decide) pnok (by kernel_rfl) (by kernel_rfl) (by kernel_rfl) rfl ?_
                                  refine d_off 14 rfl rfl rfl (by decide) pnok (by kernel_rfl) (by kernel_rfl) (by kernel_rfl) rfl ?_
                                  refine d_off 15 rfl rfl rfl (by decide) pnok (by kernel_rfl) (by kernel_rfl) (by kernel_rfl) rfl ?_
                                  refine d_off 16 rfl rfl rfl (by decide) pnok (by kernel_rfl) (by kernel_rfl) (by kernel_rfl) rfl ?_
                                  refine d_off 17 rfl rfl rfl (by decide) pnok (by kernel_rfl) (by kernel_rfl) (by kernel_rfl) rfl ?_
                                  refine d_off 18 rfl rfl rfl (by decide) pnok (by kernel_rfl) (by kernel_rfl) (by kernel_rfl) rfl ?_
                                  refine d_off 19 rfl rfl rfl (by decide) pnok (by kernel_rfl) (by kernel_rfl) (by kernel_rfl) rfl ?_
                                  refine d_off 20 rfl rfl rfl (by decide) pnok (by kernel_rfl) (by kernel_rfl) (by kernel_rfl) rfl ?_
                                  refine d_val 21 rfl pnok (by kernel_rfl) (by kernel_rfl) (by kernel_rfl) rfl (v_pick_f rfl rfl) ?_
                                  refine d_done (by kernel_rfl) ?_
                                  refine s_st ?_ (hN7 false hL6)
                                  exact st_le [0, 0] (le_cons rfl (le_cons rfl (le_cons rfl (le_cons rfl le_nil)))) rfl sub_nil
                              · intro t65 hL6
                                unfold F.words.scanner_skip_j7 at hL6
                                refine sat_wc ?_
                                refine c_cond rfl (fun h6 => ?_) (fun h6 => ?_)
                                · replace hL6 := ite_t h6 hL6
                                  refine c_skip ?_
                                  refine sat_wc ?_
                                  refine c_block ?_
                                  refine c_region ?_
                                  refine o_v (v_move rfl) rfl ?_
                                  refine o_v (v_nilCheck rfl) rfl ?_
                                  refine o_v (v_fieldAddr (v := .pointer (some ⟨b, 1, none⟩)) rfl (fun _ => by kernel_rfl)) rfl ?_
                                  refine o_v (v_load_box 0 ty3 rfl rfl rfl rfl rfl) rfl ?_
                                  refine o_v (v_bin rfl rfl rfl) rfl ?_
                                  refine o_v (v_nilCheck rfl) rfl ?_
                                  refine o_v (v_fieldAddr (v := .pointer (some ⟨b, 1, none⟩)) rfl (fun _ => by kernel_rfl)) rfl ?_
                                  refine o_store_box 0 rfl ty3 rfl rfl rfl rfl rfl rfl rfl ?_
                                  refine o_nil ?_
                                  intro a w hs
                                  exact ⟨j, Nat.lt_succ_self j, IntKind.wrap .i64 (at__2 + 1), hL6, st_le [0, 0] (le_cons rfl (le_cons rfl (le_cons rfl le_nil))) rfl sub_nil a w hs⟩
                                · replace hL6 := ite_f h6 hL6
                                  refine c_exit0 ?_
                                  cases hL6
                                  refine s_st ?_ (hN6)
                                  exact st_le [0, 0] (le_cons rfl (le_cons rfl (le_cons rfl le_nil))) rfl sub_nil
                        · refine sat_wc ?_
                          refine c_exit1 ?_
                          refine s_st ?_ (hN2 o6 line_ top_ hL1)
                          exact st_le [0, 0] (le_cons rfl (le_cons rfl le_nil)) rfl sub_nil
                      · replace hL1 := ite_f h5 hL1
                        refine c_ret ?_
                        cases hL1
                        obtain rfl := lrf_ret hF
                        refine s_ret0 rfl fun a w hs => ?_
                        exact fin_sel hs [0, 0] ⟨sa1, sn1, sc1, rfl, rfl, rfl, rfl⟩ rfl sub_nil
              · intro line_3 top_3 hL1
                unfold F.words.scanner_skip_j4 at hL1
                refine s_st ?_ (hN3 line_3 top_3 hL1)
                exact st_le [0, 0] (le_cons rfl (le_cons rfl le_nil)) rfl sub_nil
            · intro line_2 top_2 hL1
              unfold F.words.scanner_skip_j3 at hL1
              refine sat_wc ?_
              refine c_region ?_
              refine o_v (v_move rfl) rfl ?_
              refine o_v (v_nilCheck rfl) rfl ?_
              refine o_v (v_fieldAddr (v := .pointer (some ⟨b, 1, none⟩)) rfl (fun _ => by kernel_rfl)) rfl ?_
              refine o_v (v_load_box 0 ty3 rfl rfl rfl rfl rfl) rfl ?_
              refine o_v (v_bin rfl rfl rfl) rfl ?_
              refine o_v (v_nilCheck rfl) rfl ?_
              refine o_v (v_fieldAddr (v := .pointer (some ⟨b, 1, none⟩)) rfl (fun _ => by kernel_rfl)) rfl ?_
              refine o_store_box 0 rfl ty3 rfl rfl rfl rfl rfl rfl rfl ?_
              refine o_nil ?_
              refine s_st ?_ (hN2 (IntKind.wrap .i64 (at__ + 1)) line_2 top_2 hL1)
              exact st_le [0, 0] (le_cons rfl (le_cons rfl le_nil)) rfl sub_nil
          · intro at__1 line_1 top_1 hL1
            unfold F.words.scanner_skip_j2 at hL1
            intro a w hs
            exact ⟨j, Nat.lt_succ_self j, at__1, line_1, top_1, hL1, st_le [0, 0] (le_cons rfl le_nil) rfl sub_nil a w hs⟩
        · replace hL1 := ite_f h1 hL1
          refine c_exit0 ?_
          cases hL1
          refine s_st ?_ (hN1 (at__, line_, top_) rfl)
          exact st_le [0, 0] le_nil rfl sub_nil
  · intro d1 hd
    subst hd
    replace hF := lrf_done hF
    cases hF
    refine s_ret0 rfl fun a w hs => ?_
    exact fin_sel hs [0, 0] ⟨sa1, sn1, sc1, rfl, rfl, rfl, rfl⟩ rfl sub_nil
theorem put_d (s : Words_scanner) (ws : List WV) (hws : ws.map WV.w = s.out) (w_ : Word) (end_ : Int) (b : Nat) (sa1 : Option Addr) (sn1 sc1 : Nat) (sa2 : Option Addr) (sn2 sc2 : Nat) (r : Words_scanner) (hF : F.words.scanner_put s w_ end_ = some r) :
    Tri Try.prog 28 [.pointer (some ⟨b, 0, none⟩), .agg #[.int .i64 w_.Kind, .string (bs w_.Text), .slice sa2 sn2 sc2, .int .u64 w_.Set.w0, .int .u64 w_.Set.w1, .int .u64 w_.Set.w2, .int .u64 w_.Set.w3, .int .i64 w_.N_, .int .i64 w_.At, .int .i64 w_.Line, .int .i64 w_.Col], .int .i64 end_] [.box b 49 [.string (bs s.text), .int .i64 s.at_, .int .i64 s.line, .int .i64 s.top, .slice sa1 sn1 sc1], .row (.slice sa1 sn1 sc1) 35 11 (ws.map eWV)] [] (fun o H Φ => ∃ (nw : Word) (ws2 : List WV) (sa5 : Option Addr) (sn5 sc5 : Nat), ws2 = ws ++ [⟨nw, sa2, sn2, sc2⟩] ∧ r.out = ws2.map WV.w ∧ nw.Bytes = w_.Bytes ∧ o = .ret (.tuple #[]) ∧ H = [.box b 49 [.string (bs r.text), .int .i64 r.at_, .int .i64 r.line, .int .i64 r.top, .slice sa5 sn5 sc5], .row (.slice sa5 sn5 sc5) 35 11 (ws2.map eWV)] ∧ Φ = []) := by
  unfold F.words.scanner_put at hF
  refine tri_intro (n := 52) Try.func28 rfl Try.ntmps28 rfl fun w X => ?_
  refine c_seq ?_
  refine c_region ?_
  refine o_box rfl rfl rfl fun b1 => ?_
  refine o_seq ?_
  refine c_seq ?_
  refine c_draw (n := 36) [1, 1] mixed rfl rfl ?_
  refine d_val 0 rfl pnok (by kernel_rfl) (by kernel_rfl) (by kernel_rfl) rfl (v_move rfl) ?_
  refine d_val 1 rfl pnok (by kernel_rfl) (by kernel_rfl) (by kernel_rfl) rfl (v_nilCheck rfl) ?_
  refine d_val 2 rfl pnok (by kernel_rfl) (by kernel_rfl) (by kernel_rfl) rfl (v_fieldAddr (v := .pointer (some ⟨b, 0, none⟩)) rfl (fun _ => by kernel_rfl)) ?_
  refine d_val 3 rfl pnok (by kernel_rfl) (by kernel_rfl) (by kernel_rfl) rfl (v_load_box 0 ty9 rfl rfl rfl rfl rfl) ?_
  refine d_val 4 rfl pnok (by kernel_rfl) (by kernel_rfl) (by kernel_rfl) rfl (v_move rfl) ?_
  refine d_val 5 rfl pnok (by kernel_rfl) (by kernel_rfl) (by kernel_rfl) rfl (v_nilCheck rfl) ?_
  refine d_val 6 rfl pnok (by kernel_rfl) (by kernel_rfl) (by kernel_rfl) rfl (v_fieldAddr (v := .pointer (some ⟨b, 1, none⟩)) rfl (fun _ => by kernel_rfl)) ?_
  refine d_val 7 rfl pnok (by kernel_rfl) (by kernel_rfl) (by kernel_rfl) rfl (v_load_box 0 ty3 rfl rfl rfl rfl rfl) ?_
  refine d_val 8 rfl pnok (by kernel_rfl) (by kernel_rfl) (by kernel_rfl) rfl (v_move rfl) ?_
  refine ite_some hF fun h1 hF => ?_
  refine d_val 9 rfl pnok (by kernel_rfl) (by kernel_rfl) (by kernel_rfl) rfl (v_strslice Try.underlying9 rfl rfl rfl rfl rfl h1) ?_
  refine d_val 10 rfl pnok (by kernel_rfl) (by kernel_rfl) (by kernel_rfl) rfl (v_move rfl) ?_
  refine d_val 11 rfl pnok (by kernel_rfl) (by kernel_rfl) (by kernel_rfl) rfl (v_nilCheck rfl) ?_
  refine d_val 12 rfl pnok (by kernel_rfl) (by kernel_rfl) (by kernel_rfl) rfl (v_fieldAddr (v := .pointer (some ⟨b, 1, none⟩)) rfl (fun _ => by kernel_rfl)) ?_
  refine d_val 13 rfl pnok (by kernel_rfl) (by kernel_rfl) (by kernel_rfl) rfl (v_load_box 0 ty3 rfl rfl rfl rfl rfl) ?_
  refine d_val 14 rfl pnok (by kernel_rfl) (by kernel_rfl) (by kernel_rfl) rfl (v_move rfl) ?_
  refine d_val 15 rfl pnok (by kernel_rfl) (by kernel_rfl) (by kernel_rfl) rfl (v_nilCheck rfl) ?_
  refine d_val 16 rfl pnok (by kernel_rfl) (by kernel_rfl) (by kernel_rfl) rfl (v_fieldAddr (v := .pointer (some ⟨b, 2, none⟩)) rfl (fun _ => by kernel_rfl)) ?_
  refine d_val 17 rfl pnok (by kernel_rfl) (by kernel_rfl) (by kernel_rfl) rfl (v_load_box 0 ty3 rfl rfl rfl rfl rfl) ?_
  refine d_val 18 rfl pnok (by kernel_rfl) (by kernel_rfl) (by kernel_rfl) rfl (v_move rfl) ?_
  refine d_val 19 rfl pnok (by kernel_rfl) (by kernel_rfl) (by kernel_rfl) rfl (v_nilCheck rfl) ?_
  refine d_val 20 rfl pnok (by kernel_rfl) (by kernel_rfl) (by kernel_rfl) rfl (v_fieldAddr (v := .pointer (some ⟨b, 1, none⟩)) rfl (fun _ => by kernel_rfl)) ?_
  refine d_val 21 rfl pnok (by kernel_rfl) (by kernel_rfl) (by kernel_rfl) rfl (v_load_box 0 ty3 rfl rfl rfl rfl rfl) ?_
  refine d_val 22 rfl pnok (by kernel_rfl) (by kernel_rfl) (by kernel_rfl) rfl (v_move rfl) ?_
  refine d_val 23 rfl pnok (by kernel_rfl) (by kernel_rfl) (by kernel_rfl) rfl (v_nilCheck rfl) ?_
  refine d_val 24 rfl pnok (by kernel_rfl) (by kernel_rfl) (by kernel_rfl) rfl (v_fieldAddr (v := .pointer (some ⟨b, 3, none⟩)) rfl (fun _ => by kernel_rfl)) ?_
  refine d_val 25 rfl pnok (by kernel_rfl) (by kernel_rfl) (by kernel_rfl) rfl (v_load_box 0 ty3 rfl rfl rfl rfl rfl) ?_
  refine d_val 26 rfl pnok (by kernel_rfl) (by kernel_rfl) (by kernel_rfl) rfl (v_bin rfl rfl rfl) ?_
  refine d_val 27 rfl pnok (by kernel_rfl) (by kernel_rfl) (by kernel_rfl) rfl (v_bin rfl rfl rfl) ?_
  refine d_val 28 rfl pnok (by kernel_rfl) (by kernel_rfl) (by kernel_rfl) rfl (v_fieldAddr (v := .pointer (some ⟨b1, 1, none⟩)) rfl (fun _ => by kernel_rfl)) ?_
  refine d_one 29 rfl (by kernel_rfl) ?_
  refine o_store_box 0 rfl ty9 rfl rfl rfl rfl rfl rfl rfl ?_
  refine d_next [1, 1] 0 rfl rfl ?_
  refine d_val 30 rfl pnok (by kernel_rfl) (by kernel_rfl) (by kernel_rfl) rfl (v_fieldAddr (v := .pointer (some ⟨b1, 8, none⟩)) rfl (fun _ => by kernel_rfl)) ?_
  refine d_one 31 rfl (by kernel_rfl) ?_
  refine o_store_box 0 rfl ty3 rfl rfl rfl rfl rfl rfl rfl ?_
  refine d_next [1, 1] 0 rfl rfl ?_
  refine d_val 32 rfl pnok (by kernel_rfl) (by kernel_rfl) (by kernel_rfl) rfl (v_fieldAddr (v := .pointer (some ⟨b1, 9, none⟩)) rfl (fun _ => by kernel_rfl)) ?_
  refine d_one 33 rfl (by kernel_rfl) ?_
  refine o_store_box 0 rfl ty3 rfl rfl rfl rfl rfl rfl rfl ?_
  refine d_next [1, 1] 0 rfl rfl ?_
  refine d_val 34 rfl pnok (by kernel_rfl) (by kernel_rfl) (by kernel_rfl) rfl (v_fieldAddr (v := .pointer (some ⟨b1, 10, none⟩)) rfl (fun _ => by kernel_rfl)) ?_
  refine d_one 35 rfl (by kernel_rfl) ?_
  refine o_store_box 0 rfl ty3 rfl rfl rfl rfl rfl rfl rfl ?_
  refine d_next [1, 1] 0 rfl rfl ?_
  refine d_done_seq (by kernel_rfl) ?_
  refine c_seq ?_
  refine c_draw (n := 11) [0] mixed rfl rfl ?_
  refine d_val 0 rfl pnok (by kernel_rfl) (by kernel_rfl) (by kernel_rfl) rfl (v_move rfl) ?_
  refine d_val 1 rfl pnok (by kernel_rfl) (by kernel_rfl) (by kernel_rfl) rfl (v_move rfl) ?_
  refine d_val 2 rfl pnok (by kernel_rfl) (by kernel_rfl) (by kernel_rfl) rfl (v_nilCheck rfl) ?_
  refine d_val 3 rfl pnok (by kernel_rfl) (by kernel_rfl) (by kernel_rfl) rfl (v_fieldAddr (v := .pointer (some ⟨b, 4, none⟩)) rfl (fun _ => by kernel_rfl)) ?_
  refine d_val 5 rfl pnok (by kernel_rfl) (by kernel_rfl) (by kernel_rfl) rfl (v_load_box 0 ty35 rfl rfl rfl rfl rfl) ?_
  refine d_all [4, 6] (by kernel_rfl) (by simp) ⟨⟨_, rfl, ?_⟩, ⟨_, rfl, ?_⟩, trivial⟩
  · refine o_v (v_load_box 1 ty23 rfl rfl rfl rfl rfl) rfl ?_
    refine d_next [0] 0 rfl rfl ?_
    refine d_one 6 rfl (by kernel_rfl) ?_
    refine o_buildSlice (enc := eWV) ([⟨(Word.mk w_.Kind (sub s.text s.at_ end_) w_.Bytes w_.Set w_.N_ s.at_ s.line (IntKind.wrap .i64 ((IntKind.wrap .i64 (s.at_ - s.top)) + 1))), sa2, sn2, sc2⟩] : List WV) [.int .i64 w_.Kind, .string (bs (sub s.text s.at_ end_)), .slice sa2 sn2 sc2, .int .u64 w_.Set.w0, .int .u64 w_.Set.w1, .int .u64 w_.Set.w2, .int .u64 w_.Set.w3, .int .i64 w_.N_, .int .i64 s.at_, .int .i64 s.line, .int .i64 (IntKind.wrap .i64 ((IntKind.wrap .i64 (s.at_ - s.top)) + 1))] sl23 rfl (fun _ => by kernel_rfl) rfl rfl rfl (.s rfl (.s rfl (.s rfl (.s rfl (.s rfl (.s rfl (.s rfl (.s rfl (.s rfl (.s rfl (.s rfl (.nil)))))))))))) rfl fun sa3 sn3 sc3 => ?_
    refine d_next [1] 0 rfl rfl ?_
    refine d_one 7 rfl (by kernel_rfl) ?_
    refine ite_some hF fun h2 hF => ?_
    refine ite_some hF fun h3 hF => ?_
    refine o_append (enc := eWV) (xs := ws) (ys := ([⟨(Word.mk w_.Kind (sub s.text s.at_ end_) w_.Bytes w_.Set w_.N_ s.at_ s.line (IntKind.wrap .i64 ((IntKind.wrap .i64 (s.at_ - s.top)) + 1))), sa2, sn2, sc2⟩] : List WV)) 3 sl23 rfl rfl rfl (.r 0 _ rfl) (by rw [← hws, List.length_map] at h2; exact h2) (by rw [← hws, List.length_map] at h3; exact h3) rfl fun sa4 sn4 sc4 => ?_
    refine d_next [1] 0 rfl rfl ?_
    refine d_val 8 rfl pnok (by kernel_rfl) (by kernel_rfl) (by kernel_rfl) rfl (v_nilCheck rfl) ?_
    refine d_val 9 rfl pnok (by kernel_rfl) (by kernel_rfl) (by kernel_rfl) rfl (v_fieldAddr (v := .pointer (some ⟨b, 4, none⟩)) rfl (fun _ => by kernel_rfl)) ?_
    refine d_one 10 rfl (by kernel_rfl) ?_
    refine o_store_box 2 rfl ty23 rfl rfl rfl rfl rfl rfl rfl ?_
    refine d_next [1] 0 rfl rfl ?_
    refine d_done_seq (by kernel_rfl) ?_
    refine c_region ?_
    refine o_v (v_move rfl) rfl ?_
    refine o_v (v_move rfl) rfl ?_
    refine o_v (v_nilCheck rfl) rfl ?_
    refine o_v (v_fieldAddr (v := .pointer (some ⟨b, 1, none⟩)) rfl (fun _ => by kernel_rfl)) rfl ?_
    refine o_store_box 2 rfl ty3 rfl rfl rfl rfl rfl rfl rfl ?_
    refine o_nil ?_
    cases hF
    refine s_ret0 rfl fun a w hs => ?_
    exact fin_sel hs [2, 2] ⟨(Word.mk w_.Kind (sub s.text s.at_ end_) w_.Bytes w_.Set w_.N_ s.at_ s.line (IntKind.wrap .i64 ((IntKind.wrap .i64 (s.at_ - s.top)) + 1))), ws ++ [⟨(Word.mk w_.Kind (sub s.text s.at_ end_) w_.Bytes w_.Set w_.N_ s.at_ s.line (IntKind.wrap .i64 ((IntKind.wrap .i64 (s.at_ - s.top)) + 1))), sa2, sn2, sc2⟩], sa4, sn4, sc4, rfl, by rw [List.map_append, hws]; rfl, rfl, rfl, rfl, rfl⟩ rfl sub_nil
  · refine o_buildSlice (enc := eWV) ([⟨(Word.mk w_.Kind (sub s.text s.at_ end_) w_.Bytes w_.Set w_.N_ s.at_ s.line (IntKind.wrap .i64 ((IntKind.wrap .i64 (s.at_ - s.top)) + 1))), sa2, sn2, sc2⟩] : List WV) [.int .i64 w_.Kind, .string (bs (sub s.text s.at_ end_)), .slice sa2 sn2 sc2, .int .u64 w_.Set.w0, .int .u64 w_.Set.w1, .int .u64 w_.Set.w2, .int .u64 w_.Set.w3, .int .i64 w_.N_, .int .i64 s.at_, .int .i64 s.line, .int .i64 (IntKind.wrap .i64 ((IntKind.wrap .i64 (s.at_ - s.top)) + 1))] sl23 rfl (fun _ => by kernel_rfl) rfl rfl rfl (.s rfl (.s rfl (.s rfl (.s rfl (.s rfl (.s rfl (.s rfl (.s rfl (.s rfl (.s rfl (.s rfl (.nil)))))))))))) rfl fun sa3 sn3 sc3 => ?_
    refine d_next [1] 0 rfl rfl ?_
    refine d_one 4 rfl (by kernel_rfl) ?_
    refine o_v (v_load_box 2 ty23 rfl rfl rfl rfl rfl) rfl ?_
    refine d_next [1] 0 rfl rfl ?_
    refine d_one 7 rfl (by kernel_rfl) ?_
    refine ite_some hF fun h2 hF => ?_
    refine ite_some hF fun h3 hF => ?_
    refine o_append (enc := eWV) (xs := ws) (ys := ([⟨(Word.mk w_.Kind (sub s.text s.at_ end_) w_.Bytes w_.Set w_.N_ s.at_ s.line (IntKind.wrap .i64 ((IntKind.wrap .i64 (s.at_ - s.top)) + 1))), sa2, sn2, sc2⟩] : List WV)) 3 sl23 rfl rfl rfl (.r 0 _ rfl) (by rw [← hws, List.length_map] at h2; exact h2) (by rw [← hws, List.length_map] at h3; exact h3) rfl fun sa4 sn4 sc4 => ?_
    refine d_next [1] 0 rfl rfl ?_
    refine d_val 8 rfl pnok (by kernel_rfl) (by kernel_rfl) (by kernel_rfl) rfl (v_nilCheck rfl) ?_
    refine d_val 9 rfl pnok (by kernel_rfl) (by kernel_rfl) (by kernel_rfl) rfl (v_fieldAddr (v := .pointer (some ⟨b, 4, none⟩)) rfl (fun _ => by kernel_rfl)) ?_
    refine d_one 10 rfl (by kernel_rfl) ?_
    refine o_store_box 2 rfl ty23 rfl rfl rfl rfl rfl rfl rfl ?_
    refine d_next [1] 0 rfl rfl ?_
    refine d_done_seq (by kernel_rfl) ?_
    refine c_region ?_
    refine o_v (v_move rfl) rfl ?_
    refine o_v (v_move rfl) rfl ?_
    refine o_v (v_nilCheck rfl) rfl ?_
    refine o_v (v_fieldAddr (v := .pointer (some ⟨b, 1, none⟩)) rfl (fun _ => by kernel_rfl)) rfl ?_
    refine o_store_box 2 rfl ty3 rfl rfl rfl rfl rfl rfl rfl ?_
    refine o_nil ?_
    cases hF
    refine s_ret0 rfl fun a w hs => ?_
    exact fin_sel hs [2, 2] ⟨(Word.mk w_.Kind (sub s.text s.at_ end_) w_.Bytes w_.Set w_.N_ s.at_ s.line (IntKind.wrap .i64 ((IntKind.wrap .i64 (s.at_ - s.top)) + 1))), ws ++ [⟨(Word.mk w_.Kind (sub s.text s.at_ end_) w_.Bytes w_.Set w_.N_ s.at_ s.line (IntKind.wrap .i64 ((IntKind.wrap .i64 (s.at_ - s.top)) + 1))), sa2, sn2, sc2⟩], sa4, sn4, sc4, rfl, by rw [List.map_append, hws]; rfl, rfl, rfl, rfl, rfl⟩ rfl sub_nil
theorem number_d (k : Nat) (s : Words_scanner) (ws : List WV) (hws : ws.map WV.w = s.out) (b : Nat) (sa1 : Option Addr) (sn1 sc1 : Nat) (r : Int × Words_scanner) (hF : F.words.scanner_number k s = some r) :
    Tri Try.prog 46 [.pointer (some ⟨b, 0, none⟩)] [.box b 49 [.string (bs s.text), .int .i64 s.at_, .int .i64 s.line, .int .i64 s.top, .slice sa1 sn1 sc1], .row (.slice sa1 sn1 sc1) 35 11 (ws.map eWV)] [] (fun o H Φ => ∃ (ws2 new : List WV) (sa3 : Option Addr) (sn3 sc3 : Nat), ws2 = ws ++ new ∧ r.2.out = ws2.map WV.w ∧ (∀ x ∈ new, rwW x = .row (.slice none 0 0) 5 1 []) ∧ o = .ret (.int .i64 r.1) ∧ H = [.box b 49 [.string (bs r.2.text), .int .i64 r.2.at_, .int .i64 r.2.line, .int .i64 r.2.top, .slice sa3 sn3 sc3], .row (.slice sa3 sn3 sc3) 35 11 (ws2.map eWV)] ∧ Φ = []) := by
  unfold F.words.scanner_number at hF
  refine tri_intro (n := 70) Try.func46 rfl Try.ntmps46 rfl fun w X => ?_
  refine c_seq ?_
  refine c_region ?_
  refine o_v (v_assign rfl) rfl ?_
  refine o_seq ?_
  refine c_seq ?_
  refine c_region ?_
  refine o_v (v_move rfl) rfl ?_
  refine o_v (v_nilCheck rfl) rfl ?_
  refine o_v (v_fieldAddr (v := .pointer (some ⟨b, 1, none⟩)) rfl (fun _ => by kernel_rfl)) rfl ?_
  refine o_v (v_load_box 0 ty3 rfl rfl rfl rfl rfl) rfl ?_
  refine o_v (v_assign rfl) rfl ?_
  refine o_seq ?_
  refine c_seq ?_
  refine c_region ?_
  refine o_v (v_assign rfl) rfl ?_
  refine o_seq ?_
  refine c_seq ?_
  obtain ⟨o1, ho1, hF⟩ := bd hF
  refine c_cut (fun E N' => ∀ (d1 : Int × Int), o1 = .done d1 → Sat E [(0, .pointer (some ⟨b, 0, none⟩)), (2, .int .i64 0), (3, .int .i64 d1.1), (4, .int .i64 d1.2)] [.box b 49 [.string (bs s.text), .int .i64 s.at_, .int .i64 s.line, .int .i64 s.top, .slice sa1 sn1 sc1], .row (.slice sa1 sn1 sc1) 35 11 (ws.map eWV)] [] N') (fun N1 hN1 => ?_) ?_
  · refine c_block ?_
    refine c_loopE (fun E j a w => ∃ (end_ : Int) (n : Int), F.words.scanner_number_l1 s j end_ n = some o1 ∧ St E [(0, .pointer (some ⟨b, 0, none⟩)), (2, .int .i64 0), (3, .int .i64 end_), (4, .int .i64 n)] [.box b 49 [.string (bs s.text), .int .i64 s.at_, .int .i64 s.line, .int .i64 s.top, .slice sa1 sn1 sc1], .row (.slice sa1 sn1 sc1) 35 11 (ws.map eWV)] [] a w) k ?_ ?_
    · intro a w hs
      exact ⟨s.at_, 0, ho1, st_le [0, 0] (le_cons rfl (le_cons rfl (le_cons rfl (le_cons rfl le_nil)))) rfl sub_nil a w hs⟩
    · rintro j a w ⟨end_, n, hL1, hs⟩
      cases j with
      | zero => cases hL1
      | succ j =>
        refine wc_app hs ?_
        unfold F.words.scanner_number_l1 at hL1
        refine c_seq ?_
        refine c_seq ?_
        refine c_cut (fun E N' => ∀ (t25 : Bool), F.words.scanner_number_j2 end_ s (F.words.scanner_number_l1 s j) n t25 = some o1 → Sat E [(0, .pointer (some ⟨b, 0, none⟩)), (2, .int .i64 0), (3, .int .i64 end_), (4, .int .i64 n), (25, .bool t25)] [.box b 49 [.string (bs s.text), .int .i64 s.at_, .int .i64 s.line, .int .i64 s.top, .slice sa1 sn1 sc1], .row (.slice sa1 sn1 sc1) 35 11 (ws.map eWV)] [] N') (fun N2 hN2 => ?_) ?_
        · refine c_region ?_
          refine o_v (v_move rfl) rfl ?_
          refine o_v (v_move rfl) rfl ?_
          refine o_v (v_nilCheck rfl) rfl ?_
          refine o_v (v_fieldAddr (v := .pointer (some ⟨b, 0, none⟩)) rfl (fun _ => by kernel_rfl)) rfl ?_
          refine o_v (v_load_box 0 ty9 rfl rfl rfl rfl rfl) rfl ?_
          refine o_v (v_len_str Try.underlying9 rfl) rfl ?_
          refine o_v (v_bin rfl rfl rfl) rfl ?_
          refine o_v (v_move rfl) rfl ?_
          refine o_split (t := 16) rfl (fun h4 => ?_) (fun h4 => ?_)
          · replace hL1 := ite_t h4 hL1
            refine o_on rfl rfl ?_
            refine o_v (v_move rfl) rfl ?_
            refine o_on rfl rfl ?_
            refine o_v (v_nilCheck rfl) rfl ?_
            refine o_on rfl rfl ?_
            refine o_v (v_fieldAddr (v := .pointer (some ⟨b, 0, none⟩)) rfl (fun _ => by kernel_rfl)) rfl ?_
            refine o_on rfl rfl ?_
            refine o_v (v_load_box 0 ty9 rfl rfl rfl rfl rfl) rfl ?_
            refine o_on rfl rfl ?_
            refine o_v (v_move rfl) rfl ?_
            refine o_on rfl rfl ?_
            refine ite_some hL1 fun h5 hL1 => ?_
            refine o_v (v_sindex Try.underlying9 rfl rfl h5) rfl ?_
            refine o_on rfl rfl ?_
            refine o_v (v_convert (v := .int .i32 (IntKind.wrap .i32 (sAt s.text end_))) rfl (fun _ => by kernel_rfl)) rfl ?_
            refine o_on rfl rfl ?_
            obtain ⟨v, h6, hL1⟩ := bd hL1
            refine o_callSB call45 rfl lent_nil (tri45 (IntKind.wrap .i32 (sAt s.text end_)) v h6) rfl ?_
            refine o_v (v_pick_t rfl rfl) rfl ?_
            refine o_nil ?_
            refine s_st ?_ (hN2 v hL1)
            exact st_le [0, 0] (le_cons rfl (le_cons rfl (le_cons rfl (le_cons rfl (le_cons rfl le_nil))))) rfl sub_nil
          · replace hL1 := ite_f h4 hL1
            refine o_off rfl rfl (by decide) rfl ?_
            refine o_off rfl rfl (by decide) rfl ?_
            refine o_off rfl rfl (by decide) rfl ?_
            refine o_off rfl rfl (by decide) rfl ?_
            refine o_off rfl rfl (by decide) rfl ?_
            refine o_off rfl rfl (by decide) rfl ?_
            refine o_off rfl rfl (by decide) rfl ?_
            refine o_off rfl rfl (by decide) rfl ?_
            refine o_v (v_pick_f rfl rfl) rfl ?_
            refine o_nil ?_
            refine s_st ?_ (hN2 false hL1)
            exact st_le [0, 0] (le_cons rfl (le_cons rfl (le_cons rfl (le_cons rfl (le_cons rfl le_nil))))) rfl sub_nil
        · intro t25 hL1
          unfold F.words.scanner_number_j2 at hL1
          refine sat_wc ?_
          refine c_cond rfl (fun h1 => ?_) (fun h1 => ?_)
          · replace hL1 := ite_t h1 hL1
            refine c_skip ?_
            refine sat_wc ?_
            refine c_block ?_
            refine c_seq ?_
            refine c_seq ?_
            refine c_region ?_
            refine o_v (v_move rfl) rfl ?_
            refine o_v (v_move rfl) rfl ?_
            refine o_v (v_nilCheck rfl) rfl ?_
            refine o_v (v_fieldAddr (v := .pointer (some ⟨b, 1, none⟩)) rfl (fun _ => by kernel_rfl)) rfl ?_
            refine o_v (v_load_box 0 ty3 rfl rfl rfl rfl rfl) rfl ?_
            refine o_v (v_bin rfl rfl rfl) rfl ?_
            refine o_v (v_bin rfl rfl rfl) rfl ?_
            refine o_seq ?_
            refine c_cond rfl (fun h2 => ?_) (fun h2 => ?_)
            · replace hL1 := ite_t h2 hL1
              refine c_seq ?_
              refine c_region ?_
              refine o_v (v_assign rfl) rfl ?_
              refine o_seq ?_
              refine c_ret ?_
              cases hL1
              obtain rfl := lrf_ret hF
              refine s_ret1 rfl (r_tmp rfl) fun a w hs => ?_
              exact fin_sel hs [0, 0] ⟨ws, [], sa1, sn1, sc1, by simp, hws.symm, by simp, rfl, rfl, rfl⟩ rfl sub_nil
            · replace hL1 := ite_f h2 hL1
              refine c_skip ?_
              refine sat_wc ?_
              refine c_seq ?_
              refine c_region ?_
              refine o_v (v_move rfl) rfl ?_
              refine o_v (v_bin rfl rfl rfl) rfl ?_
              refine o_v (v_move rfl) rfl ?_
              refine o_v (v_nilCheck rfl) rfl ?_
              refine o_v (v_fieldAddr (v := .pointer (some ⟨b, 0, none⟩)) rfl (fun _ => by kernel_rfl)) rfl ?_
              refine o_v (v_load_box 0 ty9 rfl rfl rfl rfl rfl) rfl ?_
              refine o_v (v_move rfl) rfl ?_
              refine ite_some hL1 fun h3 hL1 => ?_
              refine o_v (v_sindex Try.underlying9 rfl rfl h3) rfl ?_
              refine o_v (v_bin rfl rfl rfl) rfl ?_
              refine o_v (v_convert (v := .int .i64 (IntKind.wrap .i64 (IntKind.wrap .u8 ((sAt s.text end_) - 48)))) rfl (fun _ => by kernel_rfl)) rfl ?_
              refine o_v (v_bin rfl rfl rfl) rfl ?_
              refine o_v (v_assign rfl) rfl ?_
              refine o_seq ?_
              refine c_region ?_
              refine o_v (v_move rfl) rfl ?_
              refine o_v (v_bin rfl rfl rfl) rfl ?_
              refine o_v (v_assign rfl) rfl ?_
              refine o_nil ?_
              intro a w hs
              exact ⟨j, Nat.lt_succ_self j, IntKind.wrap .i64 (end_ + 1), IntKind.wrap .i64 ((IntKind.wrap .i64 (10 * n)) + (IntKind.wrap .i64 (IntKind.wrap .u8 ((sAt s.text end_) - 48)))), hL1, st_le [0, 0] (le_cons rfl (le_cons rfl (le_cons rfl (le_cons rfl le_nil)))) rfl sub_nil a w hs⟩
          · replace hL1 := ite_f h1 hL1
            refine c_exit0 ?_
            cases hL1
            refine s_st ?_ (hN1 (end_, n) rfl)
            exact st_le [0, 0] (le_cons rfl (le_cons rfl (le_cons rfl (le_cons rfl le_nil)))) rfl sub_nil
  · intro d1 hd
    subst hd
    replace hF := lrf_done hF
    refine sat_wc ?_
    refine c_seq ?_
    refine c_seq ?_
    refine c_cut (fun E N' => ∀ (t64 : Bool), F.words.scanner_number_j3 s d1 t64 = some r → Sat E [(0, .pointer (some ⟨b, 0, none⟩)), (2, .int .i64 0), (3, .int .i64 d1.1), (4, .int .i64 d1.2), (64, .bool t64)] [.box b 49 [.string (bs s.text), .int .i64 s.at_, .int .i64 s.line, .int .i64 s.top, .slice sa1 sn1 sc1], .row (.slice sa1 sn1 sc1) 35 11 (ws.map eWV)] [] N') (fun N3 hN3 => ?_) ?_
    · refine c_draw (n := 19) [0, 0] mixed rfl rfl ?_
      refine d_val 0 rfl pnok (by kernel_rfl) (by kernel_rfl) (by kernel_rfl) rfl (v_move rfl) ?_
      refine d_val 1 rfl pnok (by kernel_rfl) (by kernel_rfl) (by kernel_rfl) rfl (v_nilCheck rfl) ?_
      refine d_val 2 rfl pnok (by kernel_rfl) (by kernel_rfl) (by kernel_rfl) rfl (v_fieldAddr (v := .pointer (some ⟨b, 0, none⟩)) rfl (fun _ => by kernel_rfl)) ?_
      refine d_val 3 rfl pnok (by kernel_rfl) (by kernel_rfl) (by kernel_rfl) rfl (v_load_box 0 ty9 rfl rfl rfl rfl rfl) ?_
      refine d_val 4 rfl pnok (by kernel_rfl) (by kernel_rfl) (by kernel_rfl) rfl (v_move rfl) ?_
      refine d_val 5 rfl pnok (by kernel_rfl) (by kernel_rfl) (by kernel_rfl) rfl (v_nilCheck rfl) ?_
      refine d_val 6 rfl pnok (by kernel_rfl) (by kernel_rfl) (by kernel_rfl) rfl (v_fieldAddr (v := .pointer (some ⟨b, 1, none⟩)) rfl (fun _ => by kernel_rfl)) ?_
      refine d_val 7 rfl pnok (by kernel_rfl) (by kernel_rfl) (by kernel_rfl) rfl (v_load_box 0 ty3 rfl rfl rfl rfl rfl) ?_
      refine ite_some hF fun h9 hF => ?_
      refine d_val 8 rfl pnok (by kernel_rfl) (by kernel_rfl) (by kernel_rfl) rfl (v_sindex Try.underlying9 rfl rfl h9) ?_
      refine d_val 9 rfl pnok (by kernel_rfl) (by kernel_rfl) (by kernel_rfl) rfl (v_bin rfl rfl rfl) ?_
      refine d_val 10 rfl pnok (by kernel_rfl) (by kernel_rfl) (by kernel_rfl) rfl (v_move rfl) ?_
      refine d_split (t := 56) rfl (fun h10 => ?_) (fun h10 => ?_)
      · replace hF := ite_t h10 hF
        refine d_val_on 11 rfl rfl rfl pnok (by kernel_rfl) (by kernel_rfl) (by kernel_rfl) rfl (v_move rfl) ?_
        refine d_val_on 12 rfl rfl rfl pnok (by kernel_rfl) (by kernel_rfl) (by kernel_rfl) rfl (v_move rfl) ?_
        refine d_val_on 13 rfl rfl rfl pnok (by kernel_rfl) (by kernel_rfl) (by kernel_rfl) rfl (v_nilCheck rfl) ?_
        refine d_val_on 14 rfl rfl rfl pnok (by kernel_rfl) (by kernel_rfl) (by kernel_rfl) rfl (v_fieldAddr (v := .pointer (some ⟨b, 1, none⟩)) rfl (fun _ => by kernel_rfl)) ?_
        refine d_val_on 15 rfl rfl rfl pnok (by kernel_rfl) (by kernel_rfl) (by kernel_rfl) rfl (v_load_box 0 ty3 rfl rfl rfl rfl rfl) ?_
        refine d_val_on 16 rfl rfl rfl pnok (by kernel_rfl) (by kernel_rfl) (by kernel_rfl) rfl (v_bin rfl rfl rfl) ?_
        refine d_val_on 17 rfl rfl rfl pnok (by kernel_rfl) (by kernel_rfl) (by kernel_rfl) rfl (v_bin rfl rfl rfl) ?_
        refine d_val 18 rfl pnok (by kernel_rfl) (by kernel_rfl) (by kernel_rfl) rfl (v_pick_t rfl rfl) ?_
        refine d_done (by kernel_rfl) ?_
        refine s_st ?_ (hN3 (decide ((IntKind.wrap .i64 (s.at_ + 1)) < d1.1)) hF)
        exact st_le [0, 0] (le_cons rfl (le_cons rfl (le_cons rfl (le_cons rfl (le_cons rfl le_nil))))) rfl sub_nil
      · replace hF := ite_f h10 hF
        refine d_off 11 rfl rfl rfl (by decide) pnok (by kernel_rfl) (by kernel_rfl) (by kernel_rfl) rfl ?_
        refine d_off 12 rfl rfl rfl (by decide) pnok (by kernel_rfl) (by kernel_rfl) (by kernel_rfl) rfl ?_
        refine d_off 13 rfl rfl rfl (by decide) pnok (by kernel_rfl) (by kernel_rfl) (by kernel_rfl) rfl ?_
        refine d_off 14 rfl rfl rfl (by decide) pnok (by kernel_rfl) (by kernel_rfl) (by kernel_rfl) rfl ?_
        refine d_off 15 rfl rfl rfl (by decide) pnok (by kernel_rfl) (by kernel_rfl) (by kernel_rfl) rfl ?_
        refine d_off 16 rfl rfl rfl (by decide) pnok (by kernel_rfl) (by kernel_rfl) (by kernel_rfl) rfl ?_
        refine d_off 17 rfl rfl rfl (by decide) pnok (by kernel_rfl) (by kernel_rfl) (by kernel_rfl) rfl ?_
        refine d_val 18 rfl pnok (by kernel_rfl) (by kernel_rfl) (by kernel_rfl) rfl (v_pick_f rfl rfl) ?_
        refine d_done (by kernel_rfl) ?_
        refine s_st ?_ (hN3 false hF)
        exact st_le [0, 0] (le_cons rfl (le_cons rfl (le_cons rfl (le_cons rfl (le_cons rfl le_nil))))) rfl sub_nil
    · intro t64 hF
      unfold F.words.scanner_number_j3 at hF
      refine sat_wc ?_
      refine c_cond rfl (fun h7 => ?_) (fun h7 => ?_)
      · replace hF := ite_t h7 hF
        refine c_seq ?_
        refine c_region ?_
        refine o_v (v_assign rfl) rfl ?_
        refine o_seq ?_
        refine c_ret ?_
        cases hF
        refine s_ret1 rfl (r_tmp rfl) fun a w hs => ?_
        exact fin_sel hs [0, 0] ⟨ws, [], sa1, sn1, sc1, by simp, hws.symm, by simp, rfl, rfl, rfl⟩ rfl sub_nil
      · replace hF := ite_f h7 hF
        refine c_skip ?_
        refine sat_wc ?_
        refine c_seq ?_
        refine c_region ?_
        refine o_v (v_move rfl) rfl ?_
        refine o_v (v_move rfl) rfl ?_
        refine o_v (v_build (v := .agg #[.int .i64 3, .string (bs ([] : List UInt8)), .slice none 0 0, .int .u64 0, .int .u64 0, .int .u64 0, .int .u64 0, .int .i64 d1.2, .int .i64 0, .int .i64 0, .int .i64 0]) rfl (fun _ => by kernel_rfl)) rfl ?_
        refine o_v (v_move rfl) rfl ?_
        obtain ⟨v1, h8, hF⟩ := bd hF
        refine o_call [0, 0] call28 rfl rfl rfl sub_nil (cap := #[]) (by rw [show (#[] : Array Value).toList = [] from rfl, List.append_nil]; exact (put_d s ws hws (Word.mk 3 ([] : List UInt8) ([] : List Int) (S4.mk 0 0 0 0) d1.2 0 0 0) d1.1 b sa1 sn1 sc1 none 0 0 v1 h8)) rfl ?_
        rintro _ _ _ ⟨nw, ws2, sa2, sn2, sc2, hw2, ho2, hb2, rfl, rfl, rfl⟩
        refine o_seq ?_
        refine c_seq ?_
        refine c_region ?_
        refine o_v (v_assign rfl) rfl ?_
        refine o_seq ?_
        refine c_ret ?_
        cases hF
        refine s_ret1 rfl (r_tmp rfl) fun a w hs => ?_
        exact fin_sel hs [0, 0] ⟨ws2, [⟨nw, none, 0, 0⟩], sa2, sn2, sc2, hw2, ho2, fun x hx => by rw [List.mem_singleton] at hx; rw [hx]; exact rwW_nil hb2, rfl, rfl, rfl⟩ rfl sub_nil
theorem next_d (k : Nat) (s : Words_scanner) (ws : List WV) (hws : ws.map WV.w = s.out) (b : Nat) (sa1 : Option Addr) (sn1 sc1 : Nat) (r : Fault × Words_scanner) (hF : F.words.scanner_next k s = some r) :
    Tri Try.prog 27 [.pointer (some ⟨b, 0, none⟩)] [.box b 49 [.string (bs s.text), .int .i64 s.at_, .int .i64 s.line, .int .i64 s.top, .slice sa1 sn1 sc1], .row (.slice sa1 sn1 sc1) 35 11 (ws.map eWV)] [] (fun o H Φ => ∃ (ws2 new : List WV) (sa11 : Option Addr) (sn11 sc11 : Nat), ws2 = ws ++ new ∧ r.2.out = ws2.map WV.w ∧ o = .ret (.agg #[.int .i64 r.1.At, .int .i64 r.1.Code]) ∧ H = .box b 49 [.string (bs r.2.text), .int .i64 r.2.at_, .int .i64 r.2.line, .int .i64 r.2.top, .slice sa11 sn11 sc11] :: .row (.slice sa11 sn11 sc11) 35 11 (ws2.map eWV) :: new.map rwW ∧ Φ = []) := by
  unfold F.words.scanner_next at hF
  refine tri_intro (n := 143) Try.func27 rfl Try.ntmps27 rfl fun w X => ?_
  refine c_seq ?_
  refine c_region ?_
  refine o_alloc zero26 rfl rfl fun b1 => ?_
  refine o_seq ?_
  refine c_seq ?_
  refine c_draw (n := 10) [0, 0, 0] mixed rfl rfl ?_
  refine d_val 0 rfl pnok (by kernel_rfl) (by kernel_rfl) (by kernel_rfl) rfl (v_move rfl) ?_
  refine d_val 1 rfl pnok (by kernel_rfl) (by kernel_rfl) (by kernel_rfl) rfl (v_nilCheck rfl) ?_
  refine d_val 2 rfl pnok (by kernel_rfl) (by kernel_rfl) (by kernel_rfl) rfl (v_fieldAddr (v := .pointer (some ⟨b, 0, none⟩)) rfl (fun _ => by kernel_rfl)) ?_
  refine d_val 3 rfl pnok (by kernel_rfl) (by kernel_rfl) (by kernel_rfl) rfl (v_load_box 1 ty9 rfl rfl rfl rfl rfl) ?_
  refine d_val 4 rfl pnok (by kernel_rfl) (by kernel_rfl) (by kernel_rfl) rfl (v_move rfl) ?_
  refine d_val 5 rfl pnok (by kernel_rfl) (by kernel_rfl) (by kernel_rfl) rfl (v_nilCheck rfl) ?_
  refine d_val 6 rfl pnok (by kernel_rfl) (by kernel_rfl) (by kernel_rfl) rfl (v_fieldAddr (v := .pointer (some ⟨b, 1, none⟩)) rfl (fun _ => by kernel_rfl)) ?_
  refine d_val 7 rfl pnok (by kernel_rfl) (by kernel_rfl) (by kernel_rfl) rfl (v_load_box 1 ty3 rfl rfl rfl rfl rfl) ?_
  refine ite_some hF fun h1 hF => ?_
  refine d_val 8 rfl pnok (by kernel_rfl) (by kernel_rfl) (by kernel_rfl) rfl (v_sindex Try.underlying9 rfl rfl h1) ?_
  refine d_val 9 rfl pnok (by kernel_rfl) (by kernel_rfl) (by kernel_rfl) rfl (v_assign rfl) ?_
  refine d_done_seq (by kernel_rfl) ?_
  refine c_seq ?_
  refine c_block ?_
  refine c_seq ?_
  refine c_cut (fun E N' => ∀ (t27 : Bool), F.words.scanner_next_j1 k s t27 = some r → Sat E [(0, .pointer (some ⟨b, 0, none⟩)), (2, .pointer (some ⟨b1, 0, none⟩)), (3, .int .u8 (sAt s.text s.at_)), (27, .bool t27)] [.box b1 26 [.int .i64 0, .int .i64 0], .box b 49 [.string (bs s.text), .int .i64 s.at_, .int .i64 s.line, .int .i64 s.top, .slice sa1 sn1 sc1], .row (.slice sa1 sn1 sc1) 35 11 (ws.map eWV)] [] N') (fun N6 hN6 => ?_) ?_
  · refine c_region ?_
    refine o_v (v_move rfl) rfl ?_
    refine o_v (v_convert (v := .int .i32 (IntKind.wrap .i32 (sAt s.text s.at_))) rfl (fun _ => by kernel_rfl)) rfl ?_
    obtain ⟨v11, h24, hF⟩ := bd hF
    refine o_callSB call33 rfl lent_nil (tri33 (IntKind.wrap .i32 (sAt s.text s.at_)) v11 h24) rfl ?_
    refine o_v (v_move rfl) rfl ?_
    refine o_split (t := 31) rfl (fun h25 => ?_) (fun h25 => ?_)
    · replace hF := ite_t h25 hF
      refine o_off rfl rfl (by decide) rfl ?_
      refine o_off rfl rfl (by decide) rfl ?_
      refine o_off rfl rfl (by decide) rfl ?_
      refine o_v (v_pick_t rfl rfl) rfl ?_
      refine o_v (v_assign rfl) rfl ?_
      refine o_nil ?_
      refine s_st ?_ (hN6 true hF)
      exact st_le [0, 0, 0] (le_cons rfl (le_cons rfl (le_cons rfl (le_cons rfl le_nil)))) rfl sub_nil
    · replace hF := ite_f h25 hF
      refine o_on rfl rfl ?_
      refine o_v (v_move rfl) rfl ?_
      refine o_on rfl rfl ?_
      refine o_v (v_convert (v := .int .i32 (IntKind.wrap .i32 (sAt s.text s.at_))) rfl (fun _ => by kernel_rfl)) rfl ?_
      refine o_on rfl rfl ?_
      obtain ⟨v12, h26, hF⟩ := bd hF
      refine o_callSB call37 rfl lent_nil (tri37 (IntKind.wrap .i32 (sAt s.text s.at_)) v12 h26) rfl ?_
      refine o_v (v_pick_f rfl rfl) rfl ?_
      refine o_v (v_assign rfl) rfl ?_
      refine o_nil ?_
      refine s_st ?_ (hN6 v12 hF)
      exact st_le [0, 0, 0] (le_cons rfl (le_cons rfl (le_cons rfl (le_cons rfl le_nil)))) rfl sub_nil
  · intro t27 hF
    unfold F.words.scanner_next_j1 at hF
    refine sat_wc ?_
    refine c_cut (fun E N' => ∀ (text_ : List UInt8) (at__ : Int) (line_ : Int) (top_ : Int) (out_ : List Word) (ws2 new : List WV) (sa2 : Option Addr) (sn2 sc2 : Nat), ws2 = ws ++ new → out_ = ws2.map WV.w → F.words.scanner_next_j2 text_ at__ line_ top_ out_ = some r → Sat E [(0, .pointer (some ⟨b, 0, none⟩)), (2, .pointer (some ⟨b1, 0, none⟩)), (3, .int .u8 (sAt s.text s.at_))] (.box b 49 [.string (bs text_), .int .i64 at__, .int .i64 line_, .int .i64 top_, .slice sa2 sn2 sc2] :: .box b1 26 [.int .i64 0, .int .i64 0] :: .row (.slice sa2 sn2 sc2) 35 11 (ws2.map eWV) :: new.map rwW) [] N') (fun N2 hN2 => ?_) ?_
    · refine c_cond rfl (fun h2 => ?_) (fun h2 => ?_)
      · replace hF := ite_t h2 hF
        refine c_seq ?_
        refine c_draw (n := 11) [0, 0, 0] mixed rfl rfl ?_
        refine d_val 0 rfl pnok (by kernel_rfl) (by kernel_rfl) (by kernel_rfl) rfl (v_move rfl) ?_
        refine d_val 1 rfl pnok (by kernel_rfl) (by kernel_rfl) (by kernel_rfl) rfl (v_nilCheck rfl) ?_
        refine d_val 2 rfl pnok (by kernel_rfl) (by kernel_rfl) (by kernel_rfl) rfl (v_fieldAddr (v := .pointer (some ⟨b, 0, none⟩)) rfl (fun _ => by kernel_rfl)) ?_
        refine d_val 3 rfl pnok (by kernel_rfl) (by kernel_rfl) (by kernel_rfl) rfl (v_load_box 1 ty9 rfl rfl rfl rfl rfl) ?_
        refine d_val 4 rfl pnok (by kernel_rfl) (by kernel_rfl) (by kernel_rfl) rfl (v_move rfl) ?_
        refine d_val 5 rfl pnok (by kernel_rfl) (by kernel_rfl) (by kernel_rfl) rfl (v_nilCheck rfl) ?_
        refine d_val 6 rfl pnok (by kernel_rfl) (by kernel_rfl) (by kernel_rfl) rfl (v_fieldAddr (v := .pointer (some ⟨b, 1, none⟩)) rfl (fun _ => by kernel_rfl)) ?_
        refine d_val 7 rfl pnok (by kernel_rfl) (by kernel_rfl) (by kernel_rfl) rfl (v_load_box 1 ty3 rfl rfl rfl rfl rfl) ?_
        refine ite_some hF fun h3 hF => ?_
        refine d_val 8 rfl pnok (by kernel_rfl) (by kernel_rfl) (by kernel_rfl) rfl (v_strslice Try.underlying9 rfl rfl rfl rfl rfl h3) ?_
        refine d_one 9 rfl (by kernel_rfl) ?_
        obtain ⟨v, h4, hF⟩ := bd hF
        refine o_callSB call34 rfl lent_nil (tri34 k (sub s.text s.at_ (s.text.length : Int)) v h4) rfl ?_
        refine d_next [0, 0, 0] 0 rfl rfl ?_
        refine d_val 10 rfl pnok (by kernel_rfl) (by kernel_rfl) (by kernel_rfl) rfl (v_assign rfl) ?_
        refine d_done_seq (by kernel_rfl) ?_
        refine c_seq ?_
        refine c_seq ?_
        refine c_region ?_
        refine o_v (v_move rfl) rfl ?_
        refine o_v (v_bin rfl rfl rfl) rfl ?_
        refine o_seq ?_
        refine c_cond rfl (fun h5 => ?_) (fun h5 => ?_)
        · replace hF := ite_t h5 hF
          refine c_seq ?_
          refine c_region ?_
          refine o_v (v_move rfl) rfl ?_
          refine o_v (v_nilCheck rfl) rfl ?_
          refine o_v (v_fieldAddr (v := .pointer (some ⟨b, 1, none⟩)) rfl (fun _ => by kernel_rfl)) rfl ?_
          refine o_v (v_load_box 1 ty3 rfl rfl rfl rfl rfl) rfl ?_
          refine o_v (v_build (v := .agg #[.int .i64 s.at_, .int .i64 20]) rfl (fun _ => by kernel_rfl)) rfl ?_
          refine o_store_box 0 rfl ty26 rfl rfl rfl rfl rfl rfl rfl ?_
          refine o_seq ?_
          refine c_ret ?_
          cases hF
          refine s_ret1 rfl (r_cell 0 rfl ty26 rfl rfl rfl rfl) fun a w hs => ?_
          exact fin_sel hs [1, 1] ⟨ws, [], sa1, sn1, sc1, by simp, hws.symm, rfl, rfl, rfl⟩ rfl sub_nil
        · replace hF := ite_f h5 hF
          refine c_skip ?_
          refine sat_wc ?_
          refine c_seq ?_
          refine c_region ?_
          refine o_v (v_assign rfl) rfl ?_
          refine o_seq ?_
          refine c_seq ?_
          refine c_seq ?_
          refine c_region ?_
          refine o_v (v_move rfl) rfl ?_
          refine o_v (v_convert (v := .int .i32 (IntKind.wrap .i32 (sAt s.text s.at_))) rfl (fun _ => by kernel_rfl)) rfl ?_
          obtain ⟨v1, h6, hF⟩ := bd hF
          refine o_callSB call33 rfl lent_nil (tri33 (IntKind.wrap .i32 (sAt s.text s.at_)) v1 h6) rfl ?_
          refine o_seq ?_
          refine c_cut (fun E N' => ∀ (kind : Int), F.words.scanner_next_j3 s v kind = some r → Sat E [(0, .pointer (some ⟨b, 0, none⟩)), (2, .pointer (some ⟨b1, 0, none⟩)), (3, .int .u8 (sAt s.text s.at_)), (4, .int .i64 v), (5, .int .i64 kind)] [.box b1 26 [.int .i64 0, .int .i64 0], .box b 49 [.string (bs s.text), .int .i64 s.at_, .int .i64 s.line, .int .i64 s.top, .slice sa1 sn1 sc1], .row (.slice sa1 sn1 sc1) 35 11 (ws.map eWV)] [] N') (fun N3 hN3 => ?_) ?_
          · refine c_cond rfl (fun h8 => ?_) (fun h8 => ?_)
            · replace hF := ite_t h8 hF
              refine c_region ?_
              refine o_v (v_assign rfl) rfl ?_
              refine o_nil ?_
              refine s_st ?_ (hN3 1 hF)
              exact st_le [0, 0, 0] (le_cons rfl (le_cons rfl (le_cons rfl (le_cons rfl (le_cons rfl le_nil))))) rfl sub_nil
            · replace hF := ite_f h8 hF
              refine c_skip ?_
              refine s_st ?_ (hN3 2 hF)
              exact st_le [0, 0, 0] (le_cons rfl (le_cons rfl (le_cons rfl (le_cons rfl (le_cons rfl le_nil))))) rfl sub_nil
          · intro kind hF
            unfold F.words.scanner_next_j3 at hF
            refine sat_wc ?_
            refine c_region ?_
            refine o_v (v_move rfl) rfl ?_
            refine o_v (v_move rfl) rfl ?_
            refine o_v (v_build (v := .agg #[.int .i64 kind, .string (bs ([] : List UInt8)), .slice none 0 0, .int .u64 0, .int .u64 0, .int .u64 0, .int .u64 0, .int .i64 0, .int .i64 0, .int .i64 0, .int .i64 0]) rfl (fun _ => by kernel_rfl)) rfl ?_
            refine o_v (v_move rfl) rfl ?_
            refine o_v (v_nilCheck rfl) rfl ?_
            refine o_v (v_fieldAddr (v := .pointer (some ⟨b, 1, none⟩)) rfl (fun _ => by kernel_rfl)) rfl ?_
            refine o_v (v_load_box 1 ty3 rfl rfl rfl rfl rfl) rfl ?_
            refine o_v (v_move rfl) rfl ?_
            refine o_v (v_bin rfl rfl rfl) rfl ?_
            obtain ⟨v2, h7, hF⟩ := bd hF
            refine o_call [1, 1] call28 rfl rfl rfl sub_nil (cap := #[]) (by rw [show (#[] : Array Value).toList = [] from rfl, List.append_nil]; exact (put_d s ws hws (Word.mk kind ([] : List UInt8) ([] : List Int) (S4.mk 0 0 0 0) 0 0 0 0) (IntKind.wrap .i64 (s.at_ + v)) b sa1 sn1 sc1 none 0 0 v2 h7)) rfl ?_
            rintro _ _ _ ⟨nw, ws2, sa3, sn3, sc3, hw2, ho2, hb2, rfl, rfl, rfl⟩
            refine o_nil ?_
            refine s_st (st_nilrow 5 1) ?_
            refine s_st ?_ (hN2 v2.text v2.at_ v2.line v2.top v2.out ws2 [⟨nw, none, 0, 0⟩] sa3 sn3 sc3 hw2 ho2 hF)
            rw [List.map_cons, List.map_nil, rwW_nil hb2]
            exact st_le [1, 2, 1, 0] (le_cons rfl (le_cons rfl (le_cons rfl le_nil))) rfl sub_nil
      · replace hF := ite_f h2 hF
        refine c_seq ?_
        refine c_region ?_
        refine o_v (v_move rfl) rfl ?_
        refine o_v (v_convert (v := .int .i32 (IntKind.wrap .i32 (sAt s.text s.at_))) rfl (fun _ => by kernel_rfl)) rfl ?_
        obtain ⟨v3, h9, hF⟩ := bd hF
        refine o_callSB call45 rfl lent_nil (tri45 (IntKind.wrap .i32 (sAt s.text s.at_)) v3 h9) rfl ?_
        refine o_v (v_assign rfl) rfl ?_
        refine o_seq ?_
        refine c_cond rfl (fun h10 => ?_) (fun h10 => ?_)
        · replace hF := ite_t h10 hF
          refine c_seq ?_
          refine c_region ?_
          refine o_v (v_move rfl) rfl ?_
          obtain ⟨v4, h11, hF⟩ := bd hF
          refine o_call [1, 1] call46 rfl rfl rfl sub_nil (cap := #[]) (by rw [show (#[] : Array Value).toList = [] from rfl, List.append_nil]; exact (number_d k s ws hws b sa1 sn1 sc1 v4 h11)) rfl ?_
          rintro _ _ _ ⟨ws2, new, sa4, sn4, sc4, hw2, ho2, hnil, rfl, rfl, rfl⟩
          refine o_v (v_assign rfl) rfl ?_
          refine o_seq ?_
          refine c_seq ?_
          refine c_region ?_
          refine o_v (v_move rfl) rfl ?_
          refine o_v (v_bin rfl rfl rfl) rfl ?_
          refine o_seq ?_
          refine c_cond rfl (fun h12 => ?_) (fun h12 => ?_)
          · replace hF := ite_t h12 hF
            refine c_seq ?_
            refine c_region ?_
            refine o_v (v_move rfl) rfl ?_
            refine o_v (v_nilCheck rfl) rfl ?_
            refine o_v (v_fieldAddr (v := .pointer (some ⟨b, 1, none⟩)) rfl (fun _ => by kernel_rfl)) rfl ?_
            refine o_v (v_load_box 0 ty3 rfl rfl rfl rfl rfl) rfl ?_
            refine o_v (v_move rfl) rfl ?_
            refine o_v (v_build (v := .agg #[.int .i64 v4.2.at_, .int .i64 v4.1]) rfl (fun _ => by kernel_rfl)) rfl ?_
            refine o_store_box 2 rfl ty26 rfl rfl rfl rfl rfl rfl rfl ?_
            refine o_seq ?_
            refine c_ret ?_
            cases hF
            refine s_ret1 rfl (r_cell 2 rfl ty26 rfl rfl rfl rfl) fun a w hs => ?_
            exact fin_intro (st_nilrows new hnil a w hs) ⟨ws2, new, sa4, sn4, sc4, hw2, ho2, rfl, rfl, rfl⟩ (List.Sublist.cons_cons _ (List.Sublist.cons_cons _ (List.Sublist.cons _ (List.Sublist.refl _)))) (.refl _) sub_nil
          · replace hF := ite_f h12 hF
            refine c_skip ?_
            exact fun a w hs => hN2 v4.2.text v4.2.at_ v4.2.line v4.2.top v4.2.out ws2 new sa4 sn4 sc4 hw2 ho2 hF a w (st_sub (le_cons rfl (le_cons rfl (le_cons rfl le_nil))) (List.Sublist.refl _) sub_nil a w (st_perm (List.Perm.cons _ (List.Perm.swap _ _ _)) a w (st_nilrows new hnil a w hs)))
        · replace hF := ite_f h10 hF
          refine c_seq ?_
          refine c_region ?_
          refine o_v (v_move rfl) rfl ?_
          refine o_v (v_bin rfl rfl rfl) rfl ?_
          refine o_v (v_assign rfl) rfl ?_
          refine o_seq ?_
          refine c_cut (fun E N' => ∀ (text_1 : List UInt8) (at__1 : Int) (line_1 : Int) (top_1 : Int) (out_1 : List Word) (ws2 new : List WV) (sa5 : Option Addr) (sn5 sc5 : Nat), ws2 = ws ++ new → out_1 = ws2.map WV.w → F.words.scanner_next_j4 text_1 at__1 line_1 top_1 out_1 = some r → Sat E [(0, .pointer (some ⟨b, 0, none⟩)), (2, .pointer (some ⟨b1, 0, none⟩)), (3, .int .u8 (sAt s.text s.at_))] (.box b 49 [.string (bs text_1), .int .i64 at__1, .int .i64 line_1, .int .i64 top_1, .slice sa5 sn5 sc5] :: .box b1 26 [.int .i64 0, .int .i64 0] :: .row (.slice sa5 sn5 sc5) 35 11 (ws2.map eWV) :: new.map rwW) [] N') (fun N4 hN4 => ?_) ?_
          · refine c_cond rfl (fun h13 => ?_) (fun h13 => ?_)
            · replace hF := ite_t h13 hF
              refine c_seq ?_
              refine c_cut (fun E N' => ∀ (b2 : List Int) (end_ : Int) (At_ : Int) (Code_ : Int) (sa6 : Option Addr) (sn6 sc6 : Nat) (b3 : Nat), F.words.scanner_next_j5 s b2 end_ At_ Code_ = some r → Sat E [(0, .pointer (some ⟨b, 0, none⟩)), (2, .pointer (some ⟨b1, 0, none⟩)), (3, .int .u8 (sAt s.text s.at_)), (7, .slice sa6 sn6 sc6), (8, .int .i64 end_), (9, .pointer (some ⟨b3, 0, none⟩))] [.box b1 26 [.int .i64 0, .int .i64 0], .box b 49 [.string (bs s.text), .int .i64 s.at_, .int .i64 s.line, .int .i64 s.top, .slice sa1 sn1 sc1], .box b3 26 [.int .i64 At_, .int .i64 Code_], .row (.slice sa6 sn6 sc6) 5 1 (b2.map eU8), .row (.slice sa1 sn1 sc1) 35 11 (ws.map eWV)] [] N') (fun N5 hN5 => ?_) ?_
              · refine c_draw (n := 17) [0, 0, 0] mixed rfl rfl ?_
                refine d_val 0 rfl pnok (by kernel_rfl) (by kernel_rfl) (by kernel_rfl) rfl (v_move rfl) ?_
                refine d_val 1 rfl pnok (by kernel_rfl) (by kernel_rfl) (by kernel_rfl) rfl (v_nilCheck rfl) ?_
                refine d_val 2 rfl pnok (by kernel_rfl) (by kernel_rfl) (by kernel_rfl) rfl (v_fieldAddr (v := .pointer (some ⟨b, 0, none⟩)) rfl (fun _ => by kernel_rfl)) ?_
                refine d_val 3 rfl pnok (by kernel_rfl) (by kernel_rfl) (by kernel_rfl) rfl (v_load_box 1 ty9 rfl rfl rfl rfl rfl) ?_
                refine d_val 4 rfl pnok (by kernel_rfl) (by kernel_rfl) (by kernel_rfl) rfl (v_move rfl) ?_
                refine d_val 5 rfl pnok (by kernel_rfl) (by kernel_rfl) (by kernel_rfl) rfl (v_nilCheck rfl) ?_
                refine d_val 6 rfl pnok (by kernel_rfl) (by kernel_rfl) (by kernel_rfl) rfl (v_fieldAddr (v := .pointer (some ⟨b, 1, none⟩)) rfl (fun _ => by kernel_rfl)) ?_
                refine d_val 7 rfl pnok (by kernel_rfl) (by kernel_rfl) (by kernel_rfl) rfl (v_load_box 1 ty3 rfl rfl rfl rfl rfl) ?_
                obtain ⟨v6, h16, hF⟩ := bd hF
                refine d_all [8, 13] (by kernel_rfl) (by simp) ⟨⟨_, rfl, ?_⟩, ⟨_, rfl, ?_⟩, trivial⟩
                · refine o_call0 call42 rfl sub_nil (tri42 k s.text s.at_ v6 h16) rfl ?_
                  rintro _ _ _ ⟨sa8, sn8, sc8, rfl, rfl, rfl⟩
                  refine d_next [1, 1, 1] 0 rfl rfl ?_
                  refine d_val 9 rfl pnok (by kernel_rfl) (by kernel_rfl) (by kernel_rfl) rfl (v_move rfl) ?_
                  refine d_val 10 rfl pnok (by kernel_rfl) (by kernel_rfl) (by kernel_rfl) rfl (v_extract rfl rfl) ?_
                  refine d_val 11 rfl pnok (by kernel_rfl) (by kernel_rfl) (by kernel_rfl) rfl (v_extract rfl rfl) ?_
                  refine d_val 12 rfl pnok (by kernel_rfl) (by kernel_rfl) (by kernel_rfl) rfl (v_extract rfl rfl) ?_
                  refine d_one 13 rfl (by kernel_rfl) ?_
                  refine o_alloc zero26 rfl rfl fun b4 => ?_
                  refine d_next [2, 2, 2] 0 rfl rfl ?_
                  refine d_val 14 rfl pnok (by kernel_rfl) (by kernel_rfl) (by kernel_rfl) rfl (v_assign rfl) ?_
                  refine d_val 15 rfl pnok (by kernel_rfl) (by kernel_rfl) (by kernel_rfl) rfl (v_assign rfl) ?_
                  refine d_one 16 rfl (by kernel_rfl) ?_
                  refine o_store_box 0 rfl ty26 rfl rfl rfl rfl rfl rfl rfl ?_
                  refine d_next [2, 2, 2] 0 rfl rfl ?_
                  refine d_done (by kernel_rfl) ?_
                  refine s_st ?_ (hN5 v6.1 v6.2.1 v6.2.2.At v6.2.2.Code sa8 sn8 sc8 b4 hF)
                  exact st_le [2, 2, 0, 0, 0] (le_cons rfl (le_cons rfl (le_cons rfl (le_cons rfl (le_cons rfl (le_cons rfl le_nil)))))) rfl sub_nil
                · refine o_alloc zero26 rfl rfl fun b4 => ?_
                  refine d_next [1, 1, 1] 0 rfl rfl ?_
                  refine d_one 8 rfl (by kernel_rfl) ?_
                  refine o_call0 call42 rfl sub_nil (tri42 k s.text s.at_ v6 h16) rfl ?_
                  rintro _ _ _ ⟨sa8, sn8, sc8, rfl, rfl, rfl⟩
                  refine d_next [2, 2, 2] 0 rfl rfl ?_
                  refine d_val 9 rfl pnok (by kernel_rfl) (by kernel_rfl) (by kernel_rfl) rfl (v_move rfl) ?_
                  refine d_val 10 rfl pnok (by kernel_rfl) (by kernel_rfl) (by kernel_rfl) rfl (v_extract rfl rfl) ?_
                  refine d_val 11 rfl pnok (by kernel_rfl) (by kernel_rfl) (by kernel_rfl) rfl (v_extract rfl rfl) ?_
                  refine d_val 12 rfl pnok (by kernel_rfl) (by kernel_rfl) (by kernel_rfl) rfl (v_extract rfl rfl) ?_
                  refine d_val 14 rfl pnok (by kernel_rfl) (by kernel_rfl) (by kernel_rfl) rfl (v_assign rfl) ?_
                  refine d_val 15 rfl pnok (by kernel_rfl) (by kernel_rfl) (by kernel_rfl) rfl (v_assign rfl) ?_
                  refine d_one 16 rfl (by kernel_rfl) ?_
                  refine o_store_box 1 rfl ty26 rfl rfl rfl rfl rfl rfl rfl ?_
                  refine d_next [2, 2, 2] 0 rfl rfl ?_
                  refine d_done (by kernel_rfl) ?_
                  refine s_st ?_ (hN5 v6.1 v6.2.1 v6.2.2.At v6.2.2.Code sa8 sn8 sc8 b4 hF)
                  exact st_le [2, 2, 1, 0, 0] (le_cons rfl (le_cons rfl (le_cons rfl (le_cons rfl (le_cons rfl (le_cons rfl le_nil)))))) rfl sub_nil
              · intro b2 end_ At_ Code_ sa6 sn6 sc6 b3 hF
                unfold F.words.scanner_next_j5 at hF
                refine sat_wc ?_
                refine c_seq ?_
                refine c_seq ?_
                refine c_region ?_
                refine o_v (v_fieldAddr (v := .pointer (some ⟨b3, 1, none⟩)) rfl (fun _ => by kernel_rfl)) rfl ?_
                refine o_v (v_load_box 2 ty24 rfl rfl rfl rfl rfl) rfl ?_
                refine o_v (v_bin rfl rfl rfl) rfl ?_
                refine o_seq ?_
                refine c_cond rfl (fun h14 => ?_) (fun h14 => ?_)
                · replace hF := ite_t h14 hF
                  refine c_seq ?_
                  refine c_region ?_
                  refine o_v (v_load_box 2 ty26 rfl rfl rfl rfl rfl) rfl ?_
                  refine o_store_box 0 rfl ty26 rfl rfl rfl rfl rfl rfl rfl ?_
                  refine o_seq ?_
                  refine c_ret ?_
                  cases hF
                  refine s_ret1 rfl (r_cell 0 rfl ty26 rfl rfl rfl rfl) fun a w hs => ?_
                  exact fin_sel hs [1, 3] ⟨ws, [], sa1, sn1, sc1, by simp, hws.symm, rfl, rfl, rfl⟩ rfl sub_nil
                · replace hF := ite_f h14 hF
                  refine c_skip ?_
                  refine sat_wc ?_
                  refine c_region ?_
                  refine o_v (v_move rfl) rfl ?_
                  refine o_v (v_move rfl) rfl ?_
                  refine o_v (v_build (v := .agg #[.int .i64 4, .string (bs ([] : List UInt8)), .slice sa6 sn6 sc6, .int .u64 0, .int .u64 0, .int .u64 0, .int .u64 0, .int .i64 0, .int .i64 0, .int .i64 0, .int .i64 0]) rfl (fun _ => by kernel_rfl)) rfl ?_
                  refine o_v (v_move rfl) rfl ?_
                  obtain ⟨v5, h15, hF⟩ := bd hF
                  refine o_call [1, 3] call28 rfl rfl rfl sub_nil (cap := #[]) (by rw [show (#[] : Array Value).toList = [] from rfl, List.append_nil]; exact (put_d s ws hws (Word.mk 4 ([] : List UInt8) b2 (S4.mk 0 0 0 0) 0 0 0 0) end_ b sa1 sn1 sc1 sa6 sn6 sc6 v5 h15)) rfl ?_
                  rintro _ _ _ ⟨nw, ws2, sa7, sn7, sc7, hw2, ho2, hb2, rfl, rfl, rfl⟩
                  refine o_nil ?_
                  refine s_st ?_ (hN4 v5.text v5.at_ v5.line v5.top v5.out ws2 [⟨nw, sa6, sn6, sc6⟩] sa7 sn7 sc7 hw2 ho2 hF)
                  rw [List.map_cons, List.map_nil, show rwW ⟨nw, sa6, sn6, sc6⟩ = .row (.slice sa6 sn6 sc6) 5 1 (b2.map eU8) by simp [rwW, hb2]]
                  exact st_le [0, 1, 0, 1] (le_cons rfl (le_cons rfl (le_cons rfl le_nil))) rfl sub_nil
            · replace hF := ite_f h13 hF
              refine c_seq ?_
              refine c_region ?_
              refine o_v (v_move rfl) rfl ?_
              refine o_v (v_bin rfl rfl rfl) rfl ?_
              refine o_v (v_assign rfl) rfl ?_
              refine o_seq ?_
              refine c_cond rfl (fun h17 => ?_) (fun h17 => ?_)
              · replace hF := ite_t h17 hF
                refine c_seq ?_
                refine c_cut (fun E N' => ∀ (set__ : S4) (end_1 : Int) (At_1 : Int) (Code_1 : Int) (b5 : Nat) (b6 : Nat), F.words.scanner_next_j6 s set__ end_1 At_1 Code_1 = some r → Sat E [(0, .pointer (some ⟨b, 0, none⟩)), (2, .pointer (some ⟨b1, 0, none⟩)), (3, .int .u8 (sAt s.text s.at_)), (10, .pointer (some ⟨b5, 0, none⟩)), (11, .int .i64 end_1), (12, .pointer (some ⟨b6, 0, none⟩))] [.box b1 26 [.int .i64 0, .int .i64 0], .box b 49 [.string (bs s.text), .int .i64 s.at_, .int .i64 s.line, .int .i64 s.top, .slice sa1 sn1 sc1], .box b5 33 [.int .u64 set__.w0, .int .u64 set__.w1, .int .u64 set__.w2, .int .u64 set__.w3], .box b6 26 [.int .i64 At_1, .int .i64 Code_1], .row (.slice sa1 sn1 sc1) 35 11 (ws.map eWV)] [] N') (fun N6 hN6 => ?_) ?_
                · refine c_draw (n := 18) [0, 0, 0] mixed rfl rfl ?_
                  refine d_val 0 rfl pnok (by kernel_rfl) (by kernel_rfl) (by kernel_rfl) rfl (v_move rfl) ?_
                  refine d_val 1 rfl pnok (by kernel_rfl) (by kernel_rfl) (by kernel_rfl) rfl (v_nilCheck rfl) ?_
                  refine d_val 2 rfl pnok (by kernel_rfl) (by kernel_rfl) (by kernel_rfl) rfl (v_fieldAddr (v := .pointer (some ⟨b, 0, none⟩)) rfl (fun _ => by kernel_rfl)) ?_
                  refine d_val 3 rfl pnok (by kernel_rfl) (by kernel_rfl) (by kernel_rfl) rfl (v_load_box 1 ty9 rfl rfl rfl rfl rfl) ?_
                  refine d_val 4 rfl pnok (by kernel_rfl) (by kernel_rfl) (by kernel_rfl) rfl (v_move rfl) ?_
                  refine d_val 5 rfl pnok (by kernel_rfl) (by kernel_rfl) (by kernel_rfl) rfl (v_nilCheck rfl) ?_
                  refine d_val 6 rfl pnok (by kernel_rfl) (by kernel_rfl) (by kernel_rfl) rfl (v_fieldAddr (v := .pointer (some ⟨b, 1, none⟩)) rfl (fun _ => by kernel_rfl)) ?_
                  refine d_val 7 rfl pnok (by kernel_rfl) (by kernel_rfl) (by kernel_rfl) rfl (v_load_box 1 ty3 rfl rfl rfl rfl rfl) ?_
                  obtain ⟨v8, h20, hF⟩ := bd hF
                  refine d_all [8, 13, 14] (by kernel_rfl) (by simp) ⟨⟨_, rfl, ?_⟩, ⟨_, rfl, ?_⟩, ⟨_, rfl, ?_⟩, trivial⟩
                  · refine o_callSB call47 rfl lent_nil (tri47 k s.text s.at_ v8 h20) rfl ?_
                    refine d_next [0, 0, 0] 0 rfl rfl ?_
                    refine d_val 9 rfl pnok (by kernel_rfl) (by kernel_rfl) (by kernel_rfl) rfl (v_move rfl) ?_
                    refine d_val 10 rfl pnok (by kernel_rfl) (by kernel_rfl) (by kernel_rfl) rfl (v_extract rfl rfl) ?_
                    refine d_val 11 rfl pnok (by kernel_rfl) (by kernel_rfl) (by kernel_rfl) rfl (v_extract rfl rfl) ?_
                    refine d_val 12 rfl pnok (by kernel_rfl) (by kernel_rfl) (by kernel_rfl) rfl (v_extract rfl rfl) ?_
                    refine d_all [13, 14] (by kernel_rfl) (by simp) ⟨⟨_, rfl, ?_⟩, ⟨_, rfl, ?_⟩, trivial⟩
                    · refine o_alloc zero33 rfl rfl fun b7 => ?_
                      refine d_next [1, 1, 1] 0 rfl rfl ?_
                      refine d_one 14 rfl (by kernel_rfl) ?_
                      refine o_alloc zero26 rfl rfl fun b8 => ?_
                      refine d_next [2, 2, 2] 0 rfl rfl ?_
                      refine d_one 15 rfl (by kernel_rfl) ?_
                      refine o_store_box 1 rfl ty33 rfl rfl rfl rfl rfl rfl rfl ?_
                      refine d_next [2, 2, 2] 0 rfl rfl ?_
                      refine d_val 16 rfl pnok (by kernel_rfl) (by kernel_rfl) (by kernel_rfl) rfl (v_assign rfl) ?_
                      refine d_one 17 rfl (by kernel_rfl) ?_
                      refine o_store_box 0 rfl ty26 rfl rfl rfl rfl rfl rfl rfl ?_
                      refine d_next [2, 2, 2] 0 rfl rfl ?_
                      refine d_done (by kernel_rfl) ?_
                      refine s_st ?_ (hN6 v8.1 v8.2.1 v8.2.2.At v8.2.2.Code b7 b8 hF)
                      exact st_le [2, 2, 1, 0, 0] (le_cons rfl (le_cons rfl (le_cons rfl (le_cons rfl (le_cons rfl (le_cons rfl le_nil)))))) rfl sub_nil
                    · refine o_alloc zero26 rfl rfl fun b7 => ?_
                      refine d_next [1, 1, 1] 0 rfl rfl ?_
                      refine d_one 13 rfl (by kernel_rfl) ?_
                      refine o_alloc zero33 rfl rfl fun b8 => ?_
                      refine d_next [2, 2, 2] 0 rfl rfl ?_
                      refine d_one 15 rfl (by kernel_rfl) ?_
                      refine o_store_box 0 rfl ty33 rfl rfl rfl rfl rfl rfl rfl ?_
                      refine d_next [2, 2, 2] 0 rfl rfl ?_
                      refine d_val 16 rfl pnok (by kernel_rfl) (by kernel_rfl) (by kernel_rfl) rfl (v_assign rfl) ?_
                      refine d_one 17 rfl (by kernel_rfl) ?_
                      refine o_store_box 1 rfl ty26 rfl rfl rfl rfl rfl rfl rfl ?_
                      refine d_next [2, 2, 2] 0 rfl rfl ?_
                      refine d_done (by kernel_rfl) ?_
                      refine s_st ?_ (hN6 v8.1 v8.2.1 v8.2.2.At v8.2.2.Code b8 b7 hF)
                      exact st_le [2, 2, 0, 0, 0] (le_cons rfl (le_cons rfl (le_cons rfl (le_cons rfl (le_cons rfl (le_cons rfl le_nil)))))) rfl sub_nil
                  · refine o_alloc zero33 rfl rfl fun b7 => ?_
                    refine d_next [1, 1, 1] 0 rfl rfl ?_
                    refine d_all [8, 14] (by kernel_rfl) (by simp) ⟨⟨_, rfl, ?_⟩, ⟨_, rfl, ?_⟩, trivial⟩
                    · refine o_callSB call47 rfl lent_nil (tri47 k s.text s.at_ v8 h20) rfl ?_
                      refine d_next [1, 1, 1] 0 rfl rfl ?_
                      refine d_val 9 rfl pnok (by kernel_rfl) (by kernel_rfl) (by kernel_rfl) rfl (v_move rfl) ?_
                      refine d_val 10 rfl pnok (by kernel_rfl) (by kernel_rfl) (by kernel_rfl) rfl (v_extract rfl rfl) ?_
                      refine d_val 11 rfl pnok (by kernel_rfl) (by kernel_rfl) (by kernel_rfl) rfl (v_extract rfl rfl) ?_
                      refine d_val 12 rfl pnok (by kernel_rfl) (by kernel_rfl) (by kernel_rfl) rfl (v_extract rfl rfl) ?_
                      refine d_one 14 rfl (by kernel_rfl) ?_
                      refine o_alloc zero26 rfl rfl fun b8 => ?_
                      refine d_next [2, 2, 2] 0 rfl rfl ?_
                      refine d_one 15 rfl (by kernel_rfl) ?_
                      refine o_store_box 1 rfl ty33 rfl rfl rfl rfl rfl rfl rfl ?_
                      refine d_next [2, 2, 2] 0 rfl rfl ?_
                      refine d_val 16 rfl pnok (by kernel_rfl) (by kernel_rfl) (by kernel_rfl) rfl (v_assign rfl) ?_
                      refine d_one 17 rfl (by kernel_rfl) ?_
                      refine o_store_box 0 rfl ty26 rfl rfl rfl rfl rfl rfl rfl ?_
                      refine d_next [2, 2, 2] 0 rfl rfl ?_
                      refine d_done (by kernel_rfl) ?_
                      refine s_st ?_ (hN6 v8.1 v8.2.1 v8.2.2.At v8.2.2.Code b7 b8 hF)
                      exact st_le [2, 2, 1, 0, 0] (le_cons rfl (le_cons rfl (le_cons rfl (le_cons rfl (le_cons rfl (le_cons rfl le_nil)))))) rfl sub_nil
                    · refine o_alloc zero26 rfl rfl fun b8 => ?_
                      refine d_next [2, 2, 2] 0 rfl rfl ?_
                      refine d_one 8 rfl (by kernel_rfl) ?_
                      refine o_callSB call47 rfl lent_nil (tri47 k s.text s.at_ v8 h20) rfl ?_
                      refine d_next [2, 2, 2] 0 rfl rfl ?_
                      refine d_val 9 rfl pnok (by kernel_rfl) (by kernel_rfl) (by kernel_rfl) rfl (v_move rfl) ?_
                      refine d_val 10 rfl pnok (by kernel_rfl) (by kernel_rfl) (by kernel_rfl) rfl (v_extract rfl rfl) ?_
                      refine d_val 11 rfl pnok (by kernel_rfl) (by kernel_rfl) (by kernel_rfl) rfl (v_extract rfl rfl) ?_
                      refine d_val 12 rfl pnok (by kernel_rfl) (by kernel_rfl) (by kernel_rfl) rfl (v_extract rfl rfl) ?_
                      refine d_one 15 rfl (by kernel_rfl) ?_
                      refine o_store_box 1 rfl ty33 rfl rfl rfl rfl rfl rfl rfl ?_
                      refine d_next [2, 2, 2] 0 rfl rfl ?_
                      refine d_val 16 rfl pnok (by kernel_rfl) (by kernel_rfl) (by kernel_rfl) rfl (v_assign rfl) ?_
                      refine d_one 17 rfl (by kernel_rfl) ?_
                      refine o_store_box 0 rfl ty26 rfl rfl rfl rfl rfl rfl rfl ?_
                      refine d_next [2, 2, 2] 0 rfl rfl ?_
                      refine d_done (by kernel_rfl) ?_
                      refine s_st ?_ (hN6 v8.1 v8.2.1 v8.2.2.At v8.2.2.Code b7 b8 hF)
                      exact st_le [2, 2, 1, 0, 0] (le_cons rfl (le_cons rfl (le_cons rfl (le_cons rfl (le_cons rfl (le_cons rfl le_nil)))))) rfl sub_nil
                  · refine o_alloc zero26 rfl rfl fun b7 => ?_
                    refine d_next [1, 1, 1] 0 rfl rfl ?_
                    refine d_all [8, 13] (by kernel_rfl) (by simp) ⟨⟨_, rfl, ?_⟩, ⟨_, rfl, ?_⟩, trivial⟩
                    · refine o_callSB call47 rfl lent_nil (tri47 k s.text s.at_ v8 h20) rfl ?_
                      refine d_next [1, 1, 1] 0 rfl rfl ?_
                      refine d_val 9 rfl pnok (by kernel_rfl) (by kernel_rfl) (by kernel_rfl) rfl (v_move rfl) ?_
                      refine d_val 10 rfl pnok (by kernel_rfl) (by kernel_rfl) (by kernel_rfl) rfl (v_extract rfl rfl) ?_
                      refine d_val 11 rfl pnok (by kernel_rfl) (by kernel_rfl) (by kernel_rfl) rfl (v_extract rfl rfl) ?_
                      refine d_val 12 rfl pnok (by kernel_rfl) (by kernel_rfl) (by kernel_rfl) rfl (v_extract rfl rfl) ?_
                      refine d_one 13 rfl (by kernel_rfl) ?_
                      refine o_alloc zero33 rfl rfl fun b8 => ?_
                      refine d_next [2, 2, 2] 0 rfl rfl ?_
                      refine d_one 15 rfl (by kernel_rfl) ?_
                      refine o_store_box 0 rfl ty33 rfl rfl rfl rfl rfl rfl rfl ?_
                      refine d_next [2, 2, 2] 0 rfl rfl ?_
                      refine d_val 16 rfl pnok (by kernel_rfl) (by kernel_rfl) (by kernel_rfl) rfl (v_assign rfl) ?_
                      refine d_one 17 rfl (by kernel_rfl) ?_
                      refine o_store_box 1 rfl ty26 rfl rfl rfl rfl rfl rfl rfl ?_
                      refine d_next [2, 2, 2] 0 rfl rfl ?_
                      refine d_done (by kernel_rfl) ?_
                      refine s_st ?_ (hN6 v8.1 v8.2.1 v8.2.2.At v8.2.2.Code b8 b7 hF)
                      exact st_le [2, 2, 0, 0, 0] (le_cons rfl (le_cons rfl (le_cons rfl (le_cons rfl (le_cons rfl (le_cons rfl le_nil)))))) rfl sub_nil
                    · refine o_alloc zero33 rfl rfl fun b8 => ?_
                      refine d_next [2, 2, 2] 0 rfl rfl ?_
                      refine d_one 8 rfl (by kernel_rfl) ?_
                      refine o_callSB call47 rfl lent_nil (tri47 k s.text s.at_ v8 h20) rfl ?_
                      refine d_next [2, 2, 2] 0 rfl rfl ?_
                      refine d_val 9 rfl pnok (by kernel_rfl) (by kernel_rfl) (by kernel_rfl) rfl (v_move rfl) ?_
                      refine d_val 10 rfl pnok (by kernel_rfl) (by kernel_rfl) (by kernel_rfl) rfl (v_extract rfl rfl) ?_
                      refine d_val 11 rfl pnok (by kernel_rfl) (by kernel_rfl) (by kernel_rfl) rfl (v_extract rfl rfl) ?_
                      refine d_val 12 rfl pnok (by kernel_rfl) (by kernel_rfl) (by kernel_rfl) rfl (v_extract rfl rfl) ?_
                      refine d_one 15 rfl (by kernel_rfl) ?_
                      refine o_store_box 0 rfl ty33 rfl rfl rfl rfl rfl rfl rfl ?_
                      refine d_next [2, 2, 2] 0 rfl rfl ?_
                      refine d_val 16 rfl pnok (by kernel_rfl) (by kernel_rfl) (by kernel_rfl) rfl (v_assign rfl) ?_
                      refine d_one 17 rfl (by kernel_rfl) ?_
                      refine o_store_box 1 rfl ty26 rfl rfl rfl rfl rfl rfl rfl ?_
                      refine d_next [2, 2, 2] 0 rfl rfl ?_
                      refine d_done (by kernel_rfl) ?_
                      refine s_st ?_ (hN6 v8.1 v8.2.1 v8.2.2.At v8.2.2.Code b8 b7 hF)
                      exact st_le [2, 2, 0, 0, 0] (le_cons rfl (le_cons rfl (le_cons rfl (le_cons rfl (le_cons rfl (le_cons rfl le_nil)))))) rfl sub_nil
                · intro set__ end_1 At_1 Code_1 b5 b6 hF
                  unfold F.words.scanner_next_j6 at hF
                  refine sat_wc ?_
                  refine c_seq ?_
                  refine c_seq ?_
                  refine c_region ?_
                  refine o_v (v_fieldAddr (v := .pointer (some ⟨b6, 1, none⟩)) rfl (fun _ => by kernel_rfl)) rfl ?_
                  refine o_v (v_load_box 3 ty24 rfl rfl rfl rfl rfl) rfl ?_
                  refine o_v (v_bin rfl rfl rfl) rfl ?_
                  refine o_seq ?_
                  refine c_cond rfl (fun h18 => ?_) (fun h18 => ?_)
                  · replace hF := ite_t h18 hF
                    refine c_seq ?_
                    refine c_region ?_
                    refine o_v (v_load_box 3 ty26 rfl rfl rfl rfl rfl) rfl ?_
                    refine o_store_box 0 rfl ty26 rfl rfl rfl rfl rfl rfl rfl ?_
                    refine o_seq ?_
                    refine c_ret ?_
                    cases hF
                    refine s_ret1 rfl (r_cell 0 rfl ty26 rfl rfl rfl rfl) fun a w hs => ?_
                    exact fin_sel hs [1, 3] ⟨ws, [], sa1, sn1, sc1, by simp, hws.symm, rfl, rfl, rfl⟩ rfl sub_nil
                  · replace hF := ite_f h18 hF
                    refine c_skip ?_
                    refine sat_wc ?_
                    refine c_region ?_
                    refine o_v (v_move rfl) rfl ?_
                    refine o_v (v_load_box 2 ty33 rfl rfl rfl rfl rfl) rfl ?_
                    refine o_v (v_build (v := .agg #[.int .i64 5, .string (bs ([] : List UInt8)), .slice none 0 0, .int .u64 set__.w0, .int .u64 set__.w1, .int .u64 set__.w2, .int .u64 set__.w3, .int .i64 0, .int .i64 0, .int .i64 0, .int .i64 0]) rfl (fun _ => by kernel_rfl)) rfl ?_
                    refine o_v (v_move rfl) rfl ?_
                    obtain ⟨v7, h19, hF⟩ := bd hF
                    refine o_call [1, 3] call28 rfl rfl rfl sub_nil (cap := #[]) (by rw [show (#[] : Array Value).toList = [] from rfl, List.append_nil]; exact (put_d s ws hws (Word.mk 5 ([] : List UInt8) ([] : List Int) set__ 0 0 0 0) end_1 b sa1 sn1 sc1 none 0 0 v7 h19)) rfl ?_
                    rintro _ _ _ ⟨nw, ws2, sa9, sn9, sc9, hw2, ho2, hb2, rfl, rfl, rfl⟩
                    refine o_nil ?_
                    refine s_st (st_nilrow 5 1) ?_
                    refine s_st ?_ (hN4 v7.text v7.at_ v7.line v7.top v7.out ws2 [⟨nw, none, 0, 0⟩] sa9 sn9 sc9 hw2 ho2 hF)
                    rw [List.map_cons, List.map_nil, rwW_nil hb2]
                    exact st_le [1, 2, 1, 0] (le_cons rfl (le_cons rfl (le_cons rfl le_nil))) rfl sub_nil
              · replace hF := ite_f h17 hF
                refine c_seq ?_
                refine c_region ?_
                refine o_v (v_move rfl) rfl ?_
                obtain ⟨v9, h21, hF⟩ := bd hF
                refine o_callSB call48 rfl lent_nil (tri48 ([61, 124, 46, 59, 62, 63, 42, 43, 123, 125, 40, 41, 95, 47, 44, 45] : List UInt8) (sAt s.text s.at_) v9 h21) rfl ?_
                refine o_v (v_bin rfl rfl rfl) rfl ?_
                refine o_v (v_assign rfl) rfl ?_
                refine o_seq ?_
                refine c_cond rfl (fun h22 => ?_) (fun h22 => ?_)
                · replace hF := ite_t h22 hF
                  refine c_region ?_
                  refine o_v (v_move rfl) rfl ?_
                  refine o_v (v_build (v := .agg #[.int .i64 6, .string (bs ([] : List UInt8)), .slice none 0 0, .int .u64 0, .int .u64 0, .int .u64 0, .int .u64 0, .int .i64 0, .int .i64 0, .int .i64 0, .int .i64 0]) rfl (fun _ => by kernel_rfl)) rfl ?_
                  refine o_v (v_move rfl) rfl ?_
                  refine o_v (v_nilCheck rfl) rfl ?_
                  refine o_v (v_fieldAddr (v := .pointer (some ⟨b, 1, none⟩)) rfl (fun _ => by kernel_rfl)) rfl ?_
                  refine o_v (v_load_box 1 ty3 rfl rfl rfl rfl rfl) rfl ?_
                  refine o_v (v_bin rfl rfl rfl) rfl ?_
                  obtain ⟨v10, h23, hF⟩ := bd hF
                  refine o_call [1, 1] call28 rfl rfl rfl sub_nil (cap := #[]) (by rw [show (#[] : Array Value).toList = [] from rfl, List.append_nil]; exact (put_d s ws hws (Word.mk 6 ([] : List UInt8) ([] : List Int) (S4.mk 0 0 0 0) 0 0 0 0) (IntKind.wrap .i64 (s.at_ + 1)) b sa1 sn1 sc1 none 0 0 v10 h23)) rfl ?_
                  rintro _ _ _ ⟨nw, ws2, sa10, sn10, sc10, hw2, ho2, hb2, rfl, rfl, rfl⟩
                  refine o_nil ?_
                  refine s_st (st_nilrow 5 1) ?_
                  refine s_st ?_ (hN4 v10.text v10.at_ v10.line v10.top v10.out ws2 [⟨nw, none, 0, 0⟩] sa10 sn10 sc10 hw2 ho2 hF)
                  rw [List.map_cons, List.map_nil, rwW_nil hb2]
                  exact st_le [1, 2, 1, 0] (le_cons rfl (le_cons rfl (le_cons rfl le_nil))) rfl sub_nil
                · replace hF := ite_f h22 hF
                  refine c_seq ?_
                  refine c_region ?_
                  refine o_v (v_move rfl) rfl ?_
                  refine o_v (v_nilCheck rfl) rfl ?_
                  refine o_v (v_fieldAddr (v := .pointer (some ⟨b, 1, none⟩)) rfl (fun _ => by kernel_rfl)) rfl ?_
                  refine o_v (v_load_box 1 ty3 rfl rfl rfl rfl rfl) rfl ?_
                  refine o_v (v_build (v := .agg #[.int .i64 s.at_, .int .i64 11]) rfl (fun _ => by kernel_rfl)) rfl ?_
                  refine o_store_box 0 rfl ty26 rfl rfl rfl rfl rfl rfl rfl ?_
                  refine o_seq ?_
                  refine c_ret ?_
                  cases hF
                  refine s_ret1 rfl (r_cell 0 rfl ty26 rfl rfl rfl rfl) fun a w hs => ?_
                  exact fin_sel hs [1, 1] ⟨ws, [], sa1, sn1, sc1, by simp, hws.symm, rfl, rfl, rfl⟩ rfl sub_nil
          · intro text_1 at__1 line_1 top_1 out_1 ws2 new sa5 sn5 sc5 hw2 ho2 hF
            unfold F.words.scanner_next_j4 at hF
            refine s_st ?_ (hN2 text_1 at__1 line_1 top_1 out_1 ws2 new sa5 sn5 sc5 hw2 ho2 hF)
            exact st_sub (le_cons rfl (le_cons rfl (le_cons rfl le_nil))) (List.Sublist.refl _) sub_nil
    · intro text_ at__ line_ top_ out_ ws2 new sa2 sn2 sc2 hw2 ho2 hF
      unfold F.words.scanner_next_j2 at hF
      refine sat_wc ?_
      refine c_seq ?_
      refine c_region ?_
      refine o_v (v_build (v := .agg #[.int .i64 0, .int .i64 0]) rfl (fun _ => by kernel_rfl)) rfl ?_
      refine o_store_box 1 rfl ty26 rfl rfl rfl rfl rfl rfl rfl ?_
      refine o_seq ?_
      refine c_ret ?_
      cases hF
      refine s_ret1 rfl (r_cell 1 rfl ty26 rfl rfl rfl rfl) fun a w hs => ?_
      exact fin_intro hs ⟨ws2, new, sa2, sn2, sc2, hw2, ho2, rfl, rfl, rfl⟩ (List.Sublist.cons_cons _ (List.Sublist.cons _ (List.Sublist.refl _))) (.refl _) sub_nil

end Go.Vc
