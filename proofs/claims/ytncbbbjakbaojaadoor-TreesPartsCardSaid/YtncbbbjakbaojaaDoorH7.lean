/-
  Trees whose rows are all the call's own: the document's copy makes such.
-/
import Derived.Test.YtncbbbjakbaojaaDoorH6
set_option linter.unusedVariables false
set_option linter.unusedSimpArgs false
set_option maxRecDepth 8000
set_option maxHeartbeats 2000000
namespace Go.Vc
open Go Go.Proofs
theorem copyR_B (k : Nat) (g16 : Tree → Option Tree)
    (hg16 : ∀ (t : Tree) (sa1 : Option Addr) (sn1 sc1 : Nat) (r : Tree), g16 t = some r → Tri Tryd.prog 16 [.agg #[.int .i64 t.Rule, .int .u8 t.Byte, .slice sa1 sn1 sc1]] [] [(.slice sa1 sn1 sc1, .slice 3 (t.Kids.map eTree))] (fun o H Φ => ∃ V : VT, tr V = r ∧ o = .ret V.val ∧ H = rws V ∧ Φ = [])) (t : Tree) (sa1 : Option Addr) (sn1 sc1 : Nat) (r : Tree) (hF : F.ref09.Copy_B k g16 t = some r) :
    Tri Tryd.prog 16 [.agg #[.int .i64 t.Rule, .int .u8 t.Byte, .slice sa1 sn1 sc1]] [] [(.slice sa1 sn1 sc1, .slice 3 (t.Kids.map eTree))] (fun o H Φ => ∃ V : VT, tr V = r ∧ o = .ret V.val ∧ H = rws V ∧ Φ = []) := by
  unfold F.ref09.Copy_B at hF
  refine tri_intro (n := 31) Tryd.func16 rfl Tryd.ntmps16 rfl fun w X => ?_
  refine c_seq ?_
  refine c_region ?_
  refine o_box rfl rfl rfl fun b => ?_
  refine o_alloc zero27 rfl rfl fun b1 => ?_
  refine o_seq ?_
  refine c_seq ?_
  refine c_region ?_
  refine o_v (v_fieldAddr (v := .pointer (some ⟨b, 0, none⟩)) rfl (fun _ => by kernel_rfl)) rfl ?_
  refine o_v (v_load_box 1 ty3 rfl rfl rfl rfl rfl) rfl ?_
  refine o_v (v_fieldAddr (v := .pointer (some ⟨b, 1, none⟩)) rfl (fun _ => by kernel_rfl)) rfl ?_
  refine o_v (v_load_box 1 ty5 rfl rfl rfl rfl rfl) rfl ?_
  refine o_v (v_build (v := .agg #[.int .i64 t.Rule, .int .u8 t.Byte, .slice none 0 0]) rfl (fun _ => by kernel_rfl)) rfl ?_
  refine o_alloc zero27 rfl rfl fun b2 => ?_
  refine o_store_box 0 rfl ty27 rfl rfl rfl rfl rfl rfl rfl ?_
  refine o_seq ?_
  refine c_seq ?_
  refine c_seq ?_
  refine c_region ?_
  refine o_v (v_assign rfl) rfl ?_
  refine o_seq ?_
  obtain ⟨o1, ho1, hF⟩ := bd hF
  refine c_cut (fun E N' => ∀ (ks : List VT) (Hd : List HB) (sa3 : Option Addr) (sn3 sc3 : Nat), ks.map tr = o1 → Hd.Perm (rwss ks) → Sat E [(0, .agg #[.int .i64 t.Rule, .int .u8 t.Byte, .slice sa1 sn1 sc1]), (1, .pointer (some ⟨b, 0, none⟩)), (2, .pointer (some ⟨b1, 0, none⟩)), (3, .pointer (some ⟨b2, 0, none⟩))] (.box b2 27 [.int .i64 t.Rule, .int .u8 t.Byte, .slice sa3 sn3 sc3] :: .box b1 27 [.int .i64 0, .int .u8 0, .slice none 0 0] :: .box b 27 [.int .i64 t.Rule, .int .u8 t.Byte, .slice sa1 sn1 sc1] :: .row (.slice sa3 sn3 sc3) 27 3 (ks.map eV) :: Hd) [(.slice sa1 sn1 sc1, .slice 3 (t.Kids.map eTree))] N') (fun N1 hN1 => ?_) ?_
  · refine c_block ?_
    refine c_loopE (fun E j a w => ∃ (i : Int) (ks : List VT) (Hd : List HB) (sa2 : Option Addr) (sn2 sc2 : Nat), F.ref09.Copy_l1 t g16 j i (ks.map tr) = some o1 ∧ Hd.Perm (rwss ks) ∧ St E [(0, .agg #[.int .i64 t.Rule, .int .u8 t.Byte, .slice sa1 sn1 sc1]), (1, .pointer (some ⟨b, 0, none⟩)), (2, .pointer (some ⟨b1, 0, none⟩)), (3, .pointer (some ⟨b2, 0, none⟩)), (4, .int .i64 i)] (.box b2 27 [.int .i64 t.Rule, .int .u8 t.Byte, .slice sa2 sn2 sc2] :: .box b1 27 [.int .i64 0, .int .u8 0, .slice none 0 0] :: .box b 27 [.int .i64 t.Rule, .int .u8 t.Byte, .slice sa1 sn1 sc1] :: .row (.slice sa2 sn2 sc2) 27 3 (ks.map eV) :: Hd) [(.slice sa1 sn1 sc1, .slice 3 (t.Kids.map eTree))] a w) k ?_ ?_
    · refine s_st (st_nilrow 27 3) ?_
      intro a w hs
      exact ⟨0, ([] : List VT), [], none, 0, 0, ho1, .refl _, st_le [1, 1, 1, 0] (le_cons rfl (le_cons rfl (le_cons rfl (le_cons rfl (le_cons rfl le_nil))))) rfl (sub_cons 0 rfl sub_nil) a w hs⟩
    · rintro j a w ⟨i, ks, Hd, sa2, sn2, sc2, hL1, hHd, hs⟩
      cases j with
      | zero => cases hL1
      | succ j =>
        refine wc_app hs ?_
        unfold F.ref09.Copy_l1 at hL1
        refine c_seq ?_
        refine c_seq ?_
        refine c_region ?_
        refine o_v (v_move rfl) rfl ?_
        refine o_v (v_fieldAddr (v := .pointer (some ⟨b, 2, none⟩)) rfl (fun _ => by kernel_rfl)) rfl ?_
        refine o_v (v_load_box 2 ty25 rfl rfl rfl rfl rfl) rfl ?_
        refine o_v (v_lenS (enc := eTree) t.Kids sl25 rfl (.f 0 rfl)) rfl ?_
        refine o_v (v_bin rfl rfl rfl) rfl ?_
        refine o_seq ?_
        refine c_cond rfl (fun h1 => ?_) (fun h1 => ?_)
        · replace hL1 := ite_t h1 hL1
          refine c_skip ?_
          refine sat_wc ?_
          refine c_seq ?_
          refine c_block ?_
          refine c_seq ?_
          refine c_region ?_
          refine o_v (v_fieldAddr (v := .pointer (some ⟨b, 2, none⟩)) rfl (fun _ => by kernel_rfl)) rfl ?_
          refine o_v (v_load_box 2 ty25 rfl rfl rfl rfl rfl) rfl ?_
          refine o_v (v_move rfl) rfl ?_
          refine ite_some hL1 fun h2 hL1 => ?_
          refine o_v (v_indexAddr_s (xs := t.Kids) (enc := eTree) sl25 rfl rfl (.f 0 rfl) h2) rfl ?_
          refine o_load_s (ds := [.int .i64 ((at_ t.Kids i).Rule), .int .u8 ((at_ t.Kids i).Byte), .slice 3 (((at_ t.Kids i).Kids).map eTree)]) (xs := t.Kids) (enc := eTree) ty27 rfl (.f 0 rfl) h2 (by simp only [eTree_eq] <;> rfl) rfl rfl rfl rfl rfl fun sa4 sn4 sc4 => ?_
          obtain ⟨v, h3, hL1⟩ := bd hL1
          refine o_call0 call16 rfl (sub_cons 0 rfl sub_nil) (hg16 (at_ t.Kids i) sa4 sn4 sc4 v h3) rfl ?_
          rintro _ _ _ ⟨V, hV, rfl, rfl, rfl⟩
          refine o_st (st_perm List.perm_append_comm) ?_
          refine o_alloc zero27 rfl rfl fun b3 => ?_
          refine o_store_box 0 rfl ty27 rfl rfl rfl rfl rfl rfl rfl ?_
          refine o_seq ?_
          refine c_region ?_
          refine o_v (v_fieldAddr (v := .pointer (some ⟨b2, 2, none⟩)) rfl (fun _ => by kernel_rfl)) rfl ?_
          refine o_v (v_load_box 1 ty25 rfl rfl rfl rfl rfl) rfl ?_
          refine o_v (v_load_box 0 ty27 rfl rfl rfl rfl rfl) rfl ?_
          refine o_buildSlice (enc := eV) ([V] : List VT) [.int .i64 V.rule, .int .u8 V.byte, .slice V.a V.n V.c] sl25 rfl (fun _ => by kernel_rfl) rfl rfl rfl (cp_of (ds := [.int .i64 V.rule, .int .u8 V.byte, .own V.a V.n V.c]) rfl (.s rfl (.s rfl (.s rfl (.nil))))) rfl fun sa6 sn6 sc6 => ?_
          refine ite_some hL1 fun h4 hL1 => ?_
          refine ite_some hL1 fun h5 hL1 => ?_
          refine o_append (enc := eV) (xs := ks) (ys := ([V] : List VT)) 5 sl25 rfl rfl rfl (.r 0 _ rfl) (by rw [List.length_map] at h4; exact h4) (by rw [List.length_map] at h5; exact h5) rfl fun sa7 sn7 sc7 => ?_
          refine o_v (v_fieldAddr (v := .pointer (some ⟨b2, 2, none⟩)) rfl (fun _ => by kernel_rfl)) rfl ?_
          refine o_store_box 2 rfl ty25 rfl rfl rfl rfl rfl rfl rfl ?_
          refine o_nil ?_
          refine sat_wc ?_
          refine c_region ?_
          refine o_v (v_move rfl) rfl ?_
          refine o_v (v_bin rfl rfl rfl) rfl ?_
          refine o_v (v_assign rfl) rfl ?_
          refine o_nil ?_
          intro a w hs
          refine ⟨j, Nat.lt_succ_self j, IntKind.wrap .i64 (i + 1), ks ++ [V], Hd ++ rws V, sa7, sn7, sc7, ?_, ?_, st_sub (le_cons rfl (le_cons rfl (le_cons rfl (le_cons rfl (le_cons rfl le_nil))))) (List.Sublist.cons _ (List.Sublist.cons _ (List.Sublist.refl _))) (sub_cons 1 rfl sub_nil) a w hs⟩
          · rw [List.map_append, List.map_cons, List.map_nil, hV]; exact hL1
          · rw [rwss_app]
            refine hHd.append ?_
            simp [rwss]
        · replace hL1 := ite_f h1 hL1
          refine c_exit0 ?_
          cases hL1
          refine s_st ?_ (hN1 ks Hd sa2 sn2 sc2 rfl hHd)
          exact st_sub (le_cons rfl (le_cons rfl (le_cons rfl (le_cons rfl le_nil)))) (List.Sublist.refl _) (sub_cons 0 rfl sub_nil)
  · intro ks Hd sa3 sn3 sc3 hks hHd
    subst hks
    refine sat_wc ?_
    refine c_seq ?_
    refine c_region ?_
    refine o_v (v_load_box 0 ty27 rfl rfl rfl rfl rfl) rfl ?_
    refine o_store_box 1 rfl ty27 rfl rfl rfl rfl rfl rfl rfl ?_
    refine o_seq ?_
    refine c_ret ?_
    cases hF
    refine s_ret1 rfl (r_cell 1 rfl ty27 rfl rfl rfl rfl) fun a w hs => ?_
    refine fin_intro hs (H' := rws (.mk t.Rule t.Byte sa3 sn3 sc3 ks)) (H'' := .row (.slice sa3 sn3 sc3) 27 3 (ks.map eV) :: Hd) (Φ' := []) ⟨.mk t.Rule t.Byte sa3 sn3 sc3 ks, ?_, rfl, rfl, rfl⟩ ?_ ?_ sub_nil
    · rw [tr_eq]
      rfl
    · exact List.Sublist.cons _ (List.Sublist.cons _ (List.Sublist.cons _ (List.Sublist.refl _)))
    · exact List.Perm.cons _ hHd
theorem copyR_deep (k : Nat) : ∀ (t : Tree) (sa1 : Option Addr) (sn1 sc1 : Nat) (r : Tree), F.ref09.Copy k t = some r → Tri Tryd.prog 16 [.agg #[.int .i64 t.Rule, .int .u8 t.Byte, .slice sa1 sn1 sc1]] [] [(.slice sa1 sn1 sc1, .slice 3 (t.Kids.map eTree))] (fun o H Φ => ∃ V : VT, tr V = r ∧ o = .ret V.val ∧ H = rws V ∧ Φ = []) := by
  induction k with
  | zero => exact fun _ _ _ _ _ h => nomatch (show none = some _ from h)
  | succ k ih => exact copyR_B k _ ih
end Go.Vc
