/-
  Trees whose rows are all the call's own: trees.At hands such back.
-/
import Derived.Test.YtncbbbjakbaojaaDoorH3
set_option linter.unusedVariables false
set_option linter.unusedSimpArgs false
set_option maxRecDepth 8000
set_option maxHeartbeats 2000000
namespace Go.Vc
open Go Go.Proofs
theorem copiedF_l1 {v : List Tree} {g : Tree → Option Tree} (hg : ∀ x r, g x = some r → CopyOk x ∧ r = x) : ∀ (j : Nat) (i : Nat) (o1 : List Tree), i ≤ v.length → v.length < 4000000000000 → F.trees.copied_l1 v g j (i : Int) v = some o1 → o1 = v ∧ ∀ q (hq : q < v.length), i ≤ q → CopyOk v[q]
  | 0, _, _, _, _, h => by cases h
  | j + 1, i, o1, hi, hv, h => by
    simp only [F.trees.copied_l1] at h
    by_cases hlt : i < v.length
    · rw [if_pos (by rw [decide_eq_true_eq]; omega), if_pos (by rw [inR_iff]; omega)] at h
      have hat : at_ v (i : Int) = v[i] := by simp [at_, hlt]
      rw [hat] at h
      cases hx : g v[i] with
      | none => rw [hx] at h; cases h
      | some y =>
        rw [hx, Option.bind_some] at h
        obtain ⟨h1, rfl⟩ := hg _ _ hx
        have hset : set_ v (i : Int) v[i] = v := by simp [set_]
        have hw : IntKind.wrap .i64 ((i : Int) + 1) = ((i + 1 : Nat) : Int) := by
          simp only [IntKind.wrap, IntKind.bits, IntKind.signed]
          simp
          omega
        rw [hset, hw] at h
        obtain ⟨e, h2⟩ := copiedF_l1 hg j (i + 1) o1 (by omega) hv h
        refine ⟨e, fun q hq hiq => ?_⟩
        by_cases he : q = i
        · subst he; exact h1
        · exact h2 q hq (by omega)
    · rw [if_neg (by rw [decide_eq_true_eq]; omega)] at h
      cases h
      exact ⟨rfl, fun q hq hiq => by omega⟩
theorem copiedF : ∀ (k : Nat) (t r : Tree), F.trees.copied k t = some r → CopyOk t ∧ r = t
  | 0, _, _, h => by cases h
  | k + 1, t, r, h => by
    have h' : F.trees.copied_B k (F.trees.copied k) t = some r := h
    unfold F.trees.copied_B F.slices.Clone at h'
    split at h'
    case isFalse => cases h'
    rename_i hlen
    have hlen' : t.Kids.length * 40 ≤ 140737488355328 := of_decide_eq_true hlen
    rw [Option.bind_some] at h'
    cases hl : F.trees.copied_l1 t.Kids (F.trees.copied k) k 0 t.Kids with
    | none => rw [hl] at h'; cases h'
    | some o1 =>
      rw [hl, Option.bind_some] at h'
      obtain ⟨rfl, h2⟩ := copiedF_l1 (fun x r => copiedF k x r) k 0 o1 (by omega) (by omega) hl
      cases h'
      refine ⟨copied_step hlen' (fun x hx => ?_), by cases t; rfl⟩
      obtain ⟨q, hq, rfl⟩ := List.getElem_of_mem hx
      exact h2 q hq (by omega)
theorem at_deep (k : Nat) (t : Tree) (path : List Int) (sa1 : Option Addr) (sn1 sc1 : Nat) (sa2 : Option Addr) (sn2 sc2 : Nat) (r : Tree × Int) (hF : F.trees.At k t path = some r) :
    Tri Tryd.prog 24 [.agg #[.int .i64 t.Rule, .int .u8 t.Byte, .slice sa1 sn1 sc1], .slice sa2 sn2 sc2] [] [(.slice sa1 sn1 sc1, .slice 3 (t.Kids.map eTree)), (.slice sa2 sn2 sc2, .slice 1 (path.map eI64))] (fun o H Φ => ∃ V : VT, tr V = r.1 ∧ o = .ret (.tuple #[V.val, .int .i64 r.2]) ∧ H = rws V ∧ Φ = []) := by
  unfold F.trees.At at hF
  refine tri_intro (n := 32) Tryd.func24 rfl Tryd.ntmps24 rfl fun w X => ?_
  refine c_seq ?_
  refine c_region ?_
  refine o_box rfl rfl rfl fun b => ?_
  refine o_alloc zero27 rfl rfl fun b1 => ?_
  refine o_v (v_assign rfl) rfl ?_
  refine o_seq ?_
  refine c_seq ?_
  refine c_seq ?_
  refine c_region ?_
  refine o_v (v_move rfl) rfl ?_
  refine o_v (v_lenS (enc := eI64) path sl44 rfl (.f 1 rfl)) rfl ?_
  refine o_v (v_move rfl) rfl ?_
  refine o_seq ?_
  obtain ⟨o1, ho1, hF⟩ := bd hF
  refine c_cut (fun E N' => ∀ (d1 : Int × Int × (List Tree)) (sa4 : Option Addr) (sn4 sc4 : Nat), o1 = .done d1 → Sat E [(0, .agg #[.int .i64 t.Rule, .int .u8 t.Byte, .slice sa1 sn1 sc1]), (1, .slice sa2 sn2 sc2), (2, .pointer (some ⟨b, 0, none⟩)), (4, .pointer (some ⟨b1, 0, none⟩)), (5, .int .i64 0), (8, .slice sa2 sn2 sc2)] [.box b1 27 [.int .i64 0, .int .u8 0, .slice none 0 0], .box b 27 [.int .i64 d1.1, .int .u8 d1.2.1, .slice sa4 sn4 sc4]] [(.slice sa1 sn1 sc1, .slice 3 (t.Kids.map eTree)), (.slice sa2 sn2 sc2, .slice 1 (path.map eI64)), (.slice sa4 sn4 sc4, .slice 3 (d1.2.2.map eTree))] N') (fun N1 hN1 => ?_) ?_
  · refine c_block ?_
    refine c_loopE (fun E j a w => ∃ (t10 : Int) (Rule_ : Int) (Byte_ : Int) (Kids_ : List Tree) (sa3 : Option Addr) (sn3 sc3 : Nat), F.trees.At_l1 path j t10 Rule_ Byte_ Kids_ = some o1 ∧ St E [(0, .agg #[.int .i64 t.Rule, .int .u8 t.Byte, .slice sa1 sn1 sc1]), (1, .slice sa2 sn2 sc2), (2, .pointer (some ⟨b, 0, none⟩)), (4, .pointer (some ⟨b1, 0, none⟩)), (5, .int .i64 0), (8, .slice sa2 sn2 sc2), (9, .int .i64 (path.length : Int)), (10, .int .i64 t10)] [.box b1 27 [.int .i64 0, .int .u8 0, .slice none 0 0], .box b 27 [.int .i64 Rule_, .int .u8 Byte_, .slice sa3 sn3 sc3]] [(.slice sa1 sn1 sc1, .slice 3 (t.Kids.map eTree)), (.slice sa2 sn2 sc2, .slice 1 (path.map eI64)), (.slice sa3 sn3 sc3, .slice 3 (Kids_.map eTree))] a w) k ?_ ?_
    · intro a w hs
      exact ⟨0, t.Rule, t.Byte, t.Kids, sa1, sn1, sc1, ho1, st_le [0, 0] (le_cons rfl (le_cons rfl (le_cons rfl (le_cons rfl (le_cons rfl (le_cons rfl (le_cons rfl (le_cons rfl le_nil)))))))) rfl (sub_cons 0 rfl (sub_cons 1 rfl (sub_cons 0 rfl sub_nil))) a w hs⟩
    · rintro j a w ⟨t10, Rule_, Byte_, Kids_, sa3, sn3, sc3, hL1, hs⟩
      cases j with
      | zero => cases hL1
      | succ j =>
        refine wc_app hs ?_
        unfold F.trees.At_l1 at hL1
        refine c_seq ?_
        refine c_region ?_
        refine o_v (v_bin rfl rfl rfl) rfl ?_
        refine o_seq ?_
        refine c_seq ?_
        refine c_cond rfl (fun h1 => ?_) (fun h1 => ?_)
        · replace hL1 := ite_t h1 hL1
          refine c_skip ?_
          refine sat_wc ?_
          refine c_seq ?_
          refine c_block ?_
          refine c_seq ?_
          refine c_region ?_
          refine ite_some hL1 fun h2 hL1 => ?_
          refine o_v (v_indexAddr_s (xs := path) (enc := eI64) sl44 rfl rfl (.f 1 rfl) h2) rfl ?_
          refine o_v (v_load_s (xs := path) (enc := eI64) ty3 rfl (.f 1 rfl) h2 rfl rfl rfl rfl rfl rfl rfl) rfl ?_
          refine o_v (v_assign rfl) rfl ?_
          refine o_seq ?_
          refine c_seq ?_
          refine c_seq ?_
          refine c_cut (fun E N' => ∀ (t22 : Bool), F.trees.At_j2 path t10 Kids_ (F.trees.At_l1 path j) t22 = some o1 → Sat E [(0, .agg #[.int .i64 t.Rule, .int .u8 t.Byte, .slice sa1 sn1 sc1]), (1, .slice sa2 sn2 sc2), (2, .pointer (some ⟨b, 0, none⟩)), (4, .pointer (some ⟨b1, 0, none⟩)), (5, .int .i64 0), (7, .int .i64 (at_ path t10)), (8, .slice sa2 sn2 sc2), (9, .int .i64 (path.length : Int)), (10, .int .i64 t10), (11, .bool (decide (t10 < (path.length : Int)))), (22, .bool t22)] [.box b1 27 [.int .i64 0, .int .u8 0, .slice none 0 0], .box b 27 [.int .i64 Rule_, .int .u8 Byte_, .slice sa3 sn3 sc3]] [(.slice sa1 sn1 sc1, .slice 3 (t.Kids.map eTree)), (.slice sa2 sn2 sc2, .slice 1 (path.map eI64)), (.slice sa3 sn3 sc3, .slice 3 (Kids_.map eTree))] N') (fun N2 hN2 => ?_) ?_
          · refine c_region ?_
            refine o_v (v_move rfl) rfl ?_
            refine o_v (v_bin rfl rfl rfl) rfl ?_
            refine o_v (v_move rfl) rfl ?_
            refine o_split (t := 16) rfl (fun h5 => ?_) (fun h5 => ?_)
            · replace hL1 := ite_t h5 hL1
              refine o_off rfl rfl (by decide) rfl ?_
              refine o_off rfl rfl (by decide) rfl ?_
              refine o_off rfl rfl (by decide) rfl ?_
              refine o_off rfl rfl (by decide) rfl ?_
              refine o_off rfl rfl (by decide) rfl ?_
              refine o_v (v_pick_t rfl rfl) rfl ?_
              refine o_nil ?_
              refine s_st ?_ (hN2 true hL1)
              exact st_le [0, 0] (le_cons rfl (le_cons rfl (le_cons rfl (le_cons rfl (le_cons rfl (le_cons rfl (le_cons rfl (le_cons rfl (le_cons rfl (le_cons rfl (le_cons rfl le_nil))))))))))) rfl (sub_cons 0 rfl (sub_cons 1 rfl (sub_cons 2 rfl sub_nil)))
            · replace hL1 := ite_f h5 hL1
              refine o_on rfl rfl ?_
              refine o_v (v_move rfl) rfl ?_
              refine o_on rfl rfl ?_
              refine o_v (v_fieldAddr (v := .pointer (some ⟨b, 2, none⟩)) rfl (fun _ => by kernel_rfl)) rfl ?_
              refine o_on rfl rfl ?_
              refine o_v (v_load_box 1 ty25 rfl rfl rfl rfl rfl) rfl ?_
              refine o_on rfl rfl ?_
              refine o_v (v_lenS (enc := eTree) Kids_ sl25 rfl (.f 2 rfl)) rfl ?_
              refine o_on rfl rfl ?_
              refine o_v (v_bin rfl rfl rfl) rfl ?_
              refine o_v (v_pick_f rfl rfl) rfl ?_
              refine o_nil ?_
              refine s_st ?_ (hN2 (decide ((Kids_.length : Int) ≤ (at_ path t10))) hL1)
              exact st_le [0, 0] (le_cons rfl (le_cons rfl (le_cons rfl (le_cons rfl (le_cons rfl (le_cons rfl (le_cons rfl (le_cons rfl (le_cons rfl (le_cons rfl (le_cons rfl le_nil))))))))))) rfl (sub_cons 0 rfl (sub_cons 1 rfl (sub_cons 2 rfl sub_nil)))
          · intro t22 hL1
            unfold F.trees.At_j2 at hL1
            refine sat_wc ?_
            refine c_cond rfl (fun h3 => ?_) (fun h3 => ?_)
            · replace hL1 := ite_t h3 hL1
              refine c_seq ?_
              refine c_region ?_
              refine o_v (v_build (v := .agg #[.int .i64 0, .int .u8 0, .slice none 0 0]) rfl (fun _ => by kernel_rfl)) rfl ?_
              refine o_store_box 0 rfl ty27 rfl rfl rfl rfl rfl rfl rfl ?_
              refine o_v (v_assign rfl) rfl ?_
              refine o_seq ?_
              refine c_ret ?_
              cases hL1
              obtain rfl := lrf_ret hF
              refine s_st (st_nilrow 27 3) ?_
              refine s_ret2 rfl (r_cell 1 rfl ty27 rfl rfl rfl rfl) (r_tmp rfl) fun a w hs => ?_
              exact fin_sel hs [0] ⟨.mk 0 0 none 0 0 [], by simp [tr, trs], rfl, rfl, rfl⟩ rfl sub_nil
            · replace hL1 := ite_f h3 hL1
              refine c_skip ?_
              refine sat_wc ?_
              refine c_region ?_
              refine o_v (v_fieldAddr (v := .pointer (some ⟨b, 2, none⟩)) rfl (fun _ => by kernel_rfl)) rfl ?_
              refine o_v (v_load_box 1 ty25 rfl rfl rfl rfl rfl) rfl ?_
              refine o_v (v_move rfl) rfl ?_
              refine ite_some hL1 fun h4 hL1 => ?_
              refine o_v (v_indexAddr_s (xs := Kids_) (enc := eTree) sl25 rfl rfl (.f 2 rfl) h4) rfl ?_
              refine o_load_s (ds := [.int .i64 ((at_ Kids_ (at_ path t10)).Rule), .int .u8 ((at_ Kids_ (at_ path t10)).Byte), .slice 3 (((at_ Kids_ (at_ path t10)).Kids).map eTree)]) (xs := Kids_) (enc := eTree) ty27 rfl (.f 2 rfl) h4 (by simp only [eTree_eq] <;> rfl) rfl rfl rfl rfl rfl fun sa5 sn5 sc5 => ?_
              refine o_store_box 1 rfl ty27 rfl rfl rfl rfl rfl rfl rfl ?_
              refine o_nil ?_
              refine sat_wc ?_
              refine c_region ?_
              refine o_v (v_bin rfl rfl rfl) rfl ?_
              refine o_v (v_move rfl) rfl ?_
              refine o_nil ?_
              intro a w hs
              exact ⟨j, Nat.lt_succ_self j, IntKind.wrap .i64 (t10 + 1), (at_ Kids_ (at_ path t10)).Rule, (at_ Kids_ (at_ path t10)).Byte, (at_ Kids_ (at_ path t10)).Kids, sa5, sn5, sc5, hL1, st_le [0, 0] (le_cons rfl (le_cons rfl (le_cons rfl (le_cons rfl (le_cons rfl (le_cons rfl (le_cons rfl (le_cons rfl le_nil)))))))) rfl (sub_cons 1 rfl (sub_cons 2 rfl (sub_cons 0 rfl sub_nil))) a w hs⟩
        · replace hL1 := ite_f h1 hL1
          refine c_exit0 ?_
          cases hL1
          refine s_st ?_ (hN1 (Rule_, Byte_, Kids_) sa3 sn3 sc3 rfl)
          exact st_le [0, 0] (le_cons rfl (le_cons rfl (le_cons rfl (le_cons rfl (le_cons rfl (le_cons rfl le_nil)))))) rfl (sub_cons 0 rfl (sub_cons 1 rfl (sub_cons 2 rfl sub_nil)))
  · intro d1 sa4 sn4 sc4 hd
    subst hd
    replace hF := lrf_done hF
    refine sat_wc ?_
    refine c_seq ?_
    refine c_region ?_
    refine o_v (v_load_box 1 ty27 rfl rfl rfl rfl rfl) rfl ?_
    obtain ⟨v, h6, hF⟩ := bd hF
    obtain ⟨hco, rfl⟩ := copiedF _ _ _ h6
    refine o_call0 call54 rfl (sub_cons 2 rfl sub_nil) (hco sa4 sn4 sc4) rfl ?_
    rintro _ _ _ ⟨V, hV, rfl, rfl, rfl⟩
    refine o_st (st_perm (List.perm_append_comm (l₁ := rws V) (l₂ := [_, _]))) ?_
    refine o_store_box 0 rfl ty27 rfl rfl rfl rfl rfl rfl rfl ?_
    refine o_v (v_assign rfl) rfl ?_
    refine o_seq ?_
    refine c_ret ?_
    cases hF
    refine s_ret2 rfl (r_cell 0 rfl ty27 rfl rfl rfl rfl) (r_tmp rfl) fun a w hs => ?_
    exact fin_intro hs (H' := rws V) (H'' := rws V) (Φ' := []) ⟨V, hV, rfl, rfl, rfl⟩ (List.Sublist.cons _ (List.Sublist.cons _ (List.Sublist.refl _))) (.refl _) sub_nil
end Go.Vc
