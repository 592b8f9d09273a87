import Derived.Test.YtncbbbjakbaojaaDoorH5
set_option linter.unusedVariables false
set_option linter.unusedSimpArgs false
set_option maxRecDepth 8000
set_option maxHeartbeats 2000000
namespace Go.Vc
open Go Go.Proofs
theorem tri37_B (k : Nat) (g37 : Tree → Int → Option Int)
    (hg37 : ∀ (t : Tree) (most : Int) (sa1 : Option Addr) (sn1 sc1 : Nat) (r : Int), g37 t most = some r → Tri Tryd.prog 37 [.agg #[.int .i64 t.Rule, .int .u8 t.Byte, .slice sa1 sn1 sc1], .int .i64 most] [] [(.slice sa1 sn1 sc1, .slice 3 (t.Kids.map eTree))] (fun o H Φ => o = .ret (.int .i64 r) ∧ H = [] ∧ Φ = [])) (t : Tree) (most : Int) (sa1 : Option Addr) (sn1 sc1 : Nat) (r : Int) (hF : F.ref09.Parts_B k g37 t most = some r) :
    Tri Tryd.prog 37 [.agg #[.int .i64 t.Rule, .int .u8 t.Byte, .slice sa1 sn1 sc1], .int .i64 most] [] [(.slice sa1 sn1 sc1, .slice 3 (t.Kids.map eTree))] (fun o H Φ => o = .ret (.int .i64 r) ∧ H = [] ∧ Φ = []) := by
  unfold F.ref09.Parts_B at hF
  refine tri_intro (n := 31) Tryd.func37 rfl Tryd.ntmps37 rfl fun w X => ?_
  refine c_seq ?_
  refine c_region ?_
  refine o_box rfl rfl rfl fun b => ?_
  refine o_v (v_assign rfl) rfl ?_
  refine o_seq ?_
  refine c_seq ?_
  refine c_region ?_
  refine o_v (v_assign rfl) rfl ?_
  refine o_seq ?_
  refine c_seq ?_
  refine c_seq ?_
  refine c_region ?_
  refine o_v (v_assign rfl) rfl ?_
  refine o_seq ?_
  obtain ⟨o1, ho1, hF⟩ := bd hF
  refine c_cut (fun E N' => Sat E [(0, .agg #[.int .i64 t.Rule, .int .u8 t.Byte, .slice sa1 sn1 sc1]), (4, .int .i64 0), (5, .int .i64 o1)] [] [(.slice sa1 sn1 sc1, .slice 3 (t.Kids.map eTree))] N') (fun N1 hN1 => ?_) ?_
  · refine c_block ?_
    refine c_loopE (fun E j a w => ∃ (n : Int) (i : Int), F.ref09.Parts_l1 t g37 most j n i = some o1 ∧ St E [(0, .agg #[.int .i64 t.Rule, .int .u8 t.Byte, .slice sa1 sn1 sc1]), (1, .int .i64 most), (2, .pointer (some ⟨b, 0, none⟩)), (4, .int .i64 0), (5, .int .i64 n), (6, .int .i64 i)] [.box b 27 [.int .i64 t.Rule, .int .u8 t.Byte, .slice sa1 sn1 sc1]] [(.slice sa1 sn1 sc1, .slice 3 (t.Kids.map eTree))] a w) k ?_ ?_
    · intro a w hs
      exact ⟨1, 0, ho1, st_le [0] (le_cons rfl (le_cons rfl (le_cons rfl (le_cons rfl (le_cons rfl (le_cons rfl le_nil)))))) rfl (sub_cons 0 rfl sub_nil) a w hs⟩
    · rintro j a w ⟨n, i, hL1, hs⟩
      cases j with
      | zero => cases hL1
      | succ j =>
        refine wc_app hs ?_
        unfold F.ref09.Parts_l1 at hL1
        refine c_seq ?_
        refine c_seq ?_
        refine c_cut (fun E N' => ∀ (t16 : Bool), F.ref09.Parts_j2 i t g37 most n (F.ref09.Parts_l1 t g37 most j) t16 = some o1 → Sat E [(0, .agg #[.int .i64 t.Rule, .int .u8 t.Byte, .slice sa1 sn1 sc1]), (1, .int .i64 most), (2, .pointer (some ⟨b, 0, none⟩)), (4, .int .i64 0), (5, .int .i64 n), (6, .int .i64 i), (16, .bool t16)] [.box b 27 [.int .i64 t.Rule, .int .u8 t.Byte, .slice sa1 sn1 sc1]] [(.slice sa1 sn1 sc1, .slice 3 (t.Kids.map eTree))] N') (fun N2 hN2 => ?_) ?_
        · refine c_region ?_
          refine o_v (v_move rfl) rfl ?_
          refine o_v (v_fieldAddr (v := .pointer (some ⟨b, 2, none⟩)) rfl (fun _ => by kernel_rfl)) rfl ?_
          refine o_v (v_load_box 0 ty25 rfl rfl rfl rfl rfl) rfl ?_
          refine o_v (v_lenS (enc := eTree) t.Kids sl25 rfl (.f 0 rfl)) rfl ?_
          refine o_v (v_bin rfl rfl rfl) rfl ?_
          refine o_v (v_move rfl) rfl ?_
          refine o_split (t := 12) rfl (fun h4 => ?_) (fun h4 => ?_)
          · replace hL1 := ite_t h4 hL1
            refine o_on rfl rfl ?_
            refine o_v (v_move rfl) rfl ?_
            refine o_on rfl rfl ?_
            refine o_v (v_move rfl) rfl ?_
            refine o_on rfl rfl ?_
            refine o_v (v_bin rfl rfl rfl) rfl ?_
            refine o_v (v_pick_t rfl rfl) rfl ?_
            refine o_nil ?_
            refine s_st ?_ (hN2 (decide (n ≤ most)) hL1)
            exact st_le [0] (le_cons rfl (le_cons rfl (le_cons rfl (le_cons rfl (le_cons rfl (le_cons rfl (le_cons rfl le_nil))))))) rfl (sub_cons 0 rfl sub_nil)
          · replace hL1 := ite_f h4 hL1
            refine o_off rfl rfl (by decide) rfl ?_
            refine o_off rfl rfl (by decide) rfl ?_
            refine o_off rfl rfl (by decide) rfl ?_
            refine o_v (v_pick_f rfl rfl) rfl ?_
            refine o_nil ?_
            refine s_st ?_ (hN2 false hL1)
            exact st_le [0] (le_cons rfl (le_cons rfl (le_cons rfl (le_cons rfl (le_cons rfl (le_cons rfl (le_cons rfl le_nil))))))) rfl (sub_cons 0 rfl sub_nil)
        · intro t16 hL1
          unfold F.ref09.Parts_j2 at hL1
          refine sat_wc ?_
          refine c_cond rfl (fun h1 => ?_) (fun h1 => ?_)
          · replace hL1 := ite_t h1 hL1
            refine c_skip ?_
            refine sat_wc ?_
            refine c_seq ?_
            refine c_block ?_
            refine c_region ?_
            refine o_v (v_move rfl) rfl ?_
            refine o_v (v_fieldAddr (v := .pointer (some ⟨b, 2, none⟩)) rfl (fun _ => by kernel_rfl)) rfl ?_
            refine o_v (v_load_box 0 ty25 rfl rfl rfl rfl rfl) rfl ?_
            refine o_v (v_move rfl) rfl ?_
            refine ite_some hL1 fun h2 hL1 => ?_
            refine o_v (v_indexAddr_s (xs := t.Kids) (enc := eTree) sl25 rfl rfl (.f 0 rfl) h2) rfl ?_
            refine o_load_s (ds := [.int .i64 ((at_ t.Kids i).Rule), .int .u8 ((at_ t.Kids i).Byte), .slice 3 (((at_ t.Kids i).Kids).map eTree)]) (xs := t.Kids) (enc := eTree) ty27 rfl (.f 0 rfl) h2 (by simp only [eTree_eq] <;> rfl) rfl rfl rfl rfl rfl fun sa2 sn2 sc2 => ?_
            refine o_v (v_move rfl) rfl ?_
            refine o_v (v_move rfl) rfl ?_
            refine o_v (v_bin rfl rfl rfl) rfl ?_
            obtain ⟨v, h3, hL1⟩ := bd hL1
            refine o_callSB call37 rfl (lent_f 0 rfl lent_nil) (hg37 (at_ t.Kids i) (IntKind.wrap .i64 (most - n)) sa2 sn2 sc2 v h3) rfl ?_
            refine o_v (v_bin rfl rfl rfl) rfl ?_
            refine o_v (v_assign rfl) rfl ?_
            refine o_nil ?_
            refine sat_wc ?_
            refine c_region ?_
            refine o_v (v_move rfl) rfl ?_
            refine o_v (v_bin rfl rfl rfl) rfl ?_
            refine o_v (v_assign rfl) rfl ?_
            refine o_nil ?_
            intro a w hs
            exact ⟨j, Nat.lt_succ_self j, IntKind.wrap .i64 (n + v), IntKind.wrap .i64 (i + 1), hL1, st_le [0] (le_cons rfl (le_cons rfl (le_cons rfl (le_cons rfl (le_cons rfl (le_cons rfl le_nil)))))) rfl (sub_cons 1 rfl sub_nil) a w hs⟩
          · replace hL1 := ite_f h1 hL1
            refine c_exit0 ?_
            cases hL1
            refine s_st ?_ (hN1)
            exact st_le [] (le_cons rfl (le_cons rfl (le_cons rfl le_nil))) rfl (sub_cons 0 rfl sub_nil)
  · refine sat_wc ?_
    refine c_seq ?_
    refine c_region ?_
    refine o_v (v_move rfl) rfl ?_
    refine o_v (v_assign rfl) rfl ?_
    refine o_seq ?_
    refine c_ret ?_
    cases hF
    refine s_ret1 rfl (r_tmp rfl) fun a w hs => ?_
    exact fin_sel hs [] ⟨rfl, rfl, rfl⟩ rfl sub_nil
theorem tri37 (k : Nat) : (∀ (t : Tree) (most : Int) (sa1 : Option Addr) (sn1 sc1 : Nat) (r : Int), F.ref09.Parts k t most = some r → Tri Tryd.prog 37 [.agg #[.int .i64 t.Rule, .int .u8 t.Byte, .slice sa1 sn1 sc1], .int .i64 most] [] [(.slice sa1 sn1 sc1, .slice 3 (t.Kids.map eTree))] (fun o H Φ => o = .ret (.int .i64 r) ∧ H = [] ∧ Φ = [])) := by
  induction k with
  | zero => exact fun _ _ _ _ _ _ h => nomatch (show none = some _ from h)
  | succ k ih => exact tri37_B k _ ih
theorem tri13 (k : Nat) (t : Tree) (sa1 : Option Addr) (sn1 sc1 : Nat) (r : Bool) (hF : F.law09.heavy k t = some r) :
    Tri Tryd.prog 13 [.agg #[.int .i64 t.Rule, .int .u8 t.Byte, .slice sa1 sn1 sc1]] [] [(.slice sa1 sn1 sc1, .slice 3 (t.Kids.map eTree))] (fun o H Φ => o = .ret (.bool r) ∧ H = [] ∧ Φ = []) := by
  unfold F.law09.heavy at hF
  refine tri_intro (n := 6) Tryd.func13 rfl Tryd.ntmps13 rfl fun w X => ?_
  refine c_seq ?_
  refine c_region ?_
  refine o_box rfl rfl rfl fun b => ?_
  refine o_v (v_assign rfl) rfl ?_
  refine o_seq ?_
  refine c_seq ?_
  refine c_region ?_
  refine o_v (v_load_box 0 ty27 rfl rfl rfl rfl rfl) rfl ?_
  obtain ⟨v, h1, hF⟩ := bd hF
  refine o_callSB call37 rfl (lent_f 0 rfl lent_nil) (tri37 k t 1500 sa1 sn1 sc1 v h1) rfl ?_
  refine o_v (v_bin rfl rfl rfl) rfl ?_
  refine o_v (v_assign rfl) rfl ?_
  refine o_seq ?_
  refine c_ret ?_
  cases hF
  refine s_ret1 rfl (r_tmp rfl) fun a w hs => ?_
  exact fin_sel hs [] ⟨rfl, rfl, rfl⟩ rfl sub_nil
theorem tri14 (k : Nat) (g_ : Gram) (most : Int) (sa1 : Option Addr) (sn1 sc1 : Nat) (r : Bool) (hF : F.ref06.Heavy k g_ most = some r) :
    Tri Tryd.prog 14 [.agg #[.int .i64 g_.Nts, .int .i64 g_.Start, .slice sa1 sn1 sc1], .int .i64 most] [] [(.slice sa1 sn1 sc1, .slice 2 (g_.Rules.map eRule))] (fun o H Φ => o = .ret (.bool r) ∧ H = [] ∧ Φ = []) := by
  unfold F.ref06.Heavy at hF
  refine tri_intro (n := 40) Tryd.func14 rfl Tryd.ntmps14 rfl fun w X => ?_
  refine c_seq ?_
  refine c_region ?_
  refine o_box rfl rfl rfl fun b => ?_
  refine o_v (v_assign rfl) rfl ?_
  refine o_seq ?_
  refine c_seq ?_
  refine c_seq ?_
  refine c_region ?_
  refine o_v (v_fieldAddr (v := .pointer (some ⟨b, 0, none⟩)) rfl (fun _ => by kernel_rfl)) rfl ?_
  refine o_v (v_load_box 0 ty3 rfl rfl rfl rfl rfl) rfl ?_
  refine o_v (v_move rfl) rfl ?_
  refine o_v (v_bin rfl rfl rfl) rfl ?_
  refine o_v (v_move rfl) rfl ?_
  refine o_split (t := 11) rfl (fun h1 => ?_) (fun h1 => ?_)
  · replace hF := ite_t h1 hF
    refine o_off rfl rfl (by decide) rfl ?_
    refine o_off rfl rfl (by decide) rfl ?_
    refine o_off rfl rfl (by decide) rfl ?_
    refine o_off rfl rfl (by decide) rfl ?_
    refine o_off rfl rfl (by decide) rfl ?_
    refine o_v (v_pick_t rfl rfl) rfl ?_
    refine o_seq ?_
    refine c_cond rfl (fun _ => ?_) (fun h => Bool.noConfusion h)
    refine c_seq ?_
    refine c_region ?_
    refine o_v (v_assign rfl) rfl ?_
    refine o_seq ?_
    refine c_ret ?_
    cases hF
    refine s_ret1 rfl (r_tmp rfl) fun a w hs => ?_
    exact fin_sel hs [] ⟨rfl, rfl, rfl⟩ rfl sub_nil
  · replace hF := ite_f h1 hF
    refine o_on rfl rfl ?_
    refine o_v (v_fieldAddr (v := .pointer (some ⟨b, 2, none⟩)) rfl (fun _ => by kernel_rfl)) rfl ?_
    refine o_on rfl rfl ?_
    refine o_v (v_load_box 0 ty22 rfl rfl rfl rfl rfl) rfl ?_
    refine o_on rfl rfl ?_
    refine o_v (v_lenS (enc := eRule) g_.Rules sl22 rfl (.f 0 rfl)) rfl ?_
    refine o_on rfl rfl ?_
    refine o_v (v_move rfl) rfl ?_
    refine o_on rfl rfl ?_
    refine o_v (v_bin rfl rfl rfl) rfl ?_
    refine o_v (v_pick_f rfl rfl) rfl ?_
    refine o_seq ?_
    refine c_cond rfl (fun h2 => ?_) (fun h2 => ?_)
    · replace hF := ite_t h2 hF
      refine c_seq ?_
      refine c_region ?_
      refine o_v (v_assign rfl) rfl ?_
      refine o_seq ?_
      refine c_ret ?_
      cases hF
      refine s_ret1 rfl (r_tmp rfl) fun a w hs => ?_
      exact fin_sel hs [] ⟨rfl, rfl, rfl⟩ rfl sub_nil
    · replace hF := ite_f h2 hF
      refine c_skip ?_
      refine sat_wc ?_
      refine c_seq ?_
      refine c_region ?_
      refine o_v (v_fieldAddr (v := .pointer (some ⟨b, 0, none⟩)) rfl (fun _ => by kernel_rfl)) rfl ?_
      refine o_v (v_load_box 0 ty3 rfl rfl rfl rfl rfl) rfl ?_
      refine o_v (v_assign rfl) rfl ?_
      refine o_seq ?_
      refine c_seq ?_
      refine c_seq ?_
      refine c_region ?_
      refine o_v (v_assign rfl) rfl ?_
      refine o_seq ?_
      obtain ⟨o1, ho1, hF⟩ := bd hF
      refine c_cut (fun E N' => ∀ (d1 : Unit), o1 = .done d1 → Sat E [(0, .agg #[.int .i64 g_.Nts, .int .i64 g_.Start, .slice sa1 sn1 sc1]), (1, .int .i64 most), (2, .pointer (some ⟨b, 0, none⟩)), (4, .bool false)] [.box b 24 [.int .i64 g_.Nts, .int .i64 g_.Start, .slice sa1 sn1 sc1]] [(.slice sa1 sn1 sc1, .slice 2 (g_.Rules.map eRule))] N') (fun N1 hN1 => ?_) ?_
      · refine c_block ?_
        refine c_loopE (fun E j a w => ∃ (n : Int) (i : Int), F.ref06.Heavy_l1 g_ most j n i = some o1 ∧ St E [(0, .agg #[.int .i64 g_.Nts, .int .i64 g_.Start, .slice sa1 sn1 sc1]), (1, .int .i64 most), (2, .pointer (some ⟨b, 0, none⟩)), (4, .bool false), (5, .int .i64 n), (6, .int .i64 i)] [.box b 24 [.int .i64 g_.Nts, .int .i64 g_.Start, .slice sa1 sn1 sc1]] [(.slice sa1 sn1 sc1, .slice 2 (g_.Rules.map eRule))] a w) k ?_ ?_
        · intro a w hs
          exact ⟨g_.Nts, 0, ho1, st_le [0] (le_cons rfl (le_cons rfl (le_cons rfl (le_cons rfl (le_cons rfl (le_cons rfl le_nil)))))) rfl (sub_cons 0 rfl sub_nil) a w hs⟩
        · rintro j a w ⟨n, i, hL1, hs⟩
          cases j with
          | zero => cases hL1
          | succ j =>
            refine wc_app hs ?_
            unfold F.ref06.Heavy_l1 at hL1
            refine c_seq ?_
            refine c_seq ?_
            refine c_region ?_
            refine o_v (v_move rfl) rfl ?_
            refine o_v (v_fieldAddr (v := .pointer (some ⟨b, 2, none⟩)) rfl (fun _ => by kernel_rfl)) rfl ?_
            refine o_v (v_load_box 0 ty22 rfl rfl rfl rfl rfl) rfl ?_
            refine o_v (v_lenS (enc := eRule) g_.Rules sl22 rfl (.f 0 rfl)) rfl ?_
            refine o_v (v_bin rfl rfl rfl) rfl ?_
            refine o_seq ?_
            refine c_cond rfl (fun h3 => ?_) (fun h3 => ?_)
            · replace hL1 := ite_t h3 hL1
              refine c_skip ?_
              refine sat_wc ?_
              refine c_seq ?_
              refine c_block ?_
              refine c_seq ?_
              refine c_region ?_
              refine o_v (v_move rfl) rfl ?_
              refine o_v (v_bin rfl rfl rfl) rfl ?_
              refine o_v (v_fieldAddr (v := .pointer (some ⟨b, 2, none⟩)) rfl (fun _ => by kernel_rfl)) rfl ?_
              refine o_v (v_load_box 0 ty22 rfl rfl rfl rfl rfl) rfl ?_
              refine o_v (v_move rfl) rfl ?_
              refine ite_some hL1 fun h4 hL1 => ?_
              refine o_v (v_indexAddr_s (xs := g_.Rules) (enc := eRule) sl22 rfl rfl (.f 0 rfl) h4) rfl ?_
              refine o_v (v_fieldAddr (v := .pointer (some ⟨blkA sa1, offA sa1 + (Int.toNat i * 2 + 1), none⟩)) rfl (fun _ => by kernel_rfl)) rfl ?_
              refine o_load_s (xs := g_.Rules) (enc := eRule) ty50 rfl (.f 0 rfl) h4 rfl rfl rfl rfl rfl rfl fun sa2 sn2 sc2 => ?_
              refine o_v (v_lenS (enc := eKSym) ((at_ g_.Rules i).Rhs) sl50 rfl (.f 0 rfl)) rfl ?_
              refine o_v (v_bin rfl rfl rfl) rfl ?_
              refine o_v (v_assign rfl) rfl ?_
              refine o_seq ?_
              refine c_seq ?_
              refine c_region ?_
              refine o_v (v_move rfl) rfl ?_
              refine o_v (v_move rfl) rfl ?_
              refine o_v (v_bin rfl rfl rfl) rfl ?_
              refine o_seq ?_
              refine c_cond rfl (fun h5 => ?_) (fun h5 => ?_)
              · replace hL1 := ite_t h5 hL1
                refine c_seq ?_
                refine c_region ?_
                refine o_v (v_assign rfl) rfl ?_
                refine o_seq ?_
                refine c_ret ?_
                cases hL1
                obtain rfl := lrf_ret hF
                refine s_ret1 rfl (r_tmp rfl) fun a w hs => ?_
                exact fin_sel hs [] ⟨rfl, rfl, rfl⟩ rfl sub_nil
              · replace hL1 := ite_f h5 hL1
                refine c_skip ?_
                refine sat_wc ?_
                refine c_region ?_
                refine o_v (v_move rfl) rfl ?_
                refine o_v (v_bin rfl rfl rfl) rfl ?_
                refine o_v (v_assign rfl) rfl ?_
                refine o_nil ?_
                intro a w hs
                exact ⟨j, Nat.lt_succ_self j, IntKind.wrap .i64 ((IntKind.wrap .i64 (n + 1)) + (((at_ g_.Rules i).Rhs).length : Int)), IntKind.wrap .i64 (i + 1), hL1, st_le [0] (le_cons rfl (le_cons rfl (le_cons rfl (le_cons rfl (le_cons rfl (le_cons rfl le_nil)))))) rfl (sub_cons 1 rfl sub_nil) a w hs⟩
            · replace hL1 := ite_f h3 hL1
              refine c_exit0 ?_
              cases hL1
              refine s_st ?_ (hN1 () rfl)
              exact st_le [0] (le_cons rfl (le_cons rfl (le_cons rfl (le_cons rfl le_nil)))) rfl (sub_cons 0 rfl sub_nil)
      · intro d1 hd
        subst hd
        replace hF := lrf_done hF
        refine sat_wc ?_
        refine c_seq ?_
        refine c_region ?_
        refine o_v (v_assign rfl) rfl ?_
        refine o_seq ?_
        refine c_ret ?_
        cases hF
        refine s_ret1 rfl (r_tmp rfl) fun a w hs => ?_
        exact fin_sel hs [] ⟨rfl, rfl, rfl⟩ rfl sub_nil
theorem tri38 (r : Tree) (hF : F.law09.some_ = some r) :
    Tri Tryd.prog 38 [] [] [] (fun o H Φ => ∃ (sa3 : Option Addr) (sn3 sc3 : Nat), o = .ret (.agg #[.int .i64 r.Rule, .int .u8 r.Byte, .slice sa3 sn3 sc3]) ∧ H = [] ∧ Φ = [(.slice sa3 sn3 sc3, .slice 3 (r.Kids.map eTree))]) := by
  unfold F.law09.some_ at hF
  refine tri_intro (n := 10) Tryd.func38 rfl Tryd.ntmps38 rfl fun w X => ?_
  refine c_seq ?_
  refine c_region ?_
  refine o_alloc zero27 rfl rfl fun b => ?_
  refine o_seq ?_
  refine c_seq ?_
  refine c_region ?_
  refine o_v (v_build (v := .agg #[.int .i64 (-1), .int .u8 49, .slice none 0 0]) rfl (fun _ => by kernel_rfl)) rfl ?_
  refine o_alloc zero27 rfl rfl fun b1 => ?_
  refine o_store_box 0 rfl ty27 rfl rfl rfl rfl rfl rfl rfl ?_
  refine o_seq ?_
  refine c_seq ?_
  refine c_region ?_
  refine o_v (v_load_box 0 ty27 rfl rfl rfl rfl rfl) rfl ?_
  refine o_v (v_build (v := .agg #[.int .i64 (-1), .int .u8 43, .slice none 0 0]) rfl (fun _ => by kernel_rfl)) rfl ?_
  refine o_v (v_build (v := .agg #[.int .i64 (-1), .int .u8 50, .slice none 0 0]) rfl (fun _ => by kernel_rfl)) rfl ?_
  refine o_st (st_nilfact 3) ?_
  refine o_buildSlice (enc := eTree) ([(Tree.mk (-1) 50 ([] : List Tree))] : List Tree) [.int .i64 (-1), .int .u8 50, .slice none 0 0] sl25 rfl (fun _ => by kernel_rfl) rfl rfl (by simp only [List.map, List.all, eTree_eq] <;> rfl) (cp_of (ds := [.int .i64 (-1), .int .u8 50, .slice 3 (([] : List Tree).map eTree)]) (by simp only [List.map, List.flatten, eTree_eq] <;> rfl) (.s rfl (.s rfl (.f 0 rfl (.nil))))) rfl fun sa1 sn1 sc1 => ?_
  refine o_v (v_build (v := .agg #[.int .i64 1, .int .u8 0, .slice sa1 sn1 sc1]) rfl (fun _ => by kernel_rfl)) rfl ?_
  refine o_st (st_nilfact 3) ?_
  refine o_st (st_nilfact 3) ?_
  refine o_st (st_freeze 0 rfl) ?_
  refine o_buildSlice (enc := eTree) ([(Tree.mk (-1) 49 ([] : List Tree)), (Tree.mk (-1) 43 ([] : List Tree)), (Tree.mk 1 0 ([(Tree.mk (-1) 50 ([] : List Tree))] : List Tree))] : List Tree) [.int .i64 (-1), .int .u8 49, .slice none 0 0, .int .i64 (-1), .int .u8 43, .slice none 0 0, .int .i64 1, .int .u8 0, .slice sa1 sn1 sc1] sl25 rfl (fun _ => by kernel_rfl) rfl rfl (by simp only [List.map, List.all, eTree_eq] <;> rfl) (cp_of (ds := [.int .i64 (-1), .int .u8 49, .slice 3 (([] : List Tree).map eTree), .int .i64 (-1), .int .u8 43, .slice 3 (([] : List Tree).map eTree), .int .i64 1, .int .u8 0, .slice 3 (([(Tree.mk (-1) 50 ([] : List Tree))] : List Tree).map eTree)]) (by simp only [List.map, List.flatten, eTree_eq] <;> rfl) (.s rfl (.s rfl (.f 2 rfl (.s rfl (.s rfl (.f 1 rfl (.s rfl (.s rfl (.f 0 rfl (.nil))))))))))) rfl fun sa2 sn2 sc2 => ?_
  refine o_v (v_build (v := .agg #[.int .i64 0, .int .u8 0, .slice sa2 sn2 sc2]) rfl (fun _ => by kernel_rfl)) rfl ?_
  refine o_store_box 2 rfl ty27 rfl rfl rfl rfl rfl rfl rfl ?_
  refine o_seq ?_
  refine c_ret ?_
  cases hF
  refine s_st (st_freeze 0 rfl) ?_
  refine s_ret1 rfl (r_cell 1 rfl ty27 rfl rfl rfl rfl) fun a w hs => ?_
  exact fin_sel hs [] ⟨sa2, sn2, sc2, rfl, rfl, rfl⟩ rfl (sub_cons 0 rfl sub_nil)
theorem tri44_B (k : Nat) (g60_61 : List Tree → Int → Option Bool)
    (hg60_61 : ∀ (s : List Tree) (cap : Int) (b : Nat) (sa1 : Option Addr) (sn1 sc1 : Nat) (r : Bool), g60_61 s cap = some r → Tri Tryd.prog 60 [.slice sa1 sn1 sc1, .func (.func 61) #[] #[.pointer (some ⟨b, 0, none⟩)]] [.box b 3 [.int .i64 cap]] [(.slice sa1 sn1 sc1, .slice 3 (s.map eTree))] (fun o H Φ => o = .ret (.bool r) ∧ H = [.box b 3 [.int .i64 cap]] ∧ Φ = [])) (t : Tree) (levels : Int) (sa1 : Option Addr) (sn1 sc1 : Nat) (r : Bool) (hF : F.trees.plain_B k g60_61 t levels = some r) :
    Tri Tryd.prog 44 [.agg #[.int .i64 t.Rule, .int .u8 t.Byte, .slice sa1 sn1 sc1], .int .i64 levels] [] [(.slice sa1 sn1 sc1, .slice 3 (t.Kids.map eTree))] (fun o H Φ => o = .ret (.bool r) ∧ H = [] ∧ Φ = []) := by
  unfold F.trees.plain_B at hF
  refine tri_intro (n := 43) Tryd.func44 rfl Tryd.ntmps44 rfl fun w X => ?_
  refine c_seq ?_
  refine c_region ?_
  refine o_box rfl rfl rfl fun b => ?_
  refine o_box rfl rfl rfl fun b1 => ?_
  refine o_v (v_assign rfl) rfl ?_
  refine o_seq ?_
  refine c_seq ?_
  refine c_seq ?_
  refine c_cut (fun E N' => ∀ (t37 : Bool), F.trees.plain_j1 g60_61 t levels t37 = some r → Sat E [(0, .agg #[.int .i64 t.Rule, .int .u8 t.Byte, .slice sa1 sn1 sc1]), (1, .int .i64 levels), (2, .pointer (some ⟨b, 0, none⟩)), (3, .pointer (some ⟨b1, 0, none⟩)), (4, .bool false), (37, .bool t37)] [.box b1 3 [.int .i64 levels], .box b 27 [.int .i64 t.Rule, .int .u8 t.Byte, .slice sa1 sn1 sc1]] [(.slice sa1 sn1 sc1, .slice 3 (t.Kids.map eTree))] N') (fun N1 hN1 => ?_) ?_
  · refine c_region ?_
    refine o_v (v_load_box 0 ty3 rfl rfl rfl rfl rfl) rfl ?_
    refine o_v (v_bin rfl rfl rfl) rfl ?_
    refine o_v (v_move rfl) rfl ?_
    refine o_split (t := 7) rfl (fun h3 => ?_) (fun h3 => ?_)
    · replace hF := ite_t h3 hF
      refine o_off rfl rfl (by decide) rfl ?_
      refine o_off rfl rfl (by decide) rfl ?_
      refine o_off rfl rfl (by decide) rfl ?_
      refine o_off rfl rfl (by decide) rfl ?_
      refine o_offU rfl rfl rfl ?_
      refine o_offU rfl rfl rfl ?_
      refine o_offU rfl rfl rfl ?_
      refine o_offU rfl rfl rfl ?_
      refine o_off rfl rfl (by decide) rfl ?_
      refine o_v (v_pick_t rfl rfl) rfl ?_
      refine o_v (v_move rfl) rfl ?_
      refine o_off rfl rfl (by decide) rfl ?_
      refine o_off rfl rfl (by decide) rfl ?_
      refine o_off rfl rfl (by decide) rfl ?_
      refine o_off rfl rfl (by decide) rfl ?_
      refine o_offU rfl rfl rfl ?_
      refine o_offU rfl rfl rfl ?_
      refine o_offU rfl rfl rfl ?_
      refine o_offU rfl rfl rfl ?_
      refine o_offU rfl rfl rfl ?_
      refine o_offU rfl rfl rfl ?_
      refine o_offU rfl rfl rfl ?_
      refine o_offU rfl rfl rfl ?_
      refine o_offU rfl rfl rfl ?_
      refine o_offU rfl rfl rfl ?_
      refine o_offU rfl rfl rfl ?_
      refine o_offU rfl rfl rfl ?_
      refine o_offU rfl rfl rfl ?_
      refine o_off rfl rfl (by decide) rfl ?_
      refine o_v (v_pick_t rfl rfl) rfl ?_
      refine o_nil ?_
      refine s_st ?_ (hN1 true hF)
      exact st_le [0, 0] (le_cons rfl (le_cons rfl (le_cons rfl (le_cons rfl (le_cons rfl (le_cons rfl le_nil)))))) rfl (sub_cons 0 rfl sub_nil)
    · replace hF := ite_f h3 hF
      refine o_on rfl rfl ?_
      refine o_v (v_fieldAddr (v := .pointer (some ⟨b, 0, none⟩)) rfl (fun _ => by kernel_rfl)) rfl ?_
      refine o_on rfl rfl ?_
      refine o_v (v_load_box 1 ty3 rfl rfl rfl rfl rfl) rfl ?_
      refine o_on rfl rfl ?_
      refine o_v (v_bin rfl rfl rfl) rfl ?_
      refine o_on rfl rfl ?_
      refine o_v (v_move rfl) rfl ?_
      refine o_split (t := 11) rfl (fun h4 => ?_) (fun h4 => ?_)
      · replace hF := ite_t h4 hF
        refine o_on rfl rfl ?_
        refine o_v (v_fieldAddr (v := .pointer (some ⟨b, 2, none⟩)) rfl (fun _ => by kernel_rfl)) rfl ?_
        refine o_on rfl rfl ?_
        refine o_v (v_load_box 1 ty25 rfl rfl rfl rfl rfl) rfl ?_
        refine o_on rfl rfl ?_
        refine o_v (v_lenS (enc := eTree) t.Kids sl25 rfl (.f 0 rfl)) rfl ?_
        refine o_on rfl rfl ?_
        refine o_v (v_bin rfl rfl rfl) rfl ?_
        refine o_on rfl rfl ?_
        refine o_v (v_pick_t rfl rfl) rfl ?_
        refine o_v (v_pick_f rfl rfl) rfl ?_
        refine o_v (v_move rfl) rfl ?_
        refine o_split (t := 18) rfl (fun h5 => ?_) (fun h5 => ?_)
        · replace hF := ite_t h5 hF
          refine o_off rfl rfl (by decide) rfl ?_
          refine o_off rfl rfl (by decide) rfl ?_
          refine o_off rfl rfl (by decide) rfl ?_
          refine o_off rfl rfl (by decide) rfl ?_
          refine o_offU rfl rfl rfl ?_
          refine o_offU rfl rfl rfl ?_
          refine o_offU rfl rfl rfl ?_
          refine o_offU rfl rfl rfl ?_
          refine o_offU rfl rfl rfl ?_
          refine o_offU rfl rfl rfl ?_
          refine o_offU rfl rfl rfl ?_
          refine o_offU rfl rfl rfl ?_
          refine o_offU rfl rfl rfl ?_
          refine o_offU rfl rfl rfl ?_
          refine o_offU rfl rfl rfl ?_
          refine o_offU rfl rfl rfl ?_
          refine o_offU rfl rfl rfl ?_
          refine o_off rfl rfl (by decide) rfl ?_
          refine o_v (v_pick_t rfl rfl) rfl ?_
          refine o_nil ?_
          refine s_st ?_ (hN1 true hF)
          exact st_le [0, 0] (le_cons rfl (le_cons rfl (le_cons rfl (le_cons rfl (le_cons rfl (le_cons rfl le_nil)))))) rfl (sub_cons 0 rfl sub_nil)
        · replace hF := ite_f h5 hF
          refine o_on rfl rfl ?_
          refine o_v (v_fieldAddr (v := .pointer (some ⟨b, 0, none⟩)) rfl (fun _ => by kernel_rfl)) rfl ?_
          refine o_on rfl rfl ?_
          refine o_v (v_load_box 1 ty3 rfl rfl rfl rfl rfl) rfl ?_
          refine o_on rfl rfl ?_
          refine o_v (v_bin rfl rfl rfl) rfl ?_
          refine o_on rfl rfl ?_
          refine o_v (v_move rfl) rfl ?_
          refine o_split (t := 22) rfl (fun h6 => ?_) (fun h6 => ?_)
          · replace hF := ite_t h6 hF
            refine o_on rfl rfl ?_
            refine o_v (v_fieldAddr (v := .pointer (some ⟨b, 1, none⟩)) rfl (fun _ => by kernel_rfl)) rfl ?_
            refine o_on rfl rfl ?_
            refine o_v (v_load_box 1 ty5 rfl rfl rfl rfl rfl) rfl ?_
            refine o_on rfl rfl ?_
            refine o_v (v_bin rfl rfl rfl) rfl ?_
            refine o_on rfl rfl ?_
            refine o_v (v_move rfl) rfl ?_
            refine o_split (t := 26) rfl (fun h7 => ?_) (fun h7 => ?_)
            · replace hF := ite_t h7 hF
              refine o_off rfl rfl (by decide) rfl ?_
              refine o_off rfl rfl (by decide) rfl ?_
              refine o_off rfl rfl (by decide) rfl ?_
              refine o_on rfl rfl ?_
              refine o_v (v_pick_t rfl rfl) rfl ?_
              refine o_on rfl rfl ?_
              refine o_v (v_move rfl) rfl ?_
              refine o_off rfl rfl (by decide) rfl ?_
              refine o_off rfl rfl (by decide) rfl ?_
              refine o_off rfl rfl (by decide) rfl ?_
              refine o_on rfl rfl ?_
              refine o_v (v_pick_t rfl rfl) rfl ?_
              refine o_on rfl rfl ?_
              refine o_v (v_pick_t rfl rfl) rfl ?_
              refine o_v (v_pick_f rfl rfl) rfl ?_
              refine o_nil ?_
              refine s_st ?_ (hN1 true hF)
              exact st_le [0, 0] (le_cons rfl (le_cons rfl (le_cons rfl (le_cons rfl (le_cons rfl (le_cons rfl le_nil)))))) rfl (sub_cons 0 rfl sub_nil)
            · replace hF := ite_f h7 hF
              refine o_on rfl rfl ?_
              refine o_v (v_fieldAddr (v := .pointer (some ⟨b, 0, none⟩)) rfl (fun _ => by kernel_rfl)) rfl ?_
              refine o_on rfl rfl ?_
              refine o_v (v_load_box 1 ty3 rfl rfl rfl rfl rfl) rfl ?_
              refine o_on rfl rfl ?_
              refine o_v (v_bin rfl rfl rfl) rfl ?_
              refine o_on rfl rfl ?_
              refine o_v (v_pick_f rfl rfl) rfl ?_
              refine o_on rfl rfl ?_
              refine o_v (v_move rfl) rfl ?_
              refine o_split (t := 31) rfl (fun h8 => ?_) (fun h8 => ?_)
              · replace hF := ite_t h8 hF
                refine o_off rfl rfl (by decide) rfl ?_
                refine o_off rfl rfl (by decide) rfl ?_
                refine o_off rfl rfl (by decide) rfl ?_
                refine o_on rfl rfl ?_
                refine o_v (v_pick_t rfl rfl) rfl ?_
                refine o_on rfl rfl ?_
                refine o_v (v_pick_t rfl rfl) rfl ?_
                refine o_v (v_pick_f rfl rfl) rfl ?_
                refine o_nil ?_
                refine s_st ?_ (hN1 true hF)
                exact st_le [0, 0] (le_cons rfl (le_cons rfl (le_cons rfl (le_cons rfl (le_cons rfl (le_cons rfl le_nil)))))) rfl (sub_cons 0 rfl sub_nil)
              · replace hF := ite_f h8 hF
                refine o_on rfl rfl ?_
                refine o_v (v_fieldAddr (v := .pointer (some ⟨b, 0, none⟩)) rfl (fun _ => by kernel_rfl)) rfl ?_
                refine o_on rfl rfl ?_
                refine o_v (v_load_box 1 ty3 rfl rfl rfl rfl rfl) rfl ?_
                refine o_on rfl rfl ?_
                refine o_v (v_bin rfl rfl rfl) rfl ?_
                refine o_on rfl rfl ?_
                refine o_v (v_pick_f rfl rfl) rfl ?_
                refine o_on rfl rfl ?_
                refine o_v (v_pick_t rfl rfl) rfl ?_
                refine o_v (v_pick_f rfl rfl) rfl ?_
                refine o_nil ?_
                refine s_st ?_ (hN1 (decide (999999 < t.Rule)) hF)
                exact st_le [0, 0] (le_cons rfl (le_cons rfl (le_cons rfl (le_cons rfl (le_cons rfl (le_cons rfl le_nil)))))) rfl (sub_cons 0 rfl sub_nil)
          · replace hF := ite_f h6 hF
            refine o_off rfl rfl (by decide) rfl ?_
            refine o_off rfl rfl (by decide) rfl ?_
            refine o_off rfl rfl (by decide) rfl ?_
            refine o_off rfl rfl (by decide) rfl ?_
            refine o_offU rfl rfl rfl ?_
            refine o_offU rfl rfl rfl ?_
            refine o_offU rfl rfl rfl ?_
            refine o_off rfl rfl (by decide) rfl ?_
            refine o_off rfl rfl (by decide) rfl ?_
            refine o_offU rfl rfl rfl ?_
            refine o_offU rfl rfl rfl ?_
            refine o_offU rfl rfl rfl ?_
            refine o_off rfl rfl (by decide) rfl ?_
            refine o_on rfl rfl ?_
            refine o_v (v_pick_f rfl rfl) rfl ?_
            refine o_v (v_pick_f rfl rfl) rfl ?_
            refine o_nil ?_
            refine s_st ?_ (hN1 false hF)
            exact st_le [0, 0] (le_cons rfl (le_cons rfl (le_cons rfl (le_cons rfl (le_cons rfl (le_cons rfl le_nil)))))) rfl (sub_cons 0 rfl sub_nil)
      · replace hF := ite_f h4 hF
        refine o_off rfl rfl (by decide) rfl ?_
        refine o_off rfl rfl (by decide) rfl ?_
        refine o_off rfl rfl (by decide) rfl ?_
        refine o_off rfl rfl (by decide) rfl ?_
        refine o_on rfl rfl ?_
        refine o_v (v_pick_f rfl rfl) rfl ?_
        refine o_v (v_pick_f rfl rfl) rfl ?_
        refine o_v (v_move rfl) rfl ?_
        refine o_on rfl rfl ?_
        refine o_v (v_fieldAddr (v := .pointer (some ⟨b, 0, none⟩)) rfl (fun _ => by kernel_rfl)) rfl ?_
        refine o_on rfl rfl ?_
        refine o_v (v_load_box 1 ty3 rfl rfl rfl rfl rfl) rfl ?_
        refine o_on rfl rfl ?_
        refine o_v (v_bin rfl rfl rfl) rfl ?_
        refine o_on rfl rfl ?_
        refine o_v (v_move rfl) rfl ?_
        refine o_split (t := 22) rfl (fun h9 => ?_) (fun h9 => ?_)
        · replace hF := ite_t h9 hF
          refine o_on rfl rfl ?_
          refine o_v (v_fieldAddr (v := .pointer (some ⟨b, 1, none⟩)) rfl (fun _ => by kernel_rfl)) rfl ?_
          refine o_on rfl rfl ?_
          refine o_v (v_load_box 1 ty5 rfl rfl rfl rfl rfl) rfl ?_
          refine o_on rfl rfl ?_
          refine o_v (v_bin rfl rfl rfl) rfl ?_
          refine o_on rfl rfl ?_
          refine o_v (v_move rfl) rfl ?_
          refine o_split (t := 26) rfl (fun h10 => ?_) (fun h10 => ?_)
          · replace hF := ite_t h10 hF
            refine o_off rfl rfl (by decide) rfl ?_
            refine o_off rfl rfl (by decide) rfl ?_
            refine o_off rfl rfl (by decide) rfl ?_
            refine o_on rfl rfl ?_
            refine o_v (v_pick_t rfl rfl) rfl ?_
            refine o_on rfl rfl ?_
            refine o_v (v_move rfl) rfl ?_
            refine o_off rfl rfl (by decide) rfl ?_
            refine o_off rfl rfl (by decide) rfl ?_
            refine o_off rfl rfl (by decide) rfl ?_
            refine o_on rfl rfl ?_
            refine o_v (v_pick_t rfl rfl) rfl ?_
            refine o_on rfl rfl ?_
            refine o_v (v_pick_t rfl rfl) rfl ?_
            refine o_v (v_pick_f rfl rfl) rfl ?_
            refine o_nil ?_
            refine s_st ?_ (hN1 true hF)
            exact st_le [0, 0] (le_cons rfl (le_cons rfl (le_cons rfl (le_cons rfl (le_cons rfl (le_cons rfl le_nil)))))) rfl (sub_cons 0 rfl sub_nil)
          · replace hF := ite_f h10 hF
            refine o_on rfl rfl ?_
            refine o_v (v_fieldAddr (v := .pointer (some ⟨b, 0, none⟩)) rfl (fun _ => by kernel_rfl)) rfl ?_
            refine o_on rfl rfl ?_
            refine o_v (v_load_box 1 ty3 rfl rfl rfl rfl rfl) rfl ?_
            refine o_on rfl rfl ?_
            refine o_v (v_bin rfl rfl rfl) rfl ?_
            refine o_on rfl rfl ?_
            refine o_v (v_pick_f rfl rfl) rfl ?_
            refine o_on rfl rfl ?_
            refine o_v (v_move rfl) rfl ?_
            refine o_split (t := 31) rfl (fun h11 => ?_) (fun h11 => ?_)
            · replace hF := ite_t h11 hF
              refine o_off rfl rfl (by decide) rfl ?_
              refine o_off rfl rfl (by decide) rfl ?_
              refine o_off rfl rfl (by decide) rfl ?_
              refine o_on rfl rfl ?_
              refine o_v (v_pick_t rfl rfl) rfl ?_
              refine o_on rfl rfl ?_
              refine o_v (v_pick_t rfl rfl) rfl ?_
              refine o_v (v_pick_f rfl rfl) rfl ?_
              refine o_nil ?_
              refine s_st ?_ (hN1 true hF)
              exact st_le [0, 0] (le_cons rfl (le_cons rfl (le_cons rfl (le_cons rfl (le_cons rfl (le_cons rfl le_nil)))))) rfl (sub_cons 0 rfl sub_nil)
            · replace hF := ite_f h11 hF
              refine o_on rfl rfl ?_
              refine o_v (v_fieldAddr (v := .pointer (some ⟨b, 0, none⟩)) rfl (fun _ => by kernel_rfl)) rfl ?_
              refine o_on rfl rfl ?_
              refine o_v (v_load_box 1 ty3 rfl rfl rfl rfl rfl) rfl ?_
              refine o_on rfl rfl ?_
              refine o_v (v_bin rfl rfl rfl) rfl ?_
              refine o_on rfl rfl ?_
              refine o_v (v_pick_f rfl rfl) rfl ?_
              refine o_on rfl rfl ?_
              refine o_v (v_pick_t rfl rfl) rfl ?_
              refine o_v (v_pick_f rfl rfl) rfl ?_
              refine o_nil ?_
              refine s_st ?_ (hN1 (decide (999999 < t.Rule)) hF)
              exact st_le [0, 0] (le_cons rfl (le_cons rfl (le_cons rfl (le_cons rfl (le_cons rfl (le_cons rfl le_nil)))))) rfl (sub_cons 0 rfl sub_nil)
        · replace hF := ite_f h9 hF
          refine o_off rfl rfl (by decide) rfl ?_
          refine o_off rfl rfl (by decide) rfl ?_
          refine o_off rfl rfl (by decide) rfl ?_
          refine o_off rfl rfl (by decide) rfl ?_
          refine o_offU rfl rfl rfl ?_
          refine o_offU rfl rfl rfl ?_
          refine o_offU rfl rfl rfl ?_
          refine o_off rfl rfl (by decide) rfl ?_
          refine o_off rfl rfl (by decide) rfl ?_
          refine o_offU rfl rfl rfl ?_
          refine o_offU rfl rfl rfl ?_
          refine o_offU rfl rfl rfl ?_
          refine o_off rfl rfl (by decide) rfl ?_
          refine o_on rfl rfl ?_
          refine o_v (v_pick_f rfl rfl) rfl ?_
          refine o_v (v_pick_f rfl rfl) rfl ?_
          refine o_nil ?_
          refine s_st ?_ (hN1 false hF)
          exact st_le [0, 0] (le_cons rfl (le_cons rfl (le_cons rfl (le_cons rfl (le_cons rfl (le_cons rfl le_nil)))))) rfl (sub_cons 0 rfl sub_nil)
  · intro t37 hF
    unfold F.trees.plain_j1 at hF
    refine sat_wc ?_
    refine c_cond rfl (fun h1 => ?_) (fun h1 => ?_)
    · replace hF := ite_t h1 hF
      refine c_seq ?_
      refine c_region ?_
      refine o_v (v_assign rfl) rfl ?_
      refine o_seq ?_
      refine c_ret ?_
      cases hF
      refine s_ret1 rfl (r_tmp rfl) fun a w hs => ?_
      exact fin_sel hs [] ⟨rfl, rfl, rfl⟩ rfl sub_nil
    · replace hF := ite_f h1 hF
      refine c_skip ?_
      refine sat_wc ?_
      refine c_seq ?_
      refine c_region ?_
      refine o_v (v_fieldAddr (v := .pointer (some ⟨b, 2, none⟩)) rfl (fun _ => by kernel_rfl)) rfl ?_
      refine o_v (v_load_box 1 ty25 rfl rfl rfl rfl rfl) rfl ?_
      refine o_v (v_makeFunc (vs := [.pointer (some ⟨b1, 0, none⟩)]) rfl) rfl ?_
      obtain ⟨v, h2, hF⟩ := bd hF
      refine o_call [0] call60 rfl rfl rfl (sub_cons 0 rfl sub_nil) (cap := #[]) (by rw [show (#[] : Array Value).toList = [] from rfl, List.append_nil]; exact (hg60_61 t.Kids levels b1 sa1 sn1 sc1 v h2)) rfl ?_
      rintro _ _ _ ⟨rfl, rfl, rfl⟩
      refine o_v (v_not rfl) rfl ?_
      refine o_v (v_assign rfl) rfl ?_
      refine o_seq ?_
      refine c_ret ?_
      cases hF
      refine s_ret1 rfl (r_tmp rfl) fun a w hs => ?_
      exact fin_sel hs [] ⟨rfl, rfl, rfl⟩ rfl sub_nil
theorem tri60_61_B (k : Nat) (g72_61 : List Tree → Int → Option Int)
    (hg72_61 : ∀ (s : List Tree) (cap : Int) (b : Nat) (sa1 : Option Addr) (sn1 sc1 : Nat) (r : Int), g72_61 s cap = some r → Tri Tryd.prog 72 [.slice sa1 sn1 sc1, .func (.func 61) #[] #[.pointer (some ⟨b, 0, none⟩)]] [.box b 3 [.int .i64 cap]] [(.slice sa1 sn1 sc1, .slice 3 (s.map eTree))] (fun o H Φ => o = .ret (.int .i64 r) ∧ H = [.box b 3 [.int .i64 cap]] ∧ Φ = [])) (s : List Tree) (cap : Int) (b : Nat) (sa1 : Option Addr) (sn1 sc1 : Nat) (r : Bool) (hF : F.slices.ContainsFunc_f60_61_B k g72_61 s cap = some r) :
    Tri Tryd.prog 60 [.slice sa1 sn1 sc1, .func (.func 61) #[] #[.pointer (some ⟨b, 0, none⟩)]] [.box b 3 [.int .i64 cap]] [(.slice sa1 sn1 sc1, .slice 3 (s.map eTree))] (fun o H Φ => o = .ret (.bool r) ∧ H = [.box b 3 [.int .i64 cap]] ∧ Φ = []) := by
  unfold F.slices.ContainsFunc_f60_61_B at hF
  refine tri_intro (n := 9) Tryd.func60 rfl Tryd.ntmps60 rfl fun w X => ?_
  refine c_seq ?_
  refine c_region ?_
  refine o_v (v_assign rfl) rfl ?_
  refine o_seq ?_
  refine c_seq ?_
  refine c_region ?_
  refine o_v (v_move rfl) rfl ?_
  refine o_v (v_move rfl) rfl ?_
  obtain ⟨v, h1, hF⟩ := bd hF
  refine o_call [0] call72 rfl rfl rfl (sub_cons 0 rfl sub_nil) (cap := #[]) (by rw [show (#[] : Array Value).toList = [] from rfl, List.append_nil]; exact (hg72_61 s cap b sa1 sn1 sc1 v h1)) rfl ?_
  rintro _ _ _ ⟨rfl, rfl, rfl⟩
  refine o_v (v_bin rfl rfl rfl) rfl ?_
  refine o_v (v_assign rfl) rfl ?_
  refine o_seq ?_
  refine c_ret ?_
  cases hF
  refine s_ret1 rfl (r_tmp rfl) fun a w hs => ?_
  exact fin_sel hs [0] ⟨rfl, rfl, rfl⟩ rfl sub_nil
theorem tri72_61_B (k : Nat) (g61 : Tree → Int → Option Bool)
    (hg61 : ∀ (k_ : Tree) (free : Int) (b : Nat) (sa1 : Option Addr) (sn1 sc1 : Nat) (r : Bool), g61 k_ free = some r → Tri Tryd.prog 61 [.agg #[.int .i64 k_.Rule, .int .u8 k_.Byte, .slice sa1 sn1 sc1], .pointer (some ⟨b, 0, none⟩)] [.box b 3 [.int .i64 free]] [(.slice sa1 sn1 sc1, .slice 3 (k_.Kids.map eTree))] (fun o H Φ => o = .ret (.bool r) ∧ H = [.box b 3 [.int .i64 free]] ∧ Φ = [])) (s : List Tree) (cap : Int) (b : Nat) (sa1 : Option Addr) (sn1 sc1 : Nat) (r : Int) (hF : F.slices.IndexFunc_f72_61_B k g61 s cap = some r) :
    Tri Tryd.prog 72 [.slice sa1 sn1 sc1, .func (.func 61) #[] #[.pointer (some ⟨b, 0, none⟩)]] [.box b 3 [.int .i64 cap]] [(.slice sa1 sn1 sc1, .slice 3 (s.map eTree))] (fun o H Φ => o = .ret (.int .i64 r) ∧ H = [.box b 3 [.int .i64 cap]] ∧ Φ = []) := by
  unfold F.slices.IndexFunc_f72_61_B at hF
  refine tri_intro (n := 19) Tryd.func72 rfl Tryd.ntmps72 rfl fun w X => ?_
  refine c_seq ?_
  refine c_region ?_
  refine o_v (v_assign rfl) rfl ?_
  refine o_seq ?_
  refine c_seq ?_
  refine c_seq ?_
  refine c_region ?_
  refine o_v (v_move rfl) rfl ?_
  refine o_v (v_lenS (enc := eTree) s sl25 rfl (.f 0 rfl)) rfl ?_
  refine o_v (v_move rfl) rfl ?_
  refine o_seq ?_
  obtain ⟨o1, ho1, hF⟩ := bd hF
  refine c_cut (fun E N' => ∀ (d1 : Unit), o1 = .done d1 → Sat E [(0, .slice sa1 sn1 sc1), (4, .int .i64 0)] [.box b 3 [.int .i64 cap]] [(.slice sa1 sn1 sc1, .slice 3 (s.map eTree))] N') (fun N1 hN1 => ?_) ?_
  · refine c_block ?_
    refine c_loopE (fun E j a w => ∃ (t8 : Int), F.slices.IndexFunc_f72_61_l1 s g61 cap j t8 = some o1 ∧ St E [(0, .slice sa1 sn1 sc1), (1, .func (.func 61) #[] #[.pointer (some ⟨b, 0, none⟩)]), (4, .int .i64 0), (7, .int .i64 (s.length : Int)), (8, .int .i64 t8)] [.box b 3 [.int .i64 cap]] [(.slice sa1 sn1 sc1, .slice 3 (s.map eTree))] a w) k ?_ ?_
    · intro a w hs
      exact ⟨0, ho1, st_le [0] (le_cons rfl (le_cons rfl (le_cons rfl (le_cons rfl (le_cons rfl le_nil))))) rfl (sub_cons 0 rfl sub_nil) a w hs⟩
    · rintro j a w ⟨t8, hL1, hs⟩
      cases j with
      | zero => cases hL1
      | succ j =>
        refine wc_app hs ?_
        unfold F.slices.IndexFunc_f72_61_l1 at hL1
        refine c_seq ?_
        refine c_region ?_
        refine o_v (v_bin rfl rfl rfl) rfl ?_
        refine o_seq ?_
        refine c_seq ?_
        refine c_cond rfl (fun h1 => ?_) (fun h1 => ?_)
        · replace hL1 := ite_t h1 hL1
          refine c_skip ?_
          refine sat_wc ?_
          refine c_seq ?_
          refine c_block ?_
          refine c_seq ?_
          refine c_region ?_
          refine o_v (v_move rfl) rfl ?_
          refine o_v (v_assign rfl) rfl ?_
          refine o_seq ?_
          refine c_seq ?_
          refine c_region ?_
          refine o_v (v_move rfl) rfl ?_
          refine o_v (v_move rfl) rfl ?_
          refine o_v (v_move rfl) rfl ?_
          refine ite_some hL1 fun h2 hL1 => ?_
          refine o_v (v_indexAddr_s (xs := s) (enc := eTree) sl25 rfl rfl (.f 0 rfl) h2) rfl ?_
          refine o_load_s (ds := [.int .i64 ((at_ s t8).Rule), .int .u8 ((at_ s t8).Byte), .slice 3 (((at_ s t8).Kids).map eTree)]) (xs := s) (enc := eTree) ty27 rfl (.f 0 rfl) h2 (by simp only [eTree_eq] <;> rfl) rfl rfl rfl rfl rfl fun sa2 sn2 sc2 => ?_
          obtain ⟨v, h3, hL1⟩ := bd hL1
          refine o_call [0] call61 (cap := #[.pointer (some ⟨b, 0, none⟩)]) rfl rfl rfl (sub_cons 0 rfl sub_nil) (by exact (hg61 (at_ s t8) cap b sa2 sn2 sc2 v h3)) rfl ?_
          rintro _ _ _ ⟨rfl, rfl, rfl⟩
          refine o_seq ?_
          refine c_cond rfl (fun h4 => ?_) (fun h4 => ?_)
          · replace hL1 := ite_t h4 hL1
            refine c_seq ?_
            refine c_region ?_
            refine o_v (v_move rfl) rfl ?_
            refine o_v (v_assign rfl) rfl ?_
            refine o_seq ?_
            refine c_ret ?_
            cases hL1
            obtain rfl := lrf_ret hF
            refine s_ret1 rfl (r_tmp rfl) fun a w hs => ?_
            exact fin_sel hs [0] ⟨rfl, rfl, rfl⟩ rfl sub_nil
          · replace hL1 := ite_f h4 hL1
            refine c_skip ?_
            refine sat_wc ?_
            refine c_region ?_
            refine o_v (v_bin rfl rfl rfl) rfl ?_
            refine o_v (v_move rfl) rfl ?_
            refine o_nil ?_
            intro a w hs
            exact ⟨j, Nat.lt_succ_self j, IntKind.wrap .i64 (t8 + 1), hL1, st_le [0] (le_cons rfl (le_cons rfl (le_cons rfl (le_cons rfl (le_cons rfl le_nil))))) rfl (sub_cons 1 rfl sub_nil) a w hs⟩
        · replace hL1 := ite_f h1 hL1
          refine c_exit0 ?_
          cases hL1
          refine s_st ?_ (hN1 () rfl)
          exact st_le [0] (le_cons rfl (le_cons rfl le_nil)) rfl (sub_cons 0 rfl sub_nil)
  · intro d1 hd
    subst hd
    replace hF := lrf_done hF
    refine sat_wc ?_
    refine c_seq ?_
    refine c_region ?_
    refine o_v (v_assign rfl) rfl ?_
    refine o_seq ?_
    refine c_ret ?_
    cases hF
    refine s_ret1 rfl (r_tmp rfl) fun a w hs => ?_
    exact fin_sel hs [0] ⟨rfl, rfl, rfl⟩ rfl sub_nil
theorem tri61_B (k : Nat) (g44 : Tree → Int → Option Bool)
    (hg44 : ∀ (t : Tree) (levels : Int) (sa1 : Option Addr) (sn1 sc1 : Nat) (r : Bool), g44 t levels = some r → Tri Tryd.prog 44 [.agg #[.int .i64 t.Rule, .int .u8 t.Byte, .slice sa1 sn1 sc1], .int .i64 levels] [] [(.slice sa1 sn1 sc1, .slice 3 (t.Kids.map eTree))] (fun o H Φ => o = .ret (.bool r) ∧ H = [] ∧ Φ = [])) (k_ : Tree) (free : Int) (b : Nat) (sa1 : Option Addr) (sn1 sc1 : Nat) (r : Bool) (hF : F.trees.plain_c1_B k g44 k_ free = some r) :
    Tri Tryd.prog 61 [.agg #[.int .i64 k_.Rule, .int .u8 k_.Byte, .slice sa1 sn1 sc1], .pointer (some ⟨b, 0, none⟩)] [.box b 3 [.int .i64 free]] [(.slice sa1 sn1 sc1, .slice 3 (k_.Kids.map eTree))] (fun o H Φ => o = .ret (.bool r) ∧ H = [.box b 3 [.int .i64 free]] ∧ Φ = []) := by
  unfold F.trees.plain_c1_B at hF
  refine tri_intro (n := 9) Tryd.func61 rfl Tryd.ntmps61 rfl fun w X => ?_
  refine c_seq ?_
  refine c_region ?_
  refine o_box rfl rfl rfl fun b1 => ?_
  refine o_v (v_assign rfl) rfl ?_
  refine o_seq ?_
  refine c_seq ?_
  refine c_region ?_
  refine o_v (v_load_box 0 ty27 rfl rfl rfl rfl rfl) rfl ?_
  refine o_v (v_load_box 1 ty3 rfl rfl rfl rfl rfl) rfl ?_
  refine o_v (v_bin rfl rfl rfl) rfl ?_
  obtain ⟨v, h1, hF⟩ := bd hF
  refine o_callSB call44 rfl (lent_f 0 rfl lent_nil) (hg44 k_ (IntKind.wrap .i64 (free - 1)) sa1 sn1 sc1 v h1) rfl ?_
  refine o_v (v_not rfl) rfl ?_
  refine o_v (v_assign rfl) rfl ?_
  refine o_seq ?_
  refine c_ret ?_
  cases hF
  refine s_ret1 rfl (r_tmp rfl) fun a w hs => ?_
  exact fin_sel hs [1] ⟨rfl, rfl, rfl⟩ rfl sub_nil
theorem tri44_G (k : Nat) : (∀ (t : Tree) (levels : Int) (sa1 : Option Addr) (sn1 sc1 : Nat) (r : Bool), F.trees.plain k t levels = some r → Tri Tryd.prog 44 [.agg #[.int .i64 t.Rule, .int .u8 t.Byte, .slice sa1 sn1 sc1], .int .i64 levels] [] [(.slice sa1 sn1 sc1, .slice 3 (t.Kids.map eTree))] (fun o H Φ => o = .ret (.bool r) ∧ H = [] ∧ Φ = [])) ∧ (∀ (s : List Tree) (cap : Int) (b : Nat) (sa1 : Option Addr) (sn1 sc1 : Nat) (r : Bool), F.slices.ContainsFunc_f60_61 k s cap = some r → Tri Tryd.prog 60 [.slice sa1 sn1 sc1, .func (.func 61) #[] #[.pointer (some ⟨b, 0, none⟩)]] [.box b 3 [.int .i64 cap]] [(.slice sa1 sn1 sc1, .slice 3 (s.map eTree))] (fun o H Φ => o = .ret (.bool r) ∧ H = [.box b 3 [.int .i64 cap]] ∧ Φ = [])) ∧ (∀ (s : List Tree) (cap : Int) (b : Nat) (sa1 : Option Addr) (sn1 sc1 : Nat) (r : Int), F.slices.IndexFunc_f72_61 k s cap = some r → Tri Tryd.prog 72 [.slice sa1 sn1 sc1, .func (.func 61) #[] #[.pointer (some ⟨b, 0, none⟩)]] [.box b 3 [.int .i64 cap]] [(.slice sa1 sn1 sc1, .slice 3 (s.map eTree))] (fun o H Φ => o = .ret (.int .i64 r) ∧ H = [.box b 3 [.int .i64 cap]] ∧ Φ = [])) ∧ (∀ (k_ : Tree) (free : Int) (b : Nat) (sa1 : Option Addr) (sn1 sc1 : Nat) (r : Bool), F.trees.plain_c1 k k_ free = some r → Tri Tryd.prog 61 [.agg #[.int .i64 k_.Rule, .int .u8 k_.Byte, .slice sa1 sn1 sc1], .pointer (some ⟨b, 0, none⟩)] [.box b 3 [.int .i64 free]] [(.slice sa1 sn1 sc1, .slice 3 (k_.Kids.map eTree))] (fun o H Φ => o = .ret (.bool r) ∧ H = [.box b 3 [.int .i64 free]] ∧ Φ = [])) := by
  induction k with
  | zero => exact ⟨(fun _ _ _ _ _ _ h => nomatch (show none = some _ from h)), (fun _ _ _ _ _ _ _ h => nomatch (show none = some _ from h)), (fun _ _ _ _ _ _ _ h => nomatch (show none = some _ from h)), (fun _ _ _ _ _ _ _ h => nomatch (show none = some _ from h))⟩
  | succ k ih => exact ⟨tri44_B k _ ih.2.1, tri60_61_B k _ ih.2.2.1, tri72_61_B k _ ih.2.2.2, tri61_B k _ ih.1⟩
theorem tri44 (k : Nat) (t : Tree) (levels : Int) (sa1 : Option Addr) (sn1 sc1 : Nat) (r : Bool) (hF : F.trees.plain k t levels = some r) :
    Tri Tryd.prog 44 [.agg #[.int .i64 t.Rule, .int .u8 t.Byte, .slice sa1 sn1 sc1], .int .i64 levels] [] [(.slice sa1 sn1 sc1, .slice 3 (t.Kids.map eTree))] (fun o H Φ => o = .ret (.bool r) ∧ H = [] ∧ Φ = []) := (tri44_G k).1 t levels sa1 sn1 sc1 r hF
theorem tri60_61 (k : Nat) (s : List Tree) (cap : Int) (b : Nat) (sa1 : Option Addr) (sn1 sc1 : Nat) (r : Bool) (hF : F.slices.ContainsFunc_f60_61 k s cap = some r) :
    Tri Tryd.prog 60 [.slice sa1 sn1 sc1, .func (.func 61) #[] #[.pointer (some ⟨b, 0, none⟩)]] [.box b 3 [.int .i64 cap]] [(.slice sa1 sn1 sc1, .slice 3 (s.map eTree))] (fun o H Φ => o = .ret (.bool r) ∧ H = [.box b 3 [.int .i64 cap]] ∧ Φ = []) := (tri44_G k).2.1 s cap b sa1 sn1 sc1 r hF
theorem tri72_61 (k : Nat) (s : List Tree) (cap : Int) (b : Nat) (sa1 : Option Addr) (sn1 sc1 : Nat) (r : Int) (hF : F.slices.IndexFunc_f72_61 k s cap = some r) :
    Tri Tryd.prog 72 [.slice sa1 sn1 sc1, .func (.func 61) #[] #[.pointer (some ⟨b, 0, none⟩)]] [.box b 3 [.int .i64 cap]] [(.slice sa1 sn1 sc1, .slice 3 (s.map eTree))] (fun o H Φ => o = .ret (.int .i64 r) ∧ H = [.box b 3 [.int .i64 cap]] ∧ Φ = []) := (tri44_G k).2.2.1 s cap b sa1 sn1 sc1 r hF
theorem tri61 (k : Nat) (k_ : Tree) (free : Int) (b : Nat) (sa1 : Option Addr) (sn1 sc1 : Nat) (r : Bool) (hF : F.trees.plain_c1 k k_ free = some r) :
    Tri Tryd.prog 61 [.agg #[.int .i64 k_.Rule, .int .u8 k_.Byte, .slice sa1 sn1 sc1], .pointer (some ⟨b, 0, none⟩)] [.box b 3 [.int .i64 free]] [(.slice sa1 sn1 sc1, .slice 3 (k_.Kids.map eTree))] (fun o H Φ => o = .ret (.bool r) ∧ H = [.box b 3 [.int .i64 free]] ∧ Φ = []) := (tri44_G k).2.2.2 k_ free b sa1 sn1 sc1 r hF
theorem tri62 (b : Strings_Builder) (c : Int) (b1 : Nat) (sa1 : Option Addr) (sn1 sc1 : Nat) (r : Strings_Builder) (hF : F.strings.Builder_WriteByte b c = some r) :
    Tri Tryd.prog 62 [.pointer (some ⟨b1, 0, none⟩), .int .u8 c] [.box b1 69 [bptr b1 b.addr, .slice sa1 sn1 sc1], .row (.slice sa1 sn1 sc1) 5 1 (b.buf.map eU8)] [] (fun o H Φ => ∃ (sa5 : Option Addr) (sn5 sc5 : Nat), o = .ret (.nilIface) ∧ H = [.box b1 69 [bptr b1 r.addr, .slice sa5 sn5 sc5], .row (.slice sa5 sn5 sc5) 5 1 (r.buf.map eU8)] ∧ Φ = []) := by
  unfold F.strings.Builder_WriteByte at hF
  refine tri_intro (n := 17) Tryd.func62 rfl Tryd.ntmps62 rfl fun w X => ?_
  refine c_seq ?_
  refine c_region ?_
  refine o_v (v_assign rfl) rfl ?_
  refine o_seq ?_
  refine c_seq ?_
  refine c_region ?_
  refine o_v (v_move rfl) rfl ?_
  obtain ⟨v, h1, hF⟩ := bd hF
  refine o_call [0, 0] call73 rfl rfl rfl sub_nil (cap := #[]) (by rw [show (#[] : Array Value).toList = [] from rfl, List.append_nil]; exact (tri73 b b1 sa1 sn1 sc1 v h1)) rfl ?_
  rintro _ _ _ ⟨sa2, sn2, sc2, rfl, rfl, rfl⟩
  refine o_seq ?_
  refine c_seq ?_
  refine c_region ?_
  refine o_v (v_move rfl) rfl ?_
  refine o_v (v_move rfl) rfl ?_
  refine o_v (v_nilCheck rfl) rfl ?_
  refine o_v (v_fieldAddr (v := .pointer (some ⟨b1, 1, none⟩)) rfl (fun _ => by kernel_rfl)) rfl ?_
  refine o_v (v_load_box 0 ty58 rfl rfl rfl rfl rfl) rfl ?_
  refine o_v (v_move rfl) rfl ?_
  refine o_buildSlice (enc := eU8) ([c] : List Int) [.int .u8 c] sl58 rfl (fun _ => by kernel_rfl) rfl rfl rfl (.s rfl (.nil)) rfl fun sa3 sn3 sc3 => ?_
  refine ite_some hF fun h2 hF => ?_
  refine ite_some hF fun h3 hF => ?_
  refine o_append (enc := eU8) (xs := v.buf) (ys := ([c] : List Int)) 2 sl58 rfl rfl rfl (.r 0 _ rfl) h2 h3 rfl fun sa4 sn4 sc4 => ?_
  refine o_v (v_nilCheck rfl) rfl ?_
  refine o_v (v_fieldAddr (v := .pointer (some ⟨b1, 1, none⟩)) rfl (fun _ => by kernel_rfl)) rfl ?_
  refine o_store_box 1 rfl ty58 rfl rfl rfl rfl rfl rfl rfl ?_
  refine o_seq ?_
  refine c_seq ?_
  refine c_region ?_
  refine o_v (v_assign rfl) rfl ?_
  refine o_seq ?_
  refine c_ret ?_
  cases hF
  refine s_ret1 rfl (r_tmp rfl) fun a w hs => ?_
  exact fin_sel hs [1, 1] ⟨sa4, sn4, sc4, rfl, rfl, rfl⟩ rfl sub_nil
theorem tri63 (b : Strings_Builder) (s : List UInt8) (b1 : Nat) (sa1 : Option Addr) (sn1 sc1 : Nat) (r : Int × Strings_Builder) (hF : F.strings.Builder_WriteString b s = some r) :
    Tri Tryd.prog 63 [.pointer (some ⟨b1, 0, none⟩), .string (bs s)] [.box b1 69 [bptr b1 b.addr, .slice sa1 sn1 sc1], .row (.slice sa1 sn1 sc1) 5 1 (b.buf.map eU8)] [] (fun o H Φ => ∃ (sa4 : Option Addr) (sn4 sc4 : Nat), o = .ret (.tuple #[.int .i64 r.1, .nilIface]) ∧ H = [.box b1 69 [bptr b1 r.2.addr, .slice sa4 sn4 sc4], .row (.slice sa4 sn4 sc4) 5 1 (r.2.buf.map eU8)] ∧ Φ = []) := by
  unfold F.strings.Builder_WriteString at hF
  refine tri_intro (n := 19) Tryd.func63 rfl Tryd.ntmps63 rfl fun w X => ?_
  refine c_seq ?_
  refine c_region ?_
  refine o_v (v_assign rfl) rfl ?_
  refine o_v (v_assign rfl) rfl ?_
  refine o_seq ?_
  refine c_seq ?_
  refine c_region ?_
  refine o_v (v_move rfl) rfl ?_
  obtain ⟨v, h1, hF⟩ := bd hF
  refine o_call [0, 0] call73 rfl rfl rfl sub_nil (cap := #[]) (by rw [show (#[] : Array Value).toList = [] from rfl, List.append_nil]; exact (tri73 b b1 sa1 sn1 sc1 v h1)) rfl ?_
  rintro _ _ _ ⟨sa2, sn2, sc2, rfl, rfl, rfl⟩
  refine o_seq ?_
  refine c_seq ?_
  refine c_region ?_
  refine o_v (v_move rfl) rfl ?_
  refine o_v (v_move rfl) rfl ?_
  refine o_v (v_nilCheck rfl) rfl ?_
  refine o_v (v_fieldAddr (v := .pointer (some ⟨b1, 1, none⟩)) rfl (fun _ => by kernel_rfl)) rfl ?_
  refine o_v (v_load_box 0 ty58 rfl rfl rfl rfl rfl) rfl ?_
  refine o_v (v_move rfl) rfl ?_
  refine ite_some hF fun h2 hF => ?_
  refine ite_some hF fun h3 hF => ?_
  refine o_append_str (xs := v.buf) (s := s) 1 (slT_parts sl58).1 Tryd.underlying9 byt5 rfl rfl rfl h2 h3 rfl fun sa3 sn3 sc3 => ?_
  refine o_v (v_nilCheck rfl) rfl ?_
  refine o_v (v_fieldAddr (v := .pointer (some ⟨b1, 1, none⟩)) rfl (fun _ => by kernel_rfl)) rfl ?_
  refine o_store_box 0 rfl ty58 rfl rfl rfl rfl rfl rfl rfl ?_
  refine o_seq ?_
  refine c_seq ?_
  refine c_region ?_
  refine o_v (v_move rfl) rfl ?_
  refine o_v (v_len_str Tryd.underlying9 rfl) rfl ?_
  refine o_v (v_assign rfl) rfl ?_
  refine o_v (v_assign rfl) rfl ?_
  refine o_seq ?_
  refine c_ret ?_
  cases hF
  refine s_ret2 rfl (r_tmp rfl) (r_tmp rfl) fun a w hs => ?_
  exact fin_sel hs [0, 0] ⟨sa3, sn3, sc3, rfl, rfl, rfl⟩ rfl sub_nil
theorem tri46 (b : Strings_Builder) (b1 : Nat) (sa1 : Option Addr) (sn1 sc1 : Nat) (r : Int) (hF : F.strings.Builder_Len b = some r) :
    Tri Tryd.prog 46 [.pointer (some ⟨b1, 0, none⟩)] [.box b1 69 [bptr b1 b.addr, .slice sa1 sn1 sc1], .row (.slice sa1 sn1 sc1) 5 1 (b.buf.map eU8)] [] (fun o H Φ => o = .ret (.int .i64 r) ∧ H = [.box b1 69 [bptr b1 b.addr, .slice sa1 sn1 sc1], .row (.slice sa1 sn1 sc1) 5 1 (b.buf.map eU8)] ∧ Φ = []) := by
  unfold F.strings.Builder_Len at hF
  refine tri_intro (n := 8) Tryd.func46 rfl Tryd.ntmps46 rfl fun w X => ?_
  refine c_seq ?_
  refine c_region ?_
  refine o_v (v_assign rfl) rfl ?_
  refine o_seq ?_
  refine c_seq ?_
  refine c_region ?_
  refine o_v (v_move rfl) rfl ?_
  refine o_v (v_nilCheck rfl) rfl ?_
  refine o_v (v_fieldAddr (v := .pointer (some ⟨b1, 1, none⟩)) rfl (fun _ => by kernel_rfl)) rfl ?_
  refine o_v (v_load_box 0 ty58 rfl rfl rfl rfl rfl) rfl ?_
  refine o_v (v_lenS (enc := eU8) b.buf sl58 rfl (.r 1 _ rfl)) rfl ?_
  refine o_v (v_assign rfl) rfl ?_
  refine o_seq ?_
  refine c_ret ?_
  cases hF
  refine s_ret1 rfl (r_tmp rfl) fun a w hs => ?_
  exact fin_sel hs [0, 0] ⟨rfl, rfl, rfl⟩ rfl sub_nil
theorem tri45_B (k : Nat) (g45 : Strings_Builder → Tree → Option Strings_Builder)
    (hg45 : ∀ (out : Strings_Builder) (t : Tree) (b : Nat) (sa1 : Option Addr) (sn1 sc1 : Nat) (sa2 : Option Addr) (sn2 sc2 : Nat) (r : Strings_Builder), g45 out t = some r → Tri Tryd.prog 45 [.pointer (some ⟨b, 0, none⟩), .agg #[.int .i64 t.Rule, .int .u8 t.Byte, .slice sa2 sn2 sc2]] [.box b 69 [bptr b out.addr, .slice sa1 sn1 sc1], .row (.slice sa1 sn1 sc1) 5 1 (out.buf.map eU8)] [gf10 0, (.slice sa2 sn2 sc2, .slice 3 (t.Kids.map eTree))] (fun o H Φ => ∃ (sa18 : Option Addr) (sn18 sc18 : Nat), o = .ret (.tuple #[]) ∧ H = [.box b 69 [bptr b r.addr, .slice sa18 sn18 sc18], .row (.slice sa18 sn18 sc18) 5 1 (r.buf.map eU8)] ∧ Φ = [])) (out : Strings_Builder) (t : Tree) (b : Nat) (sa1 : Option Addr) (sn1 sc1 : Nat) (sa2 : Option Addr) (sn2 sc2 : Nat) (r : Strings_Builder) (hF : F.trees.write_B k g45 out t = some r) :
    Tri Tryd.prog 45 [.pointer (some ⟨b, 0, none⟩), .agg #[.int .i64 t.Rule, .int .u8 t.Byte, .slice sa2 sn2 sc2]] [.box b 69 [bptr b out.addr, .slice sa1 sn1 sc1], .row (.slice sa1 sn1 sc1) 5 1 (out.buf.map eU8)] [gf10 0, (.slice sa2 sn2 sc2, .slice 3 (t.Kids.map eTree))] (fun o H Φ => ∃ (sa18 : Option Addr) (sn18 sc18 : Nat), o = .ret (.tuple #[]) ∧ H = [.box b 69 [bptr b r.addr, .slice sa18 sn18 sc18], .row (.slice sa18 sn18 sc18) 5 1 (r.buf.map eU8)] ∧ Φ = []) := by
  unfold F.trees.write_B at hF
  refine tri_intro (n := 51) Tryd.func45 rfl Tryd.ntmps45 rfl fun w X => ?_
  refine c_seq ?_
  refine c_region ?_
  refine o_box rfl rfl rfl fun b1 => ?_
  refine o_seq ?_
  refine c_seq ?_
  refine c_seq ?_
  refine c_region ?_
  refine o_v (v_fieldAddr (v := .pointer (some ⟨b1, 0, none⟩)) rfl (fun _ => by kernel_rfl)) rfl ?_
  refine o_v (v_load_box 0 ty3 rfl rfl rfl rfl rfl) rfl ?_
  refine o_v (v_bin rfl rfl rfl) rfl ?_
  refine o_seq ?_
  refine c_cond rfl (fun h1 => ?_) (fun h1 => ?_)
  · replace hF := ite_t h1 hF
    refine c_seq ?_
    refine c_region ?_
    refine o_v (v_move rfl) rfl ?_
    obtain ⟨v, h2, hF⟩ := bd hF
    refine o_call [1, 1] call62 rfl rfl rfl sub_nil (cap := #[]) (by rw [show (#[] : Array Value).toList = [] from rfl, List.append_nil]; exact (tri62 out 120 b sa1 sn1 sc1 v h2)) rfl ?_
    rintro _ _ _ ⟨sa3, sn3, sc3, rfl, rfl, rfl⟩
    refine o_seq ?_
    refine c_seq ?_
    refine c_region ?_
    refine o_v (v_move rfl) rfl ?_
    refine o_v (v_fieldAddr (v := .pointer (some ⟨b1, 1, none⟩)) rfl (fun _ => by kernel_rfl)) rfl ?_
    refine o_v (v_load_box 2 ty5 rfl rfl rfl rfl rfl) rfl ?_
    refine o_v (v_quo rfl rfl rfl) rfl ?_
    refine ite_some hF fun h3 hF => ?_
    refine o_v (v_sindex Tryd.underlying9 rfl rfl h3) rfl ?_
    obtain ⟨v1, h4, hF⟩ := bd hF
    refine o_call [0, 0] call62 rfl rfl rfl sub_nil (cap := #[]) (by rw [show (#[] : Array Value).toList = [] from rfl, List.append_nil]; exact (tri62 v (sAt ([48, 49, 50, 51, 52, 53, 54, 55, 56, 57, 97, 98, 99, 100, 101, 102] : List UInt8) (gquo .u8 t.Byte 16)) b sa3 sn3 sc3 v1 h4)) rfl ?_
    rintro _ _ _ ⟨sa4, sn4, sc4, rfl, rfl, rfl⟩
    refine o_seq ?_
    refine c_seq ?_
    refine c_region ?_
    refine o_v (v_move rfl) rfl ?_
    refine o_v (v_fieldAddr (v := .pointer (some ⟨b1, 1, none⟩)) rfl (fun _ => by kernel_rfl)) rfl ?_
    refine o_v (v_load_box 2 ty5 rfl rfl rfl rfl rfl) rfl ?_
    refine o_v (v_rem rfl rfl rfl) rfl ?_
    refine ite_some hF fun h5 hF => ?_
    refine o_v (v_sindex Tryd.underlying9 rfl rfl h5) rfl ?_
    obtain ⟨v2, h6, hF⟩ := bd hF
    refine o_call [0, 0] call62 rfl rfl rfl sub_nil (cap := #[]) (by rw [show (#[] : Array Value).toList = [] from rfl, List.append_nil]; exact (tri62 v1 (sAt ([48, 49, 50, 51, 52, 53, 54, 55, 56, 57, 97, 98, 99, 100, 101, 102] : List UInt8) (grem t.Byte 16)) b sa4 sn4 sc4 v2 h6)) rfl ?_
    rintro _ _ _ ⟨sa5, sn5, sc5, rfl, rfl, rfl⟩
    refine o_seq ?_
    refine c_ret ?_
    cases hF
    refine s_ret0 rfl fun a w hs => ?_
    exact fin_sel hs [0, 0] ⟨sa5, sn5, sc5, rfl, rfl, rfl⟩ rfl sub_nil
  · replace hF := ite_f h1 hF
    refine c_skip ?_
    refine sat_wc ?_
    refine c_seq ?_
    refine c_region ?_
    refine o_v (v_move rfl) rfl ?_
    refine o_v (v_fieldAddr (v := .pointer (some ⟨b1, 0, none⟩)) rfl (fun _ => by kernel_rfl)) rfl ?_
    refine o_v (v_load_box 0 ty3 rfl rfl rfl rfl rfl) rfl ?_
    obtain ⟨v3, h7, hF⟩ := bd hF
    refine o_callSB call64 rfl (lent_f 0 rfl lent_nil) (tri64 t.Rule v3 h7) rfl ?_
    obtain ⟨v4, h8, hF⟩ := bd hF
    refine o_call [1, 1] call63 rfl rfl rfl sub_nil (cap := #[]) (by rw [show (#[] : Array Value).toList = [] from rfl, List.append_nil]; exact (tri63 out v3 b sa1 sn1 sc1 v4 h8)) rfl ?_
    rintro _ _ _ ⟨sa6, sn6, sc6, rfl, rfl, rfl⟩
    refine o_seq ?_
    refine c_seq ?_
    refine c_region ?_
    refine o_v (v_move rfl) rfl ?_
    obtain ⟨v5, h9, hF⟩ := bd hF
    refine o_call [0, 0] call62 rfl rfl rfl sub_nil (cap := #[]) (by rw [show (#[] : Array Value).toList = [] from rfl, List.append_nil]; exact (tri62 v4.2 40 b sa6 sn6 sc6 v5 h9)) rfl ?_
    rintro _ _ _ ⟨sa7, sn7, sc7, rfl, rfl, rfl⟩
    refine o_seq ?_
    refine c_seq ?_
    refine c_seq ?_
    refine c_region ?_
    refine o_v (v_fieldAddr (v := .pointer (some ⟨b1, 2, none⟩)) rfl (fun _ => by kernel_rfl)) rfl ?_
    refine o_v (v_load_box 2 ty25 rfl rfl rfl rfl rfl) rfl ?_
    refine o_v (v_lenS (enc := eTree) t.Kids sl25 rfl (.f 1 rfl)) rfl ?_
    refine o_v (v_move rfl) rfl ?_
    refine o_seq ?_
    obtain ⟨o1, ho1, hF⟩ := bd hF
    refine c_cut (fun E N' => ∀ (sa9 : Option Addr) (sn9 sc9 : Nat), Sat E [(0, .pointer (some ⟨b, 0, none⟩)), (1, .agg #[.int .i64 t.Rule, .int .u8 t.Byte, .slice sa2 sn2 sc2]), (3, .pointer (some ⟨b1, 0, none⟩)), (31, .slice sa2 sn2 sc2)] [.box b 69 [bptr b o1.1, .slice sa9 sn9 sc9], .box b1 27 [.int .i64 t.Rule, .int .u8 t.Byte, .slice sa2 sn2 sc2], .row (.slice sa9 sn9 sc9) 5 1 (o1.2.map eU8)] [gf10 0, (.slice sa2 sn2 sc2, .slice 3 (t.Kids.map eTree))] N') (fun N1 hN1 => ?_) ?_
    · refine c_block ?_
      refine c_loopE (fun E j a w => ∃ (t33 : Int) (addr_ : Bool) (buf_ : List Int) (sa8 : Option Addr) (sn8 sc8 : Nat), F.trees.write_l1 t g45 j t33 addr_ buf_ = some o1 ∧ St E [(0, .pointer (some ⟨b, 0, none⟩)), (1, .agg #[.int .i64 t.Rule, .int .u8 t.Byte, .slice sa2 sn2 sc2]), (3, .pointer (some ⟨b1, 0, none⟩)), (31, .slice sa2 sn2 sc2), (32, .int .i64 (t.Kids.length : Int)), (33, .int .i64 t33)] [.box b 69 [bptr b addr_, .slice sa8 sn8 sc8], .box b1 27 [.int .i64 t.Rule, .int .u8 t.Byte, .slice sa2 sn2 sc2], .row (.slice sa8 sn8 sc8) 5 1 (buf_.map eU8)] [gf10 0, (.slice sa2 sn2 sc2, .slice 3 (t.Kids.map eTree))] a w) k ?_ ?_
      · intro a w hs
        exact ⟨0, v5.addr, v5.buf, sa7, sn7, sc7, ho1, st_le [0, 1, 0] (le_cons rfl (le_cons rfl (le_cons rfl (le_cons rfl (le_cons rfl (le_cons rfl le_nil)))))) rfl (sub_cons 0 rfl (sub_cons 1 rfl sub_nil)) a w hs⟩
      · rintro j a w ⟨t33, addr_, buf_, sa8, sn8, sc8, hL1, hs⟩
        cases j with
        | zero => cases hL1
        | succ j =>
          refine wc_app hs ?_
          unfold F.trees.write_l1 at hL1
          refine c_seq ?_
          refine c_region ?_
          refine o_v (v_bin rfl rfl rfl) rfl ?_
          refine o_seq ?_
          refine c_seq ?_
          refine c_cond rfl (fun h10 => ?_) (fun h10 => ?_)
          · replace hL1 := ite_t h10 hL1
            refine c_skip ?_
            refine sat_wc ?_
            refine c_seq ?_
            refine c_cut (fun E N' => ∀ (addr_1 : Bool) (buf_1 : List Int) (sa10 : Option Addr) (sn10 sc10 : Nat) (sa11 : Option Addr) (sn11 sc11 : Nat) (b2 : Nat), F.trees.write_j2 (F.trees.write_l1 t g45 j) t33 addr_1 buf_1 = some o1 → Sat E [(0, .pointer (some ⟨b, 0, none⟩)), (1, .agg #[.int .i64 t.Rule, .int .u8 t.Byte, .slice sa2 sn2 sc2]), (3, .pointer (some ⟨b1, 0, none⟩)), (4, .int .i64 t33), (5, .pointer (some ⟨b2, 0, none⟩)), (31, .slice sa2 sn2 sc2), (32, .int .i64 (t.Kids.length : Int)), (33, .int .i64 t33)] [.box b 69 [bptr b addr_1, .slice sa11 sn11 sc11], .box b1 27 [.int .i64 t.Rule, .int .u8 t.Byte, .slice sa2 sn2 sc2], .box b2 27 [.int .i64 ((at_ t.Kids t33).Rule), .int .u8 ((at_ t.Kids t33).Byte), .slice sa10 sn10 sc10], .row (.slice sa11 sn11 sc11) 5 1 (buf_1.map eU8)] [gf10 0, (.slice sa2 sn2 sc2, .slice 3 (t.Kids.map eTree)), (.slice sa10 sn10 sc10, .slice 3 (((at_ t.Kids t33).Kids).map eTree))] N') (fun N2 hN2 => ?_) ?_
            · refine c_block ?_
              refine c_seq ?_
              refine c_region ?_
              refine o_v (v_move rfl) rfl ?_
              refine ite_some hL1 fun h11 hL1 => ?_
              refine o_v (v_indexAddr_s (xs := t.Kids) (enc := eTree) sl25 rfl rfl (.f 1 rfl) h11) rfl ?_
              refine o_load_s (ds := [.int .i64 ((at_ t.Kids t33).Rule), .int .u8 ((at_ t.Kids t33).Byte), .slice 3 (((at_ t.Kids t33).Kids).map eTree)]) (xs := t.Kids) (enc := eTree) ty27 rfl (.f 1 rfl) h11 (by simp only [eTree_eq] <;> rfl) rfl rfl rfl rfl rfl fun sa12 sn12 sc12 => ?_
              refine o_alloc zero27 rfl rfl fun b3 => ?_
              refine o_v (v_assign rfl) rfl ?_
              refine o_store_box 0 rfl ty27 rfl rfl rfl rfl rfl rfl rfl ?_
              refine o_seq ?_
              refine c_seq ?_
              refine c_seq ?_
              refine c_region ?_
              refine o_v (v_move rfl) rfl ?_
              refine o_v (v_bin rfl rfl rfl) rfl ?_
              refine o_seq ?_
              refine c_cut (fun E N' => ∀ (addr_2 : Bool) (buf_2 : List Int) (sa13 : Option Addr) (sn13 sc13 : Nat), F.trees.write_j3 g45 t t33 (F.trees.write_l1 t g45 j) addr_2 buf_2 = some o1 → Sat E [(0, .pointer (some ⟨b, 0, none⟩)), (1, .agg #[.int .i64 t.Rule, .int .u8 t.Byte, .slice sa2 sn2 sc2]), (3, .pointer (some ⟨b1, 0, none⟩)), (4, .int .i64 t33), (5, .pointer (some ⟨b3, 0, none⟩)), (31, .slice sa2 sn2 sc2), (32, .int .i64 (t.Kids.length : Int)), (33, .int .i64 t33)] [.box b 69 [bptr b addr_2, .slice sa13 sn13 sc13], .box b3 27 [.int .i64 ((at_ t.Kids t33).Rule), .int .u8 ((at_ t.Kids t33).Byte), .slice sa12 sn12 sc12], .box b1 27 [.int .i64 t.Rule, .int .u8 t.Byte, .slice sa2 sn2 sc2], .row (.slice sa13 sn13 sc13) 5 1 (buf_2.map eU8)] [gf10 0, (.slice sa2 sn2 sc2, .slice 3 (t.Kids.map eTree)), (.slice sa12 sn12 sc12, .slice 3 (((at_ t.Kids t33).Kids).map eTree))] N') (fun N4 hN4 => ?_) ?_
              · refine c_cond rfl (fun h15 => ?_) (fun h15 => ?_)
                · replace hL1 := ite_t h15 hL1
                  refine c_region ?_
                  refine o_v (v_move rfl) rfl ?_
                  obtain ⟨v8, h16, hL1⟩ := bd hL1
                  refine o_call [1, 2] call62 rfl rfl rfl sub_nil (cap := #[]) (by rw [show (#[] : Array Value).toList = [] from rfl, List.append_nil]; exact (tri62 (Strings_Builder.mk addr_ buf_) 32 b sa8 sn8 sc8 v8 h16)) rfl ?_
                  rintro _ _ _ ⟨sa16, sn16, sc16, rfl, rfl, rfl⟩
                  refine o_nil ?_
                  refine s_st ?_ (hN4 v8.addr v8.buf sa16 sn16 sc16 hL1)
                  exact st_le [0, 1, 1, 0] (le_cons rfl (le_cons rfl (le_cons rfl (le_cons rfl (le_cons rfl (le_cons rfl (le_cons rfl (le_cons rfl le_nil)))))))) rfl (sub_cons 1 rfl (sub_cons 2 rfl (sub_cons 0 rfl sub_nil)))
                · replace hL1 := ite_f h15 hL1
                  refine c_skip ?_
                  refine s_st ?_ (hN4 addr_ buf_ sa8 sn8 sc8 hL1)
                  exact st_le [1, 0, 0, 0] (le_cons rfl (le_cons rfl (le_cons rfl (le_cons rfl (le_cons rfl (le_cons rfl (le_cons rfl (le_cons rfl le_nil)))))))) rfl (sub_cons 1 rfl (sub_cons 2 rfl (sub_cons 0 rfl sub_nil)))
              · intro addr_2 buf_2 sa13 sn13 sc13 hL1
                unfold F.trees.write_j3 at hL1
                refine sat_wc ?_
                refine c_seq ?_
                refine c_region ?_
                refine o_v (v_move rfl) rfl ?_
                obtain ⟨v6, h12, hL1⟩ := bd hL1
                refine o_call [0, 2] call46 rfl rfl rfl sub_nil (cap := #[]) (by rw [show (#[] : Array Value).toList = [] from rfl, List.append_nil]; exact (tri46 (Strings_Builder.mk addr_2 buf_2) b sa13 sn13 sc13 v6 h12)) rfl ?_
                rintro _ _ _ ⟨rfl, rfl, rfl⟩
                refine o_v (v_bin rfl rfl rfl) rfl ?_
                refine o_seq ?_
                refine c_cut (fun E N' => ∀ (addr_3 : Bool) (buf_3 : List Int) (sa14 : Option Addr) (sn14 sc14 : Nat), F.trees.write_j4 (F.trees.write_l1 t g45 j) t33 addr_3 buf_3 = some o1 → Sat E [(0, .pointer (some ⟨b, 0, none⟩)), (1, .agg #[.int .i64 t.Rule, .int .u8 t.Byte, .slice sa2 sn2 sc2]), (3, .pointer (some ⟨b1, 0, none⟩)), (4, .int .i64 t33), (5, .pointer (some ⟨b3, 0, none⟩)), (31, .slice sa2 sn2 sc2), (32, .int .i64 (t.Kids.length : Int)), (33, .int .i64 t33)] [.box b 69 [bptr b addr_3, .slice sa14 sn14 sc14], .box b3 27 [.int .i64 ((at_ t.Kids t33).Rule), .int .u8 ((at_ t.Kids t33).Byte), .slice sa12 sn12 sc12], .box b1 27 [.int .i64 t.Rule, .int .u8 t.Byte, .slice sa2 sn2 sc2], .row (.slice sa14 sn14 sc14) 5 1 (buf_3.map eU8)] [gf10 0, (.slice sa2 sn2 sc2, .slice 3 (t.Kids.map eTree)), (.slice sa12 sn12 sc12, .slice 3 (((at_ t.Kids t33).Kids).map eTree))] N') (fun N4 hN4 => ?_) ?_
                · refine c_cond rfl (fun h13 => ?_) (fun h13 => ?_)
                  · replace hL1 := ite_t h13 hL1
                    refine c_region ?_
                    refine o_v (v_move rfl) rfl ?_
                    refine o_v (v_load_box 2 ty27 rfl rfl rfl rfl rfl) rfl ?_
                    obtain ⟨v7, h14, hL1⟩ := bd hL1
                    refine o_call [0, 0] call45 rfl rfl rfl (sub_cons 0 rfl (sub_cons 2 rfl sub_nil)) (cap := #[]) (by rw [show (#[] : Array Value).toList = [] from rfl, List.append_nil]; exact (hg45 (Strings_Builder.mk addr_2 buf_2) (at_ t.Kids t33) b sa13 sn13 sc13 sa12 sn12 sc12 v7 h14)) rfl ?_
                    rintro _ _ _ ⟨sa15, sn15, sc15, rfl, rfl, rfl⟩
                    refine o_nil ?_
                    refine s_st ?_ (hN4 v7.addr v7.buf sa15 sn15 sc15 hL1)
                    exact st_le [0, 1, 1, 0] (le_cons rfl (le_cons rfl (le_cons rfl (le_cons rfl (le_cons rfl (le_cons rfl (le_cons rfl (le_cons rfl le_nil)))))))) rfl (sub_cons 0 rfl (sub_cons 1 rfl (sub_cons 2 rfl sub_nil)))
                  · replace hL1 := ite_f h13 hL1
                    refine c_skip ?_
                    refine s_st ?_ (hN4 addr_2 buf_2 sa13 sn13 sc13 hL1)
                    exact st_le [0, 1, 1, 0] (le_cons rfl (le_cons rfl (le_cons rfl (le_cons rfl (le_cons rfl (le_cons rfl (le_cons rfl (le_cons rfl le_nil)))))))) rfl (sub_cons 0 rfl (sub_cons 1 rfl (sub_cons 2 rfl sub_nil)))
                · intro addr_3 buf_3 sa14 sn14 sc14 hL1
                  unfold F.trees.write_j4 at hL1
                  refine s_st ?_ (hN2 addr_3 buf_3 sa12 sn12 sc12 sa14 sn14 sc14 b3 hL1)
                  exact st_le [0, 1, 0, 0] (le_cons rfl (le_cons rfl (le_cons rfl (le_cons rfl (le_cons rfl (le_cons rfl (le_cons rfl (le_cons rfl le_nil)))))))) rfl (sub_cons 0 rfl (sub_cons 1 rfl (sub_cons 2 rfl sub_nil)))
            · intro addr_1 buf_1 sa10 sn10 sc10 sa11 sn11 sc11 b2 hL1
              unfold F.trees.write_j2 at hL1
              refine sat_wc ?_
              refine c_region ?_
              refine o_v (v_bin rfl rfl rfl) rfl ?_
              refine o_v (v_move rfl) rfl ?_
              refine o_nil ?_
              intro a w hs
              exact ⟨j, Nat.lt_succ_self j, IntKind.wrap .i64 (t33 + 1), addr_1, buf_1, sa11, sn11, sc11, hL1, st_le [0, 0, 1] (le_cons rfl (le_cons rfl (le_cons rfl (le_cons rfl (le_cons rfl (le_cons rfl le_nil)))))) rfl (sub_cons 0 rfl (sub_cons 1 rfl sub_nil)) a w hs⟩
          · replace hL1 := ite_f h10 hL1
            refine c_exit0 ?_
            cases hL1
            refine s_st ?_ (hN1 sa8 sn8 sc8)
            exact st_le [0, 0, 0] (le_cons rfl (le_cons rfl (le_cons rfl (le_cons rfl le_nil)))) rfl (sub_cons 0 rfl (sub_cons 1 rfl sub_nil))
    · intro sa9 sn9 sc9
      refine sat_wc ?_
      refine c_region ?_
      refine o_v (v_move rfl) rfl ?_
      obtain ⟨v9, h17, hF⟩ := bd hF
      refine o_call [0, 1] call62 rfl rfl rfl sub_nil (cap := #[]) (by rw [show (#[] : Array Value).toList = [] from rfl, List.append_nil]; exact (tri62 (Strings_Builder.mk o1.1 o1.2) 41 b sa9 sn9 sc9 v9 h17)) rfl ?_
      rintro _ _ _ ⟨sa17, sn17, sc17, rfl, rfl, rfl⟩
      refine o_nil ?_
      cases hF
      refine s_ret0 rfl fun a w hs => ?_
      exact fin_sel hs [0, 0] ⟨sa17, sn17, sc17, rfl, rfl, rfl⟩ rfl sub_nil
theorem tri45 (k : Nat) : (∀ (out : Strings_Builder) (t : Tree) (b : Nat) (sa1 : Option Addr) (sn1 sc1 : Nat) (sa2 : Option Addr) (sn2 sc2 : Nat) (r : Strings_Builder), F.trees.write k out t = some r → Tri Tryd.prog 45 [.pointer (some ⟨b, 0, none⟩), .agg #[.int .i64 t.Rule, .int .u8 t.Byte, .slice sa2 sn2 sc2]] [.box b 69 [bptr b out.addr, .slice sa1 sn1 sc1], .row (.slice sa1 sn1 sc1) 5 1 (out.buf.map eU8)] [gf10 0, (.slice sa2 sn2 sc2, .slice 3 (t.Kids.map eTree))] (fun o H Φ => ∃ (sa18 : Option Addr) (sn18 sc18 : Nat), o = .ret (.tuple #[]) ∧ H = [.box b 69 [bptr b r.addr, .slice sa18 sn18 sc18], .row (.slice sa18 sn18 sc18) 5 1 (r.buf.map eU8)] ∧ Φ = [])) := by
  induction k with
  | zero => exact fun _ _ _ _ _ _ _ _ _ _ h => nomatch (show none = some _ from h)
  | succ k ih => exact tri45_B k _ ih
theorem tri20 (k : Nat) (t : Tree) (sa1 : Option Addr) (sn1 sc1 : Nat) (r : List UInt8 × Int) (hF : F.trees.Print k t = some r) :
    Tri Tryd.prog 20 [.agg #[.int .i64 t.Rule, .int .u8 t.Byte, .slice sa1 sn1 sc1]] [] [gf10 0, (.slice sa1 sn1 sc1, .slice 3 (t.Kids.map eTree))] (fun o H Φ => o = .ret (.tuple #[.string (bs r.1), .int .i64 r.2]) ∧ H = [] ∧ Φ = []) := by
  unfold F.trees.Print at hF
  refine tri_intro (n := 13) Tryd.func20 rfl Tryd.ntmps20 rfl fun w X => ?_
  refine c_seq ?_
  refine c_region ?_
  refine o_box rfl rfl rfl fun b => ?_
  refine o_v (v_assign rfl) rfl ?_
  refine o_v (v_assign rfl) rfl ?_
  refine o_seq ?_
  refine c_seq ?_
  refine c_seq ?_
  refine c_region ?_
  refine o_v (v_load_box 0 ty27 rfl rfl rfl rfl rfl) rfl ?_
  obtain ⟨v, h1, hF⟩ := bd hF
  refine o_callSB call44 rfl (lent_f 1 rfl lent_nil) (tri44 k t 200 sa1 sn1 sc1 v h1) rfl ?_
  refine o_v (v_not rfl) rfl ?_
  refine o_seq ?_
  refine c_cond rfl (fun h2 => ?_) (fun h2 => ?_)
  · replace hF := ite_t h2 hF
    refine c_seq ?_
    refine c_region ?_
    refine o_v (v_assign rfl) rfl ?_
    refine o_v (v_assign rfl) rfl ?_
    refine o_seq ?_
    refine c_ret ?_
    cases hF
    refine s_ret2 rfl (r_tmp rfl) (r_tmp rfl) fun a w hs => ?_
    exact fin_sel hs [] ⟨rfl, rfl, rfl⟩ rfl sub_nil
  · replace hF := ite_f h2 hF
    refine c_skip ?_
    refine sat_wc ?_
    refine c_seq ?_
    refine c_region ?_
    refine o_alloc zero69 rfl rfl fun b1 => ?_
    refine o_seq ?_
    refine c_seq ?_
    refine c_region ?_
    refine o_v (v_load_box 1 ty27 rfl rfl rfl rfl rfl) rfl ?_
    obtain ⟨v1, h3, hF⟩ := bd hF
    refine o_st (st_nilrow 5 1) ?_
    refine o_call [1, 0] call45 rfl rfl rfl (sub_cons 0 rfl (sub_cons 1 rfl sub_nil)) (cap := #[]) (by rw [show (#[] : Array Value).toList = [] from rfl, List.append_nil]; exact (tri45 k (Strings_Builder.mk false ([] : List Int)) t b1 none 0 0 sa1 sn1 sc1 v1 h3)) rfl ?_
    rintro _ _ _ ⟨sa2, sn2, sc2, rfl, rfl, rfl⟩
    refine o_seq ?_
    refine c_seq ?_
    refine c_seq ?_
    refine c_region ?_
    obtain ⟨v2, h4, hF⟩ := bd hF
    refine o_call [0, 0] call46 rfl rfl rfl sub_nil (cap := #[]) (by rw [show (#[] : Array Value).toList = [] from rfl, List.append_nil]; exact (tri46 v1 b1 sa2 sn2 sc2 v2 h4)) rfl ?_
    rintro _ _ _ ⟨rfl, rfl, rfl⟩
    refine o_v (v_bin rfl rfl rfl) rfl ?_
    refine o_seq ?_
    refine c_cond rfl (fun h5 => ?_) (fun h5 => ?_)
    · replace hF := ite_t h5 hF
      refine c_seq ?_
      refine c_region ?_
      refine o_v (v_assign rfl) rfl ?_
      refine o_v (v_assign rfl) rfl ?_
      refine o_seq ?_
      refine c_ret ?_
      cases hF
      refine s_ret2 rfl (r_tmp rfl) (r_tmp rfl) fun a w hs => ?_
      exact fin_sel hs [] ⟨rfl, rfl, rfl⟩ rfl sub_nil
    · replace hF := ite_f h5 hF
      refine c_skip ?_
      refine sat_wc ?_
      refine c_seq ?_
      refine c_region ?_
      obtain ⟨v3, h6, hF⟩ := bd hF
      refine o_call [0, 0] call47 rfl rfl rfl sub_nil (cap := #[]) (by rw [show (#[] : Array Value).toList = [] from rfl, List.append_nil]; exact (tri47 v1 b1 sa2 sn2 sc2 v3 h6)) rfl ?_
      rintro _ _ _ ⟨rfl, rfl, rfl⟩
      refine o_v (v_assign rfl) rfl ?_
      refine o_v (v_assign rfl) rfl ?_
      refine o_seq ?_
      refine c_ret ?_
      cases hF
      refine s_ret2 rfl (r_tmp rfl) (r_tmp rfl) fun a w hs => ?_
      exact fin_sel hs [] ⟨rfl, rfl, rfl⟩ rfl sub_nil
theorem tri52 (r_ : Trees_reader) (e_ : Int) (b : Nat) (r : Pn Unit Fault) (hF : F.trees.reader_fail r_ e_ = some r) :
    Tri Tryd.prog 52 [.pointer (some ⟨b, 0, none⟩), .int .i64 e_] [.box b 76 [.string (bs r_.text), .int .i64 r_.at_]] [] (fun o H Φ => match (generalizing := false) r with | .ok r => (o = .ret (.tuple #[]) ∧ H = [.box b 76 [.string (bs r_.text), .int .i64 r_.at_]] ∧ Φ = []) | .pan y => o = .pan (.iface 39 (.agg #[.int .i64 y.At, .int .i64 y.Code])) ∧ H = [] ∧ Φ = []) := by
  unfold F.trees.reader_fail at hF
  refine tri_intro (n := 11) Tryd.func52 rfl Tryd.ntmps52 rfl fun w X => ?_
  refine c_region ?_
  refine o_v (v_move rfl) rfl ?_
  refine o_v (v_nilCheck rfl) rfl ?_
  refine o_v (v_fieldAddr (v := .pointer (some ⟨b, 1, none⟩)) rfl (fun _ => by kernel_rfl)) rfl ?_
  refine o_v (v_load_box 0 ty3 rfl rfl rfl rfl rfl) rfl ?_
  refine o_v (v_move rfl) rfl ?_
  refine o_v (v_build (v := .agg #[.int .i64 r_.at_, .int .i64 e_]) rfl (fun _ => by kernel_rfl)) rfl ?_
  refine o_v (v_makeIface (v := .iface 39 (.agg #[.int .i64 r_.at_, .int .i64 e_])) rfl (fun _ => by kernel_rfl)) rfl ?_
  refine o_panic rfl ?_
  cases hF
  refine s_pan fun a w hs => ?_
  exact fin_sel hs [] ⟨rfl, rfl, rfl⟩ rfl sub_nil
theorem tri66 (r_ : Trees_reader) (b : Nat) (r : Pn Int Fault) (hF : F.trees.reader_peek r_ = some r) :
    Tri Tryd.prog 66 [.pointer (some ⟨b, 0, none⟩)] [.box b 76 [.string (bs r_.text), .int .i64 r_.at_]] [] (fun o H Φ => match (generalizing := false) r with | .ok r => (o = .ret (.int .u8 r) ∧ H = [.box b 76 [.string (bs r_.text), .int .i64 r_.at_]] ∧ Φ = []) | .pan y => o = .pan (.iface 39 (.agg #[.int .i64 y.At, .int .i64 y.Code])) ∧ H = [] ∧ Φ = []) := by
  unfold F.trees.reader_peek at hF
  refine tri_intro (n := 24) Tryd.func66 rfl Tryd.ntmps66 rfl fun w X => ?_
  refine c_seq ?_
  refine c_region ?_
  refine o_v (v_assign rfl) rfl ?_
  refine o_seq ?_
  refine c_seq ?_
  refine c_seq ?_
  refine c_draw (n := 10) [0] mixed rfl rfl ?_
  refine d_val 0 rfl pnok (by kernel_rfl) (by kernel_rfl) (by kernel_rfl) rfl (v_move rfl) ?_
  refine d_val 1 rfl pnok (by kernel_rfl) (by kernel_rfl) (by kernel_rfl) rfl (v_nilCheck rfl) ?_
  refine d_val 2 rfl pnok (by kernel_rfl) (by kernel_rfl) (by kernel_rfl) rfl (v_fieldAddr (v := .pointer (some ⟨b, 1, none⟩)) rfl (fun _ => by kernel_rfl)) ?_
  refine d_val 3 rfl pnok (by kernel_rfl) (by kernel_rfl) (by kernel_rfl) rfl (v_load_box 0 ty3 rfl rfl rfl rfl rfl) ?_
  refine d_val 4 rfl pnok (by kernel_rfl) (by kernel_rfl) (by kernel_rfl) rfl (v_move rfl) ?_
  refine d_val 5 rfl pnok (by kernel_rfl) (by kernel_rfl) (by kernel_rfl) rfl (v_nilCheck rfl) ?_
  refine d_val 6 rfl pnok (by kernel_rfl) (by kernel_rfl) (by kernel_rfl) rfl (v_fieldAddr (v := .pointer (some ⟨b, 0, none⟩)) rfl (fun _ => by kernel_rfl)) ?_
  refine d_val 7 rfl pnok (by kernel_rfl) (by kernel_rfl) (by kernel_rfl) rfl (v_load_box 0 ty9 rfl rfl rfl rfl rfl) ?_
  refine d_val 8 rfl pnok (by kernel_rfl) (by kernel_rfl) (by kernel_rfl) rfl (v_len_str Tryd.underlying9 rfl) ?_
  refine d_val 9 rfl pnok (by kernel_rfl) (by kernel_rfl) (by kernel_rfl) rfl (v_bin rfl rfl rfl) ?_
  refine d_done_seq (by kernel_rfl) ?_
  refine c_cut (fun E N' => F.trees.reader_peek_j1 r_ = some r → Sat E [(0, .pointer (some ⟨b, 0, none⟩)), (2, .int .u8 0)] [.box b 76 [.string (bs r_.text), .int .i64 r_.at_]] [] N') (fun N1 hN1 => ?_) ?_
  · refine c_cond rfl (fun h2 => ?_) (fun h2 => ?_)
    · replace hF := ite_t h2 hF
      refine c_region ?_
      refine o_v (v_move rfl) rfl ?_
      obtain ⟨v, h3, hF⟩ := bd hF
      rcases v with x_ | y_
      · replace hF := pn_ok hF
        refine o_call [0] call52 rfl rfl rfl sub_nil (cap := #[]) (by rw [show (#[] : Array Value).toList = [] from rfl, List.append_nil]; exact (tri52 r_ 14 b (.ok x_) h3)) rfl ?_
        rintro _ _ _ ⟨rfl, rfl, rfl⟩
        refine o_nil ?_
        refine s_st ?_ (hN1 hF)
        exact st_le [0] (le_cons rfl (le_cons rfl le_nil)) rfl sub_nil
      · replace hF := pn_pan hF
        refine o_call [0] call52 rfl rfl rfl sub_nil (cap := #[]) (by rw [show (#[] : Array Value).toList = [] from rfl, List.append_nil]; exact (tri52 r_ 14 b (.pan y_) h3)) rfl ?_
        rintro _ _ _ ⟨rfl, rfl, rfl⟩
        cases hF
        refine s_pan fun a w hs => ?_
        exact fin_sel hs [] ⟨rfl, rfl, rfl⟩ rfl sub_nil
    · replace hF := ite_f h2 hF
      refine c_skip ?_
      refine s_st ?_ (hN1 hF)
      exact st_le [0] (le_cons rfl (le_cons rfl le_nil)) rfl sub_nil
  · intro hF
    unfold F.trees.reader_peek_j1 at hF
    refine sat_wc ?_
    refine c_seq ?_
    refine c_draw (n := 10) [0] mixed rfl rfl ?_
    refine d_val 0 rfl pnok (by kernel_rfl) (by kernel_rfl) (by kernel_rfl) rfl (v_move rfl) ?_
    refine d_val 1 rfl pnok (by kernel_rfl) (by kernel_rfl) (by kernel_rfl) rfl (v_nilCheck rfl) ?_
    refine d_val 2 rfl pnok (by kernel_rfl) (by kernel_rfl) (by kernel_rfl) rfl (v_fieldAddr (v := .pointer (some ⟨b, 0, none⟩)) rfl (fun _ => by kernel_rfl)) ?_
    refine d_val 3 rfl pnok (by kernel_rfl) (by kernel_rfl) (by kernel_rfl) rfl (v_load_box 0 ty9 rfl rfl rfl rfl rfl) ?_
    refine d_val 4 rfl pnok (by kernel_rfl) (by kernel_rfl) (by kernel_rfl) rfl (v_move rfl) ?_
    refine d_val 5 rfl pnok (by kernel_rfl) (by kernel_rfl) (by kernel_rfl) rfl (v_nilCheck rfl) ?_
    refine d_val 6 rfl pnok (by kernel_rfl) (by kernel_rfl) (by kernel_rfl) rfl (v_fieldAddr (v := .pointer (some ⟨b, 1, none⟩)) rfl (fun _ => by kernel_rfl)) ?_
    refine d_val 7 rfl pnok (by kernel_rfl) (by kernel_rfl) (by kernel_rfl) rfl (v_load_box 0 ty3 rfl rfl rfl rfl rfl) ?_
    refine ite_some hF fun h1 hF => ?_
    refine d_val 8 rfl pnok (by kernel_rfl) (by kernel_rfl) (by kernel_rfl) rfl (v_sindex Tryd.underlying9 rfl rfl h1) ?_
    refine d_val 9 rfl pnok (by kernel_rfl) (by kernel_rfl) (by kernel_rfl) rfl (v_assign rfl) ?_
    refine d_done_seq (by kernel_rfl) ?_
    refine c_ret ?_
    cases hF
    refine s_ret1 rfl (r_tmp rfl) fun a w hs => ?_
    exact fin_sel hs [0] ⟨rfl, rfl, rfl⟩ rfl sub_nil
theorem tri67 (r_ : Trees_reader) (b : Nat) (r : Pn (Int × Trees_reader) Fault) (hF : F.trees.reader_digit r_ = some r) :
    Tri Tryd.prog 67 [.pointer (some ⟨b, 0, none⟩)] [.box b 76 [.string (bs r_.text), .int .i64 r_.at_]] [] (fun o H Φ => match (generalizing := false) r with | .ok r => (o = .ret (.int .i64 r.1) ∧ H = [.box b 76 [.string (bs r.2.text), .int .i64 r.2.at_]] ∧ Φ = []) | .pan y => o = .pan (.iface 39 (.agg #[.int .i64 y.At, .int .i64 y.Code])) ∧ H = [] ∧ Φ = []) := by
  unfold F.trees.reader_digit at hF
  refine tri_intro (n := 19) Tryd.func67 rfl Tryd.ntmps67 rfl fun w X => ?_
  refine c_seq ?_
  refine c_region ?_
  refine o_v (v_assign rfl) rfl ?_
  refine o_seq ?_
  refine c_seq ?_
  refine c_region ?_
  refine o_v (v_move rfl) rfl ?_
  obtain ⟨v, h1, hF⟩ := bd hF
  rcases v with x_ | y_
  · replace hF := pn_ok hF
    refine o_call [0] call66 rfl rfl rfl sub_nil (cap := #[]) (by rw [show (#[] : Array Value).toList = [] from rfl, List.append_nil]; exact (tri66 r_ b (.ok x_) h1)) rfl ?_
    rintro _ _ _ ⟨rfl, rfl, rfl⟩
    obtain ⟨v1, h2, hF⟩ := bd hF
    refine o_callSB call75 rfl lent_nil (tri75 ([48, 49, 50, 51, 52, 53, 54, 55, 56, 57, 97, 98, 99, 100, 101, 102] : List UInt8) x_ v1 h2) rfl ?_
    refine o_v (v_assign rfl) rfl ?_
    refine o_seq ?_
    refine c_seq ?_
    refine c_seq ?_
    refine c_region ?_
    refine o_v (v_move rfl) rfl ?_
    refine o_v (v_bin rfl rfl rfl) rfl ?_
    refine o_seq ?_
    refine c_cut (fun E N' => F.trees.reader_digit_j1 v1 r_ = some r → Sat E [(0, .pointer (some ⟨b, 0, none⟩)), (2, .int .i64 0), (3, .int .i64 v1)] [.box b 76 [.string (bs r_.text), .int .i64 r_.at_]] [] N') (fun N1 hN1 => ?_) ?_
    · refine c_cond rfl (fun h3 => ?_) (fun h3 => ?_)
      · replace hF := ite_t h3 hF
        refine c_region ?_
        refine o_v (v_move rfl) rfl ?_
        obtain ⟨v2, h4, hF⟩ := bd hF
        rcases v2 with x_1 | y_1
        · replace hF := pn_ok hF
          refine o_call [0] call52 rfl rfl rfl sub_nil (cap := #[]) (by rw [show (#[] : Array Value).toList = [] from rfl, List.append_nil]; exact (tri52 r_ 11 b (.ok x_1) h4)) rfl ?_
          rintro _ _ _ ⟨rfl, rfl, rfl⟩
          refine o_nil ?_
          refine s_st ?_ (hN1 hF)
          exact st_le [0] (le_cons rfl (le_cons rfl (le_cons rfl le_nil))) rfl sub_nil
        · replace hF := pn_pan hF
          refine o_call [0] call52 rfl rfl rfl sub_nil (cap := #[]) (by rw [show (#[] : Array Value).toList = [] from rfl, List.append_nil]; exact (tri52 r_ 11 b (.pan y_1) h4)) rfl ?_
          rintro _ _ _ ⟨rfl, rfl, rfl⟩
          cases hF
          refine s_pan fun a w hs => ?_
          exact fin_sel hs [] ⟨rfl, rfl, rfl⟩ rfl sub_nil
      · replace hF := ite_f h3 hF
        refine c_skip ?_
        refine s_st ?_ (hN1 hF)
        exact st_le [0] (le_cons rfl (le_cons rfl (le_cons rfl le_nil))) rfl sub_nil
    · intro hF
      unfold F.trees.reader_digit_j1 at hF
      refine sat_wc ?_
      refine c_seq ?_
      refine c_region ?_
      refine o_v (v_move rfl) rfl ?_
      refine o_v (v_nilCheck rfl) rfl ?_
      refine o_v (v_fieldAddr (v := .pointer (some ⟨b, 1, none⟩)) rfl (fun _ => by kernel_rfl)) rfl ?_
      refine o_v (v_load_box 0 ty3 rfl rfl rfl rfl rfl) rfl ?_
      refine o_v (v_bin rfl rfl rfl) rfl ?_
      refine o_v (v_nilCheck rfl) rfl ?_
      refine o_v (v_fieldAddr (v := .pointer (some ⟨b, 1, none⟩)) rfl (fun _ => by kernel_rfl)) rfl ?_
      refine o_store_box 0 rfl ty3 rfl rfl rfl rfl rfl rfl rfl ?_
      refine o_seq ?_
      refine c_seq ?_
      refine c_region ?_
      refine o_v (v_move rfl) rfl ?_
      refine o_v (v_assign rfl) rfl ?_
      refine o_seq ?_
      refine c_ret ?_
      cases hF
      refine s_ret1 rfl (r_tmp rfl) fun a w hs => ?_
      exact fin_sel hs [0] ⟨rfl, rfl, rfl⟩ rfl sub_nil
  · replace hF := pn_pan hF
    refine o_call [0] call66 rfl rfl rfl sub_nil (cap := #[]) (by rw [show (#[] : Array Value).toList = [] from rfl, List.append_nil]; exact (tri66 r_ b (.pan y_) h1)) rfl ?_
    rintro _ _ _ ⟨rfl, rfl, rfl⟩
    cases hF
    refine s_pan fun a w hs => ?_
    exact fin_sel hs [] ⟨rfl, rfl, rfl⟩ rfl sub_nil
theorem tri68 (k : Nat) (r_ : Trees_reader) (b : Nat) (r : Pn (Int × Trees_reader) Fault) (hF : F.trees.reader_number k r_ = some r) :
    Tri Tryd.prog 68 [.pointer (some ⟨b, 0, none⟩)] [.box b 76 [.string (bs r_.text), .int .i64 r_.at_]] [] (fun o H Φ => match (generalizing := false) r with | .ok r => (o = .ret (.int .i64 r.1) ∧ H = [.box b 76 [.string (bs r.2.text), .int .i64 r.2.at_]] ∧ Φ = []) | .pan y => o = .pan (.iface 39 (.agg #[.int .i64 y.At, .int .i64 y.Code])) ∧ H = [] ∧ Φ = []) := by
  unfold F.trees.reader_number at hF
  refine tri_intro (n := 63) Tryd.func68 rfl Tryd.ntmps68 rfl fun w X => ?_
  refine c_seq ?_
  refine c_region ?_
  refine o_v (v_assign rfl) rfl ?_
  refine o_seq ?_
  refine c_seq ?_
  refine c_region ?_
  refine o_v (v_move rfl) rfl ?_
  obtain ⟨v, h1, hF⟩ := bd hF
  rcases v with x_ | y_
  · replace hF := pn_ok hF
    refine o_call [0] call66 rfl rfl rfl sub_nil (cap := #[]) (by rw [show (#[] : Array Value).toList = [] from rfl, List.append_nil]; exact (tri66 r_ b (.ok x_) h1)) rfl ?_
    rintro _ _ _ ⟨rfl, rfl, rfl⟩
    refine o_v (v_assign rfl) rfl ?_
    refine o_seq ?_
    refine c_seq ?_
    refine c_seq ?_
    refine c_cut (fun E N' => ∀ (t13 : Bool), F.trees.reader_number_j1 k r_ x_ t13 = some r → Sat E [(0, .pointer (some ⟨b, 0, none⟩)), (2, .int .i64 0), (3, .int .u8 x_), (13, .bool t13)] [.box b 76 [.string (bs r_.text), .int .i64 r_.at_]] [] N') (fun N6 hN6 => ?_) ?_
    · refine c_region ?_
      refine o_v (v_move rfl) rfl ?_
      refine o_v (v_bin rfl rfl rfl) rfl ?_
      refine o_v (v_move rfl) rfl ?_
      refine o_split (t := 10) rfl (fun h11 => ?_) (fun h11 => ?_)
      · replace hF := ite_t h11 hF
        refine o_off rfl rfl (by decide) rfl ?_
        refine o_off rfl rfl (by decide) rfl ?_
        refine o_v (v_pick_t rfl rfl) rfl ?_
        refine o_nil ?_
        refine s_st ?_ (hN6 true hF)
        exact st_le [0] (le_cons rfl (le_cons rfl (le_cons rfl (le_cons rfl le_nil)))) rfl sub_nil
      · replace hF := ite_f h11 hF
        refine o_on rfl rfl ?_
        refine o_v (v_move rfl) rfl ?_
        refine o_on rfl rfl ?_
        refine o_v (v_bin rfl rfl rfl) rfl ?_
        refine o_v (v_pick_f rfl rfl) rfl ?_
        refine o_nil ?_
        refine s_st ?_ (hN6 (decide (57 < x_)) hF)
        exact st_le [0] (le_cons rfl (le_cons rfl (le_cons rfl (le_cons rfl le_nil)))) rfl sub_nil
    · intro t13 hF
      unfold F.trees.reader_number_j1 at hF
      refine sat_wc ?_
      refine c_cut (fun E N' => F.trees.reader_number_j2 k r_ x_ = some r → Sat E [(0, .pointer (some ⟨b, 0, none⟩)), (2, .int .i64 0), (3, .int .u8 x_)] [.box b 76 [.string (bs r_.text), .int .i64 r_.at_]] [] N') (fun N6 hN6 => ?_) ?_
      · refine c_cond rfl (fun h9 => ?_) (fun h9 => ?_)
        · replace hF := ite_t h9 hF
          refine c_region ?_
          refine o_v (v_move rfl) rfl ?_
          obtain ⟨v3, h10, hF⟩ := bd hF
          rcases v3 with x_3 | y_3
          · replace hF := pn_ok hF
            refine o_call [0] call52 rfl rfl rfl sub_nil (cap := #[]) (by rw [show (#[] : Array Value).toList = [] from rfl, List.append_nil]; exact (tri52 r_ 11 b (.ok x_3) h10)) rfl ?_
            rintro _ _ _ ⟨rfl, rfl, rfl⟩
            refine o_nil ?_
            refine s_st ?_ (hN6 hF)
            exact st_le [0] (le_cons rfl (le_cons rfl (le_cons rfl le_nil))) rfl sub_nil
          · replace hF := pn_pan hF
            refine o_call [0] call52 rfl rfl rfl sub_nil (cap := #[]) (by rw [show (#[] : Array Value).toList = [] from rfl, List.append_nil]; exact (tri52 r_ 11 b (.pan y_3) h10)) rfl ?_
            rintro _ _ _ ⟨rfl, rfl, rfl⟩
            cases hF
            refine s_pan fun a w hs => ?_
            exact fin_sel hs [] ⟨rfl, rfl, rfl⟩ rfl sub_nil
        · replace hF := ite_f h9 hF
          refine c_skip ?_
          refine s_st ?_ (hN6 hF)
          exact st_le [0] (le_cons rfl (le_cons rfl (le_cons rfl le_nil))) rfl sub_nil
      · intro hF
        unfold F.trees.reader_number_j2 at hF
        refine sat_wc ?_
        refine c_seq ?_
        refine c_region ?_
        refine o_v (v_assign rfl) rfl ?_
        refine o_seq ?_
        refine c_seq ?_
        refine c_region ?_
        refine o_v (v_move rfl) rfl ?_
        refine o_v (v_nilCheck rfl) rfl ?_
        refine o_v (v_fieldAddr (v := .pointer (some ⟨b, 1, none⟩)) rfl (fun _ => by kernel_rfl)) rfl ?_
        refine o_v (v_load_box 0 ty3 rfl rfl rfl rfl rfl) rfl ?_
        refine o_v (v_assign rfl) rfl ?_
        refine o_seq ?_
        obtain ⟨o3, ho3, hF⟩ := bd hF
        refine c_block ?_
        refine c_loopE (fun E j a w => ∃ (c : Int) (n : Int) (at__ : Int), F.trees.reader_number_l3 r_ j c n at__ = some o3 ∧ St E [(0, .pointer (some ⟨b, 0, none⟩)), (2, .int .i64 0), (3, .int .u8 c), (4, .int .i64 n), (5, .int .i64 r_.at_)] [.box b 76 [.string (bs r_.text), .int .i64 at__]] [] a w) k ?_ ?_
        · intro a w hs
          exact ⟨x_, 0, r_.at_, ho3, st_le [0] (le_cons rfl (le_cons rfl (le_cons rfl (le_cons rfl (le_cons rfl le_nil))))) rfl sub_nil a w hs⟩
        · rintro j a w ⟨c, n, at__, hL3, hs⟩
          cases j with
          | zero => cases hL3
          | succ j =>
            refine wc_app hs ?_
            unfold F.trees.reader_number_l3 at hL3
            refine c_seq ?_
            refine c_cut (fun E N' => ∀ (c1 : Int) (n1 : Int), F.trees.reader_number_j4 (F.trees.reader_number_l3 r_ j) at__ c1 n1 = some o3 → Sat E [(0, .pointer (some ⟨b, 0, none⟩)), (2, .int .i64 0), (3, .int .u8 c1), (4, .int .i64 n1), (5, .int .i64 r_.at_)] [.box b 76 [.string (bs r_.text), .int .i64 at__]] [] N') (fun N4 hN4 => ?_) ?_
            · refine c_block ?_
              refine c_seq ?_
              refine c_region ?_
              refine o_v (v_move rfl) rfl ?_
              obtain ⟨v1, h2, hL3⟩ := bd hL3
              rcases v1 with x_1 | y_1
              · replace hL3 := pn_ok hL3
                refine o_call [0] call66 rfl rfl rfl sub_nil (cap := #[]) (by rw [show (#[] : Array Value).toList = [] from rfl, List.append_nil]; exact (tri66 (Trees_reader.mk r_.text at__) b (.ok x_1) h2)) rfl ?_
                rintro _ _ _ ⟨rfl, rfl, rfl⟩
                refine o_v (v_assign rfl) rfl ?_
                refine o_seq ?_
                refine c_seq ?_
                refine c_seq ?_
                refine c_region ?_
                refine o_v (v_move rfl) rfl ?_
                refine o_v (v_bin rfl rfl rfl) rfl ?_
                refine o_v (v_move rfl) rfl ?_
                refine o_split (t := 31) rfl (fun h3 => ?_) (fun h3 => ?_)
                · replace hL3 := ite_t h3 hL3
                  refine o_off rfl rfl (by decide) rfl ?_
                  refine o_off rfl rfl (by decide) rfl ?_
                  refine o_v (v_pick_t rfl rfl) rfl ?_
                  refine o_seq ?_
                  refine c_cond rfl (fun _ => ?_) (fun h => Bool.noConfusion h)
                  refine c_seq ?_
                  refine c_region ?_
                  refine o_v (v_move rfl) rfl ?_
                  refine o_v (v_assign rfl) rfl ?_
                  refine o_seq ?_
                  refine c_ret ?_
                  cases hL3
                  obtain rfl := lrf_ret hF
                  refine s_ret1 rfl (r_tmp rfl) fun a w hs => ?_
                  exact fin_sel hs [0] ⟨rfl, rfl, rfl⟩ rfl sub_nil
                · replace hL3 := ite_f h3 hL3
                  refine o_on rfl rfl ?_
                  refine o_v (v_move rfl) rfl ?_
                  refine o_on rfl rfl ?_
                  refine o_v (v_bin rfl rfl rfl) rfl ?_
                  refine o_v (v_pick_f rfl rfl) rfl ?_
                  refine o_seq ?_
                  refine c_cond rfl (fun h4 => ?_) (fun h4 => ?_)
                  · replace hL3 := ite_t h4 hL3
                    refine c_seq ?_
                    refine c_region ?_
                    refine o_v (v_move rfl) rfl ?_
                    refine o_v (v_assign rfl) rfl ?_
                    refine o_seq ?_
                    refine c_ret ?_
                    cases hL3
                    obtain rfl := lrf_ret hF
                    refine s_ret1 rfl (r_tmp rfl) fun a w hs => ?_
                    exact fin_sel hs [0] ⟨rfl, rfl, rfl⟩ rfl sub_nil
                  · replace hL3 := ite_f h4 hL3
                    refine c_skip ?_
                    refine sat_wc ?_
                    refine c_seq ?_
                    refine c_seq ?_
                    refine c_cut (fun E N' => ∀ (t54 : Bool), F.trees.reader_number_j5 r_ at__ (F.trees.reader_number_l3 r_ j) x_1 n t54 = some o3 → Sat E [(0, .pointer (some ⟨b, 0, none⟩)), (2, .int .i64 0), (3, .int .u8 x_1), (4, .int .i64 n), (5, .int .i64 r_.at_), (54, .bool t54)] [.box b 76 [.string (bs r_.text), .int .i64 at__]] [] N') (fun N6 hN6 => ?_) ?_
                    · refine c_region ?_
                      refine o_v (v_move rfl) rfl ?_
                      refine o_v (v_nilCheck rfl) rfl ?_
                      refine o_v (v_fieldAddr (v := .pointer (some ⟨b, 1, none⟩)) rfl (fun _ => by kernel_rfl)) rfl ?_
                      refine o_v (v_load_box 0 ty3 rfl rfl rfl rfl rfl) rfl ?_
                      refine o_v (v_move rfl) rfl ?_
                      refine o_v (v_bin rfl rfl rfl) rfl ?_
                      refine o_v (v_bin rfl rfl rfl) rfl ?_
                      refine o_v (v_move rfl) rfl ?_
                      refine o_split (t := 43) rfl (fun h7 => ?_) (fun h7 => ?_)
                      · replace hL3 := ite_t h7 hL3
                        refine o_off rfl rfl (by decide) rfl ?_
                        refine o_off rfl rfl (by decide) rfl ?_
                        refine o_off rfl rfl (by decide) rfl ?_
                        refine o_off rfl rfl (by decide) rfl ?_
                        refine o_off rfl rfl (by decide) rfl ?_
                        refine o_off rfl rfl (by decide) rfl ?_
                        refine o_off rfl rfl (by decide) rfl ?_
                        refine o_offU rfl rfl rfl ?_
                        refine o_offU rfl rfl rfl ?_
                        refine o_off rfl rfl (by decide) rfl ?_
                        refine o_v (v_pick_t rfl rfl) rfl ?_
                        refine o_nil ?_
                        refine s_st ?_ (hN6 true hL3)
                        exact st_le [0] (le_cons rfl (le_cons rfl (le_cons rfl (le_cons rfl (le_cons rfl (le_cons rfl le_nil)))))) rfl sub_nil
                      · replace hL3 := ite_f h7 hL3
                        refine o_on rfl rfl ?_
                        refine o_v (v_move rfl) rfl ?_
                        refine o_on rfl rfl ?_
                        refine o_v (v_nilCheck rfl) rfl ?_
                        refine o_on rfl rfl ?_
                        refine o_v (v_fieldAddr (v := .pointer (some ⟨b, 1, none⟩)) rfl (fun _ => by kernel_rfl)) rfl ?_
                        refine o_on rfl rfl ?_
                        refine o_v (v_load_box 0 ty3 rfl rfl rfl rfl rfl) rfl ?_
                        refine o_on rfl rfl ?_
                        refine o_v (v_move rfl) rfl ?_
                        refine o_on rfl rfl ?_
                        refine o_v (v_bin rfl rfl rfl) rfl ?_
                        refine o_on rfl rfl ?_
                        refine o_v (v_move rfl) rfl ?_
                        refine o_split (t := 50) rfl (fun h8 => ?_) (fun h8 => ?_)
                        · replace hL3 := ite_t h8 hL3
                          refine o_on rfl rfl ?_
                          refine o_v (v_move rfl) rfl ?_
                          refine o_on rfl rfl ?_
                          refine o_v (v_bin rfl rfl rfl) rfl ?_
                          refine o_on rfl rfl ?_
                          refine o_v (v_pick_t rfl rfl) rfl ?_
                          refine o_v (v_pick_f rfl rfl) rfl ?_
                          refine o_nil ?_
                          refine s_st ?_ (hN6 (n == 0) hL3)
                          exact st_le [0] (le_cons rfl (le_cons rfl (le_cons rfl (le_cons rfl (le_cons rfl (le_cons rfl le_nil)))))) rfl sub_nil
                        · replace hL3 := ite_f h8 hL3
                          refine o_off rfl rfl (by decide) rfl ?_
                          refine o_off rfl rfl (by decide) rfl ?_
                          refine o_on rfl rfl ?_
                          refine o_v (v_pick_f rfl rfl) rfl ?_
                          refine o_v (v_pick_f rfl rfl) rfl ?_
                          refine o_nil ?_
                          refine s_st ?_ (hN6 false hL3)
                          exact st_le [0] (le_cons rfl (le_cons rfl (le_cons rfl (le_cons rfl (le_cons rfl (le_cons rfl le_nil)))))) rfl sub_nil
                    · intro t54 hL3
                      unfold F.trees.reader_number_j5 at hL3
                      refine sat_wc ?_
                      refine c_cut (fun E N' => F.trees.reader_number_j6 (F.trees.reader_number_l3 r_ j) at__ x_1 n = some o3 → Sat E [(0, .pointer (some ⟨b, 0, none⟩)), (2, .int .i64 0), (3, .int .u8 x_1), (4, .int .i64 n), (5, .int .i64 r_.at_)] [.box b 76 [.string (bs r_.text), .int .i64 at__]] [] N') (fun N6 hN6 => ?_) ?_
                      · refine c_cond rfl (fun h5 => ?_) (fun h5 => ?_)
                        · replace hL3 := ite_t h5 hL3
                          refine c_region ?_
                          refine o_v (v_move rfl) rfl ?_
                          obtain ⟨v2, h6, hL3⟩ := bd hL3
                          rcases v2 with x_2 | y_2
                          · replace hL3 := pn_ok hL3
                            refine o_call [0] call52 rfl rfl rfl sub_nil (cap := #[]) (by rw [show (#[] : Array Value).toList = [] from rfl, List.append_nil]; exact (tri52 (Trees_reader.mk r_.text at__) 11 b (.ok x_2) h6)) rfl ?_
                            rintro _ _ _ ⟨rfl, rfl, rfl⟩
                            refine o_nil ?_
                            refine s_st ?_ (hN6 hL3)
                            exact st_le [0] (le_cons rfl (le_cons rfl (le_cons rfl (le_cons rfl (le_cons rfl le_nil))))) rfl sub_nil
                          · replace hL3 := pn_pan hL3
                            refine o_call [0] call52 rfl rfl rfl sub_nil (cap := #[]) (by rw [show (#[] : Array Value).toList = [] from rfl, List.append_nil]; exact (tri52 (Trees_reader.mk r_.text at__) 11 b (.pan y_2) h6)) rfl ?_
                            rintro _ _ _ ⟨rfl, rfl, rfl⟩
                            cases hL3
                            obtain rfl := lrf_ret hF
                            refine s_pan fun a w hs => ?_
                            exact fin_sel hs [] ⟨rfl, rfl, rfl⟩ rfl sub_nil
                        · replace hL3 := ite_f h5 hL3
                          refine c_skip ?_
                          refine s_st ?_ (hN6 hL3)
                          exact st_le [0] (le_cons rfl (le_cons rfl (le_cons rfl (le_cons rfl (le_cons rfl le_nil))))) rfl sub_nil
                      · intro hL3
                        unfold F.trees.reader_number_j6 at hL3
                        refine sat_wc ?_
                        refine c_region ?_
                        refine o_v (v_move rfl) rfl ?_
                        refine o_v (v_bin rfl rfl rfl) rfl ?_
                        refine o_v (v_move rfl) rfl ?_
                        refine o_v (v_bin rfl rfl rfl) rfl ?_
                        refine o_v (v_convert (v := .int .i64 (IntKind.wrap .i64 (IntKind.wrap .u8 (x_1 - 48)))) rfl (fun _ => by kernel_rfl)) rfl ?_
                        refine o_v (v_bin rfl rfl rfl) rfl ?_
                        refine o_v (v_assign rfl) rfl ?_
                        refine o_nil ?_
                        refine s_st ?_ (hN4 x_1 (IntKind.wrap .i64 ((IntKind.wrap .i64 (10 * n)) + (IntKind.wrap .i64 (IntKind.wrap .u8 (x_1 - 48))))) hL3)
                        exact st_le [0] (le_cons rfl (le_cons rfl (le_cons rfl (le_cons rfl (le_cons rfl le_nil))))) rfl sub_nil
              · replace hL3 := pn_pan hL3
                refine o_call [0] call66 rfl rfl rfl sub_nil (cap := #[]) (by rw [show (#[] : Array Value).toList = [] from rfl, List.append_nil]; exact (tri66 (Trees_reader.mk r_.text at__) b (.pan y_1) h2)) rfl ?_
                rintro _ _ _ ⟨rfl, rfl, rfl⟩
                cases hL3
                obtain rfl := lrf_ret hF
                refine s_pan fun a w hs => ?_
                exact fin_sel hs [] ⟨rfl, rfl, rfl⟩ rfl sub_nil
            · intro c1 n1 hL3
              unfold F.trees.reader_number_j4 at hL3
              refine sat_wc ?_
              refine c_region ?_
              refine o_v (v_move rfl) rfl ?_
              refine o_v (v_nilCheck rfl) rfl ?_
              refine o_v (v_fieldAddr (v := .pointer (some ⟨b, 1, none⟩)) rfl (fun _ => by kernel_rfl)) rfl ?_
              refine o_v (v_load_box 0 ty3 rfl rfl rfl rfl rfl) rfl ?_
              refine o_v (v_bin rfl rfl rfl) rfl ?_
              refine o_v (v_nilCheck rfl) rfl ?_
              refine o_v (v_fieldAddr (v := .pointer (some ⟨b, 1, none⟩)) rfl (fun _ => by kernel_rfl)) rfl ?_
              refine o_store_box 0 rfl ty3 rfl rfl rfl rfl rfl rfl rfl ?_
              refine o_nil ?_
              intro a w hs
              exact ⟨j, Nat.lt_succ_self j, c1, n1, IntKind.wrap .i64 (at__ + 1), hL3, st_le [0] (le_cons rfl (le_cons rfl (le_cons rfl (le_cons rfl (le_cons rfl le_nil))))) rfl sub_nil a w hs⟩
  · replace hF := pn_pan hF
    refine o_call [0] call66 rfl rfl rfl sub_nil (cap := #[]) (by rw [show (#[] : Array Value).toList = [] from rfl, List.append_nil]; exact (tri66 r_ b (.pan y_) h1)) rfl ?_
    rintro _ _ _ ⟨rfl, rfl, rfl⟩
    cases hF
    refine s_pan fun a w hs => ?_
    exact fin_sel hs [] ⟨rfl, rfl, rfl⟩ rfl sub_nil
theorem tri69 (r_ : Trees_reader) (c : Int) (b : Nat) (r : Pn Trees_reader Fault) (hF : F.trees.reader_want r_ c = some r) :
    Tri Tryd.prog 69 [.pointer (some ⟨b, 0, none⟩), .int .u8 c] [.box b 76 [.string (bs r_.text), .int .i64 r_.at_]] [] (fun o H Φ => match (generalizing := false) r with | .ok r => (o = .ret (.tuple #[]) ∧ H = [.box b 76 [.string (bs r.text), .int .i64 r.at_]] ∧ Φ = []) | .pan y => o = .pan (.iface 39 (.agg #[.int .i64 y.At, .int .i64 y.Code])) ∧ H = [] ∧ Φ = []) := by
  unfold F.trees.reader_want at hF
  refine tri_intro (n := 17) Tryd.func69 rfl Tryd.ntmps69 rfl fun w X => ?_
  refine c_seq ?_
  refine c_seq ?_
  refine c_region ?_
  refine o_v (v_move rfl) rfl ?_
  obtain ⟨v, h1, hF⟩ := bd hF
  rcases v with x_ | y_
  · replace hF := pn_ok hF
    refine o_call [0] call66 rfl rfl rfl sub_nil (cap := #[]) (by rw [show (#[] : Array Value).toList = [] from rfl, List.append_nil]; exact (tri66 r_ b (.ok x_) h1)) rfl ?_
    rintro _ _ _ ⟨rfl, rfl, rfl⟩
    refine o_v (v_move rfl) rfl ?_
    refine o_v (v_bin rfl rfl rfl) rfl ?_
    refine o_seq ?_
    refine c_cut (fun E N' => F.trees.reader_want_j1 r_ = some r → Sat E [(0, .pointer (some ⟨b, 0, none⟩)), (1, .int .u8 c)] [.box b 76 [.string (bs r_.text), .int .i64 r_.at_]] [] N') (fun N1 hN1 => ?_) ?_
    · refine c_cond rfl (fun h2 => ?_) (fun h2 => ?_)
      · replace hF := ite_t h2 hF
        refine c_region ?_
        refine o_v (v_move rfl) rfl ?_
        obtain ⟨v1, h3, hF⟩ := bd hF
        rcases v1 with x_1 | y_1
        · replace hF := pn_ok hF
          refine o_call [0] call52 rfl rfl rfl sub_nil (cap := #[]) (by rw [show (#[] : Array Value).toList = [] from rfl, List.append_nil]; exact (tri52 r_ 11 b (.ok x_1) h3)) rfl ?_
          rintro _ _ _ ⟨rfl, rfl, rfl⟩
          refine o_nil ?_
          refine s_st ?_ (hN1 hF)
          exact st_le [0] (le_cons rfl (le_cons rfl le_nil)) rfl sub_nil
        · replace hF := pn_pan hF
          refine o_call [0] call52 rfl rfl rfl sub_nil (cap := #[]) (by rw [show (#[] : Array Value).toList = [] from rfl, List.append_nil]; exact (tri52 r_ 11 b (.pan y_1) h3)) rfl ?_
          rintro _ _ _ ⟨rfl, rfl, rfl⟩
          cases hF
          refine s_pan fun a w hs => ?_
          exact fin_sel hs [] ⟨rfl, rfl, rfl⟩ rfl sub_nil
      · replace hF := ite_f h2 hF
        refine c_skip ?_
        refine s_st ?_ (hN1 hF)
        exact st_le [0] (le_cons rfl (le_cons rfl le_nil)) rfl sub_nil
    · intro hF
      unfold F.trees.reader_want_j1 at hF
      refine sat_wc ?_
      refine c_region ?_
      refine o_v (v_move rfl) rfl ?_
      refine o_v (v_nilCheck rfl) rfl ?_
      refine o_v (v_fieldAddr (v := .pointer (some ⟨b, 1, none⟩)) rfl (fun _ => by kernel_rfl)) rfl ?_
      refine o_v (v_load_box 0 ty3 rfl rfl rfl rfl rfl) rfl ?_
      refine o_v (v_bin rfl rfl rfl) rfl ?_
      refine o_v (v_nilCheck rfl) rfl ?_
      refine o_v (v_fieldAddr (v := .pointer (some ⟨b, 1, none⟩)) rfl (fun _ => by kernel_rfl)) rfl ?_
      refine o_store_box 0 rfl ty3 rfl rfl rfl rfl rfl rfl rfl ?_
      refine o_nil ?_
      cases hF
      refine s_ret0 rfl fun a w hs => ?_
      exact fin_sel hs [0] ⟨rfl, rfl, rfl⟩ rfl sub_nil
  · replace hF := pn_pan hF
    refine o_call [0] call66 rfl rfl rfl sub_nil (cap := #[]) (by rw [show (#[] : Array Value).toList = [] from rfl, List.append_nil]; exact (tri66 r_ b (.pan y_) h1)) rfl ?_
    rintro _ _ _ ⟨rfl, rfl, rfl⟩
    cases hF
    refine s_pan fun a w hs => ?_
    exact fin_sel hs [] ⟨rfl, rfl, rfl⟩ rfl sub_nil
theorem tri51_B (k : Nat) (g51 : Trees_reader → Int → Option (Pn (Tree × Trees_reader) Fault))
    (hg51 : ∀ (r_ : Trees_reader) (levels : Int) (b : Nat) (r : Pn (Tree × Trees_reader) Fault), g51 r_ levels = some r → Tri Tryd.prog 51 [.pointer (some ⟨b, 0, none⟩), .int .i64 levels] [.box b 76 [.string (bs r_.text), .int .i64 r_.at_]] [] (fun o H Φ => match (generalizing := false) r with | .ok r => (∃ (sa8 : Option Addr) (sn8 sc8 : Nat), o = .ret (.agg #[.int .i64 r.1.Rule, .int .u8 r.1.Byte, .slice sa8 sn8 sc8]) ∧ H = [.box b 76 [.string (bs r.2.text), .int .i64 r.2.at_]] ∧ Φ = [(.slice sa8 sn8 sc8, .slice 3 (r.1.Kids.map eTree))]) | .pan y => o = .pan (.iface 39 (.agg #[.int .i64 y.At, .int .i64 y.Code])) ∧ H = [] ∧ Φ = [])) (r_ : Trees_reader) (levels : Int) (b : Nat) (r : Pn (Tree × Trees_reader) Fault) (hF : F.trees.reader_tree_B k g51 r_ levels = some r) :
    Tri Tryd.prog 51 [.pointer (some ⟨b, 0, none⟩), .int .i64 levels] [.box b 76 [.string (bs r_.text), .int .i64 r_.at_]] [] (fun o H Φ => match (generalizing := false) r with | .ok r => (∃ (sa8 : Option Addr) (sn8 sc8 : Nat), o = .ret (.agg #[.int .i64 r.1.Rule, .int .u8 r.1.Byte, .slice sa8 sn8 sc8]) ∧ H = [.box b 76 [.string (bs r.2.text), .int .i64 r.2.at_]] ∧ Φ = [(.slice sa8 sn8 sc8, .slice 3 (r.1.Kids.map eTree))]) | .pan y => o = .pan (.iface 39 (.agg #[.int .i64 y.At, .int .i64 y.Code])) ∧ H = [] ∧ Φ = []) := by
  unfold F.trees.reader_tree_B at hF
  refine tri_intro (n := 75) Tryd.func51 rfl Tryd.ntmps51 rfl fun w X => ?_
  refine c_seq ?_
  refine c_region ?_
  refine o_alloc zero27 rfl rfl fun b1 => ?_
  refine o_seq ?_
  refine c_seq ?_
  refine c_region ?_
  refine o_v (v_move rfl) rfl ?_
  obtain ⟨v, h1, hF⟩ := bd hF
  rcases v with x_ | y_
  · replace hF := pn_ok hF
    refine o_call [1] call66 rfl rfl rfl sub_nil (cap := #[]) (by rw [show (#[] : Array Value).toList = [] from rfl, List.append_nil]; exact (tri66 r_ b (.ok x_) h1)) rfl ?_
    rintro _ _ _ ⟨rfl, rfl, rfl⟩
    refine o_v (v_assign rfl) rfl ?_
    refine o_seq ?_
    refine c_seq ?_
    refine c_seq ?_
    refine c_cut (fun E N' => ∀ (t23 : Bool), F.trees.reader_tree_j1 k r_ x_ g51 levels t23 = some r → Sat E [(0, .pointer (some ⟨b, 0, none⟩)), (1, .int .i64 levels), (4, .pointer (some ⟨b1, 0, none⟩)), (5, .int .u8 x_), (23, .bool t23)] [.box b 76 [.string (bs r_.text), .int .i64 r_.at_], .box b1 27 [.int .i64 0, .int .u8 0, .slice none 0 0]] [] N') (fun N6 hN6 => ?_) ?_
    · refine c_region ?_
      refine o_v (v_move rfl) rfl ?_
      refine o_v (v_bin rfl rfl rfl) rfl ?_
      refine o_v (v_move rfl) rfl ?_
      refine o_split (t := 12) rfl (fun h16 => ?_) (fun h16 => ?_)
      · replace hF := ite_t h16 hF
        refine o_on rfl rfl ?_
        refine o_v (v_move rfl) rfl ?_
        refine o_on rfl rfl ?_
        refine o_v (v_bin rfl rfl rfl) rfl ?_
        refine o_on rfl rfl ?_
        refine o_v (v_move rfl) rfl ?_
        refine o_split (t := 15) rfl (fun h17 => ?_) (fun h17 => ?_)
        · replace hF := ite_t h17 hF
          refine o_off rfl rfl (by decide) rfl ?_
          refine o_off rfl rfl (by decide) rfl ?_
          refine o_off rfl rfl (by decide) rfl ?_
          refine o_offU rfl rfl rfl ?_
          refine o_offU rfl rfl rfl ?_
          refine o_off rfl rfl (by decide) rfl ?_
          refine o_on rfl rfl ?_
          refine o_v (v_pick_t rfl rfl) rfl ?_
          refine o_v (v_pick_t rfl rfl) rfl ?_
          refine o_nil ?_
          refine s_st ?_ (hN6 true hF)
          exact st_le [0, 0] (le_cons rfl (le_cons rfl (le_cons rfl (le_cons rfl (le_cons rfl le_nil))))) rfl sub_nil
        · replace hF := ite_f h17 hF
          refine o_on rfl rfl ?_
          refine o_v (v_move rfl) rfl ?_
          refine o_on rfl rfl ?_
          refine o_v (v_bin rfl rfl rfl) rfl ?_
          refine o_on rfl rfl ?_
          refine o_v (v_move rfl) rfl ?_
          refine o_split (t := 18) rfl (fun h18 => ?_) (fun h18 => ?_)
          · replace hF := ite_t h18 hF
            refine o_on rfl rfl ?_
            refine o_v (v_move rfl) rfl ?_
            refine o_on rfl rfl ?_
            refine o_v (v_bin rfl rfl rfl) rfl ?_
            refine o_on rfl rfl ?_
            refine o_v (v_pick_t rfl rfl) rfl ?_
            refine o_on rfl rfl ?_
            refine o_v (v_pick_f rfl rfl) rfl ?_
            refine o_v (v_pick_t rfl rfl) rfl ?_
            refine o_nil ?_
            refine s_st ?_ (hN6 (decide (x_ ≤ 57)) hF)
            exact st_le [0, 0] (le_cons rfl (le_cons rfl (le_cons rfl (le_cons rfl (le_cons rfl le_nil))))) rfl sub_nil
          · replace hF := ite_f h18 hF
            refine o_off rfl rfl (by decide) rfl ?_
            refine o_off rfl rfl (by decide) rfl ?_
            refine o_on rfl rfl ?_
            refine o_v (v_pick_f rfl rfl) rfl ?_
            refine o_on rfl rfl ?_
            refine o_v (v_pick_f rfl rfl) rfl ?_
            refine o_v (v_pick_t rfl rfl) rfl ?_
            refine o_nil ?_
            refine s_st ?_ (hN6 false hF)
            exact st_le [0, 0] (le_cons rfl (le_cons rfl (le_cons rfl (le_cons rfl (le_cons rfl le_nil))))) rfl sub_nil
      · replace hF := ite_f h16 hF
        refine o_off rfl rfl (by decide) rfl ?_
        refine o_off rfl rfl (by decide) rfl ?_
        refine o_off rfl rfl (by decide) rfl ?_
        refine o_offU rfl rfl rfl ?_
        refine o_offU rfl rfl rfl ?_
        refine o_offU rfl rfl rfl ?_
        refine o_offU rfl rfl rfl ?_
        refine o_offU rfl rfl rfl ?_
        refine o_offU rfl rfl rfl ?_
        refine o_off rfl rfl (by decide) rfl ?_
        refine o_v (v_pick_f rfl rfl) rfl ?_
        refine o_nil ?_
        refine s_st ?_ (hN6 false hF)
        exact st_le [0, 0] (le_cons rfl (le_cons rfl (le_cons rfl (le_cons rfl (le_cons rfl le_nil))))) rfl sub_nil
    · intro t23 hF
      unfold F.trees.reader_tree_j1 at hF
      refine sat_wc ?_
      refine c_cut (fun E N' => F.trees.reader_tree_j2 k x_ r_ g51 levels = some r → Sat E [(0, .pointer (some ⟨b, 0, none⟩)), (1, .int .i64 levels), (4, .pointer (some ⟨b1, 0, none⟩)), (5, .int .u8 x_)] [.box b 76 [.string (bs r_.text), .int .i64 r_.at_], .box b1 27 [.int .i64 0, .int .u8 0, .slice none 0 0]] [] N') (fun N6 hN6 => ?_) ?_
      · refine c_cond rfl (fun h14 => ?_) (fun h14 => ?_)
        · replace hF := ite_t h14 hF
          refine c_region ?_
          refine o_v (v_move rfl) rfl ?_
          obtain ⟨v8, h15, hF⟩ := bd hF
          rcases v8 with x_8 | y_8
          · replace hF := pn_ok hF
            refine o_call [0] call52 rfl rfl rfl sub_nil (cap := #[]) (by rw [show (#[] : Array Value).toList = [] from rfl, List.append_nil]; exact (tri52 r_ 2 b (.ok x_8) h15)) rfl ?_
            rintro _ _ _ ⟨rfl, rfl, rfl⟩
            refine o_nil ?_
            refine s_st ?_ (hN6 hF)
            exact st_le [0, 0] (le_cons rfl (le_cons rfl (le_cons rfl (le_cons rfl le_nil)))) rfl sub_nil
          · replace hF := pn_pan hF
            refine o_call [0] call52 rfl rfl rfl sub_nil (cap := #[]) (by rw [show (#[] : Array Value).toList = [] from rfl, List.append_nil]; exact (tri52 r_ 2 b (.pan y_8) h15)) rfl ?_
            rintro _ _ _ ⟨rfl, rfl, rfl⟩
            cases hF
            refine s_pan fun a w hs => ?_
            exact fin_sel hs [] ⟨rfl, rfl, rfl⟩ rfl sub_nil
        · replace hF := ite_f h14 hF
          refine c_skip ?_
          refine s_st ?_ (hN6 hF)
          exact st_le [0, 0] (le_cons rfl (le_cons rfl (le_cons rfl (le_cons rfl le_nil)))) rfl sub_nil
      · intro hF
        unfold F.trees.reader_tree_j2 at hF
        refine sat_wc ?_
        refine c_seq ?_
        refine c_seq ?_
        refine c_region ?_
        refine o_v (v_move rfl) rfl ?_
        refine o_v (v_bin rfl rfl rfl) rfl ?_
        refine o_seq ?_
        refine c_cond rfl (fun h2 => ?_) (fun h2 => ?_)
        · replace hF := ite_t h2 hF
          refine c_seq ?_
          refine c_region ?_
          refine o_v (v_move rfl) rfl ?_
          refine o_v (v_nilCheck rfl) rfl ?_
          refine o_v (v_fieldAddr (v := .pointer (some ⟨b, 1, none⟩)) rfl (fun _ => by kernel_rfl)) rfl ?_
          refine o_v (v_load_box 0 ty3 rfl rfl rfl rfl rfl) rfl ?_
          refine o_v (v_bin rfl rfl rfl) rfl ?_
          refine o_v (v_nilCheck rfl) rfl ?_
          refine o_v (v_fieldAddr (v := .pointer (some ⟨b, 1, none⟩)) rfl (fun _ => by kernel_rfl)) rfl ?_
          refine o_store_box 0 rfl ty3 rfl rfl rfl rfl rfl rfl rfl ?_
          refine o_seq ?_
          refine c_seq ?_
          refine c_region ?_
          refine o_v (v_move rfl) rfl ?_
          obtain ⟨v1, h3, hF⟩ := bd hF
          rcases v1 with x_1 | y_1
          · replace hF := pn_ok hF
            refine o_call [0] call67 rfl rfl rfl sub_nil (cap := #[]) (by rw [show (#[] : Array Value).toList = [] from rfl, List.append_nil]; exact (tri67 (Trees_reader.mk r_.text (IntKind.wrap .i64 (r_.at_ + 1))) b (.ok x_1) h3)) rfl ?_
            rintro _ _ _ ⟨rfl, rfl, rfl⟩
            refine o_v (v_bin rfl rfl rfl) rfl ?_
            refine o_v (v_assign rfl) rfl ?_
            refine o_seq ?_
            refine c_seq ?_
            refine c_region ?_
            refine o_v (v_move rfl) rfl ?_
            refine o_v (v_move rfl) rfl ?_
            obtain ⟨v2, h4, hF⟩ := bd hF
            rcases v2 with x_2 | y_2
            · replace hF := pn_ok hF
              refine o_call [0] call67 rfl rfl rfl sub_nil (cap := #[]) (by rw [show (#[] : Array Value).toList = [] from rfl, List.append_nil]; exact (tri67 x_1.2 b (.ok x_2) h4)) rfl ?_
              rintro _ _ _ ⟨rfl, rfl, rfl⟩
              refine o_v (v_bin rfl rfl rfl) rfl ?_
              refine o_v (v_convert (v := .int .u8 (IntKind.wrap .u8 (IntKind.wrap .i64 ((IntKind.wrap .i64 (16 * x_1.1)) + x_2.1)))) rfl (fun _ => by kernel_rfl)) rfl ?_
              refine o_v (v_build (v := .agg #[.int .i64 (-1), .int .u8 (IntKind.wrap .u8 (IntKind.wrap .i64 ((IntKind.wrap .i64 (16 * x_1.1)) + x_2.1))), .slice none 0 0]) rfl (fun _ => by kernel_rfl)) rfl ?_
              refine o_store_box 1 rfl ty27 rfl rfl rfl rfl rfl rfl rfl ?_
              refine o_seq ?_
              refine c_ret ?_
              cases hF
              refine s_st (st_nilfact 3) ?_
              refine s_ret1 rfl (r_cell 1 rfl ty27 rfl rfl rfl rfl) fun a w hs => ?_
              exact fin_sel hs [0] ⟨none, 0, 0, rfl, rfl, rfl⟩ rfl (sub_cons 0 rfl sub_nil)
            · replace hF := pn_pan hF
              refine o_call [0] call67 rfl rfl rfl sub_nil (cap := #[]) (by rw [show (#[] : Array Value).toList = [] from rfl, List.append_nil]; exact (tri67 x_1.2 b (.pan y_2) h4)) rfl ?_
              rintro _ _ _ ⟨rfl, rfl, rfl⟩
              cases hF
              refine s_pan fun a w hs => ?_
              exact fin_sel hs [] ⟨rfl, rfl, rfl⟩ rfl sub_nil
          · replace hF := pn_pan hF
            refine o_call [0] call67 rfl rfl rfl sub_nil (cap := #[]) (by rw [show (#[] : Array Value).toList = [] from rfl, List.append_nil]; exact (tri67 (Trees_reader.mk r_.text (IntKind.wrap .i64 (r_.at_ + 1))) b (.pan y_1) h3)) rfl ?_
            rintro _ _ _ ⟨rfl, rfl, rfl⟩
            cases hF
            refine s_pan fun a w hs => ?_
            exact fin_sel hs [] ⟨rfl, rfl, rfl⟩ rfl sub_nil
        · replace hF := ite_f h2 hF
          refine c_skip ?_
          refine sat_wc ?_
          refine c_seq ?_
          refine c_region ?_
          refine o_v (v_move rfl) rfl ?_
          obtain ⟨v3, h5, hF⟩ := bd hF
          rcases v3 with x_3 | y_3
          · replace hF := pn_ok hF
            refine o_call [0] call68 rfl rfl rfl sub_nil (cap := #[]) (by rw [show (#[] : Array Value).toList = [] from rfl, List.append_nil]; exact (tri68 k r_ b (.ok x_3) h5)) rfl ?_
            rintro _ _ _ ⟨rfl, rfl, rfl⟩
            refine o_v (v_build (v := .agg #[.int .i64 x_3.1, .int .u8 0, .slice none 0 0]) rfl (fun _ => by kernel_rfl)) rfl ?_
            refine o_alloc zero27 rfl rfl fun b2 => ?_
            refine o_store_box 0 rfl ty27 rfl rfl rfl rfl rfl rfl rfl ?_
            refine o_seq ?_
            refine c_seq ?_
            refine c_region ?_
            refine o_v (v_move rfl) rfl ?_
            obtain ⟨v4, h6, hF⟩ := bd hF
            rcases v4 with x_4 | y_4
            · replace hF := pn_ok hF
              refine o_call [1] call69 rfl rfl rfl sub_nil (cap := #[]) (by rw [show (#[] : Array Value).toList = [] from rfl, List.append_nil]; exact (tri69 x_3.2 40 b (.ok x_4) h6)) rfl ?_
              rintro _ _ _ ⟨rfl, rfl, rfl⟩
              refine o_seq ?_
              refine c_seq ?_
              obtain ⟨o3, ho3, hF⟩ := bd hF
              refine c_cut (fun E N' => ∀ (d3 : (List UInt8) × Int × (List Tree)) (sa2 : Option Addr) (sn2 sc2 : Nat), o3 = .done d3 → Sat E [(0, .pointer (some ⟨b, 0, none⟩)), (1, .int .i64 levels), (4, .pointer (some ⟨b1, 0, none⟩)), (5, .int .u8 x_), (7, .pointer (some ⟨b2, 0, none⟩))] [.box b 76 [.string (bs d3.1), .int .i64 d3.2.1], .box b2 27 [.int .i64 x_3.1, .int .u8 0, .slice sa2 sn2 sc2], .box b1 27 [.int .i64 0, .int .u8 0, .slice none 0 0], .row (.slice sa2 sn2 sc2) 27 3 (d3.2.2.map eTree)] [] N') (fun N3 hN3 => ?_) ?_
              · refine c_block ?_
                refine c_loopE (fun E j a w => ∃ (text_ : List UInt8) (at__ : Int) (Kids_ : List Tree) (sa1 : Option Addr) (sn1 sc1 : Nat), F.trees.reader_tree_l3 g51 levels j text_ at__ Kids_ = some o3 ∧ St E [(0, .pointer (some ⟨b, 0, none⟩)), (1, .int .i64 levels), (4, .pointer (some ⟨b1, 0, none⟩)), (5, .int .u8 x_), (7, .pointer (some ⟨b2, 0, none⟩))] [.box b 76 [.string (bs text_), .int .i64 at__], .box b2 27 [.int .i64 x_3.1, .int .u8 0, .slice sa1 sn1 sc1], .box b1 27 [.int .i64 0, .int .u8 0, .slice none 0 0], .row (.slice sa1 sn1 sc1) 27 3 (Kids_.map eTree)] [] a w) k ?_ ?_
                · refine s_st (st_nilrow 27 3) ?_
                  intro a w hs
                  exact ⟨x_4.text, x_4.at_, ([] : List Tree), none, 0, 0, ho3, st_le [1, 1, 1, 0] (le_cons rfl (le_cons rfl (le_cons rfl (le_cons rfl (le_cons rfl le_nil))))) rfl sub_nil a w hs⟩
                · rintro j a w ⟨text_, at__, Kids_, sa1, sn1, sc1, hL3, hs⟩
                  cases j with
                  | zero => cases hL3
                  | succ j =>
                    refine wc_app hs ?_
                    unfold F.trees.reader_tree_l3 at hL3
                    refine c_seq ?_
                    refine c_seq ?_
                    refine c_region ?_
                    refine o_v (v_move rfl) rfl ?_
                    obtain ⟨v5, h7, hL3⟩ := bd hL3
                    rcases v5 with x_5 | y_5
                    · replace hL3 := pn_ok hL3
                      refine o_call [0] call66 rfl rfl rfl sub_nil (cap := #[]) (by rw [show (#[] : Array Value).toList = [] from rfl, List.append_nil]; exact (tri66 (Trees_reader.mk text_ at__) b (.ok x_5) h7)) rfl ?_
                      rintro _ _ _ ⟨rfl, rfl, rfl⟩
                      refine o_v (v_bin rfl rfl rfl) rfl ?_
                      refine o_seq ?_
                      refine c_cond rfl (fun h8 => ?_) (fun h8 => ?_)
                      · replace hL3 := ite_t h8 hL3
                        refine c_skip ?_
                        refine sat_wc ?_
                        refine c_cut (fun E N' => ∀ (text_1 : List UInt8) (at__1 : Int) (Kids_1 : List Tree) (sa3 : Option Addr) (sn3 sc3 : Nat), F.trees.reader_tree_j4 (F.trees.reader_tree_l3 g51 levels j) text_1 at__1 Kids_1 = some o3 → Sat E [(0, .pointer (some ⟨b, 0, none⟩)), (1, .int .i64 levels), (4, .pointer (some ⟨b1, 0, none⟩)), (5, .int .u8 x_), (7, .pointer (some ⟨b2, 0, none⟩))] [.box b 76 [.string (bs text_1), .int .i64 at__1], .box b2 27 [.int .i64 x_3.1, .int .u8 0, .slice sa3 sn3 sc3], .box b1 27 [.int .i64 0, .int .u8 0, .slice none 0 0], .row (.slice sa3 sn3 sc3) 27 3 (Kids_1.map eTree)] [] N') (fun N4 hN4 => ?_) ?_
                        · refine c_block ?_
                          refine c_seq ?_
                          refine c_seq ?_
                          refine c_region ?_
                          refine o_v (v_fieldAddr (v := .pointer (some ⟨b2, 2, none⟩)) rfl (fun _ => by kernel_rfl)) rfl ?_
                          refine o_v (v_load_box 1 ty25 rfl rfl rfl rfl rfl) rfl ?_
                          refine o_v (v_lenS (enc := eTree) Kids_ sl25 rfl (.r 3 _ rfl)) rfl ?_
                          refine o_v (v_bin rfl rfl rfl) rfl ?_
                          refine o_seq ?_
                          refine c_cut (fun E N' => ∀ (text_2 : List UInt8) (at__2 : Int), F.trees.reader_tree_j5 g51 levels Kids_ (F.trees.reader_tree_l3 g51 levels j) text_2 at__2 = some o3 → Sat E [(0, .pointer (some ⟨b, 0, none⟩)), (1, .int .i64 levels), (4, .pointer (some ⟨b1, 0, none⟩)), (5, .int .u8 x_), (7, .pointer (some ⟨b2, 0, none⟩))] [.box b 76 [.string (bs text_2), .int .i64 at__2], .box b2 27 [.int .i64 x_3.1, .int .u8 0, .slice sa1 sn1 sc1], .box b1 27 [.int .i64 0, .int .u8 0, .slice none 0 0], .row (.slice sa1 sn1 sc1) 27 3 (Kids_.map eTree)] [] N') (fun N6 hN6 => ?_) ?_
                          · refine c_cond rfl (fun h12 => ?_) (fun h12 => ?_)
                            · replace hL3 := ite_t h12 hL3
                              refine c_region ?_
                              refine o_v (v_move rfl) rfl ?_
                              obtain ⟨v7, h13, hL3⟩ := bd hL3
                              rcases v7 with x_7 | y_7
                              · replace hL3 := pn_ok hL3
                                refine o_call [0] call69 rfl rfl rfl sub_nil (cap := #[]) (by rw [show (#[] : Array Value).toList = [] from rfl, List.append_nil]; exact (tri69 (Trees_reader.mk text_ at__) 32 b (.ok x_7) h13)) rfl ?_
                                rintro _ _ _ ⟨rfl, rfl, rfl⟩
                                refine o_nil ?_
                                refine s_st ?_ (hN6 x_7.text x_7.at_ hL3)
                                exact st_le [0, 0, 0, 0] (le_cons rfl (le_cons rfl (le_cons rfl (le_cons rfl (le_cons rfl le_nil))))) rfl sub_nil
                              · replace hL3 := pn_pan hL3
                                refine o_call [0] call69 rfl rfl rfl sub_nil (cap := #[]) (by rw [show (#[] : Array Value).toList = [] from rfl, List.append_nil]; exact (tri69 (Trees_reader.mk text_ at__) 32 b (.pan y_7) h13)) rfl ?_
                                rintro _ _ _ ⟨rfl, rfl, rfl⟩
                                cases hL3
                                obtain rfl := lrf_ret hF
                                refine s_pan fun a w hs => ?_
                                exact fin_sel hs [] ⟨rfl, rfl, rfl⟩ rfl sub_nil
                            · replace hL3 := ite_f h12 hL3
                              refine c_skip ?_
                              refine s_st ?_ (hN6 text_ at__ hL3)
                              exact st_le [0, 0, 0, 0] (le_cons rfl (le_cons rfl (le_cons rfl (le_cons rfl (le_cons rfl le_nil))))) rfl sub_nil
                          · intro text_2 at__2 hL3
                            unfold F.trees.reader_tree_j5 at hL3
                            refine sat_wc ?_
                            refine c_cut (fun E N' => ∀ (text_3 : List UInt8) (at__3 : Int) (Kids_2 : List Tree) (sa4 : Option Addr) (sn4 sc4 : Nat), F.trees.reader_tree_j6 (F.trees.reader_tree_l3 g51 levels j) text_3 at__3 Kids_2 = some o3 → Sat E [(0, .pointer (some ⟨b, 0, none⟩)), (1, .int .i64 levels), (4, .pointer (some ⟨b1, 0, none⟩)), (5, .int .u8 x_), (7, .pointer (some ⟨b2, 0, none⟩))] [.box b 76 [.string (bs text_3), .int .i64 at__3], .box b2 27 [.int .i64 x_3.1, .int .u8 0, .slice sa4 sn4 sc4], .box b1 27 [.int .i64 0, .int .u8 0, .slice none 0 0], .row (.slice sa4 sn4 sc4) 27 3 (Kids_2.map eTree)] [] N') (fun N6 hN6 => ?_) ?_
                            · refine c_draw (n := 10) [2] mixed rfl rfl ?_
                              refine d_val 0 rfl pnok (by kernel_rfl) (by kernel_rfl) (by kernel_rfl) rfl (v_fieldAddr (v := .pointer (some ⟨b2, 2, none⟩)) rfl (fun _ => by kernel_rfl)) ?_
                              refine d_val 2 rfl pnok (by kernel_rfl) (by kernel_rfl) (by kernel_rfl) rfl (v_move rfl) ?_
                              refine d_val 3 rfl pnok (by kernel_rfl) (by kernel_rfl) (by kernel_rfl) rfl (v_move rfl) ?_
                              refine d_val 4 rfl pnok (by kernel_rfl) (by kernel_rfl) (by kernel_rfl) rfl (v_bin rfl rfl rfl) ?_
                              refine d_all [1, 5] (by kernel_rfl) (by simp) ⟨⟨_, rfl, ?_⟩, ⟨_, rfl, ?_⟩, trivial⟩
                              · refine o_v (v_load_box 1 ty25 rfl rfl rfl rfl rfl) rfl ?_
                                refine d_next [2] 0 rfl rfl ?_
                                refine d_one 5 rfl (by kernel_rfl) ?_
                                obtain ⟨v6, h9, hL3⟩ := bd hL3
                                rcases v6 with x_6 | y_6
                                · replace hL3 := pn_ok hL3
                                  refine o_call [0] call51 rfl rfl rfl sub_nil (cap := #[]) (by rw [show (#[] : Array Value).toList = [] from rfl, List.append_nil]; exact (hg51 (Trees_reader.mk text_2 at__2) (IntKind.wrap .i64 (levels - 1)) b (.ok x_6) h9)) rfl ?_
                                  rintro _ _ _ ⟨sa5, sn5, sc5, rfl, rfl, rfl⟩
                                  refine d_next [2] 1 rfl rfl ?_
                                  refine d_one 6 rfl (by kernel_rfl) ?_
                                  refine o_buildSlice (enc := eTree) ([x_6.1] : List Tree) [.int .i64 x_6.1.Rule, .int .u8 x_6.1.Byte, .slice sa5 sn5 sc5] sl25 rfl (fun _ => by kernel_rfl) rfl rfl (by simp only [List.map, List.all, eTree_eq] <;> rfl) (cp_of (ds := [.int .i64 x_6.1.Rule, .int .u8 x_6.1.Byte, .slice 3 (x_6.1.Kids.map eTree)]) (by simp only [List.map, List.flatten, eTree_eq] <;> rfl) (.s rfl (.s rfl (.f 0 rfl (.nil))))) rfl fun sa6 sn6 sc6 => ?_
                                  refine d_next [3] 1 rfl rfl ?_
                                  refine d_one 7 rfl (by kernel_rfl) ?_
                                  refine ite_some hL3 fun h10 hL3 => ?_
                                  refine ite_some hL3 fun h11 hL3 => ?_
                                  refine o_append (enc := eTree) (xs := Kids_) (ys := ([x_6.1] : List Tree)) 4 sl25 rfl rfl rfl (.r 0 _ rfl) h10 h11 rfl fun sa7 sn7 sc7 => ?_
                                  refine d_next [3] 1 rfl rfl ?_
                                  refine d_val 8 rfl pnok (by kernel_rfl) (by kernel_rfl) (by kernel_rfl) rfl (v_fieldAddr (v := .pointer (some ⟨b2, 2, none⟩)) rfl (fun _ => by kernel_rfl)) ?_
                                  refine d_one 9 rfl (by kernel_rfl) ?_
                                  refine o_store_box 2 rfl ty25 rfl rfl rfl rfl rfl rfl rfl ?_
                                  refine d_next [3] 1 rfl rfl ?_
                                  refine d_done (by kernel_rfl) ?_
                                  refine s_st ?_ (hN6 x_6.2.text x_6.2.at_ (Kids_ ++ ([x_6.1] : List Tree)) sa7 sn7 sc7 hL3)
                                  exact st_le [1, 1, 1, 1] (le_cons rfl (le_cons rfl (le_cons rfl (le_cons rfl (le_cons rfl le_nil))))) rfl sub_nil
                                · replace hL3 := pn_pan hL3
                                  refine o_call [0] call51 rfl rfl rfl sub_nil (cap := #[]) (by rw [show (#[] : Array Value).toList = [] from rfl, List.append_nil]; exact (hg51 (Trees_reader.mk text_2 at__2) (IntKind.wrap .i64 (levels - 1)) b (.pan y_6) h9)) rfl ?_
                                  rintro _ _ _ ⟨rfl, rfl, rfl⟩
                                  cases hL3
                                  obtain rfl := lrf_ret hF
                                  refine s_pan fun a w hs => ?_
                                  exact fin_sel hs [] ⟨rfl, rfl, rfl⟩ rfl sub_nil
                              · obtain ⟨v6, h9, hL3⟩ := bd hL3
                                rcases v6 with x_6 | y_6
                                · replace hL3 := pn_ok hL3
                                  refine o_call [0] call51 rfl rfl rfl sub_nil (cap := #[]) (by rw [show (#[] : Array Value).toList = [] from rfl, List.append_nil]; exact (hg51 (Trees_reader.mk text_2 at__2) (IntKind.wrap .i64 (levels - 1)) b (.ok x_6) h9)) rfl ?_
                                  rintro _ _ _ ⟨sa5, sn5, sc5, rfl, rfl, rfl⟩
                                  refine d_next [2] 1 rfl rfl ?_
                                  refine d_all [1, 6] (by kernel_rfl) (by simp) ⟨⟨_, rfl, ?_⟩, ⟨_, rfl, ?_⟩, trivial⟩
                                  · refine o_v (v_load_box 1 ty25 rfl rfl rfl rfl rfl) rfl ?_
                                    refine d_next [2] 1 rfl rfl ?_
                                    refine d_one 6 rfl (by kernel_rfl) ?_
                                    refine o_buildSlice (enc := eTree) ([x_6.1] : List Tree) [.int .i64 x_6.1.Rule, .int .u8 x_6.1.Byte, .slice sa5 sn5 sc5] sl25 rfl (fun _ => by kernel_rfl) rfl rfl (by simp only [List.map, List.all, eTree_eq] <;> rfl) (cp_of (ds := [.int .i64 x_6.1.Rule, .int .u8 x_6.1.Byte, .slice 3 (x_6.1.Kids.map eTree)]) (by simp only [List.map, List.flatten, eTree_eq] <;> rfl) (.s rfl (.s rfl (.f 0 rfl (.nil))))) rfl fun sa6 sn6 sc6 => ?_
                                    refine d_next [3] 1 rfl rfl ?_
                                    refine d_one 7 rfl (by kernel_rfl) ?_
                                    refine ite_some hL3 fun h10 hL3 => ?_
                                    refine ite_some hL3 fun h11 hL3 => ?_
                                    refine o_append (enc := eTree) (xs := Kids_) (ys := ([x_6.1] : List Tree)) 4 sl25 rfl rfl rfl (.r 0 _ rfl) h10 h11 rfl fun sa7 sn7 sc7 => ?_
                                    refine d_next [3] 1 rfl rfl ?_
                                    refine d_val 8 rfl pnok (by kernel_rfl) (by kernel_rfl) (by kernel_rfl) rfl (v_fieldAddr (v := .pointer (some ⟨b2, 2, none⟩)) rfl (fun _ => by kernel_rfl)) ?_
                                    refine d_one 9 rfl (by kernel_rfl) ?_
                                    refine o_store_box 2 rfl ty25 rfl rfl rfl rfl rfl rfl rfl ?_
                                    refine d_next [3] 1 rfl rfl ?_
                                    refine d_done (by kernel_rfl) ?_
                                    refine s_st ?_ (hN6 x_6.2.text x_6.2.at_ (Kids_ ++ ([x_6.1] : List Tree)) sa7 sn7 sc7 hL3)
                                    exact st_le [1, 1, 1, 1] (le_cons rfl (le_cons rfl (le_cons rfl (le_cons rfl (le_cons rfl le_nil))))) rfl sub_nil
                                  · refine o_buildSlice (enc := eTree) ([x_6.1] : List Tree) [.int .i64 x_6.1.Rule, .int .u8 x_6.1.Byte, .slice sa5 sn5 sc5] sl25 rfl (fun _ => by kernel_rfl) rfl rfl (by simp only [List.map, List.all, eTree_eq] <;> rfl) (cp_of (ds := [.int .i64 x_6.1.Rule, .int .u8 x_6.1.Byte, .slice 3 (x_6.1.Kids.map eTree)]) (by simp only [List.map, List.flatten, eTree_eq] <;> rfl) (.s rfl (.s rfl (.f 0 rfl (.nil))))) rfl fun sa6 sn6 sc6 => ?_
                                    refine d_next [3] 1 rfl rfl ?_
                                    refine d_one 1 rfl (by kernel_rfl) ?_
                                    refine o_v (v_load_box 2 ty25 rfl rfl rfl rfl rfl) rfl ?_
                                    refine d_next [3] 1 rfl rfl ?_
                                    refine d_one 7 rfl (by kernel_rfl) ?_
                                    refine ite_some hL3 fun h10 hL3 => ?_
                                    refine ite_some hL3 fun h11 hL3 => ?_
                                    refine o_append (enc := eTree) (xs := Kids_) (ys := ([x_6.1] : List Tree)) 4 sl25 rfl rfl rfl (.r 0 _ rfl) h10 h11 rfl fun sa7 sn7 sc7 => ?_
                                    refine d_next [3] 1 rfl rfl ?_
                                    refine d_val 8 rfl pnok (by kernel_rfl) (by kernel_rfl) (by kernel_rfl) rfl (v_fieldAddr (v := .pointer (some ⟨b2, 2, none⟩)) rfl (fun _ => by kernel_rfl)) ?_
                                    refine d_one 9 rfl (by kernel_rfl) ?_
                                    refine o_store_box 2 rfl ty25 rfl rfl rfl rfl rfl rfl rfl ?_
                                    refine d_next [3] 1 rfl rfl ?_
                                    refine d_done (by kernel_rfl) ?_
                                    refine s_st ?_ (hN6 x_6.2.text x_6.2.at_ (Kids_ ++ ([x_6.1] : List Tree)) sa7 sn7 sc7 hL3)
                                    exact st_le [1, 1, 1, 1] (le_cons rfl (le_cons rfl (le_cons rfl (le_cons rfl (le_cons rfl le_nil))))) rfl sub_nil
                                · replace hL3 := pn_pan hL3
                                  refine o_call [0] call51 rfl rfl rfl sub_nil (cap := #[]) (by rw [show (#[] : Array Value).toList = [] from rfl, List.append_nil]; exact (hg51 (Trees_reader.mk text_2 at__2) (IntKind.wrap .i64 (levels - 1)) b (.pan y_6) h9)) rfl ?_
                                  rintro _ _ _ ⟨rfl, rfl, rfl⟩
                                  cases hL3
                                  obtain rfl := lrf_ret hF
                                  refine s_pan fun a w hs => ?_
                                  exact fin_sel hs [] ⟨rfl, rfl, rfl⟩ rfl sub_nil
                            · intro text_3 at__3 Kids_2 sa4 sn4 sc4 hL3
                              unfold F.trees.reader_tree_j6 at hL3
                              refine s_st ?_ (hN4 text_3 at__3 Kids_2 sa4 sn4 sc4 hL3)
                              exact st_le [0, 0, 0, 0] (le_cons rfl (le_cons rfl (le_cons rfl (le_cons rfl (le_cons rfl le_nil))))) rfl sub_nil
                        · intro text_1 at__1 Kids_1 sa3 sn3 sc3 hL3
                          unfold F.trees.reader_tree_j4 at hL3
                          intro a w hs
                          exact ⟨j, Nat.lt_succ_self j, text_1, at__1, Kids_1, sa3, sn3, sc3, hL3, st_le [0, 0, 0, 0] (le_cons rfl (le_cons rfl (le_cons rfl (le_cons rfl (le_cons rfl le_nil))))) rfl sub_nil a w hs⟩
                      · replace hL3 := ite_f h8 hL3
                        refine c_exit0 ?_
                        cases hL3
                        refine s_st ?_ (hN3 (text_, at__, Kids_) sa1 sn1 sc1 rfl)
                        exact st_le [0, 0, 0, 0] (le_cons rfl (le_cons rfl (le_cons rfl (le_cons rfl (le_cons rfl le_nil))))) rfl sub_nil
                    · replace hL3 := pn_pan hL3
                      refine o_call [0] call66 rfl rfl rfl sub_nil (cap := #[]) (by rw [show (#[] : Array Value).toList = [] from rfl, List.append_nil]; exact (tri66 (Trees_reader.mk text_ at__) b (.pan y_5) h7)) rfl ?_
                      rintro _ _ _ ⟨rfl, rfl, rfl⟩
                      cases hL3
                      obtain rfl := lrf_ret hF
                      refine s_pan fun a w hs => ?_
                      exact fin_sel hs [] ⟨rfl, rfl, rfl⟩ rfl sub_nil
              · intro d3 sa2 sn2 sc2 hd
                subst hd
                replace hF := lrf_done hF
                refine sat_wc ?_
                refine c_seq ?_
                refine c_region ?_
                refine o_v (v_move rfl) rfl ?_
                refine o_v (v_nilCheck rfl) rfl ?_
                refine o_v (v_fieldAddr (v := .pointer (some ⟨b, 1, none⟩)) rfl (fun _ => by kernel_rfl)) rfl ?_
                refine o_v (v_load_box 0 ty3 rfl rfl rfl rfl rfl) rfl ?_
                refine o_v (v_bin rfl rfl rfl) rfl ?_
                refine o_v (v_nilCheck rfl) rfl ?_
                refine o_v (v_fieldAddr (v := .pointer (some ⟨b, 1, none⟩)) rfl (fun _ => by kernel_rfl)) rfl ?_
                refine o_store_box 0 rfl ty3 rfl rfl rfl rfl rfl rfl rfl ?_
                refine o_seq ?_
                refine c_seq ?_
                refine c_region ?_
                refine o_v (v_load_box 1 ty27 rfl rfl rfl rfl rfl) rfl ?_
                refine o_store_box 2 rfl ty27 rfl rfl rfl rfl rfl rfl rfl ?_
                refine o_seq ?_
                refine c_ret ?_
                cases hF
                refine s_st (st_freeze 3 rfl) ?_
                refine s_ret1 rfl (r_cell 2 rfl ty27 rfl rfl rfl rfl) fun a w hs => ?_
                exact fin_sel hs [0] ⟨sa2, sn2, sc2, rfl, rfl, rfl⟩ rfl (sub_cons 0 rfl sub_nil)
            · replace hF := pn_pan hF
              refine o_call [1] call69 rfl rfl rfl sub_nil (cap := #[]) (by rw [show (#[] : Array Value).toList = [] from rfl, List.append_nil]; exact (tri69 x_3.2 40 b (.pan y_4) h6)) rfl ?_
              rintro _ _ _ ⟨rfl, rfl, rfl⟩
              cases hF
              refine s_pan fun a w hs => ?_
              exact fin_sel hs [] ⟨rfl, rfl, rfl⟩ rfl sub_nil
          · replace hF := pn_pan hF
            refine o_call [0] call68 rfl rfl rfl sub_nil (cap := #[]) (by rw [show (#[] : Array Value).toList = [] from rfl, List.append_nil]; exact (tri68 k r_ b (.pan y_3) h5)) rfl ?_
            rintro _ _ _ ⟨rfl, rfl, rfl⟩
            cases hF
            refine s_pan fun a w hs => ?_
            exact fin_sel hs [] ⟨rfl, rfl, rfl⟩ rfl sub_nil
  · replace hF := pn_pan hF
    refine o_call [1] call66 rfl rfl rfl sub_nil (cap := #[]) (by rw [show (#[] : Array Value).toList = [] from rfl, List.append_nil]; exact (tri66 r_ b (.pan y_) h1)) rfl ?_
    rintro _ _ _ ⟨rfl, rfl, rfl⟩
    cases hF
    refine s_pan fun a w hs => ?_
    exact fin_sel hs [] ⟨rfl, rfl, rfl⟩ rfl sub_nil
theorem tri51 (k : Nat) : (∀ (r_ : Trees_reader) (levels : Int) (b : Nat) (r : Pn (Tree × Trees_reader) Fault), F.trees.reader_tree k r_ levels = some r → Tri Tryd.prog 51 [.pointer (some ⟨b, 0, none⟩), .int .i64 levels] [.box b 76 [.string (bs r_.text), .int .i64 r_.at_]] [] (fun o H Φ => match (generalizing := false) r with | .ok r => (∃ (sa8 : Option Addr) (sn8 sc8 : Nat), o = .ret (.agg #[.int .i64 r.1.Rule, .int .u8 r.1.Byte, .slice sa8 sn8 sc8]) ∧ H = [.box b 76 [.string (bs r.2.text), .int .i64 r.2.at_]] ∧ Φ = [(.slice sa8 sn8 sc8, .slice 3 (r.1.Kids.map eTree))]) | .pan y => o = .pan (.iface 39 (.agg #[.int .i64 y.At, .int .i64 y.Code])) ∧ H = [] ∧ Φ = [])) := by
  induction k with
  | zero => exact fun _ _ _ _ h => nomatch (show none = some _ from h)
  | succ k ih => exact tri51_B k _ ih
theorem triD50_pan (p0 : Tree) (p1 : Fault) (y : Fault) (b : Nat) (b1 : Nat) (sa1 : Option Addr) (sn1 sc1 : Nat) (r : Tree × Fault) (hF : F.trees.Parse_c1_pan p0 p1 y = some r) :
    TriD Tryd.prog 50 [.pointer (some ⟨b, 0, none⟩), .pointer (some ⟨b1, 0, none⟩)] [.box b 27 [.int .i64 p0.Rule, .int .u8 p0.Byte, .slice sa1 sn1 sc1], .box b1 39 [.int .i64 p1.At, .int .i64 p1.Code]] [(.slice sa1 sn1 sc1, .slice 3 (p0.Kids.map eTree))] (some (.iface 39 (.agg #[.int .i64 y.At, .int .i64 y.Code]))) (fun H Φ => ∃ (sa2 : Option Addr) (sn2 sc2 : Nat), H = [.box b 27 [.int .i64 r.1.Rule, .int .u8 r.1.Byte, .slice sa2 sn2 sc2], .box b1 39 [.int .i64 r.2.At, .int .i64 r.2.Code]] ∧ Φ = [(.slice sa2 sn2 sc2, .slice 3 (r.1.Kids.map eTree))]) := by
  unfold F.trees.Parse_c1_pan at hF
  refine triD_intro (n := 9) Tryd.func50 rfl Tryd.ntmps50 rfl rfl rfl rfl rfl rfl rfl rfl rfl rfl fun w X => ?_
  refine c_seq ?_
  refine c_region ?_
  refine o_v (v_move rfl) rfl ?_
  refine o_v (v_binr (v := .bool true) rfl rfl (fun _ => by kernel_rfl)) rfl ?_
  refine o_seq ?_
  refine c_cond rfl (fun _ => ?_) (fun h => Bool.noConfusion h)
  refine c_draw (n := 5) [] mixed rfl rfl ?_
  refine d_val 0 rfl pnokF (by kernel_rfl) (by kernel_rfl) (by kernel_rfl) rfl (v_build (v := .agg #[.int .i64 0, .int .u8 0, .slice none 0 0]) rfl (fun _ => by kernel_rfl)) ?_
  refine d_val 1 rfl pnokF (by kernel_rfl) (by kernel_rfl) (by kernel_rfl) rfl (v_move rfl) ?_
  refine d_val 2 rfl pnokF (by kernel_rfl) (by kernel_rfl) (by kernel_rfl) rfl (v_typeAssert (v := .agg #[.int .i64 y.At, .int .i64 y.Code]) rfl (fun _ => by kernel_rfl)) ?_
  refine d_one 3 rfl (by kernel_rfl) ?_
  refine o_store_box 0 rfl ty27 rfl rfl rfl rfl rfl rfl rfl ?_
  refine d_next [] 0 rfl rfl ?_
  refine d_one 4 rfl (by kernel_rfl) ?_
  refine o_store_box 1 rfl ty39 rfl rfl rfl rfl rfl rfl rfl ?_
  refine d_next [] 0 rfl rfl ?_
  refine d_done (by kernel_rfl) ?_
  cases hF
  refine s_st (st_nilfact 3) ?_
  exact s_retDs [0, 0] ⟨none, 0, 0, rfl, rfl⟩ rfl (sub_cons 0 rfl sub_nil)
theorem triD50_ret (p0 : Tree) (p1 : Fault) (b : Nat) (b1 : Nat) (sa1 : Option Addr) (sn1 sc1 : Nat) (r : Tree × Fault) (hF : F.trees.Parse_c1_ret p0 p1 = some r) :
    TriD Tryd.prog 50 [.pointer (some ⟨b, 0, none⟩), .pointer (some ⟨b1, 0, none⟩)] [.box b 27 [.int .i64 p0.Rule, .int .u8 p0.Byte, .slice sa1 sn1 sc1], .box b1 39 [.int .i64 p1.At, .int .i64 p1.Code]] [(.slice sa1 sn1 sc1, .slice 3 (p0.Kids.map eTree))] none (fun H Φ => ∃ (sa2 : Option Addr) (sn2 sc2 : Nat), H = [.box b 27 [.int .i64 r.1.Rule, .int .u8 r.1.Byte, .slice sa2 sn2 sc2], .box b1 39 [.int .i64 r.2.At, .int .i64 r.2.Code]] ∧ Φ = [(.slice sa2 sn2 sc2, .slice 3 (r.1.Kids.map eTree))]) := by
  unfold F.trees.Parse_c1_ret at hF
  refine triD_intro (n := 9) Tryd.func50 rfl Tryd.ntmps50 rfl rfl rfl rfl rfl rfl rfl rfl rfl rfl fun w X => ?_
  refine c_seq ?_
  refine c_region ?_
  refine o_v (v_move rfl) rfl ?_
  refine o_v (v_binr (v := .bool false) rfl rfl (fun _ => by kernel_rfl)) rfl ?_
  refine o_seq ?_
  refine c_cond rfl (fun h => Bool.noConfusion h) (fun _ => ?_)
  refine c_skip ?_
  cases hF
  exact s_retDs [0, 0] ⟨sa1, sn1, sc1, rfl, rfl⟩ rfl (sub_cons 0 rfl sub_nil)
theorem tri22 (k : Nat) (text_ : List UInt8) (r : Tree × Fault) (hF : F.trees.Parse k text_ = some r) :
    Tri Tryd.prog 22 [.string (bs text_)] [] [] (fun o H Φ => ∃ (sa5 : Option Addr) (sn5 sc5 : Nat), o = .ret (.tuple #[.agg #[.int .i64 r.1.Rule, .int .u8 r.1.Byte, .slice sa5 sn5 sc5], .agg #[.int .i64 r.2.At, .int .i64 r.2.Code]]) ∧ H = [] ∧ Φ = [(.slice sa5 sn5 sc5, .slice 3 (r.1.Kids.map eTree))]) := by
  unfold F.trees.Parse at hF
  refine tri_introD (n := 27) Tryd.func22 rfl Tryd.ntmps22 rfl fun w X => ?_
  refine c_seq ?_
  refine c_region ?_
  refine o_alloc zero27 rfl rfl fun b => ?_
  refine o_alloc zero39 rfl rfl fun b1 => ?_
  refine o_seq ?_
  refine c_seq ?_
  refine c_seq ?_
  refine c_region ?_
  refine o_v (v_move rfl) rfl ?_
  refine o_v (v_len_str Tryd.underlying9 rfl) rfl ?_
  refine o_v (v_bin rfl rfl rfl) rfl ?_
  refine o_seq ?_
  refine c_cond rfl (fun h1 => ?_) (fun h1 => ?_)
  · replace hF := ite_t h1 hF
    refine c_seq ?_
    refine c_region ?_
    refine o_v (v_build (v := .agg #[.int .i64 0, .int .u8 0, .slice none 0 0]) rfl (fun _ => by kernel_rfl)) rfl ?_
    refine o_v (v_build (v := .agg #[.int .i64 0, .int .i64 2]) rfl (fun _ => by kernel_rfl)) rfl ?_
    refine o_store_box 1 rfl ty27 rfl rfl rfl rfl rfl rfl rfl ?_
    refine o_store_box 0 rfl ty39 rfl rfl rfl rfl rfl rfl rfl ?_
    refine o_seq ?_
    refine c_ret ?_
    cases hF
    refine s_st (st_nilfact 3) ?_
    refine s_ret2 rfl (r_cell 1 rfl ty27 rfl rfl rfl rfl) (r_cell 0 rfl ty39 rfl rfl rfl rfl) fun a w hs => ?_
    exact fin_sel hs [] ⟨none, 0, 0, rfl, rfl, rfl⟩ rfl (sub_cons 0 rfl sub_nil)
  · replace hF := ite_f h1 hF
    refine c_skip ?_
    refine sat_wc ?_
    refine c_seq ?_
    refine c_region ?_
    refine o_v (v_makeFunc (vs := [.pointer (some ⟨b, 0, none⟩), .pointer (some ⟨b1, 0, none⟩)]) rfl) rfl ?_
    refine o_defer rfl ?_
    refine o_seq ?_
    refine c_seq ?_
    refine c_region ?_
    refine o_v (v_move rfl) rfl ?_
    refine o_v (v_build (v := .agg #[.string (bs text_), .int .i64 0]) rfl (fun _ => by kernel_rfl)) rfl ?_
    refine o_box rfl rfl rfl fun b2 => ?_
    refine o_v (v_assign rfl) rfl ?_
    refine o_seq ?_
    refine c_seq ?_
    refine c_region ?_
    refine o_v (v_move rfl) rfl ?_
    obtain ⟨v, h2, hF⟩ := bd hF
    rcases v with x_ | y_
    · replace hF := pn_ok hF
      refine o_call [0] call51 rfl rfl rfl sub_nil (cap := #[]) (by rw [show (#[] : Array Value).toList = [] from rfl, List.append_nil]; exact (tri51 k (Trees_reader.mk text_ 0) 200 b2 (.ok x_) h2)) rfl ?_
      rintro _ _ _ ⟨sa1, sn1, sc1, rfl, rfl, rfl⟩
      refine o_store_box 2 rfl ty27 rfl rfl rfl rfl rfl rfl rfl ?_
      refine o_seq ?_
      refine c_seq ?_
      refine c_seq ?_
      refine c_region ?_
      refine o_v (v_move rfl) rfl ?_
      refine o_v (v_nilCheck rfl) rfl ?_
      refine o_v (v_fieldAddr (v := .pointer (some ⟨b2, 1, none⟩)) rfl (fun _ => by kernel_rfl)) rfl ?_
      refine o_v (v_load_box 0 ty3 rfl rfl rfl rfl rfl) rfl ?_
      refine o_v (v_move rfl) rfl ?_
      refine o_v (v_len_str Tryd.underlying9 rfl) rfl ?_
      refine o_v (v_bin rfl rfl rfl) rfl ?_
      refine o_seq ?_
      refine c_cut (fun E N' => F.trees.Parse_j1 x_ = some r → Sat E [(0, .string (bs text_)), (2, .pointer (some ⟨b, 0, none⟩)), (3, .pointer (some ⟨b1, 0, none⟩)), (4, .pointer (some ⟨b2, 0, none⟩))] [.box b2 76 [.string (bs x_.2.text), .int .i64 x_.2.at_], .box b1 39 [.int .i64 0, .int .i64 0], .box b 27 [.int .i64 x_.1.Rule, .int .u8 x_.1.Byte, .slice sa1 sn1 sc1]] [(.slice sa1 sn1 sc1, .slice 3 (x_.1.Kids.map eTree))] N') (fun N1 hN1 => ?_) ?_
      · refine c_cond rfl (fun h4 => ?_) (fun h4 => ?_)
        · replace hF := ite_t h4 hF
          refine c_region ?_
          refine o_v (v_move rfl) rfl ?_
          obtain ⟨v2, h5, hF⟩ := bd hF
          rcases v2 with x_1 | y_1
          · replace hF := pn_ok hF
            refine o_call [0] call52 rfl rfl rfl sub_nil (cap := #[]) (by rw [show (#[] : Array Value).toList = [] from rfl, List.append_nil]; exact (tri52 x_.2 15 b2 (.ok x_1) h5)) rfl ?_
            rintro _ _ _ ⟨rfl, rfl, rfl⟩
            refine o_nil ?_
            refine s_st ?_ (hN1 hF)
            exact st_le [0, 0, 0] (le_cons rfl (le_cons rfl (le_cons rfl (le_cons rfl le_nil)))) rfl (sub_cons 0 rfl sub_nil)
          · replace hF := pn_pan hF
            refine o_call [0] call52 rfl rfl rfl sub_nil (cap := #[]) (by rw [show (#[] : Array Value).toList = [] from rfl, List.append_nil]; exact (tri52 x_.2 15 b2 (.pan y_1) h5)) rfl ?_
            rintro _ _ _ ⟨rfl, rfl, rfl⟩
            obtain ⟨v3, h6, hF⟩ := bd hF
            refine s_defer [1, 0] (some (.iface 39 (.agg #[.int .i64 y_1.At, .int .i64 y_1.Code]))) rfl call50 rfl (sub_cons 0 rfl sub_nil) (triD50_pan x_.1 (Fault.mk 0 0) y_1 b b1 sa1 sn1 sc1 v3 h6) ?_
            rintro _ _ ⟨sa3, sn3, sc3, rfl, rfl⟩
            cases hF
            refine s_ret2 rfl (r_cell 0 rfl ty27 rfl rfl rfl rfl) (r_cell 1 rfl ty39 rfl rfl rfl rfl) fun a w hs => ?_
            exact fin_sel hs [] ⟨sa3, sn3, sc3, rfl, rfl, rfl⟩ rfl (sub_cons 0 rfl sub_nil)
        · replace hF := ite_f h4 hF
          refine c_skip ?_
          refine s_st ?_ (hN1 hF)
          exact st_le [0, 0, 0] (le_cons rfl (le_cons rfl (le_cons rfl (le_cons rfl le_nil)))) rfl (sub_cons 0 rfl sub_nil)
      · intro hF
        unfold F.trees.Parse_j1 at hF
        refine sat_wc ?_
        refine c_seq ?_
        refine c_region ?_
        refine o_v (v_load_box 2 ty27 rfl rfl rfl rfl rfl) rfl ?_
        refine o_v (v_build (v := .agg #[.int .i64 0, .int .i64 0]) rfl (fun _ => by kernel_rfl)) rfl ?_
        refine o_store_box 2 rfl ty27 rfl rfl rfl rfl rfl rfl rfl ?_
        refine o_store_box 1 rfl ty39 rfl rfl rfl rfl rfl rfl rfl ?_
        refine o_seq ?_
        refine c_ret ?_
        obtain ⟨v1, h3, hF⟩ := bd hF
        refine s_defer [2, 1] none rfl call50 rfl (sub_cons 0 rfl sub_nil) (triD50_ret x_.1 (Fault.mk 0 0) b b1 sa1 sn1 sc1 v1 h3) ?_
        rintro _ _ ⟨sa2, sn2, sc2, rfl, rfl⟩
        cases hF
        refine s_ret2 rfl (r_cell 0 rfl ty27 rfl rfl rfl rfl) (r_cell 1 rfl ty39 rfl rfl rfl rfl) fun a w hs => ?_
        exact fin_sel hs [] ⟨sa2, sn2, sc2, rfl, rfl, rfl⟩ rfl (sub_cons 0 rfl sub_nil)
    · replace hF := pn_pan hF
      refine o_call [0] call51 rfl rfl rfl sub_nil (cap := #[]) (by rw [show (#[] : Array Value).toList = [] from rfl, List.append_nil]; exact (tri51 k (Trees_reader.mk text_ 0) 200 b2 (.pan y_) h2)) rfl ?_
      rintro _ _ _ ⟨rfl, rfl, rfl⟩
      refine s_st (st_nilfact 3) ?_
      obtain ⟨v4, h7, hF⟩ := bd hF
      refine s_defer [1, 0] (some (.iface 39 (.agg #[.int .i64 y_.At, .int .i64 y_.Code]))) rfl call50 rfl (sub_cons 0 rfl sub_nil) (triD50_pan (Tree.mk 0 0 ([] : List Tree)) (Fault.mk 0 0) y_ b b1 none 0 0 v4 h7) ?_
      rintro _ _ ⟨sa4, sn4, sc4, rfl, rfl⟩
      cases hF
      refine s_ret2 rfl (r_cell 0 rfl ty27 rfl rfl rfl rfl) (r_cell 1 rfl ty39 rfl rfl rfl rfl) fun a w hs => ?_
      exact fin_sel hs [] ⟨sa4, sn4, sc4, rfl, rfl, rfl⟩ rfl (sub_cons 0 rfl sub_nil)
theorem tri30_B (k : Nat) (g30 : Tree → Option (Int × Int))
    (hg30 : ∀ (t : Tree) (sa1 : Option Addr) (sn1 sc1 : Nat) (r : Int × Int), g30 t = some r → Tri Tryd.prog 30 [.agg #[.int .i64 t.Rule, .int .u8 t.Byte, .slice sa1 sn1 sc1]] [] [(.slice sa1 sn1 sc1, .slice 3 (t.Kids.map eTree))] (fun o H Φ => o = .ret (.tuple #[.int .i64 r.1, .int .i64 r.2]) ∧ H = [] ∧ Φ = [])) (t : Tree) (sa1 : Option Addr) (sn1 sc1 : Nat) (r : Int × Int) (hF : F.trees.Size_B k g30 t = some r) :
    Tri Tryd.prog 30 [.agg #[.int .i64 t.Rule, .int .u8 t.Byte, .slice sa1 sn1 sc1]] [] [(.slice sa1 sn1 sc1, .slice 3 (t.Kids.map eTree))] (fun o H Φ => o = .ret (.tuple #[.int .i64 r.1, .int .i64 r.2]) ∧ H = [] ∧ Φ = []) := by
  unfold F.trees.Size_B at hF
  refine tri_intro (n := 32) Tryd.func30 rfl Tryd.ntmps30 rfl fun w X => ?_
  refine c_seq ?_
  refine c_region ?_
  refine o_box rfl rfl rfl fun b => ?_
  refine o_v (v_assign rfl) rfl ?_
  refine o_v (v_assign rfl) rfl ?_
  refine o_seq ?_
  refine c_seq ?_
  refine c_region ?_
  refine o_v (v_assign rfl) rfl ?_
  refine o_v (v_assign rfl) rfl ?_
  refine o_seq ?_
  refine c_seq ?_
  refine c_seq ?_
  refine c_region ?_
  refine o_v (v_fieldAddr (v := .pointer (some ⟨b, 2, none⟩)) rfl (fun _ => by kernel_rfl)) rfl ?_
  refine o_v (v_load_box 0 ty25 rfl rfl rfl rfl rfl) rfl ?_
  refine o_v (v_lenS (enc := eTree) t.Kids sl25 rfl (.f 0 rfl)) rfl ?_
  refine o_v (v_move rfl) rfl ?_
  refine o_seq ?_
  obtain ⟨o1, ho1, hF⟩ := bd hF
  refine c_cut (fun E N' => Sat E [(0, .agg #[.int .i64 t.Rule, .int .u8 t.Byte, .slice sa1 sn1 sc1]), (1, .pointer (some ⟨b, 0, none⟩)), (2, .int .i64 0), (3, .int .i64 0), (4, .int .i64 o1.1), (5, .int .i64 o1.2), (11, .slice sa1 sn1 sc1)] [.box b 27 [.int .i64 t.Rule, .int .u8 t.Byte, .slice sa1 sn1 sc1]] [(.slice sa1 sn1 sc1, .slice 3 (t.Kids.map eTree))] N') (fun N1 hN1 => ?_) ?_
  · refine c_block ?_
    refine c_loopE (fun E j a w => ∃ (n : Int) (deep : Int) (t13 : Int), F.trees.Size_l1 t g30 j n deep t13 = some o1 ∧ St E [(0, .agg #[.int .i64 t.Rule, .int .u8 t.Byte, .slice sa1 sn1 sc1]), (1, .pointer (some ⟨b, 0, none⟩)), (2, .int .i64 0), (3, .int .i64 0), (4, .int .i64 n), (5, .int .i64 deep), (11, .slice sa1 sn1 sc1), (12, .int .i64 (t.Kids.length : Int)), (13, .int .i64 t13)] [.box b 27 [.int .i64 t.Rule, .int .u8 t.Byte, .slice sa1 sn1 sc1]] [(.slice sa1 sn1 sc1, .slice 3 (t.Kids.map eTree))] a w) k ?_ ?_
    · intro a w hs
      exact ⟨1, 0, 0, ho1, st_le [0] (le_cons rfl (le_cons rfl (le_cons rfl (le_cons rfl (le_cons rfl (le_cons rfl (le_cons rfl (le_cons rfl (le_cons rfl le_nil))))))))) rfl (sub_cons 0 rfl sub_nil) a w hs⟩
    · rintro j a w ⟨n, deep, t13, hL1, hs⟩
      cases j with
      | zero => cases hL1
      | succ j =>
        refine wc_app hs ?_
        unfold F.trees.Size_l1 at hL1
        refine c_seq ?_
        refine c_region ?_
        refine o_v (v_bin rfl rfl rfl) rfl ?_
        refine o_seq ?_
        refine c_seq ?_
        refine c_cond rfl (fun h1 => ?_) (fun h1 => ?_)
        · replace hL1 := ite_t h1 hL1
          refine c_skip ?_
          refine sat_wc ?_
          refine c_seq ?_
          refine c_block ?_
          refine c_seq ?_
          refine c_region ?_
          refine ite_some hL1 fun h2 hL1 => ?_
          refine o_v (v_indexAddr_s (xs := t.Kids) (enc := eTree) sl25 rfl rfl (.f 0 rfl) h2) rfl ?_
          refine o_load_s (ds := [.int .i64 ((at_ t.Kids t13).Rule), .int .u8 ((at_ t.Kids t13).Byte), .slice 3 (((at_ t.Kids t13).Kids).map eTree)]) (xs := t.Kids) (enc := eTree) ty27 rfl (.f 0 rfl) h2 (by simp only [eTree_eq] <;> rfl) rfl rfl rfl rfl rfl fun sa2 sn2 sc2 => ?_
          refine o_alloc zero27 rfl rfl fun b1 => ?_
          refine o_store_box 0 rfl ty27 rfl rfl rfl rfl rfl rfl rfl ?_
          refine o_seq ?_
          refine c_seq ?_
          refine c_region ?_
          refine o_v (v_load_box 0 ty27 rfl rfl rfl rfl rfl) rfl ?_
          obtain ⟨v, h3, hL1⟩ := bd hL1
          refine o_callSB call30 rfl (lent_f 0 rfl lent_nil) (hg30 (at_ t.Kids t13) sa2 sn2 sc2 v h3) rfl ?_
          refine o_v (v_move rfl) rfl ?_
          refine o_v (v_extract rfl rfl) rfl ?_
          refine o_v (v_extract rfl rfl) rfl ?_
          refine o_v (v_assign rfl) rfl ?_
          refine o_v (v_assign rfl) rfl ?_
          refine o_seq ?_
          refine c_seq ?_
          refine c_region ?_
          refine o_v (v_move rfl) rfl ?_
          refine o_v (v_move rfl) rfl ?_
          refine o_v (v_bin rfl rfl rfl) rfl ?_
          refine o_v (v_assign rfl) rfl ?_
          refine o_seq ?_
          refine c_region ?_
          refine o_v (v_move rfl) rfl ?_
          refine o_v (v_move rfl) rfl ?_
          refine o_v (v_max rfl rfl) rfl ?_
          refine o_v (v_assign rfl) rfl ?_
          refine o_nil ?_
          refine sat_wc ?_
          refine c_region ?_
          refine o_v (v_bin rfl rfl rfl) rfl ?_
          refine o_v (v_move rfl) rfl ?_
          refine o_nil ?_
          intro a w hs
          exact ⟨j, Nat.lt_succ_self j, IntKind.wrap .i64 (n + v.1), gmax deep v.2, IntKind.wrap .i64 (t13 + 1), hL1, st_le [1] (le_cons rfl (le_cons rfl (le_cons rfl (le_cons rfl (le_cons rfl (le_cons rfl (le_cons rfl (le_cons rfl (le_cons rfl le_nil))))))))) rfl (sub_cons 1 rfl sub_nil) a w hs⟩
        · replace hL1 := ite_f h1 hL1
          refine c_exit0 ?_
          cases hL1
          refine s_st ?_ (hN1)
          exact st_le [0] (le_cons rfl (le_cons rfl (le_cons rfl (le_cons rfl (le_cons rfl (le_cons rfl (le_cons rfl le_nil))))))) rfl (sub_cons 0 rfl sub_nil)
  · refine sat_wc ?_
    refine c_seq ?_
    refine c_region ?_
    refine o_v (v_move rfl) rfl ?_
    refine o_v (v_move rfl) rfl ?_
    refine o_v (v_bin rfl rfl rfl) rfl ?_
    refine o_v (v_assign rfl) rfl ?_
    refine o_v (v_assign rfl) rfl ?_
    refine o_seq ?_
    refine c_ret ?_
    cases hF
    refine s_ret2 rfl (r_tmp rfl) (r_tmp rfl) fun a w hs => ?_
    exact fin_sel hs [] ⟨rfl, rfl, rfl⟩ rfl sub_nil
theorem tri30 (k : Nat) : (∀ (t : Tree) (sa1 : Option Addr) (sn1 sc1 : Nat) (r : Int × Int), F.trees.Size k t = some r → Tri Tryd.prog 30 [.agg #[.int .i64 t.Rule, .int .u8 t.Byte, .slice sa1 sn1 sc1]] [] [(.slice sa1 sn1 sc1, .slice 3 (t.Kids.map eTree))] (fun o H Φ => o = .ret (.tuple #[.int .i64 r.1, .int .i64 r.2]) ∧ H = [] ∧ Φ = [])) := by
  induction k with
  | zero => exact fun _ _ _ _ _ h => nomatch (show none = some _ from h)
  | succ k ih => exact tri30_B k _ ih
theorem tri54_B (k : Nat) (g54 : Tree → Option Tree)
    (hg54 : ∀ (t : Tree) (sa1 : Option Addr) (sn1 sc1 : Nat) (r : Tree), g54 t = some r → Tri Tryd.prog 54 [.agg #[.int .i64 t.Rule, .int .u8 t.Byte, .slice sa1 sn1 sc1]] [] [(.slice sa1 sn1 sc1, .slice 3 (t.Kids.map eTree))] (fun o H Φ => ∃ (sa7 : Option Addr) (sn7 sc7 : Nat), o = .ret (.agg #[.int .i64 r.Rule, .int .u8 r.Byte, .slice sa7 sn7 sc7]) ∧ H = [] ∧ Φ = [(.slice sa7 sn7 sc7, .slice 3 (r.Kids.map eTree))])) (t : Tree) (sa1 : Option Addr) (sn1 sc1 : Nat) (r : Tree) (hF : F.trees.copied_B k g54 t = some r) :
    Tri Tryd.prog 54 [.agg #[.int .i64 t.Rule, .int .u8 t.Byte, .slice sa1 sn1 sc1]] [] [(.slice sa1 sn1 sc1, .slice 3 (t.Kids.map eTree))] (fun o H Φ => ∃ (sa7 : Option Addr) (sn7 sc7 : Nat), o = .ret (.agg #[.int .i64 r.Rule, .int .u8 r.Byte, .slice sa7 sn7 sc7]) ∧ H = [] ∧ Φ = [(.slice sa7 sn7 sc7, .slice 3 (r.Kids.map eTree))]) := by
  unfold F.trees.copied_B at hF
  refine tri_intro (n := 26) Tryd.func54 rfl Tryd.ntmps54 rfl fun w X => ?_
  refine c_seq ?_
  refine c_region ?_
  refine o_box rfl rfl rfl fun b => ?_
  refine o_alloc zero27 rfl rfl fun b1 => ?_
  refine o_seq ?_
  refine c_seq ?_
  refine c_region ?_
  refine o_v (v_fieldAddr (v := .pointer (some ⟨b, 2, none⟩)) rfl (fun _ => by kernel_rfl)) rfl ?_
  refine o_v (v_load_box 1 ty25 rfl rfl rfl rfl rfl) rfl ?_
  obtain ⟨v, h1, hF⟩ := bd hF
  refine o_call0 call71 rfl (sub_cons 0 rfl sub_nil) (tri71 t.Kids sa1 sn1 sc1 v h1) rfl ?_
  rintro _ _ _ ⟨sa2, sn2, sc2, rfl, rfl, rfl⟩
  refine o_v (v_fieldAddr (v := .pointer (some ⟨b, 2, none⟩)) rfl (fun _ => by kernel_rfl)) rfl ?_
  refine o_store_box 2 rfl ty25 rfl rfl rfl rfl rfl rfl rfl ?_
  refine o_seq ?_
  refine c_seq ?_
  refine c_seq ?_
  refine c_region ?_
  refine o_v (v_fieldAddr (v := .pointer (some ⟨b, 2, none⟩)) rfl (fun _ => by kernel_rfl)) rfl ?_
  refine o_v (v_load_box 2 ty25 rfl rfl rfl rfl rfl) rfl ?_
  refine o_v (v_lenS (enc := eTree) v sl25 rfl (.r 0 _ rfl)) rfl ?_
  refine o_v (v_move rfl) rfl ?_
  refine o_seq ?_
  obtain ⟨o1, ho1, hF⟩ := bd hF
  refine c_cut (fun E N' => ∀ (sa4 : Option Addr) (sn4 sc4 : Nat), Sat E [(0, .agg #[.int .i64 t.Rule, .int .u8 t.Byte, .slice sa1 sn1 sc1]), (1, .pointer (some ⟨b, 0, none⟩)), (2, .pointer (some ⟨b1, 0, none⟩))] [.box b1 27 [.int .i64 0, .int .u8 0, .slice none 0 0], .box b 27 [.int .i64 t.Rule, .int .u8 t.Byte, .slice sa4 sn4 sc4], .row (.slice sa4 sn4 sc4) 27 3 (o1.map eTree)] [(.slice sa1 sn1 sc1, .slice 3 (t.Kids.map eTree))] N') (fun N1 hN1 => ?_) ?_
  · refine c_block ?_
    refine c_loopE (fun E j a w => ∃ (t11 : Int) (Kids_ : List Tree) (sa3 : Option Addr) (sn3 sc3 : Nat), F.trees.copied_l1 v g54 j t11 Kids_ = some o1 ∧ St E [(0, .agg #[.int .i64 t.Rule, .int .u8 t.Byte, .slice sa1 sn1 sc1]), (1, .pointer (some ⟨b, 0, none⟩)), (2, .pointer (some ⟨b1, 0, none⟩)), (10, .int .i64 (v.length : Int)), (11, .int .i64 t11)] [.box b1 27 [.int .i64 0, .int .u8 0, .slice none 0 0], .box b 27 [.int .i64 t.Rule, .int .u8 t.Byte, .slice sa3 sn3 sc3], .row (.slice sa3 sn3 sc3) 27 3 (Kids_.map eTree)] [(.slice sa1 sn1 sc1, .slice 3 (t.Kids.map eTree))] a w) k ?_ ?_
    · intro a w hs
      exact ⟨0, v, sa2, sn2, sc2, ho1, st_le [1, 1, 0] (le_cons rfl (le_cons rfl (le_cons rfl (le_cons rfl (le_cons rfl le_nil))))) rfl (sub_cons 0 rfl sub_nil) a w hs⟩
    · rintro j a w ⟨t11, Kids_, sa3, sn3, sc3, hL1, hs⟩
      cases j with
      | zero => cases hL1
      | succ j =>
        refine wc_app hs ?_
        unfold F.trees.copied_l1 at hL1
        refine c_seq ?_
        refine c_region ?_
        refine o_v (v_bin rfl rfl rfl) rfl ?_
        refine o_seq ?_
        refine c_seq ?_
        refine c_cond rfl (fun h2 => ?_) (fun h2 => ?_)
        · replace hL1 := ite_t h2 hL1
          refine c_skip ?_
          refine sat_wc ?_
          refine c_seq ?_
          refine c_block ?_
          refine c_seq ?_
          refine c_region ?_
          refine o_v (v_move rfl) rfl ?_
          refine o_v (v_assign rfl) rfl ?_
          refine o_seq ?_
          refine c_draw (n := 11) [0, 0] mixed rfl rfl ?_
          refine d_val 0 rfl pnok (by kernel_rfl) (by kernel_rfl) (by kernel_rfl) rfl (v_fieldAddr (v := .pointer (some ⟨b, 2, none⟩)) rfl (fun _ => by kernel_rfl)) ?_
          refine d_val 1 rfl pnok (by kernel_rfl) (by kernel_rfl) (by kernel_rfl) rfl (v_load_box 1 ty25 rfl rfl rfl rfl rfl) ?_
          refine d_val 2 rfl pnok (by kernel_rfl) (by kernel_rfl) (by kernel_rfl) rfl (v_move rfl) ?_
          refine d_val 3 rfl pnok (by kernel_rfl) (by kernel_rfl) (by kernel_rfl) rfl (v_fieldAddr (v := .pointer (some ⟨b, 2, none⟩)) rfl (fun _ => by kernel_rfl)) ?_
          refine d_val 4 rfl pnok (by kernel_rfl) (by kernel_rfl) (by kernel_rfl) rfl (v_load_box 1 ty25 rfl rfl rfl rfl rfl) ?_
          refine d_val 5 rfl pnok (by kernel_rfl) (by kernel_rfl) (by kernel_rfl) rfl (v_move rfl) ?_
          refine d_one 6 rfl (by kernel_rfl) ?_
          refine ite_some hL1 fun h3 hL1 => ?_
          refine o_v (v_indexAddr_s (xs := Kids_) (enc := eTree) sl25 rfl rfl (.r 2 _ rfl) h3) rfl ?_
          refine d_next [0, 0] 0 rfl rfl ?_
          refine d_one 7 rfl (by kernel_rfl) ?_
          refine o_load_s (ds := [.int .i64 ((at_ Kids_ t11).Rule), .int .u8 ((at_ Kids_ t11).Byte), .slice 3 (((at_ Kids_ t11).Kids).map eTree)]) (xs := Kids_) (enc := eTree) ty27 rfl (.r 2 _ rfl) h3 (by simp only [eTree_eq] <;> rfl) rfl rfl rfl rfl rfl fun sa5 sn5 sc5 => ?_
          refine d_next [0, 0] 1 rfl rfl ?_
          refine d_one 8 rfl (by kernel_rfl) ?_
          obtain ⟨v1, h4, hL1⟩ := bd hL1
          refine o_call0 call54 rfl (sub_cons 0 rfl sub_nil) (hg54 (at_ Kids_ t11) sa5 sn5 sc5 v1 h4) rfl ?_
          rintro _ _ _ ⟨sa6, sn6, sc6, rfl, rfl, rfl⟩
          refine d_next [0, 0] 2 rfl rfl ?_
          refine d_one 9 rfl (by kernel_rfl) ?_
          refine o_v (v_indexAddr_s (xs := Kids_) (enc := eTree) sl25 rfl rfl (.r 2 _ rfl) h3) rfl ?_
          refine d_next [0, 0] 2 rfl rfl ?_
          refine d_one 10 rfl (by kernel_rfl) ?_
          refine o_store_s (xs := Kids_) (enc := eTree) 2 v1 rfl ty27 rfl rfl rfl rfl h3 (.s rfl (.s rfl (.f 0 rfl (.nil)))) rfl rfl (by simp only [eTree_eq] <;> rfl) ?_
          refine d_next [0, 0] 2 rfl rfl ?_
          refine d_done (by kernel_rfl) ?_
          refine sat_wc ?_
          refine c_region ?_
          refine o_v (v_bin rfl rfl rfl) rfl ?_
          refine o_v (v_move rfl) rfl ?_
          refine o_nil ?_
          intro a w hs
          exact ⟨j, Nat.lt_succ_self j, IntKind.wrap .i64 (t11 + 1), set_ Kids_ t11 v1, sa3, sn3, sc3, hL1, st_le [0, 0, 0] (le_cons rfl (le_cons rfl (le_cons rfl (le_cons rfl (le_cons rfl le_nil))))) rfl (sub_cons 2 rfl sub_nil) a w hs⟩
        · replace hL1 := ite_f h2 hL1
          refine c_exit0 ?_
          cases hL1
          refine s_st ?_ (hN1 sa3 sn3 sc3)
          exact st_le [0, 0, 0] (le_cons rfl (le_cons rfl (le_cons rfl le_nil))) rfl (sub_cons 0 rfl sub_nil)
  · intro sa4 sn4 sc4
    refine sat_wc ?_
    refine c_seq ?_
    refine c_region ?_
    refine o_v (v_load_box 1 ty27 rfl rfl rfl rfl rfl) rfl ?_
    refine o_store_box 0 rfl ty27 rfl rfl rfl rfl rfl rfl rfl ?_
    refine o_seq ?_
    refine c_ret ?_
    cases hF
    refine s_st (st_freeze 2 rfl) ?_
    refine s_ret1 rfl (r_cell 0 rfl ty27 rfl rfl rfl rfl) fun a w hs => ?_
    exact fin_sel hs [] ⟨sa4, sn4, sc4, rfl, rfl, rfl⟩ rfl (sub_cons 0 rfl sub_nil)
theorem tri54 (k : Nat) : (∀ (t : Tree) (sa1 : Option Addr) (sn1 sc1 : Nat) (r : Tree), F.trees.copied k t = some r → Tri Tryd.prog 54 [.agg #[.int .i64 t.Rule, .int .u8 t.Byte, .slice sa1 sn1 sc1]] [] [(.slice sa1 sn1 sc1, .slice 3 (t.Kids.map eTree))] (fun o H Φ => ∃ (sa7 : Option Addr) (sn7 sc7 : Nat), o = .ret (.agg #[.int .i64 r.Rule, .int .u8 r.Byte, .slice sa7 sn7 sc7]) ∧ H = [] ∧ Φ = [(.slice sa7 sn7 sc7, .slice 3 (r.Kids.map eTree))])) := by
  induction k with
  | zero => exact fun _ _ _ _ _ h => nomatch (show none = some _ from h)
  | succ k ih => exact tri54_B k _ ih
theorem tri24 (k : Nat) (t : Tree) (path : List Int) (sa1 : Option Addr) (sn1 sc1 : Nat) (sa2 : Option Addr) (sn2 sc2 : Nat) (r : Tree × Int) (hF : F.trees.At k t path = some r) :
    Tri Tryd.prog 24 [.agg #[.int .i64 t.Rule, .int .u8 t.Byte, .slice sa1 sn1 sc1], .slice sa2 sn2 sc2] [] [(.slice sa1 sn1 sc1, .slice 3 (t.Kids.map eTree)), (.slice sa2 sn2 sc2, .slice 1 (path.map eI64))] (fun o H Φ => ∃ (sa7 : Option Addr) (sn7 sc7 : Nat), o = .ret (.tuple #[.agg #[.int .i64 r.1.Rule, .int .u8 r.1.Byte, .slice sa7 sn7 sc7], .int .i64 r.2]) ∧ H = [] ∧ Φ = [(.slice sa7 sn7 sc7, .slice 3 (r.1.Kids.map eTree))]) := by
  unfold F.trees.At at hF
  refine tri_intro (n := 32) Tryd.func24 rfl Tryd.ntmps24 rfl fun w X => ?_
  refine c_seq ?_
  refine c_region ?_
  refine o_box rfl rfl rfl fun b => ?_
  refine o_alloc zero27 rfl rfl fun b1 => ?_
  refine o_v (v_assign rfl) rfl ?_
  refine o_seq ?_
  refine c_seq ?_
  refine c_seq ?_
  refine c_region ?_
  refine o_v (v_move rfl) rfl ?_
  refine o_v (v_lenS (enc := eI64) path sl44 rfl (.f 1 rfl)) rfl ?_
  refine o_v (v_move rfl) rfl ?_
  refine o_seq ?_
  obtain ⟨o1, ho1, hF⟩ := bd hF
  refine c_cut (fun E N' => ∀ (d1 : Int × Int × (List Tree)) (sa4 : Option Addr) (sn4 sc4 : Nat), o1 = .done d1 → Sat E [(0, .agg #[.int .i64 t.Rule, .int .u8 t.Byte, .slice sa1 sn1 sc1]), (1, .slice sa2 sn2 sc2), (2, .pointer (some ⟨b, 0, none⟩)), (4, .pointer (some ⟨b1, 0, none⟩)), (5, .int .i64 0), (8, .slice sa2 sn2 sc2)] [.box b1 27 [.int .i64 0, .int .u8 0, .slice none 0 0], .box b 27 [.int .i64 d1.1, .int .u8 d1.2.1, .slice sa4 sn4 sc4]] [(.slice sa1 sn1 sc1, .slice 3 (t.Kids.map eTree)), (.slice sa2 sn2 sc2, .slice 1 (path.map eI64)), (.slice sa4 sn4 sc4, .slice 3 (d1.2.2.map eTree))] N') (fun N1 hN1 => ?_) ?_
  · refine c_block ?_
    refine c_loopE (fun E j a w => ∃ (t10 : Int) (Rule_ : Int) (Byte_ : Int) (Kids_ : List Tree) (sa3 : Option Addr) (sn3 sc3 : Nat), F.trees.At_l1 path j t10 Rule_ Byte_ Kids_ = some o1 ∧ St E [(0, .agg #[.int .i64 t.Rule, .int .u8 t.Byte, .slice sa1 sn1 sc1]), (1, .slice sa2 sn2 sc2), (2, .pointer (some ⟨b, 0, none⟩)), (4, .pointer (some ⟨b1, 0, none⟩)), (5, .int .i64 0), (8, .slice sa2 sn2 sc2), (9, .int .i64 (path.length : Int)), (10, .int .i64 t10)] [.box b1 27 [.int .i64 0, .int .u8 0, .slice none 0 0], .box b 27 [.int .i64 Rule_, .int .u8 Byte_, .slice sa3 sn3 sc3]] [(.slice sa1 sn1 sc1, .slice 3 (t.Kids.map eTree)), (.slice sa2 sn2 sc2, .slice 1 (path.map eI64)), (.slice sa3 sn3 sc3, .slice 3 (Kids_.map eTree))] a w) k ?_ ?_
    · intro a w hs
      exact ⟨0, t.Rule, t.Byte, t.Kids, sa1, sn1, sc1, ho1, st_le [0, 0] (le_cons rfl (le_cons rfl (le_cons rfl (le_cons rfl (le_cons rfl (le_cons rfl (le_cons rfl (le_cons rfl le_nil)))))))) rfl (sub_cons 0 rfl (sub_cons 1 rfl (sub_cons 0 rfl sub_nil))) a w hs⟩
    · rintro j a w ⟨t10, Rule_, Byte_, Kids_, sa3, sn3, sc3, hL1, hs⟩
      cases j with
      | zero => cases hL1
      | succ j =>
        refine wc_app hs ?_
        unfold F.trees.At_l1 at hL1
        refine c_seq ?_
        refine c_region ?_
        refine o_v (v_bin rfl rfl rfl) rfl ?_
        refine o_seq ?_
        refine c_seq ?_
        refine c_cond rfl (fun h1 => ?_) (fun h1 => ?_)
        · replace hL1 := ite_t h1 hL1
          refine c_skip ?_
          refine sat_wc ?_
          refine c_seq ?_
          refine c_block ?_
          refine c_seq ?_
          refine c_region ?_
          refine ite_some hL1 fun h2 hL1 => ?_
          refine o_v (v_indexAddr_s (xs := path) (enc := eI64) sl44 rfl rfl (.f 1 rfl) h2) rfl ?_
          refine o_v (v_load_s (xs := path) (enc := eI64) ty3 rfl (.f 1 rfl) h2 rfl rfl rfl rfl rfl rfl rfl) rfl ?_
          refine o_v (v_assign rfl) rfl ?_
          refine o_seq ?_
          refine c_seq ?_
          refine c_seq ?_
          refine c_cut (fun E N' => ∀ (t22 : Bool), F.trees.At_j2 path t10 Kids_ (F.trees.At_l1 path j) t22 = some o1 → Sat E [(0, .agg #[.int .i64 t.Rule, .int .u8 t.Byte, .slice sa1 sn1 sc1]), (1, .slice sa2 sn2 sc2), (2, .pointer (some ⟨b, 0, none⟩)), (4, .pointer (some ⟨b1, 0, none⟩)), (5, .int .i64 0), (7, .int .i64 (at_ path t10)), (8, .slice sa2 sn2 sc2), (9, .int .i64 (path.length : Int)), (10, .int .i64 t10), (22, .bool t22)] [.box b1 27 [.int .i64 0, .int .u8 0, .slice none 0 0], .box b 27 [.int .i64 Rule_, .int .u8 Byte_, .slice sa3 sn3 sc3]] [(.slice sa1 sn1 sc1, .slice 3 (t.Kids.map eTree)), (.slice sa2 sn2 sc2, .slice 1 (path.map eI64)), (.slice sa3 sn3 sc3, .slice 3 (Kids_.map eTree))] N') (fun N2 hN2 => ?_) ?_
          · refine c_region ?_
            refine o_v (v_move rfl) rfl ?_
            refine o_v (v_bin rfl rfl rfl) rfl ?_
            refine o_v (v_move rfl) rfl ?_
            refine o_split (t := 16) rfl (fun h5 => ?_) (fun h5 => ?_)
            · replace hL1 := ite_t h5 hL1
              refine o_off rfl rfl (by decide) rfl ?_
              refine o_off rfl rfl (by decide) rfl ?_
              refine o_off rfl rfl (by decide) rfl ?_
              refine o_off rfl rfl (by decide) rfl ?_
              refine o_off rfl rfl (by decide) rfl ?_
              refine o_v (v_pick_t rfl rfl) rfl ?_
              refine o_nil ?_
              refine s_st ?_ (hN2 true hL1)
              exact st_le [0, 0] (le_cons rfl (le_cons rfl (le_cons rfl (le_cons rfl (le_cons rfl (le_cons rfl (le_cons rfl (le_cons rfl (le_cons rfl (le_cons rfl le_nil)))))))))) rfl (sub_cons 0 rfl (sub_cons 1 rfl (sub_cons 2 rfl sub_nil)))
            · replace hL1 := ite_f h5 hL1
              refine o_on rfl rfl ?_
              refine o_v (v_move rfl) rfl ?_
              refine o_on rfl rfl ?_
              refine o_v (v_fieldAddr (v := .pointer (some ⟨b, 2, none⟩)) rfl (fun _ => by kernel_rfl)) rfl ?_
              refine o_on rfl rfl ?_
              refine o_v (v_load_box 1 ty25 rfl rfl rfl rfl rfl) rfl ?_
              refine o_on rfl rfl ?_
              refine o_v (v_lenS (enc := eTree) Kids_ sl25 rfl (.f 2 rfl)) rfl ?_
              refine o_on rfl rfl ?_
              refine o_v (v_bin rfl rfl rfl) rfl ?_
              refine o_v (v_pick_f rfl rfl) rfl ?_
              refine o_nil ?_
              refine s_st ?_ (hN2 (decide ((Kids_.length : Int) ≤ (at_ path t10))) hL1)
              exact st_le [0, 0] (le_cons rfl (le_cons rfl (le_cons rfl (le_cons rfl (le_cons rfl (le_cons rfl (le_cons rfl (le_cons rfl (le_cons rfl (le_cons rfl le_nil)))))))))) rfl (sub_cons 0 rfl (sub_cons 1 rfl (sub_cons 2 rfl sub_nil)))
          · intro t22 hL1
            unfold F.trees.At_j2 at hL1
            refine sat_wc ?_
            refine c_cond rfl (fun h3 => ?_) (fun h3 => ?_)
            · replace hL1 := ite_t h3 hL1
              refine c_seq ?_
              refine c_region ?_
              refine o_v (v_build (v := .agg #[.int .i64 0, .int .u8 0, .slice none 0 0]) rfl (fun _ => by kernel_rfl)) rfl ?_
              refine o_store_box 0 rfl ty27 rfl rfl rfl rfl rfl rfl rfl ?_
              refine o_v (v_assign rfl) rfl ?_
              refine o_seq ?_
              refine c_ret ?_
              cases hL1
              obtain rfl := lrf_ret hF
              refine s_st (st_nilfact 3) ?_
              refine s_ret2 rfl (r_cell 0 rfl ty27 rfl rfl rfl rfl) (r_tmp rfl) fun a w hs => ?_
              exact fin_sel hs [] ⟨none, 0, 0, rfl, rfl, rfl⟩ rfl (sub_cons 0 rfl sub_nil)
            · replace hL1 := ite_f h3 hL1
              refine c_skip ?_
              refine sat_wc ?_
              refine c_region ?_
              refine o_v (v_fieldAddr (v := .pointer (some ⟨b, 2, none⟩)) rfl (fun _ => by kernel_rfl)) rfl ?_
              refine o_v (v_load_box 1 ty25 rfl rfl rfl rfl rfl) rfl ?_
              refine o_v (v_move rfl) rfl ?_
              refine ite_some hL1 fun h4 hL1 => ?_
              refine o_v (v_indexAddr_s (xs := Kids_) (enc := eTree) sl25 rfl rfl (.f 2 rfl) h4) rfl ?_
              refine o_load_s (ds := [.int .i64 ((at_ Kids_ (at_ path t10)).Rule), .int .u8 ((at_ Kids_ (at_ path t10)).Byte), .slice 3 (((at_ Kids_ (at_ path t10)).Kids).map eTree)]) (xs := Kids_) (enc := eTree) ty27 rfl (.f 2 rfl) h4 (by simp only [eTree_eq] <;> rfl) rfl rfl rfl rfl rfl fun sa5 sn5 sc5 => ?_
              refine o_store_box 1 rfl ty27 rfl rfl rfl rfl rfl rfl rfl ?_
              refine o_nil ?_
              refine sat_wc ?_
              refine c_region ?_
              refine o_v (v_bin rfl rfl rfl) rfl ?_
              refine o_v (v_move rfl) rfl ?_
              refine o_nil ?_
              intro a w hs
              exact ⟨j, Nat.lt_succ_self j, IntKind.wrap .i64 (t10 + 1), (at_ Kids_ (at_ path t10)).Rule, (at_ Kids_ (at_ path t10)).Byte, (at_ Kids_ (at_ path t10)).Kids, sa5, sn5, sc5, hL1, st_le [0, 0] (le_cons rfl (le_cons rfl (le_cons rfl (le_cons rfl (le_cons rfl (le_cons rfl (le_cons rfl (le_cons rfl le_nil)))))))) rfl (sub_cons 1 rfl (sub_cons 2 rfl (sub_cons 0 rfl sub_nil))) a w hs⟩
        · replace hL1 := ite_f h1 hL1
          refine c_exit0 ?_
          cases hL1
          refine s_st ?_ (hN1 (Rule_, Byte_, Kids_) sa3 sn3 sc3 rfl)
          exact st_le [0, 0] (le_cons rfl (le_cons rfl (le_cons rfl (le_cons rfl (le_cons rfl (le_cons rfl le_nil)))))) rfl (sub_cons 0 rfl (sub_cons 1 rfl (sub_cons 2 rfl sub_nil)))
  · intro d1 sa4 sn4 sc4 hd
    subst hd
    replace hF := lrf_done hF
    refine sat_wc ?_
    refine c_seq ?_
    refine c_region ?_
    refine o_v (v_load_box 1 ty27 rfl rfl rfl rfl rfl) rfl ?_
    obtain ⟨v, h6, hF⟩ := bd hF
    refine o_call0 call54 rfl (sub_cons 2 rfl sub_nil) (tri54 k (Tree.mk d1.1 d1.2.1 d1.2.2) sa4 sn4 sc4 v h6) rfl ?_
    rintro _ _ _ ⟨sa6, sn6, sc6, rfl, rfl, rfl⟩
    refine o_store_box 0 rfl ty27 rfl rfl rfl rfl rfl rfl rfl ?_
    refine o_v (v_assign rfl) rfl ?_
    refine o_seq ?_
    refine c_ret ?_
    cases hF
    refine s_ret2 rfl (r_cell 0 rfl ty27 rfl rfl rfl rfl) (r_tmp rfl) fun a w hs => ?_
    exact fin_sel hs [] ⟨sa6, sn6, sc6, rfl, rfl, rfl⟩ rfl (sub_cons 0 rfl sub_nil)
theorem tri33_B (k : Nat) (g33 : Tree → Option (List Int))
    (hg33 : ∀ (t : Tree) (sa1 : Option Addr) (sn1 sc1 : Nat) (r : List Int), g33 t = some r → Tri Tryd.prog 33 [.agg #[.int .i64 t.Rule, .int .u8 t.Byte, .slice sa1 sn1 sc1]] [] [(.slice sa1 sn1 sc1, .slice 3 (t.Kids.map eTree))] (fun o H Φ => ∃ (sa8 : Option Addr) (sn8 sc8 : Nat), o = .ret (.slice sa8 sn8 sc8) ∧ H = [.row (.slice sa8 sn8 sc8) 5 1 (r.map eU8)] ∧ Φ = [])) (t : Tree) (sa1 : Option Addr) (sn1 sc1 : Nat) (r : List Int) (hF : F.trees.Yield_B k g33 t = some r) :
    Tri Tryd.prog 33 [.agg #[.int .i64 t.Rule, .int .u8 t.Byte, .slice sa1 sn1 sc1]] [] [(.slice sa1 sn1 sc1, .slice 3 (t.Kids.map eTree))] (fun o H Φ => ∃ (sa8 : Option Addr) (sn8 sc8 : Nat), o = .ret (.slice sa8 sn8 sc8) ∧ H = [.row (.slice sa8 sn8 sc8) 5 1 (r.map eU8)] ∧ Φ = []) := by
  unfold F.trees.Yield_B at hF
  refine tri_intro (n := 25) Tryd.func33 rfl Tryd.ntmps33 rfl fun w X => ?_
  refine c_seq ?_
  refine c_region ?_
  refine o_box rfl rfl rfl fun b => ?_
  refine o_v (v_assign rfl) rfl ?_
  refine o_seq ?_
  refine c_seq ?_
  refine c_seq ?_
  refine c_region ?_
  refine o_v (v_fieldAddr (v := .pointer (some ⟨b, 0, none⟩)) rfl (fun _ => by kernel_rfl)) rfl ?_
  refine o_v (v_load_box 0 ty3 rfl rfl rfl rfl rfl) rfl ?_
  refine o_v (v_bin rfl rfl rfl) rfl ?_
  refine o_seq ?_
  refine c_cond rfl (fun h1 => ?_) (fun h1 => ?_)
  · replace hF := ite_t h1 hF
    refine c_seq ?_
    refine c_region ?_
    refine o_v (v_fieldAddr (v := .pointer (some ⟨b, 1, none⟩)) rfl (fun _ => by kernel_rfl)) rfl ?_
    refine o_v (v_load_box 0 ty5 rfl rfl rfl rfl rfl) rfl ?_
    refine o_buildSlice (enc := eU8) ([t.Byte] : List Int) [.int .u8 t.Byte] sl58 rfl (fun _ => by kernel_rfl) rfl rfl rfl (.s rfl (.nil)) rfl fun sa2 sn2 sc2 => ?_
    refine o_v (v_assign rfl) rfl ?_
    refine o_seq ?_
    refine c_ret ?_
    cases hF
    refine s_ret1 rfl (r_tmp rfl) fun a w hs => ?_
    exact fin_sel hs [0] ⟨sa2, sn2, sc2, rfl, rfl, rfl⟩ rfl sub_nil
  · replace hF := ite_f h1 hF
    refine c_skip ?_
    refine sat_wc ?_
    refine c_seq ?_
    refine c_region ?_
    refine o_v (v_assign rfl) rfl ?_
    refine o_seq ?_
    refine c_seq ?_
    refine c_seq ?_
    refine c_region ?_
    refine o_v (v_fieldAddr (v := .pointer (some ⟨b, 2, none⟩)) rfl (fun _ => by kernel_rfl)) rfl ?_
    refine o_v (v_load_box 0 ty25 rfl rfl rfl rfl rfl) rfl ?_
    refine o_v (v_lenS (enc := eTree) t.Kids sl25 rfl (.f 0 rfl)) rfl ?_
    refine o_v (v_move rfl) rfl ?_
    refine o_seq ?_
    obtain ⟨o1, ho1, hF⟩ := bd hF
    refine c_cut (fun E N' => ∀ (sa4 : Option Addr) (sn4 sc4 : Nat), Sat E [(0, .agg #[.int .i64 t.Rule, .int .u8 t.Byte, .slice sa1 sn1 sc1]), (1, .pointer (some ⟨b, 0, none⟩)), (2, .slice none 0 0), (3, .slice sa4 sn4 sc4), (13, .slice sa1 sn1 sc1)] [.box b 27 [.int .i64 t.Rule, .int .u8 t.Byte, .slice sa1 sn1 sc1], .row (.slice sa4 sn4 sc4) 5 1 (o1.map eU8)] [(.slice sa1 sn1 sc1, .slice 3 (t.Kids.map eTree))] N') (fun N1 hN1 => ?_) ?_
    · refine c_block ?_
      refine c_loopE (fun E j a w => ∃ (out : List Int) (t15 : Int) (sa3 : Option Addr) (sn3 sc3 : Nat), F.trees.Yield_l1 t g33 j out t15 = some o1 ∧ St E [(0, .agg #[.int .i64 t.Rule, .int .u8 t.Byte, .slice sa1 sn1 sc1]), (1, .pointer (some ⟨b, 0, none⟩)), (2, .slice none 0 0), (3, .slice sa3 sn3 sc3), (13, .slice sa1 sn1 sc1), (14, .int .i64 (t.Kids.length : Int)), (15, .int .i64 t15)] [.box b 27 [.int .i64 t.Rule, .int .u8 t.Byte, .slice sa1 sn1 sc1], .row (.slice sa3 sn3 sc3) 5 1 (out.map eU8)] [(.slice sa1 sn1 sc1, .slice 3 (t.Kids.map eTree))] a w) k ?_ ?_
      · refine s_st (st_nilrow 5 1) ?_
        intro a w hs
        exact ⟨([] : List Int), 0, none, 0, 0, ho1, st_le [1, 0] (le_cons rfl (le_cons rfl (le_cons rfl (le_cons rfl (le_cons rfl (le_cons rfl (le_cons rfl le_nil))))))) rfl (sub_cons 0 rfl sub_nil) a w hs⟩
      · rintro j a w ⟨out, t15, sa3, sn3, sc3, hL1, hs⟩
        cases j with
        | zero => cases hL1
        | succ j =>
          refine wc_app hs ?_
          unfold F.trees.Yield_l1 at hL1
          refine c_seq ?_
          refine c_region ?_
          refine o_v (v_bin rfl rfl rfl) rfl ?_
          refine o_seq ?_
          refine c_seq ?_
          refine c_cond rfl (fun h2 => ?_) (fun h2 => ?_)
          · replace hL1 := ite_t h2 hL1
            refine c_skip ?_
            refine sat_wc ?_
            refine c_seq ?_
            refine c_block ?_
            refine c_seq ?_
            refine c_region ?_
            refine ite_some hL1 fun h3 hL1 => ?_
            refine o_v (v_indexAddr_s (xs := t.Kids) (enc := eTree) sl25 rfl rfl (.f 0 rfl) h3) rfl ?_
            refine o_load_s (ds := [.int .i64 ((at_ t.Kids t15).Rule), .int .u8 ((at_ t.Kids t15).Byte), .slice 3 (((at_ t.Kids t15).Kids).map eTree)]) (xs := t.Kids) (enc := eTree) ty27 rfl (.f 0 rfl) h3 (by simp only [eTree_eq] <;> rfl) rfl rfl rfl rfl rfl fun sa5 sn5 sc5 => ?_
            refine o_alloc zero27 rfl rfl fun b1 => ?_
            refine o_store_box 0 rfl ty27 rfl rfl rfl rfl rfl rfl rfl ?_
            refine o_seq ?_
            refine c_region ?_
            refine o_v (v_move rfl) rfl ?_
            refine o_v (v_load_box 0 ty27 rfl rfl rfl rfl rfl) rfl ?_
            obtain ⟨v, h4, hL1⟩ := bd hL1
            refine o_call0 call33 rfl (sub_cons 0 rfl sub_nil) (hg33 (at_ t.Kids t15) sa5 sn5 sc5 v h4) rfl ?_
            rintro _ _ _ ⟨sa6, sn6, sc6, rfl, rfl, rfl⟩
            refine ite_some hL1 fun h5 hL1 => ?_
            refine ite_some hL1 fun h6 hL1 => ?_
            refine o_append (enc := eU8) (xs := out) (ys := v) 3 sl58 rfl rfl rfl (.r 0 _ rfl) h5 h6 rfl fun sa7 sn7 sc7 => ?_
            refine o_v (v_assign rfl) rfl ?_
            refine o_nil ?_
            refine sat_wc ?_
            refine c_region ?_
            refine o_v (v_bin rfl rfl rfl) rfl ?_
            refine o_v (v_move rfl) rfl ?_
            refine o_nil ?_
            intro a w hs
            exact ⟨j, Nat.lt_succ_self j, (out ++ v), IntKind.wrap .i64 (t15 + 1), sa7, sn7, sc7, hL1, st_le [2, 2] (le_cons rfl (le_cons rfl (le_cons rfl (le_cons rfl (le_cons rfl (le_cons rfl (le_cons rfl le_nil))))))) rfl (sub_cons 1 rfl sub_nil) a w hs⟩
          · replace hL1 := ite_f h2 hL1
            refine c_exit0 ?_
            cases hL1
            refine s_st ?_ (hN1 sa3 sn3 sc3)
            exact st_le [0, 0] (le_cons rfl (le_cons rfl (le_cons rfl (le_cons rfl (le_cons rfl le_nil))))) rfl (sub_cons 0 rfl sub_nil)
    · intro sa4 sn4 sc4
      refine sat_wc ?_
      refine c_seq ?_
      refine c_region ?_
      refine o_v (v_move rfl) rfl ?_
      refine o_v (v_assign rfl) rfl ?_
      refine o_seq ?_
      refine c_ret ?_
      cases hF
      refine s_ret1 rfl (r_tmp rfl) fun a w hs => ?_
      exact fin_sel hs [1] ⟨sa4, sn4, sc4, rfl, rfl, rfl⟩ rfl sub_nil
theorem tri33 (k : Nat) : (∀ (t : Tree) (sa1 : Option Addr) (sn1 sc1 : Nat) (r : List Int), F.trees.Yield k t = some r → Tri Tryd.prog 33 [.agg #[.int .i64 t.Rule, .int .u8 t.Byte, .slice sa1 sn1 sc1]] [] [(.slice sa1 sn1 sc1, .slice 3 (t.Kids.map eTree))] (fun o H Φ => ∃ (sa8 : Option Addr) (sn8 sc8 : Nat), o = .ret (.slice sa8 sn8 sc8) ∧ H = [.row (.slice sa8 sn8 sc8) 5 1 (r.map eU8)] ∧ Φ = [])) := by
  induction k with
  | zero => exact fun _ _ _ _ _ h => nomatch (show none = some _ from h)
  | succ k ih => exact tri33_B k _ ih
theorem tri39 (k : Nat) (g_ : Gram) (sa1 : Option Addr) (sn1 sc1 : Nat) (r : Int) (hF : F.facts.Right k g_ = some r) :
    Tri Tryd.prog 39 [.agg #[.int .i64 g_.Nts, .int .i64 g_.Start, .slice sa1 sn1 sc1]] [] [(.slice sa1 sn1 sc1, .slice 2 (g_.Rules.map eRule))] (fun o H Φ => o = .ret (.int .i64 r) ∧ H = [] ∧ Φ = []) := by
  unfold F.facts.Right at hF
  refine tri_intro (n := 86) Tryd.func39 rfl Tryd.ntmps39 rfl fun w X => ?_
  refine c_seq ?_
  refine c_region ?_
  refine o_box rfl rfl rfl fun b => ?_
  refine o_v (v_assign rfl) rfl ?_
  refine o_seq ?_
  refine c_seq ?_
  refine c_seq ?_
  refine c_cut (fun E N' => ∀ (t32 : Bool), F.facts.Right_j1 k g_ t32 = some r → Sat E [(0, .agg #[.int .i64 g_.Nts, .int .i64 g_.Start, .slice sa1 sn1 sc1]), (1, .pointer (some ⟨b, 0, none⟩)), (2, .int .i64 0), (32, .bool t32)] [.box b 24 [.int .i64 g_.Nts, .int .i64 g_.Start, .slice sa1 sn1 sc1]] [(.slice sa1 sn1 sc1, .slice 2 (g_.Rules.map eRule))] N') (fun N4 hN4 => ?_) ?_
  · refine c_region ?_
    refine o_v (v_fieldAddr (v := .pointer (some ⟨b, 0, none⟩)) rfl (fun _ => by kernel_rfl)) rfl ?_
    refine o_v (v_load_box 0 ty3 rfl rfl rfl rfl rfl) rfl ?_
    refine o_v (v_bin rfl rfl rfl) rfl ?_
    refine o_v (v_move rfl) rfl ?_
    refine o_split (t := 10) rfl (fun h13 => ?_) (fun h13 => ?_)
    · replace hF := ite_t h13 hF
      refine o_off rfl rfl (by decide) rfl ?_
      refine o_off rfl rfl (by decide) rfl ?_
      refine o_off rfl rfl (by decide) rfl ?_
      refine o_v (v_pick_t rfl rfl) rfl ?_
      refine o_v (v_move rfl) rfl ?_
      refine o_off rfl rfl (by decide) rfl ?_
      refine o_off rfl rfl (by decide) rfl ?_
      refine o_off rfl rfl (by decide) rfl ?_
      refine o_v (v_pick_t rfl rfl) rfl ?_
      refine o_v (v_move rfl) rfl ?_
      refine o_off rfl rfl (by decide) rfl ?_
      refine o_off rfl rfl (by decide) rfl ?_
      refine o_off rfl rfl (by decide) rfl ?_
      refine o_off rfl rfl (by decide) rfl ?_
      refine o_off rfl rfl (by decide) rfl ?_
      refine o_v (v_pick_t rfl rfl) rfl ?_
      refine o_v (v_move rfl) rfl ?_
      refine o_off rfl rfl (by decide) rfl ?_
      refine o_off rfl rfl (by decide) rfl ?_
      refine o_off rfl rfl (by decide) rfl ?_
      refine o_off rfl rfl (by decide) rfl ?_
      refine o_v (v_pick_t rfl rfl) rfl ?_
      refine o_nil ?_
      refine s_st ?_ (hN4 true hF)
      exact st_le [0] (le_cons rfl (le_cons rfl (le_cons rfl (le_cons rfl le_nil)))) rfl (sub_cons 0 rfl sub_nil)
    · replace hF := ite_f h13 hF
      refine o_on rfl rfl ?_
      refine o_v (v_fieldAddr (v := .pointer (some ⟨b, 0, none⟩)) rfl (fun _ => by kernel_rfl)) rfl ?_
      refine o_on rfl rfl ?_
      refine o_v (v_load_box 0 ty3 rfl rfl rfl rfl rfl) rfl ?_
      refine o_on rfl rfl ?_
      refine o_v (v_bin rfl rfl rfl) rfl ?_
      refine o_v (v_pick_f rfl rfl) rfl ?_
      refine o_v (v_move rfl) rfl ?_
      refine o_split (t := 15) rfl (fun h14 => ?_) (fun h14 => ?_)
      · replace hF := ite_t h14 hF
        refine o_off rfl rfl (by decide) rfl ?_
        refine o_off rfl rfl (by decide) rfl ?_
        refine o_off rfl rfl (by decide) rfl ?_
        refine o_v (v_pick_t rfl rfl) rfl ?_
        refine o_v (v_move rfl) rfl ?_
        refine o_off rfl rfl (by decide) rfl ?_
        refine o_off rfl rfl (by decide) rfl ?_
        refine o_off rfl rfl (by decide) rfl ?_
        refine o_off rfl rfl (by decide) rfl ?_
        refine o_off rfl rfl (by decide) rfl ?_
        refine o_v (v_pick_t rfl rfl) rfl ?_
        refine o_v (v_move rfl) rfl ?_
        refine o_off rfl rfl (by decide) rfl ?_
        refine o_off rfl rfl (by decide) rfl ?_
        refine o_off rfl rfl (by decide) rfl ?_
        refine o_off rfl rfl (by decide) rfl ?_
        refine o_v (v_pick_t rfl rfl) rfl ?_
        refine o_nil ?_
        refine s_st ?_ (hN4 true hF)
        exact st_le [0] (le_cons rfl (le_cons rfl (le_cons rfl (le_cons rfl le_nil)))) rfl (sub_cons 0 rfl sub_nil)
      · replace hF := ite_f h14 hF
        refine o_on rfl rfl ?_
        refine o_v (v_fieldAddr (v := .pointer (some ⟨b, 1, none⟩)) rfl (fun _ => by kernel_rfl)) rfl ?_
        refine o_on rfl rfl ?_
        refine o_v (v_load_box 0 ty3 rfl rfl rfl rfl rfl) rfl ?_
        refine o_on rfl rfl ?_
        refine o_v (v_bin rfl rfl rfl) rfl ?_
        refine o_v (v_pick_f rfl rfl) rfl ?_
        refine o_v (v_move rfl) rfl ?_
        refine o_split (t := 20) rfl (fun h15 => ?_) (fun h15 => ?_)
        · replace hF := ite_t h15 hF
          refine o_off rfl rfl (by decide) rfl ?_
          refine o_off rfl rfl (by decide) rfl ?_
          refine o_off rfl rfl (by decide) rfl ?_
          refine o_off rfl rfl (by decide) rfl ?_
          refine o_off rfl rfl (by decide) rfl ?_
          refine o_v (v_pick_t rfl rfl) rfl ?_
          refine o_v (v_move rfl) rfl ?_
          refine o_off rfl rfl (by decide) rfl ?_
          refine o_off rfl rfl (by decide) rfl ?_
          refine o_off rfl rfl (by decide) rfl ?_
          refine o_off rfl rfl (by decide) rfl ?_
          refine o_v (v_pick_t rfl rfl) rfl ?_
          refine o_nil ?_
          refine s_st ?_ (hN4 true hF)
          exact st_le [0] (le_cons rfl (le_cons rfl (le_cons rfl (le_cons rfl le_nil)))) rfl (sub_cons 0 rfl sub_nil)
        · replace hF := ite_f h15 hF
          refine o_on rfl rfl ?_
          refine o_v (v_fieldAddr (v := .pointer (some ⟨b, 1, none⟩)) rfl (fun _ => by kernel_rfl)) rfl ?_
          refine o_on rfl rfl ?_
          refine o_v (v_load_box 0 ty3 rfl rfl rfl rfl rfl) rfl ?_
          refine o_on rfl rfl ?_
          refine o_v (v_fieldAddr (v := .pointer (some ⟨b, 0, none⟩)) rfl (fun _ => by kernel_rfl)) rfl ?_
          refine o_on rfl rfl ?_
          refine o_v (v_load_box 0 ty3 rfl rfl rfl rfl rfl) rfl ?_
          refine o_on rfl rfl ?_
          refine o_v (v_bin rfl rfl rfl) rfl ?_
          refine o_v (v_pick_f rfl rfl) rfl ?_
          refine o_v (v_move rfl) rfl ?_
          refine o_split (t := 27) rfl (fun h16 => ?_) (fun h16 => ?_)
          · replace hF := ite_t h16 hF
            refine o_off rfl rfl (by decide) rfl ?_
            refine o_off rfl rfl (by decide) rfl ?_
            refine o_off rfl rfl (by decide) rfl ?_
            refine o_off rfl rfl (by decide) rfl ?_
            refine o_v (v_pick_t rfl rfl) rfl ?_
            refine o_nil ?_
            refine s_st ?_ (hN4 true hF)
            exact st_le [0] (le_cons rfl (le_cons rfl (le_cons rfl (le_cons rfl le_nil)))) rfl (sub_cons 0 rfl sub_nil)
          · replace hF := ite_f h16 hF
            refine o_on rfl rfl ?_
            refine o_v (v_fieldAddr (v := .pointer (some ⟨b, 2, none⟩)) rfl (fun _ => by kernel_rfl)) rfl ?_
            refine o_on rfl rfl ?_
            refine o_v (v_load_box 0 ty22 rfl rfl rfl rfl rfl) rfl ?_
            refine o_on rfl rfl ?_
            refine o_v (v_lenS (enc := eRule) g_.Rules sl22 rfl (.f 0 rfl)) rfl ?_
            refine o_on rfl rfl ?_
            refine o_v (v_bin rfl rfl rfl) rfl ?_
            refine o_v (v_pick_f rfl rfl) rfl ?_
            refine o_nil ?_
            refine s_st ?_ (hN4 (decide (8192 < (g_.Rules.length : Int))) hF)
            exact st_le [0] (le_cons rfl (le_cons rfl (le_cons rfl (le_cons rfl le_nil)))) rfl (sub_cons 0 rfl sub_nil)
  · intro t32 hF
    unfold F.facts.Right_j1 at hF
    refine sat_wc ?_
    refine c_cond rfl (fun h1 => ?_) (fun h1 => ?_)
    · replace hF := ite_t h1 hF
      refine c_seq ?_
      refine c_region ?_
      refine o_v (v_assign rfl) rfl ?_
      refine o_seq ?_
      refine c_ret ?_
      cases hF
      refine s_ret1 rfl (r_tmp rfl) fun a w hs => ?_
      exact fin_sel hs [] ⟨rfl, rfl, rfl⟩ rfl sub_nil
    · replace hF := ite_f h1 hF
      refine c_skip ?_
      refine sat_wc ?_
      refine c_seq ?_
      refine c_seq ?_
      refine c_region ?_
      refine o_v (v_fieldAddr (v := .pointer (some ⟨b, 2, none⟩)) rfl (fun _ => by kernel_rfl)) rfl ?_
      refine o_v (v_load_box 0 ty22 rfl rfl rfl rfl rfl) rfl ?_
      refine o_v (v_lenS (enc := eRule) g_.Rules sl22 rfl (.f 0 rfl)) rfl ?_
      refine o_v (v_move rfl) rfl ?_
      refine o_seq ?_
      obtain ⟨o2, ho2, hF⟩ := bd hF
      refine c_cut (fun E N' => ∀ (d2 : Unit), o2 = .done d2 → Sat E [(0, .agg #[.int .i64 g_.Nts, .int .i64 g_.Start, .slice sa1 sn1 sc1]), (1, .pointer (some ⟨b, 0, none⟩)), (2, .int .i64 0), (34, .slice sa1 sn1 sc1)] [.box b 24 [.int .i64 g_.Nts, .int .i64 g_.Start, .slice sa1 sn1 sc1]] [(.slice sa1 sn1 sc1, .slice 2 (g_.Rules.map eRule))] N') (fun N2 hN2 => ?_) ?_
      · refine c_block ?_
        refine c_loopE (fun E j a w => ∃ (t36 : Int), F.facts.Right_l2 k g_ j t36 = some o2 ∧ St E [(0, .agg #[.int .i64 g_.Nts, .int .i64 g_.Start, .slice sa1 sn1 sc1]), (1, .pointer (some ⟨b, 0, none⟩)), (2, .int .i64 0), (34, .slice sa1 sn1 sc1), (35, .int .i64 (g_.Rules.length : Int)), (36, .int .i64 t36)] [.box b 24 [.int .i64 g_.Nts, .int .i64 g_.Start, .slice sa1 sn1 sc1]] [(.slice sa1 sn1 sc1, .slice 2 (g_.Rules.map eRule))] a w) k ?_ ?_
        · intro a w hs
          exact ⟨0, ho2, st_le [0] (le_cons rfl (le_cons rfl (le_cons rfl (le_cons rfl (le_cons rfl (le_cons rfl le_nil)))))) rfl (sub_cons 0 rfl sub_nil) a w hs⟩
        · rintro j a w ⟨t36, hL2, hs⟩
          cases j with
          | zero => cases hL2
          | succ j =>
            refine wc_app hs ?_
            unfold F.facts.Right_l2 at hL2
            refine c_seq ?_
            refine c_region ?_
            refine o_v (v_bin rfl rfl rfl) rfl ?_
            refine o_seq ?_
            refine c_seq ?_
            refine c_cond rfl (fun h2 => ?_) (fun h2 => ?_)
            · replace hL2 := ite_t h2 hL2
              refine c_skip ?_
              refine sat_wc ?_
              refine c_seq ?_
              refine c_block ?_
              refine c_seq ?_
              refine c_region ?_
              refine ite_some hL2 fun h3 hL2 => ?_
              refine o_v (v_indexAddr_s (xs := g_.Rules) (enc := eRule) sl22 rfl rfl (.f 0 rfl) h3) rfl ?_
              refine o_load_s (xs := g_.Rules) (enc := eRule) ty52 rfl (.f 0 rfl) h3 rfl rfl rfl rfl rfl rfl fun sa2 sn2 sc2 => ?_
              refine o_alloc zero52 rfl rfl fun b1 => ?_
              refine o_store_box 0 rfl ty52 rfl rfl rfl rfl rfl rfl rfl ?_
              refine o_seq ?_
              refine c_seq ?_
              refine c_seq ?_
              refine c_region ?_
              refine o_v (v_fieldAddr (v := .pointer (some ⟨b1, 0, none⟩)) rfl (fun _ => by kernel_rfl)) rfl ?_
              refine o_v (v_load_box 0 ty3 rfl rfl rfl rfl rfl) rfl ?_
              refine o_v (v_bin rfl rfl rfl) rfl ?_
              refine o_v (v_move rfl) rfl ?_
              refine o_split (t := 43) rfl (fun h4 => ?_) (fun h4 => ?_)
              · replace hL2 := ite_t h4 hL2
                refine o_off rfl rfl (by decide) rfl ?_
                refine o_off rfl rfl (by decide) rfl ?_
                refine o_off rfl rfl (by decide) rfl ?_
                refine o_off rfl rfl (by decide) rfl ?_
                refine o_off rfl rfl (by decide) rfl ?_
                refine o_v (v_pick_t rfl rfl) rfl ?_
                refine o_v (v_move rfl) rfl ?_
                refine o_off rfl rfl (by decide) rfl ?_
                refine o_off rfl rfl (by decide) rfl ?_
                refine o_off rfl rfl (by decide) rfl ?_
                refine o_off rfl rfl (by decide) rfl ?_
                refine o_v (v_pick_t rfl rfl) rfl ?_
                refine o_seq ?_
                refine c_cond rfl (fun _ => ?_) (fun h => Bool.noConfusion h)
                refine c_seq ?_
                refine c_region ?_
                refine o_v (v_assign rfl) rfl ?_
                refine o_seq ?_
                refine c_ret ?_
                cases hL2
                obtain rfl := lrf_ret hF
                refine s_ret1 rfl (r_tmp rfl) fun a w hs => ?_
                exact fin_sel hs [] ⟨rfl, rfl, rfl⟩ rfl sub_nil
              · replace hL2 := ite_f h4 hL2
                refine o_on rfl rfl ?_
                refine o_v (v_fieldAddr (v := .pointer (some ⟨b1, 0, none⟩)) rfl (fun _ => by kernel_rfl)) rfl ?_
                refine o_on rfl rfl ?_
                refine o_v (v_load_box 0 ty3 rfl rfl rfl rfl rfl) rfl ?_
                refine o_on rfl rfl ?_
                refine o_v (v_fieldAddr (v := .pointer (some ⟨b, 0, none⟩)) rfl (fun _ => by kernel_rfl)) rfl ?_
                refine o_on rfl rfl ?_
                refine o_v (v_load_box 1 ty3 rfl rfl rfl rfl rfl) rfl ?_
                refine o_on rfl rfl ?_
                refine o_v (v_bin rfl rfl rfl) rfl ?_
                refine o_v (v_pick_f rfl rfl) rfl ?_
                refine o_v (v_move rfl) rfl ?_
                refine o_split (t := 50) rfl (fun h5 => ?_) (fun h5 => ?_)
                · replace hL2 := ite_t h5 hL2
                  refine o_off rfl rfl (by decide) rfl ?_
                  refine o_off rfl rfl (by decide) rfl ?_
                  refine o_off rfl rfl (by decide) rfl ?_
                  refine o_off rfl rfl (by decide) rfl ?_
                  refine o_v (v_pick_t rfl rfl) rfl ?_
                  refine o_seq ?_
                  refine c_cond rfl (fun _ => ?_) (fun h => Bool.noConfusion h)
                  refine c_seq ?_
                  refine c_region ?_
                  refine o_v (v_assign rfl) rfl ?_
                  refine o_seq ?_
                  refine c_ret ?_
                  cases hL2
                  obtain rfl := lrf_ret hF
                  refine s_ret1 rfl (r_tmp rfl) fun a w hs => ?_
                  exact fin_sel hs [] ⟨rfl, rfl, rfl⟩ rfl sub_nil
                · replace hL2 := ite_f h5 hL2
                  refine o_on rfl rfl ?_
                  refine o_v (v_fieldAddr (v := .pointer (some ⟨b1, 1, none⟩)) rfl (fun _ => by kernel_rfl)) rfl ?_
                  refine o_on rfl rfl ?_
                  refine o_v (v_load_box 0 ty50 rfl rfl rfl rfl rfl) rfl ?_
                  refine o_on rfl rfl ?_
                  refine o_v (v_lenS (enc := eKSym) ((at_ g_.Rules t36).Rhs) sl50 rfl (.f 0 rfl)) rfl ?_
                  refine o_on rfl rfl ?_
                  refine o_v (v_bin rfl rfl rfl) rfl ?_
                  refine o_v (v_pick_f rfl rfl) rfl ?_
                  refine o_seq ?_
                  refine c_cond rfl (fun h6 => ?_) (fun h6 => ?_)
                  · replace hL2 := ite_t h6 hL2
                    refine c_seq ?_
                    refine c_region ?_
                    refine o_v (v_assign rfl) rfl ?_
                    refine o_seq ?_
                    refine c_ret ?_
                    cases hL2
                    obtain rfl := lrf_ret hF
                    refine s_ret1 rfl (r_tmp rfl) fun a w hs => ?_
                    exact fin_sel hs [] ⟨rfl, rfl, rfl⟩ rfl sub_nil
                  · replace hL2 := ite_f h6 hL2
                    refine c_skip ?_
                    refine sat_wc ?_
                    refine c_seq ?_
                    refine c_region ?_
                    refine o_v (v_fieldAddr (v := .pointer (some ⟨b1, 1, none⟩)) rfl (fun _ => by kernel_rfl)) rfl ?_
                    refine o_v (v_load_box 0 ty50 rfl rfl rfl rfl rfl) rfl ?_
                    refine o_v (v_lenS (enc := eKSym) ((at_ g_.Rules t36).Rhs) sl50 rfl (.f 0 rfl)) rfl ?_
                    refine o_v (v_move rfl) rfl ?_
                    refine o_seq ?_
                    obtain ⟨o3, ho3, hL2⟩ := bd hL2
                    refine c_cut (fun E N' => ∀ (d3 : Int), o3 = .done d3 → Sat E [(0, .agg #[.int .i64 g_.Nts, .int .i64 g_.Start, .slice sa1 sn1 sc1]), (1, .pointer (some ⟨b, 0, none⟩)), (2, .int .i64 0), (4, .pointer (some ⟨b1, 0, none⟩)), (34, .slice sa1 sn1 sc1), (35, .int .i64 (g_.Rules.length : Int)), (36, .int .i64 t36), (57, .slice sa2 sn2 sc2), (58, .int .i64 (((at_ g_.Rules t36).Rhs).length : Int)), (59, .int .i64 d3)] [.box b1 52 [.int .i64 ((at_ g_.Rules t36).Lhs), .slice sa2 sn2 sc2], .box b 24 [.int .i64 g_.Nts, .int .i64 g_.Start, .slice sa1 sn1 sc1]] [(.slice sa1 sn1 sc1, .slice 2 (g_.Rules.map eRule)), (.slice sa2 sn2 sc2, .slice 5 (((at_ g_.Rules t36).Rhs).map eKSym))] N') (fun N3 hN3 => ?_) ?_
                    · refine c_block ?_
                      refine c_loopE (fun E j a w => ∃ (t59 : Int), F.facts.Right_l3 g_ t36 j t59 = some o3 ∧ St E [(0, .agg #[.int .i64 g_.Nts, .int .i64 g_.Start, .slice sa1 sn1 sc1]), (1, .pointer (some ⟨b, 0, none⟩)), (2, .int .i64 0), (4, .pointer (some ⟨b1, 0, none⟩)), (34, .slice sa1 sn1 sc1), (35, .int .i64 (g_.Rules.length : Int)), (36, .int .i64 t36), (57, .slice sa2 sn2 sc2), (58, .int .i64 (((at_ g_.Rules t36).Rhs).length : Int)), (59, .int .i64 t59)] [.box b1 52 [.int .i64 ((at_ g_.Rules t36).Lhs), .slice sa2 sn2 sc2], .box b 24 [.int .i64 g_.Nts, .int .i64 g_.Start, .slice sa1 sn1 sc1]] [(.slice sa1 sn1 sc1, .slice 2 (g_.Rules.map eRule)), (.slice sa2 sn2 sc2, .slice 5 (((at_ g_.Rules t36).Rhs).map eKSym))] a w) k ?_ ?_
                      · intro a w hs
                        exact ⟨0, ho3, st_le [0, 0] (le_cons rfl (le_cons rfl (le_cons rfl (le_cons rfl (le_cons rfl (le_cons rfl (le_cons rfl (le_cons rfl (le_cons rfl (le_cons rfl le_nil)))))))))) rfl (sub_cons 1 rfl (sub_cons 0 rfl sub_nil)) a w hs⟩
                      · rintro j a w ⟨t59, hL3, hs⟩
                        cases j with
                        | zero => cases hL3
                        | succ j =>
                          refine wc_app hs ?_
                          unfold F.facts.Right_l3 at hL3
                          refine c_seq ?_
                          refine c_region ?_
                          refine o_v (v_bin rfl rfl rfl) rfl ?_
                          refine o_seq ?_
                          refine c_seq ?_
                          refine c_cond rfl (fun h7 => ?_) (fun h7 => ?_)
                          · replace hL3 := ite_t h7 hL3
                            refine c_skip ?_
                            refine sat_wc ?_
                            refine c_seq ?_
                            refine c_block ?_
                            refine c_seq ?_
                            refine c_region ?_
                            refine ite_some hL3 fun h8 hL3 => ?_
                            refine o_v (v_indexAddr_s (xs := (at_ g_.Rules t36).Rhs) (enc := eKSym) sl50 rfl rfl (.f 1 rfl) h8) rfl ?_
                            refine o_v (v_load_s (xs := (at_ g_.Rules t36).Rhs) (enc := eKSym) ty90 rfl (.f 1 rfl) h8 rfl rfl rfl rfl rfl rfl rfl) rfl ?_
                            refine o_alloc zero90 rfl rfl fun b2 => ?_
                            refine o_store_box 0 rfl ty90 rfl rfl rfl rfl rfl rfl rfl ?_
                            refine o_seq ?_
                            refine c_seq ?_
                            refine c_cut (fun E N' => ∀ (t83 : Bool), F.facts.Right_j4 (F.facts.Right_l3 g_ t36 j) t59 t83 = some o3 → Sat E [(0, .agg #[.int .i64 g_.Nts, .int .i64 g_.Start, .slice sa1 sn1 sc1]), (1, .pointer (some ⟨b, 0, none⟩)), (2, .int .i64 0), (4, .pointer (some ⟨b1, 0, none⟩)), (6, .pointer (some ⟨b2, 0, none⟩)), (34, .slice sa1 sn1 sc1), (35, .int .i64 (g_.Rules.length : Int)), (36, .int .i64 t36), (57, .slice sa2 sn2 sc2), (58, .int .i64 (((at_ g_.Rules t36).Rhs).length : Int)), (59, .int .i64 t59), (83, .bool t83)] [.box b2 90 [.int .i64 ((at_ ((at_ g_.Rules t36).Rhs) t59).Nt), .int .u64 ((at_ ((at_ g_.Rules t36).Rhs) t59).Set.w0), .int .u64 ((at_ ((at_ g_.Rules t36).Rhs) t59).Set.w1), .int .u64 ((at_ ((at_ g_.Rules t36).Rhs) t59).Set.w2), .int .u64 ((at_ ((at_ g_.Rules t36).Rhs) t59).Set.w3)], .box b1 52 [.int .i64 ((at_ g_.Rules t36).Lhs), .slice sa2 sn2 sc2], .box b 24 [.int .i64 g_.Nts, .int .i64 g_.Start, .slice sa1 sn1 sc1]] [(.slice sa1 sn1 sc1, .slice 2 (g_.Rules.map eRule)), (.slice sa2 sn2 sc2, .slice 5 (((at_ g_.Rules t36).Rhs).map eKSym))] N') (fun N4 hN4 => ?_) ?_
                            · refine c_region ?_
                              refine o_v (v_fieldAddr (v := .pointer (some ⟨b2, 0, none⟩)) rfl (fun _ => by kernel_rfl)) rfl ?_
                              refine o_v (v_load_box 0 ty3 rfl rfl rfl rfl rfl) rfl ?_
                              refine o_v (v_bin rfl rfl rfl) rfl ?_
                              refine o_v (v_move rfl) rfl ?_
                              refine o_split (t := 66) rfl (fun h10 => ?_) (fun h10 => ?_)
                              · replace hL3 := ite_t h10 hL3
                                refine o_off rfl rfl (by decide) rfl ?_
                                refine o_off rfl rfl (by decide) rfl ?_
                                refine o_off rfl rfl (by decide) rfl ?_
                                refine o_off rfl rfl (by decide) rfl ?_
                                refine o_off rfl rfl (by decide) rfl ?_
                                refine o_v (v_pick_t rfl rfl) rfl ?_
                                refine o_v (v_move rfl) rfl ?_
                                refine o_off rfl rfl (by decide) rfl ?_
                                refine o_off rfl rfl (by decide) rfl ?_
                                refine o_off rfl rfl (by decide) rfl ?_
                                refine o_off rfl rfl (by decide) rfl ?_
                                refine o_offU rfl rfl rfl ?_
                                refine o_offU rfl rfl rfl ?_
                                refine o_offU rfl rfl rfl ?_
                                refine o_offU rfl rfl rfl ?_
                                refine o_off rfl rfl (by decide) rfl ?_
                                refine o_v (v_pick_t rfl rfl) rfl ?_
                                refine o_nil ?_
                                refine s_st ?_ (hN4 true hL3)
                                exact st_le [0, 0, 0] (le_cons rfl (le_cons rfl (le_cons rfl (le_cons rfl (le_cons rfl (le_cons rfl (le_cons rfl (le_cons rfl (le_cons rfl (le_cons rfl (le_cons rfl (le_cons rfl le_nil)))))))))))) rfl (sub_cons 0 rfl (sub_cons 1 rfl sub_nil))
                              · replace hL3 := ite_f h10 hL3
                                refine o_on rfl rfl ?_
                                refine o_v (v_fieldAddr (v := .pointer (some ⟨b2, 0, none⟩)) rfl (fun _ => by kernel_rfl)) rfl ?_
                                refine o_on rfl rfl ?_
                                refine o_v (v_load_box 0 ty3 rfl rfl rfl rfl rfl) rfl ?_
                                refine o_on rfl rfl ?_
                                refine o_v (v_fieldAddr (v := .pointer (some ⟨b, 0, none⟩)) rfl (fun _ => by kernel_rfl)) rfl ?_
                                refine o_on rfl rfl ?_
                                refine o_v (v_load_box 2 ty3 rfl rfl rfl rfl rfl) rfl ?_
                                refine o_on rfl rfl ?_
                                refine o_v (v_bin rfl rfl rfl) rfl ?_
                                refine o_v (v_pick_f rfl rfl) rfl ?_
                                refine o_v (v_move rfl) rfl ?_
                                refine o_split (t := 73) rfl (fun h11 => ?_) (fun h11 => ?_)
                                · replace hL3 := ite_t h11 hL3
                                  refine o_off rfl rfl (by decide) rfl ?_
                                  refine o_off rfl rfl (by decide) rfl ?_
                                  refine o_off rfl rfl (by decide) rfl ?_
                                  refine o_off rfl rfl (by decide) rfl ?_
                                  refine o_offU rfl rfl rfl ?_
                                  refine o_offU rfl rfl rfl ?_
                                  refine o_offU rfl rfl rfl ?_
                                  refine o_offU rfl rfl rfl ?_
                                  refine o_off rfl rfl (by decide) rfl ?_
                                  refine o_v (v_pick_t rfl rfl) rfl ?_
                                  refine o_nil ?_
                                  refine s_st ?_ (hN4 true hL3)
                                  exact st_le [0, 0, 0] (le_cons rfl (le_cons rfl (le_cons rfl (le_cons rfl (le_cons rfl (le_cons rfl (le_cons rfl (le_cons rfl (le_cons rfl (le_cons rfl (le_cons rfl (le_cons rfl le_nil)))))))))))) rfl (sub_cons 0 rfl (sub_cons 1 rfl sub_nil))
                                · replace hL3 := ite_f h11 hL3
                                  refine o_on rfl rfl ?_
                                  refine o_v (v_fieldAddr (v := .pointer (some ⟨b2, 0, none⟩)) rfl (fun _ => by kernel_rfl)) rfl ?_
                                  refine o_on rfl rfl ?_
                                  refine o_v (v_load_box 0 ty3 rfl rfl rfl rfl rfl) rfl ?_
                                  refine o_on rfl rfl ?_
                                  refine o_v (v_bin rfl rfl rfl) rfl ?_
                                  refine o_on rfl rfl ?_
                                  refine o_v (v_move rfl) rfl ?_
                                  refine o_split (t := 77) rfl (fun h12 => ?_) (fun h12 => ?_)
                                  · replace hL3 := ite_t h12 hL3
                                    refine o_on rfl rfl ?_
                                    refine o_v (v_fieldAddr (v := .pointer (some ⟨b2, 1, none⟩)) rfl (fun _ => by kernel_rfl)) rfl ?_
                                    refine o_on rfl rfl ?_
                                    refine o_v (v_load_box 0 ty88 rfl rfl rfl rfl rfl) rfl ?_
                                    refine o_on rfl rfl ?_
                                    refine o_v (v_build (v := .agg #[.int .u64 0, .int .u64 0, .int .u64 0, .int .u64 0]) rfl (fun _ => by kernel_rfl)) rfl ?_
                                    refine o_on rfl rfl ?_
                                    refine o_v (v_agne 2 rfl rfl (eq88 ((at_ ((at_ g_.Rules t36).Rhs) t59).Set.w0) ((at_ ((at_ g_.Rules t36).Rhs) t59).Set.w1) ((at_ ((at_ g_.Rules t36).Rhs) t59).Set.w2) ((at_ ((at_ g_.Rules t36).Rhs) t59).Set.w3) 0 0 0 0) rfl guard88) rfl ?_
                                    refine o_on rfl rfl ?_
                                    refine o_v (v_pick_t rfl rfl) rfl ?_
                                    refine o_v (v_pick_f rfl rfl) rfl ?_
                                    refine o_nil ?_
                                    refine s_st ?_ (hN4 (!(S4.eq (S4.mk ((at_ ((at_ g_.Rules t36).Rhs) t59).Set.w0) ((at_ ((at_ g_.Rules t36).Rhs) t59).Set.w1) ((at_ ((at_ g_.Rules t36).Rhs) t59).Set.w2) ((at_ ((at_ g_.Rules t36).Rhs) t59).Set.w3)) (S4.mk 0 0 0 0))) hL3)
                                    exact st_le [0, 0, 0] (le_cons rfl (le_cons rfl (le_cons rfl (le_cons rfl (le_cons rfl (le_cons rfl (le_cons rfl (le_cons rfl (le_cons rfl (le_cons rfl (le_cons rfl (le_cons rfl le_nil)))))))))))) rfl (sub_cons 0 rfl (sub_cons 1 rfl sub_nil))
                                  · replace hL3 := ite_f h12 hL3
                                    refine o_off rfl rfl (by decide) rfl ?_
                                    refine o_off rfl rfl (by decide) rfl ?_
                                    refine o_off rfl rfl (by decide) rfl ?_
                                    refine o_off rfl rfl (by decide) rfl ?_
                                    refine o_on rfl rfl ?_
                                    refine o_v (v_pick_f rfl rfl) rfl ?_
                                    refine o_v (v_pick_f rfl rfl) rfl ?_
                                    refine o_nil ?_
                                    refine s_st ?_ (hN4 false hL3)
                                    exact st_le [0, 0, 0] (le_cons rfl (le_cons rfl (le_cons rfl (le_cons rfl (le_cons rfl (le_cons rfl (le_cons rfl (le_cons rfl (le_cons rfl (le_cons rfl (le_cons rfl (le_cons rfl le_nil)))))))))))) rfl (sub_cons 0 rfl (sub_cons 1 rfl sub_nil))
                            · intro t83 hL3
                              unfold F.facts.Right_j4 at hL3
                              refine sat_wc ?_
                              refine c_cond rfl (fun h9 => ?_) (fun h9 => ?_)
                              · replace hL3 := ite_t h9 hL3
                                refine c_seq ?_
                                refine c_region ?_
                                refine o_v (v_assign rfl) rfl ?_
                                refine o_seq ?_
                                refine c_ret ?_
                                cases hL3
                                obtain rfl := lr_ret hL2
                                obtain rfl := lrf_ret hF
                                refine s_ret1 rfl (r_tmp rfl) fun a w hs => ?_
                                exact fin_sel hs [] ⟨rfl, rfl, rfl⟩ rfl sub_nil
                              · replace hL3 := ite_f h9 hL3
                                refine c_skip ?_
                                refine sat_wc ?_
                                refine c_region ?_
                                refine o_v (v_bin rfl rfl rfl) rfl ?_
                                refine o_v (v_move rfl) rfl ?_
                                refine o_nil ?_
                                intro a w hs
                                exact ⟨j, Nat.lt_succ_self j, IntKind.wrap .i64 (t59 + 1), hL3, st_le [1, 1] (le_cons rfl (le_cons rfl (le_cons rfl (le_cons rfl (le_cons rfl (le_cons rfl (le_cons rfl (le_cons rfl (le_cons rfl (le_cons rfl le_nil)))))))))) rfl (sub_cons 0 rfl (sub_cons 1 rfl sub_nil)) a w hs⟩
                          · replace hL3 := ite_f h7 hL3
                            refine c_exit0 ?_
                            cases hL3
                            refine s_st ?_ (hN3 t59 rfl)
                            exact st_le [0, 0] (le_cons rfl (le_cons rfl (le_cons rfl (le_cons rfl (le_cons rfl (le_cons rfl (le_cons rfl (le_cons rfl (le_cons rfl (le_cons rfl le_nil)))))))))) rfl (sub_cons 0 rfl (sub_cons 1 rfl sub_nil))
                    · intro d3 hd
                      subst hd
                      replace hL2 := lr_done hL2
                      refine sat_wc ?_
                      refine c_region ?_
                      refine o_v (v_bin rfl rfl rfl) rfl ?_
                      refine o_v (v_move rfl) rfl ?_
                      refine o_nil ?_
                      intro a w hs
                      exact ⟨j, Nat.lt_succ_self j, IntKind.wrap .i64 (t36 + 1), hL2, st_le [1] (le_cons rfl (le_cons rfl (le_cons rfl (le_cons rfl (le_cons rfl (le_cons rfl le_nil)))))) rfl (sub_cons 0 rfl sub_nil) a w hs⟩
            · replace hL2 := ite_f h2 hL2
              refine c_exit0 ?_
              cases hL2
              refine s_st ?_ (hN2 () rfl)
              exact st_le [0] (le_cons rfl (le_cons rfl (le_cons rfl (le_cons rfl le_nil)))) rfl (sub_cons 0 rfl sub_nil)
      · intro d2 hd
        subst hd
        replace hF := lrf_done hF
        refine sat_wc ?_
        refine c_seq ?_
        refine c_region ?_
        refine o_v (v_assign rfl) rfl ?_
        refine o_seq ?_
        refine c_ret ?_
        cases hF
        refine s_ret1 rfl (r_tmp rfl) fun a w hs => ?_
        exact fin_sel hs [] ⟨rfl, rfl, rfl⟩ rfl sub_nil
theorem tri58 (s : S4) (b : Int) (r : Bool) (hF : F.charset.Has s b = some r) :
    Tri Tryd.prog 58 [.agg #[.int .u64 s.w0, .int .u64 s.w1, .int .u64 s.w2, .int .u64 s.w3], .int .u8 b] [] [] (fun o H Φ => o = .ret (.bool r) ∧ H = [] ∧ Φ = []) := by
  unfold F.charset.Has at hF
  refine tri_intro (n := 14) Tryd.func58 rfl Tryd.ntmps58 rfl fun w X => ?_
  refine c_seq ?_
  refine c_region ?_
  refine o_box rfl rfl rfl fun b1 => ?_
  refine o_v (v_assign rfl) rfl ?_
  refine o_seq ?_
  refine c_seq ?_
  refine c_region ?_
  refine o_v (v_move rfl) rfl ?_
  refine o_v (v_quo rfl rfl rfl) rfl ?_
  refine ite_some hF fun h1 hF => ?_
  refine o_v (v_indexAddr_a ar88 rfl rfl h1) rfl ?_
  refine o_v (v_load_a 0 s ty86 rfl rfl h1) rfl ?_
  refine o_v (v_move rfl) rfl ?_
  refine o_v (v_rem rfl rfl rfl) rfl ?_
  refine ite_none hF fun h2 hF => ?_
  refine o_v (v_shr rfl rfl h2) rfl ?_
  refine o_v (v_bit rfl rfl rfl) rfl ?_
  refine o_v (v_bin rfl rfl rfl) rfl ?_
  refine o_v (v_assign rfl) rfl ?_
  refine o_seq ?_
  refine c_ret ?_
  cases hF
  refine s_ret1 rfl (r_tmp rfl) fun a w hs => ?_
  exact fin_sel hs [] ⟨rfl, rfl, rfl⟩ rfl sub_nil
end Go.Vc
