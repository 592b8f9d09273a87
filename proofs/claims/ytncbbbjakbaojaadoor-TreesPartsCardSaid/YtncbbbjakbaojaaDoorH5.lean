/-
  Trees whose rows are all the call's own: trees.Put hands such back.
-/
import Derived.Test.YtncbbbjakbaojaaDoorH4
set_option linter.unusedVariables false
set_option linter.unusedSimpArgs false
set_option maxRecDepth 8000
set_option maxHeartbeats 2000000
namespace Go.Vc
open Go Go.Proofs
/-- a node with a hole among its kids -/
structure Fr where
  rule : Int
  byte : Int
  a : Option Addr
  n : Nat
  c : Nat
  before : List VT
  after : List VT
def up (f : Fr) (y : VT) : VT := .mk f.rule f.byte f.a f.n f.c (f.before ++ y :: f.after)
def plug : List Fr → VT → VT
  | [], y => y
  | f :: fs, y => plug fs (up f y)
def Fr.sl (f : Fr) : Value := .slice f.a f.n f.c
theorem rws_up (f : Fr) (y : VT) : rws (up f y) = .row f.sl 27 3 ((f.before ++ y :: f.after).map eV) :: (rwss f.before ++ (rws y ++ rwss f.after)) := by
  unfold up
  rw [rws, rwss_app, rwss]
  rfl
theorem eV_up (f : Fr) (y z : VT) : eV (up f y) = eV (up f z) := rfl
theorem plug_rws : ∀ (fs : List Fr) (e : List Dc), ∃ pre post, ∀ y, eV y = e → rws (plug fs y) = pre ++ (rws y ++ post)
  | [], e => ⟨[], [], fun y _ => by simp [plug]⟩
  | f :: fs, e => by
    obtain ⟨pre, post, h⟩ := plug_rws fs (eV (up f default))
    refine ⟨pre ++ (.row f.sl 27 3 (f.before.map eV ++ e :: f.after.map eV) :: rwss f.before), rwss f.after ++ post, fun y hy => ?_⟩
    rw [plug, h _ (eV_up f y default), rws_up, List.map_append, List.map_cons, hy]
    simp
theorem plug_val : ∀ (fs : List Fr) (f : Fr) (y z : VT), (plug (f :: fs) y).val = (plug (f :: fs) z).val
  | [], f, y, z => rfl
  | g :: fs, f, y, z => by
    show (plug (g :: fs) (up f y)).val = (plug (g :: fs) (up f z)).val
    exact plug_val fs g _ _
/-- where a node lies: in the variable, or in its parent's row -/
def ptr (b : Nat) : List Fr → Value
  | [] => .pointer (some ⟨b, 0, none⟩)
  | f :: _ => .pointer (some ⟨blkA f.a, offA f.a + (((f.before.length : Nat) : Int).toNat * 3 + 0), none⟩)
theorem cur_row (fs : List Fr) (y : VT) : HB.row y.sl 27 3 (y.kids.map eV) ∈ rws (plug fs y) := by
  obtain ⟨pre, post, h⟩ := plug_rws fs (eV y)
  rw [h y rfl, rws_eq]
  simp
theorem par_row (f : Fr) (fs : List Fr) (y : VT) : HB.row f.sl 27 3 ((f.before ++ y :: f.after).map eV) ∈ rws (plug (f :: fs) y) := cur_row fs (up f y)
section
variable {E : Env} {l : List (Nat × Value)} {H : List HB} {Φ : List (Value × Dc)}
theorem st_subH {H' : List HB} (hH : H'.Sublist H) : ∀ a w, St E l H Φ a w → St E l H' Φ a w := fun a w hs => w_weaken (fun _ _ h => h) hH (fun p hp => hp) hs
end
theorem putT_step {c : VT} {q : Int} {p : List Int} {s z : Tree} (h : putT (tr c) (q :: p) s = some z) : inR q c.kids.length = true ∧ ∃ y, putT (at_ (c.kids.map tr) q) p s = some y ∧ z = .mk c.rule c.byte (set_ (c.kids.map tr) q y) := by
  rw [tr_eq] at h
  simp only [putT] at h
  split at h
  · rename_i hi
    rw [List.length_map] at hi
    obtain ⟨y, h1, h2⟩ := Option.map_eq_some_iff.1 h
    exact ⟨hi, y, h1, h2.symm⟩
  · cases h
theorem tri26_deep (k : Nat) (t : Tree) (path : List Int) (s : Tree) (sa1 : Option Addr) (sn1 sc1 : Nat) (sa2 : Option Addr) (sn2 sc2 : Nat) (sa3 : Option Addr) (sn3 sc3 : Nat) (r : Tree × Int) (hF : F.trees.Put k t path s = some r) :
    Tri Tryd.prog 26 [.agg #[.int .i64 t.Rule, .int .u8 t.Byte, .slice sa1 sn1 sc1], .slice sa2 sn2 sc2, .agg #[.int .i64 s.Rule, .int .u8 s.Byte, .slice sa3 sn3 sc3]] [] [(.slice sa1 sn1 sc1, .slice 3 (t.Kids.map eTree)), (.slice sa2 sn2 sc2, .slice 1 (path.map eI64)), (.slice sa3 sn3 sc3, .slice 3 (s.Kids.map eTree))] (fun o H Φ => ∃ V : VT, tr V = r.1 ∧ o = .ret (.tuple #[V.val, .int .i64 r.2]) ∧ H = rws V ∧ Φ = []) := by
  unfold F.trees.Put at hF
  split at hF
  case isFalse => cases hF
  rename_i hpl63
  have hpl63 := of_decide_eq_true hpl63
  refine tri_intro (n := 43) Tryd.func26 rfl Tryd.ntmps26 rfl fun w0 X => ?_
  refine c_seq ?_
  refine c_region ?_
  refine o_box rfl rfl rfl fun b3 => ?_
  refine o_box rfl rfl rfl fun b5 => ?_
  refine o_alloc zero27 rfl rfl fun b6 => ?_
  refine o_v (v_assign rfl) rfl ?_
  refine o_seq ?_
  obtain ⟨v, h1, hF⟩ := bd hF
  refine c_seq ?_
  refine c_seq ?_
  refine c_region ?_
  refine o_v (v_load_box 2 ty27 rfl rfl rfl rfl rfl) rfl ?_
  refine o_v (v_move rfl) rfl ?_
  refine o_call0 call24 rfl (sub_cons 0 rfl (sub_cons 1 rfl sub_nil)) (at_deep k t path sa1 sn1 sc1 sa2 sn2 sc2 v h1) rfl ?_
  rintro _ _ _ ⟨V0, hV0, rfl, rfl, rfl⟩
  refine o_st (st_subH (H' := [.box b6 27 [.int .i64 0, .int .u8 0, .slice none 0 0], .box b5 27 [.int .i64 s.Rule, .int .u8 s.Byte, .slice sa3 sn3 sc3], .box b3 27 [.int .i64 t.Rule, .int .u8 t.Byte, .slice sa1 sn1 sc1]]) (List.sublist_append_right _ _)) ?_
  refine o_v (v_move rfl) rfl ?_
  refine o_v (v_extract rfl rfl) rfl ?_
  refine o_v (v_extract rfl rfl) rfl ?_
  refine o_alloc zero27 rfl rfl fun b8 => ?_
  refine o_store_box 0 rfl ty27 rfl rfl rfl rfl rfl rfl rfl ?_
  refine o_v (v_assign rfl) rfl ?_
  refine o_seq ?_
  refine c_seq ?_
  refine c_region ?_
  refine o_v (v_move rfl) rfl ?_
  refine o_v (v_bin rfl rfl rfl) rfl ?_
  refine o_seq ?_
  refine c_cond rfl (fun h2 => ?_) (fun h2 => ?_)
  · replace hF := ite_t h2 hF
    cases hF
    refine c_seq ?_
    refine c_region ?_
    refine o_v (v_build (v := .agg #[.int .i64 0, .int .u8 0, .slice none 0 0]) rfl (fun _ => by kernel_rfl)) rfl ?_
    refine o_v (v_move rfl) rfl ?_
    refine o_store_box 1 rfl ty27 rfl rfl rfl rfl rfl rfl rfl ?_
    refine o_v (v_assign rfl) rfl ?_
    refine o_seq ?_
    refine c_ret ?_
    refine s_st (st_nilrow 27 3) ?_
    refine s_ret2 rfl (r_cell 2 rfl ty27 rfl rfl rfl rfl) (r_tmp rfl) fun a w hs => ?_
    exact fin_sel hs [0] ⟨.mk 0 0 none 0 0 [], by simp [tr, trs], rfl, rfl, rfl⟩ rfl sub_nil
  · replace hF := ite_f h2 hF
    obtain ⟨t1, h3, hF⟩ := bd hF
    obtain ⟨s1, h4, hF⟩ := bd hF
    obtain ⟨x, h5, hF⟩ := bd hF
    cases hF
    obtain ⟨hct, e1⟩ := copiedF _ _ _ h3
    obtain ⟨hcs, e2⟩ := copiedF _ _ _ h4
    rw [e1, e2] at h5
    refine c_skip ?_
    refine sat_wc ?_
    refine c_seq ?_
    refine c_region ?_
    refine o_v (v_load_box 3 ty27 rfl rfl rfl rfl rfl) rfl ?_
    refine o_call0 call54 rfl (sub_cons 0 rfl sub_nil) (hct sa1 sn1 sc1) rfl ?_
    rintro _ _ _ ⟨V, hV, rfl, rfl, rfl⟩
    refine o_st (st_perm (List.perm_append_comm (l₁ := rws V) (l₂ := [_, _, _, _]))) ?_
    refine o_store_box 3 rfl ty27 rfl rfl rfl rfl rfl rfl rfl ?_
    refine o_seq ?_
    refine c_seq ?_
    refine c_region ?_
    refine o_v (v_assign rfl) rfl ?_
    refine o_seq ?_
    refine c_seq ?_
    refine c_seq ?_
    refine c_region ?_
    refine o_v (v_move rfl) rfl ?_
    refine o_v (v_lenS (enc := eI64) path sl44 rfl (.f 1 rfl)) rfl ?_
    refine o_v (v_move rfl) rfl ?_
    refine o_seq ?_
    refine c_cut (fun E N' => ∀ (fs : List Fr) (cur : VT), plug fs cur = V → (∀ y, putT (tr cur) [] s = some (tr y) → x = tr (plug fs y)) → Sat E [(3, .pointer (some ⟨b3, 0, none⟩)), (5, .pointer (some ⟨b5, 0, none⟩)), (6, .pointer (some ⟨b6, 0, none⟩)), (10, ptr b3 fs)] (.box b6 27 [.int .i64 0, .int .u8 0, .slice none 0 0] :: .box b5 27 [.int .i64 s.Rule, .int .u8 s.Byte, .slice sa3 sn3 sc3] :: .box b3 27 [.int .i64 V.rule, .int .u8 V.byte, .slice V.a V.n V.c] :: rws V) [(.slice sa3 sn3 sc3, .slice 3 (s.Kids.map eTree))] N') (fun N1 hN1 => ?_) ?_
    · refine c_block ?_
      refine c_loopE (fun E j a w => ∃ (i : Nat) (fs : List Fr) (cur : VT), i + j = path.length + 1 ∧ i ≤ path.length ∧ plug fs cur = V ∧ (∃ z, putT (tr cur) (path.drop i) s = some z) ∧ (∀ y, putT (tr cur) (path.drop i) s = some (tr y) → x = tr (plug fs y)) ∧ St E [(3, .pointer (some ⟨b3, 0, none⟩)), (5, .pointer (some ⟨b5, 0, none⟩)), (6, .pointer (some ⟨b6, 0, none⟩)), (25, .slice sa2 sn2 sc2), (26, .int .i64 (path.length : Int)), (27, .int .i64 (i : Int)), (10, ptr b3 fs)] (.box b6 27 [.int .i64 0, .int .u8 0, .slice none 0 0] :: .box b5 27 [.int .i64 s.Rule, .int .u8 s.Byte, .slice sa3 sn3 sc3] :: .box b3 27 [.int .i64 V.rule, .int .u8 V.byte, .slice V.a V.n V.c] :: rws V) [(.slice sa2 sn2 sc2, .slice 1 (path.map eI64)), (.slice sa3 sn3 sc3, .slice 3 (s.Kids.map eTree))] a w) (path.length + 1) ?_ ?_
      · intro a w hs
        refine ⟨0, [], V, by omega, by omega, rfl, ⟨x, by rw [hV]; exact h5⟩, fun y hy => ?_, ?_⟩
        · rw [hV, List.drop_zero] at hy
          exact Option.some.inj (h5.symm.trans hy)
        · exact st_sub (le_cons rfl (le_cons rfl (le_cons rfl (le_cons rfl (le_cons rfl (le_cons rfl (le_cons rfl le_nil))))))) (List.Sublist.cons _ (List.Sublist.refl _)) (sub_cons 1 rfl (sub_cons 2 rfl sub_nil)) a w hs
      · rintro j a w ⟨i, fs, cur, hij, hi, hpl, hsome, hx, hs⟩
        refine wc_app hs ?_
        refine c_seq ?_
        refine c_region ?_
        refine o_v (v_bin rfl rfl rfl) rfl ?_
        refine o_seq ?_
        refine c_seq ?_
        refine c_cond rfl (fun h6 => ?_) (fun h6 => ?_)
        · have hlt : i < path.length := by simpa using h6
          have hd : path.drop i = path[i] :: path.drop (i + 1) := List.drop_eq_getElem_cons hlt
          have h7 : inR (i : Int) path.length = true := by rw [inR_iff]; omega
          have hat : at_ path (i : Int) = path[i] := by simp [at_, hlt]
          obtain ⟨z, hz⟩ := hsome
          rw [hd] at hz
          obtain ⟨hq, y0, hy0, _⟩ := putT_step hz
          have hq' : inR (at_ path (i : Int)) cur.kids.length = true := by rw [hat]; exact hq
          have hrow : HB.row cur.sl 27 3 (cur.kids.map eV) ∈ rws V := by rw [← hpl]; exact cur_row fs cur
          obtain ⟨jr, hjr⟩ := List.getElem?_of_mem hrow
          refine c_skip ?_
          refine sat_wc ?_
          refine c_seq ?_
          refine c_block ?_
          refine c_seq ?_
          refine c_region ?_
          refine o_v (v_indexAddr_s (xs := path) (enc := eI64) sl44 rfl rfl (.f 0 rfl) h7) rfl ?_
          refine o_v (v_load_s (xs := path) (enc := eI64) ty3 rfl (.f 0 rfl) h7 rfl rfl rfl rfl rfl rfl rfl) rfl ?_
          refine o_v (v_assign rfl) rfl ?_
          refine o_seq ?_
          obtain ⟨hq0, hq1⟩ := inR_iff.1 hq
          have hqn : path[i].toNat < cur.kids.length := by omega
          have hup : up ⟨cur.rule, cur.byte, cur.a, cur.n, cur.c, cur.kids.take path[i].toNat, cur.kids.drop (path[i].toNat + 1)⟩ (cur.kids[path[i].toNat]'hqn) = cur := by
            unfold up
            simp only
            rw [List.getElem_cons_drop, List.take_append_drop]
            cases cur
            rfl
          have hptr : ptr b3 (⟨cur.rule, cur.byte, cur.a, cur.n, cur.c, cur.kids.take path[i].toNat, cur.kids.drop (path[i].toNat + 1)⟩ :: fs) = .pointer (some ⟨blkA cur.a, offA cur.a + ((at_ path (i : Int)).toNat * 3 + 0), none⟩) := by
            simp only [ptr, List.length_take, Int.toNat_natCast, hat]
            rw [Nat.min_eq_left (by omega)]
          have hat2 : at_ (cur.kids.map tr) path[i] = tr (cur.kids[path[i].toNat]'hqn) := by simp [at_, hqn]
          have hw : IntKind.wrap .i64 ((i : Int) + 1) = ((i + 1 : Nat) : Int) := by
            simp only [IntKind.wrap, IntKind.bits, IntKind.signed]
            simp
            omega
          have hnext : ∀ a w, St ⟨Tryd.prog, 43, w0, X, blks [], [], none⟩ [(3, .pointer (some ⟨b3, 0, none⟩)), (5, .pointer (some ⟨b5, 0, none⟩)), (6, .pointer (some ⟨b6, 0, none⟩)), (25, .slice sa2 sn2 sc2), (26, .int .i64 (path.length : Int)), (27, .int .i64 (IntKind.wrap .i64 ((i : Int) + 1))), (10, .pointer (some ⟨blkA cur.a, offA cur.a + ((at_ path (i : Int)).toNat * 3 + 0), none⟩))] (.box b6 27 [.int .i64 0, .int .u8 0, .slice none 0 0] :: .box b5 27 [.int .i64 s.Rule, .int .u8 s.Byte, .slice sa3 sn3 sc3] :: .box b3 27 [.int .i64 V.rule, .int .u8 V.byte, .slice V.a V.n V.c] :: rws V) [(.slice sa2 sn2 sc2, .slice 1 (path.map eI64)), (.slice sa3 sn3 sc3, .slice 3 (s.Kids.map eTree))] a w →
              ∃ j', j' < j ∧ ∃ (i : Nat) (fs : List Fr) (cur : VT), i + j' = path.length + 1 ∧ i ≤ path.length ∧ plug fs cur = V ∧ (∃ z, putT (tr cur) (path.drop i) s = some z) ∧ (∀ y, putT (tr cur) (path.drop i) s = some (tr y) → x = tr (plug fs y)) ∧ St ⟨Tryd.prog, 43, w0, X, blks [], [], none⟩ [(3, .pointer (some ⟨b3, 0, none⟩)), (5, .pointer (some ⟨b5, 0, none⟩)), (6, .pointer (some ⟨b6, 0, none⟩)), (25, .slice sa2 sn2 sc2), (26, .int .i64 (path.length : Int)), (27, .int .i64 (i : Int)), (10, ptr b3 fs)] (.box b6 27 [.int .i64 0, .int .u8 0, .slice none 0 0] :: .box b5 27 [.int .i64 s.Rule, .int .u8 s.Byte, .slice sa3 sn3 sc3] :: .box b3 27 [.int .i64 V.rule, .int .u8 V.byte, .slice V.a V.n V.c] :: rws V) [(.slice sa2 sn2 sc2, .slice 1 (path.map eI64)), (.slice sa3 sn3 sc3, .slice 3 (s.Kids.map eTree))] a w := by
            intro a w hs
            refine ⟨j - 1, by omega, i + 1, ⟨cur.rule, cur.byte, cur.a, cur.n, cur.c, cur.kids.take path[i].toNat, cur.kids.drop (path[i].toNat + 1)⟩ :: fs, cur.kids[path[i].toNat]'hqn, by omega, by omega, ?_, ⟨y0, by rw [← hat2]; exact hy0⟩, ?_, ?_⟩
            · rw [plug, hup, hpl]
            · intro y hy
              refine hx (up ⟨cur.rule, cur.byte, cur.a, cur.n, cur.c, cur.kids.take path[i].toNat, cur.kids.drop (path[i].toNat + 1)⟩ y) ?_
              rw [hd, tr_eq cur]
              simp only [putT]
              rw [if_pos (by rw [List.length_map]; exact hq), hat2, hy, Option.map_some, tr_eq (up _ y)]
              congr 2
              unfold set_ up
              rw [List.set_eq_take_append_cons_drop, if_pos (by simpa using hqn)]
              simp [VT.kids, List.map_take, List.map_drop]
            · rw [hptr, ← hw]
              exact hs
          cases fs with
          | nil =>
            have hcv : cur = V := hpl
            subst hcv
            refine c_region ?_
            refine o_v (v_move rfl) rfl ?_
            refine o_v (v_nilCheck rfl) rfl ?_
            refine o_v (v_fieldAddr (v := .pointer (some ⟨b3, 2, none⟩)) rfl (fun _ => by kernel_rfl)) rfl ?_
            refine o_v (v_load_box 2 ty25 rfl rfl rfl rfl rfl) rfl ?_
            refine o_v (v_move rfl) rfl ?_
            refine o_v (v_indexAddr_s (xs := cur.kids) (enc := eV) sl25 rfl rfl (.r (jr + 3) _ hjr) hq') rfl ?_
            refine o_v (v_assign rfl) rfl ?_
            refine o_nil ?_
            refine sat_wc ?_
            refine c_region ?_
            refine o_v (v_bin rfl rfl rfl) rfl ?_
            refine o_v (v_move rfl) rfl ?_
            refine o_nil ?_
            intro a w hs
            exact hnext a w (st_sub (le_cons rfl (le_cons rfl (le_cons rfl (le_cons rfl (le_cons rfl (le_cons rfl (le_cons rfl le_nil))))))) (List.Sublist.refl _) (sub_cons 0 rfl (sub_cons 1 rfl sub_nil)) a w hs)
          | cons f fs =>
            have hrow2 : HB.row f.sl 27 3 ((f.before ++ cur :: f.after).map eV) ∈ rws V := by rw [← hpl]; exact par_row f fs cur
            obtain ⟨jr2, hjr2⟩ := List.getElem?_of_mem hrow2
            have h8 : inR ((f.before.length : Nat) : Int) (f.before ++ cur :: f.after).length = true := by rw [inR_iff]; simp; omega
            have h9 : at_ (f.before ++ cur :: f.after) ((f.before.length : Nat) : Int) = cur := by simp [at_]
            refine c_region ?_
            refine o_v (v_move rfl) rfl ?_
            refine o_v (v_nilCheck rfl) rfl ?_
            refine o_v (v_fieldAddr (v := .pointer (some ⟨blkA f.a, offA f.a + (((f.before.length : Nat) : Int).toNat * 3 + 2), none⟩)) rfl (fun _ => by kernel_rfl)) rfl ?_
            refine o_load_s (a := f.a) (n := f.n) (c := f.c) (i := ((f.before.length : Nat) : Int)) (j := 2) (ds := [.own cur.a cur.n cur.c]) (xs := f.before ++ cur :: f.after) (enc := eV) ty25 rfl (.r (jr2 + 3) _ hjr2) h8 (by rw [h9]; rfl) rfl rfl rfl rfl rfl ?_
            refine o_v (v_move rfl) rfl ?_
            refine o_v (v_indexAddr_s (xs := cur.kids) (enc := eV) sl25 rfl rfl (.r (jr + 3) _ hjr) hq') rfl ?_
            refine o_v (v_assign rfl) rfl ?_
            refine o_nil ?_
            refine sat_wc ?_
            refine c_region ?_
            refine o_v (v_bin rfl rfl rfl) rfl ?_
            refine o_v (v_move rfl) rfl ?_
            refine o_nil ?_
            intro a w hs
            exact hnext a w (st_sub (le_cons rfl (le_cons rfl (le_cons rfl (le_cons rfl (le_cons rfl (le_cons rfl (le_cons rfl le_nil))))))) (List.Sublist.refl _) (sub_cons 0 rfl (sub_cons 1 rfl sub_nil)) a w hs)
        · have hge : i = path.length := by
            have : ¬ i < path.length := by simpa using h6
            omega
          have hdn : path.drop i = [] := List.drop_eq_nil_of_le (by omega)
          rw [hdn] at hx
          refine c_exit0 ?_
          refine s_st ?_ (hN1 fs cur hpl hx)
          exact st_sub (le_cons rfl (le_cons rfl (le_cons rfl (le_cons rfl le_nil)))) (List.Sublist.refl _) (sub_cons 1 rfl sub_nil)
    · intro fs cur hpl hx
      refine sat_wc ?_
      refine c_seq ?_
      refine c_region ?_
      refine o_v (v_move rfl) rfl ?_
      refine o_v (v_load_box 1 ty27 rfl rfl rfl rfl rfl) rfl ?_
      refine o_call0 call54 rfl (sub_cons 0 rfl sub_nil) (hcs sa3 sn3 sc3) rfl ?_
      rintro _ _ _ ⟨Y, hY, rfl, rfl, rfl⟩
      have hxY := hx Y (by rw [hY]; rfl)
      cases fs with
      | nil =>
        refine o_st (st_perm (List.perm_append_comm_assoc (rws Y) [_, _, _] _)) ?_
        refine o_v (v_nilCheck rfl) rfl ?_
        refine o_store_box 2 rfl ty27 rfl rfl rfl rfl rfl rfl rfl ?_
        refine o_seq ?_
        refine c_seq ?_
        refine c_region ?_
        refine o_v (v_load_box 2 ty27 rfl rfl rfl rfl rfl) rfl ?_
        refine o_store_box 0 rfl ty27 rfl rfl rfl rfl rfl rfl rfl ?_
        refine o_v (v_assign rfl) rfl ?_
        refine o_seq ?_
        refine c_ret ?_
        refine s_ret2 rfl (r_cell 0 rfl ty27 rfl rfl rfl rfl) (r_tmp rfl) fun a w hs => ?_
        exact fin_intro hs (H' := rws Y) (H'' := rws Y) (Φ' := []) ⟨Y, hxY.symm, rfl, rfl, rfl⟩ (List.Sublist.cons _ (List.Sublist.cons _ (List.Sublist.cons _ (List.sublist_append_left _ _)))) (.refl _) sub_nil
      | cons f fs =>
        obtain ⟨pre, post, hpp⟩ := plug_rws fs (eV (up f cur))
        have hV1 : rws V = pre ++ (rws (up f cur) ++ post) := by rw [← hpl]; exact hpp _ rfl
        have hV2 : rws (plug (f :: fs) Y) = pre ++ (rws (up f Y) ++ post) := hpp _ (eV_up f Y cur)
        have h8 : inR ((f.before.length : Nat) : Int) (f.before ++ cur :: f.after).length = true := by rw [inR_iff]; simp; omega
        have h9 : at_ (f.before ++ cur :: f.after) ((f.before.length : Nat) : Int) = cur := by simp [at_]
        refine o_st (st_perm (H' := .row f.sl 27 3 ((f.before ++ cur :: f.after).map eV) :: .box b6 27 [.int .i64 0, .int .u8 0, .slice none 0 0] :: .box b5 27 [.int .i64 s.Rule, .int .u8 s.Byte, .slice sa3 sn3 sc3] :: .box b3 27 [.int .i64 V.rule, .int .u8 V.byte, .slice V.a V.n V.c] :: ((pre ++ (rwss f.before ++ (rws Y ++ (rwss f.after ++ post)))) ++ rws cur)) ?_) ?_
        · rw [hV1, rws_up]
          classical
          rw [List.perm_iff_count]
          intro q
          simp only [List.count_append, List.count_cons]
          omega
        refine o_v (v_nilCheck rfl) rfl ?_
        refine o_store_s (a := f.a) (n := f.n) (c := f.c) (i := ((f.before.length : Nat) : Int)) (j := 0) (xs := f.before ++ cur :: f.after) (enc := eV) 0 Y rfl ty27 rfl rfl rfl rfl h8 (.s (d := .int .i64 Y.rule) rfl (.s (d := .int .u8 Y.byte) rfl (.s (d := .own Y.a Y.n Y.c) rfl .nil))) rfl rfl (by rw [h9]; rfl) ?_
        refine o_seq ?_
        refine c_seq ?_
        refine c_region ?_
        refine o_v (v_load_box 3 ty27 rfl rfl rfl rfl rfl) rfl ?_
        refine o_store_box 1 rfl ty27 rfl rfl rfl rfl rfl rfl rfl ?_
        refine o_v (v_assign rfl) rfl ?_
        refine o_seq ?_
        refine c_ret ?_
        refine s_ret2 rfl (r_cell 1 rfl ty27 rfl rfl rfl rfl) (r_tmp rfl) fun a w hs => ?_
        refine fin_intro hs (H' := rws (plug (f :: fs) Y)) (H'' := .row f.sl 27 3 ((f.before ++ Y :: f.after).map eV) :: (pre ++ (rwss f.before ++ (rws Y ++ (rwss f.after ++ post))))) (Φ' := []) ⟨plug (f :: fs) Y, hxY.symm, ?_, rfl, rfl⟩ ?_ ?_ sub_nil
        · have hv : (plug (f :: fs) Y).val = V.val := by rw [plug_val fs f Y cur, hpl]
          rw [hv]
          rfl
        · have hset : set_ (f.before ++ cur :: f.after) ((f.before.length : Nat) : Int) Y = f.before ++ Y :: f.after := by simp [set_]
          rw [hset]
          exact List.Sublist.cons_cons _ (List.Sublist.cons _ (List.Sublist.cons _ (List.Sublist.cons _ (List.sublist_append_left _ _))))
        · rw [hV2, rws_up]
          classical
          rw [List.perm_iff_count]
          intro q
          simp only [List.count_append, List.count_cons]
          omega
theorem tri_letgo {P : Program} {f : FuncId} {vs : List Value} {Hp : List HB} {Φp : List (Value × Dc)} {pr : VT → Prop} {g : VT → Out} (h : Tri P f vs Hp Φp (fun o H Φ => ∃ V, pr V ∧ o = g V ∧ H = rws V ∧ Φ = [])) : Tri P f vs Hp Φp (fun o H Φ => ∃ V, pr V ∧ o = g V ∧ H = [] ∧ Φ = [fct V]) := by
  intro w X ho
  refine (h w X ho).mono ?_
  rintro e w' ⟨out, he, H', Φ', ⟨V, hp, rfl, rfl, rfl⟩, hf, hown, hb⟩
  refine ⟨_, he, [], [fct V], ⟨V, hp, rfl, rfl, rfl⟩, hf, ?_, by simp⟩
  exact Own.letgo V [] [] [] (by simpa using hown)
theorem tri26 (k : Nat) (t : Tree) (path : List Int) (s : Tree) (sa1 : Option Addr) (sn1 sc1 : Nat) (sa2 : Option Addr) (sn2 sc2 : Nat) (sa3 : Option Addr) (sn3 sc3 : Nat) (r : Tree × Int) (hF : F.trees.Put k t path s = some r) :
    Tri Tryd.prog 26 [.agg #[.int .i64 t.Rule, .int .u8 t.Byte, .slice sa1 sn1 sc1], .slice sa2 sn2 sc2, .agg #[.int .i64 s.Rule, .int .u8 s.Byte, .slice sa3 sn3 sc3]] [] [(.slice sa1 sn1 sc1, .slice 3 (t.Kids.map eTree)), (.slice sa2 sn2 sc2, .slice 1 (path.map eI64)), (.slice sa3 sn3 sc3, .slice 3 (s.Kids.map eTree))] (fun o H Φ => ∃ (sa7 : Option Addr) (sn7 sc7 : Nat), o = .ret (.tuple #[.agg #[.int .i64 r.1.Rule, .int .u8 r.1.Byte, .slice sa7 sn7 sc7], .int .i64 r.2]) ∧ H = [] ∧ Φ = [(.slice sa7 sn7 sc7, .slice 3 (r.1.Kids.map eTree))]) := by
  refine (tri_letgo (tri26_deep k t path s sa1 sn1 sc1 sa2 sn2 sc2 sa3 sn3 sc3 r hF)).mono ?_
  rintro o H Φ ⟨V, hV, rfl, rfl, rfl⟩
  refine ⟨V.a, V.n, V.c, ?_, rfl, ?_⟩
  · rw [← hV, tr_eq]; rfl
  · rw [← hV, tr_eq]; rfl
end Go.Vc
