/-
  Trees whose rows are all the call's own: what they are, how they are let go; trees.copied makes such.
-/
import Derived.Test.YtncbbbjakbaojaaDoorH2
set_option linter.unusedVariables false
set_option linter.unusedSimpArgs false
set_option maxRecDepth 8000
set_option maxHeartbeats 2000000
namespace Go.Vc
open Go Go.Proofs
/-- a tree by its memory -/
inductive VT where
  | mk (rule byte : Int) (a : Option Addr) (n c : Nat) (kids : List VT)
instance : Inhabited VT := ⟨.mk 0 0 none 0 0 []⟩
def VT.rule : VT → Int | .mk r _ _ _ _ _ => r
def VT.byte : VT → Int | .mk _ b _ _ _ _ => b
def VT.a : VT → Option Addr | .mk _ _ a _ _ _ => a
def VT.n : VT → Nat | .mk _ _ _ n _ _ => n
def VT.c : VT → Nat | .mk _ _ _ _ c _ => c
def VT.kids : VT → List VT | .mk _ _ _ _ _ ks => ks
def VT.sl (x : VT) : Value := .slice x.a x.n x.c
def VT.val (x : VT) : Value := .agg #[.int .i64 x.rule, .int .u8 x.byte, .slice x.a x.n x.c]
def eV (x : VT) : List Dc := [.int .i64 x.rule, .int .u8 x.byte, .own x.a x.n x.c]
mutual
def tr : VT → Tree | .mk r b _ _ _ ks => .mk r b (trs ks)
def trs : List VT → List Tree | [] => [] | x :: r => tr x :: trs r
end
theorem trs_map : ∀ l, trs l = l.map tr
  | [] => rfl
  | x :: r => by simp only [trs, List.map]; rw [trs_map r]
mutual
def rws : VT → List HB | .mk _ _ a n c ks => .row (.slice a n c) 27 3 (ks.map eV) :: rwss ks
def rwss : List VT → List HB | [] => [] | x :: r => rws x ++ rwss r
end
theorem rws_eq (x : VT) : rws x = .row x.sl 27 3 (x.kids.map eV) :: rwss x.kids := by cases x; rfl
theorem tr_eq (x : VT) : tr x = .mk x.rule x.byte (x.kids.map tr) := by cases x; simp only [tr, trs_map]; rfl
theorem rwss_app : ∀ a b : List VT, rwss (a ++ b) = rwss a ++ rwss b
  | [], _ => rfl
  | x :: a, b => by rw [List.cons_append, rwss, rwss, rwss_app a b, List.append_assoc]
/-! ### letting go -/
theorem Own.retell {w : World} {X : Nat → Prop} {H₁ H₂ : List HB} {v : Value} {T : TypeId} {sz : Nat} {xs xs' : List (List Dc)} {Φ : List (Value × Dc)} (o : Own w X (H₁ ++ .row v T sz xs :: H₂) Φ)
    (hl : xs'.length = xs.length) (hs : ∀ e ∈ xs', e.length = sz)
    (hc : ∀ (Y : Nat → Prop), (∀ p ∈ Φ, PureC w Y p.1 p.2) → ∀ i j (hi : i < xs.length) (hi' : i < xs'.length) (hj : j < xs[i].length) (hj' : j < xs'[i].length) u, PureC w Y u xs[i][j] → PureC w Y u xs'[i][j]) : Own w X (H₁ ++ .row v T sz xs' :: H₂) Φ := by
  have hb : blks (H₁ ++ .row v T sz xs' :: H₂) = blks (H₁ ++ .row v T sz xs :: H₂) := by
    simp only [blks_append, blks_cons]
    have : HB.blk (.row v T sz xs') = HB.blk (.row v T sz xs) := by
      cases v with
      | slice a n c => cases a <;> rfl
      | _ => rfl
    rw [this]
  refine ⟨o.xin, by rw [hb]; exact o.nodup, by rw [hb]; exact o.apart, by rw [hb]; exact o.inw, ?_, by rw [hb]; exact o.facts⟩
  rw [hb]
  intro h hh
  have hold := o.live
  rcases List.mem_append.1 hh with hh | hh
  · exact hold h (by simp [hh])
  · rcases List.mem_cons.1 hh with rfl | hh
    · have := hold (.row v T sz xs) (by simp)
      rcases this with ⟨rfl, rfl⟩ | ⟨b, cap, arr, rfl, h1, h2, h3, h4, h5, h6⟩
      · exact .inl ⟨rfl, List.length_eq_zero_iff.1 (by simpa using hl)⟩
      · refine .inr ⟨b, cap, arr, by rw [hl], h1, h2, h3, by omega, hs, fun i j hi hj => ?_⟩
        have hi0 : i < xs.length := by omega
        have hj0 : j < xs[i].length := by
          rw [h5 _ (List.getElem_mem hi0)]
          rw [hs _ (List.getElem_mem hi)] at hj
          exact hj
        obtain ⟨u, hu, hp⟩ := h6 i j hi0 hj0
        exact ⟨u, hu, hc _ o.facts i j hi0 hi hj0 hj u hp⟩
    · exact hold h (by simp [hh])
theorem eTree_own {w : World} {Y : Nat → Prop} {x : VT} (hf : PureC w Y x.sl (.slice 3 ((x.kids.map tr).map eTree))) (j : Nat) (hj : j < (eV x).length) (hj' : j < (eTree (tr x)).length) (u : Value) (hp : PureC w Y u (eV x)[j]) : PureC w Y u (eTree (tr x))[j] := by
  have e : eTree (tr x) = [.int .i64 x.rule, .int .u8 x.byte, .slice 3 ((x.kids.map tr).map eTree)] := by rw [tr_eq, eTree_eq]
  simp only [e]
  simp only [eV, List.length_cons, List.length_nil] at hj
  have : j = 0 ∨ j = 1 ∨ j = 2 := by omega
  rcases this with rfl | rfl | rfl
  · exact hp
  · exact hp
  · have hp' : PureC w Y u (.own x.a x.n x.c) := hp
    cases hp'
    exact hf
def fct (x : VT) : Value × Dc := (x.sl, .slice 3 ((x.kids.map tr).map eTree))
mutual
theorem Own.letgo {w : World} {X : Nat → Prop} : ∀ (x : VT) (H₁ H₂ : List HB) (Φ : List (Value × Dc)), Own w X (H₁ ++ (rws x ++ H₂)) Φ → Own w X (H₁ ++ H₂) (fct x :: Φ)
  | .mk r b a n c ks, H₁, H₂, Φ, o => by
    have o1 : Own w X ((H₁ ++ [.row (.slice a n c) 27 3 (ks.map eV)]) ++ (rwss ks ++ H₂)) Φ := by
      have e : H₁ ++ (rws (.mk r b a n c ks) ++ H₂) = (H₁ ++ [.row (.slice a n c) 27 3 (ks.map eV)]) ++ (rwss ks ++ H₂) := by simp [rws]
      rw [← e]; exact o
    have o2 := Own.letgos ks _ _ _ o1
    rw [List.append_assoc] at o2
    have o3 := Own.retell (xs' := (ks.map tr).map eTree) o2 (by simp) (fun e he => by
      simp only [List.map_map, List.mem_map] at he
      obtain ⟨y, _, rfl⟩ := he
      simp [eTree_eq]) (fun Y hY i j hi hi' hj hj' u hp => by
        have hi0 : i < ks.length := by simpa using hi
        have hf := hY (fct ks[i]) (List.mem_append.2 (.inl (List.mem_map.2 ⟨ks[i], List.getElem_mem hi0, rfl⟩)))
        simp only [List.getElem_map] at hj hj' hp ⊢
        exact eTree_own hf j hj hj' u hp)
    have o4 := Own.freeze o3
    exact o4.sub (List.Sublist.refl _) (fun p hp => by
      rcases List.mem_cons.1 hp with rfl | hp
      · exact List.mem_cons_self
      · exact List.mem_cons_of_mem _ (List.mem_append.2 (.inr hp)))
theorem Own.letgos {w : World} {X : Nat → Prop} : ∀ (ks : List VT) (H₁ H₂ : List HB) (Φ : List (Value × Dc)), Own w X (H₁ ++ (rwss ks ++ H₂)) Φ → Own w X (H₁ ++ H₂) (ks.map fct ++ Φ)
  | [], H₁, H₂, Φ, o => o
  | x :: ks, H₁, H₂, Φ, o => by
    rw [rwss, List.append_assoc] at o
    have o1 := Own.letgo x _ _ _ o
    have o2 := Own.letgos ks _ _ _ o1
    exact o2.sub (List.Sublist.refl _) (fun p hp => by
      simp only [List.map_cons, List.cons_append, List.mem_cons, List.mem_append] at hp ⊢
      rcases hp with hp | hp | hp
      · exact .inr (.inl hp)
      · exact .inl hp
      · exact .inr (.inr hp))
end
/-! ### states told otherwise -/
section
variable {E : Env} {ops : Array Oper} {os : List Oper} {l : List (Nat × Value)} {H : List HB} {Φ : List (Value × Dc)} {N : SP} {Q : QS}
theorem st_perm {H' : List HB} (hp : H.Perm H') : ∀ a w, St E l H Φ a w → St E l H' Φ a w := fun a w hs =>
  ⟨hs.size, hs.defers, hs.tm, hs.own.perm hp, hs.frm, fun b hb => hs.base b ((hp.filterMap HB.blk).mem_iff.2 hb)⟩
theorem st_sub {l' : List (Nat × Value)} {H' : List HB} {Φ' : List (Value × Dc)} (hl : LE l l') (hH : H'.Sublist H) (hΦ : ∀ p ∈ Φ', p ∈ Φ) : ∀ a w, St E l H Φ a w → St E l' H' Φ' a w := fun a w hs =>
  w_weaken (findT_le hl) hH hΦ hs
/-- a tree is let go -/
theorem st_letgo {H₁ H₂ : List HB} (x : VT) : ∀ a w, St E l (H₁ ++ (rws x ++ H₂)) Φ a w → St E l (H₁ ++ H₂) (fct x :: Φ) a w := fun a w hs =>
  ⟨hs.size, hs.defers, hs.tm, hs.own.letgo x, hs.frm, fun b hb => hs.base b (by
    simp only [blks_append, List.mem_append] at hb ⊢
    rcases hb with hb | hb
    · exact .inl hb
    · exact .inr (.inr hb))⟩
end
abbrev ET := VT ⊕ Tree
instance : Inhabited ET := ⟨.inl default⟩
def eS : ET → List Dc := Sum.elim eV eTree
/-- what 'copied' does with a tree, if it does so with its kids -/
def CopyOk (t : Tree) : Prop := ∀ (sa1 : Option Addr) (sn1 sc1 : Nat), Tri Tryd.prog 54 [.agg #[.int .i64 t.Rule, .int .u8 t.Byte, .slice sa1 sn1 sc1]] [] [(.slice sa1 sn1 sc1, .slice 3 (t.Kids.map eTree))] (fun o H Φ => ∃ V : VT, tr V = t ∧ o = .ret V.val ∧ H = rws V ∧ Φ = [])
theorem copied_step {t : Tree} (hlen : t.Kids.length * 40 ≤ 140737488355328) (hk : ∀ x ∈ t.Kids, CopyOk x) : CopyOk t := by
  intro sa1 sn1 sc1
  have hcl : F.slices.Clone t.Kids = some t.Kids := by unfold F.slices.Clone; rw [if_pos (decide_eq_true hlen)]
  refine tri_intro (n := 26) Tryd.func54 rfl Tryd.ntmps54 rfl fun w X => ?_
  refine c_seq ?_
  refine c_region ?_
  refine o_box rfl rfl rfl fun b => ?_
  refine o_alloc zero27 rfl rfl fun b1 => ?_
  refine o_seq ?_
  refine c_seq ?_
  refine c_region ?_
  refine o_v (v_fieldAddr (v := .pointer (some ⟨b, 2, none⟩)) rfl (fun _ => by kernel_rfl)) rfl ?_
  refine o_v (v_load_box 1 ty25 rfl rfl rfl rfl rfl) rfl ?_
  refine o_call0 call71 rfl (sub_cons 0 rfl sub_nil) (tri71 t.Kids sa1 sn1 sc1 t.Kids hcl) rfl ?_
  rintro _ _ _ ⟨sa2, sn2, sc2, rfl, rfl, rfl⟩
  refine o_v (v_fieldAddr (v := .pointer (some ⟨b, 2, none⟩)) rfl (fun _ => by kernel_rfl)) rfl ?_
  refine o_store_box 2 rfl ty25 rfl rfl rfl rfl rfl rfl rfl ?_
  refine o_seq ?_
  refine c_seq ?_
  refine c_seq ?_
  refine c_region ?_
  refine o_v (v_fieldAddr (v := .pointer (some ⟨b, 2, none⟩)) rfl (fun _ => by kernel_rfl)) rfl ?_
  refine o_v (v_load_box 2 ty25 rfl rfl rfl rfl rfl) rfl ?_
  refine o_v (v_lenS (enc := eTree) t.Kids sl25 rfl (.r 0 _ rfl)) rfl ?_
  refine o_v (v_move rfl) rfl ?_
  refine o_seq ?_
  refine c_cut (fun E N' => ∀ (done : List VT) (Hd : List HB), done.map tr = t.Kids → Hd.Perm (rwss done) → Sat E [(0, .agg #[.int .i64 t.Rule, .int .u8 t.Byte, .slice sa1 sn1 sc1]), (1, .pointer (some ⟨b, 0, none⟩)), (2, .pointer (some ⟨b1, 0, none⟩))] (.box b1 27 [.int .i64 0, .int .u8 0, .slice none 0 0] :: .box b 27 [.int .i64 t.Rule, .int .u8 t.Byte, .slice sa2 sn2 sc2] :: .row (.slice sa2 sn2 sc2) 27 3 (done.map eV) :: Hd) [(.slice sa1 sn1 sc1, .slice 3 (t.Kids.map eTree))] N') (fun N1 hN1 => ?_) ?_
  · refine c_block ?_
    refine c_loopE (fun E j a w => ∃ (i : Nat) (done : List VT) (Hd : List HB), i + j = t.Kids.length + 1 ∧ i ≤ t.Kids.length ∧ done.map tr = t.Kids.take i ∧ Hd.Perm (rwss done) ∧ St E [(0, .agg #[.int .i64 t.Rule, .int .u8 t.Byte, .slice sa1 sn1 sc1]), (1, .pointer (some ⟨b, 0, none⟩)), (2, .pointer (some ⟨b1, 0, none⟩)), (10, .int .i64 (t.Kids.length : Int)), (11, .int .i64 (i : Int))] (.box b1 27 [.int .i64 0, .int .u8 0, .slice none 0 0] :: .box b 27 [.int .i64 t.Rule, .int .u8 t.Byte, .slice sa2 sn2 sc2] :: .row (.slice sa2 sn2 sc2) 27 3 ((done.map Sum.inl ++ (t.Kids.drop i).map Sum.inr : List ET).map eS) :: Hd) [(.slice sa1 sn1 sc1, .slice 3 (t.Kids.map eTree))] a w) (t.Kids.length + 1) ?_ ?_
    · intro a w hs
      refine ⟨0, [], [], by omega, by omega, rfl, .refl _, ?_⟩
      have e : (([] : List VT).map Sum.inl ++ (t.Kids.drop 0).map Sum.inr : List ET).map eS = t.Kids.map eTree := by
        simp only [List.map_nil, List.nil_append, List.drop_zero, List.map_map]
        rfl
      rw [e]
      exact st_le [1, 1, 0] (le_cons rfl (le_cons rfl (le_cons rfl (le_cons rfl (le_cons rfl le_nil))))) rfl (sub_cons 0 rfl sub_nil) a w hs
    · rintro j a w ⟨i, done, Hd, hij, hi, hdone, hHd, hs⟩
      have hdl : done.length = i := by
        have := congrArg List.length hdone
        rw [List.length_map, List.length_take] at this
        omega
      refine wc_app hs ?_
      refine c_seq ?_
      refine c_region ?_
      refine o_v (v_bin rfl rfl rfl) rfl ?_
      refine o_seq ?_
      refine c_seq ?_
      refine c_cond rfl (fun h2 => ?_) (fun h2 => ?_)
      · have hlt : i < t.Kids.length := by simpa using h2
        have hxs : (done.map Sum.inl ++ (t.Kids.drop i).map Sum.inr : List ET).length = t.Kids.length := by simp [hdl]; omega
        have h3 : inR (i : Int) (done.map Sum.inl ++ (t.Kids.drop i).map Sum.inr : List ET).length = true := by rw [hxs, inR_iff]; omega
        have hat : at_ (done.map Sum.inl ++ (t.Kids.drop i).map Sum.inr : List ET) (i : Int) = .inr t.Kids[i] := by
          simp only [at_, Int.toNat_natCast, List.getD_eq_getElem?_getD]
          rw [List.getElem?_append_right (by simp [hdl]), List.length_map, hdl, Nat.sub_self, List.drop_eq_getElem_cons hlt]
          rfl
        refine c_skip ?_
        refine sat_wc ?_
        refine c_seq ?_
        refine c_block ?_
        refine c_seq ?_
        refine c_region ?_
        refine o_v (v_move rfl) rfl ?_
        refine o_v (v_assign rfl) rfl ?_
        refine o_seq ?_
        refine c_draw (n := 11) [0, 0] mixed rfl rfl ?_
        refine d_val 0 rfl pnok (by kernel_rfl) (by kernel_rfl) (by kernel_rfl) rfl (v_fieldAddr (v := .pointer (some ⟨b, 2, none⟩)) rfl (fun _ => by kernel_rfl)) ?_
        refine d_val 1 rfl pnok (by kernel_rfl) (by kernel_rfl) (by kernel_rfl) rfl (v_load_box 1 ty25 rfl rfl rfl rfl rfl) ?_
        refine d_val 2 rfl pnok (by kernel_rfl) (by kernel_rfl) (by kernel_rfl) rfl (v_move rfl) ?_
        refine d_val 3 rfl pnok (by kernel_rfl) (by kernel_rfl) (by kernel_rfl) rfl (v_fieldAddr (v := .pointer (some ⟨b, 2, none⟩)) rfl (fun _ => by kernel_rfl)) ?_
        refine d_val 4 rfl pnok (by kernel_rfl) (by kernel_rfl) (by kernel_rfl) rfl (v_load_box 1 ty25 rfl rfl rfl rfl rfl) ?_
        refine d_val 5 rfl pnok (by kernel_rfl) (by kernel_rfl) (by kernel_rfl) rfl (v_move rfl) ?_
        refine d_one 6 rfl (by kernel_rfl) ?_
        refine o_v (v_indexAddr_s (xs := (done.map Sum.inl ++ (t.Kids.drop i).map Sum.inr : List ET)) (enc := eS) sl25 rfl rfl (.r 2 _ rfl) h3) rfl ?_
        refine d_next [0, 0] 0 rfl rfl ?_
        refine d_one 7 rfl (by kernel_rfl) ?_
        refine o_load_s (ds := [.int .i64 (t.Kids[i].Rule), .int .u8 (t.Kids[i].Byte), .slice 3 ((t.Kids[i].Kids).map eTree)]) (xs := (done.map Sum.inl ++ (t.Kids.drop i).map Sum.inr : List ET)) (enc := eS) ty27 rfl (.r 2 _ rfl) h3 (by rw [hat]; show ((eTree t.Kids[i]).drop 0).take 3 = _; rw [eTree_eq]; rfl) rfl rfl rfl rfl rfl fun sa5 sn5 sc5 => ?_
        refine d_next [0, 0] 1 rfl rfl ?_
        refine d_one 8 rfl (by kernel_rfl) ?_
        refine o_call0 call54 rfl (sub_cons 0 rfl sub_nil) (hk t.Kids[i] (List.getElem_mem hlt) sa5 sn5 sc5) rfl ?_
        rintro _ _ _ ⟨V, hV, rfl, rfl, rfl⟩
        refine o_st (st_perm (H' := (.box b1 27 [.int .i64 0, .int .u8 0, .slice none 0 0] :: .box b 27 [.int .i64 t.Rule, .int .u8 t.Byte, .slice sa2 sn2 sc2] :: .row (.slice sa2 sn2 sc2) 27 3 ((done.map Sum.inl ++ (t.Kids.drop i).map Sum.inr : List ET).map eS) :: (rws V ++ Hd))) (List.perm_append_comm_assoc _ [_, _, _] _)) ?_
        refine d_next [0, 0] 1 rfl rfl ?_
        refine d_one 9 rfl (by kernel_rfl) ?_
        refine o_v (v_indexAddr_s (xs := (done.map Sum.inl ++ (t.Kids.drop i).map Sum.inr : List ET)) (enc := eS) sl25 rfl rfl (.r 2 _ rfl) h3) rfl ?_
        refine d_next [0, 0] 1 rfl rfl ?_
        refine d_one 10 rfl (by kernel_rfl) ?_
        refine o_store_s (xs := (done.map Sum.inl ++ (t.Kids.drop i).map Sum.inr : List ET)) (enc := eS) 2 (.inl V) rfl ty27 rfl rfl rfl rfl h3 (.s (d := .int .i64 V.rule) rfl (.s (d := .int .u8 V.byte) rfl (.s (d := .own V.a V.n V.c) rfl .nil))) rfl rfl (by rw [hat]; show eV V = putD (eTree t.Kids[i]) 0 _; rw [eTree_eq]; rfl) ?_
        refine d_next [0, 0] 1 rfl rfl ?_
        refine d_done (by kernel_rfl) ?_
        refine sat_wc ?_
        refine c_region ?_
        refine o_v (v_bin rfl rfl rfl) rfl ?_
        refine o_v (v_move rfl) rfl ?_
        refine o_nil ?_
        intro a w hs
        refine ⟨j - 1, by omega, i + 1, done ++ [V], rws V ++ Hd, by omega, by omega, ?_, ?_, ?_⟩
        · rw [List.map_append, hdone, List.map_cons, List.map_nil, hV, List.take_succ_eq_append_getElem hlt]
        · rw [rwss_app]
          refine List.perm_append_comm.trans (List.Perm.append hHd ?_)
          simp [rwss]
        · have e1 : IntKind.wrap .i64 ((i : Int) + 1) = ((i + 1 : Nat) : Int) := by
            have : t.Kids.length < 4611686018427387904 := by omega
            simp only [IntKind.wrap, IntKind.bits, IntKind.signed]
            simp
            omega
          have e2 : set_ (done.map Sum.inl ++ (t.Kids.drop i).map Sum.inr : List ET) (i : Int) (.inl V) = ((done ++ [V]).map Sum.inl ++ (t.Kids.drop (i + 1)).map Sum.inr : List ET) := by
            simp only [set_, Int.toNat_natCast]
            rw [List.set_append_right _ _ (by simp [hdl]), List.length_map, hdl, Nat.sub_self, List.drop_eq_getElem_cons hlt, List.map_cons, List.set_cons_zero, List.map_append, List.append_assoc]
            rfl
          rw [← e1, ← e2]
          exact st_sub (le_cons rfl (le_cons rfl (le_cons rfl (le_cons rfl (le_cons rfl le_nil))))) (List.Sublist.refl _) (sub_cons 1 rfl sub_nil) a w hs
      · have hge : i = t.Kids.length := by
          have : ¬ i < t.Kids.length := by simpa using h2
          omega
        subst hge
        refine c_exit0 ?_
        refine s_st ?_ (hN1 done Hd (by rw [hdone, List.take_length]) hHd)
        have e : (done.map Sum.inl ++ (t.Kids.drop t.Kids.length).map Sum.inr : List ET).map eS = done.map eV := by
          simp only [List.drop_length, List.map_nil, List.append_nil, List.map_map]
          rfl
        rw [e]
        exact st_sub (le_cons rfl (le_cons rfl (le_cons rfl le_nil))) (List.Sublist.refl _) (sub_cons 0 rfl sub_nil)
  · intro done Hd hdone hHd
    refine sat_wc ?_
    refine c_seq ?_
    refine c_region ?_
    refine o_v (v_load_box 1 ty27 rfl rfl rfl rfl rfl) rfl ?_
    refine o_store_box 0 rfl ty27 rfl rfl rfl rfl rfl rfl rfl ?_
    refine o_seq ?_
    refine c_ret ?_
    refine s_ret1 rfl (r_cell 0 rfl ty27 rfl rfl rfl rfl) fun a w hs => ?_
    refine fin_intro hs (H' := rws (.mk t.Rule t.Byte sa2 sn2 sc2 done)) (H'' := .row (.slice sa2 sn2 sc2) 27 3 (done.map eV) :: Hd) (Φ' := []) ⟨.mk t.Rule t.Byte sa2 sn2 sc2 done, ?_, rfl, rfl, rfl⟩ ?_ ?_ sub_nil
    · rw [tr_eq]
      show Tree.mk t.Rule t.Byte (done.map tr) = t
      rw [hdone]
      cases t
      rfl
    · exact List.Sublist.cons _ (List.Sublist.cons _ (List.Sublist.refl _))
    · exact List.Perm.cons _ hHd
end Go.Vc
