/-
  Trees whose rows are all the call's own: lent to a call; spoilt; the document's copy.
-/
import Derived.Test.YtncbbbjakbaojaaDoorW3
set_option linter.unusedVariables false
set_option linter.unusedSimpArgs false
set_option maxRecDepth 8000
set_option maxHeartbeats 2000000
namespace Go.Vc
open Go Go.Proofs
/-! ### choosing among the blocks -/
noncomputable instance : DecidableEq HB := fun a b => Classical.propDecidable (a = b)
theorem exists_rest : ∀ (A H : List HB), (∀ x, A.count x ≤ H.count x) → ∃ R, H.Perm (A ++ R)
  | [], H, _ => ⟨H, .refl _⟩
  | a :: A, H, h => by
    have ha : a ∈ H := by
      have := h a
      rw [List.count_cons_self] at this
      exact List.count_pos_iff.1 (by omega)
    have hp := List.perm_cons_erase ha
    obtain ⟨R, hR⟩ := exists_rest A (H.erase a) (fun x => by
      have h1 := h x
      rw [List.count_cons] at h1
      have h2 := hp.count_eq x
      rw [List.count_cons] at h2
      omega)
    exact ⟨R, hp.trans (hR.cons a)⟩
def flatH : HB → Prop
  | .row _ _ _ xs => ∀ e ∈ xs, ∀ d ∈ e, d.flat = true
  | _ => False
theorem flat_eV (x : VT) : ∀ d ∈ eV x, d.flat = true := by
  intro d hd
  simp only [eV, List.mem_cons, List.not_mem_nil, or_false] at hd
  rcases hd with rfl | rfl | rfl <;> rfl
mutual
theorem flat_rws : ∀ x : VT, ∀ h ∈ rws x, flatH h
  | .mk r b a n c ks, h, hh => by
    rw [rws] at hh
    rcases List.mem_cons.1 hh with e | hh
    · rw [e]
      intro e he d hd
      obtain ⟨y, _, rfl⟩ := List.mem_map.1 he
      exact flat_eV y d hd
    · exact flat_rwss ks h hh
theorem flat_rwss : ∀ ks : List VT, ∀ h ∈ rwss ks, flatH h
  | [], h, hh => by cases hh
  | x :: ks, h, hh => by
    rw [rwss] at hh
    rcases List.mem_append.1 hh with hh | hh
    · exact flat_rws x h hh
    · exact flat_rwss ks h hh
end
theorem Live.flat {w : World} {X Y : Nat → Prop} {h : HB} (hl : Live w X h) (hf : flatH h) : Live w Y h := by
  cases h with
  | row v T sz xs =>
    rcases hl with hl | ⟨b, cap, arr, rfl, h1, h2, h3, h4, h5, h6⟩
    · exact .inl hl
    · refine .inr ⟨b, cap, arr, rfl, h1, h2, h3, h4, h5, fun i j hi hj => ?_⟩
      obtain ⟨u, hu, hp⟩ := h6 i j hi hj
      exact ⟨u, hu, hp.ofFlat (hf _ (List.getElem_mem hi) _ (List.getElem_mem hj))⟩
  | box _ _ _ => exact hf.elim
  | itr _ _ _ => exact hf.elim
  | dfr _ => exact hf.elim
section
variable {E : Env} {ops : Array Oper} {os : List Oper} {l : List (Nat × Value)} {H : List HB} {Φ : List (Value × Dc)} {N : SP} {Q : QS}
variable {ty : TypeId} {pos : String} {aft : Array Edge} {d : Nat}
theorem st_cnt {l' : List (Nat × Value)} {H' : List HB} {Φ' : List (Value × Dc)} (hl : LE l l') (hH : ∀ x, H'.count x ≤ H.count x) (hΦ : ∀ p ∈ Φ', p ∈ Φ) : ∀ a w, St E l H Φ a w → St E l' H' Φ' a w := fun a w hs => by
  obtain ⟨R, hR⟩ := exists_rest H' H hH
  exact st_sub hl (List.sublist_append_left _ _) hΦ a w (st_perm hR a w hs)
theorem c_rowmax {c : Code} (j : Nat) {v : Value} {T : TypeId} {sz : Nat} {xs : List (List Dc)} (hj : H[j]? = some (.row v T sz xs)) (h : xs.length ≤ maxLen → WC E c l H Φ N Q) : WC E c l H Φ N Q := by
  intro ac w hs
  have := hs.own.live _ (List.mem_of_getElem? hj)
  rcases this with ⟨_, h0⟩ | ⟨b, cap, arr, _, _, h2, _, h4, _⟩
  · exact h (by rw [h0]; exact Nat.zero_le _) ac w hs
  · exact h (by omega) ac w hs
/-- a call that is handed some blocks for good, and lent some trees -/
theorem o_callG {Hp Hr : List HB} (Vs : List VT) {f : FuncId} {args : Array Operand} {argTypes : Array TypeId} {vs : List Value} {Φp : List (Value × Dc)} {post : Post}
    (hc : Callable E.P f) (ha : opvL l args.toList = some vs) (hperm : H.Perm (Hp ++ (rwss Vs ++ Hr))) (hΦ : ∀ p ∈ Φp, p ∈ Vs.map fct ++ Φ) (tri : Tri E.P f vs Hp Φp post) (hd : Nat.blt d E.n = true)
    (hpost : ∀ out H' Φ', post out H' Φ' → Φ' = [] ∧ ∀ h ∈ H', flatH h)
    (h : ∀ out H' Φ', post out H' Φ' → match out with
      | .ret v => WO E ops os ((d, v) :: l) (H' ++ (rwss Vs ++ Hr)) Φ N Q
      | .pan v => Sat E l (H' ++ (rwss Vs ++ Hr)) Φ (Q.Pn v)) :
    WO E ops (⟨some d, .call ⟨.value (.func f), args, argTypes⟩, ty, pos, aft, none⟩ :: os) l H Φ N Q := by
  intro a w hs
  have ha' : args.toList.map a.eval = vs := opvL_eval hs _ _ ha
  simp only [wpL, Region.wanted, if_true, Oper.wp, run_call_value (E := E) (x := .func f) (cap := #[]) hc rfl ha', Oper.upon]
  have o0 := hs.own.perm hperm
  have o1 := Own.letgos Vs Hp Hr Φ o0
  have o2 := (o1.sub (List.Sublist.refl _) hΦ).lend
  have e0 : (vs ++ (#[] : Array Value).toList).toArray = vs.toArray := by simp
  rw [e0]
  refine (tri w _ o2).mono ?_
  rintro e w' ⟨out, rfl, H', Φ', hp, hf, ho, hb⟩
  obtain ⟨hΦ', hflat⟩ := hpost _ _ _ hp
  subst hΦ'
  have hn := o0.nodup
  rw [blks_append] at hn
  have hn1 := List.nodup_append.1 hn
  have hall : ∀ c, c ∈ blks (Hp ++ (rwss Vs ++ Hr)) → E.w0.heap.size ≤ c ∨ c ∈ E.M := fun c hc' =>
    hs.base c ((hperm.filterMap HB.blk).mem_iff.2 hc')
  have hbase : ∀ b ∈ blks (H' ++ (rwss Vs ++ Hr)), E.w0.heap.size ≤ b ∨ b ∈ E.M := by
    intro b hbm
    rw [blks_append] at hbm
    rcases List.mem_append.1 hbm with h1 | h1
    · rcases hb b h1 with h2 | h2
      · exact .inl (Nat.le_trans hs.frm.size h2)
      · exact hall b (by rw [blks_append]; exact List.mem_append.2 (.inl h2))
    · exact hall b (by rw [blks_append]; exact List.mem_append.2 (.inr h1))
  have hfrm : Frm E.w0 E.M w' := by
    refine ⟨hf.os.trans hs.frm.os, hf.tape.trans hs.frm.tape, hf.output.trans hs.frm.output, Nat.le_trans hs.frm.size hf.size, fun b hlt hm => ?_⟩
    rw [hf.block b (Nat.lt_of_lt_of_le hlt hs.frm.size) (fun hin => ?_)]
    · exact hs.frm.block b hlt hm
    · rcases hall b (by rw [blks_append]; exact List.mem_append.2 (.inl hin)) with h1 | h1
      · omega
      · exact hm h1
  have hlt : ∀ b, (E.X b ∨ b ∈ blks (rwss Vs ++ Hr)) → b < w.heap.size := by
    intro b hx
    rcases hx with hx | hx
    · exact o0.xin b hx
    · exact o0.inw b (by rw [blks_append]; exact List.mem_append.2 (.inr hx))
  have ho' : Own w' (fun b => E.X b ∨ b ∈ blks (rwss Vs ++ Hr)) H' [] := by
    refine ⟨fun b hx => Nat.lt_of_lt_of_le (hlt b hx) hf.size, ho.nodup, fun b hbm hx => ?_, ho.inw, fun g hg => (ho.live g hg).flat (hflat g hg), fun p hp => by cases hp⟩
    rcases hb b hbm with h2 | h2
    · have := hlt b hx; omega
    · rcases hx with hx | hx
      · exact o0.apart b (by rw [blks_append]; exact List.mem_append.2 (.inl h2)) hx
      · exact hn1.2.2 b h2 b hx rfl
  have hown := o0.back hf ho' hb
  have hs' : St E l (H' ++ (rwss Vs ++ Hr)) Φ a w' := ⟨hs.size, hs.defers, hs.tm, hown, hfrm, hbase⟩
  cases out with
  | ret v => exact h _ H' [] hp _ w' (hs'.put_same (blt_lt hd))
  | pan v => exact ⟨v, rfl, h _ H' [] hp a w' hs'⟩
/-- .. that is lent some trees, and hands one back -/
theorem o_callD (Vs : List VT) {f : FuncId} {args : Array Operand} {argTypes : Array TypeId} {vs : List Value} {Φp : List (Value × Dc)} {pr : VT → Prop} {g : VT → Value}
    (hc : Callable E.P f) (ha : opvL l args.toList = some vs) (hcnt : ∀ x, (rwss Vs).count x ≤ H.count x) (hΦ : ∀ p ∈ Φp, p ∈ Vs.map fct ++ Φ) (tri : Tri E.P f vs [] Φp (fun o H Φ => ∃ V : VT, pr V ∧ o = .ret (g V) ∧ H = rws V ∧ Φ = [])) (hd : Nat.blt d E.n = true)
    (h : ∀ V, pr V → WO E ops os ((d, g V) :: l) (H ++ rws V) Φ N Q) :
    WO E ops (⟨some d, .call ⟨.value (.func f), args, argTypes⟩, ty, pos, aft, none⟩ :: os) l H Φ N Q := by
  obtain ⟨R, hR⟩ := exists_rest _ _ hcnt
  refine o_callG (Hp := []) (Hr := R) Vs hc ha hR hΦ tri hd ?_ ?_
  · rintro _ _ _ ⟨V, _, _, rfl, rfl⟩
    exact ⟨rfl, flat_rws V⟩
  · rintro _ _ _ ⟨V, hV, rfl, rfl, rfl⟩
    exact o_st (st_perm ((List.Perm.append_left _ hR.symm).trans List.perm_append_comm)) (h V hV)
/-- .. that is lent some trees, and hands a plain value back -/
theorem o_callL (Vs : List VT) {f : FuncId} {args : Array Operand} {argTypes : Array TypeId} {vs : List Value} {Φp : List (Value × Dc)} {v : Value}
    (hc : Callable E.P f) (ha : opvL l args.toList = some vs) (hcnt : ∀ x, (rwss Vs).count x ≤ H.count x) (hΦ : ∀ p ∈ Φp, p ∈ Vs.map fct ++ Φ) (tri : Tri E.P f vs [] Φp (fun o H Φ => o = .ret v ∧ H = [] ∧ Φ = [])) (hd : Nat.blt d E.n = true)
    (h : WO E ops os ((d, v) :: l) H Φ N Q) :
    WO E ops (⟨some d, .call ⟨.value (.func f), args, argTypes⟩, ty, pos, aft, none⟩ :: os) l H Φ N Q := by
  obtain ⟨R, hR⟩ := exists_rest _ _ hcnt
  refine o_callG (Hp := []) (Hr := R) Vs hc ha hR hΦ tri hd ?_ ?_
  · rintro _ _ _ ⟨_, rfl, rfl⟩
    exact ⟨rfl, fun h hh => by cases hh⟩
  · rintro _ _ _ ⟨rfl, rfl, rfl⟩
    exact o_st (st_perm hR.symm) h
/-- .. that is handed a tree for good -/
theorem o_callE (V : VT) {Hr : List HB} {f : FuncId} {args : Array Operand} {argTypes : Array TypeId} {vs : List Value} {v : Value}
    (hc : Callable E.P f) (ha : opvL l args.toList = some vs) (hperm : H.Perm (rws V ++ Hr)) (tri : Tri E.P f vs (rws V) [] (fun o H Φ => o = .ret v ∧ H = [] ∧ Φ = [])) (hd : Nat.blt d E.n = true)
    (h : WO E ops os ((d, v) :: l) Hr Φ N Q) :
    WO E ops (⟨some d, .call ⟨.value (.func f), args, argTypes⟩, ty, pos, aft, none⟩ :: os) l H Φ N Q := by
  refine o_callG (Hp := rws V) (Hr := Hr) [] hc ha hperm (fun p hp => by cases hp) tri hd ?_ ?_
  · rintro _ _ _ ⟨_, rfl, rfl⟩
    exact ⟨rfl, fun h hh => by cases hh⟩
  · rintro _ _ _ ⟨rfl, rfl, rfl⟩
    exact h
end
/-! ### spoilt -/
def bad : VT := .mk (-9) 9 none 0 0 []
def SpoilOk (V : VT) : Prop := Tri Tryd.prog 28 [V.val] (rws V) [] (fun o H Φ => o = .ret (.tuple #[]) ∧ H = [] ∧ Φ = [])
theorem spoil_step {V : VT} (hk : ∀ x ∈ V.kids, SpoilOk x) : SpoilOk V := by
  unfold SpoilOk
  rw [rws_eq]
  refine tri_intro (n := 21) Tryd.func28 rfl Tryd.ntmps28 rfl fun w X => ?_
  refine c_rowmax 0 rfl fun hml => ?_
  rw [List.length_map] at hml
  refine c_seq ?_
  refine c_region ?_
  refine o_box (cs := [.int .i64 V.rule, .int .u8 V.byte, .slice V.a V.n V.c]) rfl rfl rfl fun b => ?_
  refine o_seq ?_
  refine c_seq ?_
  refine c_region ?_
  refine o_v (v_assign rfl) rfl ?_
  refine o_seq ?_
  refine c_cut (fun E N' => Sat E [] [] [] N') (fun N1 hN1 => ?_) ?_
  · refine c_block ?_
    refine c_loopE (fun E j a w => ∃ (i : Nat), i + j = V.kids.length + 1 ∧ i ≤ V.kids.length ∧ St E [(1, .pointer (some ⟨b, 0, none⟩)), (2, .int .i64 (i : Int))] (.box b 27 [.int .i64 V.rule, .int .u8 V.byte, .slice V.a V.n V.c] :: .row (.slice V.a V.n V.c) 27 3 ((List.replicate i bad ++ V.kids.drop i).map eV) :: rwss (V.kids.drop i)) [] a w) (V.kids.length + 1) ?_ ?_
    · intro a w hs
      exact ⟨0, by omega, by omega, st_sub (le_cons rfl (le_cons rfl le_nil)) (List.Sublist.refl _) sub_nil a w hs⟩
    · rintro j a w ⟨i, hij, hi, hs⟩
      have hxl : (List.replicate i bad ++ V.kids.drop i).length = V.kids.length := by simp; omega
      refine wc_app hs ?_
      refine c_seq ?_
      refine c_seq ?_
      refine c_region ?_
      refine o_v (v_move rfl) rfl ?_
      refine o_v (v_fieldAddr (v := .pointer (some ⟨b, 2, none⟩)) rfl (fun _ => by kernel_rfl)) rfl ?_
      refine o_v (v_load_box 0 ty25 rfl rfl rfl rfl rfl) rfl ?_
      refine o_v (v_lenS (enc := eV) (List.replicate i bad ++ V.kids.drop i) sl25 rfl (.r 1 _ rfl)) rfl ?_
      refine o_v (v_bin rfl rfl rfl) rfl ?_
      refine o_seq ?_
      refine c_cond rfl (fun h2 => ?_) (fun h2 => ?_)
      · rw [hxl] at h2
        have hlt : i < V.kids.length := by simpa using h2
        have h3 : inR (i : Int) (List.replicate i bad ++ V.kids.drop i).length = true := by rw [hxl, inR_iff]; omega
        have hat : at_ (List.replicate i bad ++ V.kids.drop i) (i : Int) = V.kids[i] := by
          simp only [at_, Int.toNat_natCast, List.getD_eq_getElem?_getD]
          rw [List.getElem?_append_right (by simp), List.length_replicate, Nat.sub_self, List.drop_eq_getElem_cons hlt]
          rfl
        have hd : rwss (V.kids.drop i) = rws V.kids[i] ++ rwss (V.kids.drop (i + 1)) := by
          rw [List.drop_eq_getElem_cons hlt, rwss]
        refine c_skip ?_
        refine sat_wc ?_
        refine c_seq ?_
        refine c_block ?_
        refine c_seq ?_
        refine c_region ?_
        refine o_v (v_fieldAddr (v := .pointer (some ⟨b, 2, none⟩)) rfl (fun _ => by kernel_rfl)) rfl ?_
        refine o_v (v_load_box 0 ty25 rfl rfl rfl rfl rfl) rfl ?_
        refine o_v (v_move rfl) rfl ?_
        refine o_v (v_indexAddr_s (xs := List.replicate i bad ++ V.kids.drop i) (enc := eV) sl25 rfl rfl (.r 1 _ rfl) h3) rfl ?_
        refine o_load_s (ds := eV V.kids[i]) (xs := List.replicate i bad ++ V.kids.drop i) (enc := eV) ty27 rfl (.r 1 _ rfl) h3 (by rw [hat]; rfl) rfl rfl rfl rfl rfl ?_
        refine o_callE V.kids[i] (Hr := .box b 27 [.int .i64 V.rule, .int .u8 V.byte, .slice V.a V.n V.c] :: .row (.slice V.a V.n V.c) 27 3 ((List.replicate i bad ++ V.kids.drop i).map eV) :: rwss (V.kids.drop (i + 1))) call28 rfl ?_ (hk _ (List.getElem_mem hlt)) rfl ?_
        · rw [hd]
          exact (List.perm_append_comm_assoc [_, _] _ _)
        refine o_seq ?_
        refine c_region ?_
        refine o_v (v_fieldAddr (v := .pointer (some ⟨b, 2, none⟩)) rfl (fun _ => by kernel_rfl)) rfl ?_
        refine o_v (v_load_box 0 ty25 rfl rfl rfl rfl rfl) rfl ?_
        refine o_v (v_move rfl) rfl ?_
        refine o_v (v_build (v := .agg #[.int .i64 (-9), .int .u8 9, .slice none 0 0]) rfl (fun _ => by kernel_rfl)) rfl ?_
        refine o_v (v_indexAddr_s (xs := List.replicate i bad ++ V.kids.drop i) (enc := eV) sl25 rfl rfl (.r 1 _ rfl) h3) rfl ?_
        refine o_store_s (xs := List.replicate i bad ++ V.kids.drop i) (enc := eV) 1 bad rfl ty27 rfl rfl rfl rfl h3 (.s (d := .int .i64 (-9)) rfl (.s (d := .int .u8 9) rfl (.s (d := .own none 0 0) rfl .nil))) rfl rfl (by rw [hat]; rfl) ?_
        refine o_nil ?_
        refine sat_wc ?_
        refine c_region ?_
        refine o_v (v_move rfl) rfl ?_
        refine o_v (v_bin rfl rfl rfl) rfl ?_
        refine o_v (v_assign rfl) rfl ?_
        refine o_nil ?_
        intro a w hs
        refine ⟨j - 1, by omega, i + 1, by omega, by omega, ?_⟩
        have e1 : IntKind.wrap .i64 ((i : Int) + 1) = ((i + 1 : Nat) : Int) := by
          have : maxLen = 9223372036854775807 := rfl
          simp only [IntKind.wrap, IntKind.bits, IntKind.signed]
          simp
          omega
        have e2 : set_ (List.replicate i bad ++ V.kids.drop i) (i : Int) bad = List.replicate (i + 1) bad ++ V.kids.drop (i + 1) := by
          simp only [set_, Int.toNat_natCast]
          rw [List.set_append_right _ _ (by simp), List.length_replicate, Nat.sub_self, List.drop_eq_getElem_cons hlt, List.set_cons_zero, List.replicate_succ', List.append_assoc]
          rfl
        rw [← e1, ← e2]
        exact st_sub (le_cons rfl (le_cons rfl le_nil)) (List.Sublist.refl _) sub_nil a w hs
      · refine c_exit0 ?_
        refine s_st ?_ hN1
        exact st_sub le_nil (List.nil_sublist _) sub_nil
  · refine s_ret0 rfl fun a w hs => ?_
    exact fin_sel hs [] ⟨rfl, rfl, rfl⟩ rfl sub_nil
mutual
theorem spoil_ok : ∀ V : VT, SpoilOk V
  | .mk r b a n c ks => spoil_step (V := .mk r b a n c ks) (spoils_ok ks)
theorem spoils_ok : ∀ ks : List VT, ∀ x ∈ ks, SpoilOk x
  | [], x, hx => by cases hx
  | y :: ks, x, hx => by
    rcases List.mem_cons.1 hx with e | hx
    · rw [e]; exact spoil_ok y
    · exact spoils_ok ks x hx
end
end Go.Vc
