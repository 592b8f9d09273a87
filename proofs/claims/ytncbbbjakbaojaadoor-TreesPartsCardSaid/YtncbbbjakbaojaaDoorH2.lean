import Derived.Test.YtncbbbjakbaojaaDoorH1
import Derived.Test.YtncbbbjakbaojaaDoorShelf
set_option linter.unusedVariables false
set_option linter.unusedSimpArgs false
set_option maxRecDepth 8000
namespace Go.Vc
open Go Go.Proofs
def pow10cells : List Value := Lib.pow10Tab.map fun z => Value.int .u64 z
/-- the table of the library's stands -/
def gf10 (G : Nat) : Value × Dc := (.pointer (some ⟨G, 0, none⟩), .at pow10cells)
theorem tab_of_own {G : Nat} {w : World} {X : Nat → Prop} {H : List HB} {Φ : List (Value × Dc)} (hG : Tryd.prog.globalNamed "internal/strconv.uint64pow10" = some G) (ho : Own w X H (gf10 G :: Φ)) : Lib.TabIs Tryd.prog w "internal/strconv.uint64pow10" .u64 Lib.pow10Tab := by
  have := ho.facts (gf10 G) (by simp)
  unfold gf10 at this
  cases this with
  | «at» b cs T fz hX hb hc =>
    unfold Lib.TabIs World.var?
    rw [hG]
    simp only [Option.bind_some, hc]
    rfl
theorem fin_grow {w w' : World} {post : Post} {o : Out} {k : Nat} {os : Array Obj} (he : w' = Sort.grow (w.drewN k) os) {X : Nat → Prop} {Φ : List (Value × Dc)} (ho : Own w X [] Φ) (hp : post o [] []) : Fin w X [] post o w' := by
  subst he
  have hsz : w.heap.size ≤ (Sort.grow (w.drewN k) os).heap.size := by simp [Sort.grow, World.drewN]
  have hold : ∀ b, b < w.heap.size → (Sort.grow (w.drewN k) os).heap[b]? = w.heap[b]? := fun b hb => by
    simp only [Sort.grow, World.drewN]
    exact Array.getElem?_append_left hb
  refine ⟨[], [], hp, ⟨rfl, rfl, rfl, hsz, fun b hb _ => hold b hb⟩, ?_, by simp⟩
  have := ho.grow hsz hold
  exact ⟨this.xin, by simp, by simp, by simp, by simp, by simp⟩
theorem tri64 (n : Int) (r : List UInt8) (hF : F.strconv.Itoa n = some r) :
    Tri Tryd.prog 64 [.int .i64 n] [] [gf10 0] (fun o H Φ => o = .ret (.string (bs r)) ∧ H = [] ∧ Φ = []) := by
  unfold F.strconv.Itoa at hF
  split at hF
  · rename_i hb
    simp only [Bool.and_eq_true, decide_eq_true_eq] at hb
    cases hF
    intro w X ho
    have := Tryd.strconv_Itoa n hb.1 hb.2 w (tab_of_own (by kernel_rfl) ho)
    refine this.mono ?_
    rintro e w' ⟨rfl, k, os, he⟩
    exact ⟨.ret (.string (bs (Lib.itoa n))), rfl, fin_grow he ho ⟨rfl, rfl, rfl⟩⟩
  · cases hF
theorem tri75 (s : List UInt8) (c : Int) (r : Int) (hF : F.strings.IndexByte s c = some r) :
    Tri Tryd.prog 75 [.string (bs s), .int .u8 c] [] [] (fun o H Φ => o = .ret (.int .i64 r) ∧ H = [] ∧ Φ = []) := by
  cases hF
  intro w X ho
  refine (Tryd.strings_IndexByte (bs s) c w).mono ?_
  rintro e w' ⟨rfl, rfl⟩
  exact ⟨.ret _, rfl, [], [], ⟨rfl, rfl, rfl⟩, Frm.refl _ _, ho, by simp⟩
section
variable {E : Env} {l : List (Nat × Value)} {H : List HB} {Φ : List (Value × Dc)} {N : SP} {Q : QS}
theorem c_nilfact {c : Code} (j : Nat) {n cap sz : Nat} {xs : List (List Dc)} (hj : Φ[j]? = some (.slice none n cap, .slice sz xs)) (h : xs = [] → WC E c l H Φ N Q) : WC E c l H Φ N Q := by
  intro ac w hs
  have := hs.own.facts _ (List.mem_of_getElem? hj)
  cases this
  exact h rfl ac w hs
end
theorem tri71 (s : List Tree) (sa1 : Option Addr) (sn1 sc1 : Nat) (r : List Tree) (hF : F.slices.Clone s = some r) :
    Tri Tryd.prog 71 [.slice sa1 sn1 sc1] [] [(.slice sa1 sn1 sc1, .slice 3 (s.map eTree))] (fun o H Φ => ∃ (sa : Option Addr) (sn sc : Nat), o = .ret (.slice sa sn sc) ∧ H = [.row (.slice sa sn sc) 27 3 (r.map eTree)] ∧ Φ = []) := by
  unfold F.slices.Clone at hF
  split at hF
  case isFalse => cases hF
  rename_i hb
  cases hF
  have sl25 : slT Tryd.prog 25 = some (27, 3, 40) := by kernel_rfl
  refine tri_intro (n := 8) Tryd.func71 rfl Tryd.ntmps71 rfl fun w X => ?_
  refine c_seq ?_
  refine c_region ?_
  refine o_v (v_assign rfl) rfl ?_
  refine o_seq ?_
  refine c_seq ?_
  refine c_seq ?_
  cases sa1 with
  | none =>
    refine c_nilfact 0 rfl fun hs => ?_
    have hs' : s = [] := by cases s with | nil => rfl | cons => simp at hs
    subst hs'
    refine c_region ?_
    refine o_v (v_move rfl) rfl ?_
    refine o_v (v_binr (v := .bool true) rfl rfl (fun _ => by kernel_rfl)) rfl ?_
    refine o_seq ?_
    refine c_cond rfl (fun _ => ?_) (fun h => Bool.noConfusion h)
    refine c_seq ?_
    refine c_region ?_
    refine o_v (v_assign rfl) rfl ?_
    refine o_seq ?_
    refine c_st (st_nilrow 27 3) ?_
    refine c_ret ?_
    refine s_ret1 rfl (r_tmp rfl) fun a w hs => ?_
    exact fin_sel hs [0] ⟨none, 0, 0, rfl, rfl, rfl⟩ rfl sub_nil
  | some a0 =>
    refine c_region ?_
    refine o_v (v_move rfl) rfl ?_
    refine o_v (v_binr (v := .bool false) rfl rfl (fun _ => by kernel_rfl)) rfl ?_
    refine o_seq ?_
    refine c_cond rfl (fun h => Bool.noConfusion h) (fun _ => ?_)
    refine c_skip ?_
    refine sat_wc ?_
    refine c_seq ?_
    refine c_region ?_
    refine o_buildSlice (enc := eTree) ([] : List Tree) [] sl25 rfl (fun _ => by kernel_rfl) rfl rfl rfl .nil rfl fun sa2 sn2 sc2 => ?_
    refine o_v (v_move rfl) rfl ?_
    refine o_append (enc := eTree) (xs := ([] : List Tree)) (ys := s) 0 sl25 rfl rfl rfl (.f 0 rfl) (by simpa using hb) (by simp only [decide_eq_true_eq] at hb ⊢; simp only [List.length_nil]; omega) rfl fun sa3 sn3 sc3 => ?_
    refine o_v (v_assign rfl) rfl ?_
    refine o_seq ?_
    refine c_ret ?_
    refine s_ret1 rfl (r_tmp rfl) fun a w hs => ?_
    exact fin_sel hs [0] ⟨sa3, sn3, sc3, rfl, rfl, rfl⟩ rfl sub_nil
end Go.Vc
