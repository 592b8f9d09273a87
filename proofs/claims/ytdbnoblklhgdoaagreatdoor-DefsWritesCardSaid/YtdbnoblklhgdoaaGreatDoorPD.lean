/-
  Which definitions are right: the law's first half.
-/
import Derived.Test.YtdbnoblklhgdoaaGreatDoorPC
set_option linter.unusedVariables false
set_option linter.unusedSimpArgs false
namespace Go.Vc
open Go
mutual
def izI : Item → Nat
  | .mk _ _ _ l => 1 + izL l
def izL : List Item → Nat
  | [] => 0
  | x :: r => izI x + izL r
end
theorem izI_eq (x : Item) : izI x = 1 + izL x.Items := by cases x; rw [izI]
theorem izL_len : ∀ l : List Item, l.length ≤ izL l
  | [] => Nat.le_refl _
  | x :: r => by
    have := izL_len r
    rw [izL, izI_eq]
    simp only [List.length_cons]
    omega
theorem izL_mem : ∀ (l : List Item) (x : Item), x ∈ l → izL x.Items < izL l
  | [], x, h => by cases h
  | y :: r, x, h => by
    rw [izL, izI_eq]
    rcases List.mem_cons.1 h with rfl | h
    · omega
    · have := izL_mem r x h
      omega
mutual
def okI : Item → Prop
  | .mk _ _ _ l => l.length * 56 ≤ 140737488351232 ∧ okL l
def okL : List Item → Prop
  | [] => True
  | x :: r => okI x ∧ okL r
end
theorem okI_eq (x : Item) : okI x ↔ x.Items.length * 56 ≤ 140737488351232 ∧ okL x.Items := by cases x; rw [okI]
theorem okL_mem : ∀ (l : List Item) (x : Item), okL l → x ∈ l → okI x
  | [], x, _, h => by cases h
  | y :: r, x, ho, h => by
    rw [okL] at ho
    rcases List.mem_cons.1 h with rfl | h
    · exact ho.1
    · exact okL_mem r x ho.2 h
structure Bd (d : Def) : Prop where
  prods : d.Prods.length ≤ 4000
  syms : ∀ p ∈ d.Prods, p.Syms.length ≤ 4000
  chains : d.Chains.length ≤ 4000
  groups : ∀ c ∈ d.Chains, c.length ≤ 4000
  cons : ∀ c ∈ d.Chains, ∀ g ∈ c, g.Cons.length ≤ 4000
  follows : d.Follows.length ≤ 4000
  rejects : d.Rejects.length ≤ 4000
  boxes : d.Boxes.length ≤ 4000
theorem rightItems_box (l : List Item) {k : Nat} (hk : 5000 ≤ k) : ∃ z, F.defs.rightItems k l 64 = some z ∧ z.1 = (itsC l 64).isSome := by
  obtain ⟨z, hz, hr⟩ := rightItems_ok 64 l k (by omega) (by omega)
  refine ⟨z, hz, ?_⟩
  cases hc : itsC l 64 with
  | none => rw [hc] at hr; exact hr
  | some m => rw [hc] at hr; obtain rfl : z = (true, (m : Int)) := hr; rfl
theorem rightItemsR_box (l : List Item) {k : Nat} (hk : 5000 ≤ k) : ∃ z, F.ref03.rightItems k l 0 = some z ∧ decide (z < 0) = !(itsC l 64).isSome := by
  obtain ⟨z, hz, hr⟩ := rightItemsR_ok 64 l k (by omega) (by omega)
  refine ⟨z, hz, ?_⟩
  cases hc : itsC l 64 with
  | none => rw [hc] at hr; exact decide_eq_true hr
  | some m => rw [hc] at hr; obtain rfl : z = ((64 - m : Nat) : Int) := hr; exact decide_eq_false (by omega)
def boxP (b : Box) : Bool := isNm b.Cons && (itsC b.Items 64).isSome
def defP (d : Def) : Bool := nmE d.Start true && (nmE d.Layout true && (decide (d.Prods.length ≤ 200) && (d.Prods.all prodP && (d.Chains.all chainP && (d.Follows.all (fun f => isNm f.Sort_) && (d.Rejects.all (fun r => isNm r.Sort_ && isNm r.By) && d.Boxes.all boxP))))))
section
variable {k : Nat} (hk : 5000 ≤ k) {d : Def} (hd : Bd d)
include hk hd
theorem Right_ok : F.defs.Right k d = some (defP d) := by
  have hk1 : 100 ≤ k := by omega
  have l1 : F.defs.Right_l1 k d k 0 = some (if d.Prods.all prodP then .done () else .ret false) := by
    refine loop_all0 (by have := hd.prods; omega) (fun j i h => ?_) (fun j => ?_)
    · have := hd.prods
      simp only [F.defs.Right_l1, ix_lt h, ix_in h, ix_at h, rightProd_ok hk _ (hd.syms _ (List.getElem_mem h)), Option.bind_some, ix_inc (show i < 4611686018427387904 by omega), if_true]
      cases prodP d.Prods[i] <;> rfl
    · simp only [F.defs.Right_l1, ix_ge (Nat.lt_irrefl _)]
      rfl
  have l2 : F.defs.Right_l2 k d k 0 = some (if d.Chains.all chainP then .done () else .ret false) := by
    refine loop_all0 (by have := hd.chains; omega) (fun j i h => ?_) (fun j => ?_)
    · have := hd.chains
      simp only [F.defs.Right_l2, ix_lt h, ix_in h, ix_at h, rightChain_ok hk _ (hd.groups _ (List.getElem_mem h)), Option.bind_some, ix_inc (show i < 4611686018427387904 by omega), if_true]
      cases chainP d.Chains[i] <;> rfl
    · simp only [F.defs.Right_l2, ix_ge (Nat.lt_irrefl _)]
      rfl
  have l3 : F.defs.Right_l3 k d k 0 = some (if d.Follows.all (fun f => isNm f.Sort_) then .done () else .ret false) := by
    refine loop_all0 (by have := hd.follows; omega) (fun j i h => ?_) (fun j => ?_)
    · have := hd.follows
      simp only [F.defs.Right_l3, ix_lt h, ix_in h, ix_at h, named_ok _ _ hk1, nmE, Bool.false_and, Bool.false_or, Option.bind_some, ix_inc (show i < 4611686018427387904 by omega), if_true]
      cases isNm d.Follows[i].Sort_ <;> rfl
    · simp only [F.defs.Right_l3, ix_ge (Nat.lt_irrefl _)]
      rfl
  have l4 : F.defs.Right_l4 k d k 0 = some (if d.Rejects.all (fun r => isNm r.Sort_ && isNm r.By) then .done () else .ret false) := by
    refine loop_all0 (by have := hd.rejects; omega) (fun j i h => ?_) (fun j => ?_)
    · have := hd.rejects
      simp only [F.defs.Right_l4, ix_lt h, ix_in h, ix_at h, named_ok _ _ hk1, nmE, Bool.false_and, Bool.false_or, Option.bind_some, ix_inc (show i < 4611686018427387904 by omega), if_true]
      cases isNm d.Rejects[i].Sort_ <;> cases isNm d.Rejects[i].By <;> rfl
    · simp only [F.defs.Right_l4, ix_ge (Nat.lt_irrefl _)]
      rfl
  have l5 : F.defs.Right_l5 k d k 0 = some (if d.Boxes.all boxP then .done () else .ret false) := by
    refine loop_all0 (by have := hd.boxes; omega) (fun j i h => ?_) (fun j => ?_)
    · have := hd.boxes
      obtain ⟨z, hz, hr⟩ := rightItems_box d.Boxes[i].Items hk
      rw [show boxP d.Boxes[i] = (isNm d.Boxes[i].Cons && (itsC d.Boxes[i].Items 64).isSome) from rfl]
      simp only [F.defs.Right_l5, ix_lt h, ix_in h, ix_at h, named_ok _ _ hk1, nmE, Bool.false_and, Bool.false_or, Option.bind_some, ix_inc (show i < 4611686018427387904 by omega), if_true, hz, hr]
      cases isNm d.Boxes[i].Cons <;> cases (itsC d.Boxes[i].Items 64).isSome <;> rfl
    · simp only [F.defs.Right_l5, ix_ge (Nat.lt_irrefl _)]
      rfl
  unfold F.defs.Right defP
  have e : decide (200 < (d.Prods.length : Int)) = !decide (d.Prods.length ≤ 200) := by rw [Bool.eq_iff_iff]; simp only [decide_eq_true_eq, Bool.not_eq_true', decide_eq_false_iff_not]; omega
  simp only [named_ok _ _ hk1, Option.bind_some, e, l1, l2, l3, l4, l5]
  cases nmE d.Start true
  · rfl
  cases nmE d.Layout true
  · rfl
  cases decide (d.Prods.length ≤ 200)
  · rfl
  cases d.Prods.all prodP
  · rfl
  cases d.Chains.all chainP
  · rfl
  cases d.Follows.all (fun f => isNm f.Sort_)
  · rfl
  cases d.Rejects.all (fun r => isNm r.Sort_ && isNm r.By)
  · rfl
  cases d.Boxes.all boxP <;> rfl
theorem RightR_ok : F.ref03.Right k d = some (defP d) := by
  have hk1 : 100 ≤ k := by omega
  have l1 : F.ref03.Right_l1 k d k 0 = some (if d.Prods.all prodP then .done () else .ret false) := by
    refine loop_all0 (by have := hd.prods; omega) (fun j i h => ?_) (fun j => ?_)
    · have := hd.prods
      simp only [F.ref03.Right_l1, ix_lt h, ix_in h, ix_at h, rightProdR_ok hk _ (hd.syms _ (List.getElem_mem h)), Option.bind_some, ix_inc (show i < 4611686018427387904 by omega), if_true]
      cases prodP d.Prods[i] <;> rfl
    · simp only [F.ref03.Right_l1, ix_ge (Nat.lt_irrefl _)]
      rfl
  have l2 : F.ref03.Right_l2 k d k 0 = some (if d.Chains.all chainP then .done () else .ret false) := by
    refine loop_all0 (by have := hd.chains; omega) (fun j i h => ?_) (fun j => ?_)
    · have := hd.chains
      simp only [F.ref03.Right_l2, ix_lt h, ix_in h, ix_at h, rightChainR_ok hk, Option.bind_some, ix_inc (show i < 4611686018427387904 by omega), if_true]
      cases chainP d.Chains[i] <;> rfl
    · simp only [F.ref03.Right_l2, ix_ge (Nat.lt_irrefl _)]
      rfl
  have l3 : F.ref03.Right_l3 k d k 0 = some (if d.Follows.all (fun f => isNm f.Sort_) then .done () else .ret false) := by
    refine loop_all0 (by have := hd.follows; omega) (fun j i h => ?_) (fun j => ?_)
    · have := hd.follows
      simp only [F.ref03.Right_l3, ix_lt h, ix_in h, ix_at h, name_ok _ _ hk1, nmE, Bool.false_and, Bool.false_or, Option.bind_some, ix_inc (show i < 4611686018427387904 by omega), if_true]
      cases isNm d.Follows[i].Sort_ <;> rfl
    · simp only [F.ref03.Right_l3, ix_ge (Nat.lt_irrefl _)]
      rfl
  have l4 : F.ref03.Right_l4 k d k 0 = some (if d.Rejects.all (fun r => isNm r.Sort_ && isNm r.By) then .done () else .ret false) := by
    refine loop_all0 (by have := hd.rejects; omega) (fun j i h => ?_) (fun j => ?_)
    · have := hd.rejects
      simp only [F.ref03.Right_l4, ix_lt h, ix_in h, ix_at h, name_ok _ _ hk1, nmE, Bool.false_and, Bool.false_or, Option.bind_some, ix_inc (show i < 4611686018427387904 by omega), if_true]
      cases isNm d.Rejects[i].Sort_ <;> cases isNm d.Rejects[i].By <;> rfl
    · simp only [F.ref03.Right_l4, ix_ge (Nat.lt_irrefl _)]
      rfl
  have l5 : F.ref03.Right_l5 k d k 0 = some (if d.Boxes.all boxP then .done () else .ret false) := by
    refine loop_all0 (by have := hd.boxes; omega) (fun j i h => ?_) (fun j => ?_)
    · have := hd.boxes
      obtain ⟨z, hz, hr⟩ := rightItemsR_box d.Boxes[i].Items hk
      rw [show boxP d.Boxes[i] = (isNm d.Boxes[i].Cons && (itsC d.Boxes[i].Items 64).isSome) from rfl]
      simp only [F.ref03.Right_l5, ix_lt h, ix_in h, ix_at h, name_ok _ _ hk1, nmE, Bool.false_and, Bool.false_or, Option.bind_some, ix_inc (show i < 4611686018427387904 by omega), if_true, hz, hr]
      cases isNm d.Boxes[i].Cons <;> cases (itsC d.Boxes[i].Items 64).isSome <;> rfl
    · simp only [F.ref03.Right_l5, ix_ge (Nat.lt_irrefl _)]
      rfl
  unfold F.ref03.Right defP
  have e : decide (200 < (d.Prods.length : Int)) = !decide (d.Prods.length ≤ 200) := by rw [Bool.eq_iff_iff]; simp only [decide_eq_true_eq, Bool.not_eq_true', decide_eq_false_iff_not]; omega
  simp only [name_ok _ _ hk1, Option.bind_some, e, l1, l2, l3, l4, l5]
  cases nmE d.Start true
  · rfl
  cases nmE d.Layout true
  · rfl
  cases decide (d.Prods.length ≤ 200)
  · rfl
  cases d.Prods.all prodP
  · rfl
  cases d.Chains.all chainP
  · rfl
  cases d.Follows.all (fun f => isNm f.Sort_)
  · rfl
  cases d.Rejects.all (fun r => isNm r.Sort_ && isNm r.By)
  · rfl
  cases d.Boxes.all boxP <;> rfl
end
end Go.Vc
