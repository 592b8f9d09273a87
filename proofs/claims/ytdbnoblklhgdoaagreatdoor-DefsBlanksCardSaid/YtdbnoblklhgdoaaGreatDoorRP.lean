import Derived.Test.YtdbnoblklhgdoaaGreatDoorWA
set_option linter.unusedVariables false
set_option linter.unusedSimpArgs false
set_option linter.unusedSectionVars false
namespace Go.Vc
open Go
def all2 {α β : Type} (p : α → β → Bool) : List α → List β → Bool
  | [], _ => true
  | _ :: _, [] => true
  | x :: xs, y :: ys => p x y && all2 p xs ys
theorem loop_all2 {α β γ : Type} {xs : List α} {ys : List β} {p : α → β → Bool} {z : γ} {L : Nat → Int → Option (LR γ Bool)} (hl : xs.length = ys.length)
    (h1 : ∀ j i, (h : i < xs.length) → (h' : i < ys.length) → L (j + 1) (i : Int) = if p xs[i] ys[i] then L j ((i + 1 : Nat) : Int) else some (.ret false))
    (h2 : ∀ j, L (j + 1) (xs.length : Int) = some (.done z)) : ∀ j i, i ≤ xs.length → xs.length - i < j → L j (i : Int) = some (if all2 p (xs.drop i) (ys.drop i) then .done z else .ret false)
  | 0, _, _, h => by omega
  | j + 1, i, hi, hj => by
    by_cases h : i < xs.length
    · have h' : i < ys.length := by omega
      rw [h1 j i h h', List.drop_eq_getElem_cons h, List.drop_eq_getElem_cons h', all2]
      by_cases hp : p xs[i] ys[i] = true
      · rw [if_pos hp, hp, Bool.true_and, loop_all2 hl h1 h2 j (i + 1) (by omega) (by omega)]
      · rw [if_neg hp, Bool.eq_false_iff.2 hp, Bool.false_and]
        rfl
    · have : i = xs.length := by omega
      subst this
      rw [h2 j, List.drop_length]
      rfl
theorem loop_all20 {α β γ : Type} {xs : List α} {ys : List β} {p : α → β → Bool} {z : γ} {L : Nat → Int → Option (LR γ Bool)} {k : Nat} (hk : xs.length < k) (hl : xs.length = ys.length)
    (h1 : ∀ j i, (h : i < xs.length) → (h' : i < ys.length) → L (j + 1) (i : Int) = if p xs[i] ys[i] then L j ((i + 1 : Nat) : Int) else some (.ret false))
    (h2 : ∀ j, L (j + 1) (xs.length : Int) = some (.done z)) : L k 0 = some (if all2 p xs ys then .done z else .ret false) := by
  have := loop_all2 hl h1 h2 k 0 (by omega) (by omega)
  rwa [List.drop_zero, List.drop_zero] at this
theorem all2_eq {α : Type} {p : α → α → Bool} : ∀ (xs ys : List α), xs.length = ys.length → (∀ x ∈ xs, ∀ y ∈ ys, (p x y = true ↔ x = y)) → (all2 p xs ys = true ↔ xs = ys)
  | [], [], _, _ => by simp [all2]
  | [], _ :: _, h, _ => by simp at h
  | _ :: _, [], h, _ => by simp at h
  | x :: xs, y :: ys, h, hp => by
    simp only [all2, Bool.and_eq_true, List.cons.injEq]
    rw [hp x (by simp) y (by simp), all2_eq xs ys (by simpa using h) (fun a ha b hb => hp a (by simp [ha]) b (by simp [hb]))]
section
variable {k : Nat} (hk : 100 ≤ k)
include hk
end
section
variable {k : Nat} (hk : 40000 ≤ k)
include hk
end
section
variable {k : Nat} (hk : 40000 ≤ k)
include hk
end
mutual
def izI : Item → Nat
  | .mk _ _ _ l => 1 + izL l
def izL : List Item → Nat
  | [] => 0
  | x :: r => izI x + izL r
end
theorem izI_eq (x : Item) : izI x = 1 + izL x.Items := by cases x; rw [izI]
theorem izL_len : ∀ l : List Item, l.length ≤ izL l
  | [] => Nat.le_refl _
  | x :: r => by
    have := izL_len r
    rw [izL, izI_eq]
    simp only [List.length_cons]
    omega
theorem izL_mem : ∀ (l : List Item) (x : Item), x ∈ l → izL x.Items < izL l
  | [], x, h => by cases h
  | y :: r, x, h => by
    rw [izL, izI_eq]
    rcases List.mem_cons.1 h with rfl | h
    · omega
    · have := izL_mem r x h
      omega
mutual
def okI : Item → Prop
  | .mk _ _ _ l => l.length * 56 ≤ 140737488351232 ∧ okL l
def okL : List Item → Prop
  | [] => True
  | x :: r => okI x ∧ okL r
end
theorem okI_eq (x : Item) : okI x ↔ x.Items.length * 56 ≤ 140737488351232 ∧ okL x.Items := by cases x; rw [okI]
theorem okL_mem : ∀ (l : List Item) (x : Item), okL l → x ∈ l → okI x
  | [], x, _, h => by cases h
  | y :: r, x, ho, h => by
    rw [okL] at ho
    rcases List.mem_cons.1 h with rfl | h
    · exact ho.1
    · exact okL_mem r x ho.2 h
structure Bd (d : Def) : Prop where
  prods : d.Prods.length ≤ 30000
  syms : ∀ p ∈ d.Prods, p.Syms.length ≤ 30000
  chains : d.Chains.length ≤ 30000
  groups : ∀ c ∈ d.Chains, c.length ≤ 30000
  cons : ∀ c ∈ d.Chains, ∀ g ∈ c, g.Cons.length ≤ 30000
  follows : d.Follows.length ≤ 30000
  rejects : d.Rejects.length ≤ 30000
  boxes : d.Boxes.length ≤ 30000
section
variable {k : Nat} (hk : 40000 ≤ k) {d : Def} (hd : Bd d)
include hk hd
end
noncomputable def ceq {α : Type} (x y : α) : Bool := @decide (x = y) (Classical.propDecidable _)
theorem ceq_iff {α : Type} {x y : α} : ceq x y = true ↔ x = y := by unfold ceq; simp
theorem ceq_self {α : Type} (x : α) : ceq x x = true := ceq_iff.2 rfl
theorem cb {α : Type} {x y : α} {c : Bool} (h : c = true ↔ x = y) : c = ceq x y := by rw [Bool.eq_iff_iff, ceq_iff]; exact h
theorem ceq_ne {α : Type} {x y : α} (h : x ≠ y) : ceq x y = false := by
  cases hc : ceq x y with
  | false => rfl
  | true => exact absurd (ceq_iff.1 hc) h
theorem len_ne {a b : Nat} : (((a : Int)) != ((b : Int))) = !decide (a = b) := by
  rw [Bool.eq_iff_iff, bne_iff_ne, Bool.not_eq_true', decide_eq_false_iff_not]; omega
theorem all2_ceq {α : Type} (xs ys : List α) (h : xs.length = ys.length) : all2 ceq xs ys = ceq xs ys := cb (all2_eq xs ys h (fun _ _ _ _ => ceq_iff))
theorem loop_eq {α γ : Type} {xs ys : List α} {z : γ} {L : Nat → Int → Option (LR γ Bool)} {k : Nat} (hk : xs.length < k) (hl : xs.length = ys.length)
    (h1 : ∀ j i, (h : i < xs.length) → (h' : i < ys.length) → L (j + 1) (i : Int) = if ceq xs[i] ys[i] then L j ((i + 1 : Nat) : Int) else some (.ret false))
    (h2 : ∀ j, L (j + 1) (xs.length : Int) = some (.done z)) : L k 0 = some (if ceq xs ys then .done z else .ret false) := by
  rw [loop_all20 hk hl h1 h2, all2_ceq xs ys hl]
theorem eq_fun {α γ : Type} {xs ys : List α} {z : γ} {L : Nat → Int → Option (LR γ Bool)} {k : Nat} (hk : xs.length < k)
    (h1 : ∀ j i, (h : i < xs.length) → (h' : i < ys.length) → L (j + 1) (i : Int) = if ceq xs[i] ys[i] then L j ((i + 1 : Nat) : Int) else some (.ret false))
    (h2 : ∀ j, L (j + 1) (xs.length : Int) = some (.done z)) : (if ((xs.length : Int) != (ys.length : Int)) then some false else (L k 0).bind fun o1 => o1.fin fun _ => some true) = some (ceq xs ys) := by
  rw [len_ne]
  by_cases hl : xs.length = ys.length
  · rw [decide_eq_true hl, loop_eq hk hl h1 h2]
    cases ceq xs ys <;> rfl
  · rw [decide_eq_false hl, ceq_ne (fun e => hl (by rw [e]))]
    rfl
theorem follow_iff (x y : Follow) : ((x.Sort_ == y.Sort_) && ((S4.eq (S4.mk x.Set.w0 x.Set.w1 x.Set.w2 x.Set.w3) (S4.mk y.Set.w0 y.Set.w1 y.Set.w2 y.Set.w3)) && true)) = ceq x y := cb (by
  rcases x with ⟨a, s⟩; rcases s with ⟨_, _, _, _⟩; rcases y with ⟨b, t⟩; rcases t with ⟨_, _, _, _⟩
  simp [S4.eq])
theorem reject_iff (x y : Reject) : ((x.Sort_ == y.Sort_) && ((x.By == y.By) && true)) = ceq x y := cb (by
  rcases x with ⟨a, s⟩; rcases y with ⟨b, t⟩
  simp)
theorem sym_iff (x y : Sym) : ((x.Kind == y.Kind) && ((x.Text == y.Text) && ((S4.eq (S4.mk x.Set.w0 x.Set.w1 x.Set.w2 x.Set.w3) (S4.mk y.Set.w0 y.Set.w1 y.Set.w2 y.Set.w3)) && ((x.Name == y.Name) && ((x.Sep == y.Sep) && true))))) = ceq x y := cb (by
  rcases x with ⟨_, _, s, _, _⟩; rcases s with ⟨_, _, _, _⟩; rcases y with ⟨_, _, t, _, _⟩; rcases t with ⟨_, _, _, _⟩
  simp [S4.eq])
theorem str_iff (x y : List UInt8) : (x == y) = ceq x y := cb (by simp)
theorem prod_iff (x y : Prod) : ((x.Lex == y.Lex) && ((x.Sort_ == y.Sort_) && ((x.Cons == y.Cons) && ((x.Bracket == y.Bracket) && ceq x.Syms y.Syms)))) = ceq x y := cb (by
  rcases x with ⟨_, _, _, _, _⟩; rcases y with ⟨_, _, _, _, _⟩
  simp [ceq_iff])
theorem group_iff (x y : Group) : ((x.Assoc == y.Assoc) && ceq x.Cons y.Cons) = ceq x y := cb (by
  rcases x with ⟨_, _⟩; rcases y with ⟨_, _⟩
  simp [ceq_iff])
theorem item_iff (x y : Item) : ((x.Kind == y.Kind) && ((x.Text == y.Text) && ((x.N_ == y.N_) && ceq x.Items y.Items))) = ceq x y := cb (by
  rcases x with ⟨_, _, _, _⟩; rcases y with ⟨_, _, _, _⟩
  simp [ceq_iff])
theorem box_iff (x y : Box) : ((x.Cons == y.Cons) && ceq x.Items y.Items) = ceq x y := cb (by
  rcases x with ⟨_, _⟩; rcases y with ⟨_, _⟩
  simp [ceq_iff])
theorem def_iff (x y : Def) : ((x.Start == y.Start) && ((x.Layout == y.Layout) && (ceq x.Follows y.Follows && (ceq x.Rejects y.Rejects && (ceq x.Prods y.Prods && (ceq x.Chains y.Chains && ceq x.Boxes y.Boxes)))))) = ceq x y := cb (by
  rcases x with ⟨_, _, _, _, _, _, _⟩; rcases y with ⟨_, _, _, _, _, _, _⟩
  simp only [Bool.and_eq_true, beq_iff_eq, ceq_iff, Def.mk.injEq]
  constructor
  · rintro ⟨h1, h2, h3, h4, h5, h6, h7⟩; exact ⟨h1, h2, h5, h6, h3, h4, h7⟩
  · rintro ⟨h1, h2, h5, h6, h3, h4, h7⟩; exact ⟨h1, h2, h3, h4, h5, h6, h7⟩)
section
variable {k : Nat} (hk : 40000 ≤ k)
include hk
theorem names_eq (s1 s2 : List (List UInt8)) (hl : s1.length ≤ 30000) : F.ref03.SameNames k s1 s2 = some (ceq s1 s2) := by
  unfold F.ref03.SameNames
  refine eq_fun (z := ()) (by omega) (fun j i h h' => ?_) (fun j => ?_)
  · simp only [F.ref03.SameNames_l1, ix_lt h, ix_in h, ix_in h', ix_at h, ix_at h', if_true, str_iff, ix_inc (show i < 4611686018427387904 by omega)]
    cases ceq s1[i] s2[i] <;> rfl
  · simp only [F.ref03.SameNames_l1, ix_ge (Nat.lt_irrefl _)]; rfl
end
theorem SameItemsR_ok : ∀ (n : Nat) (a b : List Item) (k : Nat), izL a ≤ n → a.length * 56 ≤ 140737488351232 ∧ okL a → 4 * n + 10 ≤ k → F.ref03.SameItems k a b = some (ceq a b) := by
  intro n
  induction n with
  | zero =>
    intro a b k ha _ hk
    obtain ⟨k', rfl⟩ : ∃ k', k = k' + 2 := ⟨k - 2, by omega⟩
    have : a = [] := by
      have := izL_len a
      exact List.length_eq_zero_iff.1 (by omega)
    subst this
    simp only [F.ref03.SameItems, F.ref03.SameItems_B]
    exact eq_fun (L := F.ref03.SameItems_l1 [] b _) (z := ()) (by simp) (fun j i h h' => by simp at h) (fun j => by simp only [F.ref03.SameItems_l1, ix_ge (Nat.lt_irrefl _)]; rfl)
  | succ n ih =>
    intro a b k ha hn hk
    obtain ⟨k', rfl⟩ : ∃ k', k = k' + 1 := ⟨k - 1, by omega⟩
    have hlen := izL_len a
    have hn1 := hn.1
    simp only [F.ref03.SameItems, F.ref03.SameItems_B]
    refine eq_fun (L := F.ref03.SameItems_l1 a b _) (z := ()) (by omega) (fun j i h h' => ?_) (fun j => by simp only [F.ref03.SameItems_l1, ix_ge (Nat.lt_irrefl _)]; rfl)
    have hm := izL_mem a a[i] (List.getElem_mem h)
    have hrec := ih a[i].Items b[i].Items k' (by omega) ((okI_eq _).1 (okL_mem a _ hn.2 (List.getElem_mem h))) (by omega)
    have hi := item_iff a[i] b[i]
    simp only [F.ref03.SameItems_l1, F.ref03.SameItems_j2, ix_lt h, ix_in h, ix_in h', ix_at h, ix_at h', if_true, hrec, Option.bind_some, ix_inc (show i < 4611686018427387904 by omega), ← hi, bne]
    cases a[i].Kind == b[i].Kind <;> cases a[i].Text == b[i].Text <;> cases a[i].N_ == b[i].N_ <;> cases ceq a[i].Items b[i].Items <;> rfl
def dz : List Box → Nat
  | [] => 0
  | b :: r => izL b.Items + dz r
theorem dz_mem : ∀ (l : List Box) (b : Box), b ∈ l → izL b.Items ≤ dz l
  | [], b, h => by cases h
  | c :: r, b, h => by
    rw [dz]
    rcases List.mem_cons.1 h with rfl | h
    · omega
    · have := dz_mem r b h
      omega
def okBx (d : Def) : Prop := ∀ b ∈ d.Boxes, b.Items.length * 56 ≤ 140737488351232 ∧ okL b.Items
section
variable {k : Nat} {d : Def} (hk : 200000 + 4 * dz d.Boxes ≤ k) (hd : Bd d) (ho : okBx d)
include hk hd ho
theorem sameProds_ok (b : List Prod) : F.ref03.sameProds k d.Prods b = some (ceq d.Prods b) := by
  have hl := hd.prods
  unfold F.ref03.sameProds
  refine eq_fun (z := ()) (by omega) (fun j i h h' => ?_) (fun j => ?_)
  · simp only [F.ref03.sameProds_l1, F.ref03.sameProds_j3, F.ref03.sameProds_j4, F.ref03.sameProds_j2, ix_lt h, ix_in h, ix_in h', ix_at h, ix_at h', if_true, ix_inc (show i < 4611686018427387904 by omega)]
    have hs := hd.syms _ (List.getElem_mem h)
    have e5 : d.Prods[i].Syms.length = b[i].Syms.length → F.ref03.sameProds_l5 d.Prods (i : Int) b k 0 = some (if ceq d.Prods[i].Syms b[i].Syms then .done (d.Prods[i].Syms.length : Int) else .ret false) := fun hl' => by
      refine loop_eq (by omega) hl' (fun j i' g g' => ?_) (fun j => ?_)
      · simp only [F.ref03.sameProds_l5, ix_at h, ix_at h', ix_lt g, ix_in g, ix_in g', ix_at g, ix_at g', if_true, sym_iff, ix_inc (show i' < 4611686018427387904 by omega)]
        cases ceq d.Prods[i].Syms[i'] b[i].Syms[i'] <;> rfl
      · simp only [F.ref03.sameProds_l5, ix_at h, ix_ge (Nat.lt_irrefl _)]; rfl
    rw [← prod_iff, len_ne]
    generalize d.Prods[i] = p at e5 hs ⊢
    generalize b[i] = q at e5 ⊢
    rw [show (p.Lex != q.Lex) = !(p.Lex == q.Lex) from rfl, show (p.Bracket != q.Bracket) = !(p.Bracket == q.Bracket) from rfl]
    by_cases hl' : p.Syms.length = q.Syms.length
    · rw [e5 hl', decide_eq_true hl']
      generalize ceq p.Syms q.Syms = a1
      generalize (p.Lex == q.Lex) = a2
      generalize (p.Sort_ == q.Sort_) = a3
      generalize (p.Cons == q.Cons) = a4
      generalize (p.Bracket == q.Bracket) = a5
      cases a1 <;> cases a2 <;> cases a3 <;> cases a4 <;> cases a5 <;> rfl
    · rw [decide_eq_false hl', ceq_ne (fun e => hl' (by rw [e]))]
      generalize (p.Lex == q.Lex) = a2
      generalize (p.Sort_ == q.Sort_) = a3
      generalize (p.Cons == q.Cons) = a4
      generalize (p.Bracket == q.Bracket) = a5
      cases a2 <;> cases a3 <;> cases a4 <;> cases a5 <;> rfl
  · simp only [F.ref03.sameProds_l1, ix_ge (Nat.lt_irrefl _)]; rfl
theorem sameChains_ok (b : List (List Group)) : F.ref03.sameChains k d.Chains b = some (ceq d.Chains b) := by
  have hl := hd.chains
  unfold F.ref03.sameChains
  refine eq_fun (z := ()) (by omega) (fun j i h h' => ?_) (fun j => ?_)
  · simp only [F.ref03.sameChains_l1, ix_lt h, ix_in h, ix_in h', ix_at h, ix_at h', if_true, ix_inc (show i < 4611686018427387904 by omega)]
    have hs := hd.groups _ (List.getElem_mem h)
    have hc := hd.cons _ (List.getElem_mem h)
    rw [len_ne]
    by_cases hl' : d.Chains[i].length = b[i].length
    · have e5 : F.ref03.sameChains_l2 k d.Chains (i : Int) b k 0 = some (if ceq d.Chains[i] b[i] then .done (d.Chains[i].length : Int) else .ret false) := by
        refine loop_eq (by omega) hl' (fun j i' g g' => ?_) (fun j => ?_)
        · rw [← group_iff]
          simp only [F.ref03.sameChains_l2, F.ref03.sameChains_j3, ix_at h, ix_at h', ix_lt g, ix_in g, ix_in g', ix_at g, ix_at g', if_true, names_eq (show 40000 ≤ k by omega) _ _ (hc _ (List.getElem_mem g)), Option.bind_some, bne, ix_inc (show i' < 4611686018427387904 by omega)]
          cases d.Chains[i][i'].Assoc == b[i][i'].Assoc <;> cases ceq d.Chains[i][i'].Cons b[i][i'].Cons <;> rfl
        · simp only [F.ref03.sameChains_l2, ix_at h, ix_ge (Nat.lt_irrefl _)]; rfl
      rw [e5, decide_eq_true hl']
      cases ceq d.Chains[i] b[i] <;> rfl
    · rw [decide_eq_false hl', ceq_ne (fun e => hl' (by rw [e]))]
      rfl
  · simp only [F.ref03.sameChains_l1, ix_ge (Nat.lt_irrefl _)]; rfl
theorem SameR_ok (b : Def) : F.ref03.Same k d b = some (ceq d b) := by
  have l2 : d.Follows.length = b.Follows.length → F.ref03.Same_l2 d b k 0 = some (if ceq d.Follows b.Follows then .done () else .ret false) := fun hl => by
    have := hd.follows
    refine loop_eq (by omega) hl (fun j i h h' => ?_) (fun j => ?_)
    · simp only [F.ref03.Same_l2, ix_lt h, ix_in h, ix_in h', ix_at h, ix_at h', if_true, follow_iff, ix_inc (show i < 4611686018427387904 by omega)]
      cases ceq d.Follows[i] b.Follows[i] <;> rfl
    · simp only [F.ref03.Same_l2, ix_ge (Nat.lt_irrefl _)]; rfl
  have l3 : d.Rejects.length = b.Rejects.length → F.ref03.Same_l3 d b k 0 = some (if ceq d.Rejects b.Rejects then .done () else .ret false) := fun hl => by
    have := hd.rejects
    refine loop_eq (by omega) hl (fun j i h h' => ?_) (fun j => ?_)
    · simp only [F.ref03.Same_l3, ix_lt h, ix_in h, ix_in h', ix_at h, ix_at h', if_true, reject_iff, ix_inc (show i < 4611686018427387904 by omega)]
      cases ceq d.Rejects[i] b.Rejects[i] <;> rfl
    · simp only [F.ref03.Same_l3, ix_ge (Nat.lt_irrefl _)]; rfl
  have l4 : d.Boxes.length = b.Boxes.length → F.ref03.Same_l4 k d b k 0 = some (if ceq d.Boxes b.Boxes then .done () else .ret false) := fun hl => by
    have := hd.boxes
    refine loop_eq (by omega) hl (fun j i h h' => ?_) (fun j => ?_)
    · have := dz_mem _ _ (List.getElem_mem h)
      rw [← box_iff]
      simp only [F.ref03.Same_l4, F.ref03.Same_j5, ix_lt h, ix_in h, ix_in h', ix_at h, ix_at h', if_true, SameItemsR_ok _ d.Boxes[i].Items b.Boxes[i].Items k (Nat.le_refl _) (ho _ (List.getElem_mem h)) (by omega), Option.bind_some, ix_inc (show i < 4611686018427387904 by omega)]
      cases d.Boxes[i].Cons == b.Boxes[i].Cons <;> cases ceq d.Boxes[i].Items b.Boxes[i].Items <;> rfl
    · simp only [F.ref03.Same_l4, ix_ge (Nat.lt_irrefl _)]; rfl
  unfold F.ref03.Same F.ref03.Same_j1
  rw [len_ne, len_ne, len_ne, sameProds_ok hk hd ho, sameChains_ok hk hd ho, ← def_iff]
  by_cases h2 : d.Follows.length = b.Follows.length
  · rw [l2 h2, decide_eq_true h2]
    by_cases h3 : d.Rejects.length = b.Rejects.length
    · rw [l3 h3, decide_eq_true h3]
      by_cases h4 : d.Boxes.length = b.Boxes.length
      · rw [l4 h4, decide_eq_true h4]
        cases d.Start == b.Start <;> cases d.Layout == b.Layout <;> cases ceq d.Follows b.Follows <;> cases ceq d.Rejects b.Rejects <;> cases ceq d.Prods b.Prods <;> cases ceq d.Chains b.Chains <;> cases ceq d.Boxes b.Boxes <;> rfl
      · rw [decide_eq_false h4, ceq_ne (x := d.Boxes) (fun e => h4 (by rw [e]))]
        cases d.Start == b.Start <;> cases d.Layout == b.Layout <;> cases ceq d.Follows b.Follows <;> cases ceq d.Rejects b.Rejects <;> cases ceq d.Prods b.Prods <;> cases ceq d.Chains b.Chains <;> rfl
    · rw [decide_eq_false h3, ceq_ne (x := d.Rejects) (fun e => h3 (by rw [e]))]
      cases d.Start == b.Start <;> cases d.Layout == b.Layout <;> cases ceq d.Follows b.Follows <;> rfl
  · rw [decide_eq_false h2, ceq_ne (x := d.Follows) (fun e => h2 (by rw [e]))]
    cases d.Start == b.Start <;> cases d.Layout == b.Layout <;> rfl
end
section
variable {k : Nat} {d : Def} (hk : 200000 + 4 * dz d.Boxes ≤ k) (hd : Bd d) (ho : okBx d)
include hk hd ho
end
end Go.Vc
