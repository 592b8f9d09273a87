import Derived.Test.YtfhbgelpmbkooaaGK
set_option linter.unusedVariables false
set_option linter.unusedSimpArgs false
namespace Go.Vc.Ea
variable {R : List Ru}
def lstC (g : Qu → Nat → Option (List (List Tr))) (gC : Nat → Nat → Nat → Bool) (R : List Ru) (i j most : Nat) : List Nat → List (List Tr) → Option (List (List Tr))
  | [], out => some out
  | q :: qs, out => if out.length < most ∧ gC q i j = true then (match g (.r q ((R[q]?.map fun r => r.rhs.length).getD 0) i j) (most - out.length) with
      | none => none
      | some l => lstC g gC R i j most qs (out ++ l.map fun ks => [Tr.node q ks])) else lstC g gC R i j most qs out
def lastL (g : Qu → Nat → Option (List (List Tr))) (s : Sy) (m j lim : Nat) : Option (List (List Tr)) := match s with
  | .tm _ => some [[Tr.leaf m]]
  | .nt a => g (.c a m j) lim
def lstR (g : Qu → Nat → Option (List (List Tr))) (has : Nat → Nat → Nat → Bool) (gR : Nat → Nat → Nat → Nat → Bool) (s : Sy) (q d i j most : Nat) : List Nat → List (List Tr) → Option (List (List Tr))
  | [], out => some out
  | m :: ms, out => if out.length < most ∧ symB has s m j = true ∧ gR q d i m = true then (match lastL g s m j (most - out.length) with
      | none => none
      | some last => match g (.r q d i m) (most - out.length) with
        | none => none
        | some lefts => lstR g has gR s q d i j most ms (out ++ (lefts.flatMap fun l => last.map fun t => l ++ t).take (most - out.length))) else lstR g has gR s q d i j most ms out
def lst (R : List Ru) (by_ : Nat → List Nat) (has : Nat → Nat → Nat → Bool) (gC : Nat → Nat → Nat → Bool) (gR : Nat → Nat → Nat → Nat → Bool) : Nat → Qu → Nat → Option (List (List Tr))
  | 0, _, _ => none
  | k + 1, .c a i j, most => lstC (lst R by_ has gC gR k) gC R i j most (by_ a) []
  | k + 1, .r q d i j, most => if d = 0 then some (if i = j then [[]] else []) else match R[q]? with
    | none => none
    | some r => match r.rhs[d - 1]? with
      | none => none
      | some s => lstR (lst R by_ has gC gR k) has gR s q (d - 1) i j most (List.range' i (j + 1 - i)) []
def full (R : List Ru) (ρ : Nat → Nat) (K : Nat) : Qu → List (List Tr)
  | .c a i j => (trees R ρ K a i j).map fun t => [t]
  | .r q d i j => rowsL (trees R ρ K) (((R[q]?.map fun r => r.rhs).getD []).take d) i j
theorem lst_ok {by_ : Nat → List Nat} {has : Nat → Nat → Nat → Bool} {gC : Nat → Nat → Nat → Bool} {gR : Nat → Nat → Nat → Nat → Bool} {ρ : Nat → Nat} {K W n : Nat} (hρ : Falls R ρ K) (hby : ∀ a, by_ a = (R.zipIdx.filter fun x => x.1.lhs == a).map fun x => x.2) (hhas : ∀ a i j, j ≤ n → (has a i j = true ↔ DerY R (.nt a) i j)) (hW : ∀ r ∈ R, r.rhs.length + 2 ≤ W)
    (hC : ∀ q r i j, R[q]? = some r → j ≤ n → gC q i j = false → ¬ Der R r.rhs i j) (hR : ∀ q r d i m, R[q]? = some r → m ≤ n → (gR q d i m = true ↔ Der R (r.rhs.take d) i m)) :
    ∀ (k μ : Nat) (x : Qu) (most : Nat), μ < k → Fits R ρ K W n μ x → 1 ≤ most → ∃ l, lst R by_ has gC gR k x most = some l ∧ l.take most = (full R ρ K x).take most ∧ (l.length ≤ most ∨ l.length ≤ 1) := by
  intro k
  induction k with
  | zero => intro μ x most h; omega
  | succ k ih =>
    intro μ x most hμ hx hmost
    have ih' : ∀ (μ : Nat) (x : Qu) (most : Nat), μ < k → Fits R ρ K W n μ x → 1 ≤ most → lst R by_ has gC gR k x most = some ((full R ρ K x).take most) := by
      intro μ x most h1 h2 h3
      obtain ⟨l, e, h4, h5⟩ := ih μ x most h1 h2 h3
      rw [e, ← h4, List.take_of_length_le (by omega)]
    suffices h : lst R by_ has gC gR (k + 1) x most = some ((full R ρ K x).take most) by
      exact ⟨_, h, by rw [List.take_take, Nat.min_self], .inl (List.length_take_le _ _)⟩
    cases x with
    | c a i j =>
      obtain ⟨hij, hj, hrk⟩ := hx
      unfold lst
      have key : ∀ (xs : List (Ru × Nat)) (out : List (List Tr)), (∀ x ∈ xs, x ∈ R.zipIdx ∧ x.1.lhs = a) → out.length ≤ most → lstC (lst R by_ has gC gR k) gC R i j most (xs.map fun x => x.2) out = some ((out ++ xs.flatMap fun x => (rowsL (trees R ρ K) x.1.rhs i j).map fun ks => [Tr.node x.2 ks]).take most) := by
        intro xs
        induction xs with
        | nil => intro out _ ho; simp [lstC, List.take_of_length_le ho]
        | cons x xs ihx =>
          intro out hxs ho
          obtain ⟨hz, hl⟩ := hxs x List.mem_cons_self
          have hxs' := fun y hy => hxs y (List.mem_cons_of_mem _ hy)
          have hq : R[x.2]? = some x.1 := List.mem_zipIdx_iff_getElem?.1 hz
          have hr : x.1 ∈ R := List.mem_of_getElem? hq
          have hw := hW x.1 hr
          rw [List.map_cons, List.flatMap_cons]
          unfold lstC
          by_cases hc : out.length < most ∧ gC x.2 i j = true
          · rw [if_pos hc, hq]
            simp only [Option.map_some, Option.getD_some]
            have e1 := ih' (rk ρ K a i j * W + x.1.rhs.length) (.r x.2 x.1.rhs.length i j) (most - out.length) (by omega) ⟨x.1, j, hq, Nat.le_refl _, hj, by rw [List.drop_length]; exact .nil j, hij, by rw [hl]; exact Nat.le_refl _⟩ (by omega)
            rw [e1]
            simp only [full, hq, Option.map_some, Option.getD_some, List.take_length]
            rw [ihx _ hxs' (by rw [List.length_append, List.length_map, List.length_take]; omega), List.map_take]
            generalize (rowsL (trees R ρ K) x.1.rhs i j).map (fun ks => [Tr.node x.2 ks]) = A
            generalize (xs.flatMap fun x => (rowsL (trees R ρ K) x.1.rhs i j).map fun ks => [Tr.node x.2 ks]) = B
            congr 1
            by_cases hA : A.length ≤ most - out.length
            · rw [List.take_of_length_le hA, List.append_assoc]
            · have hAl : (out ++ A.take (most - out.length)).length = most := by rw [List.length_append, List.length_take]; omega
              rw [List.take_left' hAl, List.take_append, List.take_of_length_le (Nat.le_of_lt hc.1), List.take_append_of_le_length (by omega)]
          · rw [if_neg hc, ihx out hxs' ho]
            congr 1
            by_cases hlt : out.length < most
            · have hg : gC x.2 i j = false := by
                cases hg : gC x.2 i j with
                | false => rfl
                | true => exact absurd ⟨hlt, hg⟩ hc
              have : rowsL (trees R ρ K) x.1.rhs i j = [] := Classical.byContradiction fun hn => hC x.2 x.1 i j hq hj hg (rowsL_fair (trees_fair ρ K) _ hn)
              rw [this]
              rfl
            · have : most = out.length := by omega
              rw [this, List.take_left, List.take_left]
      rw [hby a, key _ [] (fun x hx => by
        rw [List.mem_filter] at hx
        exact ⟨hx.1, by simpa using hx.2⟩) (by simp)]
      congr 2
      rw [List.nil_append]
      show _ = (trees R ρ K a i j).map fun t => [t]
      rw [trees_eq hρ]
      generalize R.zipIdx = zs
      induction zs with
      | nil => rfl
      | cons z zs ihz =>
        rw [List.flatMap_cons, List.map_append, List.filter_cons, ← ihz]
        by_cases hz : z.1.lhs = a
        · rw [if_pos (by simpa using hz), if_pos hz, List.flatMap_cons, List.map_map]
          rfl
        · rw [if_neg (by simpa using hz), if_neg hz]
          rfl
    | r q d i j' =>
      obtain ⟨r, j, hq, hd, hj, hder, hij, hrk⟩ := hx
      have hr : r ∈ R := List.mem_of_getElem? hq
      have hw := hW r hr
      have hj'j := hder.le
      unfold lst
      by_cases h0 : d = 0
      · rw [if_pos h0]
        subst h0
        show _ = some ((rowsL (trees R ρ K) (((R[q]?.map fun r => r.rhs).getD []).take 0) i j').take most)
        rw [List.take_zero, rowsL_nil]
        split
        · rw [List.take_of_length_le (by simpa using hmost)]
        · rw [List.take_nil]
      · rw [if_neg h0]
        obtain ⟨d, rfl⟩ : ∃ d', d = d' + 1 := ⟨d - 1, by omega⟩
        simp only [Nat.add_sub_cancel]
        rw [hq]
        have hdl : d < r.rhs.length := hd
        have hget : r.rhs[d]? = some r.rhs[d] := List.getElem?_eq_getElem hdl
        simp only [hget]
        generalize hs : r.rhs[d] = s at *
        have hdrop : r.rhs.drop d = s :: r.rhs.drop (d + 1) := by rw [List.drop_eq_getElem_cons hdl, hs]
        have key : ∀ (ms : List Nat) (out : List (List Tr)), (∀ m ∈ ms, i ≤ m ∧ m ≤ j') → out.length ≤ most → lstR (lst R by_ has gC gR k) has gR s q d i j' most ms out = some ((out ++ ms.flatMap fun m => (rowsL (trees R ρ K) (r.rhs.take d) i m).flatMap fun l => (symL (trees R ρ K) s m j').map fun t => l ++ [t]).take most) := by
          intro ms
          induction ms with
          | nil => intro out _ ho; simp [lstR, List.take_of_length_le ho]
          | cons m ms ihm =>
            intro out hms ho
            obtain ⟨hm1, hm2⟩ := hms m List.mem_cons_self
            have hms' : ∀ x ∈ ms, i ≤ x ∧ x ≤ j' := fun x hx => hms x (List.mem_cons_of_mem _ hx)
            rw [List.flatMap_cons]
            unfold lstR
            by_cases hc : out.length < most ∧ symB has s m j' = true ∧ gR q d i m = true
            · rw [if_pos hc]
              obtain ⟨c1, c2, c3⟩ := hc
              have hy : DerY R s m j' := Classical.byContradiction fun h => by
                have := (symB_iff hhas (s := s) (m := m) (j := j') (by omega)).2 h
                rw [c2] at this
                cases this
              have hleft : Der R (r.rhs.take d) i m := (hR q r d i m hq (by omega)).1 c3
              have hd2 : Der R (r.rhs.drop d) m j := by rw [hdrop]; exact der_cons.2 ⟨j', hy, hder⟩
              have e1 := ih' (rk ρ K r.lhs i j * W + d) (.r q d i m) (most - out.length) (by omega) ⟨r, j, hq, by omega, hj, hd2, hij, Nat.le_refl _⟩ (by omega)
              have elast : lastL (lst R by_ has gC gR k) s m j' (most - out.length) = some (((symL (trees R ρ K) s m j').map fun t => [t]).take (most - out.length)) := by
                cases s with
                | tm p =>
                  obtain ⟨hjm, hp⟩ := derY_tm.1 hy
                  show some [[Tr.leaf m]] = some (((if j' = m + 1 ∧ p m = true then [Tr.leaf m] else []).map fun t => [t]).take (most - out.length))
                  rw [if_pos ⟨hjm, hp⟩, List.take_of_length_le (by simp; omega)]
                  rfl
                | nt a =>
                  have hsplit : r.rhs = r.rhs.take d ++ .nt a :: r.rhs.drop (d + 1) := by rw [← hdrop, List.take_append_drop]
                  have hlt := rk_lt hρ hr hsplit hleft hy hder
                  have hmul : (rk ρ K a m j' + 1) * W ≤ rk ρ K r.lhs i j * W := Nat.mul_le_mul_right _ hlt
                  rw [Nat.add_mul] at hmul
                  exact ih' (rk ρ K a m j' * W + (W - 1)) (.c a m j') (most - out.length) (by omega) ⟨hm2, by omega, Nat.le_refl _⟩ (by omega)
              rw [elast, e1]
              simp only [full, hq, Option.map_some, Option.getD_some]
              have hp := take_pairs (fun l t => l ++ [t]) (rowsL (trees R ρ K) (r.rhs.take d) i m) (symL (trees R ρ K) s m j') (most - out.length)
              have hp2 : (((rowsL (trees R ρ K) (r.rhs.take d) i m).take (most - out.length)).flatMap fun l => (((symL (trees R ρ K) s m j').map fun t => [t]).take (most - out.length)).map fun t => l ++ t) = (((rowsL (trees R ρ K) (r.rhs.take d) i m).take (most - out.length)).flatMap fun l => ((symL (trees R ρ K) s m j').take (most - out.length)).map fun t => l ++ [t]) := by
                congr 1
                funext l
                rw [← List.map_take, List.map_map]
                rfl
              rw [hp2, hp]
              rw [ihm _ hms' (by rw [List.length_append, List.length_take]; omega)]
              generalize ((rowsL (trees R ρ K) (r.rhs.take d) i m).flatMap fun l => (symL (trees R ρ K) s m j').map fun t => l ++ [t]) = A
              generalize (ms.flatMap fun m => (rowsL (trees R ρ K) (r.rhs.take d) i m).flatMap fun l => (symL (trees R ρ K) s m j').map fun t => l ++ [t]) = B
              congr 1
              by_cases hA : A.length ≤ most - out.length
              · rw [List.take_of_length_le hA, List.append_assoc]
              · have hAl : (out ++ A.take (most - out.length)).length = most := by rw [List.length_append, List.length_take]; omega
                rw [List.take_left' hAl, List.take_append, List.take_of_length_le (Nat.le_of_lt c1), List.take_append_of_le_length (by omega)]
            · rw [if_neg hc, ihm out hms' ho]
              congr 1
              by_cases hlt : out.length < most
              · have hempty : ((rowsL (trees R ρ K) (r.rhs.take d) i m).flatMap fun l => (symL (trees R ρ K) s m j').map fun t => l ++ [t]) = [] := by
                  refine Classical.byContradiction fun hn => ?_
                  obtain ⟨l, hl, hn⟩ := ne_flatMap.1 hn
                  have h1 : symL (trees R ρ K) s m j' ≠ [] := fun e => hn (by rw [e]; rfl)
                  have hy := symL_fair (trees_fair ρ K) h1
                  have hle := rowsL_fair (trees_fair ρ K) _ (List.ne_nil_of_mem hl)
                  refine hc ⟨hlt, ?_, (hR q r d i m hq (by omega)).2 hle⟩
                  cases hb : symB has s m j' with
                  | true => rfl
                  | false => exact absurd hy ((symB_iff hhas (by omega)).1 hb)
                rw [hempty]
                rfl
              · have : most = out.length := by omega
                rw [this, List.take_left, List.take_left]
        rw [key _ [] (fun m hm => by rw [List.mem_range'_1] at hm; omega) (by simp)]
        congr 2
        rw [List.nil_append]
        show _ = rowsL (trees R ρ K) (((R[q]?.map fun r => r.rhs).getD []).take (d + 1)) i j'
        rw [hq]
        simp only [Option.map_some, Option.getD_some]
        rw [take_get (show r.rhs[d]? = some s by rw [hget]), rowsL_snoc]
        rfl
end Go.Vc.Ea
namespace Go.Vc.Ea
variable {R : List Ru}
def size (R : List Ru) : Nat := (R.map fun r => r.rhs.length + 1).sum
end Go.Vc.Ea
namespace Go.Vc.Ea
variable {R : List Ru}
mutual
def rel : Nat → Tr → Tr
  | i, .leaf _ => .leaf i
  | i, .node q ks => .node q (relS i ks)
def relS : Nat → List Tr → List Tr
  | _, [] => []
  | i, t :: ts => rel i t :: relS (i + sp t) ts
end
theorem relS_app : ∀ (a b : List Tr) (i : Nat), relS i (a ++ b) = relS i a ++ relS (i + sps a) b
  | [], b, i => by simp [relS, sps]
  | t :: a, b, i => by
    rw [List.cons_append, relS, relS, relS_app a b, sps, List.cons_append, Nat.add_assoc]
def Rel (L : Nat → Nat → Nat → List Tr) : Prop := ∀ a i j t, t ∈ L a i j → rel i t = t
theorem symL_rel {L : Nat → Nat → Nat → List Tr} (h : Rel L) {s : Sy} {m j : Nat} {t : Tr} (ht : t ∈ symL L s m j) : rel m t = t := by
  cases s with
  | nt a => exact h a m j t ht
  | tm p =>
    unfold symL at ht
    simp only at ht
    split at ht
    · rw [List.mem_singleton] at ht
      subst ht
      rfl
    · cases ht
theorem rowsL_rel {L : Nat → Nat → Nat → List Tr} (hs : Spans L) (h : Rel L) : ∀ (α : List Sy) {i j : Nat} {l : List Tr}, l ∈ rowsL L α i j → relS i l = l := by
  refine list_snoc (fun {i j l} hl => ?_) (fun α s ih {i j l} hl => ?_)
  · rw [rowsL_nil] at hl
    split at hl
    · rw [List.mem_singleton] at hl
      subst hl
      rfl
    · cases hl
  · rw [rowsL_snoc] at hl
    obtain ⟨m, _, _, l', hl', t, ht, rfl⟩ := mem_step.1 hl
    have h1 := ih hl'
    have h2 := (rowsL_sp hs α hl').1
    rw [relS_app, h1, ← h2]
    show l' ++ [rel m t] = _
    rw [symL_rel h ht]
theorem treesL_rel (h : Nat) : Rel (treesL R h) := by
  induction h with
  | zero => intro a i j t ht; cases ht
  | succ h ih =>
    intro a i j t ht
    unfold treesL at ht
    obtain ⟨x, hx, ht⟩ := List.mem_flatMap.1 ht
    split at ht
    · obtain ⟨l, hl, rfl⟩ := List.mem_map.1 ht
      rw [rel, rowsL_rel (treesL_sp h) ih _ hl]
    · cases ht
theorem trees_rel (ρ : Nat → Nat) (K : Nat) : Rel (trees R ρ K) := fun a i j t ht => treesL_rel _ a i j t ht
inductive Tb (β : Type) where
  | leaf (b : β)
  | node (r : Nat) (kids : List (Tb β))
mutual
def dress {β : Type} (f : Nat → β) : Tr → Tb β
  | .leaf m => .leaf (f m)
  | .node q ks => .node q (dressS f ks)
def dressS {β : Type} (f : Nat → β) : List Tr → List (Tb β)
  | [] => []
  | t :: ts => dress f t :: dressS f ts
end
mutual
theorem dress_shape {β : Type} {f : Nat → β} : ∀ (t t' : Tr), dress f t = dress f t' → sp t = sp t' ∧ ∀ i, rel i t = rel i t'
  | .leaf m, .leaf m', _ => ⟨rfl, fun _ => rfl⟩
  | .leaf m, .node q ks, h => by simp [dress] at h
  | .node q ks, .leaf m, h => by simp [dress] at h
  | .node q ks, .node q' ks', h => by
    simp only [dress, Tb.node.injEq] at h
    obtain ⟨rfl, h⟩ := h
    obtain ⟨h1, h2⟩ := dressS_shape ks ks' h
    exact ⟨by rw [sp, sp, h1], fun i => by rw [rel, rel, h2]⟩
theorem dressS_shape {β : Type} {f : Nat → β} : ∀ (l l' : List Tr), dressS f l = dressS f l' → sps l = sps l' ∧ ∀ i, relS i l = relS i l'
  | [], [], _ => ⟨rfl, fun _ => rfl⟩
  | [], _ :: _, h => by simp [dressS] at h
  | _ :: _, [], h => by simp [dressS] at h
  | t :: l, t' :: l', h => by
    simp only [dressS, List.cons.injEq] at h
    obtain ⟨h1, h2⟩ := dress_shape t t' h.1
    obtain ⟨h3, h4⟩ := dressS_shape l l' h.2
    exact ⟨by rw [sps, sps, h1, h3], fun i => by rw [relS, relS, h2, h1, h4]⟩
end
theorem dress_inj {β : Type} {f : Nat → β} {ρ : Nat → Nat} {K a i j : Nat} {t t' : Tr} (h : t ∈ trees R ρ K a i j) (h' : t' ∈ trees R ρ K a i j) (e : dress f t = dress f t') : t = t' := by
  have h1 := trees_rel ρ K a i j t h
  have h2 := trees_rel ρ K a i j t' h'
  rw [← h1, ← h2]
  exact (dress_shape t t' e).2 i
theorem dress_nodup {β : Type} (f : Nat → β) (ρ : Nat → Nat) (K a i j : Nat) : ((trees R ρ K a i j).map (dress f)).Nodup := by
  unfold List.Nodup
  rw [List.pairwise_map]
  refine (List.Pairwise.and_mem.1 (trees_nodup ρ K a i j)).imp fun {t t'} h e => h.2.2 (dress_inj h.1 h.2.1 e)
end Go.Vc.Ea
