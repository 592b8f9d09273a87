set_option linter.unusedVariables false
set_option linter.unusedSimpArgs false
/-
  Grammars over the places of a text: what derives what; a chart that is closed holds all items; acyclic grammars: the lists of trees come to an end.
-/
namespace Go.Vc.Ea
inductive Sy where
  | nt (a : Nat)
  | tm (p : Nat → Bool)
structure Ru where
  lhs : Nat
  rhs : List Sy
inductive Der (R : List Ru) : List Sy → Nat → Nat → Prop
  | nil (i : Nat) : Der R [] i i
  | tm {α : List Sy} {i m : Nat} {p : Nat → Bool} (h : Der R α i m) (hp : p m = true) : Der R (α ++ [.tm p]) i (m + 1)
  | nt {α : List Sy} {i m j : Nat} {r : Ru} (h : Der R α i m) (hr : r ∈ R) (hd : Der R r.rhs m j) : Der R (α ++ [.nt r.lhs]) i j
variable {R : List Ru}
def DerY (R : List Ru) (s : Sy) (i j : Nat) : Prop := Der R [s] i j
theorem Der.le {α : List Sy} {i j : Nat} (h : Der R α i j) : i ≤ j := by
  induction h with
  | nil => exact Nat.le_refl _
  | tm h hp ih => omega
  | nt h hr hd ih ih2 => omega
theorem der_nil {i j : Nat} : Der R [] i j ↔ i = j := by
  constructor
  · intro h
    generalize hα : ([] : List Sy) = α at h
    cases h with
    | nil => rfl
    | tm h hp => simp at hα
    | nt h hr hd => simp at hα
  · rintro rfl
    exact .nil i
theorem derY_tm {p : Nat → Bool} {i j : Nat} : DerY R (.tm p) i j ↔ j = i + 1 ∧ p i = true := by
  constructor
  · intro h
    unfold DerY at h
    generalize hα : [Sy.tm p] = α at h
    cases h with
    | nil => cases hα
    | @tm β i m q h hp =>
      have e := List.append_inj' (s₁ := []) (t₁ := [Sy.tm p]) hα rfl
      obtain ⟨rfl, e2⟩ := e
      simp only [List.cons.injEq, Sy.tm.injEq, and_true] at e2
      subst e2
      rw [der_nil] at h
      subst h
      exact ⟨rfl, hp⟩
    | @nt β i m j r h hr hd =>
      have e := List.append_inj' (s₁ := []) (t₁ := [Sy.tm p]) hα rfl
      simp at e
  · rintro ⟨rfl, hp⟩
    exact Der.tm (α := []) (.nil i) hp
theorem derY_nt {a i j : Nat} : DerY R (.nt a) i j ↔ ∃ r ∈ R, r.lhs = a ∧ Der R r.rhs i j := by
  constructor
  · intro h
    unfold DerY at h
    generalize hα : [Sy.nt a] = α at h
    cases h with
    | nil => cases hα
    | @tm β i m q h hp =>
      have e := List.append_inj' (s₁ := []) (t₁ := [Sy.nt a]) hα rfl
      simp at e
    | @nt β i m j r h hr hd =>
      have e := List.append_inj' (s₁ := []) (t₁ := [Sy.nt a]) hα rfl
      obtain ⟨rfl, e2⟩ := e
      simp only [List.cons.injEq, Sy.nt.injEq, and_true] at e2
      rw [der_nil] at h
      subst h
      exact ⟨r, hr, e2.symm, hd⟩
  · rintro ⟨r, hr, rfl, hd⟩
    exact Der.nt (α := []) (.nil i) hr hd
theorem der_snoc {α : List Sy} {s : Sy} {i j : Nat} : Der R (α ++ [s]) i j ↔ ∃ m, Der R α i m ∧ DerY R s m j := by
  constructor
  · intro h
    generalize hβ : α ++ [s] = β at h
    cases h with
    | nil => simp at hβ
    | @tm γ i m q h hp =>
      obtain ⟨rfl, e⟩ := List.append_inj' hβ rfl
      simp only [List.cons.injEq, and_true] at e
      subst e
      exact ⟨m, h, derY_tm.2 ⟨rfl, hp⟩⟩
    | @nt γ i m j r h hr hd =>
      obtain ⟨rfl, e⟩ := List.append_inj' hβ rfl
      simp only [List.cons.injEq, and_true] at e
      subst e
      exact ⟨m, h, derY_nt.2 ⟨r, hr, rfl, hd⟩⟩
  · rintro ⟨m, h, hy⟩
    cases s with
    | tm p =>
      obtain ⟨rfl, hp⟩ := derY_tm.1 hy
      exact .tm h hp
    | nt a =>
      obtain ⟨r, hr, rfl, hd⟩ := derY_nt.1 hy
      exact .nt h hr hd
theorem list_snoc {α : Type} {P : List α → Prop} (h0 : P []) (h1 : ∀ l x, P l → P (l ++ [x])) : ∀ l, P l := by
  intro l
  rw [← List.reverse_reverse l]
  induction l.reverse with
  | nil => exact h0
  | cons x r ih => rw [List.reverse_cons]; exact h1 _ _ ih
theorem der_app {α β : List Sy} {i j : Nat} : Der R (α ++ β) i j ↔ ∃ m, Der R α i m ∧ Der R β m j := by
  revert i j
  refine list_snoc (P := fun β => ∀ {i j : Nat}, Der R (α ++ β) i j ↔ ∃ m, Der R α i m ∧ Der R β m j) ?_ ?_ β
  · intro i j
    rw [List.append_nil]
    constructor
    · exact fun h => ⟨j, h, .nil j⟩
    · rintro ⟨m, h, h2⟩
      rw [der_nil] at h2
      exact h2 ▸ h
  · intro β s ih i j
    rw [← List.append_assoc, der_snoc]
    constructor
    · rintro ⟨m, h, hy⟩
      obtain ⟨q, h1, h2⟩ := ih.1 h
      exact ⟨q, h1, der_snoc.2 ⟨m, h2, hy⟩⟩
    · rintro ⟨q, h1, h2⟩
      obtain ⟨m, h2, hy⟩ := der_snoc.1 h2
      exact ⟨m, ih.2 ⟨q, h1, h2⟩, hy⟩
theorem der_cons {s : Sy} {α : List Sy} {i j : Nat} : Der R (s :: α) i j ↔ ∃ m, DerY R s i m ∧ Der R α m j := der_app (α := [s])
structure It where
  rule : Nat
  dot : Nat
  from_ : Nat
  deriving DecidableEq
structure Closed (R : List Ru) (n : Nat) (S : Nat → It → Prop) : Prop where
  predict : ∀ j x r a, j ≤ n → S j x → R[x.rule]? = some r → r.rhs[x.dot]? = some (.nt a) → ∀ q r', R[q]? = some r' → r'.lhs = a → S j ⟨q, 0, j⟩
  scan : ∀ j x r p, j < n → S j x → R[x.rule]? = some r → r.rhs[x.dot]? = some (.tm p) → p j = true → S (j + 1) ⟨x.rule, x.dot + 1, x.from_⟩
  complete : ∀ j x r y r', j ≤ n → S j x → R[x.rule]? = some r → x.dot = r.rhs.length → S x.from_ y → R[y.rule]? = some r' → r'.rhs[y.dot]? = some (.nt r.lhs) → S j ⟨y.rule, y.dot + 1, y.from_⟩
theorem closed_all {n : Nat} {S : Nat → It → Prop} (h : Closed R n S) {α : List Sy} {i j : Nat} (hd : Der R α i j) :
    ∀ x r rest, j ≤ n → S i x → R[x.rule]? = some r → r.rhs.drop x.dot = α ++ rest → S j ⟨x.rule, x.dot + α.length, x.from_⟩ := by
  induction hd with
  | nil i => intro x r rest _ hs _ _; exact hs
  | @tm α i m p hd hpm ih =>
    intro x r rest hj hs hr hdr
    have h1 := ih x r (.tm p :: rest) (by omega) hs hr (by rw [hdr, List.append_assoc]; rfl)
    have hget : r.rhs[x.dot + α.length]? = some (.tm p) := by
      have := congrArg (fun l => l[α.length]?) hdr
      simp only [List.getElem?_drop] at this
      rw [this]
      simp
    have := h.scan m _ r p (by omega) h1 hr hget hpm
    rw [List.length_append, List.length_singleton, ← Nat.add_assoc]
    exact this
  | @nt α i m j r' hd hr' hd' ih ih' =>
    intro x r rest hj hs hr hdr
    have hmj := hd'.le
    have h1 := ih x r (.nt r'.lhs :: rest) (by omega) hs hr (by rw [hdr, List.append_assoc]; rfl)
    have hget : r.rhs[x.dot + α.length]? = some (.nt r'.lhs) := by
      have := congrArg (fun l => l[α.length]?) hdr
      simp only [List.getElem?_drop] at this
      rw [this]
      simp
    obtain ⟨q, hq⟩ := List.mem_iff_getElem?.1 hr'
    have h2 := h.predict m _ r _ (by omega) h1 hr hget q r' hq rfl
    have h3 := ih' ⟨q, 0, m⟩ r' [] hj h2 hq (by simp)
    have := h.complete j _ r' _ r hj h3 hq (by simp) h1 hr hget
    rw [List.length_append, List.length_singleton, ← Nat.add_assoc]
    exact this
theorem closed_nt {n : Nat} {S : Nat → It → Prop} (h : Closed R n S) {q : Nat} {r : Ru} (hq : R[q]? = some r) {i j : Nat} (hs : S i ⟨q, 0, i⟩) (hj : j ≤ n) (hd : Der R r.rhs i j) : S j ⟨q, r.rhs.length, i⟩ := by
  have := closed_all h hd ⟨q, 0, i⟩ r [] hj hs hq (by simp)
  simpa using this
def Says (R : List Ru) (j : Nat) (x : It) : Prop := ∃ r, R[x.rule]? = some r ∧ x.dot ≤ r.rhs.length ∧ Der R (r.rhs.take x.dot) x.from_ j
theorem says_predict {q : Nat} {r : Ru} (hq : R[q]? = some r) (j : Nat) : Says R j ⟨q, 0, j⟩ := ⟨r, hq, Nat.zero_le _, by rw [List.take_zero]; exact .nil j⟩
theorem take_get {α : Type} {l : List α} {d : Nat} {s : α} (h : l[d]? = some s) : l.take (d + 1) = l.take d ++ [s] := by
  rw [List.take_add_one, h]
  rfl
theorem says_next {j j' : Nat} {x : It} {r : Ru} {s : Sy} (h : Says R j x) (hr : R[x.rule]? = some r) (hs : r.rhs[x.dot]? = some s) (hy : DerY R s j j') : Says R j' ⟨x.rule, x.dot + 1, x.from_⟩ := by
  obtain ⟨r', hr', hd, h⟩ := h
  rw [hr] at hr'
  cases hr'
  refine ⟨r, hr, (List.getElem?_eq_some_iff.1 hs).1, ?_⟩
  show Der R (r.rhs.take (x.dot + 1)) x.from_ j'
  rw [take_get hs, der_snoc]
  exact ⟨j, h, hy⟩
theorem says_end {j : Nat} {x : It} {r : Ru} (h : Says R j x) (hr : R[x.rule]? = some r) (hd : x.dot = r.rhs.length) : DerY R (.nt r.lhs) x.from_ j := by
  obtain ⟨r', hr', _, h⟩ := h
  rw [hr] at hr'
  cases hr'
  rw [hd, List.take_length] at h
  exact derY_nt.2 ⟨r, List.mem_of_getElem? hr, rfl, h⟩
def Null (R : List Ru) : Sy → Prop
  | .nt a => DerY R (.nt a) 0 0
  | .tm _ => False
theorem null_at {α : List Sy} {i j : Nat} (h : Der R α i j) : i = j → ∀ k, Der R α k k := by
  induction h with
  | nil i => exact fun _ k => .nil k
  | @tm α i m p h hp ih =>
    intro e
    have := h.le
    omega
  | @nt α i m j r h hr hd ih ih2 =>
    intro e k
    have h1 := h.le
    have h2 := hd.le
    exact .nt (ih (by omega) k) hr (ih2 (by omega) k)
theorem null_of {s : Sy} {i : Nat} (h : DerY R s i i) : Null R s := by
  cases s with
  | nt a => exact null_at h rfl 0
  | tm p =>
    have := (derY_tm.1 h).1
    omega
def Leads (R : List Ru) (a b : Nat) : Prop := ∃ r ∈ R, r.lhs = a ∧ ∃ α β, r.rhs = α ++ .nt b :: β ∧ (∀ s ∈ α, Null R s) ∧ ∀ s ∈ β, Null R s
inductive Tr where
  | leaf (m : Nat)
  | node (r : Nat) (kids : List Tr)
def symL (L : Nat → Nat → Nat → List Tr) (s : Sy) (m j : Nat) : List Tr := match s with
  | .tm p => if j = m + 1 ∧ p m = true then [.leaf m] else []
  | .nt a => L a m j
def stepL (L : Nat → Nat → Nat → List Tr) (i : Nat) (f : Nat → List (List Tr)) (s : Sy) (j : Nat) : List (List Tr) :=
  (List.range' i (j + 1 - i)).flatMap fun m => (f m).flatMap fun l => (symL L s m j).map fun t => l ++ [t]
def rowsL (L : Nat → Nat → Nat → List Tr) (α : List Sy) (i : Nat) : Nat → List (List Tr) := α.foldl (stepL L i) fun j => if i = j then [[]] else []
theorem rowsL_nil (L : Nat → Nat → Nat → List Tr) (i j : Nat) : rowsL L [] i j = if i = j then [[]] else [] := rfl
theorem rowsL_snoc (L : Nat → Nat → Nat → List Tr) (α : List Sy) (s : Sy) (i j : Nat) : rowsL L (α ++ [s]) i j = stepL L i (rowsL L α i) s j := by
  unfold rowsL
  rw [List.foldl_append]
  rfl
def treesL (R : List Ru) : Nat → Nat → Nat → Nat → List Tr
  | 0 => fun _ _ _ => []
  | h + 1 => fun a i j => R.zipIdx.flatMap fun x => if x.1.lhs = a then (rowsL (treesL R h) x.1.rhs i j).map (Tr.node x.2) else []
def Fair (R : List Ru) (L : Nat → Nat → Nat → List Tr) : Prop := ∀ a i j, L a i j ≠ [] → DerY R (.nt a) i j
theorem ne_flatMap {α β : Type} {l : List α} {f : α → List β} : l.flatMap f ≠ [] ↔ ∃ x ∈ l, f x ≠ [] := by
  rw [Ne, List.flatMap_eq_nil_iff]
  simp
theorem symL_fair {L : Nat → Nat → Nat → List Tr} (h : Fair R L) {s : Sy} {m j : Nat} (hn : symL L s m j ≠ []) : DerY R s m j := by
  cases s with
  | nt a => exact h a m j hn
  | tm p =>
    unfold symL at hn
    simp only at hn
    split at hn
    · rename_i hc
      exact derY_tm.2 hc
    · exact absurd rfl hn
theorem rowsL_fair {L : Nat → Nat → Nat → List Tr} (h : Fair R L) : ∀ (α : List Sy) {i j : Nat}, rowsL L α i j ≠ [] → Der R α i j := by
  refine list_snoc (fun {i j} hn => ?_) (fun α s ih {i j} hn => ?_)
  · rw [rowsL_nil] at hn
    split at hn
    · rename_i e; subst e; exact .nil i
    · exact absurd rfl hn
  · rw [rowsL_snoc] at hn
    obtain ⟨m, hm, hn⟩ := ne_flatMap.1 hn
    obtain ⟨l, hl, hn⟩ := ne_flatMap.1 hn
    have h1 : symL L s m j ≠ [] := fun e => hn (by rw [e]; rfl)
    exact der_snoc.2 ⟨m, ih (List.ne_nil_of_mem hl), symL_fair h h1⟩
theorem treesL_fair (h : Nat) : Fair R (treesL R h) := by
  induction h with
  | zero => intro a i j hn; exact absurd rfl hn
  | succ h ih =>
    intro a i j hn
    unfold treesL at hn
    obtain ⟨x, hx, hn⟩ := ne_flatMap.1 hn
    split at hn
    · rename_i e
      have h1 : rowsL (treesL R h) x.1.rhs i j ≠ [] := fun e => hn (by rw [e]; rfl)
      exact derY_nt.2 ⟨x.1, (List.mem_zipIdx hx).2.2 ▸ List.getElem_mem _, e, rowsL_fair ih _ h1⟩
    · exact absurd rfl hn
theorem rowsL_congr {L L' : Nat → Nat → Nat → List Tr} (hL : Fair R L) (hL' : Fair R L') {i j : Nat} :
    ∀ (α β : List Sy), (∀ α' s β', α ++ β = α' ++ s :: β' → ∀ m m', Der R α' i m → DerY R s m m' → Der R β' m' j → symL L s m m' = symL L' s m m') → ∀ k, Der R β k j → rowsL L α i k = rowsL L' α i k := by
  refine list_snoc (fun β _ k _ => rfl) (fun α s ih β hs k hk => ?_)
  rw [rowsL_snoc, rowsL_snoc]
  unfold stepL
  congr 1
  funext m
  by_cases h1 : DerY R s m k
  · have h2 : Der R (s :: β) m j := der_cons.2 ⟨k, h1, hk⟩
    rw [ih (s :: β) (fun α' s' β' e => hs α' s' β' (by rw [← e, List.append_assoc]; rfl)) m h2]
    by_cases h3 : rowsL L' α i m = []
    · rw [h3]; rfl
    · have h4 := rowsL_fair hL' α h3
      rw [hs α s β (by rw [List.append_assoc]; rfl) m k h4 h1 hk]
  · have e1 : symL L s m k = [] := Classical.byContradiction fun h => h1 (symL_fair hL h)
    have e2 : symL L' s m k = [] := Classical.byContradiction fun h => h1 (symL_fair hL' h)
    rw [e1, e2]
    simp only [List.map_nil]
    rw [List.flatMap_eq_nil_iff.2 (fun _ _ => rfl), List.flatMap_eq_nil_iff.2 (fun _ _ => rfl)]
theorem der_null {α : List Sy} {i j : Nat} (h : Der R α i j) : i = j → ∀ s ∈ α, Null R s := by
  induction h with
  | nil => exact fun _ s hs => by cases hs
  | @tm α i m p h hp ih =>
    intro e
    have := h.le
    omega
  | @nt α i m j r h hr hd ih ih2 =>
    intro e s hs
    have h1 := h.le
    have h2 := hd.le
    rcases List.mem_append.1 hs with hs | hs
    · exact ih (by omega) s hs
    · rw [List.mem_singleton] at hs
      subst hs
      have : m = j := by omega
      subst this
      exact null_of (derY_nt.2 ⟨r, hr, rfl, hd⟩)
structure Falls (R : List Ru) (ρ : Nat → Nat) (K : Nat) : Prop where
  le : ∀ a, ρ a ≤ K
  lt : ∀ a b, Leads R a b → ρ b < ρ a
def rk (ρ : Nat → Nat) (K a i j : Nat) : Nat := (j - i) * (K + 1) + ρ a
theorem rk_lt {ρ : Nat → Nat} {K : Nat} (hρ : Falls R ρ K) {r : Ru} (hr : r ∈ R) {α β : List Sy} {b : Nat} (he : r.rhs = α ++ .nt b :: β) {i m m' j : Nat} (h1 : Der R α i m) (h2 : DerY R (.nt b) m m') (h3 : Der R β m' j) : rk ρ K b m m' < rk ρ K r.lhs i j := by
  have l1 := h1.le
  have l2 := Der.le h2
  have l3 := h3.le
  unfold rk
  by_cases h : m' - m < j - i
  · have hb := hρ.le b
    have : (m' - m + 1) * (K + 1) ≤ (j - i) * (K + 1) := Nat.mul_le_mul_right _ h
    rw [Nat.add_mul] at this
    omega
  · have e1 : i = m := by omega
    have e2 : m' = j := by omega
    subst e1 e2
    have := hρ.lt r.lhs b ⟨r, hr, rfl, α, β, he, der_null h1 rfl, der_null h3 rfl⟩
    omega
theorem treesL_stable {ρ : Nat → Nat} {K : Nat} (hρ : Falls R ρ K) : ∀ (n a i j h h' : Nat), rk ρ K a i j = n → n < h → n < h' → treesL R h a i j = treesL R h' a i j := by
  intro n
  induction n using Nat.strongRecOn with
  | _ n ih =>
    intro a i j h h' hn h1 h2
    obtain ⟨h, rfl⟩ : ∃ q, h = q + 1 := ⟨h - 1, by omega⟩
    obtain ⟨h', rfl⟩ : ∃ q, h' = q + 1 := ⟨h' - 1, by omega⟩
    simp only [treesL]
    have key : ∀ x ∈ R.zipIdx, (if x.1.lhs = a then (rowsL (treesL R h) x.1.rhs i j).map (Tr.node x.2) else []) = (if x.1.lhs = a then (rowsL (treesL R h') x.1.rhs i j).map (Tr.node x.2) else []) := by
      intro x hx
      split
      · rename_i e
        have hr : x.1 ∈ R := (List.mem_zipIdx hx).2.2 ▸ List.getElem_mem _
        rw [rowsL_congr (treesL_fair h) (treesL_fair h') x.1.rhs [] (fun α' s β' e' m m' d1 d2 d3 => ?_) j (.nil j)]
        cases s with
        | tm p => rfl
        | nt b =>
          have := rk_lt hρ hr (by simpa using e') d1 d2 d3
          rw [e] at this
          exact ih _ (by omega) b m m' h h' rfl (by omega) (by omega)
      · rfl
    rw [List.flatMap_def, List.flatMap_def, List.map_congr_left key]
def trees (R : List Ru) (ρ : Nat → Nat) (K a i j : Nat) : List Tr := treesL R (rk ρ K a i j + 1) a i j
theorem trees_fair (ρ : Nat → Nat) (K : Nat) : Fair R (trees R ρ K) := fun a i j hn => treesL_fair _ a i j hn
theorem trees_eq {ρ : Nat → Nat} {K : Nat} (hρ : Falls R ρ K) (a i j : Nat) : trees R ρ K a i j = R.zipIdx.flatMap fun x => if x.1.lhs = a then (rowsL (trees R ρ K) x.1.rhs i j).map (Tr.node x.2) else [] := by
  show treesL R (rk ρ K a i j + 1) a i j = _
  simp only [treesL]
  have key : ∀ x ∈ R.zipIdx, (if x.1.lhs = a then (rowsL (treesL R (rk ρ K a i j)) x.1.rhs i j).map (Tr.node x.2) else []) = (if x.1.lhs = a then (rowsL (trees R ρ K) x.1.rhs i j).map (Tr.node x.2) else []) := by
    intro x hx
    split
    · rename_i e
      have hr : x.1 ∈ R := (List.mem_zipIdx hx).2.2 ▸ List.getElem_mem _
      rw [rowsL_congr (treesL_fair _) (trees_fair ρ K) x.1.rhs [] (fun α' s β' e' m m' d1 d2 d3 => ?_) j (.nil j)]
      cases s with
      | tm p => rfl
      | nt b =>
        have := rk_lt hρ hr (by simpa using e') d1 d2 d3
        rw [e] at this
        exact treesL_stable hρ _ b m m' _ _ rfl (by omega) (Nat.lt_succ_self _)
    · rfl
  rw [List.flatMap_def, List.flatMap_def, List.map_congr_left key]
theorem rows_some {ρ : Nat → Nat} {K : Nat} (hρ : Falls R ρ K) {α : List Sy} {i j : Nat} (h : Der R α i j) : rowsL (trees R ρ K) α i j ≠ [] := by
  induction h with
  | nil i => rw [rowsL_nil, if_pos rfl]; simp
  | @tm α i m p h hp ih =>
    have hle := h.le
    rw [rowsL_snoc]
    obtain ⟨l, hl⟩ := List.exists_mem_of_ne_nil _ ih
    refine ne_flatMap.2 ⟨m, by rw [List.mem_range'_1]; omega, ne_flatMap.2 ⟨l, hl, ?_⟩⟩
    show (List.map _ (if m + 1 = m + 1 ∧ p m = true then [Tr.leaf m] else [])) ≠ []
    rw [if_pos ⟨rfl, hp⟩]
    simp
  | @nt α i m j r h hr hd ih ih2 =>
    have h1 := h.le
    have h2 := hd.le
    rw [rowsL_snoc]
    obtain ⟨l, hl⟩ := List.exists_mem_of_ne_nil _ ih
    refine ne_flatMap.2 ⟨m, by rw [List.mem_range'_1]; omega, ne_flatMap.2 ⟨l, hl, ?_⟩⟩
    have : trees R ρ K r.lhs m j ≠ [] := by
      rw [trees_eq hρ]
      obtain ⟨q, hq⟩ := List.mem_iff_getElem?.1 hr
      refine ne_flatMap.2 ⟨(r, q), List.mem_zipIdx_iff_getElem?.2 hq, ?_⟩
      rw [if_pos rfl]
      simpa using ih2
    show (List.map _ (trees R ρ K r.lhs m j)) ≠ []
    simpa using this
theorem trees_some {ρ : Nat → Nat} {K : Nat} (hρ : Falls R ρ K) {a i j : Nat} : trees R ρ K a i j ≠ [] ↔ DerY R (.nt a) i j := by
  refine ⟨trees_fair ρ K a i j, fun h => ?_⟩
  obtain ⟨r, hr, rfl, hd⟩ := derY_nt.1 h
  rw [trees_eq hρ]
  obtain ⟨q, hq⟩ := List.mem_iff_getElem?.1 hr
  refine ne_flatMap.2 ⟨(r, q), List.mem_zipIdx_iff_getElem?.2 hq, ?_⟩
  rw [if_pos rfl]
  simpa using rows_some hρ hd
end Go.Vc.Ea
