/-
  A table of what nonterminals derive; what it tells of rules' beginnings; a table that is closed and sound tells all.
-/
import Derived.Test.YtfhbgelpmbkooaaGC
set_option linter.unusedVariables false
set_option linter.unusedSimpArgs false
namespace Go.Vc.Ea
variable {R : List Ru}
def symT (Y : Nat → Nat → Nat → Prop) (s : Sy) (m j : Nat) : Prop := match s with
  | .tm p => j = m + 1 ∧ p m = true
  | .nt a => Y a m j
def endsT (Y : Nat → Nat → Nat → Prop) (α : List Sy) (i : Nat) : Nat → Prop := α.foldl (fun f s j => ∃ m, i ≤ m ∧ m ≤ j ∧ f m ∧ symT Y s m j) fun j => j = i
theorem endsT_nil (Y : Nat → Nat → Nat → Prop) (i j : Nat) : endsT Y [] i j ↔ j = i := Iff.rfl
theorem endsT_snoc (Y : Nat → Nat → Nat → Prop) (α : List Sy) (s : Sy) (i j : Nat) : endsT Y (α ++ [s]) i j ↔ ∃ m, i ≤ m ∧ m ≤ j ∧ endsT Y α i m ∧ symT Y s m j := by
  unfold endsT
  rw [List.foldl_append]
  rfl
theorem symT_sound {Y : Nat → Nat → Nat → Prop} (hY : ∀ a i j, Y a i j → DerY R (.nt a) i j) {s : Sy} {m j : Nat} (h : symT Y s m j) : DerY R s m j := by
  cases s with
  | tm p => exact derY_tm.2 h
  | nt a => exact hY a m j h
theorem endsT_sound {Y : Nat → Nat → Nat → Prop} (hY : ∀ a i j, Y a i j → DerY R (.nt a) i j) : ∀ (α : List Sy) {i j : Nat}, endsT Y α i j → Der R α i j := by
  refine list_snoc (fun {i j} h => ?_) (fun α s ih {i j} h => ?_)
  · rw [endsT_nil] at h
    subst h
    exact .nil _
  · obtain ⟨m, _, _, h1, h2⟩ := (endsT_snoc Y α s i j).1 h
    exact der_snoc.2 ⟨m, ih h1, symT_sound hY h2⟩
theorem endsT_all {Y : Nat → Nat → Nat → Prop} {n : Nat} (hc : ∀ r ∈ R, ∀ i j, i ≤ j → j ≤ n → endsT Y r.rhs i j → Y r.lhs i j) {α : List Sy} {i j : Nat} (h : Der R α i j) : j ≤ n → endsT Y α i j := by
  induction h with
  | nil i => exact fun _ => rfl
  | @tm α i m p h hp ih =>
    intro hn
    exact (endsT_snoc Y α _ i (m + 1)).2 ⟨m, h.le, Nat.le_succ _, ih (by omega), rfl, hp⟩
  | @nt α i m j r h hr hd ih ih2 =>
    intro hn
    have h1 := hd.le
    exact (endsT_snoc Y α _ i j).2 ⟨m, h.le, h1, ih (by omega), hc r hr m j h1 hn (ih2 hn)⟩
structure Table (R : List Ru) (n : Nat) (Y : Nat → Nat → Nat → Prop) : Prop where
  sound : ∀ a i j, Y a i j → DerY R (.nt a) i j
  closed : ∀ r ∈ R, ∀ i j, i ≤ j → j ≤ n → endsT Y r.rhs i j → Y r.lhs i j
theorem Table.ends {n : Nat} {Y : Nat → Nat → Nat → Prop} (h : Table R n Y) {α : List Sy} {i j : Nat} (hj : j ≤ n) : endsT Y α i j ↔ Der R α i j := ⟨endsT_sound h.sound α, fun hd => endsT_all h.closed hd hj⟩
theorem Table.nt {n : Nat} {Y : Nat → Nat → Nat → Prop} (h : Table R n Y) {a i j : Nat} (hj : j ≤ n) : Y a i j ↔ DerY R (.nt a) i j := by
  refine ⟨h.sound a i j, fun hd => ?_⟩
  obtain ⟨r, hr, rfl, hd'⟩ := derY_nt.1 hd
  exact h.closed r hr i j hd'.le hj (h.ends hj |>.2 hd')
theorem Table.sym {n : Nat} {Y : Nat → Nat → Nat → Prop} (h : Table R n Y) {s : Sy} {m j : Nat} (hj : j ≤ n) : symT Y s m j ↔ DerY R s m j := by
  cases s with
  | tm p => exact derY_tm.symm
  | nt a => exact h.nt hj
theorem symL_none {T : Nat → Nat → Nat → List Tr} (hT : Fair R T) {s : Sy} {m j : Nat} (h : ¬ DerY R s m j) : (symL T s m j).length = 0 := by
  rw [List.length_eq_zero_iff]
  exact Classical.byContradiction fun hn => h (symL_fair hT hn)
end Go.Vc.Ea
