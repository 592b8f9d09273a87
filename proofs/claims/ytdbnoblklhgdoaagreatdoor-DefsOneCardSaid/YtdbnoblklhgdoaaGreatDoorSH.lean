import Derived.Test.YtdbnoblklhgdoaaGreatDoorSG
set_option linter.unusedVariables false
set_option linter.unusedSimpArgs false
namespace Go.Vc
open Go
def core (w : zh) : Int × List UInt8 × List Int × S4 × Int := (w.Kind, w.Text, w.Bytes, w.Set, w.N_)
theorem S4_eq_self (a : S4) : S4.eq a a = true := by simp [S4.eq]
theorem scT_err : ∀ (j : Nat) (r : List UInt8) (m : Nat) (o e : Int), r.length <= 65536 -> j6 j r = .error (m, o, e) -> m <= r.length /\ e ≠ 0 /\ 0 <= o /\ o <= m
 | 0, _, _, _, _, _, h => by cases h
 | j + 1, r, m, o, e, hl, h => by
  have hs := uc r false
  unfold j6 at h
  cases hk : vi false r with
  | nil => rw [hk] at h; cases h
  | cons c t =>
   rw [hk] at h hs
   simp only at h
   cases ht : kK (c :: t) with
   | error p =>
    obtain ⟨o', e'⟩ := p
    rw [ht] at h
    cases h
    obtain ⟨h1, h2, h3⟩ := tok_err (by omega) ht
    exact ⟨hs, h1, h2, h3⟩
   | ok p =>
    obtain ⟨x, n⟩ := p
    obtain ⟨n1, n2, _⟩ := hZ (by omega) ht
    rw [ht] at h
    simp only at h
    cases hr : j6 j ((c :: t).drop n) with
    | error z =>
     rw [hr] at h
     cases h
     have := scT_err j _ m o e (by rw [List.length_drop]; omega) hr
     rw [List.length_drop] at this
     exact ⟨by omega, this.2⟩
    | ok l' => rw [hr] at h; cases h
theorem skL_f (c : UInt8) (r : List UInt8) : vi false (c :: r) = if w8 c.toNat then vi false r else if c.toNat = 35 then vi true r else c :: r := by rw [vi]
theorem scT_ok {j : Nat} {r y : List UInt8} {x : Tk} {n : Nat} (hk : vi false r = y) (hy : y ≠ []) (ht : kK y = .ok (x, n)) : j6 (j + 1) r = match j6 j (y.drop n) with
  | .error z => .error z
  | .ok l => .ok ((y.length, y.take n, x) :: l) := by
 rw [j6, hk]
 cases y with
 | nil => exact absurd rfl hy
 | cons c t =>
  simp only
  rw [ht]
  simp only
  cases j6 j (List.drop n (c :: t)) <;> rfl
end Go.Vc
