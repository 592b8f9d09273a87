import Derived.Test.YtdbnoblklhgdoaaGreatDoorSG
set_option linter.unusedVariables false
set_option linter.unusedSimpArgs false
namespace Go.Vc
open Go
def core (w : zg) : Int × List UInt8 × List Int × S4 × Int := (w.Kind, w.Text, w.Bytes, w.Set, w.N_)
theorem scT_err : ∀ (j : Nat) (r : List UInt8) (m : Nat) (o e : Int), r.length <= 65536 -> jB j r = .error (m, o, e) -> m <= r.length /\ e ≠ 0 /\ 0 <= o /\ o <= m
 | 0, _, _, _, _, _, h => by cases h
 | j + 1, r, m, o, e, hl, h => by
  have hs := gG r false
  unfold jB at h
  cases hk : vx false r with
  | nil => rw [hk] at h; cases h
  | cons c t =>
   rw [hk] at h hs
   simp only at h
   cases ht : kD (c :: t) with
   | error p =>
    obtain ⟨o', e'⟩ := p
    rw [ht] at h
    cases h
    obtain ⟨h1, h2, h3⟩ := tok_err (by omega) ht
    exact ⟨hs, h1, h2, h3⟩
   | ok p =>
    obtain ⟨x, n⟩ := p
    obtain ⟨n1, n2, _⟩ := ux (by omega) ht
    rw [ht] at h
    simp only at h
    cases hr : jB j ((c :: t).drop n) with
    | error z =>
     rw [hr] at h
     cases h
     have := scT_err j _ m o e (by rw [List.length_drop]; omega) hr
     rw [List.length_drop] at this
     exact ⟨by omega, this.2⟩
    | ok l' => rw [hr] at h; cases h
theorem skL_f (c : UInt8) (r : List UInt8) : vx false (c :: r) = if vm c.toNat then vx false r else if c.toNat = 35 then vx true r else c :: r := by rw [vx]
theorem scT_ok {j : Nat} {r y : List UInt8} {x : Tk} {n : Nat} (hk : vx false r = y) (hy : y ≠ []) (ht : kD y = .ok (x, n)) : jB (j + 1) r = match jB j (y.drop n) with
  | .error z => .error z
  | .ok l => .ok ((y.length, y.take n, x) :: l) := by
 rw [jB, hk]
 cases y with
 | nil => exact absurd rfl hy
 | cons c t =>
  simp only
  rw [ht]
  simp only
  cases jB j (List.drop n (c :: t)) <;> rfl
end Go.Vc
