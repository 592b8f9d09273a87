import Derived.Test.YtdbnoblklhgdoaaGreatDoorRB
import Derived.Test.YtdbnoblklhgdoaaGreatDoorSH
set_option linter.unusedVariables false
set_option linter.unusedSimpArgs false
set_option linter.unusedSectionVars false
namespace Go.Vc
open Go
theorem scT_gd : ∀ (j : Nat) (r : List UInt8) (l : List (Nat × List UInt8 × Tk)), r.length <= 65536 -> jB j r = .ok l -> ∀ p ∈ l, p.2.1 ≠ [] /\ p.2.2.kind ≠ 7
 | 0, _, _, _, h => by cases h; exact fun p hp => (by cases hp)
 | j + 1, r, l, hl, h => by
  have hs := gG r false
  unfold jB at h
  cases hk : vx false r with
  | nil => rw [hk] at h; cases h; exact fun p hp => (by cases hp)
  | cons c t =>
   rw [hk] at h hs
   simp only at h
   cases ht : kD (c :: t) with
   | error p => rw [ht] at h; cases h
   | ok p =>
    obtain ⟨x, n⟩ := p
    obtain ⟨n1, n2, n3, n4, _⟩ := ux (by omega) ht
    rw [ht] at h
    simp only at h
    cases hr : jB j ((c :: t).drop n) with
    | error z => rw [hr] at h; cases h
    | ok l' =>
     rw [hr] at h
     cases h
     have hlen : ((c :: t).take n).length = n := by rw [List.length_take]; omega
     intro p hp
     rcases List.mem_cons.1 hp with rfl | hp
     ·exact ⟨fun e => by have e' : (c :: t).take n = [] := e; rw [e'] at hlen; simp only [List.length_nil] at hlen; omega, n4⟩
     ·exact scT_gd j _ l' (by rw [List.length_drop]; omega) hr p hp
theorem wds_E7 (s s' : List UInt8) : ∀ (l : List (Nat × List UInt8 × Tk)), (∀ p ∈ l, p.2.1 ≠ [] /\ p.2.2.kind ≠ 7) -> E7 (uv s l ++ [jz s'])
 | [], _ => E7.one _ rfl
 | p :: l, h => E7.cons _ _ (h p (by simp)).2 (wds_E7 s s' l fun q hq => h q (by simp [hq]))
def d0 : zY := ⟨[], [], [], [], [], [], []⟩
def vz (s : List UInt8) : zY × Fault := match jB 400000 s with
 | .error (m, o, e) => (d0, ⟨((s.length - m : Nat) : Int) + o, e⟩)
 | .ok l => match kw 400000 d0 false false (uv s l ++ [jz s]) with
  | .ok d => (d, ⟨0, 0⟩)
  | .error f => (d0, f)
theorem Sf_of {ws : List zg} (h : E7 ws) (hl : ws.length < 1000000) : Sf ws ws := ⟨by simp, h, hl⟩
theorem Rm_d0 {n : Nat} (h : n <= 1000000) : Rm d0 n := ⟨by simp [d0], by simpa [d0] using h, by simpa [d0] using h, by simpa [d0] using h, by simpa [d0] using h⟩
theorem Parse_ok {K : Nat} (hK : 400000 <= K) {s : List UInt8} (hb : s.length <= 65536) : qd.Parse K s = some (vz s) := by
 unfold qd.Parse vz
 rw [Scan_ok hK hb, Option.bind_some]
 cases hs : jB 400000 s with
 | error z =>
  obtain ⟨m, o, e⟩ := z
  obtain ⟨_, g2, _⟩ := scT_err _ _ _ _ _ hb hs
  simp only
  rw [if_pos (by simpa using g2)]
  rfl
 | ok l =>
  have hl := scT_len _ _ _ hb hs
  have hg := scT_gd _ _ _ hb hs
  simp only
  rw [if_neg (by simp)]
  have hlen : (uv s l ++ [jz s]).length = l.length + 1 := by simp [uv]
  have hS := Sf_of (wds_E7 s s l hg) (by rw [hlen]; omega)
  obtain ⟨z, z1, z2⟩ := all_l1_ok (k := K) (by omega) K 400000 d0 false false 0 _ hS (Rm_d0 (by rw [hlen]; omega)) (by rw [hlen]; omega) (by rw [hlen]; omega)
  have hix : ix (uv s l ++ [jz s]) (uv s l ++ [jz s]) = 0 := by simp [ix]
  rw [hix] at z1
  unfold qd.reader_all
  show ((qd.reader_all_l1 K K (uv s l ++ [jz s]) 0 d0.Start d0.Layout d0.Prods d0.Chains d0.Follows d0.Rejects d0.Boxes false false 0).bind _).bind _ = _
  rw [z1]
  cases ha : kw 400000 d0 false false (uv s l ++ [jz s]) with
  | error f =>
   rw [ha] at z2
   subst z2
   rfl
  | ok d =>
   rw [ha] at z2
   obtain ⟨a, s', y', n', rfl⟩ := z2
   rfl
theorem allW_nz : ∀ (j : Nat) (d : zY) (s y : Bool) (ws : List zg) (e : Fault), kw j d s y ws = .error e -> e.Code ≠ 0 := by
 intro j
 induction j with
 | zero => intro _ _ _ _ _ h; cases h; decide
 | succ j ih =>
  intro d s y ws e h
  cases ws with
  | nil => cases h; decide
  | cons w r =>
   simp only [kw] at h
   split at h
   ·cases h
   split at h
   ·cases hs : xX w d s y r with
    | error e' => rw [hs] at h; cases h; exact (gp_stmt w d s y).nz _ _ hs
    | ok v => rw [hs] at h; exact ih _ _ _ _ _ h
   ·cases h; simp
theorem prsP_ok {s : List UInt8} (hb : s.length <= 65536) (h : (vz s).2.Code = 0) : ∃ l, jB 400000 s = .ok l /\ kw 400000 d0 false false (uv s l ++ [jz s]) = .ok (vz s).1 := by
 unfold vz at h ⊢
 cases hs : jB 400000 s with
 | error z =>
  obtain ⟨m, o, e⟩ := z
  obtain ⟨_, g2, _⟩ := scT_err _ _ _ _ _ hb hs
  rw [hs] at h
  exact absurd h g2
 | ok l =>
  rw [hs] at h
  simp only at h ⊢
  refine ⟨l, rfl, ?_⟩
  cases ha : kw 400000 d0 false false (uv s l ++ [jz s]) with
  | error e => rw [ha] at h; exact absurd h (allW_nz _ _ _ _ _ _ ha)
  | ok d => rfl
theorem er_core {l l' : List zg} (h : l.map core = l'.map core) : Eq' l l' := by
 have : ∀ w : zg, er w = (fun c : Int × List UInt8 × List Int × S4 × Int => (⟨c.1, c.2.1, c.2.2.1, c.2.2.2.1, c.2.2.2.2, 0, 0, 0⟩ : zg)) (core w) := fun _ => rfl
 unfold Eq'
 rw [show er = (fun c : Int × List UInt8 × List Int × S4 × Int => (⟨c.1, c.2.1, c.2.2.1, c.2.2.2.1, c.2.2.2.2, 0, 0, 0⟩ : zg)) ∘ core from funext this, <- List.map_map, <- List.map_map, h]
end Go.Vc
