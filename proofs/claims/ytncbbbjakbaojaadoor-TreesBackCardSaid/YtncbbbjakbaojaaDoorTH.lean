/-
  Trees: how a text is read: a plain reader; what the program's reader does is just that.
-/
import Derived.Test.YtncbbbjakbaojaaDoorTF
set_option linter.unusedVariables false
set_option linter.unusedSimpArgs false
namespace Go.Vc
open Go
def isD (c : UInt8) : Bool := decide (48 ≤ c.toNat) && decide (c.toNat ≤ 57)
def hexv (c : UInt8) : Option Nat := if isD c then some (c.toNat - 48) else if decide (97 ≤ c.toNat) && decide (c.toNat ≤ 102) then some (c.toNat - 87) else none
abbrev Rd (α : Type) := Except (Nat × Int) (α × List UInt8)
/-- a number: digits read, its value so far -/
def numR : Nat → Nat → List UInt8 → Rd Nat
  | _, _, [] => .error (0, 14)
  | cnt, n, c :: r => if isD c then (if cnt = 6 ∨ (0 < cnt ∧ n = 0) then .error (r.length + 1, 11) else numR (cnt + 1) (10 * n + (c.toNat - 48)) r) else .ok (n, c :: r)
def hexR : List UInt8 → Rd Nat
  | [] => .error (0, 14)
  | c :: r => match hexv c with
    | none => .error (r.length + 1, 11)
    | some a => .ok (a, r)
def leafR (r : List UInt8) : Rd Tree := match hexR r with
  | .error f => .error f
  | .ok (a, r1) => match hexR r1 with
    | .error f => .error f
    | .ok (b, r2) => .ok (⟨-1, ((16 * a + b : Nat) : Int), []⟩, r2)
def kidsR (rd : List UInt8 → Rd Tree) : Nat → List UInt8 → List Tree → Rd (List Tree)
  | 0, _, _ => .error (0, 14)
  | _ + 1, [], _ => .error (0, 14)
  | j + 1, c :: r, acc =>
    if c = 41 then .ok (acc, r)
    else if acc = [] then (match rd (c :: r) with
      | .error f => .error f
      | .ok (t, r') => kidsR rd j r' [t])
    else if c = 32 then (match rd r with
      | .error f => .error f
      | .ok (t, r') => kidsR rd j r' (acc ++ [t]))
    else .error (r.length + 1, 11)
def nodeR (rd : List UInt8 → Rd Tree) (r : List UInt8) : Rd Tree := match numR 0 0 r with
  | .error f => .error f
  | .ok (_, []) => .error (0, 14)
  | .ok (n, c :: r1) => if c = 40 then (match kidsR rd (r1.length + 1) r1 [] with
      | .error f => .error f
      | .ok (ks, r2) => .ok (⟨(n : Int), 0, ks⟩, r2))
    else .error (r1.length + 1, 11)
def rdT : Nat → List UInt8 → Rd Tree
  | _, [] => .error (0, 14)
  | 0, c :: r => if c = 120 ∨ isD c = true then .error (r.length + 1, 2) else .error (r.length + 1, 11)
  | L + 1, c :: r => if c = 120 then leafR r else if isD c then nodeR (rdT L) (c :: r) else .error (r.length + 1, 11)

/-! ### what is left grows shorter -/
def less {α : Type} (r : List UInt8) : Rd α → Prop
  | .error (m, c) => m ≤ r.length ∧ (c = 2 ∨ c = 11 ∨ c = 14)
  | .ok (_, r') => ∃ p, r = p ++ r' ∧ p ≠ []
theorem less_len {α : Type} {r r' : List UInt8} {a : α} (h : less r (.ok (a, r'))) : r'.length < r.length := by
  obtain ⟨p, rfl, hp⟩ := h
  have := List.length_pos_iff.2 hp
  simp only [List.length_append]; omega
theorem less_cons {α : Type} {c : UInt8} {r : List UInt8} {x : Rd α} (h : less r x) : less (c :: r) x := by
  cases x with
  | error f => exact ⟨by have := h.1; simp only [List.length_cons]; omega, h.2⟩
  | ok a => obtain ⟨p, rfl, hp⟩ := h; exact ⟨c :: p, rfl, by simp⟩
theorem hexR_less : ∀ r, less r (hexR r)
  | [] => ⟨Nat.le_refl _, by simp⟩
  | c :: r => by
    cases he : hexv c with
    | none => simp only [hexR, he]; exact ⟨by simp, by simp⟩
    | some a => simp only [hexR, he]; exact ⟨[c], rfl, by simp⟩
theorem less_trans {α β : Type} {r r' : List UInt8} {a : α} {x : Rd β} (h : less r (.ok (a, r'))) (h2 : less r' x) : less r x := by
  obtain ⟨p, rfl, hp⟩ := h
  cases x with
  | error f => exact ⟨by have := h2.1; simp only [List.length_append]; omega, h2.2⟩
  | ok b => obtain ⟨q, rfl, hq⟩ := h2; exact ⟨p ++ q, by simp, by simp [hp]⟩
theorem less_map {α β : Type} {r : List UInt8} {x : Rd α} {y : Rd β} (h : less r x) (h1 : ∀ f, x = .error f → y = .error f) (h2 : ∀ a r', x = .ok (a, r') → ∃ b, y = .ok (b, r')) : less r y := by
  cases x with
  | error f => rw [h1 f rfl]; exact h
  | ok a => obtain ⟨b, hb⟩ := h2 a.1 a.2 rfl; rw [hb]; exact h
theorem leafR_less (r : List UInt8) : less r (leafR r) := by
  have h1 := hexR_less r
  cases he : hexR r with
  | error f => rw [he] at h1; simp only [leafR, he]; exact h1
  | ok a =>
    obtain ⟨a, r1⟩ := a
    rw [he] at h1
    have h2 := hexR_less r1
    cases he2 : hexR r1 with
    | error f => rw [he2] at h2; simp only [leafR, he, he2]; exact less_trans (x := .error f) h1 h2
    | ok b => rw [he2] at h2; simp only [leafR, he, he2]; exact less_trans (x := .ok (_, b.2)) h1 h2
theorem numR_less : ∀ (r : List UInt8) (cnt n : Nat), (∃ f, numR cnt n r = .error f ∧ f.1 ≤ r.length ∧ (f.2 = 2 ∨ f.2 = 11 ∨ f.2 = 14)) ∨ (∃ m p r', numR cnt n r = .ok (m, r') ∧ r = p ++ r' ∧ (∀ c r0, r = c :: r0 → isD c = true → p ≠ []))
  | [], _, _ => .inl ⟨(0, 14), rfl, by simp, by simp⟩
  | c :: r, cnt, n => by
    unfold numR
    cases hd : isD c with
    | false => rw [if_neg (by simp)]; exact .inr ⟨n, [], c :: r, rfl, rfl, fun c' r' e hc => by cases e; rw [hd] at hc; cases hc⟩
    | true =>
      rw [if_pos rfl]
      split
      · exact .inl ⟨_, rfl, by simp, by simp⟩
      · rcases numR_less r (cnt + 1) (10 * n + (c.toNat - 48)) with ⟨f, h1, h2, h3⟩ | ⟨m, p, r', h1, h2, _⟩
        · exact .inl ⟨f, h1, by simp only [List.length_cons]; omega, h3⟩
        · exact .inr ⟨m, c :: p, r', h1, by rw [h2]; rfl, fun _ _ _ _ => by simp⟩
theorem kidsR_less {rd : List UInt8 → Rd Tree} (hrd : ∀ r, less r (rd r)) : ∀ (j : Nat) (r : List UInt8) (acc : List Tree), less r (kidsR rd j r acc)
  | 0, _, _ => ⟨Nat.zero_le _, by simp⟩
  | _ + 1, [], _ => ⟨Nat.zero_le _, by simp⟩
  | j + 1, c :: r, acc => by
    unfold kidsR
    split
    · exact ⟨[c], rfl, by simp⟩
    split
    · have h1 := hrd (c :: r)
      cases he : rd (c :: r) with
      | error f => rw [he] at h1; exact h1
      | ok a => obtain ⟨t, r'⟩ := a; rw [he] at h1; exact less_trans h1 (kidsR_less hrd j r' [t])
    split
    · have h1 := hrd r
      cases he : rd r with
      | error f => rw [he] at h1; exact less_cons h1
      | ok a => obtain ⟨t, r'⟩ := a; rw [he] at h1; exact less_cons (less_trans h1 (kidsR_less hrd j r' _))
    · exact ⟨by simp, by simp⟩
theorem nodeR_less {rd : List UInt8 → Rd Tree} (hrd : ∀ r, less r (rd r)) (r : List UInt8) : less r (nodeR rd r) := by
  unfold nodeR
  rcases numR_less r 0 0 with ⟨f, h1, h2, h3⟩ | ⟨m, p, r', h1, h2, _⟩
  · rw [h1]; exact ⟨h2, h3⟩
  · rw [h1, h2]
    cases r' with
    | nil => exact ⟨Nat.zero_le _, by simp⟩
    | cons c r1 =>
      simp only
      split
      · have h4 := kidsR_less hrd (r1.length + 1) r1 []
        have key : ∀ {α : Type} {x : Rd α}, less r1 x → less (p ++ c :: r1) x := by
          intro α x hx
          have h0 : less (p ++ c :: r1) (.ok ((), r1) : Rd Unit) := ⟨p ++ [c], by simp, by simp⟩
          exact less_trans h0 hx
        cases he : kidsR rd (r1.length + 1) r1 [] with
        | error f => rw [he] at h4; exact key h4
        | ok a => rw [he] at h4; exact key (x := .ok (_, a.2)) (by obtain ⟨q, hq1, hq2⟩ := h4; exact ⟨q, hq1, hq2⟩)
      · exact ⟨by simp, by simp⟩
theorem rdT_less : ∀ (L : Nat) (r : List UInt8), less r (rdT L r)
  | L, [] => by cases L <;> exact ⟨Nat.zero_le _, by simp⟩
  | 0, c :: r => by
    unfold rdT
    split
    · exact ⟨by simp, by simp⟩
    · exact ⟨by simp, by simp⟩
  | L + 1, c :: r => by
    unfold rdT
    split
    · exact less_cons (leafR_less r)
    split
    · exact nodeR_less (rdT_less L) _
    · exact ⟨by simp, by simp⟩

/-! ### places -/
def D (s : List UInt8) (i : Nat) (r : List UInt8) : Prop := s.drop i = r ∧ i + r.length = s.length
theorem D_zero (s : List UInt8) : D s 0 s := ⟨rfl, by simp⟩
theorem D_cons {s r : List UInt8} {c : UInt8} {i : Nat} (h : D s i (c :: r)) : i < s.length ∧ sAt s (i : Int) = (c.toNat : Int) ∧ inR (i : Int) s.length = true ∧ D s (i + 1) r := by
  obtain ⟨h1, h2⟩ := h
  simp only [List.length_cons] at h2
  have hi : i < s.length := by omega
  refine ⟨hi, ?_, ix_in hi, ?_, by omega⟩
  · have : s[i] = c := by
      rw [List.drop_eq_getElem_cons hi] at h1
      exact (List.cons.inj h1).1
    simp [sAt, hi, this]
  · rw [List.drop_eq_getElem_cons hi] at h1
    exact (List.cons.inj h1).2
theorem D_app {s p r : List UInt8} {i : Nat} (h : D s i (p ++ r)) : D s (i + p.length) r := by
  obtain ⟨h1, h2⟩ := h
  refine ⟨?_, by rw [List.length_append] at h2; omega⟩
  rw [← List.drop_drop, h1]
  simp
theorem D_less {α : Type} {s r r' : List UInt8} {i : Nat} {a : α} (h : D s i r) (hl : less r (.ok (a, r'))) : D s (s.length - r'.length) r' := by
  obtain ⟨p, rfl, hp⟩ := hl
  have := D_app h
  have h2 := this.2
  rwa [show s.length - r'.length = i + p.length by omega]
theorem D_nil {s : List UInt8} {i : Nat} (h : D s i []) : i = s.length := by have := h.2; simpa using this

/-! ### the program's reader -/
def rk (s : List UInt8) (i : Nat) : Trees_reader := ⟨s, (i : Int)⟩
theorem peek_nil {s : List UInt8} {i : Nat} (h : D s i []) : F.trees.reader_peek (rk s i) = some (.pan ⟨(s.length : Int), 14⟩) := by
  have := D_nil h
  subst this
  simp [F.trees.reader_peek, rk, F.trees.reader_fail, Pn.go]
theorem peek_cons {s r : List UInt8} {c : UInt8} {i : Nat} (h : D s i (c :: r)) : F.trees.reader_peek (rk s i) = some (.ok (c.toNat : Int)) := by
  obtain ⟨h1, h2, h3, _⟩ := D_cons h
  unfold F.trees.reader_peek F.trees.reader_peek_j1 rk
  rw [if_neg (by simp; omega), if_pos h3, h2]
theorem u8_int {c : UInt8} {n : Nat} (hn : n < 256) : ((c.toNat : Int) = (n : Int)) ↔ c = UInt8.ofNat n := by
  constructor
  · intro h
    apply UInt8.toNat_inj.1
    rw [UInt8.toNat_ofNat']
    omega
  · rintro rfl
    rw [UInt8.toNat_ofNat']
    omega
theorem want_ok {s r : List UInt8} {c : UInt8} {i n : Nat} (hn : n < 256) (h : D s i (c :: r)) (hb : s.length < 1000000) : F.trees.reader_want (rk s i) (n : Int) = some (if c = UInt8.ofNat n then .ok (rk s (i + 1)) else .pan ⟨(i : Int), 11⟩) := by
  have hi := (D_cons h).1
  unfold F.trees.reader_want
  rw [peek_cons h, Option.bind_some]
  simp only [Pn.go, F.trees.reader_fail, F.trees.reader_want_j1, rk, Option.bind_some]
  rw [ix_inc (by omega)]
  by_cases hc : c = UInt8.ofNat n
  · rw [if_neg (by simpa using (u8_int hn).2 hc), if_pos hc]
  · rw [if_pos (by simpa using fun e => hc ((u8_int hn).1 e)), if_neg hc]
theorem want_nil {s : List UInt8} {i : Nat} {n : Int} (h : D s i []) : F.trees.reader_want (rk s i) n = some (.pan ⟨(s.length : Int), 14⟩) := by
  unfold F.trees.reader_want
  rw [peek_nil h]
  rfl
theorem idx_hex : ∀ n : _root_.Fin 256, Lib.indexByte hexA (UInt8.ofNat n.val) = (match hexv (UInt8.ofNat n.val) with | none => -1 | some a => (a : Int)) := by decide +kernel
theorem hexv_lt : ∀ n : _root_.Fin 256, (match hexv (UInt8.ofNat n.val) with | none => true | some a => decide (a < 16)) = true := by decide +kernel
theorem idx_hex' (c : UInt8) : Lib.indexByte hexA c = (match hexv c with | none => -1 | some a => (a : Int)) := by
  have := idx_hex ⟨c.toNat, c.toNat_lt⟩
  simpa using this
theorem hexv_lt' {c : UInt8} {a : Nat} (h : hexv c = some a) : a < 16 := by
  have := hexv_lt ⟨c.toNat, c.toNat_lt⟩
  simp only [UInt8.ofNat_toNat, h] at this
  simpa using this
def pn {α β : Type} (s : List UInt8) (f : α → Nat → β) : Rd α → Pn β Fault
  | .error (m, c) => .pan ⟨((s.length - m : Nat) : Int), c⟩
  | .ok (a, r) => .ok (f a (s.length - r.length))
theorem digit_ok {s r : List UInt8} {i : Nat} (h : D s i r) (hb : s.length < 1000000) : F.trees.reader_digit (rk s i) = some (pn s (fun (a : Nat) j => ((a : Int), rk s j)) (hexR r)) := by
  unfold F.trees.reader_digit
  cases r with
  | nil => rw [peek_nil h]; rfl
  | cons c r =>
    obtain ⟨h1, h2, h3, h4⟩ := D_cons h
    have h5 := h4.2
    rw [peek_cons h, Option.bind_some]
    simp only [Pn.go, F.strings.IndexByte, Option.bind_some]
    have e : ([48, 49, 50, 51, 52, 53, 54, 55, 56, 57, 97, 98, 99, 100, 101, 102] : List UInt8) = hexA := rfl
    have e2 : ((c.toNat : Int)).toNat.toUInt8 = c := by simp
    rw [e, e2, idx_hex']
    unfold hexR
    cases hv : hexv c with
    | none =>
      have : i = s.length - (r.length + 1) := by omega
      simp only [hv, F.trees.reader_fail, Pn.go, pn, rk, ← this, Option.bind_some]
      rfl
    | some a =>
      simp only [hv, F.trees.reader_digit_j1, pn, rk]
      rw [if_neg (by simp), ix_inc (by omega), show i + 1 = s.length - r.length by omega]
end Go.Vc
