import Derived.Test.YtdbnoblklhgdoaaGreatDoorWA
set_option linter.unusedVariables false
set_option linter.unusedSimpArgs false
namespace Go.Vc
open Go
def lnN (s : List UInt8) (i : Nat) : Nat := 1 + (s.take i).count 10
def colN (s : List UInt8) : Nat → Nat
  | 0 => 1
  | i + 1 => if s.getD i 0 = 10 then 1 else colN s i + 1
theorem app_ok {a b : List Int} (h : a.length + b.length < 1000000) : decide ((a.length + b.length) * 1 ≤ 140737488355328) = true ∧ decide (a.length + b.length ≤ 9223372036854775807) = true := ⟨decide_eq_true (by omega), decide_eq_true (by omega)⟩
def hv (n : Nat) : Option Nat := if 48 ≤ n ∧ n ≤ 57 then some (n - 48) else if 97 ≤ n ∧ n ≤ 102 then some (n - 87) else if 65 ≤ n ∧ n ≤ 70 then some (n - 55) else none
def sign (v : Nat) : Option Nat := if v = 34 ∨ v = 92 then some v else if v = 110 then some 10 else if v = 116 then some 9 else if v = 114 then some 13 else none
def esc : List UInt8 → Option (Nat × Nat)
  | _ :: v :: rest => match sign v.toNat with
    | some b => some (b, 2)
    | none => if v.toNat = 120 then (match rest with
        | p :: q :: _ => (match hv p.toNat, hv q.toNat with
          | some a, some b => some (16 * a + b, 4)
          | _, _ => none)
        | _ => none) else none
  | _ => none
def quR : Nat → List UInt8 → List Int → Except (Option Nat × Int) (List Int × List UInt8)
  | 0, _, _ => .error (none, 13)
  | _ + 1, [], _ => .error (none, 13)
  | j + 1, c :: r, acc =>
    if c.toNat = 34 then .ok (acc, r)
    else if c.toNat = 92 then (match esc (c :: r) with
      | none => .error (some (r.length + 1), 12)
      | some (b, n) => quR j ((c :: r).drop n) (acc ++ [(b : Int)]))
    else if c.toNat < 32 ∨ 126 < c.toNat then .error (some (r.length + 1), 11)
    else quR j r (acc ++ [(c.toNat : Int)])
def D (s : List UInt8) (i : Nat) (r : List UInt8) : Prop := s.drop i = r ∧ i + r.length = s.length
end Go.Vc
namespace Go.Vc.Cs
open Go Go.Vc
theorem wrap_succ {i : Nat} (hi : i < 1000000) : IntKind.wrap .i64 ((i : Int) + 1) = ((i + 1 : Nat) : Int) := by rw [wrap_i64 (by omega) (by omega)]; rfl
def hexv (c : Nat) : Nat := if 48 ≤ c ∧ c ≤ 57 then c - 48 else if 97 ≤ c ∧ c ≤ 102 then c - 97 + 10 else if 65 ≤ c ∧ c ≤ 70 then c - 65 + 10 else 16
theorem digit_all : ∀ c : _root_.Fin 256, F.charset.digit (c.val : Int) = some (if hexv c.val < 16 then (hexv c.val : Int) else -1) := by decide +kernel
def i3 (x : Nat × Nat × Nat) : Int × Int × Int := ((x.1 : Int), (x.2.1 : Int), (x.2.2 : Int))
theorem u8_lt (c : UInt8) : c.toNat < 256 := c.toNat_lt
theorem digit_ok (c : UInt8) : F.charset.digit (c.toNat : Int) = some (if hexv c.toNat < 16 then (hexv c.toNat : Int) else -1) := digit_all ⟨c.toNat, u8_lt c⟩
end Go.Vc.Cs
namespace Go.Vc
open Go
def blank (n : Nat) : Prop := n = 10 ∨ n = 32 ∨ n = 9 ∨ n = 13
instance (n : Nat) : Decidable (blank n) := by unfold blank; infer_instance
def skL : Bool → List UInt8 → List UInt8
  | _, [] => []
  | false, c :: r => if blank c.toNat then skL false r else if c.toNat = 35 then skL true r else c :: r
  | true, c :: r => if c.toNat = 10 then skL false r else skL true r
def rem : List UInt8 → List UInt8
  | [] => []
  | c :: r => if c.toNat = 10 then c :: r else rem r
structure Tk where
  kind : Int
  bytes : List Int
  set : S4
  num : Int
def numR : Nat → Int → List UInt8 → Option (Nat × Int)
  | c, n, [] => some (c, n)
  | c, n, d :: r => if cls d.toNat = 3 then (if c = 6 then none else numR (c + 1) (IntKind.wrap .i64 ((IntKind.wrap .i64 (10 * n)) + (IntKind.wrap .i64 (IntKind.wrap .u8 ((d.toNat : Int) - 48))))) r) else some (c, n)
def brk : List UInt8 → Option Nat
  | [] => none
  | c :: r => if c.toNat = 92 then (match r with
      | [] => none
      | _ :: r' => (brk r').map (· + 2))
    else if c.toNat = 93 then some 1 else (brk r).map (· + 1)
def psP (t : List UInt8) : S4 × Fault := (F.charset.Parse 400000 t).getD (S4.mk 0 0 0 0, ⟨0, 0⟩)
def isSign (c : UInt8) : Bool := decide (0 ≤ Lib.indexByte ([61, 124, 46, 59, 62, 63, 42, 43, 123, 125, 40, 41, 95, 47, 44, 45] : List UInt8) c)
def noS : S4 := S4.mk 0 0 0 0
def tok : List UInt8 → Except (Int × Int) (Tk × Nat)
  | [] => .error (0, 11)
  | c :: r =>
    if cls c.toNat = 1 ∨ cls c.toNat = 2 then (if 32 < pl (c :: r) then .error (0, 20) else .ok (⟨(cls c.toNat : Int), [], noS, 0⟩, pl (c :: r)))
    else if cls c.toNat = 3 then (match numR 0 0 (c :: r) with
      | none => .error (0, 21)
      | some (m, n) => if c.toNat = 48 ∧ 1 < m then .error (0, 21) else .ok (⟨3, [], noS, n⟩, m))
    else if c.toNat = 34 then (match quR 400000 r [] with
      | .error (none, _) => .error (0, 13)
      | .error (some m, e) => .error (((r.length + 1 - m : Nat) : Int), e)
      | .ok (out, r') => .ok (⟨4, out, noS, 0⟩, r.length + 1 - r'.length))
    else if c.toNat = 91 then (match brk r with
      | none => .error (0, 13)
      | some m => if (psP ((c :: r).take (m + 1))).2.Code ≠ 0 then .error ((psP ((c :: r).take (m + 1))).2.At, (psP ((c :: r).take (m + 1))).2.Code) else .ok (⟨5, [], (psP ((c :: r).take (m + 1))).1, 0⟩, m + 1))
    else if isSign c then .ok (⟨6, [], noS, 0⟩, 1)
    else .error (0, 11)
end Go.Vc
