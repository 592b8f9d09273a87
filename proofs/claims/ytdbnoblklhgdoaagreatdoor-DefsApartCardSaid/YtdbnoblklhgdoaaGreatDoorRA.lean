import Derived.Test.YtdbnoblklhgdoaaGreatDoorRP
import Derived.Test.YtdbnoblklhgdoaaGreatDoorVcN
set_option linter.unusedVariables false
set_option linter.unusedSimpArgs false
set_option linter.unusedSectionVars false
namespace Go.Vc
open Go
inductive E7 : List Word → Prop
  | one (w : Word) (h : w.Kind = 7) : E7 [w]
  | cons (w : Word) (r : List Word) (h : w.Kind ≠ 7) (hr : E7 r) : E7 (w :: r)
structure Sf (l ws : List Word) : Prop where
  drop : l.drop (l.length - ws.length) = ws
  e7 : E7 ws
  len : l.length < 1000000
abbrev Ps (α : Type) := Except Fault (α × List Word)
section
variable (l : List Word) (d : Def) (s y : Bool) (n : Int) (ws : List Word)
end
def isP (ws : List Word) (t : List UInt8) : Bool := match ws with
  | w :: _ => (w.Kind == 6 || w.Kind == 2) && w.Text == t
  | [] => false
def hdAt (ws : List Word) : Int := match ws with
  | w :: _ => w.At
  | [] => 0
def wantP (ws : List Word) (t : List UInt8) : Except Fault (List Word) := if isP ws t then .ok ws.tail else .error ⟨hdAt ws, 30⟩
def kindP (ws : List Word) (k : Int) : Ps Word := match ws with
  | w :: r => if w.Kind = k then (if k = 4 ∧ 32 < w.Bytes.length then .error ⟨w.At, 2⟩ else .ok (w, r)) else .error ⟨w.At, 30⟩
  | [] => .error ⟨0, 1⟩
def nameP (ws : List Word) : Ps (List UInt8) := match kindP ws 1 with
  | .ok (w, r) => .ok (w.Text, r)
  | .error e => .error e
section
variable {l : List Word} {d : Def} {s y : Bool} {n : Int} {ws : List Word}
end
def noSet : S4 := ⟨0, 0, 0, 0⟩
def endP (k : Int) (set : S4) (nm : List UInt8) (ws : List Word) : Sym × List Word :=
  if isP ws [63] then (⟨4, [], set, nm, []⟩, ws.tail) else if isP ws [42] then (⟨5, [], set, nm, []⟩, ws.tail) else if isP ws [43] then (⟨6, [], set, nm, []⟩, ws.tail) else (⟨k, [], set, nm, []⟩, ws)
def partW (ws : List Word) : Ps Sym := match ws with
  | w :: r => if w.Kind = 5 then .ok (endP 2 w.Set [] r) else match nameP (w :: r) with
    | .ok (nm, r') => .ok (endP 3 noSet nm r')
    | .error e => .error e
  | [] => .error ⟨0, 1⟩
def braceP (ws : List Word) : Ps Sym := match nameP ws with
  | .error e => .error e
  | .ok (nm, r) => match kindP r 4 with
    | .error e => .error e
    | .ok (w, r2) => if w.Bytes.length = 0 then .error ⟨w.At, 30⟩ else match wantP r2 [125] with
      | .error e => .error e
      | .ok r3 => if isP r3 [42] then .ok (⟨5, [], noSet, nm, toS w.Bytes⟩, r3.tail) else match wantP r3 [43] with
        | .error e => .error e
        | .ok r4 => .ok (⟨6, [], noSet, nm, toS w.Bytes⟩, r4)
def symW (ws : List Word) : Ps Sym := match ws with
  | w :: r => if w.Kind = 4 then (match kindP (w :: r) 4 with
      | .error e => .error e
      | .ok (x, r') => .ok (⟨1, toS x.Bytes, noSet, [], []⟩, r'))
    else if isP (w :: r) [123] then braceP r else partW (w :: r)
  | [] => .error ⟨0, 1⟩
section
variable {l : List Word} {d : Def} {s y : Bool} {n : Int} {ws : List Word}
end
def begP (ws : List Word) : Bool := match ws with
  | w :: _ => w.Kind == 4 || w.Kind == 1 || w.Kind == 5 || isP ws [123]
  | [] => false
def symsL : Nat → List Sym → List Word → Ps (List Sym)
  | 0, _, _ => .error ⟨0, 1⟩
  | j + 1, out, ws => if begP ws then (if out.length = 12 then .error ⟨hdAt ws, 2⟩ else match symW ws with
      | .error e => .error e
      | .ok (x, r) => symsL j (out ++ [x]) r) else .ok (out, ws)
def symsW (ws : List Word) : Ps (List Sym) := match symW ws with
  | .error e => .error e
  | .ok (x, r) => symsL 20 [x] r
section
variable {l : List Word} {d : Def} {s y : Bool} {n : Int} {ws : List Word}
end
def headW (ws : List Word) : Ps (List UInt8 × List UInt8) := match nameP ws with
  | .error e => .error e
  | .ok (a, r) => if isP r [46] then (match nameP r.tail with
      | .error e => .error e
      | .ok (c, r2) => match wantP r2 [61] with
        | .error e => .error e
        | .ok r3 => .ok ((a, c), r3))
    else match wantP r [61] with
      | .error e => .error e
      | .ok r3 => .ok ((a, []), r3)
def lexL : Nat → List UInt8 → List UInt8 → List Prod → List Word → Ps (List Prod)
  | 0, _, _, _, _ => .error ⟨0, 1⟩
  | j + 1, a, c, ps, ws => match symsW ws with
    | .error e => .error e
    | .ok (x, r) => if isP r [124] then (if ps.length + 1 = 200 then .error ⟨hdAt r, 2⟩ else lexL j a c (ps ++ [⟨true, a, c, false, x⟩]) r.tail) else .ok (ps ++ [⟨true, a, c, false, x⟩], r)
def lexW (w0 : Word) (ps : List Prod) (ws : List Word) : Ps (List Prod) := if ps.length = 200 then .error ⟨w0.At, 2⟩ else match headW ws with
  | .error e => .error e
  | .ok (x, r) => match lexL 300 x.1 x.2 ps r with
    | .error e => .error e
    | .ok (ps', r2) => match wantP r2 [59] with
      | .error e => .error e
      | .ok r3 => .ok (ps', r3)
def cfW (w0 : Word) (ps : List Prod) (ws : List Word) : Ps (List Prod) := if ps.length = 200 then .error ⟨w0.At, 2⟩ else match headW ws with
  | .error e => .error e
  | .ok (x, r) => match symsW r with
    | .error e => .error e
    | .ok (l, r2) => if x.2 = [] then (match wantP r2 [98, 114, 97, 99, 107, 101, 116] with
        | .error e => .error e
        | .ok r3 => match wantP r3 [59] with
          | .error e => .error e
          | .ok r4 => .ok (ps ++ [⟨false, x.1, x.2, true, l⟩], r4))
      else match wantP r2 [59] with
        | .error e => .error e
        | .ok r4 => .ok (ps ++ [⟨false, x.1, x.2, false, l⟩], r4)
def dP (d : Def) (ps : List Prod) : Def := ⟨d.Start, d.Layout, ps, d.Chains, d.Follows, d.Rejects, d.Boxes⟩
section
variable {l : List Word} {d : Def} {s y : Bool} {n : Int} {ws : List Word}
end
def groupA (ws : List Word) : Int × List Word := if isP ws [108, 101, 102, 116] then (1, ws.tail) else if isP ws [114, 105, 103, 104, 116] then (2, ws.tail) else if isP ws [110, 111, 110] then (3, ws.tail) else (0, ws)
def namesL : Nat → List (List UInt8) → List Word → Ps (List (List UInt8))
  | 0, _, _ => .error ⟨0, 1⟩
  | j + 1, out, ws => match ws with
    | w :: r => if w.Kind = 1 then (if out.length = 16 then .error ⟨w.At, 2⟩ else match nameP (w :: r) with
        | .error e => .error e
        | .ok (x, r') => namesL j (out ++ [x]) r') else .ok (out, w :: r)
    | [] => .ok (out, [])
def groupW (ws : List Word) : Ps Group := match nameP (groupA ws).2 with
  | .error e => .error e
  | .ok (x, r2) => match namesL 30 [x] r2 with
    | .error e => .error e
    | .ok (c, r3) => .ok (⟨(groupA ws).1, c⟩, r3)
def prioL : Nat → List Group → List Word → Ps (List Group)
  | 0, _, _ => .error ⟨0, 1⟩
  | j + 1, out, ws => if isP ws [62] then (if out.length = 16 then .error ⟨hdAt ws.tail, 2⟩ else match groupW ws.tail with
      | .error e => .error e
      | .ok (g, r) => prioL j (out ++ [g]) r) else .ok (out, ws)
def prioW (ws : List Word) : Ps (List Group) := match groupW ws with
  | .error e => .error e
  | .ok (g, r) => match prioL 30 [g] r with
    | .error e => .error e
    | .ok (c, r2) => match wantP r2 [59] with
      | .error e => .error e
      | .ok r3 => .ok (c, r3)
def dC (d : Def) (c : List (List Group)) : Def := ⟨d.Start, d.Layout, d.Prods, c, d.Follows, d.Rejects, d.Boxes⟩
section
variable {l : List Word} {d : Def} {s y : Bool} {n : Int} {ws : List Word}
end
def itBeg (ws : List Word) : Bool := match ws with
  | w :: _ => w.Kind == 4 || w.Kind == 3 || isP ws [95] || isP ws [47] || isP ws [110, 101, 115, 116] || isP ws [103, 114, 111, 117, 112]
  | [] => false
abbrev Pi := Ps (List Item × Nat)
def withinW (g : Nat → List Word → Pi) (n : Nat) (ws : List Word) : Pi := match wantP ws [40] with
  | .error e => .error e
  | .ok r => match g n r with
    | .error e => .error e
    | .ok ((x, m), r2) => match wantP r2 [41] with
      | .error e => .error e
      | .ok r3 => .ok ((x, m), r3)
def itemW (g : Nat → List Word → Pi) (n : Nat) (ws : List Word) : Ps (Item × Nat) := match ws with
  | [] => .error ⟨0, 1⟩
  | w :: r => if w.Kind = 4 then (match kindP (w :: r) 4 with
      | .error e => .error e
      | .ok (x, r') => .ok ((⟨1, toS x.Bytes, 0, []⟩, n), r'))
    else if w.Kind = 3 then .ok ((⟨2, [], w.N_, []⟩, n), r)
    else if isP (w :: r) [95] then .ok ((⟨3, [], 0, []⟩, n), r)
    else if isP (w :: r) [47] then .ok ((⟨4, [], 0, []⟩, n), r)
    else if isP (w :: r) [110, 101, 115, 116] then (match kindP r 3 with
      | .error e => .error e
      | .ok (x, r2) => match withinW g n r2 with
        | .error e => .error e
        | .ok ((i, m), r3) => .ok ((⟨5, [], x.N_, i⟩, m), r3))
    else match withinW g n r with
      | .error e => .error e
      | .ok ((i, m), r3) => .ok ((⟨6, [], 0, i⟩, m), r3)
def listW : Nat → Nat → List Word → Pi
  | 0, _, _ => .error ⟨0, 1⟩
  | f + 1, n, ws => if itBeg ws then (if n = 64 then .error ⟨hdAt ws, 2⟩ else match itemW (listW f) (n + 1) ws with
      | .error e => .error e
      | .ok ((x, m), r) => match listW f m r with
        | .error e => .error e
        | .ok ((c, m'), r') => .ok ((x :: c, m'), r')) else .ok (([], n), ws)
section
variable {l : List Word} {d : Def} {s y : Bool} {ws : List Word}
end
def onceW (ws : List Word) : Ps (List UInt8) := match nameP ws with
  | .error e => .error e
  | .ok (a, r) => match wantP r [59] with
    | .error e => .error e
    | .ok r2 => .ok (a, r2)
def followW (ws : List Word) : Ps Follow := match nameP ws with
  | .error e => .error e
  | .ok (a, r) => match kindP r 5 with
    | .error e => .error e
    | .ok (w, r2) => match wantP r2 [59] with
      | .error e => .error e
      | .ok r3 => .ok (⟨a, w.Set⟩, r3)
def rejectW (ws : List Word) : Ps Reject := match nameP ws with
  | .error e => .error e
  | .ok (a, r) => match nameP r with
    | .error e => .error e
    | .ok (b, r2) => match wantP r2 [59] with
      | .error e => .error e
      | .ok r3 => .ok (⟨a, b⟩, r3)
def boxW (ws : List Word) : Ps (Box × Nat) := match nameP ws with
  | .error e => .error e
  | .ok (a, r) => match wantP r [61] with
    | .error e => .error e
    | .ok r2 => match listW 65 0 r2 with
      | .error e => .error e
      | .ok ((x, m), r3) => match wantP r3 [59] with
        | .error e => .error e
        | .ok r4 => .ok ((⟨a, x⟩, m), r4)
def dFo (d : Def) (c : List Follow) : Def := ⟨d.Start, d.Layout, d.Prods, d.Chains, c, d.Rejects, d.Boxes⟩
def dR (d : Def) (c : List Reject) : Def := ⟨d.Start, d.Layout, d.Prods, d.Chains, d.Follows, c, d.Boxes⟩
def dB (d : Def) (c : List Box) : Def := ⟨d.Start, d.Layout, d.Prods, d.Chains, d.Follows, d.Rejects, c⟩
def dS (d : Def) (c : List UInt8) : Def := ⟨c, d.Layout, d.Prods, d.Chains, d.Follows, d.Rejects, d.Boxes⟩
def dL (d : Def) (c : List UInt8) : Def := ⟨d.Start, c, d.Prods, d.Chains, d.Follows, d.Rejects, d.Boxes⟩
def stmtW (w : Word) (d : Def) (s y : Bool) (ws : List Word) : Ps (Def × Bool × Bool) :=
  if w.Text = [115, 116, 97, 114, 116] then (if s then .error ⟨w.At, 31⟩ else match onceW ws with
    | .error e => .error e
    | .ok (x, r) => .ok ((dS d x, true, y), r))
  else if w.Text = [108, 97, 121, 111, 117, 116] then (if y then .error ⟨w.At, 31⟩ else match onceW ws with
    | .error e => .error e
    | .ok (x, r) => .ok ((dL d x, s, true), r))
  else if w.Text = [108, 101, 120] then (match lexW w d.Prods ws with
    | .error e => .error e
    | .ok (x, r) => .ok ((dP d x, s, y), r))
  else if w.Text = [99, 102] then (match cfW w d.Prods ws with
    | .error e => .error e
    | .ok (x, r) => .ok ((dP d x, s, y), r))
  else if w.Text = [112, 114, 105, 111] then (match prioW ws with
    | .error e => .error e
    | .ok (x, r) => .ok ((dC d (d.Chains ++ [x]), s, y), r))
  else if w.Text = [102, 111, 108, 108, 111, 119] then (match followW ws with
    | .error e => .error e
    | .ok (x, r) => .ok ((dFo d (d.Follows ++ [x]), s, y), r))
  else if w.Text = [114, 101, 106, 101, 99, 116] then (match rejectW ws with
    | .error e => .error e
    | .ok (x, r) => .ok ((dR d (d.Rejects ++ [x]), s, y), r))
  else if w.Text = [98, 111, 120] then (match boxW ws with
    | .error e => .error e
    | .ok (x, r) => .ok ((dB d (d.Boxes ++ [x.1]), s, y), r))
  else .error ⟨w.At, 30⟩
def allW : Nat → Def → Bool → Bool → List Word → Except Fault Def
  | 0, _, _, _, _ => .error ⟨0, 1⟩
  | j + 1, d, s, y, ws => match ws with
    | [] => .error ⟨0, 1⟩
    | w :: r => if w.Kind = 7 then .ok d else if w.Kind = 2 then (match stmtW w d s y r with
        | .error e => .error e
        | .ok (x, r') => allW j x.1 x.2.1 x.2.2 r') else .error ⟨w.At, 30⟩
section
variable {l : List Word} {d : Def} {s y : Bool} {n : Int} {ws : List Word}
structure Rm (d : Def) (m : Nat) : Prop where
  p : d.Prods.length ≤ 200
  c : d.Chains.length + m ≤ 1000000
  f : d.Follows.length + m ≤ 1000000
  r : d.Rejects.length + m ≤ 1000000
  b : d.Boxes.length + m ≤ 1000000
end
section
variable {l : List Word} {d : Def} {s y : Bool} {n : Int} {ws : List Word}
end
end Go.Vc
