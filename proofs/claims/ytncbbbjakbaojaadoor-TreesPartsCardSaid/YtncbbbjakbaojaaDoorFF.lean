import Derived.Test.YtncbbbjakbaojaaDoorVcP
import Derived.Lib.ItoaNum
import Derived.Lib.Bytealg
set_option linter.unusedVariables false
set_option linter.unusedSimpArgs false
namespace Go.Vc
open Go
structure Strings_Builder where
  addr : Bool
  buf : List Int
instance : Inhabited Strings_Builder := ⟨⟨default, default⟩⟩
structure Tree where
  Rule : Int
  Byte : Int
  Kids : List Tree
instance : Inhabited Tree := ⟨⟨default, default, []⟩⟩
mutual
def eTree : Tree → List Dc
  | .mk Rule Byte Kids => [.int .i64 Rule, .int .u8 Byte, .slice 3 (eTrees Kids)]
def eTrees : List Tree → List (List Dc)
  | [] => []
  | x :: r => eTree x :: eTrees r
end
theorem eTrees_map : ∀ l, eTrees l = l.map eTree
  | [] => rfl
  | x :: r => by simp only [eTrees, List.map]; rw [eTrees_map r]
theorem eTree_eq (x : Tree) : eTree x = [.int .i64 x.Rule, .int .u8 x.Byte, .slice 3 (x.Kids.map eTree)] := by cases x; simp only [eTree, eTrees_map]
structure KSym where
  Nt : Int
  Set : S4
instance : Inhabited KSym := ⟨⟨default, default⟩⟩
def eKSym (x : KSym) : List Dc := [.int .i64 x.Nt, .int .u64 x.Set.w0, .int .u64 x.Set.w1, .int .u64 x.Set.w2, .int .u64 x.Set.w3]
structure Rule where
  Lhs : Int
  Rhs : List KSym
instance : Inhabited Rule := ⟨⟨default, default⟩⟩
def eRule (x : Rule) : List Dc := [.int .i64 x.Lhs, .slice 5 (x.Rhs.map eKSym)]
structure Gram where
  Nts : Int
  Start : Int
  Rules : List Rule
instance : Inhabited Gram := ⟨⟨default, default, default⟩⟩
def eGram (x : Gram) : List Dc := [.int .i64 x.Nts, .int .i64 x.Start, .slice 2 (x.Rules.map eRule)]
structure Trees_reader where
  text : List UInt8
  at_ : Int
instance : Inhabited Trees_reader := ⟨⟨default, default⟩⟩
def eTrees_reader (x : Trees_reader) : List Dc := [.str x.text, .int .i64 x.at_]
structure Fault where
  At : Int
  Code : Int
instance : Inhabited Fault := ⟨⟨default, default⟩⟩
def eFault (x : Fault) : List Dc := [.int .i64 x.At, .int .i64 x.Code]
structure Run where
  Lo : Int
  Hi : Int
instance : Inhabited Run := ⟨⟨default, default⟩⟩
def eRun (x : Run) : List Dc := [.int .i64 x.Lo, .int .i64 x.Hi]

def F.strings.copyCheck (x : Strings_Builder) : Option Strings_Builder := some ⟨true, x.buf⟩
def F.strings.Builder_String (x : Strings_Builder) : Option (List UInt8) := if x.buf.all okB then some (toS x.buf) else none
def F.strconv.Itoa (n : Int) : Option (List UInt8) := if decide (-9223372036854775808 ≤ n) && decide (n ≤ 9223372036854775807) then some (Lib.itoa n) else none
def F.strings.IndexByte (s : List UInt8) (c : Int) : Option Int := some (Lib.indexByte s c.toNat.toUInt8)
def F.law09.spoil (_ : Tree) : Option Unit := some ()
def F.slices.Clone (s : List Tree) : Option (List Tree) := if decide (s.length * 40 ≤ 140737488355328) then some s else none

-- 37 tracery/traceryref09.Parts
def F.ref09.Parts_j2 (i : Int) (t : Tree) (g37 : Tree → Int → Option Int) (most : Int) (n : Int) (rec_1 : Int → Int → Option Int) (t16 : Bool) : Option Int :=
    if t16 then
      if inR i t.Kids.length then
        (g37 (at_ t.Kids i) (IntKind.wrap .i64 (most - n))).bind fun v =>
        rec_1 (IntKind.wrap .i64 (n + v)) (IntKind.wrap .i64 (i + 1))
      else none
    else
      some n
def F.ref09.Parts_l1 (t : Tree) (g37 : Tree → Int → Option Int) (most : Int) : Nat → Int → Int → Option Int
  | 0, _, _ => none
  | j + 1, n, i =>
      if decide (i < (t.Kids.length : Int)) then
        F.ref09.Parts_j2 i t g37 most n (F.ref09.Parts_l1 t g37 most j) (decide (n ≤ most))
      else
        F.ref09.Parts_j2 i t g37 most n (F.ref09.Parts_l1 t g37 most j) false
def F.ref09.Parts_B (k : Nat) (g37 : Tree → Int → Option Int) (t : Tree) (most : Int) : Option Int :=
  (F.ref09.Parts_l1 t g37 most k 1 0).bind fun o1 =>
  some o1
def F.ref09.Parts : Nat → Tree → Int → Option Int
  | 0 => (fun _ _ => none)
  | k + 1 => F.ref09.Parts_B k (F.ref09.Parts k)

-- 13 tracery/tracerylaw09.heavy
def F.law09.heavy (k : Nat) (t : Tree) : Option Bool :=
  (F.ref09.Parts k t 1500).bind fun v =>
  some (decide (1500 < v))

-- 14 tracery/traceryref06.Heavy
def F.ref06.Heavy_l1 (g_ : Gram) (most : Int) : Nat → Int → Int → Option (LR Unit Bool)
  | 0, _, _ => none
  | j + 1, n, i =>
      if decide (i < (g_.Rules.length : Int)) then
        if inR i g_.Rules.length then
          if decide (most < (IntKind.wrap .i64 ((IntKind.wrap .i64 (n + 1)) + (((at_ g_.Rules i).Rhs).length : Int)))) then
            some (.ret true)
          else
            (F.ref06.Heavy_l1 g_ most j) (IntKind.wrap .i64 ((IntKind.wrap .i64 (n + 1)) + (((at_ g_.Rules i).Rhs).length : Int))) (IntKind.wrap .i64 (i + 1))
        else none
      else
        some (.done ())
def F.ref06.Heavy (k : Nat) (g_ : Gram) (most : Int) : Option Bool :=
  if decide (most < g_.Nts) then
    some true
  else
    if decide (most < (g_.Rules.length : Int)) then
      some true
    else
      (F.ref06.Heavy_l1 g_ most k g_.Nts 0).bind fun o1 =>
      o1.fin fun d1 =>
      some false

-- 38 tracery/tracerylaw09.some
def F.law09.some_ : Option Tree :=
  some (Tree.mk 0 0 ([(Tree.mk (-1) 49 ([] : List Tree)), (Tree.mk (-1) 43 ([] : List Tree)), (Tree.mk 1 0 ([(Tree.mk (-1) 50 ([] : List Tree))] : List Tree))] : List Tree))

-- 44 tracery/trees.plain
def F.trees.plain_j1 (g60_61 : List Tree → Int → Option Bool) (t : Tree) (levels : Int) (t37 : Bool) : Option Bool :=
    if t37 then
      some false
    else
      (g60_61 t.Kids levels).bind fun v =>
      some (!v)
def F.trees.plain_B (k : Nat) (g60_61 : List Tree → Int → Option Bool) (t : Tree) (levels : Int) : Option Bool :=
  if (levels == 0) then
    F.trees.plain_j1 g60_61 t levels true
  else
    if (t.Rule == (-1)) then
      if decide (0 < (t.Kids.length : Int)) then
        F.trees.plain_j1 g60_61 t levels true
      else
        if (t.Rule != (-1)) then
          if (t.Byte != 0) then
            F.trees.plain_j1 g60_61 t levels true
          else
            if decide (t.Rule < 0) then
              F.trees.plain_j1 g60_61 t levels true
            else
              F.trees.plain_j1 g60_61 t levels (decide (999999 < t.Rule))
        else
          F.trees.plain_j1 g60_61 t levels false
    else
      if (t.Rule != (-1)) then
        if (t.Byte != 0) then
          F.trees.plain_j1 g60_61 t levels true
        else
          if decide (t.Rule < 0) then
            F.trees.plain_j1 g60_61 t levels true
          else
            F.trees.plain_j1 g60_61 t levels (decide (999999 < t.Rule))
      else
        F.trees.plain_j1 g60_61 t levels false
def F.slices.ContainsFunc_f60_61_B (k : Nat) (g72_61 : List Tree → Int → Option Int) (s : List Tree) (cap : Int) : Option Bool :=
  (g72_61 s cap).bind fun v =>
  some (decide (0 ≤ v))
def F.slices.IndexFunc_f72_61_l1 (s : List Tree) (g61 : Tree → Int → Option Bool) (cap : Int) : Nat → Int → Option (LR Unit Int)
  | 0, _ => none
  | j + 1, t8 =>
      if decide (t8 < (s.length : Int)) then
        if inR t8 s.length then
          (g61 (at_ s t8) cap).bind fun v =>
          if v then
            some (.ret t8)
          else
            (F.slices.IndexFunc_f72_61_l1 s g61 cap j) (IntKind.wrap .i64 (t8 + 1))
        else none
      else
        some (.done ())
def F.slices.IndexFunc_f72_61_B (k : Nat) (g61 : Tree → Int → Option Bool) (s : List Tree) (cap : Int) : Option Int :=
  (F.slices.IndexFunc_f72_61_l1 s g61 cap k 0).bind fun o1 =>
  o1.fin fun d1 =>
  some (-1)
def F.trees.plain_c1_B (k : Nat) (g44 : Tree → Int → Option Bool) (k_ : Tree) (free : Int) : Option Bool :=
  (g44 k_ (IntKind.wrap .i64 (free - 1))).bind fun v =>
  some (!v)
def F.trees.plain_G : Nat → (Tree → Int → Option Bool) × (List Tree → Int → Option Bool) × (List Tree → Int → Option Int) × (Tree → Int → Option Bool)
  | 0 => ((fun _ _ => none), (fun _ _ => none), (fun _ _ => none), (fun _ _ => none))
  | k + 1 => (F.trees.plain_B k ((F.trees.plain_G k).2.1), F.slices.ContainsFunc_f60_61_B k ((F.trees.plain_G k).2.2.1), F.slices.IndexFunc_f72_61_B k ((F.trees.plain_G k).2.2.2), F.trees.plain_c1_B k ((F.trees.plain_G k).1))
def F.trees.plain (k : Nat) : Tree → Int → Option Bool := (F.trees.plain_G k).1
def F.slices.ContainsFunc_f60_61 (k : Nat) : List Tree → Int → Option Bool := (F.trees.plain_G k).2.1
def F.slices.IndexFunc_f72_61 (k : Nat) : List Tree → Int → Option Int := (F.trees.plain_G k).2.2.1
def F.trees.plain_c1 (k : Nat) : Tree → Int → Option Bool := (F.trees.plain_G k).2.2.2

-- 62 (*strings.Builder).WriteByte
def F.strings.Builder_WriteByte (b : Strings_Builder) (c : Int) : Option Strings_Builder :=
  (F.strings.copyCheck b).bind fun v =>
  if decide ((v.buf.length + ([c] : List Int).length) * 1 ≤ 140737488355328) then
    if decide (v.buf.length + ([c] : List Int).length ≤ 9223372036854775807) then
      some (Strings_Builder.mk v.addr (v.buf ++ ([c] : List Int)))
    else none
  else none

-- 63 (*strings.Builder).WriteString
def F.strings.Builder_WriteString (b : Strings_Builder) (s : List UInt8) : Option (Int × Strings_Builder) :=
  (F.strings.copyCheck b).bind fun v =>
  if decide ((v.buf.length + s.length) * 1 ≤ 140737488355328) then
    if decide (v.buf.length + s.length ≤ 9223372036854775807) then
      some ((s.length : Int), (Strings_Builder.mk v.addr (v.buf ++ ofS s)))
    else none
  else none

-- 46 (*strings.Builder).Len
def F.strings.Builder_Len (b : Strings_Builder) : Option Int :=
  some (b.buf.length : Int)

-- 45 tracery/trees.write
def F.trees.write_j2 (rec_1 : Int → Bool → List Int → Option (Bool × (List Int))) (t33 : Int) (addr_1 : Bool) (buf_1 : List Int) : Option (Bool × (List Int)) :=
    rec_1 (IntKind.wrap .i64 (t33 + 1)) addr_1 buf_1
def F.trees.write_j4 (rec_1 : Int → Bool → List Int → Option (Bool × (List Int))) (t33 : Int) (addr_3 : Bool) (buf_3 : List Int) : Option (Bool × (List Int)) :=
    F.trees.write_j2 rec_1 t33 addr_3 buf_3
def F.trees.write_j3 (g45 : Strings_Builder → Tree → Option Strings_Builder) (t : Tree) (t33 : Int) (rec_1 : Int → Bool → List Int → Option (Bool × (List Int))) (addr_2 : Bool) (buf_2 : List Int) : Option (Bool × (List Int)) :=
    (F.strings.Builder_Len (Strings_Builder.mk addr_2 buf_2)).bind fun v6 =>
    if decide (v6 ≤ 65536) then
      (g45 (Strings_Builder.mk addr_2 buf_2) (at_ t.Kids t33)).bind fun v7 =>
      F.trees.write_j4 rec_1 t33 v7.addr v7.buf
    else
      F.trees.write_j4 rec_1 t33 addr_2 buf_2
def F.trees.write_l1 (t : Tree) (g45 : Strings_Builder → Tree → Option Strings_Builder) : Nat → Int → Bool → List Int → Option (Bool × (List Int))
  | 0, _, _, _ => none
  | j + 1, t33, addr_, buf_ =>
      if decide (t33 < (t.Kids.length : Int)) then
        if inR t33 t.Kids.length then
          if decide (0 < t33) then
            (F.strings.Builder_WriteByte (Strings_Builder.mk addr_ buf_) 32).bind fun v8 =>
            F.trees.write_j3 g45 t t33 (F.trees.write_l1 t g45 j) v8.addr v8.buf
          else
            F.trees.write_j3 g45 t t33 (F.trees.write_l1 t g45 j) addr_ buf_
        else none
      else
        some (addr_, buf_)
def F.trees.write_B (k : Nat) (g45 : Strings_Builder → Tree → Option Strings_Builder) (out : Strings_Builder) (t : Tree) : Option Strings_Builder :=
  if (t.Rule == (-1)) then
    (F.strings.Builder_WriteByte out 120).bind fun v =>
    if inR (gquo .u8 t.Byte 16) ([48, 49, 50, 51, 52, 53, 54, 55, 56, 57, 97, 98, 99, 100, 101, 102] : List UInt8).length then
      (F.strings.Builder_WriteByte v (sAt ([48, 49, 50, 51, 52, 53, 54, 55, 56, 57, 97, 98, 99, 100, 101, 102] : List UInt8) (gquo .u8 t.Byte 16))).bind fun v1 =>
      if inR (grem t.Byte 16) ([48, 49, 50, 51, 52, 53, 54, 55, 56, 57, 97, 98, 99, 100, 101, 102] : List UInt8).length then
        (F.strings.Builder_WriteByte v1 (sAt ([48, 49, 50, 51, 52, 53, 54, 55, 56, 57, 97, 98, 99, 100, 101, 102] : List UInt8) (grem t.Byte 16))).bind fun v2 =>
        some v2
      else none
    else none
  else
    (F.strconv.Itoa t.Rule).bind fun v3 =>
    (F.strings.Builder_WriteString out v3).bind fun v4 =>
    (F.strings.Builder_WriteByte v4.2 40).bind fun v5 =>
    (F.trees.write_l1 t g45 k 0 v5.addr v5.buf).bind fun o1 =>
    (F.strings.Builder_WriteByte (Strings_Builder.mk o1.1 o1.2) 41).bind fun v9 =>
    some v9
def F.trees.write : Nat → Strings_Builder → Tree → Option Strings_Builder
  | 0 => (fun _ _ => none)
  | k + 1 => F.trees.write_B k (F.trees.write k)

-- 20 tracery/trees.Print
def F.trees.Print (k : Nat) (t : Tree) : Option (List UInt8 × Int) :=
  (F.trees.plain k t 200).bind fun v =>
  if !v then
    some (([] : List UInt8), 90)
  else
    (F.trees.write k (Strings_Builder.mk false ([] : List Int)) t).bind fun v1 =>
    (F.strings.Builder_Len v1).bind fun v2 =>
    if decide (65536 < v2) then
      some (([] : List UInt8), 2)
    else
      (F.strings.Builder_String v1).bind fun v3 =>
      some (v3, 0)

-- 52 (*tracery/trees.reader).fail
def F.trees.reader_fail (r_ : Trees_reader) (e_ : Int) : Option (Pn Unit Fault) :=
  some (.pan (Fault.mk r_.at_ e_))

-- 66 (*tracery/trees.reader).peek
def F.trees.reader_peek_j1 (r_ : Trees_reader) : Option (Pn Int Fault) :=
    if inR r_.at_ r_.text.length then
      some (.ok (sAt r_.text r_.at_))
    else none
def F.trees.reader_peek (r_ : Trees_reader) : Option (Pn Int Fault) :=
  if decide ((r_.text.length : Int) ≤ r_.at_) then
    (F.trees.reader_fail r_ 14).bind fun v =>
    v.go (fun x_ =>
      F.trees.reader_peek_j1 r_)
    (fun y_ =>
      some (.pan y_))
  else
    F.trees.reader_peek_j1 r_

-- 67 (*tracery/trees.reader).digit
def F.trees.reader_digit_j1 (v1 : Int) (r_ : Trees_reader) : Option (Pn (Int × Trees_reader) Fault) :=
    some (.ok (v1, (Trees_reader.mk r_.text (IntKind.wrap .i64 (r_.at_ + 1)))))
def F.trees.reader_digit (r_ : Trees_reader) : Option (Pn (Int × Trees_reader) Fault) :=
  (F.trees.reader_peek r_).bind fun v =>
  v.go (fun x_ =>
    (F.strings.IndexByte ([48, 49, 50, 51, 52, 53, 54, 55, 56, 57, 97, 98, 99, 100, 101, 102] : List UInt8) x_).bind fun v1 =>
    if decide (v1 < 0) then
      (F.trees.reader_fail r_ 11).bind fun v2 =>
      v2.go (fun x_1 =>
        F.trees.reader_digit_j1 v1 r_)
      (fun y_1 =>
        some (.pan y_1))
    else
      F.trees.reader_digit_j1 v1 r_)
  (fun y_ =>
    some (.pan y_))

-- 68 (*tracery/trees.reader).number
def F.trees.reader_number_j4 (rec_1 : Int → Int → Int → Option (LR Unit (Pn (Int × Trees_reader) Fault))) (at__ : Int) (c1 : Int) (n1 : Int) : Option (LR Unit (Pn (Int × Trees_reader) Fault)) :=
    rec_1 c1 n1 (IntKind.wrap .i64 (at__ + 1))
def F.trees.reader_number_j6 (rec_1 : Int → Int → Int → Option (LR Unit (Pn (Int × Trees_reader) Fault))) (at__ : Int) (x_1 : Int) (n : Int) : Option (LR Unit (Pn (Int × Trees_reader) Fault)) :=
    F.trees.reader_number_j4 rec_1 at__ x_1 (IntKind.wrap .i64 ((IntKind.wrap .i64 (10 * n)) + (IntKind.wrap .i64 (IntKind.wrap .u8 (x_1 - 48)))))
def F.trees.reader_number_j5 (r_ : Trees_reader) (at__ : Int) (rec_1 : Int → Int → Int → Option (LR Unit (Pn (Int × Trees_reader) Fault))) (x_1 : Int) (n : Int) (t54 : Bool) : Option (LR Unit (Pn (Int × Trees_reader) Fault)) :=
    if t54 then
      (F.trees.reader_fail (Trees_reader.mk r_.text at__) 11).bind fun v2 =>
      v2.go (fun x_2 =>
        F.trees.reader_number_j6 rec_1 at__ x_1 n)
      (fun y_2 =>
        some (.ret (.pan y_2)))
    else
      F.trees.reader_number_j6 rec_1 at__ x_1 n
def F.trees.reader_number_l3 (r_ : Trees_reader) : Nat → Int → Int → Int → Option (LR Unit (Pn (Int × Trees_reader) Fault))
  | 0, _, _, _ => none
  | j + 1, c, n, at__ =>
      (F.trees.reader_peek (Trees_reader.mk r_.text at__)).bind fun v1 =>
      v1.go (fun x_1 =>
        if decide (x_1 < 48) then
          some (.ret (.ok (n, (Trees_reader.mk r_.text at__))))
        else
          if decide (57 < x_1) then
            some (.ret (.ok (n, (Trees_reader.mk r_.text at__))))
          else
            if ((IntKind.wrap .i64 (at__ - r_.at_)) == 6) then
              F.trees.reader_number_j5 r_ at__ (F.trees.reader_number_l3 r_ j) x_1 n true
            else
              if decide (r_.at_ < at__) then
                F.trees.reader_number_j5 r_ at__ (F.trees.reader_number_l3 r_ j) x_1 n (n == 0)
              else
                F.trees.reader_number_j5 r_ at__ (F.trees.reader_number_l3 r_ j) x_1 n false)
      (fun y_1 =>
        some (.ret (.pan y_1)))
def F.trees.reader_number_j2 (k : Nat) (r_ : Trees_reader) (x_ : Int) : Option (Pn (Int × Trees_reader) Fault) :=
    (F.trees.reader_number_l3 r_ k x_ 0 r_.at_).bind fun o3 =>
    o3.fin fun d3 =>
    none
def F.trees.reader_number_j1 (k : Nat) (r_ : Trees_reader) (x_ : Int) (t13 : Bool) : Option (Pn (Int × Trees_reader) Fault) :=
    if t13 then
      (F.trees.reader_fail r_ 11).bind fun v3 =>
      v3.go (fun x_3 =>
        F.trees.reader_number_j2 k r_ x_)
      (fun y_3 =>
        some (.pan y_3))
    else
      F.trees.reader_number_j2 k r_ x_
def F.trees.reader_number (k : Nat) (r_ : Trees_reader) : Option (Pn (Int × Trees_reader) Fault) :=
  (F.trees.reader_peek r_).bind fun v =>
  v.go (fun x_ =>
    if decide (x_ < 48) then
      F.trees.reader_number_j1 k r_ x_ true
    else
      F.trees.reader_number_j1 k r_ x_ (decide (57 < x_)))
  (fun y_ =>
    some (.pan y_))

-- 69 (*tracery/trees.reader).want
def F.trees.reader_want_j1 (r_ : Trees_reader) : Option (Pn Trees_reader Fault) :=
    some (.ok (Trees_reader.mk r_.text (IntKind.wrap .i64 (r_.at_ + 1))))
def F.trees.reader_want (r_ : Trees_reader) (c : Int) : Option (Pn Trees_reader Fault) :=
  (F.trees.reader_peek r_).bind fun v =>
  v.go (fun x_ =>
    if (x_ != c) then
      (F.trees.reader_fail r_ 11).bind fun v1 =>
      v1.go (fun x_1 =>
        F.trees.reader_want_j1 r_)
      (fun y_1 =>
        some (.pan y_1))
    else
      F.trees.reader_want_j1 r_)
  (fun y_ =>
    some (.pan y_))

-- 51 (*tracery/trees.reader).tree
def F.trees.reader_tree_j4 (rec_1 : List UInt8 → Int → List Tree → Option (LR ((List UInt8) × Int × (List Tree)) (Pn (Tree × Trees_reader) Fault))) (text_1 : List UInt8) (at__1 : Int) (Kids_1 : List Tree) : Option (LR ((List UInt8) × Int × (List Tree)) (Pn (Tree × Trees_reader) Fault)) :=
    rec_1 text_1 at__1 Kids_1
def F.trees.reader_tree_j6 (rec_1 : List UInt8 → Int → List Tree → Option (LR ((List UInt8) × Int × (List Tree)) (Pn (Tree × Trees_reader) Fault))) (text_3 : List UInt8) (at__3 : Int) (Kids_2 : List Tree) : Option (LR ((List UInt8) × Int × (List Tree)) (Pn (Tree × Trees_reader) Fault)) :=
    F.trees.reader_tree_j4 rec_1 text_3 at__3 Kids_2
def F.trees.reader_tree_j5 (g51 : Trees_reader → Int → Option (Pn (Tree × Trees_reader) Fault)) (levels : Int) (Kids_ : List Tree) (rec_1 : List UInt8 → Int → List Tree → Option (LR ((List UInt8) × Int × (List Tree)) (Pn (Tree × Trees_reader) Fault))) (text_2 : List UInt8) (at__2 : Int) : Option (LR ((List UInt8) × Int × (List Tree)) (Pn (Tree × Trees_reader) Fault)) :=
    (g51 (Trees_reader.mk text_2 at__2) (IntKind.wrap .i64 (levels - 1))).bind fun v6 =>
    v6.go (fun x_6 =>
      if decide ((Kids_.length + ([x_6.1] : List Tree).length) * 40 ≤ 140737488355328) then
        if decide (Kids_.length + ([x_6.1] : List Tree).length ≤ 9223372036854775807) then
          F.trees.reader_tree_j6 rec_1 x_6.2.text x_6.2.at_ (Kids_ ++ ([x_6.1] : List Tree))
        else none
      else none)
    (fun y_6 =>
      some (.ret (.pan y_6)))
def F.trees.reader_tree_l3 (g51 : Trees_reader → Int → Option (Pn (Tree × Trees_reader) Fault)) (levels : Int) : Nat → List UInt8 → Int → List Tree → Option (LR ((List UInt8) × Int × (List Tree)) (Pn (Tree × Trees_reader) Fault))
  | 0, _, _, _ => none
  | j + 1, text_, at__, Kids_ =>
      (F.trees.reader_peek (Trees_reader.mk text_ at__)).bind fun v5 =>
      v5.go (fun x_5 =>
        if (x_5 != 41) then
          if decide (0 < (Kids_.length : Int)) then
            (F.trees.reader_want (Trees_reader.mk text_ at__) 32).bind fun v7 =>
            v7.go (fun x_7 =>
              F.trees.reader_tree_j5 g51 levels Kids_ (F.trees.reader_tree_l3 g51 levels j) x_7.text x_7.at_)
            (fun y_7 =>
              some (.ret (.pan y_7)))
          else
            F.trees.reader_tree_j5 g51 levels Kids_ (F.trees.reader_tree_l3 g51 levels j) text_ at__
        else
          some (.done (text_, at__, Kids_)))
      (fun y_5 =>
        some (.ret (.pan y_5)))
def F.trees.reader_tree_j2 (k : Nat) (x_ : Int) (r_ : Trees_reader) (g51 : Trees_reader → Int → Option (Pn (Tree × Trees_reader) Fault)) (levels : Int) : Option (Pn (Tree × Trees_reader) Fault) :=
    if (x_ == 120) then
      (F.trees.reader_digit (Trees_reader.mk r_.text (IntKind.wrap .i64 (r_.at_ + 1)))).bind fun v1 =>
      v1.go (fun x_1 =>
        (F.trees.reader_digit x_1.2).bind fun v2 =>
        v2.go (fun x_2 =>
          some (.ok ((Tree.mk (-1) (IntKind.wrap .u8 (IntKind.wrap .i64 ((IntKind.wrap .i64 (16 * x_1.1)) + x_2.1))) ([] : List Tree)), x_2.2)))
        (fun y_2 =>
          some (.pan y_2)))
      (fun y_1 =>
        some (.pan y_1))
    else
      (F.trees.reader_number k r_).bind fun v3 =>
      v3.go (fun x_3 =>
        (F.trees.reader_want x_3.2 40).bind fun v4 =>
        v4.go (fun x_4 =>
          (F.trees.reader_tree_l3 g51 levels k x_4.text x_4.at_ ([] : List Tree)).bind fun o3 =>
          o3.fin fun d3 =>
          some (.ok ((Tree.mk x_3.1 0 d3.2.2), (Trees_reader.mk d3.1 (IntKind.wrap .i64 (d3.2.1 + 1))))))
        (fun y_4 =>
          some (.pan y_4)))
      (fun y_3 =>
        some (.pan y_3))
def F.trees.reader_tree_j1 (k : Nat) (r_ : Trees_reader) (x_ : Int) (g51 : Trees_reader → Int → Option (Pn (Tree × Trees_reader) Fault)) (levels : Int) (t23 : Bool) : Option (Pn (Tree × Trees_reader) Fault) :=
    if t23 then
      (F.trees.reader_fail r_ 2).bind fun v8 =>
      v8.go (fun x_8 =>
        F.trees.reader_tree_j2 k x_ r_ g51 levels)
      (fun y_8 =>
        some (.pan y_8))
    else
      F.trees.reader_tree_j2 k x_ r_ g51 levels
def F.trees.reader_tree_B (k : Nat) (g51 : Trees_reader → Int → Option (Pn (Tree × Trees_reader) Fault)) (r_ : Trees_reader) (levels : Int) : Option (Pn (Tree × Trees_reader) Fault) :=
  (F.trees.reader_peek r_).bind fun v =>
  v.go (fun x_ =>
    if (levels == 0) then
      if (x_ == 120) then
        F.trees.reader_tree_j1 k r_ x_ g51 levels true
      else
        if decide (48 ≤ x_) then
          F.trees.reader_tree_j1 k r_ x_ g51 levels (decide (x_ ≤ 57))
        else
          F.trees.reader_tree_j1 k r_ x_ g51 levels false
    else
      F.trees.reader_tree_j1 k r_ x_ g51 levels false)
  (fun y_ =>
    some (.pan y_))
def F.trees.reader_tree : Nat → Trees_reader → Int → Option (Pn (Tree × Trees_reader) Fault)
  | 0 => (fun _ _ => none)
  | k + 1 => F.trees.reader_tree_B k (F.trees.reader_tree k)

-- ('dfr', 50, True) tracery/trees.Parse$1
def F.trees.Parse_c1_pan (p0 : Tree) (p1 : Fault) (y : Fault) : Option (Tree × Fault) :=
  some ((Tree.mk 0 0 ([] : List Tree)), y)

-- ('dfr', 50, False) tracery/trees.Parse$1
def F.trees.Parse_c1_ret (p0 : Tree) (p1 : Fault) : Option (Tree × Fault) :=
  some (p0, p1)

-- 22 tracery/trees.Parse
def F.trees.Parse_j1 (x_ : Tree × Trees_reader) : Option (Tree × Fault) :=
    (F.trees.Parse_c1_ret x_.1 (Fault.mk 0 0)).bind fun v1 =>
    some (v1.1, v1.2)
def F.trees.Parse (k : Nat) (text_ : List UInt8) : Option (Tree × Fault) :=
  if decide (65536 < (text_.length : Int)) then
    some ((Tree.mk 0 0 ([] : List Tree)), (Fault.mk 0 2))
  else
    (F.trees.reader_tree k (Trees_reader.mk text_ 0) 200).bind fun v =>
    v.go (fun x_ =>
      if decide (x_.2.at_ < (text_.length : Int)) then
        (F.trees.reader_fail x_.2 15).bind fun v2 =>
        v2.go (fun x_1 =>
          F.trees.Parse_j1 x_)
        (fun y_1 =>
          (F.trees.Parse_c1_pan x_.1 (Fault.mk 0 0) y_1).bind fun v3 =>
          some (v3.1, v3.2))
      else
        F.trees.Parse_j1 x_)
    (fun y_ =>
      (F.trees.Parse_c1_pan (Tree.mk 0 0 ([] : List Tree)) (Fault.mk 0 0) y_).bind fun v4 =>
      some (v4.1, v4.2))

-- 30 tracery/trees.Size
def F.trees.Size_l1 (t : Tree) (g30 : Tree → Option (Int × Int)) : Nat → Int → Int → Int → Option (Int × Int)
  | 0, _, _, _ => none
  | j + 1, n, deep, t13 =>
      if decide (t13 < (t.Kids.length : Int)) then
        if inR t13 t.Kids.length then
          (g30 (at_ t.Kids t13)).bind fun v =>
          (F.trees.Size_l1 t g30 j) (IntKind.wrap .i64 (n + v.1)) (gmax deep v.2) (IntKind.wrap .i64 (t13 + 1))
        else none
      else
        some (n, deep)
def F.trees.Size_B (k : Nat) (g30 : Tree → Option (Int × Int)) (t : Tree) : Option (Int × Int) :=
  (F.trees.Size_l1 t g30 k 1 0 0).bind fun o1 =>
  some (o1.1, IntKind.wrap .i64 (o1.2 + 1))
def F.trees.Size : Nat → Tree → Option (Int × Int)
  | 0 => (fun _ => none)
  | k + 1 => F.trees.Size_B k (F.trees.Size k)

-- 54 tracery/trees.copied
def F.trees.copied_l1 (v : List Tree) (g54 : Tree → Option Tree) : Nat → Int → List Tree → Option (List Tree)
  | 0, _, _ => none
  | j + 1, t11, Kids_ =>
      if decide (t11 < (v.length : Int)) then
        if inR t11 Kids_.length then
          (g54 (at_ Kids_ t11)).bind fun v1 =>
          (F.trees.copied_l1 v g54 j) (IntKind.wrap .i64 (t11 + 1)) (set_ Kids_ t11 v1)
        else none
      else
        some Kids_
def F.trees.copied_B (k : Nat) (g54 : Tree → Option Tree) (t : Tree) : Option Tree :=
  (F.slices.Clone t.Kids).bind fun v =>
  (F.trees.copied_l1 v g54 k 0 v).bind fun o1 =>
  some (Tree.mk t.Rule t.Byte o1)
def F.trees.copied : Nat → Tree → Option Tree
  | 0 => (fun _ => none)
  | k + 1 => F.trees.copied_B k (F.trees.copied k)

-- 24 tracery/trees.At
def F.trees.At_j2 (path : List Int) (t10 : Int) (Kids_ : List Tree) (rec_1 : Int → Int → Int → List Tree → Option (LR (Int × Int × (List Tree)) (Tree × Int))) (t22 : Bool) : Option (LR (Int × Int × (List Tree)) (Tree × Int)) :=
    if t22 then
      some (.ret ((Tree.mk 0 0 ([] : List Tree)), 4))
    else
      if inR (at_ path t10) Kids_.length then
        rec_1 (IntKind.wrap .i64 (t10 + 1)) ((at_ Kids_ (at_ path t10)).Rule) ((at_ Kids_ (at_ path t10)).Byte) ((at_ Kids_ (at_ path t10)).Kids)
      else none
def F.trees.At_l1 (path : List Int) : Nat → Int → Int → Int → List Tree → Option (LR (Int × Int × (List Tree)) (Tree × Int))
  | 0, _, _, _, _ => none
  | j + 1, t10, Rule_, Byte_, Kids_ =>
      if decide (t10 < (path.length : Int)) then
        if inR t10 path.length then
          if decide ((at_ path t10) < 0) then
            F.trees.At_j2 path t10 Kids_ (F.trees.At_l1 path j) true
          else
            F.trees.At_j2 path t10 Kids_ (F.trees.At_l1 path j) (decide ((Kids_.length : Int) ≤ (at_ path t10)))
        else none
      else
        some (.done (Rule_, Byte_, Kids_))
def F.trees.At (k : Nat) (t : Tree) (path : List Int) : Option (Tree × Int) :=
  (F.trees.At_l1 path k 0 t.Rule t.Byte t.Kids).bind fun o1 =>
  o1.fin fun d1 =>
  (F.trees.copied k (Tree.mk d1.1 d1.2.1 d1.2.2)).bind fun v =>
  some (v, 0)
def putT : Tree → List Int → Tree → Option Tree
  | _, [], s => some s
  | .mk r b ks, i :: p, s => if inR i ks.length then (putT (at_ ks i) p s).map fun x => .mk r b (set_ ks i x) else none
def F.trees.Put (k : Nat) (t : Tree) (path : List Int) (s : Tree) : Option (Tree × Int) :=
  if decide (path.length < 4611686018427387904) then
    (F.trees.At k t path).bind fun v =>
    if (v.2 != 0) then
      some (Tree.mk 0 0 [], v.2)
    else
      (F.trees.copied k t).bind fun t1 =>
      (F.trees.copied k s).bind fun s1 =>
      (putT t1 path s1).bind fun x =>
      some (x, 0)
  else none

-- 33 tracery/trees.Yield
def F.trees.Yield_l1 (t : Tree) (g33 : Tree → Option (List Int)) : Nat → List Int → Int → Option (List Int)
  | 0, _, _ => none
  | j + 1, out, t15 =>
      if decide (t15 < (t.Kids.length : Int)) then
        if inR t15 t.Kids.length then
          (g33 (at_ t.Kids t15)).bind fun v =>
          if decide ((out.length + v.length) * 1 ≤ 140737488355328) then
            if decide (out.length + v.length ≤ 9223372036854775807) then
              (F.trees.Yield_l1 t g33 j) (out ++ v) (IntKind.wrap .i64 (t15 + 1))
            else none
          else none
        else none
      else
        some out
def F.trees.Yield_B (k : Nat) (g33 : Tree → Option (List Int)) (t : Tree) : Option (List Int) :=
  if (t.Rule == (-1)) then
    some ([t.Byte] : List Int)
  else
    (F.trees.Yield_l1 t g33 k ([] : List Int) 0).bind fun o1 =>
    some o1
def F.trees.Yield : Nat → Tree → Option (List Int)
  | 0 => (fun _ => none)
  | k + 1 => F.trees.Yield_B k (F.trees.Yield k)

-- 39 tracery/facts.Right
def F.facts.Right_j4 (rec_2 : Int → Option (LR Int Int)) (t59 : Int) (t83 : Bool) : Option (LR Int Int) :=
    if t83 then
      some (.ret 3)
    else
      rec_2 (IntKind.wrap .i64 (t59 + 1))
def F.facts.Right_l3 (g_ : Gram) (t36 : Int) : Nat → Int → Option (LR Int Int)
  | 0, _ => none
  | j + 1, t59 =>
      if decide (t59 < (((at_ g_.Rules t36).Rhs).length : Int)) then
        if inR t59 ((at_ g_.Rules t36).Rhs).length then
          if decide (((at_ ((at_ g_.Rules t36).Rhs) t59).Nt) < (-1)) then
            F.facts.Right_j4 (F.facts.Right_l3 g_ t36 j) t59 true
          else
            if decide (g_.Nts ≤ ((at_ ((at_ g_.Rules t36).Rhs) t59).Nt)) then
              F.facts.Right_j4 (F.facts.Right_l3 g_ t36 j) t59 true
            else
              if decide (0 ≤ ((at_ ((at_ g_.Rules t36).Rhs) t59).Nt)) then
                F.facts.Right_j4 (F.facts.Right_l3 g_ t36 j) t59 (!(S4.eq (S4.mk ((at_ ((at_ g_.Rules t36).Rhs) t59).Set.w0) ((at_ ((at_ g_.Rules t36).Rhs) t59).Set.w1) ((at_ ((at_ g_.Rules t36).Rhs) t59).Set.w2) ((at_ ((at_ g_.Rules t36).Rhs) t59).Set.w3)) (S4.mk 0 0 0 0)))
              else
                F.facts.Right_j4 (F.facts.Right_l3 g_ t36 j) t59 false
        else none
      else
        some (.done t59)
def F.facts.Right_l2 (k : Nat) (g_ : Gram) : Nat → Int → Option (LR Unit Int)
  | 0, _ => none
  | j + 1, t36 =>
      if decide (t36 < (g_.Rules.length : Int)) then
        if inR t36 g_.Rules.length then
          if decide (((at_ g_.Rules t36).Lhs) < 0) then
            some (.ret 3)
          else
            if decide (g_.Nts ≤ ((at_ g_.Rules t36).Lhs)) then
              some (.ret 3)
            else
              if decide (80 < (((at_ g_.Rules t36).Rhs).length : Int)) then
                some (.ret 3)
              else
                (F.facts.Right_l3 g_ t36 k 0).bind fun o3 =>
                o3.go fun d3 =>
                (F.facts.Right_l2 k g_ j) (IntKind.wrap .i64 (t36 + 1))
        else none
      else
        some (.done ())
def F.facts.Right_j1 (k : Nat) (g_ : Gram) (t32 : Bool) : Option Int :=
    if t32 then
      some 3
    else
      (F.facts.Right_l2 k g_ k 0).bind fun o2 =>
      o2.fin fun d2 =>
      some 0
def F.facts.Right (k : Nat) (g_ : Gram) : Option Int :=
  if decide (g_.Nts < 1) then
    F.facts.Right_j1 k g_ true
  else
    if decide (4096 < g_.Nts) then
      F.facts.Right_j1 k g_ true
    else
      if decide (g_.Start < 0) then
        F.facts.Right_j1 k g_ true
      else
        if decide (g_.Nts ≤ g_.Start) then
          F.facts.Right_j1 k g_ true
        else
          F.facts.Right_j1 k g_ (decide (8192 < (g_.Rules.length : Int)))

-- 58 tracery/charset.Has
def F.charset.Has (s : S4) (b : Int) : Option Bool :=
  if inR (gquo .u8 b 64) 4 then
    if decide ((grem b 64) < 0) then none else
    some ((gand .u64 (gshr .u64 (S4.get s (gquo .u8 b 64)) (grem b 64)) 1) == 1)
  else none

-- 40 tracery/trees.fits
def F.trees.fits_j2 (rec_1 : Int → Option (LR Unit Bool)) (t49 : Int) : Option (LR Unit Bool) :=
    rec_1 (IntKind.wrap .i64 (t49 + 1))
def F.trees.fits_j3 (rec_1 : Int → Option (LR Unit Bool)) (t49 : Int) : Option (LR Unit Bool) :=
    F.trees.fits_j2 rec_1 t49
def F.trees.fits_l1 (g_ : Gram) (t : Tree) (g40 : Gram → Int → Tree → Option Bool) : Nat → Int → Option (LR Unit Bool)
  | 0, _ => none
  | j + 1, t49 =>
      if decide (t49 < (((at_ g_.Rules t.Rule).Rhs).length : Int)) then
        if inR t49 ((at_ g_.Rules t.Rule).Rhs).length then
          if inR t49 t.Kids.length then
            if decide (0 ≤ ((at_ ((at_ g_.Rules t.Rule).Rhs) t49).Nt)) then
              (g40 g_ ((at_ ((at_ g_.Rules t.Rule).Rhs) t49).Nt) (at_ t.Kids t49)).bind fun v =>
              if !v then
                some (.ret false)
              else
                F.trees.fits_j3 (F.trees.fits_l1 g_ t g40 j) t49
            else
              if (((at_ t.Kids t49).Rule) != (-1)) then
                some (.ret false)
              else
                if decide (0 < (((at_ t.Kids t49).Kids).length : Int)) then
                  some (.ret false)
                else
                  (F.charset.Has (S4.mk ((at_ ((at_ g_.Rules t.Rule).Rhs) t49).Set.w0) ((at_ ((at_ g_.Rules t.Rule).Rhs) t49).Set.w1) ((at_ ((at_ g_.Rules t.Rule).Rhs) t49).Set.w2) ((at_ ((at_ g_.Rules t.Rule).Rhs) t49).Set.w3)) ((at_ t.Kids t49).Byte)).bind fun v1 =>
                  if !v1 then
                    some (.ret false)
                  else
                    F.trees.fits_j3 (F.trees.fits_l1 g_ t g40 j) t49
          else none
        else none
      else
        some (.done ())
def F.trees.fits_B (k : Nat) (g40 : Gram → Int → Tree → Option Bool) (g_ : Gram) (nt : Int) (t : Tree) : Option Bool :=
  if decide (t.Rule < 0) then
    some false
  else
    if decide ((g_.Rules.length : Int) ≤ t.Rule) then
      some false
    else
      if (t.Byte != 0) then
        some false
      else
        if inR t.Rule g_.Rules.length then
          if (((at_ g_.Rules t.Rule).Lhs) != nt) then
            some false
          else
            if ((((at_ g_.Rules t.Rule).Rhs).length : Int) != (t.Kids.length : Int)) then
              some false
            else
              (F.trees.fits_l1 g_ t g40 k 0).bind fun o1 =>
              o1.fin fun d1 =>
              some true
        else none
def F.trees.fits : Nat → Gram → Int → Tree → Option Bool
  | 0 => (fun _ _ _ => none)
  | k + 1 => F.trees.fits_B k (F.trees.fits k)

-- 17 tracery/trees.Right
def F.trees.Right (k : Nat) (g_ : Gram) (nt : Int) (t : Tree) : Option Int :=
  (F.facts.Right k g_).bind fun v =>
  if (v != 0) then
    some v
  else
    if decide (nt < 0) then
      some 1
    else
      if decide (g_.Nts ≤ nt) then
        some 1
      else
        (F.trees.fits k g_ nt t).bind fun v1 =>
        if !v1 then
          some 90
        else
          some 0

-- 15 tracery/tracerylaw09.alive
def F.law09.alive_j1 (t0 : Bool) : Option Bool :=
    some t0
def F.law09.alive (k : Nat) : Option Bool :=
  (F.law09.some_).bind fun v =>
  (F.trees.Print k v).bind fun v1 =>
  (F.trees.Parse k ([51, 40, 41] : List UInt8)).bind fun v2 =>
  (F.trees.Size k v).bind fun v3 =>
  (F.trees.At k v ([2, 0] : List Int)).bind fun v4 =>
  if (v1.2 == 0) then
    if (v1.1 == ([48, 40, 120, 51, 49, 32, 120, 50, 98, 32, 49, 40, 120, 51, 50, 41, 41] : List UInt8)) then
      if ((v2.2.At == 0) && ((v2.2.Code == 0) && true)) then
        if (v2.1.Rule == 3) then
          if (v3.1 == 5) then
            if (v3.2 == 3) then
              if (v4.2 == 0) then
                if (v4.1.Byte == 50) then
                  (F.trees.Yield k v).bind fun v5 =>
                  if ((toS v5) == ([49, 43, 50] : List UInt8)) then
                    (F.trees.Right k (Gram.mk 0 0 ([] : List Rule)) 0 v).bind fun v6 =>
                    F.law09.alive_j1 (v6 == 3)
                  else
                    F.law09.alive_j1 false
                else
                  F.law09.alive_j1 false
              else
                F.law09.alive_j1 false
            else
              F.law09.alive_j1 false
          else
            F.law09.alive_j1 false
        else
          F.law09.alive_j1 false
      else
        F.law09.alive_j1 false
    else
      F.law09.alive_j1 false
  else
    F.law09.alive_j1 false

-- 16 tracery/traceryref09.Copy
def F.ref09.Copy_l1 (t : Tree) (g16 : Tree → Option Tree) : Nat → Int → List Tree → Option (List Tree)
  | 0, _, _ => none
  | j + 1, i, Kids_ =>
      if decide (i < (t.Kids.length : Int)) then
        if inR i t.Kids.length then
          (g16 (at_ t.Kids i)).bind fun v =>
          if decide ((Kids_.length + ([v] : List Tree).length) * 40 ≤ 140737488355328) then
            if decide (Kids_.length + ([v] : List Tree).length ≤ 9223372036854775807) then
              (F.ref09.Copy_l1 t g16 j) (IntKind.wrap .i64 (i + 1)) (Kids_ ++ ([v] : List Tree))
            else none
          else none
        else none
      else
        some Kids_
def F.ref09.Copy_B (k : Nat) (g16 : Tree → Option Tree) (t : Tree) : Option Tree :=
  (F.ref09.Copy_l1 t g16 k 0 ([] : List Tree)).bind fun o1 =>
  some (Tree.mk t.Rule t.Byte o1)
def F.ref09.Copy : Nat → Tree → Option Tree
  | 0 => (fun _ => none)
  | k + 1 => F.ref09.Copy_B k (F.ref09.Copy k)

-- 41 tracery/traceryref06.Right
def F.ref06.Right_j4 (rec_2 : Int → Option (LR Int Int)) (k_ : Int) (t93 : Bool) : Option (LR Int Int) :=
    if t93 then
      some (.ret 3)
    else
      rec_2 (IntKind.wrap .i64 (k_ + 1))
def F.ref06.Right_l3 (g_ : Gram) (i : Int) : Nat → Int → Option (LR Int Int)
  | 0, _ => none
  | j + 1, k_ =>
      if decide (k_ < (((at_ g_.Rules i).Rhs).length : Int)) then
        if inR k_ ((at_ g_.Rules i).Rhs).length then
          if (((at_ ((at_ g_.Rules i).Rhs) k_).Nt) != (-1)) then
            if decide (((at_ ((at_ g_.Rules i).Rhs) k_).Nt) < 0) then
              F.ref06.Right_j4 (F.ref06.Right_l3 g_ i j) k_ true
            else
              if decide (g_.Nts ≤ ((at_ ((at_ g_.Rules i).Rhs) k_).Nt)) then
                F.ref06.Right_j4 (F.ref06.Right_l3 g_ i j) k_ true
              else
                F.ref06.Right_j4 (F.ref06.Right_l3 g_ i j) k_ (!(S4.eq (S4.mk ((at_ ((at_ g_.Rules i).Rhs) k_).Set.w0) ((at_ ((at_ g_.Rules i).Rhs) k_).Set.w1) ((at_ ((at_ g_.Rules i).Rhs) k_).Set.w2) ((at_ ((at_ g_.Rules i).Rhs) k_).Set.w3)) (S4.mk 0 0 0 0)))
          else
            F.ref06.Right_j4 (F.ref06.Right_l3 g_ i j) k_ false
        else none
      else
        some (.done k_)
def F.ref06.Right_l2 (k : Nat) (g_ : Gram) : Nat → Int → Option (LR Unit Int)
  | 0, _ => none
  | j + 1, i =>
      if decide (i < (g_.Rules.length : Int)) then
        if inR i g_.Rules.length then
          if decide (((at_ g_.Rules i).Lhs) < 0) then
            some (.ret 3)
          else
            if decide (g_.Nts ≤ ((at_ g_.Rules i).Lhs)) then
              some (.ret 3)
            else
              if decide (80 < (((at_ g_.Rules i).Rhs).length : Int)) then
                some (.ret 3)
              else
                (F.ref06.Right_l3 g_ i k 0).bind fun o3 =>
                o3.go fun d3 =>
                (F.ref06.Right_l2 k g_ j) (IntKind.wrap .i64 (i + 1))
        else none
      else
        some (.done ())
def F.ref06.Right_j1 (k : Nat) (g_ : Gram) (t32 : Bool) : Option Int :=
    if t32 then
      some 3
    else
      (F.ref06.Right_l2 k g_ k 0).bind fun o2 =>
      o2.fin fun d2 =>
      some 0
def F.ref06.Right (k : Nat) (g_ : Gram) : Option Int :=
  if decide (g_.Nts < 1) then
    F.ref06.Right_j1 k g_ true
  else
    if decide (4096 < g_.Nts) then
      F.ref06.Right_j1 k g_ true
    else
      if decide (g_.Start < 0) then
        F.ref06.Right_j1 k g_ true
      else
        if decide (g_.Nts ≤ g_.Start) then
          F.ref06.Right_j1 k g_ true
        else
          F.ref06.Right_j1 k g_ (decide (8192 < (g_.Rules.length : Int)))

-- 59 tracery/traceryref01.Has
def F.ref01.Has_l2 (n : Int) : Nat → Int → Int → Option Int
  | 0, _, _ => none
  | j + 1, w_1, i =>
      if decide (i < (grem n 64)) then
        (F.ref01.Has_l2 n j) (gquo .u64 w_1 2) (IntKind.wrap .i64 (i + 1))
      else
        some w_1
def F.ref01.Has_j1 (k : Nat) (n : Int) (w_ : Int) : Option Bool :=
    (F.ref01.Has_l2 n k w_ 0).bind fun o2 =>
    some ((grem o2 2) == 1)
def F.ref01.Has_j3 (k : Nat) (n : Int) (w_2 : Int) : Option Bool :=
    F.ref01.Has_j1 k n w_2
def F.ref01.Has (k : Nat) (s : S4) (n : Int) : Option Bool :=
  if decide (n < 0) then
    some false
  else
    if decide (255 < n) then
      some false
    else
      if ((gquo .i64 n 64) == 1) then
        F.ref01.Has_j1 k n s.w1
      else
        if ((gquo .i64 n 64) == 2) then
          F.ref01.Has_j3 k n s.w2
        else
          if ((gquo .i64 n 64) == 3) then
            F.ref01.Has_j3 k n s.w3
          else
            F.ref01.Has_j3 k n s.w0

-- 42 tracery/traceryref09.Of
def F.ref09.Of_j3 (rec_1 : Int → Option (LR Unit Bool)) (i : Int) (leaf : Bool) : Option (LR Unit Bool) :=
    rec_1 (IntKind.wrap .i64 (i + 1))
def F.ref09.Of_j5 (rec_1 : Int → Option (LR Unit Bool)) (i : Int) (leaf1 : Bool) (t120 : Bool) : Option (LR Unit Bool) :=
    if t120 then
      some (.ret false)
    else
      F.ref09.Of_j3 rec_1 i leaf1
def F.ref09.Of_j4 (g_ : Gram) (t : Tree) (i : Int) (rec_1 : Int → Option (LR Unit Bool)) (g42 : Gram → Int → Tree → Option Bool) (leaf1 : Bool) : Option (LR Unit Bool) :=
    if decide (((at_ ((at_ g_.Rules t.Rule).Rhs) i).Nt) < 0) then
      if !leaf1 then
        F.ref09.Of_j5 rec_1 i leaf1 true
      else
        if decide (0 ≤ ((at_ ((at_ g_.Rules t.Rule).Rhs) i).Nt)) then
          if inR i t.Kids.length then
            (g42 g_ ((at_ ((at_ g_.Rules t.Rule).Rhs) i).Nt) (at_ t.Kids i)).bind fun v =>
            F.ref09.Of_j5 rec_1 i leaf1 (!v)
          else none
        else
          F.ref09.Of_j5 rec_1 i leaf1 false
    else
      if decide (0 ≤ ((at_ ((at_ g_.Rules t.Rule).Rhs) i).Nt)) then
        if inR i t.Kids.length then
          (g42 g_ ((at_ ((at_ g_.Rules t.Rule).Rhs) i).Nt) (at_ t.Kids i)).bind fun v1 =>
          F.ref09.Of_j5 rec_1 i leaf1 (!v1)
        else none
      else
        F.ref09.Of_j5 rec_1 i leaf1 false
def F.ref09.Of_l2 (k : Nat) (t : Tree) (g_ : Gram) (g42 : Gram → Int → Tree → Option Bool) : Nat → Int → Option (LR Unit Bool)
  | 0, _ => none
  | j + 1, i =>
      if decide (i < (t.Kids.length : Int)) then
        if inR t.Rule g_.Rules.length then
          if inR i ((at_ g_.Rules t.Rule).Rhs).length then
            if inR i t.Kids.length then
              if (((at_ t.Kids i).Rule) == (-1)) then
                if ((((at_ t.Kids i).Kids).length : Int) == 0) then
                  (F.ref01.Has k (S4.mk ((at_ ((at_ g_.Rules t.Rule).Rhs) i).Set.w0) ((at_ ((at_ g_.Rules t.Rule).Rhs) i).Set.w1) ((at_ ((at_ g_.Rules t.Rule).Rhs) i).Set.w2) ((at_ ((at_ g_.Rules t.Rule).Rhs) i).Set.w3)) (IntKind.wrap .i64 ((at_ t.Kids i).Byte))).bind fun v2 =>
                  F.ref09.Of_j4 g_ t i (F.ref09.Of_l2 k t g_ g42 j) g42 v2
                else
                  F.ref09.Of_j4 g_ t i (F.ref09.Of_l2 k t g_ g42 j) g42 false
              else
                F.ref09.Of_j4 g_ t i (F.ref09.Of_l2 k t g_ g42 j) g42 false
            else none
          else none
        else none
      else
        some (.done ())
def F.ref09.Of_j1 (k : Nat) (t : Tree) (g_ : Gram) (g42 : Gram → Int → Tree → Option Bool) (t50 : Bool) : Option Bool :=
    if t50 then
      some false
    else
      (F.ref09.Of_l2 k t g_ g42 k 0).bind fun o2 =>
      o2.fin fun d2 =>
      some true
def F.ref09.Of_B (k : Nat) (g42 : Gram → Int → Tree → Option Bool) (g_ : Gram) (nt : Int) (t : Tree) : Option Bool :=
  if (t.Byte != 0) then
    F.ref09.Of_j1 k t g_ g42 true
  else
    if decide (t.Rule < 0) then
      F.ref09.Of_j1 k t g_ g42 true
    else
      if decide ((g_.Rules.length : Int) ≤ t.Rule) then
        F.ref09.Of_j1 k t g_ g42 true
      else
        if inR t.Rule g_.Rules.length then
          if (((at_ g_.Rules t.Rule).Lhs) != nt) then
            F.ref09.Of_j1 k t g_ g42 true
          else
            F.ref09.Of_j1 k t g_ g42 ((((at_ g_.Rules t.Rule).Rhs).length : Int) != (t.Kids.length : Int))
        else none
def F.ref09.Of : Nat → Gram → Int → Tree → Option Bool
  | 0 => (fun _ _ _ => none)
  | k + 1 => F.ref09.Of_B k (F.ref09.Of k)

-- 18 tracery/traceryref09.Right
def F.ref09.Right (k : Nat) (g_ : Gram) (nt : Int) (t : Tree) : Option Int :=
  (F.ref06.Right k g_).bind fun v =>
  if (v != 0) then
    some v
  else
    if decide (nt < 0) then
      some 1
    else
      if decide (g_.Nts ≤ nt) then
        some 1
      else
        (F.ref09.Of k g_ nt t).bind fun v1 =>
        if !v1 then
          some 90
        else
          some 0

-- 43 tracery/traceryref08.SameTree
def F.ref08.SameTree_j2 (rec_1 : Int → Option (LR Unit Bool)) (i : Int) : Option (LR Unit Bool) :=
    rec_1 (IntKind.wrap .i64 (i + 1))
def F.ref08.SameTree_j3 (rec_1 : Int → Option (LR Unit Bool)) (i : Int) (t45 : Bool) : Option (LR Unit Bool) :=
    if t45 then
      some (.ret false)
    else
      F.ref08.SameTree_j2 rec_1 i
def F.ref08.SameTree_l1 (a_ : Tree) (b : Tree) (g43 : Tree → Tree → Option Bool) : Nat → Int → Option (LR Unit Bool)
  | 0, _ => none
  | j + 1, i =>
      if decide (i < (a_.Kids.length : Int)) then
        if inR i a_.Kids.length then
          if inR i b.Kids.length then
            (g43 (at_ a_.Kids i) (at_ b.Kids i)).bind fun v =>
            F.ref08.SameTree_j3 (F.ref08.SameTree_l1 a_ b g43 j) i (!v)
          else none
        else none
      else
        some (.done ())
def F.ref08.SameTree_B (k : Nat) (g43 : Tree → Tree → Option Bool) (a_ : Tree) (b : Tree) : Option Bool :=
  if (a_.Rule != b.Rule) then
    some false
  else
    if (a_.Byte != b.Byte) then
      some false
    else
      if ((a_.Kids.length : Int) != (b.Kids.length : Int)) then
        some false
      else
        (F.ref08.SameTree_l1 a_ b g43 k 0).bind fun o1 =>
        o1.fin fun d1 =>
        some true
def F.ref08.SameTree : Nat → Tree → Tree → Option Bool
  | 0 => (fun _ _ => none)
  | k + 1 => F.ref08.SameTree_B k (F.ref08.SameTree k)

-- 19 tracery/traceryref09.Same
def F.ref09.Same (k : Nat) (a_ : Tree) (b : Tree) : Option Bool :=
  (F.ref08.SameTree k a_ b).bind fun v =>
  some v

-- 3 tracery/tracerylaw09.TreesRight
def F.law09.TreesRight (k : Nat) (g_ : Gram) (nt : Int) (t : Tree) : Option Bool :=
  (F.law09.heavy k t).bind fun v =>
  if v then
    (F.law09.alive k).bind fun v1 =>
    some v1
  else
    (F.ref06.Heavy k g_ 500).bind fun v2 =>
    if v2 then
      (F.law09.alive k).bind fun v3 =>
      some v3
    else
      (F.ref09.Copy k t).bind fun v4 =>
      (F.law09.alive k).bind fun v5 =>
      if v5 then
        (F.trees.Right k g_ nt v4).bind fun v6 =>
        (F.ref09.Right k g_ nt t).bind fun v7 =>
        if (v6 == v7) then
          (F.ref09.Same k v4 t).bind fun v8 =>
          some v8
        else
          some false
      else
        some false

-- 31 tracery/traceryref09.Size
def F.ref09.Size_j2 (rec_1 : Int → Int → Int → Option (Int × Int)) (i : Int) (n1 : Int) (deep1 : Int) (m : Int) (d_ : Int) : Option (Int × Int) :=
    rec_1 n1 deep1 (IntKind.wrap .i64 (i + 1))
def F.ref09.Size_j3 (rec_1 : Int → Int → Int → Option (Int × Int)) (i : Int) (n : Int) (v : Int × Int) (deep2 : Int) : Option (Int × Int) :=
    F.ref09.Size_j2 rec_1 i (IntKind.wrap .i64 (n + v.1)) deep2 v.1 v.2
def F.ref09.Size_l1 (t : Tree) (g31 : Tree → Option (Int × Int)) : Nat → Int → Int → Int → Option (Int × Int)
  | 0, _, _, _ => none
  | j + 1, n, deep, i =>
      if decide (i < (t.Kids.length : Int)) then
        if inR i t.Kids.length then
          (g31 (at_ t.Kids i)).bind fun v =>
          if decide (deep ≤ v.2) then
            F.ref09.Size_j3 (F.ref09.Size_l1 t g31 j) i n v (IntKind.wrap .i64 (v.2 + 1))
          else
            F.ref09.Size_j3 (F.ref09.Size_l1 t g31 j) i n v deep
        else none
      else
        some (n, deep)
def F.ref09.Size_B (k : Nat) (g31 : Tree → Option (Int × Int)) (t : Tree) : Option (Int × Int) :=
  (F.ref09.Size_l1 t g31 k 1 1 0).bind fun o1 =>
  some (o1.1, o1.2)
def F.ref09.Size : Nat → Tree → Option (Int × Int)
  | 0 => (fun _ => none)
  | k + 1 => F.ref09.Size_B k (F.ref09.Size k)

-- 48 tracery/traceryref09.plain
def F.ref09.plain_l1 (t : Tree) (g48 : Tree → Option Bool) : Nat → Int → Option (LR Unit Bool)
  | 0, _ => none
  | j + 1, i =>
      if decide (i < (t.Kids.length : Int)) then
        if inR i t.Kids.length then
          (g48 (at_ t.Kids i)).bind fun v =>
          if !v then
            some (.ret false)
          else
            (F.ref09.plain_l1 t g48 j) (IntKind.wrap .i64 (i + 1))
        else none
      else
        some (.done ())
def F.ref09.plain_B (k : Nat) (g48 : Tree → Option Bool) (t : Tree) : Option Bool :=
  if (t.Rule == (-1)) then
    some ((t.Kids.length : Int) == 0)
  else
    if (t.Byte != 0) then
      some false
    else
      if decide (t.Rule < 0) then
        some false
      else
        if decide (999999 < t.Rule) then
          some false
        else
          (F.ref09.plain_l1 t g48 k 0).bind fun o1 =>
          o1.fin fun d1 =>
          some true
def F.ref09.plain : Nat → Tree → Option Bool
  | 0 => (fun _ => none)
  | k + 1 => F.ref09.plain_B k (F.ref09.plain k)

-- 65 tracery/traceryref03.Digits
def F.ref03.Digits_l1 : Nat → Int → List UInt8 → Option (LR Unit (List UInt8))
  | 0, _, _ => none
  | j + 1, n1, out =>
      if decide ((toS ([IntKind.wrap .u8 (IntKind.wrap .i64 (48 + (grem n1 10)))] : List Int)).length + out.length ≤ 9223372036854775807) then
        if ((gquo .i64 n1 10) == 0) then
          some (.ret ((toS ([IntKind.wrap .u8 (IntKind.wrap .i64 (48 + (grem n1 10)))] : List Int)) ++ out))
        else
          (F.ref03.Digits_l1 j) (gquo .i64 n1 10) ((toS ([IntKind.wrap .u8 (IntKind.wrap .i64 (48 + (grem n1 10)))] : List Int)) ++ out)
      else none
def F.ref03.Digits (k : Nat) (n : Int) : Option (List UInt8) :=
  if decide (n < 0) then
    some ([] : List UInt8)
  else
    (F.ref03.Digits_l1 k n ([] : List UInt8)).bind fun o1 =>
    o1.fin fun d1 =>
    none

-- 49 tracery/traceryref09.text
def F.ref09.text_j2 (rec_1 : List UInt8 → Int → Option (List UInt8)) (i : Int) (out1 : List UInt8) : Option (List UInt8) :=
    rec_1 out1 (IntKind.wrap .i64 (i + 1))
def F.ref09.text_j3 (i : Int) (t : Tree) (g49 : Tree → Option (List UInt8)) (rec_1 : List UInt8 → Int → Option (List UInt8)) (out2 : List UInt8) : Option (List UInt8) :=
    if inR i t.Kids.length then
      (g49 (at_ t.Kids i)).bind fun v1 =>
      if decide (out2.length + v1.length ≤ 9223372036854775807) then
        F.ref09.text_j2 rec_1 i (out2 ++ v1)
      else none
    else none
def F.ref09.text_l1 (t : Tree) (g49 : Tree → Option (List UInt8)) : Nat → List UInt8 → Int → Option (List UInt8)
  | 0, _, _ => none
  | j + 1, out, i =>
      if decide (i < (t.Kids.length : Int)) then
        if decide (0 < i) then
          if decide (out.length + ([32] : List UInt8).length ≤ 9223372036854775807) then
            F.ref09.text_j3 i t g49 (F.ref09.text_l1 t g49 j) (out ++ ([32] : List UInt8))
          else none
        else
          F.ref09.text_j3 i t g49 (F.ref09.text_l1 t g49 j) out
      else
        some out
def F.ref09.text_B (k : Nat) (g49 : Tree → Option (List UInt8)) (t : Tree) : Option (List UInt8) :=
  if (t.Rule == (-1)) then
    if inR (gquo .i64 (IntKind.wrap .i64 t.Byte) 16) ([48, 49, 50, 51, 52, 53, 54, 55, 56, 57, 97, 98, 99, 100, 101, 102] : List UInt8).length then
      if inR (grem (IntKind.wrap .i64 t.Byte) 16) ([48, 49, 50, 51, 52, 53, 54, 55, 56, 57, 97, 98, 99, 100, 101, 102] : List UInt8).length then
        some (toS ([120, sAt ([48, 49, 50, 51, 52, 53, 54, 55, 56, 57, 97, 98, 99, 100, 101, 102] : List UInt8) (gquo .i64 (IntKind.wrap .i64 t.Byte) 16), sAt ([48, 49, 50, 51, 52, 53, 54, 55, 56, 57, 97, 98, 99, 100, 101, 102] : List UInt8) (grem (IntKind.wrap .i64 t.Byte) 16)] : List Int))
      else none
    else none
  else
    (F.ref03.Digits k t.Rule).bind fun v =>
    if decide (v.length + ([40] : List UInt8).length ≤ 9223372036854775807) then
      (F.ref09.text_l1 t g49 k (v ++ ([40] : List UInt8)) 0).bind fun o1 =>
      if decide (o1.length + ([41] : List UInt8).length ≤ 9223372036854775807) then
        some (o1 ++ ([41] : List UInt8))
      else none
    else none
def F.ref09.text : Nat → Tree → Option (List UInt8)
  | 0 => (fun _ => none)
  | k + 1 => F.ref09.text_B k (F.ref09.text k)

-- 21 tracery/traceryref09.Print
def F.ref09.Print (k : Nat) (t : Tree) : Option (List UInt8 × Int) :=
  (F.ref09.Size k t).bind fun v =>
  (F.ref09.plain k t).bind fun v1 =>
  if !v1 then
    some (([] : List UInt8), 90)
  else
    if decide (200 < v.2) then
      some (([] : List UInt8), 90)
    else
      (F.ref09.text k t).bind fun v2 =>
      if decide (65536 < (v2.length : Int)) then
        some (([] : List UInt8), 2)
      else
        some (v2, 0)

-- 4 tracery/tracerylaw09.TreesWrites
def F.law09.TreesWrites (k : Nat) (t : Tree) : Option Bool :=
  (F.law09.heavy k t).bind fun v =>
  if v then
    (F.law09.alive k).bind fun v1 =>
    some v1
  else
    (F.trees.Print k t).bind fun v2 =>
    (F.ref09.Print k t).bind fun v3 =>
    (F.law09.alive k).bind fun v4 =>
    if v4 then
      if (v2.1 == v3.1) then
        some (v2.2 == v3.2)
      else
        some false
    else
      some false

-- 53 tracery/traceryref09.one
def F.ref09.one_j5 (rec_2 : Int → Int → Option (Int × Int)) (j_ : Int) (k_1 : Int) : Option (Int × Int) :=
    rec_2 k_1 (IntKind.wrap .i64 (j_ + 1))
def F.ref09.one_j6 (rec_2 : Int → Int → Option (Int × Int)) (j_ : Int) (k_2 : Int) : Option (Int × Int) :=
    F.ref09.one_j5 rec_2 j_ k_2
def F.ref09.one_l4 (i : Int) (s : List UInt8) : Nat → Int → Int → Option (Int × Int)
  | 0, _, _ => none
  | j + 1, k_, j_ =>
      if decide (j_ < 16) then
        if inR j_ ([48, 49, 50, 51, 52, 53, 54, 55, 56, 57, 97, 98, 99, 100, 101, 102] : List UInt8).length then
          if inR i s.length then
            if ((sAt ([48, 49, 50, 51, 52, 53, 54, 55, 56, 57, 97, 98, 99, 100, 101, 102] : List UInt8) j_) == (sAt s i)) then
              F.ref09.one_j6 (F.ref09.one_l4 i s j) j_ j_
            else
              F.ref09.one_j6 (F.ref09.one_l4 i s j) j_ k_
          else none
        else none
      else
        some (k_, j_)
def F.ref09.one_l3 (k : Nat) (at__ : Int) (s : List UInt8) : Nat → Int → Int → Option (LR Int (Tree × Int × Fault))
  | 0, _, _ => none
  | j + 1, n, i =>
      if decide (i < (IntKind.wrap .i64 (at__ + 3))) then
        if decide ((s.length : Int) ≤ i) then
          some (.ret ((Tree.mk 0 0 ([] : List Tree)), 0, (Fault.mk (s.length : Int) 14)))
        else
          (F.ref09.one_l4 i s k 16 0).bind fun o4 =>
          if (o4.1 == 16) then
            some (.ret ((Tree.mk 0 0 ([] : List Tree)), 0, (Fault.mk i 11)))
          else
            (F.ref09.one_l3 k at__ s j) (IntKind.wrap .i64 ((IntKind.wrap .i64 (16 * n)) + o4.1)) (IntKind.wrap .i64 (i + 1))
      else
        some (.done n)
def F.ref09.one_j2 (k : Nat) (at__ : Int) (deep : Int) (number : Bool) (g70 : List UInt8 → Int → Int → Option (Tree × Int × Fault)) (s : List UInt8) (t39 : Bool) : Option (Tree × Int × Fault) :=
    if t39 then
      some ((Tree.mk 0 0 ([] : List Tree)), 0, (Fault.mk at__ 11))
    else
      if decide (200 < deep) then
        some ((Tree.mk 0 0 ([] : List Tree)), 0, (Fault.mk at__ 2))
      else
        if number then
          (g70 s at__ deep).bind fun v =>
          some (v.1, v.2.1, v.2.2)
        else
          (F.ref09.one_l3 k at__ s k 0 (IntKind.wrap .i64 (at__ + 1))).bind fun o3 =>
          o3.fin fun d3 =>
          some ((Tree.mk (-1) (IntKind.wrap .u8 d3) ([] : List Tree)), IntKind.wrap .i64 (at__ + 3), (Fault.mk 0 0))
def F.ref09.one_j1 (k : Nat) (at__ : Int) (s : List UInt8) (deep : Int) (g70 : List UInt8 → Int → Int → Option (Tree × Int × Fault)) (number : Bool) : Option (Tree × Int × Fault) :=
    if inR at__ s.length then
      if ((sAt s at__) != 120) then
        F.ref09.one_j2 k at__ deep number g70 s (!number)
      else
        F.ref09.one_j2 k at__ deep number g70 s false
    else none
def F.ref09.one_B (k : Nat) (g70 : List UInt8 → Int → Int → Option (Tree × Int × Fault)) (s : List UInt8) (at__ : Int) (deep : Int) : Option (Tree × Int × Fault) :=
  if decide ((s.length : Int) ≤ at__) then
    some ((Tree.mk 0 0 ([] : List Tree)), 0, (Fault.mk (s.length : Int) 14))
  else
    if inR at__ s.length then
      if decide (48 ≤ (sAt s at__)) then
        F.ref09.one_j1 k at__ s deep g70 (decide ((sAt s at__) ≤ 57))
      else
        F.ref09.one_j1 k at__ s deep g70 false
    else none
def F.ref09.node_j3 (rec_1 : Int → Int → Option (LR (Int × Int) (Tree × Int × Fault))) (n : Int) (s : List UInt8) (i : Int) : Option (LR (Int × Int) (Tree × Int × Fault)) :=
    rec_1 (IntKind.wrap .i64 ((IntKind.wrap .i64 ((IntKind.wrap .i64 (10 * n)) + (IntKind.wrap .i64 (sAt s i)))) - 48)) (IntKind.wrap .i64 (i + 1))
def F.ref09.node_j4 (i : Int) (s : List UInt8) (rec_1 : Int → Int → Option (LR (Int × Int) (Tree × Int × Fault))) (n : Int) (t47 : Bool) : Option (LR (Int × Int) (Tree × Int × Fault)) :=
    if t47 then
      some (.ret ((Tree.mk 0 0 ([] : List Tree)), 0, (Fault.mk i 11)))
    else
      if inR i s.length then
        F.ref09.node_j3 rec_1 n s i
      else none
def F.ref09.node_j2 (i : Int) (at__ : Int) (s : List UInt8) (rec_1 : Int → Int → Option (LR (Int × Int) (Tree × Int × Fault))) (n : Int) (t32 : Bool) : Option (LR (Int × Int) (Tree × Int × Fault)) :=
    if t32 then
      if ((IntKind.wrap .i64 (i - at__)) == 6) then
        F.ref09.node_j4 i s rec_1 n true
      else
        if decide (at__ < i) then
          if inR at__ s.length then
            F.ref09.node_j4 i s rec_1 n ((sAt s at__) == 48)
          else none
        else
          F.ref09.node_j4 i s rec_1 n false
    else
      some (.done (n, i))
def F.ref09.node_l1 (s : List UInt8) (at__ : Int) : Nat → Int → Int → Option (LR (Int × Int) (Tree × Int × Fault))
  | 0, _, _ => none
  | j + 1, n, i =>
      if decide (i < (s.length : Int)) then
        if inR i s.length then
          if decide (48 ≤ (sAt s i)) then
            F.ref09.node_j2 i at__ s (F.ref09.node_l1 s at__ j) n (decide ((sAt s i) ≤ 57))
          else
            F.ref09.node_j2 i at__ s (F.ref09.node_l1 s at__ j) n false
        else none
      else
        F.ref09.node_j2 i at__ s (F.ref09.node_l1 s at__ j) n false
def F.ref09.node_j6 (rec_2 : Int → Int → List Tree → Option (LR Unit (Tree × Int × Fault))) (i2 : Int) (Rule_ : Int) (Byte_ : Int) (Kids_1 : List Tree) (end_ : Int) (At_ : Int) (Code_ : Int) (Kids_2 : List Tree) : Option (LR Unit (Tree × Int × Fault)) :=
    rec_2 i2 32 Kids_2
def F.ref09.node_j8 (d1 : Int × Int) (Kids_ : List Tree) (i1 : Int) (g53 : List UInt8 → Int → Int → Option (Tree × Int × Fault)) (s : List UInt8) (deep : Int) (rec_2 : Int → Int → List Tree → Option (LR Unit (Tree × Int × Fault))) (t106 : Bool) : Option (LR Unit (Tree × Int × Fault)) :=
    if t106 then
      some (.ret ((Tree.mk d1.1 0 Kids_), IntKind.wrap .i64 (i1 + 2), (Fault.mk 0 0)))
    else
      (g53 s (IntKind.wrap .i64 (i1 + 1)) (IntKind.wrap .i64 (deep + 1))).bind fun v =>
      if (v.2.2.Code != 0) then
        some (.ret ((Tree.mk 0 0 ([] : List Tree)), 0, v.2.2))
      else
        if decide ((Kids_.length + ([v.1] : List Tree).length) * 40 ≤ 140737488355328) then
          if decide (Kids_.length + ([v.1] : List Tree).length ≤ 9223372036854775807) then
            F.ref09.node_j6 rec_2 v.2.1 v.1.Rule v.1.Byte v.1.Kids v.2.1 v.2.2.At v.2.2.Code (Kids_ ++ ([v.1] : List Tree))
          else none
        else none
def F.ref09.node_j7 (d1 : Int × Int) (Kids_ : List Tree) (i1 : Int) (s : List UInt8) (want : Int) (g53 : List UInt8 → Int → Int → Option (Tree × Int × Fault)) (deep : Int) (rec_2 : Int → Int → List Tree → Option (LR Unit (Tree × Int × Fault))) (t78 : Bool) : Option (LR Unit (Tree × Int × Fault)) :=
    if t78 then
      some (.ret ((Tree.mk d1.1 0 Kids_), IntKind.wrap .i64 (i1 + 1), (Fault.mk 0 0)))
    else
      if inR i1 s.length then
        if ((sAt s i1) != want) then
          some (.ret ((Tree.mk 0 0 ([] : List Tree)), 0, (Fault.mk i1 11)))
        else
          if (want == 40) then
            if decide ((IntKind.wrap .i64 (i1 + 1)) < (s.length : Int)) then
              if inR (IntKind.wrap .i64 (i1 + 1)) s.length then
                F.ref09.node_j8 d1 Kids_ i1 g53 s deep rec_2 ((sAt s (IntKind.wrap .i64 (i1 + 1))) == 41)
              else none
            else
              F.ref09.node_j8 d1 Kids_ i1 g53 s deep rec_2 false
          else
            F.ref09.node_j8 d1 Kids_ i1 g53 s deep rec_2 false
      else none
def F.ref09.node_l5 (s : List UInt8) (d1 : Int × Int) (g53 : List UInt8 → Int → Int → Option (Tree × Int × Fault)) (deep : Int) : Nat → Int → Int → List Tree → Option (LR Unit (Tree × Int × Fault))
  | 0, _, _, _ => none
  | j + 1, i1, want, Kids_ =>
      if decide ((s.length : Int) ≤ i1) then
        some (.ret ((Tree.mk 0 0 ([] : List Tree)), 0, (Fault.mk (s.length : Int) 14)))
      else
        if inR i1 s.length then
          if ((sAt s i1) == 41) then
            F.ref09.node_j7 d1 Kids_ i1 s want g53 deep (F.ref09.node_l5 s d1 g53 deep j) (want != 40)
          else
            F.ref09.node_j7 d1 Kids_ i1 s want g53 deep (F.ref09.node_l5 s d1 g53 deep j) false
        else none
def F.ref09.node_B (k : Nat) (g53 : List UInt8 → Int → Int → Option (Tree × Int × Fault)) (s : List UInt8) (at__ : Int) (deep : Int) : Option (Tree × Int × Fault) :=
  (F.ref09.node_l1 s at__ k 0 at__).bind fun o1 =>
  o1.fin fun d1 =>
  (F.ref09.node_l5 s d1 g53 deep k d1.2 40 ([] : List Tree)).bind fun o5 =>
  o5.fin fun d5 =>
  none
def F.ref09.one_G : Nat → (List UInt8 → Int → Int → Option (Tree × Int × Fault)) × (List UInt8 → Int → Int → Option (Tree × Int × Fault))
  | 0 => ((fun _ _ _ => none), (fun _ _ _ => none))
  | k + 1 => (F.ref09.one_B k ((F.ref09.one_G k).2), F.ref09.node_B k ((F.ref09.one_G k).1))
def F.ref09.one (k : Nat) : List UInt8 → Int → Int → Option (Tree × Int × Fault) := (F.ref09.one_G k).1
def F.ref09.node (k : Nat) : List UInt8 → Int → Int → Option (Tree × Int × Fault) := (F.ref09.one_G k).2

-- 23 tracery/traceryref09.Parse
def F.ref09.Parse (k : Nat) (s : List UInt8) : Option (Tree × Fault) :=
  if decide (65536 < (s.length : Int)) then
    some ((Tree.mk 0 0 ([] : List Tree)), (Fault.mk 0 2))
  else
    (F.ref09.one k s 0 1).bind fun v =>
    if (v.2.2.Code != 0) then
      some ((Tree.mk 0 0 ([] : List Tree)), v.2.2)
    else
      if decide (v.2.1 < (s.length : Int)) then
        some ((Tree.mk 0 0 ([] : List Tree)), (Fault.mk v.2.1 15))
      else
        some (v.1, v.2.2)

-- 5 tracery/tracerylaw09.TreesReads
def F.law09.TreesReads_j1 (k : Nat) (s : List UInt8) (t14 : Bool) : Option Bool :=
    if t14 then
      (F.law09.alive k).bind fun v =>
      some v
    else
      (F.trees.Parse k s).bind fun v1 =>
      (F.ref09.Parse k s).bind fun v2 =>
      (F.law09.alive k).bind fun v3 =>
      if v3 then
        (F.ref09.Same k v1.1 v2.1).bind fun v4 =>
        if v4 then
          some ((v1.2.At == v2.2.At) && ((v1.2.Code == v2.2.Code) && true))
        else
          some false
      else
        some false
def F.law09.TreesReads (k : Nat) (s : List UInt8) : Option Bool :=
  if decide (20000 < (s.length : Int)) then
    F.law09.TreesReads_j1 k s (decide ((s.length : Int) ≤ 65536))
  else
    F.law09.TreesReads_j1 k s false

-- 6 tracery/tracerylaw09.TreesBack
def F.law09.TreesBack_j2 (t4 : Bool) : Option Bool :=
    some t4
def F.law09.TreesBack_j1 (k : Nat) (s : List UInt8) : Option Bool :=
    (F.trees.Parse k s).bind fun v4 =>
    if (v4.2.Code != 0) then
      (F.law09.alive k).bind fun v5 =>
      if v5 then
        (F.ref09.Same k v4.1 (Tree.mk 0 0 ([] : List Tree))).bind fun v6 =>
        if v6 then
          if decide (0 ≤ v4.2.At) then
            F.law09.TreesBack_j2 (decide (v4.2.At ≤ (s.length : Int)))
          else
            F.law09.TreesBack_j2 false
        else
          F.law09.TreesBack_j2 false
      else
        F.law09.TreesBack_j2 false
    else
      (F.trees.Print k v4.1).bind fun v7 =>
      (F.law09.alive k).bind fun v8 =>
      if v8 then
        if (v7.2 == 0) then
          some (v7.1 == s)
        else
          some false
      else
        some false
def F.law09.TreesBack (k : Nat) (t : Tree) (s : List UInt8) : Option Bool :=
  (F.law09.heavy k t).bind fun v =>
  if v then
    (F.law09.alive k).bind fun v1 =>
    some v1
  else
    if decide (20000 < (s.length : Int)) then
      (F.law09.alive k).bind fun v2 =>
      some v2
    else
      (F.trees.Print k t).bind fun v3 =>
      if (v3.2 == 0) then
        (F.trees.Parse k v3.1).bind fun v9 =>
        if (v9.2.Code != 0) then
          some false
        else
          (F.ref09.Same k v9.1 t).bind fun v10 =>
          if !v10 then
            some false
          else
            F.law09.TreesBack_j1 k s
      else
        F.law09.TreesBack_j1 k s

-- 8 tracery/tracerylaw09.TreesPut
def F.law09.TreesPut_j1 (k : Nat) (t : Tree) (path : List Int) (v5 : Tree × Int) (t89 : Bool) : Option Bool :=
    if t89 then
      some false
    else
      (F.trees.Put k t path v5.1).bind fun v11 =>
      (F.law09.alive k).bind fun v12 =>
      if v12 then
        if (v11.2 == 0) then
          (F.ref09.Same k v11.1 t).bind fun v13 =>
          some v13
        else
          some false
      else
        some false
def F.law09.TreesPut (k : Nat) (t : Tree) (path : List Int) (s : Tree) : Option Bool :=
  (F.law09.heavy k t).bind fun v =>
  if v then
    (F.law09.alive k).bind fun v1 =>
    some v1
  else
    (F.law09.heavy k s).bind fun v2 =>
    if v2 then
      (F.law09.alive k).bind fun v3 =>
      some v3
    else
      if decide (1000 < (path.length : Int)) then
        (F.law09.alive k).bind fun v4 =>
        some v4
      else
        (F.trees.At k t path).bind fun v5 =>
        (F.trees.Put k t path s).bind fun v6 =>
        if (v5.2 != 0) then
          (F.law09.alive k).bind fun v7 =>
          if v7 then
            if (v6.2 == v5.2) then
              (F.ref09.Same k v6.1 (Tree.mk 0 0 ([] : List Tree))).bind fun v8 =>
              some v8
            else
              some false
          else
            some false
        else
          (F.trees.At k v6.1 path).bind fun v9 =>
          (F.trees.Put k v6.1 path v5.1).bind fun v10 =>
          if (v6.2 != 0) then
            F.law09.TreesPut_j1 k t path v5 true
          else
            if (v9.2 != 0) then
              F.law09.TreesPut_j1 k t path v5 true
            else
              if (v10.2 != 0) then
                F.law09.TreesPut_j1 k t path v5 true
              else
                (F.ref09.Same k v9.1 s).bind fun v14 =>
                if !v14 then
                  F.law09.TreesPut_j1 k t path v5 true
                else
                  (F.ref09.Same k v10.1 t).bind fun v15 =>
                  F.law09.TreesPut_j1 k t path v5 (!v15)

-- 9 tracery/tracerylaw09.TreesStay
def F.law09.TreesStay_j3 (t8 : Bool) : Option Bool :=
    some t8
def F.law09.TreesStay_j2 (k : Nat) (v3 : Tree × Int) (g_ : Gram) (t : Tree) (path : List Int) (s : Tree) (t58 : Bool) : Option Bool :=
    if t58 then
      (F.law09.alive k).bind fun v4 =>
      if v4 then
        if (v3.2 != 0) then
          some true
        else
          some (v3.1.Rule == (-1))
      else
        some false
    else
      if inR v3.1.Rule g_.Rules.length then
        (F.trees.Put k t path s).bind fun v5 =>
        (F.trees.Right k g_ ((at_ g_.Rules v3.1.Rule).Lhs) s).bind fun v6 =>
        (F.law09.alive k).bind fun v7 =>
        if v7 then
          if (v5.2 == 0) then
            (F.trees.Right k g_ ((at_ g_.Rules v3.1.Rule).Lhs) v3.1).bind fun v8 =>
            if (v8 == 0) then
              (F.trees.Right k g_ g_.Start v5.1).bind fun v9 =>
              F.law09.TreesStay_j3 ((v9 == 0) == (v6 == 0))
            else
              F.law09.TreesStay_j3 false
          else
            F.law09.TreesStay_j3 false
        else
          F.law09.TreesStay_j3 false
      else none
def F.law09.TreesStay_j1 (k : Nat) (g_ : Gram) (t : Tree) (path : List Int) (s : Tree) (t29 : Bool) : Option Bool :=
    if t29 then
      (F.law09.alive k).bind fun v =>
      some v
    else
      (F.trees.Right k g_ g_.Start t).bind fun v1 =>
      if (v1 != 0) then
        (F.law09.alive k).bind fun v2 =>
        some v2
      else
        (F.trees.At k t path).bind fun v3 =>
        if (v3.2 != 0) then
          F.law09.TreesStay_j2 k v3 g_ t path s true
        else
          if decide (v3.1.Rule < 0) then
            F.law09.TreesStay_j2 k v3 g_ t path s true
          else
            F.law09.TreesStay_j2 k v3 g_ t path s (decide ((g_.Rules.length : Int) ≤ v3.1.Rule))
def F.law09.TreesStay (k : Nat) (g_ : Gram) (t : Tree) (path : List Int) (s : Tree) : Option Bool :=
  (F.law09.heavy k t).bind fun v10 =>
  if v10 then
    F.law09.TreesStay_j1 k g_ t path s true
  else
    (F.law09.heavy k s).bind fun v11 =>
    if v11 then
      F.law09.TreesStay_j1 k g_ t path s true
    else
      (F.ref06.Heavy k g_ 500).bind fun v12 =>
      if v12 then
        F.law09.TreesStay_j1 k g_ t path s true
      else
        F.law09.TreesStay_j1 k g_ t path s (decide (1000 < (path.length : Int)))

-- 29 tracery/trees.Same
def F.trees.Same_B (k : Nat) (g55_29 : List Tree → List Tree → Option Bool) (a_ : Tree) (b : Tree) : Option Bool :=
  if (a_.Rule == b.Rule) then
    if (a_.Byte == b.Byte) then
      (g55_29 a_.Kids b.Kids).bind fun v =>
      some v
    else
      some false
  else
    some false
def F.slices.EqualFunc_f55_29_l1 (s1 : List Tree) (s2 : List Tree) (g29 : Tree → Tree → Option Bool) : Nat → Int → Option (LR Unit Bool)
  | 0, _ => none
  | j + 1, t17 =>
      if decide (t17 < (s1.length : Int)) then
        if inR t17 s1.length then
          if inR t17 s2.length then
            (g29 (at_ s1 t17) (at_ s2 t17)).bind fun v =>
            if !v then
              some (.ret false)
            else
              (F.slices.EqualFunc_f55_29_l1 s1 s2 g29 j) (IntKind.wrap .i64 (t17 + 1))
          else none
        else none
      else
        some (.done ())
def F.slices.EqualFunc_f55_29_B (k : Nat) (g29 : Tree → Tree → Option Bool) (s1 : List Tree) (s2 : List Tree) : Option Bool :=
  if ((s1.length : Int) != (s2.length : Int)) then
    some false
  else
    (F.slices.EqualFunc_f55_29_l1 s1 s2 g29 k 0).bind fun o1 =>
    o1.fin fun d1 =>
    some true
def F.trees.Same_G : Nat → (Tree → Tree → Option Bool) × (List Tree → List Tree → Option Bool)
  | 0 => ((fun _ _ => none), (fun _ _ => none))
  | k + 1 => (F.trees.Same_B k ((F.trees.Same_G k).2), F.slices.EqualFunc_f55_29_B k ((F.trees.Same_G k).1))
def F.trees.Same (k : Nat) : Tree → Tree → Option Bool := (F.trees.Same_G k).1
def F.slices.EqualFunc_f55_29 (k : Nat) : List Tree → List Tree → Option Bool := (F.trees.Same_G k).2

-- 10 tracery/tracerylaw09.TreesSame
def F.law09.TreesSame (k : Nat) (a_ : Tree) (b : Tree) : Option Bool :=
  (F.law09.heavy k a_).bind fun v =>
  if v then
    (F.law09.alive k).bind fun v1 =>
    some v1
  else
    (F.law09.heavy k b).bind fun v2 =>
    if v2 then
      (F.law09.alive k).bind fun v3 =>
      some v3
    else
      (F.law09.alive k).bind fun v4 =>
      if v4 then
        (F.trees.Same k a_ b).bind fun v5 =>
        (F.ref09.Same k a_ b).bind fun v6 =>
        if (v5 == v6) then
          (F.ref09.Copy k a_).bind fun v7 =>
          (F.trees.Same k a_ v7).bind fun v8 =>
          some v8
        else
          some false
      else
        some false

-- 56 tracery/trees.spans
def F.trees.spans_j4 (rec_1 : List Run → Int → Int → Option ((List Run) × Int)) (t35 : Int) (out2 : List Run) (end_2 : Int) : Option ((List Run) × Int) :=
    rec_1 out2 end_2 (IntKind.wrap .i64 (t35 + 1))
def F.trees.spans_j5 (rec_1 : List Run → Int → Int → Option ((List Run) × Int)) (t35 : Int) (out3 : List Run) (end_3 : Int) : Option ((List Run) × Int) :=
    F.trees.spans_j4 rec_1 t35 out3 end_3
def F.trees.spans_l3 (t : Tree) (none_ : Bool) (g56 : Tree → Int → Bool → List Run → Option (List Run × Int)) : Nat → List Run → Int → Int → Option ((List Run) × Int)
  | 0, _, _, _ => none
  | j + 1, out1, end_1, t35 =>
      if decide (t35 < (t.Kids.length : Int)) then
        if inR t35 t.Kids.length then
          if none_ then
            (g56 (at_ t.Kids t35) end_1 true out1).bind fun v =>
            F.trees.spans_j5 (F.trees.spans_l3 t none_ g56 j) t35 v.1 v.2
          else
            (g56 (at_ t.Kids t35) end_1 (t.Rule == (-1)) out1).bind fun v1 =>
            F.trees.spans_j5 (F.trees.spans_l3 t none_ g56 j) t35 v1.1 v1.2
        else none
      else
        some (out1, end_1)
def F.trees.spans_j2 (k : Nat) (t : Tree) (none_ : Bool) (g56 : Tree → Int → Bool → List Run → Option (List Run × Int)) (out : List Run) (from_ : Int) (end_ : Int) : Option (List Run × Int) :=
    (F.trees.spans_l3 t none_ g56 k (out ++ ([(Run.mk from_ from_)] : List Run)) end_ 0).bind fun o3 =>
    if inR (out.length : Int) o3.1.length then
      some (set_ o3.1 (out.length : Int) (Run.mk ((at_ o3.1 (out.length : Int)).Lo) o3.2), o3.2)
    else none
def F.trees.spans_j1 (k : Nat) (t : Tree) (none_ : Bool) (g56 : Tree → Int → Bool → List Run → Option (List Run × Int)) (out : List Run) (from_ : Int) (t29 : Bool) : Option (List Run × Int) :=
    if t29 then
      F.trees.spans_j2 k t none_ g56 out from_ (IntKind.wrap .i64 (from_ + 1))
    else
      F.trees.spans_j2 k t none_ g56 out from_ from_
def F.trees.spans_B (k : Nat) (g56 : Tree → Int → Bool → List Run → Option (List Run × Int)) (t : Tree) (from_ : Int) (none_ : Bool) (out : List Run) : Option (List Run × Int) :=
  if decide ((out.length + ([(Run.mk from_ from_)] : List Run).length) * 16 ≤ 140737488355328) then
    if decide (out.length + ([(Run.mk from_ from_)] : List Run).length ≤ 9223372036854775807) then
      if (t.Rule == (-1)) then
        F.trees.spans_j1 k t none_ g56 out from_ (!none_)
      else
        F.trees.spans_j1 k t none_ g56 out from_ false
    else none
  else none
def F.trees.spans : Nat → Tree → Int → Bool → List Run → Option (List Run × Int)
  | 0 => (fun _ _ _ _ => none)
  | k + 1 => F.trees.spans_B k (F.trees.spans k)

-- 32 tracery/trees.Spans
def F.trees.Spans (k : Nat) (t : Tree) : Option (List Run) :=
  (F.trees.spans k t 0 false ([] : List Run)).bind fun v =>
  some v.1

-- 34 tracery/traceryref09.Yield
def F.ref09.Yield_l1 (t : Tree) (g34 : Tree → Option (List Int)) : Nat → List Int → Int → Option (List Int)
  | 0, _, _ => none
  | j + 1, out, i =>
      if decide (i < (t.Kids.length : Int)) then
        if inR i t.Kids.length then
          (g34 (at_ t.Kids i)).bind fun v =>
          if decide ((out.length + v.length) * 1 ≤ 140737488355328) then
            if decide (out.length + v.length ≤ 9223372036854775807) then
              (F.ref09.Yield_l1 t g34 j) (out ++ v) (IntKind.wrap .i64 (i + 1))
            else none
          else none
        else none
      else
        some out
def F.ref09.Yield_B (k : Nat) (g34 : Tree → Option (List Int)) (t : Tree) : Option (List Int) :=
  if (t.Rule == (-1)) then
    if decide ((([] : List Int).length + ([t.Byte] : List Int).length) * 1 ≤ 140737488355328) then
      if decide (([] : List Int).length + ([t.Byte] : List Int).length ≤ 9223372036854775807) then
        some (([] : List Int) ++ ([t.Byte] : List Int))
      else none
    else none
  else
    (F.ref09.Yield_l1 t g34 k ([] : List Int) 0).bind fun o1 =>
    some o1
def F.ref09.Yield : Nat → Tree → Option (List Int)
  | 0 => (fun _ => none)
  | k + 1 => F.ref09.Yield_B k (F.ref09.Yield k)

-- 57 tracery/traceryref09.spans
def F.ref09.spans_j5 (rec_1 : List Run → Int → Int → Option (List Run)) (i : Int) (out1 : List Run) (at__2 : Int) : Option (List Run) :=
    rec_1 out1 at__2 (IntKind.wrap .i64 (i + 1))
def F.ref09.spans_j6 (rec_1 : List Run → Int → Int → Option (List Run)) (i : Int) (out : List Run) (v : List Run) (at__3 : Int) : Option (List Run) :=
    F.ref09.spans_j5 rec_1 i (out ++ v) at__3
def F.ref09.spans_l4 (k : Nat) (t : Tree) (g57 : Tree → Int → Bool → Option (List Run)) (quiet : Bool) : Nat → List Run → Int → Int → Option (List Run)
  | 0, _, _, _ => none
  | j + 1, out, at__1, i =>
      if decide (i < (t.Kids.length : Int)) then
        if inR i t.Kids.length then
          (g57 (at_ t.Kids i) at__1 quiet).bind fun v =>
          if decide ((out.length + v.length) * 16 ≤ 140737488355328) then
            if decide (out.length + v.length ≤ 9223372036854775807) then
              if !quiet then
                (F.ref09.Yield k (at_ t.Kids i)).bind fun v1 =>
                F.ref09.spans_j6 (F.ref09.spans_l4 k t g57 quiet j) i out v (IntKind.wrap .i64 (at__1 + (v1.length : Int)))
              else
                F.ref09.spans_j6 (F.ref09.spans_l4 k t g57 quiet j) i out v at__1
            else none
          else none
        else none
      else
        some out
def F.ref09.spans_j3 (k : Nat) (t : Tree) (g57 : Tree → Int → Bool → Option (List Run)) (quiet : Bool) (from_ : Int) (end_ : Int) (at__ : Int) : Option (List Run) :=
    (F.ref09.spans_l4 k t g57 quiet k (([] : List Run) ++ ([(Run.mk from_ end_)] : List Run)) at__ 0).bind fun o4 =>
    some o4
def F.ref09.spans_j2 (k : Nat) (t : Tree) (g57 : Tree → Int → Bool → Option (List Run)) (from_ : Int) (end_ : Int) (quiet : Bool) : Option (List Run) :=
    if (t.Rule == (-1)) then
      F.ref09.spans_j3 k t g57 quiet from_ end_ end_
    else
      F.ref09.spans_j3 k t g57 quiet from_ end_ from_
def F.ref09.spans_j1 (k : Nat) (from_ : Int) (none_ : Bool) (t : Tree) (g57 : Tree → Int → Bool → Option (List Run)) (end_ : Int) : Option (List Run) :=
    if decide ((([] : List Run).length + ([(Run.mk from_ end_)] : List Run).length) * 16 ≤ 140737488355328) then
      if decide (([] : List Run).length + ([(Run.mk from_ end_)] : List Run).length ≤ 9223372036854775807) then
        if none_ then
          F.ref09.spans_j2 k t g57 from_ end_ true
        else
          F.ref09.spans_j2 k t g57 from_ end_ (t.Rule == (-1))
      else none
    else none
def F.ref09.spans_B (k : Nat) (g57 : Tree → Int → Bool → Option (List Run)) (t : Tree) (from_ : Int) (none_ : Bool) : Option (List Run) :=
  if !none_ then
    (F.ref09.Yield k t).bind fun v2 =>
    F.ref09.spans_j1 k from_ none_ t g57 (IntKind.wrap .i64 (from_ + (v2.length : Int)))
  else
    F.ref09.spans_j1 k from_ none_ t g57 from_
def F.ref09.spans : Nat → Tree → Int → Bool → Option (List Run)
  | 0 => (fun _ _ _ => none)
  | k + 1 => F.ref09.spans_B k (F.ref09.spans k)

-- 36 tracery/traceryref09.Spans
def F.ref09.Spans (k : Nat) (t : Tree) : Option (List Run) :=
  (F.ref09.spans k t 0 false).bind fun v =>
  some v

-- 35 tracery/traceryref01.SameRuns
def F.ref01.SameRuns_l1 (a_ : List Run) (b : List Run) : Nat → Int → Option (LR Unit Bool)
  | 0, _ => none
  | j + 1, i =>
      if decide (i < (a_.length : Int)) then
        if inR i a_.length then
          if inR i b.length then
            if !((((at_ a_ i).Lo) == ((at_ b i).Lo)) && ((((at_ a_ i).Hi) == ((at_ b i).Hi)) && true)) then
              some (.ret false)
            else
              (F.ref01.SameRuns_l1 a_ b j) (IntKind.wrap .i64 (i + 1))
          else none
        else none
      else
        some (.done ())
def F.ref01.SameRuns (k : Nat) (a_ : List Run) (b : List Run) : Option Bool :=
  if ((a_.length : Int) != (b.length : Int)) then
    some false
  else
    (F.ref01.SameRuns_l1 a_ b k 0).bind fun o1 =>
    o1.fin fun d1 =>
    some true

-- 11 tracery/tracerylaw09.TreesTell
def F.law09.TreesTell_j1 (t2 : Bool) : Option Bool :=
    some t2
def F.law09.TreesTell (k : Nat) (t : Tree) : Option Bool :=
  (F.law09.heavy k t).bind fun v =>
  if v then
    (F.law09.alive k).bind fun v1 =>
    some v1
  else
    (F.trees.Size k t).bind fun v2 =>
    (F.ref09.Size k t).bind fun v3 =>
    (F.trees.Spans k t).bind fun v4 =>
    (F.law09.alive k).bind fun v5 =>
    if v5 then
      if (v2.1 == v3.1) then
        if (v2.2 == v3.2) then
          (F.trees.Yield k t).bind fun v6 =>
          (F.ref09.Yield k t).bind fun v7 =>
          if ((toS v6) == (toS v7)) then
            (F.ref09.Spans k t).bind fun v8 =>
            (F.ref01.SameRuns k v4 v8).bind fun v9 =>
            F.law09.TreesTell_j1 v9
          else
            F.law09.TreesTell_j1 false
        else
          F.law09.TreesTell_j1 false
      else
        F.law09.TreesTell_j1 false
    else
      F.law09.TreesTell_j1 false

-- 12 tracery/tracerylaw09.TreesYield
def F.law09.TreesYield_j4 (rec_1 : Int → Option (LR Unit Bool)) (i : Int) (t125 : Bool) : Option (LR Unit Bool) :=
    if t125 then
      some (.ret false)
    else
      rec_1 (IntKind.wrap .i64 (i + 1))
def F.law09.TreesYield_l3 (v3 : List Run) : Nat → Int → Option (LR Unit Bool)
  | 0, _ => none
  | j + 1, i =>
      if decide (i < (v3.length : Int)) then
        if inR i v3.length then
          if decide (((at_ v3 i).Lo) < 0) then
            F.law09.TreesYield_j4 (F.law09.TreesYield_l3 v3 j) i true
          else
            if decide (((at_ v3 i).Hi) < ((at_ v3 i).Lo)) then
              F.law09.TreesYield_j4 (F.law09.TreesYield_l3 v3 j) i true
            else
              if inR 0 v3.length then
                if decide (((at_ v3 0).Hi) < ((at_ v3 i).Hi)) then
                  F.law09.TreesYield_j4 (F.law09.TreesYield_l3 v3 j) i true
                else
                  if decide (0 < i) then
                    if inR (IntKind.wrap .i64 (i - 1)) v3.length then
                      F.law09.TreesYield_j4 (F.law09.TreesYield_l3 v3 j) i (decide (((at_ v3 i).Lo) < ((at_ v3 (IntKind.wrap .i64 (i - 1))).Lo)))
                    else none
                  else
                    F.law09.TreesYield_j4 (F.law09.TreesYield_l3 v3 j) i false
              else none
        else none
      else
        some (.done ())
def F.law09.TreesYield_j2 (k : Nat) (v3 : List Run) (t70 : Bool) : Option Bool :=
    if t70 then
      some false
    else
      (F.law09.TreesYield_l3 v3 k 0).bind fun o3 =>
      o3.fin fun d3 =>
      (F.law09.alive k).bind fun v4 =>
      some v4
def F.law09.TreesYield_j1 (k : Nat) (t : Tree) : Option Bool :=
    (F.trees.Size k t).bind fun v2 =>
    (F.trees.Spans k t).bind fun v3 =>
    if ((v3.length : Int) != v2.1) then
      F.law09.TreesYield_j2 k v3 true
    else
      if decide (v2.2 < 1) then
        F.law09.TreesYield_j2 k v3 true
      else
        if decide (v2.1 < v2.2) then
          F.law09.TreesYield_j2 k v3 true
        else
          if ((v3.length : Int) == 0) then
            F.law09.TreesYield_j2 k v3 true
          else
            if inR 0 v3.length then
              (F.trees.Yield k t).bind fun v5 =>
              F.law09.TreesYield_j2 k v3 (!((((at_ v3 0).Lo) == 0) && ((((at_ v3 0).Hi) == (v5.length : Int)) && true)))
            else none
def F.law09.TreesYield_l5 (k : Nat) (t : Tree) : Nat → List Int → Int → Option (List Int)
  | 0, _, _ => none
  | j + 1, all_, i1 =>
      if decide (i1 < (t.Kids.length : Int)) then
        if inR i1 t.Kids.length then
          (F.trees.Yield k (at_ t.Kids i1)).bind fun v6 =>
          if decide ((all_.length + v6.length) * 1 ≤ 140737488355328) then
            if decide (all_.length + v6.length ≤ 9223372036854775807) then
              (F.law09.TreesYield_l5 k t j) (all_ ++ v6) (IntKind.wrap .i64 (i1 + 1))
            else none
          else none
        else none
      else
        some all_
def F.law09.TreesYield_j6 (k : Nat) (t : Tree) (t35 : Bool) : Option Bool :=
    if t35 then
      some false
    else
      F.law09.TreesYield_j1 k t
def F.law09.TreesYield (k : Nat) (t : Tree) : Option Bool :=
  (F.law09.heavy k t).bind fun v =>
  if v then
    (F.law09.alive k).bind fun v1 =>
    some v1
  else
    if (t.Rule != (-1)) then
      (F.law09.TreesYield_l5 k t k ([] : List Int) 0).bind fun o5 =>
      (F.trees.Yield k t).bind fun v7 =>
      F.law09.TreesYield_j6 k t (!((toS o5) == (toS v7)))
    else
      F.law09.TreesYield_j1 k t

-- 25 tracery/traceryref09.At
def F.ref09.At_j1 (path : List Int) (t : Tree) (g25 : Tree → List Int → Option (Tree × Int)) (t23 : Bool) : Option (Tree × Int) :=
    if t23 then
      some ((Tree.mk 0 0 ([] : List Tree)), 4)
    else
      if inR 0 path.length then
        if inR (at_ path 0) t.Kids.length then
          (g25 (at_ t.Kids (at_ path 0)) (sub path 1 (path.length : Int))).bind fun v1 =>
          if okSub 1 (path.length : Int) path.length then
            some (v1.1, v1.2)
          else none
        else none
      else none
def F.ref09.At_B (k : Nat) (g25 : Tree → List Int → Option (Tree × Int)) (t : Tree) (path : List Int) : Option (Tree × Int) :=
  if ((path.length : Int) == 0) then
    (F.ref09.Copy k t).bind fun v =>
    some (v, 0)
  else
    if inR 0 path.length then
      if decide ((at_ path 0) < 0) then
        F.ref09.At_j1 path t g25 true
      else
        F.ref09.At_j1 path t g25 (decide ((t.Kids.length : Int) ≤ (at_ path 0)))
    else none
def F.ref09.At : Nat → Tree → List Int → Option (Tree × Int)
  | 0 => (fun _ _ => none)
  | k + 1 => F.ref09.At_B k (F.ref09.At k)

-- 27 tracery/traceryref09.Put
def F.ref09.Put_j4 (rec_1 : Int → List Tree → Option (List Tree)) (i : Int) (Rule_1 : Int) (Byte_1 : Int) (Kids_2 : List Tree) (Kids_3 : List Tree) : Option (List Tree) :=
    rec_1 (IntKind.wrap .i64 (i + 1)) Kids_3
def F.ref09.Put_j5 (Kids_1 : List Tree) (rec_1 : Int → List Tree → Option (List Tree)) (i : Int) (Rule_2 : Int) (Byte_2 : Int) (Kids_4 : List Tree) : Option (List Tree) :=
    if decide ((Kids_1.length + ([(Tree.mk Rule_2 Byte_2 Kids_4)] : List Tree).length) * 40 ≤ 140737488355328) then
      if decide (Kids_1.length + ([(Tree.mk Rule_2 Byte_2 Kids_4)] : List Tree).length ≤ 9223372036854775807) then
        F.ref09.Put_j4 rec_1 i Rule_2 Byte_2 Kids_4 (Kids_1 ++ ([(Tree.mk Rule_2 Byte_2 Kids_4)] : List Tree))
      else none
    else none
def F.ref09.Put_l3 (k : Nat) (t : Tree) (path : List Int) (Rule_ : Int) (Byte_ : Int) (Kids_ : List Tree) : Nat → Int → List Tree → Option (List Tree)
  | 0, _, _ => none
  | j + 1, i, Kids_1 =>
      if decide (i < (t.Kids.length : Int)) then
        if inR 0 path.length then
          if (i != (at_ path 0)) then
            if inR i t.Kids.length then
              (F.ref09.Copy k (at_ t.Kids i)).bind fun v1 =>
              F.ref09.Put_j5 Kids_1 (F.ref09.Put_l3 k t path Rule_ Byte_ Kids_ j) i v1.Rule v1.Byte v1.Kids
            else none
          else
            F.ref09.Put_j5 Kids_1 (F.ref09.Put_l3 k t path Rule_ Byte_ Kids_ j) i Rule_ Byte_ Kids_
        else none
      else
        some Kids_1
def F.ref09.Put_j2 (k : Nat) (t : Tree) (path : List Int) (Rule_ : Int) (Byte_ : Int) (Kids_ : List Tree) (e_ : Int) : Option (Tree × Int) :=
    if (e_ != 0) then
      some ((Tree.mk 0 0 ([] : List Tree)), e_)
    else
      (F.ref09.Put_l3 k t path Rule_ Byte_ Kids_ k 0 ([] : List Tree)).bind fun o3 =>
      some ((Tree.mk t.Rule t.Byte o3), e_)
def F.ref09.Put_j1 (k : Nat) (path : List Int) (t : Tree) (g27 : Tree → List Int → Tree → Option (Tree × Int)) (s : Tree) (t30 : Bool) : Option (Tree × Int) :=
    if t30 then
      some ((Tree.mk 0 0 ([] : List Tree)), 4)
    else
      if inR 0 path.length then
        if inR (at_ path 0) t.Kids.length then
          (g27 (at_ t.Kids (at_ path 0)) (sub path 1 (path.length : Int)) s).bind fun v2 =>
          if okSub 1 (path.length : Int) path.length then
            F.ref09.Put_j2 k t path v2.1.Rule v2.1.Byte v2.1.Kids v2.2
          else none
        else none
      else none
def F.ref09.Put_B (k : Nat) (g27 : Tree → List Int → Tree → Option (Tree × Int)) (t : Tree) (path : List Int) (s : Tree) : Option (Tree × Int) :=
  if ((path.length : Int) == 0) then
    (F.ref09.Copy k s).bind fun v =>
    some (v, 0)
  else
    if inR 0 path.length then
      if decide ((at_ path 0) < 0) then
        F.ref09.Put_j1 k path t g27 s true
      else
        F.ref09.Put_j1 k path t g27 s (decide ((t.Kids.length : Int) ≤ (at_ path 0)))
    else none
def F.ref09.Put : Nat → Tree → List Int → Tree → Option (Tree × Int)
  | 0 => (fun _ _ _ => none)
  | k + 1 => F.ref09.Put_B k (F.ref09.Put k)

-- 7 tracery/tracerylaw09.TreesParts
def F.law09.TreesParts_j2 (k : Nat) (v5 : Tree × Int) (Rule_1 : Int) (Byte_1 : Int) (Kids_1 : List Tree) (Rule_ : Int) (Byte_ : Int) (Kids_ : List Tree) (t : Tree) (v7 : Tree × Int) (v8 : Tree × Int) (t78 : Bool) : Option Bool :=
    if t78 then
      some false
    else
      (F.law09.spoil v5.1).bind fun v9 =>
      (F.law09.spoil (Tree.mk Rule_1 Byte_1 Kids_1)).bind fun v10 =>
      (F.ref09.Same k (Tree.mk Rule_ Byte_ Kids_) t).bind fun v11 =>
      if !v11 then
        some false
      else
        (F.ref09.Same k v7.1 v8.1).bind fun v12 =>
        if !v12 then
          some false
        else
          (F.law09.spoil (Tree.mk Rule_ Byte_ Kids_)).bind fun v13 =>
          (F.law09.alive k).bind fun v14 =>
          if v14 then
            some v12
          else
            some false
def F.law09.TreesParts_j1 (k : Nat) (path : List Int) (t : Tree) (s : Tree) (Rule_ : Int) (Byte_ : Int) (Kids_ : List Tree) (Rule_1 : Int) (Byte_1 : Int) (Kids_1 : List Tree) : Option Bool :=
    (F.trees.At k (Tree.mk Rule_ Byte_ Kids_) path).bind fun v5 =>
    (F.ref09.At k t path).bind fun v6 =>
    (F.trees.Put k (Tree.mk Rule_ Byte_ Kids_) path (Tree.mk Rule_1 Byte_1 Kids_1)).bind fun v7 =>
    (F.ref09.Put k t path s).bind fun v8 =>
    if (v5.2 != v6.2) then
      F.law09.TreesParts_j2 k v5 Rule_1 Byte_1 Kids_1 Rule_ Byte_ Kids_ t v7 v8 true
    else
      if (v7.2 != v8.2) then
        F.law09.TreesParts_j2 k v5 Rule_1 Byte_1 Kids_1 Rule_ Byte_ Kids_ t v7 v8 true
      else
        (F.ref09.Same k v5.1 v6.1).bind fun v15 =>
        if !v15 then
          F.law09.TreesParts_j2 k v5 Rule_1 Byte_1 Kids_1 Rule_ Byte_ Kids_ t v7 v8 true
        else
          (F.ref09.Same k v7.1 v8.1).bind fun v16 =>
          F.law09.TreesParts_j2 k v5 Rule_1 Byte_1 Kids_1 Rule_ Byte_ Kids_ t v7 v8 (!v16)
def F.law09.TreesParts (k : Nat) (t : Tree) (path : List Int) (s : Tree) : Option Bool :=
  (F.law09.heavy k t).bind fun v =>
  if v then
    (F.law09.alive k).bind fun v1 =>
    some v1
  else
    (F.law09.heavy k s).bind fun v2 =>
    if v2 then
      (F.law09.alive k).bind fun v3 =>
      some v3
    else
      if decide (1000 < (path.length : Int)) then
        (F.law09.alive k).bind fun v4 =>
        some v4
      else
        (F.ref09.Copy k t).bind fun v17 =>
        (F.ref09.Copy k s).bind fun v18 =>
        F.law09.TreesParts_j1 k path t s v17.Rule v17.Byte v17.Kids v18.Rule v18.Byte v18.Kids
end Go.Vc
