import Derived.Test.YtdbnoblklhgdoaaGreatDoorVcU
import Derived.Lib.ItoaNum
import Derived.Lib.Bytealg
import Derived.Shelf.Strings.OnBuilder
set_option linter.unusedVariables false
set_option linter.unusedSimpArgs false
namespace Go.Vc
open Go
structure Strings_Builder where
 addr : Bool
 buf : List Int
instance : Inhabited Strings_Builder := ⟨⟨default, default⟩⟩
structure Word where
 Kind : Int
 Text : List UInt8
 Bytes : List Int
 Set : S4
 N_ : Int
 At : Int
 Line : Int
 Col : Int
instance : Inhabited Word := ⟨⟨default, default, default, default, default, default, default, default⟩⟩
def eWord (x : Word) : List Dc := [.int .i64 x.Kind, .str x.Text, .slice 1 (x.Bytes.map eU8), .int .u64 x.Set.w0, .int .u64 x.Set.w1, .int .u64 x.Set.w2, .int .u64 x.Set.w3, .int .i64 x.N_, .int .i64 x.At, .int .i64 x.Line, .int .i64 x.Col]
structure Words_scanner where
 text : List UInt8
 at_ : Int
 line : Int
 top : Int
 out : List Word
instance : Inhabited Words_scanner := ⟨⟨default, default, default, default, default⟩⟩
structure Fault where
 At : Int
 Code : Int
instance : Inhabited Fault := ⟨⟨default, default⟩⟩
structure Charset_reader where
 text : List UInt8
 at_ : Int
instance : Inhabited Charset_reader := ⟨⟨default, default⟩⟩
structure Sym where
 Kind : Int
 Text : List UInt8
 Set : S4
 Name : List UInt8
 Sep : List UInt8
instance : Inhabited Sym := ⟨⟨default, default, default, default, default⟩⟩
def eSym (x : Sym) : List Dc := [.int .i64 x.Kind, .str x.Text, .int .u64 x.Set.w0, .int .u64 x.Set.w1, .int .u64 x.Set.w2, .int .u64 x.Set.w3, .str x.Name, .str x.Sep]
structure Prod where
 Lex : Bool
 Sort_ : List UInt8
 Cons : List UInt8
 Bracket : Bool
 Syms : List Sym
instance : Inhabited Prod := ⟨⟨default, default, default, default, default⟩⟩
def eProd (x : Prod) : List Dc := [.bool x.Lex, .str x.Sort_, .str x.Cons, .bool x.Bracket, .slice 8 (x.Syms.map eSym)]
structure Group where
 Assoc : Int
 Cons : List (List UInt8)
instance : Inhabited Group := ⟨⟨default, default⟩⟩
def eGroup (x : Group) : List Dc := [.int .i64 x.Assoc, .slice 1 (x.Cons.map eStr)]
structure Follow where
 Sort_ : List UInt8
 Set : S4
instance : Inhabited Follow := ⟨⟨default, default⟩⟩
def eFollow (x : Follow) : List Dc := [.str x.Sort_, .int .u64 x.Set.w0, .int .u64 x.Set.w1, .int .u64 x.Set.w2, .int .u64 x.Set.w3]
structure Reject where
 Sort_ : List UInt8
 By : List UInt8
instance : Inhabited Reject := ⟨⟨default, default⟩⟩
def eReject (x : Reject) : List Dc := [.str x.Sort_, .str x.By]
structure Item where
 Kind : Int
 Text : List UInt8
 N_ : Int
 Items : List Item
instance : Inhabited Item := ⟨⟨default, default, default, []⟩⟩
mutual
def eItem : Item → List Dc
 | .mk Kind Text N_ Items => [.int .i64 Kind, .str Text, .int .i64 N_, .slice 4 (eItems Items)]
def eItems : List Item → List (List Dc)
 | [] => []
 | x :: r => eItem x :: eItems r
end
theorem eItems_map : ∀ l, eItems l = l.map eItem
 | [] => rfl
 | x :: r => by simp only [eItems, List.map]; rw [eItems_map r]
theorem eItem_eq (x : Item) : eItem x = [.int .i64 x.Kind, .str x.Text, .int .i64 x.N_, .slice 4 (x.Items.map eItem)] := by cases x; simp only [eItem, eItems_map]
structure Box where
 Cons : List UInt8
 Items : List Item
instance : Inhabited Box := ⟨⟨default, default⟩⟩
def eBox (x : Box) : List Dc := [.str x.Cons, .slice 4 (x.Items.map eItem)]
structure Def where
 Start : List UInt8
 Layout : List UInt8
 Prods : List Prod
 Chains : List (List Group)
 Follows : List Follow
 Rejects : List Reject
 Boxes : List Box
instance : Inhabited Def := ⟨⟨default, default, default, default, default, default, default⟩⟩
structure Defs_reader where
 l_ : List Word
 at_ : Int
 d : Def
 start : Bool
 layout : Bool
 items : Int
instance : Inhabited Defs_reader := ⟨⟨default, default, default, default, default, default⟩⟩
structure Run where
 Lo : Int
 Hi : Int
instance : Inhabited Run := ⟨⟨default, default⟩⟩
def eRun (x : Run) : List Dc := [.int .i64 x.Lo, .int .i64 x.Hi]
def F.strings.copyCheck (x : Strings_Builder) : Option Strings_Builder := some ⟨true, x.buf⟩
def F.strings.Builder_String (x : Strings_Builder) : Option (List UInt8) := if x.buf.all okB then some (toS x.buf) else none
def F.strings.IndexByte (s : List UInt8) (c : Int) : Option Int := some (Lib.indexByte s c.toNat.toUInt8)
def F.strings.Join (xs : List (List UInt8)) (sep : List UInt8) : Option (List UInt8) := if decide (xs.length ≤ 140737488355328) && decide ((Lib.join xs sep).length ≤ 140737488355328) then some (Lib.join xs sep) else none
def F.strconv.Itoa (n : Int) : Option (List UInt8) := if decide (-9223372036854775808 ≤ n) && decide (n ≤ 9223372036854775807) then some (Lib.itoa n) else none
def F.charset.Has (s : S4) (b : Int) : Option Bool :=
 if inR (gquo .u8 b 64) 4 then
 if decide ((grem b 64) < 0) then none else
 some ((gand .u64 (gshr .u64 (S4.get s (gquo .u8 b 64)) (grem b 64)) 1) == 1)
 else none
def hasB (s : S4) (i : Int) : Bool := (F.charset.Has s i).getD false
def upTo (s : S4) (n : Nat) : List Int := ((List.range n).map Int.ofNat).filter (hasB s)
def allB (s : S4) : List Int := upTo s 256
def F.words.scanner_skip_j2 (rec_1 : Int → Int → Int → Option (LR (Int × Int × Int) Words_scanner)) (at__1 : Int) (line_1 : Int) (top_1 : Int) : Option (LR (Int × Int × Int) Words_scanner) :=
 rec_1 at__1 line_1 top_1
def F.words.scanner_skip_j3 (rec_1 : Int → Int → Int → Option (LR (Int × Int × Int) Words_scanner)) (at__ : Int) (line_2 : Int) (top_2 : Int) : Option (LR (Int × Int × Int) Words_scanner) :=
 F.words.scanner_skip_j2 rec_1 (IntKind.wrap .i64 (at__ + 1)) line_2 top_2
def F.words.scanner_skip_j4 (rec_1 : Int → Int → Int → Option (LR (Int × Int × Int) Words_scanner)) (at__ : Int) (line_3 : Int) (top_3 : Int) : Option (LR (Int × Int × Int) Words_scanner) :=
 F.words.scanner_skip_j3 rec_1 at__ line_3 top_3
def F.words.scanner_skip_j7 (rec_2 : Int → Option Int) (at__2 : Int) (t65 : Bool) : Option Int :=
 if t65 then
 rec_2 (IntKind.wrap .i64 (at__2 + 1))
 else
 some at__2
def F.words.scanner_skip_l6 (s : Words_scanner) : Nat → Int → Option Int
 | 0, _ => none
 | j + 1, at__2 =>
  if decide (at__2 < (s.text.length : Int)) then
  if inR at__2 s.text.length then
  F.words.scanner_skip_j7 (F.words.scanner_skip_l6 s j) at__2 ((sAt s.text at__2) != 10)
  else none
  else
  F.words.scanner_skip_j7 (F.words.scanner_skip_l6 s j) at__2 false
def F.words.scanner_skip_j5 (k : Nat) (rec_1 : Int → Int → Int → Option (LR (Int × Int × Int) Words_scanner)) (at__ : Int) (line_ : Int) (top_ : Int) (s : Words_scanner) (t38 : Bool) : Option (LR (Int × Int × Int) Words_scanner) :=
 if t38 then
 F.words.scanner_skip_j4 rec_1 at__ line_ top_
 else
 if ((sAt s.text at__) == 35) then
 (F.words.scanner_skip_l6 s k at__).bind fun o6 =>
 F.words.scanner_skip_j2 rec_1 o6 line_ top_
 else
 some (.ret (Words_scanner.mk s.text at__ line_ top_ s.out))
def F.words.scanner_skip_j8 (k : Nat) (rec_1 : Int → Int → Int → Option (LR (Int × Int × Int) Words_scanner)) (at__ : Int) (line_ : Int) (top_ : Int) (s : Words_scanner) (t381 : Bool) : Option (LR (Int × Int × Int) Words_scanner) :=
 F.words.scanner_skip_j5 k rec_1 at__ line_ top_ s t381
def F.words.scanner_skip_l1 (k : Nat) (s : Words_scanner) : Nat → Int → Int → Int → Option (LR (Int × Int × Int) Words_scanner)
 | 0, _, _, _ => none
 | j + 1, at__, line_, top_ =>
  if decide (at__ < (s.text.length : Int)) then
  if inR at__ s.text.length then
  if ((sAt s.text at__) == 10) then
  F.words.scanner_skip_j4 (F.words.scanner_skip_l1 k s j) at__ (IntKind.wrap .i64 (line_ + 1)) (IntKind.wrap .i64 (at__ + 1))
  else
  if ((sAt s.text at__) == 32) then
  F.words.scanner_skip_j5 k (F.words.scanner_skip_l1 k s j) at__ line_ top_ s ((sAt s.text at__) == 32)
  else
  if ((sAt s.text at__) == 9) then
  F.words.scanner_skip_j8 k (F.words.scanner_skip_l1 k s j) at__ line_ top_ s ((sAt s.text at__) == 9)
  else
  F.words.scanner_skip_j8 k (F.words.scanner_skip_l1 k s j) at__ line_ top_ s ((sAt s.text at__) == 13)
  else none
  else
  some (.done (at__, line_, top_))
def F.words.scanner_skip (k : Nat) (s : Words_scanner) : Option Words_scanner :=
 (F.words.scanner_skip_l1 k s k s.at_ s.line s.top).bind fun o1 =>
 o1.fin fun d1 =>
 some (Words_scanner.mk s.text d1.1 d1.2.1 d1.2.2 s.out)
def F.words.great (r_ : Int) : Option Bool :=
 if decide (65 ≤ r_) then
 some (decide (r_ ≤ 90))
 else
 some false
def F.words.small (r_ : Int) : Option Bool :=
 if decide (97 ≤ r_) then
 some (decide (r_ ≤ 122))
 else
 some false
def F.words.digit (r_ : Int) : Option Bool :=
 if decide (48 ≤ r_) then
 some (decide (r_ ≤ 57))
 else
 some false
def F.words.run_j2 (rec_1 : Int → Option (LR Unit Int)) (v : Int) (s : List UInt8) : Option (LR Unit Int) :=
 rec_1 (v + runeLen s v)
def F.words.run_j3 (v : Int) (rec_1 : Int → Option (LR Unit Int)) (s : List UInt8) (t23 : Bool) : Option (LR Unit Int) :=
 if t23 then
 some (.ret v)
 else
 F.words.run_j2 rec_1 v s
def F.words.run_l1 (s : List UInt8) : Nat → Int → Option (LR Unit Int)
 | 0, _ => none
 | j + 1, v =>
  if decide (v < (s.length : Int)) then
  (F.words.great (runeAt s v)).bind fun v1 =>
  if !v1 then
  (F.words.small (runeAt s v)).bind fun v2 =>
  if !v2 then
  (F.words.digit (runeAt s v)).bind fun v3 =>
  F.words.run_j3 v (F.words.run_l1 s j) s (!v3)
  else
  F.words.run_j3 v (F.words.run_l1 s j) s false
  else
  F.words.run_j3 v (F.words.run_l1 s j) s false
  else
  some (.done ())
def F.words.run (k : Nat) (s : List UInt8) : Option Int :=
 (F.words.run_l1 s k 0).bind fun o1 =>
 o1.fin fun d1 =>
 some (s.length : Int)
def F.words.scanner_put (s : Words_scanner) (w_ : Word) (end_ : Int) : Option Words_scanner :=
 if okSub s.at_ end_ s.text.length then
 if decide ((s.out.length + ([(Word.mk w_.Kind (sub s.text s.at_ end_) w_.Bytes w_.Set w_.N_ s.at_ s.line (IntKind.wrap .i64 ((IntKind.wrap .i64 (s.at_ - s.top)) + 1)))] : List Word).length) * 112 ≤ 140737488355328) then
 if decide (s.out.length + ([(Word.mk w_.Kind (sub s.text s.at_ end_) w_.Bytes w_.Set w_.N_ s.at_ s.line (IntKind.wrap .i64 ((IntKind.wrap .i64 (s.at_ - s.top)) + 1)))] : List Word).length ≤ 9223372036854775807) then
 some (Words_scanner.mk s.text end_ s.line s.top (s.out ++ ([(Word.mk w_.Kind (sub s.text s.at_ end_) w_.Bytes w_.Set w_.N_ s.at_ s.line (IntKind.wrap .i64 ((IntKind.wrap .i64 (s.at_ - s.top)) + 1)))] : List Word)))
 else none
 else none
 else none
def F.words.scanner_number_j2 (end_ : Int) (s : Words_scanner) (rec_1 : Int → Int → Option (LR (Int × Int) (Int × Words_scanner))) (n : Int) (t25 : Bool) : Option (LR (Int × Int) (Int × Words_scanner)) :=
 if t25 then
 if ((IntKind.wrap .i64 (end_ - s.at_)) == 6) then
 some (.ret (21, s))
 else
 if inR end_ s.text.length then
 rec_1 (IntKind.wrap .i64 (end_ + 1)) (IntKind.wrap .i64 ((IntKind.wrap .i64 (10 * n)) + (IntKind.wrap .i64 (IntKind.wrap .u8 ((sAt s.text end_) - 48)))))
 else none
 else
 some (.done (end_, n))
def F.words.scanner_number_l1 (s : Words_scanner) : Nat → Int → Int → Option (LR (Int × Int) (Int × Words_scanner))
 | 0, _, _ => none
 | j + 1, end_, n =>
  if decide (end_ < (s.text.length : Int)) then
  if inR end_ s.text.length then
  (F.words.digit (IntKind.wrap .i32 (sAt s.text end_))).bind fun v =>
  F.words.scanner_number_j2 end_ s (F.words.scanner_number_l1 s j) n v
  else none
  else
  F.words.scanner_number_j2 end_ s (F.words.scanner_number_l1 s j) n false
def F.words.scanner_number_j3 (s : Words_scanner) (d1 : Int × Int) (t64 : Bool) : Option (Int × Words_scanner) :=
 if t64 then
 some (21, s)
 else
 (F.words.scanner_put s (Word.mk 3 ([] : List UInt8) ([] : List Int) (S4.mk 0 0 0 0) d1.2 0 0 0) d1.1).bind fun v1 =>
 some (0, v1)
def F.words.scanner_number (k : Nat) (s : Words_scanner) : Option (Int × Words_scanner) :=
 (F.words.scanner_number_l1 s k s.at_ 0).bind fun o1 =>
 o1.fin fun d1 =>
 if inR s.at_ s.text.length then
 if ((sAt s.text s.at_) == 48) then
 F.words.scanner_number_j3 s d1 (decide ((IntKind.wrap .i64 (s.at_ + 1)) < d1.1))
 else
 F.words.scanner_number_j3 s d1 false
 else none
def F.words.value_j1 : Option Int :=
 some (-1)
def F.words.value_j3 : Option Int :=
 F.words.value_j1
def F.words.value_j5 (c : Int) (t24 : Bool) : Option Int :=
 if t24 then
 some (IntKind.wrap .i64 ((IntKind.wrap .i64 (IntKind.wrap .u8 (c - 65))) + 10))
 else
 F.words.value_j3
def F.words.value_j4 (c : Int) (t13 : Bool) : Option Int :=
 if t13 then
 some (IntKind.wrap .i64 ((IntKind.wrap .i64 (IntKind.wrap .u8 (c - 97))) + 10))
 else
 if decide (65 ≤ c) then
 F.words.value_j5 c (decide (c ≤ 70))
 else
 F.words.value_j5 c false
def F.words.value_j2 (c : Int) (t3 : Bool) : Option Int :=
 if t3 then
 some (IntKind.wrap .i64 (IntKind.wrap .u8 (c - 48)))
 else
 if decide (97 ≤ c) then
 F.words.value_j4 c (decide (c ≤ 102))
 else
 F.words.value_j4 c false
def F.words.value (c : Int) : Option Int :=
 if decide (48 ≤ c) then
 F.words.value_j2 c (decide (c ≤ 57))
 else
 F.words.value_j2 c false
def F.words.escape_j2 : Option (Int × Int) :=
 some (0, 0)
def F.words.escape_j3 : Option (Int × Int) :=
 F.words.escape_j2
def F.words.escape_j4 (s : List UInt8) (t36 : Bool) : Option (Int × Int) :=
 if t36 then
 if inR 2 s.length then
 if inR 3 s.length then
 (F.words.value (sAt s 2)).bind fun v =>
 (F.words.value (sAt s 3)).bind fun v1 =>
 some (IntKind.wrap .u8 (IntKind.wrap .i64 ((IntKind.wrap .i64 (16 * v)) + v1)), 4)
 else none
 else none
 else
 F.words.escape_j3
def F.words.escape_j1 (s : List UInt8) (t9 : Bool) : Option (Int × Int) :=
 if t9 then
 some (sAt s 1, 2)
 else
 if ((sAt s 1) == 110) then
 some (10, 2)
 else
 if ((sAt s 1) == 116) then
 some (9, 2)
 else
 if ((sAt s 1) == 114) then
 some (13, 2)
 else
 if ((sAt s 1) == 120) then
 if decide (4 ≤ (s.length : Int)) then
 if inR 2 s.length then
 (F.words.value (sAt s 2)).bind fun v2 =>
 if decide (0 ≤ v2) then
 if inR 3 s.length then
 (F.words.value (sAt s 3)).bind fun v3 =>
 F.words.escape_j4 s (decide (0 ≤ v3))
 else none
 else
 F.words.escape_j4 s false
 else none
 else
 F.words.escape_j4 s false
 else
 F.words.escape_j3
def F.words.escape (s : List UInt8) : Option (Int × Int) :=
 if decide ((s.length : Int) < 2) then
 some (0, 0)
 else
 if inR 1 s.length then
 if ((sAt s 1) == 34) then
 F.words.escape_j1 s ((sAt s 1) == 34)
 else
 F.words.escape_j1 s ((sAt s 1) == 92)
 else none
def F.words.quoted_j2 (rec_1 : List Int → Int → Option (LR Unit (List Int × Int × Fault))) (out_1 : List Int) (i1 : Int) : Option (LR Unit (List Int × Int × Fault)) :=
 rec_1 out_1 i1
def F.words.quoted_j3 (rec_1 : List Int → Int → Option (LR Unit (List Int × Int × Fault))) (out_2 : List Int) (i2 : Int) : Option (LR Unit (List Int × Int × Fault)) :=
 F.words.quoted_j2 rec_1 out_2 i2
def F.words.quoted_j4 (rec_1 : List Int → Int → Option (LR Unit (List Int × Int × Fault))) (out_3 : List Int) (i3 : Int) : Option (LR Unit (List Int × Int × Fault)) :=
 F.words.quoted_j3 rec_1 out_3 i3
def F.words.quoted_j5 (rec_1 : List Int → Int → Option (LR Unit (List Int × Int × Fault))) (out_4 : List Int) (i4 : Int) : Option (LR Unit (List Int × Int × Fault)) :=
 F.words.quoted_j4 rec_1 out_4 i4
def F.words.quoted_j6 (i : Int) (out_ : List Int) (text_ : List UInt8) (rec_1 : List Int → Int → Option (LR Unit (List Int × Int × Fault))) (t55 : Bool) : Option (LR Unit (List Int × Int × Fault)) :=
 if t55 then
 some (.ret (([] : List Int), 0, (Fault.mk i 11)))
 else
 if decide ((out_.length + ([sAt text_ i] : List Int).length) * 1 ≤ 140737488355328) then
 if decide (out_.length + ([sAt text_ i] : List Int).length ≤ 9223372036854775807) then
 F.words.quoted_j5 rec_1 (out_ ++ ([sAt text_ i] : List Int)) (IntKind.wrap .i64 (i + 1))
 else none
 else none
def F.words.quoted_l1 (text_ : List UInt8) : Nat → List Int → Int → Option (LR Unit (List Int × Int × Fault))
 | 0, _, _ => none
 | j + 1, out_, i =>
  if decide (i < (text_.length : Int)) then
  if inR i text_.length then
  if ((sAt text_ i) == 34) then
  some (.ret (out_, IntKind.wrap .i64 (i + 1), (Fault.mk 0 0)))
  else
  if ((sAt text_ i) == 92) then
  if okSub i (text_.length : Int) text_.length then
  (F.words.escape (sub text_ i (text_.length : Int))).bind fun v =>
  if (v.2 == 0) then
  some (.ret (([] : List Int), 0, (Fault.mk i 12)))
  else
  if decide ((out_.length + ([v.1] : List Int).length) * 1 ≤ 140737488355328) then
  if decide (out_.length + ([v.1] : List Int).length ≤ 9223372036854775807) then
  F.words.quoted_j5 (F.words.quoted_l1 text_ j) (out_ ++ ([v.1] : List Int)) (IntKind.wrap .i64 (i + v.2))
  else none
  else none
  else none
  else
  if decide ((sAt text_ i) < 32) then
  F.words.quoted_j6 i out_ text_ (F.words.quoted_l1 text_ j) true
  else
  F.words.quoted_j6 i out_ text_ (F.words.quoted_l1 text_ j) (decide (126 < (sAt text_ i)))
  else none
  else
  some (.done ())
def F.words.quoted (k : Nat) (text_ : List UInt8) (at__ : Int) : Option (List Int × Int × Fault) :=
 (F.words.quoted_l1 text_ k ([] : List Int) (IntKind.wrap .i64 (at__ + 1))).bind fun o1 =>
 o1.fin fun d1 =>
 some (([] : List Int), 0, (Fault.mk at__ 13))
def F.charset.digit_j1 : Option Int :=
 some (-1)
def F.charset.digit_j3 : Option Int :=
 F.charset.digit_j1
def F.charset.digit_j5 (c : Int) (t24 : Bool) : Option Int :=
 if t24 then
 some (IntKind.wrap .i64 ((IntKind.wrap .i64 (IntKind.wrap .u8 (c - 65))) + 10))
 else
 F.charset.digit_j3
def F.charset.digit_j4 (c : Int) (t13 : Bool) : Option Int :=
 if t13 then
 some (IntKind.wrap .i64 ((IntKind.wrap .i64 (IntKind.wrap .u8 (c - 97))) + 10))
 else
 if decide (65 ≤ c) then
 F.charset.digit_j5 c (decide (c ≤ 70))
 else
 F.charset.digit_j5 c false
def F.charset.digit_j2 (c : Int) (t3 : Bool) : Option Int :=
 if t3 then
 some (IntKind.wrap .i64 (IntKind.wrap .u8 (c - 48)))
 else
 if decide (97 ≤ c) then
 F.charset.digit_j4 c (decide (c ≤ 102))
 else
 F.charset.digit_j4 c false
def F.charset.digit (c : Int) : Option Int :=
 if decide (48 ≤ c) then
 F.charset.digit_j2 c (decide (c ≤ 57))
 else
 F.charset.digit_j2 c false
def F.charset.reader_escaped_j1 (r_ : Charset_reader) : Option (Int × Fault × Charset_reader) :=
 some (0, (Fault.mk r_.at_ 12), (Charset_reader.mk r_.text (IntKind.wrap .i64 (r_.at_ + 2))))
def F.charset.reader_escaped_j2 (r_ : Charset_reader) : Option (Int × Fault × Charset_reader) :=
 F.charset.reader_escaped_j1 r_
def F.charset.reader_escaped_j4 (r_ : Charset_reader) : Option (Int × Fault × Charset_reader) :=
 F.charset.reader_escaped_j2 r_
def F.charset.reader_escaped_j5 (r_ : Charset_reader) (t71 : Bool) : Option (Int × Fault × Charset_reader) :=
 if t71 then
 if inR 1 (sub r_.text (IntKind.wrap .i64 (r_.at_ + 1)) (r_.text.length : Int)).length then
 if inR 2 (sub r_.text (IntKind.wrap .i64 (r_.at_ + 1)) (r_.text.length : Int)).length then
 (F.charset.digit (sAt (sub r_.text (IntKind.wrap .i64 (r_.at_ + 1)) (r_.text.length : Int)) 1)).bind fun v =>
 (F.charset.digit (sAt (sub r_.text (IntKind.wrap .i64 (r_.at_ + 1)) (r_.text.length : Int)) 2)).bind fun v1 =>
 some (IntKind.wrap .i64 ((IntKind.wrap .i64 (16 * v)) + v1), (Fault.mk 0 0), (Charset_reader.mk r_.text (IntKind.wrap .i64 ((IntKind.wrap .i64 (r_.at_ + 2)) + 2))))
 else none
 else none
 else
 F.charset.reader_escaped_j4 r_
def F.charset.reader_escaped_j3 (r_ : Charset_reader) (t45 : Bool) : Option (Int × Fault × Charset_reader) :=
 if t45 then
 some (IntKind.wrap .i64 (sAt (sub r_.text (IntKind.wrap .i64 (r_.at_ + 1)) (r_.text.length : Int)) 0), (Fault.mk 0 0), (Charset_reader.mk r_.text (IntKind.wrap .i64 (r_.at_ + 2))))
 else
 if ((sAt (sub r_.text (IntKind.wrap .i64 (r_.at_ + 1)) (r_.text.length : Int)) 0) == 120) then
 if decide (3 ≤ ((sub r_.text (IntKind.wrap .i64 (r_.at_ + 1)) (r_.text.length : Int)).length : Int)) then
 if inR 1 (sub r_.text (IntKind.wrap .i64 (r_.at_ + 1)) (r_.text.length : Int)).length then
 (F.charset.digit (sAt (sub r_.text (IntKind.wrap .i64 (r_.at_ + 1)) (r_.text.length : Int)) 1)).bind fun v2 =>
 if decide (0 ≤ v2) then
 if inR 2 (sub r_.text (IntKind.wrap .i64 (r_.at_ + 1)) (r_.text.length : Int)).length then
 (F.charset.digit (sAt (sub r_.text (IntKind.wrap .i64 (r_.at_ + 1)) (r_.text.length : Int)) 2)).bind fun v3 =>
 F.charset.reader_escaped_j5 r_ (decide (0 ≤ v3))
 else none
 else
 F.charset.reader_escaped_j5 r_ false
 else none
 else
 F.charset.reader_escaped_j5 r_ false
 else
 F.charset.reader_escaped_j4 r_
def F.charset.reader_escaped_j6 (r_ : Charset_reader) (t451 : Bool) : Option (Int × Fault × Charset_reader) :=
 F.charset.reader_escaped_j3 r_ t451
def F.charset.reader_escaped (r_ : Charset_reader) : Option (Int × Fault × Charset_reader) :=
 if okSub (IntKind.wrap .i64 (r_.at_ + 1)) (r_.text.length : Int) r_.text.length then
 if ((sub r_.text (IntKind.wrap .i64 (r_.at_ + 1)) (r_.text.length : Int)) == ([] : List UInt8)) then
 some (0, (Fault.mk r_.at_ 12), r_)
 else
 if inR 0 (sub r_.text (IntKind.wrap .i64 (r_.at_ + 1)) (r_.text.length : Int)).length then
 if ((sAt (sub r_.text (IntKind.wrap .i64 (r_.at_ + 1)) (r_.text.length : Int)) 0) == 110) then
 some (10, (Fault.mk 0 0), (Charset_reader.mk r_.text (IntKind.wrap .i64 (r_.at_ + 2))))
 else
 if ((sAt (sub r_.text (IntKind.wrap .i64 (r_.at_ + 1)) (r_.text.length : Int)) 0) == 116) then
 some (9, (Fault.mk 0 0), (Charset_reader.mk r_.text (IntKind.wrap .i64 (r_.at_ + 2))))
 else
 if ((sAt (sub r_.text (IntKind.wrap .i64 (r_.at_ + 1)) (r_.text.length : Int)) 0) == 114) then
 some (13, (Fault.mk 0 0), (Charset_reader.mk r_.text (IntKind.wrap .i64 (r_.at_ + 2))))
 else
 if ((sAt (sub r_.text (IntKind.wrap .i64 (r_.at_ + 1)) (r_.text.length : Int)) 0) == 115) then
 some (32, (Fault.mk 0 0), (Charset_reader.mk r_.text (IntKind.wrap .i64 (r_.at_ + 2))))
 else
 if ((sAt (sub r_.text (IntKind.wrap .i64 (r_.at_ + 1)) (r_.text.length : Int)) 0) == 91) then
 F.charset.reader_escaped_j3 r_ ((sAt (sub r_.text (IntKind.wrap .i64 (r_.at_ + 1)) (r_.text.length : Int)) 0) == 91)
 else
 if ((sAt (sub r_.text (IntKind.wrap .i64 (r_.at_ + 1)) (r_.text.length : Int)) 0) == 93) then
 F.charset.reader_escaped_j3 r_ ((sAt (sub r_.text (IntKind.wrap .i64 (r_.at_ + 1)) (r_.text.length : Int)) 0) == 93)
 else
 if ((sAt (sub r_.text (IntKind.wrap .i64 (r_.at_ + 1)) (r_.text.length : Int)) 0) == 92) then
 F.charset.reader_escaped_j6 r_ ((sAt (sub r_.text (IntKind.wrap .i64 (r_.at_ + 1)) (r_.text.length : Int)) 0) == 92)
 else
 if ((sAt (sub r_.text (IntKind.wrap .i64 (r_.at_ + 1)) (r_.text.length : Int)) 0) == 45) then
 F.charset.reader_escaped_j6 r_ ((sAt (sub r_.text (IntKind.wrap .i64 (r_.at_ + 1)) (r_.text.length : Int)) 0) == 45)
 else
 F.charset.reader_escaped_j6 r_ ((sAt (sub r_.text (IntKind.wrap .i64 (r_.at_ + 1)) (r_.text.length : Int)) 0) == 94)
 else none
 else none
def F.charset.reader_char_j1 (r_ : Charset_reader) (t57 : Bool) : Option (Int × Fault × Charset_reader) :=
 if t57 then
 some (0, (Fault.mk r_.at_ 11), r_)
 else
 some (IntKind.wrap .i64 (sAt r_.text r_.at_), (Fault.mk 0 0), (Charset_reader.mk r_.text (IntKind.wrap .i64 (r_.at_ + 1))))
def F.charset.reader_char (r_ : Charset_reader) : Option (Int × Fault × Charset_reader) :=
 if decide ((r_.text.length : Int) ≤ r_.at_) then
 some (0, (Fault.mk (r_.text.length : Int) 14), r_)
 else
 if inR r_.at_ r_.text.length then
 if ((sAt r_.text r_.at_) == 92) then
 (F.charset.reader_escaped r_).bind fun v =>
 some (v.1, v.2.1, v.2.2)
 else
 if decide ((sAt r_.text r_.at_) < 33) then
 F.charset.reader_char_j1 r_ true
 else
 if decide (126 < (sAt r_.text r_.at_)) then
 F.charset.reader_char_j1 r_ true
 else
 if ((sAt r_.text r_.at_) == 91) then
 F.charset.reader_char_j1 r_ true
 else
 if ((sAt r_.text r_.at_) == 93) then
 F.charset.reader_char_j1 r_ true
 else
 if ((sAt r_.text r_.at_) == 45) then
 F.charset.reader_char_j1 r_ true
 else
 F.charset.reader_char_j1 r_ ((sAt r_.text r_.at_) == 94)
 else none
def F.charset.Range_l1 (hi : Int) : Nat → Int → S4 → Option S4
 | 0, _, _ => none
 | j + 1, i, s =>
  if decide (i ≤ hi) then
  if inR (gquo .i64 i 64) 4 then
  if decide ((grem i 64) < 0) then none else
  (F.charset.Range_l1 hi j) (IntKind.wrap .i64 (i + 1)) (S4.set s (gquo .i64 i 64) (gor .u64 (S4.get s (gquo .i64 i 64)) (gshl .u64 1 (grem i 64))))
  else none
  else
  some s
def F.charset.Range (k : Nat) (lo : Int) (hi : Int) : Option (S4 × Int) :=
 if decide (lo < 0) then
 some ((S4.mk 0 0 0 0), 10)
 else
 if decide (255 < hi) then
 some ((S4.mk 0 0 0 0), 10)
 else
 if decide (hi < lo) then
 some ((S4.mk 0 0 0 0), 10)
 else
 (F.charset.Range_l1 hi k lo (S4.mk 0 0 0 0)).bind fun o1 =>
 some (o1, 0)
def F.charset.reader_item_j2 (k : Nat) (v : Int × Fault × Charset_reader) (r_ : Charset_reader) (hi : Int) (text_ : List UInt8) (at__ : Int) (At_ : Int) (Code_ : Int) : Option (S4 × Fault × Charset_reader) :=
 (F.charset.Range k v.1 hi).bind fun v1 =>
 if (v1.2 != 0) then
 some ((S4.mk 0 0 0 0), (Fault.mk r_.at_ v1.2), (Charset_reader.mk text_ at__))
 else
 some (v1.1, (Fault.mk 0 0), (Charset_reader.mk text_ at__))
def F.charset.reader_item_j1 (k : Nat) (v : Int × Fault × Charset_reader) (r_ : Charset_reader) (t46 : Bool) : Option (S4 × Fault × Charset_reader) :=
 if t46 then
 (F.charset.reader_char (Charset_reader.mk v.2.2.text (IntKind.wrap .i64 (v.2.2.at_ + 1)))).bind fun v2 =>
 if (v2.2.1.Code != 0) then
 some ((S4.mk 0 0 0 0), v2.2.1, v2.2.2)
 else
 F.charset.reader_item_j2 k v r_ v2.1 v2.2.2.text v2.2.2.at_ v2.2.1.At v2.2.1.Code
 else
 F.charset.reader_item_j2 k v r_ v.1 v.2.2.text v.2.2.at_ v.2.1.At v.2.1.Code
def F.charset.reader_item (k : Nat) (r_ : Charset_reader) : Option (S4 × Fault × Charset_reader) :=
 (F.charset.reader_char r_).bind fun v =>
 if (v.2.1.Code != 0) then
 some ((S4.mk 0 0 0 0), v.2.1, v.2.2)
 else
 if decide (v.2.2.at_ < (v.2.2.text.length : Int)) then
 if inR v.2.2.at_ v.2.2.text.length then
 F.charset.reader_item_j1 k v r_ ((sAt v.2.2.text v.2.2.at_) == 45)
 else none
 else
 F.charset.reader_item_j1 k v r_ false
def F.charset.Union_l1 (b : S4) : Nat → Int → S4 → Option S4
 | 0, _, _ => none
 | j + 1, t6, a_1 =>
  if decide (t6 < 4) then
  if inR t6 4 then
  (F.charset.Union_l1 b j) (IntKind.wrap .i64 (t6 + 1)) (S4.set a_1 t6 (gor .u64 (S4.get a_1 t6) (S4.get b t6)))
  else none
  else
  some a_1
def F.charset.Union (k : Nat) (a_ : S4) (b : S4) : Option S4 :=
 (F.charset.Union_l1 b k 0 a_).bind fun o1 =>
 some o1
def F.charset.Not_l1 : Nat → Int → S4 → Option S4
 | 0, _, _ => none
 | j + 1, t4, a_1 =>
  if decide (t4 < 4) then
  if inR t4 4 then
  (F.charset.Not_l1 j) (IntKind.wrap .i64 (t4 + 1)) (S4.set a_1 t4 (gnot .u64 (S4.get a_1 t4)))
  else none
  else
  some a_1
def F.charset.Not (k : Nat) (a_ : S4) : Option S4 :=
 (F.charset.Not_l1 k 0 a_).bind fun o1 =>
 some o1
def F.charset.Parse_j5 (k : Nat) (text_1 : List UInt8) (at__1 : Int) (out_ : S4) (rec_1 : S4 → List UInt8 → Int → Option (LR (S4 × (List UInt8) × Int) (S4 × Fault))) (t53 : Bool) : Option (LR (S4 × (List UInt8) × Int) (S4 × Fault)) :=
 if t53 then
 (F.charset.reader_item k (Charset_reader.mk text_1 at__1)).bind fun v =>
 if (v.2.1.Code != 0) then
 some (.ret ((S4.mk 0 0 0 0), v.2.1))
 else
 (F.charset.Union k out_ v.1).bind fun v1 =>
 rec_1 v1 v.2.2.text v.2.2.at_
 else
 some (.done (out_, text_1, at__1))
def F.charset.Parse_l4 (k : Nat) (text_ : List UInt8) : Nat → S4 → List UInt8 → Int → Option (LR (S4 × (List UInt8) × Int) (S4 × Fault))
 | 0, _, _, _ => none
 | j + 1, out_, text_1, at__1 =>
  if decide ((text_.length : Int) ≤ at__1) then
  F.charset.Parse_j5 k text_1 at__1 out_ (F.charset.Parse_l4 k text_ j) true
  else
  if inR at__1 text_.length then
  F.charset.Parse_j5 k text_1 at__1 out_ (F.charset.Parse_l4 k text_ j) ((sAt text_ at__1) != 93)
  else none
def F.charset.Parse_j3 (k : Nat) (text_ : List UInt8) (not : Bool) (at__ : Int) : Option (S4 × Fault) :=
 (F.charset.Parse_l4 k text_ k (S4.mk 0 0 0 0) text_ at__).bind fun o4 =>
 o4.fin fun d4 =>
 if decide ((IntKind.wrap .i64 (d4.2.2 + 1)) < (text_.length : Int)) then
 some ((S4.mk 0 0 0 0), (Fault.mk (IntKind.wrap .i64 (d4.2.2 + 1)) 15))
 else
 if not then
 (F.charset.Not k d4.1).bind fun v2 =>
 some (v2, (Fault.mk 0 0))
 else
 some (d4.1, (Fault.mk 0 0))
def F.charset.Parse_j2 (k : Nat) (text_ : List UInt8) (not : Bool) : Option (S4 × Fault) :=
 if not then
 F.charset.Parse_j3 k text_ not 2
 else
 F.charset.Parse_j3 k text_ not 1
def F.charset.Parse_j1 (k : Nat) (text_ : List UInt8) (t20 : Bool) : Option (S4 × Fault) :=
 if t20 then
 some ((S4.mk 0 0 0 0), (Fault.mk 0 13))
 else
 if decide (1 < (text_.length : Int)) then
 if inR 1 text_.length then
 F.charset.Parse_j2 k text_ ((sAt text_ 1) == 94)
 else none
 else
 F.charset.Parse_j2 k text_ false
def F.charset.Parse (k : Nat) (text_ : List UInt8) : Option (S4 × Fault) :=
 if decide (65536 < (text_.length : Int)) then
 some ((S4.mk 0 0 0 0), (Fault.mk 0 2))
 else
 if (text_ == ([] : List UInt8)) then
 F.charset.Parse_j1 k text_ true
 else
 if inR 0 text_.length then
 F.charset.Parse_j1 k text_ ((sAt text_ 0) != 91)
 else none
def F.words.bracketed_j2 (rec_1 : Int → Option (LR Unit (S4 × Int × Fault))) (i1 : Int) : Option (LR Unit (S4 × Int × Fault)) :=
 rec_1 (IntKind.wrap .i64 (i1 + 1))
def F.words.bracketed_j3 (rec_1 : Int → Option (LR Unit (S4 × Int × Fault))) (i2 : Int) : Option (LR Unit (S4 × Int × Fault)) :=
 F.words.bracketed_j2 rec_1 i2
def F.words.bracketed_j4 (rec_1 : Int → Option (LR Unit (S4 × Int × Fault))) (i3 : Int) : Option (LR Unit (S4 × Int × Fault)) :=
 F.words.bracketed_j3 rec_1 i3
def F.words.bracketed_j5 (v : S4 × Fault) (i : Int) (At_ : Int) : Option (LR Unit (S4 × Int × Fault)) :=
 some (.ret (v.1, IntKind.wrap .i64 (i + 1), (Fault.mk At_ v.2.Code)))
def F.words.bracketed_l1 (k : Nat) (text_ : List UInt8) (at__ : Int) : Nat → Int → Option (LR Unit (S4 × Int × Fault))
 | 0, _ => none
 | j + 1, i =>
  if decide (i < (text_.length : Int)) then
  if inR i text_.length then
  if ((sAt text_ i) == 92) then
  F.words.bracketed_j4 (F.words.bracketed_l1 k text_ at__ j) (IntKind.wrap .i64 (i + 1))
  else
  if ((sAt text_ i) == 93) then
  if okSub at__ (IntKind.wrap .i64 (i + 1)) text_.length then
  (F.charset.Parse k (sub text_ at__ (IntKind.wrap .i64 (i + 1)))).bind fun v =>
  if (v.2.Code != 0) then
  F.words.bracketed_j5 v i (IntKind.wrap .i64 (v.2.At + at__))
  else
  F.words.bracketed_j5 v i v.2.At
  else none
  else
  F.words.bracketed_j4 (F.words.bracketed_l1 k text_ at__ j) i
  else none
  else
  some (.done ())
def F.words.bracketed (k : Nat) (text_ : List UInt8) (at__ : Int) : Option (S4 × Int × Fault) :=
 (F.words.bracketed_l1 k text_ at__ k (IntKind.wrap .i64 (at__ + 1))).bind fun o1 =>
 o1.fin fun d1 =>
 some ((S4.mk 0 0 0 0), 0, (Fault.mk at__ 13))
def F.words.scanner_next_j2 (text_ : List UInt8) (at__ : Int) (line_ : Int) (top_ : Int) (out_ : List Word) : Option (Fault × Words_scanner) :=
 some ((Fault.mk 0 0), (Words_scanner.mk text_ at__ line_ top_ out_))
def F.words.scanner_next_j3 (s : Words_scanner) (v : Int) (kind : Int) : Option (Fault × Words_scanner) :=
 (F.words.scanner_put s (Word.mk kind ([] : List UInt8) ([] : List Int) (S4.mk 0 0 0 0) 0 0 0 0) (IntKind.wrap .i64 (s.at_ + v))).bind fun v2 =>
 F.words.scanner_next_j2 v2.text v2.at_ v2.line v2.top v2.out
def F.words.scanner_next_j4 (text_1 : List UInt8) (at__1 : Int) (line_1 : Int) (top_1 : Int) (out_1 : List Word) : Option (Fault × Words_scanner) :=
 F.words.scanner_next_j2 text_1 at__1 line_1 top_1 out_1
def F.words.scanner_next_j5 (s : Words_scanner) (b2 : List Int) (end_ : Int) (At_ : Int) (Code_ : Int) : Option (Fault × Words_scanner) :=
 if (Code_ != 0) then
 some ((Fault.mk At_ Code_), s)
 else
 (F.words.scanner_put s (Word.mk 4 ([] : List UInt8) b2 (S4.mk 0 0 0 0) 0 0 0 0) end_).bind fun v5 =>
 F.words.scanner_next_j4 v5.text v5.at_ v5.line v5.top v5.out
def F.words.scanner_next_j6 (s : Words_scanner) (set__ : S4) (end_1 : Int) (At_1 : Int) (Code_1 : Int) : Option (Fault × Words_scanner) :=
 if (Code_1 != 0) then
 some ((Fault.mk At_1 Code_1), s)
 else
 (F.words.scanner_put s (Word.mk 5 ([] : List UInt8) ([] : List Int) set__ 0 0 0 0) end_1).bind fun v7 =>
 F.words.scanner_next_j4 v7.text v7.at_ v7.line v7.top v7.out
def F.words.scanner_next_j1 (k : Nat) (s : Words_scanner) (t27 : Bool) : Option (Fault × Words_scanner) :=
 if t27 then
 if okSub s.at_ (s.text.length : Int) s.text.length then
 (F.words.run k (sub s.text s.at_ (s.text.length : Int))).bind fun v =>
 if decide (32 < v) then
 some ((Fault.mk s.at_ 20), s)
 else
 (F.words.great (IntKind.wrap .i32 (sAt s.text s.at_))).bind fun v1 =>
 if v1 then
 F.words.scanner_next_j3 s v 1
 else
 F.words.scanner_next_j3 s v 2
 else none
 else
 (F.words.digit (IntKind.wrap .i32 (sAt s.text s.at_))).bind fun v3 =>
 if v3 then
 (F.words.scanner_number k s).bind fun v4 =>
 if (v4.1 != 0) then
 some ((Fault.mk v4.2.at_ v4.1), v4.2)
 else
 F.words.scanner_next_j2 v4.2.text v4.2.at_ v4.2.line v4.2.top v4.2.out
 else
 if ((sAt s.text s.at_) == 34) then
 (F.words.quoted k s.text s.at_).bind fun v6 =>
 F.words.scanner_next_j5 s v6.1 v6.2.1 v6.2.2.At v6.2.2.Code
 else
 if ((sAt s.text s.at_) == 91) then
 (F.words.bracketed k s.text s.at_).bind fun v8 =>
 F.words.scanner_next_j6 s v8.1 v8.2.1 v8.2.2.At v8.2.2.Code
 else
 (F.strings.IndexByte ([61, 124, 46, 59, 62, 63, 42, 43, 123, 125, 40, 41, 95, 47, 44, 45] : List UInt8) (sAt s.text s.at_)).bind fun v9 =>
 if decide (0 ≤ v9) then
 (F.words.scanner_put s (Word.mk 6 ([] : List UInt8) ([] : List Int) (S4.mk 0 0 0 0) 0 0 0 0) (IntKind.wrap .i64 (s.at_ + 1))).bind fun v10 =>
 F.words.scanner_next_j4 v10.text v10.at_ v10.line v10.top v10.out
 else
 some ((Fault.mk s.at_ 11), s)
def F.words.scanner_next (k : Nat) (s : Words_scanner) : Option (Fault × Words_scanner) :=
 if inR s.at_ s.text.length then
 (F.words.great (IntKind.wrap .i32 (sAt s.text s.at_))).bind fun v11 =>
 if v11 then
 F.words.scanner_next_j1 k s true
 else
 (F.words.small (IntKind.wrap .i32 (sAt s.text s.at_))).bind fun v12 =>
 F.words.scanner_next_j1 k s v12
 else none
def F.words.Scan_l1 (k : Nat) (text_ : List UInt8) : Nat → List UInt8 → Int → Int → Int → List Word → Option (LR ((List UInt8) × Int × Int × Int × (List Word)) (List Word × Fault))
 | 0, _, _, _, _, _ => none
 | j + 1, text_1, at__, line_, top_, out_ =>
  if decide (at__ < (text_.length : Int)) then
  (F.words.scanner_next k (Words_scanner.mk text_1 at__ line_ top_ out_)).bind fun v1 =>
  if (v1.1.Code != 0) then
  some (.ret (([] : List Word), v1.1))
  else
  (F.words.scanner_skip k v1.2).bind fun v2 =>
  (F.words.Scan_l1 k text_ j) v2.text v2.at_ v2.line v2.top v1.2.out
  else
  some (.done (text_1, at__, line_, top_, out_))
def F.words.Scan (k : Nat) (text_ : List UInt8) : Option (List Word × Fault) :=
 if decide (65536 < (text_.length : Int)) then
 some (([] : List Word), (Fault.mk 0 2))
 else
 (F.words.scanner_skip k (Words_scanner.mk text_ 0 1 0 ([] : List Word))).bind fun v =>
 (F.words.Scan_l1 k text_ k v.text v.at_ v.line v.top ([] : List Word)).bind fun o1 =>
 o1.fin fun d1 =>
 (F.words.scanner_put (Words_scanner.mk d1.1 d1.2.1 d1.2.2.1 d1.2.2.2.1 d1.2.2.2.2) (Word.mk 7 ([] : List UInt8) ([] : List Int) (S4.mk 0 0 0 0) 0 0 0 0) d1.2.1).bind fun v3 =>
 some (v3.out, (Fault.mk 0 0))
def F.defs.fail (w_ : Word) (e_ : Int) : Option (Pn Unit Fault) :=
 some (.pan (Fault.mk w_.At e_))
def F.defs.reader_kind_j3 (r_ : Defs_reader) : Option (Pn (Word × Defs_reader) Fault) :=
 some (.ok ((at_ r_.l_ r_.at_), (Defs_reader.mk r_.l_ (IntKind.wrap .i64 (r_.at_ + 1)) r_.d r_.start r_.layout r_.items)))
def F.defs.reader_kind_j2 (r_ : Defs_reader) (t29 : Bool) : Option (Pn (Word × Defs_reader) Fault) :=
 if t29 then
 (F.defs.fail (at_ r_.l_ r_.at_) 2).bind fun v =>
 v.go (fun x_ =>
 F.defs.reader_kind_j3 r_)
 (fun y_ =>
 some (.pan y_))
 else
 F.defs.reader_kind_j3 r_
def F.defs.reader_kind_j1 (k_ : Int) (r_ : Defs_reader) : Option (Pn (Word × Defs_reader) Fault) :=
 if (k_ == 4) then
 F.defs.reader_kind_j2 r_ (decide (32 < (((at_ r_.l_ r_.at_).Bytes).length : Int)))
 else
 F.defs.reader_kind_j2 r_ false
def F.defs.reader_kind (r_ : Defs_reader) (k_ : Int) : Option (Pn (Word × Defs_reader) Fault) :=
 if inR r_.at_ r_.l_.length then
 if (((at_ r_.l_ r_.at_).Kind) != k_) then
 (F.defs.fail (at_ r_.l_ r_.at_) 30).bind fun v1 =>
 v1.go (fun x_1 =>
 F.defs.reader_kind_j1 k_ r_)
 (fun y_1 =>
 some (.pan y_1))
 else
 F.defs.reader_kind_j1 k_ r_
 else none
def F.defs.reader_name (r_ : Defs_reader) : Option (Pn (List UInt8 × Defs_reader) Fault) :=
 (F.defs.reader_kind r_ 1).bind fun v =>
 v.go (fun x_ =>
 some (.ok (x_.1.Text, (Defs_reader.mk x_.2.l_ x_.2.at_ (Def.mk x_.2.d.Start x_.2.d.Layout r_.d.Prods r_.d.Chains r_.d.Follows r_.d.Rejects r_.d.Boxes) x_.2.start x_.2.layout x_.2.items))))
 (fun y_ =>
 some (.pan y_))
def F.defs.reader_is (r_ : Defs_reader) (text_ : List UInt8) : Option Bool :=
 if inR r_.at_ r_.l_.length then
 if (((at_ r_.l_ r_.at_).Kind) == 6) then
 some (((at_ r_.l_ r_.at_).Text) == text_)
 else
 if (((at_ r_.l_ r_.at_).Kind) == 2) then
 some (((at_ r_.l_ r_.at_).Text) == text_)
 else
 some false
 else none
def F.defs.reader_take (r_ : Defs_reader) (text_ : List UInt8) : Option (Bool × Defs_reader) :=
 (F.defs.reader_is r_ text_).bind fun v =>
 if !v then
 some (false, r_)
 else
 some (true, (Defs_reader.mk r_.l_ (IntKind.wrap .i64 (r_.at_ + 1)) r_.d r_.start r_.layout r_.items))
def F.defs.reader_want (r_ : Defs_reader) (text_ : List UInt8) : Option (Pn Defs_reader Fault) :=
 (F.defs.reader_take r_ text_).bind fun v =>
 if !v.1 then
 if inR v.2.at_ v.2.l_.length then
 (F.defs.fail (at_ v.2.l_ v.2.at_) 30).bind fun v1 =>
 v1.go (fun x_ =>
 some (.ok (Defs_reader.mk v.2.l_ v.2.at_ (Def.mk v.2.d.Start v.2.d.Layout r_.d.Prods r_.d.Chains r_.d.Follows r_.d.Rejects r_.d.Boxes) v.2.start v.2.layout v.2.items)))
 (fun y_ =>
 some (.pan y_))
 else none
 else
 some (.ok (Defs_reader.mk v.2.l_ v.2.at_ (Def.mk v.2.d.Start v.2.d.Layout r_.d.Prods r_.d.Chains r_.d.Follows r_.d.Rejects r_.d.Boxes) v.2.start v.2.layout v.2.items))
def F.defs.reader_once_a0_9_a0_2_j1 (r_ : Defs_reader) : Option (Pn Defs_reader Fault) :=
 (F.defs.reader_name (Defs_reader.mk r_.l_ r_.at_ r_.d true r_.layout r_.items)).bind fun v =>
 v.go (fun x_ =>
 (F.defs.reader_want (Defs_reader.mk x_.2.l_ x_.2.at_ (Def.mk x_.1 x_.2.d.Layout r_.d.Prods r_.d.Chains r_.d.Follows r_.d.Rejects r_.d.Boxes) x_.2.start x_.2.layout x_.2.items) ([59] : List UInt8)).bind fun v1 =>
 v1.go (fun x_1 =>
 some (.ok (Defs_reader.mk x_1.l_ x_1.at_ (Def.mk x_1.d.Start x_1.d.Layout r_.d.Prods r_.d.Chains r_.d.Follows r_.d.Rejects r_.d.Boxes) x_1.start x_1.layout x_1.items)))
 (fun y_1 =>
 some (.pan y_1)))
 (fun y_ =>
 some (.pan y_))
def F.defs.reader_once_a0_9_a0_2 (r_ : Defs_reader) (first : Word) : Option (Pn Defs_reader Fault) :=
 if r_.start then
 (F.defs.fail first 31).bind fun v2 =>
 v2.go (fun x_2 =>
 F.defs.reader_once_a0_9_a0_2_j1 r_)
 (fun y_2 =>
 some (.pan y_2))
 else
 F.defs.reader_once_a0_9_a0_2_j1 r_
def F.defs.reader_all_c1 (w_ : Word) (free : Defs_reader) : Option (Pn Defs_reader Fault) :=
 (F.defs.reader_once_a0_9_a0_2 free w_).bind fun v =>
 v.go (fun x_ =>
 some (.ok (Defs_reader.mk x_.l_ x_.at_ (Def.mk x_.d.Start x_.d.Layout free.d.Prods free.d.Chains free.d.Follows free.d.Rejects free.d.Boxes) x_.start x_.layout x_.items)))
 (fun y_ =>
 some (.pan y_))
def F.defs.reader_once_a0_10_a0_3_j1 (r_ : Defs_reader) : Option (Pn Defs_reader Fault) :=
 (F.defs.reader_name (Defs_reader.mk r_.l_ r_.at_ r_.d r_.start true r_.items)).bind fun v =>
 v.go (fun x_ =>
 (F.defs.reader_want (Defs_reader.mk x_.2.l_ x_.2.at_ (Def.mk x_.2.d.Start x_.1 r_.d.Prods r_.d.Chains r_.d.Follows r_.d.Rejects r_.d.Boxes) x_.2.start x_.2.layout x_.2.items) ([59] : List UInt8)).bind fun v1 =>
 v1.go (fun x_1 =>
 some (.ok (Defs_reader.mk x_1.l_ x_1.at_ (Def.mk x_1.d.Start x_1.d.Layout r_.d.Prods r_.d.Chains r_.d.Follows r_.d.Rejects r_.d.Boxes) x_1.start x_1.layout x_1.items)))
 (fun y_1 =>
 some (.pan y_1)))
 (fun y_ =>
 some (.pan y_))
def F.defs.reader_once_a0_10_a0_3 (r_ : Defs_reader) (first : Word) : Option (Pn Defs_reader Fault) :=
 if r_.layout then
 (F.defs.fail first 31).bind fun v2 =>
 v2.go (fun x_2 =>
 F.defs.reader_once_a0_10_a0_3_j1 r_)
 (fun y_2 =>
 some (.pan y_2))
 else
 F.defs.reader_once_a0_10_a0_3_j1 r_
def F.defs.reader_all_c2 (w_ : Word) (free : Defs_reader) : Option (Pn Defs_reader Fault) :=
 (F.defs.reader_once_a0_10_a0_3 free w_).bind fun v =>
 v.go (fun x_ =>
 some (.ok (Defs_reader.mk x_.l_ x_.at_ (Def.mk x_.d.Start x_.d.Layout free.d.Prods free.d.Chains free.d.Follows free.d.Rejects free.d.Boxes) x_.start x_.layout x_.items)))
 (fun y_ =>
 some (.pan y_))
def F.defs.reader_room (r_ : Defs_reader) (w_ : Word) : Option (Pn Unit Fault) :=
 if ((r_.d.Prods.length : Int) == 200) then
 (F.defs.fail w_ 2).bind fun v =>
 v.go (fun x_ =>
 some (.ok ()))
 (fun y_ =>
 some (.pan y_))
 else
 some (.ok ())
def F.defs.reader_part_j2 (Set_ : S4) (Name_ : List UInt8) (r_ : Defs_reader) (l__1 : List Word) (at__1 : Int) (q1_1 : List UInt8) (q2_1 : List UInt8) (q8_1 : Bool) (q9_1 : Bool) (q0_1 : Int) (Kind__1 : Int) : Option (Pn (Sym × Defs_reader) Fault) :=
 some (.ok ((Sym.mk Kind__1 ([] : List UInt8) Set_ Name_ ([] : List UInt8)), (Defs_reader.mk l__1 at__1 (Def.mk q1_1 q2_1 r_.d.Prods r_.d.Chains r_.d.Follows r_.d.Rejects r_.d.Boxes) q8_1 q9_1 q0_1)))
def F.defs.reader_part_j3 (Set_ : S4) (Name_ : List UInt8) (r_ : Defs_reader) (l__2 : List Word) (at__2 : Int) (q1_2 : List UInt8) (q2_2 : List UInt8) (q8_2 : Bool) (q9_2 : Bool) (q0_2 : Int) (Kind__2 : Int) : Option (Pn (Sym × Defs_reader) Fault) :=
 F.defs.reader_part_j2 Set_ Name_ r_ l__2 at__2 q1_2 q2_2 q8_2 q9_2 q0_2 Kind__2
def F.defs.reader_part_j1 (r_ : Defs_reader) (Kind__ : Int) (Set_ : S4) (Name_ : List UInt8) (l__ : List Word) (at__ : Int) (q1 : List UInt8) (q2 : List UInt8) (q8 : Bool) (q9 : Bool) (q0 : Int) : Option (Pn (Sym × Defs_reader) Fault) :=
 (F.defs.reader_take (Defs_reader.mk l__ at__ (Def.mk q1 q2 r_.d.Prods r_.d.Chains r_.d.Follows r_.d.Rejects r_.d.Boxes) q8 q9 q0) ([63] : List UInt8)).bind fun v =>
 if v.1 then
 F.defs.reader_part_j2 Set_ Name_ r_ v.2.l_ v.2.at_ v.2.d.Start v.2.d.Layout v.2.start v.2.layout v.2.items 4
 else
 (F.defs.reader_take (Defs_reader.mk v.2.l_ v.2.at_ (Def.mk v.2.d.Start v.2.d.Layout r_.d.Prods r_.d.Chains r_.d.Follows r_.d.Rejects r_.d.Boxes) v.2.start v.2.layout v.2.items) ([42] : List UInt8)).bind fun v1 =>
 if v1.1 then
 F.defs.reader_part_j3 Set_ Name_ r_ v1.2.l_ v1.2.at_ v1.2.d.Start v1.2.d.Layout v1.2.start v1.2.layout v1.2.items 5
 else
 (F.defs.reader_take (Defs_reader.mk v1.2.l_ v1.2.at_ (Def.mk v1.2.d.Start v1.2.d.Layout r_.d.Prods r_.d.Chains r_.d.Follows r_.d.Rejects r_.d.Boxes) v1.2.start v1.2.layout v1.2.items) ([43] : List UInt8)).bind fun v2 =>
 if v2.1 then
 F.defs.reader_part_j3 Set_ Name_ r_ v2.2.l_ v2.2.at_ v2.2.d.Start v2.2.d.Layout v2.2.start v2.2.layout v2.2.items 6
 else
 F.defs.reader_part_j3 Set_ Name_ r_ v2.2.l_ v2.2.at_ v2.2.d.Start v2.2.d.Layout v2.2.start v2.2.layout v2.2.items Kind__
def F.defs.reader_part (r_ : Defs_reader) : Option (Pn (Sym × Defs_reader) Fault) :=
 if inR r_.at_ r_.l_.length then
 if (((at_ r_.l_ r_.at_).Kind) == 5) then
 F.defs.reader_part_j1 r_ 2 (S4.mk ((at_ r_.l_ r_.at_).Set.w0) ((at_ r_.l_ r_.at_).Set.w1) ((at_ r_.l_ r_.at_).Set.w2) ((at_ r_.l_ r_.at_).Set.w3)) ([] : List UInt8) r_.l_ (IntKind.wrap .i64 (r_.at_ + 1)) r_.d.Start r_.d.Layout r_.start r_.layout r_.items
 else
 (F.defs.reader_name r_).bind fun v3 =>
 v3.go (fun x_ =>
 F.defs.reader_part_j1 r_ 3 (S4.mk 0 0 0 0) x_.1 x_.2.l_ x_.2.at_ x_.2.d.Start x_.2.d.Layout x_.2.start x_.2.layout x_.2.items)
 (fun y_ =>
 some (.pan y_))
 else none
def F.defs.reader_sym_j1 (x_3 : Word × Defs_reader) (r_ : Defs_reader) (x_2 : List UInt8 × Defs_reader) : Option (Pn (Sym × Defs_reader) Fault) :=
 (F.defs.reader_want (Defs_reader.mk x_3.2.l_ x_3.2.at_ (Def.mk x_3.2.d.Start x_3.2.d.Layout r_.d.Prods r_.d.Chains r_.d.Follows r_.d.Rejects r_.d.Boxes) x_3.2.start x_3.2.layout x_3.2.items) ([125] : List UInt8)).bind fun v5 =>
 v5.go (fun x_4 =>
 (F.defs.reader_take (Defs_reader.mk x_4.l_ x_4.at_ (Def.mk x_4.d.Start x_4.d.Layout r_.d.Prods r_.d.Chains r_.d.Follows r_.d.Rejects r_.d.Boxes) x_4.start x_4.layout x_4.items) ([42] : List UInt8)).bind fun v6 =>
 if v6.1 then
 some (.ok ((Sym.mk 5 ([] : List UInt8) (S4.mk 0 0 0 0) x_2.1 (toS x_3.1.Bytes)), (Defs_reader.mk v6.2.l_ v6.2.at_ (Def.mk v6.2.d.Start v6.2.d.Layout r_.d.Prods r_.d.Chains r_.d.Follows r_.d.Rejects r_.d.Boxes) v6.2.start v6.2.layout v6.2.items)))
 else
 (F.defs.reader_want (Defs_reader.mk v6.2.l_ v6.2.at_ (Def.mk v6.2.d.Start v6.2.d.Layout r_.d.Prods r_.d.Chains r_.d.Follows r_.d.Rejects r_.d.Boxes) v6.2.start v6.2.layout v6.2.items) ([43] : List UInt8)).bind fun v7 =>
 v7.go (fun x_5 =>
 some (.ok ((Sym.mk 6 ([] : List UInt8) (S4.mk 0 0 0 0) x_2.1 (toS x_3.1.Bytes)), (Defs_reader.mk x_5.l_ x_5.at_ (Def.mk x_5.d.Start x_5.d.Layout r_.d.Prods r_.d.Chains r_.d.Follows r_.d.Rejects r_.d.Boxes) x_5.start x_5.layout x_5.items))))
 (fun y_5 =>
 some (.pan y_5)))
 (fun y_4 =>
 some (.pan y_4))
def F.defs.reader_sym (r_ : Defs_reader) : Option (Pn (Sym × Defs_reader) Fault) :=
 if inR r_.at_ r_.l_.length then
 if (((at_ r_.l_ r_.at_).Kind) == 4) then
 (F.defs.reader_kind r_ 4).bind fun v =>
 v.go (fun x_ =>
 some (.ok ((Sym.mk 1 (toS x_.1.Bytes) (S4.mk 0 0 0 0) ([] : List UInt8) ([] : List UInt8)), (Defs_reader.mk x_.2.l_ x_.2.at_ (Def.mk x_.2.d.Start x_.2.d.Layout r_.d.Prods r_.d.Chains r_.d.Follows r_.d.Rejects r_.d.Boxes) x_.2.start x_.2.layout x_.2.items))))
 (fun y_ =>
 some (.pan y_))
 else
 (F.defs.reader_take r_ ([123] : List UInt8)).bind fun v1 =>
 if !v1.1 then
 (F.defs.reader_part (Defs_reader.mk v1.2.l_ v1.2.at_ (Def.mk v1.2.d.Start v1.2.d.Layout r_.d.Prods r_.d.Chains r_.d.Follows r_.d.Rejects r_.d.Boxes) v1.2.start v1.2.layout v1.2.items)).bind fun v2 =>
 v2.go (fun x_1 =>
 some (.ok (x_1.1, (Defs_reader.mk x_1.2.l_ x_1.2.at_ (Def.mk x_1.2.d.Start x_1.2.d.Layout r_.d.Prods r_.d.Chains r_.d.Follows r_.d.Rejects r_.d.Boxes) x_1.2.start x_1.2.layout x_1.2.items))))
 (fun y_1 =>
 some (.pan y_1))
 else
 (F.defs.reader_name (Defs_reader.mk v1.2.l_ v1.2.at_ (Def.mk v1.2.d.Start v1.2.d.Layout r_.d.Prods r_.d.Chains r_.d.Follows r_.d.Rejects r_.d.Boxes) v1.2.start v1.2.layout v1.2.items)).bind fun v3 =>
 v3.go (fun x_2 =>
 (F.defs.reader_kind (Defs_reader.mk x_2.2.l_ x_2.2.at_ (Def.mk x_2.2.d.Start x_2.2.d.Layout r_.d.Prods r_.d.Chains r_.d.Follows r_.d.Rejects r_.d.Boxes) x_2.2.start x_2.2.layout x_2.2.items) 4).bind fun v4 =>
 v4.go (fun x_3 =>
 if ((x_3.1.Bytes.length : Int) == 0) then
 (F.defs.fail x_3.1 30).bind fun v8 =>
 v8.go (fun x_6 =>
 F.defs.reader_sym_j1 x_3 r_ x_2)
 (fun y_6 =>
 some (.pan y_6))
 else
 F.defs.reader_sym_j1 x_3 r_ x_2)
 (fun y_3 =>
 some (.pan y_3)))
 (fun y_2 =>
 some (.pan y_2))
 else none
def F.defs.reader_syms_j2 (rec_1 : List Sym → List Word → Int → List UInt8 → List UInt8 → Bool → Bool → Int → Option (LR Unit (Pn (List Sym × Defs_reader) Fault))) (out_1 : List Sym) (l__1 : List Word) (at__1 : Int) (q1_1 : List UInt8) (q2_1 : List UInt8) (q8_1 : Bool) (q9_1 : Bool) (q0_1 : Int) : Option (LR Unit (Pn (List Sym × Defs_reader) Fault)) :=
 rec_1 out_1 l__1 at__1 q1_1 q2_1 q8_1 q9_1 q0_1
def F.defs.reader_syms_j4 (l__ : List Word) (at__ : Int) (q1 : List UInt8) (q2 : List UInt8) (r_ : Defs_reader) (q8 : Bool) (q9 : Bool) (q0 : Int) (out_ : List Sym) (rec_1 : List Sym → List Word → Int → List UInt8 → List UInt8 → Bool → Bool → Int → Option (LR Unit (Pn (List Sym × Defs_reader) Fault))) : Option (LR Unit (Pn (List Sym × Defs_reader) Fault)) :=
 (F.defs.reader_sym (Defs_reader.mk l__ at__ (Def.mk q1 q2 r_.d.Prods r_.d.Chains r_.d.Follows r_.d.Rejects r_.d.Boxes) q8 q9 q0)).bind fun v1 =>
 v1.go (fun x_1 =>
 if decide ((out_.length + ([x_1.1] : List Sym).length) * 88 ≤ 140737488355328) then
 if decide (out_.length + ([x_1.1] : List Sym).length ≤ 9223372036854775807) then
 F.defs.reader_syms_j2 rec_1 (out_ ++ ([x_1.1] : List Sym)) x_1.2.l_ x_1.2.at_ x_1.2.d.Start x_1.2.d.Layout x_1.2.start x_1.2.layout x_1.2.items
 else none
 else none)
 (fun y_1 =>
 some (.ret (.pan y_1)))
def F.defs.reader_syms_j3 (out_ : List Sym) (l__ : List Word) (at__ : Int) (q1 : List UInt8) (q2 : List UInt8) (r_ : Defs_reader) (q8 : Bool) (q9 : Bool) (q0 : Int) (rec_1 : List Sym → List Word → Int → List UInt8 → List UInt8 → Bool → Bool → Int → Option (LR Unit (Pn (List Sym × Defs_reader) Fault))) (t35 : Bool) : Option (LR Unit (Pn (List Sym × Defs_reader) Fault)) :=
 if t35 then
 some (.ret (.ok (out_, (Defs_reader.mk l__ at__ (Def.mk q1 q2 r_.d.Prods r_.d.Chains r_.d.Follows r_.d.Rejects r_.d.Boxes) q8 q9 q0))))
 else
 if ((out_.length : Int) == 12) then
 (F.defs.fail (at_ l__ at__) 2).bind fun v2 =>
 v2.go (fun x_2 =>
 F.defs.reader_syms_j4 l__ at__ q1 q2 r_ q8 q9 q0 out_ rec_1)
 (fun y_2 =>
 some (.ret (.pan y_2)))
 else
 F.defs.reader_syms_j4 l__ at__ q1 q2 r_ q8 q9 q0 out_ rec_1
def F.defs.reader_syms_l1 (r_ : Defs_reader) : Nat → List Sym → List Word → Int → List UInt8 → List UInt8 → Bool → Bool → Int → Option (LR Unit (Pn (List Sym × Defs_reader) Fault))
 | 0, _, _, _, _, _, _, _, _ => none
 | j + 1, out_, l__, at__, q1, q2, q8, q9, q0 =>
  if inR at__ l__.length then
  if (((at_ l__ at__).Kind) != 4) then
  if (((at_ l__ at__).Kind) != 1) then
  if (((at_ l__ at__).Kind) != 5) then
  (F.defs.reader_is (Defs_reader.mk l__ at__ (Def.mk q1 q2 r_.d.Prods r_.d.Chains r_.d.Follows r_.d.Rejects r_.d.Boxes) q8 q9 q0) ([123] : List UInt8)).bind fun v3 =>
  F.defs.reader_syms_j3 out_ l__ at__ q1 q2 r_ q8 q9 q0 (F.defs.reader_syms_l1 r_ j) (!v3)
  else
  F.defs.reader_syms_j3 out_ l__ at__ q1 q2 r_ q8 q9 q0 (F.defs.reader_syms_l1 r_ j) false
  else
  F.defs.reader_syms_j3 out_ l__ at__ q1 q2 r_ q8 q9 q0 (F.defs.reader_syms_l1 r_ j) false
  else
  F.defs.reader_syms_j3 out_ l__ at__ q1 q2 r_ q8 q9 q0 (F.defs.reader_syms_l1 r_ j) false
  else none
def F.defs.reader_syms (k : Nat) (r_ : Defs_reader) : Option (Pn (List Sym × Defs_reader) Fault) :=
 (F.defs.reader_sym r_).bind fun v =>
 v.go (fun x_ =>
 (F.defs.reader_syms_l1 r_ k ([x_.1] : List Sym) x_.2.l_ x_.2.at_ x_.2.d.Start x_.2.d.Layout x_.2.start x_.2.layout x_.2.items).bind fun o1 =>
 o1.fin fun d1 =>
 none)
 (fun y_ =>
 some (.pan y_))
def F.defs.reader_lex_j3 (rec_1 : List Word → Int → List UInt8 → List UInt8 → List Prod → Bool → Bool → Int → List Sym → Option (LR ((List Word) × Int × (List UInt8) × (List UInt8) × (List Prod) × Bool × Bool × Int × (List Sym)) (Pn Defs_reader Fault))) (l__2 : List Word) (at__2 : Int) (q1_2 : List UInt8) (q2_2 : List UInt8) (q3_1 : List Prod) (q8_2 : Bool) (q9_2 : Bool) (q0_2 : Int) (Syms_1 : List Sym) : Option (LR ((List Word) × Int × (List UInt8) × (List UInt8) × (List Prod) × Bool × Bool × Int × (List Sym)) (Pn Defs_reader Fault)) :=
 rec_1 l__2 at__2 q1_2 q2_2 q3_1 q8_2 q9_2 q0_2 Syms_1
def F.defs.reader_lex_j4 (x_3 : List Sym × Defs_reader) (q3 : List Prod) (x_1 : List UInt8 × Defs_reader) (Cons_ : List UInt8) (r_ : Defs_reader) (rec_1 : List Word → Int → List UInt8 → List UInt8 → List Prod → Bool → Bool → Int → List Sym → Option (LR ((List Word) × Int × (List UInt8) × (List UInt8) × (List Prod) × Bool × Bool × Int × (List Sym)) (Pn Defs_reader Fault))) : Option (LR ((List Word) × Int × (List UInt8) × (List UInt8) × (List Prod) × Bool × Bool × Int × (List Sym)) (Pn Defs_reader Fault)) :=
 (F.defs.reader_is (Defs_reader.mk x_3.2.l_ x_3.2.at_ (Def.mk x_3.2.d.Start x_3.2.d.Layout (q3 ++ ([(Prod.mk true x_1.1 Cons_ false x_3.1)] : List Prod)) r_.d.Chains r_.d.Follows r_.d.Rejects r_.d.Boxes) x_3.2.start x_3.2.layout x_3.2.items) ([124] : List UInt8)).bind fun v5 =>
 if !v5 then
 some (.done (x_3.2.l_, x_3.2.at_, x_3.2.d.Start, x_3.2.d.Layout, (q3 ++ ([(Prod.mk true x_1.1 Cons_ false x_3.1)] : List Prod)), x_3.2.start, x_3.2.layout, x_3.2.items, x_3.1))
 else
 if inR x_3.2.at_ x_3.2.l_.length then
 (F.defs.reader_room (Defs_reader.mk x_3.2.l_ x_3.2.at_ (Def.mk x_3.2.d.Start x_3.2.d.Layout (q3 ++ ([(Prod.mk true x_1.1 Cons_ false x_3.1)] : List Prod)) r_.d.Chains r_.d.Follows r_.d.Rejects r_.d.Boxes) x_3.2.start x_3.2.layout x_3.2.items) (at_ x_3.2.l_ x_3.2.at_)).bind fun v6 =>
 v6.go (fun x_4 =>
 F.defs.reader_lex_j3 rec_1 x_3.2.l_ (IntKind.wrap .i64 (x_3.2.at_ + 1)) x_3.2.d.Start x_3.2.d.Layout (q3 ++ ([(Prod.mk true x_1.1 Cons_ false x_3.1)] : List Prod)) x_3.2.start x_3.2.layout x_3.2.items x_3.1)
 (fun y_4 =>
 some (.ret (.pan y_4)))
 else none
def F.defs.reader_lex_l2 (k : Nat) (r_ : Defs_reader) (x_1 : List UInt8 × Defs_reader) (Cons_ : List UInt8) : Nat → List Word → Int → List UInt8 → List UInt8 → List Prod → Bool → Bool → Int → List Sym → Option (LR ((List Word) × Int × (List UInt8) × (List UInt8) × (List Prod) × Bool × Bool × Int × (List Sym)) (Pn Defs_reader Fault))
 | 0, _, _, _, _, _, _, _, _, _ => none
 | j + 1, l__1, at__1, q1_1, q2_1, q3, q8_1, q9_1, q0_1, Syms_ =>
  (F.defs.reader_syms k (Defs_reader.mk l__1 at__1 (Def.mk q1_1 q2_1 q3 r_.d.Chains r_.d.Follows r_.d.Rejects r_.d.Boxes) q8_1 q9_1 q0_1)).bind fun v4 =>
  v4.go (fun x_3 =>
  if decide ((q3.length + ([(Prod.mk true x_1.1 Cons_ false x_3.1)] : List Prod).length) * 72 ≤ 140737488355328) then
  if decide (q3.length + ([(Prod.mk true x_1.1 Cons_ false x_3.1)] : List Prod).length ≤ 9223372036854775807) then
  F.defs.reader_lex_j4 x_3 q3 x_1 Cons_ r_ (F.defs.reader_lex_l2 k r_ x_1 Cons_ j)
  else none
  else none)
  (fun y_3 =>
  some (.ret (.pan y_3)))
def F.defs.reader_lex_j1 (k : Nat) (r_ : Defs_reader) (x_1 : List UInt8 × Defs_reader) (l__ : List Word) (at__ : Int) (q1 : List UInt8) (q2 : List UInt8) (q8 : Bool) (q9 : Bool) (q0 : Int) (Cons_ : List UInt8) : Option (Pn Defs_reader Fault) :=
 (F.defs.reader_want (Defs_reader.mk l__ at__ (Def.mk q1 q2 r_.d.Prods r_.d.Chains r_.d.Follows r_.d.Rejects r_.d.Boxes) q8 q9 q0) ([61] : List UInt8)).bind fun v3 =>
 v3.go (fun x_2 =>
 (F.defs.reader_lex_l2 k r_ x_1 Cons_ k x_2.l_ x_2.at_ x_2.d.Start x_2.d.Layout r_.d.Prods x_2.start x_2.layout x_2.items ([] : List Sym)).bind fun o2 =>
 o2.fin fun d2 =>
 (F.defs.reader_want (Defs_reader.mk d2.1 d2.2.1 (Def.mk d2.2.2.1 d2.2.2.2.1 d2.2.2.2.2.1 r_.d.Chains r_.d.Follows r_.d.Rejects r_.d.Boxes) d2.2.2.2.2.2.1 d2.2.2.2.2.2.2.1 d2.2.2.2.2.2.2.2.1) ([59] : List UInt8)).bind fun v7 =>
 v7.go (fun x_5 =>
 some (.ok (Defs_reader.mk x_5.l_ x_5.at_ (Def.mk x_5.d.Start x_5.d.Layout d2.2.2.2.2.1 r_.d.Chains r_.d.Follows r_.d.Rejects r_.d.Boxes) x_5.start x_5.layout x_5.items)))
 (fun y_5 =>
 some (.pan y_5)))
 (fun y_2 =>
 some (.pan y_2))
def F.defs.reader_lex (k : Nat) (r_ : Defs_reader) (first : Word) : Option (Pn Defs_reader Fault) :=
 (F.defs.reader_room r_ first).bind fun v =>
 v.go (fun x_ =>
 (F.defs.reader_name r_).bind fun v1 =>
 v1.go (fun x_1 =>
 (F.defs.reader_take (Defs_reader.mk x_1.2.l_ x_1.2.at_ (Def.mk x_1.2.d.Start x_1.2.d.Layout r_.d.Prods r_.d.Chains r_.d.Follows r_.d.Rejects r_.d.Boxes) x_1.2.start x_1.2.layout x_1.2.items) ([46] : List UInt8)).bind fun v2 =>
 if v2.1 then
 (F.defs.reader_name (Defs_reader.mk v2.2.l_ v2.2.at_ (Def.mk v2.2.d.Start v2.2.d.Layout r_.d.Prods r_.d.Chains r_.d.Follows r_.d.Rejects r_.d.Boxes) v2.2.start v2.2.layout v2.2.items)).bind fun v8 =>
 v8.go (fun x_6 =>
 F.defs.reader_lex_j1 k r_ x_1 x_6.2.l_ x_6.2.at_ x_6.2.d.Start x_6.2.d.Layout x_6.2.start x_6.2.layout x_6.2.items x_6.1)
 (fun y_6 =>
 some (.pan y_6))
 else
 F.defs.reader_lex_j1 k r_ x_1 v2.2.l_ v2.2.at_ v2.2.d.Start v2.2.d.Layout v2.2.start v2.2.layout v2.2.items ([] : List UInt8))
 (fun y_1 =>
 some (.pan y_1)))
 (fun y_ =>
 some (.pan y_))
def F.defs.reader_cf_j2 (r_ : Defs_reader) (x_1 : List UInt8 × Defs_reader) (Cons_ : List UInt8) (x_3 : List Sym × Defs_reader) (l__1 : List Word) (at__1 : Int) (q1_1 : List UInt8) (q2_1 : List UInt8) (q8_1 : Bool) (q9_1 : Bool) (q0_1 : Int) (Bracket_ : Bool) : Option (Pn Defs_reader Fault) :=
 (F.defs.reader_want (Defs_reader.mk l__1 at__1 (Def.mk q1_1 q2_1 r_.d.Prods r_.d.Chains r_.d.Follows r_.d.Rejects r_.d.Boxes) q8_1 q9_1 q0_1) ([59] : List UInt8)).bind fun v5 =>
 v5.go (fun x_4 =>
 if decide ((r_.d.Prods.length + ([(Prod.mk false x_1.1 Cons_ Bracket_ x_3.1)] : List Prod).length) * 72 ≤ 140737488355328) then
 if decide (r_.d.Prods.length + ([(Prod.mk false x_1.1 Cons_ Bracket_ x_3.1)] : List Prod).length ≤ 9223372036854775807) then
 some (.ok (Defs_reader.mk x_4.l_ x_4.at_ (Def.mk x_4.d.Start x_4.d.Layout (r_.d.Prods ++ ([(Prod.mk false x_1.1 Cons_ Bracket_ x_3.1)] : List Prod)) r_.d.Chains r_.d.Follows r_.d.Rejects r_.d.Boxes) x_4.start x_4.layout x_4.items))
 else none
 else none)
 (fun y_4 =>
 some (.pan y_4))
def F.defs.reader_cf_j1 (k : Nat) (r_ : Defs_reader) (x_1 : List UInt8 × Defs_reader) (l__ : List Word) (at__ : Int) (q1 : List UInt8) (q2 : List UInt8) (q8 : Bool) (q9 : Bool) (q0 : Int) (Cons_ : List UInt8) : Option (Pn Defs_reader Fault) :=
 (F.defs.reader_want (Defs_reader.mk l__ at__ (Def.mk q1 q2 r_.d.Prods r_.d.Chains r_.d.Follows r_.d.Rejects r_.d.Boxes) q8 q9 q0) ([61] : List UInt8)).bind fun v3 =>
 v3.go (fun x_2 =>
 (F.defs.reader_syms k (Defs_reader.mk x_2.l_ x_2.at_ (Def.mk x_2.d.Start x_2.d.Layout r_.d.Prods r_.d.Chains r_.d.Follows r_.d.Rejects r_.d.Boxes) x_2.start x_2.layout x_2.items)).bind fun v4 =>
 v4.go (fun x_3 =>
 if (Cons_ == ([] : List UInt8)) then
 (F.defs.reader_want (Defs_reader.mk x_3.2.l_ x_3.2.at_ (Def.mk x_3.2.d.Start x_3.2.d.Layout r_.d.Prods r_.d.Chains r_.d.Follows r_.d.Rejects r_.d.Boxes) x_3.2.start x_3.2.layout x_3.2.items) ([98, 114, 97, 99, 107, 101, 116] : List UInt8)).bind fun v6 =>
 v6.go (fun x_5 =>
 F.defs.reader_cf_j2 r_ x_1 Cons_ x_3 x_5.l_ x_5.at_ x_5.d.Start x_5.d.Layout x_5.start x_5.layout x_5.items true)
 (fun y_5 =>
 some (.pan y_5))
 else
 F.defs.reader_cf_j2 r_ x_1 Cons_ x_3 x_3.2.l_ x_3.2.at_ x_3.2.d.Start x_3.2.d.Layout x_3.2.start x_3.2.layout x_3.2.items false)
 (fun y_3 =>
 some (.pan y_3)))
 (fun y_2 =>
 some (.pan y_2))
def F.defs.reader_cf (k : Nat) (r_ : Defs_reader) (first : Word) : Option (Pn Defs_reader Fault) :=
 (F.defs.reader_room r_ first).bind fun v =>
 v.go (fun x_ =>
 (F.defs.reader_name r_).bind fun v1 =>
 v1.go (fun x_1 =>
 (F.defs.reader_take (Defs_reader.mk x_1.2.l_ x_1.2.at_ (Def.mk x_1.2.d.Start x_1.2.d.Layout r_.d.Prods r_.d.Chains r_.d.Follows r_.d.Rejects r_.d.Boxes) x_1.2.start x_1.2.layout x_1.2.items) ([46] : List UInt8)).bind fun v2 =>
 if v2.1 then
 (F.defs.reader_name (Defs_reader.mk v2.2.l_ v2.2.at_ (Def.mk v2.2.d.Start v2.2.d.Layout r_.d.Prods r_.d.Chains r_.d.Follows r_.d.Rejects r_.d.Boxes) v2.2.start v2.2.layout v2.2.items)).bind fun v7 =>
 v7.go (fun x_6 =>
 F.defs.reader_cf_j1 k r_ x_1 x_6.2.l_ x_6.2.at_ x_6.2.d.Start x_6.2.d.Layout x_6.2.start x_6.2.layout x_6.2.items x_6.1)
 (fun y_6 =>
 some (.pan y_6))
 else
 F.defs.reader_cf_j1 k r_ x_1 v2.2.l_ v2.2.at_ v2.2.d.Start v2.2.d.Layout v2.2.start v2.2.layout v2.2.items ([] : List UInt8))
 (fun y_1 =>
 some (.pan y_1)))
 (fun y_ =>
 some (.pan y_))
def F.defs.reader_group_l1 (r_ : Defs_reader) : Nat → Int → List Word → Int → List UInt8 → List UInt8 → Bool → Bool → Int → Option ((List Word) × Int × (List UInt8) × (List UInt8) × Bool × Bool × Int × Int)
 | 0, _, _, _, _, _, _, _, _ => none
 | j + 1, t9, l__, at__, q1, q2, q8, q9, q0 =>
  if decide (t9 < (([([108, 101, 102, 116] : List UInt8), ([114, 105, 103, 104, 116] : List UInt8), ([110, 111, 110] : List UInt8)] : List (List UInt8)).length : Int)) then
  if inR t9 ([([108, 101, 102, 116] : List UInt8), ([114, 105, 103, 104, 116] : List UInt8), ([110, 111, 110] : List UInt8)] : List (List UInt8)).length then
  (F.defs.reader_take (Defs_reader.mk l__ at__ (Def.mk q1 q2 r_.d.Prods r_.d.Chains r_.d.Follows r_.d.Rejects r_.d.Boxes) q8 q9 q0) (at_ ([([108, 101, 102, 116] : List UInt8), ([114, 105, 103, 104, 116] : List UInt8), ([110, 111, 110] : List UInt8)] : List (List UInt8)) t9)).bind fun v =>
  if v.1 then
  some (v.2.l_, v.2.at_, v.2.d.Start, v.2.d.Layout, v.2.start, v.2.layout, v.2.items, IntKind.wrap .i64 (t9 + 1))
  else
  (F.defs.reader_group_l1 r_ j) (IntKind.wrap .i64 (t9 + 1)) v.2.l_ v.2.at_ v.2.d.Start v.2.d.Layout v.2.start v.2.layout v.2.items
  else none
  else
  some (l__, at__, q1, q2, q8, q9, q0, 0)
def F.defs.reader_group_j4 (rec_2 : List Word → Int → List UInt8 → List UInt8 → Bool → Bool → Int → List (List UInt8) → Option (LR ((List Word) × Int × (List UInt8) × (List UInt8) × Bool × Bool × Int × (List (List UInt8))) (Pn (Group × Defs_reader) Fault))) (l__3 : List Word) (at__3 : Int) (q1_3 : List UInt8) (q2_3 : List UInt8) (q8_3 : Bool) (q9_3 : Bool) (q0_3 : Int) (Cons_2 : List (List UInt8)) : Option (LR ((List Word) × Int × (List UInt8) × (List UInt8) × Bool × Bool × Int × (List (List UInt8))) (Pn (Group × Defs_reader) Fault)) :=
 rec_2 l__3 at__3 q1_3 q2_3 q8_3 q9_3 q0_3 Cons_2
def F.defs.reader_group_j6 (rec_2 : List Word → Int → List UInt8 → List UInt8 → Bool → Bool → Int → List (List UInt8) → Option (LR ((List Word) × Int × (List UInt8) × (List UInt8) × Bool × Bool × Int × (List (List UInt8))) (Pn (Group × Defs_reader) Fault))) (l__4 : List Word) (at__4 : Int) (q1_4 : List UInt8) (q2_4 : List UInt8) (q8_4 : Bool) (q9_4 : Bool) (q0_4 : Int) (Cons_3 : List (List UInt8)) : Option (LR ((List Word) × Int × (List UInt8) × (List UInt8) × Bool × Bool × Int × (List (List UInt8))) (Pn (Group × Defs_reader) Fault)) :=
 F.defs.reader_group_j4 rec_2 l__4 at__4 q1_4 q2_4 q8_4 q9_4 q0_4 Cons_3
def F.defs.reader_group_j5 (l__2 : List Word) (at__2 : Int) (q1_2 : List UInt8) (q2_2 : List UInt8) (r_ : Defs_reader) (q8_2 : Bool) (q9_2 : Bool) (q0_2 : Int) (Cons_1 : List (List UInt8)) (rec_2 : List Word → Int → List UInt8 → List UInt8 → Bool → Bool → Int → List (List UInt8) → Option (LR ((List Word) × Int × (List UInt8) × (List UInt8) × Bool × Bool × Int × (List (List UInt8))) (Pn (Group × Defs_reader) Fault))) : Option (LR ((List Word) × Int × (List UInt8) × (List UInt8) × Bool × Bool × Int × (List (List UInt8))) (Pn (Group × Defs_reader) Fault)) :=
 (F.defs.reader_name (Defs_reader.mk l__2 at__2 (Def.mk q1_2 q2_2 r_.d.Prods r_.d.Chains r_.d.Follows r_.d.Rejects r_.d.Boxes) q8_2 q9_2 q0_2)).bind fun v1 =>
 v1.go (fun x_ =>
 if decide ((Cons_1.length + ([x_.1] : List (List UInt8)).length) * 16 ≤ 140737488355328) then
 if decide (Cons_1.length + ([x_.1] : List (List UInt8)).length ≤ 9223372036854775807) then
 F.defs.reader_group_j6 rec_2 x_.2.l_ x_.2.at_ x_.2.d.Start x_.2.d.Layout x_.2.start x_.2.layout x_.2.items (Cons_1 ++ ([x_.1] : List (List UInt8)))
 else none
 else none)
 (fun y_ =>
 some (.ret (.pan y_)))
def F.defs.reader_group_l3 (r_ : Defs_reader) : Nat → List Word → Int → List UInt8 → List UInt8 → Bool → Bool → Int → List (List UInt8) → Option (LR ((List Word) × Int × (List UInt8) × (List UInt8) × Bool × Bool × Int × (List (List UInt8))) (Pn (Group × Defs_reader) Fault))
 | 0, _, _, _, _, _, _, _, _ => none
 | j + 1, l__2, at__2, q1_2, q2_2, q8_2, q9_2, q0_2, Cons_1 =>
  if inR at__2 l__2.length then
  if (((at_ l__2 at__2).Kind) == 1) then
  if ((Cons_1.length : Int) == 16) then
  (F.defs.fail (at_ l__2 at__2) 2).bind fun v2 =>
  v2.go (fun x_1 =>
  F.defs.reader_group_j5 l__2 at__2 q1_2 q2_2 r_ q8_2 q9_2 q0_2 Cons_1 (F.defs.reader_group_l3 r_ j))
  (fun y_1 =>
  some (.ret (.pan y_1)))
  else
  F.defs.reader_group_j5 l__2 at__2 q1_2 q2_2 r_ q8_2 q9_2 q0_2 Cons_1 (F.defs.reader_group_l3 r_ j)
  else
  some (.done (l__2, at__2, q1_2, q2_2, q8_2, q9_2, q0_2, Cons_1))
  else none
def F.defs.reader_group_j2 (k : Nat) (r_ : Defs_reader) (o1 : (List Word) × Int × (List UInt8) × (List UInt8) × Bool × Bool × Int × Int) (l__1 : List Word) (at__1 : Int) (q1_1 : List UInt8) (q2_1 : List UInt8) (q8_1 : Bool) (q9_1 : Bool) (q0_1 : Int) (Cons_ : List (List UInt8)) : Option (Pn (Group × Defs_reader) Fault) :=
 (F.defs.reader_group_l3 r_ k l__1 at__1 q1_1 q2_1 q8_1 q9_1 q0_1 Cons_).bind fun o3 =>
 o3.fin fun d3 =>
 some (.ok ((Group.mk o1.2.2.2.2.2.2.2 d3.2.2.2.2.2.2.2), (Defs_reader.mk d3.1 d3.2.1 (Def.mk d3.2.2.1 d3.2.2.2.1 r_.d.Prods r_.d.Chains r_.d.Follows r_.d.Rejects r_.d.Boxes) d3.2.2.2.2.1 d3.2.2.2.2.2.1 d3.2.2.2.2.2.2.1)))
def F.defs.reader_group (k : Nat) (r_ : Defs_reader) : Option (Pn (Group × Defs_reader) Fault) :=
 (F.defs.reader_group_l1 r_ k 0 r_.l_ r_.at_ r_.d.Start r_.d.Layout r_.start r_.layout r_.items).bind fun o1 =>
 (F.defs.reader_name (Defs_reader.mk o1.1 o1.2.1 (Def.mk o1.2.2.1 o1.2.2.2.1 r_.d.Prods r_.d.Chains r_.d.Follows r_.d.Rejects r_.d.Boxes) o1.2.2.2.2.1 o1.2.2.2.2.2.1 o1.2.2.2.2.2.2.1)).bind fun v3 =>
 v3.go (fun x_2 =>
 if decide ((([] : List (List UInt8)).length + ([x_2.1] : List (List UInt8)).length) * 16 ≤ 140737488355328) then
 if decide (([] : List (List UInt8)).length + ([x_2.1] : List (List UInt8)).length ≤ 9223372036854775807) then
 F.defs.reader_group_j2 k r_ o1 x_2.2.l_ x_2.2.at_ x_2.2.d.Start x_2.2.d.Layout x_2.2.start x_2.2.layout x_2.2.items (([] : List (List UInt8)) ++ ([x_2.1] : List (List UInt8)))
 else none
 else none)
 (fun y_2 =>
 some (.pan y_2))
def F.defs.reader_prio_j2 (rec_1 : List Group → List Word → Int → List UInt8 → List UInt8 → Bool → Bool → Int → Option (LR ((List Group) × (List Word) × Int × (List UInt8) × (List UInt8) × Bool × Bool × Int) (Pn Defs_reader Fault))) (l__2 : List Group) (l__3 : List Word) (at__1 : Int) (q1_1 : List UInt8) (q2_1 : List UInt8) (q8_1 : Bool) (q9_1 : Bool) (q0_1 : Int) : Option (LR ((List Group) × (List Word) × Int × (List UInt8) × (List UInt8) × Bool × Bool × Int) (Pn Defs_reader Fault)) :=
 rec_1 l__2 l__3 at__1 q1_1 q2_1 q8_1 q9_1 q0_1
def F.defs.reader_prio_j3 (k : Nat) (v1 : Bool × Defs_reader) (r_ : Defs_reader) (l__ : List Group) (rec_1 : List Group → List Word → Int → List UInt8 → List UInt8 → Bool → Bool → Int → Option (LR ((List Group) × (List Word) × Int × (List UInt8) × (List UInt8) × Bool × Bool × Int) (Pn Defs_reader Fault))) : Option (LR ((List Group) × (List Word) × Int × (List UInt8) × (List UInt8) × Bool × Bool × Int) (Pn Defs_reader Fault)) :=
 (F.defs.reader_group k (Defs_reader.mk v1.2.l_ v1.2.at_ (Def.mk v1.2.d.Start v1.2.d.Layout r_.d.Prods r_.d.Chains r_.d.Follows r_.d.Rejects r_.d.Boxes) v1.2.start v1.2.layout v1.2.items)).bind fun v2 =>
 v2.go (fun x_1 =>
 if decide ((l__.length + ([x_1.1] : List Group).length) * 32 ≤ 140737488355328) then
 if decide (l__.length + ([x_1.1] : List Group).length ≤ 9223372036854775807) then
 F.defs.reader_prio_j2 rec_1 (l__ ++ ([x_1.1] : List Group)) x_1.2.l_ x_1.2.at_ x_1.2.d.Start x_1.2.d.Layout x_1.2.start x_1.2.layout x_1.2.items
 else none
 else none)
 (fun y_1 =>
 some (.ret (.pan y_1)))
def F.defs.reader_prio_l1 (k : Nat) (r_ : Defs_reader) : Nat → List Group → List Word → Int → List UInt8 → List UInt8 → Bool → Bool → Int → Option (LR ((List Group) × (List Word) × Int × (List UInt8) × (List UInt8) × Bool × Bool × Int) (Pn Defs_reader Fault))
 | 0, _, _, _, _, _, _, _, _ => none
 | j + 1, l__, l__1, at__, q1, q2, q8, q9, q0 =>
  (F.defs.reader_take (Defs_reader.mk l__1 at__ (Def.mk q1 q2 r_.d.Prods r_.d.Chains r_.d.Follows r_.d.Rejects r_.d.Boxes) q8 q9 q0) ([62] : List UInt8)).bind fun v1 =>
  if v1.1 then
  if ((l__.length : Int) == 16) then
  if inR v1.2.at_ v1.2.l_.length then
  (F.defs.fail (at_ v1.2.l_ v1.2.at_) 2).bind fun v3 =>
  v3.go (fun x_2 =>
  F.defs.reader_prio_j3 k v1 r_ l__ (F.defs.reader_prio_l1 k r_ j))
  (fun y_2 =>
  some (.ret (.pan y_2)))
  else none
  else
  F.defs.reader_prio_j3 k v1 r_ l__ (F.defs.reader_prio_l1 k r_ j)
  else
  some (.done (l__, v1.2.l_, v1.2.at_, v1.2.d.Start, v1.2.d.Layout, v1.2.start, v1.2.layout, v1.2.items))
def F.defs.reader_prio (k : Nat) (r_ : Defs_reader) (p1 : Word) : Option (Pn Defs_reader Fault) :=
 (F.defs.reader_group k r_).bind fun v =>
 v.go (fun x_ =>
 (F.defs.reader_prio_l1 k r_ k ([x_.1] : List Group) x_.2.l_ x_.2.at_ x_.2.d.Start x_.2.d.Layout x_.2.start x_.2.layout x_.2.items).bind fun o1 =>
 o1.fin fun d1 =>
 (F.defs.reader_want (Defs_reader.mk d1.2.1 d1.2.2.1 (Def.mk d1.2.2.2.1 d1.2.2.2.2.1 r_.d.Prods r_.d.Chains r_.d.Follows r_.d.Rejects r_.d.Boxes) d1.2.2.2.2.2.1 d1.2.2.2.2.2.2.1 d1.2.2.2.2.2.2.2) ([59] : List UInt8)).bind fun v4 =>
 v4.go (fun x_3 =>
 if decide ((r_.d.Chains.length + ([d1.1] : List (List Group)).length) * 24 ≤ 140737488355328) then
 if decide (r_.d.Chains.length + ([d1.1] : List (List Group)).length ≤ 9223372036854775807) then
 some (.ok (Defs_reader.mk x_3.l_ x_3.at_ (Def.mk x_3.d.Start x_3.d.Layout r_.d.Prods (r_.d.Chains ++ ([d1.1] : List (List Group))) r_.d.Follows r_.d.Rejects r_.d.Boxes) x_3.start x_3.layout x_3.items))
 else none
 else none)
 (fun y_3 =>
 some (.pan y_3)))
 (fun y_ =>
 some (.pan y_))
def F.defs.reader_all_c3_j1 (free : Defs_reader) (l__ : List Word) (at__ : Int) (q1 : List UInt8) (q2 : List UInt8) (q5 : List Follow) (q8 : Bool) (q9 : Bool) (q0 : Int) : Option (Pn Defs_reader Fault) :=
 (F.defs.reader_want (Defs_reader.mk l__ at__ (Def.mk q1 q2 free.d.Prods free.d.Chains q5 free.d.Rejects free.d.Boxes) q8 q9 q0) ([59] : List UInt8)).bind fun v1 =>
 v1.go (fun x_1 =>
 some (.ok (Defs_reader.mk x_1.l_ x_1.at_ (Def.mk x_1.d.Start x_1.d.Layout free.d.Prods free.d.Chains q5 free.d.Rejects free.d.Boxes) x_1.start x_1.layout x_1.items)))
 (fun y_1 =>
 some (.pan y_1))
def F.defs.reader_all_c3 (p0 : Word) (free : Defs_reader) : Option (Pn Defs_reader Fault) :=
 (F.defs.reader_name free).bind fun v =>
 v.go (fun x_ =>
 (F.defs.reader_kind (Defs_reader.mk x_.2.l_ x_.2.at_ (Def.mk x_.2.d.Start x_.2.d.Layout free.d.Prods free.d.Chains free.d.Follows free.d.Rejects free.d.Boxes) x_.2.start x_.2.layout x_.2.items) 5).bind fun v2 =>
 v2.go (fun x_2 =>
 if decide ((free.d.Follows.length + ([(Follow.mk x_.1 x_2.1.Set)] : List Follow).length) * 48 ≤ 140737488355328) then
 if decide (free.d.Follows.length + ([(Follow.mk x_.1 x_2.1.Set)] : List Follow).length ≤ 9223372036854775807) then
 F.defs.reader_all_c3_j1 free x_2.2.l_ x_2.2.at_ x_2.2.d.Start x_2.2.d.Layout (free.d.Follows ++ ([(Follow.mk x_.1 x_2.1.Set)] : List Follow)) x_2.2.start x_2.2.layout x_2.2.items
 else none
 else none)
 (fun y_2 =>
 some (.pan y_2)))
 (fun y_ =>
 some (.pan y_))
def F.defs.reader_all_c4_j1 (free : Defs_reader) (l__ : List Word) (at__ : Int) (q1 : List UInt8) (q2 : List UInt8) (q6 : List Reject) (q8 : Bool) (q9 : Bool) (q0 : Int) : Option (Pn Defs_reader Fault) :=
 (F.defs.reader_want (Defs_reader.mk l__ at__ (Def.mk q1 q2 free.d.Prods free.d.Chains free.d.Follows q6 free.d.Boxes) q8 q9 q0) ([59] : List UInt8)).bind fun v1 =>
 v1.go (fun x_1 =>
 some (.ok (Defs_reader.mk x_1.l_ x_1.at_ (Def.mk x_1.d.Start x_1.d.Layout free.d.Prods free.d.Chains free.d.Follows q6 free.d.Boxes) x_1.start x_1.layout x_1.items)))
 (fun y_1 =>
 some (.pan y_1))
def F.defs.reader_all_c4 (p0 : Word) (free : Defs_reader) : Option (Pn Defs_reader Fault) :=
 (F.defs.reader_name free).bind fun v =>
 v.go (fun x_ =>
 (F.defs.reader_name (Defs_reader.mk x_.2.l_ x_.2.at_ (Def.mk x_.2.d.Start x_.2.d.Layout free.d.Prods free.d.Chains free.d.Follows free.d.Rejects free.d.Boxes) x_.2.start x_.2.layout x_.2.items)).bind fun v2 =>
 v2.go (fun x_2 =>
 if decide ((free.d.Rejects.length + ([(Reject.mk x_.1 x_2.1)] : List Reject).length) * 32 ≤ 140737488355328) then
 if decide (free.d.Rejects.length + ([(Reject.mk x_.1 x_2.1)] : List Reject).length ≤ 9223372036854775807) then
 F.defs.reader_all_c4_j1 free x_2.2.l_ x_2.2.at_ x_2.2.d.Start x_2.2.d.Layout (free.d.Rejects ++ ([(Reject.mk x_.1 x_2.1)] : List Reject)) x_2.2.start x_2.2.layout x_2.2.items
 else none
 else none)
 (fun y_2 =>
 some (.pan y_2)))
 (fun y_ =>
 some (.pan y_))
def F.defs.reader_list_l1 (g120 : Defs_reader → Option (Pn (Item × Bool × Defs_reader) Fault)) (r_ : Defs_reader) : Nat → List Item → List Word → Int → List UInt8 → List UInt8 → Bool → Bool → Int → Option (LR Unit (Pn (List Item × Defs_reader) Fault))
 | 0, _, _, _, _, _, _, _, _ => none
 | j + 1, out_, l__, at__, q1, q2, q8, q9, q0 =>
  (g120 (Defs_reader.mk l__ at__ (Def.mk q1 q2 r_.d.Prods r_.d.Chains r_.d.Follows r_.d.Rejects r_.d.Boxes) q8 q9 q0)).bind fun v =>
  v.go (fun x_ =>
  if !x_.2.1 then
  some (.ret (.ok (out_, (Defs_reader.mk x_.2.2.l_ x_.2.2.at_ (Def.mk x_.2.2.d.Start x_.2.2.d.Layout r_.d.Prods r_.d.Chains r_.d.Follows r_.d.Rejects r_.d.Boxes) x_.2.2.start x_.2.2.layout x_.2.2.items))))
  else
  if decide ((out_.length + ([x_.1] : List Item).length) * 56 ≤ 140737488355328) then
  if decide (out_.length + ([x_.1] : List Item).length ≤ 9223372036854775807) then
  (F.defs.reader_list_l1 g120 r_ j) (out_ ++ ([x_.1] : List Item)) x_.2.2.l_ x_.2.2.at_ x_.2.2.d.Start x_.2.2.d.Layout x_.2.2.start x_.2.2.layout x_.2.2.items
  else none
  else none)
  (fun y_ =>
  some (.ret (.pan y_)))
def F.defs.reader_list_B (k : Nat) (g120 : Defs_reader → Option (Pn (Item × Bool × Defs_reader) Fault)) (r_ : Defs_reader) : Option (Pn (List Item × Defs_reader) Fault) :=
 (F.defs.reader_list_l1 g120 r_ k ([] : List Item) r_.l_ r_.at_ r_.d.Start r_.d.Layout r_.start r_.layout r_.items).bind fun o1 =>
 o1.fin fun d1 =>
 none
def F.defs.reader_item_j2 (r_ : Defs_reader) (g135 : Defs_reader → Option (Pn (List Item × Defs_reader) Fault)) : Option (Pn (Item × Bool × Defs_reader) Fault) :=
 if (((at_ r_.l_ r_.at_).Kind) == 4) then
 (F.defs.reader_kind (Defs_reader.mk r_.l_ r_.at_ r_.d r_.start r_.layout (IntKind.wrap .i64 (r_.items + 1))) 4).bind fun v =>
 v.go (fun x_ =>
 some (.ok ((Item.mk 1 (toS x_.1.Bytes) 0 ([] : List Item)), true, (Defs_reader.mk x_.2.l_ x_.2.at_ (Def.mk x_.2.d.Start x_.2.d.Layout r_.d.Prods r_.d.Chains r_.d.Follows r_.d.Rejects r_.d.Boxes) x_.2.start x_.2.layout x_.2.items))))
 (fun y_ =>
 some (.pan y_))
 else
 if (((at_ r_.l_ r_.at_).Kind) == 3) then
 (F.defs.reader_kind (Defs_reader.mk r_.l_ r_.at_ r_.d r_.start r_.layout (IntKind.wrap .i64 (r_.items + 1))) 3).bind fun v1 =>
 v1.go (fun x_1 =>
 some (.ok ((Item.mk 2 ([] : List UInt8) x_1.1.N_ ([] : List Item)), true, (Defs_reader.mk x_1.2.l_ x_1.2.at_ (Def.mk x_1.2.d.Start x_1.2.d.Layout r_.d.Prods r_.d.Chains r_.d.Follows r_.d.Rejects r_.d.Boxes) x_1.2.start x_1.2.layout x_1.2.items))))
 (fun y_1 =>
 some (.pan y_1))
 else
 (F.defs.reader_take (Defs_reader.mk r_.l_ r_.at_ r_.d r_.start r_.layout (IntKind.wrap .i64 (r_.items + 1))) ([95] : List UInt8)).bind fun v2 =>
 if v2.1 then
 some (.ok ((Item.mk 3 ([] : List UInt8) 0 ([] : List Item)), true, (Defs_reader.mk v2.2.l_ v2.2.at_ (Def.mk v2.2.d.Start v2.2.d.Layout r_.d.Prods r_.d.Chains r_.d.Follows r_.d.Rejects r_.d.Boxes) v2.2.start v2.2.layout v2.2.items)))
 else
 (F.defs.reader_take (Defs_reader.mk v2.2.l_ v2.2.at_ (Def.mk v2.2.d.Start v2.2.d.Layout r_.d.Prods r_.d.Chains r_.d.Follows r_.d.Rejects r_.d.Boxes) v2.2.start v2.2.layout v2.2.items) ([47] : List UInt8)).bind fun v3 =>
 if v3.1 then
 some (.ok ((Item.mk 4 ([] : List UInt8) 0 ([] : List Item)), true, (Defs_reader.mk v3.2.l_ v3.2.at_ (Def.mk v3.2.d.Start v3.2.d.Layout r_.d.Prods r_.d.Chains r_.d.Follows r_.d.Rejects r_.d.Boxes) v3.2.start v3.2.layout v3.2.items)))
 else
 (F.defs.reader_take (Defs_reader.mk v3.2.l_ v3.2.at_ (Def.mk v3.2.d.Start v3.2.d.Layout r_.d.Prods r_.d.Chains r_.d.Follows r_.d.Rejects r_.d.Boxes) v3.2.start v3.2.layout v3.2.items) ([110, 101, 115, 116] : List UInt8)).bind fun v4 =>
 if v4.1 then
 (F.defs.reader_kind (Defs_reader.mk v4.2.l_ v4.2.at_ (Def.mk v4.2.d.Start v4.2.d.Layout r_.d.Prods r_.d.Chains r_.d.Follows r_.d.Rejects r_.d.Boxes) v4.2.start v4.2.layout v4.2.items) 3).bind fun v5 =>
 v5.go (fun x_2 =>
 (g135 (Defs_reader.mk x_2.2.l_ x_2.2.at_ (Def.mk x_2.2.d.Start x_2.2.d.Layout r_.d.Prods r_.d.Chains r_.d.Follows r_.d.Rejects r_.d.Boxes) x_2.2.start x_2.2.layout x_2.2.items)).bind fun v6 =>
 v6.go (fun x_3 =>
 some (.ok ((Item.mk 5 ([] : List UInt8) x_2.1.N_ x_3.1), true, (Defs_reader.mk x_3.2.l_ x_3.2.at_ (Def.mk x_3.2.d.Start x_3.2.d.Layout r_.d.Prods r_.d.Chains r_.d.Follows r_.d.Rejects r_.d.Boxes) x_3.2.start x_3.2.layout x_3.2.items))))
 (fun y_3 =>
 some (.pan y_3)))
 (fun y_2 =>
 some (.pan y_2))
 else
 (g135 (Defs_reader.mk v4.2.l_ (IntKind.wrap .i64 (v4.2.at_ + 1)) (Def.mk v4.2.d.Start v4.2.d.Layout r_.d.Prods r_.d.Chains r_.d.Follows r_.d.Rejects r_.d.Boxes) v4.2.start v4.2.layout v4.2.items)).bind fun v7 =>
 v7.go (fun x_4 =>
 some (.ok ((Item.mk 6 ([] : List UInt8) 0 x_4.1), true, (Defs_reader.mk x_4.2.l_ x_4.2.at_ (Def.mk x_4.2.d.Start x_4.2.d.Layout r_.d.Prods r_.d.Chains r_.d.Follows r_.d.Rejects r_.d.Boxes) x_4.2.start x_4.2.layout x_4.2.items))))
 (fun y_4 =>
 some (.pan y_4))
def F.defs.reader_item_j1 (r_ : Defs_reader) (g135 : Defs_reader → Option (Pn (List Item × Defs_reader) Fault)) (t43 : Bool) : Option (Pn (Item × Bool × Defs_reader) Fault) :=
 if t43 then
 some (.ok ((Item.mk 0 ([] : List UInt8) 0 ([] : List Item)), false, r_))
 else
 if (r_.items == 64) then
 (F.defs.fail (at_ r_.l_ r_.at_) 2).bind fun v8 =>
 v8.go (fun x_5 =>
 F.defs.reader_item_j2 r_ g135)
 (fun y_5 =>
 some (.pan y_5))
 else
 F.defs.reader_item_j2 r_ g135
def F.defs.reader_item_B (k : Nat) (g135 : Defs_reader → Option (Pn (List Item × Defs_reader) Fault)) (r_ : Defs_reader) : Option (Pn (Item × Bool × Defs_reader) Fault) :=
 if inR r_.at_ r_.l_.length then
 if (((at_ r_.l_ r_.at_).Kind) != 4) then
 if (((at_ r_.l_ r_.at_).Kind) != 3) then
 (F.defs.reader_is r_ ([95] : List UInt8)).bind fun v9 =>
 if !v9 then
 (F.defs.reader_is r_ ([47] : List UInt8)).bind fun v10 =>
 if !v10 then
 (F.defs.reader_is r_ ([110, 101, 115, 116] : List UInt8)).bind fun v11 =>
 if !v11 then
 (F.defs.reader_is r_ ([103, 114, 111, 117, 112] : List UInt8)).bind fun v12 =>
 F.defs.reader_item_j1 r_ g135 (!v12)
 else
 F.defs.reader_item_j1 r_ g135 false
 else
 F.defs.reader_item_j1 r_ g135 false
 else
 F.defs.reader_item_j1 r_ g135 false
 else
 F.defs.reader_item_j1 r_ g135 false
 else
 F.defs.reader_item_j1 r_ g135 false
 else none
def F.defs.reader_within_B (k : Nat) (g91 : Defs_reader → Option (Pn (List Item × Defs_reader) Fault)) (r_ : Defs_reader) : Option (Pn (List Item × Defs_reader) Fault) :=
 (F.defs.reader_want r_ ([40] : List UInt8)).bind fun v =>
 v.go (fun x_ =>
 (g91 (Defs_reader.mk x_.l_ x_.at_ (Def.mk x_.d.Start x_.d.Layout r_.d.Prods r_.d.Chains r_.d.Follows r_.d.Rejects r_.d.Boxes) x_.start x_.layout x_.items)).bind fun v1 =>
 v1.go (fun x_1 =>
 (F.defs.reader_want (Defs_reader.mk x_1.2.l_ x_1.2.at_ (Def.mk x_1.2.d.Start x_1.2.d.Layout r_.d.Prods r_.d.Chains r_.d.Follows r_.d.Rejects r_.d.Boxes) x_1.2.start x_1.2.layout x_1.2.items) ([41] : List UInt8)).bind fun v2 =>
 v2.go (fun x_2 =>
 some (.ok (x_1.1, (Defs_reader.mk x_2.l_ x_2.at_ (Def.mk x_2.d.Start x_2.d.Layout r_.d.Prods r_.d.Chains r_.d.Follows r_.d.Rejects r_.d.Boxes) x_2.start x_2.layout x_2.items))))
 (fun y_2 =>
 some (.pan y_2)))
 (fun y_1 =>
 some (.pan y_1)))
 (fun y_ =>
 some (.pan y_))
def F.defs.reader_list_G : Nat → (Defs_reader → Option (Pn (List Item × Defs_reader) Fault)) × (Defs_reader → Option (Pn (Item × Bool × Defs_reader) Fault)) × (Defs_reader → Option (Pn (List Item × Defs_reader) Fault))
 | 0 => ((fun _ => none), (fun _ => none), (fun _ => none))
 | k + 1 => (F.defs.reader_list_B k ((F.defs.reader_list_G k).2.1), F.defs.reader_item_B k ((F.defs.reader_list_G k).2.2), F.defs.reader_within_B k ((F.defs.reader_list_G k).1))
def F.defs.reader_list (k : Nat) : Defs_reader → Option (Pn (List Item × Defs_reader) Fault) := (F.defs.reader_list_G k).1
def F.defs.reader_item (k : Nat) : Defs_reader → Option (Pn (Item × Bool × Defs_reader) Fault) := (F.defs.reader_list_G k).2.1
def F.defs.reader_within (k : Nat) : Defs_reader → Option (Pn (List Item × Defs_reader) Fault) := (F.defs.reader_list_G k).2.2
def F.defs.reader_all_c5 (k : Nat) (p0 : Word) (free : Defs_reader) : Option (Pn Defs_reader Fault) :=
 (F.defs.reader_name free).bind fun v =>
 v.go (fun x_ =>
 (F.defs.reader_want (Defs_reader.mk x_.2.l_ x_.2.at_ (Def.mk x_.2.d.Start x_.2.d.Layout free.d.Prods free.d.Chains free.d.Follows free.d.Rejects free.d.Boxes) x_.2.start x_.2.layout x_.2.items) ([61] : List UInt8)).bind fun v1 =>
 v1.go (fun x_1 =>
 (F.defs.reader_list k (Defs_reader.mk x_1.l_ x_1.at_ (Def.mk x_1.d.Start x_1.d.Layout free.d.Prods free.d.Chains free.d.Follows free.d.Rejects free.d.Boxes) x_1.start x_1.layout 0)).bind fun v2 =>
 v2.go (fun x_2 =>
 (F.defs.reader_want (Defs_reader.mk x_2.2.l_ x_2.2.at_ (Def.mk x_2.2.d.Start x_2.2.d.Layout free.d.Prods free.d.Chains free.d.Follows free.d.Rejects free.d.Boxes) x_2.2.start x_2.2.layout x_2.2.items) ([59] : List UInt8)).bind fun v3 =>
 v3.go (fun x_3 =>
 if decide ((free.d.Boxes.length + ([(Box.mk x_.1 x_2.1)] : List Box).length) * 40 ≤ 140737488355328) then
 if decide (free.d.Boxes.length + ([(Box.mk x_.1 x_2.1)] : List Box).length ≤ 9223372036854775807) then
 some (.ok (Defs_reader.mk x_3.l_ x_3.at_ (Def.mk x_3.d.Start x_3.d.Layout free.d.Prods free.d.Chains free.d.Follows free.d.Rejects (free.d.Boxes ++ ([(Box.mk x_.1 x_2.1)] : List Box))) x_3.start x_3.layout x_3.items))
 else none
 else none)
 (fun y_3 =>
 some (.pan y_3)))
 (fun y_2 =>
 some (.pan y_2)))
 (fun y_1 =>
 some (.pan y_1)))
 (fun y_ =>
 some (.pan y_))
def F.defs.reader_all_j2 (rec_1 : List Word → Int → List UInt8 → List UInt8 → List Prod → List (List Group) → List Follow → List Reject → List Box → Bool → Bool → Int → Option (LR ((List Word) × Int × (List UInt8) × (List UInt8) × (List Prod) × (List (List Group)) × (List Follow) × (List Reject) × (List Box) × Bool × Bool × Int) (Pn Defs_reader Fault))) (l__1 : List Word) (at__1 : Int) (q1_1 : List UInt8) (q2_1 : List UInt8) (q3_1 : List Prod) (q4_1 : List (List Group)) (q5_1 : List Follow) (q6_1 : List Reject) (q7_1 : List Box) (q8_1 : Bool) (q9_1 : Bool) (q0_1 : Int) : Option (LR ((List Word) × Int × (List UInt8) × (List UInt8) × (List Prod) × (List (List Group)) × (List Follow) × (List Reject) × (List Box) × Bool × Bool × Int) (Pn Defs_reader Fault)) :=
 rec_1 l__1 at__1 q1_1 q2_1 q3_1 q4_1 q5_1 q6_1 q7_1 q8_1 q9_1 q0_1
def F.defs.reader_all_j4 (l__ : List Word) (at__ : Int) (q1 : List UInt8) (q2 : List UInt8) (q3 : List Prod) (q4 : List (List Group)) (q5 : List Follow) (q6 : List Reject) (q7 : List Box) (q8 : Bool) (q9 : Bool) (q0 : Int) (rec_1 : List Word → Int → List UInt8 → List UInt8 → List Prod → List (List Group) → List Follow → List Reject → List Box → Bool → Bool → Int → Option (LR ((List Word) × Int × (List UInt8) × (List UInt8) × (List Prod) × (List (List Group)) × (List Follow) × (List Reject) × (List Box) × Bool × Bool × Int) (Pn Defs_reader Fault))) : Option (LR ((List Word) × Int × (List UInt8) × (List UInt8) × (List Prod) × (List (List Group)) × (List Follow) × (List Reject) × (List Box) × Bool × Bool × Int) (Pn Defs_reader Fault)) :=
 (F.defs.reader_all_c1 (at_ l__ at__) (Defs_reader.mk l__ (IntKind.wrap .i64 (at__ + 1)) (Def.mk q1 q2 q3 q4 q5 q6 q7) q8 q9 q0)).bind fun v =>
 v.go (fun x_ =>
 F.defs.reader_all_j2 rec_1 x_.l_ x_.at_ x_.d.Start x_.d.Layout q3 q4 q5 q6 q7 x_.start x_.layout x_.items)
 (fun y_ =>
 some (.ret (.pan y_)))
def F.defs.reader_all_j3 (l__ : List Word) (at__ : Int) (q1 : List UInt8) (q2 : List UInt8) (q3 : List Prod) (q4 : List (List Group)) (q5 : List Follow) (q6 : List Reject) (q7 : List Box) (q8 : Bool) (q9 : Bool) (q0 : Int) (rec_1 : List Word → Int → List UInt8 → List UInt8 → List Prod → List (List Group) → List Follow → List Reject → List Box → Bool → Bool → Int → Option (LR ((List Word) × Int × (List UInt8) × (List UInt8) × (List Prod) × (List (List Group)) × (List Follow) × (List Reject) × (List Box) × Bool × Bool × Int) (Pn Defs_reader Fault))) (t54 : Bool) : Option (LR ((List Word) × Int × (List UInt8) × (List UInt8) × (List Prod) × (List (List Group)) × (List Follow) × (List Reject) × (List Box) × Bool × Bool × Int) (Pn Defs_reader Fault)) :=
 if t54 then
 (F.defs.fail (at_ l__ at__) 30).bind fun v1 =>
 v1.go (fun x_1 =>
 F.defs.reader_all_j4 l__ at__ q1 q2 q3 q4 q5 q6 q7 q8 q9 q0 rec_1)
 (fun y_1 =>
 some (.ret (.pan y_1)))
 else
 F.defs.reader_all_j4 l__ at__ q1 q2 q3 q4 q5 q6 q7 q8 q9 q0 rec_1
def F.defs.reader_all_j6 (l__ : List Word) (at__ : Int) (q1 : List UInt8) (q2 : List UInt8) (q3 : List Prod) (q4 : List (List Group)) (q5 : List Follow) (q6 : List Reject) (q7 : List Box) (q8 : Bool) (q9 : Bool) (q0 : Int) (rec_1 : List Word → Int → List UInt8 → List UInt8 → List Prod → List (List Group) → List Follow → List Reject → List Box → Bool → Bool → Int → Option (LR ((List Word) × Int × (List UInt8) × (List UInt8) × (List Prod) × (List (List Group)) × (List Follow) × (List Reject) × (List Box) × Bool × Bool × Int) (Pn Defs_reader Fault))) : Option (LR ((List Word) × Int × (List UInt8) × (List UInt8) × (List Prod) × (List (List Group)) × (List Follow) × (List Reject) × (List Box) × Bool × Bool × Int) (Pn Defs_reader Fault)) :=
 (F.defs.reader_all_c2 (at_ l__ at__) (Defs_reader.mk l__ (IntKind.wrap .i64 (at__ + 1)) (Def.mk q1 q2 q3 q4 q5 q6 q7) q8 q9 q0)).bind fun v2 =>
 v2.go (fun x_2 =>
 F.defs.reader_all_j2 rec_1 x_2.l_ x_2.at_ x_2.d.Start x_2.d.Layout q3 q4 q5 q6 q7 x_2.start x_2.layout x_2.items)
 (fun y_2 =>
 some (.ret (.pan y_2)))
def F.defs.reader_all_j5 (l__ : List Word) (at__ : Int) (q1 : List UInt8) (q2 : List UInt8) (q3 : List Prod) (q4 : List (List Group)) (q5 : List Follow) (q6 : List Reject) (q7 : List Box) (q8 : Bool) (q9 : Bool) (q0 : Int) (rec_1 : List Word → Int → List UInt8 → List UInt8 → List Prod → List (List Group) → List Follow → List Reject → List Box → Bool → Bool → Int → Option (LR ((List Word) × Int × (List UInt8) × (List UInt8) × (List Prod) × (List (List Group)) × (List Follow) × (List Reject) × (List Box) × Bool × Bool × Int) (Pn Defs_reader Fault))) (t541 : Bool) : Option (LR ((List Word) × Int × (List UInt8) × (List UInt8) × (List Prod) × (List (List Group)) × (List Follow) × (List Reject) × (List Box) × Bool × Bool × Int) (Pn Defs_reader Fault)) :=
 if t541 then
 (F.defs.fail (at_ l__ at__) 30).bind fun v3 =>
 v3.go (fun x_3 =>
 F.defs.reader_all_j6 l__ at__ q1 q2 q3 q4 q5 q6 q7 q8 q9 q0 rec_1)
 (fun y_3 =>
 some (.ret (.pan y_3)))
 else
 F.defs.reader_all_j6 l__ at__ q1 q2 q3 q4 q5 q6 q7 q8 q9 q0 rec_1
def F.defs.reader_all_j8 (k : Nat) (l__ : List Word) (at__ : Int) (q1 : List UInt8) (q2 : List UInt8) (q3 : List Prod) (q4 : List (List Group)) (q5 : List Follow) (q6 : List Reject) (q7 : List Box) (q8 : Bool) (q9 : Bool) (q0 : Int) (rec_1 : List Word → Int → List UInt8 → List UInt8 → List Prod → List (List Group) → List Follow → List Reject → List Box → Bool → Bool → Int → Option (LR ((List Word) × Int × (List UInt8) × (List UInt8) × (List Prod) × (List (List Group)) × (List Follow) × (List Reject) × (List Box) × Bool × Bool × Int) (Pn Defs_reader Fault))) : Option (LR ((List Word) × Int × (List UInt8) × (List UInt8) × (List Prod) × (List (List Group)) × (List Follow) × (List Reject) × (List Box) × Bool × Bool × Int) (Pn Defs_reader Fault)) :=
 (F.defs.reader_lex k (Defs_reader.mk l__ (IntKind.wrap .i64 (at__ + 1)) (Def.mk q1 q2 q3 q4 q5 q6 q7) q8 q9 q0) (at_ l__ at__)).bind fun v4 =>
 v4.go (fun x_4 =>
 F.defs.reader_all_j2 rec_1 x_4.l_ x_4.at_ x_4.d.Start x_4.d.Layout x_4.d.Prods q4 q5 q6 q7 x_4.start x_4.layout x_4.items)
 (fun y_4 =>
 some (.ret (.pan y_4)))
def F.defs.reader_all_j7 (k : Nat) (l__ : List Word) (at__ : Int) (q1 : List UInt8) (q2 : List UInt8) (q3 : List Prod) (q4 : List (List Group)) (q5 : List Follow) (q6 : List Reject) (q7 : List Box) (q8 : Bool) (q9 : Bool) (q0 : Int) (rec_1 : List Word → Int → List UInt8 → List UInt8 → List Prod → List (List Group) → List Follow → List Reject → List Box → Bool → Bool → Int → Option (LR ((List Word) × Int × (List UInt8) × (List UInt8) × (List Prod) × (List (List Group)) × (List Follow) × (List Reject) × (List Box) × Bool × Bool × Int) (Pn Defs_reader Fault))) (t542 : Bool) : Option (LR ((List Word) × Int × (List UInt8) × (List UInt8) × (List Prod) × (List (List Group)) × (List Follow) × (List Reject) × (List Box) × Bool × Bool × Int) (Pn Defs_reader Fault)) :=
 if t542 then
 (F.defs.fail (at_ l__ at__) 30).bind fun v5 =>
 v5.go (fun x_5 =>
 F.defs.reader_all_j8 k l__ at__ q1 q2 q3 q4 q5 q6 q7 q8 q9 q0 rec_1)
 (fun y_5 =>
 some (.ret (.pan y_5)))
 else
 F.defs.reader_all_j8 k l__ at__ q1 q2 q3 q4 q5 q6 q7 q8 q9 q0 rec_1
def F.defs.reader_all_j10 (k : Nat) (l__ : List Word) (at__ : Int) (q1 : List UInt8) (q2 : List UInt8) (q3 : List Prod) (q4 : List (List Group)) (q5 : List Follow) (q6 : List Reject) (q7 : List Box) (q8 : Bool) (q9 : Bool) (q0 : Int) (rec_1 : List Word → Int → List UInt8 → List UInt8 → List Prod → List (List Group) → List Follow → List Reject → List Box → Bool → Bool → Int → Option (LR ((List Word) × Int × (List UInt8) × (List UInt8) × (List Prod) × (List (List Group)) × (List Follow) × (List Reject) × (List Box) × Bool × Bool × Int) (Pn Defs_reader Fault))) : Option (LR ((List Word) × Int × (List UInt8) × (List UInt8) × (List Prod) × (List (List Group)) × (List Follow) × (List Reject) × (List Box) × Bool × Bool × Int) (Pn Defs_reader Fault)) :=
 (F.defs.reader_cf k (Defs_reader.mk l__ (IntKind.wrap .i64 (at__ + 1)) (Def.mk q1 q2 q3 q4 q5 q6 q7) q8 q9 q0) (at_ l__ at__)).bind fun v6 =>
 v6.go (fun x_6 =>
 F.defs.reader_all_j2 rec_1 x_6.l_ x_6.at_ x_6.d.Start x_6.d.Layout x_6.d.Prods q4 q5 q6 q7 x_6.start x_6.layout x_6.items)
 (fun y_6 =>
 some (.ret (.pan y_6)))
def F.defs.reader_all_j9 (k : Nat) (l__ : List Word) (at__ : Int) (q1 : List UInt8) (q2 : List UInt8) (q3 : List Prod) (q4 : List (List Group)) (q5 : List Follow) (q6 : List Reject) (q7 : List Box) (q8 : Bool) (q9 : Bool) (q0 : Int) (rec_1 : List Word → Int → List UInt8 → List UInt8 → List Prod → List (List Group) → List Follow → List Reject → List Box → Bool → Bool → Int → Option (LR ((List Word) × Int × (List UInt8) × (List UInt8) × (List Prod) × (List (List Group)) × (List Follow) × (List Reject) × (List Box) × Bool × Bool × Int) (Pn Defs_reader Fault))) (t543 : Bool) : Option (LR ((List Word) × Int × (List UInt8) × (List UInt8) × (List Prod) × (List (List Group)) × (List Follow) × (List Reject) × (List Box) × Bool × Bool × Int) (Pn Defs_reader Fault)) :=
 if t543 then
 (F.defs.fail (at_ l__ at__) 30).bind fun v7 =>
 v7.go (fun x_7 =>
 F.defs.reader_all_j10 k l__ at__ q1 q2 q3 q4 q5 q6 q7 q8 q9 q0 rec_1)
 (fun y_7 =>
 some (.ret (.pan y_7)))
 else
 F.defs.reader_all_j10 k l__ at__ q1 q2 q3 q4 q5 q6 q7 q8 q9 q0 rec_1
def F.defs.reader_all_j12 (k : Nat) (l__ : List Word) (at__ : Int) (q1 : List UInt8) (q2 : List UInt8) (q3 : List Prod) (q4 : List (List Group)) (q5 : List Follow) (q6 : List Reject) (q7 : List Box) (q8 : Bool) (q9 : Bool) (q0 : Int) (rec_1 : List Word → Int → List UInt8 → List UInt8 → List Prod → List (List Group) → List Follow → List Reject → List Box → Bool → Bool → Int → Option (LR ((List Word) × Int × (List UInt8) × (List UInt8) × (List Prod) × (List (List Group)) × (List Follow) × (List Reject) × (List Box) × Bool × Bool × Int) (Pn Defs_reader Fault))) : Option (LR ((List Word) × Int × (List UInt8) × (List UInt8) × (List Prod) × (List (List Group)) × (List Follow) × (List Reject) × (List Box) × Bool × Bool × Int) (Pn Defs_reader Fault)) :=
 (F.defs.reader_prio k (Defs_reader.mk l__ (IntKind.wrap .i64 (at__ + 1)) (Def.mk q1 q2 q3 q4 q5 q6 q7) q8 q9 q0) (at_ l__ at__)).bind fun v8 =>
 v8.go (fun x_8 =>
 F.defs.reader_all_j2 rec_1 x_8.l_ x_8.at_ x_8.d.Start x_8.d.Layout q3 x_8.d.Chains q5 q6 q7 x_8.start x_8.layout x_8.items)
 (fun y_8 =>
 some (.ret (.pan y_8)))
def F.defs.reader_all_j11 (k : Nat) (l__ : List Word) (at__ : Int) (q1 : List UInt8) (q2 : List UInt8) (q3 : List Prod) (q4 : List (List Group)) (q5 : List Follow) (q6 : List Reject) (q7 : List Box) (q8 : Bool) (q9 : Bool) (q0 : Int) (rec_1 : List Word → Int → List UInt8 → List UInt8 → List Prod → List (List Group) → List Follow → List Reject → List Box → Bool → Bool → Int → Option (LR ((List Word) × Int × (List UInt8) × (List UInt8) × (List Prod) × (List (List Group)) × (List Follow) × (List Reject) × (List Box) × Bool × Bool × Int) (Pn Defs_reader Fault))) (t544 : Bool) : Option (LR ((List Word) × Int × (List UInt8) × (List UInt8) × (List Prod) × (List (List Group)) × (List Follow) × (List Reject) × (List Box) × Bool × Bool × Int) (Pn Defs_reader Fault)) :=
 if t544 then
 (F.defs.fail (at_ l__ at__) 30).bind fun v9 =>
 v9.go (fun x_9 =>
 F.defs.reader_all_j12 k l__ at__ q1 q2 q3 q4 q5 q6 q7 q8 q9 q0 rec_1)
 (fun y_9 =>
 some (.ret (.pan y_9)))
 else
 F.defs.reader_all_j12 k l__ at__ q1 q2 q3 q4 q5 q6 q7 q8 q9 q0 rec_1
def F.defs.reader_all_j14 (l__ : List Word) (at__ : Int) (q1 : List UInt8) (q2 : List UInt8) (q3 : List Prod) (q4 : List (List Group)) (q5 : List Follow) (q6 : List Reject) (q7 : List Box) (q8 : Bool) (q9 : Bool) (q0 : Int) (rec_1 : List Word → Int → List UInt8 → List UInt8 → List Prod → List (List Group) → List Follow → List Reject → List Box → Bool → Bool → Int → Option (LR ((List Word) × Int × (List UInt8) × (List UInt8) × (List Prod) × (List (List Group)) × (List Follow) × (List Reject) × (List Box) × Bool × Bool × Int) (Pn Defs_reader Fault))) : Option (LR ((List Word) × Int × (List UInt8) × (List UInt8) × (List Prod) × (List (List Group)) × (List Follow) × (List Reject) × (List Box) × Bool × Bool × Int) (Pn Defs_reader Fault)) :=
 (F.defs.reader_all_c3 (at_ l__ at__) (Defs_reader.mk l__ (IntKind.wrap .i64 (at__ + 1)) (Def.mk q1 q2 q3 q4 q5 q6 q7) q8 q9 q0)).bind fun v10 =>
 v10.go (fun x_10 =>
 F.defs.reader_all_j2 rec_1 x_10.l_ x_10.at_ x_10.d.Start x_10.d.Layout q3 q4 x_10.d.Follows q6 q7 x_10.start x_10.layout x_10.items)
 (fun y_10 =>
 some (.ret (.pan y_10)))
def F.defs.reader_all_j13 (l__ : List Word) (at__ : Int) (q1 : List UInt8) (q2 : List UInt8) (q3 : List Prod) (q4 : List (List Group)) (q5 : List Follow) (q6 : List Reject) (q7 : List Box) (q8 : Bool) (q9 : Bool) (q0 : Int) (rec_1 : List Word → Int → List UInt8 → List UInt8 → List Prod → List (List Group) → List Follow → List Reject → List Box → Bool → Bool → Int → Option (LR ((List Word) × Int × (List UInt8) × (List UInt8) × (List Prod) × (List (List Group)) × (List Follow) × (List Reject) × (List Box) × Bool × Bool × Int) (Pn Defs_reader Fault))) (t545 : Bool) : Option (LR ((List Word) × Int × (List UInt8) × (List UInt8) × (List Prod) × (List (List Group)) × (List Follow) × (List Reject) × (List Box) × Bool × Bool × Int) (Pn Defs_reader Fault)) :=
 if t545 then
 (F.defs.fail (at_ l__ at__) 30).bind fun v11 =>
 v11.go (fun x_11 =>
 F.defs.reader_all_j14 l__ at__ q1 q2 q3 q4 q5 q6 q7 q8 q9 q0 rec_1)
 (fun y_11 =>
 some (.ret (.pan y_11)))
 else
 F.defs.reader_all_j14 l__ at__ q1 q2 q3 q4 q5 q6 q7 q8 q9 q0 rec_1
def F.defs.reader_all_j16 (l__ : List Word) (at__ : Int) (q1 : List UInt8) (q2 : List UInt8) (q3 : List Prod) (q4 : List (List Group)) (q5 : List Follow) (q6 : List Reject) (q7 : List Box) (q8 : Bool) (q9 : Bool) (q0 : Int) (rec_1 : List Word → Int → List UInt8 → List UInt8 → List Prod → List (List Group) → List Follow → List Reject → List Box → Bool → Bool → Int → Option (LR ((List Word) × Int × (List UInt8) × (List UInt8) × (List Prod) × (List (List Group)) × (List Follow) × (List Reject) × (List Box) × Bool × Bool × Int) (Pn Defs_reader Fault))) : Option (LR ((List Word) × Int × (List UInt8) × (List UInt8) × (List Prod) × (List (List Group)) × (List Follow) × (List Reject) × (List Box) × Bool × Bool × Int) (Pn Defs_reader Fault)) :=
 (F.defs.reader_all_c4 (at_ l__ at__) (Defs_reader.mk l__ (IntKind.wrap .i64 (at__ + 1)) (Def.mk q1 q2 q3 q4 q5 q6 q7) q8 q9 q0)).bind fun v12 =>
 v12.go (fun x_12 =>
 F.defs.reader_all_j2 rec_1 x_12.l_ x_12.at_ x_12.d.Start x_12.d.Layout q3 q4 q5 x_12.d.Rejects q7 x_12.start x_12.layout x_12.items)
 (fun y_12 =>
 some (.ret (.pan y_12)))
def F.defs.reader_all_j15 (l__ : List Word) (at__ : Int) (q1 : List UInt8) (q2 : List UInt8) (q3 : List Prod) (q4 : List (List Group)) (q5 : List Follow) (q6 : List Reject) (q7 : List Box) (q8 : Bool) (q9 : Bool) (q0 : Int) (rec_1 : List Word → Int → List UInt8 → List UInt8 → List Prod → List (List Group) → List Follow → List Reject → List Box → Bool → Bool → Int → Option (LR ((List Word) × Int × (List UInt8) × (List UInt8) × (List Prod) × (List (List Group)) × (List Follow) × (List Reject) × (List Box) × Bool × Bool × Int) (Pn Defs_reader Fault))) (t546 : Bool) : Option (LR ((List Word) × Int × (List UInt8) × (List UInt8) × (List Prod) × (List (List Group)) × (List Follow) × (List Reject) × (List Box) × Bool × Bool × Int) (Pn Defs_reader Fault)) :=
 if t546 then
 (F.defs.fail (at_ l__ at__) 30).bind fun v13 =>
 v13.go (fun x_13 =>
 F.defs.reader_all_j16 l__ at__ q1 q2 q3 q4 q5 q6 q7 q8 q9 q0 rec_1)
 (fun y_13 =>
 some (.ret (.pan y_13)))
 else
 F.defs.reader_all_j16 l__ at__ q1 q2 q3 q4 q5 q6 q7 q8 q9 q0 rec_1
def F.defs.reader_all_j18 (k : Nat) (l__ : List Word) (at__ : Int) (q1 : List UInt8) (q2 : List UInt8) (q3 : List Prod) (q4 : List (List Group)) (q5 : List Follow) (q6 : List Reject) (q7 : List Box) (q8 : Bool) (q9 : Bool) (q0 : Int) (rec_1 : List Word → Int → List UInt8 → List UInt8 → List Prod → List (List Group) → List Follow → List Reject → List Box → Bool → Bool → Int → Option (LR ((List Word) × Int × (List UInt8) × (List UInt8) × (List Prod) × (List (List Group)) × (List Follow) × (List Reject) × (List Box) × Bool × Bool × Int) (Pn Defs_reader Fault))) : Option (LR ((List Word) × Int × (List UInt8) × (List UInt8) × (List Prod) × (List (List Group)) × (List Follow) × (List Reject) × (List Box) × Bool × Bool × Int) (Pn Defs_reader Fault)) :=
 (F.defs.reader_all_c5 k (at_ l__ at__) (Defs_reader.mk l__ (IntKind.wrap .i64 (at__ + 1)) (Def.mk q1 q2 q3 q4 q5 q6 q7) q8 q9 q0)).bind fun v14 =>
 v14.go (fun x_14 =>
 F.defs.reader_all_j2 rec_1 x_14.l_ x_14.at_ x_14.d.Start x_14.d.Layout q3 q4 q5 q6 x_14.d.Boxes x_14.start x_14.layout x_14.items)
 (fun y_14 =>
 some (.ret (.pan y_14)))
def F.defs.reader_all_j17 (k : Nat) (l__ : List Word) (at__ : Int) (q1 : List UInt8) (q2 : List UInt8) (q3 : List Prod) (q4 : List (List Group)) (q5 : List Follow) (q6 : List Reject) (q7 : List Box) (q8 : Bool) (q9 : Bool) (q0 : Int) (rec_1 : List Word → Int → List UInt8 → List UInt8 → List Prod → List (List Group) → List Follow → List Reject → List Box → Bool → Bool → Int → Option (LR ((List Word) × Int × (List UInt8) × (List UInt8) × (List Prod) × (List (List Group)) × (List Follow) × (List Reject) × (List Box) × Bool × Bool × Int) (Pn Defs_reader Fault))) (t547 : Bool) : Option (LR ((List Word) × Int × (List UInt8) × (List UInt8) × (List Prod) × (List (List Group)) × (List Follow) × (List Reject) × (List Box) × Bool × Bool × Int) (Pn Defs_reader Fault)) :=
 if t547 then
 (F.defs.fail (at_ l__ at__) 30).bind fun v15 =>
 v15.go (fun x_15 =>
 F.defs.reader_all_j18 k l__ at__ q1 q2 q3 q4 q5 q6 q7 q8 q9 q0 rec_1)
 (fun y_15 =>
 some (.ret (.pan y_15)))
 else
 F.defs.reader_all_j18 k l__ at__ q1 q2 q3 q4 q5 q6 q7 q8 q9 q0 rec_1
def F.defs.reader_all_j20 : Option (LR ((List Word) × Int × (List UInt8) × (List UInt8) × (List Prod) × (List (List Group)) × (List Follow) × (List Reject) × (List Box) × Bool × Bool × Int) (Pn Defs_reader Fault)) :=
 none
def F.defs.reader_all_j19 (l__ : List Word) (at__ : Int) (t548 : Bool) : Option (LR ((List Word) × Int × (List UInt8) × (List UInt8) × (List Prod) × (List (List Group)) × (List Follow) × (List Reject) × (List Box) × Bool × Bool × Int) (Pn Defs_reader Fault)) :=
 if t548 then
 (F.defs.fail (at_ l__ at__) 30).bind fun v16 =>
 v16.go (fun x_16 =>
 F.defs.reader_all_j20)
 (fun y_16 =>
 some (.ret (.pan y_16)))
 else
 F.defs.reader_all_j20
def F.defs.reader_all_l1 (k : Nat) : Nat → List Word → Int → List UInt8 → List UInt8 → List Prod → List (List Group) → List Follow → List Reject → List Box → Bool → Bool → Int → Option (LR ((List Word) × Int × (List UInt8) × (List UInt8) × (List Prod) × (List (List Group)) × (List Follow) × (List Reject) × (List Box) × Bool × Bool × Int) (Pn Defs_reader Fault))
 | 0, _, _, _, _, _, _, _, _, _, _, _, _ => none
 | j + 1, l__, at__, q1, q2, q3, q4, q5, q6, q7, q8, q9, q0 =>
  if inR at__ l__.length then
  if (((at_ l__ at__).Kind) != 7) then
  if (((at_ l__ at__).Text) == ([115, 116, 97, 114, 116] : List UInt8)) then
  if !true then
  F.defs.reader_all_j3 l__ at__ q1 q2 q3 q4 q5 q6 q7 q8 q9 q0 (F.defs.reader_all_l1 k j) true
  else
  F.defs.reader_all_j3 l__ at__ q1 q2 q3 q4 q5 q6 q7 q8 q9 q0 (F.defs.reader_all_l1 k j) (((at_ l__ at__).Kind) != 2)
  else
  if (((at_ l__ at__).Text) == ([108, 97, 121, 111, 117, 116] : List UInt8)) then
  if !true then
  F.defs.reader_all_j5 l__ at__ q1 q2 q3 q4 q5 q6 q7 q8 q9 q0 (F.defs.reader_all_l1 k j) true
  else
  F.defs.reader_all_j5 l__ at__ q1 q2 q3 q4 q5 q6 q7 q8 q9 q0 (F.defs.reader_all_l1 k j) (((at_ l__ at__).Kind) != 2)
  else
  if (((at_ l__ at__).Text) == ([108, 101, 120] : List UInt8)) then
  if !true then
  F.defs.reader_all_j7 k l__ at__ q1 q2 q3 q4 q5 q6 q7 q8 q9 q0 (F.defs.reader_all_l1 k j) true
  else
  F.defs.reader_all_j7 k l__ at__ q1 q2 q3 q4 q5 q6 q7 q8 q9 q0 (F.defs.reader_all_l1 k j) (((at_ l__ at__).Kind) != 2)
  else
  if (((at_ l__ at__).Text) == ([99, 102] : List UInt8)) then
  if !true then
  F.defs.reader_all_j9 k l__ at__ q1 q2 q3 q4 q5 q6 q7 q8 q9 q0 (F.defs.reader_all_l1 k j) true
  else
  F.defs.reader_all_j9 k l__ at__ q1 q2 q3 q4 q5 q6 q7 q8 q9 q0 (F.defs.reader_all_l1 k j) (((at_ l__ at__).Kind) != 2)
  else
  if (((at_ l__ at__).Text) == ([112, 114, 105, 111] : List UInt8)) then
  if !true then
  F.defs.reader_all_j11 k l__ at__ q1 q2 q3 q4 q5 q6 q7 q8 q9 q0 (F.defs.reader_all_l1 k j) true
  else
  F.defs.reader_all_j11 k l__ at__ q1 q2 q3 q4 q5 q6 q7 q8 q9 q0 (F.defs.reader_all_l1 k j) (((at_ l__ at__).Kind) != 2)
  else
  if (((at_ l__ at__).Text) == ([102, 111, 108, 108, 111, 119] : List UInt8)) then
  if !true then
  F.defs.reader_all_j13 l__ at__ q1 q2 q3 q4 q5 q6 q7 q8 q9 q0 (F.defs.reader_all_l1 k j) true
  else
  F.defs.reader_all_j13 l__ at__ q1 q2 q3 q4 q5 q6 q7 q8 q9 q0 (F.defs.reader_all_l1 k j) (((at_ l__ at__).Kind) != 2)
  else
  if (((at_ l__ at__).Text) == ([114, 101, 106, 101, 99, 116] : List UInt8)) then
  if !true then
  F.defs.reader_all_j15 l__ at__ q1 q2 q3 q4 q5 q6 q7 q8 q9 q0 (F.defs.reader_all_l1 k j) true
  else
  F.defs.reader_all_j15 l__ at__ q1 q2 q3 q4 q5 q6 q7 q8 q9 q0 (F.defs.reader_all_l1 k j) (((at_ l__ at__).Kind) != 2)
  else
  if (((at_ l__ at__).Text) == ([98, 111, 120] : List UInt8)) then
  if !true then
  F.defs.reader_all_j17 k l__ at__ q1 q2 q3 q4 q5 q6 q7 q8 q9 q0 (F.defs.reader_all_l1 k j) true
  else
  F.defs.reader_all_j17 k l__ at__ q1 q2 q3 q4 q5 q6 q7 q8 q9 q0 (F.defs.reader_all_l1 k j) (((at_ l__ at__).Kind) != 2)
  else
  if !false then
  F.defs.reader_all_j19 l__ at__ true
  else
  F.defs.reader_all_j19 l__ at__ (((at_ l__ at__).Kind) != 2)
  else
  some (.done (l__, at__, q1, q2, q3, q4, q5, q6, q7, q8, q9, q0))
  else none
def F.defs.reader_all (k : Nat) (r_ : Defs_reader) : Option (Pn Defs_reader Fault) :=
 (F.defs.reader_all_l1 k k r_.l_ r_.at_ r_.d.Start r_.d.Layout r_.d.Prods r_.d.Chains r_.d.Follows r_.d.Rejects r_.d.Boxes r_.start r_.layout r_.items).bind fun o1 =>
 o1.fin fun d1 =>
 some (.ok (Defs_reader.mk d1.1 d1.2.1 (Def.mk d1.2.2.1 d1.2.2.2.1 d1.2.2.2.2.1 d1.2.2.2.2.2.1 d1.2.2.2.2.2.2.1 d1.2.2.2.2.2.2.2.1 d1.2.2.2.2.2.2.2.2.1) d1.2.2.2.2.2.2.2.2.2.1 d1.2.2.2.2.2.2.2.2.2.2.1 d1.2.2.2.2.2.2.2.2.2.2.2))
def F.defs.Parse_c1_pan (p0 : Def) (p1 : Fault) (y : Fault) : Option (Def × Fault) :=
 some ((Def.mk ([] : List UInt8) ([] : List UInt8) ([] : List Prod) ([] : List (List Group)) ([] : List Follow) ([] : List Reject) ([] : List Box)), y)
def F.defs.Parse_c1_ret (p0 : Def) (p1 : Fault) : Option (Def × Fault) :=
 some (p0, p1)
def F.defs.Parse (k : Nat) (text_ : List UInt8) : Option (Def × Fault) :=
 (F.words.Scan k text_).bind fun v =>
 if (v.2.Code != 0) then
 some ((Def.mk ([] : List UInt8) ([] : List UInt8) ([] : List Prod) ([] : List (List Group)) ([] : List Follow) ([] : List Reject) ([] : List Box)), v.2)
 else
 (F.defs.reader_all k (Defs_reader.mk v.1 0 (Def.mk ([] : List UInt8) ([] : List UInt8) ([] : List Prod) ([] : List (List Group)) ([] : List Follow) ([] : List Reject) ([] : List Box)) false false 0)).bind fun v1 =>
 v1.go (fun x_ =>
 (F.defs.Parse_c1_ret x_.d (Fault.mk 0 0)).bind fun v2 =>
 some (v2.1, v2.2))
 (fun y_ =>
 (F.defs.Parse_c1_pan (Def.mk ([] : List UInt8) ([] : List UInt8) ([] : List Prod) ([] : List (List Group)) ([] : List Follow) ([] : List Reject) ([] : List Box)) v.2 y_).bind fun v3 =>
 some (v3.1, v3.2))
def F.words.IsName_j1 (t2 : Bool) : Option Bool :=
 some t2
def F.words.IsName (k : Nat) (s : List UInt8) : Option Bool :=
 if !(s == ([] : List UInt8)) then
 if decide ((s.length : Int) ≤ 32) then
 if inR 0 s.length then
 (F.words.great (IntKind.wrap .i32 (sAt s 0))).bind fun v =>
 if v then
 (F.words.run k s).bind fun v1 =>
 F.words.IsName_j1 (v1 == (s.length : Int))
 else
 F.words.IsName_j1 false
 else none
 else
 F.words.IsName_j1 false
 else
 F.words.IsName_j1 false
def F.defs.named (k : Nat) (s : List UInt8) (empty : Bool) : Option Bool :=
 if (s == ([] : List UInt8)) then
 if empty then
 some true
 else
 (F.words.IsName k s).bind fun v =>
 some v
 else
 (F.words.IsName k s).bind fun v1 =>
 some v1
def F.defs.rightSym_j1 (t2 : Bool) : Option Bool :=
 some t2
def F.defs.rightSym_j2 (t21 : Bool) : Option Bool :=
 some t21
def F.defs.rightSym_j3 (t22 : Bool) : Option Bool :=
 some t22
def F.defs.rightSym_j5 (t23 : Bool) : Option Bool :=
 some t23
def F.defs.rightSym_j4 (k : Nat) (s : Sym) (t88 : Bool) : Option Bool :=
 if t88 then
 if (s.Name == ([] : List UInt8)) then
 if (s.Text == ([] : List UInt8)) then
 some (s.Sep == ([] : List UInt8))
 else
 some false
 else
 if (s.Text == ([] : List UInt8)) then
 if (S4.eq s.Set (S4.mk 0 0 0 0)) then
 (F.defs.named k s.Name false).bind fun v2 =>
 if v2 then
 F.defs.rightSym_j5 (decide ((s.Sep.length : Int) ≤ 32))
 else
 F.defs.rightSym_j5 false
 else
 F.defs.rightSym_j5 false
 else
 F.defs.rightSym_j5 false
 else
 some false
def F.defs.rightSym (k : Nat) (s : Sym) : Option Bool :=
 if (s.Kind == 1) then
 if decide ((s.Text.length : Int) ≤ 32) then
 if (S4.eq s.Set (S4.mk 0 0 0 0)) then
 if (s.Name == ([] : List UInt8)) then
 F.defs.rightSym_j1 (s.Sep == ([] : List UInt8))
 else
 F.defs.rightSym_j1 false
 else
 F.defs.rightSym_j1 false
 else
 F.defs.rightSym_j1 false
 else
 if (s.Kind == 2) then
 if (s.Text == ([] : List UInt8)) then
 if (s.Name == ([] : List UInt8)) then
 some (s.Sep == ([] : List UInt8))
 else
 some false
 else
 some false
 else
 if (s.Kind == 3) then
 if (s.Text == ([] : List UInt8)) then
 if (S4.eq s.Set (S4.mk 0 0 0 0)) then
 (F.defs.named k s.Name false).bind fun v =>
 if v then
 F.defs.rightSym_j2 (s.Sep == ([] : List UInt8))
 else
 F.defs.rightSym_j2 false
 else
 F.defs.rightSym_j2 false
 else
 F.defs.rightSym_j2 false
 else
 if (s.Kind == 4) then
 if (s.Text == ([] : List UInt8)) then
 if (s.Sep == ([] : List UInt8)) then
 if (s.Name == ([] : List UInt8)) then
 F.defs.rightSym_j3 true
 else
 if (S4.eq s.Set (S4.mk 0 0 0 0)) then
 (F.defs.named k s.Name false).bind fun v1 =>
 F.defs.rightSym_j3 v1
 else
 F.defs.rightSym_j3 false
 else
 F.defs.rightSym_j3 false
 else
 F.defs.rightSym_j3 false
 else
 if (s.Kind == 5) then
 F.defs.rightSym_j4 k s (s.Kind == 5)
 else
 F.defs.rightSym_j4 k s (s.Kind == 6)
def F.defs.rightProd_c1 (k : Nat) (s : Sym) : Option Bool :=
 (F.defs.rightSym k s).bind fun v =>
 some (!v)
def F.slices.IndexFunc_f121_94_l1 (k : Nat) (s : List Sym) : Nat → Int → Option (LR Unit Int)
 | 0, _ => none
 | j + 1, t8 =>
  if decide (t8 < (s.length : Int)) then
  if inR t8 s.length then
  (F.defs.rightProd_c1 k (at_ s t8)).bind fun v =>
  if v then
  some (.ret t8)
  else
  (F.slices.IndexFunc_f121_94_l1 k s j) (IntKind.wrap .i64 (t8 + 1))
  else none
  else
  some (.done ())
def F.slices.IndexFunc_f121_94 (k : Nat) (s : List Sym) : Option Int :=
 (F.slices.IndexFunc_f121_94_l1 k s k 0).bind fun o1 =>
 o1.fin fun d1 =>
 some (-1)
def F.slices.ContainsFunc_f93_94 (k : Nat) (s : List Sym) : Option Bool :=
 (F.slices.IndexFunc_f121_94 k s).bind fun v =>
 some (decide (0 ≤ v))
def F.defs.rightProd_j2 (k : Nat) (p : Prod) (t43 : Bool) : Option Bool :=
 if t43 then
 some false
 else
 (F.slices.ContainsFunc_f93_94 k p.Syms).bind fun v =>
 some (!v)
def F.defs.rightProd_j1 (k : Nat) (p : Prod) (t24 : Bool) : Option Bool :=
 if t24 then
 some false
 else
 if p.Lex then
 if p.Bracket then
 F.defs.rightProd_j2 k p true
 else
 if !p.Lex then
 F.defs.rightProd_j2 k p (p.Bracket != (p.Cons == ([] : List UInt8)))
 else
 F.defs.rightProd_j2 k p false
 else
 if !p.Lex then
 F.defs.rightProd_j2 k p (p.Bracket != (p.Cons == ([] : List UInt8)))
 else
 F.defs.rightProd_j2 k p false
def F.defs.rightProd (k : Nat) (p : Prod) : Option Bool :=
 (F.defs.named k p.Sort_ false).bind fun v1 =>
 if !v1 then
 F.defs.rightProd_j1 k p true
 else
 (F.defs.named k p.Cons true).bind fun v2 =>
 if !v2 then
 F.defs.rightProd_j1 k p true
 else
 if ((p.Syms.length : Int) == 0) then
 F.defs.rightProd_j1 k p true
 else
 F.defs.rightProd_j1 k p (decide (12 < (p.Syms.length : Int)))
def F.defs.rightChain_l3 (k : Nat) (l__ : List Group) (t9 : Int) : Nat → Int → Option (LR Int Bool)
 | 0, _ => none
 | j + 1, t36 =>
  if decide (t36 < (((at_ l__ t9).Cons).length : Int)) then
  if inR t36 ((at_ l__ t9).Cons).length then
  (F.defs.named k (at_ ((at_ l__ t9).Cons) t36) false).bind fun v =>
  if !v then
  some (.ret false)
  else
  (F.defs.rightChain_l3 k l__ t9 j) (IntKind.wrap .i64 (t36 + 1))
  else none
  else
  some (.done t36)
def F.defs.rightChain_j2 (k : Nat) (l__ : List Group) (t9 : Int) (rec_1 : Int → Option (LR Unit Bool)) (t32 : Bool) : Option (LR Unit Bool) :=
 if t32 then
 some (.ret false)
 else
 (F.defs.rightChain_l3 k l__ t9 k 0).bind fun o3 =>
 o3.go fun d3 =>
 rec_1 (IntKind.wrap .i64 (t9 + 1))
def F.defs.rightChain_l1 (k : Nat) (l__ : List Group) : Nat → Int → Option (LR Unit Bool)
 | 0, _ => none
 | j + 1, t9 =>
  if decide (t9 < (l__.length : Int)) then
  if inR t9 l__.length then
  if decide (((at_ l__ t9).Assoc) < 0) then
  F.defs.rightChain_j2 k l__ t9 (F.defs.rightChain_l1 k l__ j) true
  else
  if decide (3 < ((at_ l__ t9).Assoc)) then
  F.defs.rightChain_j2 k l__ t9 (F.defs.rightChain_l1 k l__ j) true
  else
  if ((((at_ l__ t9).Cons).length : Int) == 0) then
  F.defs.rightChain_j2 k l__ t9 (F.defs.rightChain_l1 k l__ j) true
  else
  F.defs.rightChain_j2 k l__ t9 (F.defs.rightChain_l1 k l__ j) (decide (16 < (((at_ l__ t9).Cons).length : Int)))
  else none
  else
  some (.done ())
def F.defs.rightChain (k : Nat) (l__ : List Group) : Option Bool :=
 (F.defs.rightChain_l1 k l__ k 0).bind fun o1 =>
 o1.fin fun d1 =>
 if decide (0 < (l__.length : Int)) then
 some (decide ((l__.length : Int) ≤ 16))
 else
 some false
def F.defs.rightItems_j2 (rec_1 : Int → Int → Option (LR Int (Bool × Int))) (t11 : Int) (number : Bool) (ok_ : Bool) (left2 : Int) : Option (LR Int (Bool × Int)) :=
 rec_1 (IntKind.wrap .i64 (t11 + 1)) left2
def F.defs.rightItems_j4 (left1 : Int) (g42 : List Item → Int → Option (Bool × Int)) (l__ : List Item) (t11 : Int) (rec_1 : Int → Int → Option (LR Int (Bool × Int))) (number1 : Bool) (ok_1 : Bool) : Option (LR Int (Bool × Int)) :=
 if !ok_1 then
 some (.ret (false, IntKind.wrap .i64 (left1 - 1)))
 else
 if decide ((IntKind.wrap .i64 (left1 - 1)) < 0) then
 some (.ret (false, IntKind.wrap .i64 (left1 - 1)))
 else
 (g42 ((at_ l__ t11).Items) (IntKind.wrap .i64 (left1 - 1))).bind fun v =>
 if !v.1 then
 some (.ret (false, v.2))
 else
 F.defs.rightItems_j2 rec_1 t11 number1 ok_1 v.2
def F.defs.rightItems_j5 (left1 : Int) (g42 : List Item → Int → Option (Bool × Int)) (l__ : List Item) (t11 : Int) (rec_1 : Int → Int → Option (LR Int (Bool × Int))) (number1 : Bool) (ok_2 : Bool) : Option (LR Int (Bool × Int)) :=
 F.defs.rightItems_j4 left1 g42 l__ t11 rec_1 number1 ok_2
def F.defs.rightItems_j6 (left1 : Int) (g42 : List Item → Int → Option (Bool × Int)) (l__ : List Item) (t11 : Int) (rec_1 : Int → Int → Option (LR Int (Bool × Int))) (number1 : Bool) (ok_3 : Bool) : Option (LR Int (Bool × Int)) :=
 F.defs.rightItems_j5 left1 g42 l__ t11 rec_1 number1 ok_3
def F.defs.rightItems_j7 (left1 : Int) (g42 : List Item → Int → Option (Bool × Int)) (l__ : List Item) (t11 : Int) (rec_1 : Int → Int → Option (LR Int (Bool × Int))) (number1 : Bool) (ok_4 : Bool) : Option (LR Int (Bool × Int)) :=
 F.defs.rightItems_j5 left1 g42 l__ t11 rec_1 number1 ok_4
def F.defs.rightItems_j8 (left1 : Int) (g42 : List Item → Int → Option (Bool × Int)) (l__ : List Item) (t11 : Int) (rec_1 : Int → Int → Option (LR Int (Bool × Int))) (number1 : Bool) (ok_5 : Bool) : Option (LR Int (Bool × Int)) :=
 F.defs.rightItems_j7 left1 g42 l__ t11 rec_1 number1 ok_5
def F.defs.rightItems_j10 (left1 : Int) (g42 : List Item → Int → Option (Bool × Int)) (l__ : List Item) (t11 : Int) (rec_1 : Int → Int → Option (LR Int (Bool × Int))) (number1 : Bool) (ok_6 : Bool) : Option (LR Int (Bool × Int)) :=
 F.defs.rightItems_j7 left1 g42 l__ t11 rec_1 number1 ok_6
def F.defs.rightItems_j11 (left1 : Int) (g42 : List Item → Int → Option (Bool × Int)) (l__ : List Item) (t11 : Int) (rec_1 : Int → Int → Option (LR Int (Bool × Int))) (number1 : Bool) (ok_7 : Bool) : Option (LR Int (Bool × Int)) :=
 F.defs.rightItems_j10 left1 g42 l__ t11 rec_1 number1 ok_7
def F.defs.rightItems_j12 (left1 : Int) (g42 : List Item → Int → Option (Bool × Int)) (l__ : List Item) (t11 : Int) (rec_1 : Int → Int → Option (LR Int (Bool × Int))) (number1 : Bool) (ok_8 : Bool) : Option (LR Int (Bool × Int)) :=
 F.defs.rightItems_j10 left1 g42 l__ t11 rec_1 number1 ok_8
def F.defs.rightItems_j13 (left1 : Int) (g42 : List Item → Int → Option (Bool × Int)) (l__ : List Item) (t11 : Int) (rec_1 : Int → Int → Option (LR Int (Bool × Int))) (number1 : Bool) (ok_9 : Bool) : Option (LR Int (Bool × Int)) :=
 F.defs.rightItems_j12 left1 g42 l__ t11 rec_1 number1 ok_9
def F.defs.rightItems_j14 (left1 : Int) (g42 : List Item → Int → Option (Bool × Int)) (l__ : List Item) (t11 : Int) (rec_1 : Int → Int → Option (LR Int (Bool × Int))) (number1 : Bool) (ok_10 : Bool) : Option (LR Int (Bool × Int)) :=
 F.defs.rightItems_j12 left1 g42 l__ t11 rec_1 number1 ok_10
def F.defs.rightItems_j15 (left1 : Int) (g42 : List Item → Int → Option (Bool × Int)) (l__ : List Item) (t11 : Int) (rec_1 : Int → Int → Option (LR Int (Bool × Int))) (number1 : Bool) (ok_11 : Bool) : Option (LR Int (Bool × Int)) :=
 F.defs.rightItems_j14 left1 g42 l__ t11 rec_1 number1 ok_11
def F.defs.rightItems_j9 (l__ : List Item) (t11 : Int) (left1 : Int) (g42 : List Item → Int → Option (Bool × Int)) (rec_1 : Int → Int → Option (LR Int (Bool × Int))) (number1 : Bool) (t61 : Bool) : Option (LR Int (Bool × Int)) :=
 if t61 then
 if (((at_ l__ t11).Text) == ([] : List UInt8)) then
 if (((at_ l__ t11).N_) == 0) then
 F.defs.rightItems_j11 left1 g42 l__ t11 rec_1 number1 ((((at_ l__ t11).Items).length : Int) == 0)
 else
 F.defs.rightItems_j11 left1 g42 l__ t11 rec_1 number1 false
 else
 F.defs.rightItems_j11 left1 g42 l__ t11 rec_1 number1 false
 else
 if (((at_ l__ t11).Kind) == 5) then
 if (((at_ l__ t11).Text) == ([] : List UInt8)) then
 F.defs.rightItems_j13 left1 g42 l__ t11 rec_1 number1 number1
 else
 F.defs.rightItems_j13 left1 g42 l__ t11 rec_1 number1 false
 else
 if (((at_ l__ t11).Kind) == 6) then
 if (((at_ l__ t11).Text) == ([] : List UInt8)) then
 F.defs.rightItems_j15 left1 g42 l__ t11 rec_1 number1 (((at_ l__ t11).N_) == 0)
 else
 F.defs.rightItems_j15 left1 g42 l__ t11 rec_1 number1 false
 else
 F.defs.rightItems_j14 left1 g42 l__ t11 rec_1 number1 false
def F.defs.rightItems_j3 (l__ : List Item) (t11 : Int) (left1 : Int) (g42 : List Item → Int → Option (Bool × Int)) (rec_1 : Int → Int → Option (LR Int (Bool × Int))) (number1 : Bool) : Option (LR Int (Bool × Int)) :=
 if (((at_ l__ t11).Kind) == 1) then
 if decide ((((at_ l__ t11).Text).length : Int) ≤ 32) then
 if (((at_ l__ t11).N_) == 0) then
 F.defs.rightItems_j6 left1 g42 l__ t11 rec_1 number1 ((((at_ l__ t11).Items).length : Int) == 0)
 else
 F.defs.rightItems_j6 left1 g42 l__ t11 rec_1 number1 false
 else
 F.defs.rightItems_j6 left1 g42 l__ t11 rec_1 number1 false
 else
 if (((at_ l__ t11).Kind) == 2) then
 if (((at_ l__ t11).Text) == ([] : List UInt8)) then
 if number1 then
 F.defs.rightItems_j8 left1 g42 l__ t11 rec_1 number1 ((((at_ l__ t11).Items).length : Int) == 0)
 else
 F.defs.rightItems_j8 left1 g42 l__ t11 rec_1 number1 false
 else
 F.defs.rightItems_j8 left1 g42 l__ t11 rec_1 number1 false
 else
 if (((at_ l__ t11).Kind) == 3) then
 F.defs.rightItems_j9 l__ t11 left1 g42 rec_1 number1 (((at_ l__ t11).Kind) == 3)
 else
 F.defs.rightItems_j9 l__ t11 left1 g42 rec_1 number1 (((at_ l__ t11).Kind) == 4)
def F.defs.rightItems_l1 (l__ : List Item) (g42 : List Item → Int → Option (Bool × Int)) : Nat → Int → Int → Option (LR Int (Bool × Int))
 | 0, _, _ => none
 | j + 1, t11, left1 =>
  if decide (t11 < (l__.length : Int)) then
  if inR t11 l__.length then
  if decide (0 ≤ ((at_ l__ t11).N_)) then
  F.defs.rightItems_j3 l__ t11 left1 g42 (F.defs.rightItems_l1 l__ g42 j) (decide (((at_ l__ t11).N_) ≤ 999999))
  else
  F.defs.rightItems_j3 l__ t11 left1 g42 (F.defs.rightItems_l1 l__ g42 j) false
  else none
  else
  some (.done left1)
def F.defs.rightItems_B (k : Nat) (g42 : List Item → Int → Option (Bool × Int)) (l__ : List Item) (left : Int) : Option (Bool × Int) :=
 (F.defs.rightItems_l1 l__ g42 k 0 left).bind fun o1 =>
 o1.fin fun d1 =>
 some (true, d1)
def F.defs.rightItems : Nat → List Item → Int → Option (Bool × Int)
 | 0 => (fun _ _ => none)
 | k + 1 => F.defs.rightItems_B k (F.defs.rightItems k)
def F.defs.Right_l1 (k : Nat) (d_ : Def) : Nat → Int → Option (LR Unit Bool)
 | 0, _ => none
 | j + 1, t33 =>
  if decide (t33 < (d_.Prods.length : Int)) then
  if inR t33 d_.Prods.length then
  (F.defs.rightProd k (at_ d_.Prods t33)).bind fun v2 =>
  if !v2 then
  some (.ret false)
  else
  (F.defs.Right_l1 k d_ j) (IntKind.wrap .i64 (t33 + 1))
  else none
  else
  some (.done ())
def F.defs.Right_l2 (k : Nat) (d_ : Def) : Nat → Int → Option (LR Unit Bool)
 | 0, _ => none
 | j + 1, t44 =>
  if decide (t44 < (d_.Chains.length : Int)) then
  if inR t44 d_.Chains.length then
  (F.defs.rightChain k (at_ d_.Chains t44)).bind fun v3 =>
  if !v3 then
  some (.ret false)
  else
  (F.defs.Right_l2 k d_ j) (IntKind.wrap .i64 (t44 + 1))
  else none
  else
  some (.done ())
def F.defs.Right_l3 (k : Nat) (d_ : Def) : Nat → Int → Option (LR Unit Bool)
 | 0, _ => none
 | j + 1, t55 =>
  if decide (t55 < (d_.Follows.length : Int)) then
  if inR t55 d_.Follows.length then
  (F.defs.named k ((at_ d_.Follows t55).Sort_) false).bind fun v4 =>
  if !v4 then
  some (.ret false)
  else
  (F.defs.Right_l3 k d_ j) (IntKind.wrap .i64 (t55 + 1))
  else none
  else
  some (.done ())
def F.defs.Right_l4 (k : Nat) (d_ : Def) : Nat → Int → Option (LR Unit Bool)
 | 0, _ => none
 | j + 1, t67 =>
  if decide (t67 < (d_.Rejects.length : Int)) then
  if inR t67 d_.Rejects.length then
  (F.defs.named k ((at_ d_.Rejects t67).Sort_) false).bind fun v5 =>
  if !v5 then
  some (.ret false)
  else
  (F.defs.named k ((at_ d_.Rejects t67).By) false).bind fun v6 =>
  if !v6 then
  some (.ret false)
  else
  (F.defs.Right_l4 k d_ j) (IntKind.wrap .i64 (t67 + 1))
  else none
  else
  some (.done ())
def F.defs.Right_l5 (k : Nat) (d_ : Def) : Nat → Int → Option (LR Unit Bool)
 | 0, _ => none
 | j + 1, t85 =>
  if decide (t85 < (d_.Boxes.length : Int)) then
  if inR t85 d_.Boxes.length then
  (F.defs.named k ((at_ d_.Boxes t85).Cons) false).bind fun v7 =>
  if !v7 then
  some (.ret false)
  else
  (F.defs.rightItems k ((at_ d_.Boxes t85).Items) 64).bind fun v8 =>
  if !v8.1 then
  some (.ret false)
  else
  (F.defs.Right_l5 k d_ j) (IntKind.wrap .i64 (t85 + 1))
  else none
  else
  some (.done ())
def F.defs.Right (k : Nat) (d_ : Def) : Option Bool :=
 (F.defs.named k d_.Start true).bind fun v =>
 if !v then
 some false
 else
 (F.defs.named k d_.Layout true).bind fun v1 =>
 if !v1 then
 some false
 else
 if decide (200 < (d_.Prods.length : Int)) then
 some false
 else
 (F.defs.Right_l1 k d_ k 0).bind fun o1 =>
 o1.fin fun d1 =>
 (F.defs.Right_l2 k d_ k 0).bind fun o2 =>
 o2.fin fun d2 =>
 (F.defs.Right_l3 k d_ k 0).bind fun o3 =>
 o3.fin fun d3 =>
 (F.defs.Right_l4 k d_ k 0).bind fun o4 =>
 o4.fin fun d4 =>
 (F.defs.Right_l5 k d_ k 0).bind fun o5 =>
 o5.fin fun d5 =>
 some true
def F.strings.Builder_WriteString (b : Strings_Builder) (s : List UInt8) : Option (Int × Strings_Builder) :=
 (F.strings.copyCheck b).bind fun v =>
 if decide ((v.buf.length + s.length) * 1 ≤ 140737488355328) then
 if decide (v.buf.length + s.length ≤ 9223372036854775807) then
 some ((s.length : Int), (Strings_Builder.mk v.addr (v.buf ++ ofS s)))
 else none
 else none
def F.strings.Builder_Len (b : Strings_Builder) : Option Int :=
 some (b.buf.length : Int)
def F.defs.Print_c1 (s : List UInt8) (free : Strings_Builder) : Option (Bool × Strings_Builder) :=
 (F.strings.Builder_WriteString free s).bind fun v =>
 (F.strings.Builder_Len v.2).bind fun v1 =>
 some (decide (v1 ≤ 65536), v.2)
def F.charset.Runs_j2 (out_ : List Run) : Option (RS (List Run)) :=
 some (.next out_)
def F.charset.Runs_j3 (v1 : (List Run)) (x_ : Int) (t24 : Bool) : Option (RS (List Run)) :=
 if t24 then
 if inR (IntKind.wrap .i64 ((v1.length : Int) - 1)) v1.length then
 F.charset.Runs_j2 (set_ v1 (IntKind.wrap .i64 ((v1.length : Int) - 1)) (Run.mk ((at_ v1 (IntKind.wrap .i64 ((v1.length : Int) - 1))).Lo) (IntKind.wrap .i64 x_)))
 else none
 else
 if decide ((v1.length + ([(Run.mk (IntKind.wrap .i64 x_) (IntKind.wrap .i64 x_))] : List Run).length) * 16 ≤ 140737488355328) then
 if decide (v1.length + ([(Run.mk (IntKind.wrap .i64 x_) (IntKind.wrap .i64 x_))] : List Run).length ≤ 9223372036854775807) then
 F.charset.Runs_j2 (v1 ++ ([(Run.mk (IntKind.wrap .i64 x_) (IntKind.wrap .i64 x_))] : List Run))
 else none
 else none
def F.charset.Runs_b1 (x_ : Int) (v1 : (List Run)) : Option (RS (List Run)) :=
 if decide (0 < (v1.length : Int)) then
 if inR (IntKind.wrap .i64 ((v1.length : Int) - 1)) v1.length then
 F.charset.Runs_j3 v1 x_ ((IntKind.wrap .i64 (((at_ v1 (IntKind.wrap .i64 ((v1.length : Int) - 1))).Hi) + 1)) == (IntKind.wrap .i64 x_))
 else none
 else
 F.charset.Runs_j3 v1 x_ false
def F.charset.Runs (s : S4) : Option (List Run) :=
  (runR (F.charset.Runs_b1) ([] : List Run) (allB s)).bind fun ob1 =>
  match ob1 with
 | .next v1 =>
  some v1
 | .brk _ =>
  none
 | .ret _ =>
  none
def F.charset.sign_j2 (b : Int) (t27 : Bool) : Option (List UInt8) :=
 if t27 then
 some (toS ([b] : List Int))
 else
 if okSub (gquo .u8 b 16) (IntKind.wrap .u8 ((gquo .u8 b 16) + 1)) ([48, 49, 50, 51, 52, 53, 54, 55, 56, 57, 97, 98, 99, 100, 101, 102] : List UInt8).length then
 if decide (([92, 120] : List UInt8).length + (sub ([48, 49, 50, 51, 52, 53, 54, 55, 56, 57, 97, 98, 99, 100, 101, 102] : List UInt8) (gquo .u8 b 16) (IntKind.wrap .u8 ((gquo .u8 b 16) + 1))).length ≤ 9223372036854775807) then
 if okSub (grem b 16) (IntKind.wrap .u8 ((grem b 16) + 1)) ([48, 49, 50, 51, 52, 53, 54, 55, 56, 57, 97, 98, 99, 100, 101, 102] : List UInt8).length then
 if decide ((([92, 120] : List UInt8) ++ (sub ([48, 49, 50, 51, 52, 53, 54, 55, 56, 57, 97, 98, 99, 100, 101, 102] : List UInt8) (gquo .u8 b 16) (IntKind.wrap .u8 ((gquo .u8 b 16) + 1)))).length + (sub ([48, 49, 50, 51, 52, 53, 54, 55, 56, 57, 97, 98, 99, 100, 101, 102] : List UInt8) (grem b 16) (IntKind.wrap .u8 ((grem b 16) + 1))).length ≤ 9223372036854775807) then
 some ((([92, 120] : List UInt8) ++ (sub ([48, 49, 50, 51, 52, 53, 54, 55, 56, 57, 97, 98, 99, 100, 101, 102] : List UInt8) (gquo .u8 b 16) (IntKind.wrap .u8 ((gquo .u8 b 16) + 1)))) ++ (sub ([48, 49, 50, 51, 52, 53, 54, 55, 56, 57, 97, 98, 99, 100, 101, 102] : List UInt8) (grem b 16) (IntKind.wrap .u8 ((grem b 16) + 1))))
 else none
 else none
 else none
 else none
def F.charset.sign_j1 (b : Int) (t12 : Bool) : Option (List UInt8) :=
 if t12 then
 if decide (([92] : List UInt8).length + (toS ([b] : List Int)).length ≤ 9223372036854775807) then
 some (([92] : List UInt8) ++ (toS ([b] : List Int)))
 else none
 else
 if decide (32 < b) then
 F.charset.sign_j2 b (decide (b < 127))
 else
 F.charset.sign_j2 b false
def F.charset.sign_j3 (b : Int) (t121 : Bool) : Option (List UInt8) :=
 F.charset.sign_j1 b t121
def F.charset.sign (b : Int) : Option (List UInt8) :=
 if (b == 10) then
 some ([92, 110] : List UInt8)
 else
 if (b == 9) then
 some ([92, 116] : List UInt8)
 else
 if (b == 13) then
 some ([92, 114] : List UInt8)
 else
 if (b == 32) then
 some ([92, 115] : List UInt8)
 else
 if (b == 91) then
 F.charset.sign_j1 b (b == 91)
 else
 if (b == 93) then
 F.charset.sign_j1 b (b == 93)
 else
 if (b == 92) then
 F.charset.sign_j3 b (b == 92)
 else
 if (b == 45) then
 F.charset.sign_j3 b (b == 45)
 else
 F.charset.sign_j3 b (b == 94)
def F.charset.Print_j2 (rec_1 : List UInt8 → Int → Option (List UInt8)) (t9 : Int) (out_1 : List UInt8) : Option (List UInt8) :=
 rec_1 out_1 (IntKind.wrap .i64 (t9 + 1))
def F.charset.Print_j4 (rec_1 : List UInt8 → Int → Option (List UInt8)) (t9 : Int) (out_3 : List UInt8) : Option (List UInt8) :=
 F.charset.Print_j2 rec_1 t9 out_3
def F.charset.Print_j3 (v : List Run) (t9 : Int) (rec_1 : List UInt8 → Int → Option (List UInt8)) (out_2 : List UInt8) : Option (List UInt8) :=
 if decide (((at_ v t9).Lo) < ((at_ v t9).Hi)) then
 (F.charset.sign (IntKind.wrap .u8 ((at_ v t9).Hi))).bind fun v2 =>
 if decide (out_2.length + v2.length ≤ 9223372036854775807) then
 F.charset.Print_j4 rec_1 t9 (out_2 ++ v2)
 else none
 else
 F.charset.Print_j4 rec_1 t9 out_2
def F.charset.Print_l1 (v : List Run) : Nat → List UInt8 → Int → Option (List UInt8)
 | 0, _, _ => none
 | j + 1, out_, t9 =>
  if decide (t9 < (v.length : Int)) then
  if inR t9 v.length then
  (F.charset.sign (IntKind.wrap .u8 ((at_ v t9).Lo))).bind fun v1 =>
  if decide (out_.length + v1.length ≤ 9223372036854775807) then
  if decide ((IntKind.wrap .i64 (((at_ v t9).Lo) + 1)) < ((at_ v t9).Hi)) then
  if decide ((out_ ++ v1).length + ([45] : List UInt8).length ≤ 9223372036854775807) then
  F.charset.Print_j3 v t9 (F.charset.Print_l1 v j) ((out_ ++ v1) ++ ([45] : List UInt8))
  else none
  else
  F.charset.Print_j3 v t9 (F.charset.Print_l1 v j) (out_ ++ v1)
  else none
  else none
  else
  some out_
def F.charset.Print (k : Nat) (s : S4) : Option (List UInt8) :=
 (F.charset.Runs s).bind fun v =>
 (F.charset.Print_l1 v k ([91] : List UInt8) 0).bind fun o1 =>
 if decide (o1.length + ([93] : List UInt8).length ≤ 9223372036854775807) then
 some (o1 ++ ([93] : List UInt8))
 else none
def F.strings.Builder_WriteByte (b : Strings_Builder) (c : Int) : Option Strings_Builder :=
 (F.strings.copyCheck b).bind fun v =>
 if decide ((v.buf.length + ([c] : List Int).length) * 1 ≤ 140737488355328) then
 if decide (v.buf.length + ([c] : List Int).length ≤ 9223372036854775807) then
 some (Strings_Builder.mk v.addr (v.buf ++ ([c] : List Int)))
 else none
 else none
def F.words.Quote_j2 (rec_1 : Int → Bool → List Int → Option (Bool × (List Int))) (t9 : Int) (addr_1 : Bool) (buf_1 : List Int) : Option (Bool × (List Int)) :=
 rec_1 (IntKind.wrap .i64 (t9 + 1)) addr_1 buf_1
def F.words.Quote_j3 (rec_1 : Int → Bool → List Int → Option (Bool × (List Int))) (t9 : Int) (addr_2 : Bool) (buf_2 : List Int) : Option (Bool × (List Int)) :=
 F.words.Quote_j2 rec_1 t9 addr_2 buf_2
def F.words.Quote_j5 (rec_1 : Int → Bool → List Int → Option (Bool × (List Int))) (t9 : Int) (addr_3 : Bool) (buf_3 : List Int) : Option (Bool × (List Int)) :=
 F.words.Quote_j3 rec_1 t9 addr_3 buf_3
def F.words.Quote_j6 (rec_1 : Int → Bool → List Int → Option (Bool × (List Int))) (t9 : Int) (addr_4 : Bool) (buf_4 : List Int) : Option (Bool × (List Int)) :=
 F.words.Quote_j5 rec_1 t9 addr_4 buf_4
def F.words.Quote_j7 (rec_1 : Int → Bool → List Int → Option (Bool × (List Int))) (t9 : Int) (addr_5 : Bool) (buf_5 : List Int) : Option (Bool × (List Int)) :=
 F.words.Quote_j6 rec_1 t9 addr_5 buf_5
def F.words.Quote_j8 (rec_1 : Int → Bool → List Int → Option (Bool × (List Int))) (t9 : Int) (addr_6 : Bool) (buf_6 : List Int) : Option (Bool × (List Int)) :=
 F.words.Quote_j7 rec_1 t9 addr_6 buf_6
def F.words.Quote_j10 (rec_1 : Int → Bool → List Int → Option (Bool × (List Int))) (t9 : Int) (addr_7 : Bool) (buf_7 : List Int) : Option (Bool × (List Int)) :=
 F.words.Quote_j8 rec_1 t9 addr_7 buf_7
def F.words.Quote_j9 (addr_ : Bool) (buf_ : List Int) (b : List Int) (t9 : Int) (rec_1 : Int → Bool → List Int → Option (Bool × (List Int))) (t37 : Bool) : Option (Bool × (List Int)) :=
 if t37 then
 (F.strings.Builder_WriteString (Strings_Builder.mk addr_ buf_) ([92, 120] : List UInt8)).bind fun v6 =>
 if inR (gquo .u8 (at_ b t9) 16) ([48, 49, 50, 51, 52, 53, 54, 55, 56, 57, 97, 98, 99, 100, 101, 102] : List UInt8).length then
 (F.strings.Builder_WriteByte v6.2 (sAt ([48, 49, 50, 51, 52, 53, 54, 55, 56, 57, 97, 98, 99, 100, 101, 102] : List UInt8) (gquo .u8 (at_ b t9) 16))).bind fun v7 =>
 if inR (grem (at_ b t9) 16) ([48, 49, 50, 51, 52, 53, 54, 55, 56, 57, 97, 98, 99, 100, 101, 102] : List UInt8).length then
 (F.strings.Builder_WriteByte v7 (sAt ([48, 49, 50, 51, 52, 53, 54, 55, 56, 57, 97, 98, 99, 100, 101, 102] : List UInt8) (grem (at_ b t9) 16))).bind fun v8 =>
 F.words.Quote_j10 rec_1 t9 v8.addr v8.buf
 else none
 else none
 else
 (F.strings.Builder_WriteByte (Strings_Builder.mk addr_ buf_) (at_ b t9)).bind fun v9 =>
 F.words.Quote_j10 rec_1 t9 v9.addr v9.buf
def F.words.Quote_j4 (addr_ : Bool) (buf_ : List Int) (b : List Int) (t9 : Int) (rec_1 : Int → Bool → List Int → Option (Bool × (List Int))) (t15 : Bool) : Option (Bool × (List Int)) :=
 if t15 then
 (F.strings.Builder_WriteByte (Strings_Builder.mk addr_ buf_) 92).bind fun v1 =>
 (F.strings.Builder_WriteByte v1 (at_ b t9)).bind fun v2 =>
 F.words.Quote_j5 rec_1 t9 v2.addr v2.buf
 else
 if ((at_ b t9) == 10) then
 (F.strings.Builder_WriteString (Strings_Builder.mk addr_ buf_) ([92, 110] : List UInt8)).bind fun v3 =>
 F.words.Quote_j6 rec_1 t9 v3.2.addr v3.2.buf
 else
 if ((at_ b t9) == 9) then
 (F.strings.Builder_WriteString (Strings_Builder.mk addr_ buf_) ([92, 116] : List UInt8)).bind fun v4 =>
 F.words.Quote_j7 rec_1 t9 v4.2.addr v4.2.buf
 else
 if ((at_ b t9) == 13) then
 (F.strings.Builder_WriteString (Strings_Builder.mk addr_ buf_) ([92, 114] : List UInt8)).bind fun v5 =>
 F.words.Quote_j8 rec_1 t9 v5.2.addr v5.2.buf
 else
 if decide ((at_ b t9) < 32) then
 F.words.Quote_j9 addr_ buf_ b t9 rec_1 true
 else
 F.words.Quote_j9 addr_ buf_ b t9 rec_1 (decide (126 < (at_ b t9)))
def F.words.Quote_l1 (b : List Int) : Nat → Int → Bool → List Int → Option (Bool × (List Int))
 | 0, _, _, _ => none
 | j + 1, t9, addr_, buf_ =>
  if decide (t9 < (b.length : Int)) then
  if inR t9 b.length then
  if ((at_ b t9) == 34) then
  F.words.Quote_j4 addr_ buf_ b t9 (F.words.Quote_l1 b j) true
  else
  F.words.Quote_j4 addr_ buf_ b t9 (F.words.Quote_l1 b j) ((at_ b t9) == 92)
  else none
  else
  some (addr_, buf_)
def F.words.Quote (k : Nat) (b : List Int) : Option (List UInt8) :=
 (F.strings.Builder_WriteByte (Strings_Builder.mk false ([] : List Int)) 34).bind fun v =>
 (F.words.Quote_l1 b k 0 v.addr v.buf).bind fun o1 =>
 (F.strings.Builder_WriteByte (Strings_Builder.mk o1.1 o1.2) 34).bind fun v10 =>
 (F.strings.Builder_String v10).bind fun v11 =>
 some v11
def F.defs.symText_j2 (k : Nat) (s : Sym) (part1 : List UInt8) : Option (List UInt8) :=
 if (s.Kind == 1) then
 (F.words.Quote k (ofS s.Text)).bind fun v =>
 some v
 else
 if (s.Kind == 4) then
 if decide (part1.length + ([63] : List UInt8).length ≤ 9223372036854775807) then
 some (part1 ++ ([63] : List UInt8))
 else none
 else
 if (s.Kind == 5) then
 if decide (part1.length + ([42] : List UInt8).length ≤ 9223372036854775807) then
 some (part1 ++ ([42] : List UInt8))
 else none
 else
 if (s.Kind == 6) then
 if decide (part1.length + ([43] : List UInt8).length ≤ 9223372036854775807) then
 some (part1 ++ ([43] : List UInt8))
 else none
 else
 some part1
def F.defs.symText_j1 (k : Nat) (s : Sym) (part : List UInt8) : Option (List UInt8) :=
 if !(s.Sep == ([] : List UInt8)) then
 if decide (([123] : List UInt8).length + s.Name.length ≤ 9223372036854775807) then
 if decide ((([123] : List UInt8) ++ s.Name).length + ([32] : List UInt8).length ≤ 9223372036854775807) then
 (F.words.Quote k (ofS s.Sep)).bind fun v1 =>
 if decide (((([123] : List UInt8) ++ s.Name) ++ ([32] : List UInt8)).length + v1.length ≤ 9223372036854775807) then
 if decide ((((([123] : List UInt8) ++ s.Name) ++ ([32] : List UInt8)) ++ v1).length + ([125] : List UInt8).length ≤ 9223372036854775807) then
 F.defs.symText_j2 k s ((((([123] : List UInt8) ++ s.Name) ++ ([32] : List UInt8)) ++ v1) ++ ([125] : List UInt8))
 else none
 else none
 else none
 else none
 else
 F.defs.symText_j2 k s part
def F.defs.symText (k : Nat) (s : Sym) : Option (List UInt8) :=
 if (s.Name == ([] : List UInt8)) then
 (F.charset.Print k s.Set).bind fun v2 =>
 F.defs.symText_j1 k s v2
 else
 F.defs.symText_j1 k s s.Name
def F.defs.prodText_l3 (k : Nat) (p : Prod) : Nat → List UInt8 → Int → Option (List UInt8)
 | 0, _, _ => none
 | j + 1, out_2, t25 =>
  if decide (t25 < (p.Syms.length : Int)) then
  if inR t25 p.Syms.length then
  (F.defs.symText k (at_ p.Syms t25)).bind fun v =>
  if decide (([32] : List UInt8).length + v.length ≤ 9223372036854775807) then
  if decide (out_2.length + (([32] : List UInt8) ++ v).length ≤ 9223372036854775807) then
  (F.defs.prodText_l3 k p j) (out_2 ++ (([32] : List UInt8) ++ v)) (IntKind.wrap .i64 (t25 + 1))
  else none
  else none
  else none
  else
  some out_2
def F.defs.prodText_j2 (k : Nat) (p : Prod) (out_1 : List UInt8) : Option (List UInt8) :=
 if decide (out_1.length + ([32, 61] : List UInt8).length ≤ 9223372036854775807) then
 (F.defs.prodText_l3 k p k (out_1 ++ ([32, 61] : List UInt8)) 0).bind fun o3 =>
 if p.Bracket then
 if decide (o3.length + ([32, 98, 114, 97, 99, 107, 101, 116] : List UInt8).length ≤ 9223372036854775807) then
 if decide ((o3 ++ ([32, 98, 114, 97, 99, 107, 101, 116] : List UInt8)).length + ([59, 10] : List UInt8).length ≤ 9223372036854775807) then
 some ((o3 ++ ([32, 98, 114, 97, 99, 107, 101, 116] : List UInt8)) ++ ([59, 10] : List UInt8))
 else none
 else none
 else
 if decide (o3.length + ([59, 10] : List UInt8).length ≤ 9223372036854775807) then
 some (o3 ++ ([59, 10] : List UInt8))
 else none
 else none
def F.defs.prodText_j1 (k : Nat) (p : Prod) (out_ : List UInt8) : Option (List UInt8) :=
 if decide (out_.length + p.Sort_.length ≤ 9223372036854775807) then
 if !(p.Cons == ([] : List UInt8)) then
 if decide (([46] : List UInt8).length + p.Cons.length ≤ 9223372036854775807) then
 if decide ((out_ ++ p.Sort_).length + (([46] : List UInt8) ++ p.Cons).length ≤ 9223372036854775807) then
 F.defs.prodText_j2 k p ((out_ ++ p.Sort_) ++ (([46] : List UInt8) ++ p.Cons))
 else none
 else none
 else
 F.defs.prodText_j2 k p (out_ ++ p.Sort_)
 else none
def F.defs.prodText (k : Nat) (p : Prod) : Option (List UInt8) :=
 if p.Lex then
 F.defs.prodText_j1 k p ([108, 101, 120, 32] : List UInt8)
 else
 F.defs.prodText_j1 k p ([99, 102, 32] : List UInt8)
def F.defs.chainText_j2 (rec_1 : List (List UInt8) → Int → Option (List (List UInt8))) (t9 : Int) (parts1 : List (List UInt8)) (t : List UInt8) : Option (List (List UInt8)) :=
 rec_1 parts1 (IntKind.wrap .i64 (t9 + 1))
def F.defs.chainText_j3 (parts : List (List UInt8)) (rec_1 : List (List UInt8) → Int → Option (List (List UInt8))) (t9 : Int) (t1 : List UInt8) : Option (List (List UInt8)) :=
 if decide ((parts.length + ([t1] : List (List UInt8)).length) * 16 ≤ 140737488355328) then
 if decide (parts.length + ([t1] : List (List UInt8)).length ≤ 9223372036854775807) then
 F.defs.chainText_j2 rec_1 t9 (parts ++ ([t1] : List (List UInt8))) t1
 else none
 else none
def F.defs.chainText_l1 (l__ : List Group) : Nat → List (List UInt8) → Int → Option (List (List UInt8))
 | 0, _, _ => none
 | j + 1, parts, t9 =>
  if decide (t9 < (l__.length : Int)) then
  if inR t9 l__.length then
  (F.strings.Join ((at_ l__ t9).Cons) ([32] : List UInt8)).bind fun v =>
  if (((at_ l__ t9).Assoc) != 0) then
  if inR ((at_ l__ t9).Assoc) 4 then
  if decide ((at_ ([([] : List UInt8), ([108, 101, 102, 116, 32] : List UInt8), ([114, 105, 103, 104, 116, 32] : List UInt8), ([110, 111, 110, 32] : List UInt8)] : List (List UInt8)) ((at_ l__ t9).Assoc)).length + v.length ≤ 9223372036854775807) then
  F.defs.chainText_j3 parts (F.defs.chainText_l1 l__ j) t9 ((at_ ([([] : List UInt8), ([108, 101, 102, 116, 32] : List UInt8), ([114, 105, 103, 104, 116, 32] : List UInt8), ([110, 111, 110, 32] : List UInt8)] : List (List UInt8)) ((at_ l__ t9).Assoc)) ++ v)
  else none
  else none
  else
  F.defs.chainText_j3 parts (F.defs.chainText_l1 l__ j) t9 v
  else none
  else
  some parts
def F.defs.chainText (k : Nat) (l__ : List Group) : Option (List UInt8) :=
 (F.defs.chainText_l1 l__ k ([] : List (List UInt8)) 0).bind fun o1 =>
 (F.strings.Join o1 ([32, 62, 32] : List UInt8)).bind fun v1 =>
 if decide (([112, 114, 105, 111, 32] : List UInt8).length + v1.length ≤ 9223372036854775807) then
 if decide ((([112, 114, 105, 111, 32] : List UInt8) ++ v1).length + ([59, 10] : List UInt8).length ≤ 9223372036854775807) then
 some ((([112, 114, 105, 111, 32] : List UInt8) ++ v1) ++ ([59, 10] : List UInt8))
 else none
 else none
def F.defs.itemsText_j2 (rec_1 : List UInt8 → Int → Option (List UInt8)) (t8 : Int) (out_1 : List UInt8) : Option (List UInt8) :=
 rec_1 out_1 (IntKind.wrap .i64 (t8 + 1))
def F.defs.itemsText_j3 (rec_1 : List UInt8 → Int → Option (List UInt8)) (t8 : Int) (out_2 : List UInt8) : Option (List UInt8) :=
 F.defs.itemsText_j2 rec_1 t8 out_2
def F.defs.itemsText_j4 (rec_1 : List UInt8 → Int → Option (List UInt8)) (t8 : Int) (out_3 : List UInt8) : Option (List UInt8) :=
 F.defs.itemsText_j3 rec_1 t8 out_3
def F.defs.itemsText_j5 (rec_1 : List UInt8 → Int → Option (List UInt8)) (t8 : Int) (out_4 : List UInt8) : Option (List UInt8) :=
 F.defs.itemsText_j4 rec_1 t8 out_4
def F.defs.itemsText_j6 (rec_1 : List UInt8 → Int → Option (List UInt8)) (t8 : Int) (out_5 : List UInt8) : Option (List UInt8) :=
 F.defs.itemsText_j5 rec_1 t8 out_5
def F.defs.itemsText_j7 (rec_1 : List UInt8 → Int → Option (List UInt8)) (t8 : Int) (out_6 : List UInt8) : Option (List UInt8) :=
 F.defs.itemsText_j6 rec_1 t8 out_6
def F.defs.itemsText_j8 (rec_1 : List UInt8 → Int → Option (List UInt8)) (t8 : Int) (out_7 : List UInt8) : Option (List UInt8) :=
 F.defs.itemsText_j7 rec_1 t8 out_7
def F.defs.itemsText_j9 (rec_1 : List UInt8 → Int → Option (List UInt8)) (t8 : Int) (out_8 : List UInt8) : Option (List UInt8) :=
 F.defs.itemsText_j8 rec_1 t8 out_8
def F.defs.itemsText_l1 (k : Nat) (l__ : List Item) (g31 : List Item → Option (List UInt8)) : Nat → List UInt8 → Int → Option (List UInt8)
 | 0, _, _ => none
 | j + 1, out_, t8 =>
  if decide (t8 < (l__.length : Int)) then
  if inR t8 l__.length then
  if (((at_ l__ t8).Kind) == 1) then
  (F.words.Quote k (ofS ((at_ l__ t8).Text))).bind fun v =>
  if decide (([32] : List UInt8).length + v.length ≤ 9223372036854775807) then
  if decide (out_.length + (([32] : List UInt8) ++ v).length ≤ 9223372036854775807) then
  F.defs.itemsText_j4 (F.defs.itemsText_l1 k l__ g31 j) t8 (out_ ++ (([32] : List UInt8) ++ v))
  else none
  else none
  else
  if (((at_ l__ t8).Kind) == 2) then
  (F.strconv.Itoa ((at_ l__ t8).N_)).bind fun v1 =>
  if decide (([32] : List UInt8).length + v1.length ≤ 9223372036854775807) then
  if decide (out_.length + (([32] : List UInt8) ++ v1).length ≤ 9223372036854775807) then
  F.defs.itemsText_j5 (F.defs.itemsText_l1 k l__ g31 j) t8 (out_ ++ (([32] : List UInt8) ++ v1))
  else none
  else none
  else
  if (((at_ l__ t8).Kind) == 3) then
  if decide (out_.length + ([32, 95] : List UInt8).length ≤ 9223372036854775807) then
  F.defs.itemsText_j6 (F.defs.itemsText_l1 k l__ g31 j) t8 (out_ ++ ([32, 95] : List UInt8))
  else none
  else
  if (((at_ l__ t8).Kind) == 4) then
  if decide (out_.length + ([32, 47] : List UInt8).length ≤ 9223372036854775807) then
  F.defs.itemsText_j7 (F.defs.itemsText_l1 k l__ g31 j) t8 (out_ ++ ([32, 47] : List UInt8))
  else none
  else
  if (((at_ l__ t8).Kind) == 5) then
  (F.strconv.Itoa ((at_ l__ t8).N_)).bind fun v2 =>
  if decide (([32, 110, 101, 115, 116, 32] : List UInt8).length + v2.length ≤ 9223372036854775807) then
  if decide ((([32, 110, 101, 115, 116, 32] : List UInt8) ++ v2).length + ([32, 40] : List UInt8).length ≤ 9223372036854775807) then
  (g31 ((at_ l__ t8).Items)).bind fun v3 =>
  if decide (((([32, 110, 101, 115, 116, 32] : List UInt8) ++ v2) ++ ([32, 40] : List UInt8)).length + v3.length ≤ 9223372036854775807) then
  if decide ((((([32, 110, 101, 115, 116, 32] : List UInt8) ++ v2) ++ ([32, 40] : List UInt8)) ++ v3).length + ([32, 41] : List UInt8).length ≤ 9223372036854775807) then
  if decide (out_.length + ((((([32, 110, 101, 115, 116, 32] : List UInt8) ++ v2) ++ ([32, 40] : List UInt8)) ++ v3) ++ ([32, 41] : List UInt8)).length ≤ 9223372036854775807) then
  F.defs.itemsText_j8 (F.defs.itemsText_l1 k l__ g31 j) t8 (out_ ++ ((((([32, 110, 101, 115, 116, 32] : List UInt8) ++ v2) ++ ([32, 40] : List UInt8)) ++ v3) ++ ([32, 41] : List UInt8)))
  else none
  else none
  else none
  else none
  else none
  else
  if (((at_ l__ t8).Kind) == 6) then
  (g31 ((at_ l__ t8).Items)).bind fun v4 =>
  if decide (([32, 103, 114, 111, 117, 112, 32, 40] : List UInt8).length + v4.length ≤ 9223372036854775807) then
  if decide ((([32, 103, 114, 111, 117, 112, 32, 40] : List UInt8) ++ v4).length + ([32, 41] : List UInt8).length ≤ 9223372036854775807) then
  if decide (out_.length + ((([32, 103, 114, 111, 117, 112, 32, 40] : List UInt8) ++ v4) ++ ([32, 41] : List UInt8)).length ≤ 9223372036854775807) then
  F.defs.itemsText_j9 (F.defs.itemsText_l1 k l__ g31 j) t8 (out_ ++ ((([32, 103, 114, 111, 117, 112, 32, 40] : List UInt8) ++ v4) ++ ([32, 41] : List UInt8)))
  else none
  else none
  else none
  else
  F.defs.itemsText_j9 (F.defs.itemsText_l1 k l__ g31 j) t8 out_
  else none
  else
  some out_
def F.defs.itemsText_B (k : Nat) (g31 : List Item → Option (List UInt8)) (l__ : List Item) : Option (List UInt8) :=
 (F.defs.itemsText_l1 k l__ g31 k ([] : List UInt8) 0).bind fun o1 =>
 some o1
def F.defs.itemsText : Nat → List Item → Option (List UInt8)
 | 0 => (fun _ => none)
 | k + 1 => F.defs.itemsText_B k (F.defs.itemsText k)
def F.defs.Print_j4 (k : Nat) (i : Int) (d_ : Def) (addr_2 : Bool) (buf_2 : List Int) (rec_1 : Bool → Int → Bool → List Int → Option (Bool × Bool × (List Int))) (ok_ : Bool) (t41 : Bool) : Option (Bool × Bool × (List Int)) :=
 if t41 then
 if inR i d_.Prods.length then
 (F.defs.prodText k (at_ d_.Prods i)).bind fun v1 =>
 (F.defs.Print_c1 v1 (Strings_Builder.mk addr_2 buf_2)).bind fun v2 =>
 rec_1 v2.1 (IntKind.wrap .i64 (i + 1)) v2.2.addr v2.2.buf
 else none
 else
 some (ok_, addr_2, buf_2)
def F.defs.Print_l3 (k : Nat) (d_ : Def) : Nat → Bool → Int → Bool → List Int → Option (Bool × Bool × (List Int))
 | 0, _, _, _, _ => none
 | j + 1, ok_, i, addr_2, buf_2 =>
  if decide (i < (d_.Prods.length : Int)) then
  F.defs.Print_j4 k i d_ addr_2 buf_2 (F.defs.Print_l3 k d_ j) ok_ ok_
  else
  F.defs.Print_j4 k i d_ addr_2 buf_2 (F.defs.Print_l3 k d_ j) ok_ false
def F.defs.Print_j6 (k : Nat) (i1 : Int) (d_ : Def) (addr_3 : Bool) (buf_3 : List Int) (rec_2 : Bool → Int → Bool → List Int → Option (Bool × Bool × (List Int))) (ok_1 : Bool) (t59 : Bool) : Option (Bool × Bool × (List Int)) :=
 if t59 then
 if inR i1 d_.Chains.length then
 (F.defs.chainText k (at_ d_.Chains i1)).bind fun v3 =>
 (F.defs.Print_c1 v3 (Strings_Builder.mk addr_3 buf_3)).bind fun v4 =>
 rec_2 v4.1 (IntKind.wrap .i64 (i1 + 1)) v4.2.addr v4.2.buf
 else none
 else
 some (ok_1, addr_3, buf_3)
def F.defs.Print_l5 (k : Nat) (d_ : Def) : Nat → Bool → Int → Bool → List Int → Option (Bool × Bool × (List Int))
 | 0, _, _, _, _ => none
 | j + 1, ok_1, i1, addr_3, buf_3 =>
  if decide (i1 < (d_.Chains.length : Int)) then
  F.defs.Print_j6 k i1 d_ addr_3 buf_3 (F.defs.Print_l5 k d_ j) ok_1 ok_1
  else
  F.defs.Print_j6 k i1 d_ addr_3 buf_3 (F.defs.Print_l5 k d_ j) ok_1 false
def F.defs.Print_j8 (k : Nat) (i2 : Int) (d_ : Def) (addr_4 : Bool) (buf_4 : List Int) (rec_3 : Bool → Int → Bool → List Int → Option (Bool × Bool × (List Int))) (ok_2 : Bool) (t77 : Bool) : Option (Bool × Bool × (List Int)) :=
 if t77 then
 if inR i2 d_.Follows.length then
 if decide (([102, 111, 108, 108, 111, 119, 32] : List UInt8).length + ((at_ d_.Follows i2).Sort_).length ≤ 9223372036854775807) then
 if decide ((([102, 111, 108, 108, 111, 119, 32] : List UInt8) ++ ((at_ d_.Follows i2).Sort_)).length + ([32] : List UInt8).length ≤ 9223372036854775807) then
 (F.charset.Print k (S4.mk ((at_ d_.Follows i2).Set.w0) ((at_ d_.Follows i2).Set.w1) ((at_ d_.Follows i2).Set.w2) ((at_ d_.Follows i2).Set.w3))).bind fun v5 =>
 if decide (((([102, 111, 108, 108, 111, 119, 32] : List UInt8) ++ ((at_ d_.Follows i2).Sort_)) ++ ([32] : List UInt8)).length + v5.length ≤ 9223372036854775807) then
 if decide ((((([102, 111, 108, 108, 111, 119, 32] : List UInt8) ++ ((at_ d_.Follows i2).Sort_)) ++ ([32] : List UInt8)) ++ v5).length + ([59, 10] : List UInt8).length ≤ 9223372036854775807) then
 (F.defs.Print_c1 ((((([102, 111, 108, 108, 111, 119, 32] : List UInt8) ++ ((at_ d_.Follows i2).Sort_)) ++ ([32] : List UInt8)) ++ v5) ++ ([59, 10] : List UInt8)) (Strings_Builder.mk addr_4 buf_4)).bind fun v6 =>
 rec_3 v6.1 (IntKind.wrap .i64 (i2 + 1)) v6.2.addr v6.2.buf
 else none
 else none
 else none
 else none
 else none
 else
 some (ok_2, addr_4, buf_4)
def F.defs.Print_l7 (k : Nat) (d_ : Def) : Nat → Bool → Int → Bool → List Int → Option (Bool × Bool × (List Int))
 | 0, _, _, _, _ => none
 | j + 1, ok_2, i2, addr_4, buf_4 =>
  if decide (i2 < (d_.Follows.length : Int)) then
  F.defs.Print_j8 k i2 d_ addr_4 buf_4 (F.defs.Print_l7 k d_ j) ok_2 ok_2
  else
  F.defs.Print_j8 k i2 d_ addr_4 buf_4 (F.defs.Print_l7 k d_ j) ok_2 false
def F.defs.Print_j10 (i3 : Int) (d_ : Def) (addr_5 : Bool) (buf_5 : List Int) (rec_4 : Bool → Int → Bool → List Int → Option (Bool × Bool × (List Int))) (ok_3 : Bool) (t106 : Bool) : Option (Bool × Bool × (List Int)) :=
 if t106 then
 if inR i3 d_.Rejects.length then
 if decide (([114, 101, 106, 101, 99, 116, 32] : List UInt8).length + ((at_ d_.Rejects i3).Sort_).length ≤ 9223372036854775807) then
 if decide ((([114, 101, 106, 101, 99, 116, 32] : List UInt8) ++ ((at_ d_.Rejects i3).Sort_)).length + ([32] : List UInt8).length ≤ 9223372036854775807) then
 if decide (((([114, 101, 106, 101, 99, 116, 32] : List UInt8) ++ ((at_ d_.Rejects i3).Sort_)) ++ ([32] : List UInt8)).length + ((at_ d_.Rejects i3).By).length ≤ 9223372036854775807) then
 if decide ((((([114, 101, 106, 101, 99, 116, 32] : List UInt8) ++ ((at_ d_.Rejects i3).Sort_)) ++ ([32] : List UInt8)) ++ ((at_ d_.Rejects i3).By)).length + ([59, 10] : List UInt8).length ≤ 9223372036854775807) then
 (F.defs.Print_c1 ((((([114, 101, 106, 101, 99, 116, 32] : List UInt8) ++ ((at_ d_.Rejects i3).Sort_)) ++ ([32] : List UInt8)) ++ ((at_ d_.Rejects i3).By)) ++ ([59, 10] : List UInt8)) (Strings_Builder.mk addr_5 buf_5)).bind fun v7 =>
 rec_4 v7.1 (IntKind.wrap .i64 (i3 + 1)) v7.2.addr v7.2.buf
 else none
 else none
 else none
 else none
 else none
 else
 some (ok_3, addr_5, buf_5)
def F.defs.Print_l9 (d_ : Def) : Nat → Bool → Int → Bool → List Int → Option (Bool × Bool × (List Int))
 | 0, _, _, _, _ => none
 | j + 1, ok_3, i3, addr_5, buf_5 =>
  if decide (i3 < (d_.Rejects.length : Int)) then
  F.defs.Print_j10 i3 d_ addr_5 buf_5 (F.defs.Print_l9 d_ j) ok_3 ok_3
  else
  F.defs.Print_j10 i3 d_ addr_5 buf_5 (F.defs.Print_l9 d_ j) ok_3 false
def F.defs.Print_j12 (k : Nat) (i4 : Int) (d_ : Def) (addr_6 : Bool) (buf_6 : List Int) (rec_5 : Bool → Int → Bool → List Int → Option (Bool × Bool × (List Int))) (ok_4 : Bool) (t134 : Bool) : Option (Bool × Bool × (List Int)) :=
 if t134 then
 if inR i4 d_.Boxes.length then
 if decide (([98, 111, 120, 32] : List UInt8).length + ((at_ d_.Boxes i4).Cons).length ≤ 9223372036854775807) then
 if decide ((([98, 111, 120, 32] : List UInt8) ++ ((at_ d_.Boxes i4).Cons)).length + ([32, 61] : List UInt8).length ≤ 9223372036854775807) then
 (F.defs.itemsText k ((at_ d_.Boxes i4).Items)).bind fun v8 =>
 if decide (((([98, 111, 120, 32] : List UInt8) ++ ((at_ d_.Boxes i4).Cons)) ++ ([32, 61] : List UInt8)).length + v8.length ≤ 9223372036854775807) then
 if decide ((((([98, 111, 120, 32] : List UInt8) ++ ((at_ d_.Boxes i4).Cons)) ++ ([32, 61] : List UInt8)) ++ v8).length + ([59, 10] : List UInt8).length ≤ 9223372036854775807) then
 (F.defs.Print_c1 ((((([98, 111, 120, 32] : List UInt8) ++ ((at_ d_.Boxes i4).Cons)) ++ ([32, 61] : List UInt8)) ++ v8) ++ ([59, 10] : List UInt8)) (Strings_Builder.mk addr_6 buf_6)).bind fun v9 =>
 rec_5 v9.1 (IntKind.wrap .i64 (i4 + 1)) v9.2.addr v9.2.buf
 else none
 else none
 else none
 else none
 else none
 else
 some (ok_4, addr_6, buf_6)
def F.defs.Print_l11 (k : Nat) (d_ : Def) : Nat → Bool → Int → Bool → List Int → Option (Bool × Bool × (List Int))
 | 0, _, _, _, _ => none
 | j + 1, ok_4, i4, addr_6, buf_6 =>
  if decide (i4 < (d_.Boxes.length : Int)) then
  F.defs.Print_j12 k i4 d_ addr_6 buf_6 (F.defs.Print_l11 k d_ j) ok_4 ok_4
  else
  F.defs.Print_j12 k i4 d_ addr_6 buf_6 (F.defs.Print_l11 k d_ j) ok_4 false
def F.defs.Print_j2 (k : Nat) (d_ : Def) (addr_1 : Bool) (buf_1 : List Int) : Option (List UInt8 × Int) :=
 (F.defs.Print_l3 k d_ k true 0 addr_1 buf_1).bind fun o3 =>
 (F.defs.Print_l5 k d_ k o3.1 0 o3.2.1 o3.2.2).bind fun o5 =>
 (F.defs.Print_l7 k d_ k o5.1 0 o5.2.1 o5.2.2).bind fun o7 =>
 (F.defs.Print_l9 d_ k o7.1 0 o7.2.1 o7.2.2).bind fun o9 =>
 (F.defs.Print_l11 k d_ k o9.1 0 o9.2.1 o9.2.2).bind fun o11 =>
 if !o11.1 then
 some (([] : List UInt8), 2)
 else
 (F.strings.Builder_String (Strings_Builder.mk o11.2.1 o11.2.2)).bind fun v10 =>
 some (v10, 0)
def F.defs.Print_j1 (k : Nat) (d_ : Def) (addr_ : Bool) (buf_ : List Int) : Option (List UInt8 × Int) :=
 if !(d_.Layout == ([] : List UInt8)) then
 if decide (([108, 97, 121, 111, 117, 116, 32] : List UInt8).length + d_.Layout.length ≤ 9223372036854775807) then
 if decide ((([108, 97, 121, 111, 117, 116, 32] : List UInt8) ++ d_.Layout).length + ([59, 10] : List UInt8).length ≤ 9223372036854775807) then
 (F.defs.Print_c1 ((([108, 97, 121, 111, 117, 116, 32] : List UInt8) ++ d_.Layout) ++ ([59, 10] : List UInt8)) (Strings_Builder.mk addr_ buf_)).bind fun v11 =>
 F.defs.Print_j2 k d_ v11.2.addr v11.2.buf
 else none
 else none
 else
 F.defs.Print_j2 k d_ addr_ buf_
def F.defs.Print (k : Nat) (d_ : Def) : Option (List UInt8 × Int) :=
 (F.defs.Right k d_).bind fun v =>
 if !v then
 some (([] : List UInt8), 3)
 else
 if !(d_.Start == ([] : List UInt8)) then
 if decide (([115, 116, 97, 114, 116, 32] : List UInt8).length + d_.Start.length ≤ 9223372036854775807) then
 if decide ((([115, 116, 97, 114, 116, 32] : List UInt8) ++ d_.Start).length + ([59, 10] : List UInt8).length ≤ 9223372036854775807) then
 (F.defs.Print_c1 ((([115, 116, 97, 114, 116, 32] : List UInt8) ++ d_.Start) ++ ([59, 10] : List UInt8)) (Strings_Builder.mk false ([] : List Int))).bind fun v12 =>
 F.defs.Print_j1 k d_ v12.2.addr v12.2.buf
 else none
 else none
 else
 F.defs.Print_j1 k d_ false ([] : List Int)
def F.law03.alive_j1 (t0 : Bool) : Option Bool :=
 some t0
def F.law03.alive (k : Nat) : Option Bool :=
 (F.defs.Parse k ([99, 102, 32, 69, 46, 65, 61, 69, 32, 34, 43, 34, 32, 69, 59, 112, 114, 105, 111, 32, 108, 101, 102, 116, 32, 65, 59] : List UInt8)).bind fun v =>
 (F.defs.Print k v.1).bind fun v1 =>
 (F.defs.Parse k ([108, 101, 120, 32, 65, 32, 61, 32, 59] : List UInt8)).bind fun v2 =>
 if ((v.2.At == 0) && ((v.2.Code == 0) && true)) then
 if ((v.1.Prods.length : Int) == 1) then
 if (v1.2 == 0) then
 if (v1.1 == ([99, 102, 32, 69, 46, 65, 32, 61, 32, 69, 32, 34, 43, 34, 32, 69, 59, 10, 112, 114, 105, 111, 32, 108, 101, 102, 116, 32, 65, 59, 10] : List UInt8)) then
 F.law03.alive_j1 ((v2.2.At == 8) && ((v2.2.Code == 30) && true))
 else
 F.law03.alive_j1 false
 else
 F.law03.alive_j1 false
 else
 F.law03.alive_j1 false
 else
 F.law03.alive_j1 false
def F.words.Join_j2 (rec_1 : Int → Bool → List Int → Option (Bool × (List Int))) (t8 : Int) (addr_1 : Bool) (buf_1 : List Int) : Option (Bool × (List Int)) :=
 rec_1 (IntKind.wrap .i64 (t8 + 1)) addr_1 buf_1
def F.words.Join_j3 (l__ : List Word) (t8 : Int) (rec_1 : Int → Bool → List Int → Option (Bool × (List Int))) (addr_2 : Bool) (buf_2 : List Int) : Option (Bool × (List Int)) :=
 (F.strings.Builder_WriteString (Strings_Builder.mk addr_2 buf_2) ((at_ l__ t8).Text)).bind fun v1 =>
 F.words.Join_j2 rec_1 t8 v1.2.addr v1.2.buf
def F.words.Join_l1 (l__ : List Word) : Nat → Int → Bool → List Int → Option (Bool × (List Int))
 | 0, _, _, _ => none
 | j + 1, t8, addr_, buf_ =>
  if decide (t8 < (l__.length : Int)) then
  if inR t8 l__.length then
  if (((at_ l__ t8).Kind) == 7) then
  F.words.Join_j2 (F.words.Join_l1 l__ j) t8 addr_ buf_
  else
  (F.strings.Builder_Len (Strings_Builder.mk addr_ buf_)).bind fun v =>
  if decide (0 < v) then
  (F.strings.Builder_WriteByte (Strings_Builder.mk addr_ buf_) 32).bind fun v2 =>
  F.words.Join_j3 l__ t8 (F.words.Join_l1 l__ j) v2.addr v2.buf
  else
  F.words.Join_j3 l__ t8 (F.words.Join_l1 l__ j) addr_ buf_
  else none
  else
  some (addr_, buf_)
def F.words.Join (k : Nat) (l__ : List Word) : Option (List UInt8) :=
 (F.words.Join_l1 l__ k 0 false ([] : List Int)).bind fun o1 =>
 (F.strings.Builder_String (Strings_Builder.mk o1.1 o1.2)).bind fun v3 =>
 some v3
def F.ref03.SameItems_j2 (rec_1 : Int → Option (LR Unit Bool)) (i : Int) (t67 : Bool) : Option (LR Unit Bool) :=
 if t67 then
 some (.ret false)
 else
 rec_1 (IntKind.wrap .i64 (i + 1))
def F.ref03.SameItems_l1 (a_ : List Item) (b : List Item) (g34 : List Item → List Item → Option Bool) : Nat → Int → Option (LR Unit Bool)
 | 0, _ => none
 | j + 1, i =>
  if decide (i < (a_.length : Int)) then
  if inR i a_.length then
  if inR i b.length then
  if (((at_ a_ i).Kind) != ((at_ b i).Kind)) then
  F.ref03.SameItems_j2 (F.ref03.SameItems_l1 a_ b g34 j) i true
  else
  if !(((at_ a_ i).Text) == ((at_ b i).Text)) then
  F.ref03.SameItems_j2 (F.ref03.SameItems_l1 a_ b g34 j) i true
  else
  if (((at_ a_ i).N_) != ((at_ b i).N_)) then
  F.ref03.SameItems_j2 (F.ref03.SameItems_l1 a_ b g34 j) i true
  else
  (g34 ((at_ a_ i).Items) ((at_ b i).Items)).bind fun v =>
  F.ref03.SameItems_j2 (F.ref03.SameItems_l1 a_ b g34 j) i (!v)
  else none
  else none
  else
  some (.done ())
def F.ref03.SameItems_B (k : Nat) (g34 : List Item → List Item → Option Bool) (a_ : List Item) (b : List Item) : Option Bool :=
 if ((a_.length : Int) != (b.length : Int)) then
 some false
 else
 (F.ref03.SameItems_l1 a_ b g34 k 0).bind fun o1 =>
 o1.fin fun d1 =>
 some true
def F.ref03.SameItems : Nat → List Item → List Item → Option Bool
 | 0 => (fun _ _ => none)
 | k + 1 => F.ref03.SameItems_B k (F.ref03.SameItems k)
def F.ref03.sameProds_j2 (rec_1 : Int → Option (LR Unit Bool)) (i : Int) (k_ : Int) : Option (LR Unit Bool) :=
 rec_1 (IntKind.wrap .i64 (i + 1))
def F.ref03.sameProds_l5 (a_ : List Prod) (i : Int) (b : List Prod) : Nat → Int → Option (LR Int Bool)
 | 0, _ => none
 | j + 1, k_1 =>
  if decide (k_1 < (((at_ a_ i).Syms).length : Int)) then
  if inR k_1 ((at_ a_ i).Syms).length then
  if inR k_1 ((at_ b i).Syms).length then
  if !((((at_ ((at_ a_ i).Syms) k_1).Kind) == ((at_ ((at_ b i).Syms) k_1).Kind)) && ((((at_ ((at_ a_ i).Syms) k_1).Text) == ((at_ ((at_ b i).Syms) k_1).Text)) && ((S4.eq (S4.mk ((at_ ((at_ a_ i).Syms) k_1).Set.w0) ((at_ ((at_ a_ i).Syms) k_1).Set.w1) ((at_ ((at_ a_ i).Syms) k_1).Set.w2) ((at_ ((at_ a_ i).Syms) k_1).Set.w3)) (S4.mk ((at_ ((at_ b i).Syms) k_1).Set.w0) ((at_ ((at_ b i).Syms) k_1).Set.w1) ((at_ ((at_ b i).Syms) k_1).Set.w2) ((at_ ((at_ b i).Syms) k_1).Set.w3))) && ((((at_ ((at_ a_ i).Syms) k_1).Name) == ((at_ ((at_ b i).Syms) k_1).Name)) && ((((at_ ((at_ a_ i).Syms) k_1).Sep) == ((at_ ((at_ b i).Syms) k_1).Sep)) && true))))) then
  some (.ret false)
  else
  (F.ref03.sameProds_l5 a_ i b j) (IntKind.wrap .i64 (k_1 + 1))
  else none
  else none
  else
  some (.done k_1)
def F.ref03.sameProds_j4 (k : Nat) (a_ : List Prod) (i : Int) (b : List Prod) (rec_1 : Int → Option (LR Unit Bool)) (t62 : Bool) : Option (LR Unit Bool) :=
 if t62 then
 some (.ret false)
 else
 (F.ref03.sameProds_l5 a_ i b k 0).bind fun o5 =>
 o5.go fun d5 =>
 F.ref03.sameProds_j2 rec_1 i d5
def F.ref03.sameProds_j3 (k : Nat) (a_ : List Prod) (i : Int) (b : List Prod) (rec_1 : Int → Option (LR Unit Bool)) : Option (LR Unit Bool) :=
 if (((at_ a_ i).Lex) != ((at_ b i).Lex)) then
 F.ref03.sameProds_j4 k a_ i b rec_1 true
 else
 if !(((at_ a_ i).Sort_) == ((at_ b i).Sort_)) then
 F.ref03.sameProds_j4 k a_ i b rec_1 true
 else
 if !(((at_ a_ i).Cons) == ((at_ b i).Cons)) then
 F.ref03.sameProds_j4 k a_ i b rec_1 true
 else
 if (((at_ a_ i).Bracket) != ((at_ b i).Bracket)) then
 F.ref03.sameProds_j4 k a_ i b rec_1 true
 else
 F.ref03.sameProds_j4 k a_ i b rec_1 ((((at_ a_ i).Syms).length : Int) != (((at_ b i).Syms).length : Int))
def F.ref03.sameProds_l1 (k : Nat) (a_ : List Prod) (b : List Prod) : Nat → Int → Option (LR Unit Bool)
 | 0, _ => none
 | j + 1, i =>
  if decide (i < (a_.length : Int)) then
  if inR i a_.length then
  if inR i b.length then
  F.ref03.sameProds_j3 k a_ i b (F.ref03.sameProds_l1 k a_ b j)
  else none
  else none
  else
  some (.done ())
def F.ref03.sameProds (k : Nat) (a_ : List Prod) (b : List Prod) : Option Bool :=
 if ((a_.length : Int) != (b.length : Int)) then
 some false
 else
 (F.ref03.sameProds_l1 k a_ b k 0).bind fun o1 =>
 o1.fin fun d1 =>
 some true
def F.ref03.SameNames_l1 (a_ : List (List UInt8)) (b : List (List UInt8)) : Nat → Int → Option (LR Unit Bool)
 | 0, _ => none
 | j + 1, i =>
  if decide (i < (a_.length : Int)) then
  if inR i a_.length then
  if inR i b.length then
  if !((at_ a_ i) == (at_ b i)) then
  some (.ret false)
  else
  (F.ref03.SameNames_l1 a_ b j) (IntKind.wrap .i64 (i + 1))
  else none
  else none
  else
  some (.done ())
def F.ref03.SameNames (k : Nat) (a_ : List (List UInt8)) (b : List (List UInt8)) : Option Bool :=
 if ((a_.length : Int) != (b.length : Int)) then
 some false
 else
 (F.ref03.SameNames_l1 a_ b k 0).bind fun o1 =>
 o1.fin fun d1 =>
 some true
def F.ref03.sameChains_j3 (rec_2 : Int → Option (LR Int Bool)) (k_ : Int) : Option (LR Int Bool) :=
 rec_2 (IntKind.wrap .i64 (k_ + 1))
def F.ref03.sameChains_l2 (k : Nat) (a_ : List (List Group)) (i : Int) (b : List (List Group)) : Nat → Int → Option (LR Int Bool)
 | 0, _ => none
 | j + 1, k_ =>
  if decide (k_ < ((at_ a_ i).length : Int)) then
  if inR k_ (at_ a_ i).length then
  if inR k_ (at_ b i).length then
  if (((at_ (at_ a_ i) k_).Assoc) != ((at_ (at_ b i) k_).Assoc)) then
  some (.ret false)
  else
  (F.ref03.SameNames k ((at_ (at_ a_ i) k_).Cons) ((at_ (at_ b i) k_).Cons)).bind fun v =>
  if !v then
  some (.ret false)
  else
  F.ref03.sameChains_j3 (F.ref03.sameChains_l2 k a_ i b j) k_
  else none
  else none
  else
  some (.done k_)
def F.ref03.sameChains_l1 (k : Nat) (a_ : List (List Group)) (b : List (List Group)) : Nat → Int → Option (LR Unit Bool)
 | 0, _ => none
 | j + 1, i =>
  if decide (i < (a_.length : Int)) then
  if inR i a_.length then
  if inR i b.length then
  if (((at_ a_ i).length : Int) != ((at_ b i).length : Int)) then
  some (.ret false)
  else
  (F.ref03.sameChains_l2 k a_ i b k 0).bind fun o2 =>
  o2.go fun d2 =>
  (F.ref03.sameChains_l1 k a_ b j) (IntKind.wrap .i64 (i + 1))
  else none
  else none
  else
  some (.done ())
def F.ref03.sameChains (k : Nat) (a_ : List (List Group)) (b : List (List Group)) : Option Bool :=
 if ((a_.length : Int) != (b.length : Int)) then
 some false
 else
 (F.ref03.sameChains_l1 k a_ b k 0).bind fun o1 =>
 o1.fin fun d1 =>
 some true
def F.ref03.Same_l2 (a_ : Def) (b : Def) : Nat → Int → Option (LR Unit Bool)
 | 0, _ => none
 | j + 1, i =>
  if decide (i < (a_.Follows.length : Int)) then
  if inR i a_.Follows.length then
  if inR i b.Follows.length then
  if !((((at_ a_.Follows i).Sort_) == ((at_ b.Follows i).Sort_)) && ((S4.eq (S4.mk ((at_ a_.Follows i).Set.w0) ((at_ a_.Follows i).Set.w1) ((at_ a_.Follows i).Set.w2) ((at_ a_.Follows i).Set.w3)) (S4.mk ((at_ b.Follows i).Set.w0) ((at_ b.Follows i).Set.w1) ((at_ b.Follows i).Set.w2) ((at_ b.Follows i).Set.w3))) && true)) then
  some (.ret false)
  else
  (F.ref03.Same_l2 a_ b j) (IntKind.wrap .i64 (i + 1))
  else none
  else none
  else
  some (.done ())
def F.ref03.Same_l3 (a_ : Def) (b : Def) : Nat → Int → Option (LR Unit Bool)
 | 0, _ => none
 | j + 1, i1 =>
  if decide (i1 < (a_.Rejects.length : Int)) then
  if inR i1 a_.Rejects.length then
  if inR i1 b.Rejects.length then
  if !((((at_ a_.Rejects i1).Sort_) == ((at_ b.Rejects i1).Sort_)) && ((((at_ a_.Rejects i1).By) == ((at_ b.Rejects i1).By)) && true)) then
  some (.ret false)
  else
  (F.ref03.Same_l3 a_ b j) (IntKind.wrap .i64 (i1 + 1))
  else none
  else none
  else
  some (.done ())
def F.ref03.Same_j5 (rec_3 : Int → Option (LR Unit Bool)) (i2 : Int) : Option (LR Unit Bool) :=
 rec_3 (IntKind.wrap .i64 (i2 + 1))
def F.ref03.Same_l4 (k : Nat) (a_ : Def) (b : Def) : Nat → Int → Option (LR Unit Bool)
 | 0, _ => none
 | j + 1, i2 =>
  if decide (i2 < (a_.Boxes.length : Int)) then
  if inR i2 a_.Boxes.length then
  if inR i2 b.Boxes.length then
  if !(((at_ a_.Boxes i2).Cons) == ((at_ b.Boxes i2).Cons)) then
  some (.ret false)
  else
  (F.ref03.SameItems k ((at_ a_.Boxes i2).Items) ((at_ b.Boxes i2).Items)).bind fun v =>
  if !v then
  some (.ret false)
  else
  F.ref03.Same_j5 (F.ref03.Same_l4 k a_ b j) i2
  else none
  else none
  else
  some (.done ())
def F.ref03.Same_j1 (k : Nat) (a_ : Def) (b : Def) (t46 : Bool) : Option Bool :=
 if t46 then
 some false
 else
 (F.ref03.Same_l2 a_ b k 0).bind fun o2 =>
 o2.fin fun d2 =>
 (F.ref03.Same_l3 a_ b k 0).bind fun o3 =>
 o3.fin fun d3 =>
 (F.ref03.Same_l4 k a_ b k 0).bind fun o4 =>
 o4.fin fun d4 =>
 (F.ref03.sameProds k a_.Prods b.Prods).bind fun v1 =>
 if v1 then
 (F.ref03.sameChains k a_.Chains b.Chains).bind fun v2 =>
 some v2
 else
 some false
def F.ref03.Same (k : Nat) (a_ : Def) (b : Def) : Option Bool :=
 if !(a_.Start == b.Start) then
 F.ref03.Same_j1 k a_ b true
 else
 if !(a_.Layout == b.Layout) then
 F.ref03.Same_j1 k a_ b true
 else
 if ((a_.Follows.length : Int) != (b.Follows.length : Int)) then
 F.ref03.Same_j1 k a_ b true
 else
 if ((a_.Rejects.length : Int) != (b.Rejects.length : Int)) then
 F.ref03.Same_j1 k a_ b true
 else
 F.ref03.Same_j1 k a_ b ((a_.Boxes.length : Int) != (b.Boxes.length : Int))
def F.law03.DefsBlanks (k : Nat) (text_ : List UInt8) : Option Bool :=
 if decide (20000 < (text_.length : Int)) then
 (F.law03.alive k).bind fun v =>
 some v
 else
 (F.words.Scan k text_).bind fun v1 =>
 if (v1.2.Code != 0) then
 (F.defs.Parse k text_).bind fun v2 =>
 (F.law03.alive k).bind fun v3 =>
 if v3 then
 some ((v2.2.At == v1.2.At) && ((v2.2.Code == v1.2.Code) && true))
 else
 some false
 else
 (F.defs.Parse k text_).bind fun v4 =>
 (F.words.Join k v1.1).bind fun v5 =>
 (F.defs.Parse k v5).bind fun v6 =>
 (F.law03.alive k).bind fun v7 =>
 if v7 then
 (F.ref03.Same k v4.1 v6.1).bind fun v8 =>
 if v8 then
 some (v4.2.Code == v6.2.Code)
 else
 some false
 else
 some false
end Go.Vc
