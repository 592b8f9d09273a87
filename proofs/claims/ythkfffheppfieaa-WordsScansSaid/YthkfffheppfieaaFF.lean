import Derived.Test.YthkfffheppfieaaVcR
import Derived.Lib.ItoaNum
import Derived.Lib.Bytealg
import Derived.Shelf.Small.Strs
import Derived.Shelf.Strings.LastIndex
set_option linter.unusedVariables false
set_option linter.unusedSimpArgs false
namespace Go.Vc
open Go
structure Strings_Builder where
  addr : Bool
  buf : List Int
instance : Inhabited Strings_Builder := ⟨⟨default, default⟩⟩
structure Word where
  Kind : Int
  Text : List UInt8
  Bytes : List Int
  Set : S4
  N_ : Int
  At : Int
  Line : Int
  Col : Int
instance : Inhabited Word := ⟨⟨default, default, default, default, default, default, default, default⟩⟩
def eWord (x : Word) : List Dc := [.int .i64 x.Kind, .str x.Text, .slice 1 (x.Bytes.map eU8), .int .u64 x.Set.w0, .int .u64 x.Set.w1, .int .u64 x.Set.w2, .int .u64 x.Set.w3, .int .i64 x.N_, .int .i64 x.At, .int .i64 x.Line, .int .i64 x.Col]
structure Words_scanner where
  text : List UInt8
  at_ : Int
  line : Int
  top : Int
  out : List Word
instance : Inhabited Words_scanner := ⟨⟨default, default, default, default, default⟩⟩
def eWords_scanner (x : Words_scanner) : List Dc := [.str x.text, .int .i64 x.at_, .int .i64 x.line, .int .i64 x.top, .slice 11 (x.out.map eWord)]
structure Fault where
  At : Int
  Code : Int
instance : Inhabited Fault := ⟨⟨default, default⟩⟩
def eFault (x : Fault) : List Dc := [.int .i64 x.At, .int .i64 x.Code]
structure Charset_reader where
  text : List UInt8
  at_ : Int
instance : Inhabited Charset_reader := ⟨⟨default, default⟩⟩
def eCharset_reader (x : Charset_reader) : List Dc := [.str x.text, .int .i64 x.at_]

def F.strings.copyCheck (x : Strings_Builder) : Option Strings_Builder := some ⟨true, x.buf⟩
def F.strings.Builder_String (x : Strings_Builder) : Option (List UInt8) := if x.buf.all okB then some (toS x.buf) else none
def F.strings.IndexByte (s : List UInt8) (c : Int) : Option Int := some (Lib.indexByte s c.toNat.toUInt8)
def F.strings.LastIndexByte (s : List UInt8) (c : Int) : Option Int := if decide ((bs s).size < 4611686018427387904) then some (Lib.lastIndexByte (bs s) c) else none
def F.strings.Count (s : List UInt8) (x : List UInt8) : Option Int := match x with
  | [c] => some (Lib.countByte s c)
  | _ => none

-- 26 (*tracery/words.scanner).skip
def F.words.scanner_skip_j2 (rec_1 : Int → Int → Int → Option (LR (Int × Int × Int) Words_scanner)) (at__1 : Int) (line_1 : Int) (top_1 : Int) : Option (LR (Int × Int × Int) Words_scanner) :=
    rec_1 at__1 line_1 top_1
def F.words.scanner_skip_j3 (rec_1 : Int → Int → Int → Option (LR (Int × Int × Int) Words_scanner)) (at__ : Int) (line_2 : Int) (top_2 : Int) : Option (LR (Int × Int × Int) Words_scanner) :=
    F.words.scanner_skip_j2 rec_1 (IntKind.wrap .i64 (at__ + 1)) line_2 top_2
def F.words.scanner_skip_j4 (rec_1 : Int → Int → Int → Option (LR (Int × Int × Int) Words_scanner)) (at__ : Int) (line_3 : Int) (top_3 : Int) : Option (LR (Int × Int × Int) Words_scanner) :=
    F.words.scanner_skip_j3 rec_1 at__ line_3 top_3
def F.words.scanner_skip_j7 (rec_2 : Int → Option Int) (at__2 : Int) (t65 : Bool) : Option Int :=
    if t65 then
      rec_2 (IntKind.wrap .i64 (at__2 + 1))
    else
      some at__2
def F.words.scanner_skip_l6 (s : Words_scanner) : Nat → Int → Option Int
  | 0, _ => none
  | j + 1, at__2 =>
      if decide (at__2 < (s.text.length : Int)) then
        if inR at__2 s.text.length then
          F.words.scanner_skip_j7 (F.words.scanner_skip_l6 s j) at__2 ((sAt s.text at__2) != 10)
        else none
      else
        F.words.scanner_skip_j7 (F.words.scanner_skip_l6 s j) at__2 false
def F.words.scanner_skip_j5 (k : Nat) (rec_1 : Int → Int → Int → Option (LR (Int × Int × Int) Words_scanner)) (at__ : Int) (line_ : Int) (top_ : Int) (s : Words_scanner) (t38 : Bool) : Option (LR (Int × Int × Int) Words_scanner) :=
    if t38 then
      F.words.scanner_skip_j4 rec_1 at__ line_ top_
    else
      if ((sAt s.text at__) == 35) then
        (F.words.scanner_skip_l6 s k at__).bind fun o6 =>
        F.words.scanner_skip_j2 rec_1 o6 line_ top_
      else
        some (.ret (Words_scanner.mk s.text at__ line_ top_ s.out))
def F.words.scanner_skip_j8 (k : Nat) (rec_1 : Int → Int → Int → Option (LR (Int × Int × Int) Words_scanner)) (at__ : Int) (line_ : Int) (top_ : Int) (s : Words_scanner) (t381 : Bool) : Option (LR (Int × Int × Int) Words_scanner) :=
    F.words.scanner_skip_j5 k rec_1 at__ line_ top_ s t381
def F.words.scanner_skip_l1 (k : Nat) (s : Words_scanner) : Nat → Int → Int → Int → Option (LR (Int × Int × Int) Words_scanner)
  | 0, _, _, _ => none
  | j + 1, at__, line_, top_ =>
      if decide (at__ < (s.text.length : Int)) then
        if inR at__ s.text.length then
          if ((sAt s.text at__) == 10) then
            F.words.scanner_skip_j4 (F.words.scanner_skip_l1 k s j) at__ (IntKind.wrap .i64 (line_ + 1)) (IntKind.wrap .i64 (at__ + 1))
          else
            if ((sAt s.text at__) == 32) then
              F.words.scanner_skip_j5 k (F.words.scanner_skip_l1 k s j) at__ line_ top_ s ((sAt s.text at__) == 32)
            else
              if ((sAt s.text at__) == 9) then
                F.words.scanner_skip_j8 k (F.words.scanner_skip_l1 k s j) at__ line_ top_ s ((sAt s.text at__) == 9)
              else
                F.words.scanner_skip_j8 k (F.words.scanner_skip_l1 k s j) at__ line_ top_ s ((sAt s.text at__) == 13)
        else none
      else
        some (.done (at__, line_, top_))
def F.words.scanner_skip (k : Nat) (s : Words_scanner) : Option Words_scanner :=
  (F.words.scanner_skip_l1 k s k s.at_ s.line s.top).bind fun o1 =>
  o1.fin fun d1 =>
  some (Words_scanner.mk s.text d1.1 d1.2.1 d1.2.2 s.out)

-- 33 tracery/words.great
def F.words.great (r_ : Int) : Option Bool :=
  if decide (65 ≤ r_) then
    some (decide (r_ ≤ 90))
  else
    some false

-- 37 tracery/words.small
def F.words.small (r_ : Int) : Option Bool :=
  if decide (97 ≤ r_) then
    some (decide (r_ ≤ 122))
  else
    some false

-- 45 tracery/words.digit
def F.words.digit (r_ : Int) : Option Bool :=
  if decide (48 ≤ r_) then
    some (decide (r_ ≤ 57))
  else
    some false

-- 34 tracery/words.run
def F.words.run_j2 (rec_1 : Int → Option (LR Unit Int)) (v : Int) (s : List UInt8) : Option (LR Unit Int) :=
    rec_1 (v + runeLen s v)
def F.words.run_j3 (v : Int) (rec_1 : Int → Option (LR Unit Int)) (s : List UInt8) (t23 : Bool) : Option (LR Unit Int) :=
    if t23 then
      some (.ret v)
    else
      F.words.run_j2 rec_1 v s
def F.words.run_l1 (s : List UInt8) : Nat → Int → Option (LR Unit Int)
  | 0, _ => none
  | j + 1, v =>
      if decide (v < (s.length : Int)) then
        (F.words.great (runeAt s v)).bind fun v1 =>
        if !v1 then
          (F.words.small (runeAt s v)).bind fun v2 =>
          if !v2 then
            (F.words.digit (runeAt s v)).bind fun v3 =>
            F.words.run_j3 v (F.words.run_l1 s j) s (!v3)
          else
            F.words.run_j3 v (F.words.run_l1 s j) s false
        else
          F.words.run_j3 v (F.words.run_l1 s j) s false
      else
        some (.done ())
def F.words.run (k : Nat) (s : List UInt8) : Option Int :=
  (F.words.run_l1 s k 0).bind fun o1 =>
  o1.fin fun d1 =>
  some (s.length : Int)

-- 28 (*tracery/words.scanner).put
def F.words.scanner_put (s : Words_scanner) (w_ : Word) (end_ : Int) : Option Words_scanner :=
  if okSub s.at_ end_ s.text.length then
    if decide ((s.out.length + ([(Word.mk w_.Kind (sub s.text s.at_ end_) w_.Bytes w_.Set w_.N_ s.at_ s.line (IntKind.wrap .i64 ((IntKind.wrap .i64 (s.at_ - s.top)) + 1)))] : List Word).length) * 112 ≤ 140737488355328) then
      if decide (s.out.length + ([(Word.mk w_.Kind (sub s.text s.at_ end_) w_.Bytes w_.Set w_.N_ s.at_ s.line (IntKind.wrap .i64 ((IntKind.wrap .i64 (s.at_ - s.top)) + 1)))] : List Word).length ≤ 9223372036854775807) then
        some (Words_scanner.mk s.text end_ s.line s.top (s.out ++ ([(Word.mk w_.Kind (sub s.text s.at_ end_) w_.Bytes w_.Set w_.N_ s.at_ s.line (IntKind.wrap .i64 ((IntKind.wrap .i64 (s.at_ - s.top)) + 1)))] : List Word)))
      else none
    else none
  else none

-- 46 (*tracery/words.scanner).number
def F.words.scanner_number_j2 (end_ : Int) (s : Words_scanner) (rec_1 : Int → Int → Option (LR (Int × Int) (Int × Words_scanner))) (n : Int) (t25 : Bool) : Option (LR (Int × Int) (Int × Words_scanner)) :=
    if t25 then
      if ((IntKind.wrap .i64 (end_ - s.at_)) == 6) then
        some (.ret (21, s))
      else
        if inR end_ s.text.length then
          rec_1 (IntKind.wrap .i64 (end_ + 1)) (IntKind.wrap .i64 ((IntKind.wrap .i64 (10 * n)) + (IntKind.wrap .i64 (IntKind.wrap .u8 ((sAt s.text end_) - 48)))))
        else none
    else
      some (.done (end_, n))
def F.words.scanner_number_l1 (s : Words_scanner) : Nat → Int → Int → Option (LR (Int × Int) (Int × Words_scanner))
  | 0, _, _ => none
  | j + 1, end_, n =>
      if decide (end_ < (s.text.length : Int)) then
        if inR end_ s.text.length then
          (F.words.digit (IntKind.wrap .i32 (sAt s.text end_))).bind fun v =>
          F.words.scanner_number_j2 end_ s (F.words.scanner_number_l1 s j) n v
        else none
      else
        F.words.scanner_number_j2 end_ s (F.words.scanner_number_l1 s j) n false
def F.words.scanner_number_j3 (s : Words_scanner) (d1 : Int × Int) (t64 : Bool) : Option (Int × Words_scanner) :=
    if t64 then
      some (21, s)
    else
      (F.words.scanner_put s (Word.mk 3 ([] : List UInt8) ([] : List Int) (S4.mk 0 0 0 0) d1.2 0 0 0) d1.1).bind fun v1 =>
      some (0, v1)
def F.words.scanner_number (k : Nat) (s : Words_scanner) : Option (Int × Words_scanner) :=
  (F.words.scanner_number_l1 s k s.at_ 0).bind fun o1 =>
  o1.fin fun d1 =>
  if inR s.at_ s.text.length then
    if ((sAt s.text s.at_) == 48) then
      F.words.scanner_number_j3 s d1 (decide ((IntKind.wrap .i64 (s.at_ + 1)) < d1.1))
    else
      F.words.scanner_number_j3 s d1 false
  else none

-- 66 tracery/words.value
def F.words.value_j1 : Option Int :=
    some (-1)
def F.words.value_j3 : Option Int :=
    F.words.value_j1
def F.words.value_j5 (c : Int) (t24 : Bool) : Option Int :=
    if t24 then
      some (IntKind.wrap .i64 ((IntKind.wrap .i64 (IntKind.wrap .u8 (c - 65))) + 10))
    else
      F.words.value_j3
def F.words.value_j4 (c : Int) (t13 : Bool) : Option Int :=
    if t13 then
      some (IntKind.wrap .i64 ((IntKind.wrap .i64 (IntKind.wrap .u8 (c - 97))) + 10))
    else
      if decide (65 ≤ c) then
        F.words.value_j5 c (decide (c ≤ 70))
      else
        F.words.value_j5 c false
def F.words.value_j2 (c : Int) (t3 : Bool) : Option Int :=
    if t3 then
      some (IntKind.wrap .i64 (IntKind.wrap .u8 (c - 48)))
    else
      if decide (97 ≤ c) then
        F.words.value_j4 c (decide (c ≤ 102))
      else
        F.words.value_j4 c false
def F.words.value (c : Int) : Option Int :=
  if decide (48 ≤ c) then
    F.words.value_j2 c (decide (c ≤ 57))
  else
    F.words.value_j2 c false

-- 57 tracery/words.escape
def F.words.escape_j2 : Option (Int × Int) :=
    some (0, 0)
def F.words.escape_j3 : Option (Int × Int) :=
    F.words.escape_j2
def F.words.escape_j4 (s : List UInt8) (t36 : Bool) : Option (Int × Int) :=
    if t36 then
      if inR 2 s.length then
        if inR 3 s.length then
          (F.words.value (sAt s 2)).bind fun v =>
          (F.words.value (sAt s 3)).bind fun v1 =>
          some (IntKind.wrap .u8 (IntKind.wrap .i64 ((IntKind.wrap .i64 (16 * v)) + v1)), 4)
        else none
      else none
    else
      F.words.escape_j3
def F.words.escape_j1 (s : List UInt8) (t9 : Bool) : Option (Int × Int) :=
    if t9 then
      some (sAt s 1, 2)
    else
      if ((sAt s 1) == 110) then
        some (10, 2)
      else
        if ((sAt s 1) == 116) then
          some (9, 2)
        else
          if ((sAt s 1) == 114) then
            some (13, 2)
          else
            if ((sAt s 1) == 120) then
              if decide (4 ≤ (s.length : Int)) then
                if inR 2 s.length then
                  (F.words.value (sAt s 2)).bind fun v2 =>
                  if decide (0 ≤ v2) then
                    if inR 3 s.length then
                      (F.words.value (sAt s 3)).bind fun v3 =>
                      F.words.escape_j4 s (decide (0 ≤ v3))
                    else none
                  else
                    F.words.escape_j4 s false
                else none
              else
                F.words.escape_j4 s false
            else
              F.words.escape_j3
def F.words.escape (s : List UInt8) : Option (Int × Int) :=
  if decide ((s.length : Int) < 2) then
    some (0, 0)
  else
    if inR 1 s.length then
      if ((sAt s 1) == 34) then
        F.words.escape_j1 s ((sAt s 1) == 34)
      else
        F.words.escape_j1 s ((sAt s 1) == 92)
    else none

-- 42 tracery/words.quoted
def F.words.quoted_j2 (rec_1 : List Int → Int → Option (LR Unit (List Int × Int × Fault))) (out_1 : List Int) (i1 : Int) : Option (LR Unit (List Int × Int × Fault)) :=
    rec_1 out_1 i1
def F.words.quoted_j3 (rec_1 : List Int → Int → Option (LR Unit (List Int × Int × Fault))) (out_2 : List Int) (i2 : Int) : Option (LR Unit (List Int × Int × Fault)) :=
    F.words.quoted_j2 rec_1 out_2 i2
def F.words.quoted_j4 (rec_1 : List Int → Int → Option (LR Unit (List Int × Int × Fault))) (out_3 : List Int) (i3 : Int) : Option (LR Unit (List Int × Int × Fault)) :=
    F.words.quoted_j3 rec_1 out_3 i3
def F.words.quoted_j5 (rec_1 : List Int → Int → Option (LR Unit (List Int × Int × Fault))) (out_4 : List Int) (i4 : Int) : Option (LR Unit (List Int × Int × Fault)) :=
    F.words.quoted_j4 rec_1 out_4 i4
def F.words.quoted_j6 (i : Int) (out_ : List Int) (text_ : List UInt8) (rec_1 : List Int → Int → Option (LR Unit (List Int × Int × Fault))) (t55 : Bool) : Option (LR Unit (List Int × Int × Fault)) :=
    if t55 then
      some (.ret (([] : List Int), 0, (Fault.mk i 11)))
    else
      if decide ((out_.length + ([sAt text_ i] : List Int).length) * 1 ≤ 140737488355328) then
        if decide (out_.length + ([sAt text_ i] : List Int).length ≤ 9223372036854775807) then
          F.words.quoted_j5 rec_1 (out_ ++ ([sAt text_ i] : List Int)) (IntKind.wrap .i64 (i + 1))
        else none
      else none
def F.words.quoted_l1 (text_ : List UInt8) : Nat → List Int → Int → Option (LR Unit (List Int × Int × Fault))
  | 0, _, _ => none
  | j + 1, out_, i =>
      if decide (i < (text_.length : Int)) then
        if inR i text_.length then
          if ((sAt text_ i) == 34) then
            some (.ret (out_, IntKind.wrap .i64 (i + 1), (Fault.mk 0 0)))
          else
            if ((sAt text_ i) == 92) then
              if okSub i (text_.length : Int) text_.length then
                (F.words.escape (sub text_ i (text_.length : Int))).bind fun v =>
                if (v.2 == 0) then
                  some (.ret (([] : List Int), 0, (Fault.mk i 12)))
                else
                  if decide ((out_.length + ([v.1] : List Int).length) * 1 ≤ 140737488355328) then
                    if decide (out_.length + ([v.1] : List Int).length ≤ 9223372036854775807) then
                      F.words.quoted_j5 (F.words.quoted_l1 text_ j) (out_ ++ ([v.1] : List Int)) (IntKind.wrap .i64 (i + v.2))
                    else none
                  else none
              else none
            else
              if decide ((sAt text_ i) < 32) then
                F.words.quoted_j6 i out_ text_ (F.words.quoted_l1 text_ j) true
              else
                F.words.quoted_j6 i out_ text_ (F.words.quoted_l1 text_ j) (decide (126 < (sAt text_ i)))
        else none
      else
        some (.done ())
def F.words.quoted (k : Nat) (text_ : List UInt8) (at__ : Int) : Option (List Int × Int × Fault) :=
  (F.words.quoted_l1 text_ k ([] : List Int) (IntKind.wrap .i64 (at__ + 1))).bind fun o1 =>
  o1.fin fun d1 =>
  some (([] : List Int), 0, (Fault.mk at__ 13))

-- 80 tracery/charset.digit
def F.charset.digit_j1 : Option Int :=
    some (-1)
def F.charset.digit_j3 : Option Int :=
    F.charset.digit_j1
def F.charset.digit_j5 (c : Int) (t24 : Bool) : Option Int :=
    if t24 then
      some (IntKind.wrap .i64 ((IntKind.wrap .i64 (IntKind.wrap .u8 (c - 65))) + 10))
    else
      F.charset.digit_j3
def F.charset.digit_j4 (c : Int) (t13 : Bool) : Option Int :=
    if t13 then
      some (IntKind.wrap .i64 ((IntKind.wrap .i64 (IntKind.wrap .u8 (c - 97))) + 10))
    else
      if decide (65 ≤ c) then
        F.charset.digit_j5 c (decide (c ≤ 70))
      else
        F.charset.digit_j5 c false
def F.charset.digit_j2 (c : Int) (t3 : Bool) : Option Int :=
    if t3 then
      some (IntKind.wrap .i64 (IntKind.wrap .u8 (c - 48)))
    else
      if decide (97 ≤ c) then
        F.charset.digit_j4 c (decide (c ≤ 102))
      else
        F.charset.digit_j4 c false
def F.charset.digit (c : Int) : Option Int :=
  if decide (48 ≤ c) then
    F.charset.digit_j2 c (decide (c ≤ 57))
  else
    F.charset.digit_j2 c false

-- 79 (*tracery/charset.reader).escaped
def F.charset.reader_escaped_j1 (r_ : Charset_reader) : Option (Int × Fault × Charset_reader) :=
    some (0, (Fault.mk r_.at_ 12), (Charset_reader.mk r_.text (IntKind.wrap .i64 (r_.at_ + 2))))
def F.charset.reader_escaped_j2 (r_ : Charset_reader) : Option (Int × Fault × Charset_reader) :=
    F.charset.reader_escaped_j1 r_
def F.charset.reader_escaped_j4 (r_ : Charset_reader) : Option (Int × Fault × Charset_reader) :=
    F.charset.reader_escaped_j2 r_
def F.charset.reader_escaped_j5 (r_ : Charset_reader) (t71 : Bool) : Option (Int × Fault × Charset_reader) :=
    if t71 then
      if inR 1 (sub r_.text (IntKind.wrap .i64 (r_.at_ + 1)) (r_.text.length : Int)).length then
        if inR 2 (sub r_.text (IntKind.wrap .i64 (r_.at_ + 1)) (r_.text.length : Int)).length then
          (F.charset.digit (sAt (sub r_.text (IntKind.wrap .i64 (r_.at_ + 1)) (r_.text.length : Int)) 1)).bind fun v =>
          (F.charset.digit (sAt (sub r_.text (IntKind.wrap .i64 (r_.at_ + 1)) (r_.text.length : Int)) 2)).bind fun v1 =>
          some (IntKind.wrap .i64 ((IntKind.wrap .i64 (16 * v)) + v1), (Fault.mk 0 0), (Charset_reader.mk r_.text (IntKind.wrap .i64 ((IntKind.wrap .i64 (r_.at_ + 2)) + 2))))
        else none
      else none
    else
      F.charset.reader_escaped_j4 r_
def F.charset.reader_escaped_j3 (r_ : Charset_reader) (t45 : Bool) : Option (Int × Fault × Charset_reader) :=
    if t45 then
      some (IntKind.wrap .i64 (sAt (sub r_.text (IntKind.wrap .i64 (r_.at_ + 1)) (r_.text.length : Int)) 0), (Fault.mk 0 0), (Charset_reader.mk r_.text (IntKind.wrap .i64 (r_.at_ + 2))))
    else
      if ((sAt (sub r_.text (IntKind.wrap .i64 (r_.at_ + 1)) (r_.text.length : Int)) 0) == 120) then
        if decide (3 ≤ ((sub r_.text (IntKind.wrap .i64 (r_.at_ + 1)) (r_.text.length : Int)).length : Int)) then
          if inR 1 (sub r_.text (IntKind.wrap .i64 (r_.at_ + 1)) (r_.text.length : Int)).length then
            (F.charset.digit (sAt (sub r_.text (IntKind.wrap .i64 (r_.at_ + 1)) (r_.text.length : Int)) 1)).bind fun v2 =>
            if decide (0 ≤ v2) then
              if inR 2 (sub r_.text (IntKind.wrap .i64 (r_.at_ + 1)) (r_.text.length : Int)).length then
                (F.charset.digit (sAt (sub r_.text (IntKind.wrap .i64 (r_.at_ + 1)) (r_.text.length : Int)) 2)).bind fun v3 =>
                F.charset.reader_escaped_j5 r_ (decide (0 ≤ v3))
              else none
            else
              F.charset.reader_escaped_j5 r_ false
          else none
        else
          F.charset.reader_escaped_j5 r_ false
      else
        F.charset.reader_escaped_j4 r_
def F.charset.reader_escaped_j6 (r_ : Charset_reader) (t451 : Bool) : Option (Int × Fault × Charset_reader) :=
    F.charset.reader_escaped_j3 r_ t451
def F.charset.reader_escaped (r_ : Charset_reader) : Option (Int × Fault × Charset_reader) :=
  if okSub (IntKind.wrap .i64 (r_.at_ + 1)) (r_.text.length : Int) r_.text.length then
    if ((sub r_.text (IntKind.wrap .i64 (r_.at_ + 1)) (r_.text.length : Int)) == ([] : List UInt8)) then
      some (0, (Fault.mk r_.at_ 12), r_)
    else
      if inR 0 (sub r_.text (IntKind.wrap .i64 (r_.at_ + 1)) (r_.text.length : Int)).length then
        if ((sAt (sub r_.text (IntKind.wrap .i64 (r_.at_ + 1)) (r_.text.length : Int)) 0) == 110) then
          some (10, (Fault.mk 0 0), (Charset_reader.mk r_.text (IntKind.wrap .i64 (r_.at_ + 2))))
        else
          if ((sAt (sub r_.text (IntKind.wrap .i64 (r_.at_ + 1)) (r_.text.length : Int)) 0) == 116) then
            some (9, (Fault.mk 0 0), (Charset_reader.mk r_.text (IntKind.wrap .i64 (r_.at_ + 2))))
          else
            if ((sAt (sub r_.text (IntKind.wrap .i64 (r_.at_ + 1)) (r_.text.length : Int)) 0) == 114) then
              some (13, (Fault.mk 0 0), (Charset_reader.mk r_.text (IntKind.wrap .i64 (r_.at_ + 2))))
            else
              if ((sAt (sub r_.text (IntKind.wrap .i64 (r_.at_ + 1)) (r_.text.length : Int)) 0) == 115) then
                some (32, (Fault.mk 0 0), (Charset_reader.mk r_.text (IntKind.wrap .i64 (r_.at_ + 2))))
              else
                if ((sAt (sub r_.text (IntKind.wrap .i64 (r_.at_ + 1)) (r_.text.length : Int)) 0) == 91) then
                  F.charset.reader_escaped_j3 r_ ((sAt (sub r_.text (IntKind.wrap .i64 (r_.at_ + 1)) (r_.text.length : Int)) 0) == 91)
                else
                  if ((sAt (sub r_.text (IntKind.wrap .i64 (r_.at_ + 1)) (r_.text.length : Int)) 0) == 93) then
                    F.charset.reader_escaped_j3 r_ ((sAt (sub r_.text (IntKind.wrap .i64 (r_.at_ + 1)) (r_.text.length : Int)) 0) == 93)
                  else
                    if ((sAt (sub r_.text (IntKind.wrap .i64 (r_.at_ + 1)) (r_.text.length : Int)) 0) == 92) then
                      F.charset.reader_escaped_j6 r_ ((sAt (sub r_.text (IntKind.wrap .i64 (r_.at_ + 1)) (r_.text.length : Int)) 0) == 92)
                    else
                      if ((sAt (sub r_.text (IntKind.wrap .i64 (r_.at_ + 1)) (r_.text.length : Int)) 0) == 45) then
                        F.charset.reader_escaped_j6 r_ ((sAt (sub r_.text (IntKind.wrap .i64 (r_.at_ + 1)) (r_.text.length : Int)) 0) == 45)
                      else
                        F.charset.reader_escaped_j6 r_ ((sAt (sub r_.text (IntKind.wrap .i64 (r_.at_ + 1)) (r_.text.length : Int)) 0) == 94)
      else none
  else none

-- 76 (*tracery/charset.reader).char
def F.charset.reader_char_j1 (r_ : Charset_reader) (t57 : Bool) : Option (Int × Fault × Charset_reader) :=
    if t57 then
      some (0, (Fault.mk r_.at_ 11), r_)
    else
      some (IntKind.wrap .i64 (sAt r_.text r_.at_), (Fault.mk 0 0), (Charset_reader.mk r_.text (IntKind.wrap .i64 (r_.at_ + 1))))
def F.charset.reader_char (r_ : Charset_reader) : Option (Int × Fault × Charset_reader) :=
  if decide ((r_.text.length : Int) ≤ r_.at_) then
    some (0, (Fault.mk (r_.text.length : Int) 14), r_)
  else
    if inR r_.at_ r_.text.length then
      if ((sAt r_.text r_.at_) == 92) then
        (F.charset.reader_escaped r_).bind fun v =>
        some (v.1, v.2.1, v.2.2)
      else
        if decide ((sAt r_.text r_.at_) < 33) then
          F.charset.reader_char_j1 r_ true
        else
          if decide (126 < (sAt r_.text r_.at_)) then
            F.charset.reader_char_j1 r_ true
          else
            if ((sAt r_.text r_.at_) == 91) then
              F.charset.reader_char_j1 r_ true
            else
              if ((sAt r_.text r_.at_) == 93) then
                F.charset.reader_char_j1 r_ true
              else
                if ((sAt r_.text r_.at_) == 45) then
                  F.charset.reader_char_j1 r_ true
                else
                  F.charset.reader_char_j1 r_ ((sAt r_.text r_.at_) == 94)
    else none

-- 77 tracery/charset.Range
def F.charset.Range_l1 (hi : Int) : Nat → Int → S4 → Option S4
  | 0, _, _ => none
  | j + 1, i, s =>
      if decide (i ≤ hi) then
        if inR (gquo .i64 i 64) 4 then
          if decide ((grem i 64) < 0) then none else
          (F.charset.Range_l1 hi j) (IntKind.wrap .i64 (i + 1)) (S4.set s (gquo .i64 i 64) (gor .u64 (S4.get s (gquo .i64 i 64)) (gshl .u64 1 (grem i 64))))
        else none
      else
        some s
def F.charset.Range (k : Nat) (lo : Int) (hi : Int) : Option (S4 × Int) :=
  if decide (lo < 0) then
    some ((S4.mk 0 0 0 0), 10)
  else
    if decide (255 < hi) then
      some ((S4.mk 0 0 0 0), 10)
    else
      if decide (hi < lo) then
        some ((S4.mk 0 0 0 0), 10)
      else
        (F.charset.Range_l1 hi k lo (S4.mk 0 0 0 0)).bind fun o1 =>
        some (o1, 0)

-- 67 (*tracery/charset.reader).item
def F.charset.reader_item_j2 (k : Nat) (v : Int × Fault × Charset_reader) (r_ : Charset_reader) (hi : Int) (text_ : List UInt8) (at__ : Int) (At_ : Int) (Code_ : Int) : Option (S4 × Fault × Charset_reader) :=
    (F.charset.Range k v.1 hi).bind fun v1 =>
    if (v1.2 != 0) then
      some ((S4.mk 0 0 0 0), (Fault.mk r_.at_ v1.2), (Charset_reader.mk text_ at__))
    else
      some (v1.1, (Fault.mk 0 0), (Charset_reader.mk text_ at__))
def F.charset.reader_item_j1 (k : Nat) (v : Int × Fault × Charset_reader) (r_ : Charset_reader) (t46 : Bool) : Option (S4 × Fault × Charset_reader) :=
    if t46 then
      (F.charset.reader_char (Charset_reader.mk v.2.2.text (IntKind.wrap .i64 (v.2.2.at_ + 1)))).bind fun v2 =>
      if (v2.2.1.Code != 0) then
        some ((S4.mk 0 0 0 0), v2.2.1, v2.2.2)
      else
        F.charset.reader_item_j2 k v r_ v2.1 v2.2.2.text v2.2.2.at_ v2.2.1.At v2.2.1.Code
    else
      F.charset.reader_item_j2 k v r_ v.1 v.2.2.text v.2.2.at_ v.2.1.At v.2.1.Code
def F.charset.reader_item (k : Nat) (r_ : Charset_reader) : Option (S4 × Fault × Charset_reader) :=
  (F.charset.reader_char r_).bind fun v =>
  if (v.2.1.Code != 0) then
    some ((S4.mk 0 0 0 0), v.2.1, v.2.2)
  else
    if decide (v.2.2.at_ < (v.2.2.text.length : Int)) then
      if inR v.2.2.at_ v.2.2.text.length then
        F.charset.reader_item_j1 k v r_ ((sAt v.2.2.text v.2.2.at_) == 45)
      else none
    else
      F.charset.reader_item_j1 k v r_ false

-- 68 tracery/charset.Union
def F.charset.Union_l1 (b : S4) : Nat → Int → S4 → Option S4
  | 0, _, _ => none
  | j + 1, t6, a_1 =>
      if decide (t6 < 4) then
        if inR t6 4 then
          (F.charset.Union_l1 b j) (IntKind.wrap .i64 (t6 + 1)) (S4.set a_1 t6 (gor .u64 (S4.get a_1 t6) (S4.get b t6)))
        else none
      else
        some a_1
def F.charset.Union (k : Nat) (a_ : S4) (b : S4) : Option S4 :=
  (F.charset.Union_l1 b k 0 a_).bind fun o1 =>
  some o1

-- 69 tracery/charset.Not
def F.charset.Not_l1 : Nat → Int → S4 → Option S4
  | 0, _, _ => none
  | j + 1, t4, a_1 =>
      if decide (t4 < 4) then
        if inR t4 4 then
          (F.charset.Not_l1 j) (IntKind.wrap .i64 (t4 + 1)) (S4.set a_1 t4 (gnot .u64 (S4.get a_1 t4)))
        else none
      else
        some a_1
def F.charset.Not (k : Nat) (a_ : S4) : Option S4 :=
  (F.charset.Not_l1 k 0 a_).bind fun o1 =>
  some o1

-- 59 tracery/charset.Parse
def F.charset.Parse_j5 (k : Nat) (text_1 : List UInt8) (at__1 : Int) (out_ : S4) (rec_1 : S4 → List UInt8 → Int → Option (LR (S4 × (List UInt8) × Int) (S4 × Fault))) (t53 : Bool) : Option (LR (S4 × (List UInt8) × Int) (S4 × Fault)) :=
    if t53 then
      (F.charset.reader_item k (Charset_reader.mk text_1 at__1)).bind fun v =>
      if (v.2.1.Code != 0) then
        some (.ret ((S4.mk 0 0 0 0), v.2.1))
      else
        (F.charset.Union k out_ v.1).bind fun v1 =>
        rec_1 v1 v.2.2.text v.2.2.at_
    else
      some (.done (out_, text_1, at__1))
def F.charset.Parse_l4 (k : Nat) (text_ : List UInt8) : Nat → S4 → List UInt8 → Int → Option (LR (S4 × (List UInt8) × Int) (S4 × Fault))
  | 0, _, _, _ => none
  | j + 1, out_, text_1, at__1 =>
      if decide ((text_.length : Int) ≤ at__1) then
        F.charset.Parse_j5 k text_1 at__1 out_ (F.charset.Parse_l4 k text_ j) true
      else
        if inR at__1 text_.length then
          F.charset.Parse_j5 k text_1 at__1 out_ (F.charset.Parse_l4 k text_ j) ((sAt text_ at__1) != 93)
        else none
def F.charset.Parse_j3 (k : Nat) (text_ : List UInt8) (not : Bool) (at__ : Int) : Option (S4 × Fault) :=
    (F.charset.Parse_l4 k text_ k (S4.mk 0 0 0 0) text_ at__).bind fun o4 =>
    o4.fin fun d4 =>
    if decide ((IntKind.wrap .i64 (d4.2.2 + 1)) < (text_.length : Int)) then
      some ((S4.mk 0 0 0 0), (Fault.mk (IntKind.wrap .i64 (d4.2.2 + 1)) 15))
    else
      if not then
        (F.charset.Not k d4.1).bind fun v2 =>
        some (v2, (Fault.mk 0 0))
      else
        some (d4.1, (Fault.mk 0 0))
def F.charset.Parse_j2 (k : Nat) (text_ : List UInt8) (not : Bool) : Option (S4 × Fault) :=
    if not then
      F.charset.Parse_j3 k text_ not 2
    else
      F.charset.Parse_j3 k text_ not 1
def F.charset.Parse_j1 (k : Nat) (text_ : List UInt8) (t20 : Bool) : Option (S4 × Fault) :=
    if t20 then
      some ((S4.mk 0 0 0 0), (Fault.mk 0 13))
    else
      if decide (1 < (text_.length : Int)) then
        if inR 1 text_.length then
          F.charset.Parse_j2 k text_ ((sAt text_ 1) == 94)
        else none
      else
        F.charset.Parse_j2 k text_ false
def F.charset.Parse (k : Nat) (text_ : List UInt8) : Option (S4 × Fault) :=
  if decide (65536 < (text_.length : Int)) then
    some ((S4.mk 0 0 0 0), (Fault.mk 0 2))
  else
    if (text_ == ([] : List UInt8)) then
      F.charset.Parse_j1 k text_ true
    else
      if inR 0 text_.length then
        F.charset.Parse_j1 k text_ ((sAt text_ 0) != 91)
      else none

-- 47 tracery/words.bracketed
def F.words.bracketed_j2 (rec_1 : Int → Option (LR Unit (S4 × Int × Fault))) (i1 : Int) : Option (LR Unit (S4 × Int × Fault)) :=
    rec_1 (IntKind.wrap .i64 (i1 + 1))
def F.words.bracketed_j3 (rec_1 : Int → Option (LR Unit (S4 × Int × Fault))) (i2 : Int) : Option (LR Unit (S4 × Int × Fault)) :=
    F.words.bracketed_j2 rec_1 i2
def F.words.bracketed_j4 (rec_1 : Int → Option (LR Unit (S4 × Int × Fault))) (i3 : Int) : Option (LR Unit (S4 × Int × Fault)) :=
    F.words.bracketed_j3 rec_1 i3
def F.words.bracketed_j5 (v : S4 × Fault) (i : Int) (At_ : Int) : Option (LR Unit (S4 × Int × Fault)) :=
    some (.ret (v.1, IntKind.wrap .i64 (i + 1), (Fault.mk At_ v.2.Code)))
def F.words.bracketed_l1 (k : Nat) (text_ : List UInt8) (at__ : Int) : Nat → Int → Option (LR Unit (S4 × Int × Fault))
  | 0, _ => none
  | j + 1, i =>
      if decide (i < (text_.length : Int)) then
        if inR i text_.length then
          if ((sAt text_ i) == 92) then
            F.words.bracketed_j4 (F.words.bracketed_l1 k text_ at__ j) (IntKind.wrap .i64 (i + 1))
          else
            if ((sAt text_ i) == 93) then
              if okSub at__ (IntKind.wrap .i64 (i + 1)) text_.length then
                (F.charset.Parse k (sub text_ at__ (IntKind.wrap .i64 (i + 1)))).bind fun v =>
                if (v.2.Code != 0) then
                  F.words.bracketed_j5 v i (IntKind.wrap .i64 (v.2.At + at__))
                else
                  F.words.bracketed_j5 v i v.2.At
              else none
            else
              F.words.bracketed_j4 (F.words.bracketed_l1 k text_ at__ j) i
        else none
      else
        some (.done ())
def F.words.bracketed (k : Nat) (text_ : List UInt8) (at__ : Int) : Option (S4 × Int × Fault) :=
  (F.words.bracketed_l1 k text_ at__ k (IntKind.wrap .i64 (at__ + 1))).bind fun o1 =>
  o1.fin fun d1 =>
  some ((S4.mk 0 0 0 0), 0, (Fault.mk at__ 13))

-- 27 (*tracery/words.scanner).next
def F.words.scanner_next_j2 (text_ : List UInt8) (at__ : Int) (line_ : Int) (top_ : Int) (out_ : List Word) : Option (Fault × Words_scanner) :=
    some ((Fault.mk 0 0), (Words_scanner.mk text_ at__ line_ top_ out_))
def F.words.scanner_next_j3 (s : Words_scanner) (v : Int) (kind : Int) : Option (Fault × Words_scanner) :=
    (F.words.scanner_put s (Word.mk kind ([] : List UInt8) ([] : List Int) (S4.mk 0 0 0 0) 0 0 0 0) (IntKind.wrap .i64 (s.at_ + v))).bind fun v2 =>
    F.words.scanner_next_j2 v2.text v2.at_ v2.line v2.top v2.out
def F.words.scanner_next_j4 (text_1 : List UInt8) (at__1 : Int) (line_1 : Int) (top_1 : Int) (out_1 : List Word) : Option (Fault × Words_scanner) :=
    F.words.scanner_next_j2 text_1 at__1 line_1 top_1 out_1
def F.words.scanner_next_j5 (s : Words_scanner) (b2 : List Int) (end_ : Int) (At_ : Int) (Code_ : Int) : Option (Fault × Words_scanner) :=
    if (Code_ != 0) then
      some ((Fault.mk At_ Code_), s)
    else
      (F.words.scanner_put s (Word.mk 4 ([] : List UInt8) b2 (S4.mk 0 0 0 0) 0 0 0 0) end_).bind fun v5 =>
      F.words.scanner_next_j4 v5.text v5.at_ v5.line v5.top v5.out
def F.words.scanner_next_j6 (s : Words_scanner) (set__ : S4) (end_1 : Int) (At_1 : Int) (Code_1 : Int) : Option (Fault × Words_scanner) :=
    if (Code_1 != 0) then
      some ((Fault.mk At_1 Code_1), s)
    else
      (F.words.scanner_put s (Word.mk 5 ([] : List UInt8) ([] : List Int) set__ 0 0 0 0) end_1).bind fun v7 =>
      F.words.scanner_next_j4 v7.text v7.at_ v7.line v7.top v7.out
def F.words.scanner_next_j1 (k : Nat) (s : Words_scanner) (t27 : Bool) : Option (Fault × Words_scanner) :=
    if t27 then
      if okSub s.at_ (s.text.length : Int) s.text.length then
        (F.words.run k (sub s.text s.at_ (s.text.length : Int))).bind fun v =>
        if decide (32 < v) then
          some ((Fault.mk s.at_ 20), s)
        else
          (F.words.great (IntKind.wrap .i32 (sAt s.text s.at_))).bind fun v1 =>
          if v1 then
            F.words.scanner_next_j3 s v 1
          else
            F.words.scanner_next_j3 s v 2
      else none
    else
      (F.words.digit (IntKind.wrap .i32 (sAt s.text s.at_))).bind fun v3 =>
      if v3 then
        (F.words.scanner_number k s).bind fun v4 =>
        if (v4.1 != 0) then
          some ((Fault.mk v4.2.at_ v4.1), v4.2)
        else
          F.words.scanner_next_j2 v4.2.text v4.2.at_ v4.2.line v4.2.top v4.2.out
      else
        if ((sAt s.text s.at_) == 34) then
          (F.words.quoted k s.text s.at_).bind fun v6 =>
          F.words.scanner_next_j5 s v6.1 v6.2.1 v6.2.2.At v6.2.2.Code
        else
          if ((sAt s.text s.at_) == 91) then
            (F.words.bracketed k s.text s.at_).bind fun v8 =>
            F.words.scanner_next_j6 s v8.1 v8.2.1 v8.2.2.At v8.2.2.Code
          else
            (F.strings.IndexByte ([61, 124, 46, 59, 62, 63, 42, 43, 123, 125, 40, 41, 95, 47, 44, 45] : List UInt8) (sAt s.text s.at_)).bind fun v9 =>
            if decide (0 ≤ v9) then
              (F.words.scanner_put s (Word.mk 6 ([] : List UInt8) ([] : List Int) (S4.mk 0 0 0 0) 0 0 0 0) (IntKind.wrap .i64 (s.at_ + 1))).bind fun v10 =>
              F.words.scanner_next_j4 v10.text v10.at_ v10.line v10.top v10.out
            else
              some ((Fault.mk s.at_ 11), s)
def F.words.scanner_next (k : Nat) (s : Words_scanner) : Option (Fault × Words_scanner) :=
  if inR s.at_ s.text.length then
    (F.words.great (IntKind.wrap .i32 (sAt s.text s.at_))).bind fun v11 =>
    if v11 then
      F.words.scanner_next_j1 k s true
    else
      (F.words.small (IntKind.wrap .i32 (sAt s.text s.at_))).bind fun v12 =>
      F.words.scanner_next_j1 k s v12
  else none

-- 12 tracery/words.Scan
def F.words.Scan_l1 (k : Nat) (text_ : List UInt8) : Nat → List UInt8 → Int → Int → Int → List Word → Option (LR ((List UInt8) × Int × Int × Int × (List Word)) (List Word × Fault))
  | 0, _, _, _, _, _ => none
  | j + 1, text_1, at__, line_, top_, out_ =>
      if decide (at__ < (text_.length : Int)) then
        (F.words.scanner_next k (Words_scanner.mk text_1 at__ line_ top_ out_)).bind fun v1 =>
        if (v1.1.Code != 0) then
          some (.ret (([] : List Word), v1.1))
        else
          (F.words.scanner_skip k v1.2).bind fun v2 =>
          (F.words.Scan_l1 k text_ j) v2.text v2.at_ v2.line v2.top v2.out
      else
        some (.done (text_1, at__, line_, top_, out_))
def F.words.Scan (k : Nat) (text_ : List UInt8) : Option (List Word × Fault) :=
  if decide (65536 < (text_.length : Int)) then
    some (([] : List Word), (Fault.mk 0 2))
  else
    (F.words.scanner_skip k (Words_scanner.mk text_ 0 1 0 ([] : List Word))).bind fun v =>
    (F.words.Scan_l1 k text_ k v.text v.at_ v.line v.top v.out).bind fun o1 =>
    o1.fin fun d1 =>
    (F.words.scanner_put (Words_scanner.mk d1.1 d1.2.1 d1.2.2.1 d1.2.2.2.1 d1.2.2.2.2) (Word.mk 7 ([] : List UInt8) ([] : List Int) (S4.mk 0 0 0 0) 0 0 0 0) d1.2.1).bind fun v3 =>
    some (v3.out, (Fault.mk 0 0))

-- 29 tracery/traceryref02.over
def F.ref02.over_j2 (rec_1 : Int → Option (LR Int Int)) (at__2 : Int) : Option (LR Int Int) :=
    rec_1 at__2
def F.ref02.over_j4 (rec_2 : Int → Option Int) (at__3 : Int) (t24 : Bool) : Option Int :=
    if t24 then
      rec_2 (IntKind.wrap .i64 (at__3 + 1))
    else
      some at__3
def F.ref02.over_l3 (text_ : List UInt8) : Nat → Int → Option Int
  | 0, _ => none
  | j + 1, at__3 =>
      if decide (at__3 < (text_.length : Int)) then
        if inR at__3 text_.length then
          F.ref02.over_j4 (F.ref02.over_l3 text_ j) at__3 ((sAt text_ at__3) != 10)
        else none
      else
        F.ref02.over_j4 (F.ref02.over_l3 text_ j) at__3 false
def F.ref02.over_j5 (at__1 : Int) (rec_1 : Int → Option (LR Int Int)) (t40 : Bool) : Option (LR Int Int) :=
    if t40 then
      some (.ret at__1)
    else
      F.ref02.over_j2 rec_1 (IntKind.wrap .i64 (at__1 + 1))
def F.ref02.over_l1 (k : Nat) (text_ : List UInt8) : Nat → Int → Option (LR Int Int)
  | 0, _ => none
  | j + 1, at__1 =>
      if decide (at__1 < (text_.length : Int)) then
        if inR at__1 text_.length then
          if ((sAt text_ at__1) == 35) then
            (F.ref02.over_l3 text_ k at__1).bind fun o3 =>
            F.ref02.over_j2 (F.ref02.over_l1 k text_ j) o3
          else
            if ((sAt text_ at__1) != 32) then
              if ((sAt text_ at__1) != 9) then
                if ((sAt text_ at__1) != 10) then
                  F.ref02.over_j5 at__1 (F.ref02.over_l1 k text_ j) ((sAt text_ at__1) != 13)
                else
                  F.ref02.over_j5 at__1 (F.ref02.over_l1 k text_ j) false
              else
                F.ref02.over_j5 at__1 (F.ref02.over_l1 k text_ j) false
            else
              F.ref02.over_j5 at__1 (F.ref02.over_l1 k text_ j) false
        else none
      else
        some (.done at__1)
def F.ref02.over (k : Nat) (text_ : List UInt8) (at__ : Int) : Option Int :=
  (F.ref02.over_l1 k text_ k at__).bind fun o1 =>
  o1.fin fun d1 =>
  some d1

-- 35 tracery/traceryref02.class
def F.ref02.class__j1 : Option Int :=
    some 0
def F.ref02.class__j3 : Option Int :=
    F.ref02.class__j1
def F.ref02.class__j5 (t17 : Bool) : Option Int :=
    if t17 then
      some 3
    else
      F.ref02.class__j3
def F.ref02.class__j4 (c : Int) (t10 : Bool) : Option Int :=
    if t10 then
      some 2
    else
      if decide (48 ≤ c) then
        F.ref02.class__j5 (decide (c ≤ 57))
      else
        F.ref02.class__j5 false
def F.ref02.class__j2 (c : Int) (t3 : Bool) : Option Int :=
    if t3 then
      some 1
    else
      if decide (97 ≤ c) then
        F.ref02.class__j4 c (decide (c ≤ 122))
      else
        F.ref02.class__j4 c false
def F.ref02.class_ (c : Int) : Option Int :=
  if decide (65 ≤ c) then
    F.ref02.class__j2 c (decide (c ≤ 90))
  else
    F.ref02.class__j2 c false

-- 36 tracery/traceryref02.Far
def F.ref02.Far_j2 (rec_1 : Int → Option Int) (at__1 : Int) (t15 : Bool) : Option Int :=
    if t15 then
      rec_1 (IntKind.wrap .i64 (at__1 + 1))
    else
      some at__1
def F.ref02.Far_l1 (s : List UInt8) : Nat → Int → Option Int
  | 0, _ => none
  | j + 1, at__1 =>
      if decide (at__1 < (s.length : Int)) then
        if inR at__1 s.length then
          (F.ref02.class_ (sAt s at__1)).bind fun v =>
          F.ref02.Far_j2 (F.ref02.Far_l1 s j) at__1 (decide (0 < v))
        else none
      else
        F.ref02.Far_j2 (F.ref02.Far_l1 s j) at__1 false
def F.ref02.Far (k : Nat) (s : List UInt8) (at__ : Int) : Option Int :=
  (F.ref02.Far_l1 s k at__).bind fun o1 =>
  some o1

-- 49 tracery/traceryref02.number
def F.ref02.number_j2 (end_ : Int) (at__ : Int) (text_ : List UInt8) (rec_1 : Int → Int → Option (LR (Int × Int) (Int × Int × Int))) (n : Int) (t20 : Bool) : Option (LR (Int × Int) (Int × Int × Int)) :=
    if t20 then
      if decide (6 < (IntKind.wrap .i64 ((IntKind.wrap .i64 (end_ + 1)) - at__))) then
        some (.ret (0, 0, 21))
      else
        if inR (IntKind.wrap .i64 ((IntKind.wrap .i64 (end_ + 1)) - 1)) text_.length then
          rec_1 (IntKind.wrap .i64 (end_ + 1)) (IntKind.wrap .i64 ((IntKind.wrap .i64 ((IntKind.wrap .i64 (10 * n)) + (IntKind.wrap .i64 (sAt text_ (IntKind.wrap .i64 ((IntKind.wrap .i64 (end_ + 1)) - 1)))))) - 48))
        else none
    else
      some (.done (end_, n))
def F.ref02.number_l1 (text_ : List UInt8) (at__ : Int) : Nat → Int → Int → Option (LR (Int × Int) (Int × Int × Int))
  | 0, _, _ => none
  | j + 1, end_, n =>
      if decide (end_ < (text_.length : Int)) then
        if inR end_ text_.length then
          (F.ref02.class_ (sAt text_ end_)).bind fun v =>
          F.ref02.number_j2 end_ at__ text_ (F.ref02.number_l1 text_ at__ j) n (v == 3)
        else none
      else
        F.ref02.number_j2 end_ at__ text_ (F.ref02.number_l1 text_ at__ j) n false
def F.ref02.number_j3 (d1 : Int × Int) (t45 : Bool) : Option (Int × Int × Int) :=
    if t45 then
      some (0, 0, 21)
    else
      some (d1.2, d1.1, 0)
def F.ref02.number (k : Nat) (text_ : List UInt8) (at__ : Int) : Option (Int × Int × Int) :=
  (F.ref02.number_l1 text_ at__ k at__ 0).bind fun o1 =>
  o1.fin fun d1 =>
  if inR at__ text_.length then
    if ((sAt text_ at__) == 48) then
      F.ref02.number_j3 d1 (decide (1 < (IntKind.wrap .i64 (d1.1 - at__))))
    else
      F.ref02.number_j3 d1 false
  else none

-- 44 tracery/traceryref02.letter
def F.ref02.letter (c : Int) : Option Int :=
  if (c == 34) then
    some c
  else
    if (c == 92) then
      some c
    else
      if (c == 10) then
        some 110
      else
        if (c == 9) then
          some 116
        else
          if (c == 13) then
            some 114
          else
            some 0

-- 58 tracery/traceryref01.Digit
def F.ref01.Digit_j2 (rec_1 : Int → Option (LR Unit Int)) (i : Int) : Option (LR Unit Int) :=
    rec_1 (IntKind.wrap .i64 (i + 1))
def F.ref01.Digit_l1 (c : Int) : Nat → Int → Option (LR Unit Int)
  | 0, _ => none
  | j + 1, i =>
      if decide (i < 16) then
        if inR i ([48, 49, 50, 51, 52, 53, 54, 55, 56, 57, 97, 98, 99, 100, 101, 102] : List UInt8).length then
          if ((sAt ([48, 49, 50, 51, 52, 53, 54, 55, 56, 57, 97, 98, 99, 100, 101, 102] : List UInt8) i) == c) then
            some (.ret i)
          else
            if decide (9 < i) then
              if ((IntKind.wrap .u8 ((sAt ([48, 49, 50, 51, 52, 53, 54, 55, 56, 57, 97, 98, 99, 100, 101, 102] : List UInt8) i) - 32)) == c) then
                some (.ret i)
              else
                F.ref01.Digit_j2 (F.ref01.Digit_l1 c j) i
            else
              F.ref01.Digit_j2 (F.ref01.Digit_l1 c j) i
        else none
      else
        some (.done ())
def F.ref01.Digit (k : Nat) (c : Int) : Option Int :=
  (F.ref01.Digit_l1 c k 0).bind fun o1 =>
  o1.fin fun d1 =>
  some 16

-- 43 tracery/traceryref02.Said
def F.ref02.Said_j3 (rec_1 : List Int → Int → Option (LR ((List Int) × Int) (List Int × Int × Fault))) (out_1 : List Int) (i1 : Int) : Option (LR ((List Int) × Int) (List Int × Int × Fault)) :=
    rec_1 out_1 i1
def F.ref02.Said_j7 (rec_2 : Int → Int → Int → Option (Int × Int × Int)) (k_ : Int) (n1 : Int) (b2 : Int) : Option (Int × Int × Int) :=
    rec_2 n1 b2 (IntKind.wrap .i64 (k_ + 1))
def F.ref02.Said_j9 (rec_2 : Int → Int → Int → Option (Int × Int × Int)) (k_ : Int) (n2 : Int) (b3 : Int) : Option (Int × Int × Int) :=
    F.ref02.Said_j7 rec_2 k_ n2 b3
def F.ref02.Said_j8 (rec_2 : Int → Int → Int → Option (Int × Int × Int)) (k_ : Int) (n : Int) (b1 : Int) (t70 : Bool) : Option (Int × Int × Int) :=
    if t70 then
      F.ref02.Said_j9 rec_2 k_ 2 (IntKind.wrap .u8 k_)
    else
      F.ref02.Said_j9 rec_2 k_ n b1
def F.ref02.Said_j6 (i : Int) (text_ : List UInt8) (k_ : Int) (rec_2 : Int → Int → Int → Option (Int × Int × Int)) (n : Int) (b1 : Int) (t54 : Bool) : Option (Int × Int × Int) :=
    if t54 then
      if inR (IntKind.wrap .i64 (i + 1)) text_.length then
        (F.ref02.letter (IntKind.wrap .u8 k_)).bind fun v =>
        if (v == (sAt text_ (IntKind.wrap .i64 (i + 1)))) then
          F.ref02.Said_j8 rec_2 k_ n b1 (v != 0)
        else
          F.ref02.Said_j8 rec_2 k_ n b1 false
      else none
    else
      some (n, b1, k_)
def F.ref02.Said_l5 (i : Int) (text_ : List UInt8) : Nat → Int → Int → Int → Option (Int × Int × Int)
  | 0, _, _, _ => none
  | j + 1, n, b1, k_ =>
      if decide (k_ < 256) then
        F.ref02.Said_j6 i text_ k_ (F.ref02.Said_l5 i text_ j) n b1 (decide ((IntKind.wrap .i64 (i + 1)) < (text_.length : Int)))
      else
        F.ref02.Said_j6 i text_ k_ (F.ref02.Said_l5 i text_ j) n b1 false
def F.ref02.Said_j11 (i : Int) (out_ : List Int) (rec_1 : List Int → Int → Option (LR ((List Int) × Int) (List Int × Int × Fault))) (n3 : Int) (b4 : Int) : Option (LR ((List Int) × Int) (List Int × Int × Fault)) :=
    if (n3 == 0) then
      some (.ret (([] : List Int), 0, (Fault.mk i 12)))
    else
      if decide ((out_.length + ([b4] : List Int).length) * 1 ≤ 140737488355328) then
        if decide (out_.length + ([b4] : List Int).length ≤ 9223372036854775807) then
          F.ref02.Said_j3 rec_1 (out_ ++ ([b4] : List Int)) (IntKind.wrap .i64 (i + n3))
        else none
      else none
def F.ref02.Said_j13 (i : Int) (out_ : List Int) (rec_1 : List Int → Int → Option (LR ((List Int) × Int) (List Int × Int × Fault))) (n4 : Int) (b5 : Int) : Option (LR ((List Int) × Int) (List Int × Int × Fault)) :=
    F.ref02.Said_j11 i out_ rec_1 n4 b5
def F.ref02.Said_j12 (i : Int) (out_ : List Int) (rec_1 : List Int → Int → Option (LR ((List Int) × Int) (List Int × Int × Fault))) (v1 : Int) (v2 : Int) (o5 : Int × Int × Int) (t100 : Bool) : Option (LR ((List Int) × Int) (List Int × Int × Fault)) :=
    if t100 then
      F.ref02.Said_j13 i out_ rec_1 4 (IntKind.wrap .u8 (IntKind.wrap .i64 ((IntKind.wrap .i64 (16 * v1)) + v2)))
    else
      F.ref02.Said_j13 i out_ rec_1 o5.1 o5.2.1
def F.ref02.Said_j10 (k : Nat) (i : Int) (text_ : List UInt8) (out_ : List Int) (rec_1 : List Int → Int → Option (LR ((List Int) × Int) (List Int × Int × Fault))) (o5 : Int × Int × Int) (t84 : Bool) : Option (LR ((List Int) × Int) (List Int × Int × Fault)) :=
    if t84 then
      if inR (IntKind.wrap .i64 (i + 2)) text_.length then
        if inR (IntKind.wrap .i64 (i + 3)) text_.length then
          (F.ref01.Digit k (sAt text_ (IntKind.wrap .i64 (i + 2)))).bind fun v1 =>
          (F.ref01.Digit k (sAt text_ (IntKind.wrap .i64 (i + 3)))).bind fun v2 =>
          if decide (v1 < 16) then
            F.ref02.Said_j12 i out_ rec_1 v1 v2 o5 (decide (v2 < 16))
          else
            F.ref02.Said_j12 i out_ rec_1 v1 v2 o5 false
        else none
      else none
    else
      F.ref02.Said_j11 i out_ rec_1 o5.1 o5.2.1
def F.ref02.Said_j4 (k : Nat) (i : Int) (text_ : List UInt8) (out_ : List Int) (rec_1 : List Int → Int → Option (LR ((List Int) × Int) (List Int × Int × Fault))) (t35 : Bool) : Option (LR ((List Int) × Int) (List Int × Int × Fault)) :=
    if t35 then
      some (.ret (([] : List Int), 0, (Fault.mk i 11)))
    else
      if ((sAt text_ i) != 92) then
        if decide ((out_.length + ([sAt text_ i] : List Int).length) * 1 ≤ 140737488355328) then
          if decide (out_.length + ([sAt text_ i] : List Int).length ≤ 9223372036854775807) then
            F.ref02.Said_j3 rec_1 (out_ ++ ([sAt text_ i] : List Int)) (IntKind.wrap .i64 (i + 1))
          else none
        else none
      else
        (F.ref02.Said_l5 i text_ k 0 0 0).bind fun o5 =>
        if decide ((IntKind.wrap .i64 (i + 3)) < (text_.length : Int)) then
          if inR (IntKind.wrap .i64 (i + 1)) text_.length then
            F.ref02.Said_j10 k i text_ out_ rec_1 o5 ((sAt text_ (IntKind.wrap .i64 (i + 1))) == 120)
          else none
        else
          F.ref02.Said_j10 k i text_ out_ rec_1 o5 false
def F.ref02.Said_j2 (k : Nat) (i : Int) (text_ : List UInt8) (out_ : List Int) (rec_1 : List Int → Int → Option (LR ((List Int) × Int) (List Int × Int × Fault))) (t26 : Bool) : Option (LR ((List Int) × Int) (List Int × Int × Fault)) :=
    if t26 then
      if inR i text_.length then
        if decide ((sAt text_ i) < 32) then
          F.ref02.Said_j4 k i text_ out_ rec_1 true
        else
          F.ref02.Said_j4 k i text_ out_ rec_1 (decide (126 < (sAt text_ i)))
      else none
    else
      some (.done (out_, i))
def F.ref02.Said_l1 (k : Nat) (text_ : List UInt8) : Nat → List Int → Int → Option (LR ((List Int) × Int) (List Int × Int × Fault))
  | 0, _, _ => none
  | j + 1, out_, i =>
      if decide (i < (text_.length : Int)) then
        if inR i text_.length then
          F.ref02.Said_j2 k i text_ out_ (F.ref02.Said_l1 k text_ j) ((sAt text_ i) != 34)
        else none
      else
        F.ref02.Said_j2 k i text_ out_ (F.ref02.Said_l1 k text_ j) false
def F.ref02.Said (k : Nat) (text_ : List UInt8) (at__ : Int) : Option (List Int × Int × Fault) :=
  (F.ref02.Said_l1 k text_ k ([] : List Int) (IntKind.wrap .i64 (at__ + 1))).bind fun o1 =>
  o1.fin fun d1 =>
  if decide ((text_.length : Int) ≤ d1.2) then
    some (([] : List Int), 0, (Fault.mk at__ 13))
  else
    some (d1.1, IntKind.wrap .i64 (d1.2 + 1), (Fault.mk 0 0))

-- 50 tracery/traceryref02.closed
def F.ref02.closed_j2 (rec_1 : Int → Option (LR Unit Int)) (i1 : Int) : Option (LR Unit Int) :=
    rec_1 i1
def F.ref02.closed_j3 (rec_1 : Int → Option (LR Unit Int)) (i2 : Int) : Option (LR Unit Int) :=
    F.ref02.closed_j2 rec_1 (IntKind.wrap .i64 (i2 + 1))
def F.ref02.closed_l1 (text_ : List UInt8) : Nat → Int → Option (LR Unit Int)
  | 0, _ => none
  | j + 1, i =>
      if decide (i < (text_.length : Int)) then
        if inR i text_.length then
          if ((sAt text_ i) == 93) then
            some (.ret (IntKind.wrap .i64 (i + 1)))
          else
            if ((sAt text_ i) == 92) then
              F.ref02.closed_j3 (F.ref02.closed_l1 text_ j) (IntKind.wrap .i64 (i + 1))
            else
              F.ref02.closed_j3 (F.ref02.closed_l1 text_ j) i
        else none
      else
        some (.done ())
def F.ref02.closed (k : Nat) (text_ : List UInt8) (at__ : Int) : Option Int :=
  (F.ref02.closed_l1 text_ k (IntKind.wrap .i64 (at__ + 1))).bind fun o1 =>
  o1.fin fun d1 =>
  some 0

-- 71 tracery/traceryref01.special
def F.ref01.special_j1 (n : Int) (t12 : Bool) : Option Int :=
    if t12 then
      some (IntKind.wrap .u8 n)
    else
      some 0
def F.ref01.special_j2 (n : Int) (t121 : Bool) : Option Int :=
    F.ref01.special_j1 n t121
def F.ref01.special (n : Int) : Option Int :=
  if (n == 10) then
    some 110
  else
    if (n == 9) then
      some 116
    else
      if (n == 13) then
        some 114
      else
        if (n == 32) then
          some 115
        else
          if (n == 91) then
            F.ref01.special_j1 n (n == 91)
          else
            if (n == 93) then
              F.ref01.special_j1 n (n == 93)
            else
              if (n == 92) then
                F.ref01.special_j2 n (n == 92)
              else
                if (n == 45) then
                  F.ref01.special_j2 n (n == 45)
                else
                  F.ref01.special_j2 n (n == 94)

-- 61 tracery/traceryref01.one
def F.ref01.one_j5 (rec_1 : Int → Option (LR Unit (Int × Int × Int))) (n : Int) : Option (LR Unit (Int × Int × Int)) :=
    rec_1 (IntKind.wrap .i64 (n + 1))
def F.ref01.one_j6 (n : Int) (rec_1 : Int → Option (LR Unit (Int × Int × Int))) (t88 : Bool) : Option (LR Unit (Int × Int × Int)) :=
    if t88 then
      some (.ret (n, 2, 0))
    else
      F.ref01.one_j5 rec_1 n
def F.ref01.one_j4 (at__ : Int) (text_ : List UInt8) (n : Int) (rec_1 : Int → Option (LR Unit (Int × Int × Int))) (t74 : Bool) : Option (LR Unit (Int × Int × Int)) :=
    if t74 then
      if inR (IntKind.wrap .i64 (at__ + 1)) text_.length then
        (F.ref01.special n).bind fun v1 =>
        if (v1 == (sAt text_ (IntKind.wrap .i64 (at__ + 1)))) then
          F.ref01.one_j6 n rec_1 (v1 != 0)
        else
          F.ref01.one_j6 n rec_1 false
      else none
    else
      some (.done ())
def F.ref01.one_l3 (at__ : Int) (text_ : List UInt8) : Nat → Int → Option (LR Unit (Int × Int × Int))
  | 0, _ => none
  | j + 1, n =>
      if decide (n < 256) then
        F.ref01.one_j4 at__ text_ n (F.ref01.one_l3 at__ text_ j) (decide ((IntKind.wrap .i64 (at__ + 1)) < (text_.length : Int)))
      else
        F.ref01.one_j4 at__ text_ n (F.ref01.one_l3 at__ text_ j) false
def F.ref01.one_j2 (k : Nat) (at__ : Int) (text_ : List UInt8) : Option (Int × Int × Int) :=
    (F.ref01.one_l3 at__ text_ k 0).bind fun o3 =>
    o3.fin fun d3 =>
    some (0, 0, 12)
def F.ref01.one_j7 (k : Nat) (v2 : Int) (v3 : Int) (at__ : Int) (text_ : List UInt8) (t61 : Bool) : Option (Int × Int × Int) :=
    if t61 then
      some (IntKind.wrap .i64 ((IntKind.wrap .i64 (16 * v2)) + v3), 4, 0)
    else
      F.ref01.one_j2 k at__ text_
def F.ref01.one_j1 (k : Nat) (at__ : Int) (text_ : List UInt8) (t45 : Bool) : Option (Int × Int × Int) :=
    if t45 then
      if inR (IntKind.wrap .i64 (at__ + 2)) text_.length then
        if inR (IntKind.wrap .i64 (at__ + 3)) text_.length then
          (F.ref01.Digit k (sAt text_ (IntKind.wrap .i64 (at__ + 2)))).bind fun v2 =>
          (F.ref01.Digit k (sAt text_ (IntKind.wrap .i64 (at__ + 3)))).bind fun v3 =>
          if decide (v2 < 16) then
            F.ref01.one_j7 k v2 v3 at__ text_ (decide (v3 < 16))
          else
            F.ref01.one_j7 k v2 v3 at__ text_ false
        else none
      else none
    else
      F.ref01.one_j2 k at__ text_
def F.ref01.one (k : Nat) (text_ : List UInt8) (at__ : Int) : Option (Int × Int × Int) :=
  if decide ((text_.length : Int) ≤ at__) then
    some (0, 0, 14)
  else
    if inR at__ text_.length then
      if ((sAt text_ at__) != 92) then
        if decide ((sAt text_ at__) ≤ 32) then
          some (0, 0, 11)
        else
          if decide (127 ≤ (sAt text_ at__)) then
            some (0, 0, 11)
          else
            (F.ref01.special (IntKind.wrap .i64 (sAt text_ at__))).bind fun v =>
            if (v != 0) then
              some (0, 0, 11)
            else
              some (IntKind.wrap .i64 (sAt text_ at__), 1, 0)
      else
        if decide ((IntKind.wrap .i64 (at__ + 3)) < (text_.length : Int)) then
          if inR (IntKind.wrap .i64 (at__ + 1)) text_.length then
            F.ref01.one_j1 k at__ text_ ((sAt text_ (IntKind.wrap .i64 (at__ + 1))) == 120)
          else none
        else
          F.ref01.one_j1 k at__ text_ false
    else none

-- 72 tracery/traceryref01.Has
def F.ref01.Has_l2 (n : Int) : Nat → Int → Int → Option Int
  | 0, _, _ => none
  | j + 1, w_1, i =>
      if decide (i < (grem n 64)) then
        (F.ref01.Has_l2 n j) (gquo .u64 w_1 2) (IntKind.wrap .i64 (i + 1))
      else
        some w_1
def F.ref01.Has_j1 (k : Nat) (n : Int) (w_ : Int) : Option Bool :=
    (F.ref01.Has_l2 n k w_ 0).bind fun o2 =>
    some ((grem o2 2) == 1)
def F.ref01.Has_j3 (k : Nat) (n : Int) (w_2 : Int) : Option Bool :=
    F.ref01.Has_j1 k n w_2
def F.ref01.Has (k : Nat) (s : S4) (n : Int) : Option Bool :=
  if decide (n < 0) then
    some false
  else
    if decide (255 < n) then
      some false
    else
      if ((gquo .i64 n 64) == 1) then
        F.ref01.Has_j1 k n s.w1
      else
        if ((gquo .i64 n 64) == 2) then
          F.ref01.Has_j3 k n s.w2
        else
          if ((gquo .i64 n 64) == 3) then
            F.ref01.Has_j3 k n s.w3
          else
            F.ref01.Has_j3 k n s.w0

-- 62 tracery/traceryref01.With
def F.ref01.With_l1 (n : Int) : Nat → Int → Int → Option Int
  | 0, _, _ => none
  | j + 1, one, i =>
      if decide (i < (grem n 64)) then
        (F.ref01.With_l1 n j) (IntKind.wrap .u64 (one * 2)) (IntKind.wrap .i64 (i + 1))
      else
        some one
def F.ref01.With_j2 (s1 : S4) : Option S4 :=
    some s1
def F.ref01.With_j3 (s2 : S4) : Option S4 :=
    F.ref01.With_j2 s2
def F.ref01.With (k : Nat) (s : S4) (n : Int) : Option S4 :=
  if decide (n < 0) then
    some s
  else
    if decide (255 < n) then
      some s
    else
      (F.ref01.Has k s n).bind fun v =>
      if v then
        some s
      else
        (F.ref01.With_l1 n k 1 0).bind fun o1 =>
        if ((gquo .i64 n 64) == 0) then
          F.ref01.With_j2 (S4.mk (IntKind.wrap .u64 (s.w0 + o1)) s.w1 s.w2 s.w3)
        else
          if ((gquo .i64 n 64) == 1) then
            F.ref01.With_j3 (S4.mk s.w0 (IntKind.wrap .u64 (s.w1 + o1)) s.w2 s.w3)
          else
            if ((gquo .i64 n 64) == 2) then
              F.ref01.With_j3 (S4.mk s.w0 s.w1 (IntKind.wrap .u64 (s.w2 + o1)) s.w3)
            else
              F.ref01.With_j3 (S4.mk s.w0 s.w1 s.w2 (IntKind.wrap .u64 (s.w3 + o1)))

-- 63 tracery/traceryref01.Op
def F.ref01.Op_j2 (rec_1 : Int → S4 → Option S4) (i : Int) (x_ : Bool) (y_ : Bool) (s1 : S4) : Option S4 :=
    rec_1 (IntKind.wrap .i64 (i + 1)) s1
def F.ref01.Op_j4 (rec_1 : Int → S4 → Option S4) (i : Int) (v : Bool) (v1 : Bool) (s2 : S4) : Option S4 :=
    F.ref01.Op_j2 rec_1 i v v1 s2
def F.ref01.Op_j3 (k : Nat) (s : S4) (i : Int) (rec_1 : Int → S4 → Option S4) (v : Bool) (v1 : Bool) (t57 : Bool) : Option S4 :=
    if t57 then
      (F.ref01.With k s i).bind fun v2 =>
      F.ref01.Op_j4 rec_1 i v v1 v2
    else
      F.ref01.Op_j4 rec_1 i v v1 s
def F.ref01.Op_l1 (k : Nat) (a_ : S4) (b : S4) (kind : Int) : Nat → Int → S4 → Option S4
  | 0, _, _ => none
  | j + 1, i, s =>
      if decide (i < 256) then
        (F.ref01.Has k a_ i).bind fun v =>
        (F.ref01.Has k b i).bind fun v1 =>
        if (kind == 0) then
          if v then
            F.ref01.Op_j3 k s i (F.ref01.Op_l1 k a_ b kind j) v v1 true
          else
            if v1 then
              F.ref01.Op_j3 k s i (F.ref01.Op_l1 k a_ b kind j) v v1 true
            else
              if (kind == 1) then
                if (kind == 2) then
                  if (kind == 3) then
                    F.ref01.Op_j3 k s i (F.ref01.Op_l1 k a_ b kind j) v v1 (!v)
                  else
                    F.ref01.Op_j3 k s i (F.ref01.Op_l1 k a_ b kind j) v v1 false
                else
                  if (kind == 3) then
                    F.ref01.Op_j3 k s i (F.ref01.Op_l1 k a_ b kind j) v v1 (!v)
                  else
                    F.ref01.Op_j3 k s i (F.ref01.Op_l1 k a_ b kind j) v v1 false
              else
                if (kind == 2) then
                  if (kind == 3) then
                    F.ref01.Op_j3 k s i (F.ref01.Op_l1 k a_ b kind j) v v1 (!v)
                  else
                    F.ref01.Op_j3 k s i (F.ref01.Op_l1 k a_ b kind j) v v1 false
                else
                  if (kind == 3) then
                    F.ref01.Op_j3 k s i (F.ref01.Op_l1 k a_ b kind j) v v1 (!v)
                  else
                    F.ref01.Op_j3 k s i (F.ref01.Op_l1 k a_ b kind j) v v1 false
        else
          if (kind == 1) then
            if v then
              if v1 then
                F.ref01.Op_j3 k s i (F.ref01.Op_l1 k a_ b kind j) v v1 true
              else
                if (kind == 2) then
                  if !v1 then
                    F.ref01.Op_j3 k s i (F.ref01.Op_l1 k a_ b kind j) v v1 true
                  else
                    if (kind == 3) then
                      F.ref01.Op_j3 k s i (F.ref01.Op_l1 k a_ b kind j) v v1 (!v)
                    else
                      F.ref01.Op_j3 k s i (F.ref01.Op_l1 k a_ b kind j) v v1 false
                else
                  if (kind == 3) then
                    F.ref01.Op_j3 k s i (F.ref01.Op_l1 k a_ b kind j) v v1 (!v)
                  else
                    F.ref01.Op_j3 k s i (F.ref01.Op_l1 k a_ b kind j) v v1 false
            else
              if (kind == 2) then
                if (kind == 3) then
                  F.ref01.Op_j3 k s i (F.ref01.Op_l1 k a_ b kind j) v v1 (!v)
                else
                  F.ref01.Op_j3 k s i (F.ref01.Op_l1 k a_ b kind j) v v1 false
              else
                if (kind == 3) then
                  F.ref01.Op_j3 k s i (F.ref01.Op_l1 k a_ b kind j) v v1 (!v)
                else
                  F.ref01.Op_j3 k s i (F.ref01.Op_l1 k a_ b kind j) v v1 false
          else
            if (kind == 2) then
              if v then
                if !v1 then
                  F.ref01.Op_j3 k s i (F.ref01.Op_l1 k a_ b kind j) v v1 true
                else
                  if (kind == 3) then
                    F.ref01.Op_j3 k s i (F.ref01.Op_l1 k a_ b kind j) v v1 (!v)
                  else
                    F.ref01.Op_j3 k s i (F.ref01.Op_l1 k a_ b kind j) v v1 false
              else
                if (kind == 3) then
                  F.ref01.Op_j3 k s i (F.ref01.Op_l1 k a_ b kind j) v v1 (!v)
                else
                  F.ref01.Op_j3 k s i (F.ref01.Op_l1 k a_ b kind j) v v1 false
            else
              if (kind == 3) then
                F.ref01.Op_j3 k s i (F.ref01.Op_l1 k a_ b kind j) v v1 (!v)
              else
                F.ref01.Op_j3 k s i (F.ref01.Op_l1 k a_ b kind j) v v1 false
      else
        some s
def F.ref01.Op (k : Nat) (kind : Int) (a_ : S4) (b : S4) : Option S4 :=
  (F.ref01.Op_l1 k a_ b kind k 0 (S4.mk 0 0 0 0)).bind fun o1 =>
  some o1

-- 51 tracery/traceryref01.Parse
def F.ref01.Parse_j6 (rec_1 : Int → S4 → Option (LR (Int × S4) (S4 × Fault))) (at__2 : Int) (lo : Int) (n : Int) (e_ : Int) (hi : Int) (next_ : Int) (i : Int) (s1 : S4) : Option (LR (Int × S4) (S4 × Fault)) :=
    rec_1 at__2 s1
def F.ref01.Parse_l9 (k : Nat) (hi1 : Int) : Nat → Int → S4 → Option (Int × S4)
  | 0, _, _ => none
  | j + 1, i1, s2 =>
      if decide (i1 ≤ hi1) then
        (F.ref01.With k s2 i1).bind fun v1 =>
        (F.ref01.Parse_l9 k hi1 j) (IntKind.wrap .i64 (i1 + 1)) v1
      else
        some (i1, s2)
def F.ref01.Parse_j8 (k : Nat) (v : Int × Int × Int) (at__1 : Int) (s : S4) (rec_1 : Int → S4 → Option (LR (Int × S4) (S4 × Fault))) (hi1 : Int) (next_1 : Int) : Option (LR (Int × S4) (S4 × Fault)) :=
    if decide (hi1 < v.1) then
      some (.ret ((S4.mk 0 0 0 0), (Fault.mk at__1 10)))
    else
      (F.ref01.Parse_l9 k hi1 k v.1 s).bind fun o9 =>
      F.ref01.Parse_j6 rec_1 next_1 v.1 v.2.1 v.2.2 hi1 next_1 o9.1 o9.2
def F.ref01.Parse_j7 (k : Nat) (text_ : List UInt8) (at__1 : Int) (v : Int × Int × Int) (s : S4) (rec_1 : Int → S4 → Option (LR (Int × S4) (S4 × Fault))) (t77 : Bool) : Option (LR (Int × S4) (S4 × Fault)) :=
    if t77 then
      (F.ref01.one k text_ (IntKind.wrap .i64 ((IntKind.wrap .i64 (at__1 + v.2.1)) + 1))).bind fun v2 =>
      if (v2.2.2 != 0) then
        some (.ret ((S4.mk 0 0 0 0), (Fault.mk (IntKind.wrap .i64 ((IntKind.wrap .i64 (at__1 + v.2.1)) + 1)) v2.2.2)))
      else
        F.ref01.Parse_j8 k v at__1 s rec_1 v2.1 (IntKind.wrap .i64 ((IntKind.wrap .i64 ((IntKind.wrap .i64 (at__1 + v.2.1)) + 1)) + v2.2.1))
    else
      F.ref01.Parse_j8 k v at__1 s rec_1 v.1 (IntKind.wrap .i64 (at__1 + v.2.1))
def F.ref01.Parse_j5 (k : Nat) (text_ : List UInt8) (at__1 : Int) (s : S4) (rec_1 : Int → S4 → Option (LR (Int × S4) (S4 × Fault))) (t50 : Bool) : Option (LR (Int × S4) (S4 × Fault)) :=
    if t50 then
      (F.ref01.one k text_ at__1).bind fun v =>
      if (v.2.2 != 0) then
        some (.ret ((S4.mk 0 0 0 0), (Fault.mk at__1 v.2.2)))
      else
        if decide ((IntKind.wrap .i64 (at__1 + v.2.1)) < (text_.length : Int)) then
          if inR (IntKind.wrap .i64 (at__1 + v.2.1)) text_.length then
            F.ref01.Parse_j7 k text_ at__1 v s rec_1 ((sAt text_ (IntKind.wrap .i64 (at__1 + v.2.1))) == 45)
          else none
        else
          F.ref01.Parse_j7 k text_ at__1 v s rec_1 false
    else
      some (.done (at__1, s))
def F.ref01.Parse_l4 (k : Nat) (text_ : List UInt8) : Nat → Int → S4 → Option (LR (Int × S4) (S4 × Fault))
  | 0, _, _ => none
  | j + 1, at__1, s =>
      if decide ((text_.length : Int) ≤ at__1) then
        F.ref01.Parse_j5 k text_ at__1 s (F.ref01.Parse_l4 k text_ j) true
      else
        if inR at__1 text_.length then
          F.ref01.Parse_j5 k text_ at__1 s (F.ref01.Parse_l4 k text_ j) ((sAt text_ at__1) != 93)
        else none
def F.ref01.Parse_j3 (k : Nat) (text_ : List UInt8) (turned : Bool) (at__ : Int) : Option (S4 × Fault) :=
    (F.ref01.Parse_l4 k text_ k at__ (S4.mk 0 0 0 0)).bind fun o4 =>
    o4.fin fun d4 =>
    if decide ((IntKind.wrap .i64 (d4.1 + 1)) < (text_.length : Int)) then
      some ((S4.mk 0 0 0 0), (Fault.mk (IntKind.wrap .i64 (d4.1 + 1)) 15))
    else
      if turned then
        (F.ref01.Op k 3 d4.2 d4.2).bind fun v3 =>
        some (v3, (Fault.mk 0 0))
      else
        some (d4.2, (Fault.mk 0 0))
def F.ref01.Parse_j2 (k : Nat) (text_ : List UInt8) (turned : Bool) : Option (S4 × Fault) :=
    if turned then
      F.ref01.Parse_j3 k text_ turned 2
    else
      F.ref01.Parse_j3 k text_ turned 1
def F.ref01.Parse_j1 (k : Nat) (text_ : List UInt8) (t29 : Bool) : Option (S4 × Fault) :=
    if t29 then
      some ((S4.mk 0 0 0 0), (Fault.mk 0 13))
    else
      if decide (1 < (text_.length : Int)) then
        if inR 1 text_.length then
          F.ref01.Parse_j2 k text_ ((sAt text_ 1) == 94)
        else none
      else
        F.ref01.Parse_j2 k text_ false
def F.ref01.Parse (k : Nat) (text_ : List UInt8) : Option (S4 × Fault) :=
  if decide (65536 < (text_.length : Int)) then
    some ((S4.mk 0 0 0 0), (Fault.mk 0 2))
  else
    if ((text_.length : Int) == 0) then
      F.ref01.Parse_j1 k text_ true
    else
      if inR 0 text_.length then
        F.ref01.Parse_j1 k text_ ((sAt text_ 0) != 91)
      else none

-- 30 tracery/traceryref02.word
def F.ref02.word_j2 (v5 : S4 × Fault) (v4 : Int) (At_ : Int) : Option (Word × Int × Fault) :=
    some ((Word.mk 5 ([] : List UInt8) ([] : List Int) v5.1 0 0 0 0), v4, (Fault.mk At_ v5.2.Code))
def F.ref02.word_l3 (text_ : List UInt8) (at__ : Int) : Nat → Int → Option (LR Unit (Word × Int × Fault))
  | 0, _ => none
  | j + 1, i =>
      if decide (i < (([61, 124, 46, 59, 62, 63, 42, 43, 123, 125, 40, 41, 95, 47, 44, 45] : List UInt8).length : Int)) then
        if inR i ([61, 124, 46, 59, 62, 63, 42, 43, 123, 125, 40, 41, 95, 47, 44, 45] : List UInt8).length then
          if ((sAt ([61, 124, 46, 59, 62, 63, 42, 43, 123, 125, 40, 41, 95, 47, 44, 45] : List UInt8) i) == (sAt text_ at__)) then
            some (.ret ((Word.mk 6 ([] : List UInt8) ([] : List Int) (S4.mk 0 0 0 0) 0 0 0 0), IntKind.wrap .i64 (at__ + 1), (Fault.mk 0 0)))
          else
            (F.ref02.word_l3 text_ at__ j) (IntKind.wrap .i64 (i + 1))
        else none
      else
        some (.done ())
def F.ref02.word_j1 (k : Nat) (text_ : List UInt8) (at__ : Int) (v : Int) (t28 : Bool) : Option (Word × Int × Fault) :=
    if t28 then
      (F.ref02.Far k text_ at__).bind fun v1 =>
      if decide (32 < (IntKind.wrap .i64 (v1 - at__))) then
        some ((Word.mk 0 ([] : List UInt8) ([] : List Int) (S4.mk 0 0 0 0) 0 0 0 0), 0, (Fault.mk at__ 20))
      else
        some ((Word.mk v ([] : List UInt8) ([] : List Int) (S4.mk 0 0 0 0) 0 0 0 0), v1, (Fault.mk 0 0))
    else
      if (v == 3) then
        (F.ref02.number k text_ at__).bind fun v2 =>
        if (v2.2.2 != 0) then
          some ((Word.mk 0 ([] : List UInt8) ([] : List Int) (S4.mk 0 0 0 0) 0 0 0 0), 0, (Fault.mk at__ v2.2.2))
        else
          some ((Word.mk 3 ([] : List UInt8) ([] : List Int) (S4.mk 0 0 0 0) v2.1 0 0 0), v2.2.1, (Fault.mk 0 0))
      else
        if ((sAt text_ at__) == 34) then
          (F.ref02.Said k text_ at__).bind fun v3 =>
          some ((Word.mk 4 ([] : List UInt8) v3.1 (S4.mk 0 0 0 0) 0 0 0 0), v3.2.1, v3.2.2)
        else
          if ((sAt text_ at__) == 91) then
            (F.ref02.closed k text_ at__).bind fun v4 =>
            if (v4 == 0) then
              some ((Word.mk 0 ([] : List UInt8) ([] : List Int) (S4.mk 0 0 0 0) 0 0 0 0), 0, (Fault.mk at__ 13))
            else
              if okSub at__ v4 text_.length then
                (F.ref01.Parse k (sub text_ at__ v4)).bind fun v5 =>
                if (v5.2.Code != 0) then
                  F.ref02.word_j2 v5 v4 (IntKind.wrap .i64 (v5.2.At + at__))
                else
                  F.ref02.word_j2 v5 v4 v5.2.At
              else none
          else
            (F.ref02.word_l3 text_ at__ k 0).bind fun o3 =>
            o3.fin fun d3 =>
            some ((Word.mk 0 ([] : List UInt8) ([] : List Int) (S4.mk 0 0 0 0) 0 0 0 0), 0, (Fault.mk at__ 11))
def F.ref02.word (k : Nat) (text_ : List UInt8) (at__ : Int) : Option (Word × Int × Fault) :=
  if inR at__ text_.length then
    (F.ref02.class_ (sAt text_ at__)).bind fun v =>
    if (v == 1) then
      F.ref02.word_j1 k text_ at__ v true
    else
      F.ref02.word_j1 k text_ at__ v (v == 2)
  else none

-- 13 tracery/traceryref02.Scan
def F.ref02.Scan_j3 (rec_2 : Int → Int → Int → Option (Int × Int × Int)) (from_1 : Int) (line_2 : Int) (top_2 : Int) : Option (Int × Int × Int) :=
    rec_2 line_2 top_2 (IntKind.wrap .i64 (from_1 + 1))
def F.ref02.Scan_j4 (rec_2 : Int → Int → Int → Option (Int × Int × Int)) (from_1 : Int) (line_3 : Int) (top_3 : Int) : Option (Int × Int × Int) :=
    F.ref02.Scan_j3 rec_2 from_1 line_3 top_3
def F.ref02.Scan_l2 (at__ : Int) (text_ : List UInt8) : Nat → Int → Int → Int → Option (Int × Int × Int)
  | 0, _, _, _ => none
  | j + 1, line_1, top_1, from_1 =>
      if decide (from_1 < at__) then
        if inR from_1 text_.length then
          if ((sAt text_ from_1) == 10) then
            F.ref02.Scan_j4 (F.ref02.Scan_l2 at__ text_ j) from_1 (IntKind.wrap .i64 (line_1 + 1)) (IntKind.wrap .i64 (from_1 + 1))
          else
            F.ref02.Scan_j4 (F.ref02.Scan_l2 at__ text_ j) from_1 line_1 top_1
        else none
      else
        some (line_1, top_1, from_1)
def F.ref02.Scan_l1 (k : Nat) (text_ : List UInt8) : Nat → List Word → Int → Int → Int → Int → Option (LR Unit (List Word × Fault))
  | 0, _, _, _, _, _ => none
  | j + 1, out_, line_, top_, from_, at__ =>
      (F.ref02.Scan_l2 at__ text_ k line_ top_ from_).bind fun o2 =>
      if decide ((text_.length : Int) ≤ at__) then
        if decide ((out_.length + ([(Word.mk 7 ([] : List UInt8) ([] : List Int) (S4.mk 0 0 0 0) 0 at__ o2.1 (IntKind.wrap .i64 ((IntKind.wrap .i64 (at__ - o2.2.1)) + 1)))] : List Word).length) * 112 ≤ 140737488355328) then
          if decide (out_.length + ([(Word.mk 7 ([] : List UInt8) ([] : List Int) (S4.mk 0 0 0 0) 0 at__ o2.1 (IntKind.wrap .i64 ((IntKind.wrap .i64 (at__ - o2.2.1)) + 1)))] : List Word).length ≤ 9223372036854775807) then
            some (.ret ((out_ ++ ([(Word.mk 7 ([] : List UInt8) ([] : List Int) (S4.mk 0 0 0 0) 0 at__ o2.1 (IntKind.wrap .i64 ((IntKind.wrap .i64 (at__ - o2.2.1)) + 1)))] : List Word)), (Fault.mk 0 0)))
          else none
        else none
      else
        (F.ref02.word k text_ at__).bind fun v1 =>
        if (v1.2.2.Code != 0) then
          some (.ret (([] : List Word), v1.2.2))
        else
          if okSub at__ v1.2.1 text_.length then
            if decide ((out_.length + ([(Word.mk v1.1.Kind (sub text_ at__ v1.2.1) v1.1.Bytes v1.1.Set v1.1.N_ at__ o2.1 (IntKind.wrap .i64 ((IntKind.wrap .i64 (at__ - o2.2.1)) + 1)))] : List Word).length) * 112 ≤ 140737488355328) then
              if decide (out_.length + ([(Word.mk v1.1.Kind (sub text_ at__ v1.2.1) v1.1.Bytes v1.1.Set v1.1.N_ at__ o2.1 (IntKind.wrap .i64 ((IntKind.wrap .i64 (at__ - o2.2.1)) + 1)))] : List Word).length ≤ 9223372036854775807) then
                (F.ref02.over k text_ v1.2.1).bind fun v2 =>
                (F.ref02.Scan_l1 k text_ j) (out_ ++ ([(Word.mk v1.1.Kind (sub text_ at__ v1.2.1) v1.1.Bytes v1.1.Set v1.1.N_ at__ o2.1 (IntKind.wrap .i64 ((IntKind.wrap .i64 (at__ - o2.2.1)) + 1)))] : List Word)) o2.1 o2.2.1 o2.2.2 v2
              else none
            else none
          else none
def F.ref02.Scan (k : Nat) (text_ : List UInt8) : Option (List Word × Fault) :=
  if decide (65536 < (text_.length : Int)) then
    some (([] : List Word), (Fault.mk 0 2))
  else
    (F.ref02.over k text_ 0).bind fun v =>
    (F.ref02.Scan_l1 k text_ k ([] : List Word) 1 0 0 v).bind fun o1 =>
    o1.fin fun d1 =>
    none

-- 14 tracery/traceryref02.SameWords
def F.ref02.SameWords_j2 (rec_1 : Int → Option (LR Unit Bool)) (i : Int) : Option (LR Unit Bool) :=
    rec_1 (IntKind.wrap .i64 (i + 1))
def F.ref02.SameWords_j5 (rec_1 : Int → Option (LR Unit Bool)) (i : Int) (t85 : Bool) : Option (LR Unit Bool) :=
    if t85 then
      some (.ret false)
    else
      F.ref02.SameWords_j2 rec_1 i
def F.ref02.SameWords_j4 (places : Bool) (a_ : List Word) (i : Int) (b : List Word) (rec_1 : Int → Option (LR Unit Bool)) (t63 : Bool) : Option (LR Unit Bool) :=
    if t63 then
      some (.ret false)
    else
      if places then
        if (((at_ a_ i).At) != ((at_ b i).At)) then
          F.ref02.SameWords_j5 rec_1 i true
        else
          if (((at_ a_ i).Line) != ((at_ b i).Line)) then
            F.ref02.SameWords_j5 rec_1 i true
          else
            F.ref02.SameWords_j5 rec_1 i (((at_ a_ i).Col) != ((at_ b i).Col))
      else
        F.ref02.SameWords_j5 rec_1 i false
def F.ref02.SameWords_j3 (a_ : List Word) (i : Int) (b : List Word) (places : Bool) (rec_1 : Int → Option (LR Unit Bool)) : Option (LR Unit Bool) :=
    if (((at_ a_ i).Kind) != ((at_ b i).Kind)) then
      F.ref02.SameWords_j4 places a_ i b rec_1 true
    else
      if !(((at_ a_ i).Text) == ((at_ b i).Text)) then
        F.ref02.SameWords_j4 places a_ i b rec_1 true
      else
        if !((toS ((at_ a_ i).Bytes)) == (toS ((at_ b i).Bytes))) then
          F.ref02.SameWords_j4 places a_ i b rec_1 true
        else
          if !(S4.eq (S4.mk ((at_ a_ i).Set.w0) ((at_ a_ i).Set.w1) ((at_ a_ i).Set.w2) ((at_ a_ i).Set.w3)) (S4.mk ((at_ b i).Set.w0) ((at_ b i).Set.w1) ((at_ b i).Set.w2) ((at_ b i).Set.w3))) then
            F.ref02.SameWords_j4 places a_ i b rec_1 true
          else
            F.ref02.SameWords_j4 places a_ i b rec_1 (((at_ a_ i).N_) != ((at_ b i).N_))
def F.ref02.SameWords_l1 (a_ : List Word) (b : List Word) (places : Bool) : Nat → Int → Option (LR Unit Bool)
  | 0, _ => none
  | j + 1, i =>
      if decide (i < (a_.length : Int)) then
        if inR i a_.length then
          if inR i b.length then
            F.ref02.SameWords_j3 a_ i b places (F.ref02.SameWords_l1 a_ b places j)
          else none
        else none
      else
        some (.done ())
def F.ref02.SameWords (k : Nat) (a_ : List Word) (b : List Word) (places : Bool) : Option Bool :=
  if ((a_.length : Int) != (b.length : Int)) then
    some false
  else
    (F.ref02.SameWords_l1 a_ b places k 0).bind fun o1 =>
    o1.fin fun d1 =>
    some true

-- 16 tracery/traceryref02.Place
def F.ref02.Place_j2 (rec_1 : Int → Int → Int → Option (Int × Int)) (i : Int) (line_1 : Int) (col1 : Int) : Option (Int × Int) :=
    rec_1 line_1 col1 (IntKind.wrap .i64 (i + 1))
def F.ref02.Place_j3 (rec_1 : Int → Int → Int → Option (Int × Int)) (i : Int) (line_2 : Int) (col2 : Int) : Option (Int × Int) :=
    F.ref02.Place_j2 rec_1 i line_2 col2
def F.ref02.Place_l1 (at__ : Int) (text_ : List UInt8) : Nat → Int → Int → Int → Option (Int × Int)
  | 0, _, _, _ => none
  | j + 1, line_, col, i =>
      if decide (i < at__) then
        if inR i text_.length then
          if ((sAt text_ i) == 10) then
            F.ref02.Place_j3 (F.ref02.Place_l1 at__ text_ j) i (IntKind.wrap .i64 (line_ + 1)) 1
          else
            F.ref02.Place_j3 (F.ref02.Place_l1 at__ text_ j) i line_ (IntKind.wrap .i64 (col + 1))
        else none
      else
        some (line_, col)
def F.ref02.Place (k : Nat) (text_ : List UInt8) (at__ : Int) : Option (Int × Int) :=
  if decide (at__ < 0) then
    some (0, 0)
  else
    if decide ((text_.length : Int) < at__) then
      some (0, 0)
    else
      (F.ref02.Place_l1 at__ text_ k 1 1 0).bind fun o1 =>
      some (o1.1, o1.2)

-- 18 tracery/traceryref02.IsName
def F.ref02.IsName_j1 (t2 : Bool) : Option Bool :=
    some t2
def F.ref02.IsName (k : Nat) (s : List UInt8) : Option Bool :=
  if decide (0 < (s.length : Int)) then
    if decide ((s.length : Int) ≤ 32) then
      if inR 0 s.length then
        (F.ref02.class_ (sAt s 0)).bind fun v =>
        if (v == 1) then
          (F.ref02.Far k s 0).bind fun v1 =>
          F.ref02.IsName_j1 (v1 == (s.length : Int))
        else
          F.ref02.IsName_j1 false
      else none
    else
      F.ref02.IsName_j1 false
  else
    F.ref02.IsName_j1 false

-- 20 tracery/traceryref02.IsKey
def F.ref02.IsKey_j1 (t2 : Bool) : Option Bool :=
    some t2
def F.ref02.IsKey (k : Nat) (s : List UInt8) : Option Bool :=
  if decide (0 < (s.length : Int)) then
    if decide ((s.length : Int) ≤ 32) then
      if inR 0 s.length then
        (F.ref02.class_ (sAt s 0)).bind fun v =>
        if (v == 2) then
          (F.ref02.Far k s 0).bind fun v1 =>
          F.ref02.IsKey_j1 (v1 == (s.length : Int))
        else
          F.ref02.IsKey_j1 false
      else none
    else
      F.ref02.IsKey_j1 false
  else
    F.ref02.IsKey_j1 false

-- 23 tracery/traceryref02.Unquote
def F.ref02.Unquote_j1 (k : Nat) (text_ : List UInt8) (t18 : Bool) : Option (List Int × Fault) :=
    if t18 then
      some (([] : List Int), (Fault.mk 0 13))
    else
      (F.ref02.Said k text_ 0).bind fun v =>
      if (v.2.2.Code != 0) then
        some (([] : List Int), v.2.2)
      else
        if decide (v.2.1 < (text_.length : Int)) then
          some (([] : List Int), (Fault.mk v.2.1 15))
        else
          some (v.1, v.2.2)
def F.ref02.Unquote (k : Nat) (text_ : List UInt8) : Option (List Int × Fault) :=
  if decide (65536 < (text_.length : Int)) then
    some (([] : List Int), (Fault.mk 0 2))
  else
    if ((text_.length : Int) == 0) then
      F.ref02.Unquote_j1 k text_ true
    else
      if inR 0 text_.length then
        F.ref02.Unquote_j1 k text_ ((sAt text_ 0) != 34)
      else none

-- 25 tracery/traceryref02.Quote
def F.ref02.Quote_j2 (rec_1 : List Int → Int → Option (List Int)) (i : Int) (out_1 : List Int) (k_ : Int) : Option (List Int) :=
    rec_1 out_1 (IntKind.wrap .i64 (i + 1))
def F.ref02.Quote_j3 (rec_1 : List Int → Int → Option (List Int)) (i : Int) (v : Int) (out_2 : List Int) : Option (List Int) :=
    F.ref02.Quote_j2 rec_1 i out_2 v
def F.ref02.Quote_j5 (rec_1 : List Int → Int → Option (List Int)) (i : Int) (v : Int) (out_3 : List Int) : Option (List Int) :=
    F.ref02.Quote_j3 rec_1 i v out_3
def F.ref02.Quote_j4 (out_ : List Int) (b : List Int) (i : Int) (rec_1 : List Int → Int → Option (List Int)) (v : Int) (t33 : Bool) : Option (List Int) :=
    if t33 then
      if decide ((out_.length + ([at_ b i] : List Int).length) * 1 ≤ 140737488355328) then
        if decide (out_.length + ([at_ b i] : List Int).length ≤ 9223372036854775807) then
          F.ref02.Quote_j5 rec_1 i v (out_ ++ ([at_ b i] : List Int))
        else none
      else none
    else
      if inR (gquo .i64 (IntKind.wrap .i64 (at_ b i)) 16) ([48, 49, 50, 51, 52, 53, 54, 55, 56, 57, 97, 98, 99, 100, 101, 102] : List UInt8).length then
        if inR (grem (IntKind.wrap .i64 (at_ b i)) 16) ([48, 49, 50, 51, 52, 53, 54, 55, 56, 57, 97, 98, 99, 100, 101, 102] : List UInt8).length then
          if decide ((out_.length + ([92, 120, sAt ([48, 49, 50, 51, 52, 53, 54, 55, 56, 57, 97, 98, 99, 100, 101, 102] : List UInt8) (gquo .i64 (IntKind.wrap .i64 (at_ b i)) 16), sAt ([48, 49, 50, 51, 52, 53, 54, 55, 56, 57, 97, 98, 99, 100, 101, 102] : List UInt8) (grem (IntKind.wrap .i64 (at_ b i)) 16)] : List Int).length) * 1 ≤ 140737488355328) then
            if decide (out_.length + ([92, 120, sAt ([48, 49, 50, 51, 52, 53, 54, 55, 56, 57, 97, 98, 99, 100, 101, 102] : List UInt8) (gquo .i64 (IntKind.wrap .i64 (at_ b i)) 16), sAt ([48, 49, 50, 51, 52, 53, 54, 55, 56, 57, 97, 98, 99, 100, 101, 102] : List UInt8) (grem (IntKind.wrap .i64 (at_ b i)) 16)] : List Int).length ≤ 9223372036854775807) then
              F.ref02.Quote_j5 rec_1 i v (out_ ++ ([92, 120, sAt ([48, 49, 50, 51, 52, 53, 54, 55, 56, 57, 97, 98, 99, 100, 101, 102] : List UInt8) (gquo .i64 (IntKind.wrap .i64 (at_ b i)) 16), sAt ([48, 49, 50, 51, 52, 53, 54, 55, 56, 57, 97, 98, 99, 100, 101, 102] : List UInt8) (grem (IntKind.wrap .i64 (at_ b i)) 16)] : List Int))
            else none
          else none
        else none
      else none
def F.ref02.Quote_l1 (b : List Int) : Nat → List Int → Int → Option (List Int)
  | 0, _, _ => none
  | j + 1, out_, i =>
      if decide (i < (b.length : Int)) then
        if inR i b.length then
          (F.ref02.letter (at_ b i)).bind fun v =>
          if (v != 0) then
            if decide ((out_.length + ([92, v] : List Int).length) * 1 ≤ 140737488355328) then
              if decide (out_.length + ([92, v] : List Int).length ≤ 9223372036854775807) then
                F.ref02.Quote_j3 (F.ref02.Quote_l1 b j) i v (out_ ++ ([92, v] : List Int))
              else none
            else none
          else
            if decide (32 ≤ (at_ b i)) then
              F.ref02.Quote_j4 out_ b i (F.ref02.Quote_l1 b j) v (decide ((at_ b i) ≤ 126))
            else
              F.ref02.Quote_j4 out_ b i (F.ref02.Quote_l1 b j) v false
        else none
      else
        some out_
def F.ref02.Quote (k : Nat) (b : List Int) : Option (List UInt8) :=
  if decide ((([] : List Int).length + ([34] : List Int).length) * 1 ≤ 140737488355328) then
    if decide (([] : List Int).length + ([34] : List Int).length ≤ 9223372036854775807) then
      (F.ref02.Quote_l1 b k (([] : List Int) ++ ([34] : List Int)) 0).bind fun o1 =>
      if decide ((o1.length + ([34] : List Int).length) * 1 ≤ 140737488355328) then
        if decide (o1.length + ([34] : List Int).length ≤ 9223372036854775807) then
          some (toS (o1 ++ ([34] : List Int)))
        else none
      else none
    else none
  else none

-- 22 tracery/words.Unquote
def F.words.Unquote_j2 (v : List Int × Int × Fault) (t33 : Bool) : Option (List Int × Fault) :=
    if t33 then
      some (([] : List Int), (Fault.mk v.2.1 15))
    else
      some (v.1, v.2.2)
def F.words.Unquote_j1 (k : Nat) (text_ : List UInt8) (t17 : Bool) : Option (List Int × Fault) :=
    if t17 then
      some (([] : List Int), (Fault.mk 0 13))
    else
      (F.words.quoted k text_ 0).bind fun v =>
      if (v.2.2.Code == 0) then
        F.words.Unquote_j2 v (decide (v.2.1 < (text_.length : Int)))
      else
        F.words.Unquote_j2 v false
def F.words.Unquote (k : Nat) (text_ : List UInt8) : Option (List Int × Fault) :=
  if decide (65536 < (text_.length : Int)) then
    some (([] : List Int), (Fault.mk 0 2))
  else
    if (text_ == ([] : List UInt8)) then
      F.words.Unquote_j1 k text_ true
    else
      if inR 0 text_.length then
        F.words.Unquote_j1 k text_ ((sAt text_ 0) != 34)
      else none

-- 17 tracery/words.IsName
def F.words.IsName_j1 (t2 : Bool) : Option Bool :=
    some t2
def F.words.IsName (k : Nat) (s : List UInt8) : Option Bool :=
  if !(s == ([] : List UInt8)) then
    if decide ((s.length : Int) ≤ 32) then
      if inR 0 s.length then
        (F.words.great (IntKind.wrap .i32 (sAt s 0))).bind fun v =>
        if v then
          (F.words.run k s).bind fun v1 =>
          F.words.IsName_j1 (v1 == (s.length : Int))
        else
          F.words.IsName_j1 false
      else none
    else
      F.words.IsName_j1 false
  else
    F.words.IsName_j1 false

-- 19 tracery/words.IsKey
def F.words.IsKey_j1 (t2 : Bool) : Option Bool :=
    some t2
def F.words.IsKey (k : Nat) (s : List UInt8) : Option Bool :=
  if !(s == ([] : List UInt8)) then
    if decide ((s.length : Int) ≤ 32) then
      if inR 0 s.length then
        (F.words.small (IntKind.wrap .i32 (sAt s 0))).bind fun v =>
        if v then
          (F.words.run k s).bind fun v1 =>
          F.words.IsKey_j1 (v1 == (s.length : Int))
        else
          F.words.IsKey_j1 false
      else none
    else
      F.words.IsKey_j1 false
  else
    F.words.IsKey_j1 false

-- 39 (*strings.Builder).WriteByte
def F.strings.Builder_WriteByte (b : Strings_Builder) (c : Int) : Option Strings_Builder :=
  (F.strings.copyCheck b).bind fun v =>
  if decide ((v.buf.length + ([c] : List Int).length) * 1 ≤ 140737488355328) then
    if decide (v.buf.length + ([c] : List Int).length ≤ 9223372036854775807) then
      some (Strings_Builder.mk v.addr (v.buf ++ ([c] : List Int)))
    else none
  else none

-- 40 (*strings.Builder).WriteString
def F.strings.Builder_WriteString (b : Strings_Builder) (s : List UInt8) : Option (Int × Strings_Builder) :=
  (F.strings.copyCheck b).bind fun v =>
  if decide ((v.buf.length + s.length) * 1 ≤ 140737488355328) then
    if decide (v.buf.length + s.length ≤ 9223372036854775807) then
      some ((s.length : Int), (Strings_Builder.mk v.addr (v.buf ++ ofS s)))
    else none
  else none

-- 24 tracery/words.Quote
def F.words.Quote_j2 (rec_1 : Int → Bool → List Int → Option (Bool × (List Int))) (t9 : Int) (addr_1 : Bool) (buf_1 : List Int) : Option (Bool × (List Int)) :=
    rec_1 (IntKind.wrap .i64 (t9 + 1)) addr_1 buf_1
def F.words.Quote_j3 (rec_1 : Int → Bool → List Int → Option (Bool × (List Int))) (t9 : Int) (addr_2 : Bool) (buf_2 : List Int) : Option (Bool × (List Int)) :=
    F.words.Quote_j2 rec_1 t9 addr_2 buf_2
def F.words.Quote_j5 (rec_1 : Int → Bool → List Int → Option (Bool × (List Int))) (t9 : Int) (addr_3 : Bool) (buf_3 : List Int) : Option (Bool × (List Int)) :=
    F.words.Quote_j3 rec_1 t9 addr_3 buf_3
def F.words.Quote_j6 (rec_1 : Int → Bool → List Int → Option (Bool × (List Int))) (t9 : Int) (addr_4 : Bool) (buf_4 : List Int) : Option (Bool × (List Int)) :=
    F.words.Quote_j5 rec_1 t9 addr_4 buf_4
def F.words.Quote_j7 (rec_1 : Int → Bool → List Int → Option (Bool × (List Int))) (t9 : Int) (addr_5 : Bool) (buf_5 : List Int) : Option (Bool × (List Int)) :=
    F.words.Quote_j6 rec_1 t9 addr_5 buf_5
def F.words.Quote_j8 (rec_1 : Int → Bool → List Int → Option (Bool × (List Int))) (t9 : Int) (addr_6 : Bool) (buf_6 : List Int) : Option (Bool × (List Int)) :=
    F.words.Quote_j7 rec_1 t9 addr_6 buf_6
def F.words.Quote_j10 (rec_1 : Int → Bool → List Int → Option (Bool × (List Int))) (t9 : Int) (addr_7 : Bool) (buf_7 : List Int) : Option (Bool × (List Int)) :=
    F.words.Quote_j8 rec_1 t9 addr_7 buf_7
def F.words.Quote_j9 (addr_ : Bool) (buf_ : List Int) (b : List Int) (t9 : Int) (rec_1 : Int → Bool → List Int → Option (Bool × (List Int))) (t37 : Bool) : Option (Bool × (List Int)) :=
    if t37 then
      (F.strings.Builder_WriteString (Strings_Builder.mk addr_ buf_) ([92, 120] : List UInt8)).bind fun v6 =>
      if inR (gquo .u8 (at_ b t9) 16) ([48, 49, 50, 51, 52, 53, 54, 55, 56, 57, 97, 98, 99, 100, 101, 102] : List UInt8).length then
        (F.strings.Builder_WriteByte v6.2 (sAt ([48, 49, 50, 51, 52, 53, 54, 55, 56, 57, 97, 98, 99, 100, 101, 102] : List UInt8) (gquo .u8 (at_ b t9) 16))).bind fun v7 =>
        if inR (grem (at_ b t9) 16) ([48, 49, 50, 51, 52, 53, 54, 55, 56, 57, 97, 98, 99, 100, 101, 102] : List UInt8).length then
          (F.strings.Builder_WriteByte v7 (sAt ([48, 49, 50, 51, 52, 53, 54, 55, 56, 57, 97, 98, 99, 100, 101, 102] : List UInt8) (grem (at_ b t9) 16))).bind fun v8 =>
          F.words.Quote_j10 rec_1 t9 v8.addr v8.buf
        else none
      else none
    else
      (F.strings.Builder_WriteByte (Strings_Builder.mk addr_ buf_) (at_ b t9)).bind fun v9 =>
      F.words.Quote_j10 rec_1 t9 v9.addr v9.buf
def F.words.Quote_j4 (addr_ : Bool) (buf_ : List Int) (b : List Int) (t9 : Int) (rec_1 : Int → Bool → List Int → Option (Bool × (List Int))) (t15 : Bool) : Option (Bool × (List Int)) :=
    if t15 then
      (F.strings.Builder_WriteByte (Strings_Builder.mk addr_ buf_) 92).bind fun v1 =>
      (F.strings.Builder_WriteByte v1 (at_ b t9)).bind fun v2 =>
      F.words.Quote_j5 rec_1 t9 v2.addr v2.buf
    else
      if ((at_ b t9) == 10) then
        (F.strings.Builder_WriteString (Strings_Builder.mk addr_ buf_) ([92, 110] : List UInt8)).bind fun v3 =>
        F.words.Quote_j6 rec_1 t9 v3.2.addr v3.2.buf
      else
        if ((at_ b t9) == 9) then
          (F.strings.Builder_WriteString (Strings_Builder.mk addr_ buf_) ([92, 116] : List UInt8)).bind fun v4 =>
          F.words.Quote_j7 rec_1 t9 v4.2.addr v4.2.buf
        else
          if ((at_ b t9) == 13) then
            (F.strings.Builder_WriteString (Strings_Builder.mk addr_ buf_) ([92, 114] : List UInt8)).bind fun v5 =>
            F.words.Quote_j8 rec_1 t9 v5.2.addr v5.2.buf
          else
            if decide ((at_ b t9) < 32) then
              F.words.Quote_j9 addr_ buf_ b t9 rec_1 true
            else
              F.words.Quote_j9 addr_ buf_ b t9 rec_1 (decide (126 < (at_ b t9)))
def F.words.Quote_l1 (b : List Int) : Nat → Int → Bool → List Int → Option (Bool × (List Int))
  | 0, _, _, _ => none
  | j + 1, t9, addr_, buf_ =>
      if decide (t9 < (b.length : Int)) then
        if inR t9 b.length then
          if ((at_ b t9) == 34) then
            F.words.Quote_j4 addr_ buf_ b t9 (F.words.Quote_l1 b j) true
          else
            F.words.Quote_j4 addr_ buf_ b t9 (F.words.Quote_l1 b j) ((at_ b t9) == 92)
        else none
      else
        some (addr_, buf_)
def F.words.Quote (k : Nat) (b : List Int) : Option (List UInt8) :=
  (F.strings.Builder_WriteByte (Strings_Builder.mk false ([] : List Int)) 34).bind fun v =>
  (F.words.Quote_l1 b k 0 v.addr v.buf).bind fun o1 =>
  (F.strings.Builder_WriteByte (Strings_Builder.mk o1.1 o1.2) 34).bind fun v10 =>
  (F.strings.Builder_String v10).bind fun v11 =>
  some v11

-- 38 (*strings.Builder).Len
def F.strings.Builder_Len (b : Strings_Builder) : Option Int :=
  some (b.buf.length : Int)

-- 21 tracery/words.Join
def F.words.Join_j2 (rec_1 : Int → Bool → List Int → Option (Bool × (List Int))) (t8 : Int) (addr_1 : Bool) (buf_1 : List Int) : Option (Bool × (List Int)) :=
    rec_1 (IntKind.wrap .i64 (t8 + 1)) addr_1 buf_1
def F.words.Join_j3 (l_ : List Word) (t8 : Int) (rec_1 : Int → Bool → List Int → Option (Bool × (List Int))) (addr_2 : Bool) (buf_2 : List Int) : Option (Bool × (List Int)) :=
    (F.strings.Builder_WriteString (Strings_Builder.mk addr_2 buf_2) ((at_ l_ t8).Text)).bind fun v1 =>
    F.words.Join_j2 rec_1 t8 v1.2.addr v1.2.buf
def F.words.Join_l1 (l_ : List Word) : Nat → Int → Bool → List Int → Option (Bool × (List Int))
  | 0, _, _, _ => none
  | j + 1, t8, addr_, buf_ =>
      if decide (t8 < (l_.length : Int)) then
        if inR t8 l_.length then
          if (((at_ l_ t8).Kind) == 7) then
            F.words.Join_j2 (F.words.Join_l1 l_ j) t8 addr_ buf_
          else
            (F.strings.Builder_Len (Strings_Builder.mk addr_ buf_)).bind fun v =>
            if decide (0 < v) then
              (F.strings.Builder_WriteByte (Strings_Builder.mk addr_ buf_) 32).bind fun v2 =>
              F.words.Join_j3 l_ t8 (F.words.Join_l1 l_ j) v2.addr v2.buf
            else
              F.words.Join_j3 l_ t8 (F.words.Join_l1 l_ j) addr_ buf_
        else none
      else
        some (addr_, buf_)
def F.words.Join (k : Nat) (l_ : List Word) : Option (List UInt8) :=
  (F.words.Join_l1 l_ k 0 false ([] : List Int)).bind fun o1 =>
  (F.strings.Builder_String (Strings_Builder.mk o1.1 o1.2)).bind fun v3 =>
  some v3

-- 15 tracery/words.Place
def F.words.Place (text_ : List UInt8) (at__ : Int) : Option (Int × Int) :=
  if decide (at__ < 0) then
    some (0, 0)
  else
    if decide ((text_.length : Int) < at__) then
      some (0, 0)
    else
      if okSub 0 at__ text_.length then
        (F.strings.Count (sub text_ 0 at__) ([10] : List UInt8)).bind fun v =>
        (F.strings.LastIndexByte (sub text_ 0 at__) 10).bind fun v1 =>
        some (IntKind.wrap .i64 (v + 1), IntKind.wrap .i64 (at__ - v1))
      else none

-- 11 tracery/tracerylaw02.alive
def F.law02.alive_j1 (t0 : Bool) : Option Bool :=
    some t0
def F.law02.alive (k : Nat) : Option Bool :=
  (F.words.Scan k ([99, 102, 32, 69, 46, 65, 32, 61, 32, 69, 32, 34, 43, 34, 32, 69, 59, 32, 35, 32, 120] : List UInt8)).bind fun v =>
  (F.words.Unquote k ([34, 92, 120, 52, 65, 34] : List UInt8)).bind fun v1 =>
  (F.words.Place ([97, 10, 98, 99] : List UInt8) 3).bind fun v2 =>
  if ((v.2.At == 0) && ((v.2.Code == 0) && true)) then
    if ((v.1.length : Int) == 10) then
      if inR 9 v.1.length then
        if (((at_ v.1 9).Kind) == 7) then
          if ((v1.2.At == 0) && ((v1.2.Code == 0) && true)) then
            if ((toS v1.1) == ([74] : List UInt8)) then
              if (v2.1 == 2) then
                F.law02.alive_j1 (v2.2 == 2)
              else
                F.law02.alive_j1 false
            else
              F.law02.alive_j1 false
          else
            F.law02.alive_j1 false
        else
          F.law02.alive_j1 false
      else none
    else
      F.law02.alive_j1 false
  else
    F.law02.alive_j1 false

-- 4 tracery/tracerylaw02.WordsPlaces
def F.law02.WordsPlaces (k : Nat) (text_ : List UInt8) (at__ : Int) : Option Bool :=
  if decide (65536 < (text_.length : Int)) then
    (F.law02.alive k).bind fun v =>
    some v
  else
    (F.words.Place text_ at__).bind fun v1 =>
    (F.ref02.Place k text_ at__).bind fun v2 =>
    (F.law02.alive k).bind fun v3 =>
    if v3 then
      if (v1.1 == v2.1) then
        some (v1.2 == v2.2)
      else
        some false
    else
      some false

-- 5 tracery/tracerylaw02.WordsTwo
def F.law02.WordsTwo_j1 (k : Nat) (v1 : List Word × Fault) (a_ : List UInt8) (b : List UInt8) (v2 : List Word × Fault) (t36 : Bool) : Option Bool :=
    if t36 then
      (F.law02.alive k).bind fun v3 =>
      if v3 then
        some (v1.2.Code != 0)
      else
        some false
    else
      if decide (a_.length + ([10] : List UInt8).length ≤ 9223372036854775807) then
        if decide ((a_ ++ ([10] : List UInt8)).length + b.length ≤ 9223372036854775807) then
          (F.words.Scan k ((a_ ++ ([10] : List UInt8)) ++ b)).bind fun v4 =>
          if (v2.2.Code != 0) then
            (F.law02.alive k).bind fun v5 =>
            if v5 then
              if (v4.2.Code == v2.2.Code) then
                some (v4.2.At == (IntKind.wrap .i64 ((IntKind.wrap .i64 (v2.2.At + (a_.length : Int))) + 1)))
              else
                some false
            else
              some false
          else
            if okSub 0 (IntKind.wrap .i64 ((v1.1.length : Int) - 1)) v1.1.length then
              if decide ((([] : List Word).length + (sub v1.1 0 (IntKind.wrap .i64 ((v1.1.length : Int) - 1))).length) * 112 ≤ 140737488355328) then
                if decide (([] : List Word).length + (sub v1.1 0 (IntKind.wrap .i64 ((v1.1.length : Int) - 1))).length ≤ 9223372036854775807) then
                  if decide (((([] : List Word) ++ (sub v1.1 0 (IntKind.wrap .i64 ((v1.1.length : Int) - 1)))).length + v2.1.length) * 112 ≤ 140737488355328) then
                    if decide ((([] : List Word) ++ (sub v1.1 0 (IntKind.wrap .i64 ((v1.1.length : Int) - 1)))).length + v2.1.length ≤ 9223372036854775807) then
                      (F.law02.alive k).bind fun v6 =>
                      if v6 then
                        if ((v4.2.At == 0) && ((v4.2.Code == 0) && true)) then
                          (F.ref02.SameWords k v4.1 ((([] : List Word) ++ (sub v1.1 0 (IntKind.wrap .i64 ((v1.1.length : Int) - 1)))) ++ v2.1) false).bind fun v7 =>
                          some v7
                        else
                          some false
                      else
                        some false
                    else none
                  else none
                else none
              else none
            else none
        else none
      else none
def F.law02.WordsTwo (k : Nat) (a_ : List UInt8) (b : List UInt8) : Option Bool :=
  if decide (30000 < (IntKind.wrap .i64 ((a_.length : Int) + (b.length : Int)))) then
    (F.law02.alive k).bind fun v =>
    some v
  else
    (F.words.Scan k a_).bind fun v1 =>
    (F.words.Scan k b).bind fun v2 =>
    if (v1.2.Code != 0) then
      F.law02.WordsTwo_j1 k v1 a_ b v2 true
    else
      F.law02.WordsTwo_j1 k v1 a_ b v2 ((v1.1.length : Int) == 0)

-- 6 tracery/tracerylaw02.WordsStand
def F.law02.WordsStand_j3 (rec_1 : Int → Int → Option (LR Unit Bool)) (v1 : List Word × Fault) (i : Int) (t118 : Bool) : Option (LR Unit Bool) :=
    if t118 then
      some (.ret false)
    else
      rec_1 (IntKind.wrap .i64 (((at_ v1.1 i).At) + (((at_ v1.1 i).Text).length : Int))) (IntKind.wrap .i64 (i + 1))
def F.law02.WordsStand_j2 (text_ : List UInt8) (v1 : List Word × Fault) (i : Int) (rec_1 : Int → Int → Option (LR Unit Bool)) (t81 : Bool) : Option (LR Unit Bool) :=
    if t81 then
      some (.ret false)
    else
      (F.words.Place text_ ((at_ v1.1 i).At)).bind fun v3 =>
      if (v3.1 != ((at_ v1.1 i).Line)) then
        F.law02.WordsStand_j3 rec_1 v1 i true
      else
        if (v3.2 != ((at_ v1.1 i).Col)) then
          F.law02.WordsStand_j3 rec_1 v1 i true
        else
          if ((((at_ v1.1 i).Text) == ([] : List UInt8)) != (((at_ v1.1 i).Kind) == 7)) then
            F.law02.WordsStand_j3 rec_1 v1 i true
          else
            F.law02.WordsStand_j3 rec_1 v1 i ((((at_ v1.1 i).Kind) == 7) != (i == (IntKind.wrap .i64 ((v1.1.length : Int) - 1))))
def F.law02.WordsStand_l1 (v1 : List Word × Fault) (text_ : List UInt8) : Nat → Int → Int → Option (LR Unit Bool)
  | 0, _, _ => none
  | j + 1, end_, i =>
      if decide (i < (v1.1.length : Int)) then
        if inR i v1.1.length then
          if decide (((at_ v1.1 i).At) < end_) then
            F.law02.WordsStand_j2 text_ v1 i (F.law02.WordsStand_l1 v1 text_ j) true
          else
            if decide ((text_.length : Int) < ((at_ v1.1 i).At)) then
              F.law02.WordsStand_j2 text_ v1 i (F.law02.WordsStand_l1 v1 text_ j) true
            else
              if decide ((IntKind.wrap .i64 ((text_.length : Int) - ((at_ v1.1 i).At))) < (((at_ v1.1 i).Text).length : Int)) then
                F.law02.WordsStand_j2 text_ v1 i (F.law02.WordsStand_l1 v1 text_ j) true
              else
                if okSub ((at_ v1.1 i).At) (IntKind.wrap .i64 (((at_ v1.1 i).At) + (((at_ v1.1 i).Text).length : Int))) text_.length then
                  F.law02.WordsStand_j2 text_ v1 i (F.law02.WordsStand_l1 v1 text_ j) (!((sub text_ ((at_ v1.1 i).At) (IntKind.wrap .i64 (((at_ v1.1 i).At) + (((at_ v1.1 i).Text).length : Int)))) == ((at_ v1.1 i).Text)))
                else none
        else none
      else
        some (.done ())
def F.law02.WordsStand (k : Nat) (text_ : List UInt8) : Option Bool :=
  if decide (20000 < (text_.length : Int)) then
    (F.law02.alive k).bind fun v =>
    some v
  else
    (F.words.Scan k text_).bind fun v1 =>
    if (v1.2.Code != 0) then
      (F.law02.alive k).bind fun v2 =>
      if v2 then
        if decide (0 ≤ v1.2.At) then
          some (decide (v1.2.At ≤ (text_.length : Int)))
        else
          some false
      else
        some false
    else
      (F.law02.WordsStand_l1 v1 text_ k 0 0).bind fun o1 =>
      o1.fin fun d1 =>
      (F.law02.alive k).bind fun v4 =>
      if v4 then
        some (decide (0 < (v1.1.length : Int)))
      else
        some false

-- 7 tracery/tracerylaw02.WordsNames
def F.law02.WordsNames (k : Nat) (s : List UInt8) : Option Bool :=
  (F.law02.alive k).bind fun v =>
  if v then
    (F.words.IsName k s).bind fun v1 =>
    (F.ref02.IsName k s).bind fun v2 =>
    if (v1 == v2) then
      (F.words.IsKey k s).bind fun v3 =>
      (F.ref02.IsKey k s).bind fun v4 =>
      some (v3 == v4)
    else
      some false
  else
    some false

-- 8 tracery/tracerylaw02.WordsAgain
def F.law02.WordsAgain (k : Nat) (text_ : List UInt8) : Option Bool :=
  if decide (20000 < (text_.length : Int)) then
    (F.law02.alive k).bind fun v =>
    some v
  else
    (F.words.Scan k text_).bind fun v1 =>
    if (v1.2.Code != 0) then
      (F.law02.alive k).bind fun v2 =>
      if v2 then
        some ((v1.1.length : Int) == 0)
      else
        some false
    else
      (F.words.Join k v1.1).bind fun v3 =>
      (F.words.Scan k v3).bind fun v4 =>
      (F.law02.alive k).bind fun v5 =>
      if v5 then
        if ((v4.2.At == 0) && ((v4.2.Code == 0) && true)) then
          (F.ref02.SameWords k v1.1 v4.1 false).bind fun v6 =>
          some v6
        else
          some false
      else
        some false

-- 9 tracery/tracerylaw02.WordsQuotes
def F.law02.WordsQuotes_j1 (t4 : Bool) : Option Bool :=
    some t4
def F.law02.WordsQuotes (k : Nat) (b : List Int) (text_ : List UInt8) : Option Bool :=
  if decide (65536 < (b.length : Int)) then
    (F.law02.alive k).bind fun v =>
    some v
  else
    if decide (65538 < (text_.length : Int)) then
      (F.law02.alive k).bind fun v1 =>
      some v1
    else
      if decide ((([] : List Int).length + b.length) * 1 ≤ 140737488355328) then
        if decide (([] : List Int).length + b.length ≤ 9223372036854775807) then
          (F.words.Unquote k text_).bind fun v2 =>
          (F.ref02.Unquote k text_).bind fun v3 =>
          (F.law02.alive k).bind fun v4 =>
          if v4 then
            (F.words.Quote k (([] : List Int) ++ b)).bind fun v5 =>
            (F.ref02.Quote k b).bind fun v6 =>
            if (v5 == v6) then
              if ((toS (([] : List Int) ++ b)) == (toS b)) then
                if ((toS v2.1) == (toS v3.1)) then
                  F.law02.WordsQuotes_j1 ((v2.2.At == v3.2.At) && ((v2.2.Code == v3.2.Code) && true))
                else
                  F.law02.WordsQuotes_j1 false
              else
                F.law02.WordsQuotes_j1 false
            else
              F.law02.WordsQuotes_j1 false
          else
            F.law02.WordsQuotes_j1 false
        else none
      else none

-- 10 tracery/tracerylaw02.WordsBack
def F.law02.WordsBack_j1 (t4 : Bool) : Option Bool :=
    some t4
def F.law02.WordsBack (k : Nat) (a_ : List Int) (b : List Int) : Option Bool :=
  if decide (16000 < (a_.length : Int)) then
    (F.law02.alive k).bind fun v =>
    some v
  else
    if decide (16000 < (b.length : Int)) then
      (F.law02.alive k).bind fun v1 =>
      some v1
    else
      (F.words.Quote k a_).bind fun v2 =>
      (F.words.Unquote k v2).bind fun v3 =>
      (F.law02.alive k).bind fun v4 =>
      if v4 then
        if ((v3.2.At == 0) && ((v3.2.Code == 0) && true)) then
          if ((toS v3.1) == (toS a_)) then
            (F.words.Quote k b).bind fun v5 =>
            F.law02.WordsBack_j1 ((v2 == v5) == ((toS a_) == (toS b)))
          else
            F.law02.WordsBack_j1 false
        else
          F.law02.WordsBack_j1 false
      else
        F.law02.WordsBack_j1 false
end Go.Vc
