import Derived.Test.YtmcnanedpofeoaaVcK
namespace Go.Vc
open Go
structure Charset_reader where
  text : List UInt8
  at_ : Int
instance : Inhabited Charset_reader := ⟨⟨default, default⟩⟩
def eCharset_reader (x : Charset_reader) : List Dc := [.str x.text, .int .i64 x.at_]
structure Fault where
  At : Int
  Code : Int
instance : Inhabited Fault := ⟨⟨default, default⟩⟩
def eFault (x : Fault) : List Dc := [.int .i64 x.At, .int .i64 x.Code]
structure Run where
  Lo : Int
  Hi : Int
instance : Inhabited Run := ⟨⟨default, default⟩⟩
def eRun (x : Run) : List Dc := [.int .i64 x.Lo, .int .i64 x.Hi]

-- tracery/charset.Has
def F.charset.Has (s : S4) (b : Int) : Option Bool :=
  if inR (gquo .u8 b 64) 4 then
    if decide ((grem b 64) < 0) then none else
    some ((gand .u64 (gshr .u64 (S4.get s (gquo .u8 b 64)) (grem b 64)) 1) == 1)
  else none
/-- is the byte in the set? -/
def hasB (s : S4) (i : Int) : Bool := (F.charset.Has s i).getD false
def upTo (s : S4) (n : Nat) : List Int := ((List.range n).map Int.ofNat).filter (hasB s)
def allB (s : S4) : List Int := upTo s 256

-- tracery/charset.digit
def F.charset.digit_j1 : Option Int :=
    some (-1)
def F.charset.digit_j3 : Option Int :=
    F.charset.digit_j1
def F.charset.digit_j5 (c : Int) (t24 : Bool) : Option Int :=
    if t24 then
      some (IntKind.wrap .i64 ((IntKind.wrap .i64 (IntKind.wrap .u8 (c - 65))) + 10))
    else
      F.charset.digit_j3
def F.charset.digit_j4 (c : Int) (t13 : Bool) : Option Int :=
    if t13 then
      some (IntKind.wrap .i64 ((IntKind.wrap .i64 (IntKind.wrap .u8 (c - 97))) + 10))
    else
      if decide (65 ≤ c) then
        F.charset.digit_j5 c (decide (c ≤ 70))
      else
        F.charset.digit_j5 c false
def F.charset.digit_j2 (c : Int) (t3 : Bool) : Option Int :=
    if t3 then
      some (IntKind.wrap .i64 (IntKind.wrap .u8 (c - 48)))
    else
      if decide (97 ≤ c) then
        F.charset.digit_j4 c (decide (c ≤ 102))
      else
        F.charset.digit_j4 c false
def F.charset.digit (c : Int) : Option Int :=
  if decide (48 ≤ c) then
    F.charset.digit_j2 c (decide (c ≤ 57))
  else
    F.charset.digit_j2 c false

-- (*tracery/charset.reader).escaped
def F.charset.reader_escaped_j1 (r_ : Charset_reader) : Option (Int × Fault × Charset_reader) :=
    some (0, (Fault.mk r_.at_ 12), (Charset_reader.mk r_.text (IntKind.wrap .i64 (r_.at_ + 2))))
def F.charset.reader_escaped_j2 (r_ : Charset_reader) : Option (Int × Fault × Charset_reader) :=
    F.charset.reader_escaped_j1 r_
def F.charset.reader_escaped_j4 (r_ : Charset_reader) : Option (Int × Fault × Charset_reader) :=
    F.charset.reader_escaped_j2 r_
def F.charset.reader_escaped_j5 (r_ : Charset_reader) (t71 : Bool) : Option (Int × Fault × Charset_reader) :=
    if t71 then
      if inR 1 (sub r_.text (IntKind.wrap .i64 (r_.at_ + 1)) (r_.text.length : Int)).length then
        if inR 2 (sub r_.text (IntKind.wrap .i64 (r_.at_ + 1)) (r_.text.length : Int)).length then
          (F.charset.digit (sAt (sub r_.text (IntKind.wrap .i64 (r_.at_ + 1)) (r_.text.length : Int)) 1)).bind fun v =>
          (F.charset.digit (sAt (sub r_.text (IntKind.wrap .i64 (r_.at_ + 1)) (r_.text.length : Int)) 2)).bind fun v1 =>
          some (IntKind.wrap .i64 ((IntKind.wrap .i64 (16 * v)) + v1), (Fault.mk 0 0), (Charset_reader.mk r_.text (IntKind.wrap .i64 ((IntKind.wrap .i64 (r_.at_ + 2)) + 2))))
        else none
      else none
    else
      F.charset.reader_escaped_j4 r_
def F.charset.reader_escaped_j3 (r_ : Charset_reader) (t45 : Bool) : Option (Int × Fault × Charset_reader) :=
    if t45 then
      some (IntKind.wrap .i64 (sAt (sub r_.text (IntKind.wrap .i64 (r_.at_ + 1)) (r_.text.length : Int)) 0), (Fault.mk 0 0), (Charset_reader.mk r_.text (IntKind.wrap .i64 (r_.at_ + 2))))
    else
      if ((sAt (sub r_.text (IntKind.wrap .i64 (r_.at_ + 1)) (r_.text.length : Int)) 0) == 120) then
        if decide (3 ≤ ((sub r_.text (IntKind.wrap .i64 (r_.at_ + 1)) (r_.text.length : Int)).length : Int)) then
          if inR 1 (sub r_.text (IntKind.wrap .i64 (r_.at_ + 1)) (r_.text.length : Int)).length then
            (F.charset.digit (sAt (sub r_.text (IntKind.wrap .i64 (r_.at_ + 1)) (r_.text.length : Int)) 1)).bind fun v2 =>
            if decide (0 ≤ v2) then
              if inR 2 (sub r_.text (IntKind.wrap .i64 (r_.at_ + 1)) (r_.text.length : Int)).length then
                (F.charset.digit (sAt (sub r_.text (IntKind.wrap .i64 (r_.at_ + 1)) (r_.text.length : Int)) 2)).bind fun v3 =>
                F.charset.reader_escaped_j5 r_ (decide (0 ≤ v3))
              else none
            else
              F.charset.reader_escaped_j5 r_ false
          else none
        else
          F.charset.reader_escaped_j5 r_ false
      else
        F.charset.reader_escaped_j4 r_
def F.charset.reader_escaped_j6 (r_ : Charset_reader) (t451 : Bool) : Option (Int × Fault × Charset_reader) :=
    F.charset.reader_escaped_j3 r_ t451
def F.charset.reader_escaped (r_ : Charset_reader) : Option (Int × Fault × Charset_reader) :=
  if okSub (IntKind.wrap .i64 (r_.at_ + 1)) (r_.text.length : Int) r_.text.length then
    if ((sub r_.text (IntKind.wrap .i64 (r_.at_ + 1)) (r_.text.length : Int)) == ([] : List UInt8)) then
      some (0, (Fault.mk r_.at_ 12), r_)
    else
      if inR 0 (sub r_.text (IntKind.wrap .i64 (r_.at_ + 1)) (r_.text.length : Int)).length then
        if ((sAt (sub r_.text (IntKind.wrap .i64 (r_.at_ + 1)) (r_.text.length : Int)) 0) == 110) then
          some (10, (Fault.mk 0 0), (Charset_reader.mk r_.text (IntKind.wrap .i64 (r_.at_ + 2))))
        else
          if ((sAt (sub r_.text (IntKind.wrap .i64 (r_.at_ + 1)) (r_.text.length : Int)) 0) == 116) then
            some (9, (Fault.mk 0 0), (Charset_reader.mk r_.text (IntKind.wrap .i64 (r_.at_ + 2))))
          else
            if ((sAt (sub r_.text (IntKind.wrap .i64 (r_.at_ + 1)) (r_.text.length : Int)) 0) == 114) then
              some (13, (Fault.mk 0 0), (Charset_reader.mk r_.text (IntKind.wrap .i64 (r_.at_ + 2))))
            else
              if ((sAt (sub r_.text (IntKind.wrap .i64 (r_.at_ + 1)) (r_.text.length : Int)) 0) == 115) then
                some (32, (Fault.mk 0 0), (Charset_reader.mk r_.text (IntKind.wrap .i64 (r_.at_ + 2))))
              else
                if ((sAt (sub r_.text (IntKind.wrap .i64 (r_.at_ + 1)) (r_.text.length : Int)) 0) == 91) then
                  F.charset.reader_escaped_j3 r_ ((sAt (sub r_.text (IntKind.wrap .i64 (r_.at_ + 1)) (r_.text.length : Int)) 0) == 91)
                else
                  if ((sAt (sub r_.text (IntKind.wrap .i64 (r_.at_ + 1)) (r_.text.length : Int)) 0) == 93) then
                    F.charset.reader_escaped_j3 r_ ((sAt (sub r_.text (IntKind.wrap .i64 (r_.at_ + 1)) (r_.text.length : Int)) 0) == 93)
                  else
                    if ((sAt (sub r_.text (IntKind.wrap .i64 (r_.at_ + 1)) (r_.text.length : Int)) 0) == 92) then
                      F.charset.reader_escaped_j6 r_ ((sAt (sub r_.text (IntKind.wrap .i64 (r_.at_ + 1)) (r_.text.length : Int)) 0) == 92)
                    else
                      if ((sAt (sub r_.text (IntKind.wrap .i64 (r_.at_ + 1)) (r_.text.length : Int)) 0) == 45) then
                        F.charset.reader_escaped_j6 r_ ((sAt (sub r_.text (IntKind.wrap .i64 (r_.at_ + 1)) (r_.text.length : Int)) 0) == 45)
                      else
                        F.charset.reader_escaped_j6 r_ ((sAt (sub r_.text (IntKind.wrap .i64 (r_.at_ + 1)) (r_.text.length : Int)) 0) == 94)
      else none
  else none

-- (*tracery/charset.reader).char
def F.charset.reader_char_j1 (r_ : Charset_reader) (t57 : Bool) : Option (Int × Fault × Charset_reader) :=
    if t57 then
      some (0, (Fault.mk r_.at_ 11), r_)
    else
      some (IntKind.wrap .i64 (sAt r_.text r_.at_), (Fault.mk 0 0), (Charset_reader.mk r_.text (IntKind.wrap .i64 (r_.at_ + 1))))
def F.charset.reader_char (r_ : Charset_reader) : Option (Int × Fault × Charset_reader) :=
  if decide ((r_.text.length : Int) ≤ r_.at_) then
    some (0, (Fault.mk (r_.text.length : Int) 14), r_)
  else
    if inR r_.at_ r_.text.length then
      if ((sAt r_.text r_.at_) == 92) then
        (F.charset.reader_escaped r_).bind fun v =>
        some (v.1, v.2.1, v.2.2)
      else
        if decide ((sAt r_.text r_.at_) < 33) then
          F.charset.reader_char_j1 r_ true
        else
          if decide (126 < (sAt r_.text r_.at_)) then
            F.charset.reader_char_j1 r_ true
          else
            if ((sAt r_.text r_.at_) == 91) then
              F.charset.reader_char_j1 r_ true
            else
              if ((sAt r_.text r_.at_) == 93) then
                F.charset.reader_char_j1 r_ true
              else
                if ((sAt r_.text r_.at_) == 45) then
                  F.charset.reader_char_j1 r_ true
                else
                  F.charset.reader_char_j1 r_ ((sAt r_.text r_.at_) == 94)
    else none

-- tracery/charset.Range
def F.charset.Range_l1 (hi : Int) : Nat → Int → S4 → Option S4
  | 0, _, _ => none
  | j + 1, i, s =>
      if decide (i ≤ hi) then
        if inR (gquo .i64 i 64) 4 then
          if decide ((grem i 64) < 0) then none else
          (F.charset.Range_l1 hi j) (IntKind.wrap .i64 (i + 1)) (S4.set s (gquo .i64 i 64) (gor .u64 (S4.get s (gquo .i64 i 64)) (gshl .u64 1 (grem i 64))))
        else none
      else
        some s
def F.charset.Range (k : Nat) (lo : Int) (hi : Int) : Option (S4 × Int) :=
  if decide (lo < 0) then
    some ((S4.mk 0 0 0 0), 10)
  else
    if decide (255 < hi) then
      some ((S4.mk 0 0 0 0), 10)
    else
      if decide (hi < lo) then
        some ((S4.mk 0 0 0 0), 10)
      else
        (F.charset.Range_l1 hi k lo (S4.mk 0 0 0 0)).bind fun o1 =>
        some (o1, 0)

-- (*tracery/charset.reader).item
def F.charset.reader_item_j2 (k : Nat) (v : Int × Fault × Charset_reader) (begin : Int) (hi : Int) (text1 : List UInt8) (at_1 : Int) (At1 : Int) (Code1 : Int) : Option (S4 × Fault × Charset_reader) :=
    (F.charset.Range k v.1 hi).bind fun v1 =>
    if (v1.2 != 0) then
      some ((S4.mk 0 0 0 0), (Fault.mk begin v1.2), (Charset_reader.mk text1 at_1))
    else
      some (v1.1, (Fault.mk 0 0), (Charset_reader.mk text1 at_1))
def F.charset.reader_item_j1 (k : Nat) (v : Int × Fault × Charset_reader) (begin : Int) (t21 : Bool) (t46 : Bool) (At : Int) (Code : Int) (text : List UInt8) (at_ : Int) : Option (S4 × Fault × Charset_reader) :=
    if t46 then
      (F.charset.reader_char (Charset_reader.mk text (IntKind.wrap .i64 (at_ + 1)))).bind fun v2 =>
      if (v2.2.1.Code != 0) then
        some ((S4.mk 0 0 0 0), v2.2.1, v2.2.2)
      else
        F.charset.reader_item_j2 k v begin v2.1 v2.2.2.text v2.2.2.at_ v2.2.1.At v2.2.1.Code
    else
      F.charset.reader_item_j2 k v begin v.1 text at_ At Code
def F.charset.reader_item (k : Nat) (r_ : Charset_reader) : Option (S4 × Fault × Charset_reader) :=
  (F.charset.reader_char r_).bind fun v =>
  if (v.2.1.Code != 0) then
    some ((S4.mk 0 0 0 0), v.2.1, v.2.2)
  else
    if decide (v.2.2.at_ < (v.2.2.text.length : Int)) then
      if inR v.2.2.at_ v.2.2.text.length then
        F.charset.reader_item_j1 k v r_.at_ (v.2.1.Code != 0) ((sAt v.2.2.text v.2.2.at_) == 45) v.2.1.At v.2.1.Code v.2.2.text v.2.2.at_
      else none
    else
      F.charset.reader_item_j1 k v r_.at_ (v.2.1.Code != 0) false v.2.1.At v.2.1.Code v.2.2.text v.2.2.at_

-- tracery/charset.Union
def F.charset.Union_l1 (b : S4) : Nat → Int → S4 → Option S4
  | 0, _, _ => none
  | j + 1, t6, a_1 =>
      if decide (t6 < 4) then
        if inR t6 4 then
          (F.charset.Union_l1 b j) (IntKind.wrap .i64 (t6 + 1)) (S4.set a_1 t6 (gor .u64 (S4.get a_1 t6) (S4.get b t6)))
        else none
      else
        some a_1
def F.charset.Union (k : Nat) (a_ : S4) (b : S4) : Option S4 :=
  (F.charset.Union_l1 b k 0 a_).bind fun o1 =>
  some o1

-- tracery/charset.Not
def F.charset.Not_l1 : Nat → Int → S4 → Option S4
  | 0, _, _ => none
  | j + 1, t4, a_1 =>
      if decide (t4 < 4) then
        if inR t4 4 then
          (F.charset.Not_l1 j) (IntKind.wrap .i64 (t4 + 1)) (S4.set a_1 t4 (gnot .u64 (S4.get a_1 t4)))
        else none
      else
        some a_1
def F.charset.Not (k : Nat) (a_ : S4) : Option S4 :=
  (F.charset.Not_l1 k 0 a_).bind fun o1 =>
  some o1

-- tracery/charset.Parse
def F.charset.Parse_j5 (k : Nat) (text1 : List UInt8) (at_1 : Int) (out : S4) (rec_1 : S4 → List UInt8 → Int → Option (LR (S4 × (List UInt8) × Int) (S4 × Fault))) (text : List UInt8) (at_ : Int) (t53 : Bool) : Option (LR (S4 × (List UInt8) × Int) (S4 × Fault)) :=
    if t53 then
      (F.charset.reader_item k (Charset_reader.mk text1 at_1)).bind fun v =>
      if (v.2.1.Code != 0) then
        some (.ret ((S4.mk 0 0 0 0), v.2.1))
      else
        (F.charset.Union k out v.1).bind fun v1 =>
        rec_1 v1 v.2.2.text v.2.2.at_
    else
      some (.done (out, text1, at_1))
def F.charset.Parse_l4 (k : Nat) (text : List UInt8) (at_ : Int) : Nat → S4 → List UInt8 → Int → Option (LR (S4 × (List UInt8) × Int) (S4 × Fault))
  | 0, _, _, _ => none
  | j + 1, out, text1, at_1 =>
      if decide ((text.length : Int) ≤ at_1) then
        F.charset.Parse_j5 k text1 at_1 out (F.charset.Parse_l4 k text at_ j) text at_ true
      else
        if inR at_1 text.length then
          F.charset.Parse_j5 k text1 at_1 out (F.charset.Parse_l4 k text at_ j) text at_ ((sAt text at_1) != 93)
        else none
def F.charset.Parse_j3 (k : Nat) (text : List UInt8) (not : Bool) (at_ : Int) : Option (S4 × Fault) :=
    (F.charset.Parse_l4 k text at_ k (S4.mk 0 0 0 0) text at_).bind fun o4 =>
    o4.fin fun d4 =>
    if decide ((IntKind.wrap .i64 (d4.2.2 + 1)) < (text.length : Int)) then
      some ((S4.mk 0 0 0 0), (Fault.mk (IntKind.wrap .i64 (d4.2.2 + 1)) 15))
    else
      if not then
        (F.charset.Not k d4.1).bind fun v2 =>
        some (v2, (Fault.mk 0 0))
      else
        some (d4.1, (Fault.mk 0 0))
def F.charset.Parse_j2 (k : Nat) (text : List UInt8) (not : Bool) : Option (S4 × Fault) :=
    if not then
      F.charset.Parse_j3 k text not 2
    else
      F.charset.Parse_j3 k text not 1
def F.charset.Parse_j1 (k : Nat) (text : List UInt8) (t20 : Bool) : Option (S4 × Fault) :=
    if t20 then
      some ((S4.mk 0 0 0 0), (Fault.mk 0 13))
    else
      if decide (1 < (text.length : Int)) then
        if inR 1 text.length then
          F.charset.Parse_j2 k text ((sAt text 1) == 94)
        else none
      else
        F.charset.Parse_j2 k text false
def F.charset.Parse (k : Nat) (text : List UInt8) : Option (S4 × Fault) :=
  if decide (65536 < (text.length : Int)) then
    some ((S4.mk 0 0 0 0), (Fault.mk 0 2))
  else
    if (text == ([] : List UInt8)) then
      F.charset.Parse_j1 k text true
    else
      if inR 0 text.length then
        F.charset.Parse_j1 k text ((sAt text 0) != 91)
      else none

-- math/bits.OnesCount64
def F.bits.OnesCount64 (x : Int) : Option Int :=
  some (gand .i64 (IntKind.wrap .i64 (IntKind.wrap .u64 ((IntKind.wrap .u64 ((IntKind.wrap .u64 ((gand .u64 (IntKind.wrap .u64 ((gshr .u64 (IntKind.wrap .u64 ((gand .u64 (gshr .u64 (IntKind.wrap .u64 ((gand .u64 (gshr .u64 x 1) 6148914691236517205) + (gand .u64 x 6148914691236517205))) 2) 3689348814741910323) + (gand .u64 (IntKind.wrap .u64 ((gand .u64 (gshr .u64 x 1) 6148914691236517205) + (gand .u64 x 6148914691236517205))) 3689348814741910323))) 4) + (IntKind.wrap .u64 ((gand .u64 (gshr .u64 (IntKind.wrap .u64 ((gand .u64 (gshr .u64 x 1) 6148914691236517205) + (gand .u64 x 6148914691236517205))) 2) 3689348814741910323) + (gand .u64 (IntKind.wrap .u64 ((gand .u64 (gshr .u64 x 1) 6148914691236517205) + (gand .u64 x 6148914691236517205))) 3689348814741910323))))) 1085102592571150095) + (gshr .u64 (gand .u64 (IntKind.wrap .u64 ((gshr .u64 (IntKind.wrap .u64 ((gand .u64 (gshr .u64 (IntKind.wrap .u64 ((gand .u64 (gshr .u64 x 1) 6148914691236517205) + (gand .u64 x 6148914691236517205))) 2) 3689348814741910323) + (gand .u64 (IntKind.wrap .u64 ((gand .u64 (gshr .u64 x 1) 6148914691236517205) + (gand .u64 x 6148914691236517205))) 3689348814741910323))) 4) + (IntKind.wrap .u64 ((gand .u64 (gshr .u64 (IntKind.wrap .u64 ((gand .u64 (gshr .u64 x 1) 6148914691236517205) + (gand .u64 x 6148914691236517205))) 2) 3689348814741910323) + (gand .u64 (IntKind.wrap .u64 ((gand .u64 (gshr .u64 x 1) 6148914691236517205) + (gand .u64 x 6148914691236517205))) 3689348814741910323))))) 1085102592571150095) 8))) + (gshr .u64 (IntKind.wrap .u64 ((gand .u64 (IntKind.wrap .u64 ((gshr .u64 (IntKind.wrap .u64 ((gand .u64 (gshr .u64 (IntKind.wrap .u64 ((gand .u64 (gshr .u64 x 1) 6148914691236517205) + (gand .u64 x 6148914691236517205))) 2) 3689348814741910323) + (gand .u64 (IntKind.wrap .u64 ((gand .u64 (gshr .u64 x 1) 6148914691236517205) + (gand .u64 x 6148914691236517205))) 3689348814741910323))) 4) + (IntKind.wrap .u64 ((gand .u64 (gshr .u64 (IntKind.wrap .u64 ((gand .u64 (gshr .u64 x 1) 6148914691236517205) + (gand .u64 x 6148914691236517205))) 2) 3689348814741910323) + (gand .u64 (IntKind.wrap .u64 ((gand .u64 (gshr .u64 x 1) 6148914691236517205) + (gand .u64 x 6148914691236517205))) 3689348814741910323))))) 1085102592571150095) + (gshr .u64 (gand .u64 (IntKind.wrap .u64 ((gshr .u64 (IntKind.wrap .u64 ((gand .u64 (gshr .u64 (IntKind.wrap .u64 ((gand .u64 (gshr .u64 x 1) 6148914691236517205) + (gand .u64 x 6148914691236517205))) 2) 3689348814741910323) + (gand .u64 (IntKind.wrap .u64 ((gand .u64 (gshr .u64 x 1) 6148914691236517205) + (gand .u64 x 6148914691236517205))) 3689348814741910323))) 4) + (IntKind.wrap .u64 ((gand .u64 (gshr .u64 (IntKind.wrap .u64 ((gand .u64 (gshr .u64 x 1) 6148914691236517205) + (gand .u64 x 6148914691236517205))) 2) 3689348814741910323) + (gand .u64 (IntKind.wrap .u64 ((gand .u64 (gshr .u64 x 1) 6148914691236517205) + (gand .u64 x 6148914691236517205))) 3689348814741910323))))) 1085102592571150095) 8))) 16))) + (gshr .u64 (IntKind.wrap .u64 ((IntKind.wrap .u64 ((gand .u64 (IntKind.wrap .u64 ((gshr .u64 (IntKind.wrap .u64 ((gand .u64 (gshr .u64 (IntKind.wrap .u64 ((gand .u64 (gshr .u64 x 1) 6148914691236517205) + (gand .u64 x 6148914691236517205))) 2) 3689348814741910323) + (gand .u64 (IntKind.wrap .u64 ((gand .u64 (gshr .u64 x 1) 6148914691236517205) + (gand .u64 x 6148914691236517205))) 3689348814741910323))) 4) + (IntKind.wrap .u64 ((gand .u64 (gshr .u64 (IntKind.wrap .u64 ((gand .u64 (gshr .u64 x 1) 6148914691236517205) + (gand .u64 x 6148914691236517205))) 2) 3689348814741910323) + (gand .u64 (IntKind.wrap .u64 ((gand .u64 (gshr .u64 x 1) 6148914691236517205) + (gand .u64 x 6148914691236517205))) 3689348814741910323))))) 1085102592571150095) + (gshr .u64 (gand .u64 (IntKind.wrap .u64 ((gshr .u64 (IntKind.wrap .u64 ((gand .u64 (gshr .u64 (IntKind.wrap .u64 ((gand .u64 (gshr .u64 x 1) 6148914691236517205) + (gand .u64 x 6148914691236517205))) 2) 3689348814741910323) + (gand .u64 (IntKind.wrap .u64 ((gand .u64 (gshr .u64 x 1) 6148914691236517205) + (gand .u64 x 6148914691236517205))) 3689348814741910323))) 4) + (IntKind.wrap .u64 ((gand .u64 (gshr .u64 (IntKind.wrap .u64 ((gand .u64 (gshr .u64 x 1) 6148914691236517205) + (gand .u64 x 6148914691236517205))) 2) 3689348814741910323) + (gand .u64 (IntKind.wrap .u64 ((gand .u64 (gshr .u64 x 1) 6148914691236517205) + (gand .u64 x 6148914691236517205))) 3689348814741910323))))) 1085102592571150095) 8))) + (gshr .u64 (IntKind.wrap .u64 ((gand .u64 (IntKind.wrap .u64 ((gshr .u64 (IntKind.wrap .u64 ((gand .u64 (gshr .u64 (IntKind.wrap .u64 ((gand .u64 (gshr .u64 x 1) 6148914691236517205) + (gand .u64 x 6148914691236517205))) 2) 3689348814741910323) + (gand .u64 (IntKind.wrap .u64 ((gand .u64 (gshr .u64 x 1) 6148914691236517205) + (gand .u64 x 6148914691236517205))) 3689348814741910323))) 4) + (IntKind.wrap .u64 ((gand .u64 (gshr .u64 (IntKind.wrap .u64 ((gand .u64 (gshr .u64 x 1) 6148914691236517205) + (gand .u64 x 6148914691236517205))) 2) 3689348814741910323) + (gand .u64 (IntKind.wrap .u64 ((gand .u64 (gshr .u64 x 1) 6148914691236517205) + (gand .u64 x 6148914691236517205))) 3689348814741910323))))) 1085102592571150095) + (gshr .u64 (gand .u64 (IntKind.wrap .u64 ((gshr .u64 (IntKind.wrap .u64 ((gand .u64 (gshr .u64 (IntKind.wrap .u64 ((gand .u64 (gshr .u64 x 1) 6148914691236517205) + (gand .u64 x 6148914691236517205))) 2) 3689348814741910323) + (gand .u64 (IntKind.wrap .u64 ((gand .u64 (gshr .u64 x 1) 6148914691236517205) + (gand .u64 x 6148914691236517205))) 3689348814741910323))) 4) + (IntKind.wrap .u64 ((gand .u64 (gshr .u64 (IntKind.wrap .u64 ((gand .u64 (gshr .u64 x 1) 6148914691236517205) + (gand .u64 x 6148914691236517205))) 2) 3689348814741910323) + (gand .u64 (IntKind.wrap .u64 ((gand .u64 (gshr .u64 x 1) 6148914691236517205) + (gand .u64 x 6148914691236517205))) 3689348814741910323))))) 1085102592571150095) 8))) 16))) 32)))) 127)

-- tracery/charset.Size
def F.charset.Size_l1 (s : S4) : Nat → Int → Int → Option Int
  | 0, _, _ => none
  | j + 1, n, t7 =>
      if decide (t7 < 4) then
        if inR t7 4 then
          (F.bits.OnesCount64 (S4.get s t7)).bind fun v =>
          (F.charset.Size_l1 s j) (IntKind.wrap .i64 (n + v)) (IntKind.wrap .i64 (t7 + 1))
        else none
      else
        some n
def F.charset.Size (k : Nat) (s : S4) : Option Int :=
  (F.charset.Size_l1 s k 0 0).bind fun o1 =>
  some o1

-- tracery/charset.Of
def F.charset.Of_l1 (b : List Int) : Nat → Int → S4 → Option S4
  | 0, _, _ => none
  | j + 1, t8, s =>
      if decide (t8 < (b.length : Int)) then
        if inR t8 b.length then
          if inR (gquo .u8 (at_ b t8) 64) 4 then
            if decide ((grem (at_ b t8) 64) < 0) then none else
            (F.charset.Of_l1 b j) (IntKind.wrap .i64 (t8 + 1)) (S4.set s (gquo .u8 (at_ b t8) 64) (gor .u64 (S4.get s (gquo .u8 (at_ b t8) 64)) (gshl .u64 1 (grem (at_ b t8) 64))))
          else none
        else none
      else
        some s
def F.charset.Of (k : Nat) (b : List Int) : Option S4 :=
  (F.charset.Of_l1 b k 0 (S4.mk 0 0 0 0)).bind fun o1 =>
  some o1

-- tracery/charset.Runs
def F.charset.Runs_j2 (t24 : Bool) (out : List Run) : Option (RS (List Run)) :=
    some (.next out)
def F.charset.Runs_j3 (v1 : (List Run)) (x : Int) (t241 : Bool) : Option (RS (List Run)) :=
    if t241 then
      if inR (IntKind.wrap .i64 ((v1.length : Int) - 1)) v1.length then
        F.charset.Runs_j2 t241 (set_ v1 (IntKind.wrap .i64 ((v1.length : Int) - 1)) (Run.mk ((at_ v1 (IntKind.wrap .i64 ((v1.length : Int) - 1))).Lo) (IntKind.wrap .i64 x)))
      else none
    else
      if decide ((v1.length + ([(Run.mk (IntKind.wrap .i64 x) (IntKind.wrap .i64 x))] : List Run).length) * 16 ≤ 140737488355328) then
        if decide (v1.length + ([(Run.mk (IntKind.wrap .i64 x) (IntKind.wrap .i64 x))] : List Run).length ≤ 9223372036854775807) then
          F.charset.Runs_j2 t241 (v1 ++ ([(Run.mk (IntKind.wrap .i64 x) (IntKind.wrap .i64 x))] : List Run))
        else none
      else none
def F.charset.Runs_b1 (x : Int) (v1 : (List Run)) : Option (RS (List Run)) :=
  if decide (0 < (v1.length : Int)) then
    if inR (IntKind.wrap .i64 ((v1.length : Int) - 1)) v1.length then
      F.charset.Runs_j3 v1 x ((IntKind.wrap .i64 (((at_ v1 (IntKind.wrap .i64 ((v1.length : Int) - 1))).Hi) + 1)) == (IntKind.wrap .i64 x))
    else none
  else
    F.charset.Runs_j3 v1 x false
def F.charset.Runs (s : S4) : Option (List Run) :=
  (runR (F.charset.Runs_b1) ([] : List Run) (allB s)).bind fun ob1 =>
  match ob1 with
  | .next v1 =>
    some v1
  | .brk _ =>
    none
  | .ret _ =>
    none

-- tracery/charset.sign
def F.charset.sign_j2 (b : Int) (t27 : Bool) : Option (List UInt8) :=
    if t27 then
      some (toS ([b] : List Int))
    else
      if okSub (gquo .u8 b 16) (IntKind.wrap .u8 ((gquo .u8 b 16) + 1)) ([48, 49, 50, 51, 52, 53, 54, 55, 56, 57, 97, 98, 99, 100, 101, 102] : List UInt8).length then
        if decide (([92, 120] : List UInt8).length + (sub ([48, 49, 50, 51, 52, 53, 54, 55, 56, 57, 97, 98, 99, 100, 101, 102] : List UInt8) (gquo .u8 b 16) (IntKind.wrap .u8 ((gquo .u8 b 16) + 1))).length ≤ 9223372036854775807) then
          if okSub (grem b 16) (IntKind.wrap .u8 ((grem b 16) + 1)) ([48, 49, 50, 51, 52, 53, 54, 55, 56, 57, 97, 98, 99, 100, 101, 102] : List UInt8).length then
            if decide ((([92, 120] : List UInt8) ++ (sub ([48, 49, 50, 51, 52, 53, 54, 55, 56, 57, 97, 98, 99, 100, 101, 102] : List UInt8) (gquo .u8 b 16) (IntKind.wrap .u8 ((gquo .u8 b 16) + 1)))).length + (sub ([48, 49, 50, 51, 52, 53, 54, 55, 56, 57, 97, 98, 99, 100, 101, 102] : List UInt8) (grem b 16) (IntKind.wrap .u8 ((grem b 16) + 1))).length ≤ 9223372036854775807) then
              some ((([92, 120] : List UInt8) ++ (sub ([48, 49, 50, 51, 52, 53, 54, 55, 56, 57, 97, 98, 99, 100, 101, 102] : List UInt8) (gquo .u8 b 16) (IntKind.wrap .u8 ((gquo .u8 b 16) + 1)))) ++ (sub ([48, 49, 50, 51, 52, 53, 54, 55, 56, 57, 97, 98, 99, 100, 101, 102] : List UInt8) (grem b 16) (IntKind.wrap .u8 ((grem b 16) + 1))))
            else none
          else none
        else none
      else none
def F.charset.sign_j1 (b : Int) (t12 : Bool) : Option (List UInt8) :=
    if t12 then
      if decide (([92] : List UInt8).length + (toS ([b] : List Int)).length ≤ 9223372036854775807) then
        some (([92] : List UInt8) ++ (toS ([b] : List Int)))
      else none
    else
      if decide (32 < b) then
        F.charset.sign_j2 b (decide (b < 127))
      else
        F.charset.sign_j2 b false
def F.charset.sign_j3 (b : Int) (t121 : Bool) : Option (List UInt8) :=
    F.charset.sign_j1 b t121
def F.charset.sign (b : Int) : Option (List UInt8) :=
  if (b == 10) then
    some ([92, 110] : List UInt8)
  else
    if (b == 9) then
      some ([92, 116] : List UInt8)
    else
      if (b == 13) then
        some ([92, 114] : List UInt8)
      else
        if (b == 32) then
          some ([92, 115] : List UInt8)
        else
          if (b == 91) then
            F.charset.sign_j1 b (b == 91)
          else
            if (b == 93) then
              F.charset.sign_j1 b (b == 93)
            else
              if (b == 92) then
                F.charset.sign_j3 b (b == 92)
              else
                if (b == 45) then
                  F.charset.sign_j3 b (b == 45)
                else
                  F.charset.sign_j3 b (b == 94)

-- tracery/charset.Print
def F.charset.Print_j2 (rec_1 : List UInt8 → Int → Option (List UInt8)) (t9 : Int) (out1 : List UInt8) : Option (List UInt8) :=
    rec_1 out1 (IntKind.wrap .i64 (t9 + 1))
def F.charset.Print_j4 (rec_1 : List UInt8 → Int → Option (List UInt8)) (t9 : Int) (out3 : List UInt8) : Option (List UInt8) :=
    F.charset.Print_j2 rec_1 t9 out3
def F.charset.Print_j3 (v : List Run) (t9 : Int) (rec_1 : List UInt8 → Int → Option (List UInt8)) (out2 : List UInt8) : Option (List UInt8) :=
    if decide (((at_ v t9).Lo) < ((at_ v t9).Hi)) then
      (F.charset.sign (IntKind.wrap .u8 ((at_ v t9).Hi))).bind fun v2 =>
      if decide (out2.length + v2.length ≤ 9223372036854775807) then
        F.charset.Print_j4 rec_1 t9 (out2 ++ v2)
      else none
    else
      F.charset.Print_j4 rec_1 t9 out2
def F.charset.Print_l1 (v : List Run) : Nat → List UInt8 → Int → Option (List UInt8)
  | 0, _, _ => none
  | j + 1, out, t9 =>
      if decide (t9 < (v.length : Int)) then
        if inR t9 v.length then
          (F.charset.sign (IntKind.wrap .u8 ((at_ v t9).Lo))).bind fun v1 =>
          if decide (out.length + v1.length ≤ 9223372036854775807) then
            if decide ((IntKind.wrap .i64 (((at_ v t9).Lo) + 1)) < ((at_ v t9).Hi)) then
              if decide ((out ++ v1).length + ([45] : List UInt8).length ≤ 9223372036854775807) then
                F.charset.Print_j3 v t9 (F.charset.Print_l1 v j) ((out ++ v1) ++ ([45] : List UInt8))
              else none
            else
              F.charset.Print_j3 v t9 (F.charset.Print_l1 v j) (out ++ v1)
          else none
        else none
      else
        some out
def F.charset.Print (k : Nat) (s : S4) : Option (List UInt8) :=
  (F.charset.Runs s).bind fun v =>
  (F.charset.Print_l1 v k ([91] : List UInt8) 0).bind fun o1 =>
  if decide (o1.length + ([93] : List UInt8).length ≤ 9223372036854775807) then
    some (o1 ++ ([93] : List UInt8))
  else none

-- tracery/tracerylaw01.alive
def F.law01.alive_j1 (t0 : Bool) : Option Bool :=
    some t0
def F.law01.alive (k : Nat) : Option Bool :=
  (F.charset.Parse k ([91, 97, 45, 99, 93] : List UInt8)).bind fun v =>
  if ((v.2.At == 0) && ((v.2.Code == 0) && true)) then
    (F.charset.Size k v.1).bind fun v1 =>
    if (v1 == 3) then
      (F.charset.Of k ([97, 98, 99, 120, 10] : List Int)).bind fun v2 =>
      (F.charset.Print k v2).bind fun v3 =>
      if (v3 == ([91, 92, 110, 97, 45, 99, 120, 93] : List UInt8)) then
        (F.charset.Of k ([97] : List Int)).bind fun v4 =>
        (F.charset.Has v4 97).bind fun v5 =>
        F.law01.alive_j1 v5
      else
        F.law01.alive_j1 false
    else
      F.law01.alive_j1 false
  else
    F.law01.alive_j1 false

-- tracery/traceryref01.Has
def F.ref01.Has_l2 (n : Int) : Nat → Int → Int → Option Int
  | 0, _, _ => none
  | j + 1, w_1, i =>
      if decide (i < (grem n 64)) then
        (F.ref01.Has_l2 n j) (gquo .u64 w_1 2) (IntKind.wrap .i64 (i + 1))
      else
        some w_1
def F.ref01.Has_j1 (k : Nat) (n : Int) (w_ : Int) : Option Bool :=
    (F.ref01.Has_l2 n k w_ 0).bind fun o2 =>
    some ((grem o2 2) == 1)
def F.ref01.Has_j3 (k : Nat) (n : Int) (w_2 : Int) : Option Bool :=
    F.ref01.Has_j1 k n w_2
def F.ref01.Has (k : Nat) (s : S4) (n : Int) : Option Bool :=
  if decide (n < 0) then
    some false
  else
    if decide (255 < n) then
      some false
    else
      if ((gquo .i64 n 64) == 1) then
        F.ref01.Has_j1 k n s.w1
      else
        if ((gquo .i64 n 64) == 2) then
          F.ref01.Has_j3 k n s.w2
        else
          if ((gquo .i64 n 64) == 3) then
            F.ref01.Has_j3 k n s.w3
          else
            F.ref01.Has_j3 k n s.w0

-- tracery/traceryref01.With
def F.ref01.With_l1 (n : Int) : Nat → Int → Int → Option Int
  | 0, _, _ => none
  | j + 1, one, i =>
      if decide (i < (grem n 64)) then
        (F.ref01.With_l1 n j) (IntKind.wrap .u64 (one * 2)) (IntKind.wrap .i64 (i + 1))
      else
        some one
def F.ref01.With_j2 (s1 : S4) : Option S4 :=
    some s1
def F.ref01.With_j3 (s2 : S4) : Option S4 :=
    F.ref01.With_j2 s2
def F.ref01.With (k : Nat) (s : S4) (n : Int) : Option S4 :=
  if decide (n < 0) then
    some s
  else
    if decide (255 < n) then
      some s
    else
      (F.ref01.Has k s n).bind fun v =>
      if v then
        some s
      else
        (F.ref01.With_l1 n k 1 0).bind fun o1 =>
        if ((gquo .i64 n 64) == 0) then
          F.ref01.With_j2 (S4.mk (IntKind.wrap .u64 (s.w0 + o1)) s.w1 s.w2 s.w3)
        else
          if ((gquo .i64 n 64) == 1) then
            F.ref01.With_j3 (S4.mk s.w0 (IntKind.wrap .u64 (s.w1 + o1)) s.w2 s.w3)
          else
            if ((gquo .i64 n 64) == 2) then
              F.ref01.With_j3 (S4.mk s.w0 s.w1 (IntKind.wrap .u64 (s.w2 + o1)) s.w3)
            else
              F.ref01.With_j3 (S4.mk s.w0 s.w1 s.w2 (IntKind.wrap .u64 (s.w3 + o1)))

-- tracery/traceryref01.Range
def F.ref01.Range_l1 (k : Nat) (hi : Int) : Nat → Int → S4 → Option S4
  | 0, _, _ => none
  | j + 1, i, s =>
      if decide (i ≤ hi) then
        (F.ref01.With k s i).bind fun v =>
        (F.ref01.Range_l1 k hi j) (IntKind.wrap .i64 (i + 1)) v
      else
        some s
def F.ref01.Range (k : Nat) (lo : Int) (hi : Int) : Option (S4 × Int) :=
  if decide (lo < 0) then
    some ((S4.mk 0 0 0 0), 10)
  else
    if decide (255 < hi) then
      some ((S4.mk 0 0 0 0), 10)
    else
      if decide (hi < lo) then
        some ((S4.mk 0 0 0 0), 10)
      else
        (F.ref01.Range_l1 k hi k lo (S4.mk 0 0 0 0)).bind fun o1 =>
        some (o1, 0)

-- tracery/traceryref01.Of
def F.ref01.Of_l1 (k : Nat) (b : List Int) : Nat → Int → S4 → Option S4
  | 0, _, _ => none
  | j + 1, i, s =>
      if decide (i < (b.length : Int)) then
        if inR i b.length then
          (F.ref01.With k s (IntKind.wrap .i64 (at_ b i))).bind fun v =>
          (F.ref01.Of_l1 k b j) (IntKind.wrap .i64 (i + 1)) v
        else none
      else
        some s
def F.ref01.Of (k : Nat) (b : List Int) : Option S4 :=
  (F.ref01.Of_l1 k b k 0 (S4.mk 0 0 0 0)).bind fun o1 =>
  some o1

-- tracery/tracerylaw01.CharsetMakes
def F.law01.CharsetMakes_j1 (t8 : Bool) : Option Bool :=
    some t8
def F.law01.CharsetMakes (k : Nat) (l_ : List Int) (lo : Int) (hi : Int) (b : Int) : Option Bool :=
  if decide (4096 < (l_.length : Int)) then
    (F.law01.alive k).bind fun v =>
    some v
  else
    if decide ((([] : List Int).length + l_.length) * 1 ≤ 140737488355328) then
      if decide (([] : List Int).length + l_.length ≤ 9223372036854775807) then
        (F.charset.Of k (([] : List Int) ++ l_)).bind fun v1 =>
        (F.charset.Range k lo hi).bind fun v2 =>
        (F.ref01.Range k lo hi).bind fun v3 =>
        (F.law01.alive k).bind fun v4 =>
        if v4 then
          (F.ref01.Of k l_).bind fun v5 =>
          if (S4.eq v1 v5) then
            if (S4.eq v2.1 v3.1) then
              if (v2.2 == v3.2) then
                (F.charset.Has v1 b).bind fun v6 =>
                (F.ref01.Has k v1 (IntKind.wrap .i64 b)).bind fun v7 =>
                if (v6 == v7) then
                  (F.charset.Has v2.1 b).bind fun v8 =>
                  (F.ref01.Has k v3.1 (IntKind.wrap .i64 b)).bind fun v9 =>
                  if (v8 == v9) then
                    F.law01.CharsetMakes_j1 ((toS (([] : List Int) ++ l_)) == (toS l_))
                  else
                    F.law01.CharsetMakes_j1 false
                else
                  F.law01.CharsetMakes_j1 false
              else
                F.law01.CharsetMakes_j1 false
            else
              F.law01.CharsetMakes_j1 false
          else
            F.law01.CharsetMakes_j1 false
        else
          F.law01.CharsetMakes_j1 false
      else none
    else none

-- tracery/traceryref01.Runs
def F.ref01.Runs_j2 (rec_1 : List Run → Int → Option (List Run)) (i : Int) (out1 : List Run) (t19 : Bool) : Option (List Run) :=
    rec_1 out1 (IntKind.wrap .i64 (i + 1))
def F.ref01.Runs_l4 (k : Nat) (s : S4) : Nat → Int → Option (Int × Bool)
  | 0, _ => none
  | j + 1, hi =>
      (F.ref01.Has k s (IntKind.wrap .i64 (hi + 1))).bind fun v =>
      if v then
        (F.ref01.Runs_l4 k s j) (IntKind.wrap .i64 (hi + 1))
      else
        some (hi, v)
def F.ref01.Runs_j3 (k : Nat) (rec_1 : List Run → Int → Option (List Run)) (i : Int) (out : List Run) (s : S4) (t191 : Bool) : Option (List Run) :=
    if t191 then
      F.ref01.Runs_j2 rec_1 i out t191
    else
      (F.ref01.Runs_l4 k s k i).bind fun o4 =>
      if decide ((out.length + ([(Run.mk i o4.1)] : List Run).length) * 16 ≤ 140737488355328) then
        if decide (out.length + ([(Run.mk i o4.1)] : List Run).length ≤ 9223372036854775807) then
          F.ref01.Runs_j2 rec_1 i (out ++ ([(Run.mk i o4.1)] : List Run)) t191
        else none
      else none
def F.ref01.Runs_l1 (k : Nat) (s : S4) : Nat → List Run → Int → Option (List Run)
  | 0, _, _ => none
  | j + 1, out, i =>
      if decide (i < 256) then
        (F.ref01.Has k s i).bind fun v1 =>
        if !v1 then
          F.ref01.Runs_j3 k (F.ref01.Runs_l1 k s j) i out s true
        else
          (F.ref01.Has k s (IntKind.wrap .i64 (i - 1))).bind fun v2 =>
          F.ref01.Runs_j3 k (F.ref01.Runs_l1 k s j) i out s v2
      else
        some out
def F.ref01.Runs (k : Nat) (s : S4) : Option (List Run) :=
  (F.ref01.Runs_l1 k s k ([] : List Run) 0).bind fun o1 =>
  some o1

-- tracery/traceryref01.special
def F.ref01.special_j1 (n : Int) (t12 : Bool) : Option Int :=
    if t12 then
      some (IntKind.wrap .u8 n)
    else
      some 0
def F.ref01.special_j2 (n : Int) (t121 : Bool) : Option Int :=
    F.ref01.special_j1 n t121
def F.ref01.special (n : Int) : Option Int :=
  if (n == 10) then
    some 110
  else
    if (n == 9) then
      some 116
    else
      if (n == 13) then
        some 114
      else
        if (n == 32) then
          some 115
        else
          if (n == 91) then
            F.ref01.special_j1 n (n == 91)
          else
            if (n == 93) then
              F.ref01.special_j1 n (n == 93)
            else
              if (n == 92) then
                F.ref01.special_j2 n (n == 92)
              else
                if (n == 45) then
                  F.ref01.special_j2 n (n == 45)
                else
                  F.ref01.special_j2 n (n == 94)

-- tracery/traceryref01.Sign
def F.ref01.Sign_j1 (n : Int) (t16 : Bool) : Option (List UInt8) :=
    if t16 then
      some (toS ([IntKind.wrap .u8 n] : List Int))
    else
      if decide (n < 0) then
        some ([] : List UInt8)
      else
        if decide (255 < n) then
          some ([] : List UInt8)
        else
          if inR (gquo .i64 n 16) ([48, 49, 50, 51, 52, 53, 54, 55, 56, 57, 97, 98, 99, 100, 101, 102] : List UInt8).length then
            if inR (grem n 16) ([48, 49, 50, 51, 52, 53, 54, 55, 56, 57, 97, 98, 99, 100, 101, 102] : List UInt8).length then
              some (toS ([92, 120, sAt ([48, 49, 50, 51, 52, 53, 54, 55, 56, 57, 97, 98, 99, 100, 101, 102] : List UInt8) (gquo .i64 n 16), sAt ([48, 49, 50, 51, 52, 53, 54, 55, 56, 57, 97, 98, 99, 100, 101, 102] : List UInt8) (grem n 16)] : List Int))
            else none
          else none
def F.ref01.Sign (n : Int) : Option (List UInt8) :=
  (F.ref01.special n).bind fun v =>
  if (v != 0) then
    some (toS ([92, v] : List Int))
  else
    if decide (32 < n) then
      F.ref01.Sign_j1 n (decide (n < 127))
    else
      F.ref01.Sign_j1 n false

-- tracery/traceryref01.Print
def F.ref01.Print_j2 (rec_1 : List UInt8 → Int → Option (List UInt8)) (i : Int) (out1 : List UInt8) : Option (List UInt8) :=
    rec_1 out1 (IntKind.wrap .i64 (i + 1))
def F.ref01.Print_j4 (rec_1 : List UInt8 → Int → Option (List UInt8)) (i : Int) (out3 : List UInt8) : Option (List UInt8) :=
    F.ref01.Print_j2 rec_1 i out3
def F.ref01.Print_j3 (v : List Run) (i : Int) (rec_1 : List UInt8 → Int → Option (List UInt8)) (out2 : List UInt8) : Option (List UInt8) :=
    if (((at_ v i).Hi) != ((at_ v i).Lo)) then
      (F.ref01.Sign ((at_ v i).Hi)).bind fun v2 =>
      if decide (out2.length + v2.length ≤ 9223372036854775807) then
        F.ref01.Print_j4 rec_1 i (out2 ++ v2)
      else none
    else
      F.ref01.Print_j4 rec_1 i out2
def F.ref01.Print_l1 (v : List Run) : Nat → List UInt8 → Int → Option (List UInt8)
  | 0, _, _ => none
  | j + 1, out, i =>
      if decide (i < (v.length : Int)) then
        if inR i v.length then
          (F.ref01.Sign ((at_ v i).Lo)).bind fun v1 =>
          if decide (out.length + v1.length ≤ 9223372036854775807) then
            if decide (2 ≤ (IntKind.wrap .i64 (((at_ v i).Hi) - ((at_ v i).Lo)))) then
              if decide ((out ++ v1).length + ([45] : List UInt8).length ≤ 9223372036854775807) then
                F.ref01.Print_j3 v i (F.ref01.Print_l1 v j) ((out ++ v1) ++ ([45] : List UInt8))
              else none
            else
              F.ref01.Print_j3 v i (F.ref01.Print_l1 v j) (out ++ v1)
          else none
        else none
      else
        some out
def F.ref01.Print (k : Nat) (s : S4) : Option (List UInt8) :=
  (F.ref01.Runs k s).bind fun v =>
  (F.ref01.Print_l1 v k ([91] : List UInt8) 0).bind fun o1 =>
  if decide (o1.length + ([93] : List UInt8).length ≤ 9223372036854775807) then
    some (o1 ++ ([93] : List UInt8))
  else none

-- tracery/tracerylaw01.CharsetPrints
def F.law01.CharsetPrints (k : Nat) (s : S4) : Option Bool :=
  (F.law01.alive k).bind fun v =>
  if v then
    (F.charset.Print k s).bind fun v1 =>
    (F.ref01.Print k s).bind fun v2 =>
    some (v1 == v2)
  else
    some false

-- tracery/traceryref01.Digit
def F.ref01.Digit_j2 (rec_1 : Int → Option (LR Unit Int)) (i : Int) (t22 : Bool) : Option (LR Unit Int) :=
    rec_1 (IntKind.wrap .i64 (i + 1))
def F.ref01.Digit_l1 (c : Int) : Nat → Int → Option (LR Unit Int)
  | 0, _ => none
  | j + 1, i =>
      if decide (i < 16) then
        if inR i ([48, 49, 50, 51, 52, 53, 54, 55, 56, 57, 97, 98, 99, 100, 101, 102] : List UInt8).length then
          if ((sAt ([48, 49, 50, 51, 52, 53, 54, 55, 56, 57, 97, 98, 99, 100, 101, 102] : List UInt8) i) == c) then
            some (.ret i)
          else
            if decide (9 < i) then
              if ((IntKind.wrap .u8 ((sAt ([48, 49, 50, 51, 52, 53, 54, 55, 56, 57, 97, 98, 99, 100, 101, 102] : List UInt8) i) - 32)) == c) then
                some (.ret i)
              else
                F.ref01.Digit_j2 (F.ref01.Digit_l1 c j) i ((IntKind.wrap .u8 ((sAt ([48, 49, 50, 51, 52, 53, 54, 55, 56, 57, 97, 98, 99, 100, 101, 102] : List UInt8) i) - 32)) == c)
            else
              F.ref01.Digit_j2 (F.ref01.Digit_l1 c j) i false
        else none
      else
        some (.done ())
def F.ref01.Digit (k : Nat) (c : Int) : Option Int :=
  (F.ref01.Digit_l1 c k 0).bind fun o1 =>
  o1.fin fun d1 =>
  some 16

-- tracery/traceryref01.one
def F.ref01.one_j5 (rec_1 : Int → Option (LR Unit (Int × Int × Int))) (n : Int) (t88 : Bool) : Option (LR Unit (Int × Int × Int)) :=
    rec_1 (IntKind.wrap .i64 (n + 1))
def F.ref01.one_j6 (n : Int) (rec_1 : Int → Option (LR Unit (Int × Int × Int))) (t881 : Bool) : Option (LR Unit (Int × Int × Int)) :=
    if t881 then
      some (.ret (n, 2, 0))
    else
      F.ref01.one_j5 rec_1 n t881
def F.ref01.one_j4 (at_ : Int) (text : List UInt8) (n : Int) (rec_1 : Int → Option (LR Unit (Int × Int × Int))) (t74 : Bool) : Option (LR Unit (Int × Int × Int)) :=
    if t74 then
      if inR (IntKind.wrap .i64 (at_ + 1)) text.length then
        (F.ref01.special n).bind fun v1 =>
        if (v1 == (sAt text (IntKind.wrap .i64 (at_ + 1)))) then
          F.ref01.one_j6 n rec_1 (v1 != 0)
        else
          F.ref01.one_j6 n rec_1 false
      else none
    else
      some (.done ())
def F.ref01.one_l3 (at_ : Int) (text : List UInt8) : Nat → Int → Option (LR Unit (Int × Int × Int))
  | 0, _ => none
  | j + 1, n =>
      if decide (n < 256) then
        F.ref01.one_j4 at_ text n (F.ref01.one_l3 at_ text j) (decide ((IntKind.wrap .i64 (at_ + 1)) < (text.length : Int)))
      else
        F.ref01.one_j4 at_ text n (F.ref01.one_l3 at_ text j) false
def F.ref01.one_j2 (k : Nat) (at_ : Int) (text : List UInt8) : Option (Int × Int × Int) :=
    (F.ref01.one_l3 at_ text k 0).bind fun o3 =>
    o3.fin fun d3 =>
    some (0, 0, 12)
def F.ref01.one_j7 (k : Nat) (v2 : Int) (v3 : Int) (at_ : Int) (text : List UInt8) (t61 : Bool) : Option (Int × Int × Int) :=
    if t61 then
      some (IntKind.wrap .i64 ((IntKind.wrap .i64 (16 * v2)) + v3), 4, 0)
    else
      F.ref01.one_j2 k at_ text
def F.ref01.one_j1 (k : Nat) (at_ : Int) (text : List UInt8) (t45 : Bool) : Option (Int × Int × Int) :=
    if t45 then
      if inR (IntKind.wrap .i64 (at_ + 2)) text.length then
        if inR (IntKind.wrap .i64 (at_ + 3)) text.length then
          (F.ref01.Digit k (sAt text (IntKind.wrap .i64 (at_ + 2)))).bind fun v2 =>
          (F.ref01.Digit k (sAt text (IntKind.wrap .i64 (at_ + 3)))).bind fun v3 =>
          if decide (v2 < 16) then
            F.ref01.one_j7 k v2 v3 at_ text (decide (v3 < 16))
          else
            F.ref01.one_j7 k v2 v3 at_ text false
        else none
      else none
    else
      F.ref01.one_j2 k at_ text
def F.ref01.one (k : Nat) (text : List UInt8) (at_ : Int) : Option (Int × Int × Int) :=
  if decide ((text.length : Int) ≤ at_) then
    some (0, 0, 14)
  else
    if inR at_ text.length then
      if ((sAt text at_) != 92) then
        if decide ((sAt text at_) ≤ 32) then
          some (0, 0, 11)
        else
          if decide (127 ≤ (sAt text at_)) then
            some (0, 0, 11)
          else
            (F.ref01.special (IntKind.wrap .i64 (sAt text at_))).bind fun v =>
            if (v != 0) then
              some (0, 0, 11)
            else
              some (IntKind.wrap .i64 (sAt text at_), 1, 0)
      else
        if decide ((IntKind.wrap .i64 (at_ + 3)) < (text.length : Int)) then
          if inR (IntKind.wrap .i64 (at_ + 1)) text.length then
            F.ref01.one_j1 k at_ text ((sAt text (IntKind.wrap .i64 (at_ + 1))) == 120)
          else none
        else
          F.ref01.one_j1 k at_ text false
    else none

-- tracery/traceryref01.Op
def F.ref01.Op_j2 (rec_1 : Int → S4 → Option S4) (i : Int) (x : Bool) (y : Bool) (t57 : Bool) (s1 : S4) : Option S4 :=
    rec_1 (IntKind.wrap .i64 (i + 1)) s1
def F.ref01.Op_j4 (rec_1 : Int → S4 → Option S4) (i : Int) (v : Bool) (v1 : Bool) (t571 : Bool) (s2 : S4) : Option S4 :=
    F.ref01.Op_j2 rec_1 i v v1 t571 s2
def F.ref01.Op_j3 (k : Nat) (s : S4) (i : Int) (rec_1 : Int → S4 → Option S4) (v : Bool) (v1 : Bool) (t571 : Bool) : Option S4 :=
    if t571 then
      (F.ref01.With k s i).bind fun v2 =>
      F.ref01.Op_j4 rec_1 i v v1 t571 v2
    else
      F.ref01.Op_j4 rec_1 i v v1 t571 s
def F.ref01.Op_l1 (k : Nat) (a_ : S4) (b : S4) (kind : Int) : Nat → Int → S4 → Option S4
  | 0, _, _ => none
  | j + 1, i, s =>
      if decide (i < 256) then
        (F.ref01.Has k a_ i).bind fun v =>
        (F.ref01.Has k b i).bind fun v1 =>
        if (kind == 0) then
          if v then
            F.ref01.Op_j3 k s i (F.ref01.Op_l1 k a_ b kind j) v v1 true
          else
            if v1 then
              F.ref01.Op_j3 k s i (F.ref01.Op_l1 k a_ b kind j) v v1 true
            else
              if (kind == 1) then
                if (kind == 2) then
                  if (kind == 3) then
                    F.ref01.Op_j3 k s i (F.ref01.Op_l1 k a_ b kind j) v v1 (!v)
                  else
                    F.ref01.Op_j3 k s i (F.ref01.Op_l1 k a_ b kind j) v v1 false
                else
                  if (kind == 3) then
                    F.ref01.Op_j3 k s i (F.ref01.Op_l1 k a_ b kind j) v v1 (!v)
                  else
                    F.ref01.Op_j3 k s i (F.ref01.Op_l1 k a_ b kind j) v v1 false
              else
                if (kind == 2) then
                  if (kind == 3) then
                    F.ref01.Op_j3 k s i (F.ref01.Op_l1 k a_ b kind j) v v1 (!v)
                  else
                    F.ref01.Op_j3 k s i (F.ref01.Op_l1 k a_ b kind j) v v1 false
                else
                  if (kind == 3) then
                    F.ref01.Op_j3 k s i (F.ref01.Op_l1 k a_ b kind j) v v1 (!v)
                  else
                    F.ref01.Op_j3 k s i (F.ref01.Op_l1 k a_ b kind j) v v1 false
        else
          if (kind == 1) then
            if v then
              if v1 then
                F.ref01.Op_j3 k s i (F.ref01.Op_l1 k a_ b kind j) v v1 true
              else
                if (kind == 2) then
                  if !v1 then
                    F.ref01.Op_j3 k s i (F.ref01.Op_l1 k a_ b kind j) v v1 true
                  else
                    if (kind == 3) then
                      F.ref01.Op_j3 k s i (F.ref01.Op_l1 k a_ b kind j) v v1 (!v)
                    else
                      F.ref01.Op_j3 k s i (F.ref01.Op_l1 k a_ b kind j) v v1 false
                else
                  if (kind == 3) then
                    F.ref01.Op_j3 k s i (F.ref01.Op_l1 k a_ b kind j) v v1 (!v)
                  else
                    F.ref01.Op_j3 k s i (F.ref01.Op_l1 k a_ b kind j) v v1 false
            else
              if (kind == 2) then
                if (kind == 3) then
                  F.ref01.Op_j3 k s i (F.ref01.Op_l1 k a_ b kind j) v v1 (!v)
                else
                  F.ref01.Op_j3 k s i (F.ref01.Op_l1 k a_ b kind j) v v1 false
              else
                if (kind == 3) then
                  F.ref01.Op_j3 k s i (F.ref01.Op_l1 k a_ b kind j) v v1 (!v)
                else
                  F.ref01.Op_j3 k s i (F.ref01.Op_l1 k a_ b kind j) v v1 false
          else
            if (kind == 2) then
              if v then
                if !v1 then
                  F.ref01.Op_j3 k s i (F.ref01.Op_l1 k a_ b kind j) v v1 true
                else
                  if (kind == 3) then
                    F.ref01.Op_j3 k s i (F.ref01.Op_l1 k a_ b kind j) v v1 (!v)
                  else
                    F.ref01.Op_j3 k s i (F.ref01.Op_l1 k a_ b kind j) v v1 false
              else
                if (kind == 3) then
                  F.ref01.Op_j3 k s i (F.ref01.Op_l1 k a_ b kind j) v v1 (!v)
                else
                  F.ref01.Op_j3 k s i (F.ref01.Op_l1 k a_ b kind j) v v1 false
            else
              if (kind == 3) then
                F.ref01.Op_j3 k s i (F.ref01.Op_l1 k a_ b kind j) v v1 (!v)
              else
                F.ref01.Op_j3 k s i (F.ref01.Op_l1 k a_ b kind j) v v1 false
      else
        some s
def F.ref01.Op (k : Nat) (kind : Int) (a_ : S4) (b : S4) : Option S4 :=
  (F.ref01.Op_l1 k a_ b kind k 0 (S4.mk 0 0 0 0)).bind fun o1 =>
  some o1

-- tracery/traceryref01.Parse
def F.ref01.Parse_j6 (rec_1 : Int → S4 → Option (LR (Int × S4) (S4 × Fault))) (at_2 : Int) (lo : Int) (n : Int) (e_ : Int) (hi : Int) (next : Int) (i : Int) (t59 : Bool) (t77 : Bool) (t100 : Bool) (t107 : Bool) (s1 : S4) : Option (LR (Int × S4) (S4 × Fault)) :=
    rec_1 at_2 s1
def F.ref01.Parse_l9 (k : Nat) (hi1 : Int) : Nat → Int → S4 → Option (Int × Bool × S4)
  | 0, _, _ => none
  | j + 1, i1, s2 =>
      if decide (i1 ≤ hi1) then
        (F.ref01.With k s2 i1).bind fun v1 =>
        (F.ref01.Parse_l9 k hi1 j) (IntKind.wrap .i64 (i1 + 1)) v1
      else
        some (i1, decide (i1 ≤ hi1), s2)
def F.ref01.Parse_j8 (k : Nat) (v : Int × Int × Int) (at_1 : Int) (s : S4) (rec_1 : Int → S4 → Option (LR (Int × S4) (S4 × Fault))) (t771 : Bool) (hi1 : Int) (next1 : Int) : Option (LR (Int × S4) (S4 × Fault)) :=
    if decide (hi1 < v.1) then
      some (.ret ((S4.mk 0 0 0 0), (Fault.mk at_1 10)))
    else
      (F.ref01.Parse_l9 k hi1 k v.1 s).bind fun o9 =>
      F.ref01.Parse_j6 rec_1 next1 v.1 v.2.1 v.2.2 hi1 next1 o9.1 (v.2.2 != 0) t771 (decide (hi1 < v.1)) o9.2.1 o9.2.2
def F.ref01.Parse_j7 (k : Nat) (text : List UInt8) (at_1 : Int) (v : Int × Int × Int) (s : S4) (rec_1 : Int → S4 → Option (LR (Int × S4) (S4 × Fault))) (t771 : Bool) : Option (LR (Int × S4) (S4 × Fault)) :=
    if t771 then
      (F.ref01.one k text (IntKind.wrap .i64 ((IntKind.wrap .i64 (at_1 + v.2.1)) + 1))).bind fun v2 =>
      if (v2.2.2 != 0) then
        some (.ret ((S4.mk 0 0 0 0), (Fault.mk (IntKind.wrap .i64 ((IntKind.wrap .i64 (at_1 + v.2.1)) + 1)) v2.2.2)))
      else
        F.ref01.Parse_j8 k v at_1 s rec_1 t771 v2.1 (IntKind.wrap .i64 ((IntKind.wrap .i64 ((IntKind.wrap .i64 (at_1 + v.2.1)) + 1)) + v2.2.1))
    else
      F.ref01.Parse_j8 k v at_1 s rec_1 t771 v.1 (IntKind.wrap .i64 (at_1 + v.2.1))
def F.ref01.Parse_j5 (k : Nat) (text : List UInt8) (at_1 : Int) (s : S4) (rec_1 : Int → S4 → Option (LR (Int × S4) (S4 × Fault))) (t50 : Bool) : Option (LR (Int × S4) (S4 × Fault)) :=
    if t50 then
      (F.ref01.one k text at_1).bind fun v =>
      if (v.2.2 != 0) then
        some (.ret ((S4.mk 0 0 0 0), (Fault.mk at_1 v.2.2)))
      else
        if decide ((IntKind.wrap .i64 (at_1 + v.2.1)) < (text.length : Int)) then
          if inR (IntKind.wrap .i64 (at_1 + v.2.1)) text.length then
            F.ref01.Parse_j7 k text at_1 v s rec_1 ((sAt text (IntKind.wrap .i64 (at_1 + v.2.1))) == 45)
          else none
        else
          F.ref01.Parse_j7 k text at_1 v s rec_1 false
    else
      some (.done (at_1, s))
def F.ref01.Parse_l4 (k : Nat) (text : List UInt8) : Nat → Int → S4 → Option (LR (Int × S4) (S4 × Fault))
  | 0, _, _ => none
  | j + 1, at_1, s =>
      if decide ((text.length : Int) ≤ at_1) then
        F.ref01.Parse_j5 k text at_1 s (F.ref01.Parse_l4 k text j) true
      else
        if inR at_1 text.length then
          F.ref01.Parse_j5 k text at_1 s (F.ref01.Parse_l4 k text j) ((sAt text at_1) != 93)
        else none
def F.ref01.Parse_j3 (k : Nat) (text : List UInt8) (turned : Bool) (at_ : Int) : Option (S4 × Fault) :=
    (F.ref01.Parse_l4 k text k at_ (S4.mk 0 0 0 0)).bind fun o4 =>
    o4.fin fun d4 =>
    if decide ((IntKind.wrap .i64 (d4.1 + 1)) < (text.length : Int)) then
      some ((S4.mk 0 0 0 0), (Fault.mk (IntKind.wrap .i64 (d4.1 + 1)) 15))
    else
      if turned then
        (F.ref01.Op k 3 d4.2 d4.2).bind fun v3 =>
        some (v3, (Fault.mk 0 0))
      else
        some (d4.2, (Fault.mk 0 0))
def F.ref01.Parse_j2 (k : Nat) (text : List UInt8) (turned : Bool) : Option (S4 × Fault) :=
    if turned then
      F.ref01.Parse_j3 k text turned 2
    else
      F.ref01.Parse_j3 k text turned 1
def F.ref01.Parse_j1 (k : Nat) (text : List UInt8) (t29 : Bool) : Option (S4 × Fault) :=
    if t29 then
      some ((S4.mk 0 0 0 0), (Fault.mk 0 13))
    else
      if decide (1 < (text.length : Int)) then
        if inR 1 text.length then
          F.ref01.Parse_j2 k text ((sAt text 1) == 94)
        else none
      else
        F.ref01.Parse_j2 k text false
def F.ref01.Parse (k : Nat) (text : List UInt8) : Option (S4 × Fault) :=
  if decide (65536 < (text.length : Int)) then
    some ((S4.mk 0 0 0 0), (Fault.mk 0 2))
  else
    if ((text.length : Int) == 0) then
      F.ref01.Parse_j1 k text true
    else
      if inR 0 text.length then
        F.ref01.Parse_j1 k text ((sAt text 0) != 91)
      else none

-- tracery/tracerylaw01.CharsetParses
def F.law01.CharsetParses (k : Nat) (text : List UInt8) : Option Bool :=
  if decide (65538 < (text.length : Int)) then
    (F.law01.alive k).bind fun v =>
    some v
  else
    (F.charset.Parse k text).bind fun v1 =>
    (F.ref01.Parse k text).bind fun v2 =>
    (F.law01.alive k).bind fun v3 =>
    if v3 then
      if (S4.eq v1.1 v2.1) then
        some ((v1.2.At == v2.2.At) && ((v1.2.Code == v2.2.Code) && true))
      else
        some false
    else
      some false

-- tracery/tracerylaw01.CharsetBack
def F.law01.CharsetBack_j1 (t2 : Bool) : Option Bool :=
    some t2
def F.law01.CharsetBack (k : Nat) (s : S4) : Option Bool :=
  (F.charset.Print k s).bind fun v =>
  (F.charset.Parse k v).bind fun v1 =>
  (F.law01.alive k).bind fun v2 =>
  if v2 then
    if ((v1.2.At == 0) && ((v1.2.Code == 0) && true)) then
      if (S4.eq v1.1 s) then
        (F.charset.Print k v1.1).bind fun v3 =>
        F.law01.CharsetBack_j1 (v3 == v)
      else
        F.law01.CharsetBack_j1 false
    else
      F.law01.CharsetBack_j1 false
  else
    F.law01.CharsetBack_j1 false

-- tracery/charset.Bytes
def F.charset.Bytes_b1 (x : Int) (v1 : (List Int)) : Option (RS (List Int)) :=
  if decide ((v1.length + ([x] : List Int).length) * 1 ≤ 140737488355328) then
    if decide (v1.length + ([x] : List Int).length ≤ 9223372036854775807) then
      some (.next (v1 ++ ([x] : List Int)))
    else none
  else none
def F.charset.Bytes (s : S4) : Option (List Int) :=
  (runR (F.charset.Bytes_b1) ([] : List Int) (allB s)).bind fun ob1 =>
  match ob1 with
  | .next v1 =>
    some v1
  | .brk _ =>
    none
  | .ret _ =>
    none

-- tracery/traceryref01.Bytes
def F.ref01.Bytes_j2 (rec_1 : List Int → Int → Option (List Int)) (i : Int) (out1 : List Int) (t11 : Bool) : Option (List Int) :=
    rec_1 out1 (IntKind.wrap .i64 (i + 1))
def F.ref01.Bytes_j3 (rec_1 : List Int → Int → Option (List Int)) (i : Int) (v : Bool) (out2 : List Int) : Option (List Int) :=
    F.ref01.Bytes_j2 rec_1 i out2 v
def F.ref01.Bytes_l1 (k : Nat) (s : S4) : Nat → List Int → Int → Option (List Int)
  | 0, _, _ => none
  | j + 1, out, i =>
      if decide (i < 256) then
        (F.ref01.Has k s i).bind fun v =>
        if v then
          if decide ((out.length + ([IntKind.wrap .u8 i] : List Int).length) * 1 ≤ 140737488355328) then
            if decide (out.length + ([IntKind.wrap .u8 i] : List Int).length ≤ 9223372036854775807) then
              F.ref01.Bytes_j3 (F.ref01.Bytes_l1 k s j) i v (out ++ ([IntKind.wrap .u8 i] : List Int))
            else none
          else none
        else
          F.ref01.Bytes_j3 (F.ref01.Bytes_l1 k s j) i v out
      else
        some out
def F.ref01.Bytes (k : Nat) (s : S4) : Option (List Int) :=
  (F.ref01.Bytes_l1 k s k ([] : List Int) 0).bind fun o1 =>
  some o1

-- tracery/traceryref01.SameBytes
def F.ref01.SameBytes (a_ : List Int) (b : List Int) : Option Bool :=
  some ((toS a_) == (toS b))

-- tracery/traceryref01.SameRuns
def F.ref01.SameRuns_l1 (a_ : List Run) (b : List Run) : Nat → Int → Option (LR Unit Bool)
  | 0, _ => none
  | j + 1, i =>
      if decide (i < (a_.length : Int)) then
        if inR i a_.length then
          if inR i b.length then
            if !((((at_ a_ i).Lo) == ((at_ b i).Lo)) && ((((at_ a_ i).Hi) == ((at_ b i).Hi)) && true)) then
              some (.ret false)
            else
              (F.ref01.SameRuns_l1 a_ b j) (IntKind.wrap .i64 (i + 1))
          else none
        else none
      else
        some (.done ())
def F.ref01.SameRuns (k : Nat) (a_ : List Run) (b : List Run) : Option Bool :=
  if ((a_.length : Int) != (b.length : Int)) then
    some false
  else
    (F.ref01.SameRuns_l1 a_ b k 0).bind fun o1 =>
    o1.fin fun d1 =>
    some true

-- tracery/tracerylaw01.CharsetLists
def F.law01.CharsetLists_l1 : Nat → List Int → Int → Option (List Int)
  | 0, _, _ => none
  | j + 1, l_, i =>
      if decide (i < (l_.length : Int)) then
        if inR i l_.length then
          (F.law01.CharsetLists_l1 j) (set_ l_ i 7) (IntKind.wrap .i64 (i + 1))
        else none
      else
        some l_
def F.law01.CharsetLists_l2 : Nat → List Run → Int → Option (List Run)
  | 0, _, _ => none
  | j + 1, r_, i1 =>
      if decide (i1 < (r_.length : Int)) then
        if inR i1 r_.length then
          (F.law01.CharsetLists_l2 j) (set_ r_ i1 (Run.mk (-1) ((at_ r_ i1).Hi))) (IntKind.wrap .i64 (i1 + 1))
        else none
      else
        some r_
def F.law01.CharsetLists (k : Nat) (s : S4) : Option Bool :=
  (F.charset.Bytes s).bind fun v =>
  (F.charset.Runs s).bind fun v1 =>
  (F.ref01.Bytes k s).bind fun v2 =>
  (F.ref01.SameBytes v v2).bind fun v3 =>
  if !v3 then
    some false
  else
    (F.ref01.Runs k s).bind fun v4 =>
    (F.ref01.SameRuns k v1 v4).bind fun v5 =>
    if !v5 then
      some false
    else
      (F.law01.CharsetLists_l1 k v 0).bind fun o1 =>
      (F.law01.CharsetLists_l2 k v1 0).bind fun o2 =>
      (F.law01.alive k).bind fun v6 =>
      if v6 then
        if v3 then
          some v5
        else
          some false
      else
        some false

-- tracery/tracerylaw01.CharsetEach
def F.law01.CharsetEach_j4 (v3 : Int) (most1 : Int) (t47 : Bool) : Option (RS Int) :=
    if t47 then
      some (.ret v3)
    else
      if ((IntKind.wrap .i64 (v3 + 1)) == most1) then
        some (.brk (IntKind.wrap .i64 (v3 + 1)))
      else
        some (.next (IntKind.wrap .i64 (v3 + 1)))
def F.law01.CharsetEach_b3 (v : List Int) (most1 : Int) (x : Int) (v3 : Int) : Option (RS Int) :=
  if decide ((v.length : Int) ≤ v3) then
    F.law01.CharsetEach_j4 v3 most1 true
  else
    if inR v3 v.length then
      if ((at_ v v3) != x) then
        F.law01.CharsetEach_j4 v3 most1 true
      else
        if decide (0 < v3) then
          if inR (IntKind.wrap .i64 (v3 - 1)) v.length then
            F.law01.CharsetEach_j4 v3 most1 (decide (x ≤ (at_ v (IntKind.wrap .i64 (v3 - 1)))))
          else none
        else
          F.law01.CharsetEach_j4 v3 most1 false
    else none
def F.law01.CharsetEach_j5 (v1 : Bool) : Option Bool :=
    some v1
def F.law01.CharsetEach_j6 (v4 : Bool) : Option Bool :=
    some v4
def F.law01.CharsetEach_j2 (k : Nat) (s : S4) (most1 : Int) : Option Bool :=
    (F.charset.Bytes s).bind fun v =>
    (runR (F.law01.CharsetEach_b3 v most1) 0 (allB s)).bind fun ob3 =>
    match ob3 with
    | .next v3 =>
      (F.law01.alive k).bind fun v2 =>
      if v2 then
        if (v3 == most1) then
          F.law01.CharsetEach_j5 (decide (v3 ≤ (v.length : Int)))
        else
          if (v3 == (v.length : Int)) then
            F.law01.CharsetEach_j5 (decide (v3 ≤ (v.length : Int)))
          else
            F.law01.CharsetEach_j5 false
      else
        F.law01.CharsetEach_j5 false
    | .brk v3 =>
      (F.law01.alive k).bind fun v5 =>
      if v5 then
        if (v3 == most1) then
          F.law01.CharsetEach_j6 (decide (v3 ≤ (v.length : Int)))
        else
          if (v3 == (v.length : Int)) then
            F.law01.CharsetEach_j6 (decide (v3 ≤ (v.length : Int)))
          else
            F.law01.CharsetEach_j6 false
      else
        F.law01.CharsetEach_j6 false
    | .ret v3 =>
      some false
def F.law01.CharsetEach_j1 (k : Nat) (s : S4) (most : Int) (t14 : Bool) : Option Bool :=
    if t14 then
      F.law01.CharsetEach_j2 k s 256
    else
      F.law01.CharsetEach_j2 k s most
def F.law01.CharsetEach (k : Nat) (s : S4) (most : Int) : Option Bool :=
  if decide (most < 1) then
    F.law01.CharsetEach_j1 k s most true
  else
    F.law01.CharsetEach_j1 k s most (decide (256 < most))

-- tracery/charset.Meet
def F.charset.Meet_l1 (b : S4) : Nat → Int → S4 → Option S4
  | 0, _, _ => none
  | j + 1, t6, a_1 =>
      if decide (t6 < 4) then
        if inR t6 4 then
          (F.charset.Meet_l1 b j) (IntKind.wrap .i64 (t6 + 1)) (S4.set a_1 t6 (gand .u64 (S4.get a_1 t6) (S4.get b t6)))
        else none
      else
        some a_1
def F.charset.Meet (k : Nat) (a_ : S4) (b : S4) : Option S4 :=
  (F.charset.Meet_l1 b k 0 a_).bind fun o1 =>
  some o1

-- tracery/charset.Minus
def F.charset.Minus_l1 (b : S4) : Nat → Int → S4 → Option S4
  | 0, _, _ => none
  | j + 1, t6, a_1 =>
      if decide (t6 < 4) then
        if inR t6 4 then
          (F.charset.Minus_l1 b j) (IntKind.wrap .i64 (t6 + 1)) (S4.set a_1 t6 (gandNot .u64 (S4.get a_1 t6) (S4.get b t6)))
        else none
      else
        some a_1
def F.charset.Minus (k : Nat) (a_ : S4) (b : S4) : Option S4 :=
  (F.charset.Minus_l1 b k 0 a_).bind fun o1 =>
  some o1

-- tracery/tracerylaw01.CharsetAlgebra
def F.law01.CharsetAlgebra_j3 (t6 : Bool) : Option Bool :=
    some t6
def F.law01.CharsetAlgebra_j2 (k : Nat) (v1 : S4) (y : S4) (a_ : S4) (b : S4) (v : S4) (c : S4) (m : S4) : Option Bool :=
    if !(S4.eq v1 y) then
      some false
    else
      (F.charset.Minus k a_ b).bind fun v2 =>
      (F.charset.Not k b).bind fun v3 =>
      (F.charset.Meet k a_ v3).bind fun v4 =>
      if !(S4.eq v2 v4) then
        some false
      else
        (F.charset.Size k v).bind fun v5 =>
        (F.charset.Size k m).bind fun v6 =>
        (F.charset.Size k a_).bind fun v7 =>
        (F.charset.Size k b).bind fun v8 =>
        if ((IntKind.wrap .i64 (v5 + v6)) != (IntKind.wrap .i64 (v7 + v8))) then
          some false
        else
          (F.law01.alive k).bind fun v9 =>
          if v9 then
            (F.charset.Union k b c).bind fun v10 =>
            (F.charset.Meet k a_ v10).bind fun v11 =>
            (F.charset.Meet k a_ b).bind fun v12 =>
            (F.charset.Meet k a_ c).bind fun v13 =>
            (F.charset.Union k v12 v13).bind fun v14 =>
            if (S4.eq v11 v14) then
              (F.charset.Not k a_).bind fun v15 =>
              (F.charset.Not k v15).bind fun v16 =>
              if (S4.eq v16 a_) then
                (F.charset.Size k v15).bind fun v17 =>
                F.law01.CharsetAlgebra_j3 ((IntKind.wrap .i64 (v7 + v17)) == 256)
              else
                F.law01.CharsetAlgebra_j3 false
            else
              F.law01.CharsetAlgebra_j3 false
          else
            F.law01.CharsetAlgebra_j3 false
def F.law01.CharsetAlgebra_j1 (k : Nat) (a_ : S4) (b : S4) (v1 : S4) (v : S4) (c : S4) (y : S4) : Option Bool :=
    (F.charset.Meet k a_ b).bind fun v18 =>
    F.law01.CharsetAlgebra_j2 k v1 y a_ b v c v18
def F.law01.CharsetAlgebra (k : Nat) (a_ : S4) (b : S4) (c : S4) : Option Bool :=
  (F.charset.Union k a_ b).bind fun v =>
  (F.charset.Not k v).bind fun v1 =>
  (F.charset.Not k a_).bind fun v19 =>
  (F.charset.Not k b).bind fun v20 =>
  (F.charset.Meet k v19 v20).bind fun v21 =>
  F.law01.CharsetAlgebra_j1 k a_ b v1 v c v21

-- tracery/charset.Within
def F.charset.Within (k : Nat) (a_ : S4) (b : S4) : Option Bool :=
  (F.charset.Minus k a_ b).bind fun v =>
  some (S4.eq v (S4.mk 0 0 0 0))

-- tracery/tracerylaw01.CharsetGoes
def F.law01.CharsetGoes_j1 (t4 : Bool) : Option Bool :=
    some t4
def F.law01.CharsetGoes (k : Nat) (a_ : S4) (b : S4) : Option Bool :=
  (F.law01.alive k).bind fun v =>
  if v then
    (F.charset.Union k a_ b).bind fun v1 =>
    (F.ref01.Op k 0 a_ b).bind fun v2 =>
    if (S4.eq v1 v2) then
      (F.charset.Meet k a_ b).bind fun v3 =>
      (F.ref01.Op k 1 a_ b).bind fun v4 =>
      if (S4.eq v3 v4) then
        (F.charset.Minus k a_ b).bind fun v5 =>
        (F.ref01.Op k 2 a_ b).bind fun v6 =>
        if (S4.eq v5 v6) then
          (F.charset.Not k a_).bind fun v7 =>
          (F.ref01.Op k 3 a_ b).bind fun v8 =>
          if (S4.eq v7 v8) then
            (F.charset.Within k a_ b).bind fun v9 =>
            if (v9 == (S4.eq v6 (S4.mk 0 0 0 0))) then
              (F.charset.Size k a_).bind fun v10 =>
              (F.ref01.Bytes k a_).bind fun v11 =>
              F.law01.CharsetGoes_j1 (v10 == (v11.length : Int))
            else
              F.law01.CharsetGoes_j1 false
          else
            F.law01.CharsetGoes_j1 false
        else
          F.law01.CharsetGoes_j1 false
      else
        F.law01.CharsetGoes_j1 false
    else
      F.law01.CharsetGoes_j1 false
  else
    F.law01.CharsetGoes_j1 false

-- tracery/tracerylaw01.CharsetApart
def F.law01.CharsetApart_j1 (t4 : Bool) : Option Bool :=
    some t4
def F.law01.CharsetApart (k : Nat) (a_ : S4) (b : S4) : Option Bool :=
  (F.law01.alive k).bind fun v =>
  if v then
    (F.charset.Print k a_).bind fun v1 =>
    (F.charset.Print k b).bind fun v2 =>
    if ((v1 == v2) == (S4.eq a_ b)) then
      (F.charset.Within k a_ b).bind fun v3 =>
      (F.charset.Union k a_ b).bind fun v4 =>
      if (v3 == (S4.eq v4 b)) then
        (F.charset.Meet k a_ b).bind fun v5 =>
        (F.charset.Within k v5 a_).bind fun v6 =>
        F.law01.CharsetApart_j1 v6
      else
        F.law01.CharsetApart_j1 false
    else
      F.law01.CharsetApart_j1 false
  else
    F.law01.CharsetApart_j1 false
end Go.Vc
