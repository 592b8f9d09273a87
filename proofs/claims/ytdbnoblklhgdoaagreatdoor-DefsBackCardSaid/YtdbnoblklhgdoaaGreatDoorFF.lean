import Derived.Test.YtdbnoblklhgdoaaGreatDoorVT
import Derived.Lib.ItoaNum
import Derived.Lib.Bytealg
import Derived.Shelf.Strings.OnBuilder
set_option linter.unusedVariables false
set_option linter.unusedSimpArgs false
namespace Go.Vc
open Go
structure zx where
 addr : Bool
 buf : List Int
instance : Inhabited zx := ⟨⟨default, default⟩⟩
structure xg where
 Kind : Int
 Text : Tx
 Set : S4
 Name : Tx
 Sep : Tx
instance : Inhabited xg := ⟨⟨default, default, default, default, default⟩⟩
def wn (x : xg) : List Dc := [.int .i64 x.Kind, .str x.Text, .int .u64 x.Set.w0, .int .u64 x.Set.w1, .int .u64 x.Set.w2, .int .u64 x.Set.w3, .str x.Name, .str x.Sep]
structure Prod where
 Lex : Bool
 Sort_ : Tx
 Cons : Tx
 Bracket : Bool
 Syms : List xg
instance : Inhabited Prod := ⟨⟨default, default, default, default, default⟩⟩
def yh (x : Prod) : List Dc := [.bool x.Lex, .str x.Sort_, .str x.Cons, .bool x.Bracket, .slice 8 (x.Syms.map wn)]
structure zw where
 Assoc : Int
 Cons : List Tx
instance : Inhabited zw := ⟨⟨default, default⟩⟩
def zD (x : zw) : List Dc := [.int .i64 x.Assoc, .slice 1 (x.Cons.map xn)]
structure Follow where
 Sort_ : Tx
 Set : S4
instance : Inhabited Follow := ⟨⟨default, default⟩⟩
def z7 (x : Follow) : List Dc := [.str x.Sort_, .int .u64 x.Set.w0, .int .u64 x.Set.w1, .int .u64 x.Set.w2, .int .u64 x.Set.w3]
structure zz where
 Sort_ : Tx
 By : Tx
instance : Inhabited zz := ⟨⟨default, default⟩⟩
def z6 (x : zz) : List Dc := [.str x.Sort_, .str x.By]
structure Item where
 Kind : Int
 Text : Tx
 N_ : Int
 Items : List Item
instance : Inhabited Item := ⟨⟨default, default, default, []⟩⟩
mutual
def zR : Item -> List Dc
 | .mk Kind Text N_ Items => [.int .i64 Kind, .str Text, .int .i64 N_, .slice 4 (eItems Items)]
def eItems : List Item -> List (List Dc)
 | [] => []
 | x :: r => zR x :: eItems r
end
theorem eItems_map : ∀ l, eItems l = l.map zR
 | [] => rfl
 | x :: r => by simp only [eItems, List.map]; rw [eItems_map r]
theorem xD (x : Item) : zR x = [.int .i64 x.Kind, .str x.Text, .int .i64 x.N_, .slice 4 (x.Items.map zR)] := by cases x; simp only [zR, eItems_map]
structure xm where
 Cons : Tx
 Items : List Item
instance : Inhabited xm := ⟨⟨default, default⟩⟩
def xq (x : xm) : List Dc := [.str x.Cons, .slice 4 (x.Items.map zR)]
structure zY where
 Start : Tx
 Layout : Tx
 Prods : List Prod
 Chains : List (List zw)
 Follows : List Follow
 Rejects : List zz
 Boxes : List xm
instance : Inhabited zY := ⟨⟨default, default, default, default, default, default, default⟩⟩
def eDef (x : zY) : List Dc := [.str x.Start, .str x.Layout, .slice 5 (x.Prods.map yh), .slice 1 (x.Chains.map (w8 2 zD)), .slice 5 (x.Follows.map z7), .slice 2 (x.Rejects.map z6), .slice 2 (x.Boxes.map xq)]
structure zg where
 Kind : Int
 Text : Tx
 Bytes : List Int
 Set : S4
 N_ : Int
 At : Int
 Line : Int
 Col : Int
instance : Inhabited zg := ⟨⟨default, default, default, default, default, default, default, default⟩⟩
def zB (x : zg) : List Dc := [.int .i64 x.Kind, .str x.Text, .slice 1 (x.Bytes.map xj), .int .u64 x.Set.w0, .int .u64 x.Set.w1, .int .u64 x.Set.w2, .int .u64 x.Set.w3, .int .i64 x.N_, .int .i64 x.At, .int .i64 x.Line, .int .i64 x.Col]
structure zm where
 text : Tx
 at_ : Int
 line : Int
 top : Int
 out : List zg
instance : Inhabited zm := ⟨⟨default, default, default, default, default⟩⟩
structure Fault where
 At : Int
 Code : Int
instance : Inhabited Fault := ⟨⟨default, default⟩⟩
structure zl where
 text : Tx
 at_ : Int
instance : Inhabited zl := ⟨⟨default, default⟩⟩
structure za where
 l_ : List zg
 at_ : Int
 d : zY
 start : Bool
 layout : Bool
 items : Int
instance : Inhabited za := ⟨⟨default, default, default, default, default, default⟩⟩
structure vw where
 Lo : Int
 Hi : Int
instance : Inhabited vw := ⟨⟨default, default⟩⟩
def gv (x : vw) : List Dc := [.int .i64 x.Lo, .int .i64 x.Hi]
def F.strings.copyCheck (x : zx) : Option zx := some ⟨true, x.buf⟩
def F.strings.Builder_String (x : zx) : Option Tx := if x.buf.all okB then some (vj x.buf) else none
def F.strings.IndexByte (s : Tx) (c : Int) : Option Int := some (Lib.indexByte s c.toNat.toUInt8)
def F.strings.Join (xs : List Tx) (sep : Tx) : Option Tx := if decide (xs.length <= 140737488355328) && decide ((Lib.join xs sep).length <= 140737488355328) then some (Lib.join xs sep) else none
def F.strconv.Itoa (n : Int) : Option Tx := if decide (-9223372036854775808 <= n) && decide (n <= 9223372036854775807) then some (Lib.itoa n) else none
def qc.Has (s : S4) (b : Int) : Option Bool :=
 if xf (vh .u8 b 64) 4 then
 if decide ((jL b 64) < 0) then none else
 some ((gand .u64 (gshr .u64 (S4.get s (vh .u8 b 64)) (jL b 64)) 1) == 1)
 else none
def hasB (s : S4) (i : Int) : Bool := (qc.Has s i).getD false
def gh (s : S4) (n : Nat) : List Int := ((List.range n).map Int.ofNat).filter (hasB s)
def allB (s : S4) : List Int := gh s 256
def qr.itemParts_j2 (i : Int) (l__ : List Item) (g68 : List Item -> Int -> Option Int) (most : Int) (rec_1 : Int -> Int -> Option Int) (n : Int) (t17 : Bool) : Option Int :=
 if t17 then
 if xf i l__.length then
 (g68 ((at_ l__ i).Items) most).bind fun v =>
 rec_1 (IntKind.wrap .i64 (n + v)) (IntKind.wrap .i64 (i + 1))
 else none
 else
 some n
def qr.itemParts_l1 (l__ : List Item) (g68 : List Item -> Int -> Option Int) (most : Int) : Nat -> Int -> Int -> Option Int
 | 0, _, _ => none
 | j + 1, n, i =>
  if decide (i < (l__.length : Int)) then
  qr.itemParts_j2 i l__ g68 most (qr.itemParts_l1 l__ g68 most j) n (decide (n <= most))
  else
  qr.itemParts_j2 i l__ g68 most (qr.itemParts_l1 l__ g68 most j) n false
def qr.itemParts_B (k : Nat) (g68 : List Item -> Int -> Option Int) (l__ : List Item) (most : Int) : Option Int :=
 (qr.itemParts_l1 l__ g68 most k (l__.length : Int) 0).bind fun o1 =>
 some o1
def qr.itemParts : Nat -> List Item -> Int -> Option Int
 | 0 => (fun _ _ => none)
 | k + 1 => qr.itemParts_B k (qr.itemParts k)
def qr.Parts_j2 (i : Int) (d_ : zY) (rec_1 : Int -> Int -> Option Int) (n : Int) (t38 : Bool) : Option Int :=
 if t38 then
 if xf i d_.Prods.length then
 rec_1 (IntKind.wrap .i64 (n + (((at_ d_.Prods i).Syms).length : Int))) (IntKind.wrap .i64 (i + 1))
 else none
 else
 some n
def qr.Parts_l1 (d_ : zY) (most : Int) : Nat -> Int -> Int -> Option Int
 | 0, _, _ => none
 | j + 1, n, i =>
  if decide (i < (d_.Prods.length : Int)) then
  qr.Parts_j2 i d_ (qr.Parts_l1 d_ most j) n (decide (n <= most))
  else
  qr.Parts_j2 i d_ (qr.Parts_l1 d_ most j) n false
def qr.Parts_j6 (k_ : Int) (d_ : zY) (i1 : Int) (rec_3 : Int -> Int -> Option (Int × Int)) (n2 : Int) (t82 : Bool) : Option (Int × Int) :=
 if t82 then
 if xf k_ (at_ d_.Chains i1).length then
 rec_3 (IntKind.wrap .i64 (n2 + (((at_ (at_ d_.Chains i1) k_).Cons).length : Int))) (IntKind.wrap .i64 (k_ + 1))
 else none
 else
 some (n2, k_)
def qr.Parts_l5 (d_ : zY) (i1 : Int) (most : Int) : Nat -> Int -> Int -> Option (Int × Int)
 | 0, _, _ => none
 | j + 1, n2, k_ =>
  if decide (k_ < ((at_ d_.Chains i1).length : Int)) then
  qr.Parts_j6 k_ d_ i1 (qr.Parts_l5 d_ i1 most j) n2 (decide (n2 <= most))
  else
  qr.Parts_j6 k_ d_ i1 (qr.Parts_l5 d_ i1 most j) n2 false
def qr.Parts_j4 (k : Nat) (i1 : Int) (d_ : zY) (most : Int) (n1 : Int) (rec_2 : Int -> Int -> Option Int) (t59 : Bool) : Option Int :=
 if t59 then
 if xf i1 d_.Chains.length then
 (qr.Parts_l5 d_ i1 most k (IntKind.wrap .i64 (n1 + ((at_ d_.Chains i1).length : Int))) 0).bind fun o5 =>
 rec_2 o5.1 (IntKind.wrap .i64 (i1 + 1))
 else none
 else
 some n1
def qr.Parts_l3 (k : Nat) (d_ : zY) (most : Int) : Nat -> Int -> Int -> Option Int
 | 0, _, _ => none
 | j + 1, n1, i1 =>
  if decide (i1 < (d_.Chains.length : Int)) then
  qr.Parts_j4 k i1 d_ most n1 (qr.Parts_l3 k d_ most j) (decide (n1 <= most))
  else
  qr.Parts_j4 k i1 d_ most n1 (qr.Parts_l3 k d_ most j) false
def qr.Parts_j8 (k : Nat) (i2 : Int) (d_ : zY) (most : Int) (rec_4 : Int -> Int -> Option Int) (n3 : Int) (t106 : Bool) : Option Int :=
 if t106 then
 if xf i2 d_.Boxes.length then
 (qr.itemParts k ((at_ d_.Boxes i2).Items) most).bind fun v =>
 rec_4 (IntKind.wrap .i64 (n3 + v)) (IntKind.wrap .i64 (i2 + 1))
 else none
 else
 some n3
def qr.Parts_l7 (k : Nat) (d_ : zY) (most : Int) : Nat -> Int -> Int -> Option Int
 | 0, _, _ => none
 | j + 1, n3, i2 =>
  if decide (i2 < (d_.Boxes.length : Int)) then
  qr.Parts_j8 k i2 d_ most (qr.Parts_l7 k d_ most j) n3 (decide (n3 <= most))
  else
  qr.Parts_j8 k i2 d_ most (qr.Parts_l7 k d_ most j) n3 false
def qr.Parts (k : Nat) (d_ : zY) (most : Int) : Option Int :=
 (qr.Parts_l1 d_ most k (IntKind.wrap .i64 ((IntKind.wrap .i64 ((IntKind.wrap .i64 ((IntKind.wrap .i64 ((d_.Prods.length : Int) + (d_.Chains.length : Int))) + (d_.Follows.length : Int))) + (d_.Rejects.length : Int))) + (d_.Boxes.length : Int))) 0).bind fun o1 =>
 (qr.Parts_l3 k d_ most k o1 0).bind fun o3 =>
 (qr.Parts_l7 k d_ most k o3 0).bind fun o7 =>
 some o7
def qv.heavy (k : Nat) (d_ : zY) : Option Bool :=
 (qr.Parts k d_ 3000).bind fun v =>
 some (decide (3000 < v))
def qw.scanner_skip_j2 (rec_1 : Int -> Int -> Int -> Option (LR (Int × Int × Int) zm)) (at__1 : Int) (line_1 : Int) (top_1 : Int) : Option (LR (Int × Int × Int) zm) :=
 rec_1 at__1 line_1 top_1
def qw.scanner_skip_j3 (rec_1 : Int -> Int -> Int -> Option (LR (Int × Int × Int) zm)) (at__ : Int) (line_2 : Int) (top_2 : Int) : Option (LR (Int × Int × Int) zm) :=
 qw.scanner_skip_j2 rec_1 (IntKind.wrap .i64 (at__ + 1)) line_2 top_2
def qw.scanner_skip_j4 (rec_1 : Int -> Int -> Int -> Option (LR (Int × Int × Int) zm)) (at__ : Int) (line_3 : Int) (top_3 : Int) : Option (LR (Int × Int × Int) zm) :=
 qw.scanner_skip_j3 rec_1 at__ line_3 top_3
def qw.scanner_skip_j7 (rec_2 : Int -> Option Int) (at__2 : Int) (t65 : Bool) : Option Int :=
 if t65 then
 rec_2 (IntKind.wrap .i64 (at__2 + 1))
 else
 some at__2
def qw.scanner_skip_l6 (s : zm) : Nat -> Int -> Option Int
 | 0, _ => none
 | j + 1, at__2 =>
  if decide (at__2 < (s.text.length : Int)) then
  if xf at__2 s.text.length then
  qw.scanner_skip_j7 (qw.scanner_skip_l6 s j) at__2 ((yk s.text at__2) != 10)
  else none
  else
  qw.scanner_skip_j7 (qw.scanner_skip_l6 s j) at__2 false
def qw.scanner_skip_j5 (k : Nat) (rec_1 : Int -> Int -> Int -> Option (LR (Int × Int × Int) zm)) (at__ : Int) (line_ : Int) (top_ : Int) (s : zm) (t38 : Bool) : Option (LR (Int × Int × Int) zm) :=
 if t38 then
 qw.scanner_skip_j4 rec_1 at__ line_ top_
 else
 if ((yk s.text at__) == 35) then
 (qw.scanner_skip_l6 s k at__).bind fun o6 =>
 qw.scanner_skip_j2 rec_1 o6 line_ top_
 else
 some (.ret (zm.mk s.text at__ line_ top_ s.out))
def qw.scanner_skip_j8 (k : Nat) (rec_1 : Int -> Int -> Int -> Option (LR (Int × Int × Int) zm)) (at__ : Int) (line_ : Int) (top_ : Int) (s : zm) (t381 : Bool) : Option (LR (Int × Int × Int) zm) :=
 qw.scanner_skip_j5 k rec_1 at__ line_ top_ s t381
def qw.scanner_skip_l1 (k : Nat) (s : zm) : Nat -> Int -> Int -> Int -> Option (LR (Int × Int × Int) zm)
 | 0, _, _, _ => none
 | j + 1, at__, line_, top_ =>
  if decide (at__ < (s.text.length : Int)) then
  if xf at__ s.text.length then
  if ((yk s.text at__) == 10) then
  qw.scanner_skip_j4 (qw.scanner_skip_l1 k s j) at__ (IntKind.wrap .i64 (line_ + 1)) (IntKind.wrap .i64 (at__ + 1))
  else
  if ((yk s.text at__) == 32) then
  qw.scanner_skip_j5 k (qw.scanner_skip_l1 k s j) at__ line_ top_ s ((yk s.text at__) == 32)
  else
  if ((yk s.text at__) == 9) then
  qw.scanner_skip_j8 k (qw.scanner_skip_l1 k s j) at__ line_ top_ s ((yk s.text at__) == 9)
  else
  qw.scanner_skip_j8 k (qw.scanner_skip_l1 k s j) at__ line_ top_ s ((yk s.text at__) == 13)
  else none
  else
  some (.done (at__, line_, top_))
def qw.scanner_skip (k : Nat) (s : zm) : Option zm :=
 (qw.scanner_skip_l1 k s k s.at_ s.line s.top).bind fun o1 =>
 o1.fin fun d1 =>
 some (zm.mk s.text d1.1 d1.2.1 d1.2.2 s.out)
def qw.great (r_ : Int) : Option Bool :=
 if decide (65 <= r_) then
 some (decide (r_ <= 90))
 else
 some false
def qw.small (r_ : Int) : Option Bool :=
 if decide (97 <= r_) then
 some (decide (r_ <= 122))
 else
 some false
def qw.digit (r_ : Int) : Option Bool :=
 if decide (48 <= r_) then
 some (decide (r_ <= 57))
 else
 some false
def qw.run_j2 (rec_1 : Int -> Option (LR Unit Int)) (v : Int) (s : Tx) : Option (LR Unit Int) :=
 rec_1 (v + jf s v)
def qw.run_j3 (v : Int) (rec_1 : Int -> Option (LR Unit Int)) (s : Tx) (t23 : Bool) : Option (LR Unit Int) :=
 if t23 then
 some (.ret v)
 else
 qw.run_j2 rec_1 v s
def qw.run_l1 (s : Tx) : Nat -> Int -> Option (LR Unit Int)
 | 0, _ => none
 | j + 1, v =>
  if decide (v < (s.length : Int)) then
  (qw.great (wX s v)).bind fun v1 =>
  if !v1 then
  (qw.small (wX s v)).bind fun v2 =>
  if !v2 then
  (qw.digit (wX s v)).bind fun v3 =>
  qw.run_j3 v (qw.run_l1 s j) s (!v3)
  else
  qw.run_j3 v (qw.run_l1 s j) s false
  else
  qw.run_j3 v (qw.run_l1 s j) s false
  else
  some (.done ())
def qw.run (k : Nat) (s : Tx) : Option Int :=
 (qw.run_l1 s k 0).bind fun o1 =>
 o1.fin fun d1 =>
 some (s.length : Int)
def qw.scanner_put (s : zm) (w_ : zg) (end_ : Int) : Option zm :=
 if vp s.at_ end_ s.text.length then
 if decide ((s.out.length + ([(zg.mk w_.Kind (sub s.text s.at_ end_) w_.Bytes w_.Set w_.N_ s.at_ s.line (IntKind.wrap .i64 ((IntKind.wrap .i64 (s.at_ - s.top)) + 1)))] : List zg).length) * 112 <= 140737488355328) then
 if decide (s.out.length + ([(zg.mk w_.Kind (sub s.text s.at_ end_) w_.Bytes w_.Set w_.N_ s.at_ s.line (IntKind.wrap .i64 ((IntKind.wrap .i64 (s.at_ - s.top)) + 1)))] : List zg).length <= 9223372036854775807) then
 some (zm.mk s.text end_ s.line s.top (s.out ++ ([(zg.mk w_.Kind (sub s.text s.at_ end_) w_.Bytes w_.Set w_.N_ s.at_ s.line (IntKind.wrap .i64 ((IntKind.wrap .i64 (s.at_ - s.top)) + 1)))] : List zg)))
 else none
 else none
 else none
def qw.scanner_number_j2 (end_ : Int) (s : zm) (rec_1 : Int -> Int -> Option (LR (Int × Int) (Int × zm))) (n : Int) (t25 : Bool) : Option (LR (Int × Int) (Int × zm)) :=
 if t25 then
 if ((IntKind.wrap .i64 (end_ - s.at_)) == 6) then
 some (.ret (21, s))
 else
 if xf end_ s.text.length then
 rec_1 (IntKind.wrap .i64 (end_ + 1)) (IntKind.wrap .i64 ((IntKind.wrap .i64 (10 * n)) + (IntKind.wrap .i64 (IntKind.wrap .u8 ((yk s.text end_) - 48)))))
 else none
 else
 some (.done (end_, n))
def qw.scanner_number_l1 (s : zm) : Nat -> Int -> Int -> Option (LR (Int × Int) (Int × zm))
 | 0, _, _ => none
 | j + 1, end_, n =>
  if decide (end_ < (s.text.length : Int)) then
  if xf end_ s.text.length then
  (qw.digit (IntKind.wrap .i32 (yk s.text end_))).bind fun v =>
  qw.scanner_number_j2 end_ s (qw.scanner_number_l1 s j) n v
  else none
  else
  qw.scanner_number_j2 end_ s (qw.scanner_number_l1 s j) n false
def qw.scanner_number_j3 (s : zm) (d1 : Int × Int) (t64 : Bool) : Option (Int × zm) :=
 if t64 then
 some (21, s)
 else
 (qw.scanner_put s (zg.mk 3 ([] : Tx) ([] : List Int) (S4.mk 0 0 0 0) d1.2 0 0 0) d1.1).bind fun v1 =>
 some (0, v1)
def qw.scanner_number (k : Nat) (s : zm) : Option (Int × zm) :=
 (qw.scanner_number_l1 s k s.at_ 0).bind fun o1 =>
 o1.fin fun d1 =>
 if xf s.at_ s.text.length then
 if ((yk s.text s.at_) == 48) then
 qw.scanner_number_j3 s d1 (decide ((IntKind.wrap .i64 (s.at_ + 1)) < d1.1))
 else
 qw.scanner_number_j3 s d1 false
 else none
def qw.value_j1 : Option Int :=
 some (-1)
def qw.value_j3 : Option Int :=
 qw.value_j1
def qw.value_j5 (c : Int) (t24 : Bool) : Option Int :=
 if t24 then
 some (IntKind.wrap .i64 ((IntKind.wrap .i64 (IntKind.wrap .u8 (c - 65))) + 10))
 else
 qw.value_j3
def qw.value_j4 (c : Int) (t13 : Bool) : Option Int :=
 if t13 then
 some (IntKind.wrap .i64 ((IntKind.wrap .i64 (IntKind.wrap .u8 (c - 97))) + 10))
 else
 if decide (65 <= c) then
 qw.value_j5 c (decide (c <= 70))
 else
 qw.value_j5 c false
def qw.value_j2 (c : Int) (t3 : Bool) : Option Int :=
 if t3 then
 some (IntKind.wrap .i64 (IntKind.wrap .u8 (c - 48)))
 else
 if decide (97 <= c) then
 qw.value_j4 c (decide (c <= 102))
 else
 qw.value_j4 c false
def qw.value (c : Int) : Option Int :=
 if decide (48 <= c) then
 qw.value_j2 c (decide (c <= 57))
 else
 qw.value_j2 c false
def qw.escape_j2 : Option (Int × Int) :=
 some (0, 0)
def qw.escape_j3 : Option (Int × Int) :=
 qw.escape_j2
def qw.escape_j4 (s : Tx) (t36 : Bool) : Option (Int × Int) :=
 if t36 then
 if xf 2 s.length then
 if xf 3 s.length then
 (qw.value (yk s 2)).bind fun v =>
 (qw.value (yk s 3)).bind fun v1 =>
 some (IntKind.wrap .u8 (IntKind.wrap .i64 ((IntKind.wrap .i64 (16 * v)) + v1)), 4)
 else none
 else none
 else
 qw.escape_j3
def qw.escape_j1 (s : Tx) (t9 : Bool) : Option (Int × Int) :=
 if t9 then
 some (yk s 1, 2)
 else
 if ((yk s 1) == 110) then
 some (10, 2)
 else
 if ((yk s 1) == 116) then
 some (9, 2)
 else
 if ((yk s 1) == 114) then
 some (13, 2)
 else
 if ((yk s 1) == 120) then
 if decide (4 <= (s.length : Int)) then
 if xf 2 s.length then
 (qw.value (yk s 2)).bind fun v2 =>
 if decide (0 <= v2) then
 if xf 3 s.length then
 (qw.value (yk s 3)).bind fun v3 =>
 qw.escape_j4 s (decide (0 <= v3))
 else none
 else
 qw.escape_j4 s false
 else none
 else
 qw.escape_j4 s false
 else
 qw.escape_j3
def qw.escape (s : Tx) : Option (Int × Int) :=
 if decide ((s.length : Int) < 2) then
 some (0, 0)
 else
 if xf 1 s.length then
 if ((yk s 1) == 34) then
 qw.escape_j1 s ((yk s 1) == 34)
 else
 qw.escape_j1 s ((yk s 1) == 92)
 else none
def qw.quoted_j2 (rec_1 : List Int -> Int -> Option (LR Unit (List Int × Int × Fault))) (out_1 : List Int) (i1 : Int) : Option (LR Unit (List Int × Int × Fault)) :=
 rec_1 out_1 i1
def qw.quoted_j3 (rec_1 : List Int -> Int -> Option (LR Unit (List Int × Int × Fault))) (out_2 : List Int) (i2 : Int) : Option (LR Unit (List Int × Int × Fault)) :=
 qw.quoted_j2 rec_1 out_2 i2
def qw.quoted_j4 (rec_1 : List Int -> Int -> Option (LR Unit (List Int × Int × Fault))) (out_3 : List Int) (i3 : Int) : Option (LR Unit (List Int × Int × Fault)) :=
 qw.quoted_j3 rec_1 out_3 i3
def qw.quoted_j5 (rec_1 : List Int -> Int -> Option (LR Unit (List Int × Int × Fault))) (out_4 : List Int) (i4 : Int) : Option (LR Unit (List Int × Int × Fault)) :=
 qw.quoted_j4 rec_1 out_4 i4
def qw.quoted_j6 (i : Int) (out_ : List Int) (text_ : Tx) (rec_1 : List Int -> Int -> Option (LR Unit (List Int × Int × Fault))) (t55 : Bool) : Option (LR Unit (List Int × Int × Fault)) :=
 if t55 then
 some (.ret (([] : List Int), 0, (Fault.mk i 11)))
 else
 if decide ((out_.length + ([yk text_ i] : List Int).length) * 1 <= 140737488355328) then
 if decide (out_.length + ([yk text_ i] : List Int).length <= 9223372036854775807) then
 qw.quoted_j5 rec_1 (out_ ++ ([yk text_ i] : List Int)) (IntKind.wrap .i64 (i + 1))
 else none
 else none
def qw.quoted_l1 (text_ : Tx) : Nat -> List Int -> Int -> Option (LR Unit (List Int × Int × Fault))
 | 0, _, _ => none
 | j + 1, out_, i =>
  if decide (i < (text_.length : Int)) then
  if xf i text_.length then
  if ((yk text_ i) == 34) then
  some (.ret (out_, IntKind.wrap .i64 (i + 1), (Fault.mk 0 0)))
  else
  if ((yk text_ i) == 92) then
  if vp i (text_.length : Int) text_.length then
  (qw.escape (sub text_ i (text_.length : Int))).bind fun v =>
  if (v.2 == 0) then
  some (.ret (([] : List Int), 0, (Fault.mk i 12)))
  else
  if decide ((out_.length + ([v.1] : List Int).length) * 1 <= 140737488355328) then
  if decide (out_.length + ([v.1] : List Int).length <= 9223372036854775807) then
  qw.quoted_j5 (qw.quoted_l1 text_ j) (out_ ++ ([v.1] : List Int)) (IntKind.wrap .i64 (i + v.2))
  else none
  else none
  else none
  else
  if decide ((yk text_ i) < 32) then
  qw.quoted_j6 i out_ text_ (qw.quoted_l1 text_ j) true
  else
  qw.quoted_j6 i out_ text_ (qw.quoted_l1 text_ j) (decide (126 < (yk text_ i)))
  else none
  else
  some (.done ())
def qw.quoted (k : Nat) (text_ : Tx) (at__ : Int) : Option (List Int × Int × Fault) :=
 (qw.quoted_l1 text_ k ([] : List Int) (IntKind.wrap .i64 (at__ + 1))).bind fun o1 =>
 o1.fin fun d1 =>
 some (([] : List Int), 0, (Fault.mk at__ 13))
def qc.digit_j1 : Option Int :=
 some (-1)
def qc.digit_j3 : Option Int :=
 qc.digit_j1
def qc.digit_j5 (c : Int) (t24 : Bool) : Option Int :=
 if t24 then
 some (IntKind.wrap .i64 ((IntKind.wrap .i64 (IntKind.wrap .u8 (c - 65))) + 10))
 else
 qc.digit_j3
def qc.digit_j4 (c : Int) (t13 : Bool) : Option Int :=
 if t13 then
 some (IntKind.wrap .i64 ((IntKind.wrap .i64 (IntKind.wrap .u8 (c - 97))) + 10))
 else
 if decide (65 <= c) then
 qc.digit_j5 c (decide (c <= 70))
 else
 qc.digit_j5 c false
def qc.digit_j2 (c : Int) (t3 : Bool) : Option Int :=
 if t3 then
 some (IntKind.wrap .i64 (IntKind.wrap .u8 (c - 48)))
 else
 if decide (97 <= c) then
 qc.digit_j4 c (decide (c <= 102))
 else
 qc.digit_j4 c false
def qc.digit (c : Int) : Option Int :=
 if decide (48 <= c) then
 qc.digit_j2 c (decide (c <= 57))
 else
 qc.digit_j2 c false
def qc.reader_escaped_j1 (r_ : zl) : Option (Int × Fault × zl) :=
 some (0, (Fault.mk r_.at_ 12), (zl.mk r_.text (IntKind.wrap .i64 (r_.at_ + 2))))
def qc.reader_escaped_j2 (r_ : zl) : Option (Int × Fault × zl) :=
 qc.reader_escaped_j1 r_
def qc.reader_escaped_j4 (r_ : zl) : Option (Int × Fault × zl) :=
 qc.reader_escaped_j2 r_
def qc.reader_escaped_j5 (r_ : zl) (t71 : Bool) : Option (Int × Fault × zl) :=
 if t71 then
 if xf 1 (sub r_.text (IntKind.wrap .i64 (r_.at_ + 1)) (r_.text.length : Int)).length then
 if xf 2 (sub r_.text (IntKind.wrap .i64 (r_.at_ + 1)) (r_.text.length : Int)).length then
 (qc.digit (yk (sub r_.text (IntKind.wrap .i64 (r_.at_ + 1)) (r_.text.length : Int)) 1)).bind fun v =>
 (qc.digit (yk (sub r_.text (IntKind.wrap .i64 (r_.at_ + 1)) (r_.text.length : Int)) 2)).bind fun v1 =>
 some (IntKind.wrap .i64 ((IntKind.wrap .i64 (16 * v)) + v1), (Fault.mk 0 0), (zl.mk r_.text (IntKind.wrap .i64 ((IntKind.wrap .i64 (r_.at_ + 2)) + 2))))
 else none
 else none
 else
 qc.reader_escaped_j4 r_
def qc.reader_escaped_j3 (r_ : zl) (t45 : Bool) : Option (Int × Fault × zl) :=
 if t45 then
 some (IntKind.wrap .i64 (yk (sub r_.text (IntKind.wrap .i64 (r_.at_ + 1)) (r_.text.length : Int)) 0), (Fault.mk 0 0), (zl.mk r_.text (IntKind.wrap .i64 (r_.at_ + 2))))
 else
 if ((yk (sub r_.text (IntKind.wrap .i64 (r_.at_ + 1)) (r_.text.length : Int)) 0) == 120) then
 if decide (3 <= ((sub r_.text (IntKind.wrap .i64 (r_.at_ + 1)) (r_.text.length : Int)).length : Int)) then
 if xf 1 (sub r_.text (IntKind.wrap .i64 (r_.at_ + 1)) (r_.text.length : Int)).length then
 (qc.digit (yk (sub r_.text (IntKind.wrap .i64 (r_.at_ + 1)) (r_.text.length : Int)) 1)).bind fun v2 =>
 if decide (0 <= v2) then
 if xf 2 (sub r_.text (IntKind.wrap .i64 (r_.at_ + 1)) (r_.text.length : Int)).length then
 (qc.digit (yk (sub r_.text (IntKind.wrap .i64 (r_.at_ + 1)) (r_.text.length : Int)) 2)).bind fun v3 =>
 qc.reader_escaped_j5 r_ (decide (0 <= v3))
 else none
 else
 qc.reader_escaped_j5 r_ false
 else none
 else
 qc.reader_escaped_j5 r_ false
 else
 qc.reader_escaped_j4 r_
def qc.reader_escaped_j6 (r_ : zl) (t451 : Bool) : Option (Int × Fault × zl) :=
 qc.reader_escaped_j3 r_ t451
def qc.reader_escaped (r_ : zl) : Option (Int × Fault × zl) :=
 if vp (IntKind.wrap .i64 (r_.at_ + 1)) (r_.text.length : Int) r_.text.length then
 if ((sub r_.text (IntKind.wrap .i64 (r_.at_ + 1)) (r_.text.length : Int)) == ([] : Tx)) then
 some (0, (Fault.mk r_.at_ 12), r_)
 else
 if xf 0 (sub r_.text (IntKind.wrap .i64 (r_.at_ + 1)) (r_.text.length : Int)).length then
 if ((yk (sub r_.text (IntKind.wrap .i64 (r_.at_ + 1)) (r_.text.length : Int)) 0) == 110) then
 some (10, (Fault.mk 0 0), (zl.mk r_.text (IntKind.wrap .i64 (r_.at_ + 2))))
 else
 if ((yk (sub r_.text (IntKind.wrap .i64 (r_.at_ + 1)) (r_.text.length : Int)) 0) == 116) then
 some (9, (Fault.mk 0 0), (zl.mk r_.text (IntKind.wrap .i64 (r_.at_ + 2))))
 else
 if ((yk (sub r_.text (IntKind.wrap .i64 (r_.at_ + 1)) (r_.text.length : Int)) 0) == 114) then
 some (13, (Fault.mk 0 0), (zl.mk r_.text (IntKind.wrap .i64 (r_.at_ + 2))))
 else
 if ((yk (sub r_.text (IntKind.wrap .i64 (r_.at_ + 1)) (r_.text.length : Int)) 0) == 115) then
 some (32, (Fault.mk 0 0), (zl.mk r_.text (IntKind.wrap .i64 (r_.at_ + 2))))
 else
 if ((yk (sub r_.text (IntKind.wrap .i64 (r_.at_ + 1)) (r_.text.length : Int)) 0) == 91) then
 qc.reader_escaped_j3 r_ ((yk (sub r_.text (IntKind.wrap .i64 (r_.at_ + 1)) (r_.text.length : Int)) 0) == 91)
 else
 if ((yk (sub r_.text (IntKind.wrap .i64 (r_.at_ + 1)) (r_.text.length : Int)) 0) == 93) then
 qc.reader_escaped_j3 r_ ((yk (sub r_.text (IntKind.wrap .i64 (r_.at_ + 1)) (r_.text.length : Int)) 0) == 93)
 else
 if ((yk (sub r_.text (IntKind.wrap .i64 (r_.at_ + 1)) (r_.text.length : Int)) 0) == 92) then
 qc.reader_escaped_j6 r_ ((yk (sub r_.text (IntKind.wrap .i64 (r_.at_ + 1)) (r_.text.length : Int)) 0) == 92)
 else
 if ((yk (sub r_.text (IntKind.wrap .i64 (r_.at_ + 1)) (r_.text.length : Int)) 0) == 45) then
 qc.reader_escaped_j6 r_ ((yk (sub r_.text (IntKind.wrap .i64 (r_.at_ + 1)) (r_.text.length : Int)) 0) == 45)
 else
 qc.reader_escaped_j6 r_ ((yk (sub r_.text (IntKind.wrap .i64 (r_.at_ + 1)) (r_.text.length : Int)) 0) == 94)
 else none
 else none
def qc.reader_char_j1 (r_ : zl) (t57 : Bool) : Option (Int × Fault × zl) :=
 if t57 then
 some (0, (Fault.mk r_.at_ 11), r_)
 else
 some (IntKind.wrap .i64 (yk r_.text r_.at_), (Fault.mk 0 0), (zl.mk r_.text (IntKind.wrap .i64 (r_.at_ + 1))))
def qc.reader_char (r_ : zl) : Option (Int × Fault × zl) :=
 if decide ((r_.text.length : Int) <= r_.at_) then
 some (0, (Fault.mk (r_.text.length : Int) 14), r_)
 else
 if xf r_.at_ r_.text.length then
 if ((yk r_.text r_.at_) == 92) then
 (qc.reader_escaped r_).bind fun v =>
 some (v.1, v.2.1, v.2.2)
 else
 if decide ((yk r_.text r_.at_) < 33) then
 qc.reader_char_j1 r_ true
 else
 if decide (126 < (yk r_.text r_.at_)) then
 qc.reader_char_j1 r_ true
 else
 if ((yk r_.text r_.at_) == 91) then
 qc.reader_char_j1 r_ true
 else
 if ((yk r_.text r_.at_) == 93) then
 qc.reader_char_j1 r_ true
 else
 if ((yk r_.text r_.at_) == 45) then
 qc.reader_char_j1 r_ true
 else
 qc.reader_char_j1 r_ ((yk r_.text r_.at_) == 94)
 else none
def qc.Range_l1 (hi : Int) : Nat -> Int -> S4 -> Option S4
 | 0, _, _ => none
 | j + 1, i, s =>
  if decide (i <= hi) then
  if xf (vh .i64 i 64) 4 then
  if decide ((jL i 64) < 0) then none else
  (qc.Range_l1 hi j) (IntKind.wrap .i64 (i + 1)) (S4.set s (vh .i64 i 64) (gor .u64 (S4.get s (vh .i64 i 64)) (gshl .u64 1 (jL i 64))))
  else none
  else
  some s
def qc.Range (k : Nat) (lo : Int) (hi : Int) : Option (S4 × Int) :=
 if decide (lo < 0) then
 some ((S4.mk 0 0 0 0), 10)
 else
 if decide (255 < hi) then
 some ((S4.mk 0 0 0 0), 10)
 else
 if decide (hi < lo) then
 some ((S4.mk 0 0 0 0), 10)
 else
 (qc.Range_l1 hi k lo (S4.mk 0 0 0 0)).bind fun o1 =>
 some (o1, 0)
def qc.reader_item_j2 (k : Nat) (v : Int × Fault × zl) (r_ : zl) (hi : Int) (text_ : Tx) (at__ : Int) (At_ : Int) (Code_ : Int) : Option (S4 × Fault × zl) :=
 (qc.Range k v.1 hi).bind fun v1 =>
 if (v1.2 != 0) then
 some ((S4.mk 0 0 0 0), (Fault.mk r_.at_ v1.2), (zl.mk text_ at__))
 else
 some (v1.1, (Fault.mk 0 0), (zl.mk text_ at__))
def qc.reader_item_j1 (k : Nat) (v : Int × Fault × zl) (r_ : zl) (t46 : Bool) : Option (S4 × Fault × zl) :=
 if t46 then
 (qc.reader_char (zl.mk v.2.2.text (IntKind.wrap .i64 (v.2.2.at_ + 1)))).bind fun v2 =>
 if (v2.2.1.Code != 0) then
 some ((S4.mk 0 0 0 0), v2.2.1, v2.2.2)
 else
 qc.reader_item_j2 k v r_ v2.1 v2.2.2.text v2.2.2.at_ v2.2.1.At v2.2.1.Code
 else
 qc.reader_item_j2 k v r_ v.1 v.2.2.text v.2.2.at_ v.2.1.At v.2.1.Code
def qc.reader_item (k : Nat) (r_ : zl) : Option (S4 × Fault × zl) :=
 (qc.reader_char r_).bind fun v =>
 if (v.2.1.Code != 0) then
 some ((S4.mk 0 0 0 0), v.2.1, v.2.2)
 else
 if decide (v.2.2.at_ < (v.2.2.text.length : Int)) then
 if xf v.2.2.at_ v.2.2.text.length then
 qc.reader_item_j1 k v r_ ((yk v.2.2.text v.2.2.at_) == 45)
 else none
 else
 qc.reader_item_j1 k v r_ false
def qc.Union_l1 (b : S4) : Nat -> Int -> S4 -> Option S4
 | 0, _, _ => none
 | j + 1, t6, a_1 =>
  if decide (t6 < 4) then
  if xf t6 4 then
  (qc.Union_l1 b j) (IntKind.wrap .i64 (t6 + 1)) (S4.set a_1 t6 (gor .u64 (S4.get a_1 t6) (S4.get b t6)))
  else none
  else
  some a_1
def qc.Union (k : Nat) (a_ : S4) (b : S4) : Option S4 :=
 (qc.Union_l1 b k 0 a_).bind fun o1 =>
 some o1
def qc.Not_l1 : Nat -> Int -> S4 -> Option S4
 | 0, _, _ => none
 | j + 1, t4, a_1 =>
  if decide (t4 < 4) then
  if xf t4 4 then
  (qc.Not_l1 j) (IntKind.wrap .i64 (t4 + 1)) (S4.set a_1 t4 (gu .u64 (S4.get a_1 t4)))
  else none
  else
  some a_1
def qc.Not (k : Nat) (a_ : S4) : Option S4 :=
 (qc.Not_l1 k 0 a_).bind fun o1 =>
 some o1
def qc.Parse_j5 (k : Nat) (text_1 : Tx) (at__1 : Int) (out_ : S4) (rec_1 : S4 -> Tx -> Int -> Option (LR (S4 × Tx × Int) (S4 × Fault))) (t53 : Bool) : Option (LR (S4 × Tx × Int) (S4 × Fault)) :=
 if t53 then
 (qc.reader_item k (zl.mk text_1 at__1)).bind fun v =>
 if (v.2.1.Code != 0) then
 some (.ret ((S4.mk 0 0 0 0), v.2.1))
 else
 (qc.Union k out_ v.1).bind fun v1 =>
 rec_1 v1 v.2.2.text v.2.2.at_
 else
 some (.done (out_, text_1, at__1))
def qc.Parse_l4 (k : Nat) (text_ : Tx) : Nat -> S4 -> Tx -> Int -> Option (LR (S4 × Tx × Int) (S4 × Fault))
 | 0, _, _, _ => none
 | j + 1, out_, text_1, at__1 =>
  if decide ((text_.length : Int) <= at__1) then
  qc.Parse_j5 k text_1 at__1 out_ (qc.Parse_l4 k text_ j) true
  else
  if xf at__1 text_.length then
  qc.Parse_j5 k text_1 at__1 out_ (qc.Parse_l4 k text_ j) ((yk text_ at__1) != 93)
  else none
def qc.Parse_j3 (k : Nat) (text_ : Tx) (not : Bool) (at__ : Int) : Option (S4 × Fault) :=
 (qc.Parse_l4 k text_ k (S4.mk 0 0 0 0) text_ at__).bind fun o4 =>
 o4.fin fun d4 =>
 if decide ((IntKind.wrap .i64 (d4.2.2 + 1)) < (text_.length : Int)) then
 some ((S4.mk 0 0 0 0), (Fault.mk (IntKind.wrap .i64 (d4.2.2 + 1)) 15))
 else
 if not then
 (qc.Not k d4.1).bind fun v2 =>
 some (v2, (Fault.mk 0 0))
 else
 some (d4.1, (Fault.mk 0 0))
def qc.Parse_j2 (k : Nat) (text_ : Tx) (not : Bool) : Option (S4 × Fault) :=
 if not then
 qc.Parse_j3 k text_ not 2
 else
 qc.Parse_j3 k text_ not 1
def qc.Parse_j1 (k : Nat) (text_ : Tx) (t20 : Bool) : Option (S4 × Fault) :=
 if t20 then
 some ((S4.mk 0 0 0 0), (Fault.mk 0 13))
 else
 if decide (1 < (text_.length : Int)) then
 if xf 1 text_.length then
 qc.Parse_j2 k text_ ((yk text_ 1) == 94)
 else none
 else
 qc.Parse_j2 k text_ false
def qc.Parse (k : Nat) (text_ : Tx) : Option (S4 × Fault) :=
 if decide (65536 < (text_.length : Int)) then
 some ((S4.mk 0 0 0 0), (Fault.mk 0 2))
 else
 if (text_ == ([] : Tx)) then
 qc.Parse_j1 k text_ true
 else
 if xf 0 text_.length then
 qc.Parse_j1 k text_ ((yk text_ 0) != 91)
 else none
def qw.bracketed_j2 (rec_1 : Int -> Option (LR Unit (S4 × Int × Fault))) (i1 : Int) : Option (LR Unit (S4 × Int × Fault)) :=
 rec_1 (IntKind.wrap .i64 (i1 + 1))
def qw.bracketed_j3 (rec_1 : Int -> Option (LR Unit (S4 × Int × Fault))) (i2 : Int) : Option (LR Unit (S4 × Int × Fault)) :=
 qw.bracketed_j2 rec_1 i2
def qw.bracketed_j4 (rec_1 : Int -> Option (LR Unit (S4 × Int × Fault))) (i3 : Int) : Option (LR Unit (S4 × Int × Fault)) :=
 qw.bracketed_j3 rec_1 i3
def qw.bracketed_j5 (v : S4 × Fault) (i : Int) (At_ : Int) : Option (LR Unit (S4 × Int × Fault)) :=
 some (.ret (v.1, IntKind.wrap .i64 (i + 1), (Fault.mk At_ v.2.Code)))
def qw.bracketed_l1 (k : Nat) (text_ : Tx) (at__ : Int) : Nat -> Int -> Option (LR Unit (S4 × Int × Fault))
 | 0, _ => none
 | j + 1, i =>
  if decide (i < (text_.length : Int)) then
  if xf i text_.length then
  if ((yk text_ i) == 92) then
  qw.bracketed_j4 (qw.bracketed_l1 k text_ at__ j) (IntKind.wrap .i64 (i + 1))
  else
  if ((yk text_ i) == 93) then
  if vp at__ (IntKind.wrap .i64 (i + 1)) text_.length then
  (qc.Parse k (sub text_ at__ (IntKind.wrap .i64 (i + 1)))).bind fun v =>
  if (v.2.Code != 0) then
  qw.bracketed_j5 v i (IntKind.wrap .i64 (v.2.At + at__))
  else
  qw.bracketed_j5 v i v.2.At
  else none
  else
  qw.bracketed_j4 (qw.bracketed_l1 k text_ at__ j) i
  else none
  else
  some (.done ())
def qw.bracketed (k : Nat) (text_ : Tx) (at__ : Int) : Option (S4 × Int × Fault) :=
 (qw.bracketed_l1 k text_ at__ k (IntKind.wrap .i64 (at__ + 1))).bind fun o1 =>
 o1.fin fun d1 =>
 some ((S4.mk 0 0 0 0), 0, (Fault.mk at__ 13))
def qw.scanner_next_j2 (text_ : Tx) (at__ : Int) (line_ : Int) (top_ : Int) (out_ : List zg) : Option (Fault × zm) :=
 some ((Fault.mk 0 0), (zm.mk text_ at__ line_ top_ out_))
def qw.scanner_next_j3 (s : zm) (v : Int) (kind : Int) : Option (Fault × zm) :=
 (qw.scanner_put s (zg.mk kind ([] : Tx) ([] : List Int) (S4.mk 0 0 0 0) 0 0 0 0) (IntKind.wrap .i64 (s.at_ + v))).bind fun v2 =>
 qw.scanner_next_j2 v2.text v2.at_ v2.line v2.top v2.out
def qw.scanner_next_j4 (text_1 : Tx) (at__1 : Int) (line_1 : Int) (top_1 : Int) (out_1 : List zg) : Option (Fault × zm) :=
 qw.scanner_next_j2 text_1 at__1 line_1 top_1 out_1
def qw.scanner_next_j5 (s : zm) (b2 : List Int) (end_ : Int) (At_ : Int) (Code_ : Int) : Option (Fault × zm) :=
 if (Code_ != 0) then
 some ((Fault.mk At_ Code_), s)
 else
 (qw.scanner_put s (zg.mk 4 ([] : Tx) b2 (S4.mk 0 0 0 0) 0 0 0 0) end_).bind fun v5 =>
 qw.scanner_next_j4 v5.text v5.at_ v5.line v5.top v5.out
def qw.scanner_next_j6 (s : zm) (set__ : S4) (end_1 : Int) (At_1 : Int) (Code_1 : Int) : Option (Fault × zm) :=
 if (Code_1 != 0) then
 some ((Fault.mk At_1 Code_1), s)
 else
 (qw.scanner_put s (zg.mk 5 ([] : Tx) ([] : List Int) set__ 0 0 0 0) end_1).bind fun v7 =>
 qw.scanner_next_j4 v7.text v7.at_ v7.line v7.top v7.out
def qw.scanner_next_j1 (k : Nat) (s : zm) (t27 : Bool) : Option (Fault × zm) :=
 if t27 then
 if vp s.at_ (s.text.length : Int) s.text.length then
 (qw.run k (sub s.text s.at_ (s.text.length : Int))).bind fun v =>
 if decide (32 < v) then
 some ((Fault.mk s.at_ 20), s)
 else
 (qw.great (IntKind.wrap .i32 (yk s.text s.at_))).bind fun v1 =>
 if v1 then
 qw.scanner_next_j3 s v 1
 else
 qw.scanner_next_j3 s v 2
 else none
 else
 (qw.digit (IntKind.wrap .i32 (yk s.text s.at_))).bind fun v3 =>
 if v3 then
 (qw.scanner_number k s).bind fun v4 =>
 if (v4.1 != 0) then
 some ((Fault.mk v4.2.at_ v4.1), v4.2)
 else
 qw.scanner_next_j2 v4.2.text v4.2.at_ v4.2.line v4.2.top v4.2.out
 else
 if ((yk s.text s.at_) == 34) then
 (qw.quoted k s.text s.at_).bind fun v6 =>
 qw.scanner_next_j5 s v6.1 v6.2.1 v6.2.2.At v6.2.2.Code
 else
 if ((yk s.text s.at_) == 91) then
 (qw.bracketed k s.text s.at_).bind fun v8 =>
 qw.scanner_next_j6 s v8.1 v8.2.1 v8.2.2.At v8.2.2.Code
 else
 (F.strings.IndexByte ([61, 124, 46, 59, 62, 63, 42, 43, 123, 125, 40, 41, 95, 47, 44, 45] : Tx) (yk s.text s.at_)).bind fun v9 =>
 if decide (0 <= v9) then
 (qw.scanner_put s (zg.mk 6 ([] : Tx) ([] : List Int) (S4.mk 0 0 0 0) 0 0 0 0) (IntKind.wrap .i64 (s.at_ + 1))).bind fun v10 =>
 qw.scanner_next_j4 v10.text v10.at_ v10.line v10.top v10.out
 else
 some ((Fault.mk s.at_ 11), s)
def qw.scanner_next (k : Nat) (s : zm) : Option (Fault × zm) :=
 if xf s.at_ s.text.length then
 (qw.great (IntKind.wrap .i32 (yk s.text s.at_))).bind fun v11 =>
 if v11 then
 qw.scanner_next_j1 k s true
 else
 (qw.small (IntKind.wrap .i32 (yk s.text s.at_))).bind fun v12 =>
 qw.scanner_next_j1 k s v12
 else none
def qw.Scan_l1 (k : Nat) (text_ : Tx) : Nat -> Tx -> Int -> Int -> Int -> List zg -> Option (LR (Tx × Int × Int × Int × (List zg)) (List zg × Fault))
 | 0, _, _, _, _, _ => none
 | j + 1, text_1, at__, line_, top_, out_ =>
  if decide (at__ < (text_.length : Int)) then
  (qw.scanner_next k (zm.mk text_1 at__ line_ top_ out_)).bind fun v1 =>
  if (v1.1.Code != 0) then
  some (.ret (([] : List zg), v1.1))
  else
  (qw.scanner_skip k v1.2).bind fun v2 =>
  (qw.Scan_l1 k text_ j) v2.text v2.at_ v2.line v2.top v1.2.out
  else
  some (.done (text_1, at__, line_, top_, out_))
def qw.Scan (k : Nat) (text_ : Tx) : Option (List zg × Fault) :=
 if decide (65536 < (text_.length : Int)) then
 some (([] : List zg), (Fault.mk 0 2))
 else
 (qw.scanner_skip k (zm.mk text_ 0 1 0 ([] : List zg))).bind fun v =>
 (qw.Scan_l1 k text_ k v.text v.at_ v.line v.top ([] : List zg)).bind fun o1 =>
 o1.fin fun d1 =>
 (qw.scanner_put (zm.mk d1.1 d1.2.1 d1.2.2.1 d1.2.2.2.1 d1.2.2.2.2) (zg.mk 7 ([] : Tx) ([] : List Int) (S4.mk 0 0 0 0) 0 0 0 0) d1.2.1).bind fun v3 =>
 some (v3.out, (Fault.mk 0 0))
def qd.fail (w_ : zg) (e_ : Int) : Option (Pn Unit Fault) :=
 some (.pan (Fault.mk w_.At e_))
def qd.reader_kind_j3 (r_ : za) : Option (Pn (zg × za) Fault) :=
 some (.ok ((at_ r_.l_ r_.at_), (za.mk r_.l_ (IntKind.wrap .i64 (r_.at_ + 1)) r_.d r_.start r_.layout r_.items)))
def qd.reader_kind_j2 (r_ : za) (t29 : Bool) : Option (Pn (zg × za) Fault) :=
 if t29 then
 (qd.fail (at_ r_.l_ r_.at_) 2).bind fun v =>
 v.go (fun x_ =>
 qd.reader_kind_j3 r_)
 (fun y_ =>
 some (.pan y_))
 else
 qd.reader_kind_j3 r_
def qd.reader_kind_j1 (k_ : Int) (r_ : za) : Option (Pn (zg × za) Fault) :=
 if (k_ == 4) then
 qd.reader_kind_j2 r_ (decide (32 < (((at_ r_.l_ r_.at_).Bytes).length : Int)))
 else
 qd.reader_kind_j2 r_ false
def qd.reader_kind (r_ : za) (k_ : Int) : Option (Pn (zg × za) Fault) :=
 if xf r_.at_ r_.l_.length then
 if (((at_ r_.l_ r_.at_).Kind) != k_) then
 (qd.fail (at_ r_.l_ r_.at_) 30).bind fun v1 =>
 v1.go (fun x_1 =>
 qd.reader_kind_j1 k_ r_)
 (fun y_1 =>
 some (.pan y_1))
 else
 qd.reader_kind_j1 k_ r_
 else none
def qd.reader_name (r_ : za) : Option (Pn (Tx × za) Fault) :=
 (qd.reader_kind r_ 1).bind fun v =>
 v.go (fun x_ =>
 some (.ok (x_.1.Text, (za.mk x_.2.l_ x_.2.at_ (zY.mk x_.2.d.Start x_.2.d.Layout r_.d.Prods r_.d.Chains r_.d.Follows r_.d.Rejects r_.d.Boxes) x_.2.start x_.2.layout x_.2.items))))
 (fun y_ =>
 some (.pan y_))
def qd.reader_is (r_ : za) (text_ : Tx) : Option Bool :=
 if xf r_.at_ r_.l_.length then
 if (((at_ r_.l_ r_.at_).Kind) == 6) then
 some (((at_ r_.l_ r_.at_).Text) == text_)
 else
 if (((at_ r_.l_ r_.at_).Kind) == 2) then
 some (((at_ r_.l_ r_.at_).Text) == text_)
 else
 some false
 else none
def qd.reader_take (r_ : za) (text_ : Tx) : Option (Bool × za) :=
 (qd.reader_is r_ text_).bind fun v =>
 if !v then
 some (false, r_)
 else
 some (true, (za.mk r_.l_ (IntKind.wrap .i64 (r_.at_ + 1)) r_.d r_.start r_.layout r_.items))
def qd.reader_want (r_ : za) (text_ : Tx) : Option (Pn za Fault) :=
 (qd.reader_take r_ text_).bind fun v =>
 if !v.1 then
 if xf v.2.at_ v.2.l_.length then
 (qd.fail (at_ v.2.l_ v.2.at_) 30).bind fun v1 =>
 v1.go (fun x_ =>
 some (.ok (za.mk v.2.l_ v.2.at_ (zY.mk v.2.d.Start v.2.d.Layout r_.d.Prods r_.d.Chains r_.d.Follows r_.d.Rejects r_.d.Boxes) v.2.start v.2.layout v.2.items)))
 (fun y_ =>
 some (.pan y_))
 else none
 else
 some (.ok (za.mk v.2.l_ v.2.at_ (zY.mk v.2.d.Start v.2.d.Layout r_.d.Prods r_.d.Chains r_.d.Follows r_.d.Rejects r_.d.Boxes) v.2.start v.2.layout v.2.items))
def qd.reader_once_a0_9_a0_2_j1 (r_ : za) : Option (Pn za Fault) :=
 (qd.reader_name (za.mk r_.l_ r_.at_ r_.d true r_.layout r_.items)).bind fun v =>
 v.go (fun x_ =>
 (qd.reader_want (za.mk x_.2.l_ x_.2.at_ (zY.mk x_.1 x_.2.d.Layout r_.d.Prods r_.d.Chains r_.d.Follows r_.d.Rejects r_.d.Boxes) x_.2.start x_.2.layout x_.2.items) ([59] : Tx)).bind fun v1 =>
 v1.go (fun x_1 =>
 some (.ok (za.mk x_1.l_ x_1.at_ (zY.mk x_1.d.Start x_1.d.Layout r_.d.Prods r_.d.Chains r_.d.Follows r_.d.Rejects r_.d.Boxes) x_1.start x_1.layout x_1.items)))
 (fun y_1 =>
 some (.pan y_1)))
 (fun y_ =>
 some (.pan y_))
def qd.reader_once_a0_9_a0_2 (r_ : za) (first : zg) : Option (Pn za Fault) :=
 if r_.start then
 (qd.fail first 31).bind fun v2 =>
 v2.go (fun x_2 =>
 qd.reader_once_a0_9_a0_2_j1 r_)
 (fun y_2 =>
 some (.pan y_2))
 else
 qd.reader_once_a0_9_a0_2_j1 r_
def qd.reader_all_c1 (w_ : zg) (free : za) : Option (Pn za Fault) :=
 (qd.reader_once_a0_9_a0_2 free w_).bind fun v =>
 v.go (fun x_ =>
 some (.ok (za.mk x_.l_ x_.at_ (zY.mk x_.d.Start x_.d.Layout free.d.Prods free.d.Chains free.d.Follows free.d.Rejects free.d.Boxes) x_.start x_.layout x_.items)))
 (fun y_ =>
 some (.pan y_))
def qd.reader_once_a0_10_a0_3_j1 (r_ : za) : Option (Pn za Fault) :=
 (qd.reader_name (za.mk r_.l_ r_.at_ r_.d r_.start true r_.items)).bind fun v =>
 v.go (fun x_ =>
 (qd.reader_want (za.mk x_.2.l_ x_.2.at_ (zY.mk x_.2.d.Start x_.1 r_.d.Prods r_.d.Chains r_.d.Follows r_.d.Rejects r_.d.Boxes) x_.2.start x_.2.layout x_.2.items) ([59] : Tx)).bind fun v1 =>
 v1.go (fun x_1 =>
 some (.ok (za.mk x_1.l_ x_1.at_ (zY.mk x_1.d.Start x_1.d.Layout r_.d.Prods r_.d.Chains r_.d.Follows r_.d.Rejects r_.d.Boxes) x_1.start x_1.layout x_1.items)))
 (fun y_1 =>
 some (.pan y_1)))
 (fun y_ =>
 some (.pan y_))
def qd.reader_once_a0_10_a0_3 (r_ : za) (first : zg) : Option (Pn za Fault) :=
 if r_.layout then
 (qd.fail first 31).bind fun v2 =>
 v2.go (fun x_2 =>
 qd.reader_once_a0_10_a0_3_j1 r_)
 (fun y_2 =>
 some (.pan y_2))
 else
 qd.reader_once_a0_10_a0_3_j1 r_
def qd.reader_all_c2 (w_ : zg) (free : za) : Option (Pn za Fault) :=
 (qd.reader_once_a0_10_a0_3 free w_).bind fun v =>
 v.go (fun x_ =>
 some (.ok (za.mk x_.l_ x_.at_ (zY.mk x_.d.Start x_.d.Layout free.d.Prods free.d.Chains free.d.Follows free.d.Rejects free.d.Boxes) x_.start x_.layout x_.items)))
 (fun y_ =>
 some (.pan y_))
def qd.reader_room (r_ : za) (w_ : zg) : Option (Pn Unit Fault) :=
 if ((r_.d.Prods.length : Int) == 200) then
 (qd.fail w_ 2).bind fun v =>
 v.go (fun x_ =>
 some (.ok ()))
 (fun y_ =>
 some (.pan y_))
 else
 some (.ok ())
def qd.reader_part_j2 (Set_ : S4) (Name_ : Tx) (r_ : za) (l__1 : List zg) (at__1 : Int) (q1_1 : Tx) (q2_1 : Tx) (q8_1 : Bool) (q9_1 : Bool) (q0_1 : Int) (Kind__1 : Int) : Option (Pn (xg × za) Fault) :=
 some (.ok ((xg.mk Kind__1 ([] : Tx) Set_ Name_ ([] : Tx)), (za.mk l__1 at__1 (zY.mk q1_1 q2_1 r_.d.Prods r_.d.Chains r_.d.Follows r_.d.Rejects r_.d.Boxes) q8_1 q9_1 q0_1)))
def qd.reader_part_j3 (Set_ : S4) (Name_ : Tx) (r_ : za) (l__2 : List zg) (at__2 : Int) (q1_2 : Tx) (q2_2 : Tx) (q8_2 : Bool) (q9_2 : Bool) (q0_2 : Int) (Kind__2 : Int) : Option (Pn (xg × za) Fault) :=
 qd.reader_part_j2 Set_ Name_ r_ l__2 at__2 q1_2 q2_2 q8_2 q9_2 q0_2 Kind__2
def qd.reader_part_j1 (r_ : za) (Kind__ : Int) (Set_ : S4) (Name_ : Tx) (l__ : List zg) (at__ : Int) (q1 : Tx) (q2 : Tx) (q8 : Bool) (q9 : Bool) (q0 : Int) : Option (Pn (xg × za) Fault) :=
 (qd.reader_take (za.mk l__ at__ (zY.mk q1 q2 r_.d.Prods r_.d.Chains r_.d.Follows r_.d.Rejects r_.d.Boxes) q8 q9 q0) ([63] : Tx)).bind fun v =>
 if v.1 then
 qd.reader_part_j2 Set_ Name_ r_ v.2.l_ v.2.at_ v.2.d.Start v.2.d.Layout v.2.start v.2.layout v.2.items 4
 else
 (qd.reader_take (za.mk v.2.l_ v.2.at_ (zY.mk v.2.d.Start v.2.d.Layout r_.d.Prods r_.d.Chains r_.d.Follows r_.d.Rejects r_.d.Boxes) v.2.start v.2.layout v.2.items) ([42] : Tx)).bind fun v1 =>
 if v1.1 then
 qd.reader_part_j3 Set_ Name_ r_ v1.2.l_ v1.2.at_ v1.2.d.Start v1.2.d.Layout v1.2.start v1.2.layout v1.2.items 5
 else
 (qd.reader_take (za.mk v1.2.l_ v1.2.at_ (zY.mk v1.2.d.Start v1.2.d.Layout r_.d.Prods r_.d.Chains r_.d.Follows r_.d.Rejects r_.d.Boxes) v1.2.start v1.2.layout v1.2.items) ([43] : Tx)).bind fun v2 =>
 if v2.1 then
 qd.reader_part_j3 Set_ Name_ r_ v2.2.l_ v2.2.at_ v2.2.d.Start v2.2.d.Layout v2.2.start v2.2.layout v2.2.items 6
 else
 qd.reader_part_j3 Set_ Name_ r_ v2.2.l_ v2.2.at_ v2.2.d.Start v2.2.d.Layout v2.2.start v2.2.layout v2.2.items Kind__
def qd.reader_part (r_ : za) : Option (Pn (xg × za) Fault) :=
 if xf r_.at_ r_.l_.length then
 if (((at_ r_.l_ r_.at_).Kind) == 5) then
 qd.reader_part_j1 r_ 2 (S4.mk ((at_ r_.l_ r_.at_).Set.w0) ((at_ r_.l_ r_.at_).Set.w1) ((at_ r_.l_ r_.at_).Set.w2) ((at_ r_.l_ r_.at_).Set.w3)) ([] : Tx) r_.l_ (IntKind.wrap .i64 (r_.at_ + 1)) r_.d.Start r_.d.Layout r_.start r_.layout r_.items
 else
 (qd.reader_name r_).bind fun v3 =>
 v3.go (fun x_ =>
 qd.reader_part_j1 r_ 3 (S4.mk 0 0 0 0) x_.1 x_.2.l_ x_.2.at_ x_.2.d.Start x_.2.d.Layout x_.2.start x_.2.layout x_.2.items)
 (fun y_ =>
 some (.pan y_))
 else none
def qd.reader_sym_j1 (x_3 : zg × za) (r_ : za) (x_2 : Tx × za) : Option (Pn (xg × za) Fault) :=
 (qd.reader_want (za.mk x_3.2.l_ x_3.2.at_ (zY.mk x_3.2.d.Start x_3.2.d.Layout r_.d.Prods r_.d.Chains r_.d.Follows r_.d.Rejects r_.d.Boxes) x_3.2.start x_3.2.layout x_3.2.items) ([125] : Tx)).bind fun v5 =>
 v5.go (fun x_4 =>
 (qd.reader_take (za.mk x_4.l_ x_4.at_ (zY.mk x_4.d.Start x_4.d.Layout r_.d.Prods r_.d.Chains r_.d.Follows r_.d.Rejects r_.d.Boxes) x_4.start x_4.layout x_4.items) ([42] : Tx)).bind fun v6 =>
 if v6.1 then
 some (.ok ((xg.mk 5 ([] : Tx) (S4.mk 0 0 0 0) x_2.1 (vj x_3.1.Bytes)), (za.mk v6.2.l_ v6.2.at_ (zY.mk v6.2.d.Start v6.2.d.Layout r_.d.Prods r_.d.Chains r_.d.Follows r_.d.Rejects r_.d.Boxes) v6.2.start v6.2.layout v6.2.items)))
 else
 (qd.reader_want (za.mk v6.2.l_ v6.2.at_ (zY.mk v6.2.d.Start v6.2.d.Layout r_.d.Prods r_.d.Chains r_.d.Follows r_.d.Rejects r_.d.Boxes) v6.2.start v6.2.layout v6.2.items) ([43] : Tx)).bind fun v7 =>
 v7.go (fun x_5 =>
 some (.ok ((xg.mk 6 ([] : Tx) (S4.mk 0 0 0 0) x_2.1 (vj x_3.1.Bytes)), (za.mk x_5.l_ x_5.at_ (zY.mk x_5.d.Start x_5.d.Layout r_.d.Prods r_.d.Chains r_.d.Follows r_.d.Rejects r_.d.Boxes) x_5.start x_5.layout x_5.items))))
 (fun y_5 =>
 some (.pan y_5)))
 (fun y_4 =>
 some (.pan y_4))
def qd.reader_sym (r_ : za) : Option (Pn (xg × za) Fault) :=
 if xf r_.at_ r_.l_.length then
 if (((at_ r_.l_ r_.at_).Kind) == 4) then
 (qd.reader_kind r_ 4).bind fun v =>
 v.go (fun x_ =>
 some (.ok ((xg.mk 1 (vj x_.1.Bytes) (S4.mk 0 0 0 0) ([] : Tx) ([] : Tx)), (za.mk x_.2.l_ x_.2.at_ (zY.mk x_.2.d.Start x_.2.d.Layout r_.d.Prods r_.d.Chains r_.d.Follows r_.d.Rejects r_.d.Boxes) x_.2.start x_.2.layout x_.2.items))))
 (fun y_ =>
 some (.pan y_))
 else
 (qd.reader_take r_ ([123] : Tx)).bind fun v1 =>
 if !v1.1 then
 (qd.reader_part (za.mk v1.2.l_ v1.2.at_ (zY.mk v1.2.d.Start v1.2.d.Layout r_.d.Prods r_.d.Chains r_.d.Follows r_.d.Rejects r_.d.Boxes) v1.2.start v1.2.layout v1.2.items)).bind fun v2 =>
 v2.go (fun x_1 =>
 some (.ok (x_1.1, (za.mk x_1.2.l_ x_1.2.at_ (zY.mk x_1.2.d.Start x_1.2.d.Layout r_.d.Prods r_.d.Chains r_.d.Follows r_.d.Rejects r_.d.Boxes) x_1.2.start x_1.2.layout x_1.2.items))))
 (fun y_1 =>
 some (.pan y_1))
 else
 (qd.reader_name (za.mk v1.2.l_ v1.2.at_ (zY.mk v1.2.d.Start v1.2.d.Layout r_.d.Prods r_.d.Chains r_.d.Follows r_.d.Rejects r_.d.Boxes) v1.2.start v1.2.layout v1.2.items)).bind fun v3 =>
 v3.go (fun x_2 =>
 (qd.reader_kind (za.mk x_2.2.l_ x_2.2.at_ (zY.mk x_2.2.d.Start x_2.2.d.Layout r_.d.Prods r_.d.Chains r_.d.Follows r_.d.Rejects r_.d.Boxes) x_2.2.start x_2.2.layout x_2.2.items) 4).bind fun v4 =>
 v4.go (fun x_3 =>
 if ((x_3.1.Bytes.length : Int) == 0) then
 (qd.fail x_3.1 30).bind fun v8 =>
 v8.go (fun x_6 =>
 qd.reader_sym_j1 x_3 r_ x_2)
 (fun y_6 =>
 some (.pan y_6))
 else
 qd.reader_sym_j1 x_3 r_ x_2)
 (fun y_3 =>
 some (.pan y_3)))
 (fun y_2 =>
 some (.pan y_2))
 else none
def qd.reader_syms_j2 (rec_1 : List xg -> List zg -> Int -> Tx -> Tx -> Bool -> Bool -> Int -> Option (LR Unit (Pn (List xg × za) Fault))) (out_1 : List xg) (l__1 : List zg) (at__1 : Int) (q1_1 : Tx) (q2_1 : Tx) (q8_1 : Bool) (q9_1 : Bool) (q0_1 : Int) : Option (LR Unit (Pn (List xg × za) Fault)) :=
 rec_1 out_1 l__1 at__1 q1_1 q2_1 q8_1 q9_1 q0_1
def qd.reader_syms_j4 (l__ : List zg) (at__ : Int) (q1 : Tx) (q2 : Tx) (r_ : za) (q8 : Bool) (q9 : Bool) (q0 : Int) (out_ : List xg) (rec_1 : List xg -> List zg -> Int -> Tx -> Tx -> Bool -> Bool -> Int -> Option (LR Unit (Pn (List xg × za) Fault))) : Option (LR Unit (Pn (List xg × za) Fault)) :=
 (qd.reader_sym (za.mk l__ at__ (zY.mk q1 q2 r_.d.Prods r_.d.Chains r_.d.Follows r_.d.Rejects r_.d.Boxes) q8 q9 q0)).bind fun v1 =>
 v1.go (fun x_1 =>
 if decide ((out_.length + ([x_1.1] : List xg).length) * 88 <= 140737488355328) then
 if decide (out_.length + ([x_1.1] : List xg).length <= 9223372036854775807) then
 qd.reader_syms_j2 rec_1 (out_ ++ ([x_1.1] : List xg)) x_1.2.l_ x_1.2.at_ x_1.2.d.Start x_1.2.d.Layout x_1.2.start x_1.2.layout x_1.2.items
 else none
 else none)
 (fun y_1 =>
 some (.ret (.pan y_1)))
def qd.reader_syms_j3 (out_ : List xg) (l__ : List zg) (at__ : Int) (q1 : Tx) (q2 : Tx) (r_ : za) (q8 : Bool) (q9 : Bool) (q0 : Int) (rec_1 : List xg -> List zg -> Int -> Tx -> Tx -> Bool -> Bool -> Int -> Option (LR Unit (Pn (List xg × za) Fault))) (t35 : Bool) : Option (LR Unit (Pn (List xg × za) Fault)) :=
 if t35 then
 some (.ret (.ok (out_, (za.mk l__ at__ (zY.mk q1 q2 r_.d.Prods r_.d.Chains r_.d.Follows r_.d.Rejects r_.d.Boxes) q8 q9 q0))))
 else
 if ((out_.length : Int) == 12) then
 (qd.fail (at_ l__ at__) 2).bind fun v2 =>
 v2.go (fun x_2 =>
 qd.reader_syms_j4 l__ at__ q1 q2 r_ q8 q9 q0 out_ rec_1)
 (fun y_2 =>
 some (.ret (.pan y_2)))
 else
 qd.reader_syms_j4 l__ at__ q1 q2 r_ q8 q9 q0 out_ rec_1
def qd.reader_syms_l1 (r_ : za) : Nat -> List xg -> List zg -> Int -> Tx -> Tx -> Bool -> Bool -> Int -> Option (LR Unit (Pn (List xg × za) Fault))
 | 0, _, _, _, _, _, _, _, _ => none
 | j + 1, out_, l__, at__, q1, q2, q8, q9, q0 =>
  if xf at__ l__.length then
  if (((at_ l__ at__).Kind) != 4) then
  if (((at_ l__ at__).Kind) != 1) then
  if (((at_ l__ at__).Kind) != 5) then
  (qd.reader_is (za.mk l__ at__ (zY.mk q1 q2 r_.d.Prods r_.d.Chains r_.d.Follows r_.d.Rejects r_.d.Boxes) q8 q9 q0) ([123] : Tx)).bind fun v3 =>
  qd.reader_syms_j3 out_ l__ at__ q1 q2 r_ q8 q9 q0 (qd.reader_syms_l1 r_ j) (!v3)
  else
  qd.reader_syms_j3 out_ l__ at__ q1 q2 r_ q8 q9 q0 (qd.reader_syms_l1 r_ j) false
  else
  qd.reader_syms_j3 out_ l__ at__ q1 q2 r_ q8 q9 q0 (qd.reader_syms_l1 r_ j) false
  else
  qd.reader_syms_j3 out_ l__ at__ q1 q2 r_ q8 q9 q0 (qd.reader_syms_l1 r_ j) false
  else none
def qd.reader_syms (k : Nat) (r_ : za) : Option (Pn (List xg × za) Fault) :=
 (qd.reader_sym r_).bind fun v =>
 v.go (fun x_ =>
 (qd.reader_syms_l1 r_ k ([x_.1] : List xg) x_.2.l_ x_.2.at_ x_.2.d.Start x_.2.d.Layout x_.2.start x_.2.layout x_.2.items).bind fun o1 =>
 o1.fin fun d1 =>
 none)
 (fun y_ =>
 some (.pan y_))
def qd.reader_lex_j3 (rec_1 : List zg -> Int -> Tx -> Tx -> List Prod -> Bool -> Bool -> Int -> List xg -> Option (LR ((List zg) × Int × Tx × Tx × (List Prod) × Bool × Bool × Int × (List xg)) (Pn za Fault))) (l__2 : List zg) (at__2 : Int) (q1_2 : Tx) (q2_2 : Tx) (q3_1 : List Prod) (q8_2 : Bool) (q9_2 : Bool) (q0_2 : Int) (Syms_1 : List xg) : Option (LR ((List zg) × Int × Tx × Tx × (List Prod) × Bool × Bool × Int × (List xg)) (Pn za Fault)) :=
 rec_1 l__2 at__2 q1_2 q2_2 q3_1 q8_2 q9_2 q0_2 Syms_1
def qd.reader_lex_j4 (x_3 : List xg × za) (q3 : List Prod) (x_1 : Tx × za) (Cons_ : Tx) (r_ : za) (rec_1 : List zg -> Int -> Tx -> Tx -> List Prod -> Bool -> Bool -> Int -> List xg -> Option (LR ((List zg) × Int × Tx × Tx × (List Prod) × Bool × Bool × Int × (List xg)) (Pn za Fault))) : Option (LR ((List zg) × Int × Tx × Tx × (List Prod) × Bool × Bool × Int × (List xg)) (Pn za Fault)) :=
 (qd.reader_is (za.mk x_3.2.l_ x_3.2.at_ (zY.mk x_3.2.d.Start x_3.2.d.Layout (q3 ++ ([(Prod.mk true x_1.1 Cons_ false x_3.1)] : List Prod)) r_.d.Chains r_.d.Follows r_.d.Rejects r_.d.Boxes) x_3.2.start x_3.2.layout x_3.2.items) ([124] : Tx)).bind fun v5 =>
 if !v5 then
 some (.done (x_3.2.l_, x_3.2.at_, x_3.2.d.Start, x_3.2.d.Layout, (q3 ++ ([(Prod.mk true x_1.1 Cons_ false x_3.1)] : List Prod)), x_3.2.start, x_3.2.layout, x_3.2.items, x_3.1))
 else
 if xf x_3.2.at_ x_3.2.l_.length then
 (qd.reader_room (za.mk x_3.2.l_ x_3.2.at_ (zY.mk x_3.2.d.Start x_3.2.d.Layout (q3 ++ ([(Prod.mk true x_1.1 Cons_ false x_3.1)] : List Prod)) r_.d.Chains r_.d.Follows r_.d.Rejects r_.d.Boxes) x_3.2.start x_3.2.layout x_3.2.items) (at_ x_3.2.l_ x_3.2.at_)).bind fun v6 =>
 v6.go (fun x_4 =>
 qd.reader_lex_j3 rec_1 x_3.2.l_ (IntKind.wrap .i64 (x_3.2.at_ + 1)) x_3.2.d.Start x_3.2.d.Layout (q3 ++ ([(Prod.mk true x_1.1 Cons_ false x_3.1)] : List Prod)) x_3.2.start x_3.2.layout x_3.2.items x_3.1)
 (fun y_4 =>
 some (.ret (.pan y_4)))
 else none
def qd.reader_lex_l2 (k : Nat) (r_ : za) (x_1 : Tx × za) (Cons_ : Tx) : Nat -> List zg -> Int -> Tx -> Tx -> List Prod -> Bool -> Bool -> Int -> List xg -> Option (LR ((List zg) × Int × Tx × Tx × (List Prod) × Bool × Bool × Int × (List xg)) (Pn za Fault))
 | 0, _, _, _, _, _, _, _, _, _ => none
 | j + 1, l__1, at__1, q1_1, q2_1, q3, q8_1, q9_1, q0_1, Syms_ =>
  (qd.reader_syms k (za.mk l__1 at__1 (zY.mk q1_1 q2_1 q3 r_.d.Chains r_.d.Follows r_.d.Rejects r_.d.Boxes) q8_1 q9_1 q0_1)).bind fun v4 =>
  v4.go (fun x_3 =>
  if decide ((q3.length + ([(Prod.mk true x_1.1 Cons_ false x_3.1)] : List Prod).length) * 72 <= 140737488355328) then
  if decide (q3.length + ([(Prod.mk true x_1.1 Cons_ false x_3.1)] : List Prod).length <= 9223372036854775807) then
  qd.reader_lex_j4 x_3 q3 x_1 Cons_ r_ (qd.reader_lex_l2 k r_ x_1 Cons_ j)
  else none
  else none)
  (fun y_3 =>
  some (.ret (.pan y_3)))
def qd.reader_lex_j1 (k : Nat) (r_ : za) (x_1 : Tx × za) (l__ : List zg) (at__ : Int) (q1 : Tx) (q2 : Tx) (q8 : Bool) (q9 : Bool) (q0 : Int) (Cons_ : Tx) : Option (Pn za Fault) :=
 (qd.reader_want (za.mk l__ at__ (zY.mk q1 q2 r_.d.Prods r_.d.Chains r_.d.Follows r_.d.Rejects r_.d.Boxes) q8 q9 q0) ([61] : Tx)).bind fun v3 =>
 v3.go (fun x_2 =>
 (qd.reader_lex_l2 k r_ x_1 Cons_ k x_2.l_ x_2.at_ x_2.d.Start x_2.d.Layout r_.d.Prods x_2.start x_2.layout x_2.items ([] : List xg)).bind fun o2 =>
 o2.fin fun d2 =>
 (qd.reader_want (za.mk d2.1 d2.2.1 (zY.mk d2.2.2.1 d2.2.2.2.1 d2.2.2.2.2.1 r_.d.Chains r_.d.Follows r_.d.Rejects r_.d.Boxes) d2.2.2.2.2.2.1 d2.2.2.2.2.2.2.1 d2.2.2.2.2.2.2.2.1) ([59] : Tx)).bind fun v7 =>
 v7.go (fun x_5 =>
 some (.ok (za.mk x_5.l_ x_5.at_ (zY.mk x_5.d.Start x_5.d.Layout d2.2.2.2.2.1 r_.d.Chains r_.d.Follows r_.d.Rejects r_.d.Boxes) x_5.start x_5.layout x_5.items)))
 (fun y_5 =>
 some (.pan y_5)))
 (fun y_2 =>
 some (.pan y_2))
def qd.reader_lex (k : Nat) (r_ : za) (first : zg) : Option (Pn za Fault) :=
 (qd.reader_room r_ first).bind fun v =>
 v.go (fun x_ =>
 (qd.reader_name r_).bind fun v1 =>
 v1.go (fun x_1 =>
 (qd.reader_take (za.mk x_1.2.l_ x_1.2.at_ (zY.mk x_1.2.d.Start x_1.2.d.Layout r_.d.Prods r_.d.Chains r_.d.Follows r_.d.Rejects r_.d.Boxes) x_1.2.start x_1.2.layout x_1.2.items) ([46] : Tx)).bind fun v2 =>
 if v2.1 then
 (qd.reader_name (za.mk v2.2.l_ v2.2.at_ (zY.mk v2.2.d.Start v2.2.d.Layout r_.d.Prods r_.d.Chains r_.d.Follows r_.d.Rejects r_.d.Boxes) v2.2.start v2.2.layout v2.2.items)).bind fun v8 =>
 v8.go (fun x_6 =>
 qd.reader_lex_j1 k r_ x_1 x_6.2.l_ x_6.2.at_ x_6.2.d.Start x_6.2.d.Layout x_6.2.start x_6.2.layout x_6.2.items x_6.1)
 (fun y_6 =>
 some (.pan y_6))
 else
 qd.reader_lex_j1 k r_ x_1 v2.2.l_ v2.2.at_ v2.2.d.Start v2.2.d.Layout v2.2.start v2.2.layout v2.2.items ([] : Tx))
 (fun y_1 =>
 some (.pan y_1)))
 (fun y_ =>
 some (.pan y_))
def qd.reader_cf_j2 (r_ : za) (x_1 : Tx × za) (Cons_ : Tx) (x_3 : List xg × za) (l__1 : List zg) (at__1 : Int) (q1_1 : Tx) (q2_1 : Tx) (q8_1 : Bool) (q9_1 : Bool) (q0_1 : Int) (Bracket_ : Bool) : Option (Pn za Fault) :=
 (qd.reader_want (za.mk l__1 at__1 (zY.mk q1_1 q2_1 r_.d.Prods r_.d.Chains r_.d.Follows r_.d.Rejects r_.d.Boxes) q8_1 q9_1 q0_1) ([59] : Tx)).bind fun v5 =>
 v5.go (fun x_4 =>
 if decide ((r_.d.Prods.length + ([(Prod.mk false x_1.1 Cons_ Bracket_ x_3.1)] : List Prod).length) * 72 <= 140737488355328) then
 if decide (r_.d.Prods.length + ([(Prod.mk false x_1.1 Cons_ Bracket_ x_3.1)] : List Prod).length <= 9223372036854775807) then
 some (.ok (za.mk x_4.l_ x_4.at_ (zY.mk x_4.d.Start x_4.d.Layout (r_.d.Prods ++ ([(Prod.mk false x_1.1 Cons_ Bracket_ x_3.1)] : List Prod)) r_.d.Chains r_.d.Follows r_.d.Rejects r_.d.Boxes) x_4.start x_4.layout x_4.items))
 else none
 else none)
 (fun y_4 =>
 some (.pan y_4))
def qd.reader_cf_j1 (k : Nat) (r_ : za) (x_1 : Tx × za) (l__ : List zg) (at__ : Int) (q1 : Tx) (q2 : Tx) (q8 : Bool) (q9 : Bool) (q0 : Int) (Cons_ : Tx) : Option (Pn za Fault) :=
 (qd.reader_want (za.mk l__ at__ (zY.mk q1 q2 r_.d.Prods r_.d.Chains r_.d.Follows r_.d.Rejects r_.d.Boxes) q8 q9 q0) ([61] : Tx)).bind fun v3 =>
 v3.go (fun x_2 =>
 (qd.reader_syms k (za.mk x_2.l_ x_2.at_ (zY.mk x_2.d.Start x_2.d.Layout r_.d.Prods r_.d.Chains r_.d.Follows r_.d.Rejects r_.d.Boxes) x_2.start x_2.layout x_2.items)).bind fun v4 =>
 v4.go (fun x_3 =>
 if (Cons_ == ([] : Tx)) then
 (qd.reader_want (za.mk x_3.2.l_ x_3.2.at_ (zY.mk x_3.2.d.Start x_3.2.d.Layout r_.d.Prods r_.d.Chains r_.d.Follows r_.d.Rejects r_.d.Boxes) x_3.2.start x_3.2.layout x_3.2.items) ([98, 114, 97, 99, 107, 101, 116] : Tx)).bind fun v6 =>
 v6.go (fun x_5 =>
 qd.reader_cf_j2 r_ x_1 Cons_ x_3 x_5.l_ x_5.at_ x_5.d.Start x_5.d.Layout x_5.start x_5.layout x_5.items true)
 (fun y_5 =>
 some (.pan y_5))
 else
 qd.reader_cf_j2 r_ x_1 Cons_ x_3 x_3.2.l_ x_3.2.at_ x_3.2.d.Start x_3.2.d.Layout x_3.2.start x_3.2.layout x_3.2.items false)
 (fun y_3 =>
 some (.pan y_3)))
 (fun y_2 =>
 some (.pan y_2))
def qd.reader_cf (k : Nat) (r_ : za) (first : zg) : Option (Pn za Fault) :=
 (qd.reader_room r_ first).bind fun v =>
 v.go (fun x_ =>
 (qd.reader_name r_).bind fun v1 =>
 v1.go (fun x_1 =>
 (qd.reader_take (za.mk x_1.2.l_ x_1.2.at_ (zY.mk x_1.2.d.Start x_1.2.d.Layout r_.d.Prods r_.d.Chains r_.d.Follows r_.d.Rejects r_.d.Boxes) x_1.2.start x_1.2.layout x_1.2.items) ([46] : Tx)).bind fun v2 =>
 if v2.1 then
 (qd.reader_name (za.mk v2.2.l_ v2.2.at_ (zY.mk v2.2.d.Start v2.2.d.Layout r_.d.Prods r_.d.Chains r_.d.Follows r_.d.Rejects r_.d.Boxes) v2.2.start v2.2.layout v2.2.items)).bind fun v7 =>
 v7.go (fun x_6 =>
 qd.reader_cf_j1 k r_ x_1 x_6.2.l_ x_6.2.at_ x_6.2.d.Start x_6.2.d.Layout x_6.2.start x_6.2.layout x_6.2.items x_6.1)
 (fun y_6 =>
 some (.pan y_6))
 else
 qd.reader_cf_j1 k r_ x_1 v2.2.l_ v2.2.at_ v2.2.d.Start v2.2.d.Layout v2.2.start v2.2.layout v2.2.items ([] : Tx))
 (fun y_1 =>
 some (.pan y_1)))
 (fun y_ =>
 some (.pan y_))
def qd.reader_group_l1 (r_ : za) : Nat -> Int -> List zg -> Int -> Tx -> Tx -> Bool -> Bool -> Int -> Option ((List zg) × Int × Tx × Tx × Bool × Bool × Int × Int)
 | 0, _, _, _, _, _, _, _, _ => none
 | j + 1, t9, l__, at__, q1, q2, q8, q9, q0 =>
  if decide (t9 < (([([108, 101, 102, 116] : Tx), ([114, 105, 103, 104, 116] : Tx), ([110, 111, 110] : Tx)] : List Tx).length : Int)) then
  if xf t9 ([([108, 101, 102, 116] : Tx), ([114, 105, 103, 104, 116] : Tx), ([110, 111, 110] : Tx)] : List Tx).length then
  (qd.reader_take (za.mk l__ at__ (zY.mk q1 q2 r_.d.Prods r_.d.Chains r_.d.Follows r_.d.Rejects r_.d.Boxes) q8 q9 q0) (at_ ([([108, 101, 102, 116] : Tx), ([114, 105, 103, 104, 116] : Tx), ([110, 111, 110] : Tx)] : List Tx) t9)).bind fun v =>
  if v.1 then
  some (v.2.l_, v.2.at_, v.2.d.Start, v.2.d.Layout, v.2.start, v.2.layout, v.2.items, IntKind.wrap .i64 (t9 + 1))
  else
  (qd.reader_group_l1 r_ j) (IntKind.wrap .i64 (t9 + 1)) v.2.l_ v.2.at_ v.2.d.Start v.2.d.Layout v.2.start v.2.layout v.2.items
  else none
  else
  some (l__, at__, q1, q2, q8, q9, q0, 0)
def qd.reader_group_j4 (rec_2 : List zg -> Int -> Tx -> Tx -> Bool -> Bool -> Int -> List Tx -> Option (LR ((List zg) × Int × Tx × Tx × Bool × Bool × Int × (List Tx)) (Pn (zw × za) Fault))) (l__3 : List zg) (at__3 : Int) (q1_3 : Tx) (q2_3 : Tx) (q8_3 : Bool) (q9_3 : Bool) (q0_3 : Int) (Cons_2 : List Tx) : Option (LR ((List zg) × Int × Tx × Tx × Bool × Bool × Int × (List Tx)) (Pn (zw × za) Fault)) :=
 rec_2 l__3 at__3 q1_3 q2_3 q8_3 q9_3 q0_3 Cons_2
def qd.reader_group_j6 (rec_2 : List zg -> Int -> Tx -> Tx -> Bool -> Bool -> Int -> List Tx -> Option (LR ((List zg) × Int × Tx × Tx × Bool × Bool × Int × (List Tx)) (Pn (zw × za) Fault))) (l__4 : List zg) (at__4 : Int) (q1_4 : Tx) (q2_4 : Tx) (q8_4 : Bool) (q9_4 : Bool) (q0_4 : Int) (Cons_3 : List Tx) : Option (LR ((List zg) × Int × Tx × Tx × Bool × Bool × Int × (List Tx)) (Pn (zw × za) Fault)) :=
 qd.reader_group_j4 rec_2 l__4 at__4 q1_4 q2_4 q8_4 q9_4 q0_4 Cons_3
def qd.reader_group_j5 (l__2 : List zg) (at__2 : Int) (q1_2 : Tx) (q2_2 : Tx) (r_ : za) (q8_2 : Bool) (q9_2 : Bool) (q0_2 : Int) (Cons_1 : List Tx) (rec_2 : List zg -> Int -> Tx -> Tx -> Bool -> Bool -> Int -> List Tx -> Option (LR ((List zg) × Int × Tx × Tx × Bool × Bool × Int × (List Tx)) (Pn (zw × za) Fault))) : Option (LR ((List zg) × Int × Tx × Tx × Bool × Bool × Int × (List Tx)) (Pn (zw × za) Fault)) :=
 (qd.reader_name (za.mk l__2 at__2 (zY.mk q1_2 q2_2 r_.d.Prods r_.d.Chains r_.d.Follows r_.d.Rejects r_.d.Boxes) q8_2 q9_2 q0_2)).bind fun v1 =>
 v1.go (fun x_ =>
 if decide ((Cons_1.length + ([x_.1] : List Tx).length) * 16 <= 140737488355328) then
 if decide (Cons_1.length + ([x_.1] : List Tx).length <= 9223372036854775807) then
 qd.reader_group_j6 rec_2 x_.2.l_ x_.2.at_ x_.2.d.Start x_.2.d.Layout x_.2.start x_.2.layout x_.2.items (Cons_1 ++ ([x_.1] : List Tx))
 else none
 else none)
 (fun y_ =>
 some (.ret (.pan y_)))
def qd.reader_group_l3 (r_ : za) : Nat -> List zg -> Int -> Tx -> Tx -> Bool -> Bool -> Int -> List Tx -> Option (LR ((List zg) × Int × Tx × Tx × Bool × Bool × Int × (List Tx)) (Pn (zw × za) Fault))
 | 0, _, _, _, _, _, _, _, _ => none
 | j + 1, l__2, at__2, q1_2, q2_2, q8_2, q9_2, q0_2, Cons_1 =>
  if xf at__2 l__2.length then
  if (((at_ l__2 at__2).Kind) == 1) then
  if ((Cons_1.length : Int) == 16) then
  (qd.fail (at_ l__2 at__2) 2).bind fun v2 =>
  v2.go (fun x_1 =>
  qd.reader_group_j5 l__2 at__2 q1_2 q2_2 r_ q8_2 q9_2 q0_2 Cons_1 (qd.reader_group_l3 r_ j))
  (fun y_1 =>
  some (.ret (.pan y_1)))
  else
  qd.reader_group_j5 l__2 at__2 q1_2 q2_2 r_ q8_2 q9_2 q0_2 Cons_1 (qd.reader_group_l3 r_ j)
  else
  some (.done (l__2, at__2, q1_2, q2_2, q8_2, q9_2, q0_2, Cons_1))
  else none
def qd.reader_group_j2 (k : Nat) (r_ : za) (o1 : (List zg) × Int × Tx × Tx × Bool × Bool × Int × Int) (l__1 : List zg) (at__1 : Int) (q1_1 : Tx) (q2_1 : Tx) (q8_1 : Bool) (q9_1 : Bool) (q0_1 : Int) (Cons_ : List Tx) : Option (Pn (zw × za) Fault) :=
 (qd.reader_group_l3 r_ k l__1 at__1 q1_1 q2_1 q8_1 q9_1 q0_1 Cons_).bind fun o3 =>
 o3.fin fun d3 =>
 some (.ok ((zw.mk o1.2.2.2.2.2.2.2 d3.2.2.2.2.2.2.2), (za.mk d3.1 d3.2.1 (zY.mk d3.2.2.1 d3.2.2.2.1 r_.d.Prods r_.d.Chains r_.d.Follows r_.d.Rejects r_.d.Boxes) d3.2.2.2.2.1 d3.2.2.2.2.2.1 d3.2.2.2.2.2.2.1)))
def qd.reader_group (k : Nat) (r_ : za) : Option (Pn (zw × za) Fault) :=
 (qd.reader_group_l1 r_ k 0 r_.l_ r_.at_ r_.d.Start r_.d.Layout r_.start r_.layout r_.items).bind fun o1 =>
 (qd.reader_name (za.mk o1.1 o1.2.1 (zY.mk o1.2.2.1 o1.2.2.2.1 r_.d.Prods r_.d.Chains r_.d.Follows r_.d.Rejects r_.d.Boxes) o1.2.2.2.2.1 o1.2.2.2.2.2.1 o1.2.2.2.2.2.2.1)).bind fun v3 =>
 v3.go (fun x_2 =>
 if decide ((([] : List Tx).length + ([x_2.1] : List Tx).length) * 16 <= 140737488355328) then
 if decide (([] : List Tx).length + ([x_2.1] : List Tx).length <= 9223372036854775807) then
 qd.reader_group_j2 k r_ o1 x_2.2.l_ x_2.2.at_ x_2.2.d.Start x_2.2.d.Layout x_2.2.start x_2.2.layout x_2.2.items (([] : List Tx) ++ ([x_2.1] : List Tx))
 else none
 else none)
 (fun y_2 =>
 some (.pan y_2))
def qd.reader_prio_j2 (rec_1 : List zw -> List zg -> Int -> Tx -> Tx -> Bool -> Bool -> Int -> Option (LR ((List zw) × (List zg) × Int × Tx × Tx × Bool × Bool × Int) (Pn za Fault))) (l__2 : List zw) (l__3 : List zg) (at__1 : Int) (q1_1 : Tx) (q2_1 : Tx) (q8_1 : Bool) (q9_1 : Bool) (q0_1 : Int) : Option (LR ((List zw) × (List zg) × Int × Tx × Tx × Bool × Bool × Int) (Pn za Fault)) :=
 rec_1 l__2 l__3 at__1 q1_1 q2_1 q8_1 q9_1 q0_1
def qd.reader_prio_j3 (k : Nat) (v1 : Bool × za) (r_ : za) (l__ : List zw) (rec_1 : List zw -> List zg -> Int -> Tx -> Tx -> Bool -> Bool -> Int -> Option (LR ((List zw) × (List zg) × Int × Tx × Tx × Bool × Bool × Int) (Pn za Fault))) : Option (LR ((List zw) × (List zg) × Int × Tx × Tx × Bool × Bool × Int) (Pn za Fault)) :=
 (qd.reader_group k (za.mk v1.2.l_ v1.2.at_ (zY.mk v1.2.d.Start v1.2.d.Layout r_.d.Prods r_.d.Chains r_.d.Follows r_.d.Rejects r_.d.Boxes) v1.2.start v1.2.layout v1.2.items)).bind fun v2 =>
 v2.go (fun x_1 =>
 if decide ((l__.length + ([x_1.1] : List zw).length) * 32 <= 140737488355328) then
 if decide (l__.length + ([x_1.1] : List zw).length <= 9223372036854775807) then
 qd.reader_prio_j2 rec_1 (l__ ++ ([x_1.1] : List zw)) x_1.2.l_ x_1.2.at_ x_1.2.d.Start x_1.2.d.Layout x_1.2.start x_1.2.layout x_1.2.items
 else none
 else none)
 (fun y_1 =>
 some (.ret (.pan y_1)))
def qd.reader_prio_l1 (k : Nat) (r_ : za) : Nat -> List zw -> List zg -> Int -> Tx -> Tx -> Bool -> Bool -> Int -> Option (LR ((List zw) × (List zg) × Int × Tx × Tx × Bool × Bool × Int) (Pn za Fault))
 | 0, _, _, _, _, _, _, _, _ => none
 | j + 1, l__, l__1, at__, q1, q2, q8, q9, q0 =>
  (qd.reader_take (za.mk l__1 at__ (zY.mk q1 q2 r_.d.Prods r_.d.Chains r_.d.Follows r_.d.Rejects r_.d.Boxes) q8 q9 q0) ([62] : Tx)).bind fun v1 =>
  if v1.1 then
  if ((l__.length : Int) == 16) then
  if xf v1.2.at_ v1.2.l_.length then
  (qd.fail (at_ v1.2.l_ v1.2.at_) 2).bind fun v3 =>
  v3.go (fun x_2 =>
  qd.reader_prio_j3 k v1 r_ l__ (qd.reader_prio_l1 k r_ j))
  (fun y_2 =>
  some (.ret (.pan y_2)))
  else none
  else
  qd.reader_prio_j3 k v1 r_ l__ (qd.reader_prio_l1 k r_ j)
  else
  some (.done (l__, v1.2.l_, v1.2.at_, v1.2.d.Start, v1.2.d.Layout, v1.2.start, v1.2.layout, v1.2.items))
def qd.reader_prio (k : Nat) (r_ : za) (p1 : zg) : Option (Pn za Fault) :=
 (qd.reader_group k r_).bind fun v =>
 v.go (fun x_ =>
 (qd.reader_prio_l1 k r_ k ([x_.1] : List zw) x_.2.l_ x_.2.at_ x_.2.d.Start x_.2.d.Layout x_.2.start x_.2.layout x_.2.items).bind fun o1 =>
 o1.fin fun d1 =>
 (qd.reader_want (za.mk d1.2.1 d1.2.2.1 (zY.mk d1.2.2.2.1 d1.2.2.2.2.1 r_.d.Prods r_.d.Chains r_.d.Follows r_.d.Rejects r_.d.Boxes) d1.2.2.2.2.2.1 d1.2.2.2.2.2.2.1 d1.2.2.2.2.2.2.2) ([59] : Tx)).bind fun v4 =>
 v4.go (fun x_3 =>
 if decide ((r_.d.Chains.length + ([d1.1] : List (List zw)).length) * 24 <= 140737488355328) then
 if decide (r_.d.Chains.length + ([d1.1] : List (List zw)).length <= 9223372036854775807) then
 some (.ok (za.mk x_3.l_ x_3.at_ (zY.mk x_3.d.Start x_3.d.Layout r_.d.Prods (r_.d.Chains ++ ([d1.1] : List (List zw))) r_.d.Follows r_.d.Rejects r_.d.Boxes) x_3.start x_3.layout x_3.items))
 else none
 else none)
 (fun y_3 =>
 some (.pan y_3)))
 (fun y_ =>
 some (.pan y_))
def qd.reader_all_c3_j1 (free : za) (l__ : List zg) (at__ : Int) (q1 : Tx) (q2 : Tx) (q5 : List Follow) (q8 : Bool) (q9 : Bool) (q0 : Int) : Option (Pn za Fault) :=
 (qd.reader_want (za.mk l__ at__ (zY.mk q1 q2 free.d.Prods free.d.Chains q5 free.d.Rejects free.d.Boxes) q8 q9 q0) ([59] : Tx)).bind fun v1 =>
 v1.go (fun x_1 =>
 some (.ok (za.mk x_1.l_ x_1.at_ (zY.mk x_1.d.Start x_1.d.Layout free.d.Prods free.d.Chains q5 free.d.Rejects free.d.Boxes) x_1.start x_1.layout x_1.items)))
 (fun y_1 =>
 some (.pan y_1))
def qd.reader_all_c3 (p0 : zg) (free : za) : Option (Pn za Fault) :=
 (qd.reader_name free).bind fun v =>
 v.go (fun x_ =>
 (qd.reader_kind (za.mk x_.2.l_ x_.2.at_ (zY.mk x_.2.d.Start x_.2.d.Layout free.d.Prods free.d.Chains free.d.Follows free.d.Rejects free.d.Boxes) x_.2.start x_.2.layout x_.2.items) 5).bind fun v2 =>
 v2.go (fun x_2 =>
 if decide ((free.d.Follows.length + ([(Follow.mk x_.1 x_2.1.Set)] : List Follow).length) * 48 <= 140737488355328) then
 if decide (free.d.Follows.length + ([(Follow.mk x_.1 x_2.1.Set)] : List Follow).length <= 9223372036854775807) then
 qd.reader_all_c3_j1 free x_2.2.l_ x_2.2.at_ x_2.2.d.Start x_2.2.d.Layout (free.d.Follows ++ ([(Follow.mk x_.1 x_2.1.Set)] : List Follow)) x_2.2.start x_2.2.layout x_2.2.items
 else none
 else none)
 (fun y_2 =>
 some (.pan y_2)))
 (fun y_ =>
 some (.pan y_))
def qd.reader_all_c4_j1 (free : za) (l__ : List zg) (at__ : Int) (q1 : Tx) (q2 : Tx) (q6 : List zz) (q8 : Bool) (q9 : Bool) (q0 : Int) : Option (Pn za Fault) :=
 (qd.reader_want (za.mk l__ at__ (zY.mk q1 q2 free.d.Prods free.d.Chains free.d.Follows q6 free.d.Boxes) q8 q9 q0) ([59] : Tx)).bind fun v1 =>
 v1.go (fun x_1 =>
 some (.ok (za.mk x_1.l_ x_1.at_ (zY.mk x_1.d.Start x_1.d.Layout free.d.Prods free.d.Chains free.d.Follows q6 free.d.Boxes) x_1.start x_1.layout x_1.items)))
 (fun y_1 =>
 some (.pan y_1))
def qd.reader_all_c4 (p0 : zg) (free : za) : Option (Pn za Fault) :=
 (qd.reader_name free).bind fun v =>
 v.go (fun x_ =>
 (qd.reader_name (za.mk x_.2.l_ x_.2.at_ (zY.mk x_.2.d.Start x_.2.d.Layout free.d.Prods free.d.Chains free.d.Follows free.d.Rejects free.d.Boxes) x_.2.start x_.2.layout x_.2.items)).bind fun v2 =>
 v2.go (fun x_2 =>
 if decide ((free.d.Rejects.length + ([(zz.mk x_.1 x_2.1)] : List zz).length) * 32 <= 140737488355328) then
 if decide (free.d.Rejects.length + ([(zz.mk x_.1 x_2.1)] : List zz).length <= 9223372036854775807) then
 qd.reader_all_c4_j1 free x_2.2.l_ x_2.2.at_ x_2.2.d.Start x_2.2.d.Layout (free.d.Rejects ++ ([(zz.mk x_.1 x_2.1)] : List zz)) x_2.2.start x_2.2.layout x_2.2.items
 else none
 else none)
 (fun y_2 =>
 some (.pan y_2)))
 (fun y_ =>
 some (.pan y_))
def qd.reader_list_l1 (g120 : za -> Option (Pn (Item × Bool × za) Fault)) (r_ : za) : Nat -> List Item -> List zg -> Int -> Tx -> Tx -> Bool -> Bool -> Int -> Option (LR Unit (Pn (List Item × za) Fault))
 | 0, _, _, _, _, _, _, _, _ => none
 | j + 1, out_, l__, at__, q1, q2, q8, q9, q0 =>
  (g120 (za.mk l__ at__ (zY.mk q1 q2 r_.d.Prods r_.d.Chains r_.d.Follows r_.d.Rejects r_.d.Boxes) q8 q9 q0)).bind fun v =>
  v.go (fun x_ =>
  if !x_.2.1 then
  some (.ret (.ok (out_, (za.mk x_.2.2.l_ x_.2.2.at_ (zY.mk x_.2.2.d.Start x_.2.2.d.Layout r_.d.Prods r_.d.Chains r_.d.Follows r_.d.Rejects r_.d.Boxes) x_.2.2.start x_.2.2.layout x_.2.2.items))))
  else
  if decide ((out_.length + ([x_.1] : List Item).length) * 56 <= 140737488355328) then
  if decide (out_.length + ([x_.1] : List Item).length <= 9223372036854775807) then
  (qd.reader_list_l1 g120 r_ j) (out_ ++ ([x_.1] : List Item)) x_.2.2.l_ x_.2.2.at_ x_.2.2.d.Start x_.2.2.d.Layout x_.2.2.start x_.2.2.layout x_.2.2.items
  else none
  else none)
  (fun y_ =>
  some (.ret (.pan y_)))
def qd.reader_list_B (k : Nat) (g120 : za -> Option (Pn (Item × Bool × za) Fault)) (r_ : za) : Option (Pn (List Item × za) Fault) :=
 (qd.reader_list_l1 g120 r_ k ([] : List Item) r_.l_ r_.at_ r_.d.Start r_.d.Layout r_.start r_.layout r_.items).bind fun o1 =>
 o1.fin fun d1 =>
 none
def qd.reader_item_j2 (r_ : za) (g135 : za -> Option (Pn (List Item × za) Fault)) : Option (Pn (Item × Bool × za) Fault) :=
 if (((at_ r_.l_ r_.at_).Kind) == 4) then
 (qd.reader_kind (za.mk r_.l_ r_.at_ r_.d r_.start r_.layout (IntKind.wrap .i64 (r_.items + 1))) 4).bind fun v =>
 v.go (fun x_ =>
 some (.ok ((Item.mk 1 (vj x_.1.Bytes) 0 ([] : List Item)), true, (za.mk x_.2.l_ x_.2.at_ (zY.mk x_.2.d.Start x_.2.d.Layout r_.d.Prods r_.d.Chains r_.d.Follows r_.d.Rejects r_.d.Boxes) x_.2.start x_.2.layout x_.2.items))))
 (fun y_ =>
 some (.pan y_))
 else
 if (((at_ r_.l_ r_.at_).Kind) == 3) then
 (qd.reader_kind (za.mk r_.l_ r_.at_ r_.d r_.start r_.layout (IntKind.wrap .i64 (r_.items + 1))) 3).bind fun v1 =>
 v1.go (fun x_1 =>
 some (.ok ((Item.mk 2 ([] : Tx) x_1.1.N_ ([] : List Item)), true, (za.mk x_1.2.l_ x_1.2.at_ (zY.mk x_1.2.d.Start x_1.2.d.Layout r_.d.Prods r_.d.Chains r_.d.Follows r_.d.Rejects r_.d.Boxes) x_1.2.start x_1.2.layout x_1.2.items))))
 (fun y_1 =>
 some (.pan y_1))
 else
 (qd.reader_take (za.mk r_.l_ r_.at_ r_.d r_.start r_.layout (IntKind.wrap .i64 (r_.items + 1))) ([95] : Tx)).bind fun v2 =>
 if v2.1 then
 some (.ok ((Item.mk 3 ([] : Tx) 0 ([] : List Item)), true, (za.mk v2.2.l_ v2.2.at_ (zY.mk v2.2.d.Start v2.2.d.Layout r_.d.Prods r_.d.Chains r_.d.Follows r_.d.Rejects r_.d.Boxes) v2.2.start v2.2.layout v2.2.items)))
 else
 (qd.reader_take (za.mk v2.2.l_ v2.2.at_ (zY.mk v2.2.d.Start v2.2.d.Layout r_.d.Prods r_.d.Chains r_.d.Follows r_.d.Rejects r_.d.Boxes) v2.2.start v2.2.layout v2.2.items) ([47] : Tx)).bind fun v3 =>
 if v3.1 then
 some (.ok ((Item.mk 4 ([] : Tx) 0 ([] : List Item)), true, (za.mk v3.2.l_ v3.2.at_ (zY.mk v3.2.d.Start v3.2.d.Layout r_.d.Prods r_.d.Chains r_.d.Follows r_.d.Rejects r_.d.Boxes) v3.2.start v3.2.layout v3.2.items)))
 else
 (qd.reader_take (za.mk v3.2.l_ v3.2.at_ (zY.mk v3.2.d.Start v3.2.d.Layout r_.d.Prods r_.d.Chains r_.d.Follows r_.d.Rejects r_.d.Boxes) v3.2.start v3.2.layout v3.2.items) ([110, 101, 115, 116] : Tx)).bind fun v4 =>
 if v4.1 then
 (qd.reader_kind (za.mk v4.2.l_ v4.2.at_ (zY.mk v4.2.d.Start v4.2.d.Layout r_.d.Prods r_.d.Chains r_.d.Follows r_.d.Rejects r_.d.Boxes) v4.2.start v4.2.layout v4.2.items) 3).bind fun v5 =>
 v5.go (fun x_2 =>
 (g135 (za.mk x_2.2.l_ x_2.2.at_ (zY.mk x_2.2.d.Start x_2.2.d.Layout r_.d.Prods r_.d.Chains r_.d.Follows r_.d.Rejects r_.d.Boxes) x_2.2.start x_2.2.layout x_2.2.items)).bind fun v6 =>
 v6.go (fun x_3 =>
 some (.ok ((Item.mk 5 ([] : Tx) x_2.1.N_ x_3.1), true, (za.mk x_3.2.l_ x_3.2.at_ (zY.mk x_3.2.d.Start x_3.2.d.Layout r_.d.Prods r_.d.Chains r_.d.Follows r_.d.Rejects r_.d.Boxes) x_3.2.start x_3.2.layout x_3.2.items))))
 (fun y_3 =>
 some (.pan y_3)))
 (fun y_2 =>
 some (.pan y_2))
 else
 (g135 (za.mk v4.2.l_ (IntKind.wrap .i64 (v4.2.at_ + 1)) (zY.mk v4.2.d.Start v4.2.d.Layout r_.d.Prods r_.d.Chains r_.d.Follows r_.d.Rejects r_.d.Boxes) v4.2.start v4.2.layout v4.2.items)).bind fun v7 =>
 v7.go (fun x_4 =>
 some (.ok ((Item.mk 6 ([] : Tx) 0 x_4.1), true, (za.mk x_4.2.l_ x_4.2.at_ (zY.mk x_4.2.d.Start x_4.2.d.Layout r_.d.Prods r_.d.Chains r_.d.Follows r_.d.Rejects r_.d.Boxes) x_4.2.start x_4.2.layout x_4.2.items))))
 (fun y_4 =>
 some (.pan y_4))
def qd.reader_item_j1 (r_ : za) (g135 : za -> Option (Pn (List Item × za) Fault)) (t43 : Bool) : Option (Pn (Item × Bool × za) Fault) :=
 if t43 then
 some (.ok ((Item.mk 0 ([] : Tx) 0 ([] : List Item)), false, r_))
 else
 if (r_.items == 64) then
 (qd.fail (at_ r_.l_ r_.at_) 2).bind fun v8 =>
 v8.go (fun x_5 =>
 qd.reader_item_j2 r_ g135)
 (fun y_5 =>
 some (.pan y_5))
 else
 qd.reader_item_j2 r_ g135
def qd.reader_item_B (k : Nat) (g135 : za -> Option (Pn (List Item × za) Fault)) (r_ : za) : Option (Pn (Item × Bool × za) Fault) :=
 if xf r_.at_ r_.l_.length then
 if (((at_ r_.l_ r_.at_).Kind) != 4) then
 if (((at_ r_.l_ r_.at_).Kind) != 3) then
 (qd.reader_is r_ ([95] : Tx)).bind fun v9 =>
 if !v9 then
 (qd.reader_is r_ ([47] : Tx)).bind fun v10 =>
 if !v10 then
 (qd.reader_is r_ ([110, 101, 115, 116] : Tx)).bind fun v11 =>
 if !v11 then
 (qd.reader_is r_ ([103, 114, 111, 117, 112] : Tx)).bind fun v12 =>
 qd.reader_item_j1 r_ g135 (!v12)
 else
 qd.reader_item_j1 r_ g135 false
 else
 qd.reader_item_j1 r_ g135 false
 else
 qd.reader_item_j1 r_ g135 false
 else
 qd.reader_item_j1 r_ g135 false
 else
 qd.reader_item_j1 r_ g135 false
 else none
def qd.reader_within_B (k : Nat) (g91 : za -> Option (Pn (List Item × za) Fault)) (r_ : za) : Option (Pn (List Item × za) Fault) :=
 (qd.reader_want r_ ([40] : Tx)).bind fun v =>
 v.go (fun x_ =>
 (g91 (za.mk x_.l_ x_.at_ (zY.mk x_.d.Start x_.d.Layout r_.d.Prods r_.d.Chains r_.d.Follows r_.d.Rejects r_.d.Boxes) x_.start x_.layout x_.items)).bind fun v1 =>
 v1.go (fun x_1 =>
 (qd.reader_want (za.mk x_1.2.l_ x_1.2.at_ (zY.mk x_1.2.d.Start x_1.2.d.Layout r_.d.Prods r_.d.Chains r_.d.Follows r_.d.Rejects r_.d.Boxes) x_1.2.start x_1.2.layout x_1.2.items) ([41] : Tx)).bind fun v2 =>
 v2.go (fun x_2 =>
 some (.ok (x_1.1, (za.mk x_2.l_ x_2.at_ (zY.mk x_2.d.Start x_2.d.Layout r_.d.Prods r_.d.Chains r_.d.Follows r_.d.Rejects r_.d.Boxes) x_2.start x_2.layout x_2.items))))
 (fun y_2 =>
 some (.pan y_2)))
 (fun y_1 =>
 some (.pan y_1)))
 (fun y_ =>
 some (.pan y_))
def qd.reader_list_G : Nat -> (za -> Option (Pn (List Item × za) Fault)) × (za -> Option (Pn (Item × Bool × za) Fault)) × (za -> Option (Pn (List Item × za) Fault))
 | 0 => ((fun _ => none), (fun _ => none), (fun _ => none))
 | k + 1 => (qd.reader_list_B k ((qd.reader_list_G k).2.1), qd.reader_item_B k ((qd.reader_list_G k).2.2), qd.reader_within_B k ((qd.reader_list_G k).1))
def qd.reader_list (k : Nat) : za -> Option (Pn (List Item × za) Fault) := (qd.reader_list_G k).1
def qd.reader_item (k : Nat) : za -> Option (Pn (Item × Bool × za) Fault) := (qd.reader_list_G k).2.1
def qd.reader_within (k : Nat) : za -> Option (Pn (List Item × za) Fault) := (qd.reader_list_G k).2.2
def qd.reader_all_c5 (k : Nat) (p0 : zg) (free : za) : Option (Pn za Fault) :=
 (qd.reader_name free).bind fun v =>
 v.go (fun x_ =>
 (qd.reader_want (za.mk x_.2.l_ x_.2.at_ (zY.mk x_.2.d.Start x_.2.d.Layout free.d.Prods free.d.Chains free.d.Follows free.d.Rejects free.d.Boxes) x_.2.start x_.2.layout x_.2.items) ([61] : Tx)).bind fun v1 =>
 v1.go (fun x_1 =>
 (qd.reader_list k (za.mk x_1.l_ x_1.at_ (zY.mk x_1.d.Start x_1.d.Layout free.d.Prods free.d.Chains free.d.Follows free.d.Rejects free.d.Boxes) x_1.start x_1.layout 0)).bind fun v2 =>
 v2.go (fun x_2 =>
 (qd.reader_want (za.mk x_2.2.l_ x_2.2.at_ (zY.mk x_2.2.d.Start x_2.2.d.Layout free.d.Prods free.d.Chains free.d.Follows free.d.Rejects free.d.Boxes) x_2.2.start x_2.2.layout x_2.2.items) ([59] : Tx)).bind fun v3 =>
 v3.go (fun x_3 =>
 if decide ((free.d.Boxes.length + ([(xm.mk x_.1 x_2.1)] : List xm).length) * 40 <= 140737488355328) then
 if decide (free.d.Boxes.length + ([(xm.mk x_.1 x_2.1)] : List xm).length <= 9223372036854775807) then
 some (.ok (za.mk x_3.l_ x_3.at_ (zY.mk x_3.d.Start x_3.d.Layout free.d.Prods free.d.Chains free.d.Follows free.d.Rejects (free.d.Boxes ++ ([(xm.mk x_.1 x_2.1)] : List xm))) x_3.start x_3.layout x_3.items))
 else none
 else none)
 (fun y_3 =>
 some (.pan y_3)))
 (fun y_2 =>
 some (.pan y_2)))
 (fun y_1 =>
 some (.pan y_1)))
 (fun y_ =>
 some (.pan y_))
def qd.reader_all_j2 (rec_1 : List zg -> Int -> Tx -> Tx -> List Prod -> List (List zw) -> List Follow -> List zz -> List xm -> Bool -> Bool -> Int -> Option (LR ((List zg) × Int × Tx × Tx × (List Prod) × (List (List zw)) × (List Follow) × (List zz) × (List xm) × Bool × Bool × Int) (Pn za Fault))) (l__1 : List zg) (at__1 : Int) (q1_1 : Tx) (q2_1 : Tx) (q3_1 : List Prod) (q4_1 : List (List zw)) (q5_1 : List Follow) (q6_1 : List zz) (q7_1 : List xm) (q8_1 : Bool) (q9_1 : Bool) (q0_1 : Int) : Option (LR ((List zg) × Int × Tx × Tx × (List Prod) × (List (List zw)) × (List Follow) × (List zz) × (List xm) × Bool × Bool × Int) (Pn za Fault)) :=
 rec_1 l__1 at__1 q1_1 q2_1 q3_1 q4_1 q5_1 q6_1 q7_1 q8_1 q9_1 q0_1
def qd.reader_all_j4 (l__ : List zg) (at__ : Int) (q1 : Tx) (q2 : Tx) (q3 : List Prod) (q4 : List (List zw)) (q5 : List Follow) (q6 : List zz) (q7 : List xm) (q8 : Bool) (q9 : Bool) (q0 : Int) (rec_1 : List zg -> Int -> Tx -> Tx -> List Prod -> List (List zw) -> List Follow -> List zz -> List xm -> Bool -> Bool -> Int -> Option (LR ((List zg) × Int × Tx × Tx × (List Prod) × (List (List zw)) × (List Follow) × (List zz) × (List xm) × Bool × Bool × Int) (Pn za Fault))) : Option (LR ((List zg) × Int × Tx × Tx × (List Prod) × (List (List zw)) × (List Follow) × (List zz) × (List xm) × Bool × Bool × Int) (Pn za Fault)) :=
 (qd.reader_all_c1 (at_ l__ at__) (za.mk l__ (IntKind.wrap .i64 (at__ + 1)) (zY.mk q1 q2 q3 q4 q5 q6 q7) q8 q9 q0)).bind fun v =>
 v.go (fun x_ =>
 qd.reader_all_j2 rec_1 x_.l_ x_.at_ x_.d.Start x_.d.Layout q3 q4 q5 q6 q7 x_.start x_.layout x_.items)
 (fun y_ =>
 some (.ret (.pan y_)))
def qd.reader_all_j3 (l__ : List zg) (at__ : Int) (q1 : Tx) (q2 : Tx) (q3 : List Prod) (q4 : List (List zw)) (q5 : List Follow) (q6 : List zz) (q7 : List xm) (q8 : Bool) (q9 : Bool) (q0 : Int) (rec_1 : List zg -> Int -> Tx -> Tx -> List Prod -> List (List zw) -> List Follow -> List zz -> List xm -> Bool -> Bool -> Int -> Option (LR ((List zg) × Int × Tx × Tx × (List Prod) × (List (List zw)) × (List Follow) × (List zz) × (List xm) × Bool × Bool × Int) (Pn za Fault))) (t54 : Bool) : Option (LR ((List zg) × Int × Tx × Tx × (List Prod) × (List (List zw)) × (List Follow) × (List zz) × (List xm) × Bool × Bool × Int) (Pn za Fault)) :=
 if t54 then
 (qd.fail (at_ l__ at__) 30).bind fun v1 =>
 v1.go (fun x_1 =>
 qd.reader_all_j4 l__ at__ q1 q2 q3 q4 q5 q6 q7 q8 q9 q0 rec_1)
 (fun y_1 =>
 some (.ret (.pan y_1)))
 else
 qd.reader_all_j4 l__ at__ q1 q2 q3 q4 q5 q6 q7 q8 q9 q0 rec_1
def qd.reader_all_j6 (l__ : List zg) (at__ : Int) (q1 : Tx) (q2 : Tx) (q3 : List Prod) (q4 : List (List zw)) (q5 : List Follow) (q6 : List zz) (q7 : List xm) (q8 : Bool) (q9 : Bool) (q0 : Int) (rec_1 : List zg -> Int -> Tx -> Tx -> List Prod -> List (List zw) -> List Follow -> List zz -> List xm -> Bool -> Bool -> Int -> Option (LR ((List zg) × Int × Tx × Tx × (List Prod) × (List (List zw)) × (List Follow) × (List zz) × (List xm) × Bool × Bool × Int) (Pn za Fault))) : Option (LR ((List zg) × Int × Tx × Tx × (List Prod) × (List (List zw)) × (List Follow) × (List zz) × (List xm) × Bool × Bool × Int) (Pn za Fault)) :=
 (qd.reader_all_c2 (at_ l__ at__) (za.mk l__ (IntKind.wrap .i64 (at__ + 1)) (zY.mk q1 q2 q3 q4 q5 q6 q7) q8 q9 q0)).bind fun v2 =>
 v2.go (fun x_2 =>
 qd.reader_all_j2 rec_1 x_2.l_ x_2.at_ x_2.d.Start x_2.d.Layout q3 q4 q5 q6 q7 x_2.start x_2.layout x_2.items)
 (fun y_2 =>
 some (.ret (.pan y_2)))
def qd.reader_all_j5 (l__ : List zg) (at__ : Int) (q1 : Tx) (q2 : Tx) (q3 : List Prod) (q4 : List (List zw)) (q5 : List Follow) (q6 : List zz) (q7 : List xm) (q8 : Bool) (q9 : Bool) (q0 : Int) (rec_1 : List zg -> Int -> Tx -> Tx -> List Prod -> List (List zw) -> List Follow -> List zz -> List xm -> Bool -> Bool -> Int -> Option (LR ((List zg) × Int × Tx × Tx × (List Prod) × (List (List zw)) × (List Follow) × (List zz) × (List xm) × Bool × Bool × Int) (Pn za Fault))) (t541 : Bool) : Option (LR ((List zg) × Int × Tx × Tx × (List Prod) × (List (List zw)) × (List Follow) × (List zz) × (List xm) × Bool × Bool × Int) (Pn za Fault)) :=
 if t541 then
 (qd.fail (at_ l__ at__) 30).bind fun v3 =>
 v3.go (fun x_3 =>
 qd.reader_all_j6 l__ at__ q1 q2 q3 q4 q5 q6 q7 q8 q9 q0 rec_1)
 (fun y_3 =>
 some (.ret (.pan y_3)))
 else
 qd.reader_all_j6 l__ at__ q1 q2 q3 q4 q5 q6 q7 q8 q9 q0 rec_1
def qd.reader_all_j8 (k : Nat) (l__ : List zg) (at__ : Int) (q1 : Tx) (q2 : Tx) (q3 : List Prod) (q4 : List (List zw)) (q5 : List Follow) (q6 : List zz) (q7 : List xm) (q8 : Bool) (q9 : Bool) (q0 : Int) (rec_1 : List zg -> Int -> Tx -> Tx -> List Prod -> List (List zw) -> List Follow -> List zz -> List xm -> Bool -> Bool -> Int -> Option (LR ((List zg) × Int × Tx × Tx × (List Prod) × (List (List zw)) × (List Follow) × (List zz) × (List xm) × Bool × Bool × Int) (Pn za Fault))) : Option (LR ((List zg) × Int × Tx × Tx × (List Prod) × (List (List zw)) × (List Follow) × (List zz) × (List xm) × Bool × Bool × Int) (Pn za Fault)) :=
 (qd.reader_lex k (za.mk l__ (IntKind.wrap .i64 (at__ + 1)) (zY.mk q1 q2 q3 q4 q5 q6 q7) q8 q9 q0) (at_ l__ at__)).bind fun v4 =>
 v4.go (fun x_4 =>
 qd.reader_all_j2 rec_1 x_4.l_ x_4.at_ x_4.d.Start x_4.d.Layout x_4.d.Prods q4 q5 q6 q7 x_4.start x_4.layout x_4.items)
 (fun y_4 =>
 some (.ret (.pan y_4)))
def qd.reader_all_j7 (k : Nat) (l__ : List zg) (at__ : Int) (q1 : Tx) (q2 : Tx) (q3 : List Prod) (q4 : List (List zw)) (q5 : List Follow) (q6 : List zz) (q7 : List xm) (q8 : Bool) (q9 : Bool) (q0 : Int) (rec_1 : List zg -> Int -> Tx -> Tx -> List Prod -> List (List zw) -> List Follow -> List zz -> List xm -> Bool -> Bool -> Int -> Option (LR ((List zg) × Int × Tx × Tx × (List Prod) × (List (List zw)) × (List Follow) × (List zz) × (List xm) × Bool × Bool × Int) (Pn za Fault))) (t542 : Bool) : Option (LR ((List zg) × Int × Tx × Tx × (List Prod) × (List (List zw)) × (List Follow) × (List zz) × (List xm) × Bool × Bool × Int) (Pn za Fault)) :=
 if t542 then
 (qd.fail (at_ l__ at__) 30).bind fun v5 =>
 v5.go (fun x_5 =>
 qd.reader_all_j8 k l__ at__ q1 q2 q3 q4 q5 q6 q7 q8 q9 q0 rec_1)
 (fun y_5 =>
 some (.ret (.pan y_5)))
 else
 qd.reader_all_j8 k l__ at__ q1 q2 q3 q4 q5 q6 q7 q8 q9 q0 rec_1
def qd.reader_all_j10 (k : Nat) (l__ : List zg) (at__ : Int) (q1 : Tx) (q2 : Tx) (q3 : List Prod) (q4 : List (List zw)) (q5 : List Follow) (q6 : List zz) (q7 : List xm) (q8 : Bool) (q9 : Bool) (q0 : Int) (rec_1 : List zg -> Int -> Tx -> Tx -> List Prod -> List (List zw) -> List Follow -> List zz -> List xm -> Bool -> Bool -> Int -> Option (LR ((List zg) × Int × Tx × Tx × (List Prod) × (List (List zw)) × (List Follow) × (List zz) × (List xm) × Bool × Bool × Int) (Pn za Fault))) : Option (LR ((List zg) × Int × Tx × Tx × (List Prod) × (List (List zw)) × (List Follow) × (List zz) × (List xm) × Bool × Bool × Int) (Pn za Fault)) :=
 (qd.reader_cf k (za.mk l__ (IntKind.wrap .i64 (at__ + 1)) (zY.mk q1 q2 q3 q4 q5 q6 q7) q8 q9 q0) (at_ l__ at__)).bind fun v6 =>
 v6.go (fun x_6 =>
 qd.reader_all_j2 rec_1 x_6.l_ x_6.at_ x_6.d.Start x_6.d.Layout x_6.d.Prods q4 q5 q6 q7 x_6.start x_6.layout x_6.items)
 (fun y_6 =>
 some (.ret (.pan y_6)))
def qd.reader_all_j9 (k : Nat) (l__ : List zg) (at__ : Int) (q1 : Tx) (q2 : Tx) (q3 : List Prod) (q4 : List (List zw)) (q5 : List Follow) (q6 : List zz) (q7 : List xm) (q8 : Bool) (q9 : Bool) (q0 : Int) (rec_1 : List zg -> Int -> Tx -> Tx -> List Prod -> List (List zw) -> List Follow -> List zz -> List xm -> Bool -> Bool -> Int -> Option (LR ((List zg) × Int × Tx × Tx × (List Prod) × (List (List zw)) × (List Follow) × (List zz) × (List xm) × Bool × Bool × Int) (Pn za Fault))) (t543 : Bool) : Option (LR ((List zg) × Int × Tx × Tx × (List Prod) × (List (List zw)) × (List Follow) × (List zz) × (List xm) × Bool × Bool × Int) (Pn za Fault)) :=
 if t543 then
 (qd.fail (at_ l__ at__) 30).bind fun v7 =>
 v7.go (fun x_7 =>
 qd.reader_all_j10 k l__ at__ q1 q2 q3 q4 q5 q6 q7 q8 q9 q0 rec_1)
 (fun y_7 =>
 some (.ret (.pan y_7)))
 else
 qd.reader_all_j10 k l__ at__ q1 q2 q3 q4 q5 q6 q7 q8 q9 q0 rec_1
def qd.reader_all_j12 (k : Nat) (l__ : List zg) (at__ : Int) (q1 : Tx) (q2 : Tx) (q3 : List Prod) (q4 : List (List zw)) (q5 : List Follow) (q6 : List zz) (q7 : List xm) (q8 : Bool) (q9 : Bool) (q0 : Int) (rec_1 : List zg -> Int -> Tx -> Tx -> List Prod -> List (List zw) -> List Follow -> List zz -> List xm -> Bool -> Bool -> Int -> Option (LR ((List zg) × Int × Tx × Tx × (List Prod) × (List (List zw)) × (List Follow) × (List zz) × (List xm) × Bool × Bool × Int) (Pn za Fault))) : Option (LR ((List zg) × Int × Tx × Tx × (List Prod) × (List (List zw)) × (List Follow) × (List zz) × (List xm) × Bool × Bool × Int) (Pn za Fault)) :=
 (qd.reader_prio k (za.mk l__ (IntKind.wrap .i64 (at__ + 1)) (zY.mk q1 q2 q3 q4 q5 q6 q7) q8 q9 q0) (at_ l__ at__)).bind fun v8 =>
 v8.go (fun x_8 =>
 qd.reader_all_j2 rec_1 x_8.l_ x_8.at_ x_8.d.Start x_8.d.Layout q3 x_8.d.Chains q5 q6 q7 x_8.start x_8.layout x_8.items)
 (fun y_8 =>
 some (.ret (.pan y_8)))
def qd.reader_all_j11 (k : Nat) (l__ : List zg) (at__ : Int) (q1 : Tx) (q2 : Tx) (q3 : List Prod) (q4 : List (List zw)) (q5 : List Follow) (q6 : List zz) (q7 : List xm) (q8 : Bool) (q9 : Bool) (q0 : Int) (rec_1 : List zg -> Int -> Tx -> Tx -> List Prod -> List (List zw) -> List Follow -> List zz -> List xm -> Bool -> Bool -> Int -> Option (LR ((List zg) × Int × Tx × Tx × (List Prod) × (List (List zw)) × (List Follow) × (List zz) × (List xm) × Bool × Bool × Int) (Pn za Fault))) (t544 : Bool) : Option (LR ((List zg) × Int × Tx × Tx × (List Prod) × (List (List zw)) × (List Follow) × (List zz) × (List xm) × Bool × Bool × Int) (Pn za Fault)) :=
 if t544 then
 (qd.fail (at_ l__ at__) 30).bind fun v9 =>
 v9.go (fun x_9 =>
 qd.reader_all_j12 k l__ at__ q1 q2 q3 q4 q5 q6 q7 q8 q9 q0 rec_1)
 (fun y_9 =>
 some (.ret (.pan y_9)))
 else
 qd.reader_all_j12 k l__ at__ q1 q2 q3 q4 q5 q6 q7 q8 q9 q0 rec_1
def qd.reader_all_j14 (l__ : List zg) (at__ : Int) (q1 : Tx) (q2 : Tx) (q3 : List Prod) (q4 : List (List zw)) (q5 : List Follow) (q6 : List zz) (q7 : List xm) (q8 : Bool) (q9 : Bool) (q0 : Int) (rec_1 : List zg -> Int -> Tx -> Tx -> List Prod -> List (List zw) -> List Follow -> List zz -> List xm -> Bool -> Bool -> Int -> Option (LR ((List zg) × Int × Tx × Tx × (List Prod) × (List (List zw)) × (List Follow) × (List zz) × (List xm) × Bool × Bool × Int) (Pn za Fault))) : Option (LR ((List zg) × Int × Tx × Tx × (List Prod) × (List (List zw)) × (List Follow) × (List zz) × (List xm) × Bool × Bool × Int) (Pn za Fault)) :=
 (qd.reader_all_c3 (at_ l__ at__) (za.mk l__ (IntKind.wrap .i64 (at__ + 1)) (zY.mk q1 q2 q3 q4 q5 q6 q7) q8 q9 q0)).bind fun v10 =>
 v10.go (fun x_10 =>
 qd.reader_all_j2 rec_1 x_10.l_ x_10.at_ x_10.d.Start x_10.d.Layout q3 q4 x_10.d.Follows q6 q7 x_10.start x_10.layout x_10.items)
 (fun y_10 =>
 some (.ret (.pan y_10)))
def qd.reader_all_j13 (l__ : List zg) (at__ : Int) (q1 : Tx) (q2 : Tx) (q3 : List Prod) (q4 : List (List zw)) (q5 : List Follow) (q6 : List zz) (q7 : List xm) (q8 : Bool) (q9 : Bool) (q0 : Int) (rec_1 : List zg -> Int -> Tx -> Tx -> List Prod -> List (List zw) -> List Follow -> List zz -> List xm -> Bool -> Bool -> Int -> Option (LR ((List zg) × Int × Tx × Tx × (List Prod) × (List (List zw)) × (List Follow) × (List zz) × (List xm) × Bool × Bool × Int) (Pn za Fault))) (t545 : Bool) : Option (LR ((List zg) × Int × Tx × Tx × (List Prod) × (List (List zw)) × (List Follow) × (List zz) × (List xm) × Bool × Bool × Int) (Pn za Fault)) :=
 if t545 then
 (qd.fail (at_ l__ at__) 30).bind fun v11 =>
 v11.go (fun x_11 =>
 qd.reader_all_j14 l__ at__ q1 q2 q3 q4 q5 q6 q7 q8 q9 q0 rec_1)
 (fun y_11 =>
 some (.ret (.pan y_11)))
 else
 qd.reader_all_j14 l__ at__ q1 q2 q3 q4 q5 q6 q7 q8 q9 q0 rec_1
def qd.reader_all_j16 (l__ : List zg) (at__ : Int) (q1 : Tx) (q2 : Tx) (q3 : List Prod) (q4 : List (List zw)) (q5 : List Follow) (q6 : List zz) (q7 : List xm) (q8 : Bool) (q9 : Bool) (q0 : Int) (rec_1 : List zg -> Int -> Tx -> Tx -> List Prod -> List (List zw) -> List Follow -> List zz -> List xm -> Bool -> Bool -> Int -> Option (LR ((List zg) × Int × Tx × Tx × (List Prod) × (List (List zw)) × (List Follow) × (List zz) × (List xm) × Bool × Bool × Int) (Pn za Fault))) : Option (LR ((List zg) × Int × Tx × Tx × (List Prod) × (List (List zw)) × (List Follow) × (List zz) × (List xm) × Bool × Bool × Int) (Pn za Fault)) :=
 (qd.reader_all_c4 (at_ l__ at__) (za.mk l__ (IntKind.wrap .i64 (at__ + 1)) (zY.mk q1 q2 q3 q4 q5 q6 q7) q8 q9 q0)).bind fun v12 =>
 v12.go (fun x_12 =>
 qd.reader_all_j2 rec_1 x_12.l_ x_12.at_ x_12.d.Start x_12.d.Layout q3 q4 q5 x_12.d.Rejects q7 x_12.start x_12.layout x_12.items)
 (fun y_12 =>
 some (.ret (.pan y_12)))
def qd.reader_all_j15 (l__ : List zg) (at__ : Int) (q1 : Tx) (q2 : Tx) (q3 : List Prod) (q4 : List (List zw)) (q5 : List Follow) (q6 : List zz) (q7 : List xm) (q8 : Bool) (q9 : Bool) (q0 : Int) (rec_1 : List zg -> Int -> Tx -> Tx -> List Prod -> List (List zw) -> List Follow -> List zz -> List xm -> Bool -> Bool -> Int -> Option (LR ((List zg) × Int × Tx × Tx × (List Prod) × (List (List zw)) × (List Follow) × (List zz) × (List xm) × Bool × Bool × Int) (Pn za Fault))) (t546 : Bool) : Option (LR ((List zg) × Int × Tx × Tx × (List Prod) × (List (List zw)) × (List Follow) × (List zz) × (List xm) × Bool × Bool × Int) (Pn za Fault)) :=
 if t546 then
 (qd.fail (at_ l__ at__) 30).bind fun v13 =>
 v13.go (fun x_13 =>
 qd.reader_all_j16 l__ at__ q1 q2 q3 q4 q5 q6 q7 q8 q9 q0 rec_1)
 (fun y_13 =>
 some (.ret (.pan y_13)))
 else
 qd.reader_all_j16 l__ at__ q1 q2 q3 q4 q5 q6 q7 q8 q9 q0 rec_1
def qd.reader_all_j18 (k : Nat) (l__ : List zg) (at__ : Int) (q1 : Tx) (q2 : Tx) (q3 : List Prod) (q4 : List (List zw)) (q5 : List Follow) (q6 : List zz) (q7 : List xm) (q8 : Bool) (q9 : Bool) (q0 : Int) (rec_1 : List zg -> Int -> Tx -> Tx -> List Prod -> List (List zw) -> List Follow -> List zz -> List xm -> Bool -> Bool -> Int -> Option (LR ((List zg) × Int × Tx × Tx × (List Prod) × (List (List zw)) × (List Follow) × (List zz) × (List xm) × Bool × Bool × Int) (Pn za Fault))) : Option (LR ((List zg) × Int × Tx × Tx × (List Prod) × (List (List zw)) × (List Follow) × (List zz) × (List xm) × Bool × Bool × Int) (Pn za Fault)) :=
 (qd.reader_all_c5 k (at_ l__ at__) (za.mk l__ (IntKind.wrap .i64 (at__ + 1)) (zY.mk q1 q2 q3 q4 q5 q6 q7) q8 q9 q0)).bind fun v14 =>
 v14.go (fun x_14 =>
 qd.reader_all_j2 rec_1 x_14.l_ x_14.at_ x_14.d.Start x_14.d.Layout q3 q4 q5 q6 x_14.d.Boxes x_14.start x_14.layout x_14.items)
 (fun y_14 =>
 some (.ret (.pan y_14)))
def qd.reader_all_j17 (k : Nat) (l__ : List zg) (at__ : Int) (q1 : Tx) (q2 : Tx) (q3 : List Prod) (q4 : List (List zw)) (q5 : List Follow) (q6 : List zz) (q7 : List xm) (q8 : Bool) (q9 : Bool) (q0 : Int) (rec_1 : List zg -> Int -> Tx -> Tx -> List Prod -> List (List zw) -> List Follow -> List zz -> List xm -> Bool -> Bool -> Int -> Option (LR ((List zg) × Int × Tx × Tx × (List Prod) × (List (List zw)) × (List Follow) × (List zz) × (List xm) × Bool × Bool × Int) (Pn za Fault))) (t547 : Bool) : Option (LR ((List zg) × Int × Tx × Tx × (List Prod) × (List (List zw)) × (List Follow) × (List zz) × (List xm) × Bool × Bool × Int) (Pn za Fault)) :=
 if t547 then
 (qd.fail (at_ l__ at__) 30).bind fun v15 =>
 v15.go (fun x_15 =>
 qd.reader_all_j18 k l__ at__ q1 q2 q3 q4 q5 q6 q7 q8 q9 q0 rec_1)
 (fun y_15 =>
 some (.ret (.pan y_15)))
 else
 qd.reader_all_j18 k l__ at__ q1 q2 q3 q4 q5 q6 q7 q8 q9 q0 rec_1
def qd.reader_all_j20 : Option (LR ((List zg) × Int × Tx × Tx × (List Prod) × (List (List zw)) × (List Follow) × (List zz) × (List xm) × Bool × Bool × Int) (Pn za Fault)) :=
 none
def qd.reader_all_j19 (l__ : List zg) (at__ : Int) (t548 : Bool) : Option (LR ((List zg) × Int × Tx × Tx × (List Prod) × (List (List zw)) × (List Follow) × (List zz) × (List xm) × Bool × Bool × Int) (Pn za Fault)) :=
 if t548 then
 (qd.fail (at_ l__ at__) 30).bind fun v16 =>
 v16.go (fun x_16 =>
 qd.reader_all_j20)
 (fun y_16 =>
 some (.ret (.pan y_16)))
 else
 qd.reader_all_j20
def qd.reader_all_l1 (k : Nat) : Nat -> List zg -> Int -> Tx -> Tx -> List Prod -> List (List zw) -> List Follow -> List zz -> List xm -> Bool -> Bool -> Int -> Option (LR ((List zg) × Int × Tx × Tx × (List Prod) × (List (List zw)) × (List Follow) × (List zz) × (List xm) × Bool × Bool × Int) (Pn za Fault))
 | 0, _, _, _, _, _, _, _, _, _, _, _, _ => none
 | j + 1, l__, at__, q1, q2, q3, q4, q5, q6, q7, q8, q9, q0 =>
  if xf at__ l__.length then
  if (((at_ l__ at__).Kind) != 7) then
  if (((at_ l__ at__).Text) == ([115, 116, 97, 114, 116] : Tx)) then
  if !true then
  qd.reader_all_j3 l__ at__ q1 q2 q3 q4 q5 q6 q7 q8 q9 q0 (qd.reader_all_l1 k j) true
  else
  qd.reader_all_j3 l__ at__ q1 q2 q3 q4 q5 q6 q7 q8 q9 q0 (qd.reader_all_l1 k j) (((at_ l__ at__).Kind) != 2)
  else
  if (((at_ l__ at__).Text) == ([108, 97, 121, 111, 117, 116] : Tx)) then
  if !true then
  qd.reader_all_j5 l__ at__ q1 q2 q3 q4 q5 q6 q7 q8 q9 q0 (qd.reader_all_l1 k j) true
  else
  qd.reader_all_j5 l__ at__ q1 q2 q3 q4 q5 q6 q7 q8 q9 q0 (qd.reader_all_l1 k j) (((at_ l__ at__).Kind) != 2)
  else
  if (((at_ l__ at__).Text) == ([108, 101, 120] : Tx)) then
  if !true then
  qd.reader_all_j7 k l__ at__ q1 q2 q3 q4 q5 q6 q7 q8 q9 q0 (qd.reader_all_l1 k j) true
  else
  qd.reader_all_j7 k l__ at__ q1 q2 q3 q4 q5 q6 q7 q8 q9 q0 (qd.reader_all_l1 k j) (((at_ l__ at__).Kind) != 2)
  else
  if (((at_ l__ at__).Text) == ([99, 102] : Tx)) then
  if !true then
  qd.reader_all_j9 k l__ at__ q1 q2 q3 q4 q5 q6 q7 q8 q9 q0 (qd.reader_all_l1 k j) true
  else
  qd.reader_all_j9 k l__ at__ q1 q2 q3 q4 q5 q6 q7 q8 q9 q0 (qd.reader_all_l1 k j) (((at_ l__ at__).Kind) != 2)
  else
  if (((at_ l__ at__).Text) == ([112, 114, 105, 111] : Tx)) then
  if !true then
  qd.reader_all_j11 k l__ at__ q1 q2 q3 q4 q5 q6 q7 q8 q9 q0 (qd.reader_all_l1 k j) true
  else
  qd.reader_all_j11 k l__ at__ q1 q2 q3 q4 q5 q6 q7 q8 q9 q0 (qd.reader_all_l1 k j) (((at_ l__ at__).Kind) != 2)
  else
  if (((at_ l__ at__).Text) == ([102, 111, 108, 108, 111, 119] : Tx)) then
  if !true then
  qd.reader_all_j13 l__ at__ q1 q2 q3 q4 q5 q6 q7 q8 q9 q0 (qd.reader_all_l1 k j) true
  else
  qd.reader_all_j13 l__ at__ q1 q2 q3 q4 q5 q6 q7 q8 q9 q0 (qd.reader_all_l1 k j) (((at_ l__ at__).Kind) != 2)
  else
  if (((at_ l__ at__).Text) == ([114, 101, 106, 101, 99, 116] : Tx)) then
  if !true then
  qd.reader_all_j15 l__ at__ q1 q2 q3 q4 q5 q6 q7 q8 q9 q0 (qd.reader_all_l1 k j) true
  else
  qd.reader_all_j15 l__ at__ q1 q2 q3 q4 q5 q6 q7 q8 q9 q0 (qd.reader_all_l1 k j) (((at_ l__ at__).Kind) != 2)
  else
  if (((at_ l__ at__).Text) == ([98, 111, 120] : Tx)) then
  if !true then
  qd.reader_all_j17 k l__ at__ q1 q2 q3 q4 q5 q6 q7 q8 q9 q0 (qd.reader_all_l1 k j) true
  else
  qd.reader_all_j17 k l__ at__ q1 q2 q3 q4 q5 q6 q7 q8 q9 q0 (qd.reader_all_l1 k j) (((at_ l__ at__).Kind) != 2)
  else
  if !false then
  qd.reader_all_j19 l__ at__ true
  else
  qd.reader_all_j19 l__ at__ (((at_ l__ at__).Kind) != 2)
  else
  some (.done (l__, at__, q1, q2, q3, q4, q5, q6, q7, q8, q9, q0))
  else none
def qd.reader_all (k : Nat) (r_ : za) : Option (Pn za Fault) :=
 (qd.reader_all_l1 k k r_.l_ r_.at_ r_.d.Start r_.d.Layout r_.d.Prods r_.d.Chains r_.d.Follows r_.d.Rejects r_.d.Boxes r_.start r_.layout r_.items).bind fun o1 =>
 o1.fin fun d1 =>
 some (.ok (za.mk d1.1 d1.2.1 (zY.mk d1.2.2.1 d1.2.2.2.1 d1.2.2.2.2.1 d1.2.2.2.2.2.1 d1.2.2.2.2.2.2.1 d1.2.2.2.2.2.2.2.1 d1.2.2.2.2.2.2.2.2.1) d1.2.2.2.2.2.2.2.2.2.1 d1.2.2.2.2.2.2.2.2.2.2.1 d1.2.2.2.2.2.2.2.2.2.2.2))
def qd.Parse_c1_pan (p0 : zY) (p1 : Fault) (y : Fault) : Option (zY × Fault) :=
 some ((zY.mk ([] : Tx) ([] : Tx) ([] : List Prod) ([] : List (List zw)) ([] : List Follow) ([] : List zz) ([] : List xm)), y)
def qd.Parse_c1_ret (p0 : zY) (p1 : Fault) : Option (zY × Fault) :=
 some (p0, p1)
def qd.Parse (k : Nat) (text_ : Tx) : Option (zY × Fault) :=
 (qw.Scan k text_).bind fun v =>
 if (v.2.Code != 0) then
 some ((zY.mk ([] : Tx) ([] : Tx) ([] : List Prod) ([] : List (List zw)) ([] : List Follow) ([] : List zz) ([] : List xm)), v.2)
 else
 (qd.reader_all k (za.mk v.1 0 (zY.mk ([] : Tx) ([] : Tx) ([] : List Prod) ([] : List (List zw)) ([] : List Follow) ([] : List zz) ([] : List xm)) false false 0)).bind fun v1 =>
 v1.go (fun x_ =>
 (qd.Parse_c1_ret x_.d (Fault.mk 0 0)).bind fun v2 =>
 some (v2.1, v2.2))
 (fun y_ =>
 (qd.Parse_c1_pan (zY.mk ([] : Tx) ([] : Tx) ([] : List Prod) ([] : List (List zw)) ([] : List Follow) ([] : List zz) ([] : List xm)) v.2 y_).bind fun v3 =>
 some (v3.1, v3.2))
def qw.IsName_j1 (t2 : Bool) : Option Bool :=
 some t2
def qw.IsName (k : Nat) (s : Tx) : Option Bool :=
 if !(s == ([] : Tx)) then
 if decide ((s.length : Int) <= 32) then
 if xf 0 s.length then
 (qw.great (IntKind.wrap .i32 (yk s 0))).bind fun v =>
 if v then
 (qw.run k s).bind fun v1 =>
 qw.IsName_j1 (v1 == (s.length : Int))
 else
 qw.IsName_j1 false
 else none
 else
 qw.IsName_j1 false
 else
 qw.IsName_j1 false
def qd.named (k : Nat) (s : Tx) (empty : Bool) : Option Bool :=
 if (s == ([] : Tx)) then
 if empty then
 some true
 else
 (qw.IsName k s).bind fun v =>
 some v
 else
 (qw.IsName k s).bind fun v1 =>
 some v1
def qd.rightSym_j1 (t2 : Bool) : Option Bool :=
 some t2
def qd.rightSym_j2 (t21 : Bool) : Option Bool :=
 some t21
def qd.rightSym_j3 (t22 : Bool) : Option Bool :=
 some t22
def qd.rightSym_j5 (t23 : Bool) : Option Bool :=
 some t23
def qd.rightSym_j4 (k : Nat) (s : xg) (t88 : Bool) : Option Bool :=
 if t88 then
 if (s.Name == ([] : Tx)) then
 if (s.Text == ([] : Tx)) then
 some (s.Sep == ([] : Tx))
 else
 some false
 else
 if (s.Text == ([] : Tx)) then
 if (S4.eq s.Set (S4.mk 0 0 0 0)) then
 (qd.named k s.Name false).bind fun v2 =>
 if v2 then
 qd.rightSym_j5 (decide ((s.Sep.length : Int) <= 32))
 else
 qd.rightSym_j5 false
 else
 qd.rightSym_j5 false
 else
 qd.rightSym_j5 false
 else
 some false
def qd.rightSym (k : Nat) (s : xg) : Option Bool :=
 if (s.Kind == 1) then
 if decide ((s.Text.length : Int) <= 32) then
 if (S4.eq s.Set (S4.mk 0 0 0 0)) then
 if (s.Name == ([] : Tx)) then
 qd.rightSym_j1 (s.Sep == ([] : Tx))
 else
 qd.rightSym_j1 false
 else
 qd.rightSym_j1 false
 else
 qd.rightSym_j1 false
 else
 if (s.Kind == 2) then
 if (s.Text == ([] : Tx)) then
 if (s.Name == ([] : Tx)) then
 some (s.Sep == ([] : Tx))
 else
 some false
 else
 some false
 else
 if (s.Kind == 3) then
 if (s.Text == ([] : Tx)) then
 if (S4.eq s.Set (S4.mk 0 0 0 0)) then
 (qd.named k s.Name false).bind fun v =>
 if v then
 qd.rightSym_j2 (s.Sep == ([] : Tx))
 else
 qd.rightSym_j2 false
 else
 qd.rightSym_j2 false
 else
 qd.rightSym_j2 false
 else
 if (s.Kind == 4) then
 if (s.Text == ([] : Tx)) then
 if (s.Sep == ([] : Tx)) then
 if (s.Name == ([] : Tx)) then
 qd.rightSym_j3 true
 else
 if (S4.eq s.Set (S4.mk 0 0 0 0)) then
 (qd.named k s.Name false).bind fun v1 =>
 qd.rightSym_j3 v1
 else
 qd.rightSym_j3 false
 else
 qd.rightSym_j3 false
 else
 qd.rightSym_j3 false
 else
 if (s.Kind == 5) then
 qd.rightSym_j4 k s (s.Kind == 5)
 else
 qd.rightSym_j4 k s (s.Kind == 6)
def qd.rightProd_c1 (k : Nat) (s : xg) : Option Bool :=
 (qd.rightSym k s).bind fun v =>
 some (!v)
def ql.IndexFunc_f121_94_l1 (k : Nat) (s : List xg) : Nat -> Int -> Option (LR Unit Int)
 | 0, _ => none
 | j + 1, t8 =>
  if decide (t8 < (s.length : Int)) then
  if xf t8 s.length then
  (qd.rightProd_c1 k (at_ s t8)).bind fun v =>
  if v then
  some (.ret t8)
  else
  (ql.IndexFunc_f121_94_l1 k s j) (IntKind.wrap .i64 (t8 + 1))
  else none
  else
  some (.done ())
def ql.IndexFunc_f121_94 (k : Nat) (s : List xg) : Option Int :=
 (ql.IndexFunc_f121_94_l1 k s k 0).bind fun o1 =>
 o1.fin fun d1 =>
 some (-1)
def ql.ContainsFunc_f93_94 (k : Nat) (s : List xg) : Option Bool :=
 (ql.IndexFunc_f121_94 k s).bind fun v =>
 some (decide (0 <= v))
def qd.rightProd_j2 (k : Nat) (p : Prod) (t43 : Bool) : Option Bool :=
 if t43 then
 some false
 else
 (ql.ContainsFunc_f93_94 k p.Syms).bind fun v =>
 some (!v)
def qd.rightProd_j1 (k : Nat) (p : Prod) (t24 : Bool) : Option Bool :=
 if t24 then
 some false
 else
 if p.Lex then
 if p.Bracket then
 qd.rightProd_j2 k p true
 else
 if !p.Lex then
 qd.rightProd_j2 k p (p.Bracket != (p.Cons == ([] : Tx)))
 else
 qd.rightProd_j2 k p false
 else
 if !p.Lex then
 qd.rightProd_j2 k p (p.Bracket != (p.Cons == ([] : Tx)))
 else
 qd.rightProd_j2 k p false
def qd.rightProd (k : Nat) (p : Prod) : Option Bool :=
 (qd.named k p.Sort_ false).bind fun v1 =>
 if !v1 then
 qd.rightProd_j1 k p true
 else
 (qd.named k p.Cons true).bind fun v2 =>
 if !v2 then
 qd.rightProd_j1 k p true
 else
 if ((p.Syms.length : Int) == 0) then
 qd.rightProd_j1 k p true
 else
 qd.rightProd_j1 k p (decide (12 < (p.Syms.length : Int)))
def qd.rightChain_l3 (k : Nat) (l__ : List zw) (t9 : Int) : Nat -> Int -> Option (LR Int Bool)
 | 0, _ => none
 | j + 1, t36 =>
  if decide (t36 < (((at_ l__ t9).Cons).length : Int)) then
  if xf t36 ((at_ l__ t9).Cons).length then
  (qd.named k (at_ ((at_ l__ t9).Cons) t36) false).bind fun v =>
  if !v then
  some (.ret false)
  else
  (qd.rightChain_l3 k l__ t9 j) (IntKind.wrap .i64 (t36 + 1))
  else none
  else
  some (.done t36)
def qd.rightChain_j2 (k : Nat) (l__ : List zw) (t9 : Int) (rec_1 : Int -> Option (LR Unit Bool)) (t32 : Bool) : Option (LR Unit Bool) :=
 if t32 then
 some (.ret false)
 else
 (qd.rightChain_l3 k l__ t9 k 0).bind fun o3 =>
 o3.go fun d3 =>
 rec_1 (IntKind.wrap .i64 (t9 + 1))
def qd.rightChain_l1 (k : Nat) (l__ : List zw) : Nat -> Int -> Option (LR Unit Bool)
 | 0, _ => none
 | j + 1, t9 =>
  if decide (t9 < (l__.length : Int)) then
  if xf t9 l__.length then
  if decide (((at_ l__ t9).Assoc) < 0) then
  qd.rightChain_j2 k l__ t9 (qd.rightChain_l1 k l__ j) true
  else
  if decide (3 < ((at_ l__ t9).Assoc)) then
  qd.rightChain_j2 k l__ t9 (qd.rightChain_l1 k l__ j) true
  else
  if ((((at_ l__ t9).Cons).length : Int) == 0) then
  qd.rightChain_j2 k l__ t9 (qd.rightChain_l1 k l__ j) true
  else
  qd.rightChain_j2 k l__ t9 (qd.rightChain_l1 k l__ j) (decide (16 < (((at_ l__ t9).Cons).length : Int)))
  else none
  else
  some (.done ())
def qd.rightChain (k : Nat) (l__ : List zw) : Option Bool :=
 (qd.rightChain_l1 k l__ k 0).bind fun o1 =>
 o1.fin fun d1 =>
 if decide (0 < (l__.length : Int)) then
 some (decide ((l__.length : Int) <= 16))
 else
 some false
def qd.rightItems_j2 (rec_1 : Int -> Int -> Option (LR Int (Bool × Int))) (t11 : Int) (number : Bool) (ok_ : Bool) (left2 : Int) : Option (LR Int (Bool × Int)) :=
 rec_1 (IntKind.wrap .i64 (t11 + 1)) left2
def qd.rightItems_j4 (left1 : Int) (g42 : List Item -> Int -> Option (Bool × Int)) (l__ : List Item) (t11 : Int) (rec_1 : Int -> Int -> Option (LR Int (Bool × Int))) (number1 : Bool) (ok_1 : Bool) : Option (LR Int (Bool × Int)) :=
 if !ok_1 then
 some (.ret (false, IntKind.wrap .i64 (left1 - 1)))
 else
 if decide ((IntKind.wrap .i64 (left1 - 1)) < 0) then
 some (.ret (false, IntKind.wrap .i64 (left1 - 1)))
 else
 (g42 ((at_ l__ t11).Items) (IntKind.wrap .i64 (left1 - 1))).bind fun v =>
 if !v.1 then
 some (.ret (false, v.2))
 else
 qd.rightItems_j2 rec_1 t11 number1 ok_1 v.2
def qd.rightItems_j5 (left1 : Int) (g42 : List Item -> Int -> Option (Bool × Int)) (l__ : List Item) (t11 : Int) (rec_1 : Int -> Int -> Option (LR Int (Bool × Int))) (number1 : Bool) (ok_2 : Bool) : Option (LR Int (Bool × Int)) :=
 qd.rightItems_j4 left1 g42 l__ t11 rec_1 number1 ok_2
def qd.rightItems_j6 (left1 : Int) (g42 : List Item -> Int -> Option (Bool × Int)) (l__ : List Item) (t11 : Int) (rec_1 : Int -> Int -> Option (LR Int (Bool × Int))) (number1 : Bool) (ok_3 : Bool) : Option (LR Int (Bool × Int)) :=
 qd.rightItems_j5 left1 g42 l__ t11 rec_1 number1 ok_3
def qd.rightItems_j7 (left1 : Int) (g42 : List Item -> Int -> Option (Bool × Int)) (l__ : List Item) (t11 : Int) (rec_1 : Int -> Int -> Option (LR Int (Bool × Int))) (number1 : Bool) (ok_4 : Bool) : Option (LR Int (Bool × Int)) :=
 qd.rightItems_j5 left1 g42 l__ t11 rec_1 number1 ok_4
def qd.rightItems_j8 (left1 : Int) (g42 : List Item -> Int -> Option (Bool × Int)) (l__ : List Item) (t11 : Int) (rec_1 : Int -> Int -> Option (LR Int (Bool × Int))) (number1 : Bool) (ok_5 : Bool) : Option (LR Int (Bool × Int)) :=
 qd.rightItems_j7 left1 g42 l__ t11 rec_1 number1 ok_5
def qd.rightItems_j10 (left1 : Int) (g42 : List Item -> Int -> Option (Bool × Int)) (l__ : List Item) (t11 : Int) (rec_1 : Int -> Int -> Option (LR Int (Bool × Int))) (number1 : Bool) (ok_6 : Bool) : Option (LR Int (Bool × Int)) :=
 qd.rightItems_j7 left1 g42 l__ t11 rec_1 number1 ok_6
def qd.rightItems_j11 (left1 : Int) (g42 : List Item -> Int -> Option (Bool × Int)) (l__ : List Item) (t11 : Int) (rec_1 : Int -> Int -> Option (LR Int (Bool × Int))) (number1 : Bool) (ok_7 : Bool) : Option (LR Int (Bool × Int)) :=
 qd.rightItems_j10 left1 g42 l__ t11 rec_1 number1 ok_7
def qd.rightItems_j12 (left1 : Int) (g42 : List Item -> Int -> Option (Bool × Int)) (l__ : List Item) (t11 : Int) (rec_1 : Int -> Int -> Option (LR Int (Bool × Int))) (number1 : Bool) (ok_8 : Bool) : Option (LR Int (Bool × Int)) :=
 qd.rightItems_j10 left1 g42 l__ t11 rec_1 number1 ok_8
def qd.rightItems_j13 (left1 : Int) (g42 : List Item -> Int -> Option (Bool × Int)) (l__ : List Item) (t11 : Int) (rec_1 : Int -> Int -> Option (LR Int (Bool × Int))) (number1 : Bool) (ok_9 : Bool) : Option (LR Int (Bool × Int)) :=
 qd.rightItems_j12 left1 g42 l__ t11 rec_1 number1 ok_9
def qd.rightItems_j14 (left1 : Int) (g42 : List Item -> Int -> Option (Bool × Int)) (l__ : List Item) (t11 : Int) (rec_1 : Int -> Int -> Option (LR Int (Bool × Int))) (number1 : Bool) (ok_10 : Bool) : Option (LR Int (Bool × Int)) :=
 qd.rightItems_j12 left1 g42 l__ t11 rec_1 number1 ok_10
def qd.rightItems_j15 (left1 : Int) (g42 : List Item -> Int -> Option (Bool × Int)) (l__ : List Item) (t11 : Int) (rec_1 : Int -> Int -> Option (LR Int (Bool × Int))) (number1 : Bool) (ok_11 : Bool) : Option (LR Int (Bool × Int)) :=
 qd.rightItems_j14 left1 g42 l__ t11 rec_1 number1 ok_11
def qd.rightItems_j9 (l__ : List Item) (t11 : Int) (left1 : Int) (g42 : List Item -> Int -> Option (Bool × Int)) (rec_1 : Int -> Int -> Option (LR Int (Bool × Int))) (number1 : Bool) (t61 : Bool) : Option (LR Int (Bool × Int)) :=
 if t61 then
 if (((at_ l__ t11).Text) == ([] : Tx)) then
 if (((at_ l__ t11).N_) == 0) then
 qd.rightItems_j11 left1 g42 l__ t11 rec_1 number1 ((((at_ l__ t11).Items).length : Int) == 0)
 else
 qd.rightItems_j11 left1 g42 l__ t11 rec_1 number1 false
 else
 qd.rightItems_j11 left1 g42 l__ t11 rec_1 number1 false
 else
 if (((at_ l__ t11).Kind) == 5) then
 if (((at_ l__ t11).Text) == ([] : Tx)) then
 qd.rightItems_j13 left1 g42 l__ t11 rec_1 number1 number1
 else
 qd.rightItems_j13 left1 g42 l__ t11 rec_1 number1 false
 else
 if (((at_ l__ t11).Kind) == 6) then
 if (((at_ l__ t11).Text) == ([] : Tx)) then
 qd.rightItems_j15 left1 g42 l__ t11 rec_1 number1 (((at_ l__ t11).N_) == 0)
 else
 qd.rightItems_j15 left1 g42 l__ t11 rec_1 number1 false
 else
 qd.rightItems_j14 left1 g42 l__ t11 rec_1 number1 false
def qd.rightItems_j3 (l__ : List Item) (t11 : Int) (left1 : Int) (g42 : List Item -> Int -> Option (Bool × Int)) (rec_1 : Int -> Int -> Option (LR Int (Bool × Int))) (number1 : Bool) : Option (LR Int (Bool × Int)) :=
 if (((at_ l__ t11).Kind) == 1) then
 if decide ((((at_ l__ t11).Text).length : Int) <= 32) then
 if (((at_ l__ t11).N_) == 0) then
 qd.rightItems_j6 left1 g42 l__ t11 rec_1 number1 ((((at_ l__ t11).Items).length : Int) == 0)
 else
 qd.rightItems_j6 left1 g42 l__ t11 rec_1 number1 false
 else
 qd.rightItems_j6 left1 g42 l__ t11 rec_1 number1 false
 else
 if (((at_ l__ t11).Kind) == 2) then
 if (((at_ l__ t11).Text) == ([] : Tx)) then
 if number1 then
 qd.rightItems_j8 left1 g42 l__ t11 rec_1 number1 ((((at_ l__ t11).Items).length : Int) == 0)
 else
 qd.rightItems_j8 left1 g42 l__ t11 rec_1 number1 false
 else
 qd.rightItems_j8 left1 g42 l__ t11 rec_1 number1 false
 else
 if (((at_ l__ t11).Kind) == 3) then
 qd.rightItems_j9 l__ t11 left1 g42 rec_1 number1 (((at_ l__ t11).Kind) == 3)
 else
 qd.rightItems_j9 l__ t11 left1 g42 rec_1 number1 (((at_ l__ t11).Kind) == 4)
def qd.rightItems_l1 (l__ : List Item) (g42 : List Item -> Int -> Option (Bool × Int)) : Nat -> Int -> Int -> Option (LR Int (Bool × Int))
 | 0, _, _ => none
 | j + 1, t11, left1 =>
  if decide (t11 < (l__.length : Int)) then
  if xf t11 l__.length then
  if decide (0 <= ((at_ l__ t11).N_)) then
  qd.rightItems_j3 l__ t11 left1 g42 (qd.rightItems_l1 l__ g42 j) (decide (((at_ l__ t11).N_) <= 999999))
  else
  qd.rightItems_j3 l__ t11 left1 g42 (qd.rightItems_l1 l__ g42 j) false
  else none
  else
  some (.done left1)
def qd.rightItems_B (k : Nat) (g42 : List Item -> Int -> Option (Bool × Int)) (l__ : List Item) (left : Int) : Option (Bool × Int) :=
 (qd.rightItems_l1 l__ g42 k 0 left).bind fun o1 =>
 o1.fin fun d1 =>
 some (true, d1)
def qd.rightItems : Nat -> List Item -> Int -> Option (Bool × Int)
 | 0 => (fun _ _ => none)
 | k + 1 => qd.rightItems_B k (qd.rightItems k)
def qd.Right_l1 (k : Nat) (d_ : zY) : Nat -> Int -> Option (LR Unit Bool)
 | 0, _ => none
 | j + 1, t33 =>
  if decide (t33 < (d_.Prods.length : Int)) then
  if xf t33 d_.Prods.length then
  (qd.rightProd k (at_ d_.Prods t33)).bind fun v2 =>
  if !v2 then
  some (.ret false)
  else
  (qd.Right_l1 k d_ j) (IntKind.wrap .i64 (t33 + 1))
  else none
  else
  some (.done ())
def qd.Right_l2 (k : Nat) (d_ : zY) : Nat -> Int -> Option (LR Unit Bool)
 | 0, _ => none
 | j + 1, t44 =>
  if decide (t44 < (d_.Chains.length : Int)) then
  if xf t44 d_.Chains.length then
  (qd.rightChain k (at_ d_.Chains t44)).bind fun v3 =>
  if !v3 then
  some (.ret false)
  else
  (qd.Right_l2 k d_ j) (IntKind.wrap .i64 (t44 + 1))
  else none
  else
  some (.done ())
def qd.Right_l3 (k : Nat) (d_ : zY) : Nat -> Int -> Option (LR Unit Bool)
 | 0, _ => none
 | j + 1, t55 =>
  if decide (t55 < (d_.Follows.length : Int)) then
  if xf t55 d_.Follows.length then
  (qd.named k ((at_ d_.Follows t55).Sort_) false).bind fun v4 =>
  if !v4 then
  some (.ret false)
  else
  (qd.Right_l3 k d_ j) (IntKind.wrap .i64 (t55 + 1))
  else none
  else
  some (.done ())
def qd.Right_l4 (k : Nat) (d_ : zY) : Nat -> Int -> Option (LR Unit Bool)
 | 0, _ => none
 | j + 1, t67 =>
  if decide (t67 < (d_.Rejects.length : Int)) then
  if xf t67 d_.Rejects.length then
  (qd.named k ((at_ d_.Rejects t67).Sort_) false).bind fun v5 =>
  if !v5 then
  some (.ret false)
  else
  (qd.named k ((at_ d_.Rejects t67).By) false).bind fun v6 =>
  if !v6 then
  some (.ret false)
  else
  (qd.Right_l4 k d_ j) (IntKind.wrap .i64 (t67 + 1))
  else none
  else
  some (.done ())
def qd.Right_l5 (k : Nat) (d_ : zY) : Nat -> Int -> Option (LR Unit Bool)
 | 0, _ => none
 | j + 1, t85 =>
  if decide (t85 < (d_.Boxes.length : Int)) then
  if xf t85 d_.Boxes.length then
  (qd.named k ((at_ d_.Boxes t85).Cons) false).bind fun v7 =>
  if !v7 then
  some (.ret false)
  else
  (qd.rightItems k ((at_ d_.Boxes t85).Items) 64).bind fun v8 =>
  if !v8.1 then
  some (.ret false)
  else
  (qd.Right_l5 k d_ j) (IntKind.wrap .i64 (t85 + 1))
  else none
  else
  some (.done ())
def qd.Right (k : Nat) (d_ : zY) : Option Bool :=
 (qd.named k d_.Start true).bind fun v =>
 if !v then
 some false
 else
 (qd.named k d_.Layout true).bind fun v1 =>
 if !v1 then
 some false
 else
 if decide (200 < (d_.Prods.length : Int)) then
 some false
 else
 (qd.Right_l1 k d_ k 0).bind fun o1 =>
 o1.fin fun d1 =>
 (qd.Right_l2 k d_ k 0).bind fun o2 =>
 o2.fin fun d2 =>
 (qd.Right_l3 k d_ k 0).bind fun o3 =>
 o3.fin fun d3 =>
 (qd.Right_l4 k d_ k 0).bind fun o4 =>
 o4.fin fun d4 =>
 (qd.Right_l5 k d_ k 0).bind fun o5 =>
 o5.fin fun d5 =>
 some true
def F.strings.Builder_WriteString (b : zx) (s : Tx) : Option (Int × zx) :=
 (F.strings.copyCheck b).bind fun v =>
 if decide ((v.buf.length + s.length) * 1 <= 140737488355328) then
 if decide (v.buf.length + s.length <= 9223372036854775807) then
 some ((s.length : Int), (zx.mk v.addr (v.buf ++ ve s)))
 else none
 else none
def F.strings.Builder_Len (b : zx) : Option Int :=
 some (b.buf.length : Int)
def qd.Print_c1 (s : Tx) (free : zx) : Option (Bool × zx) :=
 (F.strings.Builder_WriteString free s).bind fun v =>
 (F.strings.Builder_Len v.2).bind fun v1 =>
 some (decide (v1 <= 65536), v.2)
def qc.Runs_j2 (out_ : List vw) : Option (RS (List vw)) :=
 some (.next out_)
def qc.Runs_j3 (v1 : (List vw)) (x_ : Int) (t24 : Bool) : Option (RS (List vw)) :=
 if t24 then
 if xf (IntKind.wrap .i64 ((v1.length : Int) - 1)) v1.length then
 qc.Runs_j2 (jG v1 (IntKind.wrap .i64 ((v1.length : Int) - 1)) (vw.mk ((at_ v1 (IntKind.wrap .i64 ((v1.length : Int) - 1))).Lo) (IntKind.wrap .i64 x_)))
 else none
 else
 if decide ((v1.length + ([(vw.mk (IntKind.wrap .i64 x_) (IntKind.wrap .i64 x_))] : List vw).length) * 16 <= 140737488355328) then
 if decide (v1.length + ([(vw.mk (IntKind.wrap .i64 x_) (IntKind.wrap .i64 x_))] : List vw).length <= 9223372036854775807) then
 qc.Runs_j2 (v1 ++ ([(vw.mk (IntKind.wrap .i64 x_) (IntKind.wrap .i64 x_))] : List vw))
 else none
 else none
def qc.Runs_b1 (x_ : Int) (v1 : (List vw)) : Option (RS (List vw)) :=
 if decide (0 < (v1.length : Int)) then
 if xf (IntKind.wrap .i64 ((v1.length : Int) - 1)) v1.length then
 qc.Runs_j3 v1 x_ ((IntKind.wrap .i64 (((at_ v1 (IntKind.wrap .i64 ((v1.length : Int) - 1))).Hi) + 1)) == (IntKind.wrap .i64 x_))
 else none
 else
 qc.Runs_j3 v1 x_ false
def qc.Runs (s : S4) : Option (List vw) :=
  (runR (qc.Runs_b1) ([] : List vw) (allB s)).bind fun ob1 =>
  match ob1 with
 | .next v1 =>
  some v1
 | .brk _ =>
  none
 | .ret _ =>
  none
def qc.sign_j2 (b : Int) (t27 : Bool) : Option Tx :=
 if t27 then
 some (vj ([b] : List Int))
 else
 if vp (vh .u8 b 16) (IntKind.wrap .u8 ((vh .u8 b 16) + 1)) ([48, 49, 50, 51, 52, 53, 54, 55, 56, 57, 97, 98, 99, 100, 101, 102] : Tx).length then
 if decide (([92, 120] : Tx).length + (sub ([48, 49, 50, 51, 52, 53, 54, 55, 56, 57, 97, 98, 99, 100, 101, 102] : Tx) (vh .u8 b 16) (IntKind.wrap .u8 ((vh .u8 b 16) + 1))).length <= 9223372036854775807) then
 if vp (jL b 16) (IntKind.wrap .u8 ((jL b 16) + 1)) ([48, 49, 50, 51, 52, 53, 54, 55, 56, 57, 97, 98, 99, 100, 101, 102] : Tx).length then
 if decide ((([92, 120] : Tx) ++ (sub ([48, 49, 50, 51, 52, 53, 54, 55, 56, 57, 97, 98, 99, 100, 101, 102] : Tx) (vh .u8 b 16) (IntKind.wrap .u8 ((vh .u8 b 16) + 1)))).length + (sub ([48, 49, 50, 51, 52, 53, 54, 55, 56, 57, 97, 98, 99, 100, 101, 102] : Tx) (jL b 16) (IntKind.wrap .u8 ((jL b 16) + 1))).length <= 9223372036854775807) then
 some ((([92, 120] : Tx) ++ (sub ([48, 49, 50, 51, 52, 53, 54, 55, 56, 57, 97, 98, 99, 100, 101, 102] : Tx) (vh .u8 b 16) (IntKind.wrap .u8 ((vh .u8 b 16) + 1)))) ++ (sub ([48, 49, 50, 51, 52, 53, 54, 55, 56, 57, 97, 98, 99, 100, 101, 102] : Tx) (jL b 16) (IntKind.wrap .u8 ((jL b 16) + 1))))
 else none
 else none
 else none
 else none
def qc.sign_j1 (b : Int) (t12 : Bool) : Option Tx :=
 if t12 then
 if decide (([92] : Tx).length + (vj ([b] : List Int)).length <= 9223372036854775807) then
 some (([92] : Tx) ++ (vj ([b] : List Int)))
 else none
 else
 if decide (32 < b) then
 qc.sign_j2 b (decide (b < 127))
 else
 qc.sign_j2 b false
def qc.sign_j3 (b : Int) (t121 : Bool) : Option Tx :=
 qc.sign_j1 b t121
def qc.sign (b : Int) : Option Tx :=
 if (b == 10) then
 some ([92, 110] : Tx)
 else
 if (b == 9) then
 some ([92, 116] : Tx)
 else
 if (b == 13) then
 some ([92, 114] : Tx)
 else
 if (b == 32) then
 some ([92, 115] : Tx)
 else
 if (b == 91) then
 qc.sign_j1 b (b == 91)
 else
 if (b == 93) then
 qc.sign_j1 b (b == 93)
 else
 if (b == 92) then
 qc.sign_j3 b (b == 92)
 else
 if (b == 45) then
 qc.sign_j3 b (b == 45)
 else
 qc.sign_j3 b (b == 94)
def qc.Print_j2 (rec_1 : Tx -> Int -> Option Tx) (t9 : Int) (out_1 : Tx) : Option Tx :=
 rec_1 out_1 (IntKind.wrap .i64 (t9 + 1))
def qc.Print_j4 (rec_1 : Tx -> Int -> Option Tx) (t9 : Int) (out_3 : Tx) : Option Tx :=
 qc.Print_j2 rec_1 t9 out_3
def qc.Print_j3 (v : List vw) (t9 : Int) (rec_1 : Tx -> Int -> Option Tx) (out_2 : Tx) : Option Tx :=
 if decide (((at_ v t9).Lo) < ((at_ v t9).Hi)) then
 (qc.sign (IntKind.wrap .u8 ((at_ v t9).Hi))).bind fun v2 =>
 if decide (out_2.length + v2.length <= 9223372036854775807) then
 qc.Print_j4 rec_1 t9 (out_2 ++ v2)
 else none
 else
 qc.Print_j4 rec_1 t9 out_2
def qc.Print_l1 (v : List vw) : Nat -> Tx -> Int -> Option Tx
 | 0, _, _ => none
 | j + 1, out_, t9 =>
  if decide (t9 < (v.length : Int)) then
  if xf t9 v.length then
  (qc.sign (IntKind.wrap .u8 ((at_ v t9).Lo))).bind fun v1 =>
  if decide (out_.length + v1.length <= 9223372036854775807) then
  if decide ((IntKind.wrap .i64 (((at_ v t9).Lo) + 1)) < ((at_ v t9).Hi)) then
  if decide ((out_ ++ v1).length + ([45] : Tx).length <= 9223372036854775807) then
  qc.Print_j3 v t9 (qc.Print_l1 v j) ((out_ ++ v1) ++ ([45] : Tx))
  else none
  else
  qc.Print_j3 v t9 (qc.Print_l1 v j) (out_ ++ v1)
  else none
  else none
  else
  some out_
def qc.Print (k : Nat) (s : S4) : Option Tx :=
 (qc.Runs s).bind fun v =>
 (qc.Print_l1 v k ([91] : Tx) 0).bind fun o1 =>
 if decide (o1.length + ([93] : Tx).length <= 9223372036854775807) then
 some (o1 ++ ([93] : Tx))
 else none
def F.strings.Builder_WriteByte (b : zx) (c : Int) : Option zx :=
 (F.strings.copyCheck b).bind fun v =>
 if decide ((v.buf.length + ([c] : List Int).length) * 1 <= 140737488355328) then
 if decide (v.buf.length + ([c] : List Int).length <= 9223372036854775807) then
 some (zx.mk v.addr (v.buf ++ ([c] : List Int)))
 else none
 else none
def qw.Quote_j2 (rec_1 : Int -> Bool -> List Int -> Option (Bool × (List Int))) (t9 : Int) (addr_1 : Bool) (buf_1 : List Int) : Option (Bool × (List Int)) :=
 rec_1 (IntKind.wrap .i64 (t9 + 1)) addr_1 buf_1
def qw.Quote_j3 (rec_1 : Int -> Bool -> List Int -> Option (Bool × (List Int))) (t9 : Int) (addr_2 : Bool) (buf_2 : List Int) : Option (Bool × (List Int)) :=
 qw.Quote_j2 rec_1 t9 addr_2 buf_2
def qw.Quote_j5 (rec_1 : Int -> Bool -> List Int -> Option (Bool × (List Int))) (t9 : Int) (addr_3 : Bool) (buf_3 : List Int) : Option (Bool × (List Int)) :=
 qw.Quote_j3 rec_1 t9 addr_3 buf_3
def qw.Quote_j6 (rec_1 : Int -> Bool -> List Int -> Option (Bool × (List Int))) (t9 : Int) (addr_4 : Bool) (buf_4 : List Int) : Option (Bool × (List Int)) :=
 qw.Quote_j5 rec_1 t9 addr_4 buf_4
def qw.Quote_j7 (rec_1 : Int -> Bool -> List Int -> Option (Bool × (List Int))) (t9 : Int) (addr_5 : Bool) (buf_5 : List Int) : Option (Bool × (List Int)) :=
 qw.Quote_j6 rec_1 t9 addr_5 buf_5
def qw.Quote_j8 (rec_1 : Int -> Bool -> List Int -> Option (Bool × (List Int))) (t9 : Int) (addr_6 : Bool) (buf_6 : List Int) : Option (Bool × (List Int)) :=
 qw.Quote_j7 rec_1 t9 addr_6 buf_6
def qw.Quote_j10 (rec_1 : Int -> Bool -> List Int -> Option (Bool × (List Int))) (t9 : Int) (addr_7 : Bool) (buf_7 : List Int) : Option (Bool × (List Int)) :=
 qw.Quote_j8 rec_1 t9 addr_7 buf_7
def qw.Quote_j9 (addr_ : Bool) (buf_ : List Int) (b : List Int) (t9 : Int) (rec_1 : Int -> Bool -> List Int -> Option (Bool × (List Int))) (t37 : Bool) : Option (Bool × (List Int)) :=
 if t37 then
 (F.strings.Builder_WriteString (zx.mk addr_ buf_) ([92, 120] : Tx)).bind fun v6 =>
 if xf (vh .u8 (at_ b t9) 16) ([48, 49, 50, 51, 52, 53, 54, 55, 56, 57, 97, 98, 99, 100, 101, 102] : Tx).length then
 (F.strings.Builder_WriteByte v6.2 (yk ([48, 49, 50, 51, 52, 53, 54, 55, 56, 57, 97, 98, 99, 100, 101, 102] : Tx) (vh .u8 (at_ b t9) 16))).bind fun v7 =>
 if xf (jL (at_ b t9) 16) ([48, 49, 50, 51, 52, 53, 54, 55, 56, 57, 97, 98, 99, 100, 101, 102] : Tx).length then
 (F.strings.Builder_WriteByte v7 (yk ([48, 49, 50, 51, 52, 53, 54, 55, 56, 57, 97, 98, 99, 100, 101, 102] : Tx) (jL (at_ b t9) 16))).bind fun v8 =>
 qw.Quote_j10 rec_1 t9 v8.addr v8.buf
 else none
 else none
 else
 (F.strings.Builder_WriteByte (zx.mk addr_ buf_) (at_ b t9)).bind fun v9 =>
 qw.Quote_j10 rec_1 t9 v9.addr v9.buf
def qw.Quote_j4 (addr_ : Bool) (buf_ : List Int) (b : List Int) (t9 : Int) (rec_1 : Int -> Bool -> List Int -> Option (Bool × (List Int))) (t15 : Bool) : Option (Bool × (List Int)) :=
 if t15 then
 (F.strings.Builder_WriteByte (zx.mk addr_ buf_) 92).bind fun v1 =>
 (F.strings.Builder_WriteByte v1 (at_ b t9)).bind fun v2 =>
 qw.Quote_j5 rec_1 t9 v2.addr v2.buf
 else
 if ((at_ b t9) == 10) then
 (F.strings.Builder_WriteString (zx.mk addr_ buf_) ([92, 110] : Tx)).bind fun v3 =>
 qw.Quote_j6 rec_1 t9 v3.2.addr v3.2.buf
 else
 if ((at_ b t9) == 9) then
 (F.strings.Builder_WriteString (zx.mk addr_ buf_) ([92, 116] : Tx)).bind fun v4 =>
 qw.Quote_j7 rec_1 t9 v4.2.addr v4.2.buf
 else
 if ((at_ b t9) == 13) then
 (F.strings.Builder_WriteString (zx.mk addr_ buf_) ([92, 114] : Tx)).bind fun v5 =>
 qw.Quote_j8 rec_1 t9 v5.2.addr v5.2.buf
 else
 if decide ((at_ b t9) < 32) then
 qw.Quote_j9 addr_ buf_ b t9 rec_1 true
 else
 qw.Quote_j9 addr_ buf_ b t9 rec_1 (decide (126 < (at_ b t9)))
def qw.Quote_l1 (b : List Int) : Nat -> Int -> Bool -> List Int -> Option (Bool × (List Int))
 | 0, _, _, _ => none
 | j + 1, t9, addr_, buf_ =>
  if decide (t9 < (b.length : Int)) then
  if xf t9 b.length then
  if ((at_ b t9) == 34) then
  qw.Quote_j4 addr_ buf_ b t9 (qw.Quote_l1 b j) true
  else
  qw.Quote_j4 addr_ buf_ b t9 (qw.Quote_l1 b j) ((at_ b t9) == 92)
  else none
  else
  some (addr_, buf_)
def qw.Quote (k : Nat) (b : List Int) : Option Tx :=
 (F.strings.Builder_WriteByte (zx.mk false ([] : List Int)) 34).bind fun v =>
 (qw.Quote_l1 b k 0 v.addr v.buf).bind fun o1 =>
 (F.strings.Builder_WriteByte (zx.mk o1.1 o1.2) 34).bind fun v10 =>
 (F.strings.Builder_String v10).bind fun v11 =>
 some v11
def qd.symText_j2 (k : Nat) (s : xg) (part1 : Tx) : Option Tx :=
 if (s.Kind == 1) then
 (qw.Quote k (ve s.Text)).bind fun v =>
 some v
 else
 if (s.Kind == 4) then
 if decide (part1.length + ([63] : Tx).length <= 9223372036854775807) then
 some (part1 ++ ([63] : Tx))
 else none
 else
 if (s.Kind == 5) then
 if decide (part1.length + ([42] : Tx).length <= 9223372036854775807) then
 some (part1 ++ ([42] : Tx))
 else none
 else
 if (s.Kind == 6) then
 if decide (part1.length + ([43] : Tx).length <= 9223372036854775807) then
 some (part1 ++ ([43] : Tx))
 else none
 else
 some part1
def qd.symText_j1 (k : Nat) (s : xg) (part : Tx) : Option Tx :=
 if !(s.Sep == ([] : Tx)) then
 if decide (([123] : Tx).length + s.Name.length <= 9223372036854775807) then
 if decide ((([123] : Tx) ++ s.Name).length + ([32] : Tx).length <= 9223372036854775807) then
 (qw.Quote k (ve s.Sep)).bind fun v1 =>
 if decide (((([123] : Tx) ++ s.Name) ++ ([32] : Tx)).length + v1.length <= 9223372036854775807) then
 if decide ((((([123] : Tx) ++ s.Name) ++ ([32] : Tx)) ++ v1).length + ([125] : Tx).length <= 9223372036854775807) then
 qd.symText_j2 k s ((((([123] : Tx) ++ s.Name) ++ ([32] : Tx)) ++ v1) ++ ([125] : Tx))
 else none
 else none
 else none
 else none
 else
 qd.symText_j2 k s part
def qd.symText (k : Nat) (s : xg) : Option Tx :=
 if (s.Name == ([] : Tx)) then
 (qc.Print k s.Set).bind fun v2 =>
 qd.symText_j1 k s v2
 else
 qd.symText_j1 k s s.Name
def qd.prodText_l3 (k : Nat) (p : Prod) : Nat -> Tx -> Int -> Option Tx
 | 0, _, _ => none
 | j + 1, out_2, t25 =>
  if decide (t25 < (p.Syms.length : Int)) then
  if xf t25 p.Syms.length then
  (qd.symText k (at_ p.Syms t25)).bind fun v =>
  if decide (([32] : Tx).length + v.length <= 9223372036854775807) then
  if decide (out_2.length + (([32] : Tx) ++ v).length <= 9223372036854775807) then
  (qd.prodText_l3 k p j) (out_2 ++ (([32] : Tx) ++ v)) (IntKind.wrap .i64 (t25 + 1))
  else none
  else none
  else none
  else
  some out_2
def qd.prodText_j2 (k : Nat) (p : Prod) (out_1 : Tx) : Option Tx :=
 if decide (out_1.length + ([32, 61] : Tx).length <= 9223372036854775807) then
 (qd.prodText_l3 k p k (out_1 ++ ([32, 61] : Tx)) 0).bind fun o3 =>
 if p.Bracket then
 if decide (o3.length + ([32, 98, 114, 97, 99, 107, 101, 116] : Tx).length <= 9223372036854775807) then
 if decide ((o3 ++ ([32, 98, 114, 97, 99, 107, 101, 116] : Tx)).length + ([59, 10] : Tx).length <= 9223372036854775807) then
 some ((o3 ++ ([32, 98, 114, 97, 99, 107, 101, 116] : Tx)) ++ ([59, 10] : Tx))
 else none
 else none
 else
 if decide (o3.length + ([59, 10] : Tx).length <= 9223372036854775807) then
 some (o3 ++ ([59, 10] : Tx))
 else none
 else none
def qd.prodText_j1 (k : Nat) (p : Prod) (out_ : Tx) : Option Tx :=
 if decide (out_.length + p.Sort_.length <= 9223372036854775807) then
 if !(p.Cons == ([] : Tx)) then
 if decide (([46] : Tx).length + p.Cons.length <= 9223372036854775807) then
 if decide ((out_ ++ p.Sort_).length + (([46] : Tx) ++ p.Cons).length <= 9223372036854775807) then
 qd.prodText_j2 k p ((out_ ++ p.Sort_) ++ (([46] : Tx) ++ p.Cons))
 else none
 else none
 else
 qd.prodText_j2 k p (out_ ++ p.Sort_)
 else none
def qd.prodText (k : Nat) (p : Prod) : Option Tx :=
 if p.Lex then
 qd.prodText_j1 k p ([108, 101, 120, 32] : Tx)
 else
 qd.prodText_j1 k p ([99, 102, 32] : Tx)
def qd.chainText_j2 (rec_1 : List Tx -> Int -> Option (List Tx)) (t9 : Int) (parts1 : List Tx) (t : Tx) : Option (List Tx) :=
 rec_1 parts1 (IntKind.wrap .i64 (t9 + 1))
def qd.chainText_j3 (parts : List Tx) (rec_1 : List Tx -> Int -> Option (List Tx)) (t9 : Int) (t1 : Tx) : Option (List Tx) :=
 if decide ((parts.length + ([t1] : List Tx).length) * 16 <= 140737488355328) then
 if decide (parts.length + ([t1] : List Tx).length <= 9223372036854775807) then
 qd.chainText_j2 rec_1 t9 (parts ++ ([t1] : List Tx)) t1
 else none
 else none
def qd.chainText_l1 (l__ : List zw) : Nat -> List Tx -> Int -> Option (List Tx)
 | 0, _, _ => none
 | j + 1, parts, t9 =>
  if decide (t9 < (l__.length : Int)) then
  if xf t9 l__.length then
  (F.strings.Join ((at_ l__ t9).Cons) ([32] : Tx)).bind fun v =>
  if (((at_ l__ t9).Assoc) != 0) then
  if xf ((at_ l__ t9).Assoc) 4 then
  if decide ((at_ ([([] : Tx), ([108, 101, 102, 116, 32] : Tx), ([114, 105, 103, 104, 116, 32] : Tx), ([110, 111, 110, 32] : Tx)] : List Tx) ((at_ l__ t9).Assoc)).length + v.length <= 9223372036854775807) then
  qd.chainText_j3 parts (qd.chainText_l1 l__ j) t9 ((at_ ([([] : Tx), ([108, 101, 102, 116, 32] : Tx), ([114, 105, 103, 104, 116, 32] : Tx), ([110, 111, 110, 32] : Tx)] : List Tx) ((at_ l__ t9).Assoc)) ++ v)
  else none
  else none
  else
  qd.chainText_j3 parts (qd.chainText_l1 l__ j) t9 v
  else none
  else
  some parts
def qd.chainText (k : Nat) (l__ : List zw) : Option Tx :=
 (qd.chainText_l1 l__ k ([] : List Tx) 0).bind fun o1 =>
 (F.strings.Join o1 ([32, 62, 32] : Tx)).bind fun v1 =>
 if decide (([112, 114, 105, 111, 32] : Tx).length + v1.length <= 9223372036854775807) then
 if decide ((([112, 114, 105, 111, 32] : Tx) ++ v1).length + ([59, 10] : Tx).length <= 9223372036854775807) then
 some ((([112, 114, 105, 111, 32] : Tx) ++ v1) ++ ([59, 10] : Tx))
 else none
 else none
def qd.itemsText_j2 (rec_1 : Tx -> Int -> Option Tx) (t8 : Int) (out_1 : Tx) : Option Tx :=
 rec_1 out_1 (IntKind.wrap .i64 (t8 + 1))
def qd.itemsText_j3 (rec_1 : Tx -> Int -> Option Tx) (t8 : Int) (out_2 : Tx) : Option Tx :=
 qd.itemsText_j2 rec_1 t8 out_2
def qd.itemsText_j4 (rec_1 : Tx -> Int -> Option Tx) (t8 : Int) (out_3 : Tx) : Option Tx :=
 qd.itemsText_j3 rec_1 t8 out_3
def qd.itemsText_j5 (rec_1 : Tx -> Int -> Option Tx) (t8 : Int) (out_4 : Tx) : Option Tx :=
 qd.itemsText_j4 rec_1 t8 out_4
def qd.itemsText_j6 (rec_1 : Tx -> Int -> Option Tx) (t8 : Int) (out_5 : Tx) : Option Tx :=
 qd.itemsText_j5 rec_1 t8 out_5
def qd.itemsText_j7 (rec_1 : Tx -> Int -> Option Tx) (t8 : Int) (out_6 : Tx) : Option Tx :=
 qd.itemsText_j6 rec_1 t8 out_6
def qd.itemsText_j8 (rec_1 : Tx -> Int -> Option Tx) (t8 : Int) (out_7 : Tx) : Option Tx :=
 qd.itemsText_j7 rec_1 t8 out_7
def qd.itemsText_j9 (rec_1 : Tx -> Int -> Option Tx) (t8 : Int) (out_8 : Tx) : Option Tx :=
 qd.itemsText_j8 rec_1 t8 out_8
def qd.itemsText_l1 (k : Nat) (l__ : List Item) (g31 : List Item -> Option Tx) : Nat -> Tx -> Int -> Option Tx
 | 0, _, _ => none
 | j + 1, out_, t8 =>
  if decide (t8 < (l__.length : Int)) then
  if xf t8 l__.length then
  if (((at_ l__ t8).Kind) == 1) then
  (qw.Quote k (ve ((at_ l__ t8).Text))).bind fun v =>
  if decide (([32] : Tx).length + v.length <= 9223372036854775807) then
  if decide (out_.length + (([32] : Tx) ++ v).length <= 9223372036854775807) then
  qd.itemsText_j4 (qd.itemsText_l1 k l__ g31 j) t8 (out_ ++ (([32] : Tx) ++ v))
  else none
  else none
  else
  if (((at_ l__ t8).Kind) == 2) then
  (F.strconv.Itoa ((at_ l__ t8).N_)).bind fun v1 =>
  if decide (([32] : Tx).length + v1.length <= 9223372036854775807) then
  if decide (out_.length + (([32] : Tx) ++ v1).length <= 9223372036854775807) then
  qd.itemsText_j5 (qd.itemsText_l1 k l__ g31 j) t8 (out_ ++ (([32] : Tx) ++ v1))
  else none
  else none
  else
  if (((at_ l__ t8).Kind) == 3) then
  if decide (out_.length + ([32, 95] : Tx).length <= 9223372036854775807) then
  qd.itemsText_j6 (qd.itemsText_l1 k l__ g31 j) t8 (out_ ++ ([32, 95] : Tx))
  else none
  else
  if (((at_ l__ t8).Kind) == 4) then
  if decide (out_.length + ([32, 47] : Tx).length <= 9223372036854775807) then
  qd.itemsText_j7 (qd.itemsText_l1 k l__ g31 j) t8 (out_ ++ ([32, 47] : Tx))
  else none
  else
  if (((at_ l__ t8).Kind) == 5) then
  (F.strconv.Itoa ((at_ l__ t8).N_)).bind fun v2 =>
  if decide (([32, 110, 101, 115, 116, 32] : Tx).length + v2.length <= 9223372036854775807) then
  if decide ((([32, 110, 101, 115, 116, 32] : Tx) ++ v2).length + ([32, 40] : Tx).length <= 9223372036854775807) then
  (g31 ((at_ l__ t8).Items)).bind fun v3 =>
  if decide (((([32, 110, 101, 115, 116, 32] : Tx) ++ v2) ++ ([32, 40] : Tx)).length + v3.length <= 9223372036854775807) then
  if decide ((((([32, 110, 101, 115, 116, 32] : Tx) ++ v2) ++ ([32, 40] : Tx)) ++ v3).length + ([32, 41] : Tx).length <= 9223372036854775807) then
  if decide (out_.length + ((((([32, 110, 101, 115, 116, 32] : Tx) ++ v2) ++ ([32, 40] : Tx)) ++ v3) ++ ([32, 41] : Tx)).length <= 9223372036854775807) then
  qd.itemsText_j8 (qd.itemsText_l1 k l__ g31 j) t8 (out_ ++ ((((([32, 110, 101, 115, 116, 32] : Tx) ++ v2) ++ ([32, 40] : Tx)) ++ v3) ++ ([32, 41] : Tx)))
  else none
  else none
  else none
  else none
  else none
  else
  if (((at_ l__ t8).Kind) == 6) then
  (g31 ((at_ l__ t8).Items)).bind fun v4 =>
  if decide (([32, 103, 114, 111, 117, 112, 32, 40] : Tx).length + v4.length <= 9223372036854775807) then
  if decide ((([32, 103, 114, 111, 117, 112, 32, 40] : Tx) ++ v4).length + ([32, 41] : Tx).length <= 9223372036854775807) then
  if decide (out_.length + ((([32, 103, 114, 111, 117, 112, 32, 40] : Tx) ++ v4) ++ ([32, 41] : Tx)).length <= 9223372036854775807) then
  qd.itemsText_j9 (qd.itemsText_l1 k l__ g31 j) t8 (out_ ++ ((([32, 103, 114, 111, 117, 112, 32, 40] : Tx) ++ v4) ++ ([32, 41] : Tx)))
  else none
  else none
  else none
  else
  qd.itemsText_j9 (qd.itemsText_l1 k l__ g31 j) t8 out_
  else none
  else
  some out_
def qd.itemsText_B (k : Nat) (g31 : List Item -> Option Tx) (l__ : List Item) : Option Tx :=
 (qd.itemsText_l1 k l__ g31 k ([] : Tx) 0).bind fun o1 =>
 some o1
def qd.itemsText : Nat -> List Item -> Option Tx
 | 0 => (fun _ => none)
 | k + 1 => qd.itemsText_B k (qd.itemsText k)
def qd.Print_j4 (k : Nat) (i : Int) (d_ : zY) (addr_2 : Bool) (buf_2 : List Int) (rec_1 : Bool -> Int -> Bool -> List Int -> Option (Bool × Bool × (List Int))) (ok_ : Bool) (t41 : Bool) : Option (Bool × Bool × (List Int)) :=
 if t41 then
 if xf i d_.Prods.length then
 (qd.prodText k (at_ d_.Prods i)).bind fun v1 =>
 (qd.Print_c1 v1 (zx.mk addr_2 buf_2)).bind fun v2 =>
 rec_1 v2.1 (IntKind.wrap .i64 (i + 1)) v2.2.addr v2.2.buf
 else none
 else
 some (ok_, addr_2, buf_2)
def qd.Print_l3 (k : Nat) (d_ : zY) : Nat -> Bool -> Int -> Bool -> List Int -> Option (Bool × Bool × (List Int))
 | 0, _, _, _, _ => none
 | j + 1, ok_, i, addr_2, buf_2 =>
  if decide (i < (d_.Prods.length : Int)) then
  qd.Print_j4 k i d_ addr_2 buf_2 (qd.Print_l3 k d_ j) ok_ ok_
  else
  qd.Print_j4 k i d_ addr_2 buf_2 (qd.Print_l3 k d_ j) ok_ false
def qd.Print_j6 (k : Nat) (i1 : Int) (d_ : zY) (addr_3 : Bool) (buf_3 : List Int) (rec_2 : Bool -> Int -> Bool -> List Int -> Option (Bool × Bool × (List Int))) (ok_1 : Bool) (t59 : Bool) : Option (Bool × Bool × (List Int)) :=
 if t59 then
 if xf i1 d_.Chains.length then
 (qd.chainText k (at_ d_.Chains i1)).bind fun v3 =>
 (qd.Print_c1 v3 (zx.mk addr_3 buf_3)).bind fun v4 =>
 rec_2 v4.1 (IntKind.wrap .i64 (i1 + 1)) v4.2.addr v4.2.buf
 else none
 else
 some (ok_1, addr_3, buf_3)
def qd.Print_l5 (k : Nat) (d_ : zY) : Nat -> Bool -> Int -> Bool -> List Int -> Option (Bool × Bool × (List Int))
 | 0, _, _, _, _ => none
 | j + 1, ok_1, i1, addr_3, buf_3 =>
  if decide (i1 < (d_.Chains.length : Int)) then
  qd.Print_j6 k i1 d_ addr_3 buf_3 (qd.Print_l5 k d_ j) ok_1 ok_1
  else
  qd.Print_j6 k i1 d_ addr_3 buf_3 (qd.Print_l5 k d_ j) ok_1 false
def qd.Print_j8 (k : Nat) (i2 : Int) (d_ : zY) (addr_4 : Bool) (buf_4 : List Int) (rec_3 : Bool -> Int -> Bool -> List Int -> Option (Bool × Bool × (List Int))) (ok_2 : Bool) (t77 : Bool) : Option (Bool × Bool × (List Int)) :=
 if t77 then
 if xf i2 d_.Follows.length then
 if decide (([102, 111, 108, 108, 111, 119, 32] : Tx).length + ((at_ d_.Follows i2).Sort_).length <= 9223372036854775807) then
 if decide ((([102, 111, 108, 108, 111, 119, 32] : Tx) ++ ((at_ d_.Follows i2).Sort_)).length + ([32] : Tx).length <= 9223372036854775807) then
 (qc.Print k (S4.mk ((at_ d_.Follows i2).Set.w0) ((at_ d_.Follows i2).Set.w1) ((at_ d_.Follows i2).Set.w2) ((at_ d_.Follows i2).Set.w3))).bind fun v5 =>
 if decide (((([102, 111, 108, 108, 111, 119, 32] : Tx) ++ ((at_ d_.Follows i2).Sort_)) ++ ([32] : Tx)).length + v5.length <= 9223372036854775807) then
 if decide ((((([102, 111, 108, 108, 111, 119, 32] : Tx) ++ ((at_ d_.Follows i2).Sort_)) ++ ([32] : Tx)) ++ v5).length + ([59, 10] : Tx).length <= 9223372036854775807) then
 (qd.Print_c1 ((((([102, 111, 108, 108, 111, 119, 32] : Tx) ++ ((at_ d_.Follows i2).Sort_)) ++ ([32] : Tx)) ++ v5) ++ ([59, 10] : Tx)) (zx.mk addr_4 buf_4)).bind fun v6 =>
 rec_3 v6.1 (IntKind.wrap .i64 (i2 + 1)) v6.2.addr v6.2.buf
 else none
 else none
 else none
 else none
 else none
 else
 some (ok_2, addr_4, buf_4)
def qd.Print_l7 (k : Nat) (d_ : zY) : Nat -> Bool -> Int -> Bool -> List Int -> Option (Bool × Bool × (List Int))
 | 0, _, _, _, _ => none
 | j + 1, ok_2, i2, addr_4, buf_4 =>
  if decide (i2 < (d_.Follows.length : Int)) then
  qd.Print_j8 k i2 d_ addr_4 buf_4 (qd.Print_l7 k d_ j) ok_2 ok_2
  else
  qd.Print_j8 k i2 d_ addr_4 buf_4 (qd.Print_l7 k d_ j) ok_2 false
def qd.Print_j10 (i3 : Int) (d_ : zY) (addr_5 : Bool) (buf_5 : List Int) (rec_4 : Bool -> Int -> Bool -> List Int -> Option (Bool × Bool × (List Int))) (ok_3 : Bool) (t106 : Bool) : Option (Bool × Bool × (List Int)) :=
 if t106 then
 if xf i3 d_.Rejects.length then
 if decide (([114, 101, 106, 101, 99, 116, 32] : Tx).length + ((at_ d_.Rejects i3).Sort_).length <= 9223372036854775807) then
 if decide ((([114, 101, 106, 101, 99, 116, 32] : Tx) ++ ((at_ d_.Rejects i3).Sort_)).length + ([32] : Tx).length <= 9223372036854775807) then
 if decide (((([114, 101, 106, 101, 99, 116, 32] : Tx) ++ ((at_ d_.Rejects i3).Sort_)) ++ ([32] : Tx)).length + ((at_ d_.Rejects i3).By).length <= 9223372036854775807) then
 if decide ((((([114, 101, 106, 101, 99, 116, 32] : Tx) ++ ((at_ d_.Rejects i3).Sort_)) ++ ([32] : Tx)) ++ ((at_ d_.Rejects i3).By)).length + ([59, 10] : Tx).length <= 9223372036854775807) then
 (qd.Print_c1 ((((([114, 101, 106, 101, 99, 116, 32] : Tx) ++ ((at_ d_.Rejects i3).Sort_)) ++ ([32] : Tx)) ++ ((at_ d_.Rejects i3).By)) ++ ([59, 10] : Tx)) (zx.mk addr_5 buf_5)).bind fun v7 =>
 rec_4 v7.1 (IntKind.wrap .i64 (i3 + 1)) v7.2.addr v7.2.buf
 else none
 else none
 else none
 else none
 else none
 else
 some (ok_3, addr_5, buf_5)
def qd.Print_l9 (d_ : zY) : Nat -> Bool -> Int -> Bool -> List Int -> Option (Bool × Bool × (List Int))
 | 0, _, _, _, _ => none
 | j + 1, ok_3, i3, addr_5, buf_5 =>
  if decide (i3 < (d_.Rejects.length : Int)) then
  qd.Print_j10 i3 d_ addr_5 buf_5 (qd.Print_l9 d_ j) ok_3 ok_3
  else
  qd.Print_j10 i3 d_ addr_5 buf_5 (qd.Print_l9 d_ j) ok_3 false
def qd.Print_j12 (k : Nat) (i4 : Int) (d_ : zY) (addr_6 : Bool) (buf_6 : List Int) (rec_5 : Bool -> Int -> Bool -> List Int -> Option (Bool × Bool × (List Int))) (ok_4 : Bool) (t134 : Bool) : Option (Bool × Bool × (List Int)) :=
 if t134 then
 if xf i4 d_.Boxes.length then
 if decide (([98, 111, 120, 32] : Tx).length + ((at_ d_.Boxes i4).Cons).length <= 9223372036854775807) then
 if decide ((([98, 111, 120, 32] : Tx) ++ ((at_ d_.Boxes i4).Cons)).length + ([32, 61] : Tx).length <= 9223372036854775807) then
 (qd.itemsText k ((at_ d_.Boxes i4).Items)).bind fun v8 =>
 if decide (((([98, 111, 120, 32] : Tx) ++ ((at_ d_.Boxes i4).Cons)) ++ ([32, 61] : Tx)).length + v8.length <= 9223372036854775807) then
 if decide ((((([98, 111, 120, 32] : Tx) ++ ((at_ d_.Boxes i4).Cons)) ++ ([32, 61] : Tx)) ++ v8).length + ([59, 10] : Tx).length <= 9223372036854775807) then
 (qd.Print_c1 ((((([98, 111, 120, 32] : Tx) ++ ((at_ d_.Boxes i4).Cons)) ++ ([32, 61] : Tx)) ++ v8) ++ ([59, 10] : Tx)) (zx.mk addr_6 buf_6)).bind fun v9 =>
 rec_5 v9.1 (IntKind.wrap .i64 (i4 + 1)) v9.2.addr v9.2.buf
 else none
 else none
 else none
 else none
 else none
 else
 some (ok_4, addr_6, buf_6)
def qd.Print_l11 (k : Nat) (d_ : zY) : Nat -> Bool -> Int -> Bool -> List Int -> Option (Bool × Bool × (List Int))
 | 0, _, _, _, _ => none
 | j + 1, ok_4, i4, addr_6, buf_6 =>
  if decide (i4 < (d_.Boxes.length : Int)) then
  qd.Print_j12 k i4 d_ addr_6 buf_6 (qd.Print_l11 k d_ j) ok_4 ok_4
  else
  qd.Print_j12 k i4 d_ addr_6 buf_6 (qd.Print_l11 k d_ j) ok_4 false
def qd.Print_j2 (k : Nat) (d_ : zY) (addr_1 : Bool) (buf_1 : List Int) : Option (Tx × Int) :=
 (qd.Print_l3 k d_ k true 0 addr_1 buf_1).bind fun o3 =>
 (qd.Print_l5 k d_ k o3.1 0 o3.2.1 o3.2.2).bind fun o5 =>
 (qd.Print_l7 k d_ k o5.1 0 o5.2.1 o5.2.2).bind fun o7 =>
 (qd.Print_l9 d_ k o7.1 0 o7.2.1 o7.2.2).bind fun o9 =>
 (qd.Print_l11 k d_ k o9.1 0 o9.2.1 o9.2.2).bind fun o11 =>
 if !o11.1 then
 some (([] : Tx), 2)
 else
 (F.strings.Builder_String (zx.mk o11.2.1 o11.2.2)).bind fun v10 =>
 some (v10, 0)
def qd.Print_j1 (k : Nat) (d_ : zY) (addr_ : Bool) (buf_ : List Int) : Option (Tx × Int) :=
 if !(d_.Layout == ([] : Tx)) then
 if decide (([108, 97, 121, 111, 117, 116, 32] : Tx).length + d_.Layout.length <= 9223372036854775807) then
 if decide ((([108, 97, 121, 111, 117, 116, 32] : Tx) ++ d_.Layout).length + ([59, 10] : Tx).length <= 9223372036854775807) then
 (qd.Print_c1 ((([108, 97, 121, 111, 117, 116, 32] : Tx) ++ d_.Layout) ++ ([59, 10] : Tx)) (zx.mk addr_ buf_)).bind fun v11 =>
 qd.Print_j2 k d_ v11.2.addr v11.2.buf
 else none
 else none
 else
 qd.Print_j2 k d_ addr_ buf_
def qd.Print (k : Nat) (d_ : zY) : Option (Tx × Int) :=
 (qd.Right k d_).bind fun v =>
 if !v then
 some (([] : Tx), 3)
 else
 if !(d_.Start == ([] : Tx)) then
 if decide (([115, 116, 97, 114, 116, 32] : Tx).length + d_.Start.length <= 9223372036854775807) then
 if decide ((([115, 116, 97, 114, 116, 32] : Tx) ++ d_.Start).length + ([59, 10] : Tx).length <= 9223372036854775807) then
 (qd.Print_c1 ((([115, 116, 97, 114, 116, 32] : Tx) ++ d_.Start) ++ ([59, 10] : Tx)) (zx.mk false ([] : List Int))).bind fun v12 =>
 qd.Print_j1 k d_ v12.2.addr v12.2.buf
 else none
 else none
 else
 qd.Print_j1 k d_ false ([] : List Int)
def qv.alive_j1 (t0 : Bool) : Option Bool :=
 some t0
def qv.alive (k : Nat) : Option Bool :=
 (qd.Parse k ([99, 102, 32, 69, 46, 65, 61, 69, 32, 34, 43, 34, 32, 69, 59, 112, 114, 105, 111, 32, 108, 101, 102, 116, 32, 65, 59] : Tx)).bind fun v =>
 (qd.Print k v.1).bind fun v1 =>
 (qd.Parse k ([108, 101, 120, 32, 65, 32, 61, 32, 59] : Tx)).bind fun v2 =>
 if ((v.2.At == 0) && ((v.2.Code == 0) && true)) then
 if ((v.1.Prods.length : Int) == 1) then
 if (v1.2 == 0) then
 if (v1.1 == ([99, 102, 32, 69, 46, 65, 32, 61, 32, 69, 32, 34, 43, 34, 32, 69, 59, 10, 112, 114, 105, 111, 32, 108, 101, 102, 116, 32, 65, 59, 10] : Tx)) then
 qv.alive_j1 ((v2.2.At == 8) && ((v2.2.Code == 30) && true))
 else
 qv.alive_j1 false
 else
 qv.alive_j1 false
 else
 qv.alive_j1 false
 else
 qv.alive_j1 false
def qr.SameItems_j2 (rec_1 : Int -> Option (LR Unit Bool)) (i : Int) (t67 : Bool) : Option (LR Unit Bool) :=
 if t67 then
 some (.ret false)
 else
 rec_1 (IntKind.wrap .i64 (i + 1))
def qr.SameItems_l1 (a_ : List Item) (b : List Item) (g34 : List Item -> List Item -> Option Bool) : Nat -> Int -> Option (LR Unit Bool)
 | 0, _ => none
 | j + 1, i =>
  if decide (i < (a_.length : Int)) then
  if xf i a_.length then
  if xf i b.length then
  if (((at_ a_ i).Kind) != ((at_ b i).Kind)) then
  qr.SameItems_j2 (qr.SameItems_l1 a_ b g34 j) i true
  else
  if !(((at_ a_ i).Text) == ((at_ b i).Text)) then
  qr.SameItems_j2 (qr.SameItems_l1 a_ b g34 j) i true
  else
  if (((at_ a_ i).N_) != ((at_ b i).N_)) then
  qr.SameItems_j2 (qr.SameItems_l1 a_ b g34 j) i true
  else
  (g34 ((at_ a_ i).Items) ((at_ b i).Items)).bind fun v =>
  qr.SameItems_j2 (qr.SameItems_l1 a_ b g34 j) i (!v)
  else none
  else none
  else
  some (.done ())
def qr.SameItems_B (k : Nat) (g34 : List Item -> List Item -> Option Bool) (a_ : List Item) (b : List Item) : Option Bool :=
 if ((a_.length : Int) != (b.length : Int)) then
 some false
 else
 (qr.SameItems_l1 a_ b g34 k 0).bind fun o1 =>
 o1.fin fun d1 =>
 some true
def qr.SameItems : Nat -> List Item -> List Item -> Option Bool
 | 0 => (fun _ _ => none)
 | k + 1 => qr.SameItems_B k (qr.SameItems k)
def qr.sameProds_j2 (rec_1 : Int -> Option (LR Unit Bool)) (i : Int) (k_ : Int) : Option (LR Unit Bool) :=
 rec_1 (IntKind.wrap .i64 (i + 1))
def qr.sameProds_l5 (a_ : List Prod) (i : Int) (b : List Prod) : Nat -> Int -> Option (LR Int Bool)
 | 0, _ => none
 | j + 1, k_1 =>
  if decide (k_1 < (((at_ a_ i).Syms).length : Int)) then
  if xf k_1 ((at_ a_ i).Syms).length then
  if xf k_1 ((at_ b i).Syms).length then
  if !((((at_ ((at_ a_ i).Syms) k_1).Kind) == ((at_ ((at_ b i).Syms) k_1).Kind)) && ((((at_ ((at_ a_ i).Syms) k_1).Text) == ((at_ ((at_ b i).Syms) k_1).Text)) && ((S4.eq (S4.mk ((at_ ((at_ a_ i).Syms) k_1).Set.w0) ((at_ ((at_ a_ i).Syms) k_1).Set.w1) ((at_ ((at_ a_ i).Syms) k_1).Set.w2) ((at_ ((at_ a_ i).Syms) k_1).Set.w3)) (S4.mk ((at_ ((at_ b i).Syms) k_1).Set.w0) ((at_ ((at_ b i).Syms) k_1).Set.w1) ((at_ ((at_ b i).Syms) k_1).Set.w2) ((at_ ((at_ b i).Syms) k_1).Set.w3))) && ((((at_ ((at_ a_ i).Syms) k_1).Name) == ((at_ ((at_ b i).Syms) k_1).Name)) && ((((at_ ((at_ a_ i).Syms) k_1).Sep) == ((at_ ((at_ b i).Syms) k_1).Sep)) && true))))) then
  some (.ret false)
  else
  (qr.sameProds_l5 a_ i b j) (IntKind.wrap .i64 (k_1 + 1))
  else none
  else none
  else
  some (.done k_1)
def qr.sameProds_j4 (k : Nat) (a_ : List Prod) (i : Int) (b : List Prod) (rec_1 : Int -> Option (LR Unit Bool)) (t62 : Bool) : Option (LR Unit Bool) :=
 if t62 then
 some (.ret false)
 else
 (qr.sameProds_l5 a_ i b k 0).bind fun o5 =>
 o5.go fun d5 =>
 qr.sameProds_j2 rec_1 i d5
def qr.sameProds_j3 (k : Nat) (a_ : List Prod) (i : Int) (b : List Prod) (rec_1 : Int -> Option (LR Unit Bool)) : Option (LR Unit Bool) :=
 if (((at_ a_ i).Lex) != ((at_ b i).Lex)) then
 qr.sameProds_j4 k a_ i b rec_1 true
 else
 if !(((at_ a_ i).Sort_) == ((at_ b i).Sort_)) then
 qr.sameProds_j4 k a_ i b rec_1 true
 else
 if !(((at_ a_ i).Cons) == ((at_ b i).Cons)) then
 qr.sameProds_j4 k a_ i b rec_1 true
 else
 if (((at_ a_ i).Bracket) != ((at_ b i).Bracket)) then
 qr.sameProds_j4 k a_ i b rec_1 true
 else
 qr.sameProds_j4 k a_ i b rec_1 ((((at_ a_ i).Syms).length : Int) != (((at_ b i).Syms).length : Int))
def qr.sameProds_l1 (k : Nat) (a_ : List Prod) (b : List Prod) : Nat -> Int -> Option (LR Unit Bool)
 | 0, _ => none
 | j + 1, i =>
  if decide (i < (a_.length : Int)) then
  if xf i a_.length then
  if xf i b.length then
  qr.sameProds_j3 k a_ i b (qr.sameProds_l1 k a_ b j)
  else none
  else none
  else
  some (.done ())
def qr.sameProds (k : Nat) (a_ : List Prod) (b : List Prod) : Option Bool :=
 if ((a_.length : Int) != (b.length : Int)) then
 some false
 else
 (qr.sameProds_l1 k a_ b k 0).bind fun o1 =>
 o1.fin fun d1 =>
 some true
def qr.SameNames_l1 (a_ : List Tx) (b : List Tx) : Nat -> Int -> Option (LR Unit Bool)
 | 0, _ => none
 | j + 1, i =>
  if decide (i < (a_.length : Int)) then
  if xf i a_.length then
  if xf i b.length then
  if !((at_ a_ i) == (at_ b i)) then
  some (.ret false)
  else
  (qr.SameNames_l1 a_ b j) (IntKind.wrap .i64 (i + 1))
  else none
  else none
  else
  some (.done ())
def qr.SameNames (k : Nat) (a_ : List Tx) (b : List Tx) : Option Bool :=
 if ((a_.length : Int) != (b.length : Int)) then
 some false
 else
 (qr.SameNames_l1 a_ b k 0).bind fun o1 =>
 o1.fin fun d1 =>
 some true
def qr.sameChains_j3 (rec_2 : Int -> Option (LR Int Bool)) (k_ : Int) : Option (LR Int Bool) :=
 rec_2 (IntKind.wrap .i64 (k_ + 1))
def qr.sameChains_l2 (k : Nat) (a_ : List (List zw)) (i : Int) (b : List (List zw)) : Nat -> Int -> Option (LR Int Bool)
 | 0, _ => none
 | j + 1, k_ =>
  if decide (k_ < ((at_ a_ i).length : Int)) then
  if xf k_ (at_ a_ i).length then
  if xf k_ (at_ b i).length then
  if (((at_ (at_ a_ i) k_).Assoc) != ((at_ (at_ b i) k_).Assoc)) then
  some (.ret false)
  else
  (qr.SameNames k ((at_ (at_ a_ i) k_).Cons) ((at_ (at_ b i) k_).Cons)).bind fun v =>
  if !v then
  some (.ret false)
  else
  qr.sameChains_j3 (qr.sameChains_l2 k a_ i b j) k_
  else none
  else none
  else
  some (.done k_)
def qr.sameChains_l1 (k : Nat) (a_ : List (List zw)) (b : List (List zw)) : Nat -> Int -> Option (LR Unit Bool)
 | 0, _ => none
 | j + 1, i =>
  if decide (i < (a_.length : Int)) then
  if xf i a_.length then
  if xf i b.length then
  if (((at_ a_ i).length : Int) != ((at_ b i).length : Int)) then
  some (.ret false)
  else
  (qr.sameChains_l2 k a_ i b k 0).bind fun o2 =>
  o2.go fun d2 =>
  (qr.sameChains_l1 k a_ b j) (IntKind.wrap .i64 (i + 1))
  else none
  else none
  else
  some (.done ())
def qr.sameChains (k : Nat) (a_ : List (List zw)) (b : List (List zw)) : Option Bool :=
 if ((a_.length : Int) != (b.length : Int)) then
 some false
 else
 (qr.sameChains_l1 k a_ b k 0).bind fun o1 =>
 o1.fin fun d1 =>
 some true
def qr.Same_l2 (a_ : zY) (b : zY) : Nat -> Int -> Option (LR Unit Bool)
 | 0, _ => none
 | j + 1, i =>
  if decide (i < (a_.Follows.length : Int)) then
  if xf i a_.Follows.length then
  if xf i b.Follows.length then
  if !((((at_ a_.Follows i).Sort_) == ((at_ b.Follows i).Sort_)) && ((S4.eq (S4.mk ((at_ a_.Follows i).Set.w0) ((at_ a_.Follows i).Set.w1) ((at_ a_.Follows i).Set.w2) ((at_ a_.Follows i).Set.w3)) (S4.mk ((at_ b.Follows i).Set.w0) ((at_ b.Follows i).Set.w1) ((at_ b.Follows i).Set.w2) ((at_ b.Follows i).Set.w3))) && true)) then
  some (.ret false)
  else
  (qr.Same_l2 a_ b j) (IntKind.wrap .i64 (i + 1))
  else none
  else none
  else
  some (.done ())
def qr.Same_l3 (a_ : zY) (b : zY) : Nat -> Int -> Option (LR Unit Bool)
 | 0, _ => none
 | j + 1, i1 =>
  if decide (i1 < (a_.Rejects.length : Int)) then
  if xf i1 a_.Rejects.length then
  if xf i1 b.Rejects.length then
  if !((((at_ a_.Rejects i1).Sort_) == ((at_ b.Rejects i1).Sort_)) && ((((at_ a_.Rejects i1).By) == ((at_ b.Rejects i1).By)) && true)) then
  some (.ret false)
  else
  (qr.Same_l3 a_ b j) (IntKind.wrap .i64 (i1 + 1))
  else none
  else none
  else
  some (.done ())
def qr.Same_j5 (rec_3 : Int -> Option (LR Unit Bool)) (i2 : Int) : Option (LR Unit Bool) :=
 rec_3 (IntKind.wrap .i64 (i2 + 1))
def qr.Same_l4 (k : Nat) (a_ : zY) (b : zY) : Nat -> Int -> Option (LR Unit Bool)
 | 0, _ => none
 | j + 1, i2 =>
  if decide (i2 < (a_.Boxes.length : Int)) then
  if xf i2 a_.Boxes.length then
  if xf i2 b.Boxes.length then
  if !(((at_ a_.Boxes i2).Cons) == ((at_ b.Boxes i2).Cons)) then
  some (.ret false)
  else
  (qr.SameItems k ((at_ a_.Boxes i2).Items) ((at_ b.Boxes i2).Items)).bind fun v =>
  if !v then
  some (.ret false)
  else
  qr.Same_j5 (qr.Same_l4 k a_ b j) i2
  else none
  else none
  else
  some (.done ())
def qr.Same_j1 (k : Nat) (a_ : zY) (b : zY) (t46 : Bool) : Option Bool :=
 if t46 then
 some false
 else
 (qr.Same_l2 a_ b k 0).bind fun o2 =>
 o2.fin fun d2 =>
 (qr.Same_l3 a_ b k 0).bind fun o3 =>
 o3.fin fun d3 =>
 (qr.Same_l4 k a_ b k 0).bind fun o4 =>
 o4.fin fun d4 =>
 (qr.sameProds k a_.Prods b.Prods).bind fun v1 =>
 if v1 then
 (qr.sameChains k a_.Chains b.Chains).bind fun v2 =>
 some v2
 else
 some false
def qr.Same (k : Nat) (a_ : zY) (b : zY) : Option Bool :=
 if !(a_.Start == b.Start) then
 qr.Same_j1 k a_ b true
 else
 if !(a_.Layout == b.Layout) then
 qr.Same_j1 k a_ b true
 else
 if ((a_.Follows.length : Int) != (b.Follows.length : Int)) then
 qr.Same_j1 k a_ b true
 else
 if ((a_.Rejects.length : Int) != (b.Rejects.length : Int)) then
 qr.Same_j1 k a_ b true
 else
 qr.Same_j1 k a_ b ((a_.Boxes.length : Int) != (b.Boxes.length : Int))
def qv.DefsBack_j2 (t4 : Bool) : Option Bool :=
 some t4
def qv.DefsBack_j1 (k : Nat) (text_ : Tx) : Option Bool :=
 (qd.Parse k text_).bind fun v4 =>
 if (v4.2.Code != 0) then
 (qv.alive k).bind fun v5 =>
 if v5 then
 (qr.Same k v4.1 (zY.mk ([] : Tx) ([] : Tx) ([] : List Prod) ([] : List (List zw)) ([] : List Follow) ([] : List zz) ([] : List xm))).bind fun v6 =>
 some v6
 else
 some false
 else
 (qd.Print k v4.1).bind fun v7 =>
 if (v7.2 != 0) then
 (qv.alive k).bind fun v8 =>
 if v8 then
 if (v7.2 == 2) then
 (qd.Right k v4.1).bind fun v9 =>
 some v9
 else
 some false
 else
 some false
 else
 (qd.Parse k v7.1).bind fun v10 =>
 (qv.alive k).bind fun v11 =>
 if v11 then
 (qd.Right k v4.1).bind fun v12 =>
 if v12 then
 if (v10.2.Code == 0) then
 (qr.Same k v4.1 v10.1).bind fun v13 =>
 qv.DefsBack_j2 v13
 else
 qv.DefsBack_j2 false
 else
 qv.DefsBack_j2 false
 else
 qv.DefsBack_j2 false
def qv.DefsBack (k : Nat) (d_ : zY) (text_ : Tx) : Option Bool :=
 (qv.heavy k d_).bind fun v =>
 if v then
 (qv.alive k).bind fun v1 =>
 some v1
 else
 if decide (20000 < (text_.length : Int)) then
 (qv.alive k).bind fun v2 =>
 some v2
 else
 (qd.Print k d_).bind fun v3 =>
 if (v3.2 == 0) then
 (qd.Parse k v3.1).bind fun v14 =>
 if (v14.2.Code != 0) then
 some false
 else
 (qr.Same k v14.1 d_).bind fun v15 =>
 if !v15 then
 some false
 else
 qv.DefsBack_j1 k text_
 else
 qv.DefsBack_j1 k text_
end Go.Vc
