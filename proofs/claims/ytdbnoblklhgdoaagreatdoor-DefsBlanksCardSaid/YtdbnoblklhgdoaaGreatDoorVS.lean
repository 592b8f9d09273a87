import Derived.Test.YtdbnoblklhgdoaaGreatDoorFF
import Derived.Test.YtdbnoblklhgdoaaGreatDoorVcV
set_option linter.unusedVariables false
set_option linter.unusedSimpArgs false
namespace Go.Vc
open Go
@[reducible] def vWord (x : Word) (a1 : Option Addr) (n1 c1 : Nat) : List Value := [.int .i64 x.Kind, .string (bs x.Text), .slice a1 n1 c1, .int .u64 x.Set.w0, .int .u64 x.Set.w1, .int .u64 x.Set.w2, .int .u64 x.Set.w3, .int .i64 x.N_, .int .i64 x.At, .int .i64 x.Line, .int .i64 x.Col]
@[reducible] def vWords_scanner (x : Words_scanner) (a1 : Option Addr) (n1 c1 : Nat) : List Value := [.string (bs x.text), .int .i64 x.at_, .int .i64 x.line, .int .i64 x.top, .slice a1 n1 c1]
@[reducible] def vSym (x : Sym) : List Value := [.int .i64 x.Kind, .string (bs x.Text), .int .u64 x.Set.w0, .int .u64 x.Set.w1, .int .u64 x.Set.w2, .int .u64 x.Set.w3, .string (bs x.Name), .string (bs x.Sep)]
@[reducible] def vProd (x : Prod) (a1 : Option Addr) (n1 c1 : Nat) : List Value := [.bool x.Lex, .string (bs x.Sort_), .string (bs x.Cons), .bool x.Bracket, .slice a1 n1 c1]
@[reducible] def vItem (x : Item) (a1 : Option Addr) (n1 c1 : Nat) : List Value := [.int .i64 x.Kind, .string (bs x.Text), .int .i64 x.N_, .slice a1 n1 c1]
@[reducible] def vDef (x : Def) (a1 : Option Addr) (n1 c1 : Nat) (a2 : Option Addr) (n2 c2 : Nat) (a3 : Option Addr) (n3 c3 : Nat) (a4 : Option Addr) (n4 c4 : Nat) (a5 : Option Addr) (n5 c5 : Nat) : List Value := [.string (bs x.Start), .string (bs x.Layout), .slice a1 n1 c1, .slice a2 n2 c2, .slice a3 n3 c3, .slice a4 n4 c4, .slice a5 n5 c5]
end Go.Vc
