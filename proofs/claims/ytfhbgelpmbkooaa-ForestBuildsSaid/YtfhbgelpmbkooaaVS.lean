import Derived.Test.YtfhbgelpmbkooaaFF
import Derived.Test.YtfhbgelpmbkooaaVcV
set_option linter.unusedVariables false
set_option linter.unusedSimpArgs false
namespace Go.Vc
open Go
@[reducible] def vKSym (x : KSym) : List Value := [.int .i64 x.Nt, .int .u64 x.Set.w0, .int .u64 x.Set.w1, .int .u64 x.Set.w2, .int .u64 x.Set.w3]
@[reducible] def vGram (x : Gram) (a1 : Option Addr) (n1 c1 : Nat) : List Value := [.int .i64 x.Nts, .int .i64 x.Start, .slice a1 n1 c1]
@[reducible] def vForest_span (x : Forest_span) : List Value := [.int .i64 x.nt, .int .i64 x.from_, .int .i64 x.to]
@[reducible] def vForest_part (x : Forest_part) : List Value := [.int .i64 x.rule, .int .i64 x.dot, .int .i64 x.from_, .int .i64 x.to]
@[reducible] def vEItem (x : EItem) : List Value := [.int .i64 x.Rule, .int .i64 x.Dot, .int .i64 x.From]
@[reducible] def vTree (x : Tree) (a1 : Option Addr) (n1 c1 : Nat) : List Value := [.int .i64 x.Rule, .int .u8 x.Byte, .slice a1 n1 c1]
@[reducible] def vFNode (x : FNode) (a1 : Option Addr) (n1 c1 : Nat) (a2 : Option Addr) (n2 c2 : Nat) : List Value := [.int .i64 x.Nt, .int .i64 x.Rule, .int .i64 x.Dot, .int .i64 x.From, .int .i64 x.To, .slice a1 n1 c1, .slice a2 n2 c2]
@[reducible] def vRef07_Table (x : Ref07_Table) (a1 : Option Addr) (n1 c1 : Nat) (a2 : Option Addr) (n2 c2 : Nat) (a3 : Option Addr) (n3 c3 : Nat) : List Value := [.int .i64 x.G.Nts, .int .i64 x.G.Start, .slice a1 n1 c1, .slice a2 n2 c2, .int .i64 x.N_, .slice a3 n3 c3]
end Go.Vc
