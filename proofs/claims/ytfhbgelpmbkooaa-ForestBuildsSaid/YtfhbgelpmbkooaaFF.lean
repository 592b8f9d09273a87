import Derived.Test.YtfhbgelpmbkooaaVcZ
set_option linter.unusedVariables false
set_option linter.unusedSimpArgs false
namespace Go.Vc
open Go
structure KSym where
 Nt : Int
 Set : S4
instance : Inhabited KSym := ⟨⟨default, default⟩⟩
def eKSym (x : KSym) : List Dc := [.int .i64 x.Nt, .int .u64 x.Set.w0, .int .u64 x.Set.w1, .int .u64 x.Set.w2, .int .u64 x.Set.w3]
structure Rule where
 Lhs : Int
 Rhs : List KSym
instance : Inhabited Rule := ⟨⟨default, default⟩⟩
def eRule (x : Rule) : List Dc := [.int .i64 x.Lhs, .slice 5 (x.Rhs.map eKSym)]
structure Gram where
 Nts : Int
 Start : Int
 Rules : List Rule
instance : Inhabited Gram := ⟨⟨default, default, default⟩⟩
def eGram (x : Gram) : List Dc := [.int .i64 x.Nts, .int .i64 x.Start, .slice 2 (x.Rules.map eRule)]
structure Forest_span where
 nt : Int
 from_ : Int
 to : Int
instance : Inhabited Forest_span := ⟨⟨default, default, default⟩⟩
def kForest_span (x : Forest_span) : Value := .agg #[.int .i64 x.nt, .int .i64 x.from_, .int .i64 x.to]
def qForest_span (a b : Forest_span) : Bool := ((a.nt == b.nt) && ((a.from_ == b.from_) && ((a.to == b.to) && true)))
structure Forest_part where
 rule : Int
 dot : Int
 from_ : Int
 to : Int
instance : Inhabited Forest_part := ⟨⟨default, default, default, default⟩⟩
def kForest_part (x : Forest_part) : Value := .agg #[.int .i64 x.rule, .int .i64 x.dot, .int .i64 x.from_, .int .i64 x.to]
def qForest_part (a b : Forest_part) : Bool := ((a.rule == b.rule) && ((a.dot == b.dot) && ((a.from_ == b.from_) && ((a.to == b.to) && true))))
structure EItem where
 Rule : Int
 Dot : Int
 From : Int
instance : Inhabited EItem := ⟨⟨default, default, default⟩⟩
def kEItem (x : EItem) : Value := .agg #[.int .i64 x.Rule, .int .i64 x.Dot, .int .i64 x.From]
def qEItem (a b : EItem) : Bool := ((a.Rule == b.Rule) && ((a.Dot == b.Dot) && ((a.From == b.From) && true)))
def eEItem (x : EItem) : List Dc := [.int .i64 x.Rule, .int .i64 x.Dot, .int .i64 x.From]
structure Earley_chart where
 g : Gram
 w_ : List Int
 by_ : List (List Int)
 sets : List (List EItem)
 met : List (List (EItem × Int))
 empty : List (Int × Int)
instance : Inhabited Earley_chart := ⟨⟨default, default, default, default, default, default⟩⟩
structure Run where
 Lo : Int
 Hi : Int
instance : Inhabited Run := ⟨⟨default, default⟩⟩
def eRun (x : Run) : List Dc := [.int .i64 x.Lo, .int .i64 x.Hi]
structure Forest_grove where
 g : Gram
 w_ : List Int
 by_ : List (List Int)
 whole : List (Forest_span × Int)
 counts : List (Forest_span × Int)
 rows : List (Forest_part × Int)
instance : Inhabited Forest_grove := ⟨⟨default, default, default, default, default, default⟩⟩
structure Tree where
 Rule : Int
 Byte : Int
 Kids : List Tree
instance : Inhabited Tree := ⟨⟨default, default, []⟩⟩
mutual
def eTree : Tree → List Dc
 | .mk Rule Byte Kids => [.int .i64 Rule, .int .u8 Byte, .slice 3 (eTrees Kids)]
def eTrees : List Tree → List (List Dc)
 | [] => []
 | x :: r => eTree x :: eTrees r
end
theorem eTrees_map : ∀ l, eTrees l = l.map eTree
 | [] => rfl
 | x :: r => by simp only [eTrees, List.map]; rw [eTrees_map r]
theorem eTree_eq (x : Tree) : eTree x = [.int .i64 x.Rule, .int .u8 x.Byte, .slice 3 (x.Kids.map eTree)] := by cases x; simp only [eTree, eTrees_map]
structure Alt where
 Rule : Int
 Mid : Int
 Left : Int
 Right : Int
instance : Inhabited Alt := ⟨⟨default, default, default, default⟩⟩
def eAlt (x : Alt) : List Dc := [.int .i64 x.Rule, .int .i64 x.Mid, .int .i64 x.Left, .int .i64 x.Right]
structure FNode where
 Nt : Int
 Rule : Int
 Dot : Int
 From : Int
 To : Int
 Ban : List Int
 Alts : List Alt
instance : Inhabited FNode := ⟨⟨default, default, default, default, default, default, default⟩⟩
def eFNode (x : FNode) : List Dc := [.int .i64 x.Nt, .int .i64 x.Rule, .int .i64 x.Dot, .int .i64 x.From, .int .i64 x.To, .slice 1 (x.Ban.map eI64), .slice 4 (x.Alts.map eAlt)]
structure Forest where
 Root : Int
 Nodes : List FNode
instance : Inhabited Forest := ⟨⟨default, default⟩⟩
structure Forest_packer where
 v : Forest_grove
 spans : List (Forest_span × Int)
 parts : List (Forest_part × Int)
 f : Forest
instance : Inhabited Forest_packer := ⟨⟨default, default, default, default⟩⟩
structure Ref07_Table where
 G : Gram
 W : List Int
 N_ : Int
 Yes : List Bool
instance : Inhabited Ref07_Table := ⟨⟨default, default, default, default⟩⟩
structure Ref08_Packer where
 T : Ref07_Table
 F : Forest
instance : Inhabited Ref08_Packer := ⟨⟨default, default⟩⟩
def F.ref06.Heavy_l1 (g_ : Gram) (most : Int) : Nat → Int → Int → Option (LR Unit Bool)
 | 0, _, _ => none
 | j + 1, n, i =>
  if decide (i < (g_.Rules.length : Int)) then
  if inR i g_.Rules.length then
  if decide (most < (IntKind.wrap .i64 ((IntKind.wrap .i64 (n + 1)) + (((at_ g_.Rules i).Rhs).length : Int)))) then
  some (.ret true)
  else
  (F.ref06.Heavy_l1 g_ most j) (IntKind.wrap .i64 ((IntKind.wrap .i64 (n + 1)) + (((at_ g_.Rules i).Rhs).length : Int))) (IntKind.wrap .i64 (i + 1))
  else none
  else
  some (.done ())
def F.ref06.Heavy (k : Nat) (g_ : Gram) (most : Int) : Option Bool :=
 if decide (most < g_.Nts) then
 some true
 else
 if decide (most < (g_.Rules.length : Int)) then
 some true
 else
 (F.ref06.Heavy_l1 g_ most k g_.Nts 0).bind fun o1 =>
 o1.fin fun d1 =>
 some false
def F.ref08.Heavy (k : Nat) (g_ : Gram) (w__ : List Int) : Option Bool :=
 if decide (9 < (w__.length : Int)) then
 if decide ((w__.length : Int) ≤ 512) then
 some true
 else
 (F.ref06.Heavy k g_ 120).bind fun v_ =>
 some v_
 else
 (F.ref06.Heavy k g_ 120).bind fun v_1 =>
 some v_1
def F.law08.sum : Option Gram :=
 some (Gram.mk 1 0 ([(Rule.mk 0 ([(KSym.mk 0 (S4.mk 0 0 0 0)), (KSym.mk (-1) (S4.mk 8796093022208 0 0 0)), (KSym.mk 0 (S4.mk 0 0 0 0))] : List KSym)), (Rule.mk 0 ([(KSym.mk (-1) (S4.mk 287948901175001088 0 0 0))] : List KSym))] : List Rule))
def F.facts.Right_j4 (rec_2 : Int → Option (LR Int Int)) (t59 : Int) (t83 : Bool) : Option (LR Int Int) :=
 if t83 then
 some (.ret 3)
 else
 rec_2 (IntKind.wrap .i64 (t59 + 1))
def F.facts.Right_l3 (g_ : Gram) (t36 : Int) : Nat → Int → Option (LR Int Int)
 | 0, _ => none
 | j + 1, t59 =>
  if decide (t59 < (((at_ g_.Rules t36).Rhs).length : Int)) then
  if inR t59 ((at_ g_.Rules t36).Rhs).length then
  if decide (((at_ ((at_ g_.Rules t36).Rhs) t59).Nt) < (-1)) then
  F.facts.Right_j4 (F.facts.Right_l3 g_ t36 j) t59 true
  else
  if decide (g_.Nts ≤ ((at_ ((at_ g_.Rules t36).Rhs) t59).Nt)) then
  F.facts.Right_j4 (F.facts.Right_l3 g_ t36 j) t59 true
  else
  if decide (0 ≤ ((at_ ((at_ g_.Rules t36).Rhs) t59).Nt)) then
  F.facts.Right_j4 (F.facts.Right_l3 g_ t36 j) t59 (!(S4.eq (S4.mk ((at_ ((at_ g_.Rules t36).Rhs) t59).Set.w0) ((at_ ((at_ g_.Rules t36).Rhs) t59).Set.w1) ((at_ ((at_ g_.Rules t36).Rhs) t59).Set.w2) ((at_ ((at_ g_.Rules t36).Rhs) t59).Set.w3)) (S4.mk 0 0 0 0)))
  else
  F.facts.Right_j4 (F.facts.Right_l3 g_ t36 j) t59 false
  else none
  else
  some (.done t59)
def F.facts.Right_l2 (k : Nat) (g_ : Gram) : Nat → Int → Option (LR Unit Int)
 | 0, _ => none
 | j + 1, t36 =>
  if decide (t36 < (g_.Rules.length : Int)) then
  if inR t36 g_.Rules.length then
  if decide (((at_ g_.Rules t36).Lhs) < 0) then
  some (.ret 3)
  else
  if decide (g_.Nts ≤ ((at_ g_.Rules t36).Lhs)) then
  some (.ret 3)
  else
  if decide (80 < (((at_ g_.Rules t36).Rhs).length : Int)) then
  some (.ret 3)
  else
  (F.facts.Right_l3 g_ t36 k 0).bind fun o3 =>
  o3.go fun d3 =>
  (F.facts.Right_l2 k g_ j) (IntKind.wrap .i64 (t36 + 1))
  else none
  else
  some (.done ())
def F.facts.Right_j1 (k : Nat) (g_ : Gram) (t32 : Bool) : Option Int :=
 if t32 then
 some 3
 else
 (F.facts.Right_l2 k g_ k 0).bind fun o2 =>
 o2.fin fun d2 =>
 some 0
def F.facts.Right (k : Nat) (g_ : Gram) : Option Int :=
 if decide (g_.Nts < 1) then
 F.facts.Right_j1 k g_ true
 else
 if decide (4096 < g_.Nts) then
 F.facts.Right_j1 k g_ true
 else
 if decide (g_.Start < 0) then
 F.facts.Right_j1 k g_ true
 else
 if decide (g_.Nts ≤ g_.Start) then
 F.facts.Right_j1 k g_ true
 else
 F.facts.Right_j1 k g_ (decide (8192 < (g_.Rules.length : Int)))
def F.facts.Nullable_c1 (s : KSym) (m : List Bool) : Option Bool :=
 if decide (0 ≤ s.Nt) then
 if inR s.Nt m.length then
 some (at_ m s.Nt)
 else none
 else
 some false
def F.facts.closure_83_j3 (rec_2 : Int → Option (LX Int ((List Bool) × Int × (List KSym) × Int × Int × Int) (List Bool))) (t16 : Int) : Option (LX Int ((List Bool) × Int × (List KSym) × Int × Int × Int) (List Bool)) :=
 rec_2 (IntKind.wrap .i64 (t16 + 1))
def F.facts.closure_83_l4 (g_ : Gram) (t16 : Int) (marked : List Bool) : Nat → Int → Option (LX Int (Int × S4 × Int) (List Bool))
 | 0, _ => none
 | j + 1, t28 =>
  if decide (t28 < (((at_ g_.Rules t16).Rhs).length : Int)) then
  if inR t28 ((at_ g_.Rules t16).Rhs).length then
  (F.facts.Nullable_c1 (at_ ((at_ g_.Rules t16).Rhs) t28) marked).bind fun v_ =>
  if !v_ then
  some (.out ((at_ ((at_ g_.Rules t16).Rhs) t28).Nt, (S4.mk ((at_ ((at_ g_.Rules t16).Rhs) t28).Set.w0) ((at_ ((at_ g_.Rules t16).Rhs) t28).Set.w1) ((at_ ((at_ g_.Rules t16).Rhs) t28).Set.w2) ((at_ ((at_ g_.Rules t16).Rhs) t28).Set.w3)), t28))
  else
  (F.facts.closure_83_l4 g_ t16 marked j) (IntKind.wrap .i64 (t28 + 1))
  else none
  else
  some (.done t28)
def F.facts.closure_83_l2 (k : Nat) (g_ : Gram) (marked : List Bool) : Nat → Int → Option (LX Int ((List Bool) × Int × (List KSym) × Int × Int × Int) (List Bool))
 | 0, _ => none
 | j + 1, t16 =>
  if decide (t16 < (g_.Rules.length : Int)) then
  if inR t16 g_.Rules.length then
  if inR ((at_ g_.Rules t16).Lhs) marked.length then
  if at_ marked ((at_ g_.Rules t16).Lhs) then
  F.facts.closure_83_j3 (F.facts.closure_83_l2 k g_ marked j) t16
  else
  (F.facts.closure_83_l4 g_ t16 marked k 0).bind fun o4 =>
  o4.gx (fun d4 =>
  some (.out (set_ marked ((at_ g_.Rules t16).Lhs) true, (at_ g_.Rules t16).Lhs, (at_ g_.Rules t16).Rhs, t16, (((at_ g_.Rules t16).Rhs).length : Int), d4)))
  (fun dx4 =>
  F.facts.closure_83_j3 (F.facts.closure_83_l2 k g_ marked j) t16)
  else none
  else none
  else
  some (.done t16)
def F.facts.closure_83_l1 (k : Nat) (g_ : Gram) : Nat → List Bool → Option (LR Unit (List Bool))
 | 0, _ => none
 | j + 1, marked =>
  (F.facts.closure_83_l2 k g_ marked k 0).bind fun o2 =>
  o2.go (fun d2 =>
  some (.ret marked))
  (fun dx2 =>
  (F.facts.closure_83_l1 k g_ j) dx2.1)
def F.facts.closure_83 (k : Nat) (g_ : Gram) : Option (List Bool) :=
 if decide (0 ≤ g_.Nts) then
 if decide (1 * (Int.toNat g_.Nts) ≤ 140737488355328) then
 if decide (Int.toNat g_.Nts ≤ 9223372036854775807) then
 (F.facts.closure_83_l1 k g_ k (List.replicate (Int.toNat g_.Nts) false)).bind fun o1 =>
 o1.fin fun d1 =>
 none
 else none
 else none
 else none
def F.facts.Nullable (k : Nat) (g_ : Gram) : Option (List Bool × Int) :=
 (F.facts.Right k g_).bind fun v_ =>
 if (v_ != 0) then
 some (([] : List Bool), v_)
 else
 (F.facts.closure_83 k g_).bind fun v_1 =>
 some (v_1, 0)
def F.facts.steps_j3 (rec_2 : Int → Int → Option (Int × Int)) (t26 : Int) (bad1 : Int) : Option (Int × Int) :=
 rec_2 bad1 (IntKind.wrap .i64 (t26 + 1))
def F.facts.steps_j5 (rec_2 : Int → Int → Option (Int × Int)) (t26 : Int) (bad2 : Int) : Option (Int × Int) :=
 F.facts.steps_j3 rec_2 t26 bad2
def F.facts.steps_j4 (rec_2 : Int → Int → Option (Int × Int)) (t26 : Int) (bad : Int) (t40 : Bool) : Option (Int × Int) :=
 if t40 then
 F.facts.steps_j5 rec_2 t26 (IntKind.wrap .i64 (bad + 1))
 else
 F.facts.steps_j5 rec_2 t26 bad
def F.facts.steps_l2 (g_ : Gram) (t19 : Int) (null : List Bool) : Nat → Int → Int → Option (Int × Int)
 | 0, _, _ => none
 | j + 1, bad, t26 =>
  if decide (t26 < (((at_ g_.Rules t19).Rhs).length : Int)) then
  if inR t26 ((at_ g_.Rules t19).Rhs).length then
  if decide (((at_ ((at_ g_.Rules t19).Rhs) t26).Nt) < 0) then
  F.facts.steps_j4 (F.facts.steps_l2 g_ t19 null j) t26 bad true
  else
  if inR ((at_ ((at_ g_.Rules t19).Rhs) t26).Nt) null.length then
  F.facts.steps_j4 (F.facts.steps_l2 g_ t19 null j) t26 bad (!(at_ null ((at_ ((at_ g_.Rules t19).Rhs) t26).Nt)))
  else none
  else none
  else
  some (bad, t26)
def F.facts.steps_j7 (rec_3 : List (List Int) → Int → Option ((List (List Int)) × Int)) (t47 : Int) (out2 : List (List Int)) : Option ((List (List Int)) × Int) :=
 rec_3 out2 (IntKind.wrap .i64 (t47 + 1))
def F.facts.steps_j9 (rec_3 : List (List Int) → Int → Option ((List (List Int)) × Int)) (t47 : Int) (out3 : List (List Int)) : Option ((List (List Int)) × Int) :=
 F.facts.steps_j7 rec_3 t47 out3
def F.facts.steps_j10 (rec_3 : List (List Int) → Int → Option ((List (List Int)) × Int)) (t47 : Int) (out4 : List (List Int)) : Option ((List (List Int)) × Int) :=
 F.facts.steps_j9 rec_3 t47 out4
def F.facts.steps_j8 (g_ : Gram) (t19 : Int) (out1 : List (List Int)) (t47 : Int) (rec_3 : List (List Int) → Int → Option ((List (List Int)) × Int)) (t69 : Bool) : Option ((List (List Int)) × Int) :=
 if t69 then
 if inR ((at_ g_.Rules t19).Lhs) out1.length then
 if decide (((at_ out1 ((at_ g_.Rules t19).Lhs)).length + ([(at_ ((at_ g_.Rules t19).Rhs) t47).Nt] : List Int).length) * 8 ≤ 140737488355328) then
 if decide ((at_ out1 ((at_ g_.Rules t19).Lhs)).length + ([(at_ ((at_ g_.Rules t19).Rhs) t47).Nt] : List Int).length ≤ 9223372036854775807) then
 F.facts.steps_j10 rec_3 t47 (set_ out1 ((at_ g_.Rules t19).Lhs) ((at_ out1 ((at_ g_.Rules t19).Lhs)) ++ ([(at_ ((at_ g_.Rules t19).Rhs) t47).Nt] : List Int)))
 else none
 else none
 else none
 else
 F.facts.steps_j9 rec_3 t47 out1
def F.facts.steps_l6 (g_ : Gram) (t19 : Int) (o2 : Int × Int) (null : List Bool) : Nat → List (List Int) → Int → Option ((List (List Int)) × Int)
 | 0, _, _ => none
 | j + 1, out1, t47 =>
  if decide (t47 < (((at_ g_.Rules t19).Rhs).length : Int)) then
  if inR t47 ((at_ g_.Rules t19).Rhs).length then
  if decide (0 ≤ ((at_ ((at_ g_.Rules t19).Rhs) t47).Nt)) then
  if (o2.1 == 0) then
  F.facts.steps_j8 g_ t19 out1 t47 (F.facts.steps_l6 g_ t19 o2 null j) true
  else
  if (o2.1 == 1) then
  if inR ((at_ ((at_ g_.Rules t19).Rhs) t47).Nt) null.length then
  F.facts.steps_j8 g_ t19 out1 t47 (F.facts.steps_l6 g_ t19 o2 null j) (!(at_ null ((at_ ((at_ g_.Rules t19).Rhs) t47).Nt)))
  else none
  else
  F.facts.steps_j8 g_ t19 out1 t47 (F.facts.steps_l6 g_ t19 o2 null j) false
  else
  F.facts.steps_j8 g_ t19 out1 t47 (F.facts.steps_l6 g_ t19 o2 null j) false
  else none
  else
  some (out1, t47)
def F.facts.steps_l1 (k : Nat) (g_ : Gram) (null : List Bool) : Nat → List (List Int) → Int → Option (List (List Int))
 | 0, _, _ => none
 | j + 1, out, t19 =>
  if decide (t19 < (g_.Rules.length : Int)) then
  if inR t19 g_.Rules.length then
  (F.facts.steps_l2 g_ t19 null k 0 0).bind fun o2 =>
  (F.facts.steps_l6 g_ t19 o2 null k out 0).bind fun o6 =>
  (F.facts.steps_l1 k g_ null j) o6.1 (IntKind.wrap .i64 (t19 + 1))
  else none
  else
  some out
def F.facts.steps (k : Nat) (g_ : Gram) (null : List Bool) : Option (List (List Int)) :=
 if decide (0 ≤ g_.Nts) then
 if decide (24 * (Int.toNat g_.Nts) ≤ 140737488355328) then
 if decide (Int.toNat g_.Nts ≤ 9223372036854775807) then
 (F.facts.steps_l1 k g_ null k (List.replicate (Int.toNat g_.Nts) ([] : List Int)) 0).bind fun o1 =>
 some o1
 else none
 else none
 else none
def F.facts.Cyclic_c1_j2 (rec_1 : Int → List Int → Option (LR (List Int) (Bool × List Int))) (t16 : Int) (v_1 : List Int) : Option (LR (List Int) (Bool × List Int)) :=
 rec_1 (IntKind.wrap .i64 (t16 + 1)) v_1
def F.facts.Cyclic_c1_l1 (free1 : List (List Int)) (n : Int) (g72 : Int → List Int → List (List Int) → Option (Bool × List Int)) : Nat → Int → List Int → Option (LR (List Int) (Bool × List Int))
 | 0, _, _ => none
 | j + 1, t16, v_ =>
  if decide (t16 < ((at_ free1 n).length : Int)) then
  if inR t16 (at_ free1 n).length then
  if inR (at_ (at_ free1 n) t16) v_.length then
  if ((at_ v_ (at_ (at_ free1 n) t16)) == 1) then
  some (.ret (true, v_))
  else
  if ((at_ v_ (at_ (at_ free1 n) t16)) == 0) then
  (g72 (at_ (at_ free1 n) t16) v_ free1).bind fun v_2 =>
  if v_2.1 then
  some (.ret (true, v_2.2))
  else
  F.facts.Cyclic_c1_j2 (F.facts.Cyclic_c1_l1 free1 n g72 j) t16 v_2.2
  else
  F.facts.Cyclic_c1_j2 (F.facts.Cyclic_c1_l1 free1 n g72 j) t16 v_
  else none
  else none
  else
  some (.done v_)
def F.facts.Cyclic_c1_B (k : Nat) (g72 : Int → List Int → List (List Int) → Option (Bool × List Int)) (n : Int) (free : List Int) (free1 : List (List Int)) : Option (Bool × List Int) :=
 if inR n free.length then
 if inR n free1.length then
 (F.facts.Cyclic_c1_l1 free1 n g72 k 0 (set_ free n 1)).bind fun o1 =>
 o1.fin fun d1 =>
 if inR n d1.length then
 some (false, set_ d1 n 2)
 else none
 else none
 else none
def F.facts.Cyclic_c1 : Nat → Int → List Int → List (List Int) → Option (Bool × List Int)
 | 0 => (fun _ _ _ => none)
 | k + 1 => F.facts.Cyclic_c1_B k (F.facts.Cyclic_c1 k)
def F.facts.Cyclic_j2 (rec_1 : Int → List Int → Option (LR (List Int) (Bool × Int))) (t27 : Int) (state1 : List Int) : Option (LR (List Int) (Bool × Int)) :=
 rec_1 (IntKind.wrap .i64 (t27 + 1)) state1
def F.facts.Cyclic_j3 (rec_1 : Int → List Int → Option (LR (List Int) (Bool × Int))) (t27 : Int) (t39 : Bool) (state2 : List Int) : Option (LR (List Int) (Bool × Int)) :=
 if t39 then
 some (.ret (true, 0))
 else
 F.facts.Cyclic_j2 rec_1 t27 state2
def F.facts.Cyclic_l1 (k : Nat) (g_ : Gram) (v_1 : List (List Int)) : Nat → Int → List Int → Option (LR (List Int) (Bool × Int))
 | 0, _, _ => none
 | j + 1, t27, state =>
  if decide (t27 < g_.Nts) then
  if inR t27 state.length then
  if ((at_ state t27) == 0) then
  (F.facts.Cyclic_c1 k t27 state v_1).bind fun v_2 =>
  F.facts.Cyclic_j3 (F.facts.Cyclic_l1 k g_ v_1 j) t27 v_2.1 v_2.2
  else
  F.facts.Cyclic_j3 (F.facts.Cyclic_l1 k g_ v_1 j) t27 false state
  else none
  else
  some (.done state)
def F.facts.Cyclic (k : Nat) (g_ : Gram) : Option (Bool × Int) :=
 (F.facts.Nullable k g_).bind fun v_ =>
 if (v_.2 != 0) then
 some (false, v_.2)
 else
 (F.facts.steps k g_ v_.1).bind fun v_1 =>
 if decide (0 ≤ g_.Nts) then
 if decide (8 * (Int.toNat g_.Nts) ≤ 140737488355328) then
 if decide (Int.toNat g_.Nts ≤ 9223372036854775807) then
 (F.facts.Cyclic_l1 k g_ v_1 k 0 (List.replicate (Int.toNat g_.Nts) 0)).bind fun o1 =>
 o1.fin fun d1 =>
 some (false, 0)
 else none
 else none
 else none
def F.forest.fit (k : Nat) (g_ : Gram) (w__ : List Int) : Option Int :=
 (F.facts.Right k g_).bind fun v_ =>
 if (v_ != 0) then
 some v_
 else
 if decide (512 < (w__.length : Int)) then
 some 2
 else
 (F.facts.Cyclic k g_).bind fun v_1 =>
 if v_1.1 then
 some 48
 else
 some 0
def F.earley.fit (k : Nat) (g_ : Gram) (w__ : List Int) : Option Int :=
 (F.facts.Right k g_).bind fun v_ =>
 if (v_ != 0) then
 some v_
 else
 if decide (512 < (w__.length : Int)) then
 some 2
 else
 some 0
def F.earley.chart_add (c : Earley_chart) (j_ : Int) (x_ : EItem) : Option Earley_chart :=
 if inR j_ c.met.length then
 if decide (0 < ((tget qEItem x_ (at_ c.met j_)).getD 0)) then
 some c
 else
 if inR j_ c.sets.length then
 if decide (((at_ c.sets j_).length + ([x_] : List EItem).length) * 24 ≤ 140737488355328) then
 if decide ((at_ c.sets j_).length + ([x_] : List EItem).length ≤ 9223372036854775807) then
 some (Earley_chart.mk c.g c.w_ c.by_ (set_ c.sets j_ ((at_ c.sets j_) ++ ([x_] : List EItem))) (set_ c.met j_ (tput qEItem x_ 1 (at_ c.met j_))) c.empty)
 else none
 else none
 else none
 else none
def F.earley.chart_complete_j3 (rec_1 : Int → List (List EItem) → List (List (EItem × Int)) → Option ((List (List EItem)) × (List (List (EItem × Int))))) (i : Int) (Dot_ : Int) (sets_1 : List (List EItem)) (met_1 : List (List (EItem × Int))) : Option ((List (List EItem)) × (List (List (EItem × Int)))) :=
 rec_1 (IntKind.wrap .i64 (i + 1)) sets_1 met_1
def F.earley.chart_complete_j5 (rec_1 : Int → List (List EItem) → List (List (EItem × Int)) → Option ((List (List EItem)) × (List (List (EItem × Int))))) (i : Int) (sets_2 : List (List EItem)) (met_2 : List (List (EItem × Int))) (Dot_1 : Int) : Option ((List (List EItem)) × (List (List (EItem × Int)))) :=
 F.earley.chart_complete_j3 rec_1 i Dot_1 sets_2 met_2
def F.earley.chart_complete_j4 (c : Earley_chart) (sets_ : List (List EItem)) (met_ : List (List (EItem × Int))) (v_ : List (Int × Int)) (j_ : Int) (x_ : EItem) (i : Int) (rec_1 : Int → List (List EItem) → List (List (EItem × Int)) → Option ((List (List EItem)) × (List (List (EItem × Int))))) (t77 : Bool) : Option ((List (List EItem)) × (List (List (EItem × Int)))) :=
 if t77 then
 (F.earley.chart_add (Earley_chart.mk c.g c.w_ c.by_ sets_ met_ v_) j_ (EItem.mk ((at_ (at_ sets_ x_.From) i).Rule) (IntKind.wrap .i64 (((at_ (at_ sets_ x_.From) i).Dot) + 1)) ((at_ (at_ sets_ x_.From) i).From))).bind fun v_1 =>
 F.earley.chart_complete_j5 rec_1 i v_1.sets v_1.met (IntKind.wrap .i64 (((at_ (at_ sets_ x_.From) i).Dot) + 1))
 else
 F.earley.chart_complete_j5 rec_1 i sets_ met_ ((at_ (at_ sets_ x_.From) i).Dot)
def F.earley.chart_complete_l2 (x_ : EItem) (c : Earley_chart) (v_ : List (Int × Int)) (j_ : Int) : Nat → Int → List (List EItem) → List (List (EItem × Int)) → Option ((List (List EItem)) × (List (List (EItem × Int))))
 | 0, _, _, _ => none
 | j + 1, i, sets_, met_ =>
  if inR x_.From sets_.length then
  if decide (i < ((at_ sets_ x_.From).length : Int)) then
  if inR i (at_ sets_ x_.From).length then
  if inR ((at_ (at_ sets_ x_.From) i).Rule) c.g.Rules.length then
  if decide (((at_ (at_ sets_ x_.From) i).Dot) < (((at_ c.g.Rules ((at_ (at_ sets_ x_.From) i).Rule)).Rhs).length : Int)) then
  if inR ((at_ (at_ sets_ x_.From) i).Dot) ((at_ c.g.Rules ((at_ (at_ sets_ x_.From) i).Rule)).Rhs).length then
  F.earley.chart_complete_j4 c sets_ met_ v_ j_ x_ i (F.earley.chart_complete_l2 x_ c v_ j_ j) (((at_ ((at_ c.g.Rules ((at_ (at_ sets_ x_.From) i).Rule)).Rhs) ((at_ (at_ sets_ x_.From) i).Dot)).Nt) == ((at_ c.g.Rules x_.Rule).Lhs))
  else none
  else
  F.earley.chart_complete_j4 c sets_ met_ v_ j_ x_ i (F.earley.chart_complete_l2 x_ c v_ j_ j) false
  else none
  else none
  else
  some (sets_, met_)
  else none
def F.earley.chart_complete_j1 (k : Nat) (x_ : EItem) (c : Earley_chart) (j_ : Int) (v_ : List (Int × Int)) : Option Earley_chart :=
 (F.earley.chart_complete_l2 x_ c v_ j_ k 0 c.sets c.met).bind fun o2 =>
 some (Earley_chart.mk c.g c.w_ c.by_ o2.1 o2.2 v_)
def F.earley.chart_complete (k : Nat) (c : Earley_chart) (j_ : Int) (x_ : EItem) : Option Earley_chart :=
 if inR x_.Rule c.g.Rules.length then
 if (x_.From == j_) then
 F.earley.chart_complete_j1 k x_ c j_ (tput intE ((at_ c.g.Rules x_.Rule).Lhs) 1 c.empty)
 else
 F.earley.chart_complete_j1 k x_ c j_ c.empty
 else none
def F.charset.Has (s : S4) (b : Int) : Option Bool :=
 if inR (gquo .u8 b 64) 4 then
 if decide ((grem b 64) < 0) then none else
 some ((gand .u64 (gshr .u64 (S4.get s (gquo .u8 b 64)) (grem b 64)) 1) == 1)
 else none
def F.earley.chart_step_j1 (c : Earley_chart) (j_ : Int) (x_ : EItem) (t64 : Bool) : Option Earley_chart :=
 if t64 then
 (F.earley.chart_add c (IntKind.wrap .i64 (j_ + 1)) (EItem.mk x_.Rule (IntKind.wrap .i64 (x_.Dot + 1)) x_.From)).bind fun v_1 =>
 some (Earley_chart.mk c.g c.w_ c.by_ v_1.sets v_1.met c.empty)
 else
 some c
def F.earley.chart_step_l2 (c : Earley_chart) (x_ : EItem) (j_ : Int) : Nat → Int → List (List EItem) → List (List (EItem × Int)) → Option ((List (List EItem)) × (List (List (EItem × Int))))
 | 0, _, _, _ => none
 | j + 1, t79, sets_, met_ =>
  if decide (t79 < ((at_ c.by_ ((at_ ((at_ c.g.Rules x_.Rule).Rhs) x_.Dot).Nt)).length : Int)) then
  if inR t79 (at_ c.by_ ((at_ ((at_ c.g.Rules x_.Rule).Rhs) x_.Dot).Nt)).length then
  (F.earley.chart_add (Earley_chart.mk c.g c.w_ c.by_ sets_ met_ c.empty) j_ (EItem.mk (at_ (at_ c.by_ ((at_ ((at_ c.g.Rules x_.Rule).Rhs) x_.Dot).Nt)) t79) 0 j_)).bind fun v_3 =>
  (F.earley.chart_step_l2 c x_ j_ j) (IntKind.wrap .i64 (t79 + 1)) v_3.sets v_3.met
  else none
  else
  some (sets_, met_)
def F.earley.chart_step (k : Nat) (c : Earley_chart) (j_ : Int) (x_ : EItem) : Option Earley_chart :=
 if inR x_.Rule c.g.Rules.length then
 if (x_.Dot == (((at_ c.g.Rules x_.Rule).Rhs).length : Int)) then
 (F.earley.chart_complete k c j_ x_).bind fun v_ =>
 some (Earley_chart.mk c.g c.w_ c.by_ v_.sets v_.met v_.empty)
 else
 if inR x_.Dot ((at_ c.g.Rules x_.Rule).Rhs).length then
 if decide (((at_ ((at_ c.g.Rules x_.Rule).Rhs) x_.Dot).Nt) < 0) then
 if decide (j_ < (c.w_.length : Int)) then
 if inR j_ c.w_.length then
 (F.charset.Has (S4.mk ((at_ ((at_ c.g.Rules x_.Rule).Rhs) x_.Dot).Set.w0) ((at_ ((at_ c.g.Rules x_.Rule).Rhs) x_.Dot).Set.w1) ((at_ ((at_ c.g.Rules x_.Rule).Rhs) x_.Dot).Set.w2) ((at_ ((at_ c.g.Rules x_.Rule).Rhs) x_.Dot).Set.w3)) (at_ c.w_ j_)).bind fun v_2 =>
 F.earley.chart_step_j1 c j_ x_ v_2
 else none
 else
 F.earley.chart_step_j1 c j_ x_ false
 else
 if inR ((at_ ((at_ c.g.Rules x_.Rule).Rhs) x_.Dot).Nt) c.by_.length then
 (F.earley.chart_step_l2 c x_ j_ k 0 c.sets c.met).bind fun o2 =>
 if decide (0 < ((tget intE ((at_ ((at_ c.g.Rules x_.Rule).Rhs) x_.Dot).Nt) c.empty).getD 0)) then
 (F.earley.chart_add (Earley_chart.mk c.g c.w_ c.by_ o2.1 o2.2 c.empty) j_ (EItem.mk x_.Rule (IntKind.wrap .i64 (x_.Dot + 1)) x_.From)).bind fun v_4 =>
 some (Earley_chart.mk c.g c.w_ c.by_ v_4.sets v_4.met c.empty)
 else
 some (Earley_chart.mk c.g c.w_ c.by_ o2.1 o2.2 c.empty)
 else none
 else none
 else none
def F.earley.open__j3 (rec_1 : Int → List (List Int) → Option (List (List Int))) (t26 : Int) (by__2 : List (List Int)) : Option (List (List Int)) :=
 rec_1 (IntKind.wrap .i64 (t26 + 1)) by__2
def F.earley.open__j4 (rec_1 : Int → List (List Int) → Option (List (List Int))) (t26 : Int) (by__3 : List (List Int)) : Option (List (List Int)) :=
 F.earley.open__j3 rec_1 t26 by__3
def F.earley.open__l2 (g_ : Gram) : Nat → Int → List (List Int) → Option (List (List Int))
 | 0, _, _ => none
 | j + 1, t26, by__1 =>
  if decide (t26 < (g_.Rules.length : Int)) then
  if inR t26 g_.Rules.length then
  if inR ((at_ g_.Rules t26).Lhs) by__1.length then
  if decide (((at_ by__1 ((at_ g_.Rules t26).Lhs)).length + ([t26] : List Int).length) * 8 ≤ 140737488355328) then
  if decide ((at_ by__1 ((at_ g_.Rules t26).Lhs)).length + ([t26] : List Int).length ≤ 9223372036854775807) then
  F.earley.open__j4 (F.earley.open__l2 g_ j) t26 (set_ by__1 ((at_ g_.Rules t26).Lhs) ((at_ by__1 ((at_ g_.Rules t26).Lhs)) ++ ([t26] : List Int)))
  else none
  else none
  else none
  else none
  else
  some by__1
def F.earley.open__l5 (sets_ : List (List EItem)) : Nat → Int → List (List (EItem × Int)) → Option (List (List (EItem × Int)))
 | 0, _, _ => none
 | j + 1, t55, met_ =>
  if decide (t55 < (sets_.length : Int)) then
  if decide ((met_.length + 1) * 8 ≤ 140737488355328) then
  if decide (met_.length + 1 ≤ 9223372036854775807) then
  (F.earley.open__l5 sets_ j) (IntKind.wrap .i64 (t55 + 1)) (met_ ++ [([] : List (EItem × Int))])
  else none
  else none
  else
  some met_
def F.earley.open__l6 (o2 : (List (List Int))) (g_ : Gram) (w__ : List Int) : Nat → Int → List (List EItem) → List (List (EItem × Int)) → Option ((List (List EItem)) × (List (List (EItem × Int))))
 | 0, _, _, _ => none
 | j + 1, t77, sets_1, met_1 =>
  if decide (t77 < ((at_ o2 g_.Start).length : Int)) then
  if inR t77 (at_ o2 g_.Start).length then
  (F.earley.chart_add (Earley_chart.mk g_ w__ o2 sets_1 met_1 ([] : List (Int × Int))) 0 (EItem.mk (at_ (at_ o2 g_.Start) t77) 0 0)).bind fun v_ =>
  (F.earley.open__l6 o2 g_ w__ j) (IntKind.wrap .i64 (t77 + 1)) v_.sets v_.met
  else none
  else
  some (sets_1, met_1)
def F.earley.open__l8 (k : Nat) (t91 : Int) (g_ : Gram) (w__ : List Int) (o2 : (List (List Int))) : Nat → Int → List (List EItem) → List (List (EItem × Int)) → List (Int × Int) → Option (Int × (List (List EItem)) × (List (List (EItem × Int))) × (List (Int × Int)))
 | 0, _, _, _, _ => none
 | j + 1, i, sets_3, met_3, v_1 =>
  if inR t91 sets_3.length then
  if decide (i < ((at_ sets_3 t91).length : Int)) then
  if inR i (at_ sets_3 t91).length then
  (F.earley.chart_step k (Earley_chart.mk g_ w__ o2 sets_3 met_3 v_1) t91 (at_ (at_ sets_3 t91) i)).bind fun v_2 =>
  (F.earley.open__l8 k t91 g_ w__ o2 j) (IntKind.wrap .i64 (i + 1)) v_2.sets v_2.met v_2.empty
  else none
  else
  some (i, sets_3, met_3, v_1)
  else none
def F.earley.open__l7 (k : Nat) (o6 : (List (List EItem)) × (List (List (EItem × Int)))) (g_ : Gram) (w__ : List Int) (o2 : (List (List Int))) : Nat → Int → List (List EItem) → List (List (EItem × Int)) → Option ((List (List EItem)) × (List (List (EItem × Int))))
 | 0, _, _, _ => none
 | j + 1, t91, sets_2, met_2 =>
  if decide (t91 < (o6.1.length : Int)) then
  (F.earley.open__l8 k t91 g_ w__ o2 k 0 sets_2 met_2 ([] : List (Int × Int))).bind fun o8 =>
  (F.earley.open__l7 k o6 g_ w__ o2 j) (IntKind.wrap .i64 (t91 + 1)) o8.2.1 o8.2.2.1
  else
  some (sets_2, met_2)
def F.earley.open__j1 (k : Nat) (g_ : Gram) (w__ : List Int) (by__ : List (List Int)) (sets_ : List (List EItem)) : Option Earley_chart :=
 (F.earley.open__l2 g_ k 0 by__).bind fun o2 =>
 (F.earley.open__l5 sets_ k 0 ([] : List (List (EItem × Int)))).bind fun o5 =>
 if inR g_.Start o2.length then
 (F.earley.open__l6 o2 g_ w__ k 0 sets_ o5).bind fun o6 =>
 (F.earley.open__l7 k o6 g_ w__ o2 k 0 o6.1 o6.2).bind fun o7 =>
 some (Earley_chart.mk g_ w__ o2 o7.1 o7.2 (default : List (Int × Int)))
 else none
def F.earley.open_ (k : Nat) (g_ : Gram) (w__ : List Int) : Option Earley_chart :=
 if decide (0 ≤ g_.Nts) then
 if decide (24 * (Int.toNat g_.Nts) ≤ 140737488355328) then
 if decide (Int.toNat g_.Nts ≤ 9223372036854775807) then
 if decide (0 ≤ IntKind.wrap .i64 ((w__.length : Int) + 1)) then
 if decide (24 * (Int.toNat (IntKind.wrap .i64 ((w__.length : Int) + 1))) ≤ 140737488355328) then
 if decide (Int.toNat (IntKind.wrap .i64 ((w__.length : Int) + 1)) ≤ 9223372036854775807) then
 F.earley.open__j1 k g_ w__ (List.replicate (Int.toNat g_.Nts) ([] : List Int)) (List.replicate (Int.toNat (IntKind.wrap .i64 ((w__.length : Int) + 1))) ([] : List EItem))
 else none
 else none
 else none
 else none
 else none
 else none
def F.earley.Spans_c1 (x_ : EItem) (free : Gram) (free1 : Int) : Option Bool :=
 if inR x_.Rule free.Rules.length then
 if (((at_ free.Rules x_.Rule).Lhs) == free1) then
 if (x_.From == 0) then
 some (x_.Dot == (((at_ free.Rules x_.Rule).Rhs).length : Int))
 else
 some false
 else
 some false
 else none
def F.slices.IndexFunc_f84_74_l1 (s : List EItem) (cap : Gram) (cap1 : Int) : Nat → Int → Option (LR Unit Int)
 | 0, _ => none
 | j + 1, t8 =>
  if decide (t8 < (s.length : Int)) then
  if inR t8 s.length then
  (F.earley.Spans_c1 (at_ s t8) cap cap1).bind fun v_ =>
  if v_ then
  some (.ret t8)
  else
  (F.slices.IndexFunc_f84_74_l1 s cap cap1 j) (IntKind.wrap .i64 (t8 + 1))
  else none
  else
  some (.done ())
def F.slices.IndexFunc_f84_74 (k : Nat) (s : List EItem) (cap : Gram) (cap1 : Int) : Option Int :=
 (F.slices.IndexFunc_f84_74_l1 s cap cap1 k 0).bind fun o1 =>
 o1.fin fun d1 =>
 some (-1)
def F.slices.ContainsFunc_f73_74 (k : Nat) (s : List EItem) (cap : Gram) (cap1 : Int) : Option Bool :=
 (F.slices.IndexFunc_f84_74 k s cap cap1).bind fun v_ =>
 some (decide (0 ≤ v_))
def F.earley.Spans_j3 (rec_2 : List Run → Int → Option ((List Run) × Int)) (t46 : Int) (out2 : List Run) : Option ((List Run) × Int) :=
 rec_2 out2 (IntKind.wrap .i64 (t46 + 1))
def F.earley.Spans_j4 (rec_2 : List Run → Int → Option ((List Run) × Int)) (t46 : Int) (out3 : List Run) : Option ((List Run) × Int) :=
 F.earley.Spans_j3 rec_2 t46 out3
def F.earley.Spans_l2 (k : Nat) (v_1 : Earley_chart) (g_ : Gram) (nt_ : Int) (lo : Int) : Nat → List Run → Int → Option ((List Run) × Int)
 | 0, _, _ => none
 | j + 1, out1, t46 =>
  if decide (t46 < (v_1.sets.length : Int)) then
  if inR t46 v_1.sets.length then
  (F.slices.ContainsFunc_f73_74 k (at_ v_1.sets t46) (Gram.mk g_.Nts nt_ g_.Rules) nt_).bind fun v_2 =>
  if v_2 then
  if decide ((out1.length + ([(Run.mk lo (IntKind.wrap .i64 (lo + t46)))] : List Run).length) * 16 ≤ 140737488355328) then
  if decide (out1.length + ([(Run.mk lo (IntKind.wrap .i64 (lo + t46)))] : List Run).length ≤ 9223372036854775807) then
  F.earley.Spans_j4 (F.earley.Spans_l2 k v_1 g_ nt_ lo j) t46 (out1 ++ ([(Run.mk lo (IntKind.wrap .i64 (lo + t46)))] : List Run))
  else none
  else none
  else
  F.earley.Spans_j4 (F.earley.Spans_l2 k v_1 g_ nt_ lo j) t46 out1
  else none
  else
  some (out1, t46)
def F.earley.Spans_l1 (k : Nat) (w__ : List Int) (g_ : Gram) (nt_ : Int) : Nat → List Run → Int → Option (List Run)
 | 0, _, _ => none
 | j + 1, out, lo =>
  if decide (lo ≤ (w__.length : Int)) then
  if okSub lo (w__.length : Int) w__.length then
  (F.earley.open_ k (Gram.mk g_.Nts nt_ g_.Rules) (sub w__ lo (w__.length : Int))).bind fun v_1 =>
  (F.earley.Spans_l2 k v_1 g_ nt_ lo k out 0).bind fun o2 =>
  (F.earley.Spans_l1 k w__ g_ nt_ j) o2.1 (IntKind.wrap .i64 (lo + 1))
  else none
  else
  some out
def F.earley.Spans (k : Nat) (g_ : Gram) (w__ : List Int) (nt_ : Int) : Option (List Run × Int) :=
 (F.earley.fit k g_ w__).bind fun v_ =>
 if (v_ != 0) then
 some (([] : List Run), v_)
 else
 if decide (nt_ < 0) then
 some (([] : List Run), 1)
 else
 if decide (g_.Nts ≤ nt_) then
 some (([] : List Run), 1)
 else
 (F.earley.Spans_l1 k w__ g_ nt_ k ([] : List Run) 0).bind fun o1 =>
 some (o1, 0)
def F.forest.open__j3 (rec_1 : Int → List (List Int) → Option (List (List Int))) (t26 : Int) (by__2 : List (List Int)) : Option (List (List Int)) :=
 rec_1 (IntKind.wrap .i64 (t26 + 1)) by__2
def F.forest.open__j4 (rec_1 : Int → List (List Int) → Option (List (List Int))) (t26 : Int) (by__3 : List (List Int)) : Option (List (List Int)) :=
 F.forest.open__j3 rec_1 t26 by__3
def F.forest.open__l2 (g_ : Gram) : Nat → Int → List (List Int) → Option (List (List Int))
 | 0, _, _ => none
 | j + 1, t26, by__1 =>
  if decide (t26 < (g_.Rules.length : Int)) then
  if inR t26 g_.Rules.length then
  if inR ((at_ g_.Rules t26).Lhs) by__1.length then
  if decide (((at_ by__1 ((at_ g_.Rules t26).Lhs)).length + ([t26] : List Int).length) * 8 ≤ 140737488355328) then
  if decide ((at_ by__1 ((at_ g_.Rules t26).Lhs)).length + ([t26] : List Int).length ≤ 9223372036854775807) then
  F.forest.open__j4 (F.forest.open__l2 g_ j) t26 (set_ by__1 ((at_ g_.Rules t26).Lhs) ((at_ by__1 ((at_ g_.Rules t26).Lhs)) ++ ([t26] : List Int)))
  else none
  else none
  else none
  else none
  else
  some by__1
def F.forest.open__j6 (rec_2 : Int → List (Forest_span × Int) → Option (List (Forest_span × Int))) (t52 : Int) (v_1 : List (Forest_span × Int)) : Option (List (Forest_span × Int)) :=
 rec_2 (IntKind.wrap .i64 (t52 + 1)) v_1
def F.forest.open__l7 (v_2 : List Run × Int) (t52 : Int) : Nat → Int → List (Forest_span × Int) → Option (Int × (List (Forest_span × Int)))
 | 0, _, _ => none
 | j + 1, t73, v_3 =>
  if decide (t73 < (v_2.1.length : Int)) then
  if inR t73 v_2.1.length then
  (F.forest.open__l7 v_2 t52 j) (IntKind.wrap .i64 (t73 + 1)) (tput qForest_span (Forest_span.mk t52 ((at_ v_2.1 t73).Lo) ((at_ v_2.1 t73).Hi)) 1 v_3)
  else none
  else
  some (t73, v_3)
def F.forest.open__l5 (k : Nat) (g_ : Gram) (o2 : (List (List Int))) (w__ : List Int) : Nat → Int → List (Forest_span × Int) → Option (List (Forest_span × Int))
 | 0, _, _ => none
 | j + 1, t52, v_ =>
  if decide (t52 < g_.Nts) then
  if inR t52 o2.length then
  if (((at_ o2 t52).length : Int) == 0) then
  F.forest.open__j6 (F.forest.open__l5 k g_ o2 w__ j) t52 v_
  else
  (F.earley.Spans k g_ w__ t52).bind fun v_2 =>
  (F.forest.open__l7 v_2 t52 k 0 v_).bind fun o7 =>
  F.forest.open__j6 (F.forest.open__l5 k g_ o2 w__ j) t52 o7.2
  else none
  else
  some v_
def F.forest.open__j1 (k : Nat) (g_ : Gram) (w__ : List Int) (by__ : List (List Int)) : Option Forest_grove :=
 (F.forest.open__l2 g_ k 0 by__).bind fun o2 =>
 (F.forest.open__l5 k g_ o2 w__ k 0 ([] : List (Forest_span × Int))).bind fun o5 =>
 some (Forest_grove.mk g_ w__ o2 o5 ([] : List (Forest_span × Int)) ([] : List (Forest_part × Int)))
def F.forest.open_ (k : Nat) (g_ : Gram) (w__ : List Int) : Option Forest_grove :=
 if decide (0 ≤ g_.Nts) then
 if decide (24 * (Int.toNat g_.Nts) ≤ 140737488355328) then
 if decide (Int.toNat g_.Nts ≤ 9223372036854775807) then
 F.forest.open__j1 k g_ w__ (List.replicate (Int.toNat g_.Nts) ([] : List Int))
 else none
 else none
 else none
def F.forest.grove_sym (v_ : Forest_grove) (s : KSym) (from__ : Int) (to_ : Int) : Option Bool :=
 if decide (s.Nt < 0) then
 if (to_ == (IntKind.wrap .i64 (from__ + 1))) then
 if inR from__ v_.w_.length then
 (F.charset.Has s.Set (at_ v_.w_ from__)).bind fun v_1 =>
 some v_1
 else none
 else
 some false
 else
 some (decide (0 < ((tget qForest_span (Forest_span.mk s.Nt from__ to_) v_.whole).getD 0)))
def F.forest.add (a_ : Int) (b : Int) : Option Int :=
 if decide ((IntKind.wrap .i64 (4611686018427387904 - b)) < a_) then
 some 4611686018427387904
 else
 some (IntKind.wrap .i64 (a_ + b))
def F.forest.mul_j1 (a_ : Int) (b : Int) (t12 : Bool) : Option Int :=
 if t12 then
 some 4611686018427387904
 else
 some (IntKind.wrap .i64 (a_ * b))
def F.forest.mul (a_ : Int) (b : Int) : Option Int :=
 if decide (0 < a_) then
 if (a_ == 0) then none else
 F.forest.mul_j1 a_ b (decide ((gquo .i64 4611686018427387904 a_) < b))
 else
 F.forest.mul_j1 a_ b false
def F.forest.grove_count_l1 (v_ : Forest_grove) (x_ : Forest_span) (g39 : Forest_grove → Forest_part → Option (Int × Forest_grove)) : Nat → Int → Int → List (Forest_span × Int) → List (Forest_span × Int) → List (Forest_part × Int) → Option (Int × (List (Forest_span × Int)) × (List (Forest_span × Int)) × (List (Forest_part × Int)))
 | 0, _, _, _, _, _ => none
 | j + 1, n, t37, v_1, v_2, v_3 =>
  if decide (t37 < ((at_ v_.by_ x_.nt).length : Int)) then
  if inR t37 (at_ v_.by_ x_.nt).length then
  if inR (at_ (at_ v_.by_ x_.nt) t37) v_.g.Rules.length then
  (g39 (Forest_grove.mk v_.g v_.w_ v_.by_ v_1 v_2 v_3) (Forest_part.mk (at_ (at_ v_.by_ x_.nt) t37) (((at_ v_.g.Rules (at_ (at_ v_.by_ x_.nt) t37)).Rhs).length : Int) x_.from_ x_.to)).bind fun v_4 =>
  (F.forest.add n v_4.1).bind fun v_5 =>
  (F.forest.grove_count_l1 v_ x_ g39 j) v_5 (IntKind.wrap .i64 (t37 + 1)) v_4.2.whole v_4.2.counts v_4.2.rows
  else none
  else none
  else
  some (n, v_1, v_2, v_3)
def F.forest.grove_count_B (k : Nat) (g39 : Forest_grove → Forest_part → Option (Int × Forest_grove)) (v_ : Forest_grove) (x_ : Forest_span) : Option (Int × Forest_grove) :=
 if (((tget qForest_span x_ v_.whole).getD 0) == 0) then
 some (0, v_)
 else
 if (tget qForest_span x_ v_.counts).isSome then
 some ((tget qForest_span x_ v_.counts).getD 0, v_)
 else
 if inR x_.nt v_.by_.length then
 (F.forest.grove_count_l1 v_ x_ g39 k 0 0 v_.whole v_.counts v_.rows).bind fun o1 =>
 some (o1.1, (Forest_grove.mk v_.g v_.w_ v_.by_ o1.2.1 (tput qForest_span x_ o1.1 o1.2.2.1) o1.2.2.2))
 else none
def F.forest.grove_row_j2 (rec_1 : Int → Int → List (Forest_span × Int) → List (Forest_span × Int) → List (Forest_part × Int) → Option (Int × (List (Forest_span × Int)) × (List (Forest_span × Int)) × (List (Forest_part × Int)))) (m : Int) (n1 : Int) (v_4 : List (Forest_span × Int)) (v_5 : List (Forest_span × Int)) (v_6 : List (Forest_part × Int)) : Option (Int × (List (Forest_span × Int)) × (List (Forest_span × Int)) × (List (Forest_part × Int))) :=
 rec_1 n1 (IntKind.wrap .i64 (m + 1)) v_4 v_5 v_6
def F.forest.grove_row_j3 (v_8 : Int × Forest_grove) (n : Int) (rec_1 : Int → Int → List (Forest_span × Int) → List (Forest_span × Int) → List (Forest_part × Int) → Option (Int × (List (Forest_span × Int)) × (List (Forest_span × Int)) × (List (Forest_part × Int)))) (m : Int) (kid : Int) (v_9 : List (Forest_span × Int)) (v_10 : List (Forest_span × Int)) (v_11 : List (Forest_part × Int)) : Option (Int × (List (Forest_span × Int)) × (List (Forest_span × Int)) × (List (Forest_part × Int))) :=
 (F.forest.mul v_8.1 kid).bind fun v_12 =>
 (F.forest.add n v_12).bind fun v_13 =>
 F.forest.grove_row_j2 rec_1 m v_13 v_9 v_10 v_11
def F.forest.grove_row_l1 (x_ : Forest_part) (v_ : Forest_grove) (g39 : Forest_grove → Forest_part → Option (Int × Forest_grove)) (g32 : Forest_grove → Forest_span → Option (Int × Forest_grove)) : Nat → Int → Int → List (Forest_span × Int) → List (Forest_span × Int) → List (Forest_part × Int) → Option (Int × (List (Forest_span × Int)) × (List (Forest_span × Int)) × (List (Forest_part × Int)))
 | 0, _, _, _, _, _ => none
 | j + 1, n, m, v_1, v_2, v_3 =>
  if decide (m ≤ x_.to) then
  (F.forest.grove_sym (Forest_grove.mk v_.g v_.w_ v_.by_ v_1 v_2 v_3) (at_ ((at_ v_.g.Rules x_.rule).Rhs) (IntKind.wrap .i64 (x_.dot - 1))) m x_.to).bind fun v_7 =>
  if !v_7 then
  F.forest.grove_row_j2 (F.forest.grove_row_l1 x_ v_ g39 g32 j) m n v_1 v_2 v_3
  else
  (g39 (Forest_grove.mk v_.g v_.w_ v_.by_ v_1 v_2 v_3) (Forest_part.mk x_.rule (IntKind.wrap .i64 (x_.dot - 1)) x_.from_ m)).bind fun v_8 =>
  if (v_8.1 == 0) then
  F.forest.grove_row_j2 (F.forest.grove_row_l1 x_ v_ g39 g32 j) m n v_8.2.whole v_8.2.counts v_8.2.rows
  else
  if decide (0 ≤ ((at_ ((at_ v_.g.Rules x_.rule).Rhs) (IntKind.wrap .i64 (x_.dot - 1))).Nt)) then
  (g32 (Forest_grove.mk v_.g v_.w_ v_.by_ v_8.2.whole v_8.2.counts v_8.2.rows) (Forest_span.mk ((at_ ((at_ v_.g.Rules x_.rule).Rhs) (IntKind.wrap .i64 (x_.dot - 1))).Nt) m x_.to)).bind fun v_14 =>
  F.forest.grove_row_j3 v_8 n (F.forest.grove_row_l1 x_ v_ g39 g32 j) m v_14.1 v_14.2.whole v_14.2.counts v_14.2.rows
  else
  F.forest.grove_row_j3 v_8 n (F.forest.grove_row_l1 x_ v_ g39 g32 j) m 1 v_8.2.whole v_8.2.counts v_8.2.rows
  else
  some (n, v_1, v_2, v_3)
def F.forest.grove_row_B (k : Nat) (g32 : Forest_grove → Forest_span → Option (Int × Forest_grove)) (g39 : Forest_grove → Forest_part → Option (Int × Forest_grove)) (v_ : Forest_grove) (x_ : Forest_part) : Option (Int × Forest_grove) :=
 if (x_.dot == 0) then
 if (x_.from_ == x_.to) then
 some (1, v_)
 else
 some (0, v_)
 else
 if (tget qForest_part x_ v_.rows).isSome then
 some ((tget qForest_part x_ v_.rows).getD 0, v_)
 else
 if inR x_.rule v_.g.Rules.length then
 if inR (IntKind.wrap .i64 (x_.dot - 1)) ((at_ v_.g.Rules x_.rule).Rhs).length then
 (F.forest.grove_row_l1 x_ v_ g39 g32 k 0 x_.from_ v_.whole v_.counts v_.rows).bind fun o1 =>
 some (o1.1, (Forest_grove.mk v_.g v_.w_ v_.by_ o1.2.1 o1.2.2.1 (tput qForest_part x_ o1.1 o1.2.2.2)))
 else none
 else none
def F.forest.grove_count_G : Nat → (Forest_grove → Forest_span → Option (Int × Forest_grove)) × (Forest_grove → Forest_part → Option (Int × Forest_grove))
 | 0 => ((fun _ _ => none), (fun _ _ => none))
 | k + 1 => (F.forest.grove_count_B k ((F.forest.grove_count_G k).2), F.forest.grove_row_B k ((F.forest.grove_count_G k).1) ((F.forest.grove_count_G k).2))
def F.forest.grove_count (k : Nat) : Forest_grove → Forest_span → Option (Int × Forest_grove) := (F.forest.grove_count_G k).1
def F.forest.grove_row (k : Nat) : Forest_grove → Forest_part → Option (Int × Forest_grove) := (F.forest.grove_count_G k).2
def F.forest.Count (k : Nat) (g_ : Gram) (w__ : List Int) : Option (Int × Int) :=
 (F.forest.fit k g_ w__).bind fun v_ =>
 if (v_ != 0) then
 some (0, v_)
 else
 (F.forest.open_ k g_ w__).bind fun v_1 =>
 (F.forest.grove_count k v_1 (Forest_span.mk g_.Start 0 (w__.length : Int))).bind fun v_2 =>
 some (v_2.1, 0)
def F.forest.clone_l1 (l_ : List Tree) (g41 : Tree → Option Tree) : Nat → List Tree → Int → Option (List Tree)
 | 0, _, _ => none
 | j + 1, out, t12 =>
  if decide (t12 < (l_.length : Int)) then
  if inR t12 l_.length then
  (g41 (at_ l_ t12)).bind fun v_ =>
  if decide ((out.length + ([v_] : List Tree).length) * 40 ≤ 140737488355328) then
  if decide (out.length + ([v_] : List Tree).length ≤ 9223372036854775807) then
  (F.forest.clone_l1 l_ g41 j) (out ++ ([v_] : List Tree)) (IntKind.wrap .i64 (t12 + 1))
  else none
  else none
  else none
  else
  some out
def F.forest.clone_B (k : Nat) (g41 : Tree → Option Tree) (l_ : List Tree) : Option (List Tree) :=
 if decide (0 ≤ IntKind.wrap .i64 ((l_.length : Int) + 1)) then
 if decide (40 * (Int.toNat (IntKind.wrap .i64 ((l_.length : Int) + 1))) ≤ 140737488355328) then
 if decide (Int.toNat (IntKind.wrap .i64 ((l_.length : Int) + 1)) ≤ 9223372036854775807) then
 (F.forest.clone_l1 l_ g41 k ([] : List Tree) 0).bind fun o1 =>
 some o1
 else none
 else none
 else none
def F.forest.copied_B (k : Nat) (g40 : List Tree → Option (List Tree)) (t : Tree) : Option Tree :=
 if decide (0 < (t.Kids.length : Int)) then
 (g40 t.Kids).bind fun v_ =>
 some (Tree.mk t.Rule t.Byte v_)
 else
 some t
def F.forest.clone_G : Nat → (List Tree → Option (List Tree)) × (Tree → Option Tree)
 | 0 => ((fun _ => none), (fun _ => none))
 | k + 1 => (F.forest.clone_B k ((F.forest.clone_G k).2), F.forest.copied_B k ((F.forest.clone_G k).1))
def F.forest.clone (k : Nat) : List Tree → Option (List Tree) := (F.forest.clone_G k).1
def F.forest.copied (k : Nat) : Tree → Option Tree := (F.forest.clone_G k).2
def F.forest.Trees_c2_j2 (rec_1 : List Tree → Int → List (Forest_span × Int) → List (Forest_span × Int) → List (Forest_part × Int) → Option ((List Tree) × (List (Forest_span × Int)) × (List (Forest_span × Int)) × (List (Forest_part × Int)))) (t22 : Int) (out1 : List Tree) (v_3 : List (Forest_span × Int)) (v_4 : List (Forest_span × Int)) (v_5 : List (Forest_part × Int)) : Option ((List Tree) × (List (Forest_span × Int)) × (List (Forest_span × Int)) × (List (Forest_part × Int))) :=
 rec_1 out1 (IntKind.wrap .i64 (t22 + 1)) v_3 v_4 v_5
def F.forest.Trees_c2_l4 (v_9 : List (List Tree) × Forest_grove) (free : Forest_grove) (x_ : Forest_span) (t22 : Int) : Nat → List Tree → Int → Option ((List Tree) × Int)
 | 0, _, _ => none
 | j + 1, out2, t60 =>
  if decide (t60 < (v_9.1.length : Int)) then
  if inR t60 v_9.1.length then
  if decide ((out2.length + ([(Tree.mk (at_ (at_ free.by_ x_.nt) t22) 0 (at_ v_9.1 t60))] : List Tree).length) * 40 ≤ 140737488355328) then
  if decide (out2.length + ([(Tree.mk (at_ (at_ free.by_ x_.nt) t22) 0 (at_ v_9.1 t60))] : List Tree).length ≤ 9223372036854775807) then
  (F.forest.Trees_c2_l4 v_9 free x_ t22 j) (out2 ++ ([(Tree.mk (at_ (at_ free.by_ x_.nt) t22) 0 (at_ v_9.1 t60))] : List Tree)) (IntKind.wrap .i64 (t60 + 1))
  else none
  else none
  else none
  else
  some (out2, t60)
def F.forest.Trees_c2_j3 (k : Nat) (rec_1 : List Tree → Int → List (Forest_span × Int) → List (Forest_span × Int) → List (Forest_part × Int) → Option ((List Tree) × (List (Forest_span × Int)) × (List (Forest_span × Int)) × (List (Forest_part × Int)))) (t22 : Int) (out : List Tree) (g37 : Forest_part → Int → Forest_grove → Option (List (List Tree) × Forest_grove)) (free : Forest_grove) (x_ : Forest_span) (most : Int) (t51 : Bool) (v_6 : List (Forest_span × Int)) (v_7 : List (Forest_span × Int)) (v_8 : List (Forest_part × Int)) : Option ((List Tree) × (List (Forest_span × Int)) × (List (Forest_span × Int)) × (List (Forest_part × Int))) :=
 if t51 then
 F.forest.Trees_c2_j2 rec_1 t22 out v_6 v_7 v_8
 else
 (g37 (Forest_part.mk (at_ (at_ free.by_ x_.nt) t22) (((at_ free.g.Rules (at_ (at_ free.by_ x_.nt) t22)).Rhs).length : Int) x_.from_ x_.to) (IntKind.wrap .i64 (most - (out.length : Int))) (Forest_grove.mk free.g free.w_ free.by_ v_6 v_7 v_8)).bind fun v_9 =>
 (F.forest.Trees_c2_l4 v_9 free x_ t22 k out 0).bind fun o4 =>
 F.forest.Trees_c2_j2 rec_1 t22 o4.1 v_9.2.whole v_9.2.counts v_9.2.rows
def F.forest.Trees_c2_l1 (k : Nat) (free : Forest_grove) (x_ : Forest_span) (most : Int) (g37 : Forest_part → Int → Forest_grove → Option (List (List Tree) × Forest_grove)) : Nat → List Tree → Int → List (Forest_span × Int) → List (Forest_span × Int) → List (Forest_part × Int) → Option ((List Tree) × (List (Forest_span × Int)) × (List (Forest_span × Int)) × (List (Forest_part × Int)))
 | 0, _, _, _, _, _ => none
 | j + 1, out, t22, v_, v_1, v_2 =>
  if decide (t22 < ((at_ free.by_ x_.nt).length : Int)) then
  if inR t22 (at_ free.by_ x_.nt).length then
  if inR (at_ (at_ free.by_ x_.nt) t22) free.g.Rules.length then
  if ((out.length : Int) == most) then
  F.forest.Trees_c2_j3 k (F.forest.Trees_c2_l1 k free x_ most g37 j) t22 out g37 free x_ most true v_ v_1 v_2
  else
  (F.forest.grove_row k (Forest_grove.mk free.g free.w_ free.by_ v_ v_1 v_2) (Forest_part.mk (at_ (at_ free.by_ x_.nt) t22) (((at_ free.g.Rules (at_ (at_ free.by_ x_.nt) t22)).Rhs).length : Int) x_.from_ x_.to)).bind fun v_10 =>
  F.forest.Trees_c2_j3 k (F.forest.Trees_c2_l1 k free x_ most g37 j) t22 out g37 free x_ most (v_10.1 == 0) v_10.2.whole v_10.2.counts v_10.2.rows
  else none
  else none
  else
  some (out, v_, v_1, v_2)
def F.forest.Trees_c2_B (k : Nat) (g37 : Forest_part → Int → Forest_grove → Option (List (List Tree) × Forest_grove)) (x_ : Forest_span) (most : Int) (free : Forest_grove) : Option (List Tree × Forest_grove) :=
 if inR x_.nt free.by_.length then
 (F.forest.Trees_c2_l1 k free x_ most g37 k ([] : List Tree) 0 free.whole free.counts free.rows).bind fun o1 =>
 some (o1.1, (Forest_grove.mk free.g free.w_ free.by_ o1.2.1 o1.2.2.1 o1.2.2.2))
 else none
def F.forest.Trees_c1_j3 (rec_1 : List (List Tree) → Int → List (Forest_span × Int) → List (Forest_span × Int) → List (Forest_part × Int) → Option ((List (List Tree)) × (List (Forest_span × Int)) × (List (Forest_span × Int)) × (List (Forest_part × Int)))) (m : Int) (out1 : List (List Tree)) (v_3 : List (Forest_span × Int)) (v_4 : List (Forest_span × Int)) (v_5 : List (Forest_part × Int)) : Option ((List (List Tree)) × (List (Forest_span × Int)) × (List (Forest_span × Int)) × (List (Forest_part × Int))) :=
 rec_1 out1 (IntKind.wrap .i64 (m + 1)) v_3 v_4 v_5
def F.forest.Trees_c1_j8 (rec_3 : List (List Tree) → Int → Option ((List (List Tree)) × Int)) (t113 : Int) (out4 : List (List Tree)) : Option ((List (List Tree)) × Int) :=
 rec_3 out4 (IntKind.wrap .i64 (t113 + 1))
def F.forest.Trees_c1_j9 (rec_3 : List (List Tree) → Int → Option ((List (List Tree)) × Int)) (t113 : Int) (out5 : List (List Tree)) : Option ((List (List Tree)) × Int) :=
 F.forest.Trees_c1_j8 rec_3 t113 out5
def F.forest.Trees_c1_l7 (k : Nat) (last : List Tree) (most : Int) (v_12 : List (List Tree) × Forest_grove) (t107 : Int) : Nat → List (List Tree) → Int → Option ((List (List Tree)) × Int)
 | 0, _, _ => none
 | j + 1, out3, t113 =>
  if decide (t113 < (last.length : Int)) then
  if inR t113 last.length then
  if decide ((out3.length : Int) < most) then
  (F.forest.clone k (at_ v_12.1 t107)).bind fun v_13 =>
  (F.forest.copied k (at_ last t113)).bind fun v_14 =>
  if decide ((v_13.length + ([v_14] : List Tree).length) * 40 ≤ 140737488355328) then
  if decide (v_13.length + ([v_14] : List Tree).length ≤ 9223372036854775807) then
  if decide ((out3.length + ([(v_13 ++ ([v_14] : List Tree))] : List (List Tree)).length) * 24 ≤ 140737488355328) then
  if decide (out3.length + ([(v_13 ++ ([v_14] : List Tree))] : List (List Tree)).length ≤ 9223372036854775807) then
  F.forest.Trees_c1_j9 (F.forest.Trees_c1_l7 k last most v_12 t107 j) t113 (out3 ++ ([(v_13 ++ ([v_14] : List Tree))] : List (List Tree)))
  else none
  else none
  else none
  else none
  else
  F.forest.Trees_c1_j9 (F.forest.Trees_c1_l7 k last most v_12 t107 j) t113 out3
  else none
  else
  some (out3, t113)
def F.forest.Trees_c1_l6 (k : Nat) (v_12 : List (List Tree) × Forest_grove) (last : List Tree) (most : Int) : Nat → List (List Tree) → Int → Option ((List (List Tree)) × Int)
 | 0, _, _ => none
 | j + 1, out2, t107 =>
  if decide (t107 < (v_12.1.length : Int)) then
  if inR t107 v_12.1.length then
  (F.forest.Trees_c1_l7 k last most v_12 t107 k out2 0).bind fun o7 =>
  (F.forest.Trees_c1_l6 k v_12 last most j) o7.1 (IntKind.wrap .i64 (t107 + 1))
  else none
  else
  some (out2, t107)
def F.forest.Trees_c1_j5 (k : Nat) (g37 : Forest_part → Int → Forest_grove → Option (List (List Tree) × Forest_grove)) (x_ : Forest_part) (m : Int) (most : Int) (out : List (List Tree)) (free : Forest_grove) (rec_1 : List (List Tree) → Int → List (Forest_span × Int) → List (Forest_span × Int) → List (Forest_part × Int) → Option ((List (List Tree)) × (List (Forest_span × Int)) × (List (Forest_span × Int)) × (List (Forest_part × Int)))) (last : List Tree) (v_9 : List (Forest_span × Int)) (v_10 : List (Forest_span × Int)) (v_11 : List (Forest_part × Int)) : Option ((List (List Tree)) × (List (Forest_span × Int)) × (List (Forest_span × Int)) × (List (Forest_part × Int))) :=
 (g37 (Forest_part.mk x_.rule (IntKind.wrap .i64 (x_.dot - 1)) x_.from_ m) (IntKind.wrap .i64 (most - (out.length : Int))) (Forest_grove.mk free.g free.w_ free.by_ v_9 v_10 v_11)).bind fun v_12 =>
 (F.forest.Trees_c1_l6 k v_12 last most k out 0).bind fun o6 =>
 F.forest.Trees_c1_j3 rec_1 m o6.1 v_12.2.whole v_12.2.counts v_12.2.rows
def F.forest.Trees_c1_j4 (k : Nat) (rec_1 : List (List Tree) → Int → List (Forest_span × Int) → List (Forest_span × Int) → List (Forest_part × Int) → Option ((List (List Tree)) × (List (Forest_span × Int)) × (List (Forest_span × Int)) × (List (Forest_part × Int)))) (m : Int) (out : List (List Tree)) (free : Forest_grove) (x_ : Forest_part) (g42 : Forest_span → Int → Forest_grove → Option (List Tree × Forest_grove)) (most : Int) (g37 : Forest_part → Int → Forest_grove → Option (List (List Tree) × Forest_grove)) (t71 : Bool) (v_6 : List (Forest_span × Int)) (v_7 : List (Forest_span × Int)) (v_8 : List (Forest_part × Int)) : Option ((List (List Tree)) × (List (Forest_span × Int)) × (List (Forest_span × Int)) × (List (Forest_part × Int))) :=
 if t71 then
 F.forest.Trees_c1_j3 rec_1 m out v_6 v_7 v_8
 else
 if decide (0 ≤ ((at_ ((at_ free.g.Rules x_.rule).Rhs) (IntKind.wrap .i64 (x_.dot - 1))).Nt)) then
 (g42 (Forest_span.mk ((at_ ((at_ free.g.Rules x_.rule).Rhs) (IntKind.wrap .i64 (x_.dot - 1))).Nt) m x_.to) (IntKind.wrap .i64 (most - (out.length : Int))) (Forest_grove.mk free.g free.w_ free.by_ v_6 v_7 v_8)).bind fun v_15 =>
 F.forest.Trees_c1_j5 k g37 x_ m most out free rec_1 v_15.1 v_15.2.whole v_15.2.counts v_15.2.rows
 else
 if inR m free.w_.length then
 if inR 0 ([(Tree.mk (-1) 0 ([] : List Tree))] : List Tree).length then
 F.forest.Trees_c1_j5 k g37 x_ m most out free rec_1 (set_ ([(Tree.mk (-1) 0 ([] : List Tree))] : List Tree) 0 (Tree.mk ((at_ ([(Tree.mk (-1) 0 ([] : List Tree))] : List Tree) 0).Rule) (at_ free.w_ m) ((at_ ([(Tree.mk (-1) 0 ([] : List Tree))] : List Tree) 0).Kids))) v_6 v_7 v_8
 else none
 else none
def F.forest.Trees_c1_j2 (k : Nat) (free : Forest_grove) (v_ : List (Forest_span × Int)) (v_1 : List (Forest_span × Int)) (v_2 : List (Forest_part × Int)) (x_ : Forest_part) (m : Int) (rec_1 : List (List Tree) → Int → List (Forest_span × Int) → List (Forest_span × Int) → List (Forest_part × Int) → Option ((List (List Tree)) × (List (Forest_span × Int)) × (List (Forest_span × Int)) × (List (Forest_part × Int)))) (out : List (List Tree)) (g42 : Forest_span → Int → Forest_grove → Option (List Tree × Forest_grove)) (most : Int) (g37 : Forest_part → Int → Forest_grove → Option (List (List Tree) × Forest_grove)) (t47 : Bool) : Option ((List (List Tree)) × (List (Forest_span × Int)) × (List (Forest_span × Int)) × (List (Forest_part × Int))) :=
 if t47 then
 (F.forest.grove_sym (Forest_grove.mk free.g free.w_ free.by_ v_ v_1 v_2) (at_ ((at_ free.g.Rules x_.rule).Rhs) (IntKind.wrap .i64 (x_.dot - 1))) m x_.to).bind fun v_16 =>
 if !v_16 then
 F.forest.Trees_c1_j4 k rec_1 m out free x_ g42 most g37 true v_ v_1 v_2
 else
 (F.forest.grove_row k (Forest_grove.mk free.g free.w_ free.by_ v_ v_1 v_2) (Forest_part.mk x_.rule (IntKind.wrap .i64 (x_.dot - 1)) x_.from_ m)).bind fun v_17 =>
 F.forest.Trees_c1_j4 k rec_1 m out free x_ g42 most g37 (v_17.1 == 0) v_17.2.whole v_17.2.counts v_17.2.rows
 else
 some (out, v_, v_1, v_2)
def F.forest.Trees_c1_l1 (k : Nat) (x_ : Forest_part) (free : Forest_grove) (g42 : Forest_span → Int → Forest_grove → Option (List Tree × Forest_grove)) (most : Int) (g37 : Forest_part → Int → Forest_grove → Option (List (List Tree) × Forest_grove)) : Nat → List (List Tree) → Int → List (Forest_span × Int) → List (Forest_span × Int) → List (Forest_part × Int) → Option ((List (List Tree)) × (List (Forest_span × Int)) × (List (Forest_span × Int)) × (List (Forest_part × Int)))
 | 0, _, _, _, _, _ => none
 | j + 1, out, m, v_, v_1, v_2 =>
  if decide (m ≤ x_.to) then
  F.forest.Trees_c1_j2 k free v_ v_1 v_2 x_ m (F.forest.Trees_c1_l1 k x_ free g42 most g37 j) out g42 most g37 (decide ((out.length : Int) < most))
  else
  F.forest.Trees_c1_j2 k free v_ v_1 v_2 x_ m (F.forest.Trees_c1_l1 k x_ free g42 most g37 j) out g42 most g37 false
def F.forest.Trees_c1_B (k : Nat) (g42 : Forest_span → Int → Forest_grove → Option (List Tree × Forest_grove)) (g37 : Forest_part → Int → Forest_grove → Option (List (List Tree) × Forest_grove)) (x_ : Forest_part) (most : Int) (free : Forest_grove) : Option (List (List Tree) × Forest_grove) :=
 if (x_.dot == 0) then
 some (([([] : List Tree)] : List (List Tree)), free)
 else
 if inR x_.rule free.g.Rules.length then
 if inR (IntKind.wrap .i64 (x_.dot - 1)) ((at_ free.g.Rules x_.rule).Rhs).length then
 (F.forest.Trees_c1_l1 k x_ free g42 most g37 k ([] : List (List Tree)) x_.from_ free.whole free.counts free.rows).bind fun o1 =>
 some (o1.1, (Forest_grove.mk free.g free.w_ free.by_ o1.2.1 o1.2.2.1 o1.2.2.2))
 else none
 else none
def F.forest.Trees_c2_G : Nat → (Forest_span → Int → Forest_grove → Option (List Tree × Forest_grove)) × (Forest_part → Int → Forest_grove → Option (List (List Tree) × Forest_grove))
 | 0 => ((fun _ _ _ => none), (fun _ _ _ => none))
 | k + 1 => (F.forest.Trees_c2_B k ((F.forest.Trees_c2_G k).2), F.forest.Trees_c1_B k ((F.forest.Trees_c2_G k).1) ((F.forest.Trees_c2_G k).2))
def F.forest.Trees_c2 (k : Nat) : Forest_span → Int → Forest_grove → Option (List Tree × Forest_grove) := (F.forest.Trees_c2_G k).1
def F.forest.Trees_c1 (k : Nat) : Forest_part → Int → Forest_grove → Option (List (List Tree) × Forest_grove) := (F.forest.Trees_c2_G k).2
def F.forest.Trees (k : Nat) (g_ : Gram) (w__ : List Int) (most : Int) : Option (List Tree × Int) :=
 (F.forest.fit k g_ w__).bind fun v_ =>
 if (v_ != 0) then
 some (([] : List Tree), v_)
 else
 if decide (most < 0) then
 some (([] : List Tree), 1)
 else
 if decide (1000 < most) then
 some (([] : List Tree), 1)
 else
 (F.forest.open_ k g_ w__).bind fun v_1 =>
 if (most == 0) then
 some (([] : List Tree), 0)
 else
 (F.forest.grove_count k v_1 (Forest_span.mk g_.Start 0 (w__.length : Int))).bind fun v_2 =>
 if (v_2.1 == 0) then
 some (([] : List Tree), 0)
 else
 (F.forest.Trees_c2 k (Forest_span.mk g_.Start 0 (w__.length : Int)) most (Forest_grove.mk v_1.g v_1.w_ v_1.by_ v_2.2.whole v_2.2.counts v_2.2.rows)).bind fun v_3 =>
 some (v_3.1, 0)
def F.forest.packer_node_j1 (p : Forest_packer) (n : Int) (Nodes_ : List FNode) (v_ : List (Forest_span × Int)) : Option (Int × Forest_packer) :=
 some (n, (Forest_packer.mk p.v v_ p.parts (Forest.mk p.f.Root Nodes_)))
def F.forest.packer_node (p : Forest_packer) (x_ : Forest_span) : Option (Int × Forest_packer) :=
 if !((tget qForest_span x_ p.spans).isSome) then
 if decide ((p.f.Nodes.length + ([(FNode.mk x_.nt (-1) (-1) x_.from_ x_.to ([] : List Int) ([] : List Alt))] : List FNode).length) * 88 ≤ 140737488355328) then
 if decide (p.f.Nodes.length + ([(FNode.mk x_.nt (-1) (-1) x_.from_ x_.to ([] : List Int) ([] : List Alt))] : List FNode).length ≤ 9223372036854775807) then
 F.forest.packer_node_j1 p (p.f.Nodes.length : Int) (p.f.Nodes ++ ([(FNode.mk x_.nt (-1) (-1) x_.from_ x_.to ([] : List Int) ([] : List Alt))] : List FNode)) (tput qForest_span x_ (p.f.Nodes.length : Int) p.spans)
 else none
 else none
 else
 F.forest.packer_node_j1 p ((tget qForest_span x_ p.spans).getD 0) p.f.Nodes p.spans
def F.forest.packer_piece_j1 (p : Forest_packer) (n : Int) (Nodes_ : List FNode) (v_ : List (Forest_part × Int)) : Option (Int × Forest_packer) :=
 some (n, (Forest_packer.mk p.v p.spans v_ (Forest.mk p.f.Root Nodes_)))
def F.forest.packer_piece (p : Forest_packer) (x_ : Forest_part) : Option (Int × Forest_packer) :=
 if (x_.dot == 0) then
 some ((-1), p)
 else
 if !((tget qForest_part x_ p.parts).isSome) then
 if decide ((p.f.Nodes.length + ([(FNode.mk (-1) x_.rule x_.dot x_.from_ x_.to ([] : List Int) ([] : List Alt))] : List FNode).length) * 88 ≤ 140737488355328) then
 if decide (p.f.Nodes.length + ([(FNode.mk (-1) x_.rule x_.dot x_.from_ x_.to ([] : List Int) ([] : List Alt))] : List FNode).length ≤ 9223372036854775807) then
 F.forest.packer_piece_j1 p (p.f.Nodes.length : Int) (p.f.Nodes ++ ([(FNode.mk (-1) x_.rule x_.dot x_.from_ x_.to ([] : List Int) ([] : List Alt))] : List FNode)) (tput qForest_part x_ (p.f.Nodes.length : Int) p.parts)
 else none
 else none
 else
 F.forest.packer_piece_j1 p ((tget qForest_part x_ p.parts).getD 0) p.f.Nodes p.parts
def F.forest.packer_ways_j2 (rec_1 : List Alt → Int → List FNode → List (Forest_span × Int) → List (Forest_span × Int) → List (Forest_part × Int) → List (Forest_span × Int) → List (Forest_part × Int) → Option ((List Alt) × (List FNode) × (List (Forest_span × Int)) × (List (Forest_span × Int)) × (List (Forest_part × Int)) × (List (Forest_span × Int)) × (List (Forest_part × Int)))) (t28 : Int) (out1 : List Alt) (Nodes_1 : List FNode) (v_5 : List (Forest_span × Int)) (v_6 : List (Forest_span × Int)) (v_7 : List (Forest_part × Int)) (v_8 : List (Forest_span × Int)) (v_9 : List (Forest_part × Int)) : Option ((List Alt) × (List FNode) × (List (Forest_span × Int)) × (List (Forest_span × Int)) × (List (Forest_part × Int)) × (List (Forest_span × Int)) × (List (Forest_part × Int))) :=
 rec_1 out1 (IntKind.wrap .i64 (t28 + 1)) Nodes_1 v_5 v_6 v_7 v_8 v_9
def F.forest.packer_ways_j3 (rec_1 : List Alt → Int → List FNode → List (Forest_span × Int) → List (Forest_span × Int) → List (Forest_part × Int) → List (Forest_span × Int) → List (Forest_part × Int) → Option ((List Alt) × (List FNode) × (List (Forest_span × Int)) × (List (Forest_span × Int)) × (List (Forest_part × Int)) × (List (Forest_span × Int)) × (List (Forest_part × Int)))) (t28 : Int) (out2 : List Alt) (Nodes_2 : List FNode) (v_11 : List (Forest_span × Int)) (v_12 : List (Forest_span × Int)) (v_13 : List (Forest_part × Int)) (v_14 : List (Forest_span × Int)) (v_15 : List (Forest_part × Int)) : Option ((List Alt) × (List FNode) × (List (Forest_span × Int)) × (List (Forest_span × Int)) × (List (Forest_part × Int)) × (List (Forest_span × Int)) × (List (Forest_part × Int))) :=
 F.forest.packer_ways_j2 rec_1 t28 out2 Nodes_2 v_11 v_12 v_13 v_14 v_15
def F.forest.packer_ways_l1 (k : Nat) (p : Forest_packer) (n : FNode) : Nat → List Alt → Int → List FNode → List (Forest_span × Int) → List (Forest_span × Int) → List (Forest_part × Int) → List (Forest_span × Int) → List (Forest_part × Int) → Option ((List Alt) × (List FNode) × (List (Forest_span × Int)) × (List (Forest_span × Int)) × (List (Forest_part × Int)) × (List (Forest_span × Int)) × (List (Forest_part × Int)))
 | 0, _, _, _, _, _, _, _, _ => none
 | j + 1, out, t28, Nodes_, v_, v_1, v_2, v_3, v_4 =>
  if decide (t28 < ((at_ p.v.by_ n.Nt).length : Int)) then
  if inR t28 (at_ p.v.by_ n.Nt).length then
  if inR (at_ (at_ p.v.by_ n.Nt) t28) p.v.g.Rules.length then
  (F.forest.grove_row k (Forest_grove.mk p.v.g p.v.w_ p.v.by_ v_ v_1 v_2) (Forest_part.mk (at_ (at_ p.v.by_ n.Nt) t28) (((at_ p.v.g.Rules (at_ (at_ p.v.by_ n.Nt) t28)).Rhs).length : Int) n.From n.To)).bind fun v_10 =>
  if decide (0 < v_10.1) then
  (F.forest.packer_piece (Forest_packer.mk (Forest_grove.mk p.v.g p.v.w_ p.v.by_ v_10.2.whole v_10.2.counts v_10.2.rows) v_3 v_4 (Forest.mk p.f.Root Nodes_)) (Forest_part.mk (at_ (at_ p.v.by_ n.Nt) t28) (((at_ p.v.g.Rules (at_ (at_ p.v.by_ n.Nt) t28)).Rhs).length : Int) n.From n.To)).bind fun v_16 =>
  if decide ((out.length + ([(Alt.mk (at_ (at_ p.v.by_ n.Nt) t28) 0 v_16.1 (-1))] : List Alt).length) * 32 ≤ 140737488355328) then
  if decide (out.length + ([(Alt.mk (at_ (at_ p.v.by_ n.Nt) t28) 0 v_16.1 (-1))] : List Alt).length ≤ 9223372036854775807) then
  F.forest.packer_ways_j3 (F.forest.packer_ways_l1 k p n j) t28 (out ++ ([(Alt.mk (at_ (at_ p.v.by_ n.Nt) t28) 0 v_16.1 (-1))] : List Alt)) v_16.2.f.Nodes v_16.2.v.whole v_16.2.v.counts v_16.2.v.rows v_16.2.spans v_16.2.parts
  else none
  else none
  else
  F.forest.packer_ways_j3 (F.forest.packer_ways_l1 k p n j) t28 out Nodes_ v_10.2.whole v_10.2.counts v_10.2.rows v_3 v_4
  else none
  else none
  else
  some (out, Nodes_, v_, v_1, v_2, v_3, v_4)
def F.forest.packer_ways_j5 (rec_2 : List Alt → Int → List FNode → List (Forest_span × Int) → List (Forest_span × Int) → List (Forest_part × Int) → List (Forest_span × Int) → List (Forest_part × Int) → Option ((List Alt) × (List FNode) × (List (Forest_span × Int)) × (List (Forest_span × Int)) × (List (Forest_part × Int)) × (List (Forest_span × Int)) × (List (Forest_part × Int)))) (m : Int) (out4 : List Alt) (v_22 : List (Forest_span × Int)) (v_23 : List (Forest_span × Int)) (v_24 : List (Forest_part × Int)) (Nodes_4 : List FNode) (v_25 : List (Forest_span × Int)) (v_26 : List (Forest_part × Int)) : Option ((List Alt) × (List FNode) × (List (Forest_span × Int)) × (List (Forest_span × Int)) × (List (Forest_part × Int)) × (List (Forest_span × Int)) × (List (Forest_part × Int))) :=
 rec_2 out4 (IntKind.wrap .i64 (m + 1)) Nodes_4 v_22 v_23 v_24 v_25 v_26
def F.forest.packer_ways_j8 (out3 : List Alt) (n : FNode) (m : Int) (Left_ : Int) (rec_2 : List Alt → Int → List FNode → List (Forest_span × Int) → List (Forest_span × Int) → List (Forest_part × Int) → List (Forest_span × Int) → List (Forest_part × Int) → Option ((List Alt) × (List FNode) × (List (Forest_span × Int)) × (List (Forest_span × Int)) × (List (Forest_part × Int)) × (List (Forest_span × Int)) × (List (Forest_part × Int)))) (Nodes_6 : List FNode) (v_35 : List (Forest_span × Int)) (v_36 : List (Forest_span × Int)) (v_37 : List (Forest_part × Int)) (v_38 : List (Forest_span × Int)) (v_39 : List (Forest_part × Int)) (Right_ : Int) : Option ((List Alt) × (List FNode) × (List (Forest_span × Int)) × (List (Forest_span × Int)) × (List (Forest_part × Int)) × (List (Forest_span × Int)) × (List (Forest_part × Int))) :=
 if decide ((out3.length + ([(Alt.mk n.Rule m Left_ Right_)] : List Alt).length) * 32 ≤ 140737488355328) then
 if decide (out3.length + ([(Alt.mk n.Rule m Left_ Right_)] : List Alt).length ≤ 9223372036854775807) then
 F.forest.packer_ways_j5 rec_2 m (out3 ++ ([(Alt.mk n.Rule m Left_ Right_)] : List Alt)) v_35 v_36 v_37 Nodes_6 v_38 v_39
 else none
 else none
def F.forest.packer_ways_j7 (p : Forest_packer) (n : FNode) (m : Int) (out3 : List Alt) (rec_2 : List Alt → Int → List FNode → List (Forest_span × Int) → List (Forest_span × Int) → List (Forest_part × Int) → List (Forest_span × Int) → List (Forest_part × Int) → Option ((List Alt) × (List FNode) × (List (Forest_span × Int)) × (List (Forest_span × Int)) × (List (Forest_part × Int)) × (List (Forest_span × Int)) × (List (Forest_part × Int)))) (Left_ : Int) (Nodes_5 : List FNode) (v_30 : List (Forest_span × Int)) (v_31 : List (Forest_span × Int)) (v_32 : List (Forest_part × Int)) (v_33 : List (Forest_span × Int)) (v_34 : List (Forest_part × Int)) : Option ((List Alt) × (List FNode) × (List (Forest_span × Int)) × (List (Forest_span × Int)) × (List (Forest_part × Int)) × (List (Forest_span × Int)) × (List (Forest_part × Int))) :=
 if decide (0 ≤ ((at_ ((at_ p.v.g.Rules n.Rule).Rhs) (IntKind.wrap .i64 (n.Dot - 1))).Nt)) then
 (F.forest.packer_node (Forest_packer.mk (Forest_grove.mk p.v.g p.v.w_ p.v.by_ v_30 v_31 v_32) v_33 v_34 (Forest.mk p.f.Root Nodes_5)) (Forest_span.mk ((at_ ((at_ p.v.g.Rules n.Rule).Rhs) (IntKind.wrap .i64 (n.Dot - 1))).Nt) m n.To)).bind fun v_40 =>
 F.forest.packer_ways_j8 out3 n m Left_ rec_2 v_40.2.f.Nodes v_40.2.v.whole v_40.2.v.counts v_40.2.v.rows v_40.2.spans v_40.2.parts v_40.1
 else
 F.forest.packer_ways_j8 out3 n m Left_ rec_2 Nodes_5 v_30 v_31 v_32 v_33 v_34 (-1)
def F.forest.packer_ways_j6 (rec_2 : List Alt → Int → List FNode → List (Forest_span × Int) → List (Forest_span × Int) → List (Forest_part × Int) → List (Forest_span × Int) → List (Forest_part × Int) → Option ((List Alt) × (List FNode) × (List (Forest_span × Int)) × (List (Forest_span × Int)) × (List (Forest_part × Int)) × (List (Forest_span × Int)) × (List (Forest_part × Int)))) (m : Int) (out3 : List Alt) (Nodes_3 : List FNode) (v_20 : List (Forest_span × Int)) (v_21 : List (Forest_part × Int)) (p : Forest_packer) (n : FNode) (t121 : Bool) (v_27 : List (Forest_span × Int)) (v_28 : List (Forest_span × Int)) (v_29 : List (Forest_part × Int)) : Option ((List Alt) × (List FNode) × (List (Forest_span × Int)) × (List (Forest_span × Int)) × (List (Forest_part × Int)) × (List (Forest_span × Int)) × (List (Forest_part × Int))) :=
 if t121 then
 F.forest.packer_ways_j5 rec_2 m out3 v_27 v_28 v_29 Nodes_3 v_20 v_21
 else
 (F.forest.packer_piece (Forest_packer.mk (Forest_grove.mk p.v.g p.v.w_ p.v.by_ v_27 v_28 v_29) v_20 v_21 (Forest.mk p.f.Root Nodes_3)) (Forest_part.mk n.Rule (IntKind.wrap .i64 (n.Dot - 1)) n.From m)).bind fun v_41 =>
 F.forest.packer_ways_j7 p n m out3 rec_2 v_41.1 v_41.2.f.Nodes v_41.2.v.whole v_41.2.v.counts v_41.2.v.rows v_41.2.spans v_41.2.parts
def F.forest.packer_ways_l4 (k : Nat) (n : FNode) (p : Forest_packer) : Nat → List Alt → Int → List FNode → List (Forest_span × Int) → List (Forest_span × Int) → List (Forest_part × Int) → List (Forest_span × Int) → List (Forest_part × Int) → Option ((List Alt) × (List FNode) × (List (Forest_span × Int)) × (List (Forest_span × Int)) × (List (Forest_part × Int)) × (List (Forest_span × Int)) × (List (Forest_part × Int)))
 | 0, _, _, _, _, _, _, _, _ => none
 | j + 1, out3, m, Nodes_3, v_17, v_18, v_19, v_20, v_21 =>
  if decide (m ≤ n.To) then
  (F.forest.grove_sym (Forest_grove.mk p.v.g p.v.w_ p.v.by_ v_17 v_18 v_19) (at_ ((at_ p.v.g.Rules n.Rule).Rhs) (IntKind.wrap .i64 (n.Dot - 1))) m n.To).bind fun v_42 =>
  if !v_42 then
  F.forest.packer_ways_j6 (F.forest.packer_ways_l4 k n p j) m out3 Nodes_3 v_20 v_21 p n true v_17 v_18 v_19
  else
  (F.forest.grove_row k (Forest_grove.mk p.v.g p.v.w_ p.v.by_ v_17 v_18 v_19) (Forest_part.mk n.Rule (IntKind.wrap .i64 (n.Dot - 1)) n.From m)).bind fun v_43 =>
  F.forest.packer_ways_j6 (F.forest.packer_ways_l4 k n p j) m out3 Nodes_3 v_20 v_21 p n (v_43.1 == 0) v_43.2.whole v_43.2.counts v_43.2.rows
  else
  some (out3, Nodes_3, v_17, v_18, v_19, v_20, v_21)
def F.forest.packer_ways (k : Nat) (p : Forest_packer) (n : FNode) : Option (List Alt × Forest_packer) :=
 if decide (n.Dot < 0) then
 if inR n.Nt p.v.by_.length then
 (F.forest.packer_ways_l1 k p n k ([] : List Alt) 0 p.f.Nodes p.v.whole p.v.counts p.v.rows p.spans p.parts).bind fun o1 =>
 some (o1.1, (Forest_packer.mk (Forest_grove.mk p.v.g p.v.w_ p.v.by_ o1.2.2.1 o1.2.2.2.1 o1.2.2.2.2.1) o1.2.2.2.2.2.1 o1.2.2.2.2.2.2 (Forest.mk p.f.Root o1.2.1)))
 else none
 else
 if inR n.Rule p.v.g.Rules.length then
 if inR (IntKind.wrap .i64 (n.Dot - 1)) ((at_ p.v.g.Rules n.Rule).Rhs).length then
 (F.forest.packer_ways_l4 k n p k ([] : List Alt) n.From p.f.Nodes p.v.whole p.v.counts p.v.rows p.spans p.parts).bind fun o4 =>
 some (o4.1, (Forest_packer.mk (Forest_grove.mk p.v.g p.v.w_ p.v.by_ o4.2.2.1 o4.2.2.2.1 o4.2.2.2.2.1) o4.2.2.2.2.2.1 o4.2.2.2.2.2.2 (Forest.mk p.f.Root o4.2.1)))
 else none
 else none
def F.forest.Build_l1 (k : Nat) (v_1 : Forest_grove) : Nat → Int → List FNode → List (Forest_span × Int) → List (Forest_span × Int) → List (Forest_part × Int) → List (Forest_span × Int) → List (Forest_part × Int) → Option ((List FNode) × (List (Forest_span × Int)) × (List (Forest_span × Int)) × (List (Forest_part × Int)) × (List (Forest_span × Int)) × (List (Forest_part × Int)))
 | 0, _, _, _, _, _, _, _ => none
 | j + 1, i, Nodes_, v_4, v_5, v_6, v_7, v_8 =>
  if decide (i < (Nodes_.length : Int)) then
  if inR i Nodes_.length then
  (F.forest.packer_ways k (Forest_packer.mk (Forest_grove.mk v_1.g v_1.w_ v_1.by_ v_4 v_5 v_6) v_7 v_8 (Forest.mk 0 Nodes_)) (at_ Nodes_ i)).bind fun v_9 =>
  if inR i v_9.2.f.Nodes.length then
  (F.forest.Build_l1 k v_1 j) (IntKind.wrap .i64 (i + 1)) (set_ v_9.2.f.Nodes i (FNode.mk ((at_ v_9.2.f.Nodes i).Nt) ((at_ v_9.2.f.Nodes i).Rule) ((at_ v_9.2.f.Nodes i).Dot) ((at_ v_9.2.f.Nodes i).From) ((at_ v_9.2.f.Nodes i).To) ((at_ v_9.2.f.Nodes i).Ban) v_9.1)) v_9.2.v.whole v_9.2.v.counts v_9.2.v.rows v_9.2.spans v_9.2.parts
  else none
  else none
  else
  some (Nodes_, v_4, v_5, v_6, v_7, v_8)
def F.forest.Build (k : Nat) (g_ : Gram) (w__ : List Int) : Option (Forest × Int) :=
 (F.forest.fit k g_ w__).bind fun v_ =>
 if (v_ != 0) then
 some ((Forest.mk 0 ([] : List FNode)), v_)
 else
 (F.forest.open_ k g_ w__).bind fun v_1 =>
 (F.forest.grove_count k v_1 (Forest_span.mk g_.Start 0 (w__.length : Int))).bind fun v_2 =>
 if (v_2.1 == 0) then
 some ((Forest.mk (-1) ([] : List FNode)), 0)
 else
 (F.forest.packer_node (Forest_packer.mk (Forest_grove.mk v_1.g v_1.w_ v_1.by_ v_2.2.whole v_2.2.counts v_2.2.rows) ([] : List (Forest_span × Int)) ([] : List (Forest_part × Int)) (Forest.mk 0 ([] : List FNode))) (Forest_span.mk g_.Start 0 (w__.length : Int))).bind fun v_3 =>
 (F.forest.Build_l1 k v_1 k 0 v_3.2.f.Nodes v_3.2.v.whole v_3.2.v.counts v_3.2.v.rows v_3.2.spans v_3.2.parts).bind fun o1 =>
 some ((Forest.mk 0 o1.1), 0)
def F.law08.alive_j1 (t0 : Bool) : Option Bool :=
 some t0
def F.law08.alive (k : Nat) : Option Bool :=
 (F.law08.sum).bind fun v_ =>
 (F.forest.Count k v_ ([49, 43, 49, 43, 49] : List Int)).bind fun v_1 =>
 (F.forest.Trees k v_ ([49, 43, 49, 43, 49] : List Int) 9).bind fun v_2 =>
 (F.forest.Build k v_ ([49] : List Int)).bind fun v_3 =>
 (F.forest.Count k (Gram.mk 1 0 ([(Rule.mk 0 ([(KSym.mk 0 (S4.mk 0 0 0 0))] : List KSym))] : List Rule)) ([] : List Int)).bind fun v_4 =>
 if (v_1.1 == 2) then
 if (v_1.2 == 0) then
 if (v_2.2 == 0) then
 if ((v_2.1.length : Int) == 2) then
 if inR 0 v_2.1.length then
 if ((((at_ v_2.1 0).Kids).length : Int) == 3) then
 if inR 0 ((at_ v_2.1 0).Kids).length then
 if (((at_ ((at_ v_2.1 0).Kids) 0).Rule) == 1) then
 if (v_3.2 == 0) then
 if ((v_3.1.Nodes.length : Int) == 2) then
 F.law08.alive_j1 (v_4.2 == 48)
 else
 F.law08.alive_j1 false
 else
 F.law08.alive_j1 false
 else
 F.law08.alive_j1 false
 else none
 else
 F.law08.alive_j1 false
 else none
 else
 F.law08.alive_j1 false
 else
 F.law08.alive_j1 false
 else
 F.law08.alive_j1 false
 else
 F.law08.alive_j1 false
def F.ref06.Right_j4 (rec_2 : Int → Option (LR Int Int)) (k_ : Int) (t93 : Bool) : Option (LR Int Int) :=
 if t93 then
 some (.ret 3)
 else
 rec_2 (IntKind.wrap .i64 (k_ + 1))
def F.ref06.Right_l3 (g_ : Gram) (i : Int) : Nat → Int → Option (LR Int Int)
 | 0, _ => none
 | j + 1, k_ =>
  if decide (k_ < (((at_ g_.Rules i).Rhs).length : Int)) then
  if inR k_ ((at_ g_.Rules i).Rhs).length then
  if (((at_ ((at_ g_.Rules i).Rhs) k_).Nt) != (-1)) then
  if decide (((at_ ((at_ g_.Rules i).Rhs) k_).Nt) < 0) then
  F.ref06.Right_j4 (F.ref06.Right_l3 g_ i j) k_ true
  else
  if decide (g_.Nts ≤ ((at_ ((at_ g_.Rules i).Rhs) k_).Nt)) then
  F.ref06.Right_j4 (F.ref06.Right_l3 g_ i j) k_ true
  else
  F.ref06.Right_j4 (F.ref06.Right_l3 g_ i j) k_ (!(S4.eq (S4.mk ((at_ ((at_ g_.Rules i).Rhs) k_).Set.w0) ((at_ ((at_ g_.Rules i).Rhs) k_).Set.w1) ((at_ ((at_ g_.Rules i).Rhs) k_).Set.w2) ((at_ ((at_ g_.Rules i).Rhs) k_).Set.w3)) (S4.mk 0 0 0 0)))
  else
  F.ref06.Right_j4 (F.ref06.Right_l3 g_ i j) k_ false
  else none
  else
  some (.done k_)
def F.ref06.Right_l2 (k : Nat) (g_ : Gram) : Nat → Int → Option (LR Unit Int)
 | 0, _ => none
 | j + 1, i =>
  if decide (i < (g_.Rules.length : Int)) then
  if inR i g_.Rules.length then
  if decide (((at_ g_.Rules i).Lhs) < 0) then
  some (.ret 3)
  else
  if decide (g_.Nts ≤ ((at_ g_.Rules i).Lhs)) then
  some (.ret 3)
  else
  if decide (80 < (((at_ g_.Rules i).Rhs).length : Int)) then
  some (.ret 3)
  else
  (F.ref06.Right_l3 g_ i k 0).bind fun o3 =>
  o3.go fun d3 =>
  (F.ref06.Right_l2 k g_ j) (IntKind.wrap .i64 (i + 1))
  else none
  else
  some (.done ())
def F.ref06.Right_j1 (k : Nat) (g_ : Gram) (t32 : Bool) : Option Int :=
 if t32 then
 some 3
 else
 (F.ref06.Right_l2 k g_ k 0).bind fun o2 =>
 o2.fin fun d2 =>
 some 0
def F.ref06.Right (k : Nat) (g_ : Gram) : Option Int :=
 if decide (g_.Nts < 1) then
 F.ref06.Right_j1 k g_ true
 else
 if decide (4096 < g_.Nts) then
 F.ref06.Right_j1 k g_ true
 else
 if decide (g_.Start < 0) then
 F.ref06.Right_j1 k g_ true
 else
 if decide (g_.Nts ≤ g_.Start) then
 F.ref06.Right_j1 k g_ true
 else
 F.ref06.Right_j1 k g_ (decide (8192 < (g_.Rules.length : Int)))
def F.ref07.Fit_j1 (v_ : Int) (t14 : Bool) : Option Int :=
 if t14 then
 some 2
 else
 some v_
def F.ref07.Fit (k : Nat) (g_ : Gram) (w__ : List Int) : Option Int :=
 (F.ref06.Right k g_).bind fun v_ =>
 if (v_ == 0) then
 F.ref07.Fit_j1 v_ (decide (512 < (w__.length : Int)))
 else
 F.ref07.Fit_j1 v_ false
def F.ref06.none__l1 (n : Int) : Nat → List Bool → Int → Option (List Bool)
 | 0, _, _ => none
 | j + 1, out, i =>
  if decide (i < n) then
  if decide ((out.length + ([false] : List Bool).length) * 1 ≤ 140737488355328) then
  if decide (out.length + ([false] : List Bool).length ≤ 9223372036854775807) then
  (F.ref06.none__l1 n j) (out ++ ([false] : List Bool)) (IntKind.wrap .i64 (i + 1))
  else none
  else none
  else
  some out
def F.ref06.none_ (k : Nat) (n : Int) : Option (List Bool) :=
 (F.ref06.none__l1 n k ([] : List Bool) 0).bind fun o1 =>
 some o1
def F.ref06.so_j1 (s : KSym) (m : List Bool) (null : Bool) (t16 : Bool) : Option Bool :=
 if t16 then
 if inR s.Nt m.length then
 some (at_ m s.Nt)
 else none
 else
 if !null then
 some (!(S4.eq s.Set (S4.mk 0 0 0 0)))
 else
 some false
def F.ref06.so (s : KSym) (m : List Bool) (null : Bool) : Option Bool :=
 if decide (0 ≤ s.Nt) then
 F.ref06.so_j1 s m null (decide (s.Nt < (m.length : Int)))
 else
 F.ref06.so_j1 s m null false
def F.ref06.all_l1 (r_ : Rule) (m : List Bool) (null : Bool) : Nat → Int → Option (LR Unit Bool)
 | 0, _ => none
 | j + 1, i =>
  if decide (i < (r_.Rhs.length : Int)) then
  if inR i r_.Rhs.length then
  (F.ref06.so (at_ r_.Rhs i) m null).bind fun v_ =>
  if !v_ then
  some (.ret false)
  else
  (F.ref06.all_l1 r_ m null j) (IntKind.wrap .i64 (i + 1))
  else none
  else
  some (.done ())
def F.ref06.all (k : Nat) (r_ : Rule) (m : List Bool) (null : Bool) : Option Bool :=
 (F.ref06.all_l1 r_ m null k 0).bind fun o1 =>
 o1.fin fun d1 =>
 some true
def F.ref06.round_j2 (rec_1 : List Bool → Int → Option (List Bool)) (i : Int) (out1 : List Bool) : Option (List Bool) :=
 rec_1 out1 (IntKind.wrap .i64 (i + 1))
def F.ref06.round_j3 (rec_1 : List Bool → Int → Option (List Bool)) (i : Int) (out2 : List Bool) : Option (List Bool) :=
 F.ref06.round_j2 rec_1 i out2
def F.ref06.round_l1 (k : Nat) (g_ : Gram) (m : List Bool) (null : Bool) : Nat → List Bool → Int → Option (List Bool)
 | 0, _, _ => none
 | j + 1, out, i =>
  if decide (i < (g_.Rules.length : Int)) then
  if inR i g_.Rules.length then
  (F.ref06.all k (at_ g_.Rules i) m null).bind fun v_1 =>
  if v_1 then
  if inR ((at_ g_.Rules i).Lhs) out.length then
  F.ref06.round_j3 (F.ref06.round_l1 k g_ m null j) i (set_ out ((at_ g_.Rules i).Lhs) true)
  else none
  else
  F.ref06.round_j3 (F.ref06.round_l1 k g_ m null j) i out
  else none
  else
  some out
def F.ref06.round (k : Nat) (g_ : Gram) (m : List Bool) (null : Bool) : Option (List Bool) :=
 (F.ref06.none_ k g_.Nts).bind fun v_ =>
 (F.ref06.round_l1 k g_ m null k v_ 0).bind fun o1 =>
 some o1
def F.ref06.marks_l1 (k : Nat) (g_ : Gram) (null : Bool) : Nat → List Bool → Int → Option (List Bool)
 | 0, _, _ => none
 | j + 1, m, i =>
  if decide (i < g_.Nts) then
  (F.ref06.round k g_ m null).bind fun v_1 =>
  (F.ref06.marks_l1 k g_ null j) v_1 (IntKind.wrap .i64 (i + 1))
  else
  some m
def F.ref06.marks (k : Nat) (g_ : Gram) (null : Bool) : Option (List Bool) :=
 (F.ref06.none_ k g_.Nts).bind fun v_ =>
 (F.ref06.marks_l1 k g_ null k v_ 0).bind fun o1 =>
 some o1
def F.ref06.Nullable (k : Nat) (g_ : Gram) : Option (List Bool × Int) :=
 (F.ref06.Right k g_).bind fun v_ =>
 if (v_ != 0) then
 some (([] : List Bool), v_)
 else
 (F.ref06.marks k g_ true).bind fun v_1 =>
 some (v_1, v_)
def F.ref06.leads_j2 (rec_1 : Int → Option (LR Unit Bool)) (i : Int) : Option (LR Unit Bool) :=
 rec_1 (IntKind.wrap .i64 (i + 1))
def F.ref06.leads_j3 (rec_1 : Int → Option (LR Unit Bool)) (i : Int) (t27 : Bool) : Option (LR Unit Bool) :=
 if t27 then
 some (.ret false)
 else
 F.ref06.leads_j2 rec_1 i
def F.ref06.leads_l1 (r_ : Rule) (at__ : Int) (null : List Bool) : Nat → Int → Option (LR Unit Bool)
 | 0, _ => none
 | j + 1, i =>
  if decide (i < (r_.Rhs.length : Int)) then
  if (i != at__) then
  if inR i r_.Rhs.length then
  (F.ref06.so (at_ r_.Rhs i) null true).bind fun v_ =>
  F.ref06.leads_j3 (F.ref06.leads_l1 r_ at__ null j) i (!v_)
  else none
  else
  F.ref06.leads_j3 (F.ref06.leads_l1 r_ at__ null j) i false
  else
  some (.done ())
def F.ref06.leads (k : Nat) (r_ : Rule) (at__ : Int) (null : List Bool) : Option Bool :=
 (F.ref06.leads_l1 r_ at__ null k 0).bind fun o1 =>
 o1.fin fun d1 =>
 if inR at__ r_.Rhs.length then
 some (decide (0 ≤ ((at_ r_.Rhs at__).Nt)))
 else none
def F.ref06.Cyclic_j3 (rec_2 : List Bool → Int → Int → Option ((List Bool) × Int × Int)) (a_ : Int) (struck2 : List Bool) (left2 : Int) : Option ((List Bool) × Int × Int) :=
 rec_2 struck2 left2 (IntKind.wrap .i64 (a_ + 1))
def F.ref06.Cyclic_j8 (rec_4 : Bool → Int → Option (Bool × Int)) (k_ : Int) (free2 : Bool) : Option (Bool × Int) :=
 rec_4 free2 (IntKind.wrap .i64 (k_ + 1))
def F.ref06.Cyclic_j10 (rec_4 : Bool → Int → Option (Bool × Int)) (k_ : Int) (free3 : Bool) : Option (Bool × Int) :=
 F.ref06.Cyclic_j8 rec_4 k_ free3
def F.ref06.Cyclic_j9 (rec_4 : Bool → Int → Option (Bool × Int)) (k_ : Int) (free1 : Bool) (t86 : Bool) : Option (Bool × Int) :=
 if t86 then
 F.ref06.Cyclic_j10 rec_4 k_ false
 else
 F.ref06.Cyclic_j10 rec_4 k_ free1
def F.ref06.Cyclic_j7 (k : Nat) (g_ : Gram) (i : Int) (k_ : Int) (v_ : List Bool × Int) (struck1 : List Bool) (rec_4 : Bool → Int → Option (Bool × Int)) (free1 : Bool) (t68 : Bool) : Option (Bool × Int) :=
 if t68 then
 (F.ref06.leads k (at_ g_.Rules i) k_ v_.1).bind fun v_2 =>
 if v_2 then
 if inR k_ ((at_ g_.Rules i).Rhs).length then
 if inR ((at_ ((at_ g_.Rules i).Rhs) k_).Nt) struck1.length then
 F.ref06.Cyclic_j9 rec_4 k_ free1 (!(at_ struck1 ((at_ ((at_ g_.Rules i).Rhs) k_).Nt)))
 else none
 else none
 else
 F.ref06.Cyclic_j9 rec_4 k_ free1 false
 else
 some (free1, k_)
def F.ref06.Cyclic_l6 (k : Nat) (g_ : Gram) (i : Int) (v_ : List Bool × Int) (struck1 : List Bool) (a_ : Int) : Nat → Bool → Int → Option (Bool × Int)
 | 0, _, _ => none
 | j + 1, free1, k_ =>
  if decide (k_ < (((at_ g_.Rules i).Rhs).length : Int)) then
  F.ref06.Cyclic_j7 k g_ i k_ v_ struck1 (F.ref06.Cyclic_l6 k g_ i v_ struck1 a_ j) free1 (((at_ g_.Rules i).Lhs) == a_)
  else
  F.ref06.Cyclic_j7 k g_ i k_ v_ struck1 (F.ref06.Cyclic_l6 k g_ i v_ struck1 a_ j) free1 false
def F.ref06.Cyclic_j5 (k : Nat) (i : Int) (g_ : Gram) (v_ : List Bool × Int) (struck1 : List Bool) (a_ : Int) (free : Bool) (rec_3 : Bool → Int → Option (Bool × Int)) (t50 : Bool) : Option (Bool × Int) :=
 if t50 then
 if inR i g_.Rules.length then
 (F.ref06.Cyclic_l6 k g_ i v_ struck1 a_ k free 0).bind fun o6 =>
 rec_3 o6.1 (IntKind.wrap .i64 (i + 1))
 else none
 else
 some (free, i)
def F.ref06.Cyclic_l4 (k : Nat) (g_ : Gram) (v_ : List Bool × Int) (struck1 : List Bool) (a_ : Int) : Nat → Bool → Int → Option (Bool × Int)
 | 0, _, _ => none
 | j + 1, free, i =>
  if decide (i < (g_.Rules.length : Int)) then
  F.ref06.Cyclic_j5 k i g_ v_ struck1 a_ free (F.ref06.Cyclic_l4 k g_ v_ struck1 a_ j) free
  else
  F.ref06.Cyclic_j5 k i g_ v_ struck1 a_ free (F.ref06.Cyclic_l4 k g_ v_ struck1 a_ j) false
def F.ref06.Cyclic_j11 (rec_2 : List Bool → Int → Int → Option ((List Bool) × Int × Int)) (a_ : Int) (struck3 : List Bool) (left3 : Int) : Option ((List Bool) × Int × Int) :=
 F.ref06.Cyclic_j3 rec_2 a_ struck3 left3
def F.ref06.Cyclic_l2 (k : Nat) (g_ : Gram) (v_ : List Bool × Int) : Nat → List Bool → Int → Int → Option ((List Bool) × Int × Int)
 | 0, _, _, _ => none
 | j + 1, struck1, left1, a_ =>
  if decide (a_ < g_.Nts) then
  if inR a_ struck1.length then
  if at_ struck1 a_ then
  F.ref06.Cyclic_j3 (F.ref06.Cyclic_l2 k g_ v_ j) a_ struck1 left1
  else
  (F.ref06.Cyclic_l4 k g_ v_ struck1 a_ k true 0).bind fun o4 =>
  if o4.1 then
  F.ref06.Cyclic_j11 (F.ref06.Cyclic_l2 k g_ v_ j) a_ (set_ struck1 a_ true) (IntKind.wrap .i64 (left1 - 1))
  else
  F.ref06.Cyclic_j11 (F.ref06.Cyclic_l2 k g_ v_ j) a_ struck1 left1
  else none
  else
  some (struck1, left1, a_)
def F.ref06.Cyclic_l1 (k : Nat) (g_ : Gram) (v_ : List Bool × Int) : Nat → List Bool → Int → Int → Option Int
 | 0, _, _, _ => none
 | j + 1, struck, left, n =>
  if decide (n < g_.Nts) then
  (F.ref06.Cyclic_l2 k g_ v_ k struck left 0).bind fun o2 =>
  (F.ref06.Cyclic_l1 k g_ v_ j) o2.1 o2.2.1 (IntKind.wrap .i64 (n + 1))
  else
  some left
def F.ref06.Cyclic (k : Nat) (g_ : Gram) : Option (Bool × Int) :=
 (F.ref06.Nullable k g_).bind fun v_ =>
 if (v_.2 != 0) then
 some (false, v_.2)
 else
 (F.ref06.none_ k g_.Nts).bind fun v_1 =>
 (F.ref06.Cyclic_l1 k g_ v_ k v_1 g_.Nts 0).bind fun o1 =>
 some (decide (0 < o1), v_.2)
def F.ref08.Fit (k : Nat) (g_ : Gram) (w__ : List Int) : Option Int :=
 (F.ref07.Fit k g_ w__).bind fun v_ =>
 if (v_ != 0) then
 some v_
 else
 (F.ref06.Cyclic k g_).bind fun v_1 =>
 if v_1.1 then
 some 48
 else
 some v_
def F.ref07.Table_at (t : Ref07_Table) (a_ : Int) (i : Int) (j_ : Int) : Option Int :=
 some (IntKind.wrap .i64 ((IntKind.wrap .i64 ((IntKind.wrap .i64 ((IntKind.wrap .i64 (a_ * (IntKind.wrap .i64 (t.N_ + 1)))) + i)) * (IntKind.wrap .i64 (t.N_ + 1)))) + j_))
def F.ref07.Table_Has (t : Ref07_Table) (a_ : Int) (i : Int) (j_ : Int) : Option Bool :=
 (F.ref07.Table_at t a_ i j_).bind fun v_ =>
 if inR v_ t.Yes.length then
 some (at_ t.Yes v_)
 else none
def F.ref01.Has_l2 (n : Int) : Nat → Int → Int → Option Int
 | 0, _, _ => none
 | j + 1, w__1, i =>
  if decide (i < (grem n 64)) then
  (F.ref01.Has_l2 n j) (gquo .u64 w__1 2) (IntKind.wrap .i64 (i + 1))
  else
  some w__1
def F.ref01.Has_j1 (k : Nat) (n : Int) (w__ : Int) : Option Bool :=
 (F.ref01.Has_l2 n k w__ 0).bind fun o2 =>
 some ((grem o2 2) == 1)
def F.ref01.Has_j3 (k : Nat) (n : Int) (w__2 : Int) : Option Bool :=
 F.ref01.Has_j1 k n w__2
def F.ref01.Has (k : Nat) (s : S4) (n : Int) : Option Bool :=
 if decide (n < 0) then
 some false
 else
 if decide (255 < n) then
 some false
 else
 if ((gquo .i64 n 64) == 1) then
 F.ref01.Has_j1 k n s.w1
 else
 if ((gquo .i64 n 64) == 2) then
 F.ref01.Has_j3 k n s.w2
 else
 if ((gquo .i64 n 64) == 3) then
 F.ref01.Has_j3 k n s.w3
 else
 F.ref01.Has_j3 k n s.w0
def F.ref07.Table_Sym (k : Nat) (t : Ref07_Table) (s : KSym) (i : Int) (j_ : Int) : Option Bool :=
 if decide (0 ≤ s.Nt) then
 (F.ref07.Table_Has t s.Nt i j_).bind fun v_ =>
 some v_
 else
 if (j_ == (IntKind.wrap .i64 (i + 1))) then
 if inR i t.W.length then
 (F.ref01.Has k s.Set (IntKind.wrap .i64 (at_ t.W i))).bind fun v_1 =>
 some v_1
 else none
 else
 some false
def F.ref07.Table_Ends_l1 (t : Ref07_Table) (i : Int) : Nat → List Bool → Int → Option (List Bool)
 | 0, _, _ => none
 | j + 1, now, j_ =>
  if decide (j_ ≤ t.N_) then
  if decide ((now.length + ([(j_ == i)] : List Bool).length) * 1 ≤ 140737488355328) then
  if decide (now.length + ([(j_ == i)] : List Bool).length ≤ 9223372036854775807) then
  (F.ref07.Table_Ends_l1 t i j) (now ++ ([(j_ == i)] : List Bool)) (IntKind.wrap .i64 (j_ + 1))
  else none
  else none
  else
  some now
def F.ref07.Table_Ends_j6 (rec_4 : Bool → Int → Option (Bool × Int)) (m : Int) (is1 : Bool) : Option (Bool × Int) :=
 rec_4 is1 (IntKind.wrap .i64 (m + 1))
def F.ref07.Table_Ends_j7 (rec_4 : Bool → Int → Option (Bool × Int)) (m : Int) (is2 : Bool) : Option (Bool × Int) :=
 F.ref07.Table_Ends_j6 rec_4 m is2
def F.ref07.Table_Ends_j5 (k : Nat) (m : Int) (now1 : List Bool) (k_ : Int) (rhs : List KSym) (t : Ref07_Table) (j_1 : Int) (rec_4 : Bool → Int → Option (Bool × Int)) (is : Bool) (t49 : Bool) : Option (Bool × Int) :=
 if t49 then
 if inR m now1.length then
 if at_ now1 m then
 if inR k_ rhs.length then
 (F.ref07.Table_Sym k t (at_ rhs k_) m j_1).bind fun v_ =>
 F.ref07.Table_Ends_j7 rec_4 m v_
 else none
 else
 F.ref07.Table_Ends_j7 rec_4 m false
 else none
 else
 some (is, m)
def F.ref07.Table_Ends_l4 (k : Nat) (j_1 : Int) (now1 : List Bool) (k_ : Int) (rhs : List KSym) (t : Ref07_Table) : Nat → Bool → Int → Option (Bool × Int)
 | 0, _, _ => none
 | j + 1, is, m =>
  if decide (m ≤ j_1) then
  F.ref07.Table_Ends_j5 k m now1 k_ rhs t j_1 (F.ref07.Table_Ends_l4 k j_1 now1 k_ rhs t j) is (!is)
  else
  F.ref07.Table_Ends_j5 k m now1 k_ rhs t j_1 (F.ref07.Table_Ends_l4 k j_1 now1 k_ rhs t j) is false
def F.ref07.Table_Ends_l3 (k : Nat) (t : Ref07_Table) (now1 : List Bool) (k_ : Int) (rhs : List KSym) (i : Int) : Nat → List Bool → Int → Option ((List Bool) × Int)
 | 0, _, _ => none
 | j + 1, next_, j_1 =>
  if decide (j_1 ≤ t.N_) then
  (F.ref07.Table_Ends_l4 k j_1 now1 k_ rhs t k false i).bind fun o4 =>
  if decide ((next_.length + ([o4.1] : List Bool).length) * 1 ≤ 140737488355328) then
  if decide (next_.length + ([o4.1] : List Bool).length ≤ 9223372036854775807) then
  (F.ref07.Table_Ends_l3 k t now1 k_ rhs i j) (next_ ++ ([o4.1] : List Bool)) (IntKind.wrap .i64 (j_1 + 1))
  else none
  else none
  else
  some (next_, j_1)
def F.ref07.Table_Ends_l2 (k : Nat) (rhs : List KSym) (t : Ref07_Table) (i : Int) : Nat → List Bool → Int → Option (List Bool)
 | 0, _, _ => none
 | j + 1, now1, k_ =>
  if decide (k_ < (rhs.length : Int)) then
  (F.ref07.Table_Ends_l3 k t now1 k_ rhs i k ([] : List Bool) 0).bind fun o3 =>
  (F.ref07.Table_Ends_l2 k rhs t i j) o3.1 (IntKind.wrap .i64 (k_ + 1))
  else
  some now1
def F.ref07.Table_Ends (k : Nat) (t : Ref07_Table) (rhs : List KSym) (i : Int) : Option (List Bool) :=
 (F.ref07.Table_Ends_l1 t i k ([] : List Bool) 0).bind fun o1 =>
 (F.ref07.Table_Ends_l2 k rhs t i k o1 0).bind fun o2 =>
 some o2
def F.ref07.Fill_l1 (g_ : Gram) (w__ : List Int) : Nat → Int → List Bool → Option (List Bool)
 | 0, _, _ => none
 | j + 1, i, Yes_ =>
  if decide (i < (IntKind.wrap .i64 ((IntKind.wrap .i64 (g_.Nts * (IntKind.wrap .i64 ((w__.length : Int) + 1)))) * (IntKind.wrap .i64 ((w__.length : Int) + 1))))) then
  if decide ((Yes_.length + ([false] : List Bool).length) * 1 ≤ 140737488355328) then
  if decide (Yes_.length + ([false] : List Bool).length ≤ 9223372036854775807) then
  (F.ref07.Fill_l1 g_ w__ j) (IntKind.wrap .i64 (i + 1)) (Yes_ ++ ([false] : List Bool))
  else none
  else none
  else
  some Yes_
def F.ref07.Fill_j6 (rec_5 : Bool → Int → List Bool → Option (Bool × Int × (List Bool))) (j_ : Int) (more4 : Bool) (at__ : Int) (Yes_5 : List Bool) : Option (Bool × Int × (List Bool)) :=
 rec_5 more4 (IntKind.wrap .i64 (j_ + 1)) Yes_5
def F.ref07.Fill_j8 (rec_5 : Bool → Int → List Bool → Option (Bool × Int × (List Bool))) (j_ : Int) (v_1 : Int) (more5 : Bool) (Yes_6 : List Bool) : Option (Bool × Int × (List Bool)) :=
 F.ref07.Fill_j6 rec_5 j_ more5 v_1 Yes_6
def F.ref07.Fill_j7 (v_1 : Int) (Yes_4 : List Bool) (rec_5 : Bool → Int → List Bool → Option (Bool × Int × (List Bool))) (j_ : Int) (more3 : Bool) (t103 : Bool) : Option (Bool × Int × (List Bool)) :=
 if t103 then
 if inR v_1 Yes_4.length then
 F.ref07.Fill_j8 rec_5 j_ v_1 true (set_ Yes_4 v_1 true)
 else none
 else
 F.ref07.Fill_j8 rec_5 j_ v_1 more3 Yes_4
def F.ref07.Fill_l5 (w__ : List Int) (g_ : Gram) (r_ : Int) (i1 : Int) (v_ : List Bool) : Nat → Bool → Int → List Bool → Option (Bool × Int × (List Bool))
 | 0, _, _, _ => none
 | j + 1, more3, j_, Yes_4 =>
  if decide (j_ ≤ (w__.length : Int)) then
  (F.ref07.Table_at (Ref07_Table.mk g_ w__ (w__.length : Int) Yes_4) ((at_ g_.Rules r_).Lhs) i1 j_).bind fun v_1 =>
  if inR j_ v_.length then
  if at_ v_ j_ then
  if inR v_1 Yes_4.length then
  F.ref07.Fill_j7 v_1 Yes_4 (F.ref07.Fill_l5 w__ g_ r_ i1 v_ j) j_ more3 (!(at_ Yes_4 v_1))
  else none
  else
  F.ref07.Fill_j7 v_1 Yes_4 (F.ref07.Fill_l5 w__ g_ r_ i1 v_ j) j_ more3 false
  else none
  else
  some (more3, j_, Yes_4)
def F.ref07.Fill_l4 (k : Nat) (w__ : List Int) (r_ : Int) (g_ : Gram) : Nat → Bool → Int → List Bool → Option (Bool × Int × (List Bool))
 | 0, _, _, _ => none
 | j + 1, more2, i1, Yes_3 =>
  if decide (i1 ≤ (w__.length : Int)) then
  if inR r_ g_.Rules.length then
  (F.ref07.Table_Ends k (Ref07_Table.mk g_ w__ (w__.length : Int) Yes_3) ((at_ g_.Rules r_).Rhs) i1).bind fun v_ =>
  (F.ref07.Fill_l5 w__ g_ r_ i1 v_ k more2 i1 Yes_3).bind fun o5 =>
  (F.ref07.Fill_l4 k w__ r_ g_ j) o5.1 (IntKind.wrap .i64 (i1 + 1)) o5.2.2
  else none
  else
  some (more2, i1, Yes_3)
def F.ref07.Fill_l3 (k : Nat) (g_ : Gram) (w__ : List Int) : Nat → Bool → Int → List Bool → Option (Bool × Int × (List Bool))
 | 0, _, _, _ => none
 | j + 1, more1, r_, Yes_2 =>
  if decide (r_ < (g_.Rules.length : Int)) then
  (F.ref07.Fill_l4 k w__ r_ g_ k more1 0 Yes_2).bind fun o4 =>
  (F.ref07.Fill_l3 k g_ w__ j) o4.1 (IntKind.wrap .i64 (r_ + 1)) o4.2.2
  else
  some (more1, r_, Yes_2)
def F.ref07.Fill_l2 (k : Nat) (g_ : Gram) (w__ : List Int) : Nat → Bool → List Bool → Option (List Bool)
 | 0, _, _ => none
 | j + 1, more, Yes_1 =>
  if more then
  (F.ref07.Fill_l3 k g_ w__ k false 0 Yes_1).bind fun o3 =>
  (F.ref07.Fill_l2 k g_ w__ j) o3.1 o3.2.2
  else
  some Yes_1
def F.ref07.Fill (k : Nat) (g_ : Gram) (w__ : List Int) : Option Ref07_Table :=
 (F.ref07.Fill_l1 g_ w__ k 0 ([] : List Bool)).bind fun o1 =>
 (F.ref07.Fill_l2 k g_ w__ k true o1).bind fun o2 =>
 some (Ref07_Table.mk g_ w__ (w__.length : Int) o2)
def F.ref08.Packer_number_j2 (rec_1 : Int → Option (LR Unit (Int × Ref08_Packer))) (i : Int) : Option (LR Unit (Int × Ref08_Packer)) :=
 rec_1 (IntKind.wrap .i64 (i + 1))
def F.ref08.Packer_number_j3 (i : Int) (p : Ref08_Packer) (rec_1 : Int → Option (LR Unit (Int × Ref08_Packer))) (t57 : Bool) : Option (LR Unit (Int × Ref08_Packer)) :=
 if t57 then
 some (.ret (i, p))
 else
 F.ref08.Packer_number_j2 rec_1 i
def F.ref08.Packer_number_l1 (p : Ref08_Packer) (x_ : FNode) : Nat → Int → Option (LR Unit (Int × Ref08_Packer))
 | 0, _ => none
 | j + 1, i =>
  if decide (i < (p.F.Nodes.length : Int)) then
  if inR i p.F.Nodes.length then
  if (((at_ p.F.Nodes i).Nt) == x_.Nt) then
  if (((at_ p.F.Nodes i).Rule) == x_.Rule) then
  if (((at_ p.F.Nodes i).Dot) == x_.Dot) then
  if (((at_ p.F.Nodes i).From) == x_.From) then
  F.ref08.Packer_number_j3 i p (F.ref08.Packer_number_l1 p x_ j) (((at_ p.F.Nodes i).To) == x_.To)
  else
  F.ref08.Packer_number_j3 i p (F.ref08.Packer_number_l1 p x_ j) false
  else
  F.ref08.Packer_number_j3 i p (F.ref08.Packer_number_l1 p x_ j) false
  else
  F.ref08.Packer_number_j3 i p (F.ref08.Packer_number_l1 p x_ j) false
  else
  F.ref08.Packer_number_j3 i p (F.ref08.Packer_number_l1 p x_ j) false
  else none
  else
  some (.done ())
def F.ref08.Packer_number_j4 (p : Ref08_Packer) (x_ : FNode) : Option (Int × Ref08_Packer) :=
 some (IntKind.wrap .i64 (((p.F.Nodes ++ ([x_] : List FNode)).length : Int) - 1), (Ref08_Packer.mk p.T (Forest.mk p.F.Root (p.F.Nodes ++ ([x_] : List FNode)))))
def F.ref08.Packer_number (k : Nat) (p : Ref08_Packer) (x_ : FNode) : Option (Int × Ref08_Packer) :=
 (F.ref08.Packer_number_l1 p x_ k 0).bind fun o1 =>
 o1.fin fun d1 =>
 if decide ((p.F.Nodes.length + ([x_] : List FNode).length) * 88 ≤ 140737488355328) then
 if decide (p.F.Nodes.length + ([x_] : List FNode).length ≤ 9223372036854775807) then
 F.ref08.Packer_number_j4 p x_
 else none
 else none
def F.ref08.Packer_piece (k : Nat) (p : Ref08_Packer) (r_ : Int) (d_ : Int) (i : Int) (j_ : Int) : Option (Int × Ref08_Packer) :=
 if (d_ == 0) then
 some ((-1), p)
 else
 (F.ref08.Packer_number k p (FNode.mk (-1) r_ d_ i j_ ([] : List Int) ([] : List Alt))).bind fun v_ =>
 some (v_.1, (Ref08_Packer.mk p.T (Forest.mk p.F.Root v_.2.F.Nodes)))
def F.ref08.Packer_ways_j2 (rec_1 : List Alt → Int → List FNode → Option ((List Alt) × (List FNode))) (r_ : Int) (out1 : List Alt) (ends : List Bool) (Nodes_1 : List FNode) : Option ((List Alt) × (List FNode)) :=
 rec_1 out1 (IntKind.wrap .i64 (r_ + 1)) Nodes_1
def F.ref08.Packer_ways_j4 (rec_1 : List Alt → Int → List FNode → Option ((List Alt) × (List FNode))) (r_ : Int) (v_ : List Bool) (out2 : List Alt) (Nodes_2 : List FNode) : Option ((List Alt) × (List FNode)) :=
 F.ref08.Packer_ways_j2 rec_1 r_ out2 v_ Nodes_2
def F.ref08.Packer_ways_j3 (k : Nat) (p : Ref08_Packer) (Nodes_ : List FNode) (r_ : Int) (x_ : FNode) (out : List Alt) (rec_1 : List Alt → Int → List FNode → Option ((List Alt) × (List FNode))) (v_ : List Bool) (t59 : Bool) : Option ((List Alt) × (List FNode)) :=
 if t59 then
 (F.ref08.Packer_piece k (Ref08_Packer.mk p.T (Forest.mk p.F.Root Nodes_)) r_ (((at_ p.T.G.Rules r_).Rhs).length : Int) x_.From x_.To).bind fun v_1 =>
 if decide ((out.length + ([(Alt.mk r_ 0 v_1.1 (-1))] : List Alt).length) * 32 ≤ 140737488355328) then
 if decide (out.length + ([(Alt.mk r_ 0 v_1.1 (-1))] : List Alt).length ≤ 9223372036854775807) then
 F.ref08.Packer_ways_j4 rec_1 r_ v_ (out ++ ([(Alt.mk r_ 0 v_1.1 (-1))] : List Alt)) v_1.2.F.Nodes
 else none
 else none
 else
 F.ref08.Packer_ways_j4 rec_1 r_ v_ out Nodes_
def F.ref08.Packer_ways_l1 (k : Nat) (p : Ref08_Packer) (x_ : FNode) : Nat → List Alt → Int → List FNode → Option ((List Alt) × (List FNode))
 | 0, _, _, _ => none
 | j + 1, out, r_, Nodes_ =>
  if decide (r_ < (p.T.G.Rules.length : Int)) then
  if inR r_ p.T.G.Rules.length then
  (F.ref07.Table_Ends k p.T ((at_ p.T.G.Rules r_).Rhs) x_.From).bind fun v_ =>
  if (((at_ p.T.G.Rules r_).Lhs) == x_.Nt) then
  if inR x_.To v_.length then
  F.ref08.Packer_ways_j3 k p Nodes_ r_ x_ out (F.ref08.Packer_ways_l1 k p x_ j) v_ (at_ v_ x_.To)
  else none
  else
  F.ref08.Packer_ways_j3 k p Nodes_ r_ x_ out (F.ref08.Packer_ways_l1 k p x_ j) v_ false
  else none
  else
  some (out, Nodes_)
def F.ref08.Packer_ways_j6 (rec_2 : List Alt → Int → List FNode → Option ((List Alt) × (List FNode))) (m : Int) (out4 : List Alt) (Nodes_4 : List FNode) : Option ((List Alt) × (List FNode)) :=
 rec_2 out4 (IntKind.wrap .i64 (m + 1)) Nodes_4
def F.ref08.Packer_ways_j8 (out3 : List Alt) (x_ : FNode) (m : Int) (v_3 : Int × Ref08_Packer) (rec_2 : List Alt → Int → List FNode → Option ((List Alt) × (List FNode))) (Nodes_5 : List FNode) (Right_ : Int) : Option ((List Alt) × (List FNode)) :=
 if decide ((out3.length + ([(Alt.mk x_.Rule m v_3.1 Right_)] : List Alt).length) * 32 ≤ 140737488355328) then
 if decide (out3.length + ([(Alt.mk x_.Rule m v_3.1 Right_)] : List Alt).length ≤ 9223372036854775807) then
 F.ref08.Packer_ways_j6 rec_2 m (out3 ++ ([(Alt.mk x_.Rule m v_3.1 Right_)] : List Alt)) Nodes_5
 else none
 else none
def F.ref08.Packer_ways_j7 (k : Nat) (rec_2 : List Alt → Int → List FNode → Option ((List Alt) × (List FNode))) (m : Int) (out3 : List Alt) (Nodes_3 : List FNode) (p : Ref08_Packer) (x_ : FNode) (t135 : Bool) : Option ((List Alt) × (List FNode)) :=
 if t135 then
 F.ref08.Packer_ways_j6 rec_2 m out3 Nodes_3
 else
 (F.ref08.Packer_piece k (Ref08_Packer.mk p.T (Forest.mk p.F.Root Nodes_3)) x_.Rule (IntKind.wrap .i64 (x_.Dot - 1)) x_.From m).bind fun v_3 =>
 if decide (0 ≤ ((at_ ((at_ p.T.G.Rules x_.Rule).Rhs) (IntKind.wrap .i64 (x_.Dot - 1))).Nt)) then
 (F.ref08.Packer_number k (Ref08_Packer.mk p.T (Forest.mk p.F.Root v_3.2.F.Nodes)) (FNode.mk ((at_ ((at_ p.T.G.Rules x_.Rule).Rhs) (IntKind.wrap .i64 (x_.Dot - 1))).Nt) (-1) (-1) m x_.To ([] : List Int) ([] : List Alt))).bind fun v_4 =>
 F.ref08.Packer_ways_j8 out3 x_ m v_3 rec_2 v_4.2.F.Nodes v_4.1
 else
 F.ref08.Packer_ways_j8 out3 x_ m v_3 rec_2 v_3.2.F.Nodes (-1)
def F.ref08.Packer_ways_l5 (k : Nat) (x_ : FNode) (v_2 : List Bool) (p : Ref08_Packer) : Nat → List Alt → Int → List FNode → Option ((List Alt) × (List FNode))
 | 0, _, _, _ => none
 | j + 1, out3, m, Nodes_3 =>
  if decide (m ≤ x_.To) then
  if inR m v_2.length then
  if !(at_ v_2 m) then
  F.ref08.Packer_ways_j7 k (F.ref08.Packer_ways_l5 k x_ v_2 p j) m out3 Nodes_3 p x_ true
  else
  (F.ref07.Table_Sym k p.T (at_ ((at_ p.T.G.Rules x_.Rule).Rhs) (IntKind.wrap .i64 (x_.Dot - 1))) m x_.To).bind fun v_5 =>
  F.ref08.Packer_ways_j7 k (F.ref08.Packer_ways_l5 k x_ v_2 p j) m out3 Nodes_3 p x_ (!v_5)
  else none
  else
  some (out3, Nodes_3)
def F.ref08.Packer_ways (k : Nat) (p : Ref08_Packer) (x_ : FNode) : Option (List Alt × Ref08_Packer) :=
 if decide (x_.Dot < 0) then
 (F.ref08.Packer_ways_l1 k p x_ k ([] : List Alt) 0 p.F.Nodes).bind fun o1 =>
 some (o1.1, (Ref08_Packer.mk p.T (Forest.mk p.F.Root o1.2)))
 else
 if inR x_.Rule p.T.G.Rules.length then
 if inR (IntKind.wrap .i64 (x_.Dot - 1)) ((at_ p.T.G.Rules x_.Rule).Rhs).length then
 if okSub 0 (IntKind.wrap .i64 (x_.Dot - 1)) ((at_ p.T.G.Rules x_.Rule).Rhs).length then
 (F.ref07.Table_Ends k p.T (sub ((at_ p.T.G.Rules x_.Rule).Rhs) 0 (IntKind.wrap .i64 (x_.Dot - 1))) x_.From).bind fun v_2 =>
 (F.ref08.Packer_ways_l5 k x_ v_2 p k ([] : List Alt) x_.From p.F.Nodes).bind fun o5 =>
 some (o5.1, (Ref08_Packer.mk p.T (Forest.mk p.F.Root o5.2)))
 else none
 else none
 else none
def F.ref08.Build_l1 (k : Nat) (v_1 : Ref07_Table) : Nat → Int → List FNode → Option (List FNode)
 | 0, _, _ => none
 | j + 1, i, Nodes_ =>
  if decide (i < (Nodes_.length : Int)) then
  if inR i Nodes_.length then
  (F.ref08.Packer_ways k (Ref08_Packer.mk v_1 (Forest.mk 0 Nodes_)) (at_ Nodes_ i)).bind fun v_4 =>
  if inR i v_4.2.F.Nodes.length then
  (F.ref08.Build_l1 k v_1 j) (IntKind.wrap .i64 (i + 1)) (set_ v_4.2.F.Nodes i (FNode.mk ((at_ v_4.2.F.Nodes i).Nt) ((at_ v_4.2.F.Nodes i).Rule) ((at_ v_4.2.F.Nodes i).Dot) ((at_ v_4.2.F.Nodes i).From) ((at_ v_4.2.F.Nodes i).To) ((at_ v_4.2.F.Nodes i).Ban) v_4.1))
  else none
  else none
  else
  some Nodes_
def F.ref08.Build (k : Nat) (g_ : Gram) (w__ : List Int) : Option (Forest × Int) :=
 (F.ref08.Fit k g_ w__).bind fun v_ =>
 if (v_ != 0) then
 some ((Forest.mk 0 ([] : List FNode)), v_)
 else
 (F.ref07.Fill k g_ w__).bind fun v_1 =>
 (F.ref07.Table_Has v_1 g_.Start 0 v_1.N_).bind fun v_2 =>
 if !v_2 then
 some ((Forest.mk (-1) ([] : List FNode)), v_)
 else
 (F.ref08.Packer_number k (Ref08_Packer.mk v_1 (Forest.mk 0 ([] : List FNode))) (FNode.mk g_.Start (-1) (-1) 0 v_1.N_ ([] : List Int) ([] : List Alt))).bind fun v_3 =>
 (F.ref08.Build_l1 k v_1 k 0 v_3.2.F.Nodes).bind fun o1 =>
 some ((Forest.mk 0 o1), v_)
def F.ref08.SameForest_j2 (rec_1 : Int → Option (LR Unit Bool)) (i : Int) (k_ : Int) : Option (LR Unit Bool) :=
 rec_1 (IntKind.wrap .i64 (i + 1))
def F.ref08.SameForest_l5 (a_ : Forest) (i : Int) (b : Forest) : Nat → Int → Option (LR Int Bool)
 | 0, _ => none
 | j + 1, k_1 =>
  if decide (k_1 < (((at_ a_.Nodes i).Alts).length : Int)) then
  if inR k_1 ((at_ a_.Nodes i).Alts).length then
  if inR k_1 ((at_ b.Nodes i).Alts).length then
  if !((((at_ ((at_ a_.Nodes i).Alts) k_1).Rule) == ((at_ ((at_ b.Nodes i).Alts) k_1).Rule)) && ((((at_ ((at_ a_.Nodes i).Alts) k_1).Mid) == ((at_ ((at_ b.Nodes i).Alts) k_1).Mid)) && ((((at_ ((at_ a_.Nodes i).Alts) k_1).Left) == ((at_ ((at_ b.Nodes i).Alts) k_1).Left)) && ((((at_ ((at_ a_.Nodes i).Alts) k_1).Right) == ((at_ ((at_ b.Nodes i).Alts) k_1).Right)) && true)))) then
  some (.ret false)
  else
  (F.ref08.SameForest_l5 a_ i b j) (IntKind.wrap .i64 (k_1 + 1))
  else none
  else none
  else
  some (.done k_1)
def F.ref08.SameForest_j4 (k : Nat) (a_ : Forest) (i : Int) (b : Forest) (rec_1 : Int → Option (LR Unit Bool)) (t90 : Bool) : Option (LR Unit Bool) :=
 if t90 then
 some (.ret false)
 else
 (F.ref08.SameForest_l5 a_ i b k 0).bind fun o5 =>
 o5.go fun d5 =>
 F.ref08.SameForest_j2 rec_1 i d5
def F.ref08.SameForest_j3 (k : Nat) (a_ : Forest) (i : Int) (b : Forest) (rec_1 : Int → Option (LR Unit Bool)) : Option (LR Unit Bool) :=
 if (((at_ a_.Nodes i).Nt) != ((at_ b.Nodes i).Nt)) then
 F.ref08.SameForest_j4 k a_ i b rec_1 true
 else
 if (((at_ a_.Nodes i).Rule) != ((at_ b.Nodes i).Rule)) then
 F.ref08.SameForest_j4 k a_ i b rec_1 true
 else
 if (((at_ a_.Nodes i).Dot) != ((at_ b.Nodes i).Dot)) then
 F.ref08.SameForest_j4 k a_ i b rec_1 true
 else
 if (((at_ a_.Nodes i).From) != ((at_ b.Nodes i).From)) then
 F.ref08.SameForest_j4 k a_ i b rec_1 true
 else
 if (((at_ a_.Nodes i).To) != ((at_ b.Nodes i).To)) then
 F.ref08.SameForest_j4 k a_ i b rec_1 true
 else
 if ((((at_ a_.Nodes i).Alts).length : Int) != (((at_ b.Nodes i).Alts).length : Int)) then
 F.ref08.SameForest_j4 k a_ i b rec_1 true
 else
 F.ref08.SameForest_j4 k a_ i b rec_1 ((((at_ a_.Nodes i).Ban).length : Int) != (((at_ b.Nodes i).Ban).length : Int))
def F.ref08.SameForest_l1 (k : Nat) (a_ : Forest) (b : Forest) : Nat → Int → Option (LR Unit Bool)
 | 0, _ => none
 | j + 1, i =>
  if decide (i < (a_.Nodes.length : Int)) then
  if inR i a_.Nodes.length then
  if inR i b.Nodes.length then
  F.ref08.SameForest_j3 k a_ i b (F.ref08.SameForest_l1 k a_ b j)
  else none
  else none
  else
  some (.done ())
def F.ref08.SameForest (k : Nat) (a_ : Forest) (b : Forest) : Option Bool :=
 if (a_.Root != b.Root) then
 some false
 else
 if ((a_.Nodes.length : Int) != (b.Nodes.length : Int)) then
 some false
 else
 (F.ref08.SameForest_l1 k a_ b k 0).bind fun o1 =>
 o1.fin fun d1 =>
 some true
def F.forest.Size_l1 (f_ : Forest) : Nat → Int → Int → Option Int
 | 0, _, _ => none
 | j + 1, n, t10 =>
  if decide (t10 < (f_.Nodes.length : Int)) then
  if inR t10 f_.Nodes.length then
  (F.forest.Size_l1 f_ j) (IntKind.wrap .i64 (n + (((at_ f_.Nodes t10).Alts).length : Int))) (IntKind.wrap .i64 (t10 + 1))
  else none
  else
  some n
def F.forest.Size (k : Nat) (f_ : Forest) : Option (Int × Int) :=
 (F.forest.Size_l1 f_ k 0 0).bind fun o1 =>
 some ((f_.Nodes.length : Int), o1)
def F.law08.ForestBuilds_l1 (v_3 : Forest × Int) : Nat → Int → Int → Option Int
 | 0, _, _ => none
 | j + 1, ways, i =>
  if decide (i < (v_3.1.Nodes.length : Int)) then
  if inR i v_3.1.Nodes.length then
  (F.law08.ForestBuilds_l1 v_3 j) (IntKind.wrap .i64 (ways + (((at_ v_3.1.Nodes i).Alts).length : Int))) (IntKind.wrap .i64 (i + 1))
  else none
  else
  some ways
def F.law08.ForestBuilds (k : Nat) (g_ : Gram) (w__ : List Int) : Option Bool :=
 (F.ref08.Heavy k g_ w__).bind fun v_ =>
 if v_ then
 (F.law08.alive k).bind fun v_1 =>
 some v_1
 else
 (F.forest.Build k g_ w__).bind fun v_2 =>
 (F.ref08.Build k g_ w__).bind fun v_3 =>
 if (v_2.2 != v_3.2) then
 some false
 else
 (F.ref08.SameForest k v_2.1 v_3.1).bind fun v_4 =>
 if !v_4 then
 some false
 else
 (F.forest.Size k v_2.1).bind fun v_5 =>
 (F.law08.ForestBuilds_l1 v_3 k 0 0).bind fun o1 =>
 (F.law08.alive k).bind fun v_6 =>
 if v_6 then
 if (v_5.1 == (v_3.1.Nodes.length : Int)) then
 some (v_5.2 == o1)
 else
 some false
 else
 some false
end Go.Vc
