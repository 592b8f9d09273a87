import Derived.Test.YtdbnoblklhgdoaaGreatDoorVT
import Derived.Test.YtdbnoblklhgdoaaGreatDoorFF
set_option linter.unusedVariables false
set_option linter.unusedSimpArgs false
namespace Go.Vc
open Go
@[reducible] def pt (b : Nat) : Value := .pointer (some ⟨b, 0, none⟩)
@[reducible] def iI (n : Int) : Value := .int .i64 n
@[reducible] def iU (n : Int) : Value := .int .u64 n
@[reducible] def iB (n : Int) : Value := .int .u8 n
@[reducible] def bV (b : Bool) : Value := .bool b
@[reducible] def sV (s : List UInt8) : Value := .string (bs s)
@[reducible] def sl (a : Option Addr) (n c : Nat) : Value := .slice a n c
@[reducible] def fS {α : Type} (a : Option Addr) (n c sz : Nat) (enc : α -> List Dc) (xs : List α) : Value × Dc := (.slice a n c, .slice sz (xs.map enc))
@[reducible] def rW {α : Type} (a : Option Addr) (n c : Nat) (T : TypeId) (sz : Nat) (enc : α -> List Dc) (xs : List α) : HB := .row (.slice a n c) T sz (xs.map enc)
@[reducible] def oR (v : Value) : vT := fun o H Φ => o = .ret v /\ H = [] /\ Φ = []
abbrev OA := Option Addr
abbrev nS : Value := .slice none 0 0
section
variable {E : wx} {ops : Array Oper} {os : List Oper} {l : List (Nat × Value)} {H H0 : List HB} {Φ Φ0 : List (Value × Dc)} {N : SP} {Q : QS} {fuel : Nat} {listed : Array Bool}
variable {op : Op} {ty : TypeId} {pos : String} {aft : Array Edge} {d : Nat}
theorem vM {x : Operand} {v : Value} (hx : xd l x = some v := by exact rfl) : wQ E l H Φ (.move x) ty v := wc hx
theorem vA {x : Operand} {v : Value} (hx : xd l x = some v := by exact rfl) : wQ E l H Φ (.assign x) ty v := wZ hx
theorem vB {op : BinOp} {T T' : TypeId} {x y : Operand} {k : IntKind} {a b : Int} {v : Value} (hx : xd l x = some (.int k a) := by exact rfl) (hy : xd l y = some (.int k b) := by exact rfl) (hv : intOp op k a b = some v := by exact rfl) : wQ E l H Φ (.binOp op T x y T') ty v := v_bin hx hy hv
theorem vL (j : Nat) {t : TypeId} {x : Operand} {b o : Nat} {T : TypeId} {cs : List Value} {ag : Bool} {n : Nat} {v : Value} (ht : ka E.P t = some (ag, n)) (hx : xd l x = some (.pointer (some ⟨b, o, none⟩)) := by exact rfl)
  (hj : H[j]? = some (.box b T cs) := by exact rfl) (hv : uq ag ((cs.drop o).take n) = v := by exact rfl) (hlen : Nat.ble (o + n) cs.length = true := by rfl) (h1 : (ag || Nat.beq n 1) = true := by rfl) : wQ E l H Φ (.load t x) ty v := vd j ht hx hj hlen h1 hv
theorem vF (o : Nat) {T : TypeId} {x : Operand} {i b o0 : Nat} (hx : xd l x = some (.pointer (some ⟨b, o0, none⟩)) := by exact rfl) (hr : ∀ w, (Instr.fieldAt T (.pointer (some ⟨b, o0, none⟩)) i).run E.P w = .ok (.pointer (some ⟨b, o, none⟩)) w := by intro _; kernel_rfl) :
  wQ E l H Φ (.fieldAddr T x i) ty (.pointer (some ⟨b, o, none⟩)) := fa o hx hr
theorem yt {c x y : Operand} {v : Value} (hc : xd l c = some (.bool true) := by exact rfl) (hx : xd l x = some v := by exact rfl) : wQ E l H Φ (.pick c x y) ty v := v_pick_t hc hx
theorem yj {c x y : Operand} {v : Value} (hc : xd l c = some (.bool false) := by exact rfl) (hx : xd l y = some v := by exact rfl) : wQ E l H Φ (.pick c x y) ty v := v_pick_f hc hx
theorem vC {x : Operand} {a0 : Addr} (hx : xd l x = some (.pointer (some a0)) := by exact rfl) : wQ E l H Φ (.nilCheck x) ty (.pointer (some a0)) := vc hx
theorem vN {T : TypeId} {x : Operand} {b : Bool} (hx : xd l x = some (.bool b) := by exact rfl) : wQ E l H Φ (.unOp .not T x) ty (.bool (!b)) := v_not hx
theorem vX {x : Operand} {vs : Array Value} {i : Nat} {v : Value} (hx : xd l x = some (.tuple vs) := by exact rfl) (hi : vs[i]? = some v := by exact rfl) : wQ E l H Φ (.extract x i) ty v := v_extract hx hi
theorem vS {T T' : TypeId} {x y : Operand} {s t : List UInt8} (hc : decide (s.length + t.length <= 9223372036854775807) = true) (hx : xd l x = some (.string (bs s)) := by exact rfl) (hy : xd l y = some (.string (bs t)) := by exact rfl) : wQ E l H Φ (.binOp .add T x y T') ty (.string (bs (s ++ t))) := v_strcat hx hy hc
theorem vU {t : TypeId} {ps : Array (Nat × Operand)} {vs : List (Nat × Value)} (v : Value) (hp : opvs l ps.toList = some vs := by exact rfl) (hr : ∀ w, (Instr.build t vs.toArray).run E.P w = .ok v w := by intro _; kernel_rfl) : wQ E l H Φ (.build t ps) ty v := we hp hr
theorem oV {v : Value} (hv : wQ E l H Φ op ty v) (h : WO E ops os ((d, v) :: l) H Φ N Q) (hd : Nat.blt d E.n = true := by rfl) : WO E ops (⟨some d, op, ty, pos, aft, none⟩ :: os) l H Φ N Q := vf hv hd h
theorem fD (o : Nat) {T : TypeId} {x : Operand} {i b o0 : Nat} (hx : xd l x = some (.pointer (some ⟨b, o0, none⟩)) := by exact rfl) (hr : ∀ w, (Instr.fieldAt T (.pointer (some ⟨b, o0, none⟩)) i).run E.P w = .ok (.pointer (some ⟨b, o, none⟩)) w := by intro _; kernel_rfl) (hd : Nat.blt d E.n = true := by rfl) (h : WO E ops os ((d, .pointer (some ⟨b, o, none⟩)) :: l) H Φ N Q) :
  WO E ops (⟨some d, .fieldAddr T x i, ty, pos, aft, none⟩ :: os) l H Φ N Q := vf (fa o hx hr) hd h
theorem oF {j : Nat} {want b : Bool} {dj : Nat} (h : WO E ops os ((d, undef) :: l) H Φ N Q) (hj : (ops[j]?).bind (·.dst) = some dj := by exact rfl) (hl : xl dj l = some (.bool b) := by exact rfl) (hb : b ≠ want := by decide) (hd : Nat.blt d E.n = true := by rfl) :
  WO E ops (⟨some d, op, ty, pos, aft, some (j, want)⟩ :: os) l H Φ N Q := o_off hj hl hb hd h
theorem oN {dst : Option Nat} {j : Nat} {want : Bool} {dj : Nat} (h : WO E ops (⟨dst, op, ty, pos, aft, none⟩ :: os) l H Φ N Q) (hj : (ops[j]?).bind (·.dst) = some dj := by exact rfl) (hl : xl dj l = some (.bool want) := by exact rfl) :
  WO E ops (⟨dst, op, ty, pos, aft, some (j, want)⟩ :: os) l H Φ N Q := o_on hj hl h
theorem oU {j : Nat} {want : Bool} {dj : Nat} (h : WO E ops os ((d, undef) :: l) H Φ N Q) (hj : (ops[j]?).bind (·.dst) = some dj := by exact rfl) (hl : xl dj l = some undef := by exact rfl) (hd : Nat.blt d E.n = true := by rfl) :
  WO E ops (⟨some d, op, ty, pos, aft, some (j, want)⟩ :: os) l H Φ N Q := o_offU hj hl hd h
theorem sT (j : Nat) {dst : Option Nat} {t : TypeId} {x y : Operand} {b o : Nat} {T : TypeId} {cs vs : List Value} {ag : Bool} {n : Nat} {v : Value} (ht : ka E.P t = some (ag, n)) (hdst : dst = none := by rfl) (hx : xd l x = some (.pointer (some ⟨b, o, none⟩)) := by exact rfl)
  (hy : xd l y = some v := by exact rfl) (hv : v.cells.toList = vs := by exact rfl) (hj : H[j]? = some (.box b T cs) := by exact rfl) (hlen : Nat.ble (o + n) cs.length = true := by rfl) (hn : Nat.beq vs.length n = true := by rfl) (h1 : vs.all oneC = true := by rfl) (h : WO E ops os l (H.set j (.box b T (uF cs o vs))) Φ N Q) :
  WO E ops (⟨dst, .store t x y, ty, pos, aft, none⟩ :: os) l H Φ N Q := u9 j hdst ht hx hy hv hj hlen hn h1 h
theorem dF (i : Nat) {j dj : Nat} {want b : Bool} (hi : ops[i]? = some ⟨some d, op, ty, pos, aft, some (j, want)⟩) (h : WA E ops H0 Φ0 fuel (listed.setIfInBounds i true) ((d, undef) :: l) H Φ N Q) (hj : (ops[j]?).bind (·.dst) = some dj := by exact rfl) (hl : xl dj l = some (.bool b) := by exact rfl) (hb : b ≠ want := by decide)
  (hq : PnOk Q := by first | exact uG | exact pnokF) (hs : Region.noSelect ops = true := by kernel_rfl) (hf : Region.free .any ops listed i = true := by kernel_rfl)
  (hr : (Region.ready .any ops listed).contains i = true := by kernel_rfl) (hd : Nat.blt d E.n = true := by rfl) : WA E ops H0 Φ0 (fuel + 1) listed l H Φ N Q := d_off i hi hj hl hb hq hs hf hr hd h
theorem dO (i : Nat) {o : Oper} (hi : ops[i]? = some o) (h : WO E ops [o] l H Φ (DN E ops H0 Φ0 fuel (listed.setIfInBounds i true) N Q) Q) (hr : Region.ready .any ops listed = [i] := by kernel_rfl) : WA E ops H0 Φ0 (fuel + 1) listed l H Φ N Q := d_one i hi hr h
theorem dD (h : zT E l H Φ N) (hr : Region.ready .any ops listed = [] := by kernel_rfl) : WA E ops H0 Φ0 fuel listed l H Φ N Q := d_done hr h
theorem dN (js : List Nat) (k : Nat) (h : WA E ops H0 Φ0 fuel listed l H Φ N Q) (hsel : wN js H = H0 := by exact rfl) (hΦ : Φ.drop k = Φ0 := by exact rfl) : WO E ops [] l H Φ (DN E ops H0 Φ0 fuel listed N Q) Q := d_next js k hsel hΦ h
theorem sR {fn : Func} {post : vT} {r : Nat} {v : Value} (hr : fn.results = #[.tmp r] := by exact rfl) (h : xl r l = some v := by exact rfl) (hp : post (.ret v) [] [] := by exact ⟨rfl, rfl, rfl⟩) (hds : E.ds = [] := by rfl) : zT E l H Φ (uY E fn post) :=
 yH hr (zX h) (fun a w hs => zo hs [] hp rfl zn) hds
theorem sP {fn : Func} {post : vT} {v : Value} (hp : post (.pan v) [] [] := by exact ⟨rfl, rfl, rfl⟩) (hds : E.ds = [] := by rfl) : zT E l H Φ (PanS E fn post v) :=
 s_pan (fun a w hs => zo hs [] hp rfl zn) hds
theorem sK (js is : List Nat) {l' : List (Nat × Value)} {H' : List HB} {Φ' : List (Value × Dc)} (h : zT E l' H' Φ' N) (hl : l'.map (fun p => xl p.1 l) = l'.map (fun p => some p.2) := by exact rfl) (hH : wN js H = H' := by exact rfl) (hΦ : is.map (fun i => Φ[i]?) = Φ'.map some := by exact rfl) : zT E l H Φ N :=
 xP (st_le js (lea hl) hH (zy is hΦ)) h
theorem cR {id : Nat} {y : Code} (h : WO E ops ops.toList l H Φ (fun a w => y.wpIn E.F 1 E.P (K N Q) a w) Q) (hnd : (E.rd.isNone || nodef ops) = true := by rfl) : WC E (.seq (.region id ops false) y) l H Φ N Q := zf (zd h hnd)
theorem lq (js is : List Nat) {l' : List (Nat × Value)} {H' : List HB} {Φ' : List (Value × Dc)} (h : ∀ a w, St E l' H' Φ' a w -> N a w) (hl : l'.map (fun p => xl p.1 l) = l'.map (fun p => some p.2) := by exact rfl) (hH : wN js H = H' := by exact rfl) (hΦ : is.map (fun i => Φ[i]?) = Φ'.map some := by exact rfl) : zT E l H Φ N :=
 fun a w hs => h a w (st_le js (lea hl) hH (zy is hΦ) a w hs)
theorem lp (js is : List Nat) {j : Nat} {M : Nat -> SP} {l' : List (Nat × Value)} {H' : List HB} {Φ' : List (Value × Dc)} (h : ∀ a w, St E l' H' Φ' a w -> M j a w) (hl : l'.map (fun p => xl p.1 l) = l'.map (fun p => some p.2) := by exact rfl) (hH : wN js H = H' := by exact rfl) (hΦ : is.map (fun i => Φ[i]?) = Φ'.map some := by exact rfl) : zT E l H Φ (fun a w => ∃ j', j' < j + 1 /\ M j' a w) :=
 fun a w hs => ⟨j, Nat.lt_succ_self j, h a w (st_le js (lea hl) hH (zy is hΦ) a w hs)⟩
theorem cC {α : Type} {c : Operand} {x y : Code} {b : Bool} {u v r : α} (hF : (if b = true then u else v) = r) (h1 : u = r -> WC E x l H Φ N Q) (h2 : v = r -> WC E y l H Φ N Q) (hc : xd l c = some (.bool b) := by exact rfl) : WC E (.cond c x y) l H Φ N Q :=
 xH hc (fun h => h1 (qF h hF)) (fun h => h2 (qG h hF))
theorem oS (t : Nat) {α : Type} {b : Bool} {u v r : α} (hF : (if b = true then u else v) = r) (h1 : u = r -> WO E ops os ((t, .bool true) :: l) H Φ N Q) (h2 : v = r -> WO E ops os ((t, .bool false) :: l) H Φ N Q) (hl : xl t l = some (.bool b) := by exact rfl) : WO E ops os l H Φ N Q :=
 o_split hl (fun h => h1 (qF h hF)) (fun h => h2 (qG h hF))
end
@[reducible] def g7 (x : xg) : List Value := [.int .i64 x.Kind, .string (bs x.Text), .int .u64 x.Set.w0, .int .u64 x.Set.w1, .int .u64 x.Set.w2, .int .u64 x.Set.w3, .string (bs x.Name), .string (bs x.Sep)]
@[reducible] def qg (x : Prod) (a1 : Option Addr) (n1 c1 : Nat) : List Value := [.bool x.Lex, .string (bs x.Sort_), .string (bs x.Cons), .bool x.Bracket, .slice a1 n1 c1]
@[reducible] def vItem (x : Item) (a1 : Option Addr) (n1 c1 : Nat) : List Value := [.int .i64 x.Kind, .string (bs x.Text), .int .i64 x.N_, .slice a1 n1 c1]
@[reducible] def yB (x : zY) (a1 : Option Addr) (n1 c1 : Nat) (a2 : Option Addr) (n2 c2 : Nat) (a3 : Option Addr) (n3 c3 : Nat) (a4 : Option Addr) (n4 c4 : Nat) (a5 : Option Addr) (n5 c5 : Nat) : List Value := [.string (bs x.Start), .string (bs x.Layout), .slice a1 n1 c1, .slice a2 n2 c2, .slice a3 n3 c3, .slice a4 n4 c4, .slice a5 n5 c5]
@[reducible] def yX (x : zg) (a1 : Option Addr) (n1 c1 : Nat) : List Value := [.int .i64 x.Kind, .string (bs x.Text), .slice a1 n1 c1, .int .u64 x.Set.w0, .int .u64 x.Set.w1, .int .u64 x.Set.w2, .int .u64 x.Set.w3, .int .i64 x.N_, .int .i64 x.At, .int .i64 x.Line, .int .i64 x.Col]
@[reducible] def y8 (x : zm) (a1 : Option Addr) (n1 c1 : Nat) : List Value := [.string (bs x.text), .int .i64 x.at_, .int .i64 x.line, .int .i64 x.top, .slice a1 n1 c1]
end Go.Vc
