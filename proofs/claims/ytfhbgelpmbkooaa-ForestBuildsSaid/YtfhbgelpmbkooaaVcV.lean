/-
  The rules once more, with what is checked left to 'rfl' and with short names: for long walks.
-/
import Derived.Test.YtfhbgelpmbkooaaVcU
set_option linter.unusedVariables false
set_option linter.unusedSimpArgs false
namespace Go.Vc
open Go
@[reducible] def pt (b : Nat) : Value := .pointer (some ⟨b, 0, none⟩)
@[reducible] def iI (n : Int) : Value := .int .i64 n
@[reducible] def iU (n : Int) : Value := .int .u64 n
@[reducible] def iB (n : Int) : Value := .int .u8 n
@[reducible] def bV (b : Bool) : Value := .bool b
@[reducible] def sl (a : Option Addr) (n c : Nat) : Value := .slice a n c
@[reducible] def fS {α : Type} (a : Option Addr) (n c sz : Nat) (enc : α → List Dc) (xs : List α) : Value × Dc := (.slice a n c, .slice sz (xs.map enc))
@[reducible] def rW {α : Type} (a : Option Addr) (n c : Nat) (T : TypeId) (sz : Nat) (enc : α → List Dc) (xs : List α) : HB := .row (.slice a n c) T sz (xs.map enc)
@[reducible] def oR (v : Value) : Post := fun o H Φ => o = .ret v ∧ H = [] ∧ Φ = []
abbrev OA := Option Addr
abbrev nS : Value := .slice none 0 0
section
variable {E : Env} {ops : Array Oper} {os : List Oper} {l : List (Nat × Value)} {H H0 : List HB} {Φ Φ0 : List (Value × Dc)} {N : SP} {Q : QS} {fuel : Nat} {listed : Array Bool}
variable {op : Op} {ty : TypeId} {pos : String} {aft : Array Edge} {d : Nat}
theorem vM {x : Operand} {v : Value} (hx : opv l x = some v := by exact rfl) : Val E l H Φ (.move x) ty v := v_move hx
theorem vA {x : Operand} {v : Value} (hx : opv l x = some v := by exact rfl) : Val E l H Φ (.assign x) ty v := v_assign hx
theorem vB {op : BinOp} {T T' : TypeId} {x y : Operand} {k : IntKind} {a b : Int} {v : Value} (hx : opv l x = some (.int k a) := by exact rfl) (hy : opv l y = some (.int k b) := by exact rfl) (hv : intOp op k a b = some v := by exact rfl) : Val E l H Φ (.binOp op T x y T') ty v := v_bin hx hy hv
theorem vL (j : Nat) {t : TypeId} {x : Operand} {b o : Nat} {T : TypeId} {cs : List Value} {ag : Bool} {n : Nat} {v : Value} (ht : tyd E.P t = some (ag, n)) (hx : opv l x = some (.pointer (some ⟨b, o, none⟩)) := by exact rfl)
    (hj : H[j]? = some (.box b T cs) := by exact rfl) (hv : asVal ag ((cs.drop o).take n) = v := by exact rfl) (hlen : Nat.ble (o + n) cs.length = true := by rfl) (h1 : (ag || Nat.beq n 1) = true := by rfl) : Val E l H Φ (.load t x) ty v := v_load_box j ht hx hj hlen h1 hv
theorem vF (o : Nat) {T : TypeId} {x : Operand} {i b o0 : Nat} (hx : opv l x = some (.pointer (some ⟨b, o0, none⟩)) := by exact rfl) (hr : ∀ w, (Instr.fieldAt T (.pointer (some ⟨b, o0, none⟩)) i).run E.P w = .ok (.pointer (some ⟨b, o, none⟩)) w := by intro _; kernel_rfl) :
    Val E l H Φ (.fieldAddr T x i) ty (.pointer (some ⟨b, o, none⟩)) := fa o hx hr
theorem vPt {c x y : Operand} {v : Value} (hc : opv l c = some (.bool true) := by exact rfl) (hx : opv l x = some v := by exact rfl) : Val E l H Φ (.pick c x y) ty v := v_pick_t hc hx
theorem vPf {c x y : Operand} {v : Value} (hc : opv l c = some (.bool false) := by exact rfl) (hx : opv l y = some v := by exact rfl) : Val E l H Φ (.pick c x y) ty v := v_pick_f hc hx
theorem vC {x : Operand} {a0 : Addr} (hx : opv l x = some (.pointer (some a0)) := by exact rfl) : Val E l H Φ (.nilCheck x) ty (.pointer (some a0)) := v_nilCheck hx
theorem vN {T : TypeId} {x : Operand} {b : Bool} (hx : opv l x = some (.bool b) := by exact rfl) : Val E l H Φ (.unOp .not T x) ty (.bool (!b)) := v_not hx
theorem vX {x : Operand} {vs : Array Value} {i : Nat} {v : Value} (hx : opv l x = some (.tuple vs) := by exact rfl) (hi : vs[i]? = some v := by exact rfl) : Val E l H Φ (.extract x i) ty v := v_extract hx hi
theorem vU {t : TypeId} {ps : Array (Nat × Operand)} {vs : List (Nat × Value)} (v : Value) (hp : opvs l ps.toList = some vs := by exact rfl) (hr : ∀ w, (Instr.build t vs.toArray).run E.P w = .ok v w := by intro _; kernel_rfl) : Val E l H Φ (.build t ps) ty v := v_build hp hr
theorem oV {v : Value} (hv : Val E l H Φ op ty v) (h : WO E ops os ((d, v) :: l) H Φ N Q) (hd : Nat.blt d E.n = true := by rfl) : WO E ops (⟨some d, op, ty, pos, aft, none⟩ :: os) l H Φ N Q := o_v hv hd h
theorem fD (o : Nat) {T : TypeId} {x : Operand} {i b o0 : Nat} (hx : opv l x = some (.pointer (some ⟨b, o0, none⟩)) := by exact rfl) (hr : ∀ w, (Instr.fieldAt T (.pointer (some ⟨b, o0, none⟩)) i).run E.P w = .ok (.pointer (some ⟨b, o, none⟩)) w := by intro _; kernel_rfl) (hd : Nat.blt d E.n = true := by rfl) (h : WO E ops os ((d, .pointer (some ⟨b, o, none⟩)) :: l) H Φ N Q) :
    WO E ops (⟨some d, .fieldAddr T x i, ty, pos, aft, none⟩ :: os) l H Φ N Q := o_v (fa o hx hr) hd h
theorem oF {j : Nat} {want b : Bool} {dj : Nat} (h : WO E ops os ((d, undef) :: l) H Φ N Q) (hj : (ops[j]?).bind (·.dst) = some dj := by exact rfl) (hl : findT dj l = some (.bool b) := by exact rfl) (hb : b ≠ want := by decide) (hd : Nat.blt d E.n = true := by rfl) :
    WO E ops (⟨some d, op, ty, pos, aft, some (j, want)⟩ :: os) l H Φ N Q := o_off hj hl hb hd h
theorem oN {dst : Option Nat} {j : Nat} {want : Bool} {dj : Nat} (h : WO E ops (⟨dst, op, ty, pos, aft, none⟩ :: os) l H Φ N Q) (hj : (ops[j]?).bind (·.dst) = some dj := by exact rfl) (hl : findT dj l = some (.bool want) := by exact rfl) :
    WO E ops (⟨dst, op, ty, pos, aft, some (j, want)⟩ :: os) l H Φ N Q := o_on hj hl h
theorem oU {j : Nat} {want : Bool} {dj : Nat} (h : WO E ops os ((d, undef) :: l) H Φ N Q) (hj : (ops[j]?).bind (·.dst) = some dj := by exact rfl) (hl : findT dj l = some undef := by exact rfl) (hd : Nat.blt d E.n = true := by rfl) :
    WO E ops (⟨some d, op, ty, pos, aft, some (j, want)⟩ :: os) l H Φ N Q := o_offU hj hl hd h
theorem sT (j : Nat) {dst : Option Nat} {t : TypeId} {x y : Operand} {b o : Nat} {T : TypeId} {cs vs : List Value} {ag : Bool} {n : Nat} {v : Value} (ht : tyd E.P t = some (ag, n)) (hdst : dst = none := by rfl) (hx : opv l x = some (.pointer (some ⟨b, o, none⟩)) := by exact rfl)
    (hy : opv l y = some v := by exact rfl) (hv : v.cells.toList = vs := by exact rfl) (hj : H[j]? = some (.box b T cs) := by exact rfl) (hlen : Nat.ble (o + n) cs.length = true := by rfl) (hn : Nat.beq vs.length n = true := by rfl) (h1 : vs.all oneC = true := by rfl) (h : WO E ops os l (H.set j (.box b T (putL cs o vs))) Φ N Q) :
    WO E ops (⟨dst, .store t x y, ty, pos, aft, none⟩ :: os) l H Φ N Q := o_store_box j hdst ht hx hy hv hj hlen hn h1 h
theorem dF (i : Nat) {j dj : Nat} {want b : Bool} (hi : ops[i]? = some ⟨some d, op, ty, pos, aft, some (j, want)⟩) (h : WA E ops H0 Φ0 fuel (listed.setIfInBounds i true) ((d, undef) :: l) H Φ N Q) (hj : (ops[j]?).bind (·.dst) = some dj := by exact rfl) (hl : findT dj l = some (.bool b) := by exact rfl) (hb : b ≠ want := by decide)
    (hq : PnOk Q := by first | exact pnok | exact pnokF) (hs : Region.noSelect ops = true := by kernel_rfl) (hf : Region.free .any ops listed i = true := by kernel_rfl)
    (hr : (Region.ready .any ops listed).contains i = true := by kernel_rfl) (hd : Nat.blt d E.n = true := by rfl) : WA E ops H0 Φ0 (fuel + 1) listed l H Φ N Q := d_off i hi hj hl hb hq hs hf hr hd h
theorem dO (i : Nat) {o : Oper} (hi : ops[i]? = some o) (h : WO E ops [o] l H Φ (DN E ops H0 Φ0 fuel (listed.setIfInBounds i true) N Q) Q) (hr : Region.ready .any ops listed = [i] := by kernel_rfl) : WA E ops H0 Φ0 (fuel + 1) listed l H Φ N Q := d_one i hi hr h
theorem dD (h : Sat E l H Φ N) (hr : Region.ready .any ops listed = [] := by kernel_rfl) : WA E ops H0 Φ0 fuel listed l H Φ N Q := d_done hr h
theorem dN (js : List Nat) (k : Nat) (h : WA E ops H0 Φ0 fuel listed l H Φ N Q) (hsel : selS js H = H0 := by exact rfl) (hΦ : Φ.drop k = Φ0 := by exact rfl) : WO E ops [] l H Φ (DN E ops H0 Φ0 fuel listed N Q) Q := d_next js k hsel hΦ h
theorem sR {fn : Func} {post : Post} {r : Nat} {v : Value} (hr : fn.results = #[.tmp r] := by exact rfl) (h : findT r l = some v := by exact rfl) (hp : post (.ret v) [] [] := by exact ⟨rfl, rfl, rfl⟩) (hds : E.ds = [] := by rfl) : Sat E l H Φ (RetS E fn post) :=
  s_ret1 hr (r_tmp h) (fun a w hs => fin_sel hs [] hp rfl sub_nil) hds
theorem sK (js is : List Nat) {l' : List (Nat × Value)} {H' : List HB} {Φ' : List (Value × Dc)} (h : Sat E l' H' Φ' N) (hl : l'.map (fun p => findT p.1 l) = l'.map (fun p => some p.2) := by exact rfl) (hH : selS js H = H' := by exact rfl) (hΦ : is.map (fun i => Φ[i]?) = Φ'.map some := by exact rfl) : Sat E l H Φ N :=
  s_st (st_le js (lea hl) hH (subs is hΦ)) h
theorem cR {id : Nat} {y : Code} (h : WO E ops ops.toList l H Φ (fun a w => y.wpIn E.F 1 E.P (K N Q) a w) Q) (hnd : (E.rd.isNone || nodef ops) = true := by rfl) : WC E (.seq (.region id ops false) y) l H Φ N Q := c_seq (c_region h hnd)
theorem lq (js is : List Nat) {l' : List (Nat × Value)} {H' : List HB} {Φ' : List (Value × Dc)} (h : ∀ a w, St E l' H' Φ' a w → N a w) (hl : l'.map (fun p => findT p.1 l) = l'.map (fun p => some p.2) := by exact rfl) (hH : selS js H = H' := by exact rfl) (hΦ : is.map (fun i => Φ[i]?) = Φ'.map some := by exact rfl) : Sat E l H Φ N :=
  fun a w hs => h a w (st_le js (lea hl) hH (subs is hΦ) a w hs)
theorem lp (js is : List Nat) {j : Nat} {M : Nat → SP} {l' : List (Nat × Value)} {H' : List HB} {Φ' : List (Value × Dc)} (h : ∀ a w, St E l' H' Φ' a w → M j a w) (hl : l'.map (fun p => findT p.1 l) = l'.map (fun p => some p.2) := by exact rfl) (hH : selS js H = H' := by exact rfl) (hΦ : is.map (fun i => Φ[i]?) = Φ'.map some := by exact rfl) : Sat E l H Φ (fun a w => ∃ j', j' < j + 1 ∧ M j' a w) :=
  fun a w hs => ⟨j, Nat.lt_succ_self j, h a w (st_le js (lea hl) hH (subs is hΦ) a w hs)⟩
theorem cC {α : Type} {c : Operand} {x y : Code} {b : Bool} {u v r : α} (hF : (if b = true then u else v) = r) (h1 : u = r → WC E x l H Φ N Q) (h2 : v = r → WC E y l H Φ N Q) (hc : opv l c = some (.bool b) := by exact rfl) : WC E (.cond c x y) l H Φ N Q :=
  c_cond hc (fun h => h1 (ite_t h hF)) (fun h => h2 (ite_f h hF))
theorem oS (t : Nat) {α : Type} {b : Bool} {u v r : α} (hF : (if b = true then u else v) = r) (h1 : u = r → WO E ops os ((t, .bool true) :: l) H Φ N Q) (h2 : v = r → WO E ops os ((t, .bool false) :: l) H Φ N Q) (hl : findT t l = some (.bool b) := by exact rfl) : WO E ops os l H Φ N Q :=
  o_split hl (fun h => h1 (ite_t h hF)) (fun h => h2 (ite_f h hF))
end
end Go.Vc
