/-
  The same rules, in fewer words.
-/
import Derived.Test.YtfhbgelpmbkooaaVcS
set_option linter.unusedVariables false
set_option linter.unusedSimpArgs false
namespace Go.Vc
open Go
section
variable {E : Env} {ops : Array Oper} {os : List Oper} {l : List (Nat × Value)} {H H0 : List HB} {Φ Φ0 : List (Value × Dc)} {N : SP} {Q : QS} {fuel : Nat} {listed : Array Bool}
variable {op : Op} {ty : TypeId} {pos : String} {aft : Array Edge} {d : Nat}
theorem dv (i : Nat) {v : Value} (hi : ops[i]? = some ⟨some d, op, ty, pos, aft, none⟩) (hv : Val E l H0 Φ0 op ty v) (h : WA E ops H0 Φ0 fuel (listed.setIfInBounds i true) ((d, v) :: l) H Φ N Q)
    (hq : PnOk Q := by first | exact pnok | exact pnokF) (hs : Region.noSelect ops = true := by kernel_rfl) (hf : Region.free .any ops listed i = true := by kernel_rfl)
    (hr : (Region.ready .any ops listed).contains i = true := by kernel_rfl) (hd : Nat.blt d E.n = true := by rfl) : WA E ops H0 Φ0 (fuel + 1) listed l H Φ N Q := d_val i hi hq hs hf hr hd hv h
theorem dw (i : Nat) {j dj : Nat} {want : Bool} {v : Value} (hi : ops[i]? = some ⟨some d, op, ty, pos, aft, some (j, want)⟩) (hj : (ops[j]?).bind (·.dst) = some dj) (hl : findT dj l = some (.bool want))
    (hv : Val E l H0 Φ0 op ty v) (h : WA E ops H0 Φ0 fuel (listed.setIfInBounds i true) ((d, v) :: l) H Φ N Q)
    (hq : PnOk Q := by first | exact pnok | exact pnokF) (hs : Region.noSelect ops = true := by kernel_rfl) (hf : Region.free .any ops listed i = true := by kernel_rfl)
    (hr : (Region.ready .any ops listed).contains i = true := by kernel_rfl) (hd : Nat.blt d E.n = true := by rfl) : WA E ops H0 Φ0 (fuel + 1) listed l H Φ N Q := d_val_on i hi hj hl hq hs hf hr hd hv h
theorem fa {T : TypeId} {x : Operand} {i b o0 : Nat} (o : Nat) (hx : opv l x = some (.pointer (some ⟨b, o0, none⟩))) (hr : ∀ w, (Instr.fieldAt T (.pointer (some ⟨b, o0, none⟩)) i).run E.P w = .ok (.pointer (some ⟨b, o, none⟩)) w := by exact fun _ => by kernel_rfl) :
    Val E l H Φ (.fieldAddr T x i) ty (.pointer (some ⟨b, o, none⟩)) := v_fieldAddr hx hr
theorem ocl (js : List Nat) {f : FuncId} {args : Array Operand} {argTypes : Array TypeId} {vs : List Value} {Hp : List HB} {Φp : List (Value × Dc)} {post : Post}
    (hc : Callable E.P f) (ha : opvL l args.toList = some vs) (hsel : selS js H = Hp) (hΦ : ∀ p ∈ Φp, p ∈ Φ) (tri : Tri E.P f vs Hp Φp post)
    (h : ∀ out H' Φ', post out H' Φ' → match out with
      | .ret v => WO E ops os ((d, v) :: l) (H' ++ restS js H) (Φ' ++ Φ) N Q
      | .pan v => Sat E l (H' ++ restS js H) (Φ' ++ Φ) (Q.Pn v)) (hd : Nat.blt d E.n = true := by rfl) :
    WO E ops (⟨some d, .call ⟨.value (.func f), args, argTypes⟩, ty, pos, aft, none⟩ :: os) l H Φ N Q :=
  o_call js (cap := #[]) hc rfl ha hsel hΦ (by rw [show (#[] : Array Value).toList = [] from rfl, List.append_nil]; exact tri) hd h
theorem lea {l' : List (Nat × Value)} (h : l'.map (fun p => findT p.1 l) = l'.map fun p => some p.2) : LE l l' := by
  intro p hp
  exact List.map_inj_left.1 h p hp
theorem subs {Φ' : List (Value × Dc)} (is : List Nat) (h : is.map (fun i => Φ[i]?) = Φ'.map some) : ∀ p ∈ Φ', p ∈ Φ := by
  intro p hp
  have : some p ∈ Φ'.map some := List.mem_map.2 ⟨p, hp, rfl⟩
  rw [← h] at this
  obtain ⟨i, _, hi⟩ := List.mem_map.1 this
  exact List.mem_of_getElem? hi
end
end Go.Vc
