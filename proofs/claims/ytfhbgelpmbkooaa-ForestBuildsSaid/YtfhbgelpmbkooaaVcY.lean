/-
  Maps with records as keys, with numbers as keys.
-/
import Derived.Test.YtfhbgelpmbkooaaVcX
set_option linter.unusedVariables false
set_option linter.unusedSimpArgs false
namespace Go.Vc
open Go Go.MapKept
theorem run_findAsking {P : Program} {kt : TypeId} {κ : Type} {eq : κ → κ → Bool} {enc : κ → Value} (heq : ∀ (a b : κ) (w : World), (Op.equal kt (enc a) (enc b)).run P w = .ok (eq a b) w) (a : κ) (w : World) : ∀ (ks : List κ) (ents : List MapEntry) (i : Nat), ents.map (·.key) = ks.map enc →
    (Instr.findAsking kt (enc a) ents i).run P w = .ok ((ks.findIdx? (eq a)).bind fun j => ents[j]?.map fun e => (i + j, e.val)) w
  | [], ents, i, h => by
    cases ents with
    | nil => rfl
    | cons e es => simp at h
  | b :: ks, ents, i, h => by
    cases ents with
    | nil => simp at h
    | cons e es =>
      simp only [List.map_cons, List.cons.injEq] at h
      obtain ⟨h1, h2⟩ := h
      simp only [Instr.findAsking, Sem.run_bind, h1, heq a b w, Result.andThen, List.findIdx?_cons]
      cases hab : eq a b with
      | true => simp
      | false =>
        simp only [Bool.false_eq_true, if_false]
        rw [run_findAsking heq a w ks es (i + 1) h2]
        cases ks.findIdx? (eq a) with
        | none => rfl
        | some j =>
          simp only [Option.bind_some, Option.map_some, List.getElem?_cons_succ]
          rw [show i + 1 + j = i + (j + 1) by omega]
theorem kt_rec {P : Program} {kt : TypeId} {κ : Type} {eq : κ → κ → Bool} {enc : κ → Value} {fs : Array Field} (hu : P.underlying kt = some (.struct fs)) (hc : ∀ (em : Bool) (a : κ) (w : World), (Instr.checkKey em 10000 kt (enc a)).run P w = .ok () w)
    (heq : ∀ (a b : κ) (w : World), (Op.equal kt (enc a) (enc b)).run P w = .ok (eq a b) w) (hs : ∀ a b, eq a b = true → enc b = enc a) (hst : ∀ a, Instr.sameBits 10000 (enc a) (enc a) = true) : KT P kt eq enc where
  chk := hc
  find a ks ents w h := by
    cases ents with
    | nil =>
      cases ks with
      | nil => simp [Instr.findKey, run_underlying hu, Result.andThen, Instr.findNow]
      | cons b ks => simp at h
    | cons e es =>
      have hn : Instr.findNow (.struct fs) (enc a) (e :: es) 0 = none := rfl
      have := run_findAsking heq a w ks (e :: es) 0 h
      simp only [Nat.zero_add] at this
      simp only [Instr.findKey, Sem.run_bind, run_underlying hu, Result.andThen, hn]
      exact this
  same := hs
  stay a w := by
    unfold Instr.keyThatStays
    rw [if_pos (hst a)]
    rfl
theorem bits_ints (l : List Int) : ∀ n, Instr.sameBits (n + 2) (.agg (l.map fun x => Value.int .i64 x).toArray) (.agg (l.map fun x => Value.int .i64 x).toArray) = true := by
  intro n
  have h1 : ∀ x : Int, Instr.sameBits (n + 1) (Value.int .i64 x) (Value.int .i64 x) = true := fun x => by
    simp [Instr.sameBits]
  have h2 : ∀ vs : List Value, (∀ v ∈ vs, Instr.sameBits (n + 1) v v = true) → (vs.zip vs).all (fun (x, y) => Instr.sameBits (n + 1) x y) = true := by
    intro vs hv
    induction vs with
    | nil => rfl
    | cons v vs ih =>
      simp only [List.zip_cons_cons, List.all_cons, Bool.and_eq_true]
      exact ⟨hv v List.mem_cons_self, ih fun x hx => hv x (List.mem_cons_of_mem _ hx)⟩
  show ((l.map fun x => Value.int .i64 x).toArray.size == (l.map fun x => Value.int .i64 x).toArray.size && ((l.map fun x => Value.int .i64 x).toArray.toList.zip (l.map fun x => Value.int .i64 x).toArray.toList).all fun (x, y) => Instr.sameBits (n + 1) x y) = true
  rw [BEq.rfl, Bool.true_and]
  refine h2 _ fun v hv => ?_
  simp only [List.mem_map] at hv
  obtain ⟨x, _, rfl⟩ := hv
  exact h1 x
def intK (n : Int) : Value := .int .i64 n
def intE (a b : Int) : Bool := a == b
theorem kt_int {P : Program} {kt : TypeId} (hu : P.underlying kt = some (.int .i64)) (hk : ∀ n : Int, IsKey (.int .i64) (.int .i64 n)) : KT P kt intE intK where
  chk em a w := MapKept.run_checkKey hu (hk a) em 9999
  find a ks ents w h := by
    have key : ∀ (ks : List Int) (ents : List MapEntry) (i : Nat), ents.map (·.key) = ks.map (fun n => .int .i64 n) → Instr.findNow (.int .i64) (.int .i64 a) ents i = some ((ks.findIdx? (fun b => a == b)).bind fun j => ents[j]?.map fun e => (i + j, e.val)) := by
      intro ks
      induction ks with
      | nil => intro ents i h; cases ents with
        | nil => rfl
        | cons e es => simp at h
      | cons b ks ih =>
        intro ents i h
        cases ents with
        | nil => simp at h
        | cons e es =>
          simp only [List.map_cons, List.cons.injEq] at h
          obtain ⟨h1, h2⟩ := h
          simp only [Instr.findNow, h1, Instr.sameNow, List.findIdx?_cons, if_true]
          cases hab : a == b with
          | true => simp
          | false =>
            simp only [Bool.false_eq_true, if_false]
            rw [ih es (i + 1) h2]
            cases ks.findIdx? (fun b => a == b) with
            | none => rfl
            | some j =>
              simp only [Option.bind_some, Option.map_some, List.getElem?_cons_succ]
              rw [show i + 1 + j = i + (j + 1) by omega]
    have := key ks ents 0 h
    simp only [Nat.zero_add] at this
    exact MapKept.run_findKey hu this
  same a b h := by
    have : a = b := by simpa [intE] using h
    rw [this]
  stay a w := MapKept.run_keyThatStays (d := .int .i64) (hk a)
def tget {κ : Type} (eq : κ → κ → Bool) (a : κ) : List (κ × Int) → Option Int
  | [] => none
  | p :: r => if eq a p.1 then some p.2 else tget eq a r
def tput {κ : Type} (eq : κ → κ → Bool) (a : κ) (v : Int) : List (κ × Int) → List (κ × Int)
  | [] => [(a, v)]
  | p :: r => if eq a p.1 then (p.1, v) :: r else p :: tput eq a v r
def tenc {κ : Type} (m : List (κ × Int)) : List (κ × Value) := m.map fun p => (p.1, .int .i64 p.2)
theorem mget_tenc {κ : Type} (eq : κ → κ → Bool) (a : κ) : ∀ m : List (κ × Int), mget eq a (tenc m) = (tget eq a m).map fun n => .int .i64 n
  | [] => rfl
  | p :: r => by
    show (if eq a p.1 then some (Value.int .i64 p.2) else mget eq a (tenc r)) = _
    unfold tget
    split
    · rfl
    · exact mget_tenc eq a r
theorem mput_tenc {κ : Type} (eq : κ → κ → Bool) (a : κ) (v : Int) : ∀ m : List (κ × Int), mput eq a (.int .i64 v) (tenc m) = tenc (tput eq a v m)
  | [] => rfl
  | p :: r => by
    show (if eq a p.1 then (p.1, Value.int .i64 v) :: tenc r else (p.1, Value.int .i64 p.2) :: mput eq a (.int .i64 v) (tenc r)) = _
    unfold tput
    split
    · rfl
    · rw [mput_tenc eq a v r]; rfl
section
variable {E : Env} {ops : Array Oper} {os : List Oper} {l : List (Nat × Value)} {H : List HB} {Φ : List (Value × Dc)} {N : SP} {Q : QS}
variable {ty : TypeId} {ps : String} {aft : Array Edge} {d : Nat}
theorem v_lookupT (j : Nat) {κ : Type} {eq : κ → κ → Bool} {enc : κ → Value} {T kt et : TypeId} {x y : Operand} {b : Nat} {k : κ} {m : List (κ × Int)} (c : Bool)
    (hT : E.P.underlying T = some (.map kt et)) (hk : KT E.P kt eq enc) (hz : (E.P.info? et).bind (·.zero) = some (.int .i64 0)) (hx : opv l x = some (.map (some b))) (hy : opv l y = some (enc k)) (hj : H[j]? = some (.mp b (mEnc enc (tenc m)))) :
    Val E l H Φ (.lookup T x y c) ty (if c then .tuple #[.int .i64 ((tget eq k m).getD 0), .bool (tget eq k m).isSome] else .int .i64 ((tget eq k m).getD 0)) := by
  have := v_lookup (ty := ty) (Φ := Φ) j c hT hk hz hx hy hj
  rw [mget_tenc] at this
  cases h : tget eq k m with
  | none => rw [h] at this; exact this
  | some n => rw [h] at this; exact this
end
end Go.Vc
