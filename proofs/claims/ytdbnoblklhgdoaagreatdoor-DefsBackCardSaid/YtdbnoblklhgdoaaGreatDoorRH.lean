import Derived.Test.YtdbnoblklhgdoaaGreatDoorRP
import Derived.Test.YtdbnoblklhgdoaaGreatDoorWQ
import Derived.Test.YtdbnoblklhgdoaaGreatDoorCQ1
set_option linter.unusedVariables false
set_option linter.unusedSimpArgs false
namespace Go.Vc
open Go
theorem dt {p : Prop} [i : Decidable p] (h : p) : decide p = true := decide_eq_true h
theorem la {α : Type} {a b : List α} : (a ++ b).length = a.length + b.length := List.length_append
theorem lc {α : Type} {a : α} {b : List α} : (a :: b).length = b.length + 1 := List.length_cons
theorem ln {α : Type} : ([] : List α).length = 0 := List.length_nil
theorem u8b_ofS (s : List UInt8) : ∀ c ∈ ve s, u8b c := by
 intro c hc
 unfold ve at hc
 obtain ⟨b, _, rfl⟩ := List.mem_map.1 hc
 have := b.toNat_lt
 exact ⟨by omega, by omega⟩
theorem vY (s : List UInt8) : (ve s).length = s.length := by simp [ve]
theorem quo_len (b : List Int) : (quo b).length <= 4 * b.length + 2 := by
 have := qs_len b
 unfold quo vj
 simp
 omega
theorem quo_ofS {k : Nat} {s : List UInt8} (hs : s.length <= 60000) (hk : 100000 <= k) : qw.Quote k (ve s) = some (quo (ve s)) /\ True := by
 have h1 : (ve s).length < 70000 := by rw [vY]; omega
 exact ⟨Quote_ok h1 (u8b_ofS s) hk, trivial⟩
theorem jH (s : List UInt8) : (quo (ve s)).length <= 4 * s.length + 2 := by
 have := quo_len (ve s)
 rw [vY] at this
 exact this
theorem wq {s : List UInt8} (h : yU s = true) : s ≠ [] /\ s.length <= 32 := by
 cases s with
 | nil => cases h
 | cons c r =>
  simp only [yU, Bool.and_eq_true, decide_eq_true_eq] at h
  exact ⟨by simp, h.1⟩
theorem nmE_len {s : List UInt8} {e : Bool} (h : uL s e = true) : s.length <= 32 := by
 unfold uL at h
 simp only [Bool.or_eq_true, Bool.and_eq_true, beq_iff_eq] at h
 rcases h with ⟨_, rfl⟩ | h
 ·simp
 ·exact (wq h).2
theorem qt {s : xg} (h : wW s = true) : s.Text.length <= 32 /\ s.Name.length <= 32 /\ s.Sep.length <= 32 /\ (s.Sep ≠ [] -> s.Name ≠ []) := by
 unfold wW at h
 split at h
 ·simp only [Bool.and_eq_true, decide_eq_true_eq, beq_iff_eq] at h
  obtain ⟨h1, _, h2, h3⟩ := h
  rw [h2, h3]; exact ⟨h1, by simp, by simp, fun h => absurd rfl h⟩
 split at h
 ·simp only [Bool.and_eq_true, beq_iff_eq] at h
  obtain ⟨h1, h2, h3⟩ := h
  rw [h1, h2, h3]; exact ⟨by simp, by simp, by simp, fun h => absurd rfl h⟩
 split at h
 ·simp only [Bool.and_eq_true, beq_iff_eq] at h
  obtain ⟨h1, _, h2, h3⟩ := h
  rw [h1, h3]; exact ⟨by simp, (wq h2).2, by simp, fun h => absurd rfl h⟩
 split at h
 ·simp only [Bool.and_eq_true, Bool.or_eq_true, beq_iff_eq] at h
  obtain ⟨h1, h2, h3⟩ := h
  rw [h1, h2]
  refine ⟨by simp, ?_, by simp, fun h => absurd rfl h⟩
  rcases h3 with h3 | ⟨_, h3⟩
  ·rw [h3]; simp
  ·exact (wq h3).2
 split at h
 ·split at h
  ·rename_i hn
   rw [beq_iff_eq] at hn
   simp only [Bool.and_eq_true, beq_iff_eq] at h
   rw [h.1, h.2, hn]; exact ⟨by simp, by simp, by simp, fun h => absurd rfl h⟩
  ·simp only [Bool.and_eq_true, beq_iff_eq, decide_eq_true_eq] at h
   obtain ⟨h1, _, h2, h3⟩ := h
   rw [h1]; exact ⟨by simp, (wq h2).2, h3, fun _ => (wq h2).1⟩
 ·cases h
def symA (s : xg) : List UInt8 := if s.Name = [] then Cp.printT s.Set else s.Name
def g9 (s : xg) : List UInt8 := if s.Sep = [] then symA s else [123] ++ s.Name ++ [32] ++ quo (ve s.Sep) ++ [125]
def symT (s : xg) : List UInt8 :=
 if s.Kind = 1 then quo (ve s.Text) else if s.Kind = 4 then g9 s ++ [63] else if s.Kind = 5 then g9 s ++ [42] else if s.Kind = 6 then g9 s ++ [43] else g9 s
theorem symB_len {s : xg} (h : wW s = true) : (g9 s).length <= 2500 := by
 obtain ⟨h1, h2, h3, _⟩ := qt h
 have := Cp.printT_len s.Set
 have := jH s.Sep
 unfold g9 symA
 split
 ·split <;> omega
 ·simp only [la, lc, ln]; omega
theorem symT_len {s : xg} (h : wW s = true) : (symT s).length <= 2600 := by
 obtain ⟨h1, h2, h3, _⟩ := qt h
 have := symB_len h
 have := jH s.Text
 unfold symT
 split
 ·omega
 repeat' split
 all_goals first | omega | (simp only [la, lc, ln]; omega)
section
variable {k : Nat} (hk : 200000 <= k)
include hk
theorem symText_ok {s : xg} (h : wW s = true) (ho : Cp.okS s.Set) : qd.symText k s = some (symT s) /\ True := by
 obtain ⟨h1, h2, h3, h4⟩ := qt h
 have e1 := Cp.Print_ok ho (show 300 <= k by omega)
 have q1 := quo_ofS (s := s.Sep) (by omega) (show 100000 <= k by omega)
 have q2 := quo_ofS (s := s.Text) (by omega) (show 100000 <= k by omega)
 have b1 := Cp.printT_len s.Set
 have b2 := jH s.Sep
 have bB := symB_len h
 have j2 : qd.symText_j2 k s (g9 s) = some (symT s) /\ True := by
  unfold qd.symText_j2 symT
  rw [q2.1]
  by_cases k1 : s.Kind = 1
  ·simp only [k1]; exact ⟨rfl, trivial⟩
  have hc : ∀ c : UInt8, decide ((g9 s).length + [c].length <= 9223372036854775807) = true := fun c => decide_eq_true (by simp only [List.length_cons, List.length_nil]; omega)
  simp only [hc, if_true]
  by_cases k4 : s.Kind = 4
  ·simp only [k4]; exact ⟨rfl, trivial⟩
  by_cases k5 : s.Kind = 5
  ·simp only [k5]; exact ⟨rfl, trivial⟩
  by_cases k6 : s.Kind = 6
  ·simp only [k6]; exact ⟨rfl, trivial⟩
  simp [k1, k4, k5, k6]
 have j1 : qd.symText_j1 k s (symA s) = some (symT s) /\ True := by
  unfold qd.symText_j1
  rw [q1.1]
  by_cases hs : s.Sep = []
  ·have : g9 s = symA s := by unfold g9; rw [if_pos hs]
   rw [<- this, hs]
   exact j2
  ·have hs' : (!(s.Sep == [])) = true := by simp [hs]
   have hA : symA s = s.Name := by unfold symA; rw [if_neg (h4 hs)]
   have hB : g9 s = [123] ++ s.Name ++ [32] ++ quo (ve s.Sep) ++ [125] := by unfold g9; rw [if_neg hs]
   rw [hs', if_pos rfl]
   rw [if_pos (dt (by simp only [la, lc, ln]; omega)), if_pos (dt (by simp only [la, lc, ln]; omega))]
   simp only [Option.bind_some]
   rw [if_pos (dt (by simp only [la, lc, ln]; omega)), if_pos (dt (by simp only [la, lc, ln]; omega))]
   rw [<- hB]
   exact j2
 unfold qd.symText
 rw [e1]
 by_cases hn : s.Name = []
 ·have : symA s = Cp.printT s.Set := by unfold symA; rw [if_pos hn]
  rw [this] at j1
  simp only [hn, BEq.rfl, if_true, Option.bind_some]
  exact j1
 ·have : symA s = s.Name := by unfold symA; rw [if_neg hn]
  rw [this] at j1
  have hn' : (s.Name == []) = false := by simp [hn]
  simp only [hn', Bool.false_eq_true, if_false]
  exact j1
end
def qj (l : List xg) : List UInt8 := l.flatMap fun s => 32 :: symT s
def kB (p : Prod) : List UInt8 :=
 (if p.Lex then [108, 101, 120, 32] else [99, 102, 32]) ++ p.Sort_ ++ (if p.Cons = [] then [] else 46 :: p.Cons) ++ [32, 61] ++ qj p.Syms ++ (if p.Bracket then [32, 98, 114, 97, 99, 107, 101, 116] else [])
theorem uy : ∀ {l : List xg}, l.all wW = true -> (qj l).length <= 2601 * l.length
 | [], _ => by simp [qj]
 | s :: r, h => by
  simp only [List.all_cons, Bool.and_eq_true] at h
  have h1 := symT_len h.1
  have h2 := uy h.2
  simp only [qj, List.flatMap_cons, List.length_append, List.length_cons] at *
  omega
theorem jV {p : Prod} (h : kc p = true) : p.Sort_.length <= 32 /\ p.Cons.length <= 32 /\ 1 <= p.Syms.length /\ p.Syms.length <= 12 /\ p.Syms.all wW = true /\ yU p.Sort_ = true /\ uL p.Cons true = true /\ (if p.Lex then !p.Bracket else p.Bracket == (p.Cons == [])) = true := by
 simp only [kc, Bool.and_eq_true, decide_eq_true_eq] at h
 obtain ⟨h1, h2, ⟨h3, h4⟩, h5, h6⟩ := h
 exact ⟨(wq h1).2, nmE_len h2, h3, h4, h6, h1, h2, h5⟩
theorem prodT_len {p : Prod} (h : kc p = true) : (kB p).length <= 40000 := by
 obtain ⟨h1, h2, _, h4, h5, _⟩ := jV h
 have := uy h5
 unfold kB
 simp only [List.length_append]
 repeat' split
 all_goals simp only [List.length_cons, List.length_nil]; omega
theorem loop_txt {α : Type} {xs : List α} {f : α -> List UInt8} {L : Nat -> Int -> List UInt8 -> Option (List UInt8)} (B M : Nat) (hf : ∀ x ∈ xs, (f x).length <= M)
  (h1 : ∀ j i acc, (h : i < xs.length) -> acc.length <= B + M * i -> L (j + 1) (i : Int) acc = L j ((i + 1 : Nat) : Int) (acc ++ f xs[i]))
  (h2 : ∀ j acc, L (j + 1) (xs.length : Int) acc = some acc) : ∀ j i acc, i <= xs.length -> acc.length <= B + M * i -> xs.length - i < j -> L j (i : Int) acc = some (acc ++ (xs.drop i).flatMap f)
 | 0, _, _, _, _, h => by omega
 | j + 1, i, acc, hi, ha, hj => by
  by_cases h : i < xs.length
  ·have hm := hf _ (List.getElem_mem h)
   rw [h1 j i acc h ha, loop_txt B M hf h1 h2 j (i + 1) _ (by omega) (by rw [List.length_append, Nat.mul_add]; omega) (by omega), List.drop_eq_getElem_cons h]
   simp only [List.flatMap_cons, List.append_assoc]
  ·have : i = xs.length := by omega
   subst this
   rw [h2 j, List.drop_length]
   simp
theorem loop_txt0 {α : Type} {xs : List α} {f : α -> List UInt8} {L : Nat -> Int -> List UInt8 -> Option (List UInt8)} {k : Nat} (B M : Nat) (hk : xs.length < k) (hf : ∀ x ∈ xs, (f x).length <= M)
  (h1 : ∀ j i acc, (h : i < xs.length) -> acc.length <= B + M * i -> L (j + 1) (i : Int) acc = L j ((i + 1 : Nat) : Int) (acc ++ f xs[i]))
  (h2 : ∀ j acc, L (j + 1) (xs.length : Int) acc = some acc) (acc : List UInt8) (ha : acc.length <= B) : L k 0 acc = some (acc ++ xs.flatMap f) := by
 have := loop_txt B M hf h1 h2 k 0 acc (by omega) (by omega) (by omega)
 rwa [List.drop_zero] at this
section
variable {k : Nat} (hk : 200000 <= k)
include hk
theorem prodText_ok {p : Prod} (h : kc p = true) (ho : ∀ s ∈ p.Syms, Cp.okS s.Set) : qd.prodText k p = some (kB p ++ [59, 10]) /\ True := by
 obtain ⟨h1, h2, _, h4, h5, _⟩ := jV h
 have hs := List.all_eq_true.1 h5
 have hlS := uy h5
 have l3 : ∀ acc, acc.length <= 1000 -> qd.prodText_l3 k p k acc 0 = some (acc ++ qj p.Syms) := fun acc ha => by
  refine loop_txt0 (f := fun s => 32 :: symT s) (L := fun j i acc => qd.prodText_l3 k p j acc i) 1000 2601 (by omega) (fun s hm => by have := symT_len (hs s hm); simp only [List.length_cons]; omega) (fun j i acc h ha => ?_) (fun j acc => ?_) acc ha
  ·have hm := List.getElem_mem h
   have hl := symT_len (hs _ hm)
   simp only [qd.prodText_l3, xB h, yQ h, yG h, if_true, (symText_ok hk (hs _ hm) (ho _ hm)).1, Option.bind_some, yg (show i < 4611686018427387904 by omega)]
   rw [if_pos (dt (by simp only [la, lc, ln]; omega)), if_pos (dt (by simp only [la, lc, ln]; omega))]
   rfl
  ·simp only [qd.prodText_l3, xy (Nat.lt_irrefl _)]; rfl
 have j2 : ∀ acc, acc.length <= 900 -> qd.prodText_j2 k p acc = some (acc ++ [32, 61] ++ qj p.Syms ++ (if p.Bracket then [32, 98, 114, 97, 99, 107, 101, 116] else []) ++ [59, 10]) /\ True := fun acc ha => by
  have e1 := l3 (acc ++ [32, 61]) (by simp only [la, lc, ln]; omega)
  constructor
  ·unfold qd.prodText_j2
   rw [if_pos (dt (by simp only [la, lc, ln]; omega)), e1]
   simp only [Option.bind_some]
   cases p.Bracket with
   | true =>
    simp only [if_true]
    rw [if_pos (dt (by simp only [la, lc, ln]; omega)), if_pos (dt (by simp only [la, lc, ln]; omega))]
   | false =>
    simp only [Bool.false_eq_true, if_false, List.append_nil]
    rw [if_pos (dt (by simp only [la, lc, ln]; omega))]
  ·trivial
 have j1 : ∀ acc, acc.length <= 10 -> qd.prodText_j1 k p acc = some (acc ++ p.Sort_ ++ (if p.Cons = [] then [] else 46 :: p.Cons) ++ [32, 61] ++ qj p.Syms ++ (if p.Bracket then [32, 98, 114, 97, 99, 107, 101, 116] else []) ++ [59, 10]) /\ True := fun acc ha => by
  by_cases hc : p.Cons = []
  ·have := j2 (acc ++ p.Sort_) (by simp only [List.length_append]; omega)
   constructor
   ·unfold qd.prodText_j1
    rw [if_pos (dt (by omega))]
    simp only [hc, BEq.rfl, Bool.not_true, Bool.false_eq_true, if_false, if_true, List.append_nil]
    exact this.1
   ·trivial
  ·have hc' : (!(p.Cons == [])) = true := by simp [hc]
   have := j2 (acc ++ p.Sort_ ++ 46 :: p.Cons) (by simp only [List.length_append, List.length_cons]; omega)
   constructor
   ·unfold qd.prodText_j1
    rw [if_pos (dt (by omega)), hc', if_pos rfl, if_neg hc, if_pos (dt (by simp only [la, lc, ln]; omega)), if_pos (dt (by simp only [la, lc, ln]; omega))]
    exact this.1
   ·trivial
 unfold qd.prodText kB
 cases p.Lex with
 | true => exact j1 _ (by decide)
 | false => exact j1 _ (by decide)
end
theorem ud {r : Int} (h1 : 0 <= r) (h2 : r <= 999999) : (Lib.itoa r).length <= 6 := by
 unfold Lib.itoa
 rw [if_neg (by omega), Lib.decDigits_length]
 have : ∀ u : Nat, u <= 999999 -> Lib.nDigits u <= 6 := by
  intro u hu
  by_cases h0 : u < 10
  ·rw [Lib.nDigits_small h0]; omega
  rw [Lib.nDigits_big h0]
  by_cases h1 : u / 10 < 10
  ·rw [Lib.nDigits_small h1]; omega
  rw [Lib.nDigits_big h1]
  by_cases h2 : u / 10 / 10 < 10
  ·rw [Lib.nDigits_small h2]; omega
  rw [Lib.nDigits_big h2]
  by_cases h3 : u / 10 / 10 / 10 < 10
  ·rw [Lib.nDigits_small h3]; omega
  rw [Lib.nDigits_big h3]
  by_cases h4 : u / 10 / 10 / 10 / 10 < 10
  ·rw [Lib.nDigits_small h4]; omega
  rw [Lib.nDigits_big h4]
  rw [Lib.nDigits_small (by omega)]
  omega
 exact this _ (by omega)
theorem nDigits_le {r : Int} (h1 : 0 <= r) (h2 : r <= 999999) : Lib.nDigits r.toNat <= 6 := by
 have := ud h1 h2
 unfold Lib.itoa at this
 rw [if_neg (by omega), Lib.decDigits_length] at this
 exact this
theorem Itoa_ok {r : Int} (h1 : 0 <= r) (h2 : r <= 999999) : F.strconv.Itoa r = some (Lib.itoa r) := by
 unfold F.strconv.Itoa
 rw [if_pos (by simp; omega)]
def asW (a : Int) : List UInt8 := if a = 1 then [32, 108, 101, 102, 116] else if a = 2 then [32, 114, 105, 103, 104, 116] else if a = 3 then [32, 110, 111, 110] else []
def uj (l : List (List UInt8)) : List UInt8 := l.flatMap fun c => 32 :: c
def vQ (g : zw) : List UInt8 := asW g.Assoc ++ uj g.Cons
def chainG : List zw -> List UInt8
 | [] => []
 | g :: r => vQ g ++ r.flatMap fun h => [32, 62] ++ vQ h
def wI (l : List zw) : List UInt8 := [112, 114, 105, 111] ++ chainG l
theorem uS : ∀ {l : List (List UInt8)}, l.all yU = true -> (uj l).length <= 33 * l.length
 | [], _ => by simp [uj]
 | c :: r, h => by
  simp only [List.all_cons, Bool.and_eq_true] at h
  have h1 := (wq h.1).2
  have h2 := uS h.2
  simp only [uj, List.flatMap_cons, List.length_append, List.length_cons] at *
  omega
theorem asW_len (a : Int) : (asW a).length <= 6 := by
 unfold asW
 repeat' split
 all_goals simp
theorem ki {g : zw} (h : wu g = true) : (0 <= g.Assoc /\ g.Assoc <= 3) /\ 1 <= g.Cons.length /\ g.Cons.length <= 16 /\ g.Cons.all yU = true := by
 simp only [wu, Bool.and_eq_true, decide_eq_true_eq] at h
 exact ⟨h.1, h.2.1.1, h.2.1.2, h.2.2⟩
theorem groupT_len {g : zw} (h : wu g = true) : (vQ g).length <= 600 := by
 obtain ⟨_, _, h1, h2⟩ := ki h
 have := uS h2
 have := asW_len g.Assoc
 unfold vQ
 rw [List.length_append]
 omega
theorem ju {l : List zw} (h : wJ l = true) : 1 <= l.length /\ l.length <= 16 /\ ∀ g ∈ l, wu g = true := by
 simp only [wJ, Bool.and_eq_true, decide_eq_true_eq] at h
 exact ⟨h.1.1, h.1.2, List.all_eq_true.1 h.2⟩
theorem flat_len {α : Type} {f : α -> List UInt8} {M : Nat} : ∀ {l : List α}, (∀ x ∈ l, (f x).length <= M) -> (l.flatMap f).length <= M * l.length
 | [], _ => by simp
 | x :: r, h => by
  have h1 := h x (by simp)
  have h2 := flat_len (fun y hy => h y (List.mem_cons_of_mem x hy))
  simp only [List.flatMap_cons, List.length_append, List.length_cons, Nat.mul_add]
  omega
theorem chainT_len {l : List zw} (h : wJ l = true) : (wI l).length <= 12000 := by
 obtain ⟨h1, h2, h3⟩ := ju h
 cases l with
 | nil => simp at h1
 | cons g r =>
  have a := groupT_len (h3 g (by simp))
  have b : (r.flatMap fun h => [32, 62] ++ vQ h).length <= 602 * r.length := flat_len (fun x hx => by have := groupT_len (h3 x (by simp [hx])); simp only [la, lc, ln]; omega)
  simp only [List.length_cons] at h2
  unfold wI chainG
  simp only [la, lc, ln]; omega
theorem jy (sep : List UInt8) (r : List (List UInt8)) : Lib.joinTail sep r = r.flatMap fun c => sep ++ c := by
 unfold Lib.joinTail
 rw [List.flatMap_def]
def gx (g : zw) : List UInt8 := (if g.Assoc = 1 then [108, 101, 102, 116, 32] else if g.Assoc = 2 then [114, 105, 103, 104, 116, 32] else if g.Assoc = 3 then [110, 111, 110, 32] else []) ++ Lib.join g.Cons [32]
theorem partP_eq {g : zw} (h : wu g = true) : 32 :: gx g = vQ g := by
 obtain ⟨_, h1, _, _⟩ := ki h
 unfold gx vQ asW uj
 cases hc : g.Cons with
 | nil => rw [hc] at h1; simp at h1
 | cons c r =>
  rw [Lib.join_cons, jy]
  repeat' split
  all_goals simp
theorem join_len {l : List (List UInt8)} (h : l.all yU = true) (hl : l.length <= 16) : (Lib.join l [32]).length <= 600 := by
 cases l with
 | nil => simp [Lib.join_nil]
 | cons c r =>
  have := uS h
  rw [Lib.join_cons, jy]
  simp only [uj, List.flatMap_cons, List.length_append, List.length_cons] at *
  have e : (r.flatMap fun c => [32] ++ c) = r.flatMap fun c => 32 :: c := rfl
  rw [e]
  omega
section
variable {k : Nat} (hk : 200000 <= k)
include hk
theorem chainText_ok {l : List zw} (h : wJ l = true) : qd.chainText k l = some (wI l ++ [59, 10]) := by
 obtain ⟨h1, h2, h3⟩ := ju h
 have l1 : qd.chainText_l1 l k [] 0 = some (l.map gx) := by
  have := loop_app (xs := l) (f := gx) (g := id) (L := fun j i acc => qd.chainText_l1 l j acc i) (fun j i acc h ha => ?_) (fun j acc => by
   simp only [qd.chainText_l1, xy (Nat.lt_irrefl _)]; rfl) k 0 [] (by omega) rfl (by omega)
  ·rwa [List.drop_zero, List.nil_append] at this
  ·have hg := h3 _ (List.getElem_mem h)
   obtain ⟨ha0, hc1, hc2, hc3⟩ := ki hg
   have hjl := join_len hc3 hc2
   have hj : F.strings.Join l[i].Cons [32] = some (Lib.join l[i].Cons [32]) := by
    unfold F.strings.Join
    rw [if_pos (by simp only [Bool.and_eq_true, decide_eq_true_eq]; omega)]
   have fin : ∀ t, qd.chainText_j3 acc (qd.chainText_l1 l j) (i : Int) t = qd.chainText_l1 l j (acc ++ [t]) ((i + 1 : Nat) : Int) := fun t => by
    unfold qd.chainText_j3 qd.chainText_j2
    rw [if_pos (dt (by simp only [la, lc, ln]; omega)), if_pos (dt (by simp only [la, lc, ln]; omega)), yg (by omega)]
   simp only [qd.chainText_l1, xB h, yQ h, yG h, if_true, hj, Option.bind_some, fin]
   unfold gx
   by_cases a0 : l[i].Assoc = 0
   ·simp [a0]
   have a0' : (l[i].Assoc != 0) = true := by simp [a0]
   have ain : xf l[i].Assoc 4 = true := by simp only [xf, Bool.and_eq_true, decide_eq_true_eq]; omega
   rw [a0', if_pos rfl, ain, if_pos rfl]
   have key : ∀ w : List UInt8, w.length <= 10 -> decide (w.length + (Lib.join l[i].Cons [32]).length <= 9223372036854775807) = true := fun w hw => decide_eq_true (by omega)
   by_cases a1 : l[i].Assoc = 1
   ·rw [a1, if_pos rfl, show at_ ([([] : List UInt8), ([108, 101, 102, 116, 32] : List UInt8), ([114, 105, 103, 104, 116, 32] : List UInt8), ([110, 111, 110, 32] : List UInt8)] : List (List UInt8)) 1 = [108, 101, 102, 116, 32] from rfl, key _ (by decide), if_pos rfl]
   by_cases a2 : l[i].Assoc = 2
   ·rw [a2, show at_ ([([] : List UInt8), ([108, 101, 102, 116, 32] : List UInt8), ([114, 105, 103, 104, 116, 32] : List UInt8), ([110, 111, 110, 32] : List UInt8)] : List (List UInt8)) 2 = [114, 105, 103, 104, 116, 32] from rfl, key _ (by decide), if_pos rfl]
    rfl
   have a3 : l[i].Assoc = 3 := by omega
   rw [a3, show at_ ([([] : List UInt8), ([108, 101, 102, 116, 32] : List UInt8), ([114, 105, 103, 104, 116, 32] : List UInt8), ([110, 111, 110, 32] : List UInt8)] : List (List UInt8)) 3 = [110, 111, 110, 32] from rfl, key _ (by decide), if_pos rfl]
   rfl
 have hT : 112 :: 114 :: 105 :: 111 :: 32 :: Lib.join (l.map gx) [32, 62, 32] = wI l := by
  cases l with
  | nil => simp at h1
  | cons g r =>
   rw [List.map_cons, Lib.join_cons, jy]
   simp only [wI, chainG]
   rw [<- partP_eq (h3 g (by simp))]
   have : ∀ r : List zw, (∀ x ∈ r, wu x = true) -> ((r.map gx).flatMap fun c => [32, 62, 32] ++ c) = r.flatMap fun h => [32, 62] ++ vQ h := by
    intro r
    induction r with
    | nil => intro _; rfl
    | cons x r ih =>
     intro hr
     rw [List.map_cons, List.flatMap_cons, List.flatMap_cons, ih (fun y hy => hr y (by simp [hy])), <- partP_eq (hr x (by simp))]
     simp
   rw [this r (fun x hx => h3 x (by simp [hx]))]
   simp
 have hlen := chainT_len h
 have hjl : (Lib.join (l.map gx) [32, 62, 32]).length <= 12000 := by
  rw [<- hT] at hlen
  simp only [List.length_cons] at hlen
  omega
 unfold qd.chainText
 rw [l1]
 simp only [Option.bind_some]
 have hj : F.strings.Join (l.map gx) [32, 62, 32] = some (Lib.join (l.map gx) [32, 62, 32]) := by
  unfold F.strings.Join
  rw [if_pos (by simp only [Bool.and_eq_true, decide_eq_true_eq, List.length_map]; omega)]
 rw [hj]
 simp only [Option.bind_some]
 rw [if_pos (dt (by simp only [la, lc, ln]; omega)), if_pos (dt (by simp only [la, lc, ln]; omega)), <- hT]
 simp
end
mutual
def itT : Item -> List UInt8
 | .mk a b c l => if a = 1 then 32 :: quo (ve b) else if a = 2 then 32 :: Lib.itoa c else if a = 3 then [32, 95] else if a = 4 then [32, 47]
  else if a = 5 then [32, 110, 101, 115, 116, 32] ++ Lib.itoa c ++ [32, 40] ++ j7 l ++ [32, 41]
  else if a = 6 then [32, 103, 114, 111, 117, 112, 32, 40] ++ j7 l ++ [32, 41] else []
def j7 : List Item -> List UInt8
 | [] => []
 | x :: r => itT x ++ j7 r
end
theorem itsT_flat : ∀ l : List Item, j7 l = l.flatMap itT
 | [] => rfl
 | x :: r => by rw [j7, itsT_flat r, List.flatMap_cons]
theorem itT_eq (x : Item) : itT x = if x.Kind = 1 then 32 :: quo (ve x.Text) else if x.Kind = 2 then 32 :: Lib.itoa x.N_ else if x.Kind = 3 then [32, 95] else if x.Kind = 4 then [32, 47]
  else if x.Kind = 5 then [32, 110, 101, 115, 116, 32] ++ Lib.itoa x.N_ ++ [32, 40] ++ j7 x.Items ++ [32, 41]
  else if x.Kind = 6 then [32, 103, 114, 111, 117, 112, 32, 40] ++ j7 x.Items ++ [32, 41] else [] := by cases x; rw [itT]
theorem qW {x : Item} {r : List Item} {n m : Nat} (h : wF (x :: r) n = some m) : ∃ n' a, n = n' + 1 /\ wt x = true /\ wF x.Items n' = some a /\ wF r a = some m := by
 rw [wF] at h
 cases n with
 | zero => rw [itC_zero] at h; cases h
 | succ n' =>
  rw [ue] at h
  by_cases hp : wt x = true
  ·rw [if_pos hp] at h
   cases hc : wF x.Items n' with
   | none => rw [hc] at h; cases h
   | some a => rw [hc] at h; exact ⟨n', a, rfl, hp, hc, h⟩
  ·rw [if_neg hp] at h; cases h
theorem kg {x : Item} (h : wt x = true) : x.Text.length <= 32 /\ 0 <= x.N_ /\ x.N_ <= 999999 /\ 1 <= x.Kind /\ x.Kind <= 6 := by
 unfold wt numP at h
 have f : ∀ s : List UInt8, s = [] -> s.length <= 32 := fun s e => by rw [e]; simp
 split at h
 ·simp only [Bool.and_eq_true, decide_eq_true_eq, beq_iff_eq] at h
  refine ⟨h.1, ?_⟩; rw [h.2.1]; omega
 split at h
 ·simp only [Bool.and_eq_true, decide_eq_true_eq, beq_iff_eq] at h
  exact ⟨f _ h.1, h.2.1.1, h.2.1.2, by omega, by omega⟩
 split at h
 ·simp only [Bool.and_eq_true, decide_eq_true_eq, beq_iff_eq] at h
  refine ⟨f _ h.1, ?_⟩; rw [h.2.1]; omega
 split at h
 ·simp only [Bool.and_eq_true, decide_eq_true_eq, beq_iff_eq] at h
  exact ⟨f _ h.1, h.2.1, h.2.2, by omega, by omega⟩
 split at h
 ·simp only [Bool.and_eq_true, beq_iff_eq] at h
  refine ⟨f _ h.1, ?_⟩; rw [h.2]; omega
 ·cases h
theorem kf : ∀ (n : Nat) (l : List Item) (m : Nat), wF l n = some m -> (j7 l).length <= 200 * (n - m) /\ m <= n /\ l.length <= n - m := by
 intro n
 induction n using Nat.strongRecOn with
 | _ n ih =>
  intro l m h
  cases l with
  | nil =>
   simp only [wF, Option.some.injEq] at h
   subst h
   simp [j7]
  | cons x r =>
   obtain ⟨n', a, rfl, hp, h1, h2⟩ := qW h
   obtain ⟨i1, i2, i3⟩ := ih n' (by omega) _ _ h1
   obtain ⟨j1, j2, j3⟩ := ih a (by omega) _ _ h2
   obtain ⟨p1, p2, p3, _⟩ := kg hp
   have q := jH x.Text
   have d := ud p2 p3
   have hx : (itT x).length <= 150 + (j7 x.Items).length := by
    rw [itT_eq]
    repeat' split
    all_goals simp only [la, lc, ln]; omega
   rw [j7, List.length_append, List.length_cons]
   omega
theorem itsC_mem : ∀ (l : List Item) (n m : Nat), wF l n = some m -> ∀ x ∈ l, ∃ a b, a < n /\ wt x = true /\ wF x.Items a = some b
 | [], _, _, _, x, hx => by cases hx
 | y :: r, n, m, h, x, hx => by
  obtain ⟨n', a, rfl, hp, h1, h2⟩ := qW h
  have hle := itsC_le _ _ _ h1
  rcases List.mem_cons.1 hx with rfl | hx
  ·exact ⟨n', a, by omega, hp, h1⟩
  ·obtain ⟨u, v, g1, g2, g3⟩ := itsC_mem r a m h2 x hx
   exact ⟨u, v, by omega, g2, g3⟩
theorem itemsText_ok : ∀ (n : Nat) (l : List Item) (m k : Nat), n <= 64 -> wF l n = some m -> 150000 + n <= k -> qd.itemsText k l = some (j7 l) /\ True := by
 intro n
 induction n using Nat.strongRecOn with
 | _ n ih =>
  intro l m k hn h hk
  obtain ⟨k', rfl⟩ : ∃ k', k = k' + 1 := ⟨k - 1, by omega⟩
  obtain ⟨_, hmn, hlen⟩ := kf n l m h
  have hx := itsC_mem l n m h
  have hM : ∀ x ∈ l, (itT x).length <= 13000 := fun x hm => by
   obtain ⟨a, b, ha, hp, hc⟩ := hx x hm
   obtain ⟨i1, _, _⟩ := kf a _ b hc
   obtain ⟨p1, p2, p3, _⟩ := kg hp
   have q := jH x.Text
   have d := ud p2 p3
   rw [itT_eq]
   repeat' split
   all_goals simp only [la, lc, ln]; omega
  constructor
  ·simp only [qd.itemsText, qd.itemsText_B]
   rw [loop_txt0 (f := itT) (L := fun j i acc => qd.itemsText_l1 k' l (qd.itemsText k') j acc i) 0 13000 (by omega) hM (fun j i acc h ha => ?_) (fun j acc => ?_) [] (by simp)]
   ·rw [itsT_flat]; rfl
   ·obtain ⟨a, b, hab, hp, hc⟩ := hx _ (List.getElem_mem h)
    obtain ⟨p1, p2, p3, p4, p5⟩ := kg hp
    obtain ⟨i1, _, _⟩ := kf a _ b hc
    have q := jH l[i].Text
    have d := ud p2 p3
    have hq := quo_ofS (s := l[i].Text) (by omega) (show 100000 <= k' by omega)
    have hrec := ih a (by omega) l[i].Items b k' (by omega) hc (by omega)
    rw [itT_eq]
    simp only [qd.itemsText_l1, qd.itemsText_j9, qd.itemsText_j8, qd.itemsText_j7, qd.itemsText_j6, qd.itemsText_j5, qd.itemsText_j4, qd.itemsText_j3, qd.itemsText_j2, xB h, yQ h, yG h, if_true, hq.1, hrec.1, Itoa_ok p2 p3, Option.bind_some, yg (show i < 4611686018427387904 by omega)]
    by_cases c1 : l[i].Kind = 1
    ·simp only [c1, BEq.rfl, if_true]
     rw [if_pos (dt (by simp only [la, lc, ln]; omega)), if_pos (dt (by simp only [la, lc, ln]; omega))]
     rfl
    by_cases c2 : l[i].Kind = 2
    ·simp only [c2]
     rw [if_neg (by decide), if_pos (by decide), if_pos (dt (by simp only [la, lc, ln]; omega)), if_pos (dt (by simp only [la, lc, ln]; omega))]
     rfl
    by_cases c3 : l[i].Kind = 3
    ·simp only [c3]
     rw [if_neg (by decide), if_neg (by decide), if_pos (by decide), if_pos (dt (by simp only [la, lc, ln]; omega))]
     rfl
    by_cases c4 : l[i].Kind = 4
    ·simp only [c4]
     rw [if_neg (by decide), if_neg (by decide), if_neg (by decide), if_pos (by decide), if_pos (dt (by simp only [la, lc, ln]; omega))]
     rfl
    by_cases c5 : l[i].Kind = 5
    ·simp only [c5]
     rw [if_neg (by decide), if_neg (by decide), if_neg (by decide), if_neg (by decide), if_pos (by decide), if_pos (dt (by simp only [la, lc, ln]; omega)), if_pos (dt (by simp only [la, lc, ln]; omega)), if_pos (dt (by simp only [la, lc, ln]; omega)), if_pos (dt (by simp only [la, lc, ln]; omega)), if_pos (dt (by simp only [la, lc, ln]; omega))]
     rfl
    have c6 : l[i].Kind = 6 := by omega
    simp only [c6]
    rw [if_neg (by decide), if_neg (by decide), if_neg (by decide), if_neg (by decide), if_neg (by decide), if_pos (by decide), if_pos (dt (by simp only [la, lc, ln]; omega)), if_pos (dt (by simp only [la, lc, ln]; omega)), if_pos (dt (by simp only [la, lc, ln]; omega))]
    rfl
   ·simp only [qd.itemsText_l1, xy (Nat.lt_irrefl _)]; rfl
  ·trivial
end Go.Vc
