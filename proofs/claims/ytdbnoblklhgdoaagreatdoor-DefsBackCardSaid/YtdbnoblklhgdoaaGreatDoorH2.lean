import Derived.Test.YtdbnoblklhgdoaaGreatDoorH1
import Derived.Test.YtdbnoblklhgdoaaGreatDoorShelf
set_option linter.unusedVariables false
set_option linter.unusedSimpArgs false
set_option maxRecDepth 8000
set_option maxHeartbeats 1000000
namespace Go.Vc
open Go Go.Proofs Go.RowKit
def pow10cells : List Value := Lib.pow10Tab.map fun z => Value.int .u64 z
def jc (G : Nat) : Value × Dc := (.pointer (some ⟨G, 0, none⟩), .at pow10cells)
theorem tab_of_own {G : Nat} {w : World} {X : Nat -> Prop} {H : List HB} {Φ : List (Value × Dc)} (hG : Tryz.prog.globalNamed "internal/strconv.uint64pow10" = some G) (ho : Own w X H (jc G :: Φ)) : Lib.TabIs Tryz.prog w "internal/strconv.uint64pow10" .u64 Lib.pow10Tab := by
 have := ho.facts (jc G) (by simp)
 unfold jc at this
 cases this with
 | «at» b cs T fz hX hb hc =>
  unfold Lib.TabIs World.var?
  rw [hG]
  simp only [Option.bind_some, hc]
  rfl
theorem fin_grow {w w' : World} {post : vT} {o : Out} {k : Nat} {os : Array Obj} (he : w' = Sort.grow (w.drewN k) os) {X : Nat -> Prop} {Φ : List (Value × Dc)} (ho : Own w X [] Φ) (hp : post o [] []) : Fin w X [] post o w' := by
 subst he
 have hsz : w.heap.size <= (Sort.grow (w.drewN k) os).heap.size := by simp [Sort.grow, World.drewN]
 have hold : ∀ b, b < w.heap.size -> (Sort.grow (w.drewN k) os).heap[b]? = w.heap[b]? := fun b hb => by
  simp only [Sort.grow, World.drewN]
  exact Array.getElem?_append_left hb
 refine ⟨[], [], hp, ⟨rfl, rfl, rfl, hsz, fun b hb _ => hold b hb⟩, ?_, by simp⟩
 have := ho.grow hsz hold
 exact ⟨this.xin, by simp, by simp, by simp, by simp, by simp⟩
theorem tri73 (n : Int) (r : List UInt8) (hF : F.strconv.Itoa n = some r) :
  xu Tryz.prog 73 [.int .i64 n] [] [jc 1] (fun o H Φ => o = .ret (.string (bs r)) /\ H = [] /\ Φ = []) := by
 unfold F.strconv.Itoa at hF
 split at hF
 ·rename_i hb
  simp only [Bool.and_eq_true, decide_eq_true_eq] at hb
  cases hF
  intro w X ho
  have := Tryz.strconv_Itoa n hb.1 hb.2 w (tab_of_own (G := 1) (by kernel_rfl) ho)
  refine this.mono ?_
  rintro e w' ⟨rfl, k, os, he⟩
  exact ⟨.ret (.string (bs (Lib.itoa n))), rfl, fin_grow he ho ⟨rfl, rfl, rfl⟩⟩
 ·cases hF
theorem tri102 (s : List UInt8) (c : Int) (r : Int) (hF : F.strings.IndexByte s c = some r) :
  xu Tryz.prog 102 [.string (bs s), .int .u8 c] [] [] (fun o H Φ => o = .ret (.int .i64 r) /\ H = [] /\ Φ = []) := by
 cases hF
 intro w X ho
 refine (Tryz.strings_IndexByte (bs s) c w).mono ?_
 rintro e w' ⟨rfl, rfl⟩
 exact ⟨.ret _, rfl, [], [], ⟨rfl, rfl, rfl⟩, Frm.refl _ _, ho, by simp⟩
theorem tri71 (xs : List (List UInt8)) (sep : List UInt8) (sa1 : Option Addr) (sn1 sc1 : Nat) (r : List UInt8) (hF : F.strings.Join xs sep = some r) :
  xu Tryz.prog 71 [.slice sa1 sn1 sc1, .string (bs sep)] [] [(.slice sa1 sn1 sc1, .slice 1 (xs.map xn))] (fun o H Φ => o = .ret (.string (bs r)) /\ H = [] /\ Φ = []) := by
 unfold F.strings.Join at hF
 split at hF
 case isFalse => cases hF
 rename_i hb
 simp only [Bool.and_eq_true, decide_eq_true_eq] at hb
 cases hF
 intro w X ho
 have hfact := ho.facts _ List.mem_cons_self
 have hown : Own w X [] [] := ho.sub (List.Sublist.refl _) (fun p hp => by cases hp)
 have hmap : ∀ (xs : List (List UInt8)), (xs.map bs).map (·.data.toList) = xs := by
  intro xs
  induction xs with
  | nil => rfl
  | cons x xs ih => simp only [List.map_cons, ih]; rfl
 generalize hd : Dc.slice 1 (xs.map xn) = dd at hfact
 have hfin : ∀ w', Below w.heap.size w w' -> Fin w X [] (fun o H Φ => o = .ret (.string (bs (Lib.join xs sep))) /\ H = [] /\ Φ = []) (.ret (.string (bs (Lib.join xs sep)))) w' := by
  intro w' hbl
  have hold : ∀ b, b < w.heap.size -> w'.heap[b]? = w.heap[b]? := hbl.block
  refine ⟨[], [], ⟨rfl, rfl, rfl⟩, ⟨hbl.os, hbl.tape, hbl.output, hbl.size, fun b hb _ => hold b hb⟩, ?_, by simp⟩
  have := hown.grow hbl.size hold
  exact ⟨this.xin, by simp, by simp, by simp, by simp, by simp⟩
 cases hfact with
 | own => cases hd
 | nil a cap sz =>
  simp only [Dc.slice.injEq] at hd
  have : xs = [] := List.map_eq_nil_iff.1 hd.2
  subst this
  refine (Tryz.strings_Join_none _ _ (bs sep) w).mono ?_
  rintro e w' ⟨rfl, rfl⟩
  exact ⟨.ret _, rfl, hfin w' (Below.refl _ _)⟩
 | slice b o len cap sz ys vs hlen hcap hX hbb hsz hc he =>
  simp only [Dc.slice.injEq] at hd
  obtain ⟨rfl, rfl⟩ := hd
  simp only [List.length_map] at hlen
  subst hlen
  have hcells : ∀ (j : Nat) x, (xs.map bs)[j]? = some x -> w.cell? ⟨b, o + j, none⟩ = some (.string x) := by
   intro j x hx
   simp only [List.getElem?_map, Option.map_eq_some_iff] at hx
   obtain ⟨s, hs, rfl⟩ := hx
   obtain ⟨hj, hs⟩ := List.getElem?_eq_some_iff.1 hs
   have h1 := hc j 0 hj (by omega)
   have h2 := he j 0 (by simpa using hj) (by simp [xn])
   simp only [List.getElem_map, xn, List.getElem_cons_zero] at h2
   rw [Nat.mul_one, Nat.add_zero] at h1
   rw [h1]
   cases h2' : vs j 0 <;> rw [h2'] at h2 <;> cases h2
   rw [hs]
  have hr := Tryz.strings_Join _ _ _ (xs.map bs) (bs sep) w hcells hbb (by simpa using hb.1) (by simpa using hcap) (by rw [hmap]; exact hb.2)
  rw [hmap, List.length_map] at hr
  refine hr.mono ?_
  rintro e w' ⟨rfl, hbl⟩
  exact ⟨.ret _, rfl, hfin w' hbl⟩
end Go.Vc
