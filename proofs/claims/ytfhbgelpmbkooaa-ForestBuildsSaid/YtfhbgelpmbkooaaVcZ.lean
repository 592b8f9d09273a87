/-
  Rows of rows and rows of maps that are written in place; loops that are left to an outer block.
-/
import Derived.Test.YtfhbgelpmbkooaaVcY
import Derived.Test.YtfhbgelpmbkooaaVcV
set_option linter.unusedVariables false
set_option linter.unusedSimpArgs false
namespace Go.Vc
open Go Go.MapKept
abbrev H3 := Option Addr × Nat × Nat
def h0 : Nat → H3 := fun _ => (none, 0, 0)
def upd {β : Type} (f : Nat → β) (i : Int) (x : β) : Nat → β := fun k => if k = i.toNat then x else f k
def slW (h : H3) : Value := .slice h.1 h.2.1 h.2.2
def dcells {α : Type} (le : List α) (hs : Nat → H3) : List (List Dc) := (List.range le.length).map fun i => [Dc.own (hs i).1 (hs i).2.1 (hs i).2.2]
def dfam {α : Type} (T : TypeId) (sz : Nat) (enc : α → List Dc) (le : List (List α)) (hs : Nat → H3) : List (Value × TypeId × Nat × List (List Dc)) :=
  (List.range le.length).map fun i => (slW (hs i), T, sz, (le.getD i default).map enc)
def mcells {α : Type} (le : List α) (ms : Nat → Nat) : List (List Dc) := (List.range le.length).map fun i => [Dc.mp (ms i)]
def mfam {κ : Type} (enc : κ → Value) (le : List (List (κ × Int))) (ms : Nat → Nat) : List (Nat × List (Value × Value)) :=
  (List.range le.length).map fun i => (ms i, mEnc enc (tenc (le.getD i default)))
theorem dcells_length {α : Type} (le : List α) (hs : Nat → H3) : (dcells le hs).length = le.length := by simp [dcells]
theorem mcells_length {α : Type} (le : List α) (ms : Nat → Nat) : (mcells le ms).length = le.length := by simp [mcells]
theorem set_len {α : Type} (xs : List α) (i : Int) (x : α) : (set_ xs i x).length = xs.length := by simp [set_]
theorem inR_lt {i : Int} {n : Nat} (hi : inR i n = true) : i.toNat < n := by
  obtain ⟨h0, h1⟩ := inR_iff.1 hi
  omega
theorem dcells_at {α : Type} {le : List α} {hs : Nat → H3} {i : Int} (hi : inR i le.length = true) : at_ (dcells le hs) i = [Dc.own (hs i.toNat).1 (hs i.toNat).2.1 (hs i.toNat).2.2] := by
  have h := inR_lt hi
  simp [at_, dcells, h]
theorem mcells_at {α : Type} {le : List α} {ms : Nat → Nat} {i : Int} (hi : inR i le.length = true) : at_ (mcells le ms) i = [Dc.mp (ms i.toNat)] := by
  have h := inR_lt hi
  simp [at_, mcells, h]
theorem dcells_set {α : Type} {le le1 : List α} {hs : Nat → H3} {i : Int} {x : H3} (hl : le1.length = le.length) (hi : inR i le.length = true) : set_ (dcells le hs) i [Dc.own x.1 x.2.1 x.2.2] = dcells le1 (upd hs i x) := by
  apply List.ext_getElem
  · simp [set_, dcells, hl]
  · intro k h1 h2
    simp only [set_, dcells, List.getElem_set, List.getElem_map, List.getElem_range, upd]
    by_cases hk : i.toNat = k
    · subst hk; simp
    · rw [if_neg hk, if_neg (fun e => hk e.symm)]
theorem dfam_get {α : Type} {T : TypeId} {sz : Nat} {enc : α → List Dc} {le : List (List α)} {hs : Nat → H3} {i : Int} (hi : inR i le.length = true) : (dfam T sz enc le hs)[i.toNat]? = some (slW (hs i.toNat), T, sz, (at_ le i).map enc) := by
  have h := inR_lt hi
  simp [dfam, h, at_]
theorem mfam_get {κ : Type} {enc : κ → Value} {le : List (List (κ × Int))} {ms : Nat → Nat} {i : Int} (hi : inR i le.length = true) : (mfam enc le ms)[i.toNat]? = some (ms i.toNat, mEnc enc (tenc (at_ le i))) := by
  have h := inR_lt hi
  simp [mfam, h, at_]
theorem dfam_set {α : Type} {T : TypeId} {sz : Nat} {enc : α → List Dc} {le : List (List α)} {hs : Nat → H3} {i : Int} {x : H3} {xs : List α} (hi : inR i le.length = true) :
    dfam T sz enc (set_ le i xs) (upd hs i x) = (dfam T sz enc le hs).set i.toNat (slW x, T, sz, xs.map enc) := by
  have hlt := inR_lt hi
  apply List.ext_getElem
  · simp [set_, dfam]
  · intro k h1 h2
    have hk2 : k < le.length := by simpa [dfam, set_] using h1
    simp only [dfam, List.getElem_set, List.getElem_map, List.getElem_range, upd, set_]
    by_cases hk : i.toNat = k
    · subst hk; simp [hlt]
    · rw [if_neg hk, if_neg (fun e => hk e.symm)]
      simp [hk2, List.getElem_set, hk]
theorem mfam_set {κ : Type} {enc : κ → Value} {le : List (List (κ × Int))} {ms : Nat → Nat} {i : Int} {m : List (κ × Int)} (hi : inR i le.length = true) :
    mfam enc (set_ le i m) ms = (mfam enc le ms).set i.toNat (ms i.toNat, mEnc enc (tenc m)) := by
  have hlt := inR_lt hi
  apply List.ext_getElem
  · simp [set_, mfam]
  · intro k h1 h2
    have hk2 : k < le.length := by simpa [mfam, set_] using h1
    simp only [mfam, List.getElem_set, List.getElem_map, List.getElem_range, set_]
    by_cases hk : i.toNat = k
    · subst hk; simp [hlt]
    · rw [if_neg hk]
      simp [hk2, List.getElem_set, hk]
theorem Own.retell {w : World} {X : Nat → Prop} {H H' : List HB} {Φ : List (Value × Dc)} (o : Own w X H Φ) (hp : (blks H').Perm (blks H)) (hl : ∀ Y, (∀ h ∈ H, Live w Y h) → ∀ h ∈ H', Live w Y h) : Own w X H' Φ := by
  have e : (fun b => X b ∨ b ∈ blks H') = (fun b => X b ∨ b ∈ blks H) := by
    funext b
    rw [propext hp.mem_iff]
  refine ⟨o.xin, hp.nodup_iff.2 o.nodup, fun b hb => o.apart b (hp.mem_iff.1 hb), fun b hb => o.inw b (hp.mem_iff.1 hb), ?_, ?_⟩
  · rw [e]; exact hl _ o.live
  · rw [e]; exact o.facts
theorem erase_perm {α : Type} {L : List α} {i : Nat} {r : α} (hi : L[i]? = some r) : (r :: L.eraseIdx i).Perm L := by
  have h := getElem?_split hi
  rw [List.eraseIdx_eq_take_drop_succ]
  refine List.Perm.trans ?_ (List.Perm.of_eq h.symm)
  exact List.perm_middle.symm
section
variable {E : Env} {l : List (Nat × Value)} {H : List HB} {Φ : List (Value × Dc)}
theorem st_retell {H' : List HB} (hp : (blks H').Perm (blks H)) (hl : ∀ w Y, (∀ h ∈ H, Live w Y h) → ∀ h ∈ H', Live w Y h) : ∀ a w, St E l H Φ a w → St E l H' Φ a w := by
  intro a w hs
  exact ⟨hs.size, hs.defers, hs.tm, hs.own.retell hp (hl w), hs.frm, fun b hb => hs.base b (hp.mem_iff.1 hb)⟩
abbrev FamR := Value × TypeId × Nat × List (List Dc)
def rowOf (r : FamR) : HB := .row r.1 r.2.1 r.2.2.1 r.2.2.2
theorem blks_split (H₁ H₂ : List HB) (h : HB) : (blks (H₁ ++ h :: H₂)).Perm (h.bks ++ blks (H₁ ++ H₂)) := by
  rw [blks_append, blks_cons, blks_append]
  exact List.perm_append_comm_assoc ..
theorem fam_perm {j i : Nat} {L : List FamR} {r : FamR} (hj : H[j]? = some (.fam L)) (hi : L[i]? = some r) : (blks (rowOf r :: H.set j (.fam (L.eraseIdx i)))).Perm (blks H) := by
  have h1 := getElem?_split hj
  rw [set_split hj]
  refine List.Perm.trans ?_ (List.Perm.of_eq (congrArg blks h1.symm))
  refine List.Perm.trans ?_ (blks_split _ _ _).symm
  rw [blks_cons]
  refine ((blks_split _ _ _).append_left _).trans ?_
  rw [← List.append_assoc]
  refine List.Perm.append_right _ ?_
  have := (erase_perm hi).filterMap (fun r => slB r.1)
  refine List.Perm.trans ?_ this
  cases h : slB r.1 <;> simp [HB.bks, rowOf, h]
theorem st_open {j i : Nat} {L : List FamR} {r : FamR} (hj : H[j]? = some (.fam L)) (hi : L[i]? = some r) : ∀ a w, St E l H Φ a w → St E l (rowOf r :: H.set j (.fam (L.eraseIdx i))) Φ a w := by
  refine st_retell (fam_perm hj hi) fun w Y hl h hh => ?_
  have hm := hl _ (List.mem_of_getElem? hj)
  rcases List.mem_cons.1 hh with rfl | hh
  · exact hm r (List.mem_of_getElem? hi)
  · rcases List.mem_or_eq_of_mem_set hh with hh | rfl
    · exact hl h hh
    · exact fun r hr => hm r ((List.eraseIdx_sublist L i).subset hr)
theorem st_close {j i : Nat} {L : List FamR} {r : FamR} (hj : H[j]? = some (.fam (L.eraseIdx i))) (hi : L[i]? = some r) : ∀ a w, St E l (rowOf r :: H) Φ a w → St E l (H.set j (.fam L)) Φ a w := by
  have hlt : j < H.length := (List.getElem?_eq_some_iff.1 hj).1
  have hj2 : (H.set j (.fam L))[j]? = some (.fam L) := by simp [hlt]
  have hp := fam_perm hj2 hi
  rw [List.set_set] at hp
  have e : H.set j (.fam (L.eraseIdx i)) = H := by
    apply List.ext_getElem?
    intro k
    rw [List.getElem?_set]
    by_cases hk : j = k
    · subst hk; rw [if_pos rfl, if_pos hlt, hj]
    · rw [if_neg hk]
  rw [e] at hp
  refine st_retell hp.symm fun w Y hl h hh => ?_
  rcases List.mem_or_eq_of_mem_set hh with hh | rfl
  · exact hl h (List.mem_cons_of_mem _ hh)
  · intro q hq
    have := (erase_perm hi).mem_iff.2 hq
    rcases List.mem_cons.1 this with rfl | hq
    · exact hl (rowOf q) List.mem_cons_self
    · exact hl _ (List.mem_cons_of_mem _ (List.mem_of_getElem? hj)) q hq
theorem fmp_perm {j i : Nat} {L : List (Nat × List (Value × Value))} {r : Nat × List (Value × Value)} (hj : H[j]? = some (.fmp L)) (hi : L[i]? = some r) : (blks (HB.mp r.1 r.2 :: H.set j (.fmp (L.eraseIdx i)))).Perm (blks H) := by
  have h1 := getElem?_split hj
  rw [set_split hj]
  refine List.Perm.trans ?_ (List.Perm.of_eq (congrArg blks h1.symm))
  refine List.Perm.trans ?_ (blks_split _ _ _).symm
  rw [blks_cons]
  refine ((blks_split _ _ _).append_left _).trans ?_
  rw [← List.append_assoc]
  refine List.Perm.append_right _ ?_
  have := (erase_perm hi).map Prod.fst
  simpa [HB.bks] using this
theorem st_openM {j i : Nat} {L : List (Nat × List (Value × Value))} {r : Nat × List (Value × Value)} (hj : H[j]? = some (.fmp L)) (hi : L[i]? = some r) : ∀ a w, St E l H Φ a w → St E l (.mp r.1 r.2 :: H.set j (.fmp (L.eraseIdx i))) Φ a w := by
  refine st_retell (fmp_perm hj hi) fun w Y hl h hh => ?_
  have hm := hl _ (List.mem_of_getElem? hj)
  rcases List.mem_cons.1 hh with rfl | hh
  · exact hm r (List.mem_of_getElem? hi)
  · rcases List.mem_or_eq_of_mem_set hh with hh | rfl
    · exact hl h hh
    · exact fun r hr => hm r ((List.eraseIdx_sublist L i).subset hr)
theorem st_closeM {j i : Nat} {L : List (Nat × List (Value × Value))} {r : Nat × List (Value × Value)} (hj : H[j]? = some (.fmp (L.eraseIdx i))) (hi : L[i]? = some r) : ∀ a w, St E l (.mp r.1 r.2 :: H) Φ a w → St E l (H.set j (.fmp L)) Φ a w := by
  have hlt : j < H.length := (List.getElem?_eq_some_iff.1 hj).1
  have hj2 : (H.set j (.fmp L))[j]? = some (.fmp L) := by simp [hlt]
  have hp := fmp_perm hj2 hi
  rw [List.set_set] at hp
  have e : H.set j (.fmp (L.eraseIdx i)) = H := by
    apply List.ext_getElem?
    intro k
    rw [List.getElem?_set]
    by_cases hk : j = k
    · subst hk; rw [if_pos rfl, if_pos hlt, hj]
    · rw [if_neg hk]
  rw [e] at hp
  refine st_retell hp.symm fun w Y hl h hh => ?_
  rcases List.mem_or_eq_of_mem_set hh with hh | rfl
  · exact hl h (List.mem_cons_of_mem _ hh)
  · intro q hq
    have := (erase_perm hi).mem_iff.2 hq
    rcases List.mem_cons.1 this with rfl | hq
    · exact hl (.mp q.1 q.2) List.mem_cons_self
    · exact hl _ (List.mem_cons_of_mem _ (List.mem_of_getElem? hj)) q hq
theorem st_front {h : HB} {j : Nat} (hj : H[j]? = some h) : ∀ a w, St E l H Φ a w → St E l (h :: H.eraseIdx j) Φ a w :=
  st_retell (perm_blks (erase_perm hj)) fun w Y hl g hg => hl g ((erase_perm hj).mem_iff.1 hg)
theorem st_nilfmp : ∀ a w, St E l H Φ a w → St E l (.fmp [] :: H) Φ a w :=
  st_retell (List.Perm.of_eq (by simp [blks_cons, HB.bks])) fun w Y hl g hg => by
    rcases List.mem_cons.1 hg with rfl | hg
    · exact fun r hr => by cases hr
    · exact hl g hg
theorem Live.pureX {w : World} {X Y : Nat → Prop} {v : Value} {T : TypeId} {sz : Nat} {xs ys : List (List Dc)} (hl : Live w X (.row v T sz xs)) (hb : ∀ b, slB v = some b → ¬ Y b ∧ b < w.heap.size)
    (hlen : ys.length = xs.length) (hsz : ∀ e ∈ ys, e.length = sz) (hY : ∀ i j u (hi : i < xs.length) (hj : j < xs[i].length) (hi2 : i < ys.length) (hj2 : j < ys[i].length), PureC w X u xs[i][j] → PureC w Y u ys[i][j]) : PureC w Y v (.slice sz ys) := by
  rcases hl with ⟨rfl, rfl⟩ | ⟨b, cap, arr, rfl, h1, h2, h3, h4, h5, h6⟩
  · have : ys = [] := List.eq_nil_of_length_eq_zero (by simpa using hlen)
    subst this
    exact .nil _ _ _
  · obtain ⟨hYb, hlt⟩ := hb b rfl
    refine .slice b 0 _ cap sz ys (fun i j => (arr[i * sz + j]?).getD undef) hlen h4 hYb hlt hsz (fun i j hi hj => ?_) (fun i j hi hj => ?_)
    · have hl1 : xs[i].length = sz := h5 _ (List.getElem_mem hi)
      obtain ⟨u, hu, _⟩ := h6 i j hi (by rw [hl1]; exact hj)
      simp only [World.cell?, h1, Nat.zero_add, hu, Option.isSome_none, Bool.false_eq_true, if_false, Option.getD_some]
    · have hi' : i < xs.length := by omega
      have hl1 : xs[i].length = sz := h5 _ (List.getElem_mem hi')
      have hl2 : ys[i].length = sz := hsz _ (List.getElem_mem hi)
      obtain ⟨u, hu, hp⟩ := h6 i j hi' (by omega)
      simp only [hu, Option.getD_some]
      exact hY i j u hi' (by omega) hi hj hp
theorem st_freezeFam : ∀ (L : List FamR) {H : List HB} {Φ : List (Value × Dc)} {j : Nat}, H[j]? = some (.fam L) → ∀ a w, St E l H Φ a w → ∃ Φ', (∀ r ∈ L, (r.1, Dc.slice r.2.2.1 r.2.2.2) ∈ Φ') ∧ (∀ p ∈ Φ, p ∈ Φ') ∧ St E l (H.eraseIdx j) Φ' a w
  | [], H, Φ, j, hj, a, w, hs => ⟨Φ, (fun r hr => by cases hr), (fun p h => h), w_weaken (fun _ _ h => h) (List.eraseIdx_sublist H j) (fun _ h => h) hs⟩
  | r :: L, H, Φ, j, hj, a, w, hs => by
    have h1 := st_open (i := 0) hj rfl a w hs
    have h2 := st_freeze (H := rowOf r :: H.set j (.fam L)) 0 rfl a w h1
    have hlt : j < H.length := (List.getElem?_eq_some_iff.1 hj).1
    have hj2 : (H.set j (.fam L))[j]? = some (.fam L) := by simp [hlt]
    obtain ⟨Φ', h3, h4, h5⟩ := st_freezeFam L hj2 a w h2
    refine ⟨Φ', ?_, fun p hp => h4 p (List.mem_cons_of_mem _ hp), ?_⟩
    · intro q hq
      rcases List.mem_cons.1 hq with rfl | hq
      · exact h4 _ List.mem_cons_self
      · exact h3 q hq
    · have e : (H.set j (.fam L)).eraseIdx j = H.eraseIdx j := by
        apply List.ext_getElem?
        intro k
        rw [List.getElem?_eraseIdx, List.getElem?_eraseIdx]
        split
        · rw [List.getElem?_set_ne (by omega)]
        · rw [List.getElem?_set_ne (by omega)]
      rw [e] at h5
      exact h5
theorem st_freezeD (jf jr : Nat) {α : Type} {T T' : TypeId} {sz : Nat} {enc : α → List Dc} {le : List (List α)} {hs' : Nat → H3} {v : Value} (hj : H[jf]? = some (.fam (dfam T sz enc le hs'))) (hr : (H.eraseIdx jf)[jr]? = some (.row v T' 1 (dcells le hs'))) :
    ∀ a w, St E l H Φ a w → St E l ((H.eraseIdx jf).eraseIdx jr) ((v, .slice 1 (le.map (eSl sz enc))) :: Φ) a w := by
  intro a w hs
  obtain ⟨Φ', h1, h2, h3⟩ := st_freezeFam _ hj a w hs
  have hsp := getElem?_split hr
  have he : (H.eraseIdx jf).eraseIdx jr = (H.eraseIdx jf).take jr ++ (H.eraseIdx jf).drop (jr + 1) := List.eraseIdx_eq_take_drop_succ ..
  have h4 := w_weaken (l' := l) (H' := (H.eraseIdx jf).eraseIdx jr) (Φ' := Φ') (fun _ _ h => h) (List.eraseIdx_sublist _ jr) (fun _ h => h) h3
  refine ⟨h4.size, h4.defers, h4.tm, ?_, h4.frm, h4.base⟩
  have o4 : Own w E.X ((H.eraseIdx jf).eraseIdx jr) Φ := h4.own.sub (List.Sublist.refl _) h2
  refine o4.addFact ?_
  have hm := h3.own.live _ (List.mem_of_getElem? hr)
  refine hm.pureX (fun b hb => ⟨?_, ?_⟩) (by simp [dcells]) (fun e he' => ?_) ?_
  · have hn := h3.own.nodup
    have hb2 : b ∈ HB.bks (.row v T' 1 (dcells le hs')) := by simp [HB.bks, hb]
    rintro (hx | hx)
    · exact h3.own.apart b (mem_bks (List.mem_of_getElem? hr) hb2) hx
    · rw [hsp] at hn
      rw [he] at hx
      have hp := (blks_split ((H.eraseIdx jf).take jr) ((H.eraseIdx jf).drop (jr + 1)) (.row v T' 1 (dcells le hs'))).nodup_iff.1 hn
      exact (List.nodup_append.1 hp).2.2 b hb2 b hx rfl
  · exact h3.own.inw b (mem_bks (List.mem_of_getElem? hr) (by simp [HB.bks, hb]))
  · obtain ⟨y, _, rfl⟩ := List.mem_map.1 he'
    rfl
  · intro i j u hi hj1 hi2 hj2 hp
    have hi3 : i < le.length := by simpa [dcells] using hi
    have hj0 : j = 0 := by
      simp [dcells] at hj1
      omega
    subst hj0
    simp only [dcells, List.getElem_map, List.getElem_range, List.getElem_cons_zero] at hp
    cases hp
    simp only [List.getElem_map, eSl, List.getElem_cons_zero]
    have hfact := h1 (slW (hs' i), T, sz, (le.getD i default).map enc) (List.mem_map.2 ⟨i, List.mem_range.2 hi3, rfl⟩)
    have hq := h4.own.facts _ hfact
    have e3 : le.getD i default = le[i] := by simp [hi3]
    simp only [e3] at hq
    exact hq
end
section
variable {E : Env} {ops : Array Oper} {os : List Oper} {l : List (Nat × Value)} {H : List HB} {Φ : List (Value × Dc)} {N : SP} {Q : QS}
variable {ty : TypeId} {pos : String} {aft : Array Edge} {d : Nat}
theorem v_indexAddr_d {α : Type} {le : List α} {hs : Nat → H3} (j : Nat) {T T' : TypeId} {x y : Operand} {a : Option Addr} {n c e bytes : Nat} {k : IntKind} {i : Int} (ht : slT E.P T = some (e, 1, bytes)) (hx : opv l x = some (.slice a n c)) (hy : opv l y = some (.int k i))
    (hj : H[j]? = some (.row (.slice a n c) T' 1 (dcells le hs))) (hi : inR i le.length = true) : Val E l H Φ (.indexAddr T x y) ty (.pointer (some ⟨blkA a, offA a + (i.toNat * 1 + 0), none⟩)) :=
  v_indexAddr_s (xs := dcells le hs) (enc := id) ht hx hy (by rw [List.map_id]; exact .r j _ hj) (by rw [dcells_length]; exact hi)
theorem v_indexAddr_m {α : Type} {le : List α} {ms : Nat → Nat} (j : Nat) {T T' : TypeId} {x y : Operand} {a : Option Addr} {n c e bytes : Nat} {k : IntKind} {i : Int} (ht : slT E.P T = some (e, 1, bytes)) (hx : opv l x = some (.slice a n c)) (hy : opv l y = some (.int k i))
    (hj : H[j]? = some (.row (.slice a n c) T' 1 (mcells le ms))) (hi : inR i le.length = true) : Val E l H Φ (.indexAddr T x y) ty (.pointer (some ⟨blkA a, offA a + (i.toNat * 1 + 0), none⟩)) :=
  v_indexAddr_s (xs := mcells le ms) (enc := id) ht hx hy (by rw [List.map_id]; exact .r j _ hj) (by rw [mcells_length]; exact hi)
theorem v_lenD {α : Type} {le : List α} {hs : Nat → H3} (j : Nat) {T T' : TypeId} {x : Operand} {a : Option Addr} {n c e bytes : Nat} (ht : slT E.P T = some (e, 1, bytes)) (hx : opv l x = some (.slice a n c)) (hj : H[j]? = some (.row (.slice a n c) T' 1 (dcells le hs))) :
    Val E l H Φ (.call ⟨.builtin .len, #[x], #[T]⟩) ty (.int .i64 (le.length : Int)) := v_len ht hx (.r j _ hj) (dcells_length le hs)
theorem v_load_d {α : Type} {le : List α} {hs : Nat → H3} (j : Nat) {t T' : TypeId} {x : Operand} {a : Option Addr} {n c : Nat} {i : Int} (ht : tyd E.P t = some (false, 1)) (hx : opv l x = some (.pointer (some ⟨blkA a, offA a + (i.toNat * 1 + 0), none⟩)))
    (hj : H[j]? = some (.row (.slice a n c) T' 1 (dcells le hs))) (hi : inR i le.length = true) : Val E l H Φ (.load t x) ty (.slice (hs i.toNat).1 (hs i.toNat).2.1 (hs i.toNat).2.2) :=
  v_load_s (xs := dcells le hs) (enc := id) (ds := [Dc.own (hs i.toNat).1 (hs i.toNat).2.1 (hs i.toNat).2.2]) ht hx (by rw [List.map_id]; exact .r j _ hj) (by rw [dcells_length]; exact hi) (by rw [dcells_at hi]; rfl) rfl rfl rfl rfl rfl rfl
theorem v_load_m {α : Type} {le : List α} {ms : Nat → Nat} (j : Nat) {t T' : TypeId} {x : Operand} {a : Option Addr} {n c : Nat} {i : Int} (ht : tyd E.P t = some (false, 1)) (hx : opv l x = some (.pointer (some ⟨blkA a, offA a + (i.toNat * 1 + 0), none⟩)))
    (hj : H[j]? = some (.row (.slice a n c) T' 1 (mcells le ms))) (hi : inR i le.length = true) : Val E l H Φ (.load t x) ty (.map (some (ms i.toNat))) :=
  v_load_s (xs := mcells le ms) (enc := id) (ds := [Dc.mp (ms i.toNat)]) ht hx (by rw [List.map_id]; exact .r j _ hj) (by rw [mcells_length]; exact hi) (by rw [mcells_at hi]; rfl) rfl rfl rfl rfl rfl rfl
theorem o_store_d {α : Type} {le : List α} {hs : Nat → H3} (le1 : List α) (jr : Nat) {dst : Option Nat} {t T : TypeId} {x y : Operand} {a a' : Option Addr} {n c n' c' : Nat} {i : Int} (hl : le1.length = le.length)
    (hdst : dst = none) (ht : tyd E.P t = some (false, 1)) (hx : opv l x = some (.pointer (some ⟨blkA a, offA a + (i.toNat * 1 + 0), none⟩))) (hy : opv l y = some (.slice a' n' c'))
    (hj : H[jr]? = some (.row (.slice a n c) T 1 (dcells le hs))) (hi : inR i le.length = true)
    (h : WO E ops os l (H.set jr (.row (.slice a n c) T 1 (dcells le1 (upd hs i (a', n', c'))))) Φ N Q) : WO E ops (⟨dst, .store t x y, ty, pos, aft, none⟩ :: os) l H Φ N Q :=
  o_store_s (xs := dcells le hs) (enc := id) (ds := [.own a' n' c']) jr [.own a' n' c'] hdst ht hx hy rfl (by rw [List.map_id]; exact hj) (by rw [dcells_length]; exact hi) (.s rfl .nil) rfl rfl
    (by rw [dcells_at hi]; rfl) (by rw [List.map_id, dcells_set (x := (a', n', c')) hl hi]; exact h)
theorem o_appendF {α : Type} {enc : α → List Dc} {le : List (List α)} {ys : List α} {hs : Nat → H3} (j : Nat) {T e : TypeId} {sz bytes : Nat} {x y : Operand} {a2 : Option Addr} {n2 c2 : Nat} {i : Int} (ht : slT E.P T = some (e, sz, bytes)) (hx : opv l x = some (.slice (hs i.toNat).1 (hs i.toNat).2.1 (hs i.toNat).2.2)) (hy : opv l y = some (.slice a2 n2 c2))
    (hj : H[j]? = some (.fam (dfam e sz enc le hs))) (hi : inR i le.length = true) (jy : Nat) {Ty : TypeId} (hw : H[jy]? = some (.row (.slice a2 n2 c2) Ty sz (ys.map enc))) (hc : decide (((at_ le i).length + ys.length) * bytes ≤ 140737488355328) = true) (hc2 : decide ((at_ le i).length + ys.length ≤ 9223372036854775807) = true) (hd : Nat.blt d E.n = true)
    (h : ∀ a n c, WO E ops os ((d, .slice a n c) :: l) (H.set j (.fam (dfam e sz enc (set_ le i (at_ le i ++ ys)) (upd hs i (a, n, c))))) Φ N Q) : WO E ops (⟨some d, .call ⟨.builtin .append, #[x, y], #[T, T]⟩, ty, pos, aft, none⟩ :: os) l H Φ N Q := by
  refine o_st (st_open hj (dfam_get hi)) ?_
  have hne : j ≠ jy := by
    intro e
    subst e
    rw [hj] at hw
    cases hw
  refine o_append (xs := at_ le i) (ys := ys) (enc := enc) 0 ht hx hy rfl (.r (jy + 1) Ty ?_) hc hc2 hd fun a n c => ?_
  · rw [List.getElem?_cons_succ, List.getElem?_set_ne hne]; exact hw
  · have hlt : j < H.length := (List.getElem?_eq_some_iff.1 hj).1
    have hi2 : inR i (set_ le i (at_ le i ++ ys)).length = true := by rw [set_len]; exact hi
    have hg := dfam_get (T := e) (sz := sz) (enc := enc) (hs := upd hs i (a, n, c)) hi2
    have e1 : at_ (set_ le i (at_ le i ++ ys)) i = at_ le i ++ ys := by
      have := inR_lt hi
      simp [at_, set_, this]
    have e2 : upd hs i (a, n, c) i.toNat = (a, n, c) := by simp [upd]
    rw [e1, e2] at hg
    have e3 : (dfam e sz enc le hs).eraseIdx i.toNat = (dfam e sz enc (set_ le i (at_ le i ++ ys)) (upd hs i (a, n, c))).eraseIdx i.toNat := by
      rw [dfam_set hi]
      exact (List.eraseIdx_set_eq ..).symm
    refine o_st (fun ac w hs' => ?_) (h a n c)
    rw [List.set_cons_zero, e3] at hs'
    have := st_close (H := H.set j (.fam ((dfam e sz enc (set_ le i (at_ le i ++ ys)) (upd hs i (a, n, c))).eraseIdx i.toNat))) (List.getElem?_set_self hlt) hg ac w hs'
    rw [List.set_set] at this
    exact this
theorem o_makeD {α : Type} {enc : α → List Dc} {sz' : Nat} {T e e' : TypeId} {bytes : Nat} {x y : Operand} {kl kc : IntKind} {c : Int} {i0 : TypeInfo} (ht : slT E.P T = some (e, 1, bytes)) (hi : E.P.info? e = some i0) (hz : i0.zero = some (.slice none 0 0)) (hx : opv l x = some (.int kl c)) (hy : opv l y = some (.int kc c)) (h0' : decide (0 ≤ c) = true) (hc : decide (bytes * c.toNat ≤ 140737488355328) = true) (hm : decide (c.toNat ≤ 9223372036854775807) = true) (hd : Nat.blt d E.n = true)
    (h : ∀ a n c', WO E ops os ((d, .slice a n c') :: l) (.fam (dfam e' sz' enc (List.replicate c.toNat ([] : List α)) h0) :: .row (.slice a n c') e 1 (dcells (List.replicate c.toNat ([] : List α)) h0) :: H) Φ N Q) : WO E ops (⟨some d, .makeSlice T x y, ty, pos, aft, none⟩ :: os) l H Φ N Q := by
  refine o_makeN [Dc.own none 0 0] ht hi hz (fun w X => .cons (.own _ _ _) .nil) hx hy h0' hc hm hd fun a n c' => ?_
  have e1 : List.replicate c.toNat [Dc.own none 0 0] = dcells (List.replicate c.toNat ([] : List α)) h0 := by
    apply List.ext_getElem
    · simp [dcells]
    · intro i h1 h2
      simp [dcells, h0]
  rw [e1]
  refine o_st (fun ac w hs => ?_) (h a n c')
  refine st_retell (List.Perm.of_eq ?_) (fun w Y hl g hg => ?_) ac w hs
  · rw [blks_cons]
    have : HB.bks (.fam (dfam e' sz' enc (List.replicate c.toNat ([] : List α)) h0)) = [] := by
      simp only [HB.bks, dfam, List.filterMap_map]
      rw [List.filterMap_eq_nil_iff]
      intro i _
      rfl
    rw [this]
    rfl
  · rcases List.mem_cons.1 hg with rfl | hg
    · intro r hr
      obtain ⟨i, hi', rfl⟩ := List.mem_map.1 hr
      refine .inl ⟨rfl, ?_⟩
      have : i < c.toNat := by simpa using hi'
      simp [this]
    · exact hl g hg
theorem v_lookupF (j : Nat) {κ : Type} {eq : κ → κ → Bool} {enc : κ → Value} {T kt et : TypeId} {x y : Operand} {k : κ} {le : List (List (κ × Int))} {ms : Nat → Nat} {i : Int} (c : Bool)
    (hT : E.P.underlying T = some (.map kt et)) (hk : KT E.P kt eq enc) (hz : (E.P.info? et).bind (·.zero) = some (.int .i64 0)) (hx : opv l x = some (.map (some (ms i.toNat)))) (hy : opv l y = some (enc k)) (hj : H[j]? = some (.fmp (mfam enc le ms))) (hi : inR i le.length = true) :
    Val E l H Φ (.lookup T x y c) ty (if c then .tuple #[.int .i64 ((tget eq k (at_ le i)).getD 0), .bool (tget eq k (at_ le i)).isSome] else .int .i64 ((tget eq k (at_ le i)).getD 0)) := by
  intro a w hs
  exact v_lookupT (H := HB.mp (ms i.toNat) (mEnc enc (tenc (at_ le i))) :: H.set j (.fmp ((mfam enc le ms).eraseIdx i.toNat))) 0 c hT hk hz hx hy rfl a w (st_openM hj (mfam_get hi) a w hs)
theorem o_updateT (j : Nat) {κ : Type} {eq : κ → κ → Bool} {enc : κ → Value} {T kt et : TypeId} {x y z : Operand} {b : Nat} {k : κ} {v : Int} {m : List (κ × Int)}
    (hT : E.P.underlying T = some (.map kt et)) (hk : KT E.P kt eq enc) (hx : opv l x = some (.map (some b))) (hy : opv l y = some (enc k)) (hv : opv l z = some (.int .i64 v)) (hj : H[j]? = some (.mp b (mEnc enc (tenc m))))
    (h : WO E ops os l (H.set j (.mp b (mEnc enc (tenc (tput eq k v m))))) Φ N Q) : WO E ops (⟨none, .mapUpdate T x y z, ty, pos, aft, none⟩ :: os) l H Φ N Q :=
  o_update j hT hk hx hy hv hj (by rw [mput_tenc]; exact h)
theorem o_updateF (j : Nat) {κ : Type} {eq : κ → κ → Bool} {enc : κ → Value} {T kt et : TypeId} {x y z : Operand} {k : κ} {v : Int} {le : List (List (κ × Int))} {ms : Nat → Nat} {i : Int}
    (hT : E.P.underlying T = some (.map kt et)) (hk : KT E.P kt eq enc) (hx : opv l x = some (.map (some (ms i.toNat)))) (hy : opv l y = some (enc k)) (hv : opv l z = some (.int .i64 v)) (hj : H[j]? = some (.fmp (mfam enc le ms))) (hi : inR i le.length = true)
    (h : WO E ops os l (H.set j (.fmp (mfam enc (set_ le i (tput eq k v (at_ le i))) ms))) Φ N Q) : WO E ops (⟨none, .mapUpdate T x y z, ty, pos, aft, none⟩ :: os) l H Φ N Q := by
  refine o_st (st_openM hj (mfam_get hi)) ?_
  refine o_updateT 0 hT hk hx hy hv rfl ?_
  have hlt : j < H.length := (List.getElem?_eq_some_iff.1 hj).1
  have hi2 : inR i (set_ le i (tput eq k v (at_ le i))).length = true := by rw [set_len]; exact hi
  have hg := mfam_get (enc := enc) (ms := ms) hi2
  have e1 : at_ (set_ le i (tput eq k v (at_ le i))) i = tput eq k v (at_ le i) := by
    have := inR_lt hi
    simp [at_, set_, this]
  rw [e1] at hg
  have e3 : (mfam enc le ms).eraseIdx i.toNat = (mfam enc (set_ le i (tput eq k v (at_ le i))) ms).eraseIdx i.toNat := by
    rw [mfam_set hi]
    exact (List.eraseIdx_set_eq ..).symm
  refine o_st (fun ac w hs' => ?_) h
  rw [List.set_cons_zero, e3] at hs'
  have := st_closeM (H := H.set j (.fmp ((mfam enc (set_ le i (tput eq k v (at_ le i))) ms).eraseIdx i.toNat))) (List.getElem?_set_self hlt) hg ac w hs'
  rw [List.set_set] at this
  exact this
theorem o_appendM {κ : Type} {enc : κ → Value} {le : List (List (κ × Int))} {ms : Nat → Nat} (m : List (κ × Int)) {b : Nat} (j jy : Nat) {T e Ty : TypeId} {bytes : Nat} {x y : Operand} {a a2 : Option Addr} {n c n2 c2 : Nat} (ht : slT E.P T = some (e, 1, bytes)) (hx : opv l x = some (.slice a n c)) (hy : opv l y = some (.slice a2 n2 c2))
    (hj : H[j]? = some (.row (.slice a n c) e 1 (mcells le ms))) (hw : H[jy]? = some (.row (.slice a2 n2 c2) Ty 1 [[.mp b]])) (hc : decide ((le.length + 1) * bytes ≤ 140737488355328) = true) (hc2 : decide (le.length + 1 ≤ 9223372036854775807) = true) (hd : Nat.blt d E.n = true)
    (jm jf : Nat) (hm : H[jm]? = some (.mp b (mEnc enc (tenc m)))) (hf : (H.eraseIdx jm)[jf]? = some (.fmp (mfam enc le ms))) (jj : Nat) (hjj : (H.eraseIdx jm)[jj]? = some (.row (.slice a n c) e 1 (mcells le ms))) (hset : ∀ h : HB, (H.set j h).eraseIdx jm = (H.eraseIdx jm).set jj h) (hjf : jj ≠ jf)
    (h : ∀ a n c, WO E ops os ((d, .slice a n c) :: l) (((H.eraseIdx jm).set jj (.row (.slice a n c) e 1 (mcells (le ++ [m]) (upd ms le.length b)))).set jf (.fmp (mfam enc (le ++ [m]) (upd ms le.length b)))) Φ N Q) : WO E ops (⟨some d, .call ⟨.builtin .append, #[x, y], #[T, T]⟩, ty, pos, aft, none⟩ :: os) l H Φ N Q := by
  refine o_append (xs := mcells le ms) (ys := [[Dc.mp b]]) (enc := id) j ht hx hy (by rw [List.map_id]; exact hj) (.r jy Ty (by exact hw)) (by rw [mcells_length]; exact hc) (by rw [mcells_length]; exact hc2) hd fun a n c => ?_
  have e1 : (mcells le ms ++ [[Dc.mp b]]).map id = mcells (le ++ [m]) (upd ms le.length b) := by
    rw [List.map_id]
    simp only [mcells, List.length_append, List.length_cons, List.length_nil, List.range_succ, List.map_append, List.map_cons, List.map_nil, upd, Int.toNat_natCast, Nat.zero_add, if_true]
    congr 1
    refine List.map_congr_left fun i hi => ?_
    have : i < le.length := List.mem_range.1 hi
    rw [if_neg (by omega)]
  have e2 : mfam enc (le ++ [m]) (upd ms le.length b) = mfam enc le ms ++ [(b, mEnc enc (tenc m))] := by
    simp only [mfam, List.length_append, List.length_cons, List.length_nil, List.range_succ, List.map_append, List.map_cons, List.map_nil, upd, Int.toNat_natCast, Nat.zero_add, if_true]
    congr 1
    · refine List.map_congr_left fun i hi => ?_
      have : i < le.length := List.mem_range.1 hi
      rw [if_neg (by omega)]
      simp [this, List.getElem?_append_left]
    · simp
  rw [e1]
  have hne : j ≠ jm := by
    intro e
    subst e
    rw [hj] at hm
    cases hm
  refine o_st (fun ac w hs => ?_) (h a n c)
  have hm2 : (H.set j (.row (.slice a n c) e 1 (mcells (le ++ [m]) (upd ms le.length b))))[jm]? = some (.mp b (mEnc enc (tenc m))) := by
    rw [List.getElem?_set_ne hne]; exact hm
  have h1 := st_front hm2 ac w hs
  rw [hset] at h1
  have hlf : jf < (H.eraseIdx jm).length := (List.getElem?_eq_some_iff.1 hf).1
  have hg : (mfam enc (le ++ [m]) (upd ms le.length b))[(mfam enc le ms).length]? = some (b, mEnc enc (tenc m)) := by rw [e2]; simp
  have he : (mfam enc (le ++ [m]) (upd ms le.length b)).eraseIdx (mfam enc le ms).length = mfam enc le ms := by
    rw [e2, List.eraseIdx_append_of_length_le (Nat.le_refl _)]
    simp
  refine st_closeM (i := (mfam enc le ms).length) ?_ hg ac w h1
  rw [he, List.getElem?_set_ne hjf]
  exact hf
end
inductive LX (α β γ : Type) where
  | ret (c : γ)
  | done (a : α)
  | out (b : β)
def LR.gx {α β γ δ : Type} (x : LR α β) (f : α → Option (LX γ δ β)) : Option (LX γ δ β) := match x with
  | .ret b => some (.ret b)
  | .done a => f a
def LX.fin {α β γ : Type} (x : LX α β γ) (f : α → Option γ) (g : β → Option γ) : Option γ := match x with
  | .ret c => some c
  | .done a => f a
  | .out b => g b
def LX.go {α β γ δ : Type} (x : LX α β γ) (f : α → Option (LR δ γ)) (g : β → Option (LR δ γ)) : Option (LR δ γ) := match x with
  | .ret c => some (.ret c)
  | .done a => f a
  | .out b => g b
def LX.gx {α β γ δ ε : Type} (x : LX α β γ) (f : α → Option (LX δ ε γ)) (g : β → Option (LX δ ε γ)) : Option (LX δ ε γ) := match x with
  | .ret c => some (.ret c)
  | .done a => f a
  | .out b => g b
section
variable {α β γ δ ε : Type}
theorem lxg_done {a : α} {f : α → Option (LR δ γ)} {g : β → Option (LR δ γ)} {o : LR δ γ} (h : LX.go (.done a) f g = some o) : f a = some o := h
theorem lxg_out {b : β} {f : α → Option (LR δ γ)} {g : β → Option (LR δ γ)} {o : LR δ γ} (h : LX.go (.out b) f g = some o) : g b = some o := h
theorem lxx_done {a : α} {f : α → Option (LX δ ε γ)} {g : β → Option (LX δ ε γ)} {o : LX δ ε γ} (h : LX.gx (.done a) f g = some o) : f a = some o := h
theorem lxx_out {b : β} {f : α → Option (LX δ ε γ)} {g : β → Option (LX δ ε γ)} {o : LX δ ε γ} (h : LX.gx (.out b) f g = some o) : g b = some o := h
end
section
variable {E : Env} {l : List (Nat × Value)} {H : List HB} {Φ : List (Value × Dc)} {N : SP} {c : Code} {id : Nat} {N0 R0 : SP} {r : List (Nat × SP)} {Pn : Value → SP} {p1 p2 p3 : Nat × SP}
theorem c_cutX0 (R : Env → SP → Prop) (h1 : ∀ N', R E N' → WC E c l H Φ N ⟨(id, N') :: r, R0, Pn⟩) (h2 : R E N0) : WC E c l H Φ N ⟨(id, N0) :: r, R0, Pn⟩ := h1 N0 h2
end
section
variable {E : Env} {ops : Array Oper} {os : List Oper} {l : List (Nat × Value)} {H : List HB} {Φ : List (Value × Dc)} {N : SP} {Q : QS}
variable {ty : TypeId} {pos : String} {aft : Array Edge} {d : Nat}
theorem o_callSBx {f : FuncId} {x : Operand} {args : Array Operand} {argTypes : Array TypeId} {vs : List Value} {Φp : List (Value × Dc)} {v : Value}
    (hc : Callable E.P f) (hx : opv l x = some (.func (.func f) #[] #[])) (ha : opvL l args.toList = some vs) (hΦ : ∀ p ∈ Φp, Lent H Φ p) (tri : Tri E.P f vs [] Φp (fun o H Φ => o = .ret v ∧ H = [] ∧ Φ = [])) (hd : Nat.blt d E.n = true)
    (h : WO E ops os ((d, v) :: l) H Φ N Q) :
    WO E ops (⟨some d, .call ⟨.value x, args, argTypes⟩, ty, pos, aft, none⟩ :: os) l H Φ N Q := by
  intro a w hs
  have hrun := run_call_value (E := E) (dst := some d) (ty := ty) (pos := pos) (aft := aft) (argTypes := argTypes) (x := x) (cap := #[]) (w := w) hc (opv_eval hs hx) (opvL_eval hs args.toList vs ha)
  simp only [wpL, Region.wanted, if_true, Oper.wp, hrun, Oper.upon]
  have hown : Own w (fun _ => False) [] Φp := by
    refine ⟨fun _ h => h.elim, by simp, by simp, by simp, by simp, fun p hp => ?_⟩
    rcases hΦ p hp with hp | ⟨v', T, sz, xs, rfl, hm⟩
    · exact (hs.own.facts p hp).weaken (fun b hb => by rcases hb with hb | hb; exact hb.elim; simp at hb)
    · exact (hs.own.live _ hm).pure (fun b hb => ⟨fun hx => by rcases hx with hx | hx; exact hx; simp at hx, hs.own.inw b (mem_blks hm hb)⟩) (fun b hb => by rcases hb with hb | hb; exact hb.elim; simp at hb)
  have := tri w (fun _ => False) hown
  simp only [List.append_nil] at this ⊢
  refine this.mono ?_
  rintro e w' ⟨out, rfl, H', Φ', ⟨rfl, rfl, rfl⟩, hf, _, _⟩
  have hold : ∀ b, b < w.heap.size → w'.heap[b]? = w.heap[b]? := fun b hb => hf.block b hb (by simp)
  have hs' : St E l H Φ a w' := ⟨hs.size, hs.defers, hs.tm, hs.own.grow hf.size hold, ⟨hf.os.trans hs.frm.os, hf.tape.trans hs.frm.tape, hf.output.trans hs.frm.output, Nat.le_trans hs.frm.size hf.size, fun b hlt hm => by rw [hold b (Nat.lt_of_lt_of_le hlt hs.frm.size)]; exact hs.frm.block b hlt hm⟩, hs.base⟩
  exact h _ w' (hs'.put_same (blt_lt hd))
end
section
variable {E : Env} {ops : Array Oper} {os : List Oper} {l : List (Nat × Value)} {H : List HB} {Φ : List (Value × Dc)} {N : SP} {Q : QS}
variable {ty : TypeId} {pos : String} {aft : Array Edge} {d : Nat}
theorem zparts {P : Program} {e : TypeId} {zv : Value} (h : (P.info? e).bind (·.zero) = some zv) : ∃ i0, P.info? e = some i0 ∧ i0.zero = some zv := Option.bind_eq_some_iff.1 h
theorem o_makeEz {α : Type} {enc : α → List Dc} (x0 : α) {T e : TypeId} {sz bytes : Nat} {x y : Operand} {kl kc : IntKind} {c : Int} {zv : Value} (ht : slT E.P T = some (e, sz, bytes)) (hz : (E.P.info? e).bind (·.zero) = some zv) (hz0 : ∀ w X, Pures w X zv.cells.toList (enc x0)) (hx : opv l x = some (.int kl c)) (hy : opv l y = some (.int kc c)) (h0 : decide (0 ≤ c) = true) (hc : decide (bytes * c.toNat ≤ 140737488355328) = true) (hm : decide (c.toNat ≤ 9223372036854775807) = true) (hd : Nat.blt d E.n = true)
    (h : ∀ a n c', WO E ops os ((d, .slice a n c') :: l) (.row (.slice a n c') e sz ((List.replicate c.toNat x0).map enc) :: H) Φ N Q) : WO E ops (⟨some d, .makeSlice T x y, ty, pos, aft, none⟩ :: os) l H Φ N Q := by
  obtain ⟨i0, h1, h2⟩ := zparts hz
  exact o_makeE x0 ht h1 h2 hz0 hx hy h0 hc hm hd h
theorem o_makeDz {α : Type} (enc : α → List Dc) (e' : TypeId) (sz' : Nat) {T e : TypeId} {bytes : Nat} {x y : Operand} {kl kc : IntKind} {c : Int} (ht : slT E.P T = some (e, 1, bytes)) (hz : (E.P.info? e).bind (·.zero) = some (.slice none 0 0)) (hx : opv l x = some (.int kl c)) (hy : opv l y = some (.int kc c)) (h0' : decide (0 ≤ c) = true) (hc : decide (bytes * c.toNat ≤ 140737488355328) = true) (hm : decide (c.toNat ≤ 9223372036854775807) = true) (hd : Nat.blt d E.n = true)
    (h : ∀ a n c', WO E ops os ((d, .slice a n c') :: l) (.fam (dfam e' sz' enc (List.replicate c.toNat ([] : List α)) h0) :: .row (.slice a n c') e 1 (dcells (List.replicate c.toNat ([] : List α)) h0) :: H) Φ N Q) : WO E ops (⟨some d, .makeSlice T x y, ty, pos, aft, none⟩ :: os) l H Φ N Q := by
  obtain ⟨i0, h1, h2⟩ := zparts hz
  exact o_makeD ht h1 h2 hx hy h0' hc hm hd h
end
theorem stepR_scope {P : Program} {b : Frame} {a : Act} {k : List Item} {cs : List Frame} {w : World} {c : Code} : step P (lone (b.atR a (.code (.scope c) :: k)) cs w) = .next (lone (b.atR a (.code c :: .inScope c :: k)) cs w) :=
  step_lone_go (by simp [stepG, stepG.exec, Frame.atR])
theorem stepR_inScope {P : Program} {b : Frame} {a : Act} {k : List Item} {cs : List Frame} {w : World} {c : Code} : step P (lone (b.atR a (.inScope c :: k)) cs w) = .next (lone (b.atR a k) cs w) :=
  step_lone_go (by simp [stepG, stepG.exec, Frame.atR])
theorem wpIn_scope {F : Fence} {n : Nat} {P : Program} {Q : Exit → Act → World → Prop} {a : Act} {w : World} {c : Code} (hg : ∀ l a w, ¬ Q (.goto l) a w) (h : c.wpIn F n P Q a w) : (Code.scope c).wpIn F n P Q a w := by
  intro b k cs hro hb hr
  have h0 : (lone (b.atR a (.code (.scope c) :: k)) cs w).fenced P F := fenced_calm hb hr rfl
  obtain ⟨e, a₁, w₁, hq, harr⟩ := h b (.inScope c :: k) cs hro hb hr
  cases e with
  | normal => exact ⟨.normal, a₁, w₁, hq, .head h0 stepR_scope (StepsIn.trans harr (.one (fenced_calm hb hr rfl) stepR_inScope))⟩
  | exit id' =>
    have hx : exitTo id' (.inScope c :: k) = exitTo id' k := by simp [exitTo]
    exact ⟨.exit id', a₁, w₁, hq, fun k' hk => .head h0 stepR_scope (harr.1 k' (by rw [hx]; exact hk)),
      fun hr' hk => let ⟨k₁, h1, h2⟩ := harr.2 hr' (by rw [hx]; exact hk); ⟨k₁, h1, .head h0 stepR_scope h2⟩⟩
  | goto l => exact (hg l a₁ w₁ hq).elim
  | ret => exact ⟨_, a₁, w₁, hq, .of_steps (.one h0 stepR_scope) harr⟩
  | panic ch => exact ⟨_, a₁, w₁, hq, .of_steps (.one h0 stepR_scope) harr⟩
  | outgrown => exact ⟨_, a₁, w₁, hq, .of_steps (.one h0 stepR_scope) harr⟩
theorem c_scope {E : Env} {c : Code} {l : List (Nat × Value)} {H : List HB} {Φ : List (Value × Dc)} {N : SP} {Q : QS} (h : WC E c l H Φ N Q) : WC E (.scope c) l H Φ N Q :=
  fun a w hs => wpIn_scope (fun _ _ _ h => h) (h a w hs)
def m0 : Nat → Nat := fun _ => 0
section
variable {E : Env} {ops : Array Oper} {os : List Oper} {l : List (Nat × Value)} {H : List HB} {Φ : List (Value × Dc)} {N : SP} {Q : QS}
variable {ty : TypeId} {pos : String} {aft : Array Edge} {d : Nat}
theorem st_mlen {α : Type} {le : List α} {ms : Nat → Nat} {v : Value} {T : TypeId} (j : Nat) (le1 : List α) (hl : le1.length = le.length) (hj : H[j]? = some (.row v T 1 (mcells le ms))) : ∀ a w, St E l H Φ a w → St E l (H.set j (.row v T 1 (mcells le1 ms))) Φ a w := by
  intro a w hs
  have e : H.set j (.row v T 1 (mcells le1 ms)) = H := by
    have : mcells le1 ms = mcells le ms := by simp only [mcells, hl]
    rw [this]
    apply List.ext_getElem?
    intro k
    rw [List.getElem?_set]
    by_cases hk : j = k
    · subst hk
      have hlt : j < H.length := (List.getElem?_eq_some_iff.1 hj).1
      rw [if_pos rfl, if_pos hlt, hj]
    · rw [if_neg hk]
  rw [e]; exact hs
variable {κ : Type} {eq : κ → κ → Bool} {enc : κ → Value} {T kt et : TypeId} {x y : Operand} {b : Nat} {k : κ} {m : List (κ × Int)} {le : List (List (κ × Int))} {ms : Nat → Nat} {i : Int}
theorem v_lookT (j : Nat) (hT : E.P.underlying T = some (.map kt et)) (hk : KT E.P kt eq enc) (hz : (E.P.info? et).bind (·.zero) = some (.int .i64 0)) (hx : opv l x = some (.map (some b))) (hy : opv l y = some (enc k)) (hj : H[j]? = some (.mp b (mEnc enc (tenc m)))) :
    Val E l H Φ (.lookup T x y false) ty (.int .i64 ((tget eq k m).getD 0)) := v_lookupT j false hT hk hz hx hy hj
theorem v_lookT2 (j : Nat) (hT : E.P.underlying T = some (.map kt et)) (hk : KT E.P kt eq enc) (hz : (E.P.info? et).bind (·.zero) = some (.int .i64 0)) (hx : opv l x = some (.map (some b))) (hy : opv l y = some (enc k)) (hj : H[j]? = some (.mp b (mEnc enc (tenc m)))) :
    Val E l H Φ (.lookup T x y true) ty (.tuple #[.int .i64 ((tget eq k m).getD 0), .bool (tget eq k m).isSome]) := v_lookupT j true hT hk hz hx hy hj
theorem v_lookF (j : Nat) (hT : E.P.underlying T = some (.map kt et)) (hk : KT E.P kt eq enc) (hz : (E.P.info? et).bind (·.zero) = some (.int .i64 0)) (hx : opv l x = some (.map (some (ms i.toNat)))) (hy : opv l y = some (enc k)) (hj : H[j]? = some (.fmp (mfam enc le ms))) (hi : inR i le.length = true) :
    Val E l H Φ (.lookup T x y false) ty (.int .i64 ((tget eq k (at_ le i)).getD 0)) := v_lookupF j false hT hk hz hx hy hj hi
end
theorem o_H {E : Env} {ops : Array Oper} {os : List Oper} {l : List (Nat × Value)} {H : List HB} {Φ : List (Value × Dc)} {N : SP} {Q : QS} (H' : List HB) (e : H = H') (h : WO E ops os l H' Φ N Q) : WO E ops os l H Φ N Q := by
  subst e; exact h
theorem PureC.marked {w w' : World} {X : Nat → Prop} {v : Value} {d : Dc} (h : PureC w X v d) {b : Nat} {arr : Array Value} {T : TypeId} {f f' : Nat × Nat} (h1 : w.heap[b]? = some (.cells arr T f)) (h2 : w'.heap[b]? = some (.cells arr T f')) (hs : w'.heap.size = w.heap.size) (hb : ∀ c, c ≠ b → w'.heap[c]? = w.heap[c]?) : PureC w' X v d := by
  have hcell : ∀ (c i : Nat) (u : Value), w.cell? ⟨c, i, none⟩ = some u → w'.cell? ⟨c, i, none⟩ = some u := by
    intro c i u hu
    by_cases e : c = b
    · subst e
      simp only [World.cell?, h1, h2] at hu ⊢
      exact hu
    · rw [World.cell?_of_block (w := w) (hb c e)]
      exact hu
  induction h with
  | int => exact .int _ _
  | bool => exact .bool _
  | str => exact .str _
  | own => exact .own _ _ _
  | mp => exact .mp _
  | nil => exact .nil _ _ _
  | slice c o len cap sz xs vs hlen hcap hXb hbb hsz hc he ih => exact .slice c o len cap sz xs vs hlen hcap hXb (by rw [hs]; exact hbb) hsz (fun i j hi hj => hcell _ _ _ (hc i j hi hj)) ih
  | cl c o cs hXb hbb hc => exact .cl c o cs hXb (by rw [hs]; exact hbb) (fun j hj => hcell _ _ _ (hc j hj))
  | «at» c cs T0 fz hXb hbb hb2 =>
    by_cases e : c = b
    · subst e
      rw [h1] at hb2
      simp only [Option.some.injEq, Obj.cells.injEq] at hb2
      obtain ⟨rfl, rfl, rfl⟩ := hb2
      exact .at c cs T f' hXb (by rw [hs]; exact hbb) h2
    · exact .at c cs T0 fz hXb (by rw [hs]; exact hbb) ((hb c e).trans hb2)
section
variable {E : Env} {ops : Array Oper} {os : List Oper} {l : List (Nat × Value)} {H : List HB} {Φ : List (Value × Dc)} {N : SP} {Q : QS}
variable {ty : TypeId} {pos : String} {aft : Array Edge} {d : Nat}
theorem o_convBytes (j : Nat) {T e T' : TypeId} {x : Operand} {a : Option Addr} {n c : Nat} {xs : List (List Dc)} (hT : E.P.underlying T = some (.slice e)) (he : E.P.underlying e = some (.int .u8)) (hx : opv l x = some (.slice a n c)) (hj : H[j]? = some (.row (.slice a n c) T' 1 xs)) (hne : Nat.blt 0 xs.length = true) (hd : Nat.blt d E.n = true)
    (h : WO E ops os ((d, .slice a n c) :: l) (H.eraseIdx j) ((.slice a n c, .slice 1 xs) :: Φ) N Q) : WO E ops (⟨some d, .convert T T x, ty, pos, aft, none⟩ :: os) l H Φ N Q := by
  refine o_step fun ac w hs => ?_
  have hlt0 := blt_lt hne
  have hm := List.mem_of_getElem? hj
  rcases hs.own.live _ hm with ⟨_, h0⟩ | ⟨b, cap, arr, hv, h1, h2, h3, h4, h5, h6⟩
  · rw [h0] at hlt0; simp at hlt0
  · simp only [Value.slice.injEq] at hv
    obtain ⟨rfl, rfl, rfl⟩ := hv
    have hblt : b < w.heap.size := (Array.getElem?_eq_some_iff.1 h1).1
    have hsh : w.shape? b = some (T', arr.size) := by unfold World.shape?; rw [h1]
    have hw' : (w.freeze ⟨b, arr.size, none⟩ 1).heap[b]? = some (.cells arr T' (arr.size, arr.size + 1)) := by
      unfold World.freeze
      rw [if_neg (by decide)]
      simp only [Array.getElem?_modify, if_true, h1, Option.map_some]
      rfl
    have hoth : ∀ q, q ≠ b → (w.freeze ⟨b, arr.size, none⟩ 1).heap[q]? = w.heap[q]? := by
      intro q hq
      unfold World.freeze
      rw [if_neg (by decide)]
      simp only [Array.getElem?_modify]
      rw [if_neg (fun e => hq e.symm)]
    have hsz : (w.freeze ⟨b, arr.size, none⟩ 1).heap.size = w.heap.size := by
      unfold World.freeze
      rw [if_neg (by decide)]
      simp
    refine ⟨.slice (some ⟨b, 0, none⟩) xs.length c, w.freeze ⟨b, arr.size, none⟩ 1, ?_, h _ _ ?_⟩
    · simp only [execOp, opv_eval hs hx, Sem.run_bind]
      have e : (convert T T (.slice (some ⟨b, 0, none⟩) xs.length c)).run E.P w = .ok (.slice (some ⟨b, 0, none⟩) xs.length c) (w.freeze ⟨b, arr.size, none⟩ 1) := by
        simp [convert, run_underlying hT, run_underlying he, markStringish, hsh]
      rw [e]; rfl
    · have h0 := st_freeze j hj ac w hs
      have hbH : b ∉ blks (H.eraseIdx j) := by
        intro hb
        have hn := hs.own.nodup
        have hp := (perm_blks (erase_perm hj)).nodup_iff.2 hn
        rw [blks_cons] at hp
        exact (List.nodup_append.1 hp).2.2 b (by simp [HB.bks, slB]) b hb rfl
      have hbX : ¬ E.X b := hs.own.apart b (mem_bks hm (by simp [HB.bks, slB]))
      have o := h0.own
      have hown : Own (w.freeze ⟨b, arr.size, none⟩ 1) E.X (H.eraseIdx j) ((.slice (some ⟨b, 0, none⟩) xs.length c, .slice 1 xs) :: Φ) := by
        refine ⟨fun q hq => by rw [hsz]; exact o.xin q hq, o.nodup, o.apart, fun q hq => by rw [hsz]; exact o.inw q hq, fun y hy => ?_, fun p hp => (o.facts p hp).marked h1 hw' hsz hoth⟩
        have key : ∀ {Y : Nat → Prop} {v T sz xs'}, LiveR w Y v T sz xs' → (∀ q, slB v = some q → q ≠ b) → LiveR (w.freeze ⟨b, arr.size, none⟩ 1) Y v T sz xs' := by
          intro Y v T0 sz0 xs' hl hq
          rcases hl with hl | ⟨b0, cap0, arr0, rfl, k1, k2, k3, k4, k5, k6⟩
          · exact .inl hl
          · refine .inr ⟨b0, cap0, arr0, rfl, (hoth b0 (hq b0 rfl)).trans k1, k2, k3, k4, k5, fun i j hi hj => ?_⟩
            obtain ⟨u, hu, hp⟩ := k6 i j hi hj
            exact ⟨u, hu, hp.marked h1 hw' hsz hoth⟩
        have hyb : ∀ q ∈ y.bks, q ≠ b := fun q hq e => hbH (e ▸ mem_bks hy hq)
        have hl := o.live y hy
        cases y with
        | box b0 T0 cs => exact (hoth b0 (hyb b0 (by simp [HB.bks]))).trans hl
        | itr b0 s pos => exact ⟨(hoth b0 (hyb b0 (by simp [HB.bks]))).trans hl.1, hl.2⟩
        | mp b0 es =>
          obtain ⟨ents, clock, k1, k2⟩ := hl
          exact ⟨ents, clock, (hoth b0 (hyb b0 (by simp [HB.bks]))).trans k1, k2⟩
        | dfr D =>
          refine ⟨(hoth D (fun e => ?_)).trans hl.1, hl.2⟩
          subst e
          have := hl.1
          rw [h1] at this
          cases this
        | row v T0 sz0 xs' => exact key hl (fun q hq => hyb q (by simp [HB.bks, hq]))
        | fam L => exact fun r hr => key (hl r hr) (fun q hq => hyb q (List.mem_filterMap.2 ⟨r, hr, hq⟩))
        | fmp L =>
          intro r hr
          obtain ⟨ents, clock, k1, k2⟩ := hl r hr
          exact ⟨ents, clock, (hoth r.1 (hyb r.1 (List.mem_map.2 ⟨r, hr, rfl⟩))).trans k1, k2⟩
      have hbase : E.w0.heap.size ≤ b ∨ b ∈ E.M := hs.base b (mem_bks hm (by simp [HB.bks, slB]))
      have hfrm : Frm E.w0 E.M (w.freeze ⟨b, arr.size, none⟩ 1) := by
        refine ⟨?_, ?_, ?_, by rw [hsz]; exact hs.frm.size, fun q hq hqm => ?_⟩
        · rw [← hs.frm.os]; unfold World.freeze; rw [if_neg (by decide)]
        · rw [← hs.frm.tape]; unfold World.freeze; rw [if_neg (by decide)]
        · rw [← hs.frm.output]; unfold World.freeze; rw [if_neg (by decide)]
        · rw [hoth q (fun e => by subst e; rcases hbase with hb | hb; omega; exact hqm hb)]
          exact hs.frm.block q hq hqm
      exact h0.put (blt_lt hd) hown hfrm h0.base
end
end Go.Vc
