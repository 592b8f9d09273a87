/-
  Words: the law WordsAgain.
-/
import Derived.Test.YtdbnoblklhgdoaaGreatDoorSH
import Derived.Test.YtdbnoblklhgdoaaGreatDoorWC
set_option linter.unusedVariables false
set_option linter.unusedSimpArgs false
namespace Go.Vc
open Go
def jnT : Bool → List (List UInt8) → List UInt8
  | _, [] => []
  | b, w :: ws => (if b then [32] else []) ++ (w ++ jnT true ws)
theorem ofS_app (a b : List UInt8) : ofS (a ++ b) = ofS a ++ ofS b := by simp [ofS]
theorem ofS_ok (s : List UInt8) : (ofS s).all okB = true := by
  rw [List.all_eq_true]
  intro x hx
  obtain ⟨b, _, rfl⟩ := List.mem_map.1 hx
  have := b.toNat_lt
  simp [okB]
  omega
theorem toS_ofS' (s : List UInt8) : toS (ofS s) = s := by
  have h : ∀ x : UInt8, UInt8.ofNat (((x.toNat : Nat) : Int)).toNat = x := fun x => by simp
  simp only [toS, ofS, List.map_map]
  conv => rhs; rw [← List.map_id s]
  exact List.map_congr_left (fun x _ => h x)
def Gd (w : List UInt8) (x : Tk) : Prop := w ≠ [] ∧ x.kind ≠ 7 ∧ (∀ t, stop x.kind t → tok (w ++ t) = .ok (x, w.length)) ∧ ∀ b, skL false (w ++ b) = w ++ b
theorem scT_all : ∀ (j : Nat) (r : List UInt8) (l : List (Nat × List UInt8 × Tk)), r.length ≤ 65536 → scT j r = .ok l → (∀ p ∈ l, Gd p.2.1 p.2.2) ∧ ∀ b, (jnT b (l.map fun p => p.2.1)).length ≤ 2 * r.length
  | 0, _, _, _, h => by cases h; exact ⟨fun p hp => (by cases hp), fun b => by simp [jnT]⟩
  | j + 1, r, l, hl, h => by
    have hs := skL_le r false
    unfold scT at h
    cases hk : skL false r with
    | nil => rw [hk] at h; cases h; exact ⟨fun p hp => (by cases hp), fun b => by simp [jnT]⟩
    | cons c t =>
      rw [hk] at h hs
      simp only at h
      cases ht : tok (c :: t) with
      | error p => rw [ht] at h; cases h
      | ok p =>
        obtain ⟨x, n⟩ := p
        obtain ⟨n1, n2, n3, n4, n5, n6, n7⟩ := tok_ok (by omega) ht
        rw [ht] at h
        simp only at h
        cases hr : scT j ((c :: t).drop n) with
        | error z => rw [hr] at h; cases h
        | ok l' =>
          rw [hr] at h
          cases h
          have hlen : ((c :: t).take n).length = n := by rw [List.length_take]; omega
          obtain ⟨i1, i2⟩ := scT_all j _ l' (by rw [List.length_drop]; omega) hr
          refine ⟨fun p hp => ?_, fun b => ?_⟩
          · rcases List.mem_cons.1 hp with rfl | hp
            · refine ⟨?_, n4, ?_, n7⟩
              · intro e
                have e' : (c :: t).take n = [] := e
                rw [e'] at hlen
                simp at hlen
                omega
              · intro t' ht'
                show tok ((c :: t).take n ++ t') = .ok (x, ((c :: t).take n).length)
                rw [hlen]
                exact n6 t' ht'
            · exact i1 p hp
          · have := i2 true
            rw [List.length_drop] at this
            simp only [List.map_cons, jnT, List.length_append, hlen]
            cases b <;> simp <;> omega
theorem stop_jn (k : Int) (ws : List (List UInt8)) : stop k (jnT true ws) := by
  cases ws with
  | nil => trivial
  | cons w ws => exact ⟨fun _ => by decide, fun _ => by decide⟩
theorem scT_join : ∀ (l : List (Nat × List UInt8 × Tk)) (b : Bool) (J : Nat), (∀ p ∈ l, Gd p.2.1 p.2.2) → (jnT b (l.map fun p => p.2.1)).length < J → ∃ l', scT J (jnT b (l.map fun p => p.2.1)) = .ok l' ∧ l'.map (fun p => p.2) = l.map (fun p => p.2)
  | [], b, 0, _, h => by omega
  | [], b, J + 1, _, _ => ⟨[], by simp [jnT, scT, skL], rfl⟩
  | p :: l, b, 0, _, h => by omega
  | p :: l, b, J + 1, hg, h => by
    obtain ⟨m, w, x⟩ := p
    obtain ⟨g1, g2, g3, g4⟩ := hg _ List.mem_cons_self
    simp only at g1 g2 g3 g4
    simp only [List.map_cons, jnT]
    simp only [List.map_cons, jnT, List.length_append] at h
    have hw : 1 ≤ w.length := List.length_pos_iff.2 g1
    have hk : skL false ((if b = true then [32] else []) ++ (w ++ jnT true (l.map fun p => p.2.1))) = w ++ jnT true (l.map fun p => p.2.1) := by
      cases b with
      | false => exact g4 _
      | true =>
        show skL false (32 :: (w ++ _)) = _
        rw [skL_f, if_pos (.inr (.inl rfl))]
        exact g4 _
    obtain ⟨l', e1, e2⟩ := scT_join l true J (fun p hp => hg p (List.mem_cons_of_mem _ hp)) (by omega)
    refine ⟨((w ++ jnT true (l.map fun p => p.2.1)).length, w, x) :: l', ?_, by rw [List.map_cons, e2]⟩
    rw [scT_ok hk (by simp [g1]) (g3 _ (stop_jn _ _)), List.drop_left, e1, List.take_left]
theorem Join_l1_ok {all : List Word} (hall : all.length < 100000) : ∀ (j i : Nat) (addr : Bool) (buf : List Int) (ws : List Word), all.drop i = ws → ws.length < j → buf.length + (jnT true ((ws.filter fun w => w.Kind != 7).map fun w => w.Text)).length < 1000000 → (∀ w ∈ ws, w.Kind ≠ 7 → w.Text ≠ []) → ∃ a, F.words.Join_l1 all j (i : Int) addr buf = some (a, buf ++ ofS (jnT (decide (0 < buf.length)) ((ws.filter fun w => w.Kind != 7).map fun w => w.Text)))
  | 0, _, _, _, _, _, h, _, _ => by omega
  | j + 1, i, addr, buf, ws, hd, hj, hlen, hne => by
    simp only [F.words.Join_l1]
    cases ws with
    | nil =>
      have hi : all.length ≤ i := by
        rcases Nat.lt_or_ge i all.length with h | h
        · rw [List.drop_eq_getElem_cons h] at hd; cases hd
        · exact h
      rw [if_neg (by rw [decide_eq_true_eq]; omega)]
      exact ⟨addr, by simp [jnT, ofS]⟩
    | cons w ws =>
      have hi : i < all.length := by
        rcases Nat.lt_or_ge i all.length with h | h
        · exact h
        · rw [List.drop_eq_nil_of_le h] at hd; cases hd
      have hd' := hd
      rw [List.drop_eq_getElem_cons hi] at hd'
      obtain ⟨a, b⟩ := List.cons.inj hd'
      have hat : at_ all (i : Int) = w := by rw [ix_at hi, a]
      rw [if_pos (by rw [decide_eq_true_eq]; omega), ix_in hi, if_pos rfl, hat]
      simp only [F.words.Join_j2, F.words.Join_j3, hat, ix_inc (show i < 4611686018427387904 by omega)]
      simp only [List.length_cons] at hj
      by_cases h7 : w.Kind = 7
      · have hf : (w :: ws).filter (fun w => w.Kind != 7) = ws.filter (fun w => w.Kind != 7) := by simp [h7]
        rw [if_pos (by simpa using h7), hf]
        rw [hf] at hlen
        exact Join_l1_ok hall j (i + 1) addr buf ws b (by omega) hlen (fun x hx => hne x (List.mem_cons_of_mem _ hx))
      · have hf : (w :: ws).filter (fun w => w.Kind != 7) = w :: ws.filter (fun w => w.Kind != 7) := by simp [h7]
        have hwne := List.length_pos_iff.2 (hne w List.mem_cons_self h7)
        rw [if_neg (by simpa using h7), hf]
        rw [hf] at hlen
        simp only [List.map_cons, jnT, List.length_append, if_true, List.length_singleton] at hlen
        have hLen : F.strings.Builder_Len ⟨addr, buf⟩ = some (buf.length : Int) := rfl
        rw [hLen, Option.bind_some]
        have step : ∀ (ad : Bool) (bf : List Int), bf.length ≤ buf.length + 1 → ∃ a, ((F.strings.Builder_WriteString ⟨ad, bf⟩ w.Text).bind fun v1 => F.words.Join_l1 all j ((i + 1 : Nat) : Int) v1.2.addr v1.2.buf) = some (a, bf ++ ofS (w.Text ++ jnT true ((ws.filter fun w => w.Kind != 7).map fun w => w.Text))) := by
          intro ad bf hbf
          rw [WS_ok (by omega) (by omega), Option.bind_some]
          have hl2 : (bf ++ ofS w.Text).length = bf.length + w.Text.length := by rw [List.length_append, ofS_length]
          obtain ⟨a', ih⟩ := Join_l1_ok hall j (i + 1) true (bf ++ ofS w.Text) ws b (by omega) (by rw [hl2]; omega) (fun x hx => hne x (List.mem_cons_of_mem _ hx))
          refine ⟨a', ?_⟩
          simp only
          rw [ih, decide_eq_true (by rw [hl2]; omega), ofS_app, List.append_assoc]
        by_cases h0 : 0 < buf.length
        · rw [if_pos (by rw [decide_eq_true_eq]; omega), WB_ok (by omega), Option.bind_some]
          obtain ⟨a', h1⟩ := step true (buf ++ [32]) (by simp)
          refine ⟨a', ?_⟩
          simp only
          rw [h1, decide_eq_true h0]
          simp only [List.map_cons, jnT, if_true]
          rw [ofS_app [32]]
          simp [ofS]
        · rw [if_neg (by rw [decide_eq_true_eq]; omega)]
          obtain ⟨a', h1⟩ := step addr buf (by omega)
          refine ⟨a', ?_⟩
          rw [h1, decide_eq_false h0]
          simp [jnT]
theorem wds_filter (s : List UInt8) : ∀ l : List (Nat × List UInt8 × Tk), (∀ p ∈ l, Gd p.2.1 p.2.2) → ((wds s l ++ [endW s]).filter fun w => w.Kind != 7).map (fun w => w.Text) = l.map fun p => p.2.1
  | [], _ => rfl
  | p :: l, h => by
    have h1 := (h p List.mem_cons_self).2.1
    have ih := wds_filter s l (fun q hq => h q (List.mem_cons_of_mem _ hq))
    show (((wd s (s.length - p.1) p.2.1 p.2.2) :: (wds s l ++ [endW s])).filter _).map _ = _
    rw [List.filter_cons, if_pos (by simpa [wd] using h1), List.map_cons, ih]
    rfl
end Go.Vc
