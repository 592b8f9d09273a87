/-
  What is written is read: a definition's words say the definition.
-/
import Derived.Test.YtdbnoblklhgdoaaGreatDoorBB
set_option linter.unusedVariables false
set_option linter.unusedSimpArgs false
set_option linter.unusedSectionVars false
namespace Go.Vc
open Go
def oW (p : Wd) : Word := wd [] 0 p.1 p.2
theorem nameP_nm (a : List UInt8) (r : List Word) : nameP (oW (tNm a) :: r) = .ok (a, r) := rfl
theorem isP_sg (c : UInt8) (r : List Word) (t : List UInt8) : isP (oW (tSg c) :: r) t = ([c] == t) := rfl
theorem isP_ky (a : List UInt8) (r : List Word) (t : List UInt8) : isP (oW (tKy a) :: r) t = (a == t) := rfl
theorem want_sg (c : UInt8) (r : List Word) : wantP (oW (tSg c) :: r) [c] = .ok r := by unfold wantP; rw [isP_sg, if_pos (by simp)]; rfl
theorem want_ky (a : List UInt8) (r : List Word) : wantP (oW (tKy a) :: r) a = .ok r := by unfold wantP; rw [isP_ky, if_pos (by simp)]; rfl
def noSuf (r : List Word) : Prop := isP r [63] = false ∧ isP r [42] = false ∧ isP r [43] = false
theorem endP_none (k : Int) (set : S4) (nm : List UInt8) {r : List Word} (hr : noSuf r) : endP k set nm r = (⟨k, [], set, nm, []⟩, r) := by
  unfold endP
  rw [hr.1, hr.2.1, hr.2.2]
  rfl
theorem endP_q (k : Int) (set : S4) (nm : List UInt8) (r : List Word) : endP k set nm (oW (tSg 63) :: r) = (⟨4, [], set, nm, []⟩, r) := rfl
theorem endP_s (k : Int) (set : S4) (nm : List UInt8) (r : List Word) : endP k set nm (oW (tSg 42) :: r) = (⟨5, [], set, nm, []⟩, r) := rfl
theorem endP_p (k : Int) (set : S4) (nm : List UInt8) (r : List Word) : endP k set nm (oW (tSg 43) :: r) = (⟨6, [], set, nm, []⟩, r) := rfl
theorem symW_st (S : S4) (r : List Word) : symW (oW (tSt S) :: r) = .ok (endP 2 S [] r) := rfl
theorem symW_nm (a : List UInt8) (r : List Word) : symW (oW (tNm a) :: r) = .ok (endP 3 noSet a r) := rfl
theorem symW_br (r : List Word) : symW (oW (tSg 123) :: r) = braceP r := rfl
theorem kindP_qt {a : List UInt8} (h : a.length ≤ 32) (r : List Word) : kindP (oW (tQt a) :: r) 4 = .ok (oW (tQt a), r) := by
  show (if (oW (tQt a)).Kind = 4 then (if (4 : Int) = 4 ∧ 32 < (ofS a).length then Except.error (Fault.mk (oW (tQt a)).At 2) else Except.ok (oW (tQt a), r)) else Except.error (Fault.mk (oW (tQt a)).At 30)) = _
  rw [if_pos (show (oW (tQt a)).Kind = 4 from rfl), if_neg (by rw [ofS_len]; omega)]
theorem symW_qt {a : List UInt8} (h : a.length ≤ 32) (r : List Word) : symW (oW (tQt a) :: r) = .ok (⟨1, a, noSet, [], []⟩, r) := by
  have e : symW (oW (tQt a) :: r) = (match kindP (oW (tQt a) :: r) 4 with
      | .error e => Except.error e
      | .ok (x, r') => Except.ok (⟨1, toS x.Bytes, noSet, [], []⟩, r')) := rfl
  rw [e, kindP_qt h]
  show Except.ok (Sym.mk 1 (toS (ofS a)) noSet [] [], r) = _
  rw [toS_ofS2]
theorem brace_read {N P : List UInt8} (hp : P ≠ []) (hl : P.length ≤ 32) (c : UInt8) (hc : c = 42 ∨ c = 43) (r : List Word) :
    braceP (oW (tNm N) :: oW (tQt P) :: oW (tSg 125) :: oW (tSg c) :: r) = .ok (⟨if c = 42 then 5 else 6, [], noSet, N, P⟩, r) := by
  unfold braceP
  rw [nameP_nm]
  simp only
  rw [kindP_qt hl]
  have hb : (oW (tQt P)).Bytes = ofS P := rfl
  have h0 : ¬ (oW (tQt P)).Bytes.length = 0 := by
    rw [hb, ofS_len]
    exact fun h => hp (List.length_eq_zero_iff.1 h)
  simp only
  rw [if_neg h0, want_sg]
  simp only [hb, toS_ofS2]
  rcases hc with rfl | rfl
  · rfl
  · rfl
theorem zS_eq {s : S4} (h : zS s = true) : s = noSet := by
  rcases s with ⟨a, b, c, d⟩
  simp [zS, S4.eq] at h
  obtain ⟨rfl, rfl, rfl, rfl⟩ := h
  rfl
theorem isNm_ne {a : List UInt8} (h : isNm a = true) : a ≠ [] := (isNm_len h).1
theorem sym_read {s : Sym} (h : symP s = true) {r : List Word} (hr : noSuf r) : symW ((wSym s).map oW ++ r) = .ok (s, r) := by
  obtain ⟨K, T, S, N, P⟩ := s
  unfold symP at h
  unfold wSym wB wA
  simp only at h ⊢
  split at h
  · rename_i hk
    subst hk
    simp only [Bool.and_eq_true, decide_eq_true_eq, beq_iff_eq] at h
    obtain ⟨h1, h2, rfl, rfl⟩ := h
    have := zS_eq h2
    subst this
    exact symW_qt h1 r
  split at h
  · rename_i hk
    subst hk
    simp only [Bool.and_eq_true, beq_iff_eq] at h
    obtain ⟨rfl, rfl, rfl⟩ := h
    show symW (oW (tSt S) :: r) = _
    rw [symW_st, endP_none _ _ _ hr]
  split at h
  · rename_i hk
    subst hk
    simp only [Bool.and_eq_true, beq_iff_eq] at h
    obtain ⟨rfl, h2, h3, rfl⟩ := h
    have := zS_eq h2
    subst this
    rw [if_neg (isNm_ne h3)]
    show symW (oW (tNm N) :: r) = _
    rw [symW_nm, endP_none _ _ _ hr]
  split at h
  · rename_i hk
    subst hk
    simp only [Bool.and_eq_true, Bool.or_eq_true, beq_iff_eq] at h
    obtain ⟨rfl, rfl, h3⟩ := h
    by_cases hn : N = []
    · subst hn
      show symW (oW (tSt S) :: oW (tSg 63) :: r) = _
      rw [symW_st, endP_q]
    · rw [if_neg hn]
      have h4 := h3.resolve_left hn
      have := zS_eq h4.1
      subst this
      show symW (oW (tNm N) :: oW (tSg 63) :: r) = _
      rw [symW_nm, endP_q]
  split at h
  · rename_i hk
    by_cases hn : N = []
    · subst hn
      rw [if_pos (by simp)] at h
      simp only [Bool.and_eq_true, beq_iff_eq] at h
      obtain ⟨rfl, rfl⟩ := h
      rcases hk with rfl | rfl
      · show symW (oW (tSt S) :: oW (tSg 42) :: r) = _
        rw [symW_st, endP_s]
      · show symW (oW (tSt S) :: oW (tSg 43) :: r) = _
        rw [symW_st, endP_p]
    · rw [if_neg (by simpa using hn)] at h
      simp only [Bool.and_eq_true, beq_iff_eq, decide_eq_true_eq] at h
      obtain ⟨rfl, h2, h3, h4⟩ := h
      have := zS_eq h2
      subst this
      rw [if_neg hn]
      by_cases hP : P = []
      · subst hP
        rcases hk with rfl | rfl
        · show symW (oW (tNm N) :: oW (tSg 42) :: r) = _
          rw [symW_nm, endP_s]
        · show symW (oW (tNm N) :: oW (tSg 43) :: r) = _
          rw [symW_nm, endP_p]
      · rw [if_neg hP]
        rcases hk with rfl | rfl
        · show symW (oW (tSg 123) :: oW (tNm N) :: oW (tQt P) :: oW (tSg 125) :: oW (tSg 42) :: r) = _
          rw [symW_br, brace_read hP h4 42 (.inl rfl)]
          rfl
        · show symW (oW (tSg 123) :: oW (tNm N) :: oW (tQt P) :: oW (tSg 125) :: oW (tSg 43) :: r) = _
          rw [symW_br, brace_read hP h4 43 (.inr rfl)]
          rfl
  · cases h
theorem sym_head (s : Sym) (r : List Word) : begP ((wSym s).map oW ++ r) = true ∧ noSuf ((wSym s).map oW ++ r) := by
  unfold wSym wB wA
  repeat' split
  all_goals exact ⟨rfl, rfl, rfl, rfl⟩
theorem syms_suf (l : List Sym) {r : List Word} (hr : noSuf r) : noSuf ((l.flatMap wSym).map oW ++ r) := by
  cases l with
  | nil => exact hr
  | cons s l =>
    rw [List.flatMap_cons, List.map_append, List.append_assoc]
    exact (sym_head s _).2
theorem syms_read {r : List Word} (hb : begP r = false) (hr : noSuf r) : ∀ (l : List Sym) (j : Nat) (out : List Sym), l.length < j → out.length + l.length ≤ 12 → (∀ s ∈ l, symP s = true) → symsL j out ((l.flatMap wSym).map oW ++ r) = .ok (out ++ l, r)
  | _, 0, _, h, _, _ => by omega
  | [], j + 1, out, _, _, _ => by
    show symsL (j + 1) out r = _
    unfold symsL
    rw [hb, if_neg (by simp), List.append_nil]
  | s :: l, j + 1, out, h, h2, h3 => by
    simp only [List.length_cons] at h h2
    rw [List.flatMap_cons, List.map_append, List.append_assoc]
    unfold symsL
    rw [(sym_head s _).1, if_pos rfl, if_neg (by omega), sym_read (h3 s List.mem_cons_self) (syms_suf l hr)]
    simp only
    rw [syms_read hb hr l j (out ++ [s]) (by omega) (by simp only [List.length_append, List.length_cons, List.length_nil]; omega) (fun x hx => h3 x (List.mem_cons_of_mem _ hx)), List.append_assoc]
    rfl
theorem symsW_read {r : List Word} (hb : begP r = false) (hr : noSuf r) {l : List Sym} (h1 : 1 ≤ l.length) (h2 : l.length ≤ 12) (h3 : ∀ s ∈ l, symP s = true) : symsW ((l.flatMap wSym).map oW ++ r) = .ok (l, r) := by
  cases l with
  | nil => simp at h1
  | cons s l =>
    simp only [List.length_cons] at h2
    rw [List.flatMap_cons, List.map_append, List.append_assoc]
    unfold symsW
    rw [sym_read (h3 s List.mem_cons_self) (syms_suf l hr)]
    simp only
    exact syms_read hb hr l 20 [s] (by omega) (by simp only [List.length_cons, List.length_nil]; omega) (fun x hx => h3 x (List.mem_cons_of_mem _ hx))
theorem head_read (a c : List UInt8) (r : List Word) : headW (oW (tNm a) :: ((wCons c).map oW ++ oW (tSg 61) :: r)) = .ok ((a, c), r) := by
  unfold headW wCons
  rw [nameP_nm]
  by_cases hc : c = []
  · subst hc
    rw [if_pos rfl]
    rfl
  · rw [if_neg hc]
    show (if isP (oW (tSg 46) :: oW (tNm c) :: oW (tSg 61) :: r) [46] then _ else _) = _
    rw [if_pos (show isP (oW (tSg 46) :: oW (tNm c) :: oW (tSg 61) :: r) [46] = true from rfl)]
    rw [show (List.map oW [tSg 46, tNm c] ++ oW (tSg 61) :: r).tail = oW (tNm c) :: oW (tSg 61) :: r from rfl, nameP_nm]
    simp only
    rw [want_sg]
theorem prod_read {p : Prod} (h : prodP p = true) {ps : List Prod} (hps : ps.length < 200) (w : Word) (r : List Word) :
    (if p.Lex then lexW w ps else cfW w ps) (oW (tNm p.Sort_) :: ((wCons p.Cons).map oW ++ oW (tSg 61) :: ((p.Syms.flatMap wSym).map oW ++ ((wBr p.Bracket).map oW ++ oW (tSg 59) :: r)))) = .ok (ps ++ [p], r) := by
  obtain ⟨_, _, h1, h2, h5, h6, h7, h8⟩ := prodP_spec h
  obtain ⟨L, so, co, br, sy⟩ := p
  simp only at h1 h2 h5 h6 h7 h8 ⊢
  have hs := List.all_eq_true.1 h5
  cases L with
  | true =>
    simp only [if_true, Bool.not_eq_true'] at h8 ⊢
    subst h8
    unfold lexW
    rw [if_neg (by omega), head_read]
    simp only
    have e := symsW_read (r := oW (tSg 59) :: r) rfl ⟨rfl, rfl, rfl⟩ h1 h2 hs
    have el : lexL 300 so co ps ((sy.flatMap wSym).map oW ++ oW (tSg 59) :: r) = .ok (ps ++ [⟨true, so, co, false, sy⟩], oW (tSg 59) :: r) := by
      unfold lexL
      rw [e]
      rfl
    show (match lexL 300 so co ps ((sy.flatMap wSym).map oW ++ oW (tSg 59) :: r) with
      | .error e => Except.error e
      | .ok (ps', r2) => match wantP r2 [59] with
        | .error e => Except.error e
        | .ok r3 => Except.ok (ps', r3)) = _
    rw [el]
    simp only
    rw [want_sg]
  | false =>
    simp only [Bool.false_eq_true, if_false, beq_iff_eq] at h8 ⊢
    subst h8
    unfold cfW
    rw [if_neg (by omega), head_read]
    simp only
    by_cases hc : co = []
    · subst hc
      have e := symsW_read (r := oW (tKy [98, 114, 97, 99, 107, 101, 116]) :: oW (tSg 59) :: r) rfl ⟨rfl, rfl, rfl⟩ h1 h2 hs
      rw [show (List.map oW (wBr (([] : List UInt8) == [])) ++ oW (tSg 59) :: r) = oW (tKy [98, 114, 97, 99, 107, 101, 116]) :: oW (tSg 59) :: r from rfl, e]
      simp only [if_true]
      rw [want_ky]
      simp only
      rw [want_sg]
      rfl
    · have hb : (co == []) = false := by simpa using hc
      rw [hb]
      have e := symsW_read (r := oW (tSg 59) :: r) rfl ⟨rfl, rfl, rfl⟩ h1 h2 hs
      rw [show (List.map oW (wBr false) ++ oW (tSg 59) :: r) = oW (tSg 59) :: r from rfl, e]
      simp only [hc, if_false]
      rw [want_sg]
theorem cons_read {r : List Word} (hr : hkd r 1 = false) : ∀ (l : List (List UInt8)) (j : Nat) (out : List (List UInt8)), l.length < j → out.length + l.length ≤ 16 → namesL j out ((l.map tNm).map oW ++ r) = .ok (out ++ l, r)
  | _, 0, _, h, _ => by omega
  | [], j + 1, out, _, _ => by
    show namesL (j + 1) out r = _
    unfold namesL
    cases r with
    | nil => simp
    | cons w r =>
      have : ¬ w.Kind = 1 := by simpa [hkd] using hr
      simp only
      rw [if_neg this, List.append_nil]
  | a :: l, j + 1, out, h, h2 => by
    simp only [List.length_cons] at h h2
    show namesL (j + 1) out (oW (tNm a) :: ((l.map tNm).map oW ++ r)) = _
    unfold namesL
    simp only
    rw [if_pos (show (oW (tNm a)).Kind = 1 from rfl), if_neg (by omega), nameP_nm]
    simp only
    rw [cons_read hr l j (out ++ [a]) (by omega) (by simp only [List.length_append, List.length_cons, List.length_nil]; omega), List.append_assoc]
    rfl
theorem groupA_read {a : Int} (h0 : 0 ≤ a) (h3 : a ≤ 3) (c : List UInt8) (r : List Word) : groupA ((wAs a).map oW ++ oW (tNm c) :: r) = (a, oW (tNm c) :: r) := by
  unfold wAs
  by_cases h1 : a = 1
  · subst h1; rfl
  by_cases h2 : a = 2
  · subst h2; rfl
  by_cases h3 : a = 3
  · subst h3; rfl
  have : a = 0 := by omega
  subst this
  rfl
theorem group_read {g : Group} (h : groupP g = true) {r : List Word} (hr : hkd r 1 = false) : groupW ((wGroup g).map oW ++ r) = .ok (g, r) := by
  obtain ⟨⟨h0, h3⟩, h1, h2, h4⟩ := groupP_spec h
  obtain ⟨a, cs⟩ := g
  simp only at h0 h3 h1 h2 h4
  unfold wGroup
  simp only
  cases cs with
  | nil => simp at h1
  | cons c l =>
    simp only [List.length_cons] at h2
    rw [List.map_append, List.append_assoc]
    have e : groupA ((wAs a).map oW ++ (((c :: l).map tNm).map oW ++ r)) = (a, oW (tNm c) :: ((l.map tNm).map oW ++ r)) := groupA_read h0 h3 c _
    unfold groupW
    rw [e]
    simp only
    rw [nameP_nm]
    simp only
    rw [cons_read hr l 30 [c] (by omega) (by simp only [List.length_cons, List.length_nil]; omega)]
    rfl
theorem groups_read {r : List Word} (hr : isP r [62] = false) (hr1 : hkd r 1 = false) : ∀ (l : List Group) (j : Nat) (out : List Group), l.length < j → out.length + l.length ≤ 16 → (∀ g ∈ l, groupP g = true) → prioL j out ((l.flatMap fun h => tSg 62 :: wGroup h).map oW ++ r) = .ok (out ++ l, r)
  | _, 0, _, h, _, _ => by omega
  | [], j + 1, out, _, _, _ => by
    show prioL (j + 1) out r = _
    unfold prioL
    rw [hr, if_neg (by simp), List.append_nil]
  | g :: l, j + 1, out, h, h2, h3 => by
    simp only [List.length_cons] at h h2
    have e : ((g :: l).flatMap fun h => tSg 62 :: wGroup h).map oW ++ r = oW (tSg 62) :: ((wGroup g).map oW ++ ((l.flatMap fun h => tSg 62 :: wGroup h).map oW ++ r)) := by simp
    have hk : hkd ((l.flatMap fun h => tSg 62 :: wGroup h).map oW ++ r) 1 = false := by
      cases l with
      | nil => exact hr1
      | cons g' l => rfl
    rw [e]
    unfold prioL
    rw [if_pos (show isP (oW (tSg 62) :: _) [62] = true from rfl), if_neg (by omega), List.tail_cons, group_read (h3 g List.mem_cons_self) hk]
    simp only
    rw [groups_read hr hr1 l j (out ++ [g]) (by omega) (by simp only [List.length_append, List.length_cons, List.length_nil]; omega) (fun x hx => h3 x (List.mem_cons_of_mem _ hx)), List.append_assoc]
    rfl
theorem chain_read {l : List Group} (h : chainP l = true) (r : List Word) : prioW ((wChainG l).map oW ++ oW (tSg 59) :: r) = .ok (l, r) := by
  obtain ⟨h1, h2, h3⟩ := chainP_spec h
  cases l with
  | nil => simp at h1
  | cons g l =>
    simp only [List.length_cons] at h2
    have hk : hkd ((l.flatMap fun h => tSg 62 :: wGroup h).map oW ++ oW (tSg 59) :: r) 1 = false := by
      cases l <;> rfl
    unfold prioW wChainG
    rw [List.map_append, List.append_assoc, group_read (h3 g List.mem_cons_self) hk]
    simp only
    rw [groups_read (r := oW (tSg 59) :: r) rfl rfl l 30 [g] (by omega) (by simp only [List.length_cons, List.length_nil]; omega) (fun x hx => h3 x (List.mem_cons_of_mem _ hx))]
    simp only
    rw [want_sg]
    rfl
theorem items_read : ∀ (n : Nat) (l : List Item) (m f : Nat) (r : List Word), n ≤ 64 → itsC l n = some m → n < f → itBeg r = false → listW f (64 - n) ((wIts l).map oW ++ r) = .ok ((l, 64 - m), r) := by
  intro n
  induction n using Nat.strongRecOn with
  | _ n ih =>
    intro l m f r hn h hf hr
    obtain ⟨f, rfl⟩ : ∃ f', f = f' + 1 := ⟨f - 1, by omega⟩
    cases l with
    | nil =>
      have : m = n := by simpa [itsC] using h.symm
      subst this
      show listW (f + 1) (64 - m) ((wIts []).map oW ++ r) = _
      rw [wIts]
      show listW (f + 1) (64 - m) r = _
      unfold listW
      rw [hr, if_neg (by simp)]
    | cons x q =>
      obtain ⟨n', a, rfl, hp, ha, hq⟩ := itsC_cons h
      obtain ⟨_, hle, _⟩ := itsT_len n' x.Items a ha
      obtain ⟨_, hle2, _⟩ := itsT_len a q m hq
      obtain ⟨p1, p2, p3, p4, p5⟩ := itemP1_spec hp
      have hrest := ih a (by omega) q m f r (by omega) hq (by omega) hr
      have e64 : 64 - (n' + 1) + 1 = 64 - n' := by omega
      have key : itBeg ((wIt x).map oW ++ ((wIts q).map oW ++ r)) = true ∧ itemW (listW f) (64 - n') ((wIt x).map oW ++ ((wIts q).map oW ++ r)) = .ok ((x, 64 - a), (wIts q).map oW ++ r) := by
        have hin : ∀ rest, withinW (listW f) (64 - n') (oW (tSg 40) :: ((wIts x.Items).map oW ++ oW (tSg 41) :: rest)) = .ok ((x.Items, 64 - a), rest) := by
          intro rest
          unfold withinW
          rw [want_sg]
          simp only
          rw [ih n' (by omega) x.Items a f (oW (tSg 41) :: rest) (by omega) ha (by omega) rfl]
          simp only
          rw [want_sg]
        obtain ⟨K, T, N, I⟩ := x
        simp only at p1 p2 p3 p4 p5 hin ha
        unfold itemP1 at hp
        simp only at hp
        have nil_of : decide (I.length = 0) = true → I = [] ∧ a = n' := fun hI => by
          have hI := List.length_eq_zero_iff.1 (of_decide_eq_true hI)
          subst hI
          exact ⟨rfl, by simpa [itsC] using ha.symm⟩
        rw [wIt]
        split at hp
        · rename_i hk
          subst hk
          simp only [Bool.and_eq_true, beq_iff_eq] at hp
          obtain ⟨hT, rfl, hI⟩ := hp
          obtain ⟨rfl, rfl⟩ := nil_of hI
          refine ⟨rfl, ?_⟩
          show (match kindP (oW (tQt T) :: ((wIts q).map oW ++ r)) 4 with
            | .error e => Except.error e
            | .ok (x, r') => Except.ok ((Item.mk 1 (toS x.Bytes) 0 [], 64 - a), r')) = _
          rw [kindP_qt (of_decide_eq_true hT)]
          show Except.ok ((Item.mk 1 (toS (ofS T)) 0 [], 64 - a), _) = _
          rw [toS_ofS2]
        split at hp
        · rename_i hk
          subst hk
          simp only [Bool.and_eq_true, beq_iff_eq] at hp
          obtain ⟨rfl, _, hI⟩ := hp
          obtain ⟨rfl, rfl⟩ := nil_of hI
          exact ⟨rfl, rfl⟩
        split at hp
        · rename_i hk
          simp only [Bool.and_eq_true, beq_iff_eq] at hp
          obtain ⟨rfl, rfl, hI⟩ := hp
          obtain ⟨rfl, rfl⟩ := nil_of hI
          rcases hk with rfl | rfl <;> exact ⟨rfl, rfl⟩
        split at hp
        · rename_i hk
          subst hk
          simp only [Bool.and_eq_true, beq_iff_eq] at hp
          obtain ⟨rfl, _⟩ := hp
          have e : (((if (5 : Int) = 1 then [tQt []] else if (5 : Int) = 2 then [tNu N] else if (5 : Int) = 3 then [tSg 95] else if (5 : Int) = 4 then [tSg 47]
            else if (5 : Int) = 5 then tKy [110, 101, 115, 116] :: tNu N :: tSg 40 :: (wIts I ++ [tSg 41])
            else if (5 : Int) = 6 then tKy [103, 114, 111, 117, 112] :: tSg 40 :: (wIts I ++ [tSg 41]) else []) : List Wd).map oW ++ ((wIts q).map oW ++ r)) = oW (tKy [110, 101, 115, 116]) :: oW (tNu N) :: oW (tSg 40) :: ((wIts I).map oW ++ oW (tSg 41) :: ((wIts q).map oW ++ r)) := by
            simp
          rw [e]
          refine ⟨rfl, ?_⟩
          show (match withinW (listW f) (64 - n') (oW (tSg 40) :: ((wIts I).map oW ++ oW (tSg 41) :: ((wIts q).map oW ++ r))) with
            | .error e => Except.error e
            | .ok ((i, m), r3) => Except.ok ((Item.mk 5 [] N i, m), r3)) = _
          rw [hin]
        split at hp
        · rename_i hk
          subst hk
          simp only [Bool.and_eq_true, beq_iff_eq] at hp
          obtain ⟨rfl, rfl⟩ := hp
          have e : (((if (6 : Int) = 1 then [tQt []] else if (6 : Int) = 2 then [tNu 0] else if (6 : Int) = 3 then [tSg 95] else if (6 : Int) = 4 then [tSg 47]
            else if (6 : Int) = 5 then tKy [110, 101, 115, 116] :: tNu 0 :: tSg 40 :: (wIts I ++ [tSg 41])
            else if (6 : Int) = 6 then tKy [103, 114, 111, 117, 112] :: tSg 40 :: (wIts I ++ [tSg 41]) else []) : List Wd).map oW ++ ((wIts q).map oW ++ r)) = oW (tKy [103, 114, 111, 117, 112]) :: oW (tSg 40) :: ((wIts I).map oW ++ oW (tSg 41) :: ((wIts q).map oW ++ r)) := by
            simp
          rw [e]
          refine ⟨rfl, ?_⟩
          show (match withinW (listW f) (64 - n') (oW (tSg 40) :: ((wIts I).map oW ++ oW (tSg 41) :: ((wIts q).map oW ++ r))) with
            | .error e => Except.error e
            | .ok ((i, m), r3) => Except.ok ((Item.mk 6 [] 0 i, m), r3)) = _
          rw [hin]
        · cases hp
      rw [wIts, List.map_append, List.append_assoc]
      unfold listW
      rw [key.1, if_pos rfl, if_neg (by omega), e64, key.2]
      simp only
      rw [hrest]
theorem box_read {b : Box} (h : boxP b = true) (r : List Word) : ∃ m, boxW (oW (tNm b.Cons) :: oW (tSg 61) :: ((wIts b.Items).map oW ++ oW (tSg 59) :: r)) = .ok ((b, m), r) := by
  simp only [boxP, Bool.and_eq_true, Option.isSome_iff_exists] at h
  obtain ⟨_, m, h2⟩ := h
  refine ⟨64 - m, ?_⟩
  unfold boxW
  rw [nameP_nm]
  simp only
  rw [want_sg]
  simp only
  rw [show (0 : Nat) = 64 - 64 from rfl, items_read 64 b.Items m 65 (oW (tSg 59) :: r) (Nat.le_refl _) h2 (by omega) rfl]
  simp only
  rw [want_sg]
end Go.Vc
