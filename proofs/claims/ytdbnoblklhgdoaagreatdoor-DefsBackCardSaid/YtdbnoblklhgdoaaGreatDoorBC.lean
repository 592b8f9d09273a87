import Derived.Test.YtdbnoblklhgdoaaGreatDoorBB
set_option linter.unusedVariables false
set_option linter.unusedSimpArgs false
set_option linter.unusedSectionVars false
namespace Go.Vc
open Go
def oW (p : Wd) : zg := wd [] 0 p.1 p.2
theorem jK (a : List UInt8) (r : List zg) : yR (oW (km a) :: r) = .ok (a, r) := rfl
theorem isP_sg (c : UInt8) (r : List zg) (t : List UInt8) : xt (oW (xh c) :: r) t = ([c] == t) := rfl
theorem isP_ky (a : List UInt8) (r : List zg) (t : List UInt8) : xt (oW (jR a) :: r) t = (a == t) := rfl
theorem vV (c : UInt8) (r : List zg) : zJ (oW (xh c) :: r) [c] = .ok r := by unfold zJ; rw [isP_sg, if_pos (by simp)]; rfl
theorem want_ky (a : List UInt8) (r : List zg) : zJ (oW (jR a) :: r) a = .ok r := by unfold zJ; rw [isP_ky, if_pos (by simp)]; rfl
def noSuf (r : List zg) : Prop := xt r [63] = false /\ xt r [42] = false /\ xt r [43] = false
theorem endP_none (k : Int) (set : S4) (nm : List UInt8) {r : List zg} (hr : noSuf r) : jM k set nm r = (⟨k, [], set, nm, []⟩, r) := by
 unfold jM
 rw [hr.1, hr.2.1, hr.2.2]
 rfl
theorem endP_q (k : Int) (set : S4) (nm : List UInt8) (r : List zg) : jM k set nm (oW (xh 63) :: r) = (⟨4, [], set, nm, []⟩, r) := rfl
theorem endP_s (k : Int) (set : S4) (nm : List UInt8) (r : List zg) : jM k set nm (oW (xh 42) :: r) = (⟨5, [], set, nm, []⟩, r) := rfl
theorem endP_p (k : Int) (set : S4) (nm : List UInt8) (r : List zg) : jM k set nm (oW (xh 43) :: r) = (⟨6, [], set, nm, []⟩, r) := rfl
theorem symW_st (S : S4) (r : List zg) : vo (oW (tSt S) :: r) = .ok (jM 2 S [] r) := rfl
theorem symW_nm (a : List UInt8) (r : List zg) : vo (oW (km a) :: r) = .ok (jM 3 xA a r) := rfl
theorem symW_br (r : List zg) : vo (oW (xh 123) :: r) = gM r := rfl
theorem kindP_qt {a : List UInt8} (h : a.length <= 32) (r : List zg) : yN (oW (u4 a) :: r) 4 = .ok (oW (u4 a), r) := by
 show (if (oW (u4 a)).Kind = 4 then (if (4 : Int) = 4 /\ 32 < (ve a).length then Except.error (Fault.mk (oW (u4 a)).At 2) else Except.ok (oW (u4 a), r)) else Except.error (Fault.mk (oW (u4 a)).At 30)) = _
 rw [if_pos (show (oW (u4 a)).Kind = 4 from rfl), if_neg (by rw [vY]; omega)]
theorem symW_qt {a : List UInt8} (h : a.length <= 32) (r : List zg) : vo (oW (u4 a) :: r) = .ok (⟨1, a, xA, [], []⟩, r) := by
 have e : vo (oW (u4 a) :: r) = (match yN (oW (u4 a) :: r) 4 with
   | .error e => Except.error e
   | .ok (x, r') => Except.ok (⟨1, vj x.Bytes, xA, [], []⟩, r')) := rfl
 rw [e, kindP_qt h]
 show Except.ok (xg.mk 1 (vj (ve a)) xA [] [], r) = _
 rw [g8]
theorem brace_read {N P : List UInt8} (hp : P ≠ []) (hl : P.length <= 32) (c : UInt8) (hc : c = 42 \/ c = 43) (r : List zg) :
  gM (oW (km N) :: oW (u4 P) :: oW (xh 125) :: oW (xh c) :: r) = .ok (⟨if c = 42 then 5 else 6, [], xA, N, P⟩, r) := by
 unfold gM
 rw [jK]
 simp only
 rw [kindP_qt hl]
 have hb : (oW (u4 P)).Bytes = ve P := rfl
 have h0 : ¬ (oW (u4 P)).Bytes.length = 0 := by
  rw [hb, vY]
  exact fun h => hp (List.length_eq_zero_iff.1 h)
 simp only
 rw [if_neg h0, vV]
 simp only [hb, g8]
 rcases hc with rfl | rfl
 ·rfl
 ·rfl
theorem zS_eq {s : S4} (h : zS s = true) : s = xA := by
 rcases s with ⟨a, b, c, d⟩
 simp [zS, S4.eq] at h
 obtain ⟨rfl, rfl, rfl, rfl⟩ := h
 rfl
theorem uf {a : List UInt8} (h : yU a = true) : a ≠ [] := (wq h).1
theorem sym_read {s : xg} (h : wW s = true) {r : List zg} (hr : noSuf r) : vo ((jO s).map oW ++ r) = .ok (s, r) := by
 obtain ⟨K, T, S, N, P⟩ := s
 unfold wW at h
 unfold jO wB wA
 simp only at h ⊢
 split at h
 ·rename_i hk
  subst hk
  simp only [Bool.and_eq_true, decide_eq_true_eq, beq_iff_eq] at h
  obtain ⟨h1, h2, rfl, rfl⟩ := h
  have := zS_eq h2
  subst this
  exact symW_qt h1 r
 split at h
 ·rename_i hk
  subst hk
  simp only [Bool.and_eq_true, beq_iff_eq] at h
  obtain ⟨rfl, rfl, rfl⟩ := h
  show vo (oW (tSt S) :: r) = _
  rw [symW_st, endP_none _ _ _ hr]
 split at h
 ·rename_i hk
  subst hk
  simp only [Bool.and_eq_true, beq_iff_eq] at h
  obtain ⟨rfl, h2, h3, rfl⟩ := h
  have := zS_eq h2
  subst this
  rw [if_neg (uf h3)]
  show vo (oW (km N) :: r) = _
  rw [symW_nm, endP_none _ _ _ hr]
 split at h
 ·rename_i hk
  subst hk
  simp only [Bool.and_eq_true, Bool.or_eq_true, beq_iff_eq] at h
  obtain ⟨rfl, rfl, h3⟩ := h
  by_cases hn : N = []
  ·subst hn
   show vo (oW (tSt S) :: oW (xh 63) :: r) = _
   rw [symW_st, endP_q]
  ·rw [if_neg hn]
   have h4 := h3.resolve_left hn
   have := zS_eq h4.1
   subst this
   show vo (oW (km N) :: oW (xh 63) :: r) = _
   rw [symW_nm, endP_q]
 split at h
 ·rename_i hk
  by_cases hn : N = []
  ·subst hn
   rw [if_pos (by simp)] at h
   simp only [Bool.and_eq_true, beq_iff_eq] at h
   obtain ⟨rfl, rfl⟩ := h
   rcases hk with rfl | rfl
   ·show vo (oW (tSt S) :: oW (xh 42) :: r) = _
    rw [symW_st, endP_s]
   ·show vo (oW (tSt S) :: oW (xh 43) :: r) = _
    rw [symW_st, endP_p]
  ·rw [if_neg (by simpa using hn)] at h
   simp only [Bool.and_eq_true, beq_iff_eq, decide_eq_true_eq] at h
   obtain ⟨rfl, h2, h3, h4⟩ := h
   have := zS_eq h2
   subst this
   rw [if_neg hn]
   by_cases hP : P = []
   ·subst hP
    rcases hk with rfl | rfl
    ·show vo (oW (km N) :: oW (xh 42) :: r) = _
     rw [symW_nm, endP_s]
    ·show vo (oW (km N) :: oW (xh 43) :: r) = _
     rw [symW_nm, endP_p]
   ·rw [if_neg hP]
    rcases hk with rfl | rfl
    ·show vo (oW (xh 123) :: oW (km N) :: oW (u4 P) :: oW (xh 125) :: oW (xh 42) :: r) = _
     rw [symW_br, brace_read hP h4 42 (.inl rfl)]
     rfl
    ·show vo (oW (xh 123) :: oW (km N) :: oW (u4 P) :: oW (xh 125) :: oW (xh 43) :: r) = _
     rw [symW_br, brace_read hP h4 43 (.inr rfl)]
     rfl
 ·cases h
theorem sym_head (s : xg) (r : List zg) : uX ((jO s).map oW ++ r) = true /\ noSuf ((jO s).map oW ++ r) := by
 unfold jO wB wA
 repeat' split
 all_goals exact ⟨rfl, rfl, rfl, rfl⟩
theorem syms_suf (l : List xg) {r : List zg} (hr : noSuf r) : noSuf ((l.flatMap jO).map oW ++ r) := by
 cases l with
 | nil => exact hr
 | cons s l =>
  rw [List.flatMap_cons, List.map_append, List.append_assoc]
  exact (sym_head s _).2
theorem syms_read {r : List zg} (hb : uX r = false) (hr : noSuf r) : ∀ (l : List xg) (j : Nat) (out : List xg), l.length < j -> out.length + l.length <= 12 -> (∀ s ∈ l, wW s = true) -> kA j out ((l.flatMap jO).map oW ++ r) = .ok (out ++ l, r)
 | _, 0, _, h, _, _ => by omega
 | [], j + 1, out, _, _, _ => by
  show kA (j + 1) out r = _
  unfold kA
  rw [hb, if_neg (by simp), List.append_nil]
 | s :: l, j + 1, out, h, h2, h3 => by
  simp only [List.length_cons] at h h2
  rw [List.flatMap_cons, List.map_append, List.append_assoc]
  unfold kA
  rw [(sym_head s _).1, if_pos rfl, if_neg (by omega), sym_read (h3 s List.mem_cons_self) (syms_suf l hr)]
  simp only
  rw [syms_read hb hr l j (out ++ [s]) (by omega) (by simp only [List.length_append, List.length_cons, List.length_nil]; omega) (fun x hx => h3 x (List.mem_cons_of_mem _ hx)), List.append_assoc]
  rfl
theorem gD {r : List zg} (hb : uX r = false) (hr : noSuf r) {l : List xg} (h1 : 1 <= l.length) (h2 : l.length <= 12) (h3 : ∀ s ∈ l, wW s = true) : kz ((l.flatMap jO).map oW ++ r) = .ok (l, r) := by
 cases l with
 | nil => simp at h1
 | cons s l =>
  simp only [List.length_cons] at h2
  rw [List.flatMap_cons, List.map_append, List.append_assoc]
  unfold kz
  rw [sym_read (h3 s List.mem_cons_self) (syms_suf l hr)]
  simp only
  exact syms_read hb hr l 20 [s] (by omega) (by simp only [List.length_cons, List.length_nil]; omega) (fun x hx => h3 x (List.mem_cons_of_mem _ hx))
theorem head_read (a c : List UInt8) (r : List zg) : headW (oW (km a) :: ((wCons c).map oW ++ oW (xh 61) :: r)) = .ok ((a, c), r) := by
 unfold headW wCons
 rw [jK]
 by_cases hc : c = []
 ·subst hc
  rw [if_pos rfl]
  rfl
 ·rw [if_neg hc]
  show (if xt (oW (xh 46) :: oW (km c) :: oW (xh 61) :: r) [46] then _ else _) = _
  rw [if_pos (show xt (oW (xh 46) :: oW (km c) :: oW (xh 61) :: r) [46] = true from rfl)]
  rw [show (List.map oW [xh 46, km c] ++ oW (xh 61) :: r).tail = oW (km c) :: oW (xh 61) :: r from rfl, jK]
  simp only
  rw [vV]
theorem prod_read {p : Prod} (h : kc p = true) {ps : List Prod} (hps : ps.length < 200) (w : zg) (r : List zg) :
  (if p.Lex then ql w ps else cfW w ps) (oW (km p.Sort_) :: ((wCons p.Cons).map oW ++ oW (xh 61) :: ((p.Syms.flatMap jO).map oW ++ ((wBr p.Bracket).map oW ++ oW (xh 59) :: r)))) = .ok (ps ++ [p], r) := by
 obtain ⟨_, _, h1, h2, h5, h6, h7, h8⟩ := jV h
 obtain ⟨L, so, co, br, sy⟩ := p
 simp only at h1 h2 h5 h6 h7 h8 ⊢
 have hs := List.all_eq_true.1 h5
 cases L with
 | true =>
  simp only [if_true, Bool.not_eq_true'] at h8 ⊢
  subst h8
  unfold ql
  rw [if_neg (by omega), head_read]
  simp only
  have e := gD (r := oW (xh 59) :: r) rfl ⟨rfl, rfl, rfl⟩ h1 h2 hs
  have el : gr 300 so co ps ((sy.flatMap jO).map oW ++ oW (xh 59) :: r) = .ok (ps ++ [⟨true, so, co, false, sy⟩], oW (xh 59) :: r) := by
   unfold gr
   rw [e]
   rfl
  show (match gr 300 so co ps ((sy.flatMap jO).map oW ++ oW (xh 59) :: r) with
   | .error e => Except.error e
   | .ok (ps', r2) => match zJ r2 [59] with
    | .error e => Except.error e
    | .ok r3 => Except.ok (ps', r3)) = _
  rw [el]
  simp only
  rw [vV]
 | false =>
  simp only [Bool.false_eq_true, if_false, beq_iff_eq] at h8 ⊢
  subst h8
  unfold cfW
  rw [if_neg (by omega), head_read]
  simp only
  by_cases hc : co = []
  ·subst hc
   have e := gD (r := oW (jR [98, 114, 97, 99, 107, 101, 116]) :: oW (xh 59) :: r) rfl ⟨rfl, rfl, rfl⟩ h1 h2 hs
   rw [show (List.map oW (wBr (([] : List UInt8) == [])) ++ oW (xh 59) :: r) = oW (jR [98, 114, 97, 99, 107, 101, 116]) :: oW (xh 59) :: r from rfl, e]
   simp only [if_true]
   rw [want_ky]
   simp only
   rw [vV]
   rfl
  ·have hb : (co == []) = false := by simpa using hc
   rw [hb]
   have e := gD (r := oW (xh 59) :: r) rfl ⟨rfl, rfl, rfl⟩ h1 h2 hs
   rw [show (List.map oW (wBr false) ++ oW (xh 59) :: r) = oW (xh 59) :: r from rfl, e]
   simp only [hc, if_false]
   rw [vV]
theorem cons_read {r : List zg} (hr : hkd r 1 = false) : ∀ (l : List (List UInt8)) (j : Nat) (out : List (List UInt8)), l.length < j -> out.length + l.length <= 16 -> xQ j out ((l.map km).map oW ++ r) = .ok (out ++ l, r)
 | _, 0, _, h, _ => by omega
 | [], j + 1, out, _, _ => by
  show xQ (j + 1) out r = _
  unfold xQ
  cases r with
  | nil => simp
  | cons w r =>
   have : ¬ w.Kind = 1 := by simpa [hkd] using hr
   simp only
   rw [if_neg this, List.append_nil]
 | a :: l, j + 1, out, h, h2 => by
  simp only [List.length_cons] at h h2
  show xQ (j + 1) out (oW (km a) :: ((l.map km).map oW ++ r)) = _
  unfold xQ
  simp only
  rw [if_pos (show (oW (km a)).Kind = 1 from rfl), if_neg (by omega), jK]
  simp only
  rw [cons_read hr l j (out ++ [a]) (by omega) (by simp only [List.length_append, List.length_cons, List.length_nil]; omega), List.append_assoc]
  rfl
theorem groupA_read {a : Int} (h0 : 0 <= a) (h3 : a <= 3) (c : List UInt8) (r : List zg) : kY ((wAs a).map oW ++ oW (km c) :: r) = (a, oW (km c) :: r) := by
 unfold wAs
 by_cases h1 : a = 1
 ·subst h1; rfl
 by_cases h2 : a = 2
 ·subst h2; rfl
 by_cases h3 : a = 3
 ·subst h3; rfl
 have : a = 0 := by omega
 subst this
 rfl
theorem group_read {g : zw} (h : wu g = true) {r : List zg} (hr : hkd r 1 = false) : vg ((vH g).map oW ++ r) = .ok (g, r) := by
 obtain ⟨⟨h0, h3⟩, h1, h2, h4⟩ := ki h
 obtain ⟨a, cs⟩ := g
 simp only at h0 h3 h1 h2 h4
 unfold vH
 simp only
 cases cs with
 | nil => simp at h1
 | cons c l =>
  simp only [List.length_cons] at h2
  rw [List.map_append, List.append_assoc]
  have e : kY ((wAs a).map oW ++ (((c :: l).map km).map oW ++ r)) = (a, oW (km c) :: ((l.map km).map oW ++ r)) := groupA_read h0 h3 c _
  unfold vg
  rw [e]
  simp only
  rw [jK]
  simp only
  rw [cons_read hr l 30 [c] (by omega) (by simp only [List.length_cons, List.length_nil]; omega)]
  rfl
theorem groups_read {r : List zg} (hr : xt r [62] = false) (hr1 : hkd r 1 = false) : ∀ (l : List zw) (j : Nat) (out : List zw), l.length < j -> out.length + l.length <= 16 -> (∀ g ∈ l, wu g = true) -> jI j out ((l.flatMap fun h => xh 62 :: vH h).map oW ++ r) = .ok (out ++ l, r)
 | _, 0, _, h, _, _ => by omega
 | [], j + 1, out, _, _, _ => by
  show jI (j + 1) out r = _
  unfold jI
  rw [hr, if_neg (by simp), List.append_nil]
 | g :: l, j + 1, out, h, h2, h3 => by
  simp only [List.length_cons] at h h2
  have e : ((g :: l).flatMap fun h => xh 62 :: vH h).map oW ++ r = oW (xh 62) :: ((vH g).map oW ++ ((l.flatMap fun h => xh 62 :: vH h).map oW ++ r)) := by simp
  have hk : hkd ((l.flatMap fun h => xh 62 :: vH h).map oW ++ r) 1 = false := by
   cases l with
   | nil => exact hr1
   | cons g' l => rfl
  rw [e]
  unfold jI
  rw [if_pos (show xt (oW (xh 62) :: _) [62] = true from rfl), if_neg (by omega), List.tail_cons, group_read (h3 g List.mem_cons_self) hk]
  simp only
  rw [groups_read hr hr1 l j (out ++ [g]) (by omega) (by simp only [List.length_append, List.length_cons, List.length_nil]; omega) (fun x hx => h3 x (List.mem_cons_of_mem _ hx)), List.append_assoc]
  rfl
theorem chain_read {l : List zw} (h : wJ l = true) (r : List zg) : kV ((gZ l).map oW ++ oW (xh 59) :: r) = .ok (l, r) := by
 obtain ⟨h1, h2, h3⟩ := ju h
 cases l with
 | nil => simp at h1
 | cons g l =>
  simp only [List.length_cons] at h2
  have hk : hkd ((l.flatMap fun h => xh 62 :: vH h).map oW ++ oW (xh 59) :: r) 1 = false := by
   cases l <;> rfl
  unfold kV gZ
  rw [List.map_append, List.append_assoc, group_read (h3 g List.mem_cons_self) hk]
  simp only
  rw [groups_read (r := oW (xh 59) :: r) rfl rfl l 30 [g] (by omega) (by simp only [List.length_cons, List.length_nil]; omega) (fun x hx => h3 x (List.mem_cons_of_mem _ hx))]
  simp only
  rw [vV]
  rfl
theorem items_read : ∀ (n : Nat) (l : List Item) (m f : Nat) (r : List zg), n <= 64 -> wF l n = some m -> n < f -> kh r = false -> xi f (64 - n) ((wC l).map oW ++ r) = .ok ((l, 64 - m), r) := by
 intro n
 induction n using Nat.strongRecOn with
 | _ n ih =>
  intro l m f r hn h hf hr
  obtain ⟨f, rfl⟩ : ∃ f', f = f' + 1 := ⟨f - 1, by omega⟩
  cases l with
  | nil =>
   have : m = n := by simpa [wF] using h.symm
   subst this
   show xi (f + 1) (64 - m) ((wC []).map oW ++ r) = _
   rw [wC]
   show xi (f + 1) (64 - m) r = _
   unfold xi
   rw [hr, if_neg (by simp)]
  | cons x q =>
   obtain ⟨n', a, rfl, hp, ha, hq⟩ := qW h
   obtain ⟨_, hle, _⟩ := kf n' x.Items a ha
   obtain ⟨_, hle2, _⟩ := kf a q m hq
   obtain ⟨p1, p2, p3, p4, p5⟩ := kg hp
   have hrest := ih a (by omega) q m f r (by omega) hq (by omega) hr
   have e64 : 64 - (n' + 1) + 1 = 64 - n' := by omega
   have key : kh ((wIt x).map oW ++ ((wC q).map oW ++ r)) = true /\ vG (xi f) (64 - n') ((wIt x).map oW ++ ((wC q).map oW ++ r)) = .ok ((x, 64 - a), (wC q).map oW ++ r) := by
    have hin : ∀ rest, yO (xi f) (64 - n') (oW (xh 40) :: ((wC x.Items).map oW ++ oW (xh 41) :: rest)) = .ok ((x.Items, 64 - a), rest) := by
     intro rest
     unfold yO
     rw [vV]
     simp only
     rw [ih n' (by omega) x.Items a f (oW (xh 41) :: rest) (by omega) ha (by omega) rfl]
     simp only
     rw [vV]
    obtain ⟨K, T, N, I⟩ := x
    simp only at p1 p2 p3 p4 p5 hin ha
    unfold wt at hp
    simp only at hp
    have nil_of : decide (I.length = 0) = true -> I = [] /\ a = n' := fun hI => by
     have hI := List.length_eq_zero_iff.1 (of_decide_eq_true hI)
     subst hI
     exact ⟨rfl, by simpa [wF] using ha.symm⟩
    rw [wIt]
    split at hp
    ·rename_i hk
     subst hk
     simp only [Bool.and_eq_true, beq_iff_eq] at hp
     obtain ⟨hT, rfl, hI⟩ := hp
     obtain ⟨rfl, rfl⟩ := nil_of hI
     refine ⟨rfl, ?_⟩
     show (match yN (oW (u4 T) :: ((wC q).map oW ++ r)) 4 with
      | .error e => Except.error e
      | .ok (x, r') => Except.ok ((Item.mk 1 (vj x.Bytes) 0 [], 64 - a), r')) = _
     rw [kindP_qt (of_decide_eq_true hT)]
     show Except.ok ((Item.mk 1 (vj (ve T)) 0 [], 64 - a), _) = _
     rw [g8]
    split at hp
    ·rename_i hk
     subst hk
     simp only [Bool.and_eq_true, beq_iff_eq] at hp
     obtain ⟨rfl, _, hI⟩ := hp
     obtain ⟨rfl, rfl⟩ := nil_of hI
     exact ⟨rfl, rfl⟩
    split at hp
    ·rename_i hk
     simp only [Bool.and_eq_true, beq_iff_eq] at hp
     obtain ⟨rfl, rfl, hI⟩ := hp
     obtain ⟨rfl, rfl⟩ := nil_of hI
     rcases hk with rfl | rfl <;> exact ⟨rfl, rfl⟩
    split at hp
    ·rename_i hk
     subst hk
     simp only [Bool.and_eq_true, beq_iff_eq] at hp
     obtain ⟨rfl, _⟩ := hp
     have e : (((if (5 : Int) = 1 then [u4 []] else if (5 : Int) = 2 then [tNu N] else if (5 : Int) = 3 then [xh 95] else if (5 : Int) = 4 then [xh 47]
      else if (5 : Int) = 5 then jR [110, 101, 115, 116] :: tNu N :: xh 40 :: (wC I ++ [xh 41])
      else if (5 : Int) = 6 then jR [103, 114, 111, 117, 112] :: xh 40 :: (wC I ++ [xh 41]) else []) : List Wd).map oW ++ ((wC q).map oW ++ r)) = oW (jR [110, 101, 115, 116]) :: oW (tNu N) :: oW (xh 40) :: ((wC I).map oW ++ oW (xh 41) :: ((wC q).map oW ++ r)) := by
      simp
     rw [e]
     refine ⟨rfl, ?_⟩
     show (match yO (xi f) (64 - n') (oW (xh 40) :: ((wC I).map oW ++ oW (xh 41) :: ((wC q).map oW ++ r))) with
      | .error e => Except.error e
      | .ok ((i, m), r3) => Except.ok ((Item.mk 5 [] N i, m), r3)) = _
     rw [hin]
    split at hp
    ·rename_i hk
     subst hk
     simp only [Bool.and_eq_true, beq_iff_eq] at hp
     obtain ⟨rfl, rfl⟩ := hp
     have e : (((if (6 : Int) = 1 then [u4 []] else if (6 : Int) = 2 then [tNu 0] else if (6 : Int) = 3 then [xh 95] else if (6 : Int) = 4 then [xh 47]
      else if (6 : Int) = 5 then jR [110, 101, 115, 116] :: tNu 0 :: xh 40 :: (wC I ++ [xh 41])
      else if (6 : Int) = 6 then jR [103, 114, 111, 117, 112] :: xh 40 :: (wC I ++ [xh 41]) else []) : List Wd).map oW ++ ((wC q).map oW ++ r)) = oW (jR [103, 114, 111, 117, 112]) :: oW (xh 40) :: ((wC I).map oW ++ oW (xh 41) :: ((wC q).map oW ++ r)) := by
      simp
     rw [e]
     refine ⟨rfl, ?_⟩
     show (match yO (xi f) (64 - n') (oW (xh 40) :: ((wC I).map oW ++ oW (xh 41) :: ((wC q).map oW ++ r))) with
      | .error e => Except.error e
      | .ok ((i, m), r3) => Except.ok ((Item.mk 6 [] 0 i, m), r3)) = _
     rw [hin]
    ·cases hp
   rw [wC, List.map_append, List.append_assoc]
   unfold xi
   rw [key.1, if_pos rfl, if_neg (by omega), e64, key.2]
   simp only
   rw [hrest]
theorem box_read {b : xm} (h : uV b = true) (r : List zg) : ∃ m, qo (oW (km b.Cons) :: oW (xh 61) :: ((wC b.Items).map oW ++ oW (xh 59) :: r)) = .ok ((b, m), r) := by
 simp only [uV, Bool.and_eq_true, Option.isSome_iff_exists] at h
 obtain ⟨_, m, h2⟩ := h
 refine ⟨64 - m, ?_⟩
 unfold qo
 rw [jK]
 simp only
 rw [vV]
 simp only
 rw [show (0 : Nat) = 64 - 64 from rfl, items_read 64 b.Items m 65 (oW (xh 59) :: r) (Nat.le_refl _) h2 (by omega) rfl]
 simp only
 rw [vV]
end Go.Vc
