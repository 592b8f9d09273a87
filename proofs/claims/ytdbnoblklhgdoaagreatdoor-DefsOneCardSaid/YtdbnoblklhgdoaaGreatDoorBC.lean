import Derived.Test.YtdbnoblklhgdoaaGreatDoorBB
set_option linter.unusedVariables false
set_option linter.unusedSimpArgs false
set_option linter.unusedSectionVars false
namespace Go.Vc
open Go
def oW (p : Wd) : zh := wd [] 0 p.1 p.2
theorem jp (a : List UInt8) (r : List zh) : xf (oW (vP a) :: r) = .ok (a, r) := rfl
theorem isP_sg (c : UInt8) (r : List zh) (t : List UInt8) : xU (oW (xb c) :: r) t = ([c] == t) := rfl
theorem isP_ky (a : List UInt8) (r : List zh) (t : List UInt8) : xU (oW (jy a) :: r) t = (a == t) := rfl
theorem vt (c : UInt8) (r : List zh) : zM (oW (xb c) :: r) [c] = .ok r := by unfold zM; rw [isP_sg, if_pos (by simp)]; rfl
theorem want_ky (a : List UInt8) (r : List zh) : zM (oW (jy a) :: r) a = .ok r := by unfold zM; rw [isP_ky, if_pos (by simp)]; rfl
def noSuf (r : List zh) : Prop := xU r [63] = false /\ xU r [42] = false /\ xU r [43] = false
theorem endP_none (k : Int) (set : S4) (nm : List UInt8) {r : List zh} (hr : noSuf r) : qk k set nm r = (⟨k, [], set, nm, []⟩, r) := by
 unfold qk
 rw [hr.1, hr.2.1, hr.2.2]
 rfl
theorem endP_q (k : Int) (set : S4) (nm : List UInt8) (r : List zh) : qk k set nm (oW (xb 63) :: r) = (⟨4, [], set, nm, []⟩, r) := rfl
theorem endP_s (k : Int) (set : S4) (nm : List UInt8) (r : List zh) : qk k set nm (oW (xb 42) :: r) = (⟨5, [], set, nm, []⟩, r) := rfl
theorem endP_p (k : Int) (set : S4) (nm : List UInt8) (r : List zh) : qk k set nm (oW (xb 43) :: r) = (⟨6, [], set, nm, []⟩, r) := rfl
theorem u9 (S : S4) (r : List zh) : vy (oW (tSt S) :: r) = .ok (qk 2 S [] r) := rfl
theorem symW_nm (a : List UInt8) (r : List zh) : vy (oW (vP a) :: r) = .ok (qk 3 wG a r) := rfl
theorem symW_br (r : List zh) : vy (oW (xb 123) :: r) = uz r := rfl
theorem kindP_qt {a : List UInt8} (h : a.length <= 32) (r : List zh) : xk (oW (uG a) :: r) 4 = .ok (oW (uG a), r) := by
 show (if (oW (uG a)).Kind = 4 then (if (4 : Int) = 4 /\ 32 < (wS a).length then Except.error (Fault.mk (oW (uG a)).At 2) else Except.ok (oW (uG a), r)) else Except.error (Fault.mk (oW (uG a)).At 30)) = _
 rw [if_pos (show (oW (uG a)).Kind = 4 from rfl), if_neg (by rw [vu]; omega)]
theorem symW_qt {a : List UInt8} (h : a.length <= 32) (r : List zh) : vy (oW (uG a) :: r) = .ok (⟨1, a, wG, [], []⟩, r) := by
 have e : vy (oW (uG a) :: r) = (match xk (oW (uG a) :: r) 4 with
   | .error e => Except.error e
   | .ok (x, r') => Except.ok (⟨1, vx x.Bytes, wG, [], []⟩, r')) := rfl
 rw [e, kindP_qt h]
 show Except.ok (xj.mk 1 (vx (wS a)) wG [] [], r) = _
 rw [gC]
theorem brace_read {N P : List UInt8} (hp : P ≠ []) (hl : P.length <= 32) (c : UInt8) (hc : c = 42 \/ c = 43) (r : List zh) :
  uz (oW (vP N) :: oW (uG P) :: oW (xb 125) :: oW (xb c) :: r) = .ok (⟨if c = 42 then 5 else 6, [], wG, N, P⟩, r) := by
 unfold uz
 rw [jp]
 simp only
 rw [kindP_qt hl]
 have hb : (oW (uG P)).Bytes = wS P := rfl
 have h0 : ¬ (oW (uG P)).Bytes.length = 0 := by
  rw [hb, vu]
  exact fun h => hp (List.length_eq_zero_iff.1 h)
 simp only
 rw [if_neg h0, vt]
 simp only [hb, gC]
 rcases hc with rfl | rfl
 ·rfl
 ·rfl
theorem zS_eq {s : S4} (h : zS s = true) : s = wG := by
 rcases s with ⟨a, b, c, d⟩
 simp [zS, S4.eq] at h
 obtain ⟨rfl, rfl, rfl, rfl⟩ := h
 rfl
theorem isNm_ne {a : List UInt8} (h : xE a = true) : a ≠ [] := (we h).1
theorem sym_read {s : xj} (h : vQ s = true) {r : List zh} (hr : noSuf r) : vy ((ju s).map oW ++ r) = .ok (s, r) := by
 obtain ⟨K, T, S, N, P⟩ := s
 unfold vQ at h
 unfold ju wB wA
 simp only at h ⊢
 split at h
 ·rename_i hk
  subst hk
  simp only [Bool.and_eq_true, decide_eq_true_eq, beq_iff_eq] at h
  obtain ⟨h1, h2, rfl, rfl⟩ := h
  have := zS_eq h2
  subst this
  exact symW_qt h1 r
 split at h
 ·rename_i hk
  subst hk
  simp only [Bool.and_eq_true, beq_iff_eq] at h
  obtain ⟨rfl, rfl, rfl⟩ := h
  show vy (oW (tSt S) :: r) = _
  rw [u9, endP_none _ _ _ hr]
 split at h
 ·rename_i hk
  subst hk
  simp only [Bool.and_eq_true, beq_iff_eq] at h
  obtain ⟨rfl, h2, h3, rfl⟩ := h
  have := zS_eq h2
  subst this
  rw [if_neg (isNm_ne h3)]
  show vy (oW (vP N) :: r) = _
  rw [symW_nm, endP_none _ _ _ hr]
 split at h
 ·rename_i hk
  subst hk
  simp only [Bool.and_eq_true, Bool.or_eq_true, beq_iff_eq] at h
  obtain ⟨rfl, rfl, h3⟩ := h
  by_cases hn : N = []
  ·subst hn
   show vy (oW (tSt S) :: oW (xb 63) :: r) = _
   rw [u9, endP_q]
  ·rw [if_neg hn]
   have h4 := h3.resolve_left hn
   have := zS_eq h4.1
   subst this
   show vy (oW (vP N) :: oW (xb 63) :: r) = _
   rw [symW_nm, endP_q]
 split at h
 ·rename_i hk
  by_cases hn : N = []
  ·subst hn
   rw [if_pos (by simp)] at h
   simp only [Bool.and_eq_true, beq_iff_eq] at h
   obtain ⟨rfl, rfl⟩ := h
   rcases hk with rfl | rfl
   ·show vy (oW (tSt S) :: oW (xb 42) :: r) = _
    rw [u9, endP_s]
   ·show vy (oW (tSt S) :: oW (xb 43) :: r) = _
    rw [u9, endP_p]
  ·rw [if_neg (by simpa using hn)] at h
   simp only [Bool.and_eq_true, beq_iff_eq, decide_eq_true_eq] at h
   obtain ⟨rfl, h2, h3, h4⟩ := h
   have := zS_eq h2
   subst this
   rw [if_neg hn]
   by_cases hP : P = []
   ·subst hP
    rcases hk with rfl | rfl
    ·show vy (oW (vP N) :: oW (xb 42) :: r) = _
     rw [symW_nm, endP_s]
    ·show vy (oW (vP N) :: oW (xb 43) :: r) = _
     rw [symW_nm, endP_p]
   ·rw [if_neg hP]
    rcases hk with rfl | rfl
    ·show vy (oW (xb 123) :: oW (vP N) :: oW (uG P) :: oW (xb 125) :: oW (xb 42) :: r) = _
     rw [symW_br, brace_read hP h4 42 (.inl rfl)]
     rfl
    ·show vy (oW (xb 123) :: oW (vP N) :: oW (uG P) :: oW (xb 125) :: oW (xb 43) :: r) = _
     rw [symW_br, brace_read hP h4 43 (.inr rfl)]
     rfl
 ·cases h
theorem sym_head (s : xj) (r : List zh) : u4 ((ju s).map oW ++ r) = true /\ noSuf ((ju s).map oW ++ r) := by
 unfold ju wB wA
 repeat' split
 all_goals exact ⟨rfl, rfl, rfl, rfl⟩
theorem syms_suf (l : List xj) {r : List zh} (hr : noSuf r) : noSuf ((l.flatMap ju).map oW ++ r) := by
 cases l with
 | nil => exact hr
 | cons s l =>
  rw [List.flatMap_cons, List.map_append, List.append_assoc]
  exact (sym_head s _).2
theorem syms_read {r : List zh} (hb : u4 r = false) (hr : noSuf r) : ∀ (l : List xj) (j : Nat) (out : List xj), l.length < j -> out.length + l.length <= 12 -> (∀ s ∈ l, vQ s = true) -> jk j out ((l.flatMap ju).map oW ++ r) = .ok (out ++ l, r)
 | _, 0, _, h, _, _ => by omega
 | [], j + 1, out, _, _, _ => by
  show jk (j + 1) out r = _
  unfold jk
  rw [hb, if_neg (by simp), List.append_nil]
 | s :: l, j + 1, out, h, h2, h3 => by
  simp only [List.length_cons] at h h2
  rw [List.flatMap_cons, List.map_append, List.append_assoc]
  unfold jk
  rw [(sym_head s _).1, if_pos rfl, if_neg (by omega), sym_read (h3 s List.mem_cons_self) (syms_suf l hr)]
  simp only
  rw [syms_read hb hr l j (out ++ [s]) (by omega) (by simp only [List.length_append, List.length_cons, List.length_nil]; omega) (fun x hx => h3 x (List.mem_cons_of_mem _ hx)), List.append_assoc]
  rfl
theorem ga {r : List zh} (hb : u4 r = false) (hr : noSuf r) {l : List xj} (h1 : 1 <= l.length) (h2 : l.length <= 12) (h3 : ∀ s ∈ l, vQ s = true) : jj ((l.flatMap ju).map oW ++ r) = .ok (l, r) := by
 cases l with
 | nil => simp at h1
 | cons s l =>
  simp only [List.length_cons] at h2
  rw [List.flatMap_cons, List.map_append, List.append_assoc]
  unfold jj
  rw [sym_read (h3 s List.mem_cons_self) (syms_suf l hr)]
  simp only
  exact syms_read hb hr l 20 [s] (by omega) (by simp only [List.length_cons, List.length_nil]; omega) (fun x hx => h3 x (List.mem_cons_of_mem _ hx))
theorem head_read (a c : List UInt8) (r : List zh) : headW (oW (vP a) :: ((wCons c).map oW ++ oW (xb 61) :: r)) = .ok ((a, c), r) := by
 unfold headW wCons
 rw [jp]
 by_cases hc : c = []
 ·subst hc
  rw [if_pos rfl]
  rfl
 ·rw [if_neg hc]
  show (if xU (oW (xb 46) :: oW (vP c) :: oW (xb 61) :: r) [46] then _ else _) = _
  rw [if_pos (show xU (oW (xb 46) :: oW (vP c) :: oW (xb 61) :: r) [46] = true from rfl)]
  rw [show (List.map oW [xb 46, vP c] ++ oW (xb 61) :: r).tail = oW (vP c) :: oW (xb 61) :: r from rfl, jp]
  simp only
  rw [vt]
theorem prod_read {p : Prod} (h : kB p = true) {ps : List Prod} (hps : ps.length < 200) (w : zh) (r : List zh) :
  (if p.Lex then gM w ps else cfW w ps) (oW (vP p.Sort_) :: ((wCons p.Cons).map oW ++ oW (xb 61) :: ((p.Syms.flatMap ju).map oW ++ ((wBr p.Bracket).map oW ++ oW (xb 59) :: r)))) = .ok (ps ++ [p], r) := by
 obtain ⟨_, _, h1, h2, h5, h6, h7, h8⟩ := jC h
 obtain ⟨L, so, co, br, sy⟩ := p
 simp only at h1 h2 h5 h6 h7 h8 ⊢
 have hs := List.all_eq_true.1 h5
 cases L with
 | true =>
  simp only [if_true, Bool.not_eq_true'] at h8 ⊢
  subst h8
  unfold gM
  rw [if_neg (by omega), head_read]
  simp only
  have e := ga (r := oW (xb 59) :: r) rfl ⟨rfl, rfl, rfl⟩ h1 h2 hs
  have el : uq 300 so co ps ((sy.flatMap ju).map oW ++ oW (xb 59) :: r) = .ok (ps ++ [⟨true, so, co, false, sy⟩], oW (xb 59) :: r) := by
   unfold uq
   rw [e]
   rfl
  show (match uq 300 so co ps ((sy.flatMap ju).map oW ++ oW (xb 59) :: r) with
   | .error e => Except.error e
   | .ok (ps', r2) => match zM r2 [59] with
    | .error e => Except.error e
    | .ok r3 => Except.ok (ps', r3)) = _
  rw [el]
  simp only
  rw [vt]
 | false =>
  simp only [Bool.false_eq_true, if_false, beq_iff_eq] at h8 ⊢
  subst h8
  unfold cfW
  rw [if_neg (by omega), head_read]
  simp only
  by_cases hc : co = []
  ·subst hc
   have e := ga (r := oW (jy [98, 114, 97, 99, 107, 101, 116]) :: oW (xb 59) :: r) rfl ⟨rfl, rfl, rfl⟩ h1 h2 hs
   rw [show (List.map oW (wBr (([] : List UInt8) == [])) ++ oW (xb 59) :: r) = oW (jy [98, 114, 97, 99, 107, 101, 116]) :: oW (xb 59) :: r from rfl, e]
   simp only [if_true]
   rw [want_ky]
   simp only
   rw [vt]
   rfl
  ·have hb : (co == []) = false := by simpa using hc
   rw [hb]
   have e := ga (r := oW (xb 59) :: r) rfl ⟨rfl, rfl, rfl⟩ h1 h2 hs
   rw [show (List.map oW (wBr false) ++ oW (xb 59) :: r) = oW (xb 59) :: r from rfl, e]
   simp only [hc, if_false]
   rw [vt]
theorem cons_read {r : List zh} (hr : hkd r 1 = false) : ∀ (l : List (List UInt8)) (j : Nat) (out : List (List UInt8)), l.length < j -> out.length + l.length <= 16 -> wV j out ((l.map vP).map oW ++ r) = .ok (out ++ l, r)
 | _, 0, _, h, _ => by omega
 | [], j + 1, out, _, _ => by
  show wV (j + 1) out r = _
  unfold wV
  cases r with
  | nil => simp
  | cons w r =>
   have : ¬ w.Kind = 1 := by simpa [hkd] using hr
   simp only
   rw [if_neg this, List.append_nil]
 | a :: l, j + 1, out, h, h2 => by
  simp only [List.length_cons] at h h2
  show wV (j + 1) out (oW (vP a) :: ((l.map vP).map oW ++ r)) = _
  unfold wV
  simp only
  rw [if_pos (show (oW (vP a)).Kind = 1 from rfl), if_neg (by omega), jp]
  simp only
  rw [cons_read hr l j (out ++ [a]) (by omega) (by simp only [List.length_append, List.length_cons, List.length_nil]; omega), List.append_assoc]
  rfl
theorem groupA_read {a : Int} (h0 : 0 <= a) (h3 : a <= 3) (c : List UInt8) (r : List zh) : jd ((wAs a).map oW ++ oW (vP c) :: r) = (a, oW (vP c) :: r) := by
 unfold wAs
 by_cases h1 : a = 1
 ·subst h1; rfl
 by_cases h2 : a = 2
 ·subst h2; rfl
 by_cases h3 : a = 3
 ·subst h3; rfl
 have : a = 0 := by omega
 subst this
 rfl
theorem group_read {g : zx} (h : vd g = true) {r : List zh} (hr : hkd r 1 = false) : kF ((vj g).map oW ++ r) = .ok (g, r) := by
 obtain ⟨⟨h0, h3⟩, h1, h2, h4⟩ := vH h
 obtain ⟨a, cs⟩ := g
 simp only at h0 h3 h1 h2 h4
 unfold vj
 simp only
 cases cs with
 | nil => simp at h1
 | cons c l =>
  simp only [List.length_cons] at h2
  rw [List.map_append, List.append_assoc]
  have e : jd ((wAs a).map oW ++ (((c :: l).map vP).map oW ++ r)) = (a, oW (vP c) :: ((l.map vP).map oW ++ r)) := groupA_read h0 h3 c _
  unfold kF
  rw [e]
  simp only
  rw [jp]
  simp only
  rw [cons_read hr l 30 [c] (by omega) (by simp only [List.length_cons, List.length_nil]; omega)]
  rfl
theorem uN {r : List zh} (hr : xU r [62] = false) (hr1 : hkd r 1 = false) : ∀ (l : List zx) (j : Nat) (out : List zx), l.length < j -> out.length + l.length <= 16 -> (∀ g ∈ l, vd g = true) -> qT j out ((l.flatMap fun h => xb 62 :: vj h).map oW ++ r) = .ok (out ++ l, r)
 | _, 0, _, h, _, _ => by omega
 | [], j + 1, out, _, _, _ => by
  show qT (j + 1) out r = _
  unfold qT
  rw [hr, if_neg (by simp), List.append_nil]
 | g :: l, j + 1, out, h, h2, h3 => by
  simp only [List.length_cons] at h h2
  have e : ((g :: l).flatMap fun h => xb 62 :: vj h).map oW ++ r = oW (xb 62) :: ((vj g).map oW ++ ((l.flatMap fun h => xb 62 :: vj h).map oW ++ r)) := by simp
  have hk : hkd ((l.flatMap fun h => xb 62 :: vj h).map oW ++ r) 1 = false := by
   cases l with
   | nil => exact hr1
   | cons g' l => rfl
  rw [e]
  unfold qT
  rw [if_pos (show xU (oW (xb 62) :: _) [62] = true from rfl), if_neg (by omega), List.tail_cons, group_read (h3 g List.mem_cons_self) hk]
  simp only
  rw [uN hr hr1 l j (out ++ [g]) (by omega) (by simp only [List.length_append, List.length_cons, List.length_nil]; omega) (fun x hx => h3 x (List.mem_cons_of_mem _ hx)), List.append_assoc]
  rfl
theorem chain_read {l : List zx} (h : vf l = true) (r : List zh) : j9 ((gz l).map oW ++ oW (xb 59) :: r) = .ok (l, r) := by
 obtain ⟨h1, h2, h3⟩ := k8 h
 cases l with
 | nil => simp at h1
 | cons g l =>
  simp only [List.length_cons] at h2
  have hk : hkd ((l.flatMap fun h => xb 62 :: vj h).map oW ++ oW (xb 59) :: r) 1 = false := by
   cases l <;> rfl
  unfold j9 gz
  rw [List.map_append, List.append_assoc, group_read (h3 g List.mem_cons_self) hk]
  simp only
  rw [uN (r := oW (xb 59) :: r) rfl rfl l 30 [g] (by omega) (by simp only [List.length_cons, List.length_nil]; omega) (fun x hx => h3 x (List.mem_cons_of_mem _ hx))]
  simp only
  rw [vt]
  rfl
theorem items_read : ∀ (n : Nat) (l : List Item) (m f : Nat) (r : List zh), n <= 64 -> wM l n = some m -> n < f -> kE r = false -> xN f (64 - n) ((wn l).map oW ++ r) = .ok ((l, 64 - m), r) := by
 intro n
 induction n using Nat.strongRecOn with
 | _ n ih =>
  intro l m f r hn h hf hr
  obtain ⟨f, rfl⟩ : ∃ f', f = f' + 1 := ⟨f - 1, by omega⟩
  cases l with
  | nil =>
   have : m = n := by simpa [wM] using h.symm
   subst this
   show xN (f + 1) (64 - m) ((wn []).map oW ++ r) = _
   rw [wn]
   show xN (f + 1) (64 - m) r = _
   unfold xN
   rw [hr, if_neg (by simp)]
  | cons x q =>
   obtain ⟨n', a, rfl, hp, ha, hq⟩ := qA h
   obtain ⟨_, hle, _⟩ := vE n' x.Items a ha
   obtain ⟨_, hle2, _⟩ := vE a q m hq
   obtain ⟨p1, p2, p3, p4, p5⟩ := vG hp
   have hrest := ih a (by omega) q m f r (by omega) hq (by omega) hr
   have e64 : 64 - (n' + 1) + 1 = 64 - n' := by omega
   have key : kE ((wIt x).map oW ++ ((wn q).map oW ++ r)) = true /\ qf (xN f) (64 - n') ((wIt x).map oW ++ ((wn q).map oW ++ r)) = .ok ((x, 64 - a), (wn q).map oW ++ r) := by
    have hin : ∀ rest, xC (xN f) (64 - n') (oW (xb 40) :: ((wn x.Items).map oW ++ oW (xb 41) :: rest)) = .ok ((x.Items, 64 - a), rest) := by
     intro rest
     unfold xC
     rw [vt]
     simp only
     rw [ih n' (by omega) x.Items a f (oW (xb 41) :: rest) (by omega) ha (by omega) rfl]
     simp only
     rw [vt]
    obtain ⟨K, T, N, I⟩ := x
    simp only at p1 p2 p3 p4 p5 hin ha
    unfold vW at hp
    simp only at hp
    have nil_of : decide (I.length = 0) = true -> I = [] /\ a = n' := fun hI => by
     have hI := List.length_eq_zero_iff.1 (of_decide_eq_true hI)
     subst hI
     exact ⟨rfl, by simpa [wM] using ha.symm⟩
    rw [wIt]
    split at hp
    ·rename_i hk
     subst hk
     simp only [Bool.and_eq_true, beq_iff_eq] at hp
     obtain ⟨hT, rfl, hI⟩ := hp
     obtain ⟨rfl, rfl⟩ := nil_of hI
     refine ⟨rfl, ?_⟩
     show (match xk (oW (uG T) :: ((wn q).map oW ++ r)) 4 with
      | .error e => Except.error e
      | .ok (x, r') => Except.ok ((Item.mk 1 (vx x.Bytes) 0 [], 64 - a), r')) = _
     rw [kindP_qt (of_decide_eq_true hT)]
     show Except.ok ((Item.mk 1 (vx (wS T)) 0 [], 64 - a), _) = _
     rw [gC]
    split at hp
    ·rename_i hk
     subst hk
     simp only [Bool.and_eq_true, beq_iff_eq] at hp
     obtain ⟨rfl, _, hI⟩ := hp
     obtain ⟨rfl, rfl⟩ := nil_of hI
     exact ⟨rfl, rfl⟩
    split at hp
    ·rename_i hk
     simp only [Bool.and_eq_true, beq_iff_eq] at hp
     obtain ⟨rfl, rfl, hI⟩ := hp
     obtain ⟨rfl, rfl⟩ := nil_of hI
     rcases hk with rfl | rfl <;> exact ⟨rfl, rfl⟩
    split at hp
    ·rename_i hk
     subst hk
     simp only [Bool.and_eq_true, beq_iff_eq] at hp
     obtain ⟨rfl, _⟩ := hp
     have e : (((if (5 : Int) = 1 then [uG []] else if (5 : Int) = 2 then [tNu N] else if (5 : Int) = 3 then [xb 95] else if (5 : Int) = 4 then [xb 47]
      else if (5 : Int) = 5 then jy [110, 101, 115, 116] :: tNu N :: xb 40 :: (wn I ++ [xb 41])
      else if (5 : Int) = 6 then jy [103, 114, 111, 117, 112] :: xb 40 :: (wn I ++ [xb 41]) else []) : List Wd).map oW ++ ((wn q).map oW ++ r)) = oW (jy [110, 101, 115, 116]) :: oW (tNu N) :: oW (xb 40) :: ((wn I).map oW ++ oW (xb 41) :: ((wn q).map oW ++ r)) := by
      simp
     rw [e]
     refine ⟨rfl, ?_⟩
     show (match xC (xN f) (64 - n') (oW (xb 40) :: ((wn I).map oW ++ oW (xb 41) :: ((wn q).map oW ++ r))) with
      | .error e => Except.error e
      | .ok ((i, m), r3) => Except.ok ((Item.mk 5 [] N i, m), r3)) = _
     rw [hin]
    split at hp
    ·rename_i hk
     subst hk
     simp only [Bool.and_eq_true, beq_iff_eq] at hp
     obtain ⟨rfl, rfl⟩ := hp
     have e : (((if (6 : Int) = 1 then [uG []] else if (6 : Int) = 2 then [tNu 0] else if (6 : Int) = 3 then [xb 95] else if (6 : Int) = 4 then [xb 47]
      else if (6 : Int) = 5 then jy [110, 101, 115, 116] :: tNu 0 :: xb 40 :: (wn I ++ [xb 41])
      else if (6 : Int) = 6 then jy [103, 114, 111, 117, 112] :: xb 40 :: (wn I ++ [xb 41]) else []) : List Wd).map oW ++ ((wn q).map oW ++ r)) = oW (jy [103, 114, 111, 117, 112]) :: oW (xb 40) :: ((wn I).map oW ++ oW (xb 41) :: ((wn q).map oW ++ r)) := by
      simp
     rw [e]
     refine ⟨rfl, ?_⟩
     show (match xC (xN f) (64 - n') (oW (xb 40) :: ((wn I).map oW ++ oW (xb 41) :: ((wn q).map oW ++ r))) with
      | .error e => Except.error e
      | .ok ((i, m), r3) => Except.ok ((Item.mk 6 [] 0 i, m), r3)) = _
     rw [hin]
    ·cases hp
   rw [wn, List.map_append, List.append_assoc]
   unfold xN
   rw [key.1, if_pos rfl, if_neg (by omega), e64, key.2]
   simp only
   rw [hrest]
theorem box_read {b : xi} (h : boxP b = true) (r : List zh) : ∃ m, uA (oW (vP b.Cons) :: oW (xb 61) :: ((wn b.Items).map oW ++ oW (xb 59) :: r)) = .ok ((b, m), r) := by
 simp only [boxP, Bool.and_eq_true, Option.isSome_iff_exists] at h
 obtain ⟨_, m, h2⟩ := h
 refine ⟨64 - m, ?_⟩
 unfold uA
 rw [jp]
 simp only
 rw [vt]
 simp only
 rw [show (0 : Nat) = 64 - 64 from rfl, items_read 64 b.Items m 65 (oW (xb 59) :: r) (Nat.le_refl _) h2 (by omega) rfl]
 simp only
 rw [vt]
end Go.Vc
