/-
  What is written is read as words: a definition's text.
-/
import Derived.Test.YtdbnoblklhgdoaaGreatDoorBA
set_option linter.unusedVariables false
set_option linter.unusedSimpArgs false
set_option linter.unusedSectionVars false
namespace Go.Vc
open Go
def wA (s : Sym) : Wd := if s.Name = [] then tSt s.Set else tNm s.Name
def wB (s : Sym) : List Wd := if s.Sep = [] then [wA s] else [tSg 123, tNm s.Name, tQt s.Sep, tSg 125]
def wSym (s : Sym) : List Wd := if s.Kind = 1 then [tQt s.Text] else if s.Kind = 4 then wB s ++ [tSg 63] else if s.Kind = 5 then wB s ++ [tSg 42] else if s.Kind = 6 then wB s ++ [tSg 43] else wB s
def wCons (c : List UInt8) : List Wd := if c = [] then [] else [tSg 46, tNm c]
def wBr (b : Bool) : List Wd := if b then [tKy [98, 114, 97, 99, 107, 101, 116]] else []
def wKind (b : Bool) : Wd := if b then tKy [108, 101, 120] else tKy [99, 102]
def wProd (p : Prod) : List Wd := wKind p.Lex :: tNm p.Sort_ :: (wCons p.Cons ++ tSg 61 :: (p.Syms.flatMap wSym ++ (wBr p.Bracket ++ [tSg 59])))
def wAs (a : Int) : List Wd := if a = 1 then [tKy [108, 101, 102, 116]] else if a = 2 then [tKy [114, 105, 103, 104, 116]] else if a = 3 then [tKy [110, 111, 110]] else []
def wGroup (g : Group) : List Wd := wAs g.Assoc ++ g.Cons.map tNm
def wChainG : List Group → List Wd
  | [] => []
  | g :: r => wGroup g ++ r.flatMap fun h => tSg 62 :: wGroup h
def wChain (l : List Group) : List Wd := tKy [112, 114, 105, 111] :: (wChainG l ++ [tSg 59])
def wFollow (f : Follow) : List Wd := [tKy [102, 111, 108, 108, 111, 119], tNm f.Sort_, tSt f.Set, tSg 59]
def wReject (r : Reject) : List Wd := [tKy [114, 101, 106, 101, 99, 116], tNm r.Sort_, tNm r.By, tSg 59]
mutual
def wIt : Item → List Wd
  | .mk a b c l => if a = 1 then [tQt b] else if a = 2 then [tNu c] else if a = 3 then [tSg 95] else if a = 4 then [tSg 47]
    else if a = 5 then tKy [110, 101, 115, 116] :: tNu c :: tSg 40 :: (wIts l ++ [tSg 41])
    else if a = 6 then tKy [103, 114, 111, 117, 112] :: tSg 40 :: (wIts l ++ [tSg 41]) else []
def wIts : List Item → List Wd
  | [] => []
  | x :: r => wIt x ++ wIts r
end
theorem wIt_eq (x : Item) : wIt x = if x.Kind = 1 then [tQt x.Text] else if x.Kind = 2 then [tNu x.N_] else if x.Kind = 3 then [tSg 95] else if x.Kind = 4 then [tSg 47]
    else if x.Kind = 5 then tKy [110, 101, 115, 116] :: tNu x.N_ :: tSg 40 :: (wIts x.Items ++ [tSg 41])
    else if x.Kind = 6 then tKy [103, 114, 111, 117, 112] :: tSg 40 :: (wIts x.Items ++ [tSg 41]) else [] := by cases x; rw [wIt]
def wBox (b : Box) : List Wd := tKy [98, 111, 120] :: tNm b.Cons :: tSg 61 :: (wIts b.Items ++ [tSg 59])
def wStart (s : List UInt8) : List Wd := if s = [] then [] else [tKy [115, 116, 97, 114, 116], tNm s, tSg 59]
def wLayout (s : List UInt8) : List Wd := if s = [] then [] else [tKy [108, 97, 121, 111, 117, 116], tNm s, tSg 59]
def wDef (d : Def) : List Wd := wStart d.Start ++ (wLayout d.Layout ++ (d.Prods.flatMap wProd ++ (d.Chains.flatMap wChain ++ (d.Follows.flatMap wFollow ++ (d.Rejects.flatMap wReject ++ d.Boxes.flatMap wBox)))))
theorem bl32 : blank (32 : UInt8).toNat := .inr (.inl rfl)
theorem bl10 : blank (10 : UInt8).toNat := .inl rfl
theorem Nx_c {c : UInt8} {t : List UInt8} (h : al c = false := by decide) : Nx (c :: t) := h
section
variable {t : List UInt8} {ws : List Wd}
theorem lx_sp (h : Lx t ws) : Lx (32 :: t) ws := .sp 32 bl32 h
theorem lx_nm {a : List UInt8} (ha : isNm a = true) (hs : Nx t) (h : Lx t ws) : Lx (a ++ t) (tNm a :: ws) := Lx.one (gd_name ha) hs h
theorem lx_ky (a : List UInt8) (ha : kyB a = true) (hs : Nx t) (h : Lx t ws) : Lx (a ++ t) (tKy a :: ws) := Lx.one (gd_key ha) hs h
theorem stop_k {k : Int} (h1 : k ≠ 1) (h2 : k ≠ 2) (h3 : k ≠ 3) (t : List UInt8) : stop k t := by
  cases t with
  | nil => trivial
  | cons d t => exact ⟨fun h => absurd h (by omega), fun h => absurd h h3⟩
theorem lx_sg (c : UInt8) (hc : sgB2 c = true) (h : Lx t ws) : Lx (c :: t) (tSg c :: ws) := Lx.wd (w := [c]) (gd_sign hc) (stop_k (by decide) (by decide) (by decide) _) h
theorem lx_qt {a : List UInt8} (ha : a.length ≤ 1000) (h : Lx t ws) : Lx (quo (ofS a) ++ t) (tQt a :: ws) := Lx.wd (gd_quote ha) (stop_k (k := 4) (by decide) (by decide) (by decide) _) h
theorem lx_st {s : S4} (hs : Cp.okS s) (h : Lx t ws) : Lx (Cp.printT s ++ t) (tSt s :: ws) := Lx.wd (gd_set hs) (stop_k (k := 5) (by decide) (by decide) (by decide) _) h
theorem lx_nu {n : Int} (h0 : 0 ≤ n) (h1 : n ≤ 999999) (hs : Nx t) (h : Lx t ws) : Lx (Lib.itoa n ++ t) (tNu n :: ws) := Lx.one (gd_num h0 h1) hs h
theorem lx_end (h : Lx t ws) : Lx (59 :: 10 :: t) (tSg 59 :: ws) := lx_sg 59 (by decide +kernel) (.sp 10 bl10 h)
theorem symP_nm {s : Sym} (h : symP s = true) : (s.Name = [] ∨ isNm s.Name = true) ∧ (s.Sep ≠ [] → isNm s.Name = true) := by
  unfold symP at h
  split at h
  · simp only [Bool.and_eq_true, beq_iff_eq] at h
    exact ⟨.inl h.2.2.1, fun hn => absurd h.2.2.2 hn⟩
  split at h
  · simp only [Bool.and_eq_true, beq_iff_eq] at h
    exact ⟨.inl h.2.1, fun hn => absurd h.2.2 hn⟩
  split at h
  · simp only [Bool.and_eq_true, beq_iff_eq] at h
    exact ⟨.inr h.2.2.1, fun hn => absurd h.2.2.2 hn⟩
  split at h
  · simp only [Bool.and_eq_true, Bool.or_eq_true, beq_iff_eq] at h
    exact ⟨h.2.2.imp id (fun x => x.2), fun hn => absurd h.2.1 hn⟩
  split at h
  · split at h
    · rename_i h1
      simp only [Bool.and_eq_true, beq_iff_eq] at h h1
      exact ⟨.inl h1, fun hn => absurd h.2 hn⟩
    · simp only [Bool.and_eq_true, beq_iff_eq] at h
      exact ⟨.inr h.2.2.1, fun _ => h.2.2.1⟩
  · cases h
theorem lx_A {s : Sym} (h : symP s = true) (ho : Cp.okS s.Set) (hn : Nx t) (hx : Lx t ws) : Lx (symA s ++ t) (wA s :: ws) := by
  unfold symA wA
  split
  · exact lx_st ho hx
  · rename_i hne
    exact lx_nm ((symP_nm h).1.resolve_left hne) hn hx
theorem lx_B {s : Sym} (h : symP s = true) (ho : Cp.okS s.Set) (hn : Nx t) (hx : Lx t ws) : Lx (symB s ++ t) (wB s ++ ws) := by
  unfold symB wB
  split
  · exact lx_A h ho hn hx
  · rename_i hne
    have hl := (symP_len h).2.2.1
    simp only [List.append_assoc, List.singleton_append, List.cons_append, List.nil_append]
    exact lx_sg 123 (by decide +kernel) (lx_nm ((symP_nm h).2 hne) Nx_c (lx_sp (lx_qt (by omega) (lx_sg 125 (by decide +kernel) hx))))
theorem lx_sym {s : Sym} (h : symP s = true) (ho : Cp.okS s.Set) (hn : Nx t) (hx : Lx t ws) : Lx (symT s ++ t) (wSym s ++ ws) := by
  have hl := (symP_len h).1
  unfold symT wSym
  split
  · exact lx_qt (by omega) hx
  split
  · rw [List.append_assoc, List.append_assoc]
    exact lx_B h ho Nx_c (lx_sg 63 (by decide +kernel) hx)
  split
  · rw [List.append_assoc, List.append_assoc]
    exact lx_B h ho Nx_c (lx_sg 42 (by decide +kernel) hx)
  split
  · rw [List.append_assoc, List.append_assoc]
    exact lx_B h ho Nx_c (lx_sg 43 (by decide +kernel) hx)
  · exact lx_B h ho hn hx
theorem lx_syms : ∀ {l : List Sym}, (∀ s ∈ l, symP s = true) → (∀ s ∈ l, Cp.okS s.Set) → Nx t → Lx t ws → Lx (symsT l ++ t) (l.flatMap wSym ++ ws) ∧ Nx (symsT l ++ t)
  | [], _, _, hn, hx => ⟨hx, hn⟩
  | s :: l, h, ho, hn, hx => by
    obtain ⟨h1, h2⟩ := lx_syms (fun x hm => h x (List.mem_cons_of_mem _ hm)) (fun x hm => ho x (List.mem_cons_of_mem _ hm)) hn hx
    refine ⟨?_, Nx_c (c := 32)⟩
    show Lx (32 :: (symT s ++ symsT l) ++ t) (wSym s ++ l.flatMap wSym ++ ws)
    rw [List.append_assoc, List.cons_append, List.append_assoc]
    exact lx_sp (lx_sym (h s List.mem_cons_self) (ho s List.mem_cons_self) h2 h1)
theorem lx_prod {p : Prod} (h : prodP p = true) (ho : ∀ s ∈ p.Syms, Cp.okS s.Set) (hx : Lx t ws) : Lx (endT (prodT p) ++ t) (wProd p ++ ws) := by
  obtain ⟨_, _, _, _, h5, h6, h7, _⟩ := prodP_spec h
  have hb : Lx ((if p.Bracket then [32, 98, 114, 97, 99, 107, 101, 116] else []) ++ 59 :: 10 :: t) (wBr p.Bracket ++ tSg 59 :: ws) ∧ Nx ((if p.Bracket then [32, 98, 114, 97, 99, 107, 101, 116] else []) ++ 59 :: 10 :: t : List UInt8) := by
    unfold wBr
    cases p.Bracket with
    | true => exact ⟨lx_sp (lx_ky [98, 114, 97, 99, 107, 101, 116] (by decide +kernel) Nx_c (lx_end hx)), Nx_c (c := 32)⟩
    | false => exact ⟨lx_end hx, Nx_c (c := 59)⟩
  have hs := lx_syms (List.all_eq_true.1 h5) ho hb.2 hb.1
  have he := lx_sp (lx_sg 61 (by decide +kernel) hs.1)
  have hc : Lx ((if p.Cons = [] then [] else 46 :: p.Cons) ++ 32 :: 61 :: (symsT p.Syms ++ ((if p.Bracket then [32, 98, 114, 97, 99, 107, 101, 116] else []) ++ 59 :: 10 :: t))) (wCons p.Cons ++ tSg 61 :: (p.Syms.flatMap wSym ++ (wBr p.Bracket ++ tSg 59 :: ws))) ∧ Nx ((if p.Cons = [] then [] else 46 :: p.Cons) ++ 32 :: 61 :: (symsT p.Syms ++ ((if p.Bracket then [32, 98, 114, 97, 99, 107, 101, 116] else []) ++ 59 :: 10 :: t)) : List UInt8) := by
    unfold wCons
    by_cases hc : p.Cons = []
    · rw [if_pos hc, if_pos hc]
      exact ⟨he, Nx_c (c := 32)⟩
    · rw [if_neg hc, if_neg hc]
      have hm : isNm p.Cons = true := by
        unfold nmE at h7
        rcases Bool.or_eq_true_iff.1 h7 with h7 | h7
        · simp only [Bool.true_and, beq_iff_eq] at h7
          exact absurd h7 hc
        · exact h7
      exact ⟨lx_sg 46 (by decide +kernel) (lx_nm hm Nx_c he), Nx_c (c := 46)⟩
  have hm := lx_sp (lx_nm h6 hc.2 hc.1)
  unfold endT prodT wProd wKind
  simp only [List.append_assoc, List.cons_append, List.nil_append]
  cases p.Lex with
  | true => exact lx_ky [108, 101, 120] (by decide +kernel) Nx_c hm
  | false => exact lx_ky [99, 102] (by decide +kernel) Nx_c hm
theorem lx_cons : ∀ {l : List (List UInt8)}, l.all isNm = true → Nx t → Lx t ws → Lx (consT l ++ t) (l.map tNm ++ ws) ∧ Nx (consT l ++ t)
  | [], _, hn, hx => ⟨hx, hn⟩
  | a :: l, h, hn, hx => by
    simp only [List.all_cons, Bool.and_eq_true] at h
    obtain ⟨h1, h2⟩ := lx_cons h.2 hn hx
    refine ⟨?_, Nx_c (c := 32)⟩
    show Lx (32 :: a ++ consT l ++ t) (tNm a :: (l.map tNm ++ ws))
    rw [List.append_assoc, List.cons_append]
    exact lx_sp (lx_nm h.1 h2 h1)
theorem lx_group {g : Group} (h : groupP g = true) (hn : Nx t) (hx : Lx t ws) : Lx (groupT g ++ t) (wGroup g ++ ws) ∧ Nx (groupT g ++ t) := by
  obtain ⟨_, _, _, h4⟩ := groupP_spec h
  obtain ⟨h1, h2⟩ := lx_cons h4 hn hx
  unfold groupT wGroup asW wAs
  rw [List.append_assoc, List.append_assoc]
  split
  · exact ⟨lx_sp (lx_ky [108, 101, 102, 116] (by decide +kernel) h2 h1), Nx_c (c := 32)⟩
  split
  · exact ⟨lx_sp (lx_ky [114, 105, 103, 104, 116] (by decide +kernel) h2 h1), Nx_c (c := 32)⟩
  split
  · exact ⟨lx_sp (lx_ky [110, 111, 110] (by decide +kernel) h2 h1), Nx_c (c := 32)⟩
  · exact ⟨h1, h2⟩
theorem lx_groups : ∀ {l : List Group}, (∀ g ∈ l, groupP g = true) → Nx t → Lx t ws → Lx ((l.flatMap fun h => [32, 62] ++ groupT h) ++ t) ((l.flatMap fun h => tSg 62 :: wGroup h) ++ ws) ∧ Nx ((l.flatMap fun h => [32, 62] ++ groupT h) ++ t)
  | [], _, hn, hx => ⟨hx, hn⟩
  | g :: l, h, hn, hx => by
    obtain ⟨h1, h2⟩ := lx_groups (fun x hm => h x (List.mem_cons_of_mem _ hm)) hn hx
    obtain ⟨h3, h4⟩ := lx_group (h g List.mem_cons_self) h2 h1
    refine ⟨?_, Nx_c (c := 32)⟩
    simp only [List.flatMap_cons, List.append_assoc, List.cons_append, List.nil_append]
    exact lx_sp (lx_sg 62 (by decide +kernel) h3)
theorem lx_chain {l : List Group} (h : chainP l = true) (hx : Lx t ws) : Lx (endT (chainT l) ++ t) (wChain l ++ ws) := by
  obtain ⟨h1, _, h2⟩ := chainP_spec h
  unfold endT chainT wChain
  cases l with
  | nil => simp at h1
  | cons g r =>
    obtain ⟨g1, g2⟩ := lx_groups (fun x hm => h2 x (List.mem_cons_of_mem _ hm)) (Nx_c (c := 59) (t := 10 :: t)) (lx_end hx)
    obtain ⟨g3, g4⟩ := lx_group (h2 g List.mem_cons_self) g2 g1
    simp only [chainG, wChainG, List.append_assoc, List.cons_append, List.nil_append]
    exact lx_ky [112, 114, 105, 111] (by decide +kernel) g4 g3
theorem lx_follow {f : Follow} (h : isNm f.Sort_ = true) (ho : Cp.okS f.Set) (hx : Lx t ws) : Lx (endT (followT f) ++ t) (wFollow f ++ ws) := by
  unfold endT followT wFollow
  simp only [List.append_assoc, List.cons_append, List.nil_append]
  exact lx_ky [102, 111, 108, 108, 111, 119] (by decide +kernel) Nx_c (lx_sp (lx_nm h Nx_c (lx_sp (lx_st ho (lx_end hx)))))
theorem lx_reject {r : Reject} (h : isNm r.Sort_ = true) (h2 : isNm r.By = true) (hx : Lx t ws) : Lx (endT (rejectT r) ++ t) (wReject r ++ ws) := by
  unfold endT rejectT wReject
  simp only [List.append_assoc, List.cons_append, List.nil_append]
  exact lx_ky [114, 101, 106, 101, 99, 116] (by decide +kernel) Nx_c (lx_sp (lx_nm h Nx_c (lx_sp (lx_nm h2 Nx_c (lx_end hx)))))
end
theorem lx_items : ∀ (n : Nat) (l : List Item) (m : Nat) {t : List UInt8} {ws : List Wd}, itsC l n = some m → Nx t → Lx t ws → Lx (itsT l ++ t) (wIts l ++ ws) ∧ Nx (itsT l ++ t) := by
  intro n
  induction n using Nat.strongRecOn with
  | _ n ih =>
    intro l m t ws h hn hx
    cases l with
    | nil => exact ⟨by simpa [itsT, wIts] using hx, by simpa [itsT] using hn⟩
    | cons x r =>
      obtain ⟨n', a, rfl, hp, ha, hr⟩ := itsC_cons h
      obtain ⟨_, hle, _⟩ := itsT_len n' x.Items a ha
      obtain ⟨h1, h2⟩ := ih a (by omega) r m hr hn hx
      obtain ⟨p1, p2, p3, _, _⟩ := itemP1_spec hp
      rw [itsT, wIts, itT_eq, wIt_eq, List.append_assoc, List.append_assoc]
      obtain ⟨q1, q2⟩ := ih n' (by omega) x.Items a (t := 32 :: 41 :: (itsT r ++ t)) (ws := tSg 41 :: (wIts r ++ ws)) ha (Nx_c (c := 32)) (lx_sp (lx_sg 41 (by decide +kernel) h1))
      split
      · exact ⟨lx_sp (lx_qt (by omega) h1), Nx_c (c := 32)⟩
      split
      · exact ⟨lx_sp (lx_nu p2 p3 h2 h1), Nx_c (c := 32)⟩
      split
      · exact ⟨lx_sp (lx_sg 95 (by decide +kernel) h1), Nx_c (c := 32)⟩
      split
      · exact ⟨lx_sp (lx_sg 47 (by decide +kernel) h1), Nx_c (c := 32)⟩
      split
      · refine ⟨?_, Nx_c (c := 32)⟩
        simp only [List.append_assoc, List.cons_append, List.nil_append]
        exact lx_sp (lx_ky [110, 101, 115, 116] (by decide +kernel) Nx_c (lx_sp (lx_nu p2 p3 Nx_c (lx_sp (lx_sg 40 (by decide +kernel) q1)))))
      split
      · refine ⟨?_, Nx_c (c := 32)⟩
        simp only [List.append_assoc, List.cons_append, List.nil_append]
        exact lx_sp (lx_ky [103, 114, 111, 117, 112] (by decide +kernel) Nx_c (lx_sp (lx_sg 40 (by decide +kernel) q1)))
      · exact ⟨h1, h2⟩
theorem lx_box {b : Box} {t : List UInt8} {ws : List Wd} (h : boxP b = true) (hx : Lx t ws) : Lx (endT (boxT b) ++ t) (wBox b ++ ws) := by
  simp only [boxP, Bool.and_eq_true, Option.isSome_iff_exists] at h
  obtain ⟨h1, m, h2⟩ := h
  obtain ⟨q1, q2⟩ := lx_items 64 b.Items m h2 (Nx_c (c := 59) (t := 10 :: t)) (lx_end hx)
  unfold endT boxT wBox
  simp only [List.append_assoc, List.cons_append, List.nil_append]
  exact lx_ky [98, 111, 120] (by decide +kernel) Nx_c (lx_sp (lx_nm h1 Nx_c (lx_sp (lx_sg 61 (by decide +kernel) q1))))
theorem lx_map {α : Type} {f : α → List UInt8} {g : α → List Wd} {t : List UInt8} {ws : List Wd} : ∀ {l : List α}, (∀ x ∈ l, ∀ t ws, Lx t ws → Lx (endT (f x) ++ t) (g x ++ ws)) → Lx t ws → Lx ((l.map f).flatMap endT ++ t) (l.flatMap g ++ ws)
  | [], _, hx => hx
  | x :: l, h, hx => by
    simp only [List.map_cons, List.flatMap_cons, List.append_assoc]
    exact h x List.mem_cons_self _ _ (lx_map (fun y hy => h y (List.mem_cons_of_mem _ hy)) hx)
theorem nmE_nm {a : List UInt8} (h : nmE a true = true) (hne : a ≠ []) : isNm a = true := by
  unfold nmE at h
  rcases Bool.or_eq_true_iff.1 h with h | h
  · simp only [Bool.true_and, beq_iff_eq] at h
    exact absurd h hne
  · exact h
theorem lx_def {d : Def} (h : defP d = true) (ho : OkSets d) : Lx (textT d) (wDef d) := by
  simp only [defP, Bool.and_eq_true, decide_eq_true_eq] at h
  obtain ⟨h1, h2, _, h4, h5, h6, h7, h8⟩ := h
  have e : textT d = (startL d).flatMap endT ++ ((layoutL d).flatMap endT ++ ((d.Prods.map prodT).flatMap endT ++ ((d.Chains.map chainT).flatMap endT ++ ((d.Follows.map followT).flatMap endT ++ ((d.Rejects.map rejectT).flatMap endT ++ ((d.Boxes.map boxT).flatMap endT ++ [])))))) := by
    unfold textT linesT
    simp only [List.flatMap_append, List.append_assoc, List.append_nil]
  have l7 := lx_map (f := boxT) (g := wBox) (fun x hx t ws hl => lx_box (List.all_eq_true.1 h8 x hx) hl) Lx.nil
  have l6 := lx_map (f := rejectT) (g := wReject) (fun x hx t ws hl => by
    have := List.all_eq_true.1 h7 x hx
    simp only [Bool.and_eq_true] at this
    exact lx_reject this.1 this.2 hl) l7
  have l5 := lx_map (f := followT) (g := wFollow) (fun x hx t ws hl => lx_follow (List.all_eq_true.1 h6 x hx) (ho.follows x hx) hl) l6
  have l4 := lx_map (f := chainT) (g := wChain) (fun x hx t ws hl => lx_chain (List.all_eq_true.1 h5 x hx) hl) l5
  have l3 := lx_map (f := prodT) (g := wProd) (fun x hx t ws hl => lx_prod (List.all_eq_true.1 h4 x hx) (ho.syms x hx) hl) l4
  have l2 : ∀ {t ws}, Lx t ws → Lx ((layoutL d).flatMap endT ++ t) (wLayout d.Layout ++ ws) := by
    intro t ws hx
    unfold layoutL wLayout
    split
    · exact hx
    · rename_i hne
      simp only [endT, List.flatMap_cons, List.flatMap_nil, List.append_nil, List.append_assoc, List.cons_append, List.nil_append]
      exact lx_ky [108, 97, 121, 111, 117, 116] (by decide +kernel) Nx_c (lx_sp (lx_nm (nmE_nm h2 hne) Nx_c (lx_end hx)))
  have l1 : ∀ {t ws}, Lx t ws → Lx ((startL d).flatMap endT ++ t) (wStart d.Start ++ ws) := by
    intro t ws hx
    unfold startL wStart
    split
    · exact hx
    · rename_i hne
      simp only [endT, List.flatMap_cons, List.flatMap_nil, List.append_nil, List.append_assoc, List.cons_append, List.nil_append]
      exact lx_ky [115, 116, 97, 114, 116] (by decide +kernel) Nx_c (lx_sp (lx_nm (nmE_nm h1 hne) Nx_c (lx_end hx)))
  have := l1 (l2 l3)
  rw [e]
  unfold wDef
  simpa using this
end Go.Vc
