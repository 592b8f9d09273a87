import Derived.Test.YtdbnoblklhgdoaaGreatDoorBA
set_option linter.unusedVariables false
set_option linter.unusedSimpArgs false
set_option linter.unusedSectionVars false
namespace Go.Vc
open Go
def wA (s : xj) : Wd := if s.Name = [] then tSt s.Set else vP s.Name
def wB (s : xj) : List Wd := if s.Sep = [] then [wA s] else [xb 123, vP s.Name, uG s.Sep, xb 125]
def ju (s : xj) : List Wd := if s.Kind = 1 then [uG s.Text] else if s.Kind = 4 then wB s ++ [xb 63] else if s.Kind = 5 then wB s ++ [xb 42] else if s.Kind = 6 then wB s ++ [xb 43] else wB s
def wCons (c : List UInt8) : List Wd := if c = [] then [] else [xb 46, vP c]
def wBr (b : Bool) : List Wd := if b then [jy [98, 114, 97, 99, 107, 101, 116]] else []
def wKind (b : Bool) : Wd := if b then jy [108, 101, 120] else jy [99, 102]
def uF (p : Prod) : List Wd := wKind p.Lex :: vP p.Sort_ :: (wCons p.Cons ++ xb 61 :: (p.Syms.flatMap ju ++ (wBr p.Bracket ++ [xb 59])))
def wAs (a : Int) : List Wd := if a = 1 then [jy [108, 101, 102, 116]] else if a = 2 then [jy [114, 105, 103, 104, 116]] else if a = 3 then [jy [110, 111, 110]] else []
def vj (g : zx) : List Wd := wAs g.Assoc ++ g.Cons.map vP
def gz : List zx -> List Wd
 | [] => []
 | g :: r => vj g ++ r.flatMap fun h => xb 62 :: vj h
def qY (l : List zx) : List Wd := jy [112, 114, 105, 111] :: (gz l ++ [xb 59])
def qp (f : Follow) : List Wd := [jy [102, 111, 108, 108, 111, 119], vP f.Sort_, tSt f.Set, xb 59]
def gx (r : zz) : List Wd := [jy [114, 101, 106, 101, 99, 116], vP r.Sort_, vP r.By, xb 59]
mutual
def wIt : Item -> List Wd
 | .mk a b c l => if a = 1 then [uG b] else if a = 2 then [tNu c] else if a = 3 then [xb 95] else if a = 4 then [xb 47]
  else if a = 5 then jy [110, 101, 115, 116] :: tNu c :: xb 40 :: (wn l ++ [xb 41])
  else if a = 6 then jy [103, 114, 111, 117, 112] :: xb 40 :: (wn l ++ [xb 41]) else []
def wn : List Item -> List Wd
 | [] => []
 | x :: r => wIt x ++ wn r
end
theorem wIt_eq (x : Item) : wIt x = if x.Kind = 1 then [uG x.Text] else if x.Kind = 2 then [tNu x.N_] else if x.Kind = 3 then [xb 95] else if x.Kind = 4 then [xb 47]
  else if x.Kind = 5 then jy [110, 101, 115, 116] :: tNu x.N_ :: xb 40 :: (wn x.Items ++ [xb 41])
  else if x.Kind = 6 then jy [103, 114, 111, 117, 112] :: xb 40 :: (wn x.Items ++ [xb 41]) else [] := by cases x; rw [wIt]
def wBox (b : xi) : List Wd := jy [98, 111, 120] :: vP b.Cons :: xb 61 :: (wn b.Items ++ [xb 59])
def wStart (s : List UInt8) : List Wd := if s = [] then [] else [jy [115, 116, 97, 114, 116], vP s, xb 59]
def gy (s : List UInt8) : List Wd := if s = [] then [] else [jy [108, 97, 121, 111, 117, 116], vP s, xb 59]
def wDef (d : z7) : List Wd := wStart d.Start ++ (gy d.Layout ++ (d.Prods.flatMap uF ++ (d.Chains.flatMap qY ++ (d.Follows.flatMap qp ++ (d.Rejects.flatMap gx ++ d.Boxes.flatMap wBox)))))
theorem bl32 : w8 (32 : UInt8).toNat := .inr (.inl rfl)
theorem bl10 : w8 (10 : UInt8).toNat := .inl rfl
theorem xW {c : UInt8} {t : List UInt8} (h : al c = false := by decide) : Nx (c :: t) := h
section
variable {t : List UInt8} {ws : List Wd}
theorem xO (h : Lx t ws) : Lx (32 :: t) ws := .sp 32 bl32 h
theorem qc {a : List UInt8} (ha : xE a = true) (hs : Nx t) (h : Lx t ws) : Lx (a ++ t) (vP a :: ws) := Lx.one (gd_name ha) hs h
theorem kV (a : List UInt8) (ha : kyB a = true) (hs : Nx t) (h : Lx t ws) : Lx (a ++ t) (jy a :: ws) := Lx.one (gd_key ha) hs h
theorem stop_k {k : Int} (h1 : k ≠ 1) (h2 : k ≠ 2) (h3 : k ≠ 3) (t : List UInt8) : ub k t := by
 cases t with
 | nil => trivial
 | cons d t => exact ⟨fun h => absurd h (by omega), fun h => absurd h h3⟩
theorem kD (c : UInt8) (hc : sgB2 c = true) (h : Lx t ws) : Lx (c :: t) (xb c :: ws) := Lx.wd (w := [c]) (gd_sign hc) (stop_k (by decide) (by decide) (by decide) _) h
theorem lx_qt {a : List UInt8} (ha : a.length <= 1000) (h : Lx t ws) : Lx (quo (wS a) ++ t) (uG a :: ws) := Lx.wd (gd_quote ha) (stop_k (k := 4) (by decide) (by decide) (by decide) _) h
theorem lx_st {s : S4} (hs : Cp.okS s) (h : Lx t ws) : Lx (Cp.printT s ++ t) (tSt s :: ws) := Lx.wd (gd_set hs) (stop_k (k := 5) (by decide) (by decide) (by decide) _) h
theorem lx_nu {n : Int} (h0 : 0 <= n) (h1 : n <= 999999) (hs : Nx t) (h : Lx t ws) : Lx (Lib.itoa n ++ t) (tNu n :: ws) := Lx.one (gd_num h0 h1) hs h
theorem qd (h : Lx t ws) : Lx (59 :: 10 :: t) (xb 59 :: ws) := kD 59 (by decide +kernel) (.sp 10 bl10 h)
theorem symP_nm {s : xj} (h : vQ s = true) : (s.Name = [] \/ xE s.Name = true) /\ (s.Sep ≠ [] -> xE s.Name = true) := by
 unfold vQ at h
 split at h
 ·simp only [Bool.and_eq_true, beq_iff_eq] at h
  exact ⟨.inl h.2.2.1, fun hn => absurd h.2.2.2 hn⟩
 split at h
 ·simp only [Bool.and_eq_true, beq_iff_eq] at h
  exact ⟨.inl h.2.1, fun hn => absurd h.2.2 hn⟩
 split at h
 ·simp only [Bool.and_eq_true, beq_iff_eq] at h
  exact ⟨.inr h.2.2.1, fun hn => absurd h.2.2.2 hn⟩
 split at h
 ·simp only [Bool.and_eq_true, Bool.or_eq_true, beq_iff_eq] at h
  exact ⟨h.2.2.imp id (fun x => x.2), fun hn => absurd h.2.1 hn⟩
 split at h
 ·split at h
  ·rename_i h1
   simp only [Bool.and_eq_true, beq_iff_eq] at h h1
   exact ⟨.inl h1, fun hn => absurd h.2 hn⟩
  ·simp only [Bool.and_eq_true, beq_iff_eq] at h
   exact ⟨.inr h.2.2.1, fun _ => h.2.2.1⟩
 ·cases h
theorem lx_A {s : xj} (h : vQ s = true) (ho : Cp.okS s.Set) (hn : Nx t) (hx : Lx t ws) : Lx (uU s ++ t) (wA s :: ws) := by
 unfold uU wA
 split
 ·exact lx_st ho hx
 ·rename_i hne
  exact qc ((symP_nm h).1.resolve_left hne) hn hx
theorem lx_B {s : xj} (h : vQ s = true) (ho : Cp.okS s.Set) (hn : Nx t) (hx : Lx t ws) : Lx (gD s ++ t) (wB s ++ ws) := by
 unfold gD wB
 split
 ·exact lx_A h ho hn hx
 ·rename_i hne
  have hl := (jZ h).2.2.1
  simp only [List.append_assoc, List.singleton_append, List.cons_append, List.nil_append]
  exact kD 123 (by decide +kernel) (qc ((symP_nm h).2 hne) xW (xO (lx_qt (by omega) (kD 125 (by decide +kernel) hx))))
theorem lx_sym {s : xj} (h : vQ s = true) (ho : Cp.okS s.Set) (hn : Nx t) (hx : Lx t ws) : Lx (symT s ++ t) (ju s ++ ws) := by
 have hl := (jZ h).1
 unfold symT ju
 split
 ·exact lx_qt (by omega) hx
 split
 ·rw [List.append_assoc, List.append_assoc]
  exact lx_B h ho xW (kD 63 (by decide +kernel) hx)
 split
 ·rw [List.append_assoc, List.append_assoc]
  exact lx_B h ho xW (kD 42 (by decide +kernel) hx)
 split
 ·rw [List.append_assoc, List.append_assoc]
  exact lx_B h ho xW (kD 43 (by decide +kernel) hx)
 ·exact lx_B h ho hn hx
theorem lx_syms : ∀ {l : List xj}, (∀ s ∈ l, vQ s = true) -> (∀ s ∈ l, Cp.okS s.Set) -> Nx t -> Lx t ws -> Lx (jT l ++ t) (l.flatMap ju ++ ws) /\ Nx (jT l ++ t)
 | [], _, _, hn, hx => ⟨hx, hn⟩
 | s :: l, h, ho, hn, hx => by
  obtain ⟨h1, h2⟩ := lx_syms (fun x hm => h x (List.mem_cons_of_mem _ hm)) (fun x hm => ho x (List.mem_cons_of_mem _ hm)) hn hx
  refine ⟨?_, xW (c := 32)⟩
  show Lx (32 :: (symT s ++ jT l) ++ t) (ju s ++ l.flatMap ju ++ ws)
  rw [List.append_assoc, List.cons_append, List.append_assoc]
  exact xO (lx_sym (h s List.mem_cons_self) (ho s List.mem_cons_self) h2 h1)
theorem lx_prod {p : Prod} (h : kB p = true) (ho : ∀ s ∈ p.Syms, Cp.okS s.Set) (hx : Lx t ws) : Lx (xq (kd p) ++ t) (uF p ++ ws) := by
 obtain ⟨_, _, _, _, h5, h6, h7, _⟩ := jC h
 have hb : Lx ((if p.Bracket then [32, 98, 114, 97, 99, 107, 101, 116] else []) ++ 59 :: 10 :: t) (wBr p.Bracket ++ xb 59 :: ws) /\ Nx ((if p.Bracket then [32, 98, 114, 97, 99, 107, 101, 116] else []) ++ 59 :: 10 :: t : List UInt8) := by
  unfold wBr
  cases p.Bracket with
  | true => exact ⟨xO (kV [98, 114, 97, 99, 107, 101, 116] (by decide +kernel) xW (qd hx)), xW (c := 32)⟩
  | false => exact ⟨qd hx, xW (c := 59)⟩
 have hs := lx_syms (List.all_eq_true.1 h5) ho hb.2 hb.1
 have he := xO (kD 61 (by decide +kernel) hs.1)
 have hc : Lx ((if p.Cons = [] then [] else 46 :: p.Cons) ++ 32 :: 61 :: (jT p.Syms ++ ((if p.Bracket then [32, 98, 114, 97, 99, 107, 101, 116] else []) ++ 59 :: 10 :: t))) (wCons p.Cons ++ xb 61 :: (p.Syms.flatMap ju ++ (wBr p.Bracket ++ xb 59 :: ws))) /\ Nx ((if p.Cons = [] then [] else 46 :: p.Cons) ++ 32 :: 61 :: (jT p.Syms ++ ((if p.Bracket then [32, 98, 114, 97, 99, 107, 101, 116] else []) ++ 59 :: 10 :: t)) : List UInt8) := by
  unfold wCons
  by_cases hc : p.Cons = []
  ·rw [if_pos hc, if_pos hc]
   exact ⟨he, xW (c := 32)⟩
  ·rw [if_neg hc, if_neg hc]
   have hm : xE p.Cons = true := by
    unfold nmE at h7
    rcases Bool.or_eq_true_iff.1 h7 with h7 | h7
    ·simp only [Bool.true_and, beq_iff_eq] at h7
     exact absurd h7 hc
    ·exact h7
   exact ⟨kD 46 (by decide +kernel) (qc hm xW he), xW (c := 46)⟩
 have hm := xO (qc h6 hc.2 hc.1)
 unfold xq kd uF wKind
 simp only [List.append_assoc, List.cons_append, List.nil_append]
 cases p.Lex with
 | true => exact kV [108, 101, 120] (by decide +kernel) xW hm
 | false => exact kV [99, 102] (by decide +kernel) xW hm
theorem lx_cons : ∀ {l : List (List UInt8)}, l.all xE = true -> Nx t -> Lx t ws -> Lx (gU l ++ t) (l.map vP ++ ws) /\ Nx (gU l ++ t)
 | [], _, hn, hx => ⟨hx, hn⟩
 | a :: l, h, hn, hx => by
  simp only [List.all_cons, Bool.and_eq_true] at h
  obtain ⟨h1, h2⟩ := lx_cons h.2 hn hx
  refine ⟨?_, xW (c := 32)⟩
  show Lx (32 :: a ++ gU l ++ t) (vP a :: (l.map vP ++ ws))
  rw [List.append_assoc, List.cons_append]
  exact xO (qc h.1 h2 h1)
theorem lx_group {g : zx} (h : vd g = true) (hn : Nx t) (hx : Lx t ws) : Lx (vp g ++ t) (vj g ++ ws) /\ Nx (vp g ++ t) := by
 obtain ⟨_, _, _, h4⟩ := vH h
 obtain ⟨h1, h2⟩ := lx_cons h4 hn hx
 unfold vp vj asW wAs
 rw [List.append_assoc, List.append_assoc]
 split
 ·exact ⟨xO (kV [108, 101, 102, 116] (by decide +kernel) h2 h1), xW (c := 32)⟩
 split
 ·exact ⟨xO (kV [114, 105, 103, 104, 116] (by decide +kernel) h2 h1), xW (c := 32)⟩
 split
 ·exact ⟨xO (kV [110, 111, 110] (by decide +kernel) h2 h1), xW (c := 32)⟩
 ·exact ⟨h1, h2⟩
theorem lx_groups : ∀ {l : List zx}, (∀ g ∈ l, vd g = true) -> Nx t -> Lx t ws -> Lx ((l.flatMap fun h => [32, 62] ++ vp h) ++ t) ((l.flatMap fun h => xb 62 :: vj h) ++ ws) /\ Nx ((l.flatMap fun h => [32, 62] ++ vp h) ++ t)
 | [], _, hn, hx => ⟨hx, hn⟩
 | g :: l, h, hn, hx => by
  obtain ⟨h1, h2⟩ := lx_groups (fun x hm => h x (List.mem_cons_of_mem _ hm)) hn hx
  obtain ⟨h3, h4⟩ := lx_group (h g List.mem_cons_self) h2 h1
  refine ⟨?_, xW (c := 32)⟩
  simp only [List.flatMap_cons, List.append_assoc, List.cons_append, List.nil_append]
  exact xO (kD 62 (by decide +kernel) h3)
theorem lx_chain {l : List zx} (h : vf l = true) (hx : Lx t ws) : Lx (xq (wt l) ++ t) (qY l ++ ws) := by
 obtain ⟨h1, _, h2⟩ := k8 h
 unfold xq wt qY
 cases l with
 | nil => simp at h1
 | cons g r =>
  obtain ⟨g1, g2⟩ := lx_groups (fun x hm => h2 x (List.mem_cons_of_mem _ hm)) (xW (c := 59) (t := 10 :: t)) (qd hx)
  obtain ⟨g3, g4⟩ := lx_group (h2 g List.mem_cons_self) g2 g1
  simp only [chainG, gz, List.append_assoc, List.cons_append, List.nil_append]
  exact kV [112, 114, 105, 111] (by decide +kernel) g4 g3
theorem lx_follow {f : Follow} (h : xE f.Sort_ = true) (ho : Cp.okS f.Set) (hx : Lx t ws) : Lx (xq (xo f) ++ t) (qp f ++ ws) := by
 unfold xq xo qp
 simp only [List.append_assoc, List.cons_append, List.nil_append]
 exact kV [102, 111, 108, 108, 111, 119] (by decide +kernel) xW (xO (qc h xW (xO (lx_st ho (qd hx)))))
theorem lx_reject {r : zz} (h : xE r.Sort_ = true) (h2 : xE r.By = true) (hx : Lx t ws) : Lx (xq (wk r) ++ t) (gx r ++ ws) := by
 unfold xq wk gx
 simp only [List.append_assoc, List.cons_append, List.nil_append]
 exact kV [114, 101, 106, 101, 99, 116] (by decide +kernel) xW (xO (qc h xW (xO (qc h2 xW (qd hx)))))
end
theorem lx_items : ∀ (n : Nat) (l : List Item) (m : Nat) {t : List UInt8} {ws : List Wd}, wM l n = some m -> Nx t -> Lx t ws -> Lx (jI l ++ t) (wn l ++ ws) /\ Nx (jI l ++ t) := by
 intro n
 induction n using Nat.strongRecOn with
 | _ n ih =>
  intro l m t ws h hn hx
  cases l with
  | nil => exact ⟨by simpa [jI, wn] using hx, by simpa [jI] using hn⟩
  | cons x r =>
   obtain ⟨n', a, rfl, hp, ha, hr⟩ := qA h
   obtain ⟨_, hle, _⟩ := vE n' x.Items a ha
   obtain ⟨h1, h2⟩ := ih a (by omega) r m hr hn hx
   obtain ⟨p1, p2, p3, _, _⟩ := vG hp
   rw [jI, wn, itT_eq, wIt_eq, List.append_assoc, List.append_assoc]
   obtain ⟨q1, q2⟩ := ih n' (by omega) x.Items a (t := 32 :: 41 :: (jI r ++ t)) (ws := xb 41 :: (wn r ++ ws)) ha (xW (c := 32)) (xO (kD 41 (by decide +kernel) h1))
   split
   ·exact ⟨xO (lx_qt (by omega) h1), xW (c := 32)⟩
   split
   ·exact ⟨xO (lx_nu p2 p3 h2 h1), xW (c := 32)⟩
   split
   ·exact ⟨xO (kD 95 (by decide +kernel) h1), xW (c := 32)⟩
   split
   ·exact ⟨xO (kD 47 (by decide +kernel) h1), xW (c := 32)⟩
   split
   ·refine ⟨?_, xW (c := 32)⟩
    simp only [List.append_assoc, List.cons_append, List.nil_append]
    exact xO (kV [110, 101, 115, 116] (by decide +kernel) xW (xO (lx_nu p2 p3 xW (xO (kD 40 (by decide +kernel) q1)))))
   split
   ·refine ⟨?_, xW (c := 32)⟩
    simp only [List.append_assoc, List.cons_append, List.nil_append]
    exact xO (kV [103, 114, 111, 117, 112] (by decide +kernel) xW (xO (kD 40 (by decide +kernel) q1)))
   ·exact ⟨h1, h2⟩
theorem lx_box {b : xi} {t : List UInt8} {ws : List Wd} (h : boxP b = true) (hx : Lx t ws) : Lx (xq (gZ b) ++ t) (wBox b ++ ws) := by
 simp only [boxP, Bool.and_eq_true, Option.isSome_iff_exists] at h
 obtain ⟨h1, m, h2⟩ := h
 obtain ⟨q1, q2⟩ := lx_items 64 b.Items m h2 (xW (c := 59) (t := 10 :: t)) (qd hx)
 unfold xq gZ wBox
 simp only [List.append_assoc, List.cons_append, List.nil_append]
 exact kV [98, 111, 120] (by decide +kernel) xW (xO (qc h1 xW (xO (kD 61 (by decide +kernel) q1))))
theorem uo {α : Type} {f : α -> List UInt8} {g : α -> List Wd} {t : List UInt8} {ws : List Wd} : ∀ {l : List α}, (∀ x ∈ l, ∀ t ws, Lx t ws -> Lx (xq (f x) ++ t) (g x ++ ws)) -> Lx t ws -> Lx ((l.map f).flatMap xq ++ t) (l.flatMap g ++ ws)
 | [], _, hx => hx
 | x :: l, h, hx => by
  simp only [List.map_cons, List.flatMap_cons, List.append_assoc]
  exact h x List.mem_cons_self _ _ (uo (fun y hy => h y (List.mem_cons_of_mem _ hy)) hx)
theorem nmE_nm {a : List UInt8} (h : nmE a true = true) (hne : a ≠ []) : xE a = true := by
 unfold nmE at h
 rcases Bool.or_eq_true_iff.1 h with h | h
 ·simp only [Bool.true_and, beq_iff_eq] at h
  exact absurd h hne
 ·exact h
theorem lx_def {d : z7} (h : gT d = true) (ho : OkSets d) {t0 : List UInt8} {w0 : List Wd} (h0 : Lx t0 w0) : Lx (jS d ++ t0) (wDef d ++ w0) := by
 simp only [gT, Bool.and_eq_true, decide_eq_true_eq] at h
 obtain ⟨h1, h2, _, h4, h5, h6, h7, h8⟩ := h
 have e : jS d ++ t0 = (startL d).flatMap xq ++ ((jF d).flatMap xq ++ ((d.Prods.map kd).flatMap xq ++ ((d.Chains.map wt).flatMap xq ++ ((d.Follows.map xo).flatMap xq ++ ((d.Rejects.map wk).flatMap xq ++ ((d.Boxes.map gZ).flatMap xq ++ t0)))))) := by
  unfold jS linesT
  simp only [List.flatMap_append, List.append_assoc]
 have l7 := uo (f := gZ) (g := wBox) (fun x hx t ws hl => lx_box (List.all_eq_true.1 h8 x hx) hl) h0
 have l6 := uo (f := wk) (g := gx) (fun x hx t ws hl => by
  have := List.all_eq_true.1 h7 x hx
  simp only [Bool.and_eq_true] at this
  exact lx_reject this.1 this.2 hl) l7
 have l5 := uo (f := xo) (g := qp) (fun x hx t ws hl => lx_follow (List.all_eq_true.1 h6 x hx) (ho.follows x hx) hl) l6
 have l4 := uo (f := wt) (g := qY) (fun x hx t ws hl => lx_chain (List.all_eq_true.1 h5 x hx) hl) l5
 have l3 := uo (f := kd) (g := uF) (fun x hx t ws hl => lx_prod (List.all_eq_true.1 h4 x hx) (ho.syms x hx) hl) l4
 have l2 : ∀ {t ws}, Lx t ws -> Lx ((jF d).flatMap xq ++ t) (gy d.Layout ++ ws) := by
  intro t ws hx
  unfold jF gy
  split
  ·exact hx
  ·rename_i hne
   simp only [xq, List.flatMap_cons, List.flatMap_nil, List.append_nil, List.append_assoc, List.cons_append, List.nil_append]
   exact kV [108, 97, 121, 111, 117, 116] (by decide +kernel) xW (xO (qc (nmE_nm h2 hne) xW (qd hx)))
 have l1 : ∀ {t ws}, Lx t ws -> Lx ((startL d).flatMap xq ++ t) (wStart d.Start ++ ws) := by
  intro t ws hx
  unfold startL wStart
  split
  ·exact hx
  ·rename_i hne
   simp only [xq, List.flatMap_cons, List.flatMap_nil, List.append_nil, List.append_assoc, List.cons_append, List.nil_append]
   exact kV [115, 116, 97, 114, 116] (by decide +kernel) xW (xO (qc (nmE_nm h1 hne) xW (qd hx)))
 have := l1 (l2 l3)
 rw [e]
 unfold wDef
 simpa using this
end Go.Vc
