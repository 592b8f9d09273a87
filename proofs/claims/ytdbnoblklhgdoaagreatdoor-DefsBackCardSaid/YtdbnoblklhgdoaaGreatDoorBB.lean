import Derived.Test.YtdbnoblklhgdoaaGreatDoorBA
set_option linter.unusedVariables false
set_option linter.unusedSimpArgs false
set_option linter.unusedSectionVars false
namespace Go.Vc
open Go
def wA (s : xg) : Wd := if s.Name = [] then tSt s.Set else km s.Name
def wB (s : xg) : List Wd := if s.Sep = [] then [wA s] else [xh 123, km s.Name, u4 s.Sep, xh 125]
def jO (s : xg) : List Wd := if s.Kind = 1 then [u4 s.Text] else if s.Kind = 4 then wB s ++ [xh 63] else if s.Kind = 5 then wB s ++ [xh 42] else if s.Kind = 6 then wB s ++ [xh 43] else wB s
def wCons (c : List UInt8) : List Wd := if c = [] then [] else [xh 46, km c]
def wBr (b : Bool) : List Wd := if b then [jR [98, 114, 97, 99, 107, 101, 116]] else []
def wKind (b : Bool) : Wd := if b then jR [108, 101, 120] else jR [99, 102]
def u3 (p : Prod) : List Wd := wKind p.Lex :: km p.Sort_ :: (wCons p.Cons ++ xh 61 :: (p.Syms.flatMap jO ++ (wBr p.Bracket ++ [xh 59])))
def wAs (a : Int) : List Wd := if a = 1 then [jR [108, 101, 102, 116]] else if a = 2 then [jR [114, 105, 103, 104, 116]] else if a = 3 then [jR [110, 111, 110]] else []
def vH (g : zw) : List Wd := wAs g.Assoc ++ g.Cons.map km
def gZ : List zw -> List Wd
 | [] => []
 | g :: r => vH g ++ r.flatMap fun h => xh 62 :: vH h
def gB (l : List zw) : List Wd := jR [112, 114, 105, 111] :: (gZ l ++ [xh 59])
def gY (f : Follow) : List Wd := [jR [102, 111, 108, 108, 111, 119], km f.Sort_, tSt f.Set, xh 59]
def gW (r : zz) : List Wd := [jR [114, 101, 106, 101, 99, 116], km r.Sort_, km r.By, xh 59]
mutual
def wIt : Item -> List Wd
 | .mk a b c l => if a = 1 then [u4 b] else if a = 2 then [tNu c] else if a = 3 then [xh 95] else if a = 4 then [xh 47]
  else if a = 5 then jR [110, 101, 115, 116] :: tNu c :: xh 40 :: (wC l ++ [xh 41])
  else if a = 6 then jR [103, 114, 111, 117, 112] :: xh 40 :: (wC l ++ [xh 41]) else []
def wC : List Item -> List Wd
 | [] => []
 | x :: r => wIt x ++ wC r
end
theorem wIt_eq (x : Item) : wIt x = if x.Kind = 1 then [u4 x.Text] else if x.Kind = 2 then [tNu x.N_] else if x.Kind = 3 then [xh 95] else if x.Kind = 4 then [xh 47]
  else if x.Kind = 5 then jR [110, 101, 115, 116] :: tNu x.N_ :: xh 40 :: (wC x.Items ++ [xh 41])
  else if x.Kind = 6 then jR [103, 114, 111, 117, 112] :: xh 40 :: (wC x.Items ++ [xh 41]) else [] := by cases x; rw [wIt]
def wBox (b : xm) : List Wd := jR [98, 111, 120] :: km b.Cons :: xh 61 :: (wC b.Items ++ [xh 59])
def wStart (s : List UInt8) : List Wd := if s = [] then [] else [jR [115, 116, 97, 114, 116], km s, xh 59]
def gX (s : List UInt8) : List Wd := if s = [] then [] else [jR [108, 97, 121, 111, 117, 116], km s, xh 59]
def wDef (d : zY) : List Wd := wStart d.Start ++ (gX d.Layout ++ (d.Prods.flatMap u3 ++ (d.Chains.flatMap gB ++ (d.Follows.flatMap gY ++ (d.Rejects.flatMap gW ++ d.Boxes.flatMap wBox)))))
theorem bl32 : vm (32 : UInt8).toNat := .inr (.inl rfl)
theorem bl10 : vm (10 : UInt8).toNat := .inl rfl
theorem x9 {c : UInt8} {t : List UInt8} (h : al c = false := by decide) : Nx (c :: t) := h
section
variable {t : List UInt8} {ws : List Wd}
theorem xU (h : Lx t ws) : Lx (32 :: t) ws := .sp 32 bl32 h
theorem qB {a : List UInt8} (ha : yU a = true) (hs : Nx t) (h : Lx t ws) : Lx (a ++ t) (km a :: ws) := Lx.one (gd_name ha) hs h
theorem jl (a : List UInt8) (ha : kyB a = true) (hs : Nx t) (h : Lx t ws) : Lx (a ++ t) (jR a :: ws) := Lx.one (gd_key ha) hs h
theorem stop_k {k : Int} (h1 : k ≠ 1) (h2 : k ≠ 2) (h3 : k ≠ 3) (t : List UInt8) : uz k t := by
 cases t with
 | nil => trivial
 | cons d t => exact ⟨fun h => absurd h (by omega), fun h => absurd h h3⟩
theorem kX (c : UInt8) (hc : sgB2 c = true) (h : Lx t ws) : Lx (c :: t) (xh c :: ws) := Lx.wd (w := [c]) (gd_sign hc) (stop_k (by decide) (by decide) (by decide) _) h
theorem lx_qt {a : List UInt8} (ha : a.length <= 1000) (h : Lx t ws) : Lx (quo (ve a) ++ t) (u4 a :: ws) := Lx.wd (gd_quote ha) (stop_k (k := 4) (by decide) (by decide) (by decide) _) h
theorem lx_st {s : S4} (hs : Cp.okS s) (h : Lx t ws) : Lx (Cp.printT s ++ t) (tSt s :: ws) := Lx.wd (gd_set hs) (stop_k (k := 5) (by decide) (by decide) (by decide) _) h
theorem lx_nu {n : Int} (h0 : 0 <= n) (h1 : n <= 999999) (hs : Nx t) (h : Lx t ws) : Lx (Lib.itoa n ++ t) (tNu n :: ws) := Lx.one (gd_num h0 h1) hs h
theorem qC (h : Lx t ws) : Lx (59 :: 10 :: t) (xh 59 :: ws) := kX 59 (by decide +kernel) (.sp 10 bl10 h)
theorem symP_nm {s : xg} (h : wW s = true) : (s.Name = [] \/ yU s.Name = true) /\ (s.Sep ≠ [] -> yU s.Name = true) := by
 unfold wW at h
 split at h
 ·simp only [Bool.and_eq_true, beq_iff_eq] at h
  exact ⟨.inl h.2.2.1, fun hn => absurd h.2.2.2 hn⟩
 split at h
 ·simp only [Bool.and_eq_true, beq_iff_eq] at h
  exact ⟨.inl h.2.1, fun hn => absurd h.2.2 hn⟩
 split at h
 ·simp only [Bool.and_eq_true, beq_iff_eq] at h
  exact ⟨.inr h.2.2.1, fun hn => absurd h.2.2.2 hn⟩
 split at h
 ·simp only [Bool.and_eq_true, Bool.or_eq_true, beq_iff_eq] at h
  exact ⟨h.2.2.imp id (fun x => x.2), fun hn => absurd h.2.1 hn⟩
 split at h
 ·split at h
  ·rename_i h1
   simp only [Bool.and_eq_true, beq_iff_eq] at h h1
   exact ⟨.inl h1, fun hn => absurd h.2 hn⟩
  ·simp only [Bool.and_eq_true, beq_iff_eq] at h
   exact ⟨.inr h.2.2.1, fun _ => h.2.2.1⟩
 ·cases h
theorem lx_A {s : xg} (h : wW s = true) (ho : Cp.okS s.Set) (hn : Nx t) (hx : Lx t ws) : Lx (symA s ++ t) (wA s :: ws) := by
 unfold symA wA
 split
 ·exact lx_st ho hx
 ·rename_i hne
  exact qB ((symP_nm h).1.resolve_left hne) hn hx
theorem lx_B {s : xg} (h : wW s = true) (ho : Cp.okS s.Set) (hn : Nx t) (hx : Lx t ws) : Lx (g9 s ++ t) (wB s ++ ws) := by
 unfold g9 wB
 split
 ·exact lx_A h ho hn hx
 ·rename_i hne
  have hl := (qt h).2.2.1
  simp only [List.append_assoc, List.singleton_append, List.cons_append, List.nil_append]
  exact kX 123 (by decide +kernel) (qB ((symP_nm h).2 hne) x9 (xU (lx_qt (by omega) (kX 125 (by decide +kernel) hx))))
theorem lx_sym {s : xg} (h : wW s = true) (ho : Cp.okS s.Set) (hn : Nx t) (hx : Lx t ws) : Lx (symT s ++ t) (jO s ++ ws) := by
 have hl := (qt h).1
 unfold symT jO
 split
 ·exact lx_qt (by omega) hx
 split
 ·rw [List.append_assoc, List.append_assoc]
  exact lx_B h ho x9 (kX 63 (by decide +kernel) hx)
 split
 ·rw [List.append_assoc, List.append_assoc]
  exact lx_B h ho x9 (kX 42 (by decide +kernel) hx)
 split
 ·rw [List.append_assoc, List.append_assoc]
  exact lx_B h ho x9 (kX 43 (by decide +kernel) hx)
 ·exact lx_B h ho hn hx
theorem lx_syms : ∀ {l : List xg}, (∀ s ∈ l, wW s = true) -> (∀ s ∈ l, Cp.okS s.Set) -> Nx t -> Lx t ws -> Lx (qj l ++ t) (l.flatMap jO ++ ws) /\ Nx (qj l ++ t)
 | [], _, _, hn, hx => ⟨hx, hn⟩
 | s :: l, h, ho, hn, hx => by
  obtain ⟨h1, h2⟩ := lx_syms (fun x hm => h x (List.mem_cons_of_mem _ hm)) (fun x hm => ho x (List.mem_cons_of_mem _ hm)) hn hx
  refine ⟨?_, x9 (c := 32)⟩
  show Lx (32 :: (symT s ++ qj l) ++ t) (jO s ++ l.flatMap jO ++ ws)
  rw [List.append_assoc, List.cons_append, List.append_assoc]
  exact xU (lx_sym (h s List.mem_cons_self) (ho s List.mem_cons_self) h2 h1)
theorem lx_prod {p : Prod} (h : kc p = true) (ho : ∀ s ∈ p.Syms, Cp.okS s.Set) (hx : Lx t ws) : Lx (xO (kB p) ++ t) (u3 p ++ ws) := by
 obtain ⟨_, _, _, _, h5, h6, h7, _⟩ := jV h
 have hb : Lx ((if p.Bracket then [32, 98, 114, 97, 99, 107, 101, 116] else []) ++ 59 :: 10 :: t) (wBr p.Bracket ++ xh 59 :: ws) /\ Nx ((if p.Bracket then [32, 98, 114, 97, 99, 107, 101, 116] else []) ++ 59 :: 10 :: t : List UInt8) := by
  unfold wBr
  cases p.Bracket with
  | true => exact ⟨xU (jl [98, 114, 97, 99, 107, 101, 116] (by decide +kernel) x9 (qC hx)), x9 (c := 32)⟩
  | false => exact ⟨qC hx, x9 (c := 59)⟩
 have hs := lx_syms (List.all_eq_true.1 h5) ho hb.2 hb.1
 have he := xU (kX 61 (by decide +kernel) hs.1)
 have hc : Lx ((if p.Cons = [] then [] else 46 :: p.Cons) ++ 32 :: 61 :: (qj p.Syms ++ ((if p.Bracket then [32, 98, 114, 97, 99, 107, 101, 116] else []) ++ 59 :: 10 :: t))) (wCons p.Cons ++ xh 61 :: (p.Syms.flatMap jO ++ (wBr p.Bracket ++ xh 59 :: ws))) /\ Nx ((if p.Cons = [] then [] else 46 :: p.Cons) ++ 32 :: 61 :: (qj p.Syms ++ ((if p.Bracket then [32, 98, 114, 97, 99, 107, 101, 116] else []) ++ 59 :: 10 :: t)) : List UInt8) := by
  unfold wCons
  by_cases hc : p.Cons = []
  ·rw [if_pos hc, if_pos hc]
   exact ⟨he, x9 (c := 32)⟩
  ·rw [if_neg hc, if_neg hc]
   have hm : yU p.Cons = true := by
    unfold uL at h7
    rcases Bool.or_eq_true_iff.1 h7 with h7 | h7
    ·simp only [Bool.true_and, beq_iff_eq] at h7
     exact absurd h7 hc
    ·exact h7
   exact ⟨kX 46 (by decide +kernel) (qB hm x9 he), x9 (c := 46)⟩
 have hm := xU (qB h6 hc.2 hc.1)
 unfold xO kB u3 wKind
 simp only [List.append_assoc, List.cons_append, List.nil_append]
 cases p.Lex with
 | true => exact jl [108, 101, 120] (by decide +kernel) x9 hm
 | false => exact jl [99, 102] (by decide +kernel) x9 hm
theorem lx_cons : ∀ {l : List (List UInt8)}, l.all yU = true -> Nx t -> Lx t ws -> Lx (uj l ++ t) (l.map km ++ ws) /\ Nx (uj l ++ t)
 | [], _, hn, hx => ⟨hx, hn⟩
 | a :: l, h, hn, hx => by
  simp only [List.all_cons, Bool.and_eq_true] at h
  obtain ⟨h1, h2⟩ := lx_cons h.2 hn hx
  refine ⟨?_, x9 (c := 32)⟩
  show Lx (32 :: a ++ uj l ++ t) (km a :: (l.map km ++ ws))
  rw [List.append_assoc, List.cons_append]
  exact xU (qB h.1 h2 h1)
theorem lx_group {g : zw} (h : wu g = true) (hn : Nx t) (hx : Lx t ws) : Lx (vQ g ++ t) (vH g ++ ws) /\ Nx (vQ g ++ t) := by
 obtain ⟨_, _, _, h4⟩ := ki h
 obtain ⟨h1, h2⟩ := lx_cons h4 hn hx
 unfold vQ vH asW wAs
 rw [List.append_assoc, List.append_assoc]
 split
 ·exact ⟨xU (jl [108, 101, 102, 116] (by decide +kernel) h2 h1), x9 (c := 32)⟩
 split
 ·exact ⟨xU (jl [114, 105, 103, 104, 116] (by decide +kernel) h2 h1), x9 (c := 32)⟩
 split
 ·exact ⟨xU (jl [110, 111, 110] (by decide +kernel) h2 h1), x9 (c := 32)⟩
 ·exact ⟨h1, h2⟩
theorem lx_groups : ∀ {l : List zw}, (∀ g ∈ l, wu g = true) -> Nx t -> Lx t ws -> Lx ((l.flatMap fun h => [32, 62] ++ vQ h) ++ t) ((l.flatMap fun h => xh 62 :: vH h) ++ ws) /\ Nx ((l.flatMap fun h => [32, 62] ++ vQ h) ++ t)
 | [], _, hn, hx => ⟨hx, hn⟩
 | g :: l, h, hn, hx => by
  obtain ⟨h1, h2⟩ := lx_groups (fun x hm => h x (List.mem_cons_of_mem _ hm)) hn hx
  obtain ⟨h3, h4⟩ := lx_group (h g List.mem_cons_self) h2 h1
  refine ⟨?_, x9 (c := 32)⟩
  simp only [List.flatMap_cons, List.append_assoc, List.cons_append, List.nil_append]
  exact xU (kX 62 (by decide +kernel) h3)
theorem lx_chain {l : List zw} (h : wJ l = true) (hx : Lx t ws) : Lx (xO (wI l) ++ t) (gB l ++ ws) := by
 obtain ⟨h1, _, h2⟩ := ju h
 unfold xO wI gB
 cases l with
 | nil => simp at h1
 | cons g r =>
  obtain ⟨g1, g2⟩ := lx_groups (fun x hm => h2 x (List.mem_cons_of_mem _ hm)) (x9 (c := 59) (t := 10 :: t)) (qC hx)
  obtain ⟨g3, g4⟩ := lx_group (h2 g List.mem_cons_self) g2 g1
  simp only [chainG, gZ, List.append_assoc, List.cons_append, List.nil_append]
  exact jl [112, 114, 105, 111] (by decide +kernel) g4 g3
theorem lx_follow {f : Follow} (h : yU f.Sort_ = true) (ho : Cp.okS f.Set) (hx : Lx t ws) : Lx (xO (wl f) ++ t) (gY f ++ ws) := by
 unfold xO wl gY
 simp only [List.append_assoc, List.cons_append, List.nil_append]
 exact jl [102, 111, 108, 108, 111, 119] (by decide +kernel) x9 (xU (qB h x9 (xU (lx_st ho (qC hx)))))
theorem lx_reject {r : zz} (h : yU r.Sort_ = true) (h2 : yU r.By = true) (hx : Lx t ws) : Lx (xO (wy r) ++ t) (gW r ++ ws) := by
 unfold xO wy gW
 simp only [List.append_assoc, List.cons_append, List.nil_append]
 exact jl [114, 101, 106, 101, 99, 116] (by decide +kernel) x9 (xU (qB h x9 (xU (qB h2 x9 (qC hx)))))
end
theorem lx_items : ∀ (n : Nat) (l : List Item) (m : Nat) {t : List UInt8} {ws : List Wd}, wF l n = some m -> Nx t -> Lx t ws -> Lx (j7 l ++ t) (wC l ++ ws) /\ Nx (j7 l ++ t) := by
 intro n
 induction n using Nat.strongRecOn with
 | _ n ih =>
  intro l m t ws h hn hx
  cases l with
  | nil => exact ⟨by simpa [j7, wC] using hx, by simpa [j7] using hn⟩
  | cons x r =>
   obtain ⟨n', a, rfl, hp, ha, hr⟩ := qW h
   obtain ⟨_, hle, _⟩ := kf n' x.Items a ha
   obtain ⟨h1, h2⟩ := ih a (by omega) r m hr hn hx
   obtain ⟨p1, p2, p3, _, _⟩ := kg hp
   rw [j7, wC, itT_eq, wIt_eq, List.append_assoc, List.append_assoc]
   obtain ⟨q1, q2⟩ := ih n' (by omega) x.Items a (t := 32 :: 41 :: (j7 r ++ t)) (ws := xh 41 :: (wC r ++ ws)) ha (x9 (c := 32)) (xU (kX 41 (by decide +kernel) h1))
   split
   ·exact ⟨xU (lx_qt (by omega) h1), x9 (c := 32)⟩
   split
   ·exact ⟨xU (lx_nu p2 p3 h2 h1), x9 (c := 32)⟩
   split
   ·exact ⟨xU (kX 95 (by decide +kernel) h1), x9 (c := 32)⟩
   split
   ·exact ⟨xU (kX 47 (by decide +kernel) h1), x9 (c := 32)⟩
   split
   ·refine ⟨?_, x9 (c := 32)⟩
    simp only [List.append_assoc, List.cons_append, List.nil_append]
    exact xU (jl [110, 101, 115, 116] (by decide +kernel) x9 (xU (lx_nu p2 p3 x9 (xU (kX 40 (by decide +kernel) q1)))))
   split
   ·refine ⟨?_, x9 (c := 32)⟩
    simp only [List.append_assoc, List.cons_append, List.nil_append]
    exact xU (jl [103, 114, 111, 117, 112] (by decide +kernel) x9 (xU (kX 40 (by decide +kernel) q1)))
   ·exact ⟨h1, h2⟩
theorem lx_box {b : xm} {t : List UInt8} {ws : List Wd} (h : uV b = true) (hx : Lx t ws) : Lx (xO (uo b) ++ t) (wBox b ++ ws) := by
 simp only [uV, Bool.and_eq_true, Option.isSome_iff_exists] at h
 obtain ⟨h1, m, h2⟩ := h
 obtain ⟨q1, q2⟩ := lx_items 64 b.Items m h2 (x9 (c := 59) (t := 10 :: t)) (qC hx)
 unfold xO uo wBox
 simp only [List.append_assoc, List.cons_append, List.nil_append]
 exact jl [98, 111, 120] (by decide +kernel) x9 (xU (qB h1 x9 (xU (kX 61 (by decide +kernel) q1))))
theorem uM {α : Type} {f : α -> List UInt8} {g : α -> List Wd} {t : List UInt8} {ws : List Wd} : ∀ {l : List α}, (∀ x ∈ l, ∀ t ws, Lx t ws -> Lx (xO (f x) ++ t) (g x ++ ws)) -> Lx t ws -> Lx ((l.map f).flatMap xO ++ t) (l.flatMap g ++ ws)
 | [], _, hx => hx
 | x :: l, h, hx => by
  simp only [List.map_cons, List.flatMap_cons, List.append_assoc]
  exact h x List.mem_cons_self _ _ (uM (fun y hy => h y (List.mem_cons_of_mem _ hy)) hx)
theorem nmE_nm {a : List UInt8} (h : uL a true = true) (hne : a ≠ []) : yU a = true := by
 unfold uL at h
 rcases Bool.or_eq_true_iff.1 h with h | h
 ·simp only [Bool.true_and, beq_iff_eq] at h
  exact absurd h hne
 ·exact h
theorem lx_def {d : zY} (h : qJ d = true) (ho : gO d) {t0 : List UInt8} {w0 : List Wd} (h0 : Lx t0 w0) : Lx (jE d ++ t0) (wDef d ++ w0) := by
 simp only [qJ, Bool.and_eq_true, decide_eq_true_eq] at h
 obtain ⟨h1, h2, _, h4, h5, h6, h7, h8⟩ := h
 have e : jE d ++ t0 = (startL d).flatMap xO ++ ((j0 d).flatMap xO ++ ((d.Prods.map kB).flatMap xO ++ ((d.Chains.map wI).flatMap xO ++ ((d.Follows.map wl).flatMap xO ++ ((d.Rejects.map wy).flatMap xO ++ ((d.Boxes.map uo).flatMap xO ++ t0)))))) := by
  unfold jE linesT
  simp only [List.flatMap_append, List.append_assoc]
 have l7 := uM (f := uo) (g := wBox) (fun x hx t ws hl => lx_box (List.all_eq_true.1 h8 x hx) hl) h0
 have l6 := uM (f := wy) (g := gW) (fun x hx t ws hl => by
  have := List.all_eq_true.1 h7 x hx
  simp only [Bool.and_eq_true] at this
  exact lx_reject this.1 this.2 hl) l7
 have l5 := uM (f := wl) (g := gY) (fun x hx t ws hl => lx_follow (List.all_eq_true.1 h6 x hx) (ho.follows x hx) hl) l6
 have l4 := uM (f := wI) (g := gB) (fun x hx t ws hl => lx_chain (List.all_eq_true.1 h5 x hx) hl) l5
 have l3 := uM (f := kB) (g := u3) (fun x hx t ws hl => lx_prod (List.all_eq_true.1 h4 x hx) (ho.syms x hx) hl) l4
 have l2 : ∀ {t ws}, Lx t ws -> Lx ((j0 d).flatMap xO ++ t) (gX d.Layout ++ ws) := by
  intro t ws hx
  unfold j0 gX
  split
  ·exact hx
  ·rename_i hne
   simp only [xO, List.flatMap_cons, List.flatMap_nil, List.append_nil, List.append_assoc, List.cons_append, List.nil_append]
   exact jl [108, 97, 121, 111, 117, 116] (by decide +kernel) x9 (xU (qB (nmE_nm h2 hne) x9 (qC hx)))
 have l1 : ∀ {t ws}, Lx t ws -> Lx ((startL d).flatMap xO ++ t) (wStart d.Start ++ ws) := by
  intro t ws hx
  unfold startL wStart
  split
  ·exact hx
  ·rename_i hne
   simp only [xO, List.flatMap_cons, List.flatMap_nil, List.append_nil, List.append_assoc, List.cons_append, List.nil_append]
   exact jl [115, 116, 97, 114, 116] (by decide +kernel) x9 (xU (qB (nmE_nm h1 hne) x9 (qC hx)))
 have := l1 (l2 l3)
 rw [e]
 unfold wDef
 simpa using this
end Go.Vc
