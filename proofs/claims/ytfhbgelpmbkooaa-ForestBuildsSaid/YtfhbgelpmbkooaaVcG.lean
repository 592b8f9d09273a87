/-
  Rows of the call's own: made, written, appended to; bytes and texts.
-/
import Derived.Test.YtfhbgelpmbkooaaVcF
set_option linter.unusedVariables false
set_option linter.unusedSimpArgs false
namespace Go.Vc
open Go
theorem flat_get {sz : Nat} : ∀ (xs : List (List Dc)), (∀ e ∈ xs, e.length = sz) → ∀ i j (hi : i < xs.length) (hj : j < xs[i].length), xs.flatten[i * sz + j]? = some xs[i][j]
  | [], _, i, _, hi, _ => by simp at hi
  | e :: xs, h, i, j, hi, hj => by
    have he : e.length = sz := h e List.mem_cons_self
    cases i with
    | zero =>
      simp only [List.getElem_cons_zero] at hj
      simp only [Nat.zero_mul, Nat.zero_add, List.flatten_cons, List.getElem_cons_zero]
      rw [List.getElem?_append_left hj, List.getElem?_eq_getElem hj]
    | succ i =>
      simp only [List.getElem_cons_succ] at hj ⊢
      rw [List.flatten_cons, List.getElem?_append_right (by rw [he, Nat.add_mul]; omega), show (i + 1) * sz + j - e.length = i * sz + j by rw [he, Nat.add_mul]; omega]
      exact flat_get xs (fun e' h' => h e' (List.mem_cons_of_mem _ h')) i j (by simpa using hi) hj
theorem flat_length {sz : Nat} : ∀ (xs : List (List Dc)), (∀ e ∈ xs, e.length = sz) → xs.flatten.length = xs.length * sz
  | [], _ => by simp
  | e :: xs, h => by
    rw [List.flatten_cons, List.length_append, flat_length xs (fun e' h' => h e' (List.mem_cons_of_mem _ h')), h e List.mem_cons_self]
    simp [Nat.add_mul]; omega
theorem Live.owns {w : World} {X : Nat → Prop} {v : Value} {T : TypeId} {sz : Nat} {xs : List (List Dc)} (h : Live w X (.row v T sz xs)) :
    ∃ cs : List Value, w.ownsRow 0 T sz v xs.length cs ∧ Pures w X cs xs.flatten ∧ (∀ e ∈ xs, e.length = sz) := by
  rcases h with ⟨rfl, rfl⟩ | ⟨b, cap, arr, rfl, h1, h2, h3, h4, h5, h6⟩
  · exact ⟨[], World.ownsRow_nil w 0 T sz, .nil, fun e he => by cases he⟩
  · have hle : xs.length * sz ≤ arr.size := by rw [h3]; exact Nat.mul_le_mul_right _ h4
    refine ⟨arr.toList.take (xs.length * sz), ⟨by simp; omega, .inr ⟨b, cap, arr, rfl, Nat.zero_le _, h1, h4, h2, h3, rfl⟩⟩, ?_, h5⟩
    refine Pures.of_get _ _ (by rw [flat_length xs h5]; simp; omega) fun q hq => ?_
    rw [flat_length xs h5] at hq
    have hsz : 0 < sz := by rcases Nat.eq_zero_or_pos sz with h | h; subst h; simp at hq; exact h
    have hi : q / sz < xs.length := Nat.div_lt_of_lt_mul (by rw [Nat.mul_comm]; exact hq)
    have hj : q % sz < xs[q / sz].length := by rw [h5 _ (List.getElem_mem hi)]; exact Nat.mod_lt _ hsz
    have hq' : q / sz * sz + q % sz = q := by rw [Nat.mul_comm]; exact Nat.div_add_mod q sz
    obtain ⟨u, hu, hp⟩ := h6 _ _ hi hj
    have hf := flat_get xs h5 _ _ hi hj
    rw [hq'] at hu hf
    refine ⟨u, ?_, ?_⟩
    · rw [List.getElem?_take, if_pos hq]; simpa using hu
    · have := (List.getElem?_eq_some_iff.1 hf).2
      rw [this]; exact hp
theorem owns_live {w : World} {X : Nat → Prop} {v : Value} {T : TypeId} {sz n : Nat} {xs : List (List Dc)} {cs : List Value} (h : w.ownsRow 0 T sz v n cs) (hn : xs.length = n) (hsz : ∀ e ∈ xs, e.length = sz) (hp : Pures w X cs xs.flatten) : Live w X (.row v T sz xs) := by
  subst hn
  obtain ⟨hl, h⟩ := h
  rcases h with ⟨rfl, h0⟩ | ⟨g, cap, cur, rfl, _, h1, h2, h3, h4, h5⟩
  · exact .inl ⟨rfl, List.eq_nil_of_length_eq_zero h0⟩
  · refine .inr ⟨g, cap, cur, rfl, h1, h3, h4, h2, hsz, fun i j hi hj => ?_⟩
    have hf := flat_get xs hsz i j hi hj
    have hlt : i * sz + j < xs.flatten.length := (List.getElem?_eq_some_iff.1 hf).1
    obtain ⟨u, h6, h7⟩ := hp.get _ hlt
    have := (List.getElem?_eq_some_iff.1 hf).2
    rw [this] at h7
    refine ⟨u, ?_, h7⟩
    rw [← h5, List.getElem?_take] at h6
    split at h6
    · simpa using h6
    · cases h6
theorem Pures.mono {w w' : World} {X X' : Nat → Prop} {vs : List Value} {ds : List Dc} (h : Pures w X vs ds) (hs : w.heap.size ≤ w'.heap.size)
    (hb : ∀ b, b < w.heap.size → ¬ X b → w'.heap[b]? = w.heap[b]?) (hX : ∀ b, b < w.heap.size → X' b → X b) : Pures w' X' vs ds := by
  induction h with
  | nil => exact .nil
  | cons h1 _ ih => exact .cons (h1.mono hs hb hX) ih
theorem Pures.append {w : World} {X : Nat → Prop} {vs vs' : List Value} {ds ds' : List Dc} (h : Pures w X vs ds) (h' : Pures w X vs' ds') : Pures w X (vs ++ vs') (ds ++ ds') := by
  induction h with
  | nil => exact h'
  | cons h1 _ ih => exact .cons h1 ih
theorem Pures.one {w : World} {X : Nat → Prop} {vs : List Value} {ds : List Dc} (h : Pures w X vs ds) : (∀ u ∈ vs, u.oneCell' = true) ∧ vs.all oneC = true := by
  induction h with
  | nil => exact ⟨(fun u hu => by cases hu), rfl⟩
  | cons h1 _ ih =>
    constructor
    · intro u hu
      rcases List.mem_cons.1 hu with rfl | hu
      · exact h1.oneC.2
      · exact ih.1 u hu
    · rw [List.all_cons, h1.oneC.1, ih.2]; rfl
theorem Seen.pures {w : World} {X : Nat → Prop} {a : Option Addr} {n sz : Nat} {xs : List (List Dc)} (h : Seen w X a n sz xs) (hsz : 0 < sz) :
    ∃ cs : List Value, cs.length = n * sz ∧ Pures w X cs xs.flatten ∧ (∀ e ∈ xs, e.length = sz) ∧ (∀ j u, cs[j]? = some u → a = some ⟨blkA a, offA a, none⟩ ∧ w.cell? ⟨blkA a, offA a + j, none⟩ = some u) := by
  have h5 : ∀ e ∈ xs, e.length = sz := fun e he => by
    obtain ⟨i, hi, rfl⟩ := List.getElem_of_mem he
    exact (h.cells i hi).1
  have hcell : ∀ q, q < xs.length * sz → ∃ u, w.cell? ⟨blkA a, offA a + q, none⟩ = some u ∧ ∃ hq : q < xs.flatten.length, PureC w X u xs.flatten[q] := by
    intro q hq
    have hi : q / sz < xs.length := Nat.div_lt_of_lt_mul (by rw [Nat.mul_comm]; exact hq)
    have hj : q % sz < xs[q / sz].length := by rw [h5 _ (List.getElem_mem hi)]; exact Nat.mod_lt _ hsz
    have hq' : q / sz * sz + q % sz = q := by rw [Nat.mul_comm]; exact Nat.div_add_mod q sz
    obtain ⟨_, _, h3⟩ := h.cells _ hi
    obtain ⟨u, h1, h2⟩ := h3 _ hj
    have hf := flat_get xs h5 _ _ hi hj
    rw [hq'] at h1 hf
    refine ⟨u, h1, (List.getElem?_eq_some_iff.1 hf).1, ?_⟩
    rw [(List.getElem?_eq_some_iff.1 hf).2]; exact h2
  refine ⟨(List.range (xs.length * sz)).map fun q => (w.cell? ⟨blkA a, offA a + q, none⟩).getD undef, by simp [h.len], ?_, h5, ?_⟩
  · refine Pures.of_get _ _ (by rw [flat_length xs h5]; simp) fun q hq => ?_
    rw [flat_length xs h5] at hq
    obtain ⟨u, h1, hq', h2⟩ := hcell q hq
    exact ⟨u, by simp [hq, h1], h2⟩
  · intro j u hu
    have hj : j < xs.length * sz := by
      have := (List.getElem?_eq_some_iff.1 hu).1
      simpa using this
    obtain ⟨u', h1, _⟩ := hcell j hj
    have hx : 0 < xs.length := by rcases Nat.eq_zero_or_pos xs.length with h0 | h0; rw [h0] at hj; simp at hj; exact h0
    refine ⟨(h.cells 0 hx).2.1, ?_⟩
    simp [hj, h1] at hu
    rw [h1, hu]
theorem ownBlock_blk (v : Value) (T : TypeId) (sz : Nat) (xs : List (List Dc)) : HB.blk (.row v T sz xs) = v.ownBlock := by
  cases v with
  | slice a n c => cases a <;> rfl
  | _ => rfl
theorem slB_own (v : Value) : slB v = v.ownBlock := by
  cases v with
  | slice a n c => cases a <;> rfl
  | _ => rfl
theorem run_append_own2 {P : Program} (w : World) (t ty e : TypeId) (i : TypeInfo) (z : Value) (size bytes : Nat) (ht : P.underlying t = some (.slice e)) (hi : P.info? e = some i) (hz : i.zero = some z)
    (hsize : i.size = size) (hby : i.bytes = bytes) (hzs : z.cells.size = size) (hsz : 0 < size)
    (v : Value) (n : Nat) (xs : List Value) (hown : w.ownsRow 0 e size v n xs)
    (a : Addr) (m c : Nat) (news : List Value) (hl : news.length = m * size) (hnews : ∀ j u, news[j]? = some u → w.cell? (a.add j) = some u) (h1 : ∀ u ∈ news, u.oneCell' = true)
    (h63 : n + m ≤ maxLen) (hbytes : (n + m) * bytes ≤ 140737488355328) :
    ∃ v' w', (Builtin.append_ #[t, t] ty #[v, .slice (some a) m c]).run P w = .ok v' w' ∧ w'.ownsRow 0 e size v' (n + m) (xs ++ news) ∧ w.grownBy w' v.ownBlock ∧
      (∀ b, v'.ownBlock = some b → v.ownBlock = some b ∨ w.heap.size ≤ b) := by
  subst hsize
  subst hby
  have hsmall : n + m ≤ 9223372036854775807 := by simp only [maxLen] at h63; omega
  have hlen : (xs ++ news).length = (n + m) * i.size := by rw [List.length_append, hown.1, hl, Nat.add_mul]
  have grown : ∀ (old : Nat), old < n + m → ∀ (row : Option Nat),
      (w.drew.alloc (.cells (xs.toArray ++ news.toArray ++ Builtin.zeroCells z.cells (grownCap w (n + m) old e - (n + m))) e)).ownsRow 0 e i.size
        (.slice (some ⟨w.heap.size, 0, none⟩) (n + m) (grownCap w (n + m) old e)) (n + m) (xs ++ news) ∧
      w.grownBy (w.drew.alloc (.cells (xs.toArray ++ news.toArray ++ Builtin.zeroCells z.cells (grownCap w (n + m) old e - (n + m))) e)) row := by
    intro old ho row
    have hge := grownCap_ge w (n + m) old e
    have hcm : grownCap w (n + m) old e ≤ maxLen := grownCap_le_maxLen w (n + m) old e h63
    refine ⟨⟨hlen, .inr ⟨w.heap.size, _, _, rfl, Nat.zero_le _, heap_alloc_new w.drew _, hge, hcm, ?_, ?_⟩⟩, ⟨rfl, rfl, rfl, by simp, fun k hk _ => heap_alloc_old w.drew _ hk⟩⟩
    · simp only [Array.size_append, List.size_toArray, size_zeroCells, hzs, hown.1, hl, ← Nat.add_mul]
      congr 1
      omega
    · simp only [Array.toList_append, List.append_assoc]
      rw [← List.append_assoc, ← hlen]
      exact List.take_left
  rcases hown.2 with ⟨rfl, rfl⟩ | ⟨g, cap, cur, rfl, hbg, hg, hnc, hcm, hcs, htake⟩
  · have hx : xs = [] := List.eq_nil_of_length_eq_zero (by simpa using hown.1)
    subst hx
    by_cases hm : m = 0
    · subst hm
      have hn : news = [] := List.eq_nil_of_length_eq_zero (by simpa using hl)
      subst hn
      refine ⟨.slice none 0 0, w, ?_, World.ownsRow_nil w 0 e i.size, ⟨rfl, rfl, rfl, Nat.le_refl _, fun _ _ _ => rfl⟩, fun b hb => .inl hb⟩
      simp [Builtin.append_, run_underlying ht, sizeOf, typeInfo, hi, Builtin.lenOf, Builtin.firstCells, loadCells, loadCellsFrom]
    · have hr := run_append_nil (P := P) w t ty e i z ht hi hz a m c news hl hnews (by omega) (by omega) (by have hb := hbytes; simp only [Nat.zero_add] at hb; omega)
      have hgr := grown 0 (by omega) (Value.ownBlock (.slice none 0 0))
      simp only [Nat.zero_add, List.nil_append, Array.empty_append] at hgr ⊢
      exact ⟨_, _, hr, hgr.1, hgr.2, fun b hb => .inr (by simp only [Value.ownBlock, Option.some.injEq] at hb; omega)⟩
  · by_cases hroom : n + m ≤ cap
    · have hfit : n * i.size + news.length ≤ cur.size := by rw [hl, hcs, ← Nat.add_mul]; exact Nat.mul_le_mul_right _ hroom
      have hr := run_append_room (P := P) w t ty e i ht hi g n cap cur hg a m c news hl hnews h1 hroom hfit
      refine ⟨_, _, hr, ⟨hlen, .inr ⟨g, cap, _, rfl, hbg, setRow_heap w g cur _ e _ hg, hroom, hcm, ?_, ?_⟩⟩, ⟨rfl, rfl, rfl, by simp, fun k _ hk => setRow_other w g k _ (fun e => hk (by simp [Value.ownBlock, e]))⟩, fun b hb => .inl hb⟩
      · simp only [List.size_toArray, List.length_append, List.length_take, List.length_drop, Array.length_toList]
        omega
      · rw [htake, ← hlen]
        exact List.take_left
    · have holds : ∀ j u, xs[j]? = some u → w.cell? ((⟨g, 0, none⟩ : Addr).add j) = some u := hown.cells (g := g) rfl
      have hr := run_append_grow (P := P) w t ty e i z ht hi hz ⟨g, 0, none⟩ n cap xs hown.1 holds a m c news hl hnews (by omega) (by omega) (growslice_fits (by omega) hbytes)
      have hgr := grown cap (by omega) (Value.ownBlock (.slice (some ⟨g, 0, none⟩) n cap))
      exact ⟨_, _, hr, hgr.1, hgr.2, fun b hb => .inr (by simp only [Value.ownBlock, Option.some.injEq] at hb; omega)⟩
theorem St.append {E : Env} {l : List (Nat × Value)} {H : List HB} {Φ : List (Value × Dc)} {ac : Act} {w w' : World} (hs : St E l H Φ ac w) {j : Nat} {v v' : Value} {e : TypeId} {sz : Nat} {xs xs' : List (List Dc)} {cs : List Value}
    (hj : H[j]? = some (.row v e sz xs)) (hg : w.grownBy w' v.ownBlock) (ho' : w'.ownsRow 0 e sz v' xs'.length cs) (hsz : ∀ e ∈ xs', e.length = sz) (hP : Pures w (fun b => E.X b ∨ b ∈ blks H) cs xs'.flatten)
    (hb : ∀ b, v'.ownBlock = some b → v.ownBlock = some b ∨ w.heap.size ≤ b) : St E l (H.set j (.row v' e sz xs')) Φ ac w' := by
  have hmem : ∀ b, v.ownBlock = some b → b ∈ blks H := fun b hb => mem_blks (List.mem_of_getElem? hj) (by rw [ownBlock_blk]; exact hb)
  refine hs.replace hj hg.size (fun b hb hne => hg.block b hb (fun e => hne (by rw [ownBlock_blk]; exact e.symm))) (fun b hb' => ?_) ?_ ⟨hg.os.trans hs.frm.os, hg.tape.trans hs.frm.tape, hg.output.trans hs.frm.output, Nat.le_trans hs.frm.size hg.size, fun b hb hbm => ?_⟩
  · rw [ownBlock_blk] at hb' ⊢
    exact ⟨hb b hb', (ho'.lt b hb').2⟩
  · refine owns_live ho' rfl hsz (hP.mono hg.size (fun b hlt hx => hg.block b hlt (fun e => hx (.inr (hmem b e.symm)))) (fun b hlt hx => hx.imp id (fun hm => ?_)))
    rw [set_split hj] at hm
    have hsp := getElem?_split hj
    rw [hsp]
    simp only [blks_append, blks_cons, List.mem_append, HB.bks, slB_own, Option.mem_toList, ownBlock_blk] at hm ⊢
    rcases hm with hm | hm | hm
    · exact .inl hm
    · rcases hb b hm with h0 | h0
      · exact .inr (.inl h0)
      · omega
    · exact .inr (.inr hm)
  · rw [hg.block b (Nat.lt_of_lt_of_le hb hs.frm.size) (fun e => ?_)]
    · exact hs.frm.block b hb hbm
    · have := hs.base b (hmem b e.symm)
      rcases this with h0 | h0
      · omega
      · exact hbm h0
section
variable {E : Env} {ops : Array Oper} {os : List Oper} {l : List (Nat × Value)} {H : List HB} {Φ : List (Value × Dc)} {N : SP} {Q : QS}
variable {ty : TypeId} {pos : String} {aft : Array Edge} {d : Nat}
theorem o_buildSlice {α : Type} {enc : α → List Dc} (xs : List α) {T e : TypeId} {sz bytes len : Nat} {ps : Array (Nat × Operand)} {vps : List (Nat × Value)} (arr : List Value) (_ht : slT E.P T = some (e, sz, bytes)) (hp : opvs l ps.toList = some vps)
    (hr : ∀ w, (Instr.buildSlice T len vps.toArray).run E.P w = .ok (.slice (some ⟨w.heap.size, 0, none⟩) len len) { w with heap := w.heap.push (.cells arr.toArray e (0, 0)) })
    (hlen : Nat.beq (xs.map enc).length len = true) (hmax : Nat.ble len 9223372036854775807 = true) (hsz : (xs.map enc).all (fun y => Nat.beq y.length sz) = true) (hcp : CP Φ arr (xs.map enc).flatten) (hd : Nat.blt d E.n = true)
    (h : ∀ a n c, WO E ops os ((d, .slice a n c) :: l) (.row (.slice a n c) e sz (xs.map enc) :: H) Φ N Q) : WO E ops (⟨some d, .buildSlice T len ps, ty, pos, aft, none⟩ :: os) l H Φ N Q := by
  refine o_step fun ac w hs => ⟨_, _, ?_, h (some ⟨w.heap.size, 0, none⟩) len len _ _ (St.putT (w := { w with heap := w.heap.push (.cells arr.toArray e (0, 0)) }) (St.insert hs ?_ ?_ ?_ ?_ rfl rfl rfl) (blt_lt hd))⟩
  · have e : ps.map (fun (i, x) => (i, ac.eval x)) = vps.toArray := by
      rw [← opvs_eval hs _ _ hp, ← List.map_toArray]
    simp only [execOp, e, Sem.run_bind, hr]
    rfl
  · simp
  · intro b hb; simp only [Array.getElem?_push]; rw [if_neg (by omega)]
  · intro b hb; simp only [HB.blk, slB, Option.some.injEq] at hb; subst hb; simp
  · have hl := Nat.eq_of_beq_eq_true hlen
    have hm := Nat.le_of_ble_eq_true hmax
    have h5 : ∀ y ∈ xs.map enc, y.length = sz := fun y hy => Nat.eq_of_beq_eq_true (List.all_eq_true.1 hsz y hy)
    have hP : Pures w (fun b => E.X b ∨ b ∈ blks H) arr (xs.map enc).flatten := hcp.pures hs.own.facts
    have hal : arr.length = len * sz := by rw [hP.length, flat_length _ h5, hl]
    refine owns_live (n := len) (cs := arr) ?_ hl h5 (hP.mono (by simp) (fun b hb _ => by simp only [Array.getElem?_push]; rw [if_neg (by omega)]) (fun b hb hx => ?_))
    · refine ⟨hal, .inr ⟨_, _, arr.toArray, rfl, Nat.zero_le _, by simp, Nat.le_refl _, by simp [maxLen]; omega, by simpa using hal, ?_⟩⟩
      simp [← hal]
    · rw [blks_cons] at hx
      rcases hx with hx | hx
      · exact .inl hx
      · rcases List.mem_append.1 hx with hx | hx
        · simp only [HB.bks, slB, Option.mem_toList, Option.some.injEq] at hx; omega
        · exact .inr hx
theorem o_append {α : Type} {enc : α → List Dc} {xs ys : List α} (j : Nat) {T e : TypeId} {sz bytes : Nat} {x y : Operand} {a a2 : Option Addr} {n c n2 c2 : Nat} (ht : slT E.P T = some (e, sz, bytes)) (hx : opv l x = some (.slice a n c)) (hy : opv l y = some (.slice a2 n2 c2))
    (hj : H[j]? = some (.row (.slice a n c) e sz (xs.map enc))) (hw : Where H Φ (.slice a2 n2 c2) sz (ys.map enc)) (hc : decide ((xs.length + ys.length) * bytes ≤ 140737488355328) = true) (hc2 : decide (xs.length + ys.length ≤ 9223372036854775807) = true) (hd : Nat.blt d E.n = true)
    (h : ∀ a n c, WO E ops os ((d, .slice a n c) :: l) (H.set j (.row (.slice a n c) e sz ((xs ++ ys).map enc))) Φ N Q) : WO E ops (⟨some d, .call ⟨.builtin .append, #[x, y], #[T, T]⟩, ty, pos, aft, none⟩ :: os) l H Φ N Q := by
  refine o_step fun ac w hs => ?_
  obtain ⟨hu, inf, z, h2, h3, h4, h5, h6, h7⟩ := slT_parts ht
  have hc' := of_decide_eq_true hc
  have hc2' := of_decide_eq_true hc2
  have hlive := hs.own.live _ (List.mem_of_getElem? hj)
  obtain ⟨cs, ho, hP, hsz⟩ := hlive.owns
  have hse := hw.seen hs
  obtain ⟨ns, hn1, hn2, hn3, hn4⟩ := hse.pures h7
  have hlen2 : n2 = ys.length := by simpa using hse.len
  simp only [List.length_map] at ho
  have hm : xs.length + ys.length ≤ maxLen := by simp only [maxLen]; omega
  have hrun : ∃ v' w', (Builtin.append_ #[T, T] ty #[.slice a n c, .slice a2 n2 c2]).run E.P w = .ok v' w' ∧ w'.ownsRow 0 e sz v' (xs.length + ys.length) (cs ++ ns) ∧ w.grownBy w' (Value.slice a n c).ownBlock ∧
      (∀ b, v'.ownBlock = some b → (Value.slice a n c).ownBlock = some b ∨ w.heap.size ≤ b) := by
    by_cases hy0 : ys.length = 0
    · have hns : ns = [] := List.eq_nil_of_length_eq_zero (by rw [hn1, hlen2, hy0]; simp)
      refine ⟨.slice a n c, w, ?_, by rw [hns, hy0]; simpa using ho, ⟨rfl, rfl, rfl, Nat.le_refl _, fun _ _ _ => rfl⟩, fun b hb => .inl hb⟩
      have hn0 : n2 = 0 := by omega
      subst hn0
      have hfc : ∀ w, (Builtin.firstCells sz 0 (.slice a2 0 c2)).run E.P w = .ok #[] w := by
        intro w
        cases a2 <;> simp [Builtin.firstCells, loadCells, loadCellsFrom]
      rcases ho.2 with ⟨hv, h0⟩ | ⟨g, cap, cur, hv, _, _, hnc, _⟩
      · simp only [Value.slice.injEq] at hv
        obtain ⟨rfl, rfl, rfl⟩ := hv
        simp [Builtin.append_, run_underlying hu, sizeOf, typeInfo, h2, h4, Builtin.lenOf, hfc]
      · simp only [Value.slice.injEq] at hv
        obtain ⟨rfl, rfl, rfl⟩ := hv
        simp [Builtin.append_, run_underlying hu, sizeOf, typeInfo, h2, h4, Builtin.lenOf, hfc, hnc, storeCells]
    · have hpos : 0 < ns.length := by rw [hn1, hlen2]; exact Nat.mul_pos (by omega) h7
      have ha2 : a2 = some ⟨blkA a2, offA a2, none⟩ := by
        have := hn4 0 ns[0] (by simp [hpos])
        exact this.1
      obtain ⟨v', w', h8, h9, h10, h11⟩ := run_append_own2 (P := E.P) w T ty e inf z sz bytes hu h2 h3 h4 h5 h6 h7 (.slice a n c) xs.length cs ho ⟨blkA a2, offA a2, none⟩ ys.length c2 ns (by rw [hn1, hlen2])
        (fun q u hq => by rw [add_none]; exact (hn4 q u hq).2) hn2.one.1 hm hc'
      refine ⟨v', w', ?_, h9, h10, h11⟩
      rw [ha2, hlen2]; exact h8
  obtain ⟨v', w', hr, ho', hg, hblk⟩ := hrun
  have hv' : ∃ a' n' c', v' = .slice a' n' c' := by
    rcases ho'.2 with ⟨rfl, _⟩ | ⟨g, cap, cur, rfl, _⟩
    · exact ⟨_, _, _, rfl⟩
    · exact ⟨_, _, _, rfl⟩
  obtain ⟨a', n', c', rfl⟩ := hv'
  refine ⟨_, w', ?_, h a' n' c' _ _ (St.putT ?_ (blt_lt hd))⟩
  · simp only [execOp, resolve, List.map_toArray, List.map_cons, List.map_nil, opv_eval hs hx, opv_eval hs hy, Sem.run_bind]
    simp only [pure, Sem.run, Result.andThen, invoke, builtin]
    have := hr
    simp [this]
  · refine hs.append hj hg (cs := cs ++ ns) (by simpa using ho') (fun y hy => ?_) (by rw [List.map_append, List.flatten_append]; exact hP.append hn2) hblk
    rw [List.map_append] at hy
    rcases List.mem_append.1 hy with hy | hy
    · exact hsz y hy
    · exact hn3 y hy
end
end Go.Vc
