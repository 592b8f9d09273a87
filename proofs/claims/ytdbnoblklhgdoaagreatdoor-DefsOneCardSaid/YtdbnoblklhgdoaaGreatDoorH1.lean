import Derived.Test.YtdbnoblklhgdoaaGreatDoorT0
set_option linter.unusedVariables false
set_option linter.unusedSimpArgs false
set_option maxRecDepth 8000
namespace Go.Vc
open Go Go.Proofs
theorem tri69_raw (z : Bool) (b : Nat) (sa1 : Option Addr) (sn1 sc1 : Nat) (xs : List Int) :
  xn Tryz.prog 69 [.pointer (some ⟨b, 0, none⟩)] [.box b 69 [wv b z, .slice sa1 sn1 sc1], .row (.slice sa1 sn1 sc1) 5 1 (xs.map xc)] [] (fun o H Φ => o = .ret (.tuple #[]) /\ H = [.box b 69 [wv b true, .slice sa1 sn1 sc1], .row (.slice sa1 sn1 sc1) 5 1 (xs.map xc)] /\ Φ = []) := by
 refine zt (n := 20) Tryz.func69 rfl Tryz.ntmps69 rfl fun w X => ?_
 have ty_66 : vw Tryz.prog 66 = some (false, 1) := by kernel_rfl
 obtain ⟨inf, hinf, hsz⟩ := tyd_info (show vw Tryz.prog 69 = some (true, 2) by kernel_rfl)
 have hz : (inf.size != 0) = true := by rw [hsz]; rfl
 have u_66 : Tryz.prog.underlying 66 = some (.pointer 69) := by kernel_rfl
 have u_154 : Tryz.prog.underlying 154 = some .unsafePointer := by kernel_rfl
 cases z with
 | false =>
  refine zf ?_
  refine zd ?_
  refine wT (xY rfl) rfl ?_
  refine wT (wQ rfl) rfl ?_
  refine wT (zH (v := .pointer (some ⟨b, 0, none⟩)) rfl (fun _ => by kernel_rfl)) rfl ?_
  refine wT (wR 0 ty_66 rfl rfl rfl rfl rfl) rfl ?_
  refine wT (wI (v := .bool true) rfl rfl (fun _ => by kernel_rfl)) rfl ?_
  refine zb ?_
  refine xw rfl (fun _ => ?_) (fun h => Bool.noConfusion h)
  refine zd ?_
  refine wT (xY rfl) rfl ?_
  refine wT (xY rfl) rfl ?_
  refine wT (v_toUns 0 u_66 u_154 hinf hz rfl rfl rfl) rfl ?_
  refine wT (v_extern (v := .pointer (some ⟨b, 0, none⟩)) rfl (fun w => by kernel_rfl)) rfl ?_
  refine wT (v_fromUns 0 u_154 u_66 hinf rfl rfl (by kernel_rfl)) rfl ?_
  refine wT (wQ rfl) rfl ?_
  refine wT (zH (v := .pointer (some ⟨b, 0, none⟩)) rfl (fun _ => by kernel_rfl)) rfl ?_
  refine uL 0 rfl ty_66 rfl rfl rfl rfl rfl rfl rfl ?_
  refine zg ?_
  refine xv rfl fun a w hs => ?_
  exact zo hs [0, 0] ⟨rfl, rfl, rfl⟩ rfl zn
 | true =>
  refine zf ?_
  refine zd ?_
  refine wT (xY rfl) rfl ?_
  refine wT (wQ rfl) rfl ?_
  refine wT (zH (v := .pointer (some ⟨b, 0, none⟩)) rfl (fun _ => by kernel_rfl)) rfl ?_
  refine wT (wR 0 ty_66 rfl rfl rfl rfl rfl) rfl ?_
  refine wT (wI (v := .bool false) rfl rfl (fun _ => by kernel_rfl)) rfl ?_
  refine zb ?_
  refine xw rfl (fun h => Bool.noConfusion h) (fun _ => ?_)
  refine zf ?_
  refine zd ?_
  refine wT (xY rfl) rfl ?_
  refine wT (wQ rfl) rfl ?_
  refine wT (zH (v := .pointer (some ⟨b, 0, none⟩)) rfl (fun _ => by kernel_rfl)) rfl ?_
  refine wT (wR 0 ty_66 rfl rfl rfl rfl rfl) rfl ?_
  refine wT (xY rfl) rfl ?_
  refine wT (v_neself u_66 hinf rfl rfl) rfl ?_
  refine zb ?_
  refine xw rfl (fun h => Bool.noConfusion h) (fun _ => ?_)
  refine zk ?_
  refine xv rfl fun a w hs => ?_
  exact zo hs [0, 0] ⟨rfl, rfl, rfl⟩ rfl zn
theorem tri32_raw (x : Bool × List Int) (b : Nat) (sa1 : Option Addr) (sn1 sc1 : Nat) (r : List UInt8) (hok : x.2.all okB = true) (hr : r = vx x.2) :
  xn Tryz.prog 32 [.pointer (some ⟨b, 0, none⟩)] [.box b 69 [wv b x.1, .slice sa1 sn1 sc1], .row (.slice sa1 sn1 sc1) 5 1 (x.2.map xc)] [] (fun o H Φ => o = .ret (.string (bs r)) /\ H = [] /\ Φ = []) := by
 subst hr
 have ty_67 : vw Tryz.prog 67 = some (false, 1) := by kernel_rfl
 have mixed : Tryz.prog.follows .mixedOrders = true := by kernel_rfl
 have sl_67 : slT Tryz.prog 67 = some (5, 1, 1) := by kernel_rfl
 have u_130 : Tryz.prog.underlying 130 = some (.pointer 5) := by kernel_rfl
 refine zt (n := 14) Tryz.func32 rfl Tryz.ntmps32 rfl fun w X => ?_
 refine zf ?_
 refine zd ?_
 refine wT (wL rfl) rfl ?_
 refine zb ?_
 refine zf ?_
 refine c_rowlen 1 rfl fun hn => ?_
 simp only [List.length_map] at hn
 subst hn
 refine zO (n := 12) [0] mixed rfl rfl ?_
 refine ql 0 rfl uj (by kernel_rfl) (by kernel_rfl) (by kernel_rfl) rfl (xY rfl) ?_
 refine ql 1 rfl uj (by kernel_rfl) (by kernel_rfl) (by kernel_rfl) rfl (wQ rfl) ?_
 refine ql 2 rfl uj (by kernel_rfl) (by kernel_rfl) (by kernel_rfl) rfl (zH (v := .pointer (some ⟨b, 1, none⟩)) rfl (fun _ => by kernel_rfl)) ?_
 refine ql 3 rfl uj (by kernel_rfl) (by kernel_rfl) (by kernel_rfl) rfl (wR 0 ty_67 rfl rfl rfl rfl rfl) ?_
 refine ql 5 rfl uj (by kernel_rfl) (by kernel_rfl) (by kernel_rfl) rfl (xY rfl) ?_
 refine ql 6 rfl uj (by kernel_rfl) (by kernel_rfl) (by kernel_rfl) rfl (wQ rfl) ?_
 refine ql 7 rfl uj (by kernel_rfl) (by kernel_rfl) (by kernel_rfl) rfl (zH (v := .pointer (some ⟨b, 1, none⟩)) rfl (fun _ => by kernel_rfl)) ?_
 refine ql 8 rfl uj (by kernel_rfl) (by kernel_rfl) (by kernel_rfl) rfl (wR 0 ty_67 rfl rfl rfl rfl rfl) ?_
 refine ql 9 rfl uj (by kernel_rfl) (by kernel_rfl) (by kernel_rfl) rfl (v_lenRaw sl_67 rfl) ?_
 refine d_one 4 rfl (by kernel_rfl) ?_
 refine o_sliceData 1 u_130 rfl rfl rfl fun p hp => ?_
 refine d_next [0] 0 rfl rfl ?_
 refine d_one 10 rfl (by kernel_rfl) ?_
 refine o_unsafeString 1 u_130 (by kernel_rfl) rfl rfl hp rfl hok rfl ?_
 refine d_next [0] 0 rfl rfl ?_
 refine ql 11 rfl uj (by kernel_rfl) (by kernel_rfl) (by kernel_rfl) rfl (wL rfl) ?_
 refine zF (by kernel_rfl) ?_
 refine zq ?_
 refine yG rfl (zY rfl) fun a w hs => ?_
 exact zo hs [] ⟨rfl, rfl, rfl⟩ rfl zn
theorem tri69 (x : zw) (b : Nat) (sa1 : Option Addr) (sn1 sc1 : Nat) (r : zw) (hF : F.strings.copyCheck x = some r) :
  xn Tryz.prog 69 [.pointer (some ⟨b, 0, none⟩)] [.box b 69 [wv b x.addr, .slice sa1 sn1 sc1], .row (.slice sa1 sn1 sc1) 5 1 (x.buf.map xc)] [] (fun o H Φ => ∃ (sa : Option Addr) (sn sc : Nat), o = .ret (.tuple #[]) /\ H = [.box b 69 [wv b r.addr, .slice sa sn sc], .row (.slice sa sn sc) 5 1 (r.buf.map xc)] /\ Φ = []) := by
 cases hF
 exact (tri69_raw x.addr b sa1 sn1 sc1 x.buf).mono fun o H Φ ⟨h1, h2, h3⟩ => ⟨sa1, sn1, sc1, h1, h2, h3⟩
theorem tri32 (x : zw) (b : Nat) (sa1 : Option Addr) (sn1 sc1 : Nat) (r : List UInt8) (hF : F.strings.Builder_String x = some r) :
  xn Tryz.prog 32 [.pointer (some ⟨b, 0, none⟩)] [.box b 69 [wv b x.addr, .slice sa1 sn1 sc1], .row (.slice sa1 sn1 sc1) 5 1 (x.buf.map xc)] [] (fun o H Φ => o = .ret (.string (bs r)) /\ H = [] /\ Φ = []) := by
 unfold F.strings.Builder_String at hF
 split at hF
 ·rename_i h
  cases hF
  exact tri32_raw (x.addr, x.buf) b sa1 sn1 sc1 _ h rfl
 ·cases hF
end Go.Vc
