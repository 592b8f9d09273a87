import Derived.Test.YtdbnoblklhgdoaaGreatDoorT0
set_option linter.unusedVariables false
set_option linter.unusedSimpArgs false
set_option maxRecDepth 8000
namespace Go.Vc
open Go Go.Proofs
theorem tri69_raw (z : Bool) (b : Nat) (sa1 : Option Addr) (sn1 sc1 : Nat) (xs : List Int) :
  xu Tryz.prog 69 [.pointer (some ⟨b, 0, none⟩)] [.box b 69 [wL b z, .slice sa1 sn1 sc1], .row (.slice sa1 sn1 sc1) 5 1 (xs.map xj)] [] (fun o H Φ => o = .ret (.tuple #[]) /\ H = [.box b 69 [wL b true, .slice sa1 sn1 sc1], .row (.slice sa1 sn1 sc1) 5 1 (xs.map xj)] /\ Φ = []) := by
 refine zt (n := 20) Tryz.func69 rfl Tryz.ntmps69 rfl fun w X => ?_
 have ty_66 : ka Tryz.prog 66 = some (false, 1) := by kernel_rfl
 obtain ⟨inf, hinf, hsz⟩ := tyd_info (show ka Tryz.prog 69 = some (true, 2) by kernel_rfl)
 have hz : (inf.size != 0) = true := by rw [hsz]; rfl
 have u_66 : Tryz.prog.underlying 66 = some (.pointer 69) := by kernel_rfl
 have u_154 : Tryz.prog.underlying 154 = some .unsafePointer := by kernel_rfl
 cases z with
 | false =>
  refine zf ?_
  refine zd ?_
  refine vf (wc rfl) rfl ?_
  refine vf (vc rfl) rfl ?_
  refine vf (zI (v := .pointer (some ⟨b, 0, none⟩)) rfl (fun _ => by kernel_rfl)) rfl ?_
  refine vf (vd 0 ty_66 rfl rfl rfl rfl rfl) rfl ?_
  refine vf (wV (v := .bool true) rfl rfl (fun _ => by kernel_rfl)) rfl ?_
  refine zb ?_
  refine xH rfl (fun _ => ?_) (fun h => Bool.noConfusion h)
  refine zd ?_
  refine vf (wc rfl) rfl ?_
  refine vf (wc rfl) rfl ?_
  refine vf (v_toUns 0 u_66 u_154 hinf hz rfl rfl rfl) rfl ?_
  refine vf (v_extern (v := .pointer (some ⟨b, 0, none⟩)) rfl (fun w => by kernel_rfl)) rfl ?_
  refine vf (v_fromUns 0 u_154 u_66 hinf rfl rfl (by kernel_rfl)) rfl ?_
  refine vf (vc rfl) rfl ?_
  refine vf (zI (v := .pointer (some ⟨b, 0, none⟩)) rfl (fun _ => by kernel_rfl)) rfl ?_
  refine u9 0 rfl ty_66 rfl rfl rfl rfl rfl rfl rfl ?_
  refine zh ?_
  refine xz rfl fun a w hs => ?_
  exact zo hs [0, 0] ⟨rfl, rfl, rfl⟩ rfl zn
 | true =>
  refine zf ?_
  refine zd ?_
  refine vf (wc rfl) rfl ?_
  refine vf (vc rfl) rfl ?_
  refine vf (zI (v := .pointer (some ⟨b, 0, none⟩)) rfl (fun _ => by kernel_rfl)) rfl ?_
  refine vf (vd 0 ty_66 rfl rfl rfl rfl rfl) rfl ?_
  refine vf (wV (v := .bool false) rfl rfl (fun _ => by kernel_rfl)) rfl ?_
  refine zb ?_
  refine xH rfl (fun h => Bool.noConfusion h) (fun _ => ?_)
  refine zf ?_
  refine zd ?_
  refine vf (wc rfl) rfl ?_
  refine vf (vc rfl) rfl ?_
  refine vf (zI (v := .pointer (some ⟨b, 0, none⟩)) rfl (fun _ => by kernel_rfl)) rfl ?_
  refine vf (vd 0 ty_66 rfl rfl rfl rfl rfl) rfl ?_
  refine vf (wc rfl) rfl ?_
  refine vf (v_neself u_66 hinf rfl rfl) rfl ?_
  refine zb ?_
  refine xH rfl (fun h => Bool.noConfusion h) (fun _ => ?_)
  refine zk ?_
  refine xz rfl fun a w hs => ?_
  exact zo hs [0, 0] ⟨rfl, rfl, rfl⟩ rfl zn
theorem tri32_raw (x : Bool × List Int) (b : Nat) (sa1 : Option Addr) (sn1 sc1 : Nat) (r : List UInt8) (hok : x.2.all okB = true) (hr : r = vj x.2) :
  xu Tryz.prog 32 [.pointer (some ⟨b, 0, none⟩)] [.box b 69 [wL b x.1, .slice sa1 sn1 sc1], .row (.slice sa1 sn1 sc1) 5 1 (x.2.map xj)] [] (fun o H Φ => o = .ret (.string (bs r)) /\ H = [] /\ Φ = []) := by
 subst hr
 have ty_67 : ka Tryz.prog 67 = some (false, 1) := by kernel_rfl
 have mixed : Tryz.prog.follows .mixedOrders = true := by kernel_rfl
 have sl_67 : slT Tryz.prog 67 = some (5, 1, 1) := by kernel_rfl
 have u_130 : Tryz.prog.underlying 130 = some (.pointer 5) := by kernel_rfl
 refine zt (n := 14) Tryz.func32 rfl Tryz.ntmps32 rfl fun w X => ?_
 refine zf ?_
 refine zd ?_
 refine vf (wZ rfl) rfl ?_
 refine zb ?_
 refine zf ?_
 refine c_rowlen 1 rfl fun hn => ?_
 simp only [List.length_map] at hn
 subst hn
 refine zP (n := 12) [0] mixed rfl rfl ?_
 refine qK 0 rfl uG (by kernel_rfl) (by kernel_rfl) (by kernel_rfl) rfl (wc rfl) ?_
 refine qK 1 rfl uG (by kernel_rfl) (by kernel_rfl) (by kernel_rfl) rfl (vc rfl) ?_
 refine qK 2 rfl uG (by kernel_rfl) (by kernel_rfl) (by kernel_rfl) rfl (zI (v := .pointer (some ⟨b, 1, none⟩)) rfl (fun _ => by kernel_rfl)) ?_
 refine qK 3 rfl uG (by kernel_rfl) (by kernel_rfl) (by kernel_rfl) rfl (vd 0 ty_67 rfl rfl rfl rfl rfl) ?_
 refine qK 5 rfl uG (by kernel_rfl) (by kernel_rfl) (by kernel_rfl) rfl (wc rfl) ?_
 refine qK 6 rfl uG (by kernel_rfl) (by kernel_rfl) (by kernel_rfl) rfl (vc rfl) ?_
 refine qK 7 rfl uG (by kernel_rfl) (by kernel_rfl) (by kernel_rfl) rfl (zI (v := .pointer (some ⟨b, 1, none⟩)) rfl (fun _ => by kernel_rfl)) ?_
 refine qK 8 rfl uG (by kernel_rfl) (by kernel_rfl) (by kernel_rfl) rfl (vd 0 ty_67 rfl rfl rfl rfl rfl) ?_
 refine qK 9 rfl uG (by kernel_rfl) (by kernel_rfl) (by kernel_rfl) rfl (v_lenRaw sl_67 rfl) ?_
 refine d_one 4 rfl (by kernel_rfl) ?_
 refine o_sliceData 1 u_130 rfl rfl rfl fun p hp => ?_
 refine d_next [0] 0 rfl rfl ?_
 refine d_one 10 rfl (by kernel_rfl) ?_
 refine o_unsafeString 1 u_130 (by kernel_rfl) rfl rfl hp rfl hok rfl ?_
 refine d_next [0] 0 rfl rfl ?_
 refine qK 11 rfl uG (by kernel_rfl) (by kernel_rfl) (by kernel_rfl) rfl (wZ rfl) ?_
 refine zG (by kernel_rfl) ?_
 refine zp ?_
 refine yH rfl (zX rfl) fun a w hs => ?_
 exact zo hs [] ⟨rfl, rfl, rfl⟩ rfl zn
theorem tri69 (x : zx) (b : Nat) (sa1 : Option Addr) (sn1 sc1 : Nat) (r : zx) (hF : F.strings.copyCheck x = some r) :
  xu Tryz.prog 69 [.pointer (some ⟨b, 0, none⟩)] [.box b 69 [wL b x.addr, .slice sa1 sn1 sc1], .row (.slice sa1 sn1 sc1) 5 1 (x.buf.map xj)] [] (fun o H Φ => ∃ (sa : Option Addr) (sn sc : Nat), o = .ret (.tuple #[]) /\ H = [.box b 69 [wL b r.addr, .slice sa sn sc], .row (.slice sa sn sc) 5 1 (r.buf.map xj)] /\ Φ = []) := by
 cases hF
 exact (tri69_raw x.addr b sa1 sn1 sc1 x.buf).mono fun o H Φ ⟨h1, h2, h3⟩ => ⟨sa1, sn1, sc1, h1, h2, h3⟩
theorem tri32 (x : zx) (b : Nat) (sa1 : Option Addr) (sn1 sc1 : Nat) (r : List UInt8) (hF : F.strings.Builder_String x = some r) :
  xu Tryz.prog 32 [.pointer (some ⟨b, 0, none⟩)] [.box b 69 [wL b x.addr, .slice sa1 sn1 sc1], .row (.slice sa1 sn1 sc1) 5 1 (x.buf.map xj)] [] (fun o H Φ => o = .ret (.string (bs r)) /\ H = [] /\ Φ = []) := by
 unfold F.strings.Builder_String at hF
 split at hF
 ·rename_i h
  cases hF
  exact tri32_raw (x.addr, x.buf) b sa1 sn1 sc1 _ h rfl
 ·cases hF
end Go.Vc
