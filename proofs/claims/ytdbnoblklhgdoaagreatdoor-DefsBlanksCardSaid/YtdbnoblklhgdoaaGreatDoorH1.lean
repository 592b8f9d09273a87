import Derived.Test.YtdbnoblklhgdoaaGreatDoorT0
set_option linter.unusedVariables false
set_option linter.unusedSimpArgs false
set_option maxRecDepth 8000
namespace Go.Vc
open Go Go.Proofs
theorem tri69_raw (z : Bool) (b : Nat) (sa1 : Option Addr) (sn1 sc1 : Nat) (xs : List Int) :
    Tri Tryz.prog 69 [.pointer (some ⟨b, 0, none⟩)] [.box b 69 [bptr b z, .slice sa1 sn1 sc1], .row (.slice sa1 sn1 sc1) 5 1 (xs.map eU8)] [] (fun o H Φ => o = .ret (.tuple #[]) ∧ H = [.box b 69 [bptr b true, .slice sa1 sn1 sc1], .row (.slice sa1 sn1 sc1) 5 1 (xs.map eU8)] ∧ Φ = []) := by
  refine tri_intro (n := 20) Tryz.func69 rfl Tryz.ntmps69 rfl fun w X => ?_
  have ty_66 : tyd Tryz.prog 66 = some (false, 1) := by kernel_rfl
  obtain ⟨inf, hinf, hsz⟩ := tyd_info (show tyd Tryz.prog 69 = some (true, 2) by kernel_rfl)
  have hz : (inf.size != 0) = true := by rw [hsz]; rfl
  have u_66 : Tryz.prog.underlying 66 = some (.pointer 69) := by kernel_rfl
  have u_154 : Tryz.prog.underlying 154 = some .unsafePointer := by kernel_rfl
  cases z with
  | false =>
    refine c_seq ?_
    refine c_region ?_
    refine o_v (v_move rfl) rfl ?_
    refine o_v (v_nilCheck rfl) rfl ?_
    refine o_v (v_fieldAddr (v := .pointer (some ⟨b, 0, none⟩)) rfl (fun _ => by kernel_rfl)) rfl ?_
    refine o_v (v_load_box 0 ty_66 rfl rfl rfl rfl rfl) rfl ?_
    refine o_v (v_binr (v := .bool true) rfl rfl (fun _ => by kernel_rfl)) rfl ?_
    refine o_seq ?_
    refine c_cond rfl (fun _ => ?_) (fun h => Bool.noConfusion h)
    refine c_region ?_
    refine o_v (v_move rfl) rfl ?_
    refine o_v (v_move rfl) rfl ?_
    refine o_v (v_toUns 0 u_66 u_154 hinf hz rfl rfl rfl) rfl ?_
    refine o_v (v_extern (v := .pointer (some ⟨b, 0, none⟩)) rfl (fun w => by kernel_rfl)) rfl ?_
    refine o_v (v_fromUns 0 u_154 u_66 hinf rfl rfl (by kernel_rfl)) rfl ?_
    refine o_v (v_nilCheck rfl) rfl ?_
    refine o_v (v_fieldAddr (v := .pointer (some ⟨b, 0, none⟩)) rfl (fun _ => by kernel_rfl)) rfl ?_
    refine o_store_box 0 rfl ty_66 rfl rfl rfl rfl rfl rfl rfl ?_
    refine o_nil ?_
    refine s_ret0 rfl fun a w hs => ?_
    exact fin_sel hs [0, 0] ⟨rfl, rfl, rfl⟩ rfl sub_nil
  | true =>
    refine c_seq ?_
    refine c_region ?_
    refine o_v (v_move rfl) rfl ?_
    refine o_v (v_nilCheck rfl) rfl ?_
    refine o_v (v_fieldAddr (v := .pointer (some ⟨b, 0, none⟩)) rfl (fun _ => by kernel_rfl)) rfl ?_
    refine o_v (v_load_box 0 ty_66 rfl rfl rfl rfl rfl) rfl ?_
    refine o_v (v_binr (v := .bool false) rfl rfl (fun _ => by kernel_rfl)) rfl ?_
    refine o_seq ?_
    refine c_cond rfl (fun h => Bool.noConfusion h) (fun _ => ?_)
    refine c_seq ?_
    refine c_region ?_
    refine o_v (v_move rfl) rfl ?_
    refine o_v (v_nilCheck rfl) rfl ?_
    refine o_v (v_fieldAddr (v := .pointer (some ⟨b, 0, none⟩)) rfl (fun _ => by kernel_rfl)) rfl ?_
    refine o_v (v_load_box 0 ty_66 rfl rfl rfl rfl rfl) rfl ?_
    refine o_v (v_move rfl) rfl ?_
    refine o_v (v_neself u_66 hinf rfl rfl) rfl ?_
    refine o_seq ?_
    refine c_cond rfl (fun h => Bool.noConfusion h) (fun _ => ?_)
    refine c_skip ?_
    refine s_ret0 rfl fun a w hs => ?_
    exact fin_sel hs [0, 0] ⟨rfl, rfl, rfl⟩ rfl sub_nil
theorem tri32_raw (x : Bool × List Int) (b : Nat) (sa1 : Option Addr) (sn1 sc1 : Nat) (r : List UInt8) (hok : x.2.all okB = true) (hr : r = toS x.2) :
    Tri Tryz.prog 32 [.pointer (some ⟨b, 0, none⟩)] [.box b 69 [bptr b x.1, .slice sa1 sn1 sc1], .row (.slice sa1 sn1 sc1) 5 1 (x.2.map eU8)] [] (fun o H Φ => o = .ret (.string (bs r)) ∧ H = [] ∧ Φ = []) := by
  subst hr
  have ty_67 : tyd Tryz.prog 67 = some (false, 1) := by kernel_rfl
  have mixed : Tryz.prog.follows .mixedOrders = true := by kernel_rfl
  have sl_67 : slT Tryz.prog 67 = some (5, 1, 1) := by kernel_rfl
  have u_130 : Tryz.prog.underlying 130 = some (.pointer 5) := by kernel_rfl
  refine tri_intro (n := 14) Tryz.func32 rfl Tryz.ntmps32 rfl fun w X => ?_
  refine c_seq ?_
  refine c_region ?_
  refine o_v (v_assign rfl) rfl ?_
  refine o_seq ?_
  refine c_seq ?_
  refine c_rowlen 1 rfl fun hn => ?_
  simp only [List.length_map] at hn
  subst hn
  refine c_draw (n := 12) [0] mixed rfl rfl ?_
  refine d_val 0 rfl pnok (by kernel_rfl) (by kernel_rfl) (by kernel_rfl) rfl (v_move rfl) ?_
  refine d_val 1 rfl pnok (by kernel_rfl) (by kernel_rfl) (by kernel_rfl) rfl (v_nilCheck rfl) ?_
  refine d_val 2 rfl pnok (by kernel_rfl) (by kernel_rfl) (by kernel_rfl) rfl (v_fieldAddr (v := .pointer (some ⟨b, 1, none⟩)) rfl (fun _ => by kernel_rfl)) ?_
  refine d_val 3 rfl pnok (by kernel_rfl) (by kernel_rfl) (by kernel_rfl) rfl (v_load_box 0 ty_67 rfl rfl rfl rfl rfl) ?_
  refine d_val 5 rfl pnok (by kernel_rfl) (by kernel_rfl) (by kernel_rfl) rfl (v_move rfl) ?_
  refine d_val 6 rfl pnok (by kernel_rfl) (by kernel_rfl) (by kernel_rfl) rfl (v_nilCheck rfl) ?_
  refine d_val 7 rfl pnok (by kernel_rfl) (by kernel_rfl) (by kernel_rfl) rfl (v_fieldAddr (v := .pointer (some ⟨b, 1, none⟩)) rfl (fun _ => by kernel_rfl)) ?_
  refine d_val 8 rfl pnok (by kernel_rfl) (by kernel_rfl) (by kernel_rfl) rfl (v_load_box 0 ty_67 rfl rfl rfl rfl rfl) ?_
  refine d_val 9 rfl pnok (by kernel_rfl) (by kernel_rfl) (by kernel_rfl) rfl (v_lenRaw sl_67 rfl) ?_
  refine d_one 4 rfl (by kernel_rfl) ?_
  refine o_sliceData 1 u_130 rfl rfl rfl fun p hp => ?_
  refine d_next [0] 0 rfl rfl ?_
  refine d_one 10 rfl (by kernel_rfl) ?_
  refine o_unsafeString 1 u_130 (by kernel_rfl) rfl rfl hp rfl hok rfl ?_
  refine d_next [0] 0 rfl rfl ?_
  refine d_val 11 rfl pnok (by kernel_rfl) (by kernel_rfl) (by kernel_rfl) rfl (v_assign rfl) ?_
  refine d_done_seq (by kernel_rfl) ?_
  refine c_ret ?_
  refine s_ret1 rfl (r_tmp rfl) fun a w hs => ?_
  exact fin_sel hs [] ⟨rfl, rfl, rfl⟩ rfl sub_nil
theorem tri69 (x : Strings_Builder) (b : Nat) (sa1 : Option Addr) (sn1 sc1 : Nat) (r : Strings_Builder) (hF : F.strings.copyCheck x = some r) :
    Tri Tryz.prog 69 [.pointer (some ⟨b, 0, none⟩)] [.box b 69 [bptr b x.addr, .slice sa1 sn1 sc1], .row (.slice sa1 sn1 sc1) 5 1 (x.buf.map eU8)] [] (fun o H Φ => ∃ (sa : Option Addr) (sn sc : Nat), o = .ret (.tuple #[]) ∧ H = [.box b 69 [bptr b r.addr, .slice sa sn sc], .row (.slice sa sn sc) 5 1 (r.buf.map eU8)] ∧ Φ = []) := by
  cases hF
  exact (tri69_raw x.addr b sa1 sn1 sc1 x.buf).mono fun o H Φ ⟨h1, h2, h3⟩ => ⟨sa1, sn1, sc1, h1, h2, h3⟩
theorem tri32 (x : Strings_Builder) (b : Nat) (sa1 : Option Addr) (sn1 sc1 : Nat) (r : List UInt8) (hF : F.strings.Builder_String x = some r) :
    Tri Tryz.prog 32 [.pointer (some ⟨b, 0, none⟩)] [.box b 69 [bptr b x.addr, .slice sa1 sn1 sc1], .row (.slice sa1 sn1 sc1) 5 1 (x.buf.map eU8)] [] (fun o H Φ => o = .ret (.string (bs r)) ∧ H = [] ∧ Φ = []) := by
  unfold F.strings.Builder_String at hF
  split at hF
  · rename_i h
    cases hF
    exact tri32_raw (x.addr, x.buf) b sa1 sn1 sc1 _ h rfl
  · cases hF
end Go.Vc
