import Derived.Test.YtdbnoblklhgdoaaGreatDoorH2
set_option linter.unusedVariables false
set_option linter.unusedSimpArgs false
set_option maxRecDepth 8000
set_option maxHeartbeats 2000000
namespace Go.Vc
open Go Go.Proofs
theorem tri123 {s : S4} {b : Int} {r : Bool} (hF : F.charset.Has s b = some r) :
    Tri Tryz.prog 123 [.agg #[.int .u64 s.w0, .int .u64 s.w1, .int .u64 s.w2, .int .u64 s.w3], .int .u8 b] [] [] (fun o H Φ => o = .ret (.bool r) ∧ H = [] ∧ Φ = []) := by
  unfold F.charset.Has at hF
  refine tri_intro (n := 14) Tryz.func123 rfl Tryz.ntmps123 rfl fun w X => c_seq (c_region (o_box rfl rfl rfl fun b1 => o_v (v_assign rfl) rfl (o_seq (c_seq (c_region (o_v (v_move rfl) rfl (o_v (v_quo rfl rfl rfl) rfl (ite_some hF fun h1 hF => o_v (v_indexAddr_a ar44 rfl rfl h1) rfl (o_v (v_load_a 0 s ty42 rfl rfl h1) rfl (o_v (v_move rfl) rfl (o_v (v_rem rfl rfl rfl) rfl (ite_none hF fun h2 hF => ?_))))))))))))
  refine o_v (v_shr rfl rfl h2) rfl (o_v (v_bit rfl rfl rfl) rfl (o_v (v_bin rfl rfl rfl) rfl (o_v (v_assign rfl) rfl (o_seq (c_ret ?_)))))
  cases hF
  refine s_ret1 rfl (r_tmp rfl) fun a w hs => fin_sel hs [] ⟨rfl, rfl, rfl⟩ rfl sub_nil
end Go.Vc
