import Derived.Test.YtmcnanedpofeoaaT0
import Derived.Test.YtmcnanedpofeoaaFF
namespace Go.Vc
open Go Go.Proofs
theorem tri17 (s : S4) (b : Int) (r : Bool) (hF : F.charset.Has s b = some r) :
    Tri Try.prog 17 [.agg #[.int .u64 s.w0, .int .u64 s.w1, .int .u64 s.w2, .int .u64 s.w3], .int .u8 b] [] [] (fun o H Φ => o = .ret (.bool r) ∧ H = [] ∧ Φ = []) := by
  unfold F.charset.Has at hF
  refine tri_intro (n := 14) Try.func17 rfl Try.ntmps17 rfl fun w X => ?_
  refine c_seq ?_
  refine c_region ?_
  refine o_box rfl rfl rfl fun b1 => ?_
  refine o_v (v_assign rfl) rfl ?_
  refine o_seq ?_
  refine c_seq ?_
  refine c_region ?_
  refine o_v (v_move rfl) rfl ?_
  refine o_v (v_quo rfl rfl rfl) rfl ?_
  refine ite_some hF fun h1 hF => ?_
  refine o_v (v_indexAddr_a ar26 rfl rfl h1) rfl ?_
  refine o_v (v_load_a 0 s ty24 rfl rfl h1) rfl ?_
  refine o_v (v_move rfl) rfl ?_
  refine o_v (v_rem rfl rfl rfl) rfl ?_
  refine ite_none hF fun h2 hF => ?_
  refine o_v (v_shr rfl rfl h2) rfl ?_
  refine o_v (v_bit rfl rfl rfl) rfl ?_
  refine o_v (v_bin rfl rfl rfl) rfl ?_
  refine o_v (v_assign rfl) rfl ?_
  refine o_seq ?_
  refine c_ret ?_
  cases hF
  refine s_ret1 rfl (r_tmp rfl) fun a w hs => ?_
  exact fin_sel hs [] ⟨rfl, rfl, rfl⟩ rfl sub_nil
end Go.Vc
