import Derived.Test.YtfhbgelpmbkooaaFF
import Derived.Test.YtfhbgelpmbkooaaProg
set_option linter.unusedVariables false
set_option linter.unusedSimpArgs false
set_option maxRecDepth 8000
set_option maxHeartbeats 2000000
namespace Go.Vc
open Go Go.Proofs
theorem ty24 : tyd Try.prog 24 = some (true, 3) := by kernel_rfl
theorem sl25 : slT Try.prog 25 = some (5, 1, 1) := by kernel_rfl
theorem ty3 : tyd Try.prog 3 = some (false, 1) := by kernel_rfl
theorem ty22 : tyd Try.prog 22 = some (false, 1) := by kernel_rfl
theorem sl22 : slT Try.prog 22 = some (50, 2, 32) := by kernel_rfl
theorem sl48 : slT Try.prog 48 = some (47, 5, 40) := by kernel_rfl
theorem ty48 : tyd Try.prog 48 = some (false, 1) := by kernel_rfl
theorem call28 : Callable Try.prog 28 := callable_of Try.func28 (by kernel_rfl) rfl
theorem call11 : Callable Try.prog 11 := callable_of Try.func11 (by kernel_rfl) rfl
theorem zero24 : (Try.prog.info? 24).bind (·.zero) = some (.agg #[.int .i64 0, .int .i64 0, .slice none 0 0]) := by kernel_rfl
theorem zero47 : (Try.prog.info? 47).bind (·.zero) = some (.agg #[.int .i64 0, .int .u64 0, .int .u64 0, .int .u64 0, .int .u64 0]) := by kernel_rfl
theorem ty47 : tyd Try.prog 47 = some (true, 5) := by kernel_rfl
theorem zero50 : (Try.prog.info? 50).bind (·.zero) = some (.agg #[.int .i64 0, .slice none 0 0]) := by kernel_rfl
theorem ty50 : tyd Try.prog 50 = some (true, 2) := by kernel_rfl
theorem ty45 : tyd Try.prog 45 = some (true, 4) := by kernel_rfl
theorem ty43 : tyd Try.prog 43 = some (false, 1) := by kernel_rfl
theorem eq45 (x0 : Int) (x1 : Int) (x2 : Int) (x3 : Int) (y0 : Int) (y1 : Int) (y2 : Int) (y3 : Int) : EqIn Try.prog 2 45 (.agg #[.int .u64 x0, .int .u64 x1, .int .u64 x2, .int .u64 x3]) (.agg #[.int .u64 y0, .int .u64 y1, .int .u64 y2, .int .u64 y3]) ((S4.eq (S4.mk x0 x1 x2 x3) (S4.mk y0 y1 y2 y3))) :=
  eqi_arr4 (n := 0) (s := (S4.mk x0 x1 x2 x3)) (s' := (S4.mk y0 y1 y2 y3)) Try.underlying45 Try.underlying43 ty43
theorem guard45 : Try.prog.eqGuardType Try.prog.depth 45 = false := by kernel_rfl
theorem call52 : Callable Try.prog 52 := callable_of Try.func52 (by kernel_rfl) rfl
theorem zero4 : (Try.prog.info? 4).bind (·.zero) = some (.bool false) := by kernel_rfl
theorem sl79 : slT Try.prog 79 = some (4, 1, 1) := by kernel_rfl
theorem ty4 : tyd Try.prog 4 = some (false, 1) := by kernel_rfl
theorem call83 : Callable Try.prog 83 := callable_of Try.func83 (by kernel_rfl) rfl
theorem call82 : Callable Try.prog 82 := callable_of Try.func82 (by kernel_rfl) rfl
theorem call70 : Callable Try.prog 70 := callable_of Try.func70 (by kernel_rfl) rfl
theorem zero59 : (Try.prog.info? 59).bind (·.zero) = some (.slice none 0 0) := by kernel_rfl
theorem sl87 : slT Try.prog 87 = some (59, 1, 24) := by kernel_rfl
theorem ty59 : tyd Try.prog 59 = some (false, 1) := by kernel_rfl
theorem sl59 : slT Try.prog 59 = some (3, 1, 8) := by kernel_rfl
theorem mixed : Try.prog.follows .mixedOrders = true := by kernel_rfl
theorem zero87 : (Try.prog.info? 87).bind (·.zero) = some (.slice none 0 0) := by kernel_rfl
theorem ty87 : tyd Try.prog 87 = some (false, 1) := by kernel_rfl
theorem call71 : Callable Try.prog 71 := callable_of Try.func71 (by kernel_rfl) rfl
theorem zero3 : (Try.prog.info? 3).bind (·.zero) = some (.int .i64 0) := by kernel_rfl
theorem zero143 : (Try.prog.info? 143).bind (·.zero) = some (.nilFunc) := by kernel_rfl
theorem ty143 : tyd Try.prog 143 = some (false, 1) := by kernel_rfl
theorem call72 : Callable Try.prog 72 := callable_of Try.func72 (by kernel_rfl) rfl
theorem call53 : Callable Try.prog 53 := callable_of Try.func53 (by kernel_rfl) rfl
theorem call30 : Callable Try.prog 30 := callable_of Try.func30 (by kernel_rfl) rfl
theorem stood85 : Try.prog.stoodInHeld 85 = false := by kernel_rfl
theorem eq85 (x0 : Int) (x1 : Int) (x2 : Int) (x3 : Int) (y0 : Int) (y1 : Int) (y2 : Int) (y3 : Int) : EqIn Try.prog 2 85 (.agg #[.int .i64 x0, .int .i64 x1, .int .i64 x2, .int .i64 x3]) (.agg #[.int .i64 y0, .int .i64 y1, .int .i64 y2, .int .i64 y3]) (((x0 == y0) && ((x1 == y1) && ((x2 == y2) && ((x3 == y3) && true))))) :=
  eqi_struct (n := 1) Try.underlying85 stood85 (eqf_cons (u := .int .i64 x0) (v := .int .i64 y0) (by kernel_rfl) (fun _ => by kernel_rfl) (fun _ => by kernel_rfl) (eqi_int 0 Try.underlying3) (eqf_cons (u := .int .i64 x1) (v := .int .i64 y1) (by kernel_rfl) (fun _ => by kernel_rfl) (fun _ => by kernel_rfl) (eqi_int 0 Try.underlying3) (eqf_cons (u := .int .i64 x2) (v := .int .i64 y2) (by kernel_rfl) (fun _ => by kernel_rfl) (fun _ => by kernel_rfl) (eqi_int 0 Try.underlying3) (eqf_cons (u := .int .i64 x3) (v := .int .i64 y3) (by kernel_rfl) (fun _ => by kernel_rfl) (fun _ => by kernel_rfl) (eqi_int 0 Try.underlying3) (eqf_nil)))))
theorem kt85 : KT Try.prog 85 qForest_part kForest_part := kt_rec Try.underlying85 (fun em a w => by cases em <;> kernel_rfl) (fun a b w => (eq85 a.rule a.dot a.from_ a.to b.rule b.dot b.from_ b.to) w 9998) (fun a b h => by
    cases a; cases b; simp only [qForest_part, Bool.and_eq_true, beq_iff_eq] at h; obtain ⟨rfl, rfl, rfl, rfl, _⟩ := h; rfl) (fun a => bits_ints [a.rule, a.dot, a.from_, a.to] 9998)
theorem stood73 : Try.prog.stoodInHeld 73 = false := by kernel_rfl
theorem eq73 (x0 : Int) (x1 : Int) (x2 : Int) (y0 : Int) (y1 : Int) (y2 : Int) : EqIn Try.prog 2 73 (.agg #[.int .i64 x0, .int .i64 x1, .int .i64 x2]) (.agg #[.int .i64 y0, .int .i64 y1, .int .i64 y2]) (((x0 == y0) && ((x1 == y1) && ((x2 == y2) && true)))) :=
  eqi_struct (n := 1) Try.underlying73 stood73 (eqf_cons (u := .int .i64 x0) (v := .int .i64 y0) (by kernel_rfl) (fun _ => by kernel_rfl) (fun _ => by kernel_rfl) (eqi_int 0 Try.underlying3) (eqf_cons (u := .int .i64 x1) (v := .int .i64 y1) (by kernel_rfl) (fun _ => by kernel_rfl) (fun _ => by kernel_rfl) (eqi_int 0 Try.underlying3) (eqf_cons (u := .int .i64 x2) (v := .int .i64 y2) (by kernel_rfl) (fun _ => by kernel_rfl) (fun _ => by kernel_rfl) (eqi_int 0 Try.underlying3) (eqf_nil))))
theorem kt73 : KT Try.prog 73 qForest_span kForest_span := kt_rec Try.underlying73 (fun em a w => by cases em <;> kernel_rfl) (fun a b w => (eq73 a.nt a.from_ a.to b.nt b.from_ b.to) w 9998) (fun a b h => by
    cases a; cases b; simp only [qForest_span, Bool.and_eq_true, beq_iff_eq] at h; obtain ⟨rfl, rfl, rfl, _⟩ := h; rfl) (fun a => bits_ints [a.nt, a.from_, a.to] 9998)
theorem call50 : Callable Try.prog 50 := callable_of Try.func50 (by kernel_rfl) rfl
theorem zero111 : (Try.prog.info? 111).bind (·.zero) = some (.slice none 0 0) := by kernel_rfl
theorem sl112 : slT Try.prog 112 = some (111, 1, 24) := by kernel_rfl
theorem ty112 : tyd Try.prog 112 = some (false, 1) := by kernel_rfl
theorem ty113 : tyd Try.prog 113 = some (false, 1) := by kernel_rfl
theorem stood118 : Try.prog.stoodInHeld 118 = false := by kernel_rfl
theorem eq118 (x0 : Int) (x1 : Int) (x2 : Int) (y0 : Int) (y1 : Int) (y2 : Int) : EqIn Try.prog 2 118 (.agg #[.int .i64 x0, .int .i64 x1, .int .i64 x2]) (.agg #[.int .i64 y0, .int .i64 y1, .int .i64 y2]) (((x0 == y0) && ((x1 == y1) && ((x2 == y2) && true)))) :=
  eqi_struct (n := 1) Try.underlying118 stood118 (eqf_cons (u := .int .i64 x0) (v := .int .i64 y0) (by kernel_rfl) (fun _ => by kernel_rfl) (fun _ => by kernel_rfl) (eqi_int 0 Try.underlying3) (eqf_cons (u := .int .i64 x1) (v := .int .i64 y1) (by kernel_rfl) (fun _ => by kernel_rfl) (fun _ => by kernel_rfl) (eqi_int 0 Try.underlying3) (eqf_cons (u := .int .i64 x2) (v := .int .i64 y2) (by kernel_rfl) (fun _ => by kernel_rfl) (fun _ => by kernel_rfl) (eqi_int 0 Try.underlying3) (eqf_nil))))
theorem kt118 : KT Try.prog 118 qEItem kEItem := kt_rec Try.underlying118 (fun em a w => by cases em <;> kernel_rfl) (fun a b w => (eq118 a.Rule a.Dot a.From b.Rule b.Dot b.From) w 9998) (fun a b h => by
    cases a; cases b; simp only [qEItem, Bool.and_eq_true, beq_iff_eq] at h; obtain ⟨rfl, rfl, rfl, _⟩ := h; rfl) (fun a => bits_ints [a.Rule, a.Dot, a.From] 9998)
theorem sl113 : slT Try.prog 113 = some (138, 1, 8) := by kernel_rfl
theorem ty138 : tyd Try.prog 138 = some (false, 1) := by kernel_rfl
theorem ty118 : tyd Try.prog 118 = some (true, 3) := by kernel_rfl
theorem ty111 : tyd Try.prog 111 = some (false, 1) := by kernel_rfl
theorem sl111 : slT Try.prog 111 = some (118, 3, 24) := by kernel_rfl
theorem call68 : Callable Try.prog 68 := callable_of Try.func68 (by kernel_rfl) rfl
theorem ty114 : tyd Try.prog 114 = some (false, 1) := by kernel_rfl
theorem kt3 : KT Try.prog 3 intE intK := kt_int (by kernel_rfl) (fun n => by constructor)
theorem zero118 : (Try.prog.info? 118).bind (·.zero) = some (.agg #[.int .i64 0, .int .i64 0, .int .i64 0]) := by kernel_rfl
theorem call81 : Callable Try.prog 81 := callable_of Try.func81 (by kernel_rfl) rfl
theorem ty25 : tyd Try.prog 25 = some (false, 1) := by kernel_rfl
theorem ty5 : tyd Try.prog 5 = some (false, 1) := by kernel_rfl
theorem ar45 : arT Try.prog 45 = some (4, 1) := by kernel_rfl
theorem call62 : Callable Try.prog 62 := callable_of Try.func62 (by kernel_rfl) rfl
theorem call69 : Callable Try.prog 69 := callable_of Try.func69 (by kernel_rfl) rfl
theorem call51 : Callable Try.prog 51 := callable_of Try.func51 (by kernel_rfl) rfl
theorem call74 : Callable Try.prog 74 := callable_of Try.func74 (by kernel_rfl) rfl
theorem call84 : Callable Try.prog 84 := callable_of Try.func84 (by kernel_rfl) rfl
theorem call73 : Callable Try.prog 73 := callable_of Try.func73 (by kernel_rfl) rfl
theorem sl121 : slT Try.prog 121 = some (125, 2, 16) := by kernel_rfl
theorem call54 : Callable Try.prog 54 := callable_of Try.func54 (by kernel_rfl) rfl
theorem ty125 : tyd Try.prog 125 = some (true, 2) := by kernel_rfl
theorem zero125 : (Try.prog.info? 125).bind (·.zero) = some (.agg #[.int .i64 0, .int .i64 0]) := by kernel_rfl
theorem ty88 : tyd Try.prog 88 = some (false, 1) := by kernel_rfl
theorem ty73 : tyd Try.prog 73 = some (true, 3) := by kernel_rfl
theorem ty89 : tyd Try.prog 89 = some (false, 1) := by kernel_rfl
theorem ty85 : tyd Try.prog 85 = some (true, 4) := by kernel_rfl
theorem call38 : Callable Try.prog 38 := callable_of Try.func38 (by kernel_rfl) rfl
theorem call39 : Callable Try.prog 39 := callable_of Try.func39 (by kernel_rfl) rfl
theorem call55 : Callable Try.prog 55 := callable_of Try.func55 (by kernel_rfl) rfl
theorem call32 : Callable Try.prog 32 := callable_of Try.func32 (by kernel_rfl) rfl
theorem call63 : Callable Try.prog 63 := callable_of Try.func63 (by kernel_rfl) rfl
theorem call31 : Callable Try.prog 31 := callable_of Try.func31 (by kernel_rfl) rfl
theorem call13 : Callable Try.prog 13 := callable_of Try.func13 (by kernel_rfl) rfl
theorem call29 : Callable Try.prog 29 := callable_of Try.func29 (by kernel_rfl) rfl
theorem zero69 : (Try.prog.info? 69).bind (·.zero) = some (.pointer none) := by kernel_rfl
theorem ty69 : tyd Try.prog 69 = some (false, 1) := by kernel_rfl
theorem zero82 : (Try.prog.info? 82).bind (·.zero) = some (.nilFunc) := by kernel_rfl
theorem zero83 : (Try.prog.info? 83).bind (·.zero) = some (.nilFunc) := by kernel_rfl
theorem ty83 : tyd Try.prog 83 = some (false, 1) := by kernel_rfl
theorem ty82 : tyd Try.prog 82 = some (false, 1) := by kernel_rfl
theorem zero85 : (Try.prog.info? 85).bind (·.zero) = some (.agg #[.int .i64 0, .int .i64 0, .int .i64 0, .int .i64 0]) := by kernel_rfl
theorem sl31 : slT Try.prog 31 = some (37, 3, 40) := by kernel_rfl
theorem sl86 : slT Try.prog 86 = some (31, 1, 24) := by kernel_rfl
theorem call37 : Callable Try.prog 37 := callable_of Try.func37 (by kernel_rfl) rfl
theorem ty31 : tyd Try.prog 31 = some (false, 1) := by kernel_rfl
theorem call42 : Callable Try.prog 42 := callable_of Try.func42 (by kernel_rfl) rfl
theorem zero37 : (Try.prog.info? 37).bind (·.zero) = some (.agg #[.int .i64 0, .int .u8 0, .slice none 0 0]) := by kernel_rfl
theorem ty37 : tyd Try.prog 37 = some (true, 3) := by kernel_rfl
theorem call41 : Callable Try.prog 41 := callable_of Try.func41 (by kernel_rfl) rfl
theorem call40 : Callable Try.prog 40 := callable_of Try.func40 (by kernel_rfl) rfl
theorem call15 : Callable Try.prog 15 := callable_of Try.func15 (by kernel_rfl) rfl
theorem zero53 : (Try.prog.info? 53).bind (·.zero) = some (.agg #[.int .i64 0, .slice none 0 0]) := by kernel_rfl
theorem ty53 : tyd Try.prog 53 = some (true, 2) := by kernel_rfl
theorem zero73 : (Try.prog.info? 73).bind (·.zero) = some (.agg #[.int .i64 0, .int .i64 0, .int .i64 0]) := by kernel_rfl
theorem ty51 : tyd Try.prog 51 = some (false, 1) := by kernel_rfl
theorem sl51 : slT Try.prog 51 = some (62, 7, 88) := by kernel_rfl
theorem call45 : Callable Try.prog 45 := callable_of Try.func45 (by kernel_rfl) rfl
theorem sl60 : slT Try.prog 60 = some (108, 4, 32) := by kernel_rfl
theorem call65 : Callable Try.prog 65 := callable_of Try.func65 (by kernel_rfl) rfl
theorem zero108 : (Try.prog.info? 108).bind (·.zero) = some (.agg #[.int .i64 0, .int .i64 0, .int .i64 0, .int .i64 0]) := by kernel_rfl
theorem ty108 : tyd Try.prog 108 = some (true, 4) := by kernel_rfl
theorem call46 : Callable Try.prog 46 := callable_of Try.func46 (by kernel_rfl) rfl
theorem ty62 : tyd Try.prog 62 = some (true, 7) := by kernel_rfl
theorem ty60 : tyd Try.prog 60 = some (false, 1) := by kernel_rfl
theorem call22 : Callable Try.prog 22 := callable_of Try.func22 (by kernel_rfl) rfl
theorem call12 : Callable Try.prog 12 := callable_of Try.func12 (by kernel_rfl) rfl
theorem call75 : Callable Try.prog 75 := callable_of Try.func75 (by kernel_rfl) rfl
theorem call56 : Callable Try.prog 56 := callable_of Try.func56 (by kernel_rfl) rfl
theorem call77 : Callable Try.prog 77 := callable_of Try.func77 (by kernel_rfl) rfl
theorem call86 : Callable Try.prog 86 := callable_of Try.func86 (by kernel_rfl) rfl
theorem call88 : Callable Try.prog 88 := callable_of Try.func88 (by kernel_rfl) rfl
theorem call87 : Callable Try.prog 87 := callable_of Try.func87 (by kernel_rfl) rfl
theorem call85 : Callable Try.prog 85 := callable_of Try.func85 (by kernel_rfl) rfl
theorem call76 : Callable Try.prog 76 := callable_of Try.func76 (by kernel_rfl) rfl
theorem call78 : Callable Try.prog 78 := callable_of Try.func78 (by kernel_rfl) rfl
theorem call57 : Callable Try.prog 57 := callable_of Try.func57 (by kernel_rfl) rfl
theorem call33 : Callable Try.prog 33 := callable_of Try.func33 (by kernel_rfl) rfl
theorem ty79 : tyd Try.prog 79 = some (false, 1) := by kernel_rfl
theorem call59 : Callable Try.prog 59 := callable_of Try.func59 (by kernel_rfl) rfl
theorem call47 : Callable Try.prog 47 := callable_of Try.func47 (by kernel_rfl) rfl
theorem call44 : Callable Try.prog 44 := callable_of Try.func44 (by kernel_rfl) rfl
theorem call67 : Callable Try.prog 67 := callable_of Try.func67 (by kernel_rfl) rfl
theorem call58 : Callable Try.prog 58 := callable_of Try.func58 (by kernel_rfl) rfl
theorem call34 : Callable Try.prog 34 := callable_of Try.func34 (by kernel_rfl) rfl
theorem ty74 : tyd Try.prog 74 = some (false, 1) := by kernel_rfl
theorem zero62 : (Try.prog.info? 62).bind (·.zero) = some (.agg #[.int .i64 0, .int .i64 0, .int .i64 0, .int .i64 0, .int .i64 0, .slice none 0 0, .slice none 0 0]) := by kernel_rfl
theorem call48 : Callable Try.prog 48 := callable_of Try.func48 (by kernel_rfl) rfl
theorem call66 : Callable Try.prog 66 := callable_of Try.func66 (by kernel_rfl) rfl
theorem call49 : Callable Try.prog 49 := callable_of Try.func49 (by kernel_rfl) rfl
theorem call23 : Callable Try.prog 23 := callable_of Try.func23 (by kernel_rfl) rfl
theorem stood108 : Try.prog.stoodInHeld 108 = false := by kernel_rfl
theorem eq108 (x0 : Int) (x1 : Int) (x2 : Int) (x3 : Int) (y0 : Int) (y1 : Int) (y2 : Int) (y3 : Int) : EqIn Try.prog 2 108 (.agg #[.int .i64 x0, .int .i64 x1, .int .i64 x2, .int .i64 x3]) (.agg #[.int .i64 y0, .int .i64 y1, .int .i64 y2, .int .i64 y3]) (((x0 == y0) && ((x1 == y1) && ((x2 == y2) && ((x3 == y3) && true))))) :=
  eqi_struct (n := 1) Try.underlying108 stood108 (eqf_cons (u := .int .i64 x0) (v := .int .i64 y0) (by kernel_rfl) (fun _ => by kernel_rfl) (fun _ => by kernel_rfl) (eqi_int 0 Try.underlying3) (eqf_cons (u := .int .i64 x1) (v := .int .i64 y1) (by kernel_rfl) (fun _ => by kernel_rfl) (fun _ => by kernel_rfl) (eqi_int 0 Try.underlying3) (eqf_cons (u := .int .i64 x2) (v := .int .i64 y2) (by kernel_rfl) (fun _ => by kernel_rfl) (fun _ => by kernel_rfl) (eqi_int 0 Try.underlying3) (eqf_cons (u := .int .i64 x3) (v := .int .i64 y3) (by kernel_rfl) (fun _ => by kernel_rfl) (fun _ => by kernel_rfl) (eqi_int 0 Try.underlying3) (eqf_nil)))))
theorem guard108 : Try.prog.eqGuardType Try.prog.depth 108 = false := by kernel_rfl
theorem call24 : Callable Try.prog 24 := callable_of Try.func24 (by kernel_rfl) rfl
theorem call25 : Callable Try.prog 25 := callable_of Try.func25 (by kernel_rfl) rfl
end Go.Vc
