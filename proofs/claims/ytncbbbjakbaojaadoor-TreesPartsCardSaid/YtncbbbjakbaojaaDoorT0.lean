import Derived.Test.YtncbbbjakbaojaaDoorFF
import Derived.Test.YtncbbbjakbaojaaDoorProg
set_option linter.unusedVariables false
set_option linter.unusedSimpArgs false
set_option maxRecDepth 8000
set_option maxHeartbeats 2000000
namespace Go.Vc
open Go Go.Proofs
theorem ty27 : tyd Tryd.prog 27 = some (true, 3) := by kernel_rfl
theorem ty25 : tyd Tryd.prog 25 = some (false, 1) := by kernel_rfl
theorem sl25 : slT Tryd.prog 25 = some (27, 3, 40) := by kernel_rfl
theorem call37 : Callable Tryd.prog 37 := callable_of Tryd.func37 (by kernel_rfl) rfl
theorem ty24 : tyd Tryd.prog 24 = some (true, 3) := by kernel_rfl
theorem ty3 : tyd Tryd.prog 3 = some (false, 1) := by kernel_rfl
theorem ty22 : tyd Tryd.prog 22 = some (false, 1) := by kernel_rfl
theorem sl22 : slT Tryd.prog 22 = some (52, 2, 32) := by kernel_rfl
theorem sl50 : slT Tryd.prog 50 = some (90, 5, 40) := by kernel_rfl
theorem ty50 : tyd Tryd.prog 50 = some (false, 1) := by kernel_rfl
theorem call14 : Callable Tryd.prog 14 := callable_of Tryd.func14 (by kernel_rfl) rfl
theorem call13 : Callable Tryd.prog 13 := callable_of Tryd.func13 (by kernel_rfl) rfl
theorem zero27 : (Tryd.prog.info? 27).bind (·.zero) = some (.agg #[.int .i64 0, .int .u8 0, .slice none 0 0]) := by kernel_rfl
theorem ty5 : tyd Tryd.prog 5 = some (false, 1) := by kernel_rfl
theorem call60 : Callable Tryd.prog 60 := callable_of Tryd.func60 (by kernel_rfl) rfl
theorem call72 : Callable Tryd.prog 72 := callable_of Tryd.func72 (by kernel_rfl) rfl
theorem call61 : Callable Tryd.prog 61 := callable_of Tryd.func61 (by kernel_rfl) rfl
theorem call44 : Callable Tryd.prog 44 := callable_of Tryd.func44 (by kernel_rfl) rfl
theorem zero69 : (Tryd.prog.info? 69).bind (·.zero) = some (.agg #[.pointer none, .slice none 0 0]) := by kernel_rfl
theorem call73 : Callable Tryd.prog 73 := callable_of Tryd.func73 (by kernel_rfl) rfl
theorem ty58 : tyd Tryd.prog 58 = some (false, 1) := by kernel_rfl
theorem sl58 : slT Tryd.prog 58 = some (5, 1, 1) := by kernel_rfl
theorem call62 : Callable Tryd.prog 62 := callable_of Tryd.func62 (by kernel_rfl) rfl
theorem byt5 : byT Tryd.prog 5 = true := by kernel_rfl
theorem call63 : Callable Tryd.prog 63 := callable_of Tryd.func63 (by kernel_rfl) rfl
theorem call64 : Callable Tryd.prog 64 := callable_of Tryd.func64 (by kernel_rfl) rfl
theorem call46 : Callable Tryd.prog 46 := callable_of Tryd.func46 (by kernel_rfl) rfl
theorem call45 : Callable Tryd.prog 45 := callable_of Tryd.func45 (by kernel_rfl) rfl
theorem call47 : Callable Tryd.prog 47 := callable_of Tryd.func47 (by kernel_rfl) rfl
theorem call20 : Callable Tryd.prog 20 := callable_of Tryd.func20 (by kernel_rfl) rfl
theorem call38 : Callable Tryd.prog 38 := callable_of Tryd.func38 (by kernel_rfl) rfl
theorem zero39 : (Tryd.prog.info? 39).bind (·.zero) = some (.agg #[.int .i64 0, .int .i64 0]) := by kernel_rfl
theorem ty39 : tyd Tryd.prog 39 = some (true, 2) := by kernel_rfl
theorem ty9 : tyd Tryd.prog 9 = some (false, 1) := by kernel_rfl
theorem mixed : Tryd.prog.follows .mixedOrders = true := by kernel_rfl
theorem call52 : Callable Tryd.prog 52 := callable_of Tryd.func52 (by kernel_rfl) rfl
theorem call66 : Callable Tryd.prog 66 := callable_of Tryd.func66 (by kernel_rfl) rfl
theorem call75 : Callable Tryd.prog 75 := callable_of Tryd.func75 (by kernel_rfl) rfl
theorem call67 : Callable Tryd.prog 67 := callable_of Tryd.func67 (by kernel_rfl) rfl
theorem call68 : Callable Tryd.prog 68 := callable_of Tryd.func68 (by kernel_rfl) rfl
theorem call69 : Callable Tryd.prog 69 := callable_of Tryd.func69 (by kernel_rfl) rfl
theorem call51 : Callable Tryd.prog 51 := callable_of Tryd.func51 (by kernel_rfl) rfl
theorem call50 : Callable Tryd.prog 50 := callable_of Tryd.func50 (by kernel_rfl) rfl
theorem call22 : Callable Tryd.prog 22 := callable_of Tryd.func22 (by kernel_rfl) rfl
theorem call30 : Callable Tryd.prog 30 := callable_of Tryd.func30 (by kernel_rfl) rfl
theorem sl44 : slT Tryd.prog 44 = some (3, 1, 8) := by kernel_rfl
theorem call71 : Callable Tryd.prog 71 := callable_of Tryd.func71 (by kernel_rfl) rfl
theorem call54 : Callable Tryd.prog 54 := callable_of Tryd.func54 (by kernel_rfl) rfl
theorem call24 : Callable Tryd.prog 24 := callable_of Tryd.func24 (by kernel_rfl) rfl
theorem stood39 : Tryd.prog.stoodInHeld 39 = false := by kernel_rfl
theorem eq39 (x0 : Int) (x1 : Int) (y0 : Int) (y1 : Int) : EqIn Tryd.prog 2 39 (.agg #[.int .i64 x0, .int .i64 x1]) (.agg #[.int .i64 y0, .int .i64 y1]) (((x0 == y0) && ((x1 == y1) && true))) :=
  eqi_struct (n := 1) Tryd.underlying39 stood39 (eqf_cons (u := .int .i64 x0) (v := .int .i64 y0) (by kernel_rfl) (fun _ => by kernel_rfl) (fun _ => by kernel_rfl) (eqi_int 0 Tryd.underlying3) (eqf_cons (u := .int .i64 x1) (v := .int .i64 y1) (by kernel_rfl) (fun _ => by kernel_rfl) (fun _ => by kernel_rfl) (eqi_int 0 Tryd.underlying32) (eqf_nil)))
theorem guard39 : Tryd.prog.eqGuardType Tryd.prog.depth 39 = false := by kernel_rfl
theorem call33 : Callable Tryd.prog 33 := callable_of Tryd.func33 (by kernel_rfl) rfl
theorem zero52 : (Tryd.prog.info? 52).bind (·.zero) = some (.agg #[.int .i64 0, .slice none 0 0]) := by kernel_rfl
theorem ty52 : tyd Tryd.prog 52 = some (true, 2) := by kernel_rfl
theorem ty90 : tyd Tryd.prog 90 = some (true, 5) := by kernel_rfl
theorem zero90 : (Tryd.prog.info? 90).bind (·.zero) = some (.agg #[.int .i64 0, .int .u64 0, .int .u64 0, .int .u64 0, .int .u64 0]) := by kernel_rfl
theorem ty88 : tyd Tryd.prog 88 = some (true, 4) := by kernel_rfl
theorem ty86 : tyd Tryd.prog 86 = some (false, 1) := by kernel_rfl
theorem eq88 (x0 : Int) (x1 : Int) (x2 : Int) (x3 : Int) (y0 : Int) (y1 : Int) (y2 : Int) (y3 : Int) : EqIn Tryd.prog 2 88 (.agg #[.int .u64 x0, .int .u64 x1, .int .u64 x2, .int .u64 x3]) (.agg #[.int .u64 y0, .int .u64 y1, .int .u64 y2, .int .u64 y3]) ((S4.eq (S4.mk x0 x1 x2 x3) (S4.mk y0 y1 y2 y3))) :=
  eqi_arr4 (n := 0) (s := (S4.mk x0 x1 x2 x3)) (s' := (S4.mk y0 y1 y2 y3)) Tryd.underlying88 Tryd.underlying86 ty86
theorem guard88 : Tryd.prog.eqGuardType Tryd.prog.depth 88 = false := by kernel_rfl
theorem call39 : Callable Tryd.prog 39 := callable_of Tryd.func39 (by kernel_rfl) rfl
theorem call40 : Callable Tryd.prog 40 := callable_of Tryd.func40 (by kernel_rfl) rfl
theorem ar88 : arT Tryd.prog 88 = some (4, 1) := by kernel_rfl
theorem call58 : Callable Tryd.prog 58 := callable_of Tryd.func58 (by kernel_rfl) rfl
theorem call17 : Callable Tryd.prog 17 := callable_of Tryd.func17 (by kernel_rfl) rfl
theorem call15 : Callable Tryd.prog 15 := callable_of Tryd.func15 (by kernel_rfl) rfl
theorem call16 : Callable Tryd.prog 16 := callable_of Tryd.func16 (by kernel_rfl) rfl
theorem call41 : Callable Tryd.prog 41 := callable_of Tryd.func41 (by kernel_rfl) rfl
theorem call59 : Callable Tryd.prog 59 := callable_of Tryd.func59 (by kernel_rfl) rfl
theorem call42 : Callable Tryd.prog 42 := callable_of Tryd.func42 (by kernel_rfl) rfl
theorem call43 : Callable Tryd.prog 43 := callable_of Tryd.func43 (by kernel_rfl) rfl
theorem call19 : Callable Tryd.prog 19 := callable_of Tryd.func19 (by kernel_rfl) rfl
theorem call18 : Callable Tryd.prog 18 := callable_of Tryd.func18 (by kernel_rfl) rfl
theorem call31 : Callable Tryd.prog 31 := callable_of Tryd.func31 (by kernel_rfl) rfl
theorem call48 : Callable Tryd.prog 48 := callable_of Tryd.func48 (by kernel_rfl) rfl
theorem call65 : Callable Tryd.prog 65 := callable_of Tryd.func65 (by kernel_rfl) rfl
theorem call49 : Callable Tryd.prog 49 := callable_of Tryd.func49 (by kernel_rfl) rfl
theorem call21 : Callable Tryd.prog 21 := callable_of Tryd.func21 (by kernel_rfl) rfl
theorem call70 : Callable Tryd.prog 70 := callable_of Tryd.func70 (by kernel_rfl) rfl
theorem call53 : Callable Tryd.prog 53 := callable_of Tryd.func53 (by kernel_rfl) rfl
theorem ty32 : tyd Tryd.prog 32 = some (false, 1) := by kernel_rfl
theorem call23 : Callable Tryd.prog 23 := callable_of Tryd.func23 (by kernel_rfl) rfl
theorem call26 : Callable Tryd.prog 26 := callable_of Tryd.func26 (by kernel_rfl) rfl
theorem call55 : Callable Tryd.prog 55 := callable_of Tryd.func55 (by kernel_rfl) rfl
theorem call29 : Callable Tryd.prog 29 := callable_of Tryd.func29 (by kernel_rfl) rfl
theorem sl56 : slT Tryd.prog 56 = some (62, 2, 16) := by kernel_rfl
theorem call56 : Callable Tryd.prog 56 := callable_of Tryd.func56 (by kernel_rfl) rfl
theorem call32 : Callable Tryd.prog 32 := callable_of Tryd.func32 (by kernel_rfl) rfl
theorem call34 : Callable Tryd.prog 34 := callable_of Tryd.func34 (by kernel_rfl) rfl
theorem call57 : Callable Tryd.prog 57 := callable_of Tryd.func57 (by kernel_rfl) rfl
theorem ty62 : tyd Tryd.prog 62 = some (true, 2) := by kernel_rfl
theorem stood62 : Tryd.prog.stoodInHeld 62 = false := by kernel_rfl
theorem eq62 (x0 : Int) (x1 : Int) (y0 : Int) (y1 : Int) : EqIn Tryd.prog 2 62 (.agg #[.int .i64 x0, .int .i64 x1]) (.agg #[.int .i64 y0, .int .i64 y1]) (((x0 == y0) && ((x1 == y1) && true))) :=
  eqi_struct (n := 1) Tryd.underlying62 stood62 (eqf_cons (u := .int .i64 x0) (v := .int .i64 y0) (by kernel_rfl) (fun _ => by kernel_rfl) (fun _ => by kernel_rfl) (eqi_int 0 Tryd.underlying3) (eqf_cons (u := .int .i64 x1) (v := .int .i64 y1) (by kernel_rfl) (fun _ => by kernel_rfl) (fun _ => by kernel_rfl) (eqi_int 0 Tryd.underlying3) (eqf_nil)))
theorem guard62 : Tryd.prog.eqGuardType Tryd.prog.depth 62 = false := by kernel_rfl
theorem call35 : Callable Tryd.prog 35 := callable_of Tryd.func35 (by kernel_rfl) rfl
theorem call36 : Callable Tryd.prog 36 := callable_of Tryd.func36 (by kernel_rfl) rfl
theorem call25 : Callable Tryd.prog 25 := callable_of Tryd.func25 (by kernel_rfl) rfl
theorem call27 : Callable Tryd.prog 27 := callable_of Tryd.func27 (by kernel_rfl) rfl
theorem call28 : Callable Tryd.prog 28 := callable_of Tryd.func28 (by kernel_rfl) rfl

end Go.Vc
