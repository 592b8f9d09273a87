import Derived.Test.YthkfffheppfieaaFF
import Derived.Test.YthkfffheppfieaaProg
set_option linter.unusedVariables false
set_option linter.unusedSimpArgs false
set_option maxRecDepth 8000
set_option maxHeartbeats 2000000
namespace Go.Vc
open Go Go.Proofs
theorem zero26 : (Try.prog.info? 26).bind (·.zero) = some (.agg #[.int .i64 0, .int .i64 0]) := by kernel_rfl
theorem ty26 : tyd Try.prog 26 = some (true, 2) := by kernel_rfl
theorem ty3 : tyd Try.prog 3 = some (false, 1) := by kernel_rfl
theorem ty9 : tyd Try.prog 9 = some (false, 1) := by kernel_rfl
theorem mixed : Try.prog.follows .mixedOrders = true := by kernel_rfl
theorem call26 : Callable Try.prog 26 := callable_of Try.func26 (by kernel_rfl) rfl
theorem call37 : Callable Try.prog 37 := callable_of Try.func37 (by kernel_rfl) rfl
theorem call33 : Callable Try.prog 33 := callable_of Try.func33 (by kernel_rfl) rfl
theorem call45 : Callable Try.prog 45 := callable_of Try.func45 (by kernel_rfl) rfl
theorem call34 : Callable Try.prog 34 := callable_of Try.func34 (by kernel_rfl) rfl
theorem ty23 : tyd Try.prog 23 = some (false, 1) := by kernel_rfl
theorem ty35 : tyd Try.prog 35 = some (true, 11) := by kernel_rfl
theorem sl23 : slT Try.prog 23 = some (35, 11, 112) := by kernel_rfl
theorem call28 : Callable Try.prog 28 := callable_of Try.func28 (by kernel_rfl) rfl
theorem call46 : Callable Try.prog 46 := callable_of Try.func46 (by kernel_rfl) rfl
theorem call66 : Callable Try.prog 66 := callable_of Try.func66 (by kernel_rfl) rfl
theorem call57 : Callable Try.prog 57 := callable_of Try.func57 (by kernel_rfl) rfl
theorem sl30 : slT Try.prog 30 = some (5, 1, 1) := by kernel_rfl
theorem call42 : Callable Try.prog 42 := callable_of Try.func42 (by kernel_rfl) rfl
theorem ty24 : tyd Try.prog 24 = some (false, 1) := by kernel_rfl
theorem zero33 : (Try.prog.info? 33).bind (·.zero) = some (.agg #[.int .u64 0, .int .u64 0, .int .u64 0, .int .u64 0]) := by kernel_rfl
theorem ty33 : tyd Try.prog 33 = some (true, 4) := by kernel_rfl
theorem call80 : Callable Try.prog 80 := callable_of Try.func80 (by kernel_rfl) rfl
theorem call79 : Callable Try.prog 79 := callable_of Try.func79 (by kernel_rfl) rfl
theorem call76 : Callable Try.prog 76 := callable_of Try.func76 (by kernel_rfl) rfl
theorem ar33 : arT Try.prog 33 = some (4, 1) := by kernel_rfl
theorem ty31 : tyd Try.prog 31 = some (false, 1) := by kernel_rfl
theorem call77 : Callable Try.prog 77 := callable_of Try.func77 (by kernel_rfl) rfl
theorem call67 : Callable Try.prog 67 := callable_of Try.func67 (by kernel_rfl) rfl
theorem call68 : Callable Try.prog 68 := callable_of Try.func68 (by kernel_rfl) rfl
theorem call69 : Callable Try.prog 69 := callable_of Try.func69 (by kernel_rfl) rfl
theorem call59 : Callable Try.prog 59 := callable_of Try.func59 (by kernel_rfl) rfl
theorem call47 : Callable Try.prog 47 := callable_of Try.func47 (by kernel_rfl) rfl
theorem call48 : Callable Try.prog 48 := callable_of Try.func48 (by kernel_rfl) rfl
theorem call27 : Callable Try.prog 27 := callable_of Try.func27 (by kernel_rfl) rfl
theorem call29 : Callable Try.prog 29 := callable_of Try.func29 (by kernel_rfl) rfl
theorem zero35 : (Try.prog.info? 35).bind (·.zero) = some (.agg #[.int .i64 0, .string (bs ([] : List UInt8)), .slice none 0 0, .int .u64 0, .int .u64 0, .int .u64 0, .int .u64 0, .int .i64 0, .int .i64 0, .int .i64 0, .int .i64 0]) := by kernel_rfl
theorem call35 : Callable Try.prog 35 := callable_of Try.func35 (by kernel_rfl) rfl
theorem call36 : Callable Try.prog 36 := callable_of Try.func36 (by kernel_rfl) rfl
theorem call49 : Callable Try.prog 49 := callable_of Try.func49 (by kernel_rfl) rfl
theorem call44 : Callable Try.prog 44 := callable_of Try.func44 (by kernel_rfl) rfl
theorem call58 : Callable Try.prog 58 := callable_of Try.func58 (by kernel_rfl) rfl
theorem call43 : Callable Try.prog 43 := callable_of Try.func43 (by kernel_rfl) rfl
theorem ty30 : tyd Try.prog 30 = some (false, 1) := by kernel_rfl
theorem call50 : Callable Try.prog 50 := callable_of Try.func50 (by kernel_rfl) rfl
theorem call71 : Callable Try.prog 71 := callable_of Try.func71 (by kernel_rfl) rfl
theorem call61 : Callable Try.prog 61 := callable_of Try.func61 (by kernel_rfl) rfl
theorem call72 : Callable Try.prog 72 := callable_of Try.func72 (by kernel_rfl) rfl
theorem call62 : Callable Try.prog 62 := callable_of Try.func62 (by kernel_rfl) rfl
theorem call63 : Callable Try.prog 63 := callable_of Try.func63 (by kernel_rfl) rfl
theorem call51 : Callable Try.prog 51 := callable_of Try.func51 (by kernel_rfl) rfl
theorem call30 : Callable Try.prog 30 := callable_of Try.func30 (by kernel_rfl) rfl
theorem eq33 (x0 : Int) (x1 : Int) (x2 : Int) (x3 : Int) (y0 : Int) (y1 : Int) (y2 : Int) (y3 : Int) : EqIn Try.prog 2 33 (.agg #[.int .u64 x0, .int .u64 x1, .int .u64 x2, .int .u64 x3]) (.agg #[.int .u64 y0, .int .u64 y1, .int .u64 y2, .int .u64 y3]) ((S4.eq (S4.mk x0 x1 x2 x3) (S4.mk y0 y1 y2 y3))) :=
  eqi_arr4 (n := 0) (s := (S4.mk x0 x1 x2 x3)) (s' := (S4.mk y0 y1 y2 y3)) Try.underlying33 Try.underlying31 ty31
theorem guard33 : Try.prog.eqGuardType Try.prog.depth 33 = false := by kernel_rfl
theorem ty5 : tyd Try.prog 5 = some (false, 1) := by kernel_rfl
theorem zero62 : (Try.prog.info? 62).bind (·.zero) = some (.agg #[.pointer none, .slice none 0 0]) := by kernel_rfl
theorem call56 : Callable Try.prog 56 := callable_of Try.func56 (by kernel_rfl) rfl
theorem call39 : Callable Try.prog 39 := callable_of Try.func39 (by kernel_rfl) rfl
theorem byt5 : byT Try.prog 5 = true := by kernel_rfl
theorem call40 : Callable Try.prog 40 := callable_of Try.func40 (by kernel_rfl) rfl
theorem call41 : Callable Try.prog 41 := callable_of Try.func41 (by kernel_rfl) rfl
theorem call38 : Callable Try.prog 38 := callable_of Try.func38 (by kernel_rfl) rfl
theorem call32 : Callable Try.prog 32 := callable_of Try.func32 (by kernel_rfl) rfl
theorem call31 : Callable Try.prog 31 := callable_of Try.func31 (by kernel_rfl) rfl
theorem call12 : Callable Try.prog 12 := callable_of Try.func12 (by kernel_rfl) rfl
theorem call22 : Callable Try.prog 22 := callable_of Try.func22 (by kernel_rfl) rfl
theorem call15 : Callable Try.prog 15 := callable_of Try.func15 (by kernel_rfl) rfl
theorem stood26 : Try.prog.stoodInHeld 26 = false := by kernel_rfl
theorem eq26 (x0 : Int) (x1 : Int) (y0 : Int) (y1 : Int) : EqIn Try.prog 2 26 (.agg #[.int .i64 x0, .int .i64 x1]) (.agg #[.int .i64 y0, .int .i64 y1]) (((x0 == y0) && ((x1 == y1) && true))) :=
  eqi_struct (n := 1) Try.underlying26 stood26 (eqf_cons (u := .int .i64 x0) (v := .int .i64 y0) (by kernel_rfl) (fun _ => by kernel_rfl) (fun _ => by kernel_rfl) (eqi_int 0 Try.underlying3) (eqf_cons (u := .int .i64 x1) (v := .int .i64 y1) (by kernel_rfl) (fun _ => by kernel_rfl) (fun _ => by kernel_rfl) (eqi_int 0 Try.underlying24) (eqf_nil)))
theorem guard26 : Try.prog.eqGuardType Try.prog.depth 26 = false := by kernel_rfl
theorem call11 : Callable Try.prog 11 := callable_of Try.func11 (by kernel_rfl) rfl
theorem call16 : Callable Try.prog 16 := callable_of Try.func16 (by kernel_rfl) rfl
theorem call14 : Callable Try.prog 14 := callable_of Try.func14 (by kernel_rfl) rfl
theorem call20 : Callable Try.prog 20 := callable_of Try.func20 (by kernel_rfl) rfl
theorem call19 : Callable Try.prog 19 := callable_of Try.func19 (by kernel_rfl) rfl
theorem call18 : Callable Try.prog 18 := callable_of Try.func18 (by kernel_rfl) rfl
theorem call17 : Callable Try.prog 17 := callable_of Try.func17 (by kernel_rfl) rfl
theorem call21 : Callable Try.prog 21 := callable_of Try.func21 (by kernel_rfl) rfl
theorem call23 : Callable Try.prog 23 := callable_of Try.func23 (by kernel_rfl) rfl
theorem call25 : Callable Try.prog 25 := callable_of Try.func25 (by kernel_rfl) rfl
theorem call24 : Callable Try.prog 24 := callable_of Try.func24 (by kernel_rfl) rfl

end Go.Vc
