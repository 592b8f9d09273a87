import Derived.Test.YtdbnoblklhgdoaaGreatDoorFF
import Derived.Test.YtdbnoblklhgdoaaGreatDoorProg
set_option linter.unusedVariables false
set_option linter.unusedSimpArgs false
set_option maxRecDepth 8000
set_option maxHeartbeats 2000000
namespace Go.Vc
open Go Go.Proofs
theorem call122 : Callable Tryz.prog 122 := callable_of Tryz.func122 (by kernel_rfl) rfl
theorem call98 : Callable Tryz.prog 98 := callable_of Tryz.func98 (by kernel_rfl) rfl
theorem call123 : Callable Tryz.prog 123 := callable_of Tryz.func123 (by kernel_rfl) rfl
theorem ty44 : tyd Tryz.prog 44 = some (true, 4) := by kernel_rfl
theorem ar44 : arT Tryz.prog 44 = some (4, 1) := by kernel_rfl
theorem ty42 : tyd Tryz.prog 42 = some (false, 1) := by kernel_rfl
theorem zero28 : (Tryz.prog.info? 28).bind (·.zero) = some (.agg #[.string (bs ([] : List UInt8)), .string (bs ([] : List UInt8)), .slice none 0 0, .slice none 0 0, .slice none 0 0, .slice none 0 0, .slice none 0 0]) := by kernel_rfl
theorem zero37 : (Tryz.prog.info? 37).bind (·.zero) = some (.agg #[.int .i64 0, .int .i64 0]) := by kernel_rfl
theorem ty37 : tyd Tryz.prog 37 = some (true, 2) := by kernel_rfl
theorem ty3 : tyd Tryz.prog 3 = some (false, 1) := by kernel_rfl
theorem ty9 : tyd Tryz.prog 9 = some (false, 1) := by kernel_rfl
theorem mixed : Tryz.prog.follows .mixedOrders = true := by kernel_rfl
theorem call47 : Callable Tryz.prog 47 := callable_of Tryz.func47 (by kernel_rfl) rfl
theorem call96 : Callable Tryz.prog 96 := callable_of Tryz.func96 (by kernel_rfl) rfl
theorem call43 : Callable Tryz.prog 43 := callable_of Tryz.func43 (by kernel_rfl) rfl
theorem call97 : Callable Tryz.prog 97 := callable_of Tryz.func97 (by kernel_rfl) rfl
theorem call44 : Callable Tryz.prog 44 := callable_of Tryz.func44 (by kernel_rfl) rfl
theorem ty50 : tyd Tryz.prog 50 = some (false, 1) := by kernel_rfl
theorem ty106 : tyd Tryz.prog 106 = some (true, 11) := by kernel_rfl
theorem sl50 : slT Tryz.prog 50 = some (106, 11, 112) := by kernel_rfl
theorem call49 : Callable Tryz.prog 49 := callable_of Tryz.func49 (by kernel_rfl) rfl
theorem call99 : Callable Tryz.prog 99 := callable_of Tryz.func99 (by kernel_rfl) rfl
theorem call136 : Callable Tryz.prog 136 := callable_of Tryz.func136 (by kernel_rfl) rfl
theorem call124 : Callable Tryz.prog 124 := callable_of Tryz.func124 (by kernel_rfl) rfl
theorem sl67 : slT Tryz.prog 67 = some (5, 1, 1) := by kernel_rfl
theorem call100 : Callable Tryz.prog 100 := callable_of Tryz.func100 (by kernel_rfl) rfl
theorem ty32 : tyd Tryz.prog 32 = some (false, 1) := by kernel_rfl
theorem zero44 : (Tryz.prog.info? 44).bind (·.zero) = some (.agg #[.int .u64 0, .int .u64 0, .int .u64 0, .int .u64 0]) := by kernel_rfl
theorem call157 : Callable Tryz.prog 157 := callable_of Tryz.func157 (by kernel_rfl) rfl
theorem call154 : Callable Tryz.prog 154 := callable_of Tryz.func154 (by kernel_rfl) rfl
theorem call147 : Callable Tryz.prog 147 := callable_of Tryz.func147 (by kernel_rfl) rfl
theorem call148 : Callable Tryz.prog 148 := callable_of Tryz.func148 (by kernel_rfl) rfl
theorem call137 : Callable Tryz.prog 137 := callable_of Tryz.func137 (by kernel_rfl) rfl
theorem call138 : Callable Tryz.prog 138 := callable_of Tryz.func138 (by kernel_rfl) rfl
theorem call139 : Callable Tryz.prog 139 := callable_of Tryz.func139 (by kernel_rfl) rfl
theorem call125 : Callable Tryz.prog 125 := callable_of Tryz.func125 (by kernel_rfl) rfl
theorem call101 : Callable Tryz.prog 101 := callable_of Tryz.func101 (by kernel_rfl) rfl
theorem call102 : Callable Tryz.prog 102 := callable_of Tryz.func102 (by kernel_rfl) rfl
theorem call48 : Callable Tryz.prog 48 := callable_of Tryz.func48 (by kernel_rfl) rfl
theorem call20 : Callable Tryz.prog 20 := callable_of Tryz.func20 (by kernel_rfl) rfl
theorem ty28 : tyd Tryz.prog 28 = some (true, 7) := by kernel_rfl
theorem ty85 : tyd Tryz.prog 85 = some (false, 1) := by kernel_rfl
theorem zero106 : (Tryz.prog.info? 106).bind (·.zero) = some (.agg #[.int .i64 0, .string (bs ([] : List UInt8)), .slice none 0 0, .int .u64 0, .int .u64 0, .int .u64 0, .int .u64 0, .int .i64 0, .int .i64 0, .int .i64 0, .int .i64 0]) := by kernel_rfl
theorem zero134 : (Tryz.prog.info? 134).bind (·.zero) = some (.nilFunc) := by kernel_rfl
theorem call92 : Callable Tryz.prog 92 := callable_of Tryz.func92 (by kernel_rfl) rfl
theorem ty4 : tyd Tryz.prog 4 = some (false, 1) := by kernel_rfl
theorem ty67 : tyd Tryz.prog 67 = some (false, 1) := by kernel_rfl
theorem call87 : Callable Tryz.prog 87 := callable_of Tryz.func87 (by kernel_rfl) rfl
theorem call86 : Callable Tryz.prog 86 := callable_of Tryz.func86 (by kernel_rfl) rfl
theorem call118 : Callable Tryz.prog 118 := callable_of Tryz.func118 (by kernel_rfl) rfl
theorem call116 : Callable Tryz.prog 116 := callable_of Tryz.func116 (by kernel_rfl) rfl
theorem call88 : Callable Tryz.prog 88 := callable_of Tryz.func88 (by kernel_rfl) rfl
theorem call80 : Callable Tryz.prog 80 := callable_of Tryz.func80 (by kernel_rfl) rfl
theorem call79 : Callable Tryz.prog 79 := callable_of Tryz.func79 (by kernel_rfl) rfl
theorem call81 : Callable Tryz.prog 81 := callable_of Tryz.func81 (by kernel_rfl) rfl
theorem zero57 : (Tryz.prog.info? 57).bind (·.zero) = some (.agg #[.bool false, .string (bs ([] : List UInt8)), .string (bs ([] : List UInt8)), .bool false, .slice none 0 0]) := by kernel_rfl
theorem ty57 : tyd Tryz.prog 57 = some (true, 5) := by kernel_rfl
theorem ty22 : tyd Tryz.prog 22 = some (false, 1) := by kernel_rfl
theorem sl22 : slT Tryz.prog 22 = some (57, 5, 72) := by kernel_rfl
theorem call115 : Callable Tryz.prog 115 := callable_of Tryz.func115 (by kernel_rfl) rfl
theorem zero114 : (Tryz.prog.info? 114).bind (·.zero) = some (.agg #[.int .i64 0, .string (bs ([] : List UInt8)), .int .u64 0, .int .u64 0, .int .u64 0, .int .u64 0, .string (bs ([] : List UInt8)), .string (bs ([] : List UInt8))]) := by kernel_rfl
theorem ty114 : tyd Tryz.prog 114 = some (true, 8) := by kernel_rfl
theorem call146 : Callable Tryz.prog 146 := callable_of Tryz.func146 (by kernel_rfl) rfl
theorem sl55 : slT Tryz.prog 55 = some (114, 8, 88) := by kernel_rfl
theorem call134 : Callable Tryz.prog 134 := callable_of Tryz.func134 (by kernel_rfl) rfl
theorem ty55 : tyd Tryz.prog 55 = some (false, 1) := by kernel_rfl
theorem call117 : Callable Tryz.prog 117 := callable_of Tryz.func117 (by kernel_rfl) rfl
theorem call82 : Callable Tryz.prog 82 := callable_of Tryz.func82 (by kernel_rfl) rfl
theorem call83 : Callable Tryz.prog 83 := callable_of Tryz.func83 (by kernel_rfl) rfl
theorem zero61 : (Tryz.prog.info? 61).bind (·.zero) = some (.agg #[.int .i64 0, .slice none 0 0]) := by kernel_rfl
theorem ty61 : tyd Tryz.prog 61 = some (true, 2) := by kernel_rfl
theorem sl59 : slT Tryz.prog 59 = some (9, 1, 16) := by kernel_rfl
theorem ty59 : tyd Tryz.prog 59 = some (false, 1) := by kernel_rfl
theorem sl58 : slT Tryz.prog 58 = some (61, 2, 32) := by kernel_rfl
theorem call119 : Callable Tryz.prog 119 := callable_of Tryz.func119 (by kernel_rfl) rfl
theorem ty23 : tyd Tryz.prog 23 = some (false, 1) := by kernel_rfl
theorem sl23 : slT Tryz.prog 23 = some (58, 1, 24) := by kernel_rfl
theorem call84 : Callable Tryz.prog 84 := callable_of Tryz.func84 (by kernel_rfl) rfl
theorem ty24 : tyd Tryz.prog 24 = some (false, 1) := by kernel_rfl
theorem sl24 : slT Tryz.prog 24 = some (48, 5, 48) := by kernel_rfl
theorem call85 : Callable Tryz.prog 85 := callable_of Tryz.func85 (by kernel_rfl) rfl
theorem ty25 : tyd Tryz.prog 25 = some (false, 1) := by kernel_rfl
theorem sl25 : slT Tryz.prog 25 = some (78, 2, 32) := by kernel_rfl
theorem call89 : Callable Tryz.prog 89 := callable_of Tryz.func89 (by kernel_rfl) rfl
theorem zero64 : (Tryz.prog.info? 64).bind (·.zero) = some (.agg #[.string (bs ([] : List UInt8)), .slice none 0 0]) := by kernel_rfl
theorem ty64 : tyd Tryz.prog 64 = some (true, 2) := by kernel_rfl
theorem zero124 : (Tryz.prog.info? 124).bind (·.zero) = some (.agg #[.int .i64 0, .string (bs ([] : List UInt8)), .int .i64 0, .slice none 0 0]) := by kernel_rfl
theorem ty124 : tyd Tryz.prog 124 = some (true, 4) := by kernel_rfl
theorem call120 : Callable Tryz.prog 120 := callable_of Tryz.func120 (by kernel_rfl) rfl
theorem sl62 : slT Tryz.prog 62 = some (124, 4, 56) := by kernel_rfl
theorem call135 : Callable Tryz.prog 135 := callable_of Tryz.func135 (by kernel_rfl) rfl
theorem call91 : Callable Tryz.prog 91 := callable_of Tryz.func91 (by kernel_rfl) rfl
theorem ty62 : tyd Tryz.prog 62 = some (false, 1) := by kernel_rfl
theorem ty26 : tyd Tryz.prog 26 = some (false, 1) := by kernel_rfl
theorem sl26 : slT Tryz.prog 26 = some (64, 2, 40) := by kernel_rfl
theorem call90 : Callable Tryz.prog 90 := callable_of Tryz.func90 (by kernel_rfl) rfl
theorem call38 : Callable Tryz.prog 38 := callable_of Tryz.func38 (by kernel_rfl) rfl
theorem call37 : Callable Tryz.prog 37 := callable_of Tryz.func37 (by kernel_rfl) rfl
theorem call16 : Callable Tryz.prog 16 := callable_of Tryz.func16 (by kernel_rfl) rfl
theorem call18 : Callable Tryz.prog 18 := callable_of Tryz.func18 (by kernel_rfl) rfl
theorem call39 : Callable Tryz.prog 39 := callable_of Tryz.func39 (by kernel_rfl) rfl
theorem eq44 (x0 : Int) (x1 : Int) (x2 : Int) (x3 : Int) (y0 : Int) (y1 : Int) (y2 : Int) (y3 : Int) : EqIn Tryz.prog 2 44 (.agg #[.int .u64 x0, .int .u64 x1, .int .u64 x2, .int .u64 x3]) (.agg #[.int .u64 y0, .int .u64 y1, .int .u64 y2, .int .u64 y3]) ((S4.eq (S4.mk x0 x1 x2 x3) (S4.mk y0 y1 y2 y3))) :=
  eqi_arr4 (n := 0) (s := (S4.mk x0 x1 x2 x3)) (s' := (S4.mk y0 y1 y2 y3)) Tryz.underlying44 Tryz.underlying42 ty42
theorem guard44 : Tryz.prog.eqGuardType Tryz.prog.depth 44 = false := by kernel_rfl
theorem call95 : Callable Tryz.prog 95 := callable_of Tryz.func95 (by kernel_rfl) rfl
theorem call94 : Callable Tryz.prog 94 := callable_of Tryz.func94 (by kernel_rfl) rfl
theorem call121 : Callable Tryz.prog 121 := callable_of Tryz.func121 (by kernel_rfl) rfl
theorem call93 : Callable Tryz.prog 93 := callable_of Tryz.func93 (by kernel_rfl) rfl
theorem call40 : Callable Tryz.prog 40 := callable_of Tryz.func40 (by kernel_rfl) rfl
theorem ty58 : tyd Tryz.prog 58 = some (false, 1) := by kernel_rfl
theorem call41 : Callable Tryz.prog 41 := callable_of Tryz.func41 (by kernel_rfl) rfl
theorem ty48 : tyd Tryz.prog 48 = some (true, 5) := by kernel_rfl
theorem zero48 : (Tryz.prog.info? 48).bind (·.zero) = some (.agg #[.string (bs ([] : List UInt8)), .int .u64 0, .int .u64 0, .int .u64 0, .int .u64 0]) := by kernel_rfl
theorem ty78 : tyd Tryz.prog 78 = some (true, 2) := by kernel_rfl
theorem zero78 : (Tryz.prog.info? 78).bind (·.zero) = some (.agg #[.string (bs ([] : List UInt8)), .string (bs ([] : List UInt8))]) := by kernel_rfl
theorem zero3 : (Tryz.prog.info? 3).bind (·.zero) = some (.int .i64 0) := by kernel_rfl
theorem call42 : Callable Tryz.prog 42 := callable_of Tryz.func42 (by kernel_rfl) rfl
theorem call17 : Callable Tryz.prog 17 := callable_of Tryz.func17 (by kernel_rfl) rfl
theorem zero69 : (Tryz.prog.info? 69).bind (·.zero) = some (.agg #[.pointer none, .slice none 0 0]) := by kernel_rfl
theorem call69 : Callable Tryz.prog 69 := callable_of Tryz.func69 (by kernel_rfl) rfl
theorem byt5 : byT Tryz.prog 5 = true := by kernel_rfl
theorem call27 : Callable Tryz.prog 27 := callable_of Tryz.func27 (by kernel_rfl) rfl
theorem call28 : Callable Tryz.prog 28 := callable_of Tryz.func28 (by kernel_rfl) rfl
theorem call26 : Callable Tryz.prog 26 := callable_of Tryz.func26 (by kernel_rfl) rfl
theorem zero95 : (Tryz.prog.info? 95).bind (·.zero) = some (.slice none 0 0) := by kernel_rfl
theorem ty95 : tyd Tryz.prog 95 = some (false, 1) := by kernel_rfl
theorem sl95 : slT Tryz.prog 95 = some (98, 2, 16) := by kernel_rfl
theorem call45 : Callable Tryz.prog 45 := callable_of Tryz.func45 (by kernel_rfl) rfl
theorem ty98 : tyd Tryz.prog 98 = some (true, 2) := by kernel_rfl
theorem zero98 : (Tryz.prog.info? 98).bind (·.zero) = some (.agg #[.int .i64 0, .int .i64 0]) := by kernel_rfl
theorem call46 : Callable Tryz.prog 46 := callable_of Tryz.func46 (by kernel_rfl) rfl
theorem call19 : Callable Tryz.prog 19 := callable_of Tryz.func19 (by kernel_rfl) rfl
theorem call50 : Callable Tryz.prog 50 := callable_of Tryz.func50 (by kernel_rfl) rfl
theorem ty5 : tyd Tryz.prog 5 = some (false, 1) := by kernel_rfl
theorem call32 : Callable Tryz.prog 32 := callable_of Tryz.func32 (by kernel_rfl) rfl
theorem call72 : Callable Tryz.prog 72 := callable_of Tryz.func72 (by kernel_rfl) rfl
theorem call70 : Callable Tryz.prog 70 := callable_of Tryz.func70 (by kernel_rfl) rfl
theorem call29 : Callable Tryz.prog 29 := callable_of Tryz.func29 (by kernel_rfl) rfl
theorem call71 : Callable Tryz.prog 71 := callable_of Tryz.func71 (by kernel_rfl) rfl
theorem call30 : Callable Tryz.prog 30 := callable_of Tryz.func30 (by kernel_rfl) rfl
theorem call73 : Callable Tryz.prog 73 := callable_of Tryz.func73 (by kernel_rfl) rfl
theorem call31 : Callable Tryz.prog 31 := callable_of Tryz.func31 (by kernel_rfl) rfl
theorem call13 : Callable Tryz.prog 13 := callable_of Tryz.func13 (by kernel_rfl) rfl
theorem stood37 : Tryz.prog.stoodInHeld 37 = false := by kernel_rfl
theorem eq37 (x0 : Int) (x1 : Int) (y0 : Int) (y1 : Int) : EqIn Tryz.prog 2 37 (.agg #[.int .i64 x0, .int .i64 x1]) (.agg #[.int .i64 y0, .int .i64 y1]) (((x0 == y0) && ((x1 == y1) && true))) :=
  eqi_struct (n := 1) Tryz.underlying37 stood37 (eqf_cons (u := .int .i64 x0) (v := .int .i64 y0) (by kernel_rfl) (fun _ => by kernel_rfl) (fun _ => by kernel_rfl) (eqi_int 0 Tryz.underlying3) (eqf_cons (u := .int .i64 x1) (v := .int .i64 y1) (by kernel_rfl) (fun _ => by kernel_rfl) (fun _ => by kernel_rfl) (eqi_int 0 Tryz.underlying32) (eqf_nil)))
theorem guard37 : Tryz.prog.eqGuardType Tryz.prog.depth 37 = false := by kernel_rfl
theorem call11 : Callable Tryz.prog 11 := callable_of Tryz.func11 (by kernel_rfl) rfl
theorem call21 : Callable Tryz.prog 21 := callable_of Tryz.func21 (by kernel_rfl) rfl
theorem stood48 : Tryz.prog.stoodInHeld 48 = false := by kernel_rfl
theorem eq48 (x0 : List UInt8) (x1 : Int) (x2 : Int) (x3 : Int) (x4 : Int) (y0 : List UInt8) (y1 : Int) (y2 : Int) (y3 : Int) (y4 : Int) : EqIn Tryz.prog 3 48 (.agg #[.string (bs x0), .int .u64 x1, .int .u64 x2, .int .u64 x3, .int .u64 x4]) (.agg #[.string (bs y0), .int .u64 y1, .int .u64 y2, .int .u64 y3, .int .u64 y4]) (((x0 == y0) && ((S4.eq (S4.mk x1 x2 x3 x4) (S4.mk y1 y2 y3 y4)) && true))) :=
  eqi_struct (n := 2) Tryz.underlying48 stood48 (eqf_cons (u := .string (bs x0)) (v := .string (bs y0)) (by kernel_rfl) (fun _ => by kernel_rfl) (fun _ => by kernel_rfl) (eqi_str 1 Tryz.underlying9) (eqf_cons (u := .agg #[.int .u64 x1, .int .u64 x2, .int .u64 x3, .int .u64 x4]) (v := .agg #[.int .u64 y1, .int .u64 y2, .int .u64 y3, .int .u64 y4]) (by kernel_rfl) (fun _ => by kernel_rfl) (fun _ => by kernel_rfl) (eqi_arr4 (n := 0) (s := (S4.mk x1 x2 x3 x4)) (s' := (S4.mk y1 y2 y3 y4)) Tryz.underlying44 Tryz.underlying42 ty42) (eqf_nil)))
theorem guard48 : Tryz.prog.eqGuardType Tryz.prog.depth 48 = false := by kernel_rfl
theorem stood78 : Tryz.prog.stoodInHeld 78 = false := by kernel_rfl
theorem eq78 (x0 : List UInt8) (x1 : List UInt8) (y0 : List UInt8) (y1 : List UInt8) : EqIn Tryz.prog 2 78 (.agg #[.string (bs x0), .string (bs x1)]) (.agg #[.string (bs y0), .string (bs y1)]) (((x0 == y0) && ((x1 == y1) && true))) :=
  eqi_struct (n := 1) Tryz.underlying78 stood78 (eqf_cons (u := .string (bs x0)) (v := .string (bs y0)) (by kernel_rfl) (fun _ => by kernel_rfl) (fun _ => by kernel_rfl) (eqi_str 0 Tryz.underlying9) (eqf_cons (u := .string (bs x1)) (v := .string (bs y1)) (by kernel_rfl) (fun _ => by kernel_rfl) (fun _ => by kernel_rfl) (eqi_str 0 Tryz.underlying9) (eqf_nil)))
theorem guard78 : Tryz.prog.eqGuardType Tryz.prog.depth 78 = false := by kernel_rfl
theorem call34 : Callable Tryz.prog 34 := callable_of Tryz.func34 (by kernel_rfl) rfl
theorem stood114 : Tryz.prog.stoodInHeld 114 = false := by kernel_rfl
theorem eq114 (x0 : Int) (x1 : List UInt8) (x2 : Int) (x3 : Int) (x4 : Int) (x5 : Int) (x6 : List UInt8) (x7 : List UInt8) (y0 : Int) (y1 : List UInt8) (y2 : Int) (y3 : Int) (y4 : Int) (y5 : Int) (y6 : List UInt8) (y7 : List UInt8) : EqIn Tryz.prog 3 114 (.agg #[.int .i64 x0, .string (bs x1), .int .u64 x2, .int .u64 x3, .int .u64 x4, .int .u64 x5, .string (bs x6), .string (bs x7)]) (.agg #[.int .i64 y0, .string (bs y1), .int .u64 y2, .int .u64 y3, .int .u64 y4, .int .u64 y5, .string (bs y6), .string (bs y7)]) (((x0 == y0) && ((x1 == y1) && ((S4.eq (S4.mk x2 x3 x4 x5) (S4.mk y2 y3 y4 y5)) && ((x6 == y6) && ((x7 == y7) && true)))))) :=
  eqi_struct (n := 2) Tryz.underlying114 stood114 (eqf_cons (u := .int .i64 x0) (v := .int .i64 y0) (by kernel_rfl) (fun _ => by kernel_rfl) (fun _ => by kernel_rfl) (eqi_int 1 Tryz.underlying3) (eqf_cons (u := .string (bs x1)) (v := .string (bs y1)) (by kernel_rfl) (fun _ => by kernel_rfl) (fun _ => by kernel_rfl) (eqi_str 1 Tryz.underlying9) (eqf_cons (u := .agg #[.int .u64 x2, .int .u64 x3, .int .u64 x4, .int .u64 x5]) (v := .agg #[.int .u64 y2, .int .u64 y3, .int .u64 y4, .int .u64 y5]) (by kernel_rfl) (fun _ => by kernel_rfl) (fun _ => by kernel_rfl) (eqi_arr4 (n := 0) (s := (S4.mk x2 x3 x4 x5)) (s' := (S4.mk y2 y3 y4 y5)) Tryz.underlying44 Tryz.underlying42 ty42) (eqf_cons (u := .string (bs x6)) (v := .string (bs y6)) (by kernel_rfl) (fun _ => by kernel_rfl) (fun _ => by kernel_rfl) (eqi_str 1 Tryz.underlying9) (eqf_cons (u := .string (bs x7)) (v := .string (bs y7)) (by kernel_rfl) (fun _ => by kernel_rfl) (fun _ => by kernel_rfl) (eqi_str 1 Tryz.underlying9) (eqf_nil))))))
theorem guard114 : Tryz.prog.eqGuardType Tryz.prog.depth 114 = false := by kernel_rfl
theorem call78 : Callable Tryz.prog 78 := callable_of Tryz.func78 (by kernel_rfl) rfl
theorem call36 : Callable Tryz.prog 36 := callable_of Tryz.func36 (by kernel_rfl) rfl
theorem call35 : Callable Tryz.prog 35 := callable_of Tryz.func35 (by kernel_rfl) rfl
theorem call15 : Callable Tryz.prog 15 := callable_of Tryz.func15 (by kernel_rfl) rfl
end Go.Vc
