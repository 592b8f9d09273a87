import Derived.Test.YtdbnoblklhgdoaaGreatDoorFF
import Derived.Test.YtdbnoblklhgdoaaGreatDoorProg
set_option linter.unusedVariables false
set_option linter.unusedSimpArgs false
set_option maxRecDepth 8000
set_option maxHeartbeats 2000000
namespace Go.Vc
open Go Go.Proofs
theorem call122 : zr Tryz.prog 122 := zj Tryz.func122 (by kernel_rfl) rfl
theorem call98 : zr Tryz.prog 98 := zj Tryz.func98 (by kernel_rfl) rfl
theorem call123 : zr Tryz.prog 123 := zj Tryz.func123 (by kernel_rfl) rfl
theorem yT : ka Tryz.prog 44 = some (true, 4) := by kernel_rfl
theorem ar44 : arT Tryz.prog 44 = some (4, 1) := by kernel_rfl
theorem ty42 : ka Tryz.prog 42 = some (false, 1) := by kernel_rfl
theorem vI : ka Tryz.prog 28 = some (true, 7) := by kernel_rfl
theorem kR : ka Tryz.prog 22 = some (false, 1) := by kernel_rfl
theorem vK : slT Tryz.prog 22 = some (57, 5, 72) := by kernel_rfl
theorem ty23 : ka Tryz.prog 23 = some (false, 1) := by kernel_rfl
theorem jx : slT Tryz.prog 23 = some (58, 1, 24) := by kernel_rfl
theorem gl : ka Tryz.prog 24 = some (false, 1) := by kernel_rfl
theorem qw : slT Tryz.prog 24 = some (48, 5, 48) := by kernel_rfl
theorem gk : ka Tryz.prog 25 = some (false, 1) := by kernel_rfl
theorem qv : slT Tryz.prog 25 = some (78, 2, 32) := by kernel_rfl
theorem jC : ka Tryz.prog 26 = some (false, 1) := by kernel_rfl
theorem jw : slT Tryz.prog 26 = some (64, 2, 40) := by kernel_rfl
theorem gn : slT Tryz.prog 55 = some (114, 8, 88) := by kernel_rfl
theorem ty55 : ka Tryz.prog 55 = some (false, 1) := by kernel_rfl
theorem jF : slT Tryz.prog 58 = some (61, 2, 32) := by kernel_rfl
theorem ty58 : ka Tryz.prog 58 = some (false, 1) := by kernel_rfl
theorem vy : slT Tryz.prog 59 = some (9, 1, 16) := by kernel_rfl
theorem ja : ka Tryz.prog 59 = some (false, 1) := by kernel_rfl
theorem kT : slT Tryz.prog 62 = some (124, 4, 56) := by kernel_rfl
theorem call68 : zr Tryz.prog 68 := zj Tryz.func68 (by kernel_rfl) rfl
theorem jQ : ka Tryz.prog 62 = some (false, 1) := by kernel_rfl
theorem call24 : zr Tryz.prog 24 := zj Tryz.func24 (by kernel_rfl) rfl
theorem call10 : zr Tryz.prog 10 := zj Tryz.func10 (by kernel_rfl) rfl
theorem ut : (Tryz.prog.info? 28).bind (·.zero) = some (.agg #[.string (bs ([] : List UInt8)), .string (bs ([] : List UInt8)), .slice none 0 0, .slice none 0 0, .slice none 0 0, .slice none 0 0, .slice none 0 0]) := by kernel_rfl
theorem xv : (Tryz.prog.info? 37).bind (·.zero) = some (.agg #[.int .i64 0, .int .i64 0]) := by kernel_rfl
theorem ya : ka Tryz.prog 37 = some (true, 2) := by kernel_rfl
theorem yz : ka Tryz.prog 3 = some (false, 1) := by kernel_rfl
theorem xE : ka Tryz.prog 9 = some (false, 1) := by kernel_rfl
theorem mixed : Tryz.prog.follows .mixedOrders = true := by kernel_rfl
theorem call47 : zr Tryz.prog 47 := zj Tryz.func47 (by kernel_rfl) rfl
theorem call96 : zr Tryz.prog 96 := zj Tryz.func96 (by kernel_rfl) rfl
theorem call43 : zr Tryz.prog 43 := zj Tryz.func43 (by kernel_rfl) rfl
theorem call97 : zr Tryz.prog 97 := zj Tryz.func97 (by kernel_rfl) rfl
theorem call44 : zr Tryz.prog 44 := zj Tryz.func44 (by kernel_rfl) rfl
theorem qk : ka Tryz.prog 50 = some (false, 1) := by kernel_rfl
theorem yJ : ka Tryz.prog 106 = some (true, 11) := by kernel_rfl
theorem qu : slT Tryz.prog 50 = some (106, 11, 112) := by kernel_rfl
theorem uU : zr Tryz.prog 49 := zj Tryz.func49 (by kernel_rfl) rfl
theorem call99 : zr Tryz.prog 99 := zj Tryz.func99 (by kernel_rfl) rfl
theorem call136 : zr Tryz.prog 136 := zj Tryz.func136 (by kernel_rfl) rfl
theorem call124 : zr Tryz.prog 124 := zj Tryz.func124 (by kernel_rfl) rfl
theorem jS : slT Tryz.prog 67 = some (5, 1, 1) := by kernel_rfl
theorem call100 : zr Tryz.prog 100 := zj Tryz.func100 (by kernel_rfl) rfl
theorem ty32 : ka Tryz.prog 32 = some (false, 1) := by kernel_rfl
theorem wU : (Tryz.prog.info? 44).bind (·.zero) = some (.agg #[.int .u64 0, .int .u64 0, .int .u64 0, .int .u64 0]) := by kernel_rfl
theorem call157 : zr Tryz.prog 157 := zj Tryz.func157 (by kernel_rfl) rfl
theorem call154 : zr Tryz.prog 154 := zj Tryz.func154 (by kernel_rfl) rfl
theorem call147 : zr Tryz.prog 147 := zj Tryz.func147 (by kernel_rfl) rfl
theorem call148 : zr Tryz.prog 148 := zj Tryz.func148 (by kernel_rfl) rfl
theorem call137 : zr Tryz.prog 137 := zj Tryz.func137 (by kernel_rfl) rfl
theorem call138 : zr Tryz.prog 138 := zj Tryz.func138 (by kernel_rfl) rfl
theorem call139 : zr Tryz.prog 139 := zj Tryz.func139 (by kernel_rfl) rfl
theorem call125 : zr Tryz.prog 125 := zj Tryz.func125 (by kernel_rfl) rfl
theorem uk : zr Tryz.prog 101 := zj Tryz.func101 (by kernel_rfl) rfl
theorem call102 : zr Tryz.prog 102 := zj Tryz.func102 (by kernel_rfl) rfl
theorem call48 : zr Tryz.prog 48 := zj Tryz.func48 (by kernel_rfl) rfl
theorem call20 : zr Tryz.prog 20 := zj Tryz.func20 (by kernel_rfl) rfl
theorem wg : ka Tryz.prog 85 = some (false, 1) := by kernel_rfl
theorem jd : (Tryz.prog.info? 106).bind (·.zero) = some (.agg #[.int .i64 0, .string (bs ([] : List UInt8)), .slice none 0 0, .int .u64 0, .int .u64 0, .int .u64 0, .int .u64 0, .int .i64 0, .int .i64 0, .int .i64 0, .int .i64 0]) := by kernel_rfl
theorem zero134 : (Tryz.prog.info? 134).bind (·.zero) = some (.nilFunc) := by kernel_rfl
theorem yE : zr Tryz.prog 92 := zj Tryz.func92 (by kernel_rfl) rfl
theorem ty4 : ka Tryz.prog 4 = some (false, 1) := by kernel_rfl
theorem ty67 : ka Tryz.prog 67 = some (false, 1) := by kernel_rfl
theorem wY : zr Tryz.prog 87 := zj Tryz.func87 (by kernel_rfl) rfl
theorem yV : zr Tryz.prog 86 := zj Tryz.func86 (by kernel_rfl) rfl
theorem qa : zr Tryz.prog 118 := zj Tryz.func118 (by kernel_rfl) rfl
theorem wP : zr Tryz.prog 116 := zj Tryz.func116 (by kernel_rfl) rfl
theorem xb : zr Tryz.prog 88 := zj Tryz.func88 (by kernel_rfl) rfl
theorem call80 : zr Tryz.prog 80 := zj Tryz.func80 (by kernel_rfl) rfl
theorem call79 : zr Tryz.prog 79 := zj Tryz.func79 (by kernel_rfl) rfl
theorem call81 : zr Tryz.prog 81 := zj Tryz.func81 (by kernel_rfl) rfl
theorem gA : (Tryz.prog.info? 57).bind (·.zero) = some (.agg #[.bool false, .string (bs ([] : List UInt8)), .string (bs ([] : List UInt8)), .bool false, .slice none 0 0]) := by kernel_rfl
theorem gj : ka Tryz.prog 57 = some (true, 5) := by kernel_rfl
theorem gc : zr Tryz.prog 115 := zj Tryz.func115 (by kernel_rfl) rfl
theorem gQ : (Tryz.prog.info? 114).bind (·.zero) = some (.agg #[.int .i64 0, .string (bs ([] : List UInt8)), .int .u64 0, .int .u64 0, .int .u64 0, .int .u64 0, .string (bs ([] : List UInt8)), .string (bs ([] : List UInt8))]) := by kernel_rfl
theorem wR : ka Tryz.prog 114 = some (true, 8) := by kernel_rfl
theorem call146 : zr Tryz.prog 146 := zj Tryz.func146 (by kernel_rfl) rfl
theorem call134 : zr Tryz.prog 134 := zj Tryz.func134 (by kernel_rfl) rfl
theorem call117 : zr Tryz.prog 117 := zj Tryz.func117 (by kernel_rfl) rfl
theorem call82 : zr Tryz.prog 82 := zj Tryz.func82 (by kernel_rfl) rfl
theorem call83 : zr Tryz.prog 83 := zj Tryz.func83 (by kernel_rfl) rfl
theorem zero61 : (Tryz.prog.info? 61).bind (·.zero) = some (.agg #[.int .i64 0, .slice none 0 0]) := by kernel_rfl
theorem ty61 : ka Tryz.prog 61 = some (true, 2) := by kernel_rfl
theorem call119 : zr Tryz.prog 119 := zj Tryz.func119 (by kernel_rfl) rfl
theorem call84 : zr Tryz.prog 84 := zj Tryz.func84 (by kernel_rfl) rfl
theorem call85 : zr Tryz.prog 85 := zj Tryz.func85 (by kernel_rfl) rfl
theorem call89 : zr Tryz.prog 89 := zj Tryz.func89 (by kernel_rfl) rfl
theorem zero64 : (Tryz.prog.info? 64).bind (·.zero) = some (.agg #[.string (bs ([] : List UInt8)), .slice none 0 0]) := by kernel_rfl
theorem ty64 : ka Tryz.prog 64 = some (true, 2) := by kernel_rfl
theorem zero124 : (Tryz.prog.info? 124).bind (·.zero) = some (.agg #[.int .i64 0, .string (bs ([] : List UInt8)), .int .i64 0, .slice none 0 0]) := by kernel_rfl
theorem vi : ka Tryz.prog 124 = some (true, 4) := by kernel_rfl
theorem call120 : zr Tryz.prog 120 := zj Tryz.func120 (by kernel_rfl) rfl
theorem call135 : zr Tryz.prog 135 := zj Tryz.func135 (by kernel_rfl) rfl
theorem call91 : zr Tryz.prog 91 := zj Tryz.func91 (by kernel_rfl) rfl
theorem call90 : zr Tryz.prog 90 := zj Tryz.func90 (by kernel_rfl) rfl
theorem call38 : zr Tryz.prog 38 := zj Tryz.func38 (by kernel_rfl) rfl
theorem call37 : zr Tryz.prog 37 := zj Tryz.func37 (by kernel_rfl) rfl
theorem call16 : zr Tryz.prog 16 := zj Tryz.func16 (by kernel_rfl) rfl
theorem call18 : zr Tryz.prog 18 := zj Tryz.func18 (by kernel_rfl) rfl
theorem kq : zr Tryz.prog 39 := zj Tryz.func39 (by kernel_rfl) rfl
theorem eq44 (x0 : Int) (x1 : Int) (x2 : Int) (x3 : Int) (y0 : Int) (y1 : Int) (y2 : Int) (y3 : Int) : EqIn Tryz.prog 2 44 (.agg #[.int .u64 x0, .int .u64 x1, .int .u64 x2, .int .u64 x3]) (.agg #[.int .u64 y0, .int .u64 y1, .int .u64 y2, .int .u64 y3]) ((S4.eq (S4.mk x0 x1 x2 x3) (S4.mk y0 y1 y2 y3))) :=
 eqi_arr4 (n := 0) (s := (S4.mk x0 x1 x2 x3)) (s' := (S4.mk y0 y1 y2 y3)) Tryz.underlying44 Tryz.underlying42 ty42
theorem guard44 : Tryz.prog.eqGuardType Tryz.prog.depth 44 = false := by kernel_rfl
theorem call95 : zr Tryz.prog 95 := zj Tryz.func95 (by kernel_rfl) rfl
theorem call94 : zr Tryz.prog 94 := zj Tryz.func94 (by kernel_rfl) rfl
theorem call121 : zr Tryz.prog 121 := zj Tryz.func121 (by kernel_rfl) rfl
theorem call93 : zr Tryz.prog 93 := zj Tryz.func93 (by kernel_rfl) rfl
theorem call40 : zr Tryz.prog 40 := zj Tryz.func40 (by kernel_rfl) rfl
theorem call41 : zr Tryz.prog 41 := zj Tryz.func41 (by kernel_rfl) rfl
theorem ty48 : ka Tryz.prog 48 = some (true, 5) := by kernel_rfl
theorem zero48 : (Tryz.prog.info? 48).bind (·.zero) = some (.agg #[.string (bs ([] : List UInt8)), .int .u64 0, .int .u64 0, .int .u64 0, .int .u64 0]) := by kernel_rfl
theorem ty78 : ka Tryz.prog 78 = some (true, 2) := by kernel_rfl
theorem zero78 : (Tryz.prog.info? 78).bind (·.zero) = some (.agg #[.string (bs ([] : List UInt8)), .string (bs ([] : List UInt8))]) := by kernel_rfl
theorem zero3 : (Tryz.prog.info? 3).bind (·.zero) = some (.int .i64 0) := by kernel_rfl
theorem call42 : zr Tryz.prog 42 := zj Tryz.func42 (by kernel_rfl) rfl
theorem call17 : zr Tryz.prog 17 := zj Tryz.func17 (by kernel_rfl) rfl
theorem zero69 : (Tryz.prog.info? 69).bind (·.zero) = some (.agg #[.pointer none, .slice none 0 0]) := by kernel_rfl
theorem call69 : zr Tryz.prog 69 := zj Tryz.func69 (by kernel_rfl) rfl
theorem byt5 : byT Tryz.prog 5 = true := by kernel_rfl
theorem call27 : zr Tryz.prog 27 := zj Tryz.func27 (by kernel_rfl) rfl
theorem call28 : zr Tryz.prog 28 := zj Tryz.func28 (by kernel_rfl) rfl
theorem gL : zr Tryz.prog 26 := zj Tryz.func26 (by kernel_rfl) rfl
theorem zero95 : (Tryz.prog.info? 95).bind (·.zero) = some (.slice none 0 0) := by kernel_rfl
theorem ty95 : ka Tryz.prog 95 = some (false, 1) := by kernel_rfl
theorem sl95 : slT Tryz.prog 95 = some (98, 2, 16) := by kernel_rfl
theorem call45 : zr Tryz.prog 45 := zj Tryz.func45 (by kernel_rfl) rfl
theorem ty98 : ka Tryz.prog 98 = some (true, 2) := by kernel_rfl
theorem zero98 : (Tryz.prog.info? 98).bind (·.zero) = some (.agg #[.int .i64 0, .int .i64 0]) := by kernel_rfl
theorem call46 : zr Tryz.prog 46 := zj Tryz.func46 (by kernel_rfl) rfl
theorem call19 : zr Tryz.prog 19 := zj Tryz.func19 (by kernel_rfl) rfl
theorem gK : zr Tryz.prog 50 := zj Tryz.func50 (by kernel_rfl) rfl
theorem ty5 : ka Tryz.prog 5 = some (false, 1) := by kernel_rfl
theorem call32 : zr Tryz.prog 32 := zj Tryz.func32 (by kernel_rfl) rfl
theorem call72 : zr Tryz.prog 72 := zj Tryz.func72 (by kernel_rfl) rfl
theorem call70 : zr Tryz.prog 70 := zj Tryz.func70 (by kernel_rfl) rfl
theorem call29 : zr Tryz.prog 29 := zj Tryz.func29 (by kernel_rfl) rfl
theorem call71 : zr Tryz.prog 71 := zj Tryz.func71 (by kernel_rfl) rfl
theorem call30 : zr Tryz.prog 30 := zj Tryz.func30 (by kernel_rfl) rfl
theorem call73 : zr Tryz.prog 73 := zj Tryz.func73 (by kernel_rfl) rfl
theorem call31 : zr Tryz.prog 31 := zj Tryz.func31 (by kernel_rfl) rfl
theorem call13 : zr Tryz.prog 13 := zj Tryz.func13 (by kernel_rfl) rfl
theorem stood37 : Tryz.prog.stoodInHeld 37 = false := by kernel_rfl
theorem eq37 (x0 : Int) (x1 : Int) (y0 : Int) (y1 : Int) : EqIn Tryz.prog 2 37 (.agg #[.int .i64 x0, .int .i64 x1]) (.agg #[.int .i64 y0, .int .i64 y1]) (((x0 == y0) && ((x1 == y1) && true))) :=
 j9 (n := 1) Tryz.underlying37 stood37 (wH (u := .int .i64 x0) (v := .int .i64 y0) (by kernel_rfl) (fun _ => by kernel_rfl) (fun _ => by kernel_rfl) (eqi_int 0 Tryz.underlying3) (wH (u := .int .i64 x1) (v := .int .i64 y1) (by kernel_rfl) (fun _ => by kernel_rfl) (fun _ => by kernel_rfl) (eqi_int 0 Tryz.underlying32) (eqf_nil)))
theorem guard37 : Tryz.prog.eqGuardType Tryz.prog.depth 37 = false := by kernel_rfl
theorem call11 : zr Tryz.prog 11 := zj Tryz.func11 (by kernel_rfl) rfl
theorem stood48 : Tryz.prog.stoodInHeld 48 = false := by kernel_rfl
theorem eq48 (x0 : List UInt8) (x1 : Int) (x2 : Int) (x3 : Int) (x4 : Int) (y0 : List UInt8) (y1 : Int) (y2 : Int) (y3 : Int) (y4 : Int) : EqIn Tryz.prog 3 48 (.agg #[.string (bs x0), .int .u64 x1, .int .u64 x2, .int .u64 x3, .int .u64 x4]) (.agg #[.string (bs y0), .int .u64 y1, .int .u64 y2, .int .u64 y3, .int .u64 y4]) (((x0 == y0) && ((S4.eq (S4.mk x1 x2 x3 x4) (S4.mk y1 y2 y3 y4)) && true))) :=
 j9 (n := 2) Tryz.underlying48 stood48 (wH (u := .string (bs x0)) (v := .string (bs y0)) (by kernel_rfl) (fun _ => by kernel_rfl) (fun _ => by kernel_rfl) (qZ 1 Tryz.underlying9) (wH (u := .agg #[.int .u64 x1, .int .u64 x2, .int .u64 x3, .int .u64 x4]) (v := .agg #[.int .u64 y1, .int .u64 y2, .int .u64 y3, .int .u64 y4]) (by kernel_rfl) (fun _ => by kernel_rfl) (fun _ => by kernel_rfl) (eqi_arr4 (n := 0) (s := (S4.mk x1 x2 x3 x4)) (s' := (S4.mk y1 y2 y3 y4)) Tryz.underlying44 Tryz.underlying42 ty42) (eqf_nil)))
theorem guard48 : Tryz.prog.eqGuardType Tryz.prog.depth 48 = false := by kernel_rfl
theorem stood78 : Tryz.prog.stoodInHeld 78 = false := by kernel_rfl
theorem eq78 (x0 : List UInt8) (x1 : List UInt8) (y0 : List UInt8) (y1 : List UInt8) : EqIn Tryz.prog 2 78 (.agg #[.string (bs x0), .string (bs x1)]) (.agg #[.string (bs y0), .string (bs y1)]) (((x0 == y0) && ((x1 == y1) && true))) :=
 j9 (n := 1) Tryz.underlying78 stood78 (wH (u := .string (bs x0)) (v := .string (bs y0)) (by kernel_rfl) (fun _ => by kernel_rfl) (fun _ => by kernel_rfl) (qZ 0 Tryz.underlying9) (wH (u := .string (bs x1)) (v := .string (bs y1)) (by kernel_rfl) (fun _ => by kernel_rfl) (fun _ => by kernel_rfl) (qZ 0 Tryz.underlying9) (eqf_nil)))
theorem guard78 : Tryz.prog.eqGuardType Tryz.prog.depth 78 = false := by kernel_rfl
theorem call34 : zr Tryz.prog 34 := zj Tryz.func34 (by kernel_rfl) rfl
theorem stood114 : Tryz.prog.stoodInHeld 114 = false := by kernel_rfl
theorem eq114 (x0 : Int) (x1 : List UInt8) (x2 : Int) (x3 : Int) (x4 : Int) (x5 : Int) (x6 : List UInt8) (x7 : List UInt8) (y0 : Int) (y1 : List UInt8) (y2 : Int) (y3 : Int) (y4 : Int) (y5 : Int) (y6 : List UInt8) (y7 : List UInt8) : EqIn Tryz.prog 3 114 (.agg #[.int .i64 x0, .string (bs x1), .int .u64 x2, .int .u64 x3, .int .u64 x4, .int .u64 x5, .string (bs x6), .string (bs x7)]) (.agg #[.int .i64 y0, .string (bs y1), .int .u64 y2, .int .u64 y3, .int .u64 y4, .int .u64 y5, .string (bs y6), .string (bs y7)]) (((x0 == y0) && ((x1 == y1) && ((S4.eq (S4.mk x2 x3 x4 x5) (S4.mk y2 y3 y4 y5)) && ((x6 == y6) && ((x7 == y7) && true)))))) :=
 j9 (n := 2) Tryz.underlying114 stood114 (wH (u := .int .i64 x0) (v := .int .i64 y0) (by kernel_rfl) (fun _ => by kernel_rfl) (fun _ => by kernel_rfl) (eqi_int 1 Tryz.underlying3) (wH (u := .string (bs x1)) (v := .string (bs y1)) (by kernel_rfl) (fun _ => by kernel_rfl) (fun _ => by kernel_rfl) (qZ 1 Tryz.underlying9) (wH (u := .agg #[.int .u64 x2, .int .u64 x3, .int .u64 x4, .int .u64 x5]) (v := .agg #[.int .u64 y2, .int .u64 y3, .int .u64 y4, .int .u64 y5]) (by kernel_rfl) (fun _ => by kernel_rfl) (fun _ => by kernel_rfl) (eqi_arr4 (n := 0) (s := (S4.mk x2 x3 x4 x5)) (s' := (S4.mk y2 y3 y4 y5)) Tryz.underlying44 Tryz.underlying42 ty42) (wH (u := .string (bs x6)) (v := .string (bs y6)) (by kernel_rfl) (fun _ => by kernel_rfl) (fun _ => by kernel_rfl) (qZ 1 Tryz.underlying9) (wH (u := .string (bs x7)) (v := .string (bs y7)) (by kernel_rfl) (fun _ => by kernel_rfl) (fun _ => by kernel_rfl) (qZ 1 Tryz.underlying9) (eqf_nil))))))
theorem guard114 : Tryz.prog.eqGuardType Tryz.prog.depth 114 = false := by kernel_rfl
theorem call78 : zr Tryz.prog 78 := zj Tryz.func78 (by kernel_rfl) rfl
theorem call36 : zr Tryz.prog 36 := zj Tryz.func36 (by kernel_rfl) rfl
theorem call35 : zr Tryz.prog 35 := zj Tryz.func35 (by kernel_rfl) rfl
theorem call15 : zr Tryz.prog 15 := zj Tryz.func15 (by kernel_rfl) rfl
end Go.Vc
