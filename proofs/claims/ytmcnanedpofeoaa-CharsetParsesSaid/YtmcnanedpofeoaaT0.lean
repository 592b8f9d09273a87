import Derived.Test.YtmcnanedpofeoaaVcK
import Derived.Test.YtmcnanedpofeoaaProg
namespace Go.Vc
open Go Go.Proofs
theorem call42 : Callable Try.prog 42 := callable_of Try.func42 (by kernel_rfl) rfl
theorem call29 : Callable Try.prog 29 := callable_of Try.func29 (by kernel_rfl) rfl
theorem call17 : Callable Try.prog 17 := callable_of Try.func17 (by kernel_rfl) rfl
theorem ty26 : tyd Try.prog 26 = some (true, 4) := by kernel_rfl
theorem zero38 : (Try.prog.info? 38).bind (·.zero) = some (.agg #[.int .i64 0, .int .i64 0]) := by kernel_rfl
theorem ty3 : tyd Try.prog 3 = some (false, 1) := by kernel_rfl
theorem ty38 : tyd Try.prog 38 = some (true, 2) := by kernel_rfl
theorem ty9 : tyd Try.prog 9 = some (false, 1) := by kernel_rfl
theorem mixed : Try.prog.follows .mixedOrders = true := by kernel_rfl
theorem call48 : Callable Try.prog 48 := callable_of Try.func48 (by kernel_rfl) rfl
theorem call47 : Callable Try.prog 47 := callable_of Try.func47 (by kernel_rfl) rfl
theorem zero26 : (Try.prog.info? 26).bind (·.zero) = some (.agg #[.int .u64 0, .int .u64 0, .int .u64 0, .int .u64 0]) := by kernel_rfl
theorem ar26 : arT Try.prog 26 = some (4, 1) := by kernel_rfl
theorem ty24 : tyd Try.prog 24 = some (false, 1) := by kernel_rfl
theorem call45 : Callable Try.prog 45 := callable_of Try.func45 (by kernel_rfl) rfl
theorem ty28 : tyd Try.prog 28 = some (false, 1) := by kernel_rfl
theorem call14 : Callable Try.prog 14 := callable_of Try.func14 (by kernel_rfl) rfl
theorem call40 : Callable Try.prog 40 := callable_of Try.func40 (by kernel_rfl) rfl
theorem call31 : Callable Try.prog 31 := callable_of Try.func31 (by kernel_rfl) rfl
theorem call30 : Callable Try.prog 30 := callable_of Try.func30 (by kernel_rfl) rfl
theorem call43 : Callable Try.prog 43 := callable_of Try.func43 (by kernel_rfl) rfl
theorem sl22 : slT Try.prog 22 = some (5, 1, 1) := by kernel_rfl
theorem ty5 : tyd Try.prog 5 = some (false, 1) := by kernel_rfl
theorem zero43 : (Try.prog.info? 43).bind (·.zero) = some (.slice none 0 0) := by kernel_rfl
theorem ty43 : tyd Try.prog 43 = some (false, 1) := by kernel_rfl
theorem sl43 : slT Try.prog 43 = some (48, 2, 16) := by kernel_rfl
theorem call24 : Callable Try.prog 24 := callable_of Try.func24 (by kernel_rfl) rfl
theorem ty48 : tyd Try.prog 48 = some (true, 2) := by kernel_rfl
theorem zero48 : (Try.prog.info? 48).bind (·.zero) = some (.agg #[.int .i64 0, .int .i64 0]) := by kernel_rfl
theorem call38 : Callable Try.prog 38 := callable_of Try.func38 (by kernel_rfl) rfl
theorem call21 : Callable Try.prog 21 := callable_of Try.func21 (by kernel_rfl) rfl
theorem stood38 : Try.prog.stoodInHeld 38 = false := by kernel_rfl
theorem eq38 (x0 : Int) (x1 : Int) (y0 : Int) (y1 : Int) : EqIn Try.prog 2 38 (.agg #[.int .i64 x0, .int .i64 x1]) (.agg #[.int .i64 y0, .int .i64 y1]) (((x0 == y0) && ((x1 == y1) && true))) :=
  eqi_struct (n := 1) Try.underlying38 stood38 (eqf_cons (u := .int .i64 x0) (v := .int .i64 y0) (by kernel_rfl) (fun _ => by kernel_rfl) (fun _ => by kernel_rfl) (eqi_int 0 Try.underlying3) (eqf_cons (u := .int .i64 x1) (v := .int .i64 y1) (by kernel_rfl) (fun _ => by kernel_rfl) (fun _ => by kernel_rfl) (eqi_int 0 Try.underlying28) (eqf_nil)))
theorem guard38 : Try.prog.eqGuardType Try.prog.depth 38 = false := by kernel_rfl
theorem call13 : Callable Try.prog 13 := callable_of Try.func13 (by kernel_rfl) rfl
theorem call19 : Callable Try.prog 19 := callable_of Try.func19 (by kernel_rfl) rfl
theorem call34 : Callable Try.prog 34 := callable_of Try.func34 (by kernel_rfl) rfl
theorem call18 : Callable Try.prog 18 := callable_of Try.func18 (by kernel_rfl) rfl
theorem call37 : Callable Try.prog 37 := callable_of Try.func37 (by kernel_rfl) rfl
theorem call12 : Callable Try.prog 12 := callable_of Try.func12 (by kernel_rfl) rfl
theorem call15 : Callable Try.prog 15 := callable_of Try.func15 (by kernel_rfl) rfl
theorem eq26 (x0 : Int) (x1 : Int) (x2 : Int) (x3 : Int) (y0 : Int) (y1 : Int) (y2 : Int) (y3 : Int) : EqIn Try.prog 2 26 (.agg #[.int .u64 x0, .int .u64 x1, .int .u64 x2, .int .u64 x3]) (.agg #[.int .u64 y0, .int .u64 y1, .int .u64 y2, .int .u64 y3]) ((S4.eq (S4.mk x0 x1 x2 x3) (S4.mk y0 y1 y2 y3))) :=
  eqi_arr4 (n := 0) (s := (S4.mk x0 x1 x2 x3)) (s' := (S4.mk y0 y1 y2 y3)) Try.underlying26 Try.underlying24 ty24
theorem guard26 : Try.prog.eqGuardType Try.prog.depth 26 = false := by kernel_rfl
theorem call16 : Callable Try.prog 16 := callable_of Try.func16 (by kernel_rfl) rfl
theorem call44 : Callable Try.prog 44 := callable_of Try.func44 (by kernel_rfl) rfl
theorem call28 : Callable Try.prog 28 := callable_of Try.func28 (by kernel_rfl) rfl
theorem call39 : Callable Try.prog 39 := callable_of Try.func39 (by kernel_rfl) rfl
theorem call20 : Callable Try.prog 20 := callable_of Try.func20 (by kernel_rfl) rfl
theorem call46 : Callable Try.prog 46 := callable_of Try.func46 (by kernel_rfl) rfl
theorem call41 : Callable Try.prog 41 := callable_of Try.func41 (by kernel_rfl) rfl
theorem call35 : Callable Try.prog 35 := callable_of Try.func35 (by kernel_rfl) rfl
theorem call22 : Callable Try.prog 22 := callable_of Try.func22 (by kernel_rfl) rfl
theorem zero22 : (Try.prog.info? 22).bind (·.zero) = some (.slice none 0 0) := by kernel_rfl
theorem ty22 : tyd Try.prog 22 = some (false, 1) := by kernel_rfl
theorem stood48 : Try.prog.stoodInHeld 48 = false := by kernel_rfl
theorem eq48 (x0 : Int) (x1 : Int) (y0 : Int) (y1 : Int) : EqIn Try.prog 2 48 (.agg #[.int .i64 x0, .int .i64 x1]) (.agg #[.int .i64 y0, .int .i64 y1]) (((x0 == y0) && ((x1 == y1) && true))) :=
  eqi_struct (n := 1) Try.underlying48 stood48 (eqf_cons (u := .int .i64 x0) (v := .int .i64 y0) (by kernel_rfl) (fun _ => by kernel_rfl) (fun _ => by kernel_rfl) (eqi_int 0 Try.underlying3) (eqf_cons (u := .int .i64 x1) (v := .int .i64 y1) (by kernel_rfl) (fun _ => by kernel_rfl) (fun _ => by kernel_rfl) (eqi_int 0 Try.underlying3) (eqf_nil)))
theorem guard48 : Try.prog.eqGuardType Try.prog.depth 48 = false := by kernel_rfl
theorem call23 : Callable Try.prog 23 := callable_of Try.func23 (by kernel_rfl) rfl
theorem call27 : Callable Try.prog 27 := callable_of Try.func27 (by kernel_rfl) rfl
theorem call25 : Callable Try.prog 25 := callable_of Try.func25 (by kernel_rfl) rfl
theorem call26 : Callable Try.prog 26 := callable_of Try.func26 (by kernel_rfl) rfl
theorem zero4 : (Try.prog.info? 4).bind (·.zero) = some (.bool false) := by kernel_rfl
theorem zero3 : (Try.prog.info? 3).bind (·.zero) = some (.int .i64 0) := by kernel_rfl
theorem ty4 : tyd Try.prog 4 = some (false, 1) := by kernel_rfl
theorem call32 : Callable Try.prog 32 := callable_of Try.func32 (by kernel_rfl) rfl
theorem call33 : Callable Try.prog 33 := callable_of Try.func33 (by kernel_rfl) rfl
theorem call36 : Callable Try.prog 36 := callable_of Try.func36 (by kernel_rfl) rfl
end Go.Vc
