/- The functions of the program made ready for going through, part 1. No condition. -/
import Derived.KernelRfl
import Derived.Test.YtfanfdflpakjeaaGreatDoorProg
import Derived.Test.YtfanfdflpakjeaaGreatDoorTAvG
namespace Go.Av.Fn
open Go.Proofs
set_option maxRecDepth 100000
theorem mixed : Tryz.prog.follows .mixedOrders = true := by kernel_rfl
def h15 : List (Nat × List (Nat × List Nat) × List Nat) := []
def F15 : AFn :=
 AFn.mk 49 [.cell 2 (some 3), .tmp 3] (.seq (.row [.mk (some 2) none (.alloc 24 [.val (.int .i64 0), .val (.int .i64 0), .val (.string (ByteArray.mk #[]))]) [], .mk (some 3) none (.mov (.const (.int .i64 0))) []]) (.seq (.row [.mk (some 14)
 none (.mov (.tmp 0)) [], .mk (some 15) none (.call (.func 55) [.tmp 14, .const (.string (ByteArray.mk #[32]))]) [], .mk (some 13) none (.mov (.tmp 15)) [], .mk (some 16) none (.ext (.tmp 13) 0) [], .mk (some 17) none (.ext (.tmp 13) 1) [],
 .mk (some 18) none (.ext (.tmp 13) 2) [], .mk (some 4) none (.mov (.tmp 16)) [], .mk (some 5) none (.mov (.tmp 17)) [], .mk (some 6) none (.mov (.tmp 18)) []]) (.seq (.seq (.row [.mk (some 7) none (.mov (.const (.int .i64 1))) []]) (.block
 0 (.loop (.seq (.seq (.row [.mk (some 19) none (.mov (.tmp 7)) [], .mk (some 20) none (.bin .leq 22 .other (.tmp 19) (.const (.int .i64 17))) []]) (.cond (.tmp 20) .skip (.exit 0))) (.seq (.block 1 (.seq (.row [.mk (some 23) none (.mov
 (.tmp 7)) [], .mk (some 24) none (.call (.func 56) [.tmp 23]) [], .mk (some 8) none (.alloc 100 [.val (.string (ByteArray.mk #[])), .val (.int .i64 0), .val (.bool false), .val (.bool false)]) [], .mk none none (.store 4 (.tmp 8) (.tmp 24))
 []]) (.seq (.seq (.row [.mk (some 25) none (.fieldA 0 (.tmp 8)) [], .mk (some 26) none (.load none (.tmp 25)) [], .mk (some 27) none (.mov (.tmp 4)) [], .mk (some 28) none (.bin .neq 9 .other (.tmp 26) (.tmp 27)) []]) (.cond (.tmp 28)
 (.exit 1) .skip)) (.seq (.row [.mk (some 30) none (.load (some 4) (.tmp 8)) [], .mk (some 31) none (.mov (.tmp 5)) [], .mk (some 32) none (.mov (.tmp 6)) [], .mk (some 33) none (.un .not (.tmp 32)) [], .mk (some 34) none (.call (.func 57)
 [.tmp 30, .tmp 31, .tmp 33]) [], .mk (some 29) none (.mov (.tmp 34)) [], .mk (some 35) none (.ext (.tmp 29) 0) [], .mk (some 36) none (.ext (.tmp 29) 1) [], .mk (some 37) none (.ext (.tmp 29) 2) [], .mk (some 9) none (.mov (.tmp 35)) [],
 .mk (some 10) none (.mov (.tmp 36)) [], .mk (some 11) none (.mov (.tmp 37)) []]) (.seq (.row [.mk (some 38) none (.mov (.tmp 7)) [], .mk (some 39) none (.mov (.tmp 9)) [], .mk (some 40) none (.mov (.tmp 10)) [], .mk (some 41) none (.build
 [.val (.int .i64 0), .val (.int .i64 0), .val (.string (ByteArray.mk #[]))] [(0, 1, .tmp 38), (1, 1, .tmp 39), (2, 1, .tmp 40)]) [], .mk (some 12) none (.alloc 24 [.val (.int .i64 0), .val (.int .i64 0), .val (.string (ByteArray.mk #[]))])
 [], .mk none none (.store 3 (.tmp 12) (.tmp 41)) []]) (.seq (.row [.mk (some 42) none (.mov (.tmp 11)) [], .mk (some 43) none (.mov (.tmp 42)) [], .mk (some 44) (some (43, true)) (.load (some 3) (.tmp 12)) [], .mk (some 45) (some (43,
 true)) (.call (.func 58) [.tmp 44]) [], .mk (some 46) none (.pick (.tmp 43) (.tmp 45) (.const (.bool false))) []]) (.cond (.tmp 46) (.seq (.row [.mk (some 47) none (.load (some 3) (.tmp 12)) [], .mk none none (.store 3 (.tmp 2) (.tmp 47))
 [], .mk (some 3) none (.mov (.const (.int .i64 0))) []]) .ret) .skip))))))) (.row [.mk (some 21) none (.mov (.tmp 7)) [], .mk (some 22) none (.bin .add 22 .other (.tmp 21) (.const (.int .i64 1))) [], .mk (some 7) none (.mov (.tmp 22))
 []])))))) (.seq (.row [.mk (some 48) none (.build [.val (.int .i64 0), .val (.int .i64 0), .val (.string (ByteArray.mk #[]))] []) [], .mk none none (.store 3 (.tmp 2) (.tmp 48)) [], .mk (some 3) none (.mov (.const (.int .i64 6))) []])
 .ret))))
theorem F15_ok : compFn Tryz.prog (byId h15) 15 = some F15 := by kernel_rfl
def h19 : List (Nat × List (Nat × List Nat) × List Nat) := []
def F19 : AFn :=
 AFn.mk 49 [.tmp 2, .tmp 3] (.seq (.row [.mk (some 1) none (.box 24 (.tmp 0)) [], .mk (some 2) none (.mov (.const (.string (ByteArray.mk #[])))) [], .mk (some 3) none (.mov (.const (.int .i64 0))) []]) (.seq (.seq (.row [.mk (some 5) none
 (.load (some 3) (.tmp 1)) [], .mk (some 6) none (.call (.func 63) [.tmp 5]) [], .mk (some 7) none (.un .not (.tmp 6)) []]) (.cond (.tmp 7) (.seq (.row [.mk (some 2) none (.mov (.const (.string (ByteArray.mk #[])))) [], .mk (some 3) none
 (.mov (.const (.int .i64 2))) []]) .ret) .skip)) (.seq (.row [.mk (some 8) none (.fieldA 0 (.tmp 1)) [], .mk (some 9) none (.load none (.tmp 8)) [], .mk (some 10) none (.call (.func 59) [.tmp 9]) [], .mk (some 4) none (.mov (.tmp 10)) []])
 (.seq (.seq (.row [.mk (some 11) none (.fieldA 0 (.tmp 1)) [], .mk (some 12) none (.load none (.tmp 11)) []]) (.block 0 (.seq (.seq (.row [.mk (some 14) none (.bin .eql 22 .other (.tmp 12) (.const (.int .i64 9))) [], .mk (some 13) none
 (.mov (.tmp 14)) []]) (.cond (.tmp 13) .skip (.seq (.row [.mk (some 15) none (.bin .eql 22 .other (.tmp 12) (.const (.int .i64 12))) [], .mk (some 13) none (.mov (.tmp 15)) []]) (.cond (.tmp 13) .skip (.seq (.row [.mk (some 16) none (.bin
 .eql 22 .other (.tmp 12) (.const (.int .i64 13))) [], .mk (some 13) none (.mov (.tmp 16)) []]) (.cond (.tmp 13) .skip (.row [.mk (some 17) none (.bin .eql 22 .other (.tmp 12) (.const (.int .i64 14))) [], .mk (some 13) none (.mov (.tmp 17))
 []]))))))) (.cond (.tmp 13) (.row [.mk (some 18) none (.mov (.tmp 4)) [], .mk (some 19) none (.bin .add 9 .other (.tmp 18) (.const (.string (ByteArray.mk #[32])))) [], .mk (some 20) none (.fieldA 1 (.tmp 1)) [], .mk (some 21) none (.load
 none (.tmp 20)) [], .mk (some 22) none (.call (.func 64) [.tmp 21]) [], .mk (some 23) none (.bin .add 9 .other (.tmp 19) (.tmp 22)) [], .mk (some 4) none (.mov (.tmp 23)) []]) (.seq (.row [.mk (some 25) none (.bin .eql 22 .other (.tmp 12)
 (.const (.int .i64 10))) [], .mk (some 24) none (.mov (.tmp 25)) []]) (.cond (.tmp 24) (.seq (.row [.mk (some 26) none (.mov (.tmp 4)) [], .mk (some 27) none (.bin .add 9 .other (.tmp 26) (.const (.string (ByteArray.mk #[32])))) [], .mk
 (some 28) none (.fieldA 1 (.tmp 1)) [], .mk (some 29) none (.load none (.tmp 28)) [], .mk (some 30) none (.call (.func 64) [.tmp 29]) [], .mk (some 31) none (.bin .add 9 .other (.tmp 27) (.tmp 30)) [], .mk (some 4) none (.mov (.tmp 31))
 []]) (.seq (.row [.mk (some 32) none (.fieldA 2 (.tmp 1)) [], .mk (some 33) none (.load none (.tmp 32)) [], .mk (some 34) none (.bin .neq 9 .other (.tmp 33) (.const (.string (ByteArray.mk #[])))) []]) (.cond (.tmp 34) (.row [.mk (some 35)
 none (.mov (.tmp 4)) [], .mk (some 36) none (.bin .add 9 .other (.tmp 35) (.const (.string (ByteArray.mk #[32, 105, 102, 32])))) [], .mk (some 37) none (.fieldA 2 (.tmp 1)) [], .mk (some 38) none (.load none (.tmp 37)) [], .mk (some 39)
 none (.bin .add 9 .other (.tmp 36) (.tmp 38)) [], .mk (some 4) none (.mov (.tmp 39)) []]) .skip))) (.seq (.seq (.row [.mk (some 41) none (.bin .eql 22 .other (.tmp 12) (.const (.int .i64 11))) [], .mk (some 40) none (.mov (.tmp 41)) []])
 (.cond (.tmp 40) .skip (.row [.mk (some 42) none (.bin .eql 22 .other (.tmp 12) (.const (.int .i64 17))) [], .mk (some 40) none (.mov (.tmp 42)) []]))) (.cond (.tmp 40) (.row [.mk (some 43) none (.mov (.tmp 4)) [], .mk (some 44) none (.bin
 .add 9 .other (.tmp 43) (.const (.string (ByteArray.mk #[32])))) [], .mk (some 45) none (.fieldA 2 (.tmp 1)) [], .mk (some 46) none (.load none (.tmp 45)) [], .mk (some 47) none (.bin .add 9 .other (.tmp 44) (.tmp 46)) [], .mk (some 4) none
 (.mov (.tmp 47)) []]) .skip)))))))) (.seq (.row [.mk (some 48) none (.mov (.tmp 4)) [], .mk (some 2) none (.mov (.tmp 48)) [], .mk (some 3) none (.mov (.const (.int .i64 0))) []]) .ret)))))
theorem F19_ok : compFn Tryz.prog (byId h19) 19 = some F19 := by kernel_rfl
def h55 : List (Nat × List (Nat × List Nat) × List Nat) := []
def F55 : AFn :=
 AFn.mk 13 [.tmp 4, .tmp 5, .tmp 6] (.seq (.row [.mk (some 4) none (.mov (.const (.string (ByteArray.mk #[])))) [], .mk (some 5) none (.mov (.const (.string (ByteArray.mk #[])))) [], .mk (some 6) none (.mov (.const (.bool false))) []]) (.seq
 (.row [.mk (some 7) none (.mov (.tmp 0)) [], .mk (some 8) none (.mov (.tmp 1)) [], .mk (some 9) none (.call (.func 99) [.tmp 7, .tmp 8]) [], .mk (some 10) none (.ext (.tmp 9) 0) [], .mk (some 11) none (.ext (.tmp 9) 1) [], .mk (some 12)
 none (.ext (.tmp 9) 2) [], .mk (some 4) none (.mov (.tmp 10)) [], .mk (some 5) none (.mov (.tmp 11)) [], .mk (some 6) none (.mov (.tmp 12)) []]) .ret))
theorem F55_ok : compFn Tryz.prog (byId h55) 55 = some F55 := by kernel_rfl
def h59 : List (Nat × List (Nat × List Nat) × List Nat) := []
def F59 : AFn :=
 AFn.mk 8 [.tmp 2] (.seq (.row [.mk (some 2) none (.mov (.const (.string (ByteArray.mk #[])))) []]) (.seq (.row [.mk (some 3) none (.lits 1 [.val (.string (ByteArray.mk #[]))] 17 [(0, .const (.string (ByteArray.mk #[115, 116, 101, 112]))),
 (1, .const (.string (ByteArray.mk #[110, 101, 120, 116]))), (2, .const (.string (ByteArray.mk #[102, 105, 110, 105, 115, 104]))), (3, .const (.string (ByteArray.mk #[99, 111, 110, 116, 105, 110, 117, 101]))), (4, .const (.string
 (ByteArray.mk #[98, 97, 99, 107, 45, 115, 116, 101, 112]))), (5, .const (.string (ByteArray.mk #[98, 97, 99, 107, 45, 110, 101, 120, 116]))), (6, .const (.string (ByteArray.mk #[98, 97, 99, 107, 45, 102, 105, 110, 105, 115, 104]))), (7,
 .const (.string (ByteArray.mk #[98, 97, 99, 107, 45, 99, 111, 110, 116, 105, 110, 117, 101]))), (8, .const (.string (ByteArray.mk #[103, 111, 116, 111]))), (9, .const (.string (ByteArray.mk #[98, 114, 101, 97, 107]))), (10, .const (.string
 (ByteArray.mk #[119, 97, 116, 99, 104]))), (11, .const (.string (ByteArray.mk #[100, 101, 108, 101, 116, 101]))), (12, .const (.string (ByteArray.mk #[101, 110, 97, 98, 108, 101]))), (13, .const (.string (ByteArray.mk #[100, 105, 115, 97,
 98, 108, 101]))), (14, .const (.string (ByteArray.mk #[117, 112]))), (15, .const (.string (ByteArray.mk #[100, 111, 119, 110]))), (16, .const (.string (ByteArray.mk #[112, 114, 105, 110, 116])))]) [], .mk (some 4) none (.mov (.tmp 0)) [],
 .mk (some 5) none (.bin .sub 22 .other (.tmp 4) (.const (.int .i64 1))) [], .mk (some 6) none (.idxL 1 (.tmp 3) (.tmp 5)) [], .mk (some 7) none (.load none (.tmp 6)) [], .mk (some 2) none (.mov (.tmp 7)) []]) .ret))
theorem F59_ok : compFn Tryz.prog (byId h59) 59 = some F59 := by kernel_rfl
def h63 : List (Nat × List (Nat × List Nat) × List Nat) := []
def F63 : AFn :=
 AFn.mk 46 [.tmp 2] (.seq (.row [.mk (some 1) none (.box 24 (.tmp 0)) [], .mk (some 2) none (.mov (.const (.bool false))) []]) (.seq (.seq (.row [.mk (some 3) none (.load (some 3) (.tmp 1)) [], .mk (some 4) none (.call (.func 105) [.tmp 3])
 [], .mk (some 5) none (.un .not (.tmp 4)) [], .mk (some 6) none (.mov (.tmp 5)) [], .mk (some 7) (some (6, false)) (.fieldA 1 (.tmp 1)) [], .mk (some 8) (some (6, false)) (.load none (.tmp 7)) [], .mk (some 9) (some (6, false)) (.bin .lss 3
 .other (.tmp 8) (.const (.int .i64 0))) [], .mk (some 10) none (.pick (.tmp 6) (.const (.bool true)) (.tmp 9)) [], .mk (some 11) none (.mov (.tmp 10)) [], .mk (some 12) (some (11, false)) (.fieldA 1 (.tmp 1)) [], .mk (some 13) (some (11,
 false)) (.load none (.tmp 12)) [], .mk (some 14) (some (11, false)) (.bin .gtr 3 .other (.tmp 13) (.const (.int .i64 4294967296))) [], .mk (some 15) none (.pick (.tmp 11) (.const (.bool true)) (.tmp 14)) []]) (.cond (.tmp 15) (.seq (.row
 [.mk (some 2) none (.mov (.const (.bool false))) []]) .ret) .skip)) (.seq (.seq (.row [.mk (some 16) none (.fieldA 0 (.tmp 1)) [], .mk (some 17) none (.load none (.tmp 16)) []]) (.block 0 (.seq (.row [.mk (some 19) none (.bin .eql 22 .other
 (.tmp 17) (.const (.int .i64 10))) [], .mk (some 18) none (.mov (.tmp 19)) []]) (.cond (.tmp 18) (.seq (.row [.mk (some 20) none (.fieldA 1 (.tmp 1)) [], .mk (some 21) none (.load none (.tmp 20)) [], .mk (some 22) none (.bin .geq 3 .other
 (.tmp 21) (.const (.int .i64 1))) [], .mk (some 23) none (.mov (.tmp 22)) [], .mk (some 24) (some (23, true)) (.fieldA 2 (.tmp 1)) [], .mk (some 25) (some (23, true)) (.load none (.tmp 24)) [], .mk (some 26) (some (23, true)) (.bin .eql 9
 .other (.tmp 25) (.const (.string (ByteArray.mk #[])))) [], .mk (some 27) (some (23, true)) (.mov (.tmp 26)) [], .mk (some 28) (some (27, false)) (.fieldA 2 (.tmp 1)) [], .mk (some 29) (some (27, false)) (.load none (.tmp 28)) [], .mk (some
 30) (some (27, false)) (.call (.func 106) [.tmp 29]) [], .mk (some 31) (some (23, true)) (.pick (.tmp 27) (.const (.bool true)) (.tmp 30)) [], .mk (some 32) none (.pick (.tmp 23) (.tmp 31) (.const (.bool false))) [], .mk (some 2) none (.mov
 (.tmp 32)) []]) .ret) (.seq (.seq (.row [.mk (some 34) none (.bin .eql 22 .other (.tmp 17) (.const (.int .i64 11))) [], .mk (some 33) none (.mov (.tmp 34)) []]) (.cond (.tmp 33) .skip (.row [.mk (some 35) none (.bin .eql 22 .other (.tmp 17)
 (.const (.int .i64 17))) [], .mk (some 33) none (.mov (.tmp 35)) []]))) (.cond (.tmp 33) (.seq (.row [.mk (some 36) none (.fieldA 2 (.tmp 1)) [], .mk (some 37) none (.load none (.tmp 36)) [], .mk (some 38) none (.call (.func 106) [.tmp 37])
 [], .mk (some 2) none (.mov (.tmp 38)) []]) .ret) (.seq (.seq (.row [.mk (some 40) none (.bin .eql 22 .other (.tmp 17) (.const (.int .i64 12))) [], .mk (some 39) none (.mov (.tmp 40)) []]) (.cond (.tmp 39) .skip (.seq (.row [.mk (some 41)
 none (.bin .eql 22 .other (.tmp 17) (.const (.int .i64 13))) [], .mk (some 39) none (.mov (.tmp 41)) []]) (.cond (.tmp 39) .skip (.row [.mk (some 42) none (.bin .eql 22 .other (.tmp 17) (.const (.int .i64 14))) [], .mk (some 39) none (.mov
 (.tmp 42)) []]))))) (.cond (.tmp 39) (.seq (.row [.mk (some 43) none (.fieldA 1 (.tmp 1)) [], .mk (some 44) none (.load none (.tmp 43)) [], .mk (some 45) none (.bin .geq 3 .other (.tmp 44) (.const (.int .i64 1))) [], .mk (some 2) none (.mov
 (.tmp 45)) []]) .ret) .skip)))))))) (.seq (.row [.mk (some 2) none (.mov (.const (.bool true))) []]) .ret))))
theorem F63_ok : compFn Tryz.prog (byId h63) 63 = some F63 := by kernel_rfl
def h99 : List (Nat × List (Nat × List Nat) × List Nat) := [(3, [(0, []), (1, []), (2, []), (3, []), (4, []), (5, []), (6, []), (7, []), (8, []), (9, []), (10, []), (11, [])], [0, 0, 3, 0, 0, 0, 32, 112, 248, 7, 1023, 2047])]
def F99 : AFn :=
 AFn.mk 23 [.tmp 4, .tmp 5, .tmp 6] (.seq (.row [.mk (some 4) none (.mov (.const (.string (ByteArray.mk #[])))) [], .mk (some 5) none (.mov (.const (.string (ByteArray.mk #[])))) [], .mk (some 6) none (.mov (.const (.bool false))) []]) (.seq
 (.seq (.row [.mk (some 8) none (.mov (.tmp 0)) [], .mk (some 9) none (.mov (.tmp 1)) [], .mk (some 10) none (.call (.func 124) [.tmp 8, .tmp 9]) [], .mk (some 7) none (.mov (.tmp 10)) []]) (.seq (.row [.mk (some 11) none (.mov (.tmp 7)) [],
 .mk (some 12) none (.bin .geq 3 .other (.tmp 11) (.const (.int .i64 0))) []]) (.cond (.tmp 12) (.seq (.row [.mk (some 13) none (.mov (.tmp 0)) [], .mk (some 14) none (.mov (.tmp 7)) [], .mk (some 15) none (.sliceS (.tmp 13) none (some (.tmp
 14))) [], .mk (some 16) none (.mov (.tmp 0)) [], .mk (some 17) none (.mov (.tmp 7)) [], .mk (some 18) none (.mov (.tmp 1)) [], .mk (some 19) none (.len true (.tmp 18)) [], .mk (some 20) none (.bin .add 3 .other (.tmp 17) (.tmp 19)) [], .mk
 (some 21) none (.sliceS (.tmp 16) (some (.tmp 20)) none) [], .mk (some 4) none (.mov (.tmp 15)) [], .mk (some 5) none (.mov (.tmp 21)) [], .mk (some 6) none (.mov (.const (.bool true))) []]) .ret) .skip))) (.seq (.row [.mk (some 22) none
 (.mov (.tmp 0)) [], .mk (some 4) none (.mov (.tmp 22)) [], .mk (some 5) none (.mov (.const (.string (ByteArray.mk #[])))) [], .mk (some 6) none (.mov (.const (.bool false))) []]) .ret)))
theorem F99_ok : compFn Tryz.prog (byId h99) 99 = some F99 := by kernel_rfl
def h103 : List (Nat × List (Nat × List Nat) × List Nat) := []
def F103 : AFn :=
 AFn.mk 19 [.tmp 2] (.seq (.row [.mk (some 2) none (.mov (.const (.bool false))) []]) (.seq (.row [.mk (some 7) none (.mov (.tmp 0)) [], .mk (some 8) none (.call (.func 128) [.tmp 7]) [], .mk (some 6) none (.mov (.tmp 8)) [], .mk (some 9)
 none (.ext (.tmp 6) 0) [], .mk (some 10) none (.ext (.tmp 6) 1) [], .mk (some 11) none (.ext (.tmp 6) 2) [], .mk (some 3) none (.alloc 170 [.val (.int .i64 0), .val (.string (ByteArray.mk #[])), .val (.int .i64 0), .sl [] [] .full, .val
 (.int .i64 0)]) [], .mk none none (.store 5 (.tmp 3) (.tmp 9)) [], .mk (some 4) none (.mov (.tmp 10)) [], .mk (some 5) none (.mov (.tmp 11)) []]) (.seq (.row [.mk (some 12) none (.mov (.tmp 5)) [], .mk (some 13) none (.bin .eql 25 .other
 (.tmp 12) (.const (.int .i64 0))) [], .mk (some 14) none (.mov (.tmp 13)) [], .mk (some 15) (some (14, true)) (.mov (.tmp 0)) [], .mk (some 16) (some (14, true)) (.len true (.tmp 15)) [], .mk (some 17) (some (14, true)) (.bin .leq 3 .other
 (.tmp 16) (.const (.int .i64 255))) [], .mk (some 18) none (.pick (.tmp 14) (.tmp 17) (.const (.bool false))) [], .mk (some 2) none (.mov (.tmp 18)) []]) .ret)))
theorem F103_ok : compFn Tryz.prog (byId h103) 103 = some F103 := by kernel_rfl
def h128 : List (Nat × List (Nat × List Nat) × List Nat) := []
def F128 : AFn :=
 AFn.mk 24 [.cell 2 (some 5), .tmp 3, .tmp 4] (.seq (.row [.mk (some 2) none (.alloc 170 [.val (.int .i64 0), .val (.string (ByteArray.mk #[])), .val (.int .i64 0), .sl [] [] .full, .val (.int .i64 0)]) [], .mk (some 3) none (.mov (.const
 (.int .i64 0))) [], .mk (some 4) none (.mov (.const (.int .i64 0))) []]) (.seq (.row [.mk (some 9) none (.mov (.tmp 0)) [], .mk (some 10) none (.call (.func 144) [.tmp 9, .func 145]) [], .mk (some 8) none (.mov (.tmp 10)) [], .mk (some 11)
 none (.ext (.tmp 8) 0) [], .mk (some 12) none (.ext (.tmp 8) 1) [], .mk (some 13) none (.ext (.tmp 8) 2) [], .mk (some 5) none (.alloc 170 [.val (.int .i64 0), .val (.string (ByteArray.mk #[])), .val (.int .i64 0), .sl [] [] .full, .val
 (.int .i64 0)]) [], .mk none none (.store 5 (.tmp 5) (.tmp 11)) [], .mk (some 6) none (.mov (.tmp 12)) [], .mk (some 7) none (.mov (.tmp 13)) []]) (.seq (.seq (.row [.mk (some 14) none (.mov (.tmp 7)) [], .mk (some 15) none (.bin .neq 25
 .other (.tmp 14) (.const (.int .i64 0))) []]) (.cond (.tmp 15) (.seq (.row [.mk (some 16) none (.build [.val (.int .i64 0), .val (.string (ByteArray.mk #[])), .val (.int .i64 0), .sl [] [] .full, .val (.int .i64 0)] []) [], .mk (some 17)
 none (.mov (.tmp 6)) [], .mk (some 18) none (.mov (.tmp 7)) [], .mk none none (.store 5 (.tmp 2) (.tmp 16)) [], .mk (some 3) none (.mov (.tmp 17)) [], .mk (some 4) none (.mov (.tmp 18)) []]) .ret) .skip)) (.seq (.seq (.row [.mk (some 19)
 none (.load (some 5) (.tmp 5)) [], .mk (some 20) none (.call (.func 147) [.tmp 19]) [], .mk (some 21) none (.bin .gtr 3 .other (.tmp 20) (.const (.int .i64 24))) []]) (.cond (.tmp 21) (.seq (.row [.mk (some 22) none (.build [.val (.int .i64
 0), .val (.string (ByteArray.mk #[])), .val (.int .i64 0), .sl [] [] .full, .val (.int .i64 0)] []) [], .mk none none (.store 5 (.tmp 2) (.tmp 22)) [], .mk (some 3) none (.mov (.const (.int .i64 0))) [], .mk (some 4) none (.mov (.const
 (.int .i64 7))) []]) .ret) .skip)) (.seq (.row [.mk (some 23) none (.load (some 5) (.tmp 5)) [], .mk none none (.store 5 (.tmp 2) (.tmp 23)) [], .mk (some 3) none (.mov (.const (.int .i64 0))) [], .mk (some 4) none (.mov (.const (.int .i64
 0))) []]) .ret)))))
theorem F128_ok : compFn Tryz.prog (byId h128) 128 = some F128 := by kernel_rfl
def h143 : List (Nat × List (Nat × List Nat) × List Nat) := []
def F143 : AFn :=
 AFn.mk 18 [.tmp 4] (.seq (.row [.mk (some 4) none (.mov (.const (.bool false))) []]) (.seq (.row [.mk (some 5) none (.mov (.tmp 0)) [], .mk (some 6) none (.len true (.tmp 5)) [], .mk (some 7) none (.mov (.tmp 1)) [], .mk (some 8) none (.len
 true (.tmp 7)) [], .mk (some 9) none (.bin .geq 3 .other (.tmp 6) (.tmp 8)) [], .mk (some 10) none (.mov (.tmp 9)) [], .mk (some 11) (some (10, true)) (.mov (.tmp 0)) [], .mk (some 12) (some (10, true)) (.mov (.tmp 1)) [], .mk (some 13)
 (some (10, true)) (.len true (.tmp 12)) [], .mk (some 14) (some (10, true)) (.sliceS (.tmp 11) none (some (.tmp 13))) [], .mk (some 15) (some (10, true)) (.mov (.tmp 1)) [], .mk (some 16) (some (10, true)) (.bin .eql 9 .other (.tmp 14)
 (.tmp 15)) [], .mk (some 17) none (.pick (.tmp 10) (.tmp 16) (.const (.bool false))) [], .mk (some 4) none (.mov (.tmp 17)) []]) .ret))
theorem F143_ok : compFn Tryz.prog (byId h143) 143 = some F143 := by kernel_rfl
def h152 : List (Nat × List (Nat × List Nat) × List Nat) := []
def F152 : AFn :=
 AFn.mk 94 [.tmp 2, .tmp 3, .tmp 4] (.seq (.row [.mk (some 2) none (.mov (.const (.slice none 0 0))) [], .mk (some 3) none (.mov (.const (.int .i64 0))) [], .mk (some 4) none (.mov (.const (.int .i64 0))) []]) (.seq (.seq (.row [.mk (some
 12) none (.mov (.tmp 0)) [], .mk (some 13) none (.len true (.tmp 12)) [], .mk (some 14) none (.bin .gtr 3 .other (.tmp 13) (.const (.int .i64 4096))) []]) (.cond (.tmp 14) (.seq (.row [.mk (some 2) none (.mov (.const (.slice none 0 0))) [],
 .mk (some 3) none (.mov (.const (.int .i64 0))) [], .mk (some 4) none (.mov (.const (.int .i64 5))) []]) .ret) .skip)) (.seq (.row [.mk (some 5) none (.mov (.const (.slice none 0 0))) []]) (.seq (.row [.mk (some 6) none (.mov (.const (.int
 .i64 1))) []]) (.seq (.seq (.row [.mk (some 7) none (.mov (.const (.int .i64 0))) []]) (.block 0 (.loop (.seq (.seq (.row [.mk (some 15) none (.mov (.tmp 7)) [], .mk (some 16) none (.mov (.tmp 0)) [], .mk (some 17) none (.len true (.tmp
 16)) [], .mk (some 18) none (.bin .lss 3 .other (.tmp 15) (.tmp 17)) []]) (.cond (.tmp 18) .skip (.exit 0))) (.block 1 (.seq (.row [.mk (some 19) none (.mov (.tmp 0)) [], .mk (some 20) none (.mov (.tmp 7)) [], .mk (some 21) none (.idxStr
 (.tmp 19) (.tmp 20)) [], .mk (some 8) none (.mov (.tmp 21)) []]) (.seq (.block 2 (.seq (.row [.mk (some 23) none (.mov (.tmp 8)) [], .mk (some 24) none (.bin .eql 5 .other (.tmp 23) (.const (.int .u8 10))) [], .mk (some 22) none (.mov (.tmp
 24)) []]) (.cond (.tmp 22) (.seq (.row [.mk (some 25) none (.mov (.tmp 6)) [], .mk (some 26) none (.bin .add 3 .other (.tmp 25) (.const (.int .i64 1))) [], .mk (some 6) none (.mov (.tmp 26)) []]) (.seq (.row [.mk (some 27) none (.mov (.tmp
 7)) [], .mk (some 28) none (.bin .add 3 .other (.tmp 27) (.const (.int .i64 1))) [], .mk (some 7) none (.mov (.tmp 28)) []]) (.exit 1))) (.seq (.row [.mk (some 30) none (.mov (.tmp 8)) [], .mk (some 31) none (.bin .eql 5 .other (.tmp 30)
 (.const (.int .u8 32))) [], .mk (some 32) none (.mov (.tmp 31)) [], .mk (some 33) (some (32, false)) (.mov (.tmp 8)) [], .mk (some 34) (some (32, false)) (.bin .eql 5 .other (.tmp 33) (.const (.int .u8 9))) [], .mk (some 35) none (.pick
 (.tmp 32) (.const (.bool true)) (.tmp 34)) [], .mk (some 29) none (.mov (.tmp 35)) []]) (.cond (.tmp 29) (.seq (.row [.mk (some 36) none (.mov (.tmp 7)) [], .mk (some 37) none (.bin .add 3 .other (.tmp 36) (.const (.int .i64 1))) [], .mk
 (some 7) none (.mov (.tmp 37)) []]) (.exit 1)) (.seq (.row [.mk (some 39) none (.mov (.tmp 8)) [], .mk (some 40) none (.bin .eql 5 .other (.tmp 39) (.const (.int .u8 47))) [], .mk (some 41) none (.mov (.tmp 40)) [], .mk (some 42) (some (41,
 true)) (.mov (.tmp 7)) [], .mk (some 43) (some (41, true)) (.bin .add 3 .other (.tmp 42) (.const (.int .i64 1))) [], .mk (some 44) (some (41, true)) (.mov (.tmp 0)) [], .mk (some 45) (some (41, true)) (.len true (.tmp 44)) [], .mk (some 46)
 (some (41, true)) (.bin .lss 3 .other (.tmp 43) (.tmp 45)) [], .mk (some 47) none (.pick (.tmp 41) (.tmp 46) (.const (.bool false))) [], .mk (some 48) none (.mov (.tmp 47)) [], .mk (some 49) (some (48, true)) (.mov (.tmp 0)) [], .mk (some
 50) (some (48, true)) (.mov (.tmp 7)) [], .mk (some 51) (some (48, true)) (.bin .add 3 .other (.tmp 50) (.const (.int .i64 1))) [], .mk (some 52) (some (48, true)) (.idxStr (.tmp 49) (.tmp 51)) [], .mk (some 53) (some (48, true)) (.bin .eql
 5 .other (.tmp 52) (.const (.int .u8 47))) [], .mk (some 54) none (.pick (.tmp 48) (.tmp 53) (.const (.bool false))) [], .mk (some 38) none (.mov (.tmp 54)) []]) (.cond (.tmp 38) (.seq (.block 3 (.loop (.seq (.seq (.row [.mk (some 55) none
 (.mov (.tmp 7)) [], .mk (some 56) none (.mov (.tmp 0)) [], .mk (some 57) none (.len true (.tmp 56)) [], .mk (some 58) none (.bin .lss 3 .other (.tmp 55) (.tmp 57)) [], .mk (some 59) none (.mov (.tmp 58)) [], .mk (some 60) (some (59, true))
 (.mov (.tmp 0)) [], .mk (some 61) (some (59, true)) (.mov (.tmp 7)) [], .mk (some 62) (some (59, true)) (.idxStr (.tmp 60) (.tmp 61)) [], .mk (some 63) (some (59, true)) (.bin .neq 5 .other (.tmp 62) (.const (.int .u8 10))) [], .mk (some
 64) none (.pick (.tmp 59) (.tmp 63) (.const (.bool false))) []]) (.cond (.tmp 64) .skip (.exit 3))) (.block 4 (.row [.mk (some 65) none (.mov (.tmp 7)) [], .mk (some 66) none (.bin .add 3 .other (.tmp 65) (.const (.int .i64 1))) [], .mk
 (some 7) none (.mov (.tmp 66)) []]))))) (.exit 1)) .skip))))))) (.seq (.row [.mk (some 68) none (.mov (.tmp 0)) [], .mk (some 69) none (.mov (.tmp 7)) [], .mk (some 70) none (.call (.func 181) [.tmp 68, .tmp 69]) [], .mk (some 67) none
 (.mov (.tmp 70)) [], .mk (some 71) none (.ext (.tmp 67) 0) [], .mk (some 72) none (.ext (.tmp 67) 1) [], .mk (some 73) none (.ext (.tmp 67) 2) [], .mk (some 9) none (.alloc 179 [.val (.int .i64 0), .val (.string (ByteArray.mk #[])), .val
 (.int .i64 0), .val (.int .i64 0), .val (.int .i64 0)]) [], .mk none none (.store 5 (.tmp 9) (.tmp 71)) [], .mk (some 10) none (.mov (.tmp 72)) [], .mk (some 11) none (.mov (.tmp 73)) []]) (.seq (.seq (.row [.mk (some 74) none (.mov (.tmp
 11)) [], .mk (some 75) none (.bin .neq 3 .other (.tmp 74) (.const (.int .i64 0))) []]) (.cond (.tmp 75) (.seq (.row [.mk (some 76) none (.mov (.tmp 7)) [], .mk (some 77) none (.mov (.tmp 11)) [], .mk (some 2) none (.mov (.const (.slice none
 0 0))) [], .mk (some 3) none (.mov (.tmp 76)) [], .mk (some 4) none (.mov (.tmp 77)) []]) .ret) .skip)) (.seq (.row [.mk (some 78) none (.mov (.tmp 6)) [], .mk (some 79) none (.mov (.tmp 7)) [], .mk (some 80) none (.fieldA 3 (.tmp 9)) [],
 .mk none none (.store 1 (.tmp 80) (.tmp 78)) [], .mk (some 81) none (.fieldA 4 (.tmp 9)) [], .mk none none (.store 1 (.tmp 81) (.tmp 79)) []]) (.seq (.row [.mk (some 82) none (.mov (.tmp 5)) [], .mk (some 83) none (.load (some 5) (.tmp 9))
 [], .mk (some 84) none (.lits 5 [.val (.int .i64 0), .val (.string (ByteArray.mk #[])), .val (.int .i64 0), .val (.int .i64 0), .val (.int .i64 0)] 1 [(0, .tmp 83)]) [], .mk (some 85) none (.app 179 48 5 (.tmp 82) (.tmp 84)) [], .mk (some
 5) none (.mov (.tmp 85)) []]) (.row [.mk (some 86) none (.mov (.tmp 10)) [], .mk (some 7) none (.mov (.tmp 86)) []])))))))))))) (.seq (.row [.mk (some 87) none (.mov (.tmp 5)) [], .mk (some 88) none (.mov (.tmp 6)) [], .mk (some 89) none
 (.mov (.tmp 0)) [], .mk (some 90) none (.len true (.tmp 89)) [], .mk (some 91) none (.build [.val (.int .i64 0), .val (.string (ByteArray.mk #[])), .val (.int .i64 0), .val (.int .i64 0), .val (.int .i64 0)] [(3, 1, .tmp 88), (4, 1, .tmp
 90)]) [], .mk (some 92) none (.lits 5 [.val (.int .i64 0), .val (.string (ByteArray.mk #[])), .val (.int .i64 0), .val (.int .i64 0), .val (.int .i64 0)] 1 [(0, .tmp 91)]) [], .mk (some 93) none (.app 179 48 5 (.tmp 87) (.tmp 92)) [], .mk
 (some 2) none (.mov (.tmp 93)) [], .mk (some 3) none (.mov (.const (.int .i64 0))) [], .mk (some 4) none (.mov (.const (.int .i64 0))) []]) .ret))))))
theorem F152_ok : compFn Tryz.prog (byId h152) 152 = some F152 := by kernel_rfl
def h160 : List (Nat × List (Nat × List Nat) × List Nat) := []
def F160 : AFn :=
 AFn.mk 18 [.tmp 4] (.seq (.row [.mk (some 4) none (.mov (.const (.bool false))) []]) (.seq (.seq (.row [.mk (some 5) none (.mov (.const (.int .i64 0))) []]) (.block 0 (.loop (.seq (.seq (.row [.mk (some 6) none (.mov (.tmp 5)) [], .mk (some
 7) none (.mov (.tmp 0)) [], .mk (some 8) none (.len false (.tmp 7)) [], .mk (some 9) none (.bin .lss 3 .other (.tmp 6) (.tmp 8)) []]) (.cond (.tmp 9) .skip (.exit 0))) (.seq (.block 1 (.seq (.row [.mk (some 12) none (.mov (.tmp 0)) [], .mk
 (some 13) none (.mov (.tmp 5)) [], .mk (some 14) none (.idxL 1 (.tmp 12) (.tmp 13)) [], .mk (some 15) none (.load none (.tmp 14)) [], .mk (some 16) none (.mov (.tmp 1)) [], .mk (some 17) none (.bin .eql 9 .other (.tmp 15) (.tmp 16)) []])
 (.cond (.tmp 17) (.seq (.row [.mk (some 4) none (.mov (.const (.bool true))) []]) .ret) .skip))) (.row [.mk (some 10) none (.mov (.tmp 5)) [], .mk (some 11) none (.bin .add 3 .other (.tmp 10) (.const (.int .i64 1))) [], .mk (some 5) none
 (.mov (.tmp 11)) []])))))) (.seq (.row [.mk (some 4) none (.mov (.const (.bool false))) []]) .ret)))
theorem F160_ok : compFn Tryz.prog (byId h160) 160 = some F160 := by kernel_rfl
def h173 : List (Nat × List (Nat × List Nat) × List Nat) := [(3, [(0, []), (1, []), (2, []), (5, []), (6, []), (3, [1, 6]), (4, []), (7, []), (8, [])], [0, 1, 0, 4, 12, 0, 32, 127, 255]), (7, [(0, []), (1, []), (4, []), (5, []), (2, [0, 5]), (3, []), (6, []), (7, [])], [0, 0, 2, 7, 0, 16, 63, 127]),
 (10, [(0, []), (2, []), (3, []), (4, []), (5, []), (1, [2, 5]), (6, []), (7, [])], [0, 1, 0, 4, 0, 16, 63, 127])]
def F173 : AFn :=
 AFn.mk 50 [.cell 2 (some 5)] (.seq (.row [.mk (some 2) none (.alloc 170 [.val (.int .i64 0), .val (.string (ByteArray.mk #[])), .val (.int .i64 0), .sl [] [] .full, .val (.int .i64 0)]) []]) (.seq (.seq (.row [.mk (some 5) none (.mov (.tmp
 0)) [], .mk (some 6) none (.nilc (.tmp 5)) [], .mk (some 7) none (.fieldA 0 (.tmp 6)) [], .mk (some 8) none (.load none (.tmp 7)) [], .mk (some 9) none (.idxL 5 (.tmp 8) (.const (.int .i64 0))) [], .mk (some 10) none (.load (some 5) (.tmp
 9)) [], .mk (some 3) none (.alloc 179 [.val (.int .i64 0), .val (.string (ByteArray.mk #[])), .val (.int .i64 0), .val (.int .i64 0), .val (.int .i64 0)]) [], .mk none none (.store 5 (.tmp 3) (.tmp 10)) []]) (.seq (.row [.mk (some 11) none
 (.mov (.tmp 0)) [], .mk (some 12) none (.call (.func 201) [.tmp 11, .const (.string (ByteArray.mk #[45]))]) [], .mk (some 13) none (.mov (.tmp 12)) [], .mk (some 14) (some (13, false)) (.mov (.tmp 0)) [], .mk (some 15) (some (13, false))
 (.call (.func 201) [.tmp 14, .const (.string (ByteArray.mk #[33]))]) [], .mk (some 16) none (.pick (.tmp 13) (.const (.bool true)) (.tmp 15)) []]) (.cond (.tmp 16) (.seq (.row [.mk (some 17) none (.fieldA 1 (.tmp 3)) [], .mk (some 18) none
 (.load none (.tmp 17)) [], .mk (some 19) none (.mov (.tmp 0)) [], .mk (some 22) none (.fieldA 3 (.tmp 3)) [], .mk (some 23) none (.load none (.tmp 22)) [], .mk (some 20) none (.call (.func 173) [.tmp 19]) [(18, none, .load none (.tmp 17)),
 (23, none, .load none (.tmp 22))], .mk (some 21) none (.lits 5 [.val (.int .i64 0), .val (.string (ByteArray.mk #[])), .val (.int .i64 0), .sl [] [] .full, .val (.int .i64 0)] 1 [(0, .tmp 20)]) [], .mk (some 24) none (.build [.val (.int
 .i64 0), .val (.string (ByteArray.mk #[])), .val (.int .i64 0), .sl [] [] .full, .val (.int .i64 0)] [(0, 1, .const (.int .i64 6)), (1, 1, .tmp 18), (3, 1, .tmp 21), (4, 1, .tmp 23)]) [], .mk none none (.store 5 (.tmp 2) (.tmp 24)) []])
 .ret) .skip))) (.seq (.row [.mk (some 25) none (.mov (.tmp 0)) [], .mk (some 26) none (.call (.func 202) [.tmp 25]) [], .mk (some 4) none (.alloc 170 [.val (.int .i64 0), .val (.string (ByteArray.mk #[])), .val (.int .i64 0), .sl [] []
 .full, .val (.int .i64 0)]) [], .mk none none (.store 5 (.tmp 4) (.tmp 26)) []]) (.block 0 (.loop (.block 1 (.block 2 (.seq (.row [.mk (some 29) none (.mov (.tmp 0)) [], .mk (some 30) none (.call (.func 201) [.tmp 29, .const (.string
 (ByteArray.mk #[91]))]) [], .mk (some 28) none (.mov (.tmp 30)) []]) (.cond (.tmp 28) (.seq (.row [.mk (some 31) none (.load (some 5) (.tmp 4)) [], .mk (some 32) none (.mov (.tmp 0)) [], .mk (some 35) none (.fieldA 4 (.tmp 4)) [], .mk (some
 36) none (.load none (.tmp 35)) [], .mk (some 33) none (.call (.func 146) [.tmp 32, .const (.int .i64 0)]) [(31, none, .load (some 5) (.tmp 4)), (36, none, .load none (.tmp 35))], .mk (some 34) none (.lits 5 [.val (.int .i64 0), .val
 (.string (ByteArray.mk #[])), .val (.int .i64 0), .sl [] [] .full, .val (.int .i64 0)] 2 [(0, .tmp 31), (1, .tmp 33)]) [], .mk (some 37) none (.build [.val (.int .i64 0), .val (.string (ByteArray.mk #[])), .val (.int .i64 0), .sl [] []
 .full, .val (.int .i64 0)] [(0, 1, .const (.int .i64 8)), (3, 1, .tmp 34), (4, 1, .tmp 36)]) [], .mk none none (.store 5 (.tmp 4) (.tmp 37)) []]) (.row [.mk (some 38) none (.mov (.tmp 0)) [], .mk (some 39) none (.call (.func 175) [.tmp 38,
 .const (.string (ByteArray.mk #[93]))]) []])) (.seq (.row [.mk (some 41) none (.mov (.tmp 0)) [], .mk (some 42) none (.call (.func 201) [.tmp 41, .const (.string (ByteArray.mk #[46]))]) [], .mk (some 40) none (.mov (.tmp 42)) []]) (.cond
 (.tmp 40) (.row [.mk (some 43) none (.mov (.tmp 0)) [], .mk (some 45) none (.load (some 5) (.tmp 4)) [], .mk (some 46) none (.lits 5 [.val (.int .i64 0), .val (.string (ByteArray.mk #[])), .val (.int .i64 0), .sl [] [] .full, .val (.int
 .i64 0)] 1 [(0, .tmp 45)]) [], .mk (some 47) none (.fieldA 4 (.tmp 4)) [], .mk (some 48) none (.load none (.tmp 47)) [], .mk (some 44) none (.call (.func 203) [.tmp 43]) [(45, none, .load (some 5) (.tmp 4)), (48, none, .load none (.tmp
 47))], .mk (some 49) none (.build [.val (.int .i64 0), .val (.string (ByteArray.mk #[])), .val (.int .i64 0), .sl [] [] .full, .val (.int .i64 0)] [(0, 1, .const (.int .i64 9)), (1, 1, .tmp 44), (3, 1, .tmp 46), (4, 1, .tmp 48)]) [], .mk
 none none (.store 5 (.tmp 4) (.tmp 49)) []]) (.seq (.row [.mk (some 27) none (.load (some 5) (.tmp 4)) [], .mk none none (.store 5 (.tmp 2) (.tmp 27)) []]) .ret))))))))))))
theorem F173_ok : compFn Tryz.prog (byId h173) 173 = some F173 := by kernel_rfl
def h182 : List (Nat × List (Nat × List Nat) × List Nat) := [(12, [(0, []), (1, []), (4, []), (5, []), (2, [0, 5]), (3, []), (6, []), (7, [])], [0, 0, 2, 7, 0, 16, 63, 127]), (15, [(0, []), (2, []), (3, []), (4, []), (5, []), (1, [2, 5]), (6, []), (7, [])], [0, 1, 0, 4, 0, 16, 63, 127])]
def F182 : AFn :=
 AFn.mk 57 [.cell 2 (some 5)] (.seq (.row [.mk (some 2) none (.alloc 170 [.val (.int .i64 0), .val (.string (ByteArray.mk #[])), .val (.int .i64 0), .sl [] [] .full, .val (.int .i64 0)]) []]) (.seq (.row [.mk (some 7) none (.mov (.tmp 0))
 [], .mk (some 8) none (.call (.func 154) [.tmp 7]) [], .mk (some 9) none (.field 3 none (.tmp 8)) [], .mk (some 3) none (.mov (.tmp 9)) []]) (.seq (.seq (.row [.mk (some 10) none (.lits 1 [.val (.string (ByteArray.mk #[]))] 2 [(0, .const
 (.string (ByteArray.mk #[45]))), (1, .const (.string (ByteArray.mk #[33])))]) [], .mk (some 11) none (.len false (.tmp 10)) [], .mk (some 12) none (.mov (.const (.int .i64 0))) []]) (.block 0 (.loop (.seq (.row [.mk (some 13) none (.bin
 .lss 3 .other (.tmp 12) (.tmp 11)) []]) (.seq (.cond (.tmp 13) .skip (.exit 0)) (.seq (.block 1 (.seq (.row [.mk (some 14) none (.idxL 1 (.tmp 10) (.tmp 12)) [], .mk (some 15) none (.load none (.tmp 14)) [], .mk (some 5) none (.mov (.tmp
 15)) []]) (.seq (.row [.mk (some 16) none (.mov (.tmp 0)) [], .mk (some 17) none (.mov (.tmp 5)) [], .mk (some 18) none (.call (.func 209) [.tmp 16, .tmp 17]) []]) (.cond (.tmp 18) (.seq (.row [.mk (some 19) none (.mov (.tmp 5)) [], .mk
 (some 20) none (.mov (.tmp 0)) [], .mk (some 21) none (.call (.func 182) [.tmp 20]) [], .mk (some 22) none (.lits 5 [.val (.int .i64 0), .val (.string (ByteArray.mk #[])), .val (.int .i64 0), .sl [] [] .full, .val (.int .i64 0)] 1 [(0, .tmp
 21)]) [], .mk (some 23) none (.mov (.tmp 3)) [], .mk (some 24) none (.build [.val (.int .i64 0), .val (.string (ByteArray.mk #[])), .val (.int .i64 0), .sl [] [] .full, .val (.int .i64 0)] [(0, 1, .const (.int .i64 6)), (1, 1, .tmp 19), (3,
 1, .tmp 22), (4, 1, .tmp 23)]) [], .mk none none (.store 5 (.tmp 2) (.tmp 24)) []]) .ret) .skip)))) (.row [.mk (some 25) none (.bin .add 3 .other (.tmp 12) (.const (.int .i64 1))) [], .mk (some 12) none (.mov (.tmp 25)) []]))))))) (.seq
 (.row [.mk (some 26) none (.mov (.tmp 0)) [], .mk (some 27) none (.call (.func 210) [.tmp 26]) [], .mk (some 6) none (.alloc 170 [.val (.int .i64 0), .val (.string (ByteArray.mk #[])), .val (.int .i64 0), .sl [] [] .full, .val (.int .i64
 0)]) [], .mk none none (.store 5 (.tmp 6) (.tmp 27)) []]) (.seq (.block 2 (.loop (.seq (.seq (.row [.mk (some 28) none (.mov (.tmp 0)) [], .mk (some 29) none (.nilc (.tmp 28)) [], .mk (some 30) none (.fieldA 2 (.tmp 29)) [], .mk (some 31)
 none (.load none (.tmp 30)) [], .mk (some 32) none (.un .not (.tmp 31)) []]) (.cond (.tmp 32) .skip (.exit 2))) (.block 3 (.block 4 (.seq (.row [.mk (some 35) none (.mov (.tmp 0)) [], .mk (some 36) none (.call (.func 209) [.tmp 35, .const
 (.string (ByteArray.mk #[91]))]) [], .mk (some 34) none (.mov (.tmp 36)) []]) (.cond (.tmp 34) (.seq (.row [.mk (some 37) none (.load (some 5) (.tmp 6)) [], .mk (some 38) none (.mov (.tmp 0)) [], .mk (some 41) none (.fieldA 4 (.tmp 6)) [],
 .mk (some 42) none (.load none (.tmp 41)) [], .mk (some 39) none (.call (.func 153) [.tmp 38, .const (.int .i64 0)]) [(37, none, .load (some 5) (.tmp 6)), (42, none, .load none (.tmp 41))], .mk (some 40) none (.lits 5 [.val (.int .i64 0),
 .val (.string (ByteArray.mk #[])), .val (.int .i64 0), .sl [] [] .full, .val (.int .i64 0)] 2 [(0, .tmp 37), (1, .tmp 39)]) [], .mk (some 43) none (.build [.val (.int .i64 0), .val (.string (ByteArray.mk #[])), .val (.int .i64 0), .sl [] []
 .full, .val (.int .i64 0)] [(0, 1, .const (.int .i64 8)), (3, 1, .tmp 40), (4, 1, .tmp 42)]) [], .mk none none (.store 5 (.tmp 6) (.tmp 43)) []]) (.row [.mk (some 44) none (.mov (.tmp 0)) [], .mk (some 45) none (.call (.func 211) [.tmp 44,
 .const (.string (ByteArray.mk #[93]))]) []])) (.seq (.row [.mk (some 47) none (.mov (.tmp 0)) [], .mk (some 48) none (.call (.func 209) [.tmp 47, .const (.string (ByteArray.mk #[46]))]) [], .mk (some 46) none (.mov (.tmp 48)) []]) (.cond
 (.tmp 46) (.row [.mk (some 49) none (.mov (.tmp 0)) [], .mk (some 51) none (.load (some 5) (.tmp 6)) [], .mk (some 52) none (.lits 5 [.val (.int .i64 0), .val (.string (ByteArray.mk #[])), .val (.int .i64 0), .sl [] [] .full, .val (.int
 .i64 0)] 1 [(0, .tmp 51)]) [], .mk (some 53) none (.fieldA 4 (.tmp 6)) [], .mk (some 54) none (.load none (.tmp 53)) [], .mk (some 50) none (.call (.func 212) [.tmp 49]) [(51, none, .load (some 5) (.tmp 6)), (54, none, .load none (.tmp
 53))], .mk (some 55) none (.build [.val (.int .i64 0), .val (.string (ByteArray.mk #[])), .val (.int .i64 0), .sl [] [] .full, .val (.int .i64 0)] [(0, 1, .const (.int .i64 9)), (1, 1, .tmp 50), (3, 1, .tmp 52), (4, 1, .tmp 54)]) [], .mk
 none none (.store 5 (.tmp 6) (.tmp 55)) []]) (.seq (.row [.mk (some 33) none (.load (some 5) (.tmp 6)) [], .mk none none (.store 5 (.tmp 2) (.tmp 33)) []]) .ret)))))))))) (.seq (.row [.mk (some 56) none (.load (some 5) (.tmp 6)) [], .mk
 none none (.store 5 (.tmp 2) (.tmp 56)) []]) .ret))))))
theorem F182_ok : compFn Tryz.prog (byId h182) 182 = some F182 := by kernel_rfl
def h196 : List (Nat × List (Nat × List Nat) × List Nat) := []
def F196 : AFn :=
 AFn.mk 4 [.tmp 2] (.seq (.row [.mk (some 1) none (.box 243 (.tmp 0)) [], .mk (some 2) none (.mov (.const .nilFunc)) []]) (.seq (.row [.mk (some 3) none (.mkf (.func 216) [] [.tmp 1]) [], .mk (some 2) none (.mov (.tmp 3)) []]) .ret))
theorem F196_ok : compFn Tryz.prog (byId h196) 196 = some F196 := by kernel_rfl
def h206 : List (Nat × List (Nat × List Nat) × List Nat) := []
def F206 : AFn :=
 AFn.mk 27 [.tmp 2] (.seq (.row [.mk (some 2) none (.mov (.const (.int .i64 0))) []]) (.seq (.row [.mk (some 3) none (.mov (.const (.int .i64 0))) []]) (.seq (.seq (.row [.mk (some 4) none (.mov (.const (.int .i64 0))) []]) (.block 0 (.loop
 (.seq (.seq (.row [.mk (some 6) none (.mov (.tmp 4)) [], .mk (some 7) none (.mov (.tmp 0)) [], .mk (some 8) none (.len true (.tmp 7)) [], .mk (some 9) none (.bin .lss 3 .other (.tmp 6) (.tmp 8)) []]) (.cond (.tmp 9) .skip (.exit 0))) (.seq
 (.block 1 (.seq (.row [.mk (some 12) none (.mov (.tmp 0)) [], .mk (some 13) none (.mov (.tmp 4)) [], .mk (some 14) none (.idxStr (.tmp 12) (.tmp 13)) [], .mk (some 15) none (.bin .sub 5 .other (.tmp 14) (.const (.int .u8 48))) [], .mk (some
 16) none (.conv 5 3 (.tmp 15)) [], .mk (some 5) none (.mov (.tmp 16)) []]) (.seq (.seq (.row [.mk (some 17) none (.mov (.tmp 3)) [], .mk (some 18) none (.mov (.tmp 5)) [], .mk (some 19) none (.bin .sub 3 .other (.const (.int .i64
 9223372036854775807)) (.tmp 18)) [], .mk (some 20) none (.bin .quo 3 .other (.tmp 19) (.const (.int .i64 10))) [], .mk (some 21) none (.bin .gtr 3 .other (.tmp 17) (.tmp 20)) []]) (.cond (.tmp 21) (.seq (.row [.mk (some 2) none (.mov
 (.const (.int .i64 (-1)))) []]) .ret) .skip)) (.row [.mk (some 22) none (.mov (.tmp 3)) [], .mk (some 23) none (.bin .mul 3 .other (.const (.int .i64 10)) (.tmp 22)) [], .mk (some 24) none (.mov (.tmp 5)) [], .mk (some 25) none (.bin .add 3
 .other (.tmp 23) (.tmp 24)) [], .mk (some 3) none (.mov (.tmp 25)) []])))) (.row [.mk (some 10) none (.mov (.tmp 4)) [], .mk (some 11) none (.bin .add 3 .other (.tmp 10) (.const (.int .i64 1))) [], .mk (some 4) none (.mov (.tmp 11))
 []])))))) (.seq (.row [.mk (some 26) none (.mov (.tmp 3)) [], .mk (some 2) none (.mov (.tmp 26)) []]) .ret))))
theorem F206_ok : compFn Tryz.prog (byId h206) 206 = some F206 := by kernel_rfl
def h210 : List (Nat × List (Nat × List Nat) × List Nat) := [(7, [(0, []), (1, []), (2, []), (3, [1]), (4, []), (5, [])], [0, 1, 0, 4, 15, 31]), (10, [(0, []), (1, []), (2, []), (3, [1]), (4, []), (5, [])], [0, 1, 0, 4, 15, 31]), (26, [(0, []), (1, []), (2, []), (3, [1]), (4, []), (5, [])], [0, 1,
 0, 4, 15, 31])]
def F210 : AFn :=
 AFn.mk 105 [.cell 2 (some 5)] (.seq (.row [.mk (some 2) none (.alloc 170 [.val (.int .i64 0), .val (.string (ByteArray.mk #[])), .val (.int .i64 0), .sl [] [] .full, .val (.int .i64 0)]) []]) (.seq (.row [.mk (some 5) none (.mov (.tmp 0))
 [], .mk (some 6) none (.call (.func 154) [.tmp 5]) [], .mk (some 3) none (.alloc 179 [.val (.int .i64 0), .val (.string (ByteArray.mk #[])), .val (.int .i64 0), .val (.int .i64 0), .val (.int .i64 0)]) [], .mk none none (.store 5 (.tmp 3)
 (.tmp 6)) []]) (.seq (.row [.mk (some 7) none (.fieldA 3 (.tmp 3)) [], .mk (some 8) none (.load none (.tmp 7)) [], .mk (some 9) none (.build [.val (.int .i64 0), .val (.string (ByteArray.mk #[])), .val (.int .i64 0), .sl [] [] .full, .val
 (.int .i64 0)] [(4, 1, .tmp 8)]) [], .mk (some 4) none (.alloc 170 [.val (.int .i64 0), .val (.string (ByteArray.mk #[])), .val (.int .i64 0), .sl [] [] .full, .val (.int .i64 0)]) [], .mk none none (.store 5 (.tmp 4) (.tmp 9)) []]) (.seq
 (.block 0 (.seq (.row [.mk (some 14) none (.mov (.tmp 0)) [], .mk (some 15) none (.nilc (.tmp 14)) [], .mk (some 16) none (.fieldA 2 (.tmp 15)) [], .mk (some 17) none (.load none (.tmp 16)) [], .mk (some 13) none (.mov (.tmp 17)) []])
 (.cond (.tmp 13) .skip (.seq (.row [.mk (some 19) none (.fieldA 0 (.tmp 3)) [], .mk (some 20) none (.load none (.tmp 19)) [], .mk (some 21) none (.bin .eql 177 .other (.tmp 20) (.const (.int .i64 2))) [], .mk (some 18) none (.mov (.tmp 21))
 []]) (.cond (.tmp 18) (.seq (.row [.mk (some 22) none (.mov (.tmp 0)) [], .mk (some 23) none (.nilc (.tmp 22)) [], .mk (some 24) none (.fieldA 1 (.tmp 23)) [], .mk (some 25) none (.load none (.tmp 24)) [], .mk (some 26) none (.bin .add 3
 .other (.tmp 25) (.const (.int .i64 1))) [], .mk (some 27) none (.nilc (.tmp 22)) [], .mk (some 28) none (.fieldA 1 (.tmp 27)) [], .mk none none (.store 1 (.tmp 28) (.tmp 26)) []]) (.row [.mk (some 29) none (.fieldA 2 (.tmp 3)) [], .mk
 (some 30) none (.load none (.tmp 29)) [], .mk (some 31) none (.fieldA 0 (.tmp 4)) [], .mk none none (.store 1 (.tmp 31) (.const (.int .i64 1))) [(30, none, .load none (.tmp 29))], .mk (some 32) none (.fieldA 2 (.tmp 4)) [], .mk none none
 (.store 1 (.tmp 32) (.tmp 30)) []])) (.seq (.row [.mk (some 34) none (.fieldA 0 (.tmp 3)) [], .mk (some 35) none (.load none (.tmp 34)) [], .mk (some 36) none (.bin .eql 177 .other (.tmp 35) (.const (.int .i64 3))) [], .mk (some 33) none
 (.mov (.tmp 36)) []]) (.cond (.tmp 33) (.seq (.row [.mk (some 37) none (.mov (.tmp 0)) [], .mk (some 38) none (.nilc (.tmp 37)) [], .mk (some 39) none (.fieldA 1 (.tmp 38)) [], .mk (some 40) none (.load none (.tmp 39)) [], .mk (some 41)
 none (.bin .add 3 .other (.tmp 40) (.const (.int .i64 1))) [], .mk (some 42) none (.nilc (.tmp 37)) [], .mk (some 43) none (.fieldA 1 (.tmp 42)) [], .mk none none (.store 1 (.tmp 43) (.tmp 41)) []]) (.row [.mk (some 44) none (.fieldA 1
 (.tmp 3)) [], .mk (some 45) none (.load none (.tmp 44)) [], .mk (some 46) none (.fieldA 0 (.tmp 4)) [], .mk none none (.store 1 (.tmp 46) (.const (.int .i64 3))) [(45, none, .load none (.tmp 44))], .mk (some 47) none (.fieldA 1 (.tmp 4))
 [], .mk none none (.store 1 (.tmp 47) (.tmp 45)) []])) (.seq (.row [.mk (some 49) none (.mov (.tmp 0)) [], .mk (some 50) none (.call (.func 209) [.tmp 49, .const (.string (ByteArray.mk #[116, 114, 117, 101]))]) [], .mk (some 48) none (.mov
 (.tmp 50)) []]) (.cond (.tmp 48) (.row [.mk (some 51) none (.fieldA 0 (.tmp 4)) [], .mk none none (.store 1 (.tmp 51) (.const (.int .i64 2))) [], .mk (some 52) none (.fieldA 2 (.tmp 4)) [], .mk none none (.store 1 (.tmp 52) (.const (.int
 .i64 1))) []]) (.seq (.row [.mk (some 54) none (.mov (.tmp 0)) [], .mk (some 55) none (.call (.func 209) [.tmp 54, .const (.string (ByteArray.mk #[102, 97, 108, 115, 101]))]) [], .mk (some 53) none (.mov (.tmp 55)) []]) (.cond (.tmp 53)
 (.row [.mk (some 56) none (.fieldA 0 (.tmp 4)) [], .mk none none (.store 1 (.tmp 56) (.const (.int .i64 2))) []]) (.seq (.row [.mk (some 58) none (.mov (.tmp 0)) [], .mk (some 59) none (.call (.func 209) [.tmp 58, .const (.string
 (ByteArray.mk #[110, 101, 119]))]) [], .mk (some 57) none (.mov (.tmp 59)) []]) (.cond (.tmp 57) (.seq (.row [.mk (some 60) none (.mov (.tmp 0)) [], .mk (some 61) none (.call (.func 212) [.tmp 60]) [], .mk (some 62) none (.fieldA 0 (.tmp
 4)) [], .mk none none (.store 1 (.tmp 62) (.const (.int .i64 11))) [], .mk (some 63) none (.fieldA 1 (.tmp 4)) [], .mk none none (.store 1 (.tmp 63) (.tmp 61)) []]) (.seq (.row [.mk (some 64) none (.mov (.tmp 0)) [], .mk (some 65) none
 (.call (.func 211) [.tmp 64, .const (.string (ByteArray.mk #[40]))]) []]) (.row [.mk (some 66) none (.mov (.tmp 0)) [], .mk (some 67) none (.call (.func 227) [.tmp 66, .const (.string (ByteArray.mk #[41])), .const (.bool false)]) [], .mk
 (some 68) none (.fieldA 3 (.tmp 4)) [], .mk none none (.store 1 (.tmp 68) (.tmp 67)) []]))) (.seq (.row [.mk (some 70) none (.mov (.tmp 0)) [], .mk (some 71) none (.call (.func 209) [.tmp 70, .const (.string (ByteArray.mk #[91]))]) [], .mk
 (some 69) none (.mov (.tmp 71)) []]) (.cond (.tmp 69) (.row [.mk (some 72) none (.mov (.tmp 0)) [], .mk (some 73) none (.call (.func 227) [.tmp 72, .const (.string (ByteArray.mk #[93])), .const (.bool true)]) [], .mk (some 74) none (.fieldA
 0 (.tmp 4)) [], .mk none none (.store 1 (.tmp 74) (.const (.int .i64 10))) [], .mk (some 75) none (.fieldA 3 (.tmp 4)) [], .mk none none (.store 1 (.tmp 75) (.tmp 73)) []]) (.seq (.row [.mk (some 77) none (.mov (.tmp 0)) [], .mk (some 78)
 none (.call (.func 209) [.tmp 77, .const (.string (ByteArray.mk #[40]))]) [], .mk (some 76) none (.mov (.tmp 78)) []]) (.cond (.tmp 76) (.seq (.row [.mk (some 79) none (.mov (.tmp 0)) [], .mk (some 80) none (.call (.func 153) [.tmp 79,
 .const (.int .i64 0)]) [], .mk none none (.store 5 (.tmp 4) (.tmp 80)) []]) (.row [.mk (some 81) none (.mov (.tmp 0)) [], .mk (some 82) none (.call (.func 211) [.tmp 81, .const (.string (ByteArray.mk #[41]))]) []])) (.seq (.row [.mk (some
 84) none (.fieldA 0 (.tmp 3)) [], .mk (some 85) none (.load none (.tmp 84)) [], .mk (some 86) none (.bin .eql 177 .other (.tmp 85) (.const (.int .i64 1))) [], .mk (some 83) none (.mov (.tmp 86)) []]) (.cond (.tmp 83) (.seq (.row [.mk (some
 87) none (.mov (.tmp 0)) [], .mk (some 88) none (.nilc (.tmp 87)) [], .mk (some 89) none (.fieldA 1 (.tmp 88)) [], .mk (some 90) none (.load none (.tmp 89)) [], .mk (some 91) none (.bin .add 3 .other (.tmp 90) (.const (.int .i64 1))) [],
 .mk (some 92) none (.nilc (.tmp 87)) [], .mk (some 93) none (.fieldA 1 (.tmp 92)) [], .mk none none (.store 1 (.tmp 93) (.tmp 91)) []]) (.seq (.row [.mk (some 94) none (.fieldA 1 (.tmp 3)) [], .mk (some 95) none (.load none (.tmp 94)) [],
 .mk (some 96) none (.fieldA 0 (.tmp 4)) [], .mk none none (.store 1 (.tmp 96) (.const (.int .i64 4))) [(95, none, .load none (.tmp 94))], .mk (some 97) none (.fieldA 1 (.tmp 4)) [], .mk none none (.store 1 (.tmp 97) (.tmp 95)) []]) (.seq
 (.row [.mk (some 98) none (.mov (.tmp 0)) [], .mk (some 99) none (.call (.func 209) [.tmp 98, .const (.string (ByteArray.mk #[40]))]) []]) (.cond (.tmp 99) (.row [.mk (some 100) none (.mov (.tmp 0)) [], .mk (some 101) none (.call (.func
 227) [.tmp 100, .const (.string (ByteArray.mk #[41])), .const (.bool false)]) [], .mk (some 102) none (.fieldA 0 (.tmp 4)) [], .mk none none (.store 1 (.tmp 102) (.const (.int .i64 5))) [], .mk (some 103) none (.fieldA 3 (.tmp 4)) [], .mk
 none none (.store 1 (.tmp 103) (.tmp 101)) []]) .skip)))) (.row [.mk (some 10) none (.mov (.tmp 0)) [], .mk (some 11) none (.nilc (.tmp 10)) [], .mk (some 12) none (.fieldA 2 (.tmp 11)) [], .mk none none (.store 1 (.tmp 12) (.const (.bool
 true))) []])))))))))))))))))))) (.seq (.row [.mk (some 104) none (.load (some 5) (.tmp 4)) [], .mk none none (.store 5 (.tmp 2) (.tmp 104)) []]) .ret)))))
theorem F210_ok : compFn Tryz.prog (byId h210) 210 = some F210 := by kernel_rfl
def h217 : List (Nat × List (Nat × List Nat) × List Nat) := [(0, [(0, []), (1, []), (2, []), (3, []), (4, []), (5, []), (6, []), (7, []), (8, []), (9, [])], [0, 1, 3, 7, 0, 16, 48, 112, 255, 511]), (7, [(0, []), (1, []), (2, []), (3, []), (4, []), (5, [3]), (6, []), (7, []), (8, []), (9, [])], [0,
 1, 3, 7, 0, 16, 63, 127, 255, 511])]
def F217 : AFn :=
 AFn.mk 55 [] (.block 0 (.loop (.block 1 (.seq (.row [.mk (some 3) none (.mov (.tmp 0)) [], .mk (some 4) none (.nilc (.tmp 3)) [], .mk (some 5) none (.fieldA 0 (.tmp 4)) [], .mk (some 6) none (.load none (.tmp 5)) [], .mk (some 7) none (.mov
 (.tmp 0)) [], .mk (some 8) none (.nilc (.tmp 7)) [], .mk (some 9) none (.fieldA 1 (.tmp 8)) [], .mk (some 10) none (.load none (.tmp 9)) [], .mk (some 11) none (.sliceS (.tmp 6) (some (.tmp 10)) none) [], .mk (some 2) none (.mov (.tmp 11))
 []]) (.block 2 (.seq (.row [.mk (some 13) none (.mov (.tmp 2)) [], .mk (some 14) none (.call (.func 188) [.tmp 13, .const (.string (ByteArray.mk #[10]))]) [], .mk (some 12) none (.mov (.tmp 14)) []]) (.cond (.tmp 12) (.seq (.row [.mk (some
 15) none (.mov (.tmp 0)) [], .mk (some 16) none (.nilc (.tmp 15)) [], .mk (some 17) none (.fieldA 2 (.tmp 16)) [], .mk (some 18) none (.load none (.tmp 17)) [], .mk (some 19) none (.bin .add 3 .other (.tmp 18) (.const (.int .i64 1))) [],
 .mk (some 20) none (.nilc (.tmp 15)) [], .mk (some 21) none (.fieldA 2 (.tmp 20)) [], .mk none none (.store 1 (.tmp 21) (.tmp 19)) []]) (.row [.mk (some 22) none (.mov (.tmp 0)) [], .mk (some 23) none (.nilc (.tmp 22)) [], .mk (some 24)
 none (.fieldA 1 (.tmp 23)) [], .mk (some 25) none (.load none (.tmp 24)) [], .mk (some 26) none (.bin .add 3 .other (.tmp 25) (.const (.int .i64 1))) [], .mk (some 27) none (.nilc (.tmp 22)) [], .mk (some 28) none (.fieldA 1 (.tmp 27)) [],
 .mk none none (.store 1 (.tmp 28) (.tmp 26)) []])) (.seq (.row [.mk (some 30) none (.mov (.tmp 2)) [], .mk (some 31) none (.call (.func 188) [.tmp 30, .const (.string (ByteArray.mk #[32]))]) [], .mk (some 32) none (.mov (.tmp 31)) [], .mk
 (some 33) (some (32, false)) (.mov (.tmp 2)) [], .mk (some 34) (some (32, false)) (.call (.func 188) [.tmp 33, .const (.string (ByteArray.mk #[9]))]) [], .mk (some 35) none (.pick (.tmp 32) (.const (.bool true)) (.tmp 34)) [], .mk (some 29)
 none (.mov (.tmp 35)) []]) (.cond (.tmp 29) (.row [.mk (some 36) none (.mov (.tmp 0)) [], .mk (some 37) none (.nilc (.tmp 36)) [], .mk (some 38) none (.fieldA 1 (.tmp 37)) [], .mk (some 39) none (.load none (.tmp 38)) [], .mk (some 40) none
 (.bin .add 3 .other (.tmp 39) (.const (.int .i64 1))) [], .mk (some 41) none (.nilc (.tmp 36)) [], .mk (some 42) none (.fieldA 1 (.tmp 41)) [], .mk none none (.store 1 (.tmp 42) (.tmp 40)) []]) (.seq (.row [.mk (some 44) none (.mov (.tmp
 2)) [], .mk (some 45) none (.call (.func 188) [.tmp 44, .const (.string (ByteArray.mk #[47, 47]))]) [], .mk (some 43) none (.mov (.tmp 45)) []]) (.cond (.tmp 43) (.row [.mk (some 46) none (.mov (.tmp 0)) [], .mk (some 47) none (.nilc (.tmp
 46)) [], .mk (some 48) none (.fieldA 1 (.tmp 47)) [], .mk (some 49) none (.load none (.tmp 48)) [], .mk (some 50) none (.mov (.tmp 2)) [], .mk (some 51) none (.call (.func 185) [.tmp 50, .func 231]) [(49, none, .load none (.tmp 48))], .mk
 (some 52) none (.bin .add 3 .other (.tmp 49) (.tmp 51)) [], .mk (some 53) none (.nilc (.tmp 46)) [], .mk (some 54) none (.fieldA 1 (.tmp 53)) [], .mk none none (.store 1 (.tmp 54) (.tmp 52)) []]) .ret)))))))))))
theorem F217_ok : compFn Tryz.prog (byId h217) 217 = some F217 := by kernel_rfl
def h224 : List (Nat × List (Nat × List Nat) × List Nat) := []
def F224 : AFn :=
 AFn.mk 5 [.cell 2 (some 5)] (.seq (.row [.mk (some 2) none (.alloc 170 [.val (.int .i64 0), .val (.string (ByteArray.mk #[])), .val (.int .i64 0), .sl [] [] .full, .val (.int .i64 0)]) []]) (.seq (.row [.mk (some 3) none (.mov (.tmp 0)) [],
 .mk (some 4) none (.call (.func 146) [.tmp 3, .const (.int .i64 0)]) [], .mk none none (.store 5 (.tmp 2) (.tmp 4)) []]) .ret))
theorem F224_ok : compFn Tryz.prog (byId h224) 224 = some F224 := by kernel_rfl
def h231 : List (Nat × List (Nat × List Nat) × List Nat) := []
def F231 : AFn :=
 AFn.mk 5 [.tmp 2] (.seq (.row [.mk (some 2) none (.mov (.const (.bool false))) []]) (.seq (.row [.mk (some 3) none (.mov (.tmp 0)) [], .mk (some 4) none (.bin .neq 5 .other (.tmp 3) (.const (.int .u8 10))) [], .mk (some 2) none (.mov (.tmp
 4)) []]) .ret))
theorem F231_ok : compFn Tryz.prog (byId h231) 231 = some F231 := by kernel_rfl
def h243 : List (Nat × List (Nat × List Nat) × List Nat) := []
def F243 : AFn :=
 AFn.mk 8 [.tmp 2] (.seq (.row [.mk (some 2) none (.mov (.const (.int .i64 0))) []]) (.seq (.row [.mk (some 3) none (.mov (.tmp 0)) [], .mk (some 4) none (.nilc (.tmp 3)) [], .mk (some 5) none (.fieldA 1 (.tmp 4)) [], .mk (some 6) none
 (.load none (.tmp 5)) [], .mk (some 7) none (.len false (.tmp 6)) [], .mk (some 2) none (.mov (.tmp 7)) []]) .ret))
theorem F243_ok : compFn Tryz.prog (byId h243) 243 = some F243 := by kernel_rfl
def h144 : List (Nat × List (Nat × List Nat) × List Nat) := [(3, [(0, []), (1, []), (2, []), (3, [1, 2]), (4, [2]), (5, [])], [0, 0, 0, 1, 11, 31])]
def D144 : DFn :=
 DFn.mk 38 [.cell 4 (some 5), .cell 5 none, .cell 6 none] (DCode.seq (.row [.mk (some 4) none (.alloc 170 [.val (.int .i64 0), .val (.string (ByteArray.mk #[])), .val (.int .i64 0), .sl [] [] .full, .val (.int .i64 0)]) [], .mk (some 5) none
 (.alloc 3 [.val (.int .i64 0)]) [], .mk (some 6) none (.alloc 25 [.val (.int .i64 0)]) []]) (DCode.seq (.row [.mk (some 10) none (.mov (.tmp 0)) [], .mk (some 11) none (.call (.func 169) [.tmp 10]) [], .mk (some 9) none (.mov (.tmp 11)) [],
 .mk (some 12) none (.ext (.tmp 9) 0) [], .mk (some 13) none (.ext (.tmp 9) 1) [], .mk (some 14) none (.ext (.tmp 9) 2) [], .mk (some 7) none (.mov (.tmp 12)) [], .mk none none (.store 1 (.tmp 5) (.tmp 13)) [], .mk none none (.store 1 (.tmp
 6) (.tmp 14)) []]) (DCode.seq (.seq (.row [.mk (some 15) none (.load none (.tmp 6)) [], .mk (some 16) none (.bin .neq 25 .other (.tmp 15) (.const (.int .i64 0))) []]) (.cond (.tmp 16) (.seq (.row [.mk (some 17) none (.load (some 5) (.tmp
 4)) [], .mk (some 18) none (.load none (.tmp 5)) [], .mk (some 19) none (.load none (.tmp 6)) [], .mk none none (.store 5 (.tmp 4) (.tmp 17)) [(18, none, .load none (.tmp 5)), (19, none, .load none (.tmp 6))], .mk none none (.store 1 (.tmp
 5) (.tmp 18)) [(19, none, .load none (.tmp 6))], .mk none none (.store 1 (.tmp 6) (.tmp 19)) []]) .ret) .skip)) (DCode.defer [.mk (some 20) none (.mkf (.func 170) [] [.tmp 4, .tmp 5, .tmp 6]) []] (.tmp 20) none (.seq (.row [.mk (some 21)
 none (.mov (.tmp 7)) [], .mk (some 22) none (.build [.sl [] [] .full] [(0, 1, .tmp 21)]) [], .mk (some 23) none (.box 222 (.tmp 22)) [], .mk (some 8) none (.mov (.tmp 23)) []]) (.seq (.row [.mk (some 24) none (.mov (.tmp 1)) [], .mk (some
 25) none (.mov (.tmp 8)) [], .mk (some 26) none (.call (.tmp 24) [.tmp 25]) [], .mk none none (.store 5 (.tmp 4) (.tmp 26)) []]) (.seq (.seq (.row [.mk (some 27) none (.mov (.tmp 8)) [], .mk (some 28) none (.nilc (.tmp 27)) [], .mk (some
 29) none (.fieldA 0 (.tmp 28)) [], .mk (some 30) none (.load none (.tmp 29)) [], .mk (some 31) none (.idxL 5 (.tmp 30) (.const (.int .i64 0))) [], .mk (some 32) none (.fieldA 0 (.tmp 31)) [], .mk (some 33) none (.load none (.tmp 32)) [],
 .mk (some 34) none (.bin .neq 177 .other (.tmp 33) (.const (.int .i64 0))) []]) (.cond (.tmp 34) (.row [.mk (some 35) none (.mov (.tmp 8)) [], .mk (some 36) none (.call (.func 172) [.tmp 35]) []]) (.code .skip))) (.seq (.row [.mk (some 37)
 none (.load (some 5) (.tmp 4)) [], .mk none none (.store 5 (.tmp 4) (.tmp 37)) [], .mk none none (.store 1 (.tmp 5) (.const (.int .i64 0))) [], .mk none none (.store 1 (.tmp 6) (.const (.int .i64 0))) []]) (.code .ret)))))))))
theorem D144_ok : compD Tryz.prog (byId h144) 144 = some D144 := by kernel_rfl
def h170 : List (Nat × List (Nat × List Nat) × List Nat) := [(6, [(0, []), (1, []), (2, []), (3, []), (4, []), (5, []), (6, []), (7, [])], [0, 0, 2, 6, 14, 31, 63, 127])]
def R170 : RFn :=
 RFn.mk 28 (some 8) (some 3) 8 [] (.seq (.seq (.row [.mk (some 9) none (.mov (.tmp 3)) [], .mk (some 10) none (.bin .eql 20 .iface (.tmp 9) (.const .nilIface)) []]) (.cond (.tmp 10) .ret .skip)) (.seq (.row [.mk (some 4) none (.alloc 215
 [.val (.pointer none)]) []]) (.seq (.seq (.row [.mk (some 12) none (.mov (.tmp 3)) [], .mk (some 13) none (.asrt 163 (.tmp 12)) [], .mk (some 11) none (.mov (.tmp 13)) [], .mk (some 14) none (.ext (.tmp 11) 0) [], .mk (some 15) none (.ext
 (.tmp 11) 1) [], .mk (some 5) none (.mov (.tmp 14)) [], .mk (some 6) none (.mov (.tmp 15)) []]) (.seq (.row [.mk (some 16) none (.mov (.tmp 6)) [], .mk (some 17) none (.mov (.tmp 16)) [], .mk (some 18) (some (17, true)) (.mov (.tmp 5)) [],
 .mk (some 19) (some (17, true)) (.mki 218 (.tmp 4)) [], .mk (some 20) (some (17, true)) (.call (.func 171) [.tmp 18, .tmp 19]) [], .mk (some 21) none (.pick (.tmp 17) (.tmp 20) (.const (.bool false))) []]) (.cond (.tmp 21) (.seq (.row [.mk
 (some 7) none (.alloc 170 [.val (.int .i64 0), .val (.string (ByteArray.mk #[])), .val (.int .i64 0), .sl [] [] .full, .val (.int .i64 0)]) []]) (.seq (.row [.mk (some 22) none (.load (some 5) (.tmp 7)) [], .mk (some 23) none (.load none
 (.tmp 4)) [], .mk (some 24) none (.nilc (.tmp 23)) [], .mk (some 25) none (.fieldA 0 (.tmp 24)) [], .mk (some 26) none (.load none (.tmp 25)) [], .mk none none (.store 5 (.tmp 0) (.tmp 22)) [], .mk none none (.store 1 (.tmp 1) (.tmp 26))
 [], .mk none none (.store 1 (.tmp 2) (.const (.int .i64 6))) []]) .ret)) .skip))) (.row [.mk (some 27) none (.mov (.tmp 3)) [], .mk none none (.panic (.tmp 27)) []]))))
theorem R170_ok : compR Tryz.prog (byId h170) 170 = some R170 := by kernel_rfl
def h4 : List (Nat × List (Nat × List Nat) × List Nat) := [(3, [(0, []), (1, []), (2, []), (3, []), (4, []), (5, []), (6, []), (7, []), (8, []), (9, []), (11, []), (10, [11]), (12, []), (13, []), (14, []), (15, []), (16, []), (17, []), (18, [])], [0, 0, 3, 7, 15, 15, 63, 127, 255, 511, 1023, 511,
 4095, 8191, 16383, 32767, 65535, 131071, 262143])]
def F4 : AFn :=
 AFn.mk 35 [.tmp 2] (.seq (.row [.mk (some 1) none (.box 24 (.tmp 0)) [], .mk (some 2) none (.mov (.const (.bool false))) []]) (.seq (.row [.mk (some 8) none (.load (some 3) (.tmp 1)) [], .mk (some 9) none (.call (.func 18) [.tmp 8]) [], .mk
 (some 7) none (.mov (.tmp 9)) [], .mk (some 10) none (.ext (.tmp 7) 0) [], .mk (some 11) none (.ext (.tmp 7) 1) [], .mk (some 3) none (.mov (.tmp 10)) [], .mk (some 4) none (.mov (.tmp 11)) []]) (.seq (.row [.mk (some 13) none (.load (some
 3) (.tmp 1)) [], .mk (some 14) none (.call (.func 19) [.tmp 13]) [], .mk (some 12) none (.mov (.tmp 14)) [], .mk (some 15) none (.ext (.tmp 12) 0) [], .mk (some 16) none (.ext (.tmp 12) 1) [], .mk (some 5) none (.mov (.tmp 15)) [], .mk
 (some 6) none (.mov (.tmp 16)) []]) (.seq (.row [.mk (some 17) none (.mov (.tmp 3)) [], .mk (some 18) none (.mov (.tmp 5)) [], .mk (some 19) none (.bin .eql 9 .other (.tmp 17) (.tmp 18)) [], .mk (some 20) none (.mov (.tmp 19)) [], .mk (some
 21) (some (20, true)) (.mov (.tmp 4)) [], .mk (some 22) (some (20, true)) (.mov (.tmp 6)) [], .mk (some 23) (some (20, true)) (.bin .eql 3 .other (.tmp 21) (.tmp 22)) [], .mk (some 24) none (.pick (.tmp 20) (.tmp 23) (.const (.bool false)))
 [], .mk (some 25) none (.mov (.tmp 24)) [], .mk (some 26) (some (25, true)) (.load (some 3) (.tmp 1)) [], .mk (some 28) (some (25, true)) (.load (some 3) (.tmp 1)) [], .mk (some 27) (some (25, true)) (.call (.func 20) [.tmp 26]) [(28, some
 (25, true), .load (some 3) (.tmp 1))], .mk (some 29) (some (25, true)) (.call (.func 21) [.tmp 28]) [], .mk (some 30) (some (25, true)) (.bin .eql 3 .other (.tmp 27) (.tmp 29)) [], .mk (some 31) none (.pick (.tmp 25) (.tmp 30) (.const
 (.bool false))) [], .mk (some 32) none (.mov (.tmp 31)) [], .mk (some 33) (some (32, true)) (.call (.func 17) []) [], .mk (some 34) none (.pick (.tmp 32) (.tmp 33) (.const (.bool false))) [], .mk (some 2) none (.mov (.tmp 34)) []]) .ret))))
theorem F4_ok : compFn Tryz.prog (byId h4) 4 = some F4 := by kernel_rfl
def h20 : List (Nat × List (Nat × List Nat) × List Nat) := []
def F20 : AFn :=
 AFn.mk 6 [.tmp 2] (.seq (.row [.mk (some 1) none (.box 24 (.tmp 0)) [], .mk (some 2) none (.mov (.const (.int .i64 0))) []]) (.seq (.seq (.row [.mk (some 3) none (.load (some 3) (.tmp 1)) [], .mk (some 4) none (.call (.func 58) [.tmp 3])
 [], .mk (some 5) none (.un .not (.tmp 4)) []]) (.cond (.tmp 5) (.seq (.row [.mk (some 2) none (.mov (.const (.int .i64 2))) []]) .ret) .skip)) (.seq (.row [.mk (some 2) none (.mov (.const (.int .i64 0))) []]) .ret)))
theorem F20_ok : compFn Tryz.prog (byId h20) 20 = some F20 := by kernel_rfl
def h56 : List (Nat × List (Nat × List Nat) × List Nat) := []
def F56 : AFn :=
 AFn.mk 33 [.cell 2 (some 4)] (.seq (.row [.mk (some 2) none (.alloc 100 [.val (.string (ByteArray.mk #[])), .val (.int .i64 0), .val (.bool false), .val (.bool false)]) []]) (.seq (.row [.mk (some 4) none (.build [.val (.string
 (ByteArray.mk #[])), .val (.int .i64 0), .val (.bool false), .val (.bool false)] []) [], .mk (some 5) none (.build [.val (.string (ByteArray.mk #[])), .val (.int .i64 0), .val (.bool false), .val (.bool false)] [(0, 1, .const (.string
 (ByteArray.mk #[115, 116, 101, 112])))]) [], .mk (some 6) none (.build [.val (.string (ByteArray.mk #[])), .val (.int .i64 0), .val (.bool false), .val (.bool false)] [(0, 1, .const (.string (ByteArray.mk #[110, 101, 120, 116])))]) [], .mk
 (some 7) none (.build [.val (.string (ByteArray.mk #[])), .val (.int .i64 0), .val (.bool false), .val (.bool false)] [(0, 1, .const (.string (ByteArray.mk #[102, 105, 110, 105, 115, 104])))]) [], .mk (some 8) none (.build [.val (.string
 (ByteArray.mk #[])), .val (.int .i64 0), .val (.bool false), .val (.bool false)] [(0, 1, .const (.string (ByteArray.mk #[99, 111, 110, 116, 105, 110, 117, 101])))]) [], .mk (some 9) none (.build [.val (.string (ByteArray.mk #[])), .val
 (.int .i64 0), .val (.bool false), .val (.bool false)] [(0, 1, .const (.string (ByteArray.mk #[98, 97, 99, 107, 45, 115, 116, 101, 112])))]) [], .mk (some 10) none (.build [.val (.string (ByteArray.mk #[])), .val (.int .i64 0), .val (.bool
 false), .val (.bool false)] [(0, 1, .const (.string (ByteArray.mk #[98, 97, 99, 107, 45, 110, 101, 120, 116])))]) [], .mk (some 11) none (.build [.val (.string (ByteArray.mk #[])), .val (.int .i64 0), .val (.bool false), .val (.bool false)]
 [(0, 1, .const (.string (ByteArray.mk #[98, 97, 99, 107, 45, 102, 105, 110, 105, 115, 104])))]) [], .mk (some 12) none (.build [.val (.string (ByteArray.mk #[])), .val (.int .i64 0), .val (.bool false), .val (.bool false)] [(0, 1, .const
 (.string (ByteArray.mk #[98, 97, 99, 107, 45, 99, 111, 110, 116, 105, 110, 117, 101])))]) [], .mk (some 13) none (.build [.val (.string (ByteArray.mk #[])), .val (.int .i64 0), .val (.bool false), .val (.bool false)] [(0, 1, .const (.string
 (ByteArray.mk #[103, 111, 116, 111]))), (2, 1, .const (.bool true))]) [], .mk (some 14) none (.build [.val (.string (ByteArray.mk #[])), .val (.int .i64 0), .val (.bool false), .val (.bool false)] [(0, 1, .const (.string (ByteArray.mk #[98,
 114, 101, 97, 107]))), (1, 1, .const (.int .i64 1)), (2, 1, .const (.bool true)), (3, 1, .const (.bool true))]) [], .mk (some 15) none (.build [.val (.string (ByteArray.mk #[])), .val (.int .i64 0), .val (.bool false), .val (.bool false)]
 [(0, 1, .const (.string (ByteArray.mk #[119, 97, 116, 99, 104]))), (3, 1, .const (.bool true))]) [], .mk (some 16) none (.build [.val (.string (ByteArray.mk #[])), .val (.int .i64 0), .val (.bool false), .val (.bool false)] [(0, 1, .const
 (.string (ByteArray.mk #[100, 101, 108, 101, 116, 101]))), (1, 1, .const (.int .i64 1)), (2, 1, .const (.bool true))]) [], .mk (some 17) none (.build [.val (.string (ByteArray.mk #[])), .val (.int .i64 0), .val (.bool false), .val (.bool
 false)] [(0, 1, .const (.string (ByteArray.mk #[101, 110, 97, 98, 108, 101]))), (1, 1, .const (.int .i64 1)), (2, 1, .const (.bool true))]) [], .mk (some 18) none (.build [.val (.string (ByteArray.mk #[])), .val (.int .i64 0), .val (.bool
 false), .val (.bool false)] [(0, 1, .const (.string (ByteArray.mk #[100, 105, 115, 97, 98, 108, 101]))), (1, 1, .const (.int .i64 1)), (2, 1, .const (.bool true))]) [], .mk (some 19) none (.build [.val (.string (ByteArray.mk #[])), .val
 (.int .i64 0), .val (.bool false), .val (.bool false)] [(0, 1, .const (.string (ByteArray.mk #[117, 112])))]) [], .mk (some 20) none (.build [.val (.string (ByteArray.mk #[])), .val (.int .i64 0), .val (.bool false), .val (.bool false)]
 [(0, 1, .const (.string (ByteArray.mk #[100, 111, 119, 110])))]) [], .mk (some 21) none (.build [.val (.string (ByteArray.mk #[])), .val (.int .i64 0), .val (.bool false), .val (.bool false)] [(0, 1, .const (.string (ByteArray.mk #[112,
 114, 105, 110, 116]))), (3, 1, .const (.bool true))]) [], .mk (some 22) none (.build [.val (.string (ByteArray.mk #[])), .val (.int .i64 0), .val (.bool false), .val (.bool false), .val (.string (ByteArray.mk #[])), .val (.int .i64 0), .val
 (.bool false), .val (.bool false), .val (.string (ByteArray.mk #[])), .val (.int .i64 0), .val (.bool false), .val (.bool false), .val (.string (ByteArray.mk #[])), .val (.int .i64 0), .val (.bool false), .val (.bool false), .val (.string
 (ByteArray.mk #[])), .val (.int .i64 0), .val (.bool false), .val (.bool false), .val (.string (ByteArray.mk #[])), .val (.int .i64 0), .val (.bool false), .val (.bool false), .val (.string (ByteArray.mk #[])), .val (.int .i64 0), .val
 (.bool false), .val (.bool false), .val (.string (ByteArray.mk #[])), .val (.int .i64 0), .val (.bool false), .val (.bool false), .val (.string (ByteArray.mk #[])), .val (.int .i64 0), .val (.bool false), .val (.bool false), .val (.string
 (ByteArray.mk #[])), .val (.int .i64 0), .val (.bool false), .val (.bool false), .val (.string (ByteArray.mk #[])), .val (.int .i64 0), .val (.bool false), .val (.bool false), .val (.string (ByteArray.mk #[])), .val (.int .i64 0), .val
 (.bool false), .val (.bool false), .val (.string (ByteArray.mk #[])), .val (.int .i64 0), .val (.bool false), .val (.bool false), .val (.string (ByteArray.mk #[])), .val (.int .i64 0), .val (.bool false), .val (.bool false), .val (.string
 (ByteArray.mk #[])), .val (.int .i64 0), .val (.bool false), .val (.bool false), .val (.string (ByteArray.mk #[])), .val (.int .i64 0), .val (.bool false), .val (.bool false), .val (.string (ByteArray.mk #[])), .val (.int .i64 0), .val
 (.bool false), .val (.bool false), .val (.string (ByteArray.mk #[])), .val (.int .i64 0), .val (.bool false), .val (.bool false)] [(0, 4, .tmp 4), (4, 4, .tmp 5), (8, 4, .tmp 6), (12, 4, .tmp 7), (16, 4, .tmp 8), (20, 4, .tmp 9), (24, 4,
 .tmp 10), (28, 4, .tmp 11), (32, 4, .tmp 12), (36, 4, .tmp 13), (40, 4, .tmp 14), (44, 4, .tmp 15), (48, 4, .tmp 16), (52, 4, .tmp 17), (56, 4, .tmp 18), (60, 4, .tmp 19), (64, 4, .tmp 20), (68, 4, .tmp 21)]) [], .mk (some 3) none (.alloc
 140 [.val (.string (ByteArray.mk #[])), .val (.int .i64 0), .val (.bool false), .val (.bool false), .val (.string (ByteArray.mk #[])), .val (.int .i64 0), .val (.bool false), .val (.bool false), .val (.string (ByteArray.mk #[])), .val (.int
 .i64 0), .val (.bool false), .val (.bool false), .val (.string (ByteArray.mk #[])), .val (.int .i64 0), .val (.bool false), .val (.bool false), .val (.string (ByteArray.mk #[])), .val (.int .i64 0), .val (.bool false), .val (.bool false),
 .val (.string (ByteArray.mk #[])), .val (.int .i64 0), .val (.bool false), .val (.bool false), .val (.string (ByteArray.mk #[])), .val (.int .i64 0), .val (.bool false), .val (.bool false), .val (.string (ByteArray.mk #[])), .val (.int .i64
 0), .val (.bool false), .val (.bool false), .val (.string (ByteArray.mk #[])), .val (.int .i64 0), .val (.bool false), .val (.bool false), .val (.string (ByteArray.mk #[])), .val (.int .i64 0), .val (.bool false), .val (.bool false), .val
 (.string (ByteArray.mk #[])), .val (.int .i64 0), .val (.bool false), .val (.bool false), .val (.string (ByteArray.mk #[])), .val (.int .i64 0), .val (.bool false), .val (.bool false), .val (.string (ByteArray.mk #[])), .val (.int .i64 0),
 .val (.bool false), .val (.bool false), .val (.string (ByteArray.mk #[])), .val (.int .i64 0), .val (.bool false), .val (.bool false), .val (.string (ByteArray.mk #[])), .val (.int .i64 0), .val (.bool false), .val (.bool false), .val
 (.string (ByteArray.mk #[])), .val (.int .i64 0), .val (.bool false), .val (.bool false), .val (.string (ByteArray.mk #[])), .val (.int .i64 0), .val (.bool false), .val (.bool false), .val (.string (ByteArray.mk #[])), .val (.int .i64 0),
 .val (.bool false), .val (.bool false)]) [], .mk none none (.store 72 (.tmp 3) (.tmp 22)) []]) (.seq (.seq (.row [.mk (some 23) none (.mov (.tmp 0)) [], .mk (some 24) none (.bin .lss 22 .other (.tmp 23) (.const (.int .i64 0))) [], .mk (some
 25) none (.mov (.tmp 24)) [], .mk (some 26) (some (25, false)) (.mov (.tmp 0)) [], .mk (some 27) (some (25, false)) (.bin .geq 3 .other (.tmp 26) (.const (.int .i64 18))) [], .mk (some 28) none (.pick (.tmp 25) (.const (.bool true)) (.tmp
 27)) []]) (.cond (.tmp 28) (.seq (.row [.mk (some 29) none (.build [.val (.string (ByteArray.mk #[])), .val (.int .i64 0), .val (.bool false), .val (.bool false)] []) [], .mk none none (.store 4 (.tmp 2) (.tmp 29)) []]) .ret) .skip)) (.seq
 (.row [.mk (some 30) none (.mov (.tmp 0)) [], .mk (some 31) none (.idxA 18 4 (.tmp 3) (.tmp 30)) [], .mk (some 32) none (.load (some 4) (.tmp 31)) [], .mk none none (.store 4 (.tmp 2) (.tmp 32)) []]) .ret))))
theorem F56_ok : compFn Tryz.prog (byId h56) 56 = some F56 := by kernel_rfl
def h64 : List (Nat × List (Nat × List Nat) × List Nat) := [(3, [(0, []), (1, []), (3, []), (4, []), (5, []), (6, []), (7, []), (8, []), (2, []), (9, []), (10, [])], [0, 1, 3, 0, 8, 24, 56, 120, 248, 511, 1023])]
def F64 : AFn :=
 AFn.mk 20 [.tmp 2] (.seq (.row [.mk (some 2) none (.mov (.const (.string (ByteArray.mk #[])))) []]) (.seq (.seq (.row [.mk (some 3) none (.mov (.tmp 0)) [], .mk (some 4) none (.bin .lss 3 .other (.tmp 3) (.const (.int .i64 10))) []]) (.cond
 (.tmp 4) (.seq (.row [.mk (some 5) none (.mov (.tmp 0)) [], .mk (some 6) none (.bin .add 3 .other (.const (.int .i64 48)) (.tmp 5)) [], .mk (some 7) none (.conv 3 5 (.tmp 6)) [], .mk (some 8) none (.lits 1 [.val (.int .u8 0)] 1 [(0, .tmp
 7)]) [], .mk (some 9) none (.b2s (.tmp 8)) [], .mk (some 2) none (.mov (.tmp 9)) []]) .ret) .skip)) (.seq (.row [.mk (some 10) none (.mov (.tmp 0)) [], .mk (some 11) none (.bin .quo 3 .other (.tmp 10) (.const (.int .i64 10))) [], .mk (some
 13) none (.mov (.tmp 0)) [], .mk (some 14) none (.bin .rem 3 .other (.tmp 13) (.const (.int .i64 10))) [], .mk (some 15) none (.bin .add 3 .other (.const (.int .i64 48)) (.tmp 14)) [], .mk (some 16) none (.conv 3 5 (.tmp 15)) [], .mk (some
 17) none (.lits 1 [.val (.int .u8 0)] 1 [(0, .tmp 16)]) [], .mk (some 18) none (.b2s (.tmp 17)) [], .mk (some 12) none (.call (.func 64) [.tmp 11]) [], .mk (some 19) none (.bin .add 9 .other (.tmp 12) (.tmp 18)) [], .mk (some 2) none (.mov
 (.tmp 19)) []]) .ret)))
theorem F64_ok : compFn Tryz.prog (byId h64) 64 = some F64 := by kernel_rfl
def h100 : List (Nat × List (Nat × List Nat) × List Nat) := []
def F100 : AFn :=
 AFn.mk 32 [.tmp 2, .tmp 3, .tmp 4] (.seq (.row [.mk (some 2) none (.mov (.const (.int .i64 0))) [], .mk (some 3) none (.mov (.const (.string (ByteArray.mk #[])))) [], .mk (some 4) none (.mov (.const (.bool false))) []]) (.seq (.row [.mk
 (some 11) none (.mov (.tmp 0)) [], .mk (some 12) none (.call (.func 55) [.tmp 11, .const (.string (ByteArray.mk #[32]))]) [], .mk (some 10) none (.mov (.tmp 12)) [], .mk (some 13) none (.ext (.tmp 10) 0) [], .mk (some 14) none (.ext (.tmp
 10) 1) [], .mk (some 15) none (.ext (.tmp 10) 2) [], .mk (some 5) none (.mov (.tmp 13)) [], .mk (some 6) none (.mov (.tmp 14)) [], .mk (some 7) none (.mov (.tmp 15)) []]) (.seq (.row [.mk (some 17) none (.mov (.tmp 5)) [], .mk (some 18)
 none (.call (.func 125) [.tmp 17, .const (.int .i64 10), .const (.int .i64 64)]) [], .mk (some 16) none (.mov (.tmp 18)) [], .mk (some 19) none (.ext (.tmp 16) 0) [], .mk (some 20) none (.ext (.tmp 16) 1) [], .mk (some 8) none (.mov (.tmp
 19)) [], .mk (some 9) none (.mov (.tmp 20)) []]) (.seq (.seq (.row [.mk (some 21) none (.mov (.tmp 9)) [], .mk (some 22) none (.bin .neq 163 .iface (.tmp 21) (.const .nilIface)) [], .mk (some 23) none (.mov (.tmp 22)) [], .mk (some 24)
 (some (23, false)) (.mov (.tmp 8)) [], .mk (some 25) (some (23, false)) (.call (.func 126) [.tmp 24, .const (.int .i64 10)]) [], .mk (some 26) (some (23, false)) (.mov (.tmp 5)) [], .mk (some 27) (some (23, false)) (.bin .neq 9 .other (.tmp
 25) (.tmp 26)) [], .mk (some 28) none (.pick (.tmp 23) (.const (.bool true)) (.tmp 27)) []]) (.cond (.tmp 28) (.seq (.row [.mk (some 2) none (.mov (.const (.int .i64 (-1)))) [], .mk (some 3) none (.mov (.const (.string (ByteArray.mk #[]))))
 [], .mk (some 4) none (.mov (.const (.bool false))) []]) .ret) .skip)) (.seq (.row [.mk (some 29) none (.mov (.tmp 8)) [], .mk (some 30) none (.mov (.tmp 6)) [], .mk (some 31) none (.mov (.tmp 7)) [], .mk (some 2) none (.mov (.tmp 29)) [],
 .mk (some 3) none (.mov (.tmp 30)) [], .mk (some 4) none (.mov (.tmp 31)) []]) .ret)))))
theorem F100_ok : compFn Tryz.prog (byId h100) 100 = some F100 := by kernel_rfl
def h104 : List (Nat × List (Nat × List Nat) × List Nat) := []
def F104 : AFn :=
 AFn.mk 5 [.tmp 2] (.seq (.row [.mk (some 2) none (.mov (.const (.string (ByteArray.mk #[])))) []]) (.seq (.row [.mk (some 3) none (.mov (.tmp 0)) [], .mk (some 4) none (.call (.func 129) [.tmp 3, .const (.int .i64 10)]) [], .mk (some 2)
 none (.mov (.tmp 4)) []]) .ret))
theorem F104_ok : compFn Tryz.prog (byId h104) 104 = some F104 := by kernel_rfl
def h124 : List (Nat × List (Nat × List Nat) × List Nat) := []
def F124 : AFn :=
 AFn.mk 143 [.tmp 4] (.seq (.row [.mk (some 4) none (.mov (.const (.int .i64 0))) []]) (.seq (.row [.mk (some 14) none (.mov (.tmp 1)) [], .mk (some 15) none (.len true (.tmp 14)) [], .mk (some 5) none (.mov (.tmp 15)) []]) (.seq (.block 0
 (.seq (.row [.mk (some 17) none (.mov (.tmp 5)) [], .mk (some 18) none (.bin .eql 3 .other (.tmp 17) (.const (.int .i64 0))) [], .mk (some 19) none (.mov (.tmp 18)) [], .mk (some 20) (some (19, false)) (.mov (.tmp 1)) [], .mk (some 21)
 (some (19, false)) (.mov (.tmp 0)) [], .mk (some 22) (some (19, false)) (.bin .eql 9 .other (.tmp 20) (.tmp 21)) [], .mk (some 23) none (.pick (.tmp 19) (.const (.bool true)) (.tmp 22)) [], .mk (some 16) none (.mov (.tmp 23)) []]) (.cond
 (.tmp 16) (.seq (.row [.mk (some 4) none (.mov (.const (.int .i64 0))) []]) .ret) (.seq (.row [.mk (some 25) none (.mov (.tmp 5)) [], .mk (some 26) none (.bin .eql 3 .other (.tmp 25) (.const (.int .i64 1))) [], .mk (some 24) none (.mov
 (.tmp 26)) []]) (.cond (.tmp 24) (.seq (.row [.mk (some 27) none (.mov (.tmp 0)) [], .mk (some 28) none (.mov (.tmp 1)) [], .mk (some 29) none (.idxStr (.tmp 28) (.const (.int .i64 0))) [], .mk (some 30) none (.call (.func 137) [.tmp 27,
 .tmp 29]) [], .mk (some 4) none (.mov (.tmp 30)) []]) .ret) (.seq (.row [.mk (some 32) none (.mov (.tmp 5)) [], .mk (some 33) none (.mov (.tmp 0)) [], .mk (some 34) none (.len true (.tmp 33)) [], .mk (some 35) none (.bin .geq 3 .other (.tmp
 32) (.tmp 34)) [], .mk (some 31) none (.mov (.tmp 35)) []]) (.cond (.tmp 31) (.seq (.row [.mk (some 4) none (.mov (.const (.int .i64 (-1)))) []]) .ret) (.seq (.row [.mk (some 37) none (.mov (.tmp 5)) [], .mk (some 38) none (.load none
 (.global 0)) [], .mk (some 39) none (.bin .leq 3 .other (.tmp 37) (.tmp 38)) [], .mk (some 40) none (.mov (.tmp 39)) [], .mk (some 41) (some (40, true)) (.mov (.tmp 0)) [], .mk (some 42) (some (40, true)) (.len true (.tmp 41)) [], .mk (some
 43) (some (40, true)) (.bin .leq 3 .other (.tmp 42) (.const (.int .i64 64))) [], .mk (some 44) none (.pick (.tmp 40) (.tmp 43) (.const (.bool false))) [], .mk (some 36) none (.mov (.tmp 44)) []]) (.cond (.tmp 36) (.seq (.row [.mk (some 45)
 none (.mov (.tmp 0)) [], .mk (some 46) none (.mov (.tmp 1)) [], .mk (some 47) none (.call (.func 138) [.tmp 45, .tmp 46]) [], .mk (some 4) none (.mov (.tmp 47)) []]) .ret) .skip))))))))) (.seq (.row [.mk (some 48) none (.mov (.tmp 1)) [],
 .mk (some 49) none (.idxStr (.tmp 48) (.const (.int .i64 0))) [], .mk (some 6) none (.mov (.tmp 49)) []]) (.seq (.row [.mk (some 50) none (.mov (.tmp 1)) [], .mk (some 51) none (.idxStr (.tmp 50) (.const (.int .i64 1))) [], .mk (some 7)
 none (.mov (.tmp 51)) []]) (.seq (.row [.mk (some 8) none (.mov (.const (.int .i64 0))) []]) (.seq (.row [.mk (some 52) none (.mov (.tmp 0)) [], .mk (some 53) none (.len true (.tmp 52)) [], .mk (some 54) none (.mov (.tmp 5)) [], .mk (some
 55) none (.bin .sub 3 .other (.tmp 53) (.tmp 54)) [], .mk (some 56) none (.bin .add 3 .other (.tmp 55) (.const (.int .i64 1))) [], .mk (some 9) none (.mov (.tmp 56)) []]) (.seq (.row [.mk (some 10) none (.mov (.const (.int .i64 0))) []])
 (.seq (.block 1 (.loop (.seq (.seq (.row [.mk (some 57) none (.mov (.tmp 8)) [], .mk (some 58) none (.mov (.tmp 9)) [], .mk (some 59) none (.bin .lss 3 .other (.tmp 57) (.tmp 58)) []]) (.cond (.tmp 59) .skip (.exit 1))) (.block 2 (.seq
 (.seq (.row [.mk (some 60) none (.mov (.tmp 0)) [], .mk (some 61) none (.mov (.tmp 8)) [], .mk (some 62) none (.idxStr (.tmp 60) (.tmp 61)) [], .mk (some 63) none (.mov (.tmp 6)) [], .mk (some 64) none (.bin .neq 5 .other (.tmp 62) (.tmp
 63)) []]) (.cond (.tmp 64) (.seq (.row [.mk (some 65) none (.mov (.tmp 0)) [], .mk (some 66) none (.mov (.tmp 8)) [], .mk (some 67) none (.bin .add 3 .other (.tmp 66) (.const (.int .i64 1))) [], .mk (some 68) none (.mov (.tmp 9)) [], .mk
 (some 69) none (.sliceS (.tmp 65) (some (.tmp 67)) (some (.tmp 68))) [], .mk (some 70) none (.mov (.tmp 6)) [], .mk (some 71) none (.call (.func 137) [.tmp 69, .tmp 70]) [], .mk (some 11) none (.mov (.tmp 71)) []]) (.seq (.seq (.row [.mk
 (some 72) none (.mov (.tmp 11)) [], .mk (some 73) none (.bin .lss 3 .other (.tmp 72) (.const (.int .i64 0))) []]) (.cond (.tmp 73) (.seq (.row [.mk (some 4) none (.mov (.const (.int .i64 (-1)))) []]) .ret) .skip)) (.row [.mk (some 74) none
 (.mov (.tmp 8)) [], .mk (some 75) none (.mov (.tmp 11)) [], .mk (some 76) none (.bin .add 3 .other (.tmp 75) (.const (.int .i64 1))) [], .mk (some 77) none (.bin .add 3 .other (.tmp 74) (.tmp 76)) [], .mk (some 8) none (.mov (.tmp 77))
 []]))) .skip)) (.seq (.seq (.row [.mk (some 78) none (.mov (.tmp 0)) [], .mk (some 79) none (.mov (.tmp 8)) [], .mk (some 80) none (.bin .add 3 .other (.tmp 79) (.const (.int .i64 1))) [], .mk (some 81) none (.idxStr (.tmp 78) (.tmp 80))
 [], .mk (some 82) none (.mov (.tmp 7)) [], .mk (some 83) none (.bin .eql 5 .other (.tmp 81) (.tmp 82)) [], .mk (some 84) none (.mov (.tmp 83)) [], .mk (some 85) (some (84, true)) (.mov (.tmp 0)) [], .mk (some 86) (some (84, true)) (.mov
 (.tmp 8)) [], .mk (some 87) (some (84, true)) (.mov (.tmp 8)) [], .mk (some 88) (some (84, true)) (.mov (.tmp 5)) [], .mk (some 89) (some (84, true)) (.bin .add 3 .other (.tmp 87) (.tmp 88)) [], .mk (some 90) (some (84, true)) (.sliceS
 (.tmp 85) (some (.tmp 86)) (some (.tmp 89))) [], .mk (some 91) (some (84, true)) (.mov (.tmp 1)) [], .mk (some 92) (some (84, true)) (.bin .eql 9 .other (.tmp 90) (.tmp 91)) [], .mk (some 93) none (.pick (.tmp 84) (.tmp 92) (.const (.bool
 false))) []]) (.cond (.tmp 93) (.seq (.row [.mk (some 94) none (.mov (.tmp 8)) [], .mk (some 4) none (.mov (.tmp 94)) []]) .ret) .skip)) (.seq (.row [.mk (some 95) none (.mov (.tmp 8)) [], .mk (some 96) none (.bin .add 3 .other (.tmp 95)
 (.const (.int .i64 1))) [], .mk (some 8) none (.mov (.tmp 96)) []]) (.seq (.row [.mk (some 97) none (.mov (.tmp 10)) [], .mk (some 98) none (.bin .add 3 .other (.tmp 97) (.const (.int .i64 1))) [], .mk (some 10) none (.mov (.tmp 98)) []])
 (.seq (.row [.mk (some 99) none (.mov (.tmp 5)) [], .mk (some 100) none (.load none (.global 0)) [], .mk (some 101) none (.bin .leq 3 .other (.tmp 99) (.tmp 100)) [], .mk (some 102) none (.mov (.tmp 101)) [], .mk (some 103) (some (102,
 true)) (.mov (.tmp 10)) [], .mk (some 104) (some (102, true)) (.mov (.tmp 8)) [], .mk (some 105) (some (102, true)) (.call (.func 139) [.tmp 104]) [], .mk (some 106) (some (102, true)) (.bin .gtr 3 .other (.tmp 103) (.tmp 105)) [], .mk
 (some 107) none (.pick (.tmp 102) (.tmp 106) (.const (.bool false))) []]) (.cond (.tmp 107) (.seq (.row [.mk (some 108) none (.mov (.tmp 0)) [], .mk (some 109) none (.mov (.tmp 8)) [], .mk (some 110) none (.sliceS (.tmp 108) (some (.tmp
 109)) none) [], .mk (some 111) none (.mov (.tmp 1)) [], .mk (some 112) none (.call (.func 138) [.tmp 110, .tmp 111]) [], .mk (some 12) none (.mov (.tmp 112)) []]) (.seq (.seq (.row [.mk (some 113) none (.mov (.tmp 12)) [], .mk (some 114)
 none (.bin .geq 3 .other (.tmp 113) (.const (.int .i64 0))) []]) (.cond (.tmp 114) (.seq (.row [.mk (some 115) none (.mov (.tmp 12)) [], .mk (some 116) none (.mov (.tmp 8)) [], .mk (some 117) none (.bin .add 3 .other (.tmp 115) (.tmp 116))
 [], .mk (some 4) none (.mov (.tmp 117)) []]) .ret) .skip)) (.seq (.row [.mk (some 4) none (.mov (.const (.int .i64 (-1)))) []]) .ret))) (.seq (.row [.mk (some 118) none (.mov (.tmp 5)) [], .mk (some 119) none (.load none (.global 0)) [],
 .mk (some 120) none (.bin .gtr 3 .other (.tmp 118) (.tmp 119)) [], .mk (some 121) none (.mov (.tmp 120)) [], .mk (some 122) (some (121, true)) (.mov (.tmp 10)) [], .mk (some 123) (some (121, true)) (.mov (.tmp 8)) [], .mk (some 124) (some
 (121, true)) (.bin .shr 3 .other (.tmp 123) (.const (.int .u64 4))) [], .mk (some 125) (some (121, true)) (.bin .add 3 .other (.const (.int .i64 4)) (.tmp 124)) [], .mk (some 126) (some (121, true)) (.bin .geq 3 .other (.tmp 122) (.tmp
 125)) [], .mk (some 127) none (.pick (.tmp 121) (.tmp 126) (.const (.bool false))) [], .mk (some 128) none (.mov (.tmp 127)) [], .mk (some 129) (some (128, true)) (.mov (.tmp 8)) [], .mk (some 130) (some (128, true)) (.mov (.tmp 9)) [], .mk
 (some 131) (some (128, true)) (.bin .lss 3 .other (.tmp 129) (.tmp 130)) [], .mk (some 132) none (.pick (.tmp 128) (.tmp 131) (.const (.bool false))) []]) (.cond (.tmp 132) (.seq (.row [.mk (some 133) none (.mov (.tmp 0)) [], .mk (some 134)
 none (.mov (.tmp 8)) [], .mk (some 135) none (.sliceS (.tmp 133) (some (.tmp 134)) none) [], .mk (some 136) none (.mov (.tmp 1)) [], .mk (some 137) none (.call (.func 140) [.tmp 135, .tmp 136]) [], .mk (some 13) none (.mov (.tmp 137)) []])
 (.seq (.seq (.row [.mk (some 138) none (.mov (.tmp 13)) [], .mk (some 139) none (.bin .lss 3 .other (.tmp 138) (.const (.int .i64 0))) []]) (.cond (.tmp 139) (.seq (.row [.mk (some 4) none (.mov (.const (.int .i64 (-1)))) []]) .ret) .skip))
 (.seq (.row [.mk (some 140) none (.mov (.tmp 8)) [], .mk (some 141) none (.mov (.tmp 13)) [], .mk (some 142) none (.bin .add 3 .other (.tmp 140) (.tmp 141)) [], .mk (some 4) none (.mov (.tmp 142)) []]) .ret))) .skip)))))))))))) (.seq (.row
 [.mk (some 4) none (.mov (.const (.int .i64 (-1)))) []]) .ret))))))))))
theorem F124_ok : compFn Tryz.prog (byId h124) 124 = some F124 := by kernel_rfl
def h134 : List (Nat × List (Nat × List Nat) × List Nat) := []
def F134 : AFn :=
 AFn.mk 21 [.tmp 2] (.seq (.row [.mk (some 2) none (.mov (.const (.bool false))) []]) (.seq (.row [.mk (some 3) none (.mov (.tmp 0)) [], .mk (some 4) none (.bin .geq 5 .other (.tmp 3) (.const (.int .u8 97))) [], .mk (some 5) none (.mov (.tmp
 4)) [], .mk (some 6) (some (5, true)) (.mov (.tmp 0)) [], .mk (some 7) (some (5, true)) (.bin .leq 5 .other (.tmp 6) (.const (.int .u8 122))) [], .mk (some 8) none (.pick (.tmp 5) (.tmp 7) (.const (.bool false))) [], .mk (some 9) none (.mov
 (.tmp 8)) [], .mk (some 10) (some (9, false)) (.mov (.tmp 0)) [], .mk (some 11) (some (9, false)) (.bin .geq 5 .other (.tmp 10) (.const (.int .u8 65))) [], .mk (some 12) (some (9, false)) (.mov (.tmp 11)) [], .mk (some 13) (some (12, true))
 (.mov (.tmp 0)) [], .mk (some 14) (some (12, true)) (.bin .leq 5 .other (.tmp 13) (.const (.int .u8 90))) [], .mk (some 15) (some (9, false)) (.pick (.tmp 12) (.tmp 14) (.const (.bool false))) [], .mk (some 16) none (.pick (.tmp 9) (.const
 (.bool true)) (.tmp 15)) [], .mk (some 17) none (.mov (.tmp 16)) [], .mk (some 18) (some (17, false)) (.mov (.tmp 0)) [], .mk (some 19) (some (17, false)) (.bin .eql 5 .other (.tmp 18) (.const (.int .u8 95))) [], .mk (some 20) none (.pick
 (.tmp 17) (.const (.bool true)) (.tmp 19)) [], .mk (some 2) none (.mov (.tmp 20)) []]) .ret))
theorem F134_ok : compFn Tryz.prog (byId h134) 134 = some F134 := by kernel_rfl
def h145 : List (Nat × List (Nat × List Nat) × List Nat) := []
def F145 : AFn :=
 AFn.mk 5 [.cell 2 (some 5)] (.seq (.row [.mk (some 2) none (.alloc 170 [.val (.int .i64 0), .val (.string (ByteArray.mk #[])), .val (.int .i64 0), .sl [] [] .full, .val (.int .i64 0)]) []]) (.seq (.row [.mk (some 3) none (.mov (.tmp 0)) [],
 .mk (some 4) none (.call (.func 146) [.tmp 3, .const (.int .i64 0)]) [], .mk none none (.store 5 (.tmp 2) (.tmp 4)) []]) .ret))
theorem F145_ok : compFn Tryz.prog (byId h145) 145 = some F145 := by kernel_rfl
def h153 : List (Nat × List (Nat × List Nat) × List Nat) := [(7, [(0, []), (1, []), (2, []), (3, []), (4, []), (7, []), (8, []), (5, [1, 8]), (6, []), (9, []), (10, [])], [0, 0, 0, 0, 8, 28, 62, 0, 128, 511, 1023])]
def F153 : AFn :=
 AFn.mk 55 [.cell 4 (some 5)] (.seq (.row [.mk (some 4) none (.alloc 170 [.val (.int .i64 0), .val (.string (ByteArray.mk #[])), .val (.int .i64 0), .sl [] [] .full, .val (.int .i64 0)]) []]) (.seq (.seq (.row [.mk (some 7) none (.mov (.tmp
 1)) [], .mk (some 8) none (.bin .eql 3 .other (.tmp 7) (.const (.int .i64 6))) []]) (.cond (.tmp 8) (.seq (.row [.mk (some 9) none (.mov (.tmp 0)) [], .mk (some 10) none (.call (.func 182) [.tmp 9]) [], .mk none none (.store 5 (.tmp 4)
 (.tmp 10)) []]) .ret) .skip)) (.seq (.row [.mk (some 11) none (.mov (.tmp 0)) [], .mk (some 12) none (.mov (.tmp 1)) [], .mk (some 13) none (.bin .add 3 .other (.tmp 12) (.const (.int .i64 1))) [], .mk (some 14) none (.call (.func 153)
 [.tmp 11, .tmp 13]) [], .mk (some 5) none (.alloc 170 [.val (.int .i64 0), .val (.string (ByteArray.mk #[])), .val (.int .i64 0), .sl [] [] .full, .val (.int .i64 0)]) [], .mk none none (.store 5 (.tmp 5) (.tmp 14)) []]) (.seq (.block 0
 (.loop (.seq (.seq (.row [.mk (some 15) none (.mov (.tmp 0)) [], .mk (some 16) none (.nilc (.tmp 15)) [], .mk (some 17) none (.fieldA 2 (.tmp 16)) [], .mk (some 18) none (.load none (.tmp 17)) [], .mk (some 19) none (.un .not (.tmp 18)) [],
 .mk (some 20) none (.mov (.tmp 19)) [], .mk (some 21) (some (20, true)) (.mov (.tmp 0)) [], .mk (some 22) (some (20, true)) (.call (.func 154) [.tmp 21]) [], .mk (some 23) (some (20, true)) (.field 0 none (.tmp 22)) [], .mk (some 24) (some
 (20, true)) (.bin .eql 177 .other (.tmp 23) (.const (.int .i64 4))) [], .mk (some 25) none (.pick (.tmp 20) (.tmp 24) (.const (.bool false))) [], .mk (some 26) none (.mov (.tmp 25)) [], .mk (some 27) (some (26, true)) (.mov (.tmp 0)) [],
 .mk (some 28) (some (26, true)) (.call (.func 154) [.tmp 27]) [], .mk (some 29) (some (26, true)) (.field 1 none (.tmp 28)) [], .mk (some 30) (some (26, true)) (.call (.func 183) [.tmp 29]) [], .mk (some 31) (some (26, true)) (.mov (.tmp
 1)) [], .mk (some 32) (some (26, true)) (.bin .eql 3 .other (.tmp 30) (.tmp 31)) [], .mk (some 33) none (.pick (.tmp 26) (.tmp 32) (.const (.bool false))) []]) (.cond (.tmp 33) .skip (.exit 0))) (.block 1 (.seq (.row [.mk (some 34) none
 (.mov (.tmp 0)) [], .mk (some 35) none (.call (.func 154) [.tmp 34]) [], .mk (some 36) none (.field 1 none (.tmp 35)) [], .mk (some 6) none (.mov (.tmp 36)) []]) (.seq (.row [.mk (some 37) none (.mov (.tmp 0)) [], .mk (some 38) none (.nilc
 (.tmp 37)) [], .mk (some 39) none (.fieldA 1 (.tmp 38)) [], .mk (some 40) none (.load none (.tmp 39)) [], .mk (some 41) none (.bin .add 3 .other (.tmp 40) (.const (.int .i64 1))) [], .mk (some 42) none (.nilc (.tmp 37)) [], .mk (some 43)
 none (.fieldA 1 (.tmp 42)) [], .mk none none (.store 1 (.tmp 43) (.tmp 41)) []]) (.row [.mk (some 44) none (.mov (.tmp 6)) [], .mk (some 45) none (.load (some 5) (.tmp 5)) [], .mk (some 46) none (.mov (.tmp 0)) [], .mk (some 47) none (.mov
 (.tmp 1)) [], .mk (some 48) none (.bin .add 3 .other (.tmp 47) (.const (.int .i64 1))) [], .mk (some 51) none (.fieldA 4 (.tmp 5)) [], .mk (some 52) none (.load none (.tmp 51)) [], .mk (some 49) none (.call (.func 153) [.tmp 46, .tmp 48])
 [(45, none, .load (some 5) (.tmp 5)), (52, none, .load none (.tmp 51))], .mk (some 50) none (.lits 5 [.val (.int .i64 0), .val (.string (ByteArray.mk #[])), .val (.int .i64 0), .sl [] [] .full, .val (.int .i64 0)] 2 [(0, .tmp 45), (1, .tmp
 49)]) [], .mk (some 53) none (.build [.val (.int .i64 0), .val (.string (ByteArray.mk #[])), .val (.int .i64 0), .sl [] [] .full, .val (.int .i64 0)] [(0, 1, .const (.int .i64 7)), (1, 1, .tmp 44), (3, 1, .tmp 50), (4, 1, .tmp 52)]) [], .mk
 none none (.store 5 (.tmp 5) (.tmp 53)) []]))))))) (.seq (.row [.mk (some 54) none (.load (some 5) (.tmp 5)) [], .mk none none (.store 5 (.tmp 4) (.tmp 54)) []]) .ret)))))
theorem F153_ok : compFn Tryz.prog (byId h153) 153 = some F153 := by kernel_rfl
def h157 : List (Nat × List (Nat × List Nat) × List Nat) := []
def F157 : AFn :=
 AFn.mk 16 [.tmp 2] (.seq (.row [.mk (some 2) none (.mov (.const (.string (ByteArray.mk #[])))) []]) (.seq (.seq (.row [.mk (some 4) none (.mov (.const (.int .i64 0))) []]) (.block 0 (.loop (.seq (.row [.mk (some 5) none (.bin .lss 3 .other
 (.tmp 4) (.const (.int .i64 25))) []]) (.seq (.cond (.tmp 5) .skip (.exit 0)) (.seq (.block 1 (.seq (.row [.mk (some 6) none (.mov (.tmp 4)) [], .mk (some 3) none (.mov (.tmp 6)) []]) (.seq (.row [.mk (some 7) none (.mov (.tmp 0)) [], .mk
 (some 8) none (.mov (.tmp 3)) [], .mk (some 9) none (.idxA 25 1 (.global 2) (.tmp 8)) [], .mk (some 10) none (.load none (.tmp 9)) [], .mk (some 11) none (.call (.func 188) [.tmp 7, .tmp 10]) []]) (.cond (.tmp 11) (.seq (.row [.mk (some 12)
 none (.mov (.tmp 3)) [], .mk (some 13) none (.idxA 25 1 (.global 2) (.tmp 12)) [], .mk (some 14) none (.load none (.tmp 13)) [], .mk (some 2) none (.mov (.tmp 14)) []]) .ret) .skip)))) (.row [.mk (some 15) none (.bin .add 3 .other (.tmp 4)
 (.const (.int .i64 1))) [], .mk (some 4) none (.mov (.tmp 15)) []]))))))) (.seq (.row [.mk (some 2) none (.mov (.const (.string (ByteArray.mk #[])))) []]) .ret)))
theorem F157_ok : compFn Tryz.prog (byId h157) 157 = some F157 := by kernel_rfl
def h161 : List (Nat × List (Nat × List Nat) × List Nat) := []
def F161 : AFn :=
 AFn.mk 2 [.tmp 0] (.seq (.row [.mk (some 0) none (.mov (.const (.slice none 0 0))) []]) (.seq (.row [.mk (some 1) none (.lits 1 [.val (.string (ByteArray.mk #[]))] 10 [(0, .const (.string (ByteArray.mk #[102, 110]))), (1, .const (.string
 (ByteArray.mk #[114, 101, 99, 111, 114, 100]))), (2, .const (.string (ByteArray.mk #[108, 101, 116]))), (3, .const (.string (ByteArray.mk #[105, 102]))), (4, .const (.string (ByteArray.mk #[101, 108, 115, 101]))), (5, .const (.string
 (ByteArray.mk #[119, 104, 105, 108, 101]))), (6, .const (.string (ByteArray.mk #[114, 101, 116, 117, 114, 110]))), (7, .const (.string (ByteArray.mk #[110, 101, 119]))), (8, .const (.string (ByteArray.mk #[116, 114, 117, 101]))), (9, .const
 (.string (ByteArray.mk #[102, 97, 108, 115, 101])))]) [], .mk (some 0) none (.mov (.tmp 1)) []]) .ret))
theorem F161_ok : compFn Tryz.prog (byId h161) 161 = some F161 := by kernel_rfl
def h174 : List (Nat × List (Nat × List Nat) × List Nat) := []
def F174 : AFn :=
 AFn.mk 23 [.tmp 2] (.seq (.row [.mk (some 2) none (.mov (.const (.int .i64 0))) []]) (.seq (.seq (.row [.mk (some 3) none (.mov (.tmp 0)) []]) (.block 0 (.seq (.row [.mk (some 5) none (.bin .eql 9 .other (.tmp 3) (.const (.string
 (ByteArray.mk #[124, 124])))) [], .mk (some 4) none (.mov (.tmp 5)) []]) (.cond (.tmp 4) (.seq (.row [.mk (some 2) none (.mov (.const (.int .i64 0))) []]) .ret) (.seq (.row [.mk (some 7) none (.bin .eql 9 .other (.tmp 3) (.const (.string
 (ByteArray.mk #[38, 38])))) [], .mk (some 6) none (.mov (.tmp 7)) []]) (.cond (.tmp 6) (.seq (.row [.mk (some 2) none (.mov (.const (.int .i64 1))) []]) .ret) (.seq (.seq (.row [.mk (some 9) none (.bin .eql 9 .other (.tmp 3) (.const
 (.string (ByteArray.mk #[61, 61])))) [], .mk (some 8) none (.mov (.tmp 9)) []]) (.cond (.tmp 8) .skip (.row [.mk (some 10) none (.bin .eql 9 .other (.tmp 3) (.const (.string (ByteArray.mk #[33, 61])))) [], .mk (some 8) none (.mov (.tmp 10))
 []]))) (.cond (.tmp 8) (.seq (.row [.mk (some 2) none (.mov (.const (.int .i64 2))) []]) .ret) (.seq (.seq (.row [.mk (some 12) none (.bin .eql 9 .other (.tmp 3) (.const (.string (ByteArray.mk #[60])))) [], .mk (some 11) none (.mov (.tmp
 12)) []]) (.cond (.tmp 11) .skip (.seq (.row [.mk (some 13) none (.bin .eql 9 .other (.tmp 3) (.const (.string (ByteArray.mk #[60, 61])))) [], .mk (some 11) none (.mov (.tmp 13)) []]) (.cond (.tmp 11) .skip (.seq (.row [.mk (some 14) none
 (.bin .eql 9 .other (.tmp 3) (.const (.string (ByteArray.mk #[62])))) [], .mk (some 11) none (.mov (.tmp 14)) []]) (.cond (.tmp 11) .skip (.row [.mk (some 15) none (.bin .eql 9 .other (.tmp 3) (.const (.string (ByteArray.mk #[62, 61]))))
 [], .mk (some 11) none (.mov (.tmp 15)) []]))))))) (.cond (.tmp 11) (.seq (.row [.mk (some 2) none (.mov (.const (.int .i64 3))) []]) .ret) (.seq (.seq (.row [.mk (some 17) none (.bin .eql 9 .other (.tmp 3) (.const (.string (ByteArray.mk
 #[43])))) [], .mk (some 16) none (.mov (.tmp 17)) []]) (.cond (.tmp 16) .skip (.row [.mk (some 18) none (.bin .eql 9 .other (.tmp 3) (.const (.string (ByteArray.mk #[45])))) [], .mk (some 16) none (.mov (.tmp 18)) []]))) (.cond (.tmp 16)
 (.seq (.row [.mk (some 2) none (.mov (.const (.int .i64 4))) []]) .ret) (.seq (.seq (.row [.mk (some 20) none (.bin .eql 9 .other (.tmp 3) (.const (.string (ByteArray.mk #[42])))) [], .mk (some 19) none (.mov (.tmp 20)) []]) (.cond (.tmp
 19) .skip (.seq (.row [.mk (some 21) none (.bin .eql 9 .other (.tmp 3) (.const (.string (ByteArray.mk #[47])))) [], .mk (some 19) none (.mov (.tmp 21)) []]) (.cond (.tmp 19) .skip (.row [.mk (some 22) none (.bin .eql 9 .other (.tmp 3)
 (.const (.string (ByteArray.mk #[37])))) [], .mk (some 19) none (.mov (.tmp 22)) []]))))) (.cond (.tmp 19) (.seq (.row [.mk (some 2) none (.mov (.const (.int .i64 5))) []]) .ret) .skip)))))))))))))) (.seq (.row [.mk (some 2) none (.mov
 (.const (.int .i64 (-1)))) []]) .ret)))
theorem F174_ok : compFn Tryz.prog (byId h174) 174 = some F174 := by kernel_rfl
def h183 : List (Nat × List (Nat × List Nat) × List Nat) := []
def F183 : AFn :=
 AFn.mk 38 [.tmp 2] (.seq (.row [.mk (some 2) none (.mov (.const (.int .i64 0))) []]) (.seq (.row [.mk (some 6) none (.lits 1 [.val (.string (ByteArray.mk #[]))] 1 [(0, .const (.string (ByteArray.mk #[124, 124])))]) [], .mk (some 7) none
 (.lits 1 [.val (.string (ByteArray.mk #[]))] 1 [(0, .const (.string (ByteArray.mk #[38, 38])))]) [], .mk (some 8) none (.lits 1 [.val (.string (ByteArray.mk #[]))] 2 [(0, .const (.string (ByteArray.mk #[61, 61]))), (1, .const (.string
 (ByteArray.mk #[33, 61])))]) [], .mk (some 9) none (.lits 1 [.val (.string (ByteArray.mk #[]))] 4 [(0, .const (.string (ByteArray.mk #[60]))), (1, .const (.string (ByteArray.mk #[60, 61]))), (2, .const (.string (ByteArray.mk #[62]))), (3,
 .const (.string (ByteArray.mk #[62, 61])))]) [], .mk (some 10) none (.lits 1 [.val (.string (ByteArray.mk #[]))] 2 [(0, .const (.string (ByteArray.mk #[43]))), (1, .const (.string (ByteArray.mk #[45])))]) [], .mk (some 11) none (.lits 1
 [.val (.string (ByteArray.mk #[]))] 3 [(0, .const (.string (ByteArray.mk #[42]))), (1, .const (.string (ByteArray.mk #[47]))), (2, .const (.string (ByteArray.mk #[37])))]) [], .mk (some 12) none (.lits 1 [.sl [] [] .full] 6 [(0, .tmp 6),
 (1, .tmp 7), (2, .tmp 8), (3, .tmp 9), (4, .tmp 10), (5, .tmp 11)]) [], .mk (some 3) none (.mov (.tmp 12)) []]) (.seq (.seq (.row [.mk (some 4) none (.mov (.const (.int .i64 0))) []]) (.block 0 (.loop (.seq (.seq (.row [.mk (some 13) none
 (.mov (.tmp 4)) [], .mk (some 14) none (.mov (.tmp 3)) [], .mk (some 15) none (.len false (.tmp 14)) [], .mk (some 16) none (.bin .lss 3 .other (.tmp 13) (.tmp 15)) []]) (.cond (.tmp 16) .skip (.exit 0))) (.seq (.block 1 (.seq (.row [.mk
 (some 5) none (.mov (.const (.int .i64 0))) []]) (.block 2 (.loop (.seq (.seq (.row [.mk (some 19) none (.mov (.tmp 5)) [], .mk (some 20) none (.mov (.tmp 3)) [], .mk (some 21) none (.mov (.tmp 4)) [], .mk (some 22) none (.idxL 1 (.tmp 20)
 (.tmp 21)) [], .mk (some 23) none (.load none (.tmp 22)) [], .mk (some 24) none (.len false (.tmp 23)) [], .mk (some 25) none (.bin .lss 3 .other (.tmp 19) (.tmp 24)) []]) (.cond (.tmp 25) .skip (.exit 2))) (.seq (.block 3 (.seq (.row [.mk
 (some 28) none (.mov (.tmp 3)) [], .mk (some 29) none (.mov (.tmp 4)) [], .mk (some 30) none (.idxL 1 (.tmp 28) (.tmp 29)) [], .mk (some 31) none (.load none (.tmp 30)) [], .mk (some 32) none (.mov (.tmp 5)) [], .mk (some 33) none (.idxL 1
 (.tmp 31) (.tmp 32)) [], .mk (some 34) none (.load none (.tmp 33)) [], .mk (some 35) none (.mov (.tmp 0)) [], .mk (some 36) none (.bin .eql 9 .other (.tmp 34) (.tmp 35)) []]) (.cond (.tmp 36) (.seq (.row [.mk (some 37) none (.mov (.tmp 4))
 [], .mk (some 2) none (.mov (.tmp 37)) []]) .ret) .skip))) (.row [.mk (some 26) none (.mov (.tmp 5)) [], .mk (some 27) none (.bin .add 3 .other (.tmp 26) (.const (.int .i64 1))) [], .mk (some 5) none (.mov (.tmp 27)) []]))))))) (.row [.mk
 (some 17) none (.mov (.tmp 4)) [], .mk (some 18) none (.bin .add 3 .other (.tmp 17) (.const (.int .i64 1))) [], .mk (some 4) none (.mov (.tmp 18)) []])))))) (.seq (.row [.mk (some 2) none (.mov (.const (.int .i64 (-1)))) []]) .ret))))
theorem F183_ok : compFn Tryz.prog (byId h183) 183 = some F183 := by kernel_rfl
def h187 : List (Nat × List (Nat × List Nat) × List Nat) := []
def F187 : AFn :=
 AFn.mk 15 [.tmp 2] (.seq (.row [.mk (some 2) none (.mov (.const (.bool false))) []]) (.seq (.row [.mk (some 3) none (.mov (.tmp 0)) [], .mk (some 4) none (.bin .or 5 .other (.tmp 3) (.const (.int .u8 32))) [], .mk (some 5) none (.bin .geq 5
 .other (.tmp 4) (.const (.int .u8 97))) [], .mk (some 6) none (.mov (.tmp 5)) [], .mk (some 7) (some (6, true)) (.mov (.tmp 0)) [], .mk (some 8) (some (6, true)) (.bin .or 5 .other (.tmp 7) (.const (.int .u8 32))) [], .mk (some 9) (some (6,
 true)) (.bin .leq 5 .other (.tmp 8) (.const (.int .u8 122))) [], .mk (some 10) none (.pick (.tmp 6) (.tmp 9) (.const (.bool false))) [], .mk (some 11) none (.mov (.tmp 10)) [], .mk (some 12) (some (11, false)) (.mov (.tmp 0)) [], .mk (some
 13) (some (11, false)) (.bin .eql 5 .other (.tmp 12) (.const (.int .u8 95))) [], .mk (some 14) none (.pick (.tmp 11) (.const (.bool true)) (.tmp 13)) [], .mk (some 2) none (.mov (.tmp 14)) []]) .ret))
theorem F187_ok : compFn Tryz.prog (byId h187) 187 = some F187 := by kernel_rfl
def h201 : List (Nat × List (Nat × List Nat) × List Nat) := []
def F201 : AFn :=
 AFn.mk 19 [.tmp 4] (.seq (.row [.mk (some 4) none (.mov (.const (.bool false))) []]) (.seq (.row [.mk (some 6) none (.mov (.tmp 0)) [], .mk (some 7) none (.mov (.tmp 1)) [], .mk (some 8) none (.call (.func 222) [.tmp 6, .tmp 7]) [], .mk
 (some 5) none (.mov (.tmp 8)) []]) (.seq (.seq (.row [.mk (some 9) none (.mov (.tmp 5)) []]) (.cond (.tmp 9) (.row [.mk (some 10) none (.mov (.tmp 0)) [], .mk (some 11) none (.mov (.tmp 0)) [], .mk (some 12) none (.nilc (.tmp 11)) [], .mk
 (some 13) none (.fieldA 0 (.tmp 12)) [], .mk (some 14) none (.load none (.tmp 13)) [], .mk (some 15) none (.sliceL 5 (.tmp 14) (some (.const (.int .i64 1))) none none) [], .mk (some 16) none (.nilc (.tmp 10)) [], .mk (some 17) none (.fieldA
 0 (.tmp 16)) [], .mk none none (.store 1 (.tmp 17) (.tmp 15)) []]) .skip)) (.seq (.row [.mk (some 18) none (.mov (.tmp 5)) [], .mk (some 4) none (.mov (.tmp 18)) []]) .ret))))
theorem F201_ok : compFn Tryz.prog (byId h201) 201 = some F201 := by kernel_rfl
def h207 : List (Nat × List (Nat × List Nat) × List Nat) := []
def F207 : AFn :=
 AFn.mk 80 [.tmp 4, .tmp 5, .tmp 6] (.seq (.row [.mk (some 4) none (.mov (.const (.string (ByteArray.mk #[])))) [], .mk (some 5) none (.mov (.const (.int .i64 0))) [], .mk (some 6) none (.mov (.const (.int .i64 0))) []]) (.seq (.row [.mk
 (some 7) none (.mov (.const (.slice none 0 0))) []]) (.seq (.row [.mk (some 8) none (.mov (.const (.bool false))) []]) (.seq (.seq (.row [.mk (some 11) none (.mov (.tmp 1)) [], .mk (some 12) none (.bin .add 3 .other (.tmp 11) (.const (.int
 .i64 1))) [], .mk (some 9) none (.mov (.tmp 12)) []]) (.block 0 (.loop (.seq (.seq (.row [.mk (some 13) none (.mov (.tmp 9)) [], .mk (some 14) none (.mov (.tmp 0)) [], .mk (some 15) none (.len true (.tmp 14)) [], .mk (some 16) none (.bin
 .lss 3 .other (.tmp 13) (.tmp 15)) []]) (.cond (.tmp 16) .skip (.exit 0))) (.seq (.block 1 (.seq (.row [.mk (some 19) none (.mov (.tmp 0)) [], .mk (some 20) none (.mov (.tmp 9)) [], .mk (some 21) none (.idxStr (.tmp 19) (.tmp 20)) [], .mk
 (some 10) none (.mov (.tmp 21)) []]) (.seq (.block 2 (.seq (.row [.mk (some 23) none (.mov (.tmp 10)) [], .mk (some 24) none (.bin .eql 5 .other (.tmp 23) (.const (.int .u8 34))) [], .mk (some 22) none (.mov (.tmp 24)) []]) (.cond (.tmp 22)
 (.seq (.seq (.row [.mk (some 25) none (.mov (.tmp 8)) []]) (.cond (.tmp 25) (.seq (.row [.mk (some 4) none (.mov (.const (.string (ByteArray.mk #[])))) [], .mk (some 5) none (.mov (.const (.int .i64 0))) [], .mk (some 6) none (.mov (.const
 (.int .i64 5))) []]) .ret) .skip)) (.seq (.row [.mk (some 26) none (.mov (.tmp 7)) [], .mk (some 27) none (.b2s (.tmp 26)) [], .mk (some 28) none (.mov (.tmp 9)) [], .mk (some 29) none (.bin .add 3 .other (.tmp 28) (.const (.int .i64 1)))
 [], .mk (some 4) none (.mov (.tmp 27)) [], .mk (some 5) none (.mov (.tmp 29)) [], .mk (some 6) none (.mov (.const (.int .i64 0))) []]) .ret)) (.seq (.row [.mk (some 31) none (.mov (.tmp 10)) [], .mk (some 32) none (.bin .lss 5 .other (.tmp
 31) (.const (.int .u8 32))) [], .mk (some 33) none (.mov (.tmp 32)) [], .mk (some 34) (some (33, false)) (.mov (.tmp 10)) [], .mk (some 35) (some (33, false)) (.bin .gtr 5 .other (.tmp 34) (.const (.int .u8 126))) [], .mk (some 36) none
 (.pick (.tmp 33) (.const (.bool true)) (.tmp 35)) [], .mk (some 30) none (.mov (.tmp 36)) []]) (.cond (.tmp 30) (.seq (.row [.mk (some 4) none (.mov (.const (.string (ByteArray.mk #[])))) [], .mk (some 5) none (.mov (.const (.int .i64 0)))
 [], .mk (some 6) none (.mov (.const (.int .i64 6))) []]) .ret) (.seq (.row [.mk (some 38) none (.mov (.tmp 10)) [], .mk (some 39) none (.bin .eql 5 .other (.tmp 38) (.const (.int .u8 92))) [], .mk (some 37) none (.mov (.tmp 39)) []]) (.cond
 (.tmp 37) (.seq (.row [.mk (some 40) none (.mov (.tmp 9)) [], .mk (some 41) none (.bin .add 3 .other (.tmp 40) (.const (.int .i64 1))) [], .mk (some 9) none (.mov (.tmp 41)) []]) (.seq (.seq (.row [.mk (some 42) none (.mov (.tmp 9)) [], .mk
 (some 43) none (.mov (.tmp 0)) [], .mk (some 44) none (.len true (.tmp 43)) [], .mk (some 45) none (.bin .eql 3 .other (.tmp 42) (.tmp 44)) [], .mk (some 46) none (.mov (.tmp 45)) [], .mk (some 47) (some (46, false)) (.mov (.tmp 0)) [], .mk
 (some 48) (some (46, false)) (.mov (.tmp 9)) [], .mk (some 49) (some (46, false)) (.idxStr (.tmp 47) (.tmp 48)) [], .mk (some 50) (some (46, false)) (.bin .neq 5 .other (.tmp 49) (.const (.int .u8 92))) [], .mk (some 51) (some (46, false))
 (.mov (.tmp 50)) [], .mk (some 52) (some (51, true)) (.mov (.tmp 0)) [], .mk (some 53) (some (51, true)) (.mov (.tmp 9)) [], .mk (some 54) (some (51, true)) (.idxStr (.tmp 52) (.tmp 53)) [], .mk (some 55) (some (51, true)) (.bin .neq 5
 .other (.tmp 54) (.const (.int .u8 34))) [], .mk (some 56) (some (46, false)) (.pick (.tmp 51) (.tmp 55) (.const (.bool false))) [], .mk (some 57) (some (46, false)) (.mov (.tmp 56)) [], .mk (some 58) (some (57, true)) (.mov (.tmp 0)) [],
 .mk (some 59) (some (57, true)) (.mov (.tmp 9)) [], .mk (some 60) (some (57, true)) (.idxStr (.tmp 58) (.tmp 59)) [], .mk (some 61) (some (57, true)) (.bin .neq 5 .other (.tmp 60) (.const (.int .u8 110))) [], .mk (some 62) (some (46,
 false)) (.pick (.tmp 57) (.tmp 61) (.const (.bool false))) [], .mk (some 63) none (.pick (.tmp 46) (.const (.bool true)) (.tmp 62)) []]) (.cond (.tmp 63) (.seq (.row [.mk (some 4) none (.mov (.const (.string (ByteArray.mk #[])))) [], .mk
 (some 5) none (.mov (.const (.int .i64 0))) [], .mk (some 6) none (.mov (.const (.int .i64 6))) []]) .ret) .skip)) (.seq (.row [.mk (some 64) none (.mov (.tmp 0)) [], .mk (some 65) none (.mov (.tmp 9)) [], .mk (some 66) none (.idxStr (.tmp
 64) (.tmp 65)) [], .mk (some 10) none (.mov (.tmp 66)) []]) (.seq (.row [.mk (some 67) none (.mov (.tmp 10)) [], .mk (some 68) none (.bin .eql 5 .other (.tmp 67) (.const (.int .u8 110))) []]) (.cond (.tmp 68) (.row [.mk (some 10) none (.mov
 (.const (.int .u8 10))) []]) .skip))))) .skip))))))) (.seq (.row [.mk (some 69) none (.mov (.tmp 7)) [], .mk (some 70) none (.mov (.tmp 10)) [], .mk (some 71) none (.lits 1 [.val (.int .u8 0)] 1 [(0, .tmp 70)]) [], .mk (some 72) none (.app
 5 1 1 (.tmp 69) (.tmp 71)) [], .mk (some 7) none (.mov (.tmp 72)) []]) (.seq (.row [.mk (some 73) none (.mov (.tmp 8)) [], .mk (some 74) none (.mov (.tmp 73)) [], .mk (some 75) (some (74, false)) (.mov (.tmp 7)) [], .mk (some 76) (some (74,
 false)) (.len false (.tmp 75)) [], .mk (some 77) (some (74, false)) (.bin .gtr 3 .other (.tmp 76) (.const (.int .i64 255))) [], .mk (some 78) none (.pick (.tmp 74) (.const (.bool true)) (.tmp 77)) [], .mk (some 8) none (.mov (.tmp 78)) []])
 (.seq (.row [.mk (some 79) none (.mov (.tmp 8)) []]) (.cond (.tmp 79) (.seq (.row [.mk (some 4) none (.mov (.const (.string (ByteArray.mk #[])))) [], .mk (some 5) none (.mov (.const (.int .i64 0))) [], .mk (some 6) none (.mov (.const (.int
 .i64 5))) []]) .ret) .skip))))))) (.row [.mk (some 17) none (.mov (.tmp 9)) [], .mk (some 18) none (.bin .add 3 .other (.tmp 17) (.const (.int .i64 1))) [], .mk (some 9) none (.mov (.tmp 18)) []])))))) (.seq (.row [.mk (some 4) none (.mov
 (.const (.string (ByteArray.mk #[])))) [], .mk (some 5) none (.mov (.const (.int .i64 0))) [], .mk (some 6) none (.mov (.const (.int .i64 6))) []]) .ret)))))
theorem F207_ok : compFn Tryz.prog (byId h207) 207 = some F207 := by kernel_rfl
def h211 : List (Nat × List (Nat × List Nat) × List Nat) := []
def F211 : AFn :=
 AFn.mk 11 [] (.seq (.row [.mk (some 4) none (.mov (.tmp 0)) [], .mk (some 5) none (.mov (.tmp 1)) [], .mk (some 6) none (.call (.func 209) [.tmp 4, .tmp 5]) [], .mk (some 7) none (.un .not (.tmp 6)) []]) (.cond (.tmp 7) (.row [.mk (some 8)
 none (.mov (.tmp 0)) [], .mk (some 9) none (.nilc (.tmp 8)) [], .mk (some 10) none (.fieldA 2 (.tmp 9)) [], .mk none none (.store 1 (.tmp 10) (.const (.bool true))) []]) .skip))
theorem F211_ok : compFn Tryz.prog (byId h211) 211 = some F211 := by kernel_rfl
def h218 : List (Nat × List (Nat × List Nat) × List Nat) := []
def F218 : AFn :=
 AFn.mk 71 [.cell 4 (some 5), .tmp 5] (.seq (.row [.mk (some 4) none (.alloc 179 [.val (.int .i64 0), .val (.string (ByteArray.mk #[])), .val (.int .i64 0), .val (.int .i64 0), .val (.int .i64 0)]) [], .mk (some 5) none (.mov (.const (.int
 .i64 0))) []]) (.seq (.seq (.row [.mk (some 14) none (.mov (.tmp 1)) [], .mk (some 15) none (.idxStr (.tmp 14) (.const (.int .i64 0))) [], .mk (some 6) none (.mov (.tmp 15)) []]) (.block 0 (.seq (.row [.mk (some 17) none (.mov (.tmp 6)) [],
 .mk (some 18) none (.call (.func 187) [.tmp 17]) [], .mk (some 16) none (.mov (.tmp 18)) []]) (.cond (.tmp 16) (.seq (.row [.mk (some 19) none (.mov (.tmp 1)) [], .mk (some 20) none (.call (.func 185) [.tmp 19, .func 232]) [], .mk (some 7)
 none (.mov (.tmp 20)) []]) (.seq (.row [.mk (some 21) none (.mov (.tmp 0)) [], .mk (some 22) none (.mov (.tmp 1)) [], .mk (some 23) none (.mov (.tmp 7)) [], .mk (some 24) none (.sliceS (.tmp 22) none (some (.tmp 23))) [], .mk (some 25) none
 (.call (.func 233) [.tmp 21, .tmp 24]) [], .mk (some 26) none (.mov (.tmp 7)) [], .mk none none (.store 5 (.tmp 4) (.tmp 25)) [], .mk (some 5) none (.mov (.tmp 26)) []]) .ret)) (.seq (.row [.mk (some 28) none (.mov (.tmp 6)) [], .mk (some
 29) none (.call (.func 184) [.tmp 28]) [], .mk (some 27) none (.mov (.tmp 29)) []]) (.cond (.tmp 27) (.seq (.row [.mk (some 30) none (.mov (.tmp 1)) [], .mk (some 31) none (.call (.func 185) [.tmp 30, .func 184]) [], .mk (some 8) none (.mov
 (.tmp 31)) []]) (.seq (.row [.mk (some 33) none (.mov (.tmp 1)) [], .mk (some 34) none (.mov (.tmp 8)) [], .mk (some 35) none (.sliceS (.tmp 33) none (some (.tmp 34))) [], .mk (some 36) none (.call (.func 125) [.tmp 35, .const (.int .i64
 10), .const (.int .i64 64)]) [], .mk (some 32) none (.mov (.tmp 36)) [], .mk (some 37) none (.ext (.tmp 32) 0) [], .mk (some 38) none (.ext (.tmp 32) 1) [], .mk (some 9) none (.mov (.tmp 37)) [], .mk (some 10) none (.mov (.tmp 38)) []])
 (.seq (.seq (.row [.mk (some 39) none (.mov (.tmp 10)) [], .mk (some 40) none (.bin .neq 163 .iface (.tmp 39) (.const .nilIface)) []]) (.cond (.tmp 40) (.row [.mk (some 41) none (.mov (.tmp 0)) [], .mk (some 42) none (.nilc (.tmp 41)) [],
 .mk (some 43) none (.fieldA 3 (.tmp 42)) [], .mk none none (.store 1 (.tmp 43) (.const (.int .i64 5))) []]) .skip)) (.seq (.row [.mk (some 44) none (.mov (.tmp 9)) [], .mk (some 45) none (.build [.val (.int .i64 0), .val (.string
 (ByteArray.mk #[])), .val (.int .i64 0), .val (.int .i64 0), .val (.int .i64 0)] [(0, 1, .const (.int .i64 2)), (2, 1, .tmp 44)]) [], .mk (some 46) none (.mov (.tmp 8)) [], .mk none none (.store 5 (.tmp 4) (.tmp 45)) [], .mk (some 5) none
 (.mov (.tmp 46)) []]) .ret)))) (.seq (.row [.mk (some 48) none (.mov (.tmp 6)) [], .mk (some 49) none (.bin .eql 5 .other (.tmp 48) (.const (.int .u8 34))) [], .mk (some 47) none (.mov (.tmp 49)) []]) (.cond (.tmp 47) (.seq (.row [.mk (some
 51) none (.mov (.tmp 0)) [], .mk (some 52) none (.mov (.tmp 1)) [], .mk (some 53) none (.sliceS (.tmp 52) (some (.const (.int .i64 1))) none) [], .mk (some 54) none (.call (.func 234) [.tmp 51, .tmp 53]) [], .mk (some 50) none (.mov (.tmp
 54)) [], .mk (some 55) none (.ext (.tmp 50) 0) [], .mk (some 56) none (.ext (.tmp 50) 1) [], .mk (some 11) none (.mov (.tmp 55)) [], .mk (some 12) none (.mov (.tmp 56)) []]) (.seq (.row [.mk (some 57) none (.mov (.tmp 11)) [], .mk (some 58)
 none (.build [.val (.int .i64 0), .val (.string (ByteArray.mk #[])), .val (.int .i64 0), .val (.int .i64 0), .val (.int .i64 0)] [(0, 1, .const (.int .i64 3)), (1, 1, .tmp 57)]) [], .mk (some 59) none (.mov (.tmp 12)) [], .mk none none
 (.store 5 (.tmp 4) (.tmp 58)) [], .mk (some 5) none (.mov (.tmp 59)) []]) .ret)) .skip)))))))) (.seq (.row [.mk (some 60) none (.mov (.tmp 1)) [], .mk (some 61) none (.call (.func 157) [.tmp 60]) [], .mk (some 13) none (.mov (.tmp 61)) []])
 (.seq (.seq (.row [.mk (some 62) none (.mov (.tmp 13)) [], .mk (some 63) none (.bin .eql 9 .other (.tmp 62) (.const (.string (ByteArray.mk #[])))) []]) (.cond (.tmp 63) (.row [.mk (some 64) none (.mov (.tmp 0)) [], .mk (some 65) none (.nilc
 (.tmp 64)) [], .mk (some 66) none (.fieldA 3 (.tmp 65)) [], .mk none none (.store 1 (.tmp 66) (.const (.int .i64 6))) []]) .skip)) (.seq (.row [.mk (some 67) none (.mov (.tmp 13)) [], .mk (some 68) none (.build [.val (.int .i64 0), .val
 (.string (ByteArray.mk #[])), .val (.int .i64 0), .val (.int .i64 0), .val (.int .i64 0)] [(0, 1, .const (.int .i64 4)), (1, 1, .tmp 67)]) [], .mk (some 69) none (.mov (.tmp 13)) [], .mk (some 70) none (.len true (.tmp 69)) [], .mk none
 none (.store 5 (.tmp 4) (.tmp 68)) [], .mk (some 5) none (.mov (.tmp 70)) []]) .ret)))))
theorem F218_ok : compFn Tryz.prog (byId h218) 218 = some F218 := by kernel_rfl
def h225 : List (Nat × List (Nat × List Nat) × List Nat) := []
def F225 : AFn :=
 AFn.mk 17 [.tmp 4] (.seq (.row [.mk (some 4) none (.mov (.const (.slice none 0 0))) []]) (.seq (.row [.mk (some 6) none (.mov (.tmp 1)) [], .mk (some 7) none (.call (.tmp 6) []) [], .mk (some 8) none (.lits 5 [.val (.int .i64 0), .val
 (.string (ByteArray.mk #[])), .val (.int .i64 0), .sl [] [] .full, .val (.int .i64 0)] 1 [(0, .tmp 7)]) [], .mk (some 5) none (.mov (.tmp 8)) []]) (.seq (.block 0 (.loop (.seq (.seq (.row [.mk (some 9) none (.mov (.tmp 0)) [], .mk (some 10)
 none (.call (.func 201) [.tmp 9, .const (.string (ByteArray.mk #[44]))]) []]) (.cond (.tmp 10) .skip (.exit 0))) (.block 1 (.row [.mk (some 11) none (.mov (.tmp 5)) [], .mk (some 12) none (.mov (.tmp 1)) [], .mk (some 13) none (.call (.tmp
 12) []) [], .mk (some 14) none (.lits 5 [.val (.int .i64 0), .val (.string (ByteArray.mk #[])), .val (.int .i64 0), .sl [] [] .full, .val (.int .i64 0)] 1 [(0, .tmp 13)]) [], .mk (some 15) none (.app 170 64 5 (.tmp 11) (.tmp 14)) [], .mk
 (some 5) none (.mov (.tmp 15)) []]))))) (.seq (.row [.mk (some 16) none (.mov (.tmp 5)) [], .mk (some 4) none (.mov (.tmp 16)) []]) .ret))))
theorem F225_ok : compFn Tryz.prog (byId h225) 225 = some F225 := by kernel_rfl
def h232 : List (Nat × List (Nat × List Nat) × List Nat) := []
def F232 : AFn :=
 AFn.mk 9 [.tmp 2] (.seq (.row [.mk (some 2) none (.mov (.const (.bool false))) []]) (.seq (.row [.mk (some 3) none (.mov (.tmp 0)) [], .mk (some 4) none (.call (.func 187) [.tmp 3]) [], .mk (some 5) none (.mov (.tmp 4)) [], .mk (some 6)
 (some (5, false)) (.mov (.tmp 0)) [], .mk (some 7) (some (5, false)) (.call (.func 184) [.tmp 6]) [], .mk (some 8) none (.pick (.tmp 5) (.const (.bool true)) (.tmp 7)) [], .mk (some 2) none (.mov (.tmp 8)) []]) .ret))
theorem F232_ok : compFn Tryz.prog (byId h232) 232 = some F232 := by kernel_rfl
def h244 : List (Nat × List (Nat × List Nat) × List Nat) := []
def F244 : AFn :=
 AFn.mk 17 [.tmp 4] (.seq (.row [.mk (some 4) none (.mov (.const .nilIface)) []]) (.seq (.row [.mk (some 5) none (.mov (.tmp 0)) [], .mk (some 6) none (.call (.func 251) [.tmp 5]) []]) (.seq (.row [.mk (some 7) none (.mov (.tmp 0)) [], .mk
 (some 8) none (.mov (.tmp 0)) [], .mk (some 9) none (.nilc (.tmp 8)) [], .mk (some 10) none (.fieldA 1 (.tmp 9)) [], .mk (some 11) none (.load none (.tmp 10)) [], .mk (some 12) none (.mov (.tmp 1)) [], .mk (some 13) none (.lits 1 [.val
 (.int .u8 0)] 1 [(0, .tmp 12)]) [], .mk (some 14) none (.app 5 1 1 (.tmp 11) (.tmp 13)) [], .mk (some 15) none (.nilc (.tmp 7)) [], .mk (some 16) none (.fieldA 1 (.tmp 15)) [], .mk none none (.store 1 (.tmp 16) (.tmp 14)) []]) (.seq (.row
 [.mk (some 4) none (.mov (.const .nilIface)) []]) .ret))))
theorem F244_ok : compFn Tryz.prog (byId h244) 244 = some F244 := by kernel_rfl
def h17 : List (Nat × List (Nat × List Nat) × List Nat) := []
def F17 : AFn :=
 AFn.mk 46 [.tmp 0] (.seq (.row [.mk (some 0) none (.mov (.const (.bool false))) []]) (.seq (.row [.mk (some 4) none (.build [.val (.int .i64 0), .val (.int .i64 0), .val (.string (ByteArray.mk #[]))] [(0, 1, .const (.int .i64 10)), (1, 1,
 .const (.int .i64 12)), (2, 1, .const (.string (ByteArray.mk #[97, 32, 62, 32, 49])))]) [], .mk (some 5) none (.call (.func 18) [.tmp 4]) [], .mk (some 3) none (.mov (.tmp 5)) [], .mk (some 6) none (.ext (.tmp 3) 0) [], .mk (some 7) none
 (.ext (.tmp 3) 1) [], .mk (some 1) none (.mov (.tmp 6)) [], .mk (some 2) none (.mov (.tmp 7)) []]) (.seq (.row [.mk (some 8) none (.build [.val (.int .i64 0), .val (.int .i64 0), .val (.string (ByteArray.mk #[]))] [(0, 1, .const (.int .i64
 5))]) [], .mk (some 9) none (.call (.func 61) [.const (.string (ByteArray.mk #[98, 97, 99, 107, 45, 115, 116, 101, 112])), .tmp 8, .const (.int .i64 0)]) [], .mk (some 10) none (.mov (.tmp 9)) [], .mk (some 11) (some (10, true)) (.build
 [.val (.int .i64 0), .val (.int .i64 0), .val (.string (ByteArray.mk #[]))] [(0, 1, .const (.int .i64 10)), (1, 1, .const (.int .i64 12)), (2, 1, .const (.string (ByteArray.mk #[97, 32, 62, 32, 49])))]) [], .mk (some 12) (some (10, true))
 (.call (.func 61) [.const (.string (ByteArray.mk #[98, 114, 101, 97, 107, 32, 49, 50, 32, 105, 102, 32, 97, 32, 62, 32, 49])), .tmp 11, .const (.int .i64 0)]) [], .mk (some 13) none (.pick (.tmp 10) (.tmp 12) (.const (.bool false))) [], .mk
 (some 14) none (.mov (.tmp 13)) [], .mk (some 15) (some (14, true)) (.build [.val (.int .i64 0), .val (.int .i64 0), .val (.string (ByteArray.mk #[]))] [(0, 1, .const (.int .i64 9))]) [], .mk (some 16) (some (14, true)) (.call (.func 61)
 [.const (.string (ByteArray.mk #[103, 111, 116, 111, 32, 48])), .tmp 15, .const (.int .i64 0)]) [], .mk (some 17) none (.pick (.tmp 14) (.tmp 16) (.const (.bool false))) [], .mk (some 18) none (.mov (.tmp 17)) [], .mk (some 19) (some (18,
 true)) (.build [.val (.int .i64 0), .val (.int .i64 0), .val (.string (ByteArray.mk #[]))] []) [], .mk (some 20) (some (18, true)) (.call (.func 61) [.const (.string (ByteArray.mk #[103, 111, 116, 111, 32, 48, 49])), .tmp 19, .const (.int
 .i64 6)]) [], .mk (some 21) none (.pick (.tmp 18) (.tmp 20) (.const (.bool false))) [], .mk (some 22) none (.mov (.tmp 21)) [], .mk (some 23) (some (22, true)) (.build [.val (.int .i64 0), .val (.int .i64 0), .val (.string (ByteArray.mk
 #[]))] []) [], .mk (some 24) (some (22, true)) (.call (.func 61) [.const (.string (ByteArray.mk #[103, 111, 116, 111])), .tmp 23, .const (.int .i64 6)]) [], .mk (some 25) none (.pick (.tmp 22) (.tmp 24) (.const (.bool false))) [], .mk (some
 26) none (.mov (.tmp 25)) [], .mk (some 27) (some (26, true)) (.build [.val (.int .i64 0), .val (.int .i64 0), .val (.string (ByteArray.mk #[]))] []) [], .mk (some 28) (some (26, true)) (.call (.func 61) [.const (.string (ByteArray.mk
 #[115, 116, 101, 112, 32, 49])), .tmp 27, .const (.int .i64 6)]) [], .mk (some 29) none (.pick (.tmp 26) (.tmp 28) (.const (.bool false))) [], .mk (some 30) none (.mov (.tmp 29)) [], .mk (some 31) (some (30, true)) (.build [.val (.int .i64
 0), .val (.int .i64 0), .val (.string (ByteArray.mk #[]))] []) [], .mk (some 32) (some (30, true)) (.call (.func 61) [.const (.string (ByteArray.mk #[98, 114, 101, 97, 107, 32, 49, 32, 105, 102])), .tmp 31, .const (.int .i64 6)]) [], .mk
 (some 33) none (.pick (.tmp 30) (.tmp 32) (.const (.bool false))) [], .mk (some 34) none (.mov (.tmp 33)) [], .mk (some 35) (some (34, true)) (.build [.val (.int .i64 0), .val (.int .i64 0), .val (.string (ByteArray.mk #[]))] []) [], .mk
 (some 36) (some (34, true)) (.call (.func 61) [.const (.string (ByteArray.mk #[112, 114, 105, 110, 116, 32, 49, 32, 43])), .tmp 35, .const (.int .i64 6)]) [], .mk (some 37) none (.pick (.tmp 34) (.tmp 36) (.const (.bool false))) [], .mk
 (some 38) none (.mov (.tmp 37)) [], .mk (some 39) (some (38, true)) (.mov (.tmp 1)) [], .mk (some 40) (some (38, true)) (.bin .eql 9 .other (.tmp 39) (.const (.string (ByteArray.mk #[98, 114, 101, 97, 107, 32, 49, 50, 32, 105, 102, 32, 97,
 32, 62, 32, 49])))) [], .mk (some 41) none (.pick (.tmp 38) (.tmp 40) (.const (.bool false))) [], .mk (some 42) none (.mov (.tmp 41)) [], .mk (some 43) (some (42, true)) (.mov (.tmp 2)) [], .mk (some 44) (some (42, true)) (.bin .eql 25
 .other (.tmp 43) (.const (.int .i64 0))) [], .mk (some 45) none (.pick (.tmp 42) (.tmp 44) (.const (.bool false))) [], .mk (some 0) none (.mov (.tmp 45)) []]) .ret)))
theorem F17_ok : compFn Tryz.prog (byId h17) 17 = some F17 := by kernel_rfl
def h21 : List (Nat × List (Nat × List Nat) × List Nat) := []
def F21 : AFn :=
 AFn.mk 6 [.tmp 2] (.seq (.row [.mk (some 1) none (.box 24 (.tmp 0)) [], .mk (some 2) none (.mov (.const (.int .i64 0))) []]) (.seq (.seq (.row [.mk (some 3) none (.load (some 3) (.tmp 1)) [], .mk (some 4) none (.call (.func 63) [.tmp 3])
 [], .mk (some 5) none (.un .not (.tmp 4)) []]) (.cond (.tmp 5) (.seq (.row [.mk (some 2) none (.mov (.const (.int .i64 2))) []]) .ret) .skip)) (.seq (.row [.mk (some 2) none (.mov (.const (.int .i64 0))) []]) .ret)))
theorem F21_ok : compFn Tryz.prog (byId h21) 21 = some F21 := by kernel_rfl
def h57 : List (Nat × List (Nat × List Nat) × List Nat) := [(2, [(0, []), (1, []), (2, []), (3, []), (4, []), (5, []), (6, []), (7, []), (8, []), (9, []), (10, []), (11, []), (12, []), (13, [])], [0, 1, 3, 7, 15, 31, 63, 127, 255, 511, 1023, 127, 2175, 8191])]
def F57 : AFn :=
 AFn.mk 65 [.tmp 6, .tmp 7, .tmp 8] (.seq (.row [.mk (some 3) none (.box 100 (.tmp 0)) [], .mk (some 6) none (.mov (.const (.int .i64 0))) [], .mk (some 7) none (.mov (.const (.string (ByteArray.mk #[])))) [], .mk (some 8) none (.mov (.const
 (.bool false))) []]) (.seq (.seq (.row [.mk (some 11) none (.mov (.tmp 2)) [], .mk (some 12) none (.mov (.tmp 11)) [], .mk (some 13) (some (12, false)) (.fieldA 2 (.tmp 3)) [], .mk (some 14) (some (12, false)) (.load none (.tmp 13)) [], .mk
 (some 15) (some (12, false)) (.un .not (.tmp 14)) [], .mk (some 16) (some (12, false)) (.mov (.tmp 15)) [], .mk (some 17) (some (16, true)) (.fieldA 3 (.tmp 3)) [], .mk (some 18) (some (16, true)) (.load none (.tmp 17)) [], .mk (some 19)
 (some (16, true)) (.un .not (.tmp 18)) [], .mk (some 20) (some (12, false)) (.pick (.tmp 16) (.tmp 19) (.const (.bool false))) [], .mk (some 21) none (.pick (.tmp 12) (.const (.bool true)) (.tmp 20)) []]) (.cond (.tmp 21) (.seq (.row [.mk
 (some 22) none (.mov (.tmp 2)) [], .mk (some 23) none (.mov (.tmp 22)) [], .mk (some 24) (some (23, true)) (.fieldA 2 (.tmp 3)) [], .mk (some 25) (some (23, true)) (.load none (.tmp 24)) [], .mk (some 26) (some (23, true)) (.un .not (.tmp
 25)) [], .mk (some 27) none (.pick (.tmp 23) (.tmp 26) (.const (.bool false))) [], .mk (some 28) none (.mov (.tmp 27)) [], .mk (some 29) (some (28, true)) (.fieldA 3 (.tmp 3)) [], .mk (some 30) (some (28, true)) (.load none (.tmp 29)) [],
 .mk (some 31) (some (28, true)) (.un .not (.tmp 30)) [], .mk (some 32) none (.pick (.tmp 28) (.tmp 31) (.const (.bool false))) [], .mk (some 6) none (.mov (.const (.int .i64 0))) [], .mk (some 7) none (.mov (.const (.string (ByteArray.mk
 #[])))) [], .mk (some 8) none (.mov (.tmp 32)) []]) .ret) .skip)) (.seq (.seq (.row [.mk (some 33) none (.fieldA 2 (.tmp 3)) [], .mk (some 34) none (.load none (.tmp 33)) [], .mk (some 35) none (.un .not (.tmp 34)) []]) (.cond (.tmp 35)
 (.seq (.row [.mk (some 36) none (.mov (.tmp 1)) [], .mk (some 6) none (.mov (.const (.int .i64 0))) [], .mk (some 7) none (.mov (.tmp 36)) [], .mk (some 8) none (.mov (.const (.bool true))) []]) .ret) .skip)) (.seq (.row [.mk (some 38) none
 (.mov (.tmp 1)) [], .mk (some 39) none (.call (.func 100) [.tmp 38]) [], .mk (some 37) none (.mov (.tmp 39)) [], .mk (some 40) none (.ext (.tmp 37) 0) [], .mk (some 41) none (.ext (.tmp 37) 1) [], .mk (some 42) none (.ext (.tmp 37) 2) [],
 .mk (some 6) none (.mov (.tmp 40)) [], .mk (some 1) none (.mov (.tmp 41)) [], .mk (some 9) none (.mov (.tmp 42)) []]) (.seq (.seq (.row [.mk (some 43) none (.mov (.tmp 9)) [], .mk (some 44) none (.un .not (.tmp 43)) []]) (.cond (.tmp 44)
 (.seq (.row [.mk (some 45) none (.mov (.tmp 6)) [], .mk (some 46) none (.mov (.tmp 6)) [], .mk (some 47) none (.bin .geq 3 .other (.tmp 46) (.const (.int .i64 0))) [], .mk (some 6) none (.mov (.tmp 45)) [], .mk (some 7) none (.mov (.const
 (.string (ByteArray.mk #[])))) [], .mk (some 8) none (.mov (.tmp 47)) []]) .ret) .skip)) (.seq (.row [.mk (some 10) none (.mov (.func 101)) []]) (.seq (.row [.mk (some 49) none (.mov (.tmp 10)) [], .mk (some 50) none (.mov (.tmp 1)) [], .mk
 (some 51) none (.call (.tmp 49) [.tmp 50]) [], .mk (some 48) none (.mov (.tmp 51)) [], .mk (some 52) none (.ext (.tmp 48) 0) [], .mk (some 53) none (.ext (.tmp 48) 1) [], .mk (some 7) none (.mov (.tmp 52)) [], .mk (some 8) none (.mov (.tmp
 53)) []]) (.seq (.row [.mk (some 54) none (.mov (.tmp 6)) [], .mk (some 55) none (.mov (.tmp 7)) [], .mk (some 56) none (.mov (.tmp 8)) [], .mk (some 57) none (.mov (.tmp 56)) [], .mk (some 58) (some (57, true)) (.fieldA 3 (.tmp 3)) [], .mk
 (some 59) (some (57, true)) (.load none (.tmp 58)) [], .mk (some 60) none (.pick (.tmp 57) (.tmp 59) (.const (.bool false))) [], .mk (some 61) none (.mov (.tmp 60)) [], .mk (some 62) (some (61, true)) (.mov (.tmp 7)) [], .mk (some 63) (some
 (61, true)) (.bin .neq 9 .other (.tmp 62) (.const (.string (ByteArray.mk #[])))) [], .mk (some 64) none (.pick (.tmp 61) (.tmp 63) (.const (.bool false))) [], .mk (some 6) none (.mov (.tmp 54)) [], .mk (some 7) none (.mov (.tmp 55)) [], .mk
 (some 8) none (.mov (.tmp 64)) []]) .ret))))))))
theorem F57_ok : compFn Tryz.prog (byId h57) 57 = some F57 := by kernel_rfl
def h61 : List (Nat × List (Nat × List Nat) × List Nat) := []
def F61 : AFn :=
 AFn.mk 22 [.tmp 6] (.seq (.row [.mk (some 4) none (.box 24 (.tmp 1)) [], .mk (some 6) none (.mov (.const (.bool false))) []]) (.seq (.row [.mk (some 10) none (.mov (.tmp 0)) [], .mk (some 11) none (.call (.func 15) [.tmp 10]) [], .mk (some
 9) none (.mov (.tmp 11)) [], .mk (some 12) none (.ext (.tmp 9) 0) [], .mk (some 13) none (.ext (.tmp 9) 1) [], .mk (some 7) none (.alloc 24 [.val (.int .i64 0), .val (.int .i64 0), .val (.string (ByteArray.mk #[]))]) [], .mk none none
 (.store 3 (.tmp 7) (.tmp 12)) [], .mk (some 8) none (.mov (.tmp 13)) []]) (.seq (.row [.mk (some 14) none (.load (some 3) (.tmp 7)) [], .mk (some 15) none (.load (some 3) (.tmp 4)) [], .mk (some 16) none (.bin .eql 24 .other (.tmp 14) (.tmp
 15)) [], .mk (some 17) none (.mov (.tmp 16)) [], .mk (some 18) (some (17, true)) (.mov (.tmp 8)) [], .mk (some 19) (some (17, true)) (.mov (.tmp 2)) [], .mk (some 20) (some (17, true)) (.bin .eql 25 .other (.tmp 18) (.tmp 19)) [], .mk (some
 21) none (.pick (.tmp 17) (.tmp 20) (.const (.bool false))) [], .mk (some 6) none (.mov (.tmp 21)) []]) .ret)))
theorem F61_ok : compFn Tryz.prog (byId h61) 61 = some F61 := by kernel_rfl
def h101 : List (Nat × List (Nat × List Nat) × List Nat) := []
def F101 : AFn :=
 AFn.mk 8 [.tmp 2, .tmp 3] (.seq (.row [.mk (some 2) none (.mov (.const (.string (ByteArray.mk #[])))) [], .mk (some 3) none (.mov (.const (.bool false))) []]) (.seq (.row [.mk (some 4) none (.mov (.tmp 0)) [], .mk (some 5) none (.call
 (.func 102) [.tmp 4, .const (.string (ByteArray.mk #[105, 102, 32]))]) [], .mk (some 6) none (.ext (.tmp 5) 0) [], .mk (some 7) none (.ext (.tmp 5) 1) [], .mk (some 2) none (.mov (.tmp 6)) [], .mk (some 3) none (.mov (.tmp 7)) []]) .ret))
theorem F101_ok : compFn Tryz.prog (byId h101) 101 = some F101 := by kernel_rfl
def h105 : List (Nat × List (Nat × List Nat) × List Nat) := []
def F105 : AFn :=
 AFn.mk 62 [.tmp 2] (.seq (.row [.mk (some 1) none (.box 24 (.tmp 0)) [], .mk (some 2) none (.mov (.const (.bool false))) []]) (.seq (.block 0 (.seq (.row [.mk (some 4) none (.fieldA 0 (.tmp 1)) [], .mk (some 5) none (.load none (.tmp 4))
 [], .mk (some 6) none (.bin .geq 22 .other (.tmp 5) (.const (.int .i64 1))) [], .mk (some 7) none (.mov (.tmp 6)) [], .mk (some 8) (some (7, true)) (.fieldA 0 (.tmp 1)) [], .mk (some 9) (some (7, true)) (.load none (.tmp 8)) [], .mk (some
 10) (some (7, true)) (.bin .leq 22 .other (.tmp 9) (.const (.int .i64 8))) [], .mk (some 11) none (.pick (.tmp 7) (.tmp 10) (.const (.bool false))) [], .mk (some 12) none (.mov (.tmp 11)) [], .mk (some 13) (some (12, false)) (.fieldA 0
 (.tmp 1)) [], .mk (some 14) (some (12, false)) (.load none (.tmp 13)) [], .mk (some 15) (some (12, false)) (.bin .eql 22 .other (.tmp 14) (.const (.int .i64 15))) [], .mk (some 16) none (.pick (.tmp 12) (.const (.bool true)) (.tmp 15)) [],
 .mk (some 17) none (.mov (.tmp 16)) [], .mk (some 18) (some (17, false)) (.fieldA 0 (.tmp 1)) [], .mk (some 19) (some (17, false)) (.load none (.tmp 18)) [], .mk (some 20) (some (17, false)) (.bin .eql 22 .other (.tmp 19) (.const (.int .i64
 16))) [], .mk (some 21) none (.pick (.tmp 17) (.const (.bool true)) (.tmp 20)) [], .mk (some 3) none (.mov (.tmp 21)) []]) (.cond (.tmp 3) (.seq (.row [.mk (some 22) none (.fieldA 1 (.tmp 1)) [], .mk (some 23) none (.load none (.tmp 22))
 [], .mk (some 24) none (.bin .eql 3 .other (.tmp 23) (.const (.int .i64 0))) [], .mk (some 25) none (.mov (.tmp 24)) [], .mk (some 26) (some (25, true)) (.fieldA 2 (.tmp 1)) [], .mk (some 27) (some (25, true)) (.load none (.tmp 26)) [], .mk
 (some 28) (some (25, true)) (.bin .eql 9 .other (.tmp 27) (.const (.string (ByteArray.mk #[])))) [], .mk (some 29) none (.pick (.tmp 25) (.tmp 28) (.const (.bool false))) [], .mk (some 2) none (.mov (.tmp 29)) []]) .ret) (.seq (.row [.mk
 (some 31) none (.fieldA 0 (.tmp 1)) [], .mk (some 32) none (.load none (.tmp 31)) [], .mk (some 33) none (.bin .eql 22 .other (.tmp 32) (.const (.int .i64 9))) [], .mk (some 34) none (.mov (.tmp 33)) [], .mk (some 35) (some (34, false))
 (.fieldA 0 (.tmp 1)) [], .mk (some 36) (some (34, false)) (.load none (.tmp 35)) [], .mk (some 37) (some (34, false)) (.bin .geq 22 .other (.tmp 36) (.const (.int .i64 12))) [], .mk (some 38) (some (34, false)) (.mov (.tmp 37)) [], .mk
 (some 39) (some (38, true)) (.fieldA 0 (.tmp 1)) [], .mk (some 40) (some (38, true)) (.load none (.tmp 39)) [], .mk (some 41) (some (38, true)) (.bin .leq 22 .other (.tmp 40) (.const (.int .i64 14))) [], .mk (some 42) (some (34, false))
 (.pick (.tmp 38) (.tmp 41) (.const (.bool false))) [], .mk (some 43) none (.pick (.tmp 34) (.const (.bool true)) (.tmp 42)) [], .mk (some 30) none (.mov (.tmp 43)) []]) (.cond (.tmp 30) (.seq (.row [.mk (some 44) none (.fieldA 2 (.tmp 1))
 [], .mk (some 45) none (.load none (.tmp 44)) [], .mk (some 46) none (.bin .eql 9 .other (.tmp 45) (.const (.string (ByteArray.mk #[])))) [], .mk (some 2) none (.mov (.tmp 46)) []]) .ret) (.seq (.row [.mk (some 48) none (.fieldA 0 (.tmp 1))
 [], .mk (some 49) none (.load none (.tmp 48)) [], .mk (some 50) none (.bin .eql 22 .other (.tmp 49) (.const (.int .i64 11))) [], .mk (some 51) none (.mov (.tmp 50)) [], .mk (some 52) (some (51, false)) (.fieldA 0 (.tmp 1)) [], .mk (some 53)
 (some (51, false)) (.load none (.tmp 52)) [], .mk (some 54) (some (51, false)) (.bin .eql 22 .other (.tmp 53) (.const (.int .i64 17))) [], .mk (some 55) none (.pick (.tmp 51) (.const (.bool true)) (.tmp 54)) [], .mk (some 47) none (.mov
 (.tmp 55)) []]) (.cond (.tmp 47) (.seq (.row [.mk (some 56) none (.fieldA 1 (.tmp 1)) [], .mk (some 57) none (.load none (.tmp 56)) [], .mk (some 58) none (.bin .eql 3 .other (.tmp 57) (.const (.int .i64 0))) [], .mk (some 2) none (.mov
 (.tmp 58)) []]) .ret) .skip))))))) (.seq (.row [.mk (some 59) none (.fieldA 0 (.tmp 1)) [], .mk (some 60) none (.load none (.tmp 59)) [], .mk (some 61) none (.bin .eql 22 .other (.tmp 60) (.const (.int .i64 10))) [], .mk (some 2) none (.mov
 (.tmp 61)) []]) .ret)))
theorem F105_ok : compFn Tryz.prog (byId h105) 105 = some F105 := by kernel_rfl
def h126 : List (Nat × List (Nat × List Nat) × List Nat) := []
def F126 : AFn :=
 AFn.mk 8 [.tmp 4] (.seq (.row [.mk (some 4) none (.mov (.const (.string (ByteArray.mk #[])))) []]) (.seq (.row [.mk (some 5) none (.mov (.tmp 0)) [], .mk (some 6) none (.mov (.tmp 1)) [], .mk (some 7) none (.call (.func 129) [.tmp 5, .tmp
 6]) [], .mk (some 4) none (.mov (.tmp 7)) []]) .ret))
theorem F126_ok : compFn Tryz.prog (byId h126) 126 = some F126 := by kernel_rfl
def h130 : List (Nat × List (Nat × List Nat) × List Nat) := []
def F130 : AFn :=
 AFn.mk 45 [.cell 2 (some 5), .tmp 3, .tmp 4] (.seq (.row [.mk (some 2) none (.alloc 170 [.val (.int .i64 0), .val (.string (ByteArray.mk #[])), .val (.int .i64 0), .sl [] [] .full, .val (.int .i64 0)]) [], .mk (some 3) none (.mov (.const
 (.int .i64 0))) [], .mk (some 4) none (.mov (.const (.int .i64 0))) []]) (.seq (.row [.mk (some 11) none (.mov (.tmp 0)) [], .mk (some 12) none (.call (.func 152) [.tmp 11]) [], .mk (some 10) none (.mov (.tmp 12)) [], .mk (some 13) none
 (.ext (.tmp 10) 0) [], .mk (some 14) none (.ext (.tmp 10) 1) [], .mk (some 15) none (.ext (.tmp 10) 2) [], .mk (some 5) none (.mov (.tmp 13)) [], .mk (some 6) none (.mov (.tmp 14)) [], .mk (some 7) none (.mov (.tmp 15)) []]) (.seq (.seq
 (.row [.mk (some 16) none (.mov (.tmp 7)) [], .mk (some 17) none (.bin .neq 3 .other (.tmp 16) (.const (.int .i64 0))) []]) (.cond (.tmp 17) (.seq (.row [.mk (some 18) none (.build [.val (.int .i64 0), .val (.string (ByteArray.mk #[])),
 .val (.int .i64 0), .sl [] [] .full, .val (.int .i64 0)] []) [], .mk (some 19) none (.mov (.tmp 6)) [], .mk (some 20) none (.mov (.tmp 7)) [], .mk none none (.store 5 (.tmp 2) (.tmp 18)) [], .mk (some 3) none (.mov (.tmp 19)) [], .mk (some
 4) none (.mov (.tmp 20)) []]) .ret) .skip)) (.seq (.row [.mk (some 21) none (.mov (.tmp 5)) [], .mk (some 22) none (.build [.sl [] [] .full, .val (.int .i64 0), .val (.bool false)] [(0, 1, .tmp 21)]) [], .mk (some 23) none (.box 199 (.tmp
 22)) [], .mk (some 8) none (.mov (.tmp 23)) []]) (.seq (.row [.mk (some 24) none (.mov (.tmp 8)) [], .mk (some 25) none (.call (.func 153) [.tmp 24, .const (.int .i64 0)]) [], .mk (some 9) none (.alloc 170 [.val (.int .i64 0), .val (.string
 (ByteArray.mk #[])), .val (.int .i64 0), .sl [] [] .full, .val (.int .i64 0)]) [], .mk none none (.store 5 (.tmp 9) (.tmp 25)) []]) (.seq (.seq (.row [.mk (some 26) none (.mov (.tmp 8)) [], .mk (some 27) none (.nilc (.tmp 26)) [], .mk (some
 28) none (.fieldA 2 (.tmp 27)) [], .mk (some 29) none (.load none (.tmp 28)) [], .mk (some 30) none (.mov (.tmp 29)) [], .mk (some 31) (some (30, false)) (.mov (.tmp 8)) [], .mk (some 32) (some (30, false)) (.call (.func 154) [.tmp 31]) [],
 .mk (some 33) (some (30, false)) (.field 0 none (.tmp 32)) [], .mk (some 34) (some (30, false)) (.bin .neq 177 .other (.tmp 33) (.const (.int .i64 0))) [], .mk (some 35) none (.pick (.tmp 30) (.const (.bool true)) (.tmp 34)) []]) (.cond
 (.tmp 35) (.seq (.row [.mk (some 36) none (.build [.val (.int .i64 0), .val (.string (ByteArray.mk #[])), .val (.int .i64 0), .sl [] [] .full, .val (.int .i64 0)] []) [], .mk (some 37) none (.mov (.tmp 8)) [], .mk (some 38) none (.call
 (.func 154) [.tmp 37]) [], .mk (some 39) none (.field 4 none (.tmp 38)) [], .mk none none (.store 5 (.tmp 2) (.tmp 36)) [], .mk (some 3) none (.mov (.tmp 39)) [], .mk (some 4) none (.mov (.const (.int .i64 6))) []]) .ret) .skip)) (.seq
 (.seq (.row [.mk (some 40) none (.load (some 5) (.tmp 9)) [], .mk (some 41) none (.call (.func 155) [.tmp 40]) [], .mk (some 42) none (.bin .gtr 3 .other (.tmp 41) (.const (.int .i64 24))) []]) (.cond (.tmp 42) (.seq (.row [.mk (some 43)
 none (.build [.val (.int .i64 0), .val (.string (ByteArray.mk #[])), .val (.int .i64 0), .sl [] [] .full, .val (.int .i64 0)] []) [], .mk none none (.store 5 (.tmp 2) (.tmp 43)) [], .mk (some 3) none (.mov (.const (.int .i64 0))) [], .mk
 (some 4) none (.mov (.const (.int .i64 7))) []]) .ret) .skip)) (.seq (.row [.mk (some 44) none (.load (some 5) (.tmp 9)) [], .mk none none (.store 5 (.tmp 2) (.tmp 44)) [], .mk (some 3) none (.mov (.const (.int .i64 0))) [], .mk (some 4)
 none (.mov (.const (.int .i64 0))) []]) .ret))))))))
theorem F130_ok : compFn Tryz.prog (byId h130) 130 = some F130 := by kernel_rfl
def h135 : List (Nat × List (Nat × List Nat) × List Nat) := []
def F135 : AFn :=
 AFn.mk 6 [.tmp 2] (.seq (.row [.mk (some 2) none (.mov (.const (.bool false))) []]) (.seq (.row [.mk (some 3) none (.call (.func 161) []) [], .mk (some 4) none (.mov (.tmp 0)) [], .mk (some 5) none (.call (.func 160) [.tmp 3, .tmp 4]) [],
 .mk (some 2) none (.mov (.tmp 5)) []]) .ret))
theorem F135_ok : compFn Tryz.prog (byId h135) 135 = some F135 := by kernel_rfl
def h146 : List (Nat × List (Nat × List Nat) × List Nat) := [(8, [(0, []), (1, []), (2, []), (3, []), (4, []), (5, []), (8, []), (9, []), (6, [1, 2, 9]), (7, []), (10, []), (11, [])], [0, 1, 0, 0, 0, 16, 56, 124, 0, 256, 1023, 2047])]
def F146 : AFn :=
 AFn.mk 54 [.cell 4 (some 5)] (.seq (.row [.mk (some 4) none (.alloc 170 [.val (.int .i64 0), .val (.string (ByteArray.mk #[])), .val (.int .i64 0), .sl [] [] .full, .val (.int .i64 0)]) []]) (.seq (.seq (.row [.mk (some 7) none (.mov (.tmp
 1)) [], .mk (some 8) none (.bin .eql 3 .other (.tmp 7) (.const (.int .i64 6))) []]) (.cond (.tmp 8) (.seq (.row [.mk (some 9) none (.mov (.tmp 0)) [], .mk (some 10) none (.call (.func 173) [.tmp 9]) [], .mk none none (.store 5 (.tmp 4)
 (.tmp 10)) []]) .ret) .skip)) (.seq (.row [.mk (some 11) none (.mov (.tmp 0)) [], .mk (some 12) none (.mov (.tmp 1)) [], .mk (some 13) none (.bin .add 3 .other (.tmp 12) (.const (.int .i64 1))) [], .mk (some 14) none (.call (.func 146)
 [.tmp 11, .tmp 13]) [], .mk (some 5) none (.alloc 170 [.val (.int .i64 0), .val (.string (ByteArray.mk #[])), .val (.int .i64 0), .sl [] [] .full, .val (.int .i64 0)]) [], .mk none none (.store 5 (.tmp 5) (.tmp 14)) []]) (.seq (.seq (.row
 [.mk (some 15) none (.mov (.tmp 0)) [], .mk (some 16) none (.nilc (.tmp 15)) [], .mk (some 17) none (.fieldA 0 (.tmp 16)) [], .mk (some 18) none (.load none (.tmp 17)) [], .mk (some 19) none (.idxL 5 (.tmp 18) (.const (.int .i64 0))) [],
 .mk (some 20) none (.load (some 5) (.tmp 19)) [], .mk (some 6) none (.alloc 179 [.val (.int .i64 0), .val (.string (ByteArray.mk #[])), .val (.int .i64 0), .val (.int .i64 0), .val (.int .i64 0)]) [], .mk none none (.store 5 (.tmp 6) (.tmp
 20)) []]) (.block 0 (.loop (.seq (.seq (.row [.mk (some 21) none (.fieldA 0 (.tmp 6)) [], .mk (some 22) none (.load none (.tmp 21)) [], .mk (some 23) none (.bin .eql 177 .other (.tmp 22) (.const (.int .i64 4))) [], .mk (some 24) none (.mov
 (.tmp 23)) [], .mk (some 25) (some (24, true)) (.fieldA 1 (.tmp 6)) [], .mk (some 26) (some (24, true)) (.load none (.tmp 25)) [], .mk (some 27) (some (24, true)) (.call (.func 174) [.tmp 26]) [], .mk (some 28) (some (24, true)) (.mov (.tmp
 1)) [], .mk (some 29) (some (24, true)) (.bin .eql 3 .other (.tmp 27) (.tmp 28)) [], .mk (some 30) none (.pick (.tmp 24) (.tmp 29) (.const (.bool false))) []]) (.cond (.tmp 30) .skip (.exit 0))) (.seq (.block 1 (.seq (.row [.mk (some 37)
 none (.mov (.tmp 0)) [], .mk (some 38) none (.fieldA 1 (.tmp 6)) [], .mk (some 39) none (.load none (.tmp 38)) [], .mk (some 40) none (.call (.func 175) [.tmp 37, .tmp 39]) []]) (.row [.mk (some 41) none (.fieldA 1 (.tmp 6)) [], .mk (some
 42) none (.load none (.tmp 41)) [], .mk (some 43) none (.load (some 5) (.tmp 5)) [], .mk (some 44) none (.mov (.tmp 0)) [], .mk (some 45) none (.mov (.tmp 1)) [], .mk (some 46) none (.bin .add 3 .other (.tmp 45) (.const (.int .i64 1))) [],
 .mk (some 49) none (.fieldA 4 (.tmp 5)) [], .mk (some 50) none (.load none (.tmp 49)) [], .mk (some 47) none (.call (.func 146) [.tmp 44, .tmp 46]) [(42, none, .load none (.tmp 41)), (43, none, .load (some 5) (.tmp 5)), (50, none, .load
 none (.tmp 49))], .mk (some 48) none (.lits 5 [.val (.int .i64 0), .val (.string (ByteArray.mk #[])), .val (.int .i64 0), .sl [] [] .full, .val (.int .i64 0)] 2 [(0, .tmp 43), (1, .tmp 47)]) [], .mk (some 51) none (.build [.val (.int .i64
 0), .val (.string (ByteArray.mk #[])), .val (.int .i64 0), .sl [] [] .full, .val (.int .i64 0)] [(0, 1, .const (.int .i64 7)), (1, 1, .tmp 42), (3, 1, .tmp 48), (4, 1, .tmp 50)]) [], .mk none none (.store 5 (.tmp 5) (.tmp 51)) []]))) (.seq
 (.seq (.row [.mk (some 52) none (.load (some 5) (.tmp 6)) []]) (.row [.mk (some 6) none (.alloc 179 [.val (.int .i64 0), .val (.string (ByteArray.mk #[])), .val (.int .i64 0), .val (.int .i64 0), .val (.int .i64 0)]) [], .mk none none
 (.store 5 (.tmp 6) (.tmp 52)) []])) (.row [.mk (some 31) none (.mov (.tmp 0)) [], .mk (some 32) none (.nilc (.tmp 31)) [], .mk (some 33) none (.fieldA 0 (.tmp 32)) [], .mk (some 34) none (.load none (.tmp 33)) [], .mk (some 35) none (.idxL
 5 (.tmp 34) (.const (.int .i64 0))) [], .mk (some 36) none (.load (some 5) (.tmp 35)) [], .mk none none (.store 5 (.tmp 6) (.tmp 36)) []]))))))) (.seq (.row [.mk (some 53) none (.load (some 5) (.tmp 5)) [], .mk none none (.store 5 (.tmp 4)
 (.tmp 53)) []]) .ret)))))
theorem F146_ok : compFn Tryz.prog (byId h146) 146 = some F146 := by kernel_rfl
def h154 : List (Nat × List (Nat × List Nat) × List Nat) := [(1, [(0, []), (1, []), (2, []), (3, []), (4, []), (5, []), (6, []), (7, []), (8, []), (9, []), (10, [])], [0, 1, 3, 7, 0, 16, 48, 112, 255, 511, 1023])]
def F154 : AFn :=
 AFn.mk 13 [.cell 2 (some 5)] (.seq (.row [.mk (some 2) none (.alloc 179 [.val (.int .i64 0), .val (.string (ByteArray.mk #[])), .val (.int .i64 0), .val (.int .i64 0), .val (.int .i64 0)]) []]) (.seq (.row [.mk (some 3) none (.mov (.tmp 0))
 [], .mk (some 4) none (.nilc (.tmp 3)) [], .mk (some 5) none (.fieldA 0 (.tmp 4)) [], .mk (some 6) none (.load none (.tmp 5)) [], .mk (some 7) none (.mov (.tmp 0)) [], .mk (some 8) none (.nilc (.tmp 7)) [], .mk (some 9) none (.fieldA 1
 (.tmp 8)) [], .mk (some 10) none (.load none (.tmp 9)) [], .mk (some 11) none (.idxL 5 (.tmp 6) (.tmp 10)) [], .mk (some 12) none (.load (some 5) (.tmp 11)) [], .mk none none (.store 5 (.tmp 2) (.tmp 12)) []]) .ret))
theorem F154_ok : compFn Tryz.prog (byId h154) 154 = some F154 := by kernel_rfl
def h158 : List (Nat × List (Nat × List Nat) × List Nat) := []
def F158 : AFn :=
 AFn.mk 13 [.tmp 2] (.seq (.row [.mk (some 2) none (.mov (.const (.bool false))) []]) (.seq (.seq (.row [.mk (some 4) none (.mov (.const (.int .i64 0))) []]) (.block 0 (.loop (.seq (.row [.mk (some 5) none (.bin .lss 3 .other (.tmp 4)
 (.const (.int .i64 10))) []]) (.seq (.cond (.tmp 5) .skip (.exit 0)) (.seq (.block 1 (.seq (.row [.mk (some 6) none (.mov (.tmp 4)) [], .mk (some 3) none (.mov (.tmp 6)) []]) (.seq (.row [.mk (some 7) none (.mov (.tmp 3)) [], .mk (some 8)
 none (.idxA 10 1 (.global 3) (.tmp 7)) [], .mk (some 9) none (.load none (.tmp 8)) [], .mk (some 10) none (.mov (.tmp 0)) [], .mk (some 11) none (.bin .eql 9 .other (.tmp 9) (.tmp 10)) []]) (.cond (.tmp 11) (.seq (.row [.mk (some 2) none
 (.mov (.const (.bool true))) []]) .ret) .skip)))) (.row [.mk (some 12) none (.bin .add 3 .other (.tmp 4) (.const (.int .i64 1))) [], .mk (some 4) none (.mov (.tmp 12)) []]))))))) (.seq (.row [.mk (some 2) none (.mov (.const (.bool false)))
 []]) .ret)))
theorem F158_ok : compFn Tryz.prog (byId h158) 158 = some F158 := by kernel_rfl
def h169 : List (Nat × List (Nat × List Nat) × List Nat) := [(9, [(0, []), (1, []), (2, []), (3, []), (4, []), (5, []), (6, []), (7, []), (8, []), (9, []), (10, [])], [0, 1, 3, 7, 0, 16, 48, 112, 0, 271, 1023])]
def F169 : AFn :=
 AFn.mk 35 [.tmp 2, .tmp 3, .tmp 4] (.seq (.row [.mk (some 2) none (.mov (.const (.slice none 0 0))) [], .mk (some 3) none (.mov (.const (.int .i64 0))) [], .mk (some 4) none (.mov (.const (.int .i64 0))) []]) (.seq (.seq (.row [.mk (some 8)
 none (.mov (.tmp 0)) [], .mk (some 9) none (.len true (.tmp 8)) [], .mk (some 10) none (.bin .gtr 3 .other (.tmp 9) (.const (.int .i64 4096))) []]) (.cond (.tmp 10) (.seq (.row [.mk (some 2) none (.mov (.const (.slice none 0 0))) [], .mk
 (some 3) none (.mov (.const (.int .i64 0))) [], .mk (some 4) none (.mov (.const (.int .i64 5))) []]) .ret) .skip)) (.seq (.row [.mk (some 11) none (.mov (.tmp 0)) [], .mk (some 12) none (.build [.val (.string (ByteArray.mk #[])), .val (.int
 .i64 0), .val (.int .i64 0), .val (.int .i64 0)] [(0, 1, .tmp 11), (2, 1, .const (.int .i64 1))]) [], .mk (some 13) none (.box 245 (.tmp 12)) [], .mk (some 5) none (.mov (.tmp 13)) []]) (.seq (.row [.mk (some 6) none (.alloc 194 [.sl [] []
 .full]) []]) (.seq (.seq (.row [.mk (some 14) none (.mov (.tmp 5)) [], .mk (some 15) none (.call (.func 196) [.tmp 14]) []]) (.block 0 (.range (.tmp 15) [16] (.row [.mk (some 7) none (.alloc 179 [.val (.int .i64 0), .val (.string
 (ByteArray.mk #[])), .val (.int .i64 0), .val (.int .i64 0), .val (.int .i64 0)]) [], .mk none none (.store 5 (.tmp 7) (.tmp 16)) []]) (.block 1 (.row [.mk (some 17) none (.load none (.tmp 6)) [], .mk (some 18) none (.load (some 5) (.tmp
 7)) [], .mk (some 19) none (.lits 5 [.val (.int .i64 0), .val (.string (ByteArray.mk #[])), .val (.int .i64 0), .val (.int .i64 0), .val (.int .i64 0)] 1 [(0, .tmp 18)]) [], .mk (some 20) none (.app 179 48 5 (.tmp 17) (.tmp 19)) [], .mk
 none none (.store 1 (.tmp 6) (.tmp 20)) []]))))) (.seq (.seq (.row [.mk (some 21) none (.mov (.tmp 5)) [], .mk (some 22) none (.nilc (.tmp 21)) [], .mk (some 23) none (.fieldA 3 (.tmp 22)) [], .mk (some 24) none (.load none (.tmp 23)) [],
 .mk (some 25) none (.bin .neq 25 .other (.tmp 24) (.const (.int .i64 0))) []]) (.cond (.tmp 25) (.seq (.row [.mk (some 26) none (.mov (.tmp 5)) [], .mk (some 27) none (.nilc (.tmp 26)) [], .mk (some 28) none (.fieldA 1 (.tmp 27)) [], .mk
 (some 29) none (.load none (.tmp 28)) [], .mk (some 30) none (.mov (.tmp 5)) [], .mk (some 31) none (.nilc (.tmp 30)) [], .mk (some 32) none (.fieldA 3 (.tmp 31)) [], .mk (some 33) none (.load none (.tmp 32)) [], .mk (some 2) none (.mov
 (.const (.slice none 0 0))) [], .mk (some 3) none (.mov (.tmp 29)) [], .mk (some 4) none (.mov (.tmp 33)) []]) .ret) .skip)) (.seq (.row [.mk (some 34) none (.load none (.tmp 6)) [], .mk (some 2) none (.mov (.tmp 34)) [], .mk (some 3) none
 (.mov (.const (.int .i64 0))) [], .mk (some 4) none (.mov (.const (.int .i64 0))) []]) .ret)))))))
theorem F169_ok : compFn Tryz.prog (byId h169) 169 = some F169 := by kernel_rfl
def h175 : List (Nat × List (Nat × List Nat) × List Nat) := []
def F175 : AFn :=
 AFn.mk 10 [] (.seq (.row [.mk (some 4) none (.mov (.tmp 0)) [], .mk (some 5) none (.mov (.tmp 1)) [], .mk (some 6) none (.call (.func 201) [.tmp 4, .tmp 5]) [], .mk (some 7) none (.un .not (.tmp 6)) []]) (.cond (.tmp 7) (.row [.mk (some 8)
 none (.mov (.tmp 0)) [], .mk (some 9) none (.call (.func 172) [.tmp 8]) []]) .skip))
theorem F175_ok : compFn Tryz.prog (byId h175) 175 = some F175 := by kernel_rfl
def h184 : List (Nat × List (Nat × List Nat) × List Nat) := []
def F184 : AFn :=
 AFn.mk 9 [.tmp 2] (.seq (.row [.mk (some 2) none (.mov (.const (.bool false))) []]) (.seq (.row [.mk (some 3) none (.mov (.tmp 0)) [], .mk (some 4) none (.bin .geq 5 .other (.tmp 3) (.const (.int .u8 48))) [], .mk (some 5) none (.mov (.tmp
 4)) [], .mk (some 6) (some (5, true)) (.mov (.tmp 0)) [], .mk (some 7) (some (5, true)) (.bin .leq 5 .other (.tmp 6) (.const (.int .u8 57))) [], .mk (some 8) none (.pick (.tmp 5) (.tmp 7) (.const (.bool false))) [], .mk (some 2) none (.mov
 (.tmp 8)) []]) .ret))
theorem F184_ok : compFn Tryz.prog (byId h184) 184 = some F184 := by kernel_rfl
def h188 : List (Nat × List (Nat × List Nat) × List Nat) := []
def F188 : AFn :=
 AFn.mk 8 [.tmp 4] (.seq (.row [.mk (some 4) none (.mov (.const (.bool false))) []]) (.seq (.row [.mk (some 5) none (.mov (.tmp 0)) [], .mk (some 6) none (.mov (.tmp 1)) [], .mk (some 7) none (.call (.func 143) [.tmp 5, .tmp 6]) [], .mk
 (some 4) none (.mov (.tmp 7)) []]) .ret))
theorem F188_ok : compFn Tryz.prog (byId h188) 188 = some F188 := by kernel_rfl
def h202 : List (Nat × List (Nat × List Nat) × List Nat) := [(6, [(0, []), (1, []), (2, []), (3, [1]), (4, []), (5, [])], [0, 1, 0, 4, 15, 31]), (9, [(0, []), (1, []), (2, []), (3, [1]), (4, []), (5, [])], [0, 1, 0, 4, 15, 31])]
def F202 : AFn :=
 AFn.mk 106 [.cell 2 (some 5)] (.seq (.row [.mk (some 2) none (.alloc 170 [.val (.int .i64 0), .val (.string (ByteArray.mk #[])), .val (.int .i64 0), .sl [] [] .full, .val (.int .i64 0)]) []]) (.seq (.row [.mk (some 5) none (.mov (.tmp 0))
 [], .mk (some 6) none (.nilc (.tmp 5)) [], .mk (some 7) none (.fieldA 0 (.tmp 6)) [], .mk (some 8) none (.load none (.tmp 7)) [], .mk (some 9) none (.idxL 5 (.tmp 8) (.const (.int .i64 0))) [], .mk (some 10) none (.load (some 5) (.tmp 9))
 [], .mk (some 3) none (.alloc 179 [.val (.int .i64 0), .val (.string (ByteArray.mk #[])), .val (.int .i64 0), .val (.int .i64 0), .val (.int .i64 0)]) [], .mk none none (.store 5 (.tmp 3) (.tmp 10)) []]) (.seq (.row [.mk (some 11) none
 (.fieldA 3 (.tmp 3)) [], .mk (some 12) none (.load none (.tmp 11)) [], .mk (some 13) none (.build [.val (.int .i64 0), .val (.string (ByteArray.mk #[])), .val (.int .i64 0), .sl [] [] .full, .val (.int .i64 0)] [(4, 1, .tmp 12)]) [], .mk
 (some 4) none (.alloc 170 [.val (.int .i64 0), .val (.string (ByteArray.mk #[])), .val (.int .i64 0), .sl [] [] .full, .val (.int .i64 0)]) [], .mk none none (.store 5 (.tmp 4) (.tmp 13)) []]) (.seq (.block 0 (.seq (.row [.mk (some 17) none
 (.fieldA 0 (.tmp 3)) [], .mk (some 18) none (.load none (.tmp 17)) [], .mk (some 19) none (.bin .eql 177 .other (.tmp 18) (.const (.int .i64 2))) [], .mk (some 16) none (.mov (.tmp 19)) []]) (.cond (.tmp 16) (.seq (.row [.mk (some 20) none
 (.mov (.tmp 0)) [], .mk (some 21) none (.mov (.tmp 0)) [], .mk (some 22) none (.nilc (.tmp 21)) [], .mk (some 23) none (.fieldA 0 (.tmp 22)) [], .mk (some 24) none (.load none (.tmp 23)) [], .mk (some 25) none (.sliceL 5 (.tmp 24) (some
 (.const (.int .i64 1))) none none) [], .mk (some 26) none (.nilc (.tmp 20)) [], .mk (some 27) none (.fieldA 0 (.tmp 26)) [], .mk none none (.store 1 (.tmp 27) (.tmp 25)) []]) (.row [.mk (some 28) none (.fieldA 2 (.tmp 3)) [], .mk (some 29)
 none (.load none (.tmp 28)) [], .mk (some 30) none (.fieldA 0 (.tmp 4)) [], .mk none none (.store 1 (.tmp 30) (.const (.int .i64 1))) [(29, none, .load none (.tmp 28))], .mk (some 31) none (.fieldA 2 (.tmp 4)) [], .mk none none (.store 1
 (.tmp 31) (.tmp 29)) []])) (.seq (.row [.mk (some 33) none (.fieldA 0 (.tmp 3)) [], .mk (some 34) none (.load none (.tmp 33)) [], .mk (some 35) none (.bin .eql 177 .other (.tmp 34) (.const (.int .i64 3))) [], .mk (some 32) none (.mov (.tmp
 35)) []]) (.cond (.tmp 32) (.seq (.row [.mk (some 36) none (.mov (.tmp 0)) [], .mk (some 37) none (.mov (.tmp 0)) [], .mk (some 38) none (.nilc (.tmp 37)) [], .mk (some 39) none (.fieldA 0 (.tmp 38)) [], .mk (some 40) none (.load none (.tmp
 39)) [], .mk (some 41) none (.sliceL 5 (.tmp 40) (some (.const (.int .i64 1))) none none) [], .mk (some 42) none (.nilc (.tmp 36)) [], .mk (some 43) none (.fieldA 0 (.tmp 42)) [], .mk none none (.store 1 (.tmp 43) (.tmp 41)) []]) (.row [.mk
 (some 44) none (.fieldA 1 (.tmp 3)) [], .mk (some 45) none (.load none (.tmp 44)) [], .mk (some 46) none (.fieldA 0 (.tmp 4)) [], .mk none none (.store 1 (.tmp 46) (.const (.int .i64 3))) [(45, none, .load none (.tmp 44))], .mk (some 47)
 none (.fieldA 1 (.tmp 4)) [], .mk none none (.store 1 (.tmp 47) (.tmp 45)) []])) (.seq (.row [.mk (some 49) none (.fieldA 0 (.tmp 3)) [], .mk (some 50) none (.load none (.tmp 49)) [], .mk (some 51) none (.bin .eql 177 .other (.tmp 50)
 (.const (.int .i64 1))) [], .mk (some 48) none (.mov (.tmp 51)) []]) (.cond (.tmp 48) (.seq (.row [.mk (some 52) none (.mov (.tmp 0)) [], .mk (some 53) none (.call (.func 203) [.tmp 52]) [], .mk (some 54) none (.fieldA 0 (.tmp 4)) [], .mk
 none none (.store 1 (.tmp 54) (.const (.int .i64 4))) [], .mk (some 55) none (.fieldA 1 (.tmp 4)) [], .mk none none (.store 1 (.tmp 55) (.tmp 53)) []]) (.seq (.row [.mk (some 56) none (.mov (.tmp 0)) [], .mk (some 57) none (.call (.func
 201) [.tmp 56, .const (.string (ByteArray.mk #[40]))]) []]) (.cond (.tmp 57) (.row [.mk (some 58) none (.mov (.tmp 0)) [], .mk (some 59) none (.mov (.tmp 0)) [], .mk (some 60) none (.mkf (.func 224) [.tmp 59] []) [], .mk (some 61) none
 (.call (.func 223) [.tmp 58, .const (.string (ByteArray.mk #[41])), .tmp 60]) [], .mk (some 62) none (.fieldA 0 (.tmp 4)) [], .mk none none (.store 1 (.tmp 62) (.const (.int .i64 5))) [], .mk (some 63) none (.fieldA 3 (.tmp 4)) [], .mk none
 none (.store 1 (.tmp 63) (.tmp 61)) []]) .skip))) (.seq (.row [.mk (some 65) none (.mov (.tmp 0)) [], .mk (some 66) none (.call (.func 201) [.tmp 65, .const (.string (ByteArray.mk #[116, 114, 117, 101]))]) [], .mk (some 64) none (.mov (.tmp
 66)) []]) (.cond (.tmp 64) (.row [.mk (some 67) none (.fieldA 0 (.tmp 4)) [], .mk none none (.store 1 (.tmp 67) (.const (.int .i64 2))) [], .mk (some 68) none (.fieldA 2 (.tmp 4)) [], .mk none none (.store 1 (.tmp 68) (.const (.int .i64
 1))) []]) (.seq (.row [.mk (some 70) none (.mov (.tmp 0)) [], .mk (some 71) none (.call (.func 201) [.tmp 70, .const (.string (ByteArray.mk #[102, 97, 108, 115, 101]))]) [], .mk (some 69) none (.mov (.tmp 71)) []]) (.cond (.tmp 69) (.row
 [.mk (some 72) none (.fieldA 0 (.tmp 4)) [], .mk none none (.store 1 (.tmp 72) (.const (.int .i64 2))) []]) (.seq (.row [.mk (some 74) none (.mov (.tmp 0)) [], .mk (some 75) none (.call (.func 201) [.tmp 74, .const (.string (ByteArray.mk
 #[110, 101, 119]))]) [], .mk (some 73) none (.mov (.tmp 75)) []]) (.cond (.tmp 73) (.seq (.row [.mk (some 76) none (.mov (.tmp 0)) [], .mk (some 77) none (.call (.func 203) [.tmp 76]) [], .mk (some 78) none (.fieldA 0 (.tmp 4)) [], .mk none
 none (.store 1 (.tmp 78) (.const (.int .i64 11))) [], .mk (some 79) none (.fieldA 1 (.tmp 4)) [], .mk none none (.store 1 (.tmp 79) (.tmp 77)) []]) (.seq (.row [.mk (some 80) none (.mov (.tmp 0)) [], .mk (some 81) none (.call (.func 175)
 [.tmp 80, .const (.string (ByteArray.mk #[40]))]) []]) (.row [.mk (some 82) none (.mov (.tmp 0)) [], .mk (some 83) none (.mov (.tmp 0)) [], .mk (some 84) none (.mkf (.func 224) [.tmp 83] []) [], .mk (some 85) none (.call (.func 223) [.tmp
 82, .const (.string (ByteArray.mk #[41])), .tmp 84]) [], .mk (some 86) none (.fieldA 3 (.tmp 4)) [], .mk none none (.store 1 (.tmp 86) (.tmp 85)) []]))) (.seq (.row [.mk (some 88) none (.mov (.tmp 0)) [], .mk (some 89) none (.call (.func
 201) [.tmp 88, .const (.string (ByteArray.mk #[91]))]) [], .mk (some 87) none (.mov (.tmp 89)) []]) (.cond (.tmp 87) (.seq (.row [.mk (some 90) none (.mov (.tmp 0)) [], .mk (some 91) none (.mov (.tmp 0)) [], .mk (some 92) none (.mkf (.func
 224) [.tmp 91] []) [], .mk (some 93) none (.call (.func 225) [.tmp 90, .tmp 92]) [], .mk (some 94) none (.fieldA 0 (.tmp 4)) [], .mk none none (.store 1 (.tmp 94) (.const (.int .i64 10))) [], .mk (some 95) none (.fieldA 3 (.tmp 4)) [], .mk
 none none (.store 1 (.tmp 95) (.tmp 93)) []]) (.row [.mk (some 96) none (.mov (.tmp 0)) [], .mk (some 97) none (.call (.func 175) [.tmp 96, .const (.string (ByteArray.mk #[93]))]) []])) (.seq (.row [.mk (some 99) none (.mov (.tmp 0)) [],
 .mk (some 100) none (.call (.func 201) [.tmp 99, .const (.string (ByteArray.mk #[40]))]) [], .mk (some 98) none (.mov (.tmp 100)) []]) (.cond (.tmp 98) (.seq (.row [.mk (some 101) none (.mov (.tmp 0)) [], .mk (some 102) none (.call (.func
 146) [.tmp 101, .const (.int .i64 0)]) [], .mk none none (.store 5 (.tmp 4) (.tmp 102)) []]) (.row [.mk (some 103) none (.mov (.tmp 0)) [], .mk (some 104) none (.call (.func 175) [.tmp 103, .const (.string (ByteArray.mk #[41]))]) []]))
 (.row [.mk (some 14) none (.mov (.tmp 0)) [], .mk (some 15) none (.call (.func 172) [.tmp 14]) []])))))))))))))))))) (.seq (.row [.mk (some 105) none (.load (some 5) (.tmp 4)) [], .mk none none (.store 5 (.tmp 2) (.tmp 105)) []]) .ret)))))
theorem F202_ok : compFn Tryz.prog (byId h202) 202 = some F202 := by kernel_rfl
def h208 : List (Nat × List (Nat × List Nat) × List Nat) := []
def F208 : AFn :=
 AFn.mk 2 [.tmp 0] (.seq (.row [.mk (some 0) none (.mov (.const (.slice none 0 0))) []]) (.seq (.row [.mk (some 1) none (.lits 1 [.val (.string (ByteArray.mk #[]))] 25 [(0, .const (.string (ByteArray.mk #[61, 61]))), (1, .const (.string
 (ByteArray.mk #[33, 61]))), (2, .const (.string (ByteArray.mk #[60, 61]))), (3, .const (.string (ByteArray.mk #[62, 61]))), (4, .const (.string (ByteArray.mk #[38, 38]))), (5, .const (.string (ByteArray.mk #[124, 124]))), (6, .const
 (.string (ByteArray.mk #[40]))), (7, .const (.string (ByteArray.mk #[41]))), (8, .const (.string (ByteArray.mk #[123]))), (9, .const (.string (ByteArray.mk #[125]))), (10, .const (.string (ByteArray.mk #[91]))), (11, .const (.string
 (ByteArray.mk #[93]))), (12, .const (.string (ByteArray.mk #[44]))), (13, .const (.string (ByteArray.mk #[58]))), (14, .const (.string (ByteArray.mk #[59]))), (15, .const (.string (ByteArray.mk #[46]))), (16, .const (.string (ByteArray.mk
 #[61]))), (17, .const (.string (ByteArray.mk #[60]))), (18, .const (.string (ByteArray.mk #[62]))), (19, .const (.string (ByteArray.mk #[43]))), (20, .const (.string (ByteArray.mk #[45]))), (21, .const (.string (ByteArray.mk #[42]))), (22,
 .const (.string (ByteArray.mk #[47]))), (23, .const (.string (ByteArray.mk #[37]))), (24, .const (.string (ByteArray.mk #[33])))]) [], .mk (some 0) none (.mov (.tmp 1)) []]) .ret))
theorem F208_ok : compFn Tryz.prog (byId h208) 208 = some F208 := by kernel_rfl
def h212 : List (Nat × List (Nat × List Nat) × List Nat) := []
def F212 : AFn :=
 AFn.mk 27 [.tmp 2] (.seq (.row [.mk (some 2) none (.mov (.const (.string (ByteArray.mk #[])))) []]) (.seq (.row [.mk (some 4) none (.mov (.tmp 0)) [], .mk (some 5) none (.call (.func 154) [.tmp 4]) [], .mk (some 3) none (.alloc 179 [.val
 (.int .i64 0), .val (.string (ByteArray.mk #[])), .val (.int .i64 0), .val (.int .i64 0), .val (.int .i64 0)]) [], .mk none none (.store 5 (.tmp 3) (.tmp 5)) []]) (.seq (.seq (.row [.mk (some 6) none (.mov (.tmp 0)) [], .mk (some 7) none
 (.nilc (.tmp 6)) [], .mk (some 8) none (.fieldA 2 (.tmp 7)) [], .mk (some 9) none (.load none (.tmp 8)) [], .mk (some 10) none (.mov (.tmp 9)) [], .mk (some 11) (some (10, false)) (.fieldA 0 (.tmp 3)) [], .mk (some 12) (some (10, false))
 (.load none (.tmp 11)) [], .mk (some 13) (some (10, false)) (.bin .neq 177 .other (.tmp 12) (.const (.int .i64 1))) [], .mk (some 14) none (.pick (.tmp 10) (.const (.bool true)) (.tmp 13)) []]) (.cond (.tmp 14) (.seq (.row [.mk (some 15)
 none (.mov (.tmp 0)) [], .mk (some 16) none (.nilc (.tmp 15)) [], .mk (some 17) none (.fieldA 2 (.tmp 16)) [], .mk none none (.store 1 (.tmp 17) (.const (.bool true))) []]) (.seq (.row [.mk (some 2) none (.mov (.const (.string (ByteArray.mk
 #[])))) []]) .ret)) .skip)) (.seq (.row [.mk (some 18) none (.mov (.tmp 0)) [], .mk (some 19) none (.nilc (.tmp 18)) [], .mk (some 20) none (.fieldA 1 (.tmp 19)) [], .mk (some 21) none (.load none (.tmp 20)) [], .mk (some 22) none (.bin
 .add 3 .other (.tmp 21) (.const (.int .i64 1))) [], .mk (some 23) none (.nilc (.tmp 18)) [], .mk (some 24) none (.fieldA 1 (.tmp 23)) [], .mk none none (.store 1 (.tmp 24) (.tmp 22)) []]) (.seq (.row [.mk (some 25) none (.fieldA 1 (.tmp 3))
 [], .mk (some 26) none (.load none (.tmp 25)) [], .mk (some 2) none (.mov (.tmp 26)) []]) .ret)))))
theorem F212_ok : compFn Tryz.prog (byId h212) 212 = some F212 := by kernel_rfl
def h222 : List (Nat × List (Nat × List Nat) × List Nat) := []
def F222 : AFn :=
 AFn.mk 26 [.tmp 4] (.seq (.row [.mk (some 4) none (.mov (.const (.bool false))) []]) (.seq (.row [.mk (some 6) none (.mov (.tmp 0)) [], .mk (some 7) none (.nilc (.tmp 6)) [], .mk (some 8) none (.fieldA 0 (.tmp 7)) [], .mk (some 9) none
 (.load none (.tmp 8)) [], .mk (some 10) none (.idxL 5 (.tmp 9) (.const (.int .i64 0))) [], .mk (some 11) none (.load (some 5) (.tmp 10)) [], .mk (some 5) none (.alloc 179 [.val (.int .i64 0), .val (.string (ByteArray.mk #[])), .val (.int
 .i64 0), .val (.int .i64 0), .val (.int .i64 0)]) [], .mk none none (.store 5 (.tmp 5) (.tmp 11)) []]) (.seq (.row [.mk (some 12) none (.fieldA 0 (.tmp 5)) [], .mk (some 13) none (.load none (.tmp 12)) [], .mk (some 14) none (.bin .eql 177
 .other (.tmp 13) (.const (.int .i64 4))) [], .mk (some 15) none (.mov (.tmp 14)) [], .mk (some 16) (some (15, false)) (.fieldA 0 (.tmp 5)) [], .mk (some 17) (some (15, false)) (.load none (.tmp 16)) [], .mk (some 18) (some (15, false))
 (.bin .eql 177 .other (.tmp 17) (.const (.int .i64 5))) [], .mk (some 19) none (.pick (.tmp 15) (.const (.bool true)) (.tmp 18)) [], .mk (some 20) none (.mov (.tmp 19)) [], .mk (some 21) (some (20, true)) (.fieldA 1 (.tmp 5)) [], .mk (some
 22) (some (20, true)) (.load none (.tmp 21)) [], .mk (some 23) (some (20, true)) (.mov (.tmp 1)) [], .mk (some 24) (some (20, true)) (.bin .eql 9 .other (.tmp 22) (.tmp 23)) [], .mk (some 25) none (.pick (.tmp 20) (.tmp 24) (.const (.bool
 false))) [], .mk (some 4) none (.mov (.tmp 25)) []]) .ret)))
theorem F222_ok : compFn Tryz.prog (byId h222) 222 = some F222 := by kernel_rfl
def h226 : List (Nat × List (Nat × List Nat) × List Nat) := []
def F226 : AFn :=
 AFn.mk 29 [.tmp 4] (.seq (.row [.mk (some 4) none (.mov (.const (.bool false))) []]) (.seq (.row [.mk (some 6) none (.mov (.tmp 0)) [], .mk (some 7) none (.call (.func 154) [.tmp 6]) [], .mk (some 5) none (.alloc 179 [.val (.int .i64 0),
 .val (.string (ByteArray.mk #[])), .val (.int .i64 0), .val (.int .i64 0), .val (.int .i64 0)]) [], .mk none none (.store 5 (.tmp 5) (.tmp 7)) []]) (.seq (.row [.mk (some 8) none (.mov (.tmp 0)) [], .mk (some 9) none (.nilc (.tmp 8)) [],
 .mk (some 10) none (.fieldA 2 (.tmp 9)) [], .mk (some 11) none (.load none (.tmp 10)) [], .mk (some 12) none (.un .not (.tmp 11)) [], .mk (some 13) none (.mov (.tmp 12)) [], .mk (some 14) (some (13, true)) (.fieldA 0 (.tmp 5)) [], .mk (some
 15) (some (13, true)) (.load none (.tmp 14)) [], .mk (some 16) (some (13, true)) (.bin .eql 177 .other (.tmp 15) (.const (.int .i64 4))) [], .mk (some 17) (some (13, true)) (.mov (.tmp 16)) [], .mk (some 18) (some (17, false)) (.fieldA 0
 (.tmp 5)) [], .mk (some 19) (some (17, false)) (.load none (.tmp 18)) [], .mk (some 20) (some (17, false)) (.bin .eql 177 .other (.tmp 19) (.const (.int .i64 5))) [], .mk (some 21) (some (13, true)) (.pick (.tmp 17) (.const (.bool true))
 (.tmp 20)) [], .mk (some 22) none (.pick (.tmp 13) (.tmp 21) (.const (.bool false))) [], .mk (some 23) none (.mov (.tmp 22)) [], .mk (some 24) (some (23, true)) (.fieldA 1 (.tmp 5)) [], .mk (some 25) (some (23, true)) (.load none (.tmp 24))
 [], .mk (some 26) (some (23, true)) (.mov (.tmp 1)) [], .mk (some 27) (some (23, true)) (.bin .eql 9 .other (.tmp 25) (.tmp 26)) [], .mk (some 28) none (.pick (.tmp 23) (.tmp 27) (.const (.bool false))) [], .mk (some 4) none (.mov (.tmp
 28)) []]) .ret)))
theorem F226_ok : compFn Tryz.prog (byId h226) 226 = some F226 := by kernel_rfl
def h233 : List (Nat × List (Nat × List Nat) × List Nat) := []
def F233 : AFn :=
 AFn.mk 18 [.cell 4 (some 5)] (.seq (.row [.mk (some 4) none (.alloc 179 [.val (.int .i64 0), .val (.string (ByteArray.mk #[])), .val (.int .i64 0), .val (.int .i64 0), .val (.int .i64 0)]) []]) (.seq (.seq (.row [.mk (some 5) none (.mov
 (.tmp 1)) [], .mk (some 6) none (.call (.func 158) [.tmp 5]) []]) (.cond (.tmp 6) (.seq (.row [.mk (some 7) none (.mov (.tmp 1)) [], .mk (some 8) none (.build [.val (.int .i64 0), .val (.string (ByteArray.mk #[])), .val (.int .i64 0), .val
 (.int .i64 0), .val (.int .i64 0)] [(0, 1, .const (.int .i64 5)), (1, 1, .tmp 7)]) [], .mk none none (.store 5 (.tmp 4) (.tmp 8)) []]) .ret) .skip)) (.seq (.seq (.row [.mk (some 9) none (.mov (.tmp 1)) [], .mk (some 10) none (.len true
 (.tmp 9)) [], .mk (some 11) none (.bin .gtr 3 .other (.tmp 10) (.const (.int .i64 20))) []]) (.cond (.tmp 11) (.row [.mk (some 12) none (.mov (.tmp 0)) [], .mk (some 13) none (.nilc (.tmp 12)) [], .mk (some 14) none (.fieldA 3 (.tmp 13))
 [], .mk none none (.store 1 (.tmp 14) (.const (.int .i64 5))) []]) .skip)) (.seq (.row [.mk (some 15) none (.mov (.tmp 1)) [], .mk (some 16) none (.call (.func 110) [.tmp 15]) [], .mk (some 17) none (.build [.val (.int .i64 0), .val
 (.string (ByteArray.mk #[])), .val (.int .i64 0), .val (.int .i64 0), .val (.int .i64 0)] [(0, 1, .const (.int .i64 1)), (1, 1, .tmp 16)]) [], .mk none none (.store 5 (.tmp 4) (.tmp 17)) []]) .ret))))
theorem F233_ok : compFn Tryz.prog (byId h233) 233 = some F233 := by kernel_rfl
def h18 : List (Nat × List (Nat × List Nat) × List Nat) := []
def F18 : AFn :=
 AFn.mk 49 [.tmp 2, .tmp 3] (.seq (.row [.mk (some 1) none (.box 24 (.tmp 0)) [], .mk (some 2) none (.mov (.const (.string (ByteArray.mk #[])))) [], .mk (some 3) none (.mov (.const (.int .i64 0))) []]) (.seq (.seq (.row [.mk (some 6) none
 (.load (some 3) (.tmp 1)) [], .mk (some 7) none (.call (.func 58) [.tmp 6]) [], .mk (some 8) none (.un .not (.tmp 7)) []]) (.cond (.tmp 8) (.seq (.row [.mk (some 2) none (.mov (.const (.string (ByteArray.mk #[])))) [], .mk (some 3) none
 (.mov (.const (.int .i64 2))) []]) .ret) .skip)) (.seq (.row [.mk (some 9) none (.fieldA 0 (.tmp 1)) [], .mk (some 10) none (.load none (.tmp 9)) [], .mk (some 11) none (.call (.func 56) [.tmp 10]) [], .mk (some 4) none (.alloc 100 [.val
 (.string (ByteArray.mk #[])), .val (.int .i64 0), .val (.bool false), .val (.bool false)]) [], .mk none none (.store 4 (.tmp 4) (.tmp 11)) []]) (.seq (.row [.mk (some 12) none (.fieldA 0 (.tmp 4)) [], .mk (some 13) none (.load none (.tmp
 12)) [], .mk (some 5) none (.mov (.tmp 13)) []]) (.seq (.seq (.row [.mk (some 14) none (.fieldA 2 (.tmp 4)) [], .mk (some 15) none (.load none (.tmp 14)) []]) (.cond (.tmp 15) (.row [.mk (some 16) none (.mov (.tmp 5)) [], .mk (some 17) none
 (.fieldA 1 (.tmp 1)) [], .mk (some 18) none (.load none (.tmp 17)) [], .mk (some 19) none (.call (.func 62) [.tmp 18]) [], .mk (some 20) none (.bin .add 9 .other (.const (.string (ByteArray.mk #[32]))) (.tmp 19)) [], .mk (some 21) none
 (.bin .add 9 .other (.tmp 16) (.tmp 20)) [], .mk (some 5) none (.mov (.tmp 21)) []]) .skip)) (.seq (.block 0 (.seq (.row [.mk (some 23) none (.fieldA 2 (.tmp 4)) [], .mk (some 24) none (.load none (.tmp 23)) [], .mk (some 25) none (.mov
 (.tmp 24)) [], .mk (some 26) (some (25, true)) (.fieldA 2 (.tmp 1)) [], .mk (some 27) (some (25, true)) (.load none (.tmp 26)) [], .mk (some 28) (some (25, true)) (.bin .neq 9 .other (.tmp 27) (.const (.string (ByteArray.mk #[])))) [], .mk
 (some 29) none (.pick (.tmp 25) (.tmp 28) (.const (.bool false))) [], .mk (some 22) none (.mov (.tmp 29)) []]) (.cond (.tmp 22) (.row [.mk (some 30) none (.mov (.tmp 5)) [], .mk (some 31) none (.fieldA 2 (.tmp 1)) [], .mk (some 32) none
 (.load none (.tmp 31)) [], .mk (some 33) none (.bin .add 9 .other (.const (.string (ByteArray.mk #[32, 105, 102, 32]))) (.tmp 32)) [], .mk (some 34) none (.bin .add 9 .other (.tmp 30) (.tmp 33)) [], .mk (some 5) none (.mov (.tmp 34)) []])
 (.seq (.row [.mk (some 36) none (.fieldA 3 (.tmp 4)) [], .mk (some 37) none (.load none (.tmp 36)) [], .mk (some 38) none (.mov (.tmp 37)) [], .mk (some 39) (some (38, true)) (.fieldA 2 (.tmp 4)) [], .mk (some 40) (some (38, true)) (.load
 none (.tmp 39)) [], .mk (some 41) (some (38, true)) (.un .not (.tmp 40)) [], .mk (some 42) none (.pick (.tmp 38) (.tmp 41) (.const (.bool false))) [], .mk (some 35) none (.mov (.tmp 42)) []]) (.cond (.tmp 35) (.row [.mk (some 43) none (.mov
 (.tmp 5)) [], .mk (some 44) none (.fieldA 2 (.tmp 1)) [], .mk (some 45) none (.load none (.tmp 44)) [], .mk (some 46) none (.bin .add 9 .other (.const (.string (ByteArray.mk #[32]))) (.tmp 45)) [], .mk (some 47) none (.bin .add 9 .other
 (.tmp 43) (.tmp 46)) [], .mk (some 5) none (.mov (.tmp 47)) []]) .skip))))) (.seq (.row [.mk (some 48) none (.mov (.tmp 5)) [], .mk (some 2) none (.mov (.tmp 48)) [], .mk (some 3) none (.mov (.const (.int .i64 0))) []]) .ret)))))))
theorem F18_ok : compFn Tryz.prog (byId h18) 18 = some F18 := by kernel_rfl
def h58 : List (Nat × List (Nat × List Nat) × List Nat) := []
def F58 : AFn :=
 AFn.mk 59 [.tmp 2] (.seq (.row [.mk (some 1) none (.box 24 (.tmp 0)) [], .mk (some 2) none (.mov (.const (.bool false))) []]) (.seq (.row [.mk (some 4) none (.fieldA 0 (.tmp 1)) [], .mk (some 5) none (.load none (.tmp 4)) [], .mk (some 6)
 none (.call (.func 56) [.tmp 5]) [], .mk (some 3) none (.alloc 100 [.val (.string (ByteArray.mk #[])), .val (.int .i64 0), .val (.bool false), .val (.bool false)]) [], .mk none none (.store 4 (.tmp 3) (.tmp 6)) []]) (.seq (.block 0 (.seq
 (.row [.mk (some 8) none (.load (some 4) (.tmp 3)) [], .mk (some 9) none (.build [.val (.string (ByteArray.mk #[])), .val (.int .i64 0), .val (.bool false), .val (.bool false)] []) [], .mk (some 10) none (.bin .eql 100 .other (.tmp 8) (.tmp
 9)) [], .mk (some 11) none (.mov (.tmp 10)) [], .mk (some 12) (some (11, false)) (.fieldA 2 (.tmp 3)) [], .mk (some 13) (some (11, false)) (.load none (.tmp 12)) [], .mk (some 14) (some (11, false)) (.un .not (.tmp 13)) [], .mk (some 15)
 (some (11, false)) (.mov (.tmp 14)) [], .mk (some 16) (some (15, true)) (.fieldA 1 (.tmp 1)) [], .mk (some 17) (some (15, true)) (.load none (.tmp 16)) [], .mk (some 18) (some (15, true)) (.bin .neq 3 .other (.tmp 17) (.const (.int .i64
 0))) [], .mk (some 19) (some (11, false)) (.pick (.tmp 15) (.tmp 18) (.const (.bool false))) [], .mk (some 20) none (.pick (.tmp 11) (.const (.bool true)) (.tmp 19)) [], .mk (some 21) none (.mov (.tmp 20)) [], .mk (some 22) (some (21,
 false)) (.fieldA 3 (.tmp 3)) [], .mk (some 23) (some (21, false)) (.load none (.tmp 22)) [], .mk (some 24) (some (21, false)) (.un .not (.tmp 23)) [], .mk (some 25) (some (21, false)) (.mov (.tmp 24)) [], .mk (some 26) (some (25, true))
 (.fieldA 2 (.tmp 1)) [], .mk (some 27) (some (25, true)) (.load none (.tmp 26)) [], .mk (some 28) (some (25, true)) (.bin .neq 9 .other (.tmp 27) (.const (.string (ByteArray.mk #[])))) [], .mk (some 29) (some (21, false)) (.pick (.tmp 25)
 (.tmp 28) (.const (.bool false))) [], .mk (some 30) none (.pick (.tmp 21) (.const (.bool true)) (.tmp 29)) [], .mk (some 31) none (.mov (.tmp 30)) [], .mk (some 32) (some (31, false)) (.fieldA 1 (.tmp 1)) [], .mk (some 33) (some (31,
 false)) (.load none (.tmp 32)) [], .mk (some 34) (some (31, false)) (.fieldA 1 (.tmp 3)) [], .mk (some 35) (some (31, false)) (.load none (.tmp 34)) [], .mk (some 36) (some (31, false)) (.bin .lss 3 .other (.tmp 33) (.tmp 35)) [], .mk (some
 37) none (.pick (.tmp 31) (.const (.bool true)) (.tmp 36)) [], .mk (some 38) none (.mov (.tmp 37)) [], .mk (some 39) (some (38, false)) (.fieldA 1 (.tmp 1)) [], .mk (some 40) (some (38, false)) (.load none (.tmp 39)) [], .mk (some 41) (some
 (38, false)) (.bin .gtr 3 .other (.tmp 40) (.const (.int .i64 4294967296))) [], .mk (some 42) none (.pick (.tmp 38) (.const (.bool true)) (.tmp 41)) [], .mk (some 7) none (.mov (.tmp 42)) []]) (.cond (.tmp 7) (.seq (.row [.mk (some 2) none
 (.mov (.const (.bool false))) []]) .ret) (.seq (.row [.mk (some 44) none (.fieldA 3 (.tmp 3)) [], .mk (some 45) none (.load none (.tmp 44)) [], .mk (some 46) none (.un .not (.tmp 45)) [], .mk (some 47) none (.mov (.tmp 46)) [], .mk (some
 48) (some (47, false)) (.fieldA 2 (.tmp 3)) [], .mk (some 49) (some (47, false)) (.load none (.tmp 48)) [], .mk (some 50) (some (47, false)) (.mov (.tmp 49)) [], .mk (some 51) (some (50, true)) (.fieldA 2 (.tmp 1)) [], .mk (some 52) (some
 (50, true)) (.load none (.tmp 51)) [], .mk (some 53) (some (50, true)) (.bin .eql 9 .other (.tmp 52) (.const (.string (ByteArray.mk #[])))) [], .mk (some 54) (some (47, false)) (.pick (.tmp 50) (.tmp 53) (.const (.bool false))) [], .mk
 (some 55) none (.pick (.tmp 47) (.const (.bool true)) (.tmp 54)) [], .mk (some 43) none (.mov (.tmp 55)) []]) (.cond (.tmp 43) (.seq (.row [.mk (some 2) none (.mov (.const (.bool true))) []]) .ret) .skip))))) (.seq (.row [.mk (some 56) none
 (.fieldA 2 (.tmp 1)) [], .mk (some 57) none (.load none (.tmp 56)) [], .mk (some 58) none (.call (.func 103) [.tmp 57]) [], .mk (some 2) none (.mov (.tmp 58)) []]) .ret))))
theorem F58_ok : compFn Tryz.prog (byId h58) 58 = some F58 := by kernel_rfl
def h62 : List (Nat × List (Nat × List Nat) × List Nat) := []
def F62 : AFn :=
 AFn.mk 5 [.tmp 2] (.seq (.row [.mk (some 2) none (.mov (.const (.string (ByteArray.mk #[])))) []]) (.seq (.row [.mk (some 3) none (.mov (.tmp 0)) [], .mk (some 4) none (.call (.func 104) [.tmp 3]) [], .mk (some 2) none (.mov (.tmp 4)) []])
 .ret))
theorem F62_ok : compFn Tryz.prog (byId h62) 62 = some F62 := by kernel_rfl
def h102 : List (Nat × List (Nat × List Nat) × List Nat) := []
def F102 : AFn :=
 AFn.mk 11 [.tmp 4, .tmp 5] (.seq (.row [.mk (some 4) none (.mov (.const (.string (ByteArray.mk #[])))) [], .mk (some 5) none (.mov (.const (.bool false))) []]) (.seq (.row [.mk (some 6) none (.mov (.tmp 0)) [], .mk (some 7) none (.mov (.tmp
 1)) [], .mk (some 8) none (.call (.func 127) [.tmp 6, .tmp 7]) [], .mk (some 9) none (.ext (.tmp 8) 0) [], .mk (some 10) none (.ext (.tmp 8) 1) [], .mk (some 4) none (.mov (.tmp 9)) [], .mk (some 5) none (.mov (.tmp 10)) []]) .ret))
theorem F102_ok : compFn Tryz.prog (byId h102) 102 = some F102 := by kernel_rfl
def h106 : List (Nat × List (Nat × List Nat) × List Nat) := []
def F106 : AFn :=
 AFn.mk 19 [.tmp 2] (.seq (.row [.mk (some 2) none (.mov (.const (.bool false))) []]) (.seq (.row [.mk (some 7) none (.mov (.tmp 0)) [], .mk (some 8) none (.call (.func 130) [.tmp 7]) [], .mk (some 6) none (.mov (.tmp 8)) [], .mk (some 9)
 none (.ext (.tmp 6) 0) [], .mk (some 10) none (.ext (.tmp 6) 1) [], .mk (some 11) none (.ext (.tmp 6) 2) [], .mk (some 3) none (.alloc 170 [.val (.int .i64 0), .val (.string (ByteArray.mk #[])), .val (.int .i64 0), .sl [] [] .full, .val
 (.int .i64 0)]) [], .mk none none (.store 5 (.tmp 3) (.tmp 9)) [], .mk (some 4) none (.mov (.tmp 10)) [], .mk (some 5) none (.mov (.tmp 11)) []]) (.seq (.row [.mk (some 12) none (.mov (.tmp 5)) [], .mk (some 13) none (.bin .eql 3 .other
 (.tmp 12) (.const (.int .i64 0))) [], .mk (some 14) none (.mov (.tmp 13)) [], .mk (some 15) (some (14, true)) (.mov (.tmp 0)) [], .mk (some 16) (some (14, true)) (.len true (.tmp 15)) [], .mk (some 17) (some (14, true)) (.bin .leq 3 .other
 (.tmp 16) (.const (.int .i64 255))) [], .mk (some 18) none (.pick (.tmp 14) (.tmp 17) (.const (.bool false))) [], .mk (some 2) none (.mov (.tmp 18)) []]) .ret)))
theorem F106_ok : compFn Tryz.prog (byId h106) 106 = some F106 := by kernel_rfl
def h110 : List (Nat × List (Nat × List Nat) × List Nat) := []
def F110 : AFn :=
 AFn.mk 5 [.tmp 2] (.seq (.row [.mk (some 2) none (.mov (.const (.string (ByteArray.mk #[])))) []]) (.seq (.row [.mk (some 3) none (.mov (.tmp 0)) [], .mk (some 4) none (.call (.func 131) [.tmp 3]) [], .mk (some 2) none (.mov (.tmp 4)) []])
 .ret))
theorem F110_ok : compFn Tryz.prog (byId h110) 110 = some F110 := by kernel_rfl
def h127 : List (Nat × List (Nat × List Nat) × List Nat) := []
def F127 : AFn :=
 AFn.mk 15 [.tmp 4, .tmp 5] (.seq (.row [.mk (some 4) none (.mov (.const (.string (ByteArray.mk #[])))) [], .mk (some 5) none (.mov (.const (.bool false))) []]) (.seq (.seq (.row [.mk (some 6) none (.mov (.tmp 0)) [], .mk (some 7) none (.mov
 (.tmp 1)) [], .mk (some 8) none (.call (.func 143) [.tmp 6, .tmp 7]) [], .mk (some 9) none (.un .not (.tmp 8)) []]) (.cond (.tmp 9) (.seq (.row [.mk (some 10) none (.mov (.tmp 0)) [], .mk (some 4) none (.mov (.tmp 10)) [], .mk (some 5) none
 (.mov (.const (.bool false))) []]) .ret) .skip)) (.seq (.row [.mk (some 11) none (.mov (.tmp 0)) [], .mk (some 12) none (.mov (.tmp 1)) [], .mk (some 13) none (.len true (.tmp 12)) [], .mk (some 14) none (.sliceS (.tmp 11) (some (.tmp 13))
 none) [], .mk (some 4) none (.mov (.tmp 14)) [], .mk (some 5) none (.mov (.const (.bool true))) []]) .ret)))
theorem F127_ok : compFn Tryz.prog (byId h127) 127 = some F127 := by kernel_rfl
def h136 : List (Nat × List (Nat × List Nat) × List Nat) := []
def F136 : AFn :=
 AFn.mk 9 [.tmp 2] (.seq (.row [.mk (some 2) none (.mov (.const (.bool false))) []]) (.seq (.row [.mk (some 3) none (.mov (.tmp 0)) [], .mk (some 4) none (.bin .geq 5 .other (.tmp 3) (.const (.int .u8 48))) [], .mk (some 5) none (.mov (.tmp
 4)) [], .mk (some 6) (some (5, true)) (.mov (.tmp 0)) [], .mk (some 7) (some (5, true)) (.bin .leq 5 .other (.tmp 6) (.const (.int .u8 57))) [], .mk (some 8) none (.pick (.tmp 5) (.tmp 7) (.const (.bool false))) [], .mk (some 2) none (.mov
 (.tmp 8)) []]) .ret))
theorem F136_ok : compFn Tryz.prog (byId h136) 136 = some F136 := by kernel_rfl
def h147 : List (Nat × List (Nat × List Nat) × List Nat) := []
def F147 : AFn :=
 AFn.mk 20 [.tmp 2] (.seq (.row [.mk (some 1) none (.box 170 (.tmp 0)) [], .mk (some 2) none (.mov (.const (.int .i64 0))) []]) (.seq (.row [.mk (some 3) none (.mov (.const (.int .i64 0))) []]) (.seq (.seq (.row [.mk (some 6) none (.fieldA 3
 (.tmp 1)) [], .mk (some 7) none (.load none (.tmp 6)) [], .mk (some 8) none (.len false (.tmp 7)) [], .mk (some 9) none (.mov (.const (.int .i64 0))) []]) (.block 0 (.loop (.seq (.row [.mk (some 10) none (.bin .lss 3 .other (.tmp 9) (.tmp
 8)) []]) (.seq (.cond (.tmp 10) .skip (.exit 0)) (.seq (.block 1 (.seq (.row [.mk (some 11) none (.idxL 5 (.tmp 7) (.tmp 9)) [], .mk (some 12) none (.load (some 5) (.tmp 11)) [], .mk (some 5) none (.alloc 170 [.val (.int .i64 0), .val
 (.string (ByteArray.mk #[])), .val (.int .i64 0), .sl [] [] .full, .val (.int .i64 0)]) [], .mk none none (.store 5 (.tmp 5) (.tmp 12)) []]) (.row [.mk (some 13) none (.mov (.tmp 3)) [], .mk (some 14) none (.load (some 5) (.tmp 5)) [], .mk
 (some 15) none (.call (.func 147) [.tmp 14]) [], .mk (some 16) none (.mm true [.tmp 13, .tmp 15]) [], .mk (some 3) none (.mov (.tmp 16)) []]))) (.row [.mk (some 17) none (.bin .add 3 .other (.tmp 9) (.const (.int .i64 1))) [], .mk (some 9)
 none (.mov (.tmp 17)) []]))))))) (.seq (.row [.mk (some 18) none (.mov (.tmp 3)) [], .mk (some 19) none (.bin .add 3 .other (.tmp 18) (.const (.int .i64 1))) [], .mk (some 2) none (.mov (.tmp 19)) []]) .ret))))
theorem F147_ok : compFn Tryz.prog (byId h147) 147 = some F147 := by kernel_rfl
def h155 : List (Nat × List (Nat × List Nat) × List Nat) := []
def F155 : AFn :=
 AFn.mk 22 [.tmp 2] (.seq (.row [.mk (some 1) none (.box 170 (.tmp 0)) [], .mk (some 2) none (.mov (.const (.int .i64 0))) []]) (.seq (.row [.mk (some 3) none (.mov (.const (.int .i64 0))) []]) (.seq (.seq (.row [.mk (some 4) none (.mov
 (.const (.int .i64 0))) []]) (.block 0 (.loop (.seq (.seq (.row [.mk (some 5) none (.mov (.tmp 4)) [], .mk (some 6) none (.fieldA 3 (.tmp 1)) [], .mk (some 7) none (.load none (.tmp 6)) [], .mk (some 8) none (.len false (.tmp 7)) [], .mk
 (some 9) none (.bin .lss 3 .other (.tmp 5) (.tmp 8)) []]) (.cond (.tmp 9) .skip (.exit 0))) (.seq (.block 1 (.row [.mk (some 12) none (.mov (.tmp 3)) [], .mk (some 13) none (.fieldA 3 (.tmp 1)) [], .mk (some 14) none (.load none (.tmp 13))
 [], .mk (some 15) none (.mov (.tmp 4)) [], .mk (some 16) none (.idxL 5 (.tmp 14) (.tmp 15)) [], .mk (some 17) none (.load (some 5) (.tmp 16)) [], .mk (some 18) none (.call (.func 155) [.tmp 17]) [], .mk (some 19) none (.mm true [.tmp 12,
 .tmp 18]) [], .mk (some 3) none (.mov (.tmp 19)) []])) (.row [.mk (some 10) none (.mov (.tmp 4)) [], .mk (some 11) none (.bin .add 3 .other (.tmp 10) (.const (.int .i64 1))) [], .mk (some 4) none (.mov (.tmp 11)) []])))))) (.seq (.row [.mk
 (some 20) none (.mov (.tmp 3)) [], .mk (some 21) none (.bin .add 3 .other (.tmp 20) (.const (.int .i64 1))) [], .mk (some 2) none (.mov (.tmp 21)) []]) .ret))))
theorem F155_ok : compFn Tryz.prog (byId h155) 155 = some F155 := by kernel_rfl
def h172 : List (Nat × List (Nat × List Nat) × List Nat) := []
def F172 : AFn :=
 AFn.mk 12 [] (.row [.mk (some 2) none (.mov (.tmp 0)) [], .mk (some 3) none (.nilc (.tmp 2)) [], .mk (some 4) none (.fieldA 0 (.tmp 3)) [], .mk (some 5) none (.load none (.tmp 4)) [], .mk (some 6) none (.idxL 5 (.tmp 5) (.const (.int .i64
 0))) [], .mk (some 7) none (.fieldA 4 (.tmp 6)) [], .mk (some 8) none (.load none (.tmp 7)) [], .mk (some 9) none (.build [.val (.int .i64 0)] [(0, 1, .tmp 8)]) [], .mk (some 10) none (.box 220 (.tmp 9)) [], .mk (some 11) none (.mki 215
 (.tmp 10)) [], .mk none none (.panic (.tmp 11)) []])
theorem F172_ok : compFn Tryz.prog (byId h172) 172 = some F172 := by kernel_rfl
def h181 : List (Nat × List (Nat × List Nat) × List Nat) := [(26, [(0, []), (1, []), (2, []), (3, []), (4, []), (5, []), (6, []), (7, []), (8, []), (9, []), (10, []), (11, []), (12, []), (13, []), (14, []), (15, []), (16, []), (17, []), (18, []), (19, []), (20, []), (21, []), (22, []), (23, []),
 (24, []), (25, []), (26, [])], [0, 0, 0, 6, 14, 30, 63, 0, 128, 511, 1023, 2047, 2047, 2047, 2047, 2047, 51199, 116735, 247807, 518143, 1048575, 2047, 2047, 6293503, 14682111, 33554431, 67108863]), (27, [(0, []), (1, []), (2, []), (3, []),
 (4, []), (5, []), (6, []), (7, []), (8, []), (9, []), (10, []), (11, []), (12, [9]), (13, []), (14, [])], [0, 0, 3, 7, 15, 0, 0, 0, 192, 448, 960, 2016, 31, 8191, 16383])]
def F181 : AFn :=
 AFn.mk 144 [.cell 4 (some 5), .tmp 5, .tmp 6] (.seq (.row [.mk (some 4) none (.alloc 179 [.val (.int .i64 0), .val (.string (ByteArray.mk #[])), .val (.int .i64 0), .val (.int .i64 0), .val (.int .i64 0)]) [], .mk (some 5) none (.mov
 (.const (.int .i64 0))) [], .mk (some 6) none (.mov (.const (.int .i64 0))) []]) (.seq (.row [.mk (some 16) none (.mov (.tmp 0)) [], .mk (some 17) none (.mov (.tmp 1)) [], .mk (some 18) none (.idxStr (.tmp 16) (.tmp 17)) [], .mk (some 7)
 none (.mov (.tmp 18)) []]) (.seq (.row [.mk (some 19) none (.mov (.tmp 1)) [], .mk (some 8) none (.mov (.tmp 19)) []]) (.seq (.block 0 (.seq (.row [.mk (some 21) none (.mov (.tmp 7)) [], .mk (some 22) none (.call (.func 134) [.tmp 21]) [],
 .mk (some 20) none (.mov (.tmp 22)) []]) (.cond (.tmp 20) (.seq (.block 1 (.loop (.seq (.seq (.row [.mk (some 23) none (.mov (.tmp 8)) [], .mk (some 24) none (.mov (.tmp 0)) [], .mk (some 25) none (.len true (.tmp 24)) [], .mk (some 26)
 none (.bin .lss 3 .other (.tmp 23) (.tmp 25)) [], .mk (some 27) none (.mov (.tmp 26)) [], .mk (some 28) (some (27, true)) (.mov (.tmp 0)) [], .mk (some 29) (some (27, true)) (.mov (.tmp 8)) [], .mk (some 30) (some (27, true)) (.idxStr (.tmp
 28) (.tmp 29)) [], .mk (some 31) (some (27, true)) (.call (.func 134) [.tmp 30]) [], .mk (some 32) (some (27, true)) (.mov (.tmp 31)) [], .mk (some 33) (some (32, false)) (.mov (.tmp 0)) [], .mk (some 34) (some (32, false)) (.mov (.tmp 8))
 [], .mk (some 35) (some (32, false)) (.idxStr (.tmp 33) (.tmp 34)) [], .mk (some 36) (some (32, false)) (.call (.func 136) [.tmp 35]) [], .mk (some 37) (some (27, true)) (.pick (.tmp 32) (.const (.bool true)) (.tmp 36)) [], .mk (some 38)
 none (.pick (.tmp 27) (.tmp 37) (.const (.bool false))) []]) (.cond (.tmp 38) .skip (.exit 1))) (.block 2 (.row [.mk (some 39) none (.mov (.tmp 8)) [], .mk (some 40) none (.bin .add 3 .other (.tmp 39) (.const (.int .i64 1))) [], .mk (some
 8) none (.mov (.tmp 40)) []]))))) (.seq (.row [.mk (some 41) none (.mov (.tmp 0)) [], .mk (some 42) none (.mov (.tmp 1)) [], .mk (some 43) none (.mov (.tmp 8)) [], .mk (some 44) none (.sliceS (.tmp 41) (some (.tmp 42)) (some (.tmp 43))) [],
 .mk (some 9) none (.mov (.tmp 44)) []]) (.seq (.seq (.row [.mk (some 45) none (.mov (.tmp 9)) [], .mk (some 46) none (.call (.func 135) [.tmp 45]) []]) (.cond (.tmp 46) (.seq (.row [.mk (some 47) none (.mov (.tmp 9)) [], .mk (some 48) none
 (.build [.val (.int .i64 0), .val (.string (ByteArray.mk #[])), .val (.int .i64 0), .val (.int .i64 0), .val (.int .i64 0)] [(0, 1, .const (.int .i64 5)), (1, 1, .tmp 47)]) [], .mk (some 49) none (.mov (.tmp 8)) [], .mk none none (.store 5
 (.tmp 4) (.tmp 48)) [], .mk (some 5) none (.mov (.tmp 49)) [], .mk (some 6) none (.mov (.const (.int .i64 0))) []]) .ret) .skip)) (.seq (.seq (.row [.mk (some 50) none (.mov (.tmp 9)) [], .mk (some 51) none (.len true (.tmp 50)) [], .mk
 (some 52) none (.bin .gtr 3 .other (.tmp 51) (.const (.int .i64 20))) []]) (.cond (.tmp 52) (.seq (.row [.mk (some 53) none (.build [.val (.int .i64 0), .val (.string (ByteArray.mk #[])), .val (.int .i64 0), .val (.int .i64 0), .val (.int
 .i64 0)] []) [], .mk none none (.store 5 (.tmp 4) (.tmp 53)) [], .mk (some 5) none (.mov (.const (.int .i64 0))) [], .mk (some 6) none (.mov (.const (.int .i64 5))) []]) .ret) .skip)) (.seq (.row [.mk (some 54) none (.mov (.tmp 9)) [], .mk
 (some 55) none (.build [.val (.int .i64 0), .val (.string (ByteArray.mk #[])), .val (.int .i64 0), .val (.int .i64 0), .val (.int .i64 0)] [(0, 1, .const (.int .i64 1)), (1, 1, .tmp 54)]) [], .mk (some 56) none (.mov (.tmp 8)) [], .mk none
 none (.store 5 (.tmp 4) (.tmp 55)) [], .mk (some 5) none (.mov (.tmp 56)) [], .mk (some 6) none (.mov (.const (.int .i64 0))) []]) .ret))))) (.seq (.row [.mk (some 58) none (.mov (.tmp 7)) [], .mk (some 59) none (.call (.func 136) [.tmp
 58]) [], .mk (some 57) none (.mov (.tmp 59)) []]) (.cond (.tmp 57) (.seq (.block 3 (.loop (.seq (.seq (.row [.mk (some 60) none (.mov (.tmp 8)) [], .mk (some 61) none (.mov (.tmp 0)) [], .mk (some 62) none (.len true (.tmp 61)) [], .mk
 (some 63) none (.bin .lss 3 .other (.tmp 60) (.tmp 62)) [], .mk (some 64) none (.mov (.tmp 63)) [], .mk (some 65) (some (64, true)) (.mov (.tmp 0)) [], .mk (some 66) (some (64, true)) (.mov (.tmp 8)) [], .mk (some 67) (some (64, true))
 (.idxStr (.tmp 65) (.tmp 66)) [], .mk (some 68) (some (64, true)) (.call (.func 136) [.tmp 67]) [], .mk (some 69) none (.pick (.tmp 64) (.tmp 68) (.const (.bool false))) []]) (.cond (.tmp 69) .skip (.exit 3))) (.block 4 (.row [.mk (some 70)
 none (.mov (.tmp 8)) [], .mk (some 71) none (.bin .add 3 .other (.tmp 70) (.const (.int .i64 1))) [], .mk (some 8) none (.mov (.tmp 71)) []]))))) (.seq (.row [.mk (some 72) none (.mov (.tmp 0)) [], .mk (some 73) none (.mov (.tmp 1)) [], .mk
 (some 74) none (.mov (.tmp 8)) [], .mk (some 75) none (.sliceS (.tmp 72) (some (.tmp 73)) (some (.tmp 74))) [], .mk (some 76) none (.call (.func 206) [.tmp 75]) [], .mk (some 10) none (.mov (.tmp 76)) []]) (.seq (.seq (.row [.mk (some 77)
 none (.mov (.tmp 10)) [], .mk (some 78) none (.bin .lss 3 .other (.tmp 77) (.const (.int .i64 0))) []]) (.cond (.tmp 78) (.seq (.row [.mk (some 79) none (.build [.val (.int .i64 0), .val (.string (ByteArray.mk #[])), .val (.int .i64 0),
 .val (.int .i64 0), .val (.int .i64 0)] []) [], .mk none none (.store 5 (.tmp 4) (.tmp 79)) [], .mk (some 5) none (.mov (.const (.int .i64 0))) [], .mk (some 6) none (.mov (.const (.int .i64 5))) []]) .ret) .skip)) (.seq (.row [.mk (some
 80) none (.mov (.tmp 10)) [], .mk (some 81) none (.build [.val (.int .i64 0), .val (.string (ByteArray.mk #[])), .val (.int .i64 0), .val (.int .i64 0), .val (.int .i64 0)] [(0, 1, .const (.int .i64 2)), (2, 1, .tmp 80)]) [], .mk (some 82)
 none (.mov (.tmp 8)) [], .mk none none (.store 5 (.tmp 4) (.tmp 81)) [], .mk (some 5) none (.mov (.tmp 82)) [], .mk (some 6) none (.mov (.const (.int .i64 0))) []]) .ret)))) (.seq (.row [.mk (some 84) none (.mov (.tmp 7)) [], .mk (some 85)
 none (.bin .eql 5 .other (.tmp 84) (.const (.int .u8 34))) [], .mk (some 83) none (.mov (.tmp 85)) []]) (.cond (.tmp 83) (.seq (.row [.mk (some 87) none (.mov (.tmp 0)) [], .mk (some 88) none (.mov (.tmp 1)) [], .mk (some 89) none (.call
 (.func 207) [.tmp 87, .tmp 88]) [], .mk (some 86) none (.mov (.tmp 89)) [], .mk (some 90) none (.ext (.tmp 86) 0) [], .mk (some 91) none (.ext (.tmp 86) 1) [], .mk (some 92) none (.ext (.tmp 86) 2) [], .mk (some 11) none (.mov (.tmp 90))
 [], .mk (some 12) none (.mov (.tmp 91)) [], .mk (some 13) none (.mov (.tmp 92)) []]) (.seq (.row [.mk (some 93) none (.mov (.tmp 11)) [], .mk (some 94) none (.build [.val (.int .i64 0), .val (.string (ByteArray.mk #[])), .val (.int .i64 0),
 .val (.int .i64 0), .val (.int .i64 0)] [(0, 1, .const (.int .i64 3)), (1, 1, .tmp 93)]) [], .mk (some 95) none (.mov (.tmp 12)) [], .mk (some 96) none (.mov (.tmp 13)) [], .mk none none (.store 5 (.tmp 4) (.tmp 94)) [], .mk (some 5) none
 (.mov (.tmp 95)) [], .mk (some 6) none (.mov (.tmp 96)) []]) .ret)) .skip))))))) (.seq (.row [.mk (some 97) none (.call (.func 208) []) [], .mk (some 14) none (.mov (.tmp 97)) []]) (.seq (.seq (.row [.mk (some 15) none (.mov (.const (.int
 .i64 0))) []]) (.block 5 (.loop (.seq (.seq (.row [.mk (some 98) none (.mov (.tmp 15)) [], .mk (some 99) none (.mov (.tmp 14)) [], .mk (some 100) none (.len false (.tmp 99)) [], .mk (some 101) none (.bin .lss 3 .other (.tmp 98) (.tmp 100))
 []]) (.cond (.tmp 101) .skip (.exit 5))) (.seq (.block 6 (.seq (.row [.mk (some 104) none (.mov (.tmp 1)) [], .mk (some 105) none (.mov (.tmp 14)) [], .mk (some 106) none (.mov (.tmp 15)) [], .mk (some 107) none (.idxL 1 (.tmp 105) (.tmp
 106)) [], .mk (some 108) none (.load none (.tmp 107)) [], .mk (some 109) none (.len true (.tmp 108)) [], .mk (some 110) none (.bin .add 3 .other (.tmp 104) (.tmp 109)) [], .mk (some 111) none (.mov (.tmp 0)) [], .mk (some 112) none (.len
 true (.tmp 111)) [], .mk (some 113) none (.bin .leq 3 .other (.tmp 110) (.tmp 112)) [], .mk (some 114) none (.mov (.tmp 113)) [], .mk (some 115) (some (114, true)) (.mov (.tmp 0)) [], .mk (some 116) (some (114, true)) (.mov (.tmp 1)) [],
 .mk (some 117) (some (114, true)) (.mov (.tmp 1)) [], .mk (some 118) (some (114, true)) (.mov (.tmp 14)) [], .mk (some 119) (some (114, true)) (.mov (.tmp 15)) [], .mk (some 120) (some (114, true)) (.idxL 1 (.tmp 118) (.tmp 119)) [], .mk
 (some 121) (some (114, true)) (.load none (.tmp 120)) [], .mk (some 122) (some (114, true)) (.len true (.tmp 121)) [], .mk (some 123) (some (114, true)) (.bin .add 3 .other (.tmp 117) (.tmp 122)) [], .mk (some 124) (some (114, true))
 (.sliceS (.tmp 115) (some (.tmp 116)) (some (.tmp 123))) [], .mk (some 125) (some (114, true)) (.mov (.tmp 14)) [], .mk (some 126) (some (114, true)) (.mov (.tmp 15)) [], .mk (some 127) (some (114, true)) (.idxL 1 (.tmp 125) (.tmp 126)) [],
 .mk (some 128) (some (114, true)) (.load none (.tmp 127)) [], .mk (some 129) (some (114, true)) (.bin .eql 9 .other (.tmp 124) (.tmp 128)) [], .mk (some 130) none (.pick (.tmp 114) (.tmp 129) (.const (.bool false))) []]) (.cond (.tmp 130)
 (.seq (.row [.mk (some 131) none (.mov (.tmp 14)) [], .mk (some 132) none (.mov (.tmp 15)) [], .mk (some 133) none (.idxL 1 (.tmp 131) (.tmp 132)) [], .mk (some 134) none (.load none (.tmp 133)) [], .mk (some 135) none (.build [.val (.int
 .i64 0), .val (.string (ByteArray.mk #[])), .val (.int .i64 0), .val (.int .i64 0), .val (.int .i64 0)] [(0, 1, .const (.int .i64 4)), (1, 1, .tmp 134)]) [], .mk (some 136) none (.mov (.tmp 1)) [], .mk (some 137) none (.mov (.tmp 14)) [],
 .mk (some 138) none (.mov (.tmp 15)) [], .mk (some 139) none (.idxL 1 (.tmp 137) (.tmp 138)) [], .mk (some 140) none (.load none (.tmp 139)) [], .mk (some 141) none (.len true (.tmp 140)) [], .mk (some 142) none (.bin .add 3 .other (.tmp
 136) (.tmp 141)) [], .mk none none (.store 5 (.tmp 4) (.tmp 135)) [(140, none, .load none (.tmp 139))], .mk (some 5) none (.mov (.tmp 142)) [], .mk (some 6) none (.mov (.const (.int .i64 0))) []]) .ret) .skip))) (.row [.mk (some 102) none
 (.mov (.tmp 15)) [], .mk (some 103) none (.bin .add 3 .other (.tmp 102) (.const (.int .i64 1))) [], .mk (some 15) none (.mov (.tmp 103)) []])))))) (.seq (.row [.mk (some 143) none (.build [.val (.int .i64 0), .val (.string (ByteArray.mk
 #[])), .val (.int .i64 0), .val (.int .i64 0), .val (.int .i64 0)] []) [], .mk none none (.store 5 (.tmp 4) (.tmp 143)) [], .mk (some 5) none (.mov (.const (.int .i64 0))) [], .mk (some 6) none (.mov (.const (.int .i64 6))) []]) .ret)))))))
theorem F181_ok : compFn Tryz.prog (byId h181) 181 = some F181 := by kernel_rfl
def h185 : List (Nat × List (Nat × List Nat) × List Nat) := []
def F185 : AFn :=
 AFn.mk 20 [.tmp 4] (.seq (.row [.mk (some 4) none (.mov (.const (.int .i64 0))) []]) (.seq (.row [.mk (some 5) none (.mov (.const (.int .i64 0))) []]) (.seq (.block 0 (.loop (.seq (.seq (.row [.mk (some 6) none (.mov (.tmp 5)) [], .mk (some
 7) none (.mov (.tmp 0)) [], .mk (some 8) none (.len true (.tmp 7)) [], .mk (some 9) none (.bin .lss 3 .other (.tmp 6) (.tmp 8)) [], .mk (some 10) none (.mov (.tmp 9)) [], .mk (some 11) (some (10, true)) (.mov (.tmp 1)) [], .mk (some 12)
 (some (10, true)) (.mov (.tmp 0)) [], .mk (some 13) (some (10, true)) (.mov (.tmp 5)) [], .mk (some 14) (some (10, true)) (.idxStr (.tmp 12) (.tmp 13)) [], .mk (some 15) (some (10, true)) (.call (.tmp 11) [.tmp 14]) [], .mk (some 16) none
 (.pick (.tmp 10) (.tmp 15) (.const (.bool false))) []]) (.cond (.tmp 16) .skip (.exit 0))) (.block 1 (.row [.mk (some 17) none (.mov (.tmp 5)) [], .mk (some 18) none (.bin .add 3 .other (.tmp 17) (.const (.int .i64 1))) [], .mk (some 5)
 none (.mov (.tmp 18)) []]))))) (.seq (.row [.mk (some 19) none (.mov (.tmp 5)) [], .mk (some 4) none (.mov (.tmp 19)) []]) .ret))))
theorem F185_ok : compFn Tryz.prog (byId h185) 185 = some F185 := by kernel_rfl
def h203 : List (Nat × List (Nat × List Nat) × List Nat) := []
def F203 : AFn :=
 AFn.mk 25 [.tmp 2] (.seq (.row [.mk (some 2) none (.mov (.const (.string (ByteArray.mk #[])))) []]) (.seq (.row [.mk (some 4) none (.mov (.tmp 0)) [], .mk (some 5) none (.nilc (.tmp 4)) [], .mk (some 6) none (.fieldA 0 (.tmp 5)) [], .mk
 (some 7) none (.load none (.tmp 6)) [], .mk (some 8) none (.idxL 5 (.tmp 7) (.const (.int .i64 0))) [], .mk (some 9) none (.load (some 5) (.tmp 8)) [], .mk (some 3) none (.alloc 179 [.val (.int .i64 0), .val (.string (ByteArray.mk #[])),
 .val (.int .i64 0), .val (.int .i64 0), .val (.int .i64 0)]) [], .mk none none (.store 5 (.tmp 3) (.tmp 9)) []]) (.seq (.seq (.row [.mk (some 10) none (.fieldA 0 (.tmp 3)) [], .mk (some 11) none (.load none (.tmp 10)) [], .mk (some 12) none
 (.bin .neq 177 .other (.tmp 11) (.const (.int .i64 1))) []]) (.cond (.tmp 12) (.row [.mk (some 13) none (.mov (.tmp 0)) [], .mk (some 14) none (.call (.func 172) [.tmp 13]) []]) .skip)) (.seq (.row [.mk (some 15) none (.mov (.tmp 0)) [],
 .mk (some 16) none (.mov (.tmp 0)) [], .mk (some 17) none (.nilc (.tmp 16)) [], .mk (some 18) none (.fieldA 0 (.tmp 17)) [], .mk (some 19) none (.load none (.tmp 18)) [], .mk (some 20) none (.sliceL 5 (.tmp 19) (some (.const (.int .i64 1)))
 none none) [], .mk (some 21) none (.nilc (.tmp 15)) [], .mk (some 22) none (.fieldA 0 (.tmp 21)) [], .mk none none (.store 1 (.tmp 22) (.tmp 20)) []]) (.seq (.row [.mk (some 23) none (.fieldA 1 (.tmp 3)) [], .mk (some 24) none (.load none
 (.tmp 23)) [], .mk (some 2) none (.mov (.tmp 24)) []]) .ret)))))
theorem F203_ok : compFn Tryz.prog (byId h203) 203 = some F203 := by kernel_rfl
def h209 : List (Nat × List (Nat × List Nat) × List Nat) := []
def F209 : AFn :=
 AFn.mk 15 [.tmp 4] (.seq (.row [.mk (some 4) none (.mov (.const (.bool false))) []]) (.seq (.seq (.row [.mk (some 5) none (.mov (.tmp 0)) [], .mk (some 6) none (.mov (.tmp 1)) [], .mk (some 7) none (.call (.func 226) [.tmp 5, .tmp 6]) []])
 (.cond (.tmp 7) (.seq (.row [.mk (some 8) none (.mov (.tmp 0)) [], .mk (some 9) none (.nilc (.tmp 8)) [], .mk (some 10) none (.fieldA 1 (.tmp 9)) [], .mk (some 11) none (.load none (.tmp 10)) [], .mk (some 12) none (.bin .add 3 .other (.tmp
 11) (.const (.int .i64 1))) [], .mk (some 13) none (.nilc (.tmp 8)) [], .mk (some 14) none (.fieldA 1 (.tmp 13)) [], .mk none none (.store 1 (.tmp 14) (.tmp 12)) []]) (.seq (.row [.mk (some 4) none (.mov (.const (.bool true))) []]) .ret))
 .skip)) (.seq (.row [.mk (some 4) none (.mov (.const (.bool false))) []]) .ret)))
theorem F209_ok : compFn Tryz.prog (byId h209) 209 = some F209 := by kernel_rfl
def h216 : List (Nat × List (Nat × List Nat) × List Nat) := [(1, [(0, []), (1, []), (2, []), (3, []), (4, []), (5, []), (6, []), (7, []), (8, []), (9, [])], [0, 1, 3, 7, 0, 16, 48, 112, 240, 511]), (2, [(0, []), (1, []), (2, []), (3, []), (4, []), (5, []), (6, []), (7, []), (8, []), (9, []), (10,
 [])], [0, 0, 2, 6, 14, 0, 32, 96, 224, 510, 1023]), (3, [(0, []), (1, []), (2, []), (3, []), (4, []), (5, []), (6, []), (7, []), (8, []), (9, []), (10, []), (11, []), (12, []), (13, []), (14, []), (15, []), (16, [])], [0, 0, 2, 6, 14, 0,
 32, 96, 224, 510, 1023, 2047, 4095, 4095, 0, 24575, 65535]), (4, [(0, []), (1, []), (2, []), (3, []), (4, []), (5, []), (6, []), (7, []), (8, []), (9, [4, 7]), (10, []), (11, [])], [0, 1, 3, 7, 0, 16, 48, 112, 15, 271, 1023, 2047])]
def F216 : AFn :=
 AFn.mk 71 [] (.block 0 (.loop (.block 1 (.seq (.row [.mk (some 5) none (.load none (.tmp 1)) [], .mk (some 6) none (.call (.func 217) [.tmp 5]) []]) (.seq (.seq (.row [.mk (some 7) none (.load none (.tmp 1)) [], .mk (some 8) none (.nilc
 (.tmp 7)) [], .mk (some 9) none (.fieldA 1 (.tmp 8)) [], .mk (some 10) none (.load none (.tmp 9)) [], .mk (some 11) none (.load none (.tmp 1)) [], .mk (some 12) none (.nilc (.tmp 11)) [], .mk (some 13) none (.fieldA 0 (.tmp 12)) [], .mk
 (some 14) none (.load none (.tmp 13)) [], .mk (some 15) none (.len true (.tmp 14)) [], .mk (some 16) none (.bin .eql 3 .other (.tmp 10) (.tmp 15)) []]) (.cond (.tmp 16) (.seq (.row [.mk (some 17) none (.mov (.tmp 0)) [], .mk (some 18) none
 (.load none (.tmp 1)) [], .mk (some 19) none (.nilc (.tmp 18)) [], .mk (some 20) none (.fieldA 2 (.tmp 19)) [], .mk (some 21) none (.load none (.tmp 20)) [], .mk (some 22) none (.load none (.tmp 1)) [], .mk (some 23) none (.nilc (.tmp 22))
 [], .mk (some 24) none (.fieldA 1 (.tmp 23)) [], .mk (some 25) none (.load none (.tmp 24)) [], .mk (some 26) none (.build [.val (.int .i64 0), .val (.string (ByteArray.mk #[])), .val (.int .i64 0), .val (.int .i64 0), .val (.int .i64 0)]
 [(3, 1, .tmp 21), (4, 1, .tmp 25)]) [], .mk (some 27) none (.call (.tmp 17) [.tmp 26]) []]) .ret) .skip)) (.seq (.row [.mk (some 29) none (.load none (.tmp 1)) [], .mk (some 30) none (.load none (.tmp 1)) [], .mk (some 31) none (.nilc (.tmp
 30)) [], .mk (some 32) none (.fieldA 0 (.tmp 31)) [], .mk (some 33) none (.load none (.tmp 32)) [], .mk (some 34) none (.load none (.tmp 1)) [], .mk (some 35) none (.nilc (.tmp 34)) [], .mk (some 36) none (.fieldA 1 (.tmp 35)) [], .mk (some
 37) none (.load none (.tmp 36)) [], .mk (some 38) none (.sliceS (.tmp 33) (some (.tmp 37)) none) [], .mk (some 39) none (.call (.func 218) [.tmp 29, .tmp 38]) [], .mk (some 28) none (.mov (.tmp 39)) [], .mk (some 40) none (.ext (.tmp 28) 0)
 [], .mk (some 41) none (.ext (.tmp 28) 1) [], .mk (some 3) none (.alloc 179 [.val (.int .i64 0), .val (.string (ByteArray.mk #[])), .val (.int .i64 0), .val (.int .i64 0), .val (.int .i64 0)]) [], .mk none none (.store 5 (.tmp 3) (.tmp 40))
 [], .mk (some 4) none (.mov (.tmp 41)) []]) (.seq (.row [.mk (some 42) none (.load none (.tmp 1)) [], .mk (some 43) none (.nilc (.tmp 42)) [], .mk (some 44) none (.fieldA 2 (.tmp 43)) [], .mk (some 45) none (.load none (.tmp 44)) [], .mk
 (some 46) none (.load none (.tmp 1)) [], .mk (some 47) none (.nilc (.tmp 46)) [], .mk (some 48) none (.fieldA 1 (.tmp 47)) [], .mk (some 49) none (.load none (.tmp 48)) [], .mk (some 50) none (.fieldA 3 (.tmp 3)) [], .mk none none (.store 1
 (.tmp 50) (.tmp 45)) [(46, none, .load none (.tmp 1)), (49, none, .load none (.tmp 48))], .mk (some 51) none (.fieldA 4 (.tmp 3)) [], .mk none none (.store 1 (.tmp 51) (.tmp 49)) []]) (.seq (.seq (.row [.mk (some 52) none (.load none (.tmp
 1)) [], .mk (some 53) none (.nilc (.tmp 52)) [], .mk (some 54) none (.fieldA 3 (.tmp 53)) [], .mk (some 55) none (.load none (.tmp 54)) [], .mk (some 56) none (.bin .neq 25 .other (.tmp 55) (.const (.int .i64 0))) [], .mk (some 57) none
 (.mov (.tmp 56)) [], .mk (some 58) (some (57, false)) (.mov (.tmp 0)) [], .mk (some 59) (some (57, false)) (.load (some 5) (.tmp 3)) [], .mk (some 60) (some (57, false)) (.call (.tmp 58) [.tmp 59]) [], .mk (some 61) (some (57, false)) (.un
 .not (.tmp 60)) [], .mk (some 62) none (.pick (.tmp 57) (.const (.bool true)) (.tmp 61)) []]) (.cond (.tmp 62) .ret .skip)) (.row [.mk (some 63) none (.load none (.tmp 1)) [], .mk (some 64) none (.nilc (.tmp 63)) [], .mk (some 65) none
 (.fieldA 1 (.tmp 64)) [], .mk (some 66) none (.load none (.tmp 65)) [], .mk (some 67) none (.mov (.tmp 4)) [], .mk (some 68) none (.bin .add 3 .other (.tmp 66) (.tmp 67)) [], .mk (some 69) none (.nilc (.tmp 63)) [], .mk (some 70) none
 (.fieldA 1 (.tmp 69)) [], .mk none none (.store 1 (.tmp 70) (.tmp 68)) []])))))))))
theorem F216_ok : compFn Tryz.prog (byId h216) 216 = some F216 := by kernel_rfl
def h223 : List (Nat × List (Nat × List Nat) × List Nat) := []
def F223 : AFn :=
 AFn.mk 18 [.tmp 6] (.seq (.row [.mk (some 6) none (.mov (.const (.slice none 0 0))) []]) (.seq (.seq (.row [.mk (some 8) none (.mov (.tmp 0)) [], .mk (some 9) none (.mov (.tmp 1)) [], .mk (some 10) none (.call (.func 201) [.tmp 8, .tmp 9])
 []]) (.cond (.tmp 10) (.seq (.row [.mk (some 6) none (.mov (.const (.slice none 0 0))) []]) .ret) .skip)) (.seq (.row [.mk (some 11) none (.mov (.tmp 0)) [], .mk (some 12) none (.mov (.tmp 2)) [], .mk (some 13) none (.call (.func 225) [.tmp
 11, .tmp 12]) [], .mk (some 7) none (.mov (.tmp 13)) []]) (.seq (.row [.mk (some 14) none (.mov (.tmp 0)) [], .mk (some 15) none (.mov (.tmp 1)) [], .mk (some 16) none (.call (.func 175) [.tmp 14, .tmp 15]) []]) (.seq (.row [.mk (some 17)
 none (.mov (.tmp 7)) [], .mk (some 6) none (.mov (.tmp 17)) []]) .ret)))))
theorem F223_ok : compFn Tryz.prog (byId h223) 223 = some F223 := by kernel_rfl
def h227 : List (Nat × List (Nat × List Nat) × List Nat) := []
def F227 : AFn :=
 AFn.mk 32 [.tmp 6] (.seq (.row [.mk (some 6) none (.mov (.const (.slice none 0 0))) []]) (.seq (.row [.mk (some 7) none (.mov (.const (.slice none 0 0))) []]) (.seq (.seq (.row [.mk (some 8) none (.mov (.tmp 2)) [], .mk (some 9) none (.un
 .not (.tmp 8)) [], .mk (some 10) none (.mov (.tmp 9)) [], .mk (some 11) (some (10, true)) (.mov (.tmp 0)) [], .mk (some 12) (some (10, true)) (.mov (.tmp 1)) [], .mk (some 13) (some (10, true)) (.call (.func 209) [.tmp 11, .tmp 12]) [], .mk
 (some 14) none (.pick (.tmp 10) (.tmp 13) (.const (.bool false))) []]) (.cond (.tmp 14) (.seq (.row [.mk (some 6) none (.mov (.const (.slice none 0 0))) []]) .ret) .skip)) (.seq (.block 0 (.loop (.seq (.seq (.row [.mk (some 15) none (.mov
 (.tmp 0)) [], .mk (some 16) none (.nilc (.tmp 15)) [], .mk (some 17) none (.fieldA 2 (.tmp 16)) [], .mk (some 18) none (.load none (.tmp 17)) [], .mk (some 19) none (.un .not (.tmp 18)) []]) (.cond (.tmp 19) .skip (.exit 0))) (.block 1
 (.seq (.row [.mk (some 20) none (.mov (.tmp 7)) [], .mk (some 21) none (.mov (.tmp 0)) [], .mk (some 22) none (.call (.func 153) [.tmp 21, .const (.int .i64 0)]) [], .mk (some 23) none (.lits 5 [.val (.int .i64 0), .val (.string
 (ByteArray.mk #[])), .val (.int .i64 0), .sl [] [] .full, .val (.int .i64 0)] 1 [(0, .tmp 22)]) [], .mk (some 24) none (.app 170 64 5 (.tmp 20) (.tmp 23)) [], .mk (some 7) none (.mov (.tmp 24)) []]) (.seq (.row [.mk (some 25) none (.mov
 (.tmp 0)) [], .mk (some 26) none (.call (.func 209) [.tmp 25, .const (.string (ByteArray.mk #[44]))]) [], .mk (some 27) none (.un .not (.tmp 26)) []]) (.cond (.tmp 27) (.exit 0) .skip))))))) (.seq (.row [.mk (some 28) none (.mov (.tmp 0))
 [], .mk (some 29) none (.mov (.tmp 1)) [], .mk (some 30) none (.call (.func 211) [.tmp 28, .tmp 29]) []]) (.seq (.row [.mk (some 31) none (.mov (.tmp 7)) [], .mk (some 6) none (.mov (.tmp 31)) []]) .ret))))))
theorem F227_ok : compFn Tryz.prog (byId h227) 227 = some F227 := by kernel_rfl
def h234 : List (Nat × List (Nat × List Nat) × List Nat) := []
def F234 : AFn :=
 AFn.mk 59 [.tmp 4, .tmp 5] (.seq (.row [.mk (some 4) none (.mov (.const (.string (ByteArray.mk #[])))) [], .mk (some 5) none (.mov (.const (.int .i64 0))) []]) (.seq (.row [.mk (some 6) none (.alloc 328 [.val (.pointer none), .sl [] []
 .full]) []]) (.seq (.seq (.row [.mk (some 7) none (.mov (.const (.int .i64 0))) []]) (.block 0 (.loop (.seq (.seq (.row [.mk (some 9) none (.mov (.tmp 7)) [], .mk (some 10) none (.mov (.tmp 1)) [], .mk (some 11) none (.len true (.tmp 10))
 [], .mk (some 12) none (.bin .lss 3 .other (.tmp 9) (.tmp 11)) []]) (.cond (.tmp 12) .skip (.exit 0))) (.seq (.block 1 (.seq (.row [.mk (some 15) none (.mov (.tmp 1)) [], .mk (some 16) none (.mov (.tmp 7)) [], .mk (some 17) none (.idxStr
 (.tmp 15) (.tmp 16)) [], .mk (some 8) none (.mov (.tmp 17)) []]) (.seq (.seq (.row [.mk (some 18) none (.mov (.tmp 8)) [], .mk (some 19) none (.bin .eql 5 .other (.tmp 18) (.const (.int .u8 34))) []]) (.cond (.tmp 19) (.seq (.row [.mk (some
 20) none (.call (.func 241) [.tmp 6]) [], .mk (some 21) none (.mov (.tmp 7)) [], .mk (some 22) none (.bin .add 3 .other (.tmp 21) (.const (.int .i64 2))) [], .mk (some 4) none (.mov (.tmp 20)) [], .mk (some 5) none (.mov (.tmp 22)) []])
 .ret) .skip)) (.seq (.seq (.row [.mk (some 23) none (.mov (.tmp 8)) [], .mk (some 24) none (.bin .lss 5 .other (.tmp 23) (.const (.int .u8 32))) [], .mk (some 25) none (.mov (.tmp 24)) [], .mk (some 26) (some (25, false)) (.mov (.tmp 8))
 [], .mk (some 27) (some (25, false)) (.bin .gtr 5 .other (.tmp 26) (.const (.int .u8 126))) [], .mk (some 28) none (.pick (.tmp 25) (.const (.bool true)) (.tmp 27)) []]) (.cond (.tmp 28) (.exit 0) .skip)) (.seq (.seq (.row [.mk (some 29)
 none (.mov (.tmp 8)) [], .mk (some 30) none (.bin .eql 5 .other (.tmp 29) (.const (.int .u8 92))) []]) (.cond (.tmp 30) (.seq (.seq (.row [.mk (some 31) none (.mov (.tmp 7)) [], .mk (some 32) none (.bin .add 3 .other (.tmp 31) (.const (.int
 .i64 1))) [], .mk (some 7) none (.mov (.tmp 32)) []]) (.seq (.row [.mk (some 33) none (.mov (.tmp 7)) [], .mk (some 34) none (.mov (.tmp 1)) [], .mk (some 35) none (.len true (.tmp 34)) [], .mk (some 36) none (.bin .eql 3 .other (.tmp 33)
 (.tmp 35)) [], .mk (some 37) none (.mov (.tmp 36)) [], .mk (some 38) (some (37, false)) (.mov (.tmp 1)) [], .mk (some 39) (some (37, false)) (.mov (.tmp 7)) [], .mk (some 40) (some (37, false)) (.idxStr (.tmp 38) (.tmp 39)) [], .mk (some
 41) (some (37, false)) (.call (.func 242) [.const (.string (ByteArray.mk #[92, 34, 110])), .tmp 40]) [], .mk (some 42) (some (37, false)) (.bin .lss 3 .other (.tmp 41) (.const (.int .i64 0))) [], .mk (some 43) none (.pick (.tmp 37) (.const
 (.bool true)) (.tmp 42)) []]) (.cond (.tmp 43) (.exit 0) .skip))) (.seq (.row [.mk (some 44) none (.mov (.tmp 1)) [], .mk (some 45) none (.mov (.tmp 7)) [], .mk (some 46) none (.idxStr (.tmp 44) (.tmp 45)) [], .mk (some 8) none (.mov (.tmp
 46)) []]) (.seq (.row [.mk (some 47) none (.mov (.tmp 8)) [], .mk (some 48) none (.bin .eql 5 .other (.tmp 47) (.const (.int .u8 110))) []]) (.cond (.tmp 48) (.row [.mk (some 8) none (.mov (.const (.int .u8 10))) []]) .skip)))) .skip))
 (.seq (.seq (.row [.mk (some 49) none (.call (.func 243) [.tmp 6]) [], .mk (some 50) none (.bin .eql 3 .other (.tmp 49) (.const (.int .i64 255))) []]) (.cond (.tmp 50) (.seq (.row [.mk (some 51) none (.mov (.tmp 0)) [], .mk (some 52) none
 (.nilc (.tmp 51)) [], .mk (some 53) none (.fieldA 3 (.tmp 52)) [], .mk none none (.store 1 (.tmp 53) (.const (.int .i64 5))) []]) (.seq (.row [.mk (some 4) none (.mov (.const (.string (ByteArray.mk #[])))) [], .mk (some 5) none (.mov
 (.const (.int .i64 0))) []]) .ret)) .skip)) (.row [.mk (some 54) none (.mov (.tmp 8)) [], .mk (some 55) none (.call (.func 244) [.tmp 6, .tmp 54]) []]))))))) (.row [.mk (some 13) none (.mov (.tmp 7)) [], .mk (some 14) none (.bin .add 3
 .other (.tmp 13) (.const (.int .i64 1))) [], .mk (some 7) none (.mov (.tmp 14)) []])))))) (.seq (.row [.mk (some 56) none (.mov (.tmp 0)) [], .mk (some 57) none (.nilc (.tmp 56)) [], .mk (some 58) none (.fieldA 3 (.tmp 57)) [], .mk none
 none (.store 1 (.tmp 58) (.const (.int .i64 6))) []]) (.seq (.row [.mk (some 4) none (.mov (.const (.string (ByteArray.mk #[])))) [], .mk (some 5) none (.mov (.const (.int .i64 0))) []]) .ret)))))
theorem F234_ok : compFn Tryz.prog (byId h234) 234 = some F234 := by kernel_rfl
end Go.Av.Fn
