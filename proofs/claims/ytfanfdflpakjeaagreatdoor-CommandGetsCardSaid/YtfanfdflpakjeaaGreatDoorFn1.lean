/- The functions of the program made ready for going through, part 1. No condition. -/
import Derived.KernelRfl
import Derived.Test.YtfanfdflpakjeaaGreatDoorProg
import Derived.Test.YtfanfdflpakjeaaGreatDoorTAvG
namespace Go.Av.Fn
open Go.Proofs
set_option maxRecDepth 100000
theorem mixed : Tryz.prog.follows .mixedOrders = true := by kernel_rfl
def h15 : List (Nat × List (Nat × List Nat) × List Nat) := []
def F15 : AFn :=
 AFn.mk 49 [.cell 2 (some 3), .tmp 3] (.seq (.row [.mk (some 2) none (.alloc 24 [.val (.int .i64 0), .val (.int .i64 0), .val (.string (ByteArray.mk #[]))]) [], .mk (some 3) none (.mov (.const (.int .i64 0))) []]) (.seq (.row [.mk (some 14)
 none (.mov (.tmp 0)) [], .mk (some 15) none (.call (.func 55) [.tmp 14, .const (.string (ByteArray.mk #[32]))]) [], .mk (some 13) none (.mov (.tmp 15)) [], .mk (some 16) none (.ext (.tmp 13) 0) [], .mk (some 17) none (.ext (.tmp 13) 1) [],
 .mk (some 18) none (.ext (.tmp 13) 2) [], .mk (some 4) none (.mov (.tmp 16)) [], .mk (some 5) none (.mov (.tmp 17)) [], .mk (some 6) none (.mov (.tmp 18)) []]) (.seq (.seq (.row [.mk (some 7) none (.mov (.const (.int .i64 1))) []]) (.block
 0 (.loop (.seq (.seq (.row [.mk (some 19) none (.mov (.tmp 7)) [], .mk (some 20) none (.bin .leq 22 .other (.tmp 19) (.const (.int .i64 17))) []]) (.cond (.tmp 20) .skip (.exit 0))) (.seq (.block 1 (.seq (.row [.mk (some 23) none (.mov
 (.tmp 7)) [], .mk (some 24) none (.call (.func 56) [.tmp 23]) [], .mk (some 8) none (.alloc 100 [.val (.string (ByteArray.mk #[])), .val (.int .i64 0), .val (.bool false), .val (.bool false)]) [], .mk none none (.store 4 (.tmp 8) (.tmp 24))
 []]) (.seq (.seq (.row [.mk (some 25) none (.fieldA 0 (.tmp 8)) [], .mk (some 26) none (.load none (.tmp 25)) [], .mk (some 27) none (.mov (.tmp 4)) [], .mk (some 28) none (.bin .neq 9 .other (.tmp 26) (.tmp 27)) []]) (.cond (.tmp 28)
 (.exit 1) .skip)) (.seq (.row [.mk (some 30) none (.load (some 4) (.tmp 8)) [], .mk (some 31) none (.mov (.tmp 5)) [], .mk (some 32) none (.mov (.tmp 6)) [], .mk (some 33) none (.un .not (.tmp 32)) [], .mk (some 34) none (.call (.func 57)
 [.tmp 30, .tmp 31, .tmp 33]) [], .mk (some 29) none (.mov (.tmp 34)) [], .mk (some 35) none (.ext (.tmp 29) 0) [], .mk (some 36) none (.ext (.tmp 29) 1) [], .mk (some 37) none (.ext (.tmp 29) 2) [], .mk (some 9) none (.mov (.tmp 35)) [],
 .mk (some 10) none (.mov (.tmp 36)) [], .mk (some 11) none (.mov (.tmp 37)) []]) (.seq (.row [.mk (some 38) none (.mov (.tmp 7)) [], .mk (some 39) none (.mov (.tmp 9)) [], .mk (some 40) none (.mov (.tmp 10)) [], .mk (some 41) none (.build
 [.val (.int .i64 0), .val (.int .i64 0), .val (.string (ByteArray.mk #[]))] [(0, 1, .tmp 38), (1, 1, .tmp 39), (2, 1, .tmp 40)]) [], .mk (some 12) none (.alloc 24 [.val (.int .i64 0), .val (.int .i64 0), .val (.string (ByteArray.mk #[]))])
 [], .mk none none (.store 3 (.tmp 12) (.tmp 41)) []]) (.seq (.row [.mk (some 42) none (.mov (.tmp 11)) [], .mk (some 43) none (.mov (.tmp 42)) [], .mk (some 44) (some (43, true)) (.load (some 3) (.tmp 12)) [], .mk (some 45) (some (43,
 true)) (.call (.func 58) [.tmp 44]) [], .mk (some 46) none (.pick (.tmp 43) (.tmp 45) (.const (.bool false))) []]) (.cond (.tmp 46) (.seq (.row [.mk (some 47) none (.load (some 3) (.tmp 12)) [], .mk none none (.store 3 (.tmp 2) (.tmp 47))
 [], .mk (some 3) none (.mov (.const (.int .i64 0))) []]) .ret) .skip))))))) (.row [.mk (some 21) none (.mov (.tmp 7)) [], .mk (some 22) none (.bin .add 22 .other (.tmp 21) (.const (.int .i64 1))) [], .mk (some 7) none (.mov (.tmp 22))
 []])))))) (.seq (.row [.mk (some 48) none (.build [.val (.int .i64 0), .val (.int .i64 0), .val (.string (ByteArray.mk #[]))] []) [], .mk none none (.store 3 (.tmp 2) (.tmp 48)) [], .mk (some 3) none (.mov (.const (.int .i64 6))) []])
 .ret))))
theorem F15_ok : compFn Tryz.prog (byId h15) 15 = some F15 := by kernel_rfl
def h23 : List (Nat × List (Nat × List Nat) × List Nat) := []
def F23 : AFn :=
 AFn.mk 18 [.cell 2 (some 3)] (.seq (.row [.mk (some 2) none (.alloc 24 [.val (.int .i64 0), .val (.int .i64 0), .val (.string (ByteArray.mk #[]))]) []]) (.seq (.row [.mk (some 4) none (.mov (.tmp 0)) [], .mk (some 5) none (.call (.func 29)
 [.tmp 4]) [], .mk (some 6) none (.build [.val (.int .i64 0), .val (.int .i64 0), .val (.string (ByteArray.mk #[]))] [(0, 1, .tmp 5)]) [], .mk (some 3) none (.alloc 24 [.val (.int .i64 0), .val (.int .i64 0), .val (.string (ByteArray.mk
 #[]))]) [], .mk none none (.store 3 (.tmp 3) (.tmp 6)) []]) (.seq (.row [.mk (some 7) none (.mov (.tmp 0)) [], .mk (some 8) none (.call (.func 29) [.tmp 7]) [], .mk (some 9) none (.fieldA 1 (.tmp 3)) [], .mk none none (.store 1 (.tmp 9)
 (.tmp 8)) []]) (.seq (.row [.mk (some 10) none (.mov (.tmp 0)) [], .mk (some 11) none (.call (.func 65) [.tmp 10, .const (.int .i64 255)]) [], .mk (some 12) none (.fieldA 2 (.tmp 3)) [], .mk none none (.store 1 (.tmp 12) (.tmp 11)) []])
 (.seq (.seq (.row [.mk (some 13) none (.mov (.tmp 0)) [], .mk (some 14) none (.call (.func 28) [.tmp 13]) [], .mk (some 15) none (.bin .neq 25 .other (.tmp 14) (.const (.int .i64 0))) []]) (.cond (.tmp 15) (.seq (.row [.mk (some 16) none
 (.build [.val (.int .i64 0), .val (.int .i64 0), .val (.string (ByteArray.mk #[]))] []) [], .mk none none (.store 3 (.tmp 2) (.tmp 16)) []]) .ret) .skip)) (.seq (.row [.mk (some 17) none (.load (some 3) (.tmp 3)) [], .mk none none (.store 3
 (.tmp 2) (.tmp 17)) []]) .ret))))))
theorem F23_ok : compFn Tryz.prog (byId h23) 23 = some F23 := by kernel_rfl
def h27 : List (Nat × List (Nat × List Nat) × List Nat) := []
def F27 : AFn :=
 AFn.mk 9 [.tmp 2] (.seq (.row [.mk (some 2) none (.mov (.const (.int .i64 0))) []]) (.seq (.seq (.row [.mk (some 3) none (.mov (.tmp 0)) [], .mk (some 4) none (.bin .eql 41 .pointer (.tmp 3) (.const (.pointer none))) []]) (.cond (.tmp 4)
 (.seq (.row [.mk (some 2) none (.mov (.const (.int .i64 0))) []]) .ret) .skip)) (.seq (.row [.mk (some 5) none (.mov (.tmp 0)) [], .mk (some 6) none (.nilc (.tmp 5)) [], .mk (some 7) none (.fieldA 2 (.tmp 6)) [], .mk (some 8) none (.load
 none (.tmp 7)) [], .mk (some 2) none (.mov (.tmp 8)) []]) .ret)))
theorem F27_ok : compFn Tryz.prog (byId h27) 27 = some F27 := by kernel_rfl
def h55 : List (Nat × List (Nat × List Nat) × List Nat) := []
def F55 : AFn :=
 AFn.mk 13 [.tmp 4, .tmp 5, .tmp 6] (.seq (.row [.mk (some 4) none (.mov (.const (.string (ByteArray.mk #[])))) [], .mk (some 5) none (.mov (.const (.string (ByteArray.mk #[])))) [], .mk (some 6) none (.mov (.const (.bool false))) []]) (.seq
 (.row [.mk (some 7) none (.mov (.tmp 0)) [], .mk (some 8) none (.mov (.tmp 1)) [], .mk (some 9) none (.call (.func 99) [.tmp 7, .tmp 8]) [], .mk (some 10) none (.ext (.tmp 9) 0) [], .mk (some 11) none (.ext (.tmp 9) 1) [], .mk (some 12)
 none (.ext (.tmp 9) 2) [], .mk (some 4) none (.mov (.tmp 10)) [], .mk (some 5) none (.mov (.tmp 11)) [], .mk (some 6) none (.mov (.tmp 12)) []]) .ret))
theorem F55_ok : compFn Tryz.prog (byId h55) 55 = some F55 := by kernel_rfl
def h67 : List (Nat × List (Nat × List Nat) × List Nat) := []
def F67 : AFn :=
 AFn.mk 45 [.cell 4 (some 3), .tmp 5] (.seq (.row [.mk (some 2) none (.box 45 (.tmp 0)) [], .mk (some 4) none (.alloc 45 [.val (.string (ByteArray.mk #[])), .val (.int .i64 0), .val (.int .i64 0)]) [], .mk (some 5) none (.mov (.const
 (.string (ByteArray.mk #[])))) []]) (.seq (.row [.mk (some 10) none (.load (some 3) (.tmp 2)) [], .mk (some 11) none (.mov (.tmp 1)) [], .mk (some 12) none (.call (.func 113) [.tmp 10, .tmp 11]) [], .mk (some 9) none (.mov (.tmp 12)) [],
 .mk (some 13) none (.ext (.tmp 9) 0) [], .mk (some 14) none (.ext (.tmp 9) 1) [], .mk (some 6) none (.alloc 45 [.val (.string (ByteArray.mk #[])), .val (.int .i64 0), .val (.int .i64 0)]) [], .mk none none (.store 3 (.tmp 6) (.tmp 13)) [],
 .mk (some 7) none (.mov (.tmp 14)) []]) (.seq (.seq (.row [.mk (some 15) none (.fieldA 2 (.tmp 6)) [], .mk (some 16) none (.load none (.tmp 15)) [], .mk (some 17) none (.bin .neq 3 .other (.tmp 16) (.const (.int .i64 0))) []]) (.cond (.tmp
 17) (.seq (.row [.mk (some 18) none (.load (some 3) (.tmp 6)) [], .mk none none (.store 3 (.tmp 4) (.tmp 18)) [], .mk (some 5) none (.mov (.const (.string (ByteArray.mk #[])))) []]) .ret) .skip)) (.seq (.seq (.row [.mk (some 19) none (.mov
 (.tmp 7)) [], .mk (some 20) none (.fieldA 0 (.tmp 2)) [], .mk (some 21) none (.load none (.tmp 20)) [], .mk (some 22) none (.len true (.tmp 21)) [], .mk (some 23) none (.fieldA 1 (.tmp 6)) [], .mk (some 24) none (.load none (.tmp 23)) [],
 .mk (some 25) none (.bin .sub 3 .other (.tmp 22) (.tmp 24)) [], .mk (some 26) none (.bin .gtr 3 .other (.tmp 19) (.tmp 25)) []]) (.cond (.tmp 26) (.seq (.row [.mk (some 27) none (.load (some 3) (.tmp 2)) [], .mk (some 28) none (.call (.func
 112) [.tmp 27, .const (.int .i64 3)]) [], .mk none none (.store 3 (.tmp 4) (.tmp 28)) [], .mk (some 5) none (.mov (.const (.string (ByteArray.mk #[])))) []]) .ret) .skip)) (.seq (.row [.mk (some 29) none (.fieldA 0 (.tmp 2)) [], .mk (some
 30) none (.load none (.tmp 29)) [], .mk (some 31) none (.fieldA 1 (.tmp 6)) [], .mk (some 32) none (.load none (.tmp 31)) [], .mk (some 33) none (.fieldA 1 (.tmp 6)) [], .mk (some 34) none (.load none (.tmp 33)) [], .mk (some 35) none (.mov
 (.tmp 7)) [], .mk (some 36) none (.bin .add 3 .other (.tmp 34) (.tmp 35)) [], .mk (some 37) none (.sliceS (.tmp 30) (some (.tmp 32)) (some (.tmp 36))) [], .mk (some 8) none (.mov (.tmp 37)) []]) (.seq (.row [.mk (some 38) none (.fieldA 1
 (.tmp 6)) [], .mk (some 39) none (.load none (.tmp 38)) [], .mk (some 40) none (.mov (.tmp 7)) [], .mk (some 41) none (.bin .add 3 .other (.tmp 39) (.tmp 40)) [], .mk (some 42) none (.fieldA 1 (.tmp 6)) [], .mk none none (.store 1 (.tmp 42)
 (.tmp 41)) []]) (.seq (.row [.mk (some 43) none (.load (some 3) (.tmp 6)) [], .mk (some 44) none (.mov (.tmp 8)) [], .mk none none (.store 3 (.tmp 4) (.tmp 43)) [], .mk (some 5) none (.mov (.tmp 44)) []]) .ret)))))))
theorem F67_ok : compFn Tryz.prog (byId h67) 67 = some F67 := by kernel_rfl
def h71 : List (Nat × List (Nat × List Nat) × List Nat) := []
def F71 : AFn :=
 AFn.mk 8 [.tmp 2] (.seq (.row [.mk (some 2) none (.mov (.const (.string (ByteArray.mk #[])))) []]) (.seq (.row [.mk (some 3) none (.mov (.tmp 0)) [], .mk (some 4) none (.len true (.tmp 3)) [], .mk (some 5) none (.call (.func 70) [.tmp 4])
 [], .mk (some 6) none (.mov (.tmp 0)) [], .mk (some 7) none (.bin .add 9 .other (.tmp 5) (.tmp 6)) [], .mk (some 2) none (.mov (.tmp 7)) []]) .ret))
theorem F71_ok : compFn Tryz.prog (byId h71) 71 = some F71 := by kernel_rfl
def h99 : List (Nat × List (Nat × List Nat) × List Nat) := [(3, [(0, []), (1, []), (2, []), (3, []), (4, []), (5, []), (6, []), (7, []), (8, []), (9, []), (10, []), (11, [])], [0, 0, 3, 0, 0, 0, 32, 112, 248, 7, 1023, 2047])]
def F99 : AFn :=
 AFn.mk 23 [.tmp 4, .tmp 5, .tmp 6] (.seq (.row [.mk (some 4) none (.mov (.const (.string (ByteArray.mk #[])))) [], .mk (some 5) none (.mov (.const (.string (ByteArray.mk #[])))) [], .mk (some 6) none (.mov (.const (.bool false))) []]) (.seq
 (.seq (.row [.mk (some 8) none (.mov (.tmp 0)) [], .mk (some 9) none (.mov (.tmp 1)) [], .mk (some 10) none (.call (.func 124) [.tmp 8, .tmp 9]) [], .mk (some 7) none (.mov (.tmp 10)) []]) (.seq (.row [.mk (some 11) none (.mov (.tmp 7)) [],
 .mk (some 12) none (.bin .geq 3 .other (.tmp 11) (.const (.int .i64 0))) []]) (.cond (.tmp 12) (.seq (.row [.mk (some 13) none (.mov (.tmp 0)) [], .mk (some 14) none (.mov (.tmp 7)) [], .mk (some 15) none (.sliceS (.tmp 13) none (some (.tmp
 14))) [], .mk (some 16) none (.mov (.tmp 0)) [], .mk (some 17) none (.mov (.tmp 7)) [], .mk (some 18) none (.mov (.tmp 1)) [], .mk (some 19) none (.len true (.tmp 18)) [], .mk (some 20) none (.bin .add 3 .other (.tmp 17) (.tmp 19)) [], .mk
 (some 21) none (.sliceS (.tmp 16) (some (.tmp 20)) none) [], .mk (some 4) none (.mov (.tmp 15)) [], .mk (some 5) none (.mov (.tmp 21)) [], .mk (some 6) none (.mov (.const (.bool true))) []]) .ret) .skip))) (.seq (.row [.mk (some 22) none
 (.mov (.tmp 0)) [], .mk (some 4) none (.mov (.tmp 22)) [], .mk (some 5) none (.mov (.const (.string (ByteArray.mk #[])))) [], .mk (some 6) none (.mov (.const (.bool false))) []]) .ret)))
theorem F99_ok : compFn Tryz.prog (byId h99) 99 = some F99 := by kernel_rfl
def h103 : List (Nat × List (Nat × List Nat) × List Nat) := []
def F103 : AFn :=
 AFn.mk 19 [.tmp 2] (.seq (.row [.mk (some 2) none (.mov (.const (.bool false))) []]) (.seq (.row [.mk (some 7) none (.mov (.tmp 0)) [], .mk (some 8) none (.call (.func 128) [.tmp 7]) [], .mk (some 6) none (.mov (.tmp 8)) [], .mk (some 9)
 none (.ext (.tmp 6) 0) [], .mk (some 10) none (.ext (.tmp 6) 1) [], .mk (some 11) none (.ext (.tmp 6) 2) [], .mk (some 3) none (.alloc 170 [.val (.int .i64 0), .val (.string (ByteArray.mk #[])), .val (.int .i64 0), .sl [] [] .full, .val
 (.int .i64 0)]) [], .mk none none (.store 5 (.tmp 3) (.tmp 9)) [], .mk (some 4) none (.mov (.tmp 10)) [], .mk (some 5) none (.mov (.tmp 11)) []]) (.seq (.row [.mk (some 12) none (.mov (.tmp 5)) [], .mk (some 13) none (.bin .eql 25 .other
 (.tmp 12) (.const (.int .i64 0))) [], .mk (some 14) none (.mov (.tmp 13)) [], .mk (some 15) (some (14, true)) (.mov (.tmp 0)) [], .mk (some 16) (some (14, true)) (.len true (.tmp 15)) [], .mk (some 17) (some (14, true)) (.bin .leq 3 .other
 (.tmp 16) (.const (.int .i64 255))) [], .mk (some 18) none (.pick (.tmp 14) (.tmp 17) (.const (.bool false))) [], .mk (some 2) none (.mov (.tmp 18)) []]) .ret)))
theorem F103_ok : compFn Tryz.prog (byId h103) 103 = some F103 := by kernel_rfl
def h107 : List (Nat × List (Nat × List Nat) × List Nat) := [(4, [(0, []), (1, []), (2, []), (3, []), (4, []), (5, []), (6, []), (7, []), (8, []), (9, []), (10, []), (11, []), (12, []), (13, []), (14, []), (15, []), (16, []), (17, [])], [0, 0, 2, 6, 14, 0, 32, 96, 224, 510, 1023, 2047, 4095, 4095,
 4095, 8191, 49151, 131071])]
def F107 : AFn :=
 AFn.mk 44 [.tmp 4] (.seq (.row [.mk (some 4) none (.mov (.const (.string (ByteArray.mk #[])))) []]) (.seq (.row [.mk (some 5) none (.mov (.const (.string (ByteArray.mk #[])))) []]) (.seq (.seq (.row [.mk (some 9) none (.mov (.tmp 0)) [],
 .mk (some 10) none (.call (.func 28) [.tmp 9]) [], .mk (some 11) none (.bin .neq 25 .other (.tmp 10) (.const (.int .i64 0))) []]) (.cond (.tmp 11) (.seq (.row [.mk (some 12) none (.mov (.tmp 5)) [], .mk (some 4) none (.mov (.tmp 12)) []])
 .ret) .skip)) (.seq (.row [.mk (some 14) none (.mov (.tmp 1)) [], .mk (some 15) none (.mov (.tmp 0)) [], .mk (some 16) none (.nilc (.tmp 15)) [], .mk (some 17) none (.fieldA 1 (.tmp 16)) [], .mk (some 18) none (.load none (.tmp 17)) [], .mk
 (some 19) none (.mov (.tmp 0)) [], .mk (some 20) none (.nilc (.tmp 19)) [], .mk (some 21) none (.fieldA 2 (.tmp 20)) [], .mk (some 22) none (.load none (.tmp 21)) [], .mk (some 23) none (.sliceS (.tmp 18) (some (.tmp 22)) none) [], .mk
 (some 24) none (.call (.tmp 14) [.tmp 23]) [], .mk (some 13) none (.mov (.tmp 24)) [], .mk (some 25) none (.ext (.tmp 13) 0) [], .mk (some 26) none (.ext (.tmp 13) 1) [], .mk (some 27) none (.ext (.tmp 13) 2) [], .mk (some 6) none (.mov
 (.tmp 25)) [], .mk (some 7) none (.mov (.tmp 26)) [], .mk (some 8) none (.mov (.tmp 27)) []]) (.seq (.seq (.row [.mk (some 28) none (.mov (.tmp 8)) [], .mk (some 29) none (.bin .neq 25 .other (.tmp 28) (.const (.int .i64 0))) []]) (.cond
 (.tmp 29) (.seq (.row [.mk (some 30) none (.mov (.tmp 0)) [], .mk (some 31) none (.mov (.tmp 8)) [], .mk (some 32) none (.nilc (.tmp 30)) [], .mk (some 33) none (.fieldA 3 (.tmp 32)) [], .mk none none (.store 1 (.tmp 33) (.tmp 31)) []])
 (.seq (.row [.mk (some 34) none (.mov (.tmp 5)) [], .mk (some 4) none (.mov (.tmp 34)) []]) .ret)) .skip)) (.seq (.row [.mk (some 35) none (.mov (.tmp 0)) [], .mk (some 36) none (.nilc (.tmp 35)) [], .mk (some 37) none (.fieldA 2 (.tmp 36))
 [], .mk (some 38) none (.load none (.tmp 37)) [], .mk (some 39) none (.mov (.tmp 7)) [], .mk (some 40) none (.bin .add 3 .other (.tmp 38) (.tmp 39)) [], .mk (some 41) none (.nilc (.tmp 35)) [], .mk (some 42) none (.fieldA 2 (.tmp 41)) [],
 .mk none none (.store 1 (.tmp 42) (.tmp 40)) []]) (.seq (.row [.mk (some 43) none (.mov (.tmp 6)) [], .mk (some 4) none (.mov (.tmp 43)) []]) .ret)))))))
theorem F107_ok : compFn Tryz.prog (byId h107) 107 = some F107 := by kernel_rfl
def h111 : List (Nat × List (Nat × List Nat) × List Nat) := []
def F111 : AFn :=
 AFn.mk 53 [.tmp 4, .tmp 5, .tmp 6] (.seq (.row [.mk (some 4) none (.mov (.const (.int .i64 0))) [], .mk (some 5) none (.mov (.const (.int .i64 0))) [], .mk (some 6) none (.mov (.const (.int .i64 0))) []]) (.seq (.row [.mk (some 7) none
 (.mov (.const (.int .u64 0))) []]) (.seq (.seq (.row [.mk (some 8) none (.mov (.const (.int .i64 0))) []]) (.block 0 (.loop (.seq (.seq (.row [.mk (some 10) none (.mov (.tmp 8)) [], .mk (some 11) none (.bin .lss 3 .other (.tmp 10) (.const
 (.int .i64 10))) []]) (.cond (.tmp 11) .skip (.exit 0))) (.seq (.block 1 (.seq (.seq (.row [.mk (some 14) none (.mov (.tmp 1)) [], .mk (some 15) none (.mov (.tmp 8)) [], .mk (some 16) none (.bin .add 3 .other (.tmp 14) (.tmp 15)) [], .mk
 (some 17) none (.mov (.tmp 0)) [], .mk (some 18) none (.len true (.tmp 17)) [], .mk (some 19) none (.bin .geq 3 .other (.tmp 16) (.tmp 18)) []]) (.cond (.tmp 19) (.seq (.row [.mk (some 4) none (.mov (.const (.int .i64 0))) [], .mk (some 5)
 none (.mov (.const (.int .i64 0))) [], .mk (some 6) none (.mov (.const (.int .i64 3))) []]) .ret) .skip)) (.seq (.row [.mk (some 20) none (.mov (.tmp 0)) [], .mk (some 21) none (.mov (.tmp 1)) [], .mk (some 22) none (.mov (.tmp 8)) [], .mk
 (some 23) none (.bin .add 3 .other (.tmp 21) (.tmp 22)) [], .mk (some 24) none (.idxStr (.tmp 20) (.tmp 23)) [], .mk (some 9) none (.mov (.tmp 24)) []]) (.seq (.seq (.row [.mk (some 25) none (.mov (.tmp 8)) [], .mk (some 26) none (.bin .eql
 3 .other (.tmp 25) (.const (.int .i64 9))) [], .mk (some 27) none (.mov (.tmp 26)) [], .mk (some 28) (some (27, true)) (.mov (.tmp 9)) [], .mk (some 29) (some (27, true)) (.bin .neq 5 .other (.tmp 28) (.const (.int .u8 1))) [], .mk (some
 30) none (.pick (.tmp 27) (.tmp 29) (.const (.bool false))) []]) (.cond (.tmp 30) (.seq (.row [.mk (some 4) none (.mov (.const (.int .i64 0))) [], .mk (some 5) none (.mov (.const (.int .i64 0))) [], .mk (some 6) none (.mov (.const (.int
 .i64 4))) []]) .ret) .skip)) (.seq (.row [.mk (some 31) none (.mov (.tmp 7)) [], .mk (some 32) none (.mov (.tmp 9)) [], .mk (some 33) none (.bin .rem 5 .other (.tmp 32) (.const (.int .u8 128))) [], .mk (some 34) none (.conv 5 154 (.tmp 33))
 [], .mk (some 35) none (.mov (.tmp 8)) [], .mk (some 36) none (.bin .mul 3 .other (.const (.int .i64 7)) (.tmp 35)) [], .mk (some 37) none (.bin .shl 154 .other (.tmp 34) (.tmp 36)) [], .mk (some 38) none (.bin .add 154 .other (.tmp 31)
 (.tmp 37)) [], .mk (some 7) none (.mov (.tmp 38)) []]) (.seq (.row [.mk (some 39) none (.mov (.tmp 9)) [], .mk (some 40) none (.bin .lss 5 .other (.tmp 39) (.const (.int .u8 128))) []]) (.cond (.tmp 40) (.seq (.seq (.row [.mk (some 41) none
 (.mov (.tmp 9)) [], .mk (some 42) none (.bin .eql 5 .other (.tmp 41) (.const (.int .u8 0))) [], .mk (some 43) none (.mov (.tmp 42)) [], .mk (some 44) (some (43, true)) (.mov (.tmp 8)) [], .mk (some 45) (some (43, true)) (.bin .gtr 3 .other
 (.tmp 44) (.const (.int .i64 0))) [], .mk (some 46) none (.pick (.tmp 43) (.tmp 45) (.const (.bool false))) []]) (.cond (.tmp 46) (.seq (.row [.mk (some 4) none (.mov (.const (.int .i64 0))) [], .mk (some 5) none (.mov (.const (.int .i64
 0))) [], .mk (some 6) none (.mov (.const (.int .i64 4))) []]) .ret) .skip)) (.seq (.row [.mk (some 47) none (.mov (.tmp 7)) [], .mk (some 48) none (.call (.func 132) [.tmp 47]) [], .mk (some 49) none (.mov (.tmp 1)) [], .mk (some 50) none
 (.mov (.tmp 8)) [], .mk (some 51) none (.bin .add 3 .other (.tmp 49) (.tmp 50)) [], .mk (some 52) none (.bin .add 3 .other (.tmp 51) (.const (.int .i64 1))) [], .mk (some 4) none (.mov (.tmp 48)) [], .mk (some 5) none (.mov (.tmp 52)) [],
 .mk (some 6) none (.mov (.const (.int .i64 0))) []]) .ret)) .skip))))))) (.row [.mk (some 12) none (.mov (.tmp 8)) [], .mk (some 13) none (.bin .add 3 .other (.tmp 12) (.const (.int .i64 1))) [], .mk (some 8) none (.mov (.tmp 13)) []]))))))
 (.seq (.row [.mk (some 4) none (.mov (.const (.int .i64 0))) [], .mk (some 5) none (.mov (.const (.int .i64 0))) [], .mk (some 6) none (.mov (.const (.int .i64 4))) []]) .ret))))
theorem F111_ok : compFn Tryz.prog (byId h111) 111 = some F111 := by kernel_rfl
def h115 : List (Nat × List (Nat × List Nat) × List Nat) := []
def F115 : AFn :=
 AFn.mk 14 [.tmp 2] (.seq (.row [.mk (some 2) none (.mov (.const (.int .u64 0))) []]) (.seq (.seq (.row [.mk (some 3) none (.mov (.tmp 0)) [], .mk (some 4) none (.bin .lss 3 .other (.tmp 3) (.const (.int .i64 0))) []]) (.cond (.tmp 4) (.seq
 (.row [.mk (some 5) none (.mov (.tmp 0)) [], .mk (some 6) none (.bin .add 3 .other (.tmp 5) (.const (.int .i64 1))) [], .mk (some 7) none (.un .neg (.tmp 6)) [], .mk (some 8) none (.conv 3 154 (.tmp 7)) [], .mk (some 9) none (.bin .mul 154
 .other (.tmp 8) (.const (.int .u64 2))) [], .mk (some 10) none (.bin .add 154 .other (.tmp 9) (.const (.int .u64 1))) [], .mk (some 2) none (.mov (.tmp 10)) []]) .ret) .skip)) (.seq (.row [.mk (some 11) none (.mov (.tmp 0)) [], .mk (some
 12) none (.conv 3 154 (.tmp 11)) [], .mk (some 13) none (.bin .mul 154 .other (.tmp 12) (.const (.int .u64 2))) [], .mk (some 2) none (.mov (.tmp 13)) []]) .ret)))
theorem F115_ok : compFn Tryz.prog (byId h115) 115 = some F115 := by kernel_rfl
def h128 : List (Nat × List (Nat × List Nat) × List Nat) := []
def F128 : AFn :=
 AFn.mk 24 [.cell 2 (some 5), .tmp 3, .tmp 4] (.seq (.row [.mk (some 2) none (.alloc 170 [.val (.int .i64 0), .val (.string (ByteArray.mk #[])), .val (.int .i64 0), .sl [] [] .full, .val (.int .i64 0)]) [], .mk (some 3) none (.mov (.const
 (.int .i64 0))) [], .mk (some 4) none (.mov (.const (.int .i64 0))) []]) (.seq (.row [.mk (some 9) none (.mov (.tmp 0)) [], .mk (some 10) none (.call (.func 144) [.tmp 9, .func 145]) [], .mk (some 8) none (.mov (.tmp 10)) [], .mk (some 11)
 none (.ext (.tmp 8) 0) [], .mk (some 12) none (.ext (.tmp 8) 1) [], .mk (some 13) none (.ext (.tmp 8) 2) [], .mk (some 5) none (.alloc 170 [.val (.int .i64 0), .val (.string (ByteArray.mk #[])), .val (.int .i64 0), .sl [] [] .full, .val
 (.int .i64 0)]) [], .mk none none (.store 5 (.tmp 5) (.tmp 11)) [], .mk (some 6) none (.mov (.tmp 12)) [], .mk (some 7) none (.mov (.tmp 13)) []]) (.seq (.seq (.row [.mk (some 14) none (.mov (.tmp 7)) [], .mk (some 15) none (.bin .neq 25
 .other (.tmp 14) (.const (.int .i64 0))) []]) (.cond (.tmp 15) (.seq (.row [.mk (some 16) none (.build [.val (.int .i64 0), .val (.string (ByteArray.mk #[])), .val (.int .i64 0), .sl [] [] .full, .val (.int .i64 0)] []) [], .mk (some 17)
 none (.mov (.tmp 6)) [], .mk (some 18) none (.mov (.tmp 7)) [], .mk none none (.store 5 (.tmp 2) (.tmp 16)) [], .mk (some 3) none (.mov (.tmp 17)) [], .mk (some 4) none (.mov (.tmp 18)) []]) .ret) .skip)) (.seq (.seq (.row [.mk (some 19)
 none (.load (some 5) (.tmp 5)) [], .mk (some 20) none (.call (.func 147) [.tmp 19]) [], .mk (some 21) none (.bin .gtr 3 .other (.tmp 20) (.const (.int .i64 24))) []]) (.cond (.tmp 21) (.seq (.row [.mk (some 22) none (.build [.val (.int .i64
 0), .val (.string (ByteArray.mk #[])), .val (.int .i64 0), .sl [] [] .full, .val (.int .i64 0)] []) [], .mk none none (.store 5 (.tmp 2) (.tmp 22)) [], .mk (some 3) none (.mov (.const (.int .i64 0))) [], .mk (some 4) none (.mov (.const
 (.int .i64 7))) []]) .ret) .skip)) (.seq (.row [.mk (some 23) none (.load (some 5) (.tmp 5)) [], .mk none none (.store 5 (.tmp 2) (.tmp 23)) [], .mk (some 3) none (.mov (.const (.int .i64 0))) [], .mk (some 4) none (.mov (.const (.int .i64
 0))) []]) .ret)))))
theorem F128_ok : compFn Tryz.prog (byId h128) 128 = some F128 := by kernel_rfl
def h143 : List (Nat × List (Nat × List Nat) × List Nat) := []
def F143 : AFn :=
 AFn.mk 18 [.tmp 4] (.seq (.row [.mk (some 4) none (.mov (.const (.bool false))) []]) (.seq (.row [.mk (some 5) none (.mov (.tmp 0)) [], .mk (some 6) none (.len true (.tmp 5)) [], .mk (some 7) none (.mov (.tmp 1)) [], .mk (some 8) none (.len
 true (.tmp 7)) [], .mk (some 9) none (.bin .geq 3 .other (.tmp 6) (.tmp 8)) [], .mk (some 10) none (.mov (.tmp 9)) [], .mk (some 11) (some (10, true)) (.mov (.tmp 0)) [], .mk (some 12) (some (10, true)) (.mov (.tmp 1)) [], .mk (some 13)
 (some (10, true)) (.len true (.tmp 12)) [], .mk (some 14) (some (10, true)) (.sliceS (.tmp 11) none (some (.tmp 13))) [], .mk (some 15) (some (10, true)) (.mov (.tmp 1)) [], .mk (some 16) (some (10, true)) (.bin .eql 9 .other (.tmp 14)
 (.tmp 15)) [], .mk (some 17) none (.pick (.tmp 10) (.tmp 16) (.const (.bool false))) [], .mk (some 4) none (.mov (.tmp 17)) []]) .ret))
theorem F143_ok : compFn Tryz.prog (byId h143) 143 = some F143 := by kernel_rfl
def h173 : List (Nat × List (Nat × List Nat) × List Nat) := [(3, [(0, []), (1, []), (2, []), (5, []), (6, []), (3, [1, 6]), (4, []), (7, []), (8, [])], [0, 1, 0, 4, 12, 0, 32, 127, 255]), (7, [(0, []), (1, []), (4, []), (5, []), (2, [0, 5]), (3, []), (6, []), (7, [])], [0, 0, 2, 7, 0, 16, 63, 127]),
 (10, [(0, []), (2, []), (3, []), (4, []), (5, []), (1, [2, 5]), (6, []), (7, [])], [0, 1, 0, 4, 0, 16, 63, 127])]
def F173 : AFn :=
 AFn.mk 50 [.cell 2 (some 5)] (.seq (.row [.mk (some 2) none (.alloc 170 [.val (.int .i64 0), .val (.string (ByteArray.mk #[])), .val (.int .i64 0), .sl [] [] .full, .val (.int .i64 0)]) []]) (.seq (.seq (.row [.mk (some 5) none (.mov (.tmp
 0)) [], .mk (some 6) none (.nilc (.tmp 5)) [], .mk (some 7) none (.fieldA 0 (.tmp 6)) [], .mk (some 8) none (.load none (.tmp 7)) [], .mk (some 9) none (.idxL 5 (.tmp 8) (.const (.int .i64 0))) [], .mk (some 10) none (.load (some 5) (.tmp
 9)) [], .mk (some 3) none (.alloc 179 [.val (.int .i64 0), .val (.string (ByteArray.mk #[])), .val (.int .i64 0), .val (.int .i64 0), .val (.int .i64 0)]) [], .mk none none (.store 5 (.tmp 3) (.tmp 10)) []]) (.seq (.row [.mk (some 11) none
 (.mov (.tmp 0)) [], .mk (some 12) none (.call (.func 201) [.tmp 11, .const (.string (ByteArray.mk #[45]))]) [], .mk (some 13) none (.mov (.tmp 12)) [], .mk (some 14) (some (13, false)) (.mov (.tmp 0)) [], .mk (some 15) (some (13, false))
 (.call (.func 201) [.tmp 14, .const (.string (ByteArray.mk #[33]))]) [], .mk (some 16) none (.pick (.tmp 13) (.const (.bool true)) (.tmp 15)) []]) (.cond (.tmp 16) (.seq (.row [.mk (some 17) none (.fieldA 1 (.tmp 3)) [], .mk (some 18) none
 (.load none (.tmp 17)) [], .mk (some 19) none (.mov (.tmp 0)) [], .mk (some 22) none (.fieldA 3 (.tmp 3)) [], .mk (some 23) none (.load none (.tmp 22)) [], .mk (some 20) none (.call (.func 173) [.tmp 19]) [(18, none, .load none (.tmp 17)),
 (23, none, .load none (.tmp 22))], .mk (some 21) none (.lits 5 [.val (.int .i64 0), .val (.string (ByteArray.mk #[])), .val (.int .i64 0), .sl [] [] .full, .val (.int .i64 0)] 1 [(0, .tmp 20)]) [], .mk (some 24) none (.build [.val (.int
 .i64 0), .val (.string (ByteArray.mk #[])), .val (.int .i64 0), .sl [] [] .full, .val (.int .i64 0)] [(0, 1, .const (.int .i64 6)), (1, 1, .tmp 18), (3, 1, .tmp 21), (4, 1, .tmp 23)]) [], .mk none none (.store 5 (.tmp 2) (.tmp 24)) []])
 .ret) .skip))) (.seq (.row [.mk (some 25) none (.mov (.tmp 0)) [], .mk (some 26) none (.call (.func 202) [.tmp 25]) [], .mk (some 4) none (.alloc 170 [.val (.int .i64 0), .val (.string (ByteArray.mk #[])), .val (.int .i64 0), .sl [] []
 .full, .val (.int .i64 0)]) [], .mk none none (.store 5 (.tmp 4) (.tmp 26)) []]) (.block 0 (.loop (.block 1 (.block 2 (.seq (.row [.mk (some 29) none (.mov (.tmp 0)) [], .mk (some 30) none (.call (.func 201) [.tmp 29, .const (.string
 (ByteArray.mk #[91]))]) [], .mk (some 28) none (.mov (.tmp 30)) []]) (.cond (.tmp 28) (.seq (.row [.mk (some 31) none (.load (some 5) (.tmp 4)) [], .mk (some 32) none (.mov (.tmp 0)) [], .mk (some 35) none (.fieldA 4 (.tmp 4)) [], .mk (some
 36) none (.load none (.tmp 35)) [], .mk (some 33) none (.call (.func 146) [.tmp 32, .const (.int .i64 0)]) [(31, none, .load (some 5) (.tmp 4)), (36, none, .load none (.tmp 35))], .mk (some 34) none (.lits 5 [.val (.int .i64 0), .val
 (.string (ByteArray.mk #[])), .val (.int .i64 0), .sl [] [] .full, .val (.int .i64 0)] 2 [(0, .tmp 31), (1, .tmp 33)]) [], .mk (some 37) none (.build [.val (.int .i64 0), .val (.string (ByteArray.mk #[])), .val (.int .i64 0), .sl [] []
 .full, .val (.int .i64 0)] [(0, 1, .const (.int .i64 8)), (3, 1, .tmp 34), (4, 1, .tmp 36)]) [], .mk none none (.store 5 (.tmp 4) (.tmp 37)) []]) (.row [.mk (some 38) none (.mov (.tmp 0)) [], .mk (some 39) none (.call (.func 175) [.tmp 38,
 .const (.string (ByteArray.mk #[93]))]) []])) (.seq (.row [.mk (some 41) none (.mov (.tmp 0)) [], .mk (some 42) none (.call (.func 201) [.tmp 41, .const (.string (ByteArray.mk #[46]))]) [], .mk (some 40) none (.mov (.tmp 42)) []]) (.cond
 (.tmp 40) (.row [.mk (some 43) none (.mov (.tmp 0)) [], .mk (some 45) none (.load (some 5) (.tmp 4)) [], .mk (some 46) none (.lits 5 [.val (.int .i64 0), .val (.string (ByteArray.mk #[])), .val (.int .i64 0), .sl [] [] .full, .val (.int
 .i64 0)] 1 [(0, .tmp 45)]) [], .mk (some 47) none (.fieldA 4 (.tmp 4)) [], .mk (some 48) none (.load none (.tmp 47)) [], .mk (some 44) none (.call (.func 203) [.tmp 43]) [(45, none, .load (some 5) (.tmp 4)), (48, none, .load none (.tmp
 47))], .mk (some 49) none (.build [.val (.int .i64 0), .val (.string (ByteArray.mk #[])), .val (.int .i64 0), .sl [] [] .full, .val (.int .i64 0)] [(0, 1, .const (.int .i64 9)), (1, 1, .tmp 44), (3, 1, .tmp 46), (4, 1, .tmp 48)]) [], .mk
 none none (.store 5 (.tmp 4) (.tmp 49)) []]) (.seq (.row [.mk (some 27) none (.load (some 5) (.tmp 4)) [], .mk none none (.store 5 (.tmp 2) (.tmp 27)) []]) .ret))))))))))))
theorem F173_ok : compFn Tryz.prog (byId h173) 173 = some F173 := by kernel_rfl
def h196 : List (Nat × List (Nat × List Nat) × List Nat) := []
def F196 : AFn :=
 AFn.mk 4 [.tmp 2] (.seq (.row [.mk (some 1) none (.box 243 (.tmp 0)) [], .mk (some 2) none (.mov (.const .nilFunc)) []]) (.seq (.row [.mk (some 3) none (.mkf (.func 216) [] [.tmp 1]) [], .mk (some 2) none (.mov (.tmp 3)) []]) .ret))
theorem F196_ok : compFn Tryz.prog (byId h196) 196 = some F196 := by kernel_rfl
def h217 : List (Nat × List (Nat × List Nat) × List Nat) := [(0, [(0, []), (1, []), (2, []), (3, []), (4, []), (5, []), (6, []), (7, []), (8, []), (9, [])], [0, 1, 3, 7, 0, 16, 48, 112, 255, 511]), (7, [(0, []), (1, []), (2, []), (3, []), (4, []), (5, [3]), (6, []), (7, []), (8, []), (9, [])], [0,
 1, 3, 7, 0, 16, 63, 127, 255, 511])]
def F217 : AFn :=
 AFn.mk 55 [] (.block 0 (.loop (.block 1 (.seq (.row [.mk (some 3) none (.mov (.tmp 0)) [], .mk (some 4) none (.nilc (.tmp 3)) [], .mk (some 5) none (.fieldA 0 (.tmp 4)) [], .mk (some 6) none (.load none (.tmp 5)) [], .mk (some 7) none (.mov
 (.tmp 0)) [], .mk (some 8) none (.nilc (.tmp 7)) [], .mk (some 9) none (.fieldA 1 (.tmp 8)) [], .mk (some 10) none (.load none (.tmp 9)) [], .mk (some 11) none (.sliceS (.tmp 6) (some (.tmp 10)) none) [], .mk (some 2) none (.mov (.tmp 11))
 []]) (.block 2 (.seq (.row [.mk (some 13) none (.mov (.tmp 2)) [], .mk (some 14) none (.call (.func 188) [.tmp 13, .const (.string (ByteArray.mk #[10]))]) [], .mk (some 12) none (.mov (.tmp 14)) []]) (.cond (.tmp 12) (.seq (.row [.mk (some
 15) none (.mov (.tmp 0)) [], .mk (some 16) none (.nilc (.tmp 15)) [], .mk (some 17) none (.fieldA 2 (.tmp 16)) [], .mk (some 18) none (.load none (.tmp 17)) [], .mk (some 19) none (.bin .add 3 .other (.tmp 18) (.const (.int .i64 1))) [],
 .mk (some 20) none (.nilc (.tmp 15)) [], .mk (some 21) none (.fieldA 2 (.tmp 20)) [], .mk none none (.store 1 (.tmp 21) (.tmp 19)) []]) (.row [.mk (some 22) none (.mov (.tmp 0)) [], .mk (some 23) none (.nilc (.tmp 22)) [], .mk (some 24)
 none (.fieldA 1 (.tmp 23)) [], .mk (some 25) none (.load none (.tmp 24)) [], .mk (some 26) none (.bin .add 3 .other (.tmp 25) (.const (.int .i64 1))) [], .mk (some 27) none (.nilc (.tmp 22)) [], .mk (some 28) none (.fieldA 1 (.tmp 27)) [],
 .mk none none (.store 1 (.tmp 28) (.tmp 26)) []])) (.seq (.row [.mk (some 30) none (.mov (.tmp 2)) [], .mk (some 31) none (.call (.func 188) [.tmp 30, .const (.string (ByteArray.mk #[32]))]) [], .mk (some 32) none (.mov (.tmp 31)) [], .mk
 (some 33) (some (32, false)) (.mov (.tmp 2)) [], .mk (some 34) (some (32, false)) (.call (.func 188) [.tmp 33, .const (.string (ByteArray.mk #[9]))]) [], .mk (some 35) none (.pick (.tmp 32) (.const (.bool true)) (.tmp 34)) [], .mk (some 29)
 none (.mov (.tmp 35)) []]) (.cond (.tmp 29) (.row [.mk (some 36) none (.mov (.tmp 0)) [], .mk (some 37) none (.nilc (.tmp 36)) [], .mk (some 38) none (.fieldA 1 (.tmp 37)) [], .mk (some 39) none (.load none (.tmp 38)) [], .mk (some 40) none
 (.bin .add 3 .other (.tmp 39) (.const (.int .i64 1))) [], .mk (some 41) none (.nilc (.tmp 36)) [], .mk (some 42) none (.fieldA 1 (.tmp 41)) [], .mk none none (.store 1 (.tmp 42) (.tmp 40)) []]) (.seq (.row [.mk (some 44) none (.mov (.tmp
 2)) [], .mk (some 45) none (.call (.func 188) [.tmp 44, .const (.string (ByteArray.mk #[47, 47]))]) [], .mk (some 43) none (.mov (.tmp 45)) []]) (.cond (.tmp 43) (.row [.mk (some 46) none (.mov (.tmp 0)) [], .mk (some 47) none (.nilc (.tmp
 46)) [], .mk (some 48) none (.fieldA 1 (.tmp 47)) [], .mk (some 49) none (.load none (.tmp 48)) [], .mk (some 50) none (.mov (.tmp 2)) [], .mk (some 51) none (.call (.func 185) [.tmp 50, .func 231]) [(49, none, .load none (.tmp 48))], .mk
 (some 52) none (.bin .add 3 .other (.tmp 49) (.tmp 51)) [], .mk (some 53) none (.nilc (.tmp 46)) [], .mk (some 54) none (.fieldA 1 (.tmp 53)) [], .mk none none (.store 1 (.tmp 54) (.tmp 52)) []]) .ret)))))))))))
theorem F217_ok : compFn Tryz.prog (byId h217) 217 = some F217 := by kernel_rfl
def h224 : List (Nat × List (Nat × List Nat) × List Nat) := []
def F224 : AFn :=
 AFn.mk 5 [.cell 2 (some 5)] (.seq (.row [.mk (some 2) none (.alloc 170 [.val (.int .i64 0), .val (.string (ByteArray.mk #[])), .val (.int .i64 0), .sl [] [] .full, .val (.int .i64 0)]) []]) (.seq (.row [.mk (some 3) none (.mov (.tmp 0)) [],
 .mk (some 4) none (.call (.func 146) [.tmp 3, .const (.int .i64 0)]) [], .mk none none (.store 5 (.tmp 2) (.tmp 4)) []]) .ret))
theorem F224_ok : compFn Tryz.prog (byId h224) 224 = some F224 := by kernel_rfl
def h231 : List (Nat × List (Nat × List Nat) × List Nat) := []
def F231 : AFn :=
 AFn.mk 5 [.tmp 2] (.seq (.row [.mk (some 2) none (.mov (.const (.bool false))) []]) (.seq (.row [.mk (some 3) none (.mov (.tmp 0)) [], .mk (some 4) none (.bin .neq 5 .other (.tmp 3) (.const (.int .u8 10))) [], .mk (some 2) none (.mov (.tmp
 4)) []]) .ret))
theorem F231_ok : compFn Tryz.prog (byId h231) 231 = some F231 := by kernel_rfl
def h243 : List (Nat × List (Nat × List Nat) × List Nat) := []
def F243 : AFn :=
 AFn.mk 8 [.tmp 2] (.seq (.row [.mk (some 2) none (.mov (.const (.int .i64 0))) []]) (.seq (.row [.mk (some 3) none (.mov (.tmp 0)) [], .mk (some 4) none (.nilc (.tmp 3)) [], .mk (some 5) none (.fieldA 1 (.tmp 4)) [], .mk (some 6) none
 (.load none (.tmp 5)) [], .mk (some 7) none (.len false (.tmp 6)) [], .mk (some 2) none (.mov (.tmp 7)) []]) .ret))
theorem F243_ok : compFn Tryz.prog (byId h243) 243 = some F243 := by kernel_rfl
def h144 : List (Nat × List (Nat × List Nat) × List Nat) := [(3, [(0, []), (1, []), (2, []), (3, [1, 2]), (4, [2]), (5, [])], [0, 0, 0, 1, 11, 31])]
def D144 : DFn :=
 DFn.mk 38 [.cell 4 (some 5), .cell 5 none, .cell 6 none] (DCode.seq (.row [.mk (some 4) none (.alloc 170 [.val (.int .i64 0), .val (.string (ByteArray.mk #[])), .val (.int .i64 0), .sl [] [] .full, .val (.int .i64 0)]) [], .mk (some 5) none
 (.alloc 3 [.val (.int .i64 0)]) [], .mk (some 6) none (.alloc 25 [.val (.int .i64 0)]) []]) (DCode.seq (.row [.mk (some 10) none (.mov (.tmp 0)) [], .mk (some 11) none (.call (.func 169) [.tmp 10]) [], .mk (some 9) none (.mov (.tmp 11)) [],
 .mk (some 12) none (.ext (.tmp 9) 0) [], .mk (some 13) none (.ext (.tmp 9) 1) [], .mk (some 14) none (.ext (.tmp 9) 2) [], .mk (some 7) none (.mov (.tmp 12)) [], .mk none none (.store 1 (.tmp 5) (.tmp 13)) [], .mk none none (.store 1 (.tmp
 6) (.tmp 14)) []]) (DCode.seq (.seq (.row [.mk (some 15) none (.load none (.tmp 6)) [], .mk (some 16) none (.bin .neq 25 .other (.tmp 15) (.const (.int .i64 0))) []]) (.cond (.tmp 16) (.seq (.row [.mk (some 17) none (.load (some 5) (.tmp
 4)) [], .mk (some 18) none (.load none (.tmp 5)) [], .mk (some 19) none (.load none (.tmp 6)) [], .mk none none (.store 5 (.tmp 4) (.tmp 17)) [(18, none, .load none (.tmp 5)), (19, none, .load none (.tmp 6))], .mk none none (.store 1 (.tmp
 5) (.tmp 18)) [(19, none, .load none (.tmp 6))], .mk none none (.store 1 (.tmp 6) (.tmp 19)) []]) .ret) .skip)) (DCode.defer [.mk (some 20) none (.mkf (.func 170) [] [.tmp 4, .tmp 5, .tmp 6]) []] (.tmp 20) none (.seq (.row [.mk (some 21)
 none (.mov (.tmp 7)) [], .mk (some 22) none (.build [.sl [] [] .full] [(0, 1, .tmp 21)]) [], .mk (some 23) none (.box 222 (.tmp 22)) [], .mk (some 8) none (.mov (.tmp 23)) []]) (.seq (.row [.mk (some 24) none (.mov (.tmp 1)) [], .mk (some
 25) none (.mov (.tmp 8)) [], .mk (some 26) none (.call (.tmp 24) [.tmp 25]) [], .mk none none (.store 5 (.tmp 4) (.tmp 26)) []]) (.seq (.seq (.row [.mk (some 27) none (.mov (.tmp 8)) [], .mk (some 28) none (.nilc (.tmp 27)) [], .mk (some
 29) none (.fieldA 0 (.tmp 28)) [], .mk (some 30) none (.load none (.tmp 29)) [], .mk (some 31) none (.idxL 5 (.tmp 30) (.const (.int .i64 0))) [], .mk (some 32) none (.fieldA 0 (.tmp 31)) [], .mk (some 33) none (.load none (.tmp 32)) [],
 .mk (some 34) none (.bin .neq 177 .other (.tmp 33) (.const (.int .i64 0))) []]) (.cond (.tmp 34) (.row [.mk (some 35) none (.mov (.tmp 8)) [], .mk (some 36) none (.call (.func 172) [.tmp 35]) []]) (.code .skip))) (.seq (.row [.mk (some 37)
 none (.load (some 5) (.tmp 4)) [], .mk none none (.store 5 (.tmp 4) (.tmp 37)) [], .mk none none (.store 1 (.tmp 5) (.const (.int .i64 0))) [], .mk none none (.store 1 (.tmp 6) (.const (.int .i64 0))) []]) (.code .ret)))))))))
theorem D144_ok : compD Tryz.prog (byId h144) 144 = some D144 := by kernel_rfl
def h170 : List (Nat × List (Nat × List Nat) × List Nat) := [(6, [(0, []), (1, []), (2, []), (3, []), (4, []), (5, []), (6, []), (7, [])], [0, 0, 2, 6, 14, 31, 63, 127])]
def R170 : RFn :=
 RFn.mk 28 (some 8) (some 3) 8 [] (.seq (.seq (.row [.mk (some 9) none (.mov (.tmp 3)) [], .mk (some 10) none (.bin .eql 20 .iface (.tmp 9) (.const .nilIface)) []]) (.cond (.tmp 10) .ret .skip)) (.seq (.row [.mk (some 4) none (.alloc 215
 [.val (.pointer none)]) []]) (.seq (.seq (.row [.mk (some 12) none (.mov (.tmp 3)) [], .mk (some 13) none (.asrt 163 (.tmp 12)) [], .mk (some 11) none (.mov (.tmp 13)) [], .mk (some 14) none (.ext (.tmp 11) 0) [], .mk (some 15) none (.ext
 (.tmp 11) 1) [], .mk (some 5) none (.mov (.tmp 14)) [], .mk (some 6) none (.mov (.tmp 15)) []]) (.seq (.row [.mk (some 16) none (.mov (.tmp 6)) [], .mk (some 17) none (.mov (.tmp 16)) [], .mk (some 18) (some (17, true)) (.mov (.tmp 5)) [],
 .mk (some 19) (some (17, true)) (.mki 218 (.tmp 4)) [], .mk (some 20) (some (17, true)) (.call (.func 171) [.tmp 18, .tmp 19]) [], .mk (some 21) none (.pick (.tmp 17) (.tmp 20) (.const (.bool false))) []]) (.cond (.tmp 21) (.seq (.row [.mk
 (some 7) none (.alloc 170 [.val (.int .i64 0), .val (.string (ByteArray.mk #[])), .val (.int .i64 0), .sl [] [] .full, .val (.int .i64 0)]) []]) (.seq (.row [.mk (some 22) none (.load (some 5) (.tmp 7)) [], .mk (some 23) none (.load none
 (.tmp 4)) [], .mk (some 24) none (.nilc (.tmp 23)) [], .mk (some 25) none (.fieldA 0 (.tmp 24)) [], .mk (some 26) none (.load none (.tmp 25)) [], .mk none none (.store 5 (.tmp 0) (.tmp 22)) [], .mk none none (.store 1 (.tmp 1) (.tmp 26))
 [], .mk none none (.store 1 (.tmp 2) (.const (.int .i64 6))) []]) .ret)) .skip))) (.row [.mk (some 27) none (.mov (.tmp 3)) [], .mk none none (.panic (.tmp 27)) []]))))
theorem R170_ok : compR Tryz.prog (byId h170) 170 = some R170 := by kernel_rfl
def h24 : List (Nat × List (Nat × List Nat) × List Nat) := []
def F24 : AFn :=
 AFn.mk 32 [.cell 2 (some 3), .cell 3 (some 3)] (.seq (.row [.mk (some 1) none (.box 45 (.tmp 0)) [], .mk (some 2) none (.alloc 45 [.val (.string (ByteArray.mk #[])), .val (.int .i64 0), .val (.int .i64 0)]) [], .mk (some 3) none (.alloc 24
 [.val (.int .i64 0), .val (.int .i64 0), .val (.string (ByteArray.mk #[]))]) []]) (.seq (.row [.mk (some 8) none (.load (some 3) (.tmp 1)) [], .mk (some 9) none (.call (.func 66) [.tmp 8]) [], .mk (some 7) none (.mov (.tmp 9)) [], .mk (some
 10) none (.ext (.tmp 7) 0) [], .mk (some 11) none (.ext (.tmp 7) 1) [], .mk none none (.store 3 (.tmp 1) (.tmp 10)) [], .mk (some 4) none (.mov (.tmp 11)) []]) (.seq (.row [.mk (some 13) none (.load (some 3) (.tmp 1)) [], .mk (some 14) none
 (.call (.func 66) [.tmp 13]) [], .mk (some 12) none (.mov (.tmp 14)) [], .mk (some 15) none (.ext (.tmp 12) 0) [], .mk (some 16) none (.ext (.tmp 12) 1) [], .mk none none (.store 3 (.tmp 1) (.tmp 15)) [], .mk (some 5) none (.mov (.tmp 16))
 []]) (.seq (.row [.mk (some 18) none (.load (some 3) (.tmp 1)) [], .mk (some 19) none (.call (.func 67) [.tmp 18, .const (.int .i64 255)]) [], .mk (some 17) none (.mov (.tmp 19)) [], .mk (some 20) none (.ext (.tmp 17) 0) [], .mk (some 21)
 none (.ext (.tmp 17) 1) [], .mk none none (.store 3 (.tmp 1) (.tmp 20)) [], .mk (some 6) none (.mov (.tmp 21)) []]) (.seq (.seq (.row [.mk (some 22) none (.fieldA 2 (.tmp 1)) [], .mk (some 23) none (.load none (.tmp 22)) [], .mk (some 24)
 none (.bin .neq 3 .other (.tmp 23) (.const (.int .i64 0))) []]) (.cond (.tmp 24) (.seq (.row [.mk (some 25) none (.load (some 3) (.tmp 1)) [], .mk (some 26) none (.build [.val (.int .i64 0), .val (.int .i64 0), .val (.string (ByteArray.mk
 #[]))] []) [], .mk none none (.store 3 (.tmp 2) (.tmp 25)) [], .mk none none (.store 3 (.tmp 3) (.tmp 26)) []]) .ret) .skip)) (.seq (.row [.mk (some 27) none (.load (some 3) (.tmp 1)) [], .mk (some 28) none (.mov (.tmp 4)) [], .mk (some 29)
 none (.mov (.tmp 5)) [], .mk (some 30) none (.mov (.tmp 6)) [], .mk (some 31) none (.build [.val (.int .i64 0), .val (.int .i64 0), .val (.string (ByteArray.mk #[]))] [(0, 1, .tmp 28), (1, 1, .tmp 29), (2, 1, .tmp 30)]) [], .mk none none
 (.store 3 (.tmp 2) (.tmp 27)) [], .mk none none (.store 3 (.tmp 3) (.tmp 31)) []]) .ret))))))
theorem F24_ok : compFn Tryz.prog (byId h24) 24 = some F24 := by kernel_rfl
def h28 : List (Nat × List (Nat × List Nat) × List Nat) := []
def F28 : AFn :=
 AFn.mk 16 [.tmp 2] (.seq (.row [.mk (some 2) none (.mov (.const (.int .i64 0))) []]) (.seq (.seq (.row [.mk (some 3) none (.mov (.tmp 0)) [], .mk (some 4) none (.bin .eql 41 .pointer (.tmp 3) (.const (.pointer none))) [], .mk (some 5) none
 (.mov (.tmp 4)) [], .mk (some 6) (some (5, false)) (.mov (.tmp 0)) [], .mk (some 7) (some (5, false)) (.nilc (.tmp 6)) [], .mk (some 8) (some (5, false)) (.fieldA 0 (.tmp 7)) [], .mk (some 9) (some (5, false)) (.load none (.tmp 8)) [], .mk
 (some 10) (some (5, false)) (.un .not (.tmp 9)) [], .mk (some 11) none (.pick (.tmp 5) (.const (.bool true)) (.tmp 10)) []]) (.cond (.tmp 11) (.seq (.row [.mk (some 2) none (.mov (.const (.int .i64 1))) []]) .ret) .skip)) (.seq (.row [.mk
 (some 12) none (.mov (.tmp 0)) [], .mk (some 13) none (.nilc (.tmp 12)) [], .mk (some 14) none (.fieldA 3 (.tmp 13)) [], .mk (some 15) none (.load none (.tmp 14)) [], .mk (some 2) none (.mov (.tmp 15)) []]) .ret)))
theorem F28_ok : compFn Tryz.prog (byId h28) 28 = some F28 := by kernel_rfl
def h56 : List (Nat × List (Nat × List Nat) × List Nat) := []
def F56 : AFn :=
 AFn.mk 33 [.cell 2 (some 4)] (.seq (.row [.mk (some 2) none (.alloc 100 [.val (.string (ByteArray.mk #[])), .val (.int .i64 0), .val (.bool false), .val (.bool false)]) []]) (.seq (.row [.mk (some 4) none (.build [.val (.string
 (ByteArray.mk #[])), .val (.int .i64 0), .val (.bool false), .val (.bool false)] []) [], .mk (some 5) none (.build [.val (.string (ByteArray.mk #[])), .val (.int .i64 0), .val (.bool false), .val (.bool false)] [(0, 1, .const (.string
 (ByteArray.mk #[115, 116, 101, 112])))]) [], .mk (some 6) none (.build [.val (.string (ByteArray.mk #[])), .val (.int .i64 0), .val (.bool false), .val (.bool false)] [(0, 1, .const (.string (ByteArray.mk #[110, 101, 120, 116])))]) [], .mk
 (some 7) none (.build [.val (.string (ByteArray.mk #[])), .val (.int .i64 0), .val (.bool false), .val (.bool false)] [(0, 1, .const (.string (ByteArray.mk #[102, 105, 110, 105, 115, 104])))]) [], .mk (some 8) none (.build [.val (.string
 (ByteArray.mk #[])), .val (.int .i64 0), .val (.bool false), .val (.bool false)] [(0, 1, .const (.string (ByteArray.mk #[99, 111, 110, 116, 105, 110, 117, 101])))]) [], .mk (some 9) none (.build [.val (.string (ByteArray.mk #[])), .val
 (.int .i64 0), .val (.bool false), .val (.bool false)] [(0, 1, .const (.string (ByteArray.mk #[98, 97, 99, 107, 45, 115, 116, 101, 112])))]) [], .mk (some 10) none (.build [.val (.string (ByteArray.mk #[])), .val (.int .i64 0), .val (.bool
 false), .val (.bool false)] [(0, 1, .const (.string (ByteArray.mk #[98, 97, 99, 107, 45, 110, 101, 120, 116])))]) [], .mk (some 11) none (.build [.val (.string (ByteArray.mk #[])), .val (.int .i64 0), .val (.bool false), .val (.bool false)]
 [(0, 1, .const (.string (ByteArray.mk #[98, 97, 99, 107, 45, 102, 105, 110, 105, 115, 104])))]) [], .mk (some 12) none (.build [.val (.string (ByteArray.mk #[])), .val (.int .i64 0), .val (.bool false), .val (.bool false)] [(0, 1, .const
 (.string (ByteArray.mk #[98, 97, 99, 107, 45, 99, 111, 110, 116, 105, 110, 117, 101])))]) [], .mk (some 13) none (.build [.val (.string (ByteArray.mk #[])), .val (.int .i64 0), .val (.bool false), .val (.bool false)] [(0, 1, .const (.string
 (ByteArray.mk #[103, 111, 116, 111]))), (2, 1, .const (.bool true))]) [], .mk (some 14) none (.build [.val (.string (ByteArray.mk #[])), .val (.int .i64 0), .val (.bool false), .val (.bool false)] [(0, 1, .const (.string (ByteArray.mk #[98,
 114, 101, 97, 107]))), (1, 1, .const (.int .i64 1)), (2, 1, .const (.bool true)), (3, 1, .const (.bool true))]) [], .mk (some 15) none (.build [.val (.string (ByteArray.mk #[])), .val (.int .i64 0), .val (.bool false), .val (.bool false)]
 [(0, 1, .const (.string (ByteArray.mk #[119, 97, 116, 99, 104]))), (3, 1, .const (.bool true))]) [], .mk (some 16) none (.build [.val (.string (ByteArray.mk #[])), .val (.int .i64 0), .val (.bool false), .val (.bool false)] [(0, 1, .const
 (.string (ByteArray.mk #[100, 101, 108, 101, 116, 101]))), (1, 1, .const (.int .i64 1)), (2, 1, .const (.bool true))]) [], .mk (some 17) none (.build [.val (.string (ByteArray.mk #[])), .val (.int .i64 0), .val (.bool false), .val (.bool
 false)] [(0, 1, .const (.string (ByteArray.mk #[101, 110, 97, 98, 108, 101]))), (1, 1, .const (.int .i64 1)), (2, 1, .const (.bool true))]) [], .mk (some 18) none (.build [.val (.string (ByteArray.mk #[])), .val (.int .i64 0), .val (.bool
 false), .val (.bool false)] [(0, 1, .const (.string (ByteArray.mk #[100, 105, 115, 97, 98, 108, 101]))), (1, 1, .const (.int .i64 1)), (2, 1, .const (.bool true))]) [], .mk (some 19) none (.build [.val (.string (ByteArray.mk #[])), .val
 (.int .i64 0), .val (.bool false), .val (.bool false)] [(0, 1, .const (.string (ByteArray.mk #[117, 112])))]) [], .mk (some 20) none (.build [.val (.string (ByteArray.mk #[])), .val (.int .i64 0), .val (.bool false), .val (.bool false)]
 [(0, 1, .const (.string (ByteArray.mk #[100, 111, 119, 110])))]) [], .mk (some 21) none (.build [.val (.string (ByteArray.mk #[])), .val (.int .i64 0), .val (.bool false), .val (.bool false)] [(0, 1, .const (.string (ByteArray.mk #[112,
 114, 105, 110, 116]))), (3, 1, .const (.bool true))]) [], .mk (some 22) none (.build [.val (.string (ByteArray.mk #[])), .val (.int .i64 0), .val (.bool false), .val (.bool false), .val (.string (ByteArray.mk #[])), .val (.int .i64 0), .val
 (.bool false), .val (.bool false), .val (.string (ByteArray.mk #[])), .val (.int .i64 0), .val (.bool false), .val (.bool false), .val (.string (ByteArray.mk #[])), .val (.int .i64 0), .val (.bool false), .val (.bool false), .val (.string
 (ByteArray.mk #[])), .val (.int .i64 0), .val (.bool false), .val (.bool false), .val (.string (ByteArray.mk #[])), .val (.int .i64 0), .val (.bool false), .val (.bool false), .val (.string (ByteArray.mk #[])), .val (.int .i64 0), .val
 (.bool false), .val (.bool false), .val (.string (ByteArray.mk #[])), .val (.int .i64 0), .val (.bool false), .val (.bool false), .val (.string (ByteArray.mk #[])), .val (.int .i64 0), .val (.bool false), .val (.bool false), .val (.string
 (ByteArray.mk #[])), .val (.int .i64 0), .val (.bool false), .val (.bool false), .val (.string (ByteArray.mk #[])), .val (.int .i64 0), .val (.bool false), .val (.bool false), .val (.string (ByteArray.mk #[])), .val (.int .i64 0), .val
 (.bool false), .val (.bool false), .val (.string (ByteArray.mk #[])), .val (.int .i64 0), .val (.bool false), .val (.bool false), .val (.string (ByteArray.mk #[])), .val (.int .i64 0), .val (.bool false), .val (.bool false), .val (.string
 (ByteArray.mk #[])), .val (.int .i64 0), .val (.bool false), .val (.bool false), .val (.string (ByteArray.mk #[])), .val (.int .i64 0), .val (.bool false), .val (.bool false), .val (.string (ByteArray.mk #[])), .val (.int .i64 0), .val
 (.bool false), .val (.bool false), .val (.string (ByteArray.mk #[])), .val (.int .i64 0), .val (.bool false), .val (.bool false)] [(0, 4, .tmp 4), (4, 4, .tmp 5), (8, 4, .tmp 6), (12, 4, .tmp 7), (16, 4, .tmp 8), (20, 4, .tmp 9), (24, 4,
 .tmp 10), (28, 4, .tmp 11), (32, 4, .tmp 12), (36, 4, .tmp 13), (40, 4, .tmp 14), (44, 4, .tmp 15), (48, 4, .tmp 16), (52, 4, .tmp 17), (56, 4, .tmp 18), (60, 4, .tmp 19), (64, 4, .tmp 20), (68, 4, .tmp 21)]) [], .mk (some 3) none (.alloc
 140 [.val (.string (ByteArray.mk #[])), .val (.int .i64 0), .val (.bool false), .val (.bool false), .val (.string (ByteArray.mk #[])), .val (.int .i64 0), .val (.bool false), .val (.bool false), .val (.string (ByteArray.mk #[])), .val (.int
 .i64 0), .val (.bool false), .val (.bool false), .val (.string (ByteArray.mk #[])), .val (.int .i64 0), .val (.bool false), .val (.bool false), .val (.string (ByteArray.mk #[])), .val (.int .i64 0), .val (.bool false), .val (.bool false),
 .val (.string (ByteArray.mk #[])), .val (.int .i64 0), .val (.bool false), .val (.bool false), .val (.string (ByteArray.mk #[])), .val (.int .i64 0), .val (.bool false), .val (.bool false), .val (.string (ByteArray.mk #[])), .val (.int .i64
 0), .val (.bool false), .val (.bool false), .val (.string (ByteArray.mk #[])), .val (.int .i64 0), .val (.bool false), .val (.bool false), .val (.string (ByteArray.mk #[])), .val (.int .i64 0), .val (.bool false), .val (.bool false), .val
 (.string (ByteArray.mk #[])), .val (.int .i64 0), .val (.bool false), .val (.bool false), .val (.string (ByteArray.mk #[])), .val (.int .i64 0), .val (.bool false), .val (.bool false), .val (.string (ByteArray.mk #[])), .val (.int .i64 0),
 .val (.bool false), .val (.bool false), .val (.string (ByteArray.mk #[])), .val (.int .i64 0), .val (.bool false), .val (.bool false), .val (.string (ByteArray.mk #[])), .val (.int .i64 0), .val (.bool false), .val (.bool false), .val
 (.string (ByteArray.mk #[])), .val (.int .i64 0), .val (.bool false), .val (.bool false), .val (.string (ByteArray.mk #[])), .val (.int .i64 0), .val (.bool false), .val (.bool false), .val (.string (ByteArray.mk #[])), .val (.int .i64 0),
 .val (.bool false), .val (.bool false)]) [], .mk none none (.store 72 (.tmp 3) (.tmp 22)) []]) (.seq (.seq (.row [.mk (some 23) none (.mov (.tmp 0)) [], .mk (some 24) none (.bin .lss 22 .other (.tmp 23) (.const (.int .i64 0))) [], .mk (some
 25) none (.mov (.tmp 24)) [], .mk (some 26) (some (25, false)) (.mov (.tmp 0)) [], .mk (some 27) (some (25, false)) (.bin .geq 3 .other (.tmp 26) (.const (.int .i64 18))) [], .mk (some 28) none (.pick (.tmp 25) (.const (.bool true)) (.tmp
 27)) []]) (.cond (.tmp 28) (.seq (.row [.mk (some 29) none (.build [.val (.string (ByteArray.mk #[])), .val (.int .i64 0), .val (.bool false), .val (.bool false)] []) [], .mk none none (.store 4 (.tmp 2) (.tmp 29)) []]) .ret) .skip)) (.seq
 (.row [.mk (some 30) none (.mov (.tmp 0)) [], .mk (some 31) none (.idxA 18 4 (.tmp 3) (.tmp 30)) [], .mk (some 32) none (.load (some 4) (.tmp 31)) [], .mk none none (.store 4 (.tmp 2) (.tmp 32)) []]) .ret))))
theorem F56_ok : compFn Tryz.prog (byId h56) 56 = some F56 := by kernel_rfl
def h68 : List (Nat × List (Nat × List Nat) × List Nat) := []
def F68 : AFn :=
 AFn.mk 11 [.tmp 4] (.seq (.row [.mk (some 4) none (.mov (.const (.slice none 0 0))) []]) (.seq (.row [.mk (some 5) none (.mov (.tmp 0)) [], .mk (some 6) none (.mov (.tmp 1)) [], .mk (some 7) none (.len true (.tmp 6)) [], .mk (some 8) none
 (.call (.func 69) [.tmp 5, .tmp 7]) [], .mk (some 9) none (.mov (.tmp 1)) [], .mk (some 10) none (.app 5 1 1 (.tmp 8) (.tmp 9)) [], .mk (some 4) none (.mov (.tmp 10)) []]) .ret))
theorem F68_ok : compFn Tryz.prog (byId h68) 68 = some F68 := by kernel_rfl
def h72 : List (Nat × List (Nat × List Nat) × List Nat) := [(4, [(0, []), (1, []), (2, []), (3, []), (4, []), (5, []), (6, []), (7, []), (8, []), (9, []), (10, []), (11, []), (12, []), (13, []), (14, []), (15, []), (16, []), (17, [])], [0, 0, 2, 6, 14, 0, 32, 96, 224, 510, 1023, 2047, 4095, 4095,
 4095, 8191, 49151, 131071])]
def F72 : AFn :=
 AFn.mk 44 [.tmp 4] (.seq (.row [.mk (some 4) none (.mov (.const (.int .i64 0))) []]) (.seq (.row [.mk (some 5) none (.mov (.const (.int .i64 0))) []]) (.seq (.seq (.row [.mk (some 9) none (.mov (.tmp 0)) [], .mk (some 10) none (.call (.func
 28) [.tmp 9]) [], .mk (some 11) none (.bin .neq 25 .other (.tmp 10) (.const (.int .i64 0))) []]) (.cond (.tmp 11) (.seq (.row [.mk (some 12) none (.mov (.tmp 5)) [], .mk (some 4) none (.mov (.tmp 12)) []]) .ret) .skip)) (.seq (.row [.mk
 (some 14) none (.mov (.tmp 1)) [], .mk (some 15) none (.mov (.tmp 0)) [], .mk (some 16) none (.nilc (.tmp 15)) [], .mk (some 17) none (.fieldA 1 (.tmp 16)) [], .mk (some 18) none (.load none (.tmp 17)) [], .mk (some 19) none (.mov (.tmp 0))
 [], .mk (some 20) none (.nilc (.tmp 19)) [], .mk (some 21) none (.fieldA 2 (.tmp 20)) [], .mk (some 22) none (.load none (.tmp 21)) [], .mk (some 23) none (.sliceS (.tmp 18) (some (.tmp 22)) none) [], .mk (some 24) none (.call (.tmp 14)
 [.tmp 23]) [], .mk (some 13) none (.mov (.tmp 24)) [], .mk (some 25) none (.ext (.tmp 13) 0) [], .mk (some 26) none (.ext (.tmp 13) 1) [], .mk (some 27) none (.ext (.tmp 13) 2) [], .mk (some 6) none (.mov (.tmp 25)) [], .mk (some 7) none
 (.mov (.tmp 26)) [], .mk (some 8) none (.mov (.tmp 27)) []]) (.seq (.seq (.row [.mk (some 28) none (.mov (.tmp 8)) [], .mk (some 29) none (.bin .neq 25 .other (.tmp 28) (.const (.int .i64 0))) []]) (.cond (.tmp 29) (.seq (.row [.mk (some
 30) none (.mov (.tmp 0)) [], .mk (some 31) none (.mov (.tmp 8)) [], .mk (some 32) none (.nilc (.tmp 30)) [], .mk (some 33) none (.fieldA 3 (.tmp 32)) [], .mk none none (.store 1 (.tmp 33) (.tmp 31)) []]) (.seq (.row [.mk (some 34) none
 (.mov (.tmp 5)) [], .mk (some 4) none (.mov (.tmp 34)) []]) .ret)) .skip)) (.seq (.row [.mk (some 35) none (.mov (.tmp 0)) [], .mk (some 36) none (.nilc (.tmp 35)) [], .mk (some 37) none (.fieldA 2 (.tmp 36)) [], .mk (some 38) none (.load
 none (.tmp 37)) [], .mk (some 39) none (.mov (.tmp 7)) [], .mk (some 40) none (.bin .add 3 .other (.tmp 38) (.tmp 39)) [], .mk (some 41) none (.nilc (.tmp 35)) [], .mk (some 42) none (.fieldA 2 (.tmp 41)) [], .mk none none (.store 1 (.tmp
 42) (.tmp 40)) []]) (.seq (.row [.mk (some 43) none (.mov (.tmp 6)) [], .mk (some 4) none (.mov (.tmp 43)) []]) .ret)))))))
theorem F72_ok : compFn Tryz.prog (byId h72) 72 = some F72 := by kernel_rfl
def h100 : List (Nat × List (Nat × List Nat) × List Nat) := []
def F100 : AFn :=
 AFn.mk 32 [.tmp 2, .tmp 3, .tmp 4] (.seq (.row [.mk (some 2) none (.mov (.const (.int .i64 0))) [], .mk (some 3) none (.mov (.const (.string (ByteArray.mk #[])))) [], .mk (some 4) none (.mov (.const (.bool false))) []]) (.seq (.row [.mk
 (some 11) none (.mov (.tmp 0)) [], .mk (some 12) none (.call (.func 55) [.tmp 11, .const (.string (ByteArray.mk #[32]))]) [], .mk (some 10) none (.mov (.tmp 12)) [], .mk (some 13) none (.ext (.tmp 10) 0) [], .mk (some 14) none (.ext (.tmp
 10) 1) [], .mk (some 15) none (.ext (.tmp 10) 2) [], .mk (some 5) none (.mov (.tmp 13)) [], .mk (some 6) none (.mov (.tmp 14)) [], .mk (some 7) none (.mov (.tmp 15)) []]) (.seq (.row [.mk (some 17) none (.mov (.tmp 5)) [], .mk (some 18)
 none (.call (.func 125) [.tmp 17, .const (.int .i64 10), .const (.int .i64 64)]) [], .mk (some 16) none (.mov (.tmp 18)) [], .mk (some 19) none (.ext (.tmp 16) 0) [], .mk (some 20) none (.ext (.tmp 16) 1) [], .mk (some 8) none (.mov (.tmp
 19)) [], .mk (some 9) none (.mov (.tmp 20)) []]) (.seq (.seq (.row [.mk (some 21) none (.mov (.tmp 9)) [], .mk (some 22) none (.bin .neq 163 .iface (.tmp 21) (.const .nilIface)) [], .mk (some 23) none (.mov (.tmp 22)) [], .mk (some 24)
 (some (23, false)) (.mov (.tmp 8)) [], .mk (some 25) (some (23, false)) (.call (.func 126) [.tmp 24, .const (.int .i64 10)]) [], .mk (some 26) (some (23, false)) (.mov (.tmp 5)) [], .mk (some 27) (some (23, false)) (.bin .neq 9 .other (.tmp
 25) (.tmp 26)) [], .mk (some 28) none (.pick (.tmp 23) (.const (.bool true)) (.tmp 27)) []]) (.cond (.tmp 28) (.seq (.row [.mk (some 2) none (.mov (.const (.int .i64 (-1)))) [], .mk (some 3) none (.mov (.const (.string (ByteArray.mk #[]))))
 [], .mk (some 4) none (.mov (.const (.bool false))) []]) .ret) .skip)) (.seq (.row [.mk (some 29) none (.mov (.tmp 8)) [], .mk (some 30) none (.mov (.tmp 6)) [], .mk (some 31) none (.mov (.tmp 7)) [], .mk (some 2) none (.mov (.tmp 29)) [],
 .mk (some 3) none (.mov (.tmp 30)) [], .mk (some 4) none (.mov (.tmp 31)) []]) .ret)))))
theorem F100_ok : compFn Tryz.prog (byId h100) 100 = some F100 := by kernel_rfl
def h104 : List (Nat × List (Nat × List Nat) × List Nat) := []
def F104 : AFn :=
 AFn.mk 5 [.tmp 2] (.seq (.row [.mk (some 2) none (.mov (.const (.string (ByteArray.mk #[])))) []]) (.seq (.row [.mk (some 3) none (.mov (.tmp 0)) [], .mk (some 4) none (.call (.func 129) [.tmp 3, .const (.int .i64 10)]) [], .mk (some 2)
 none (.mov (.tmp 4)) []]) .ret))
theorem F104_ok : compFn Tryz.prog (byId h104) 104 = some F104 := by kernel_rfl
def h108 : List (Nat × List (Nat × List Nat) × List Nat) := []
def F108 : AFn :=
 AFn.mk 37 [.tmp 3, .tmp 4, .tmp 5] (.seq (.row [.mk (some 3) none (.mov (.const (.string (ByteArray.mk #[])))) [], .mk (some 4) none (.mov (.const (.int .i64 0))) [], .mk (some 5) none (.mov (.const (.int .i64 0))) []]) (.seq (.row [.mk
 (some 10) none (.mov (.tmp 0)) [], .mk (some 11) none (.load none (.tmp 1)) [], .mk (some 12) none (.call (.func 109) [.tmp 10, .tmp 11]) [], .mk (some 9) none (.mov (.tmp 12)) [], .mk (some 13) none (.ext (.tmp 9) 0) [], .mk (some 14) none
 (.ext (.tmp 9) 1) [], .mk (some 15) none (.ext (.tmp 9) 2) [], .mk (some 6) none (.mov (.tmp 13)) [], .mk (some 7) none (.mov (.tmp 14)) [], .mk (some 8) none (.mov (.tmp 15)) []]) (.seq (.block 0 (.seq (.row [.mk (some 17) none (.mov (.tmp
 8)) [], .mk (some 18) none (.bin .neq 25 .other (.tmp 17) (.const (.int .i64 0))) [], .mk (some 16) none (.mov (.tmp 18)) []]) (.cond (.tmp 16) (.seq (.row [.mk (some 19) none (.mov (.tmp 8)) [], .mk (some 3) none (.mov (.const (.string
 (ByteArray.mk #[])))) [], .mk (some 4) none (.mov (.const (.int .i64 0))) [], .mk (some 5) none (.mov (.tmp 19)) []]) .ret) (.seq (.row [.mk (some 21) none (.mov (.tmp 6)) [], .mk (some 22) none (.mov (.tmp 0)) [], .mk (some 23) none (.len
 true (.tmp 22)) [], .mk (some 24) none (.mov (.tmp 7)) [], .mk (some 25) none (.bin .sub 3 .other (.tmp 23) (.tmp 24)) [], .mk (some 26) none (.bin .gtr 3 .other (.tmp 21) (.tmp 25)) [], .mk (some 20) none (.mov (.tmp 26)) []]) (.cond (.tmp
 20) (.seq (.row [.mk (some 3) none (.mov (.const (.string (ByteArray.mk #[])))) [], .mk (some 4) none (.mov (.const (.int .i64 0))) [], .mk (some 5) none (.mov (.const (.int .i64 3))) []]) .ret) .skip))))) (.seq (.row [.mk (some 27) none
 (.mov (.tmp 0)) [], .mk (some 28) none (.mov (.tmp 7)) [], .mk (some 29) none (.mov (.tmp 7)) [], .mk (some 30) none (.mov (.tmp 6)) [], .mk (some 31) none (.bin .add 3 .other (.tmp 29) (.tmp 30)) [], .mk (some 32) none (.sliceS (.tmp 27)
 (some (.tmp 28)) (some (.tmp 31))) [], .mk (some 33) none (.call (.func 110) [.tmp 32]) [], .mk (some 34) none (.mov (.tmp 7)) [], .mk (some 35) none (.mov (.tmp 6)) [], .mk (some 36) none (.bin .add 3 .other (.tmp 34) (.tmp 35)) [], .mk
 (some 3) none (.mov (.tmp 33)) [], .mk (some 4) none (.mov (.tmp 36)) [], .mk (some 5) none (.mov (.const (.int .i64 0))) []]) .ret))))
theorem F108_ok : compFn Tryz.prog (byId h108) 108 = some F108 := by kernel_rfl
def h112 : List (Nat × List (Nat × List Nat) × List Nat) := []
def F112 : AFn :=
 AFn.mk 8 [.cell 4 (some 3)] (.seq (.row [.mk (some 2) none (.box 45 (.tmp 0)) [], .mk (some 4) none (.alloc 45 [.val (.string (ByteArray.mk #[])), .val (.int .i64 0), .val (.int .i64 0)]) []]) (.seq (.row [.mk (some 5) none (.mov (.tmp 1))
 [], .mk (some 6) none (.fieldA 2 (.tmp 2)) [], .mk none none (.store 1 (.tmp 6) (.tmp 5)) []]) (.seq (.row [.mk (some 7) none (.load (some 3) (.tmp 2)) [], .mk none none (.store 3 (.tmp 4) (.tmp 7)) []]) .ret)))
theorem F112_ok : compFn Tryz.prog (byId h112) 112 = some F112 := by kernel_rfl
def h116 : List (Nat × List (Nat × List Nat) × List Nat) := []
def F116 : AFn :=
 AFn.mk 11 [.tmp 2] (.seq (.row [.mk (some 2) none (.mov (.const (.int .i64 0))) []]) (.seq (.row [.mk (some 3) none (.mov (.tmp 0)) [], .mk (some 4) none (.bin .shr 154 .other (.tmp 3) (.const (.int .u64 1))) [], .mk (some 5) none (.conv
 154 3 (.tmp 4)) [], .mk (some 6) none (.mov (.tmp 0)) [], .mk (some 7) none (.bin .and 154 .other (.tmp 6) (.const (.int .u64 1))) [], .mk (some 8) none (.conv 154 3 (.tmp 7)) [], .mk (some 9) none (.un .neg (.tmp 8)) [], .mk (some 10) none
 (.bin .xor 3 .other (.tmp 5) (.tmp 9)) [], .mk (some 2) none (.mov (.tmp 10)) []]) .ret))
theorem F116_ok : compFn Tryz.prog (byId h116) 116 = some F116 := by kernel_rfl
def h124 : List (Nat × List (Nat × List Nat) × List Nat) := []
def F124 : AFn :=
 AFn.mk 143 [.tmp 4] (.seq (.row [.mk (some 4) none (.mov (.const (.int .i64 0))) []]) (.seq (.row [.mk (some 14) none (.mov (.tmp 1)) [], .mk (some 15) none (.len true (.tmp 14)) [], .mk (some 5) none (.mov (.tmp 15)) []]) (.seq (.block 0
 (.seq (.row [.mk (some 17) none (.mov (.tmp 5)) [], .mk (some 18) none (.bin .eql 3 .other (.tmp 17) (.const (.int .i64 0))) [], .mk (some 19) none (.mov (.tmp 18)) [], .mk (some 20) (some (19, false)) (.mov (.tmp 1)) [], .mk (some 21)
 (some (19, false)) (.mov (.tmp 0)) [], .mk (some 22) (some (19, false)) (.bin .eql 9 .other (.tmp 20) (.tmp 21)) [], .mk (some 23) none (.pick (.tmp 19) (.const (.bool true)) (.tmp 22)) [], .mk (some 16) none (.mov (.tmp 23)) []]) (.cond
 (.tmp 16) (.seq (.row [.mk (some 4) none (.mov (.const (.int .i64 0))) []]) .ret) (.seq (.row [.mk (some 25) none (.mov (.tmp 5)) [], .mk (some 26) none (.bin .eql 3 .other (.tmp 25) (.const (.int .i64 1))) [], .mk (some 24) none (.mov
 (.tmp 26)) []]) (.cond (.tmp 24) (.seq (.row [.mk (some 27) none (.mov (.tmp 0)) [], .mk (some 28) none (.mov (.tmp 1)) [], .mk (some 29) none (.idxStr (.tmp 28) (.const (.int .i64 0))) [], .mk (some 30) none (.call (.func 137) [.tmp 27,
 .tmp 29]) [], .mk (some 4) none (.mov (.tmp 30)) []]) .ret) (.seq (.row [.mk (some 32) none (.mov (.tmp 5)) [], .mk (some 33) none (.mov (.tmp 0)) [], .mk (some 34) none (.len true (.tmp 33)) [], .mk (some 35) none (.bin .geq 3 .other (.tmp
 32) (.tmp 34)) [], .mk (some 31) none (.mov (.tmp 35)) []]) (.cond (.tmp 31) (.seq (.row [.mk (some 4) none (.mov (.const (.int .i64 (-1)))) []]) .ret) (.seq (.row [.mk (some 37) none (.mov (.tmp 5)) [], .mk (some 38) none (.load none
 (.global 0)) [], .mk (some 39) none (.bin .leq 3 .other (.tmp 37) (.tmp 38)) [], .mk (some 40) none (.mov (.tmp 39)) [], .mk (some 41) (some (40, true)) (.mov (.tmp 0)) [], .mk (some 42) (some (40, true)) (.len true (.tmp 41)) [], .mk (some
 43) (some (40, true)) (.bin .leq 3 .other (.tmp 42) (.const (.int .i64 64))) [], .mk (some 44) none (.pick (.tmp 40) (.tmp 43) (.const (.bool false))) [], .mk (some 36) none (.mov (.tmp 44)) []]) (.cond (.tmp 36) (.seq (.row [.mk (some 45)
 none (.mov (.tmp 0)) [], .mk (some 46) none (.mov (.tmp 1)) [], .mk (some 47) none (.call (.func 138) [.tmp 45, .tmp 46]) [], .mk (some 4) none (.mov (.tmp 47)) []]) .ret) .skip))))))))) (.seq (.row [.mk (some 48) none (.mov (.tmp 1)) [],
 .mk (some 49) none (.idxStr (.tmp 48) (.const (.int .i64 0))) [], .mk (some 6) none (.mov (.tmp 49)) []]) (.seq (.row [.mk (some 50) none (.mov (.tmp 1)) [], .mk (some 51) none (.idxStr (.tmp 50) (.const (.int .i64 1))) [], .mk (some 7)
 none (.mov (.tmp 51)) []]) (.seq (.row [.mk (some 8) none (.mov (.const (.int .i64 0))) []]) (.seq (.row [.mk (some 52) none (.mov (.tmp 0)) [], .mk (some 53) none (.len true (.tmp 52)) [], .mk (some 54) none (.mov (.tmp 5)) [], .mk (some
 55) none (.bin .sub 3 .other (.tmp 53) (.tmp 54)) [], .mk (some 56) none (.bin .add 3 .other (.tmp 55) (.const (.int .i64 1))) [], .mk (some 9) none (.mov (.tmp 56)) []]) (.seq (.row [.mk (some 10) none (.mov (.const (.int .i64 0))) []])
 (.seq (.block 1 (.loop (.seq (.seq (.row [.mk (some 57) none (.mov (.tmp 8)) [], .mk (some 58) none (.mov (.tmp 9)) [], .mk (some 59) none (.bin .lss 3 .other (.tmp 57) (.tmp 58)) []]) (.cond (.tmp 59) .skip (.exit 1))) (.block 2 (.seq
 (.seq (.row [.mk (some 60) none (.mov (.tmp 0)) [], .mk (some 61) none (.mov (.tmp 8)) [], .mk (some 62) none (.idxStr (.tmp 60) (.tmp 61)) [], .mk (some 63) none (.mov (.tmp 6)) [], .mk (some 64) none (.bin .neq 5 .other (.tmp 62) (.tmp
 63)) []]) (.cond (.tmp 64) (.seq (.row [.mk (some 65) none (.mov (.tmp 0)) [], .mk (some 66) none (.mov (.tmp 8)) [], .mk (some 67) none (.bin .add 3 .other (.tmp 66) (.const (.int .i64 1))) [], .mk (some 68) none (.mov (.tmp 9)) [], .mk
 (some 69) none (.sliceS (.tmp 65) (some (.tmp 67)) (some (.tmp 68))) [], .mk (some 70) none (.mov (.tmp 6)) [], .mk (some 71) none (.call (.func 137) [.tmp 69, .tmp 70]) [], .mk (some 11) none (.mov (.tmp 71)) []]) (.seq (.seq (.row [.mk
 (some 72) none (.mov (.tmp 11)) [], .mk (some 73) none (.bin .lss 3 .other (.tmp 72) (.const (.int .i64 0))) []]) (.cond (.tmp 73) (.seq (.row [.mk (some 4) none (.mov (.const (.int .i64 (-1)))) []]) .ret) .skip)) (.row [.mk (some 74) none
 (.mov (.tmp 8)) [], .mk (some 75) none (.mov (.tmp 11)) [], .mk (some 76) none (.bin .add 3 .other (.tmp 75) (.const (.int .i64 1))) [], .mk (some 77) none (.bin .add 3 .other (.tmp 74) (.tmp 76)) [], .mk (some 8) none (.mov (.tmp 77))
 []]))) .skip)) (.seq (.seq (.row [.mk (some 78) none (.mov (.tmp 0)) [], .mk (some 79) none (.mov (.tmp 8)) [], .mk (some 80) none (.bin .add 3 .other (.tmp 79) (.const (.int .i64 1))) [], .mk (some 81) none (.idxStr (.tmp 78) (.tmp 80))
 [], .mk (some 82) none (.mov (.tmp 7)) [], .mk (some 83) none (.bin .eql 5 .other (.tmp 81) (.tmp 82)) [], .mk (some 84) none (.mov (.tmp 83)) [], .mk (some 85) (some (84, true)) (.mov (.tmp 0)) [], .mk (some 86) (some (84, true)) (.mov
 (.tmp 8)) [], .mk (some 87) (some (84, true)) (.mov (.tmp 8)) [], .mk (some 88) (some (84, true)) (.mov (.tmp 5)) [], .mk (some 89) (some (84, true)) (.bin .add 3 .other (.tmp 87) (.tmp 88)) [], .mk (some 90) (some (84, true)) (.sliceS
 (.tmp 85) (some (.tmp 86)) (some (.tmp 89))) [], .mk (some 91) (some (84, true)) (.mov (.tmp 1)) [], .mk (some 92) (some (84, true)) (.bin .eql 9 .other (.tmp 90) (.tmp 91)) [], .mk (some 93) none (.pick (.tmp 84) (.tmp 92) (.const (.bool
 false))) []]) (.cond (.tmp 93) (.seq (.row [.mk (some 94) none (.mov (.tmp 8)) [], .mk (some 4) none (.mov (.tmp 94)) []]) .ret) .skip)) (.seq (.row [.mk (some 95) none (.mov (.tmp 8)) [], .mk (some 96) none (.bin .add 3 .other (.tmp 95)
 (.const (.int .i64 1))) [], .mk (some 8) none (.mov (.tmp 96)) []]) (.seq (.row [.mk (some 97) none (.mov (.tmp 10)) [], .mk (some 98) none (.bin .add 3 .other (.tmp 97) (.const (.int .i64 1))) [], .mk (some 10) none (.mov (.tmp 98)) []])
 (.seq (.row [.mk (some 99) none (.mov (.tmp 5)) [], .mk (some 100) none (.load none (.global 0)) [], .mk (some 101) none (.bin .leq 3 .other (.tmp 99) (.tmp 100)) [], .mk (some 102) none (.mov (.tmp 101)) [], .mk (some 103) (some (102,
 true)) (.mov (.tmp 10)) [], .mk (some 104) (some (102, true)) (.mov (.tmp 8)) [], .mk (some 105) (some (102, true)) (.call (.func 139) [.tmp 104]) [], .mk (some 106) (some (102, true)) (.bin .gtr 3 .other (.tmp 103) (.tmp 105)) [], .mk
 (some 107) none (.pick (.tmp 102) (.tmp 106) (.const (.bool false))) []]) (.cond (.tmp 107) (.seq (.row [.mk (some 108) none (.mov (.tmp 0)) [], .mk (some 109) none (.mov (.tmp 8)) [], .mk (some 110) none (.sliceS (.tmp 108) (some (.tmp
 109)) none) [], .mk (some 111) none (.mov (.tmp 1)) [], .mk (some 112) none (.call (.func 138) [.tmp 110, .tmp 111]) [], .mk (some 12) none (.mov (.tmp 112)) []]) (.seq (.seq (.row [.mk (some 113) none (.mov (.tmp 12)) [], .mk (some 114)
 none (.bin .geq 3 .other (.tmp 113) (.const (.int .i64 0))) []]) (.cond (.tmp 114) (.seq (.row [.mk (some 115) none (.mov (.tmp 12)) [], .mk (some 116) none (.mov (.tmp 8)) [], .mk (some 117) none (.bin .add 3 .other (.tmp 115) (.tmp 116))
 [], .mk (some 4) none (.mov (.tmp 117)) []]) .ret) .skip)) (.seq (.row [.mk (some 4) none (.mov (.const (.int .i64 (-1)))) []]) .ret))) (.seq (.row [.mk (some 118) none (.mov (.tmp 5)) [], .mk (some 119) none (.load none (.global 0)) [],
 .mk (some 120) none (.bin .gtr 3 .other (.tmp 118) (.tmp 119)) [], .mk (some 121) none (.mov (.tmp 120)) [], .mk (some 122) (some (121, true)) (.mov (.tmp 10)) [], .mk (some 123) (some (121, true)) (.mov (.tmp 8)) [], .mk (some 124) (some
 (121, true)) (.bin .shr 3 .other (.tmp 123) (.const (.int .u64 4))) [], .mk (some 125) (some (121, true)) (.bin .add 3 .other (.const (.int .i64 4)) (.tmp 124)) [], .mk (some 126) (some (121, true)) (.bin .geq 3 .other (.tmp 122) (.tmp
 125)) [], .mk (some 127) none (.pick (.tmp 121) (.tmp 126) (.const (.bool false))) [], .mk (some 128) none (.mov (.tmp 127)) [], .mk (some 129) (some (128, true)) (.mov (.tmp 8)) [], .mk (some 130) (some (128, true)) (.mov (.tmp 9)) [], .mk
 (some 131) (some (128, true)) (.bin .lss 3 .other (.tmp 129) (.tmp 130)) [], .mk (some 132) none (.pick (.tmp 128) (.tmp 131) (.const (.bool false))) []]) (.cond (.tmp 132) (.seq (.row [.mk (some 133) none (.mov (.tmp 0)) [], .mk (some 134)
 none (.mov (.tmp 8)) [], .mk (some 135) none (.sliceS (.tmp 133) (some (.tmp 134)) none) [], .mk (some 136) none (.mov (.tmp 1)) [], .mk (some 137) none (.call (.func 140) [.tmp 135, .tmp 136]) [], .mk (some 13) none (.mov (.tmp 137)) []])
 (.seq (.seq (.row [.mk (some 138) none (.mov (.tmp 13)) [], .mk (some 139) none (.bin .lss 3 .other (.tmp 138) (.const (.int .i64 0))) []]) (.cond (.tmp 139) (.seq (.row [.mk (some 4) none (.mov (.const (.int .i64 (-1)))) []]) .ret) .skip))
 (.seq (.row [.mk (some 140) none (.mov (.tmp 8)) [], .mk (some 141) none (.mov (.tmp 13)) [], .mk (some 142) none (.bin .add 3 .other (.tmp 140) (.tmp 141)) [], .mk (some 4) none (.mov (.tmp 142)) []]) .ret))) .skip)))))))))))) (.seq (.row
 [.mk (some 4) none (.mov (.const (.int .i64 (-1)))) []]) .ret))))))))))
theorem F124_ok : compFn Tryz.prog (byId h124) 124 = some F124 := by kernel_rfl
def h145 : List (Nat × List (Nat × List Nat) × List Nat) := []
def F145 : AFn :=
 AFn.mk 5 [.cell 2 (some 5)] (.seq (.row [.mk (some 2) none (.alloc 170 [.val (.int .i64 0), .val (.string (ByteArray.mk #[])), .val (.int .i64 0), .sl [] [] .full, .val (.int .i64 0)]) []]) (.seq (.row [.mk (some 3) none (.mov (.tmp 0)) [],
 .mk (some 4) none (.call (.func 146) [.tmp 3, .const (.int .i64 0)]) [], .mk none none (.store 5 (.tmp 2) (.tmp 4)) []]) .ret))
theorem F145_ok : compFn Tryz.prog (byId h145) 145 = some F145 := by kernel_rfl
def h157 : List (Nat × List (Nat × List Nat) × List Nat) := []
def F157 : AFn :=
 AFn.mk 16 [.tmp 2] (.seq (.row [.mk (some 2) none (.mov (.const (.string (ByteArray.mk #[])))) []]) (.seq (.seq (.row [.mk (some 4) none (.mov (.const (.int .i64 0))) []]) (.block 0 (.loop (.seq (.row [.mk (some 5) none (.bin .lss 3 .other
 (.tmp 4) (.const (.int .i64 25))) []]) (.seq (.cond (.tmp 5) .skip (.exit 0)) (.seq (.block 1 (.seq (.row [.mk (some 6) none (.mov (.tmp 4)) [], .mk (some 3) none (.mov (.tmp 6)) []]) (.seq (.row [.mk (some 7) none (.mov (.tmp 0)) [], .mk
 (some 8) none (.mov (.tmp 3)) [], .mk (some 9) none (.idxA 25 1 (.global 2) (.tmp 8)) [], .mk (some 10) none (.load none (.tmp 9)) [], .mk (some 11) none (.call (.func 188) [.tmp 7, .tmp 10]) []]) (.cond (.tmp 11) (.seq (.row [.mk (some 12)
 none (.mov (.tmp 3)) [], .mk (some 13) none (.idxA 25 1 (.global 2) (.tmp 12)) [], .mk (some 14) none (.load none (.tmp 13)) [], .mk (some 2) none (.mov (.tmp 14)) []]) .ret) .skip)))) (.row [.mk (some 15) none (.bin .add 3 .other (.tmp 4)
 (.const (.int .i64 1))) [], .mk (some 4) none (.mov (.tmp 15)) []]))))))) (.seq (.row [.mk (some 2) none (.mov (.const (.string (ByteArray.mk #[])))) []]) .ret)))
theorem F157_ok : compFn Tryz.prog (byId h157) 157 = some F157 := by kernel_rfl
def h174 : List (Nat × List (Nat × List Nat) × List Nat) := []
def F174 : AFn :=
 AFn.mk 23 [.tmp 2] (.seq (.row [.mk (some 2) none (.mov (.const (.int .i64 0))) []]) (.seq (.seq (.row [.mk (some 3) none (.mov (.tmp 0)) []]) (.block 0 (.seq (.row [.mk (some 5) none (.bin .eql 9 .other (.tmp 3) (.const (.string
 (ByteArray.mk #[124, 124])))) [], .mk (some 4) none (.mov (.tmp 5)) []]) (.cond (.tmp 4) (.seq (.row [.mk (some 2) none (.mov (.const (.int .i64 0))) []]) .ret) (.seq (.row [.mk (some 7) none (.bin .eql 9 .other (.tmp 3) (.const (.string
 (ByteArray.mk #[38, 38])))) [], .mk (some 6) none (.mov (.tmp 7)) []]) (.cond (.tmp 6) (.seq (.row [.mk (some 2) none (.mov (.const (.int .i64 1))) []]) .ret) (.seq (.seq (.row [.mk (some 9) none (.bin .eql 9 .other (.tmp 3) (.const
 (.string (ByteArray.mk #[61, 61])))) [], .mk (some 8) none (.mov (.tmp 9)) []]) (.cond (.tmp 8) .skip (.row [.mk (some 10) none (.bin .eql 9 .other (.tmp 3) (.const (.string (ByteArray.mk #[33, 61])))) [], .mk (some 8) none (.mov (.tmp 10))
 []]))) (.cond (.tmp 8) (.seq (.row [.mk (some 2) none (.mov (.const (.int .i64 2))) []]) .ret) (.seq (.seq (.row [.mk (some 12) none (.bin .eql 9 .other (.tmp 3) (.const (.string (ByteArray.mk #[60])))) [], .mk (some 11) none (.mov (.tmp
 12)) []]) (.cond (.tmp 11) .skip (.seq (.row [.mk (some 13) none (.bin .eql 9 .other (.tmp 3) (.const (.string (ByteArray.mk #[60, 61])))) [], .mk (some 11) none (.mov (.tmp 13)) []]) (.cond (.tmp 11) .skip (.seq (.row [.mk (some 14) none
 (.bin .eql 9 .other (.tmp 3) (.const (.string (ByteArray.mk #[62])))) [], .mk (some 11) none (.mov (.tmp 14)) []]) (.cond (.tmp 11) .skip (.row [.mk (some 15) none (.bin .eql 9 .other (.tmp 3) (.const (.string (ByteArray.mk #[62, 61]))))
 [], .mk (some 11) none (.mov (.tmp 15)) []]))))))) (.cond (.tmp 11) (.seq (.row [.mk (some 2) none (.mov (.const (.int .i64 3))) []]) .ret) (.seq (.seq (.row [.mk (some 17) none (.bin .eql 9 .other (.tmp 3) (.const (.string (ByteArray.mk
 #[43])))) [], .mk (some 16) none (.mov (.tmp 17)) []]) (.cond (.tmp 16) .skip (.row [.mk (some 18) none (.bin .eql 9 .other (.tmp 3) (.const (.string (ByteArray.mk #[45])))) [], .mk (some 16) none (.mov (.tmp 18)) []]))) (.cond (.tmp 16)
 (.seq (.row [.mk (some 2) none (.mov (.const (.int .i64 4))) []]) .ret) (.seq (.seq (.row [.mk (some 20) none (.bin .eql 9 .other (.tmp 3) (.const (.string (ByteArray.mk #[42])))) [], .mk (some 19) none (.mov (.tmp 20)) []]) (.cond (.tmp
 19) .skip (.seq (.row [.mk (some 21) none (.bin .eql 9 .other (.tmp 3) (.const (.string (ByteArray.mk #[47])))) [], .mk (some 19) none (.mov (.tmp 21)) []]) (.cond (.tmp 19) .skip (.row [.mk (some 22) none (.bin .eql 9 .other (.tmp 3)
 (.const (.string (ByteArray.mk #[37])))) [], .mk (some 19) none (.mov (.tmp 22)) []]))))) (.cond (.tmp 19) (.seq (.row [.mk (some 2) none (.mov (.const (.int .i64 5))) []]) .ret) .skip)))))))))))))) (.seq (.row [.mk (some 2) none (.mov
 (.const (.int .i64 (-1)))) []]) .ret)))
theorem F174_ok : compFn Tryz.prog (byId h174) 174 = some F174 := by kernel_rfl
def h187 : List (Nat × List (Nat × List Nat) × List Nat) := []
def F187 : AFn :=
 AFn.mk 15 [.tmp 2] (.seq (.row [.mk (some 2) none (.mov (.const (.bool false))) []]) (.seq (.row [.mk (some 3) none (.mov (.tmp 0)) [], .mk (some 4) none (.bin .or 5 .other (.tmp 3) (.const (.int .u8 32))) [], .mk (some 5) none (.bin .geq 5
 .other (.tmp 4) (.const (.int .u8 97))) [], .mk (some 6) none (.mov (.tmp 5)) [], .mk (some 7) (some (6, true)) (.mov (.tmp 0)) [], .mk (some 8) (some (6, true)) (.bin .or 5 .other (.tmp 7) (.const (.int .u8 32))) [], .mk (some 9) (some (6,
 true)) (.bin .leq 5 .other (.tmp 8) (.const (.int .u8 122))) [], .mk (some 10) none (.pick (.tmp 6) (.tmp 9) (.const (.bool false))) [], .mk (some 11) none (.mov (.tmp 10)) [], .mk (some 12) (some (11, false)) (.mov (.tmp 0)) [], .mk (some
 13) (some (11, false)) (.bin .eql 5 .other (.tmp 12) (.const (.int .u8 95))) [], .mk (some 14) none (.pick (.tmp 11) (.const (.bool true)) (.tmp 13)) [], .mk (some 2) none (.mov (.tmp 14)) []]) .ret))
theorem F187_ok : compFn Tryz.prog (byId h187) 187 = some F187 := by kernel_rfl
def h201 : List (Nat × List (Nat × List Nat) × List Nat) := []
def F201 : AFn :=
 AFn.mk 19 [.tmp 4] (.seq (.row [.mk (some 4) none (.mov (.const (.bool false))) []]) (.seq (.row [.mk (some 6) none (.mov (.tmp 0)) [], .mk (some 7) none (.mov (.tmp 1)) [], .mk (some 8) none (.call (.func 222) [.tmp 6, .tmp 7]) [], .mk
 (some 5) none (.mov (.tmp 8)) []]) (.seq (.seq (.row [.mk (some 9) none (.mov (.tmp 5)) []]) (.cond (.tmp 9) (.row [.mk (some 10) none (.mov (.tmp 0)) [], .mk (some 11) none (.mov (.tmp 0)) [], .mk (some 12) none (.nilc (.tmp 11)) [], .mk
 (some 13) none (.fieldA 0 (.tmp 12)) [], .mk (some 14) none (.load none (.tmp 13)) [], .mk (some 15) none (.sliceL 5 (.tmp 14) (some (.const (.int .i64 1))) none none) [], .mk (some 16) none (.nilc (.tmp 10)) [], .mk (some 17) none (.fieldA
 0 (.tmp 16)) [], .mk none none (.store 1 (.tmp 17) (.tmp 15)) []]) .skip)) (.seq (.row [.mk (some 18) none (.mov (.tmp 5)) [], .mk (some 4) none (.mov (.tmp 18)) []]) .ret))))
theorem F201_ok : compFn Tryz.prog (byId h201) 201 = some F201 := by kernel_rfl
def h218 : List (Nat × List (Nat × List Nat) × List Nat) := []
def F218 : AFn :=
 AFn.mk 71 [.cell 4 (some 5), .tmp 5] (.seq (.row [.mk (some 4) none (.alloc 179 [.val (.int .i64 0), .val (.string (ByteArray.mk #[])), .val (.int .i64 0), .val (.int .i64 0), .val (.int .i64 0)]) [], .mk (some 5) none (.mov (.const (.int
 .i64 0))) []]) (.seq (.seq (.row [.mk (some 14) none (.mov (.tmp 1)) [], .mk (some 15) none (.idxStr (.tmp 14) (.const (.int .i64 0))) [], .mk (some 6) none (.mov (.tmp 15)) []]) (.block 0 (.seq (.row [.mk (some 17) none (.mov (.tmp 6)) [],
 .mk (some 18) none (.call (.func 187) [.tmp 17]) [], .mk (some 16) none (.mov (.tmp 18)) []]) (.cond (.tmp 16) (.seq (.row [.mk (some 19) none (.mov (.tmp 1)) [], .mk (some 20) none (.call (.func 185) [.tmp 19, .func 232]) [], .mk (some 7)
 none (.mov (.tmp 20)) []]) (.seq (.row [.mk (some 21) none (.mov (.tmp 0)) [], .mk (some 22) none (.mov (.tmp 1)) [], .mk (some 23) none (.mov (.tmp 7)) [], .mk (some 24) none (.sliceS (.tmp 22) none (some (.tmp 23))) [], .mk (some 25) none
 (.call (.func 233) [.tmp 21, .tmp 24]) [], .mk (some 26) none (.mov (.tmp 7)) [], .mk none none (.store 5 (.tmp 4) (.tmp 25)) [], .mk (some 5) none (.mov (.tmp 26)) []]) .ret)) (.seq (.row [.mk (some 28) none (.mov (.tmp 6)) [], .mk (some
 29) none (.call (.func 184) [.tmp 28]) [], .mk (some 27) none (.mov (.tmp 29)) []]) (.cond (.tmp 27) (.seq (.row [.mk (some 30) none (.mov (.tmp 1)) [], .mk (some 31) none (.call (.func 185) [.tmp 30, .func 184]) [], .mk (some 8) none (.mov
 (.tmp 31)) []]) (.seq (.row [.mk (some 33) none (.mov (.tmp 1)) [], .mk (some 34) none (.mov (.tmp 8)) [], .mk (some 35) none (.sliceS (.tmp 33) none (some (.tmp 34))) [], .mk (some 36) none (.call (.func 125) [.tmp 35, .const (.int .i64
 10), .const (.int .i64 64)]) [], .mk (some 32) none (.mov (.tmp 36)) [], .mk (some 37) none (.ext (.tmp 32) 0) [], .mk (some 38) none (.ext (.tmp 32) 1) [], .mk (some 9) none (.mov (.tmp 37)) [], .mk (some 10) none (.mov (.tmp 38)) []])
 (.seq (.seq (.row [.mk (some 39) none (.mov (.tmp 10)) [], .mk (some 40) none (.bin .neq 163 .iface (.tmp 39) (.const .nilIface)) []]) (.cond (.tmp 40) (.row [.mk (some 41) none (.mov (.tmp 0)) [], .mk (some 42) none (.nilc (.tmp 41)) [],
 .mk (some 43) none (.fieldA 3 (.tmp 42)) [], .mk none none (.store 1 (.tmp 43) (.const (.int .i64 5))) []]) .skip)) (.seq (.row [.mk (some 44) none (.mov (.tmp 9)) [], .mk (some 45) none (.build [.val (.int .i64 0), .val (.string
 (ByteArray.mk #[])), .val (.int .i64 0), .val (.int .i64 0), .val (.int .i64 0)] [(0, 1, .const (.int .i64 2)), (2, 1, .tmp 44)]) [], .mk (some 46) none (.mov (.tmp 8)) [], .mk none none (.store 5 (.tmp 4) (.tmp 45)) [], .mk (some 5) none
 (.mov (.tmp 46)) []]) .ret)))) (.seq (.row [.mk (some 48) none (.mov (.tmp 6)) [], .mk (some 49) none (.bin .eql 5 .other (.tmp 48) (.const (.int .u8 34))) [], .mk (some 47) none (.mov (.tmp 49)) []]) (.cond (.tmp 47) (.seq (.row [.mk (some
 51) none (.mov (.tmp 0)) [], .mk (some 52) none (.mov (.tmp 1)) [], .mk (some 53) none (.sliceS (.tmp 52) (some (.const (.int .i64 1))) none) [], .mk (some 54) none (.call (.func 234) [.tmp 51, .tmp 53]) [], .mk (some 50) none (.mov (.tmp
 54)) [], .mk (some 55) none (.ext (.tmp 50) 0) [], .mk (some 56) none (.ext (.tmp 50) 1) [], .mk (some 11) none (.mov (.tmp 55)) [], .mk (some 12) none (.mov (.tmp 56)) []]) (.seq (.row [.mk (some 57) none (.mov (.tmp 11)) [], .mk (some 58)
 none (.build [.val (.int .i64 0), .val (.string (ByteArray.mk #[])), .val (.int .i64 0), .val (.int .i64 0), .val (.int .i64 0)] [(0, 1, .const (.int .i64 3)), (1, 1, .tmp 57)]) [], .mk (some 59) none (.mov (.tmp 12)) [], .mk none none
 (.store 5 (.tmp 4) (.tmp 58)) [], .mk (some 5) none (.mov (.tmp 59)) []]) .ret)) .skip)))))))) (.seq (.row [.mk (some 60) none (.mov (.tmp 1)) [], .mk (some 61) none (.call (.func 157) [.tmp 60]) [], .mk (some 13) none (.mov (.tmp 61)) []])
 (.seq (.seq (.row [.mk (some 62) none (.mov (.tmp 13)) [], .mk (some 63) none (.bin .eql 9 .other (.tmp 62) (.const (.string (ByteArray.mk #[])))) []]) (.cond (.tmp 63) (.row [.mk (some 64) none (.mov (.tmp 0)) [], .mk (some 65) none (.nilc
 (.tmp 64)) [], .mk (some 66) none (.fieldA 3 (.tmp 65)) [], .mk none none (.store 1 (.tmp 66) (.const (.int .i64 6))) []]) .skip)) (.seq (.row [.mk (some 67) none (.mov (.tmp 13)) [], .mk (some 68) none (.build [.val (.int .i64 0), .val
 (.string (ByteArray.mk #[])), .val (.int .i64 0), .val (.int .i64 0), .val (.int .i64 0)] [(0, 1, .const (.int .i64 4)), (1, 1, .tmp 67)]) [], .mk (some 69) none (.mov (.tmp 13)) [], .mk (some 70) none (.len true (.tmp 69)) [], .mk none
 none (.store 5 (.tmp 4) (.tmp 68)) [], .mk (some 5) none (.mov (.tmp 70)) []]) .ret)))))
theorem F218_ok : compFn Tryz.prog (byId h218) 218 = some F218 := by kernel_rfl
def h225 : List (Nat × List (Nat × List Nat) × List Nat) := []
def F225 : AFn :=
 AFn.mk 17 [.tmp 4] (.seq (.row [.mk (some 4) none (.mov (.const (.slice none 0 0))) []]) (.seq (.row [.mk (some 6) none (.mov (.tmp 1)) [], .mk (some 7) none (.call (.tmp 6) []) [], .mk (some 8) none (.lits 5 [.val (.int .i64 0), .val
 (.string (ByteArray.mk #[])), .val (.int .i64 0), .sl [] [] .full, .val (.int .i64 0)] 1 [(0, .tmp 7)]) [], .mk (some 5) none (.mov (.tmp 8)) []]) (.seq (.block 0 (.loop (.seq (.seq (.row [.mk (some 9) none (.mov (.tmp 0)) [], .mk (some 10)
 none (.call (.func 201) [.tmp 9, .const (.string (ByteArray.mk #[44]))]) []]) (.cond (.tmp 10) .skip (.exit 0))) (.block 1 (.row [.mk (some 11) none (.mov (.tmp 5)) [], .mk (some 12) none (.mov (.tmp 1)) [], .mk (some 13) none (.call (.tmp
 12) []) [], .mk (some 14) none (.lits 5 [.val (.int .i64 0), .val (.string (ByteArray.mk #[])), .val (.int .i64 0), .sl [] [] .full, .val (.int .i64 0)] 1 [(0, .tmp 13)]) [], .mk (some 15) none (.app 170 64 5 (.tmp 11) (.tmp 14)) [], .mk
 (some 5) none (.mov (.tmp 15)) []]))))) (.seq (.row [.mk (some 16) none (.mov (.tmp 5)) [], .mk (some 4) none (.mov (.tmp 16)) []]) .ret))))
theorem F225_ok : compFn Tryz.prog (byId h225) 225 = some F225 := by kernel_rfl
def h232 : List (Nat × List (Nat × List Nat) × List Nat) := []
def F232 : AFn :=
 AFn.mk 9 [.tmp 2] (.seq (.row [.mk (some 2) none (.mov (.const (.bool false))) []]) (.seq (.row [.mk (some 3) none (.mov (.tmp 0)) [], .mk (some 4) none (.call (.func 187) [.tmp 3]) [], .mk (some 5) none (.mov (.tmp 4)) [], .mk (some 6)
 (some (5, false)) (.mov (.tmp 0)) [], .mk (some 7) (some (5, false)) (.call (.func 184) [.tmp 6]) [], .mk (some 8) none (.pick (.tmp 5) (.const (.bool true)) (.tmp 7)) [], .mk (some 2) none (.mov (.tmp 8)) []]) .ret))
theorem F232_ok : compFn Tryz.prog (byId h232) 232 = some F232 := by kernel_rfl
def h244 : List (Nat × List (Nat × List Nat) × List Nat) := []
def F244 : AFn :=
 AFn.mk 17 [.tmp 4] (.seq (.row [.mk (some 4) none (.mov (.const .nilIface)) []]) (.seq (.row [.mk (some 5) none (.mov (.tmp 0)) [], .mk (some 6) none (.call (.func 251) [.tmp 5]) []]) (.seq (.row [.mk (some 7) none (.mov (.tmp 0)) [], .mk
 (some 8) none (.mov (.tmp 0)) [], .mk (some 9) none (.nilc (.tmp 8)) [], .mk (some 10) none (.fieldA 1 (.tmp 9)) [], .mk (some 11) none (.load none (.tmp 10)) [], .mk (some 12) none (.mov (.tmp 1)) [], .mk (some 13) none (.lits 1 [.val
 (.int .u8 0)] 1 [(0, .tmp 12)]) [], .mk (some 14) none (.app 5 1 1 (.tmp 11) (.tmp 13)) [], .mk (some 15) none (.nilc (.tmp 7)) [], .mk (some 16) none (.fieldA 1 (.tmp 15)) [], .mk none none (.store 1 (.tmp 16) (.tmp 14)) []]) (.seq (.row
 [.mk (some 4) none (.mov (.const .nilIface)) []]) .ret))))
theorem F244_ok : compFn Tryz.prog (byId h244) 244 = some F244 := by kernel_rfl
def h17 : List (Nat × List (Nat × List Nat) × List Nat) := []
def F17 : AFn :=
 AFn.mk 46 [.tmp 0] (.seq (.row [.mk (some 0) none (.mov (.const (.bool false))) []]) (.seq (.row [.mk (some 4) none (.build [.val (.int .i64 0), .val (.int .i64 0), .val (.string (ByteArray.mk #[]))] [(0, 1, .const (.int .i64 10)), (1, 1,
 .const (.int .i64 12)), (2, 1, .const (.string (ByteArray.mk #[97, 32, 62, 32, 49])))]) [], .mk (some 5) none (.call (.func 18) [.tmp 4]) [], .mk (some 3) none (.mov (.tmp 5)) [], .mk (some 6) none (.ext (.tmp 3) 0) [], .mk (some 7) none
 (.ext (.tmp 3) 1) [], .mk (some 1) none (.mov (.tmp 6)) [], .mk (some 2) none (.mov (.tmp 7)) []]) (.seq (.row [.mk (some 8) none (.build [.val (.int .i64 0), .val (.int .i64 0), .val (.string (ByteArray.mk #[]))] [(0, 1, .const (.int .i64
 5))]) [], .mk (some 9) none (.call (.func 61) [.const (.string (ByteArray.mk #[98, 97, 99, 107, 45, 115, 116, 101, 112])), .tmp 8, .const (.int .i64 0)]) [], .mk (some 10) none (.mov (.tmp 9)) [], .mk (some 11) (some (10, true)) (.build
 [.val (.int .i64 0), .val (.int .i64 0), .val (.string (ByteArray.mk #[]))] [(0, 1, .const (.int .i64 10)), (1, 1, .const (.int .i64 12)), (2, 1, .const (.string (ByteArray.mk #[97, 32, 62, 32, 49])))]) [], .mk (some 12) (some (10, true))
 (.call (.func 61) [.const (.string (ByteArray.mk #[98, 114, 101, 97, 107, 32, 49, 50, 32, 105, 102, 32, 97, 32, 62, 32, 49])), .tmp 11, .const (.int .i64 0)]) [], .mk (some 13) none (.pick (.tmp 10) (.tmp 12) (.const (.bool false))) [], .mk
 (some 14) none (.mov (.tmp 13)) [], .mk (some 15) (some (14, true)) (.build [.val (.int .i64 0), .val (.int .i64 0), .val (.string (ByteArray.mk #[]))] [(0, 1, .const (.int .i64 9))]) [], .mk (some 16) (some (14, true)) (.call (.func 61)
 [.const (.string (ByteArray.mk #[103, 111, 116, 111, 32, 48])), .tmp 15, .const (.int .i64 0)]) [], .mk (some 17) none (.pick (.tmp 14) (.tmp 16) (.const (.bool false))) [], .mk (some 18) none (.mov (.tmp 17)) [], .mk (some 19) (some (18,
 true)) (.build [.val (.int .i64 0), .val (.int .i64 0), .val (.string (ByteArray.mk #[]))] []) [], .mk (some 20) (some (18, true)) (.call (.func 61) [.const (.string (ByteArray.mk #[103, 111, 116, 111, 32, 48, 49])), .tmp 19, .const (.int
 .i64 6)]) [], .mk (some 21) none (.pick (.tmp 18) (.tmp 20) (.const (.bool false))) [], .mk (some 22) none (.mov (.tmp 21)) [], .mk (some 23) (some (22, true)) (.build [.val (.int .i64 0), .val (.int .i64 0), .val (.string (ByteArray.mk
 #[]))] []) [], .mk (some 24) (some (22, true)) (.call (.func 61) [.const (.string (ByteArray.mk #[103, 111, 116, 111])), .tmp 23, .const (.int .i64 6)]) [], .mk (some 25) none (.pick (.tmp 22) (.tmp 24) (.const (.bool false))) [], .mk (some
 26) none (.mov (.tmp 25)) [], .mk (some 27) (some (26, true)) (.build [.val (.int .i64 0), .val (.int .i64 0), .val (.string (ByteArray.mk #[]))] []) [], .mk (some 28) (some (26, true)) (.call (.func 61) [.const (.string (ByteArray.mk
 #[115, 116, 101, 112, 32, 49])), .tmp 27, .const (.int .i64 6)]) [], .mk (some 29) none (.pick (.tmp 26) (.tmp 28) (.const (.bool false))) [], .mk (some 30) none (.mov (.tmp 29)) [], .mk (some 31) (some (30, true)) (.build [.val (.int .i64
 0), .val (.int .i64 0), .val (.string (ByteArray.mk #[]))] []) [], .mk (some 32) (some (30, true)) (.call (.func 61) [.const (.string (ByteArray.mk #[98, 114, 101, 97, 107, 32, 49, 32, 105, 102])), .tmp 31, .const (.int .i64 6)]) [], .mk
 (some 33) none (.pick (.tmp 30) (.tmp 32) (.const (.bool false))) [], .mk (some 34) none (.mov (.tmp 33)) [], .mk (some 35) (some (34, true)) (.build [.val (.int .i64 0), .val (.int .i64 0), .val (.string (ByteArray.mk #[]))] []) [], .mk
 (some 36) (some (34, true)) (.call (.func 61) [.const (.string (ByteArray.mk #[112, 114, 105, 110, 116, 32, 49, 32, 43])), .tmp 35, .const (.int .i64 6)]) [], .mk (some 37) none (.pick (.tmp 34) (.tmp 36) (.const (.bool false))) [], .mk
 (some 38) none (.mov (.tmp 37)) [], .mk (some 39) (some (38, true)) (.mov (.tmp 1)) [], .mk (some 40) (some (38, true)) (.bin .eql 9 .other (.tmp 39) (.const (.string (ByteArray.mk #[98, 114, 101, 97, 107, 32, 49, 50, 32, 105, 102, 32, 97,
 32, 62, 32, 49])))) [], .mk (some 41) none (.pick (.tmp 38) (.tmp 40) (.const (.bool false))) [], .mk (some 42) none (.mov (.tmp 41)) [], .mk (some 43) (some (42, true)) (.mov (.tmp 2)) [], .mk (some 44) (some (42, true)) (.bin .eql 25
 .other (.tmp 43) (.const (.int .i64 0))) [], .mk (some 45) none (.pick (.tmp 42) (.tmp 44) (.const (.bool false))) [], .mk (some 0) none (.mov (.tmp 45)) []]) .ret)))
theorem F17_ok : compFn Tryz.prog (byId h17) 17 = some F17 := by kernel_rfl
def h25 : List (Nat × List (Nat × List Nat) × List Nat) := [(1, [(0, []), (1, []), (2, []), (4, []), (5, []), (7, []), (8, []), (3, [5, 8]), (6, [8]), (9, []), (10, [])], [0, 0, 2, 7, 0, 16, 63, 0, 128, 511, 1023])]
def F25 : AFn :=
 AFn.mk 15 [.tmp 4] (.seq (.row [.mk (some 3) none (.box 24 (.tmp 1)) [], .mk (some 4) none (.mov (.const (.slice none 0 0))) []]) (.seq (.row [.mk (some 5) none (.mov (.tmp 0)) [], .mk (some 6) none (.fieldA 0 (.tmp 3)) [], .mk (some 7)
 none (.load none (.tmp 6)) [], .mk (some 9) none (.fieldA 1 (.tmp 3)) [], .mk (some 10) none (.load none (.tmp 9)) [], .mk (some 12) none (.fieldA 2 (.tmp 3)) [], .mk (some 13) none (.load none (.tmp 12)) [], .mk (some 8) none (.call (.func
 69) [.tmp 5, .tmp 7]) [(10, none, .load none (.tmp 9)), (13, none, .load none (.tmp 12))], .mk (some 11) none (.call (.func 69) [.tmp 8, .tmp 10]) [(13, none, .load none (.tmp 12))], .mk (some 14) none (.call (.func 68) [.tmp 11, .tmp 13])
 [], .mk (some 4) none (.mov (.tmp 14)) []]) .ret))
theorem F25_ok : compFn Tryz.prog (byId h25) 25 = some F25 := by kernel_rfl
def h29 : List (Nat × List (Nat × List Nat) × List Nat) := []
def F29 : AFn :=
 AFn.mk 5 [.tmp 2] (.seq (.row [.mk (some 2) none (.mov (.const (.int .i64 0))) []]) (.seq (.row [.mk (some 3) none (.mov (.tmp 0)) [], .mk (some 4) none (.call (.func 72) [.tmp 3, .func 73]) [], .mk (some 2) none (.mov (.tmp 4)) []]) .ret))
theorem F29_ok : compFn Tryz.prog (byId h29) 29 = some F29 := by kernel_rfl
def h57 : List (Nat × List (Nat × List Nat) × List Nat) := [(2, [(0, []), (1, []), (2, []), (3, []), (4, []), (5, []), (6, []), (7, []), (8, []), (9, []), (10, []), (11, []), (12, []), (13, [])], [0, 1, 3, 7, 15, 31, 63, 127, 255, 511, 1023, 127, 2175, 8191])]
def F57 : AFn :=
 AFn.mk 65 [.tmp 6, .tmp 7, .tmp 8] (.seq (.row [.mk (some 3) none (.box 100 (.tmp 0)) [], .mk (some 6) none (.mov (.const (.int .i64 0))) [], .mk (some 7) none (.mov (.const (.string (ByteArray.mk #[])))) [], .mk (some 8) none (.mov (.const
 (.bool false))) []]) (.seq (.seq (.row [.mk (some 11) none (.mov (.tmp 2)) [], .mk (some 12) none (.mov (.tmp 11)) [], .mk (some 13) (some (12, false)) (.fieldA 2 (.tmp 3)) [], .mk (some 14) (some (12, false)) (.load none (.tmp 13)) [], .mk
 (some 15) (some (12, false)) (.un .not (.tmp 14)) [], .mk (some 16) (some (12, false)) (.mov (.tmp 15)) [], .mk (some 17) (some (16, true)) (.fieldA 3 (.tmp 3)) [], .mk (some 18) (some (16, true)) (.load none (.tmp 17)) [], .mk (some 19)
 (some (16, true)) (.un .not (.tmp 18)) [], .mk (some 20) (some (12, false)) (.pick (.tmp 16) (.tmp 19) (.const (.bool false))) [], .mk (some 21) none (.pick (.tmp 12) (.const (.bool true)) (.tmp 20)) []]) (.cond (.tmp 21) (.seq (.row [.mk
 (some 22) none (.mov (.tmp 2)) [], .mk (some 23) none (.mov (.tmp 22)) [], .mk (some 24) (some (23, true)) (.fieldA 2 (.tmp 3)) [], .mk (some 25) (some (23, true)) (.load none (.tmp 24)) [], .mk (some 26) (some (23, true)) (.un .not (.tmp
 25)) [], .mk (some 27) none (.pick (.tmp 23) (.tmp 26) (.const (.bool false))) [], .mk (some 28) none (.mov (.tmp 27)) [], .mk (some 29) (some (28, true)) (.fieldA 3 (.tmp 3)) [], .mk (some 30) (some (28, true)) (.load none (.tmp 29)) [],
 .mk (some 31) (some (28, true)) (.un .not (.tmp 30)) [], .mk (some 32) none (.pick (.tmp 28) (.tmp 31) (.const (.bool false))) [], .mk (some 6) none (.mov (.const (.int .i64 0))) [], .mk (some 7) none (.mov (.const (.string (ByteArray.mk
 #[])))) [], .mk (some 8) none (.mov (.tmp 32)) []]) .ret) .skip)) (.seq (.seq (.row [.mk (some 33) none (.fieldA 2 (.tmp 3)) [], .mk (some 34) none (.load none (.tmp 33)) [], .mk (some 35) none (.un .not (.tmp 34)) []]) (.cond (.tmp 35)
 (.seq (.row [.mk (some 36) none (.mov (.tmp 1)) [], .mk (some 6) none (.mov (.const (.int .i64 0))) [], .mk (some 7) none (.mov (.tmp 36)) [], .mk (some 8) none (.mov (.const (.bool true))) []]) .ret) .skip)) (.seq (.row [.mk (some 38) none
 (.mov (.tmp 1)) [], .mk (some 39) none (.call (.func 100) [.tmp 38]) [], .mk (some 37) none (.mov (.tmp 39)) [], .mk (some 40) none (.ext (.tmp 37) 0) [], .mk (some 41) none (.ext (.tmp 37) 1) [], .mk (some 42) none (.ext (.tmp 37) 2) [],
 .mk (some 6) none (.mov (.tmp 40)) [], .mk (some 1) none (.mov (.tmp 41)) [], .mk (some 9) none (.mov (.tmp 42)) []]) (.seq (.seq (.row [.mk (some 43) none (.mov (.tmp 9)) [], .mk (some 44) none (.un .not (.tmp 43)) []]) (.cond (.tmp 44)
 (.seq (.row [.mk (some 45) none (.mov (.tmp 6)) [], .mk (some 46) none (.mov (.tmp 6)) [], .mk (some 47) none (.bin .geq 3 .other (.tmp 46) (.const (.int .i64 0))) [], .mk (some 6) none (.mov (.tmp 45)) [], .mk (some 7) none (.mov (.const
 (.string (ByteArray.mk #[])))) [], .mk (some 8) none (.mov (.tmp 47)) []]) .ret) .skip)) (.seq (.row [.mk (some 10) none (.mov (.func 101)) []]) (.seq (.row [.mk (some 49) none (.mov (.tmp 10)) [], .mk (some 50) none (.mov (.tmp 1)) [], .mk
 (some 51) none (.call (.tmp 49) [.tmp 50]) [], .mk (some 48) none (.mov (.tmp 51)) [], .mk (some 52) none (.ext (.tmp 48) 0) [], .mk (some 53) none (.ext (.tmp 48) 1) [], .mk (some 7) none (.mov (.tmp 52)) [], .mk (some 8) none (.mov (.tmp
 53)) []]) (.seq (.row [.mk (some 54) none (.mov (.tmp 6)) [], .mk (some 55) none (.mov (.tmp 7)) [], .mk (some 56) none (.mov (.tmp 8)) [], .mk (some 57) none (.mov (.tmp 56)) [], .mk (some 58) (some (57, true)) (.fieldA 3 (.tmp 3)) [], .mk
 (some 59) (some (57, true)) (.load none (.tmp 58)) [], .mk (some 60) none (.pick (.tmp 57) (.tmp 59) (.const (.bool false))) [], .mk (some 61) none (.mov (.tmp 60)) [], .mk (some 62) (some (61, true)) (.mov (.tmp 7)) [], .mk (some 63) (some
 (61, true)) (.bin .neq 9 .other (.tmp 62) (.const (.string (ByteArray.mk #[])))) [], .mk (some 64) none (.pick (.tmp 61) (.tmp 63) (.const (.bool false))) [], .mk (some 6) none (.mov (.tmp 54)) [], .mk (some 7) none (.mov (.tmp 55)) [], .mk
 (some 8) none (.mov (.tmp 64)) []]) .ret))))))))
theorem F57_ok : compFn Tryz.prog (byId h57) 57 = some F57 := by kernel_rfl
def h61 : List (Nat × List (Nat × List Nat) × List Nat) := []
def F61 : AFn :=
 AFn.mk 22 [.tmp 6] (.seq (.row [.mk (some 4) none (.box 24 (.tmp 1)) [], .mk (some 6) none (.mov (.const (.bool false))) []]) (.seq (.row [.mk (some 10) none (.mov (.tmp 0)) [], .mk (some 11) none (.call (.func 15) [.tmp 10]) [], .mk (some
 9) none (.mov (.tmp 11)) [], .mk (some 12) none (.ext (.tmp 9) 0) [], .mk (some 13) none (.ext (.tmp 9) 1) [], .mk (some 7) none (.alloc 24 [.val (.int .i64 0), .val (.int .i64 0), .val (.string (ByteArray.mk #[]))]) [], .mk none none
 (.store 3 (.tmp 7) (.tmp 12)) [], .mk (some 8) none (.mov (.tmp 13)) []]) (.seq (.row [.mk (some 14) none (.load (some 3) (.tmp 7)) [], .mk (some 15) none (.load (some 3) (.tmp 4)) [], .mk (some 16) none (.bin .eql 24 .other (.tmp 14) (.tmp
 15)) [], .mk (some 17) none (.mov (.tmp 16)) [], .mk (some 18) (some (17, true)) (.mov (.tmp 8)) [], .mk (some 19) (some (17, true)) (.mov (.tmp 2)) [], .mk (some 20) (some (17, true)) (.bin .eql 25 .other (.tmp 18) (.tmp 19)) [], .mk (some
 21) none (.pick (.tmp 17) (.tmp 20) (.const (.bool false))) [], .mk (some 6) none (.mov (.tmp 21)) []]) .ret)))
theorem F61_ok : compFn Tryz.prog (byId h61) 61 = some F61 := by kernel_rfl
def h65 : List (Nat × List (Nat × List Nat) × List Nat) := []
def F65 : AFn :=
 AFn.mk 8 [.tmp 4] (.seq (.row [.mk (some 3) none (.box 3 (.tmp 1)) [], .mk (some 4) none (.mov (.const (.string (ByteArray.mk #[])))) []]) (.seq (.row [.mk (some 5) none (.mov (.tmp 0)) [], .mk (some 6) none (.mkf (.func 108) [] [.tmp 3])
 [], .mk (some 7) none (.call (.func 107) [.tmp 5, .tmp 6]) [], .mk (some 4) none (.mov (.tmp 7)) []]) .ret))
theorem F65_ok : compFn Tryz.prog (byId h65) 65 = some F65 := by kernel_rfl
def h69 : List (Nat × List (Nat × List Nat) × List Nat) := []
def F69 : AFn :=
 AFn.mk 23 [.tmp 4] (.seq (.row [.mk (some 4) none (.mov (.const (.slice none 0 0))) []]) (.seq (.row [.mk (some 6) none (.mov (.tmp 1)) [], .mk (some 7) none (.call (.func 114) [.tmp 6]) [], .mk (some 5) none (.mov (.tmp 7)) []]) (.seq
 (.block 0 (.loop (.seq (.seq (.row [.mk (some 8) none (.mov (.tmp 5)) [], .mk (some 9) none (.bin .geq 154 .other (.tmp 8) (.const (.int .u64 128))) []]) (.cond (.tmp 9) .skip (.exit 0))) (.seq (.block 1 (.row [.mk (some 12) none (.mov
 (.tmp 0)) [], .mk (some 13) none (.mov (.tmp 5)) [], .mk (some 14) none (.conv 154 5 (.tmp 13)) [], .mk (some 15) none (.bin .or 5 .other (.tmp 14) (.const (.int .u8 128))) [], .mk (some 16) none (.lits 1 [.val (.int .u8 0)] 1 [(0, .tmp
 15)]) [], .mk (some 17) none (.app 5 1 1 (.tmp 12) (.tmp 16)) [], .mk (some 0) none (.mov (.tmp 17)) []])) (.row [.mk (some 10) none (.mov (.tmp 5)) [], .mk (some 11) none (.bin .shr 154 .other (.tmp 10) (.const (.int .u64 7))) [], .mk
 (some 5) none (.mov (.tmp 11)) []]))))) (.seq (.row [.mk (some 18) none (.mov (.tmp 0)) [], .mk (some 19) none (.mov (.tmp 5)) [], .mk (some 20) none (.conv 154 5 (.tmp 19)) [], .mk (some 21) none (.lits 1 [.val (.int .u8 0)] 1 [(0, .tmp
 20)]) [], .mk (some 22) none (.app 5 1 1 (.tmp 18) (.tmp 21)) [], .mk (some 4) none (.mov (.tmp 22)) []]) .ret))))
theorem F69_ok : compFn Tryz.prog (byId h69) 69 = some F69 := by kernel_rfl
def h73 : List (Nat × List (Nat × List Nat) × List Nat) := []
def F73 : AFn :=
 AFn.mk 46 [.tmp 2, .tmp 3, .tmp 4] (.seq (.row [.mk (some 2) none (.mov (.const (.int .i64 0))) [], .mk (some 3) none (.mov (.const (.int .i64 0))) [], .mk (some 4) none (.mov (.const (.int .i64 0))) []]) (.seq (.row [.mk (some 5) none
 (.mov (.const (.int .u64 0))) []]) (.seq (.seq (.row [.mk (some 8) none (.mov (.const (.int .i64 0))) []]) (.block 0 (.loop (.seq (.row [.mk (some 9) none (.bin .lss 3 .other (.tmp 8) (.const (.int .i64 10))) []]) (.seq (.cond (.tmp 9)
 .skip (.exit 0)) (.seq (.block 1 (.seq (.row [.mk (some 10) none (.mov (.tmp 8)) [], .mk (some 6) none (.mov (.tmp 10)) []]) (.seq (.seq (.row [.mk (some 11) none (.mov (.tmp 6)) [], .mk (some 12) none (.mov (.tmp 0)) [], .mk (some 13) none
 (.len true (.tmp 12)) [], .mk (some 14) none (.bin .eql 3 .other (.tmp 11) (.tmp 13)) []]) (.cond (.tmp 14) (.seq (.row [.mk (some 2) none (.mov (.const (.int .i64 0))) [], .mk (some 3) none (.mov (.const (.int .i64 0))) [], .mk (some 4)
 none (.mov (.const (.int .i64 3))) []]) .ret) .skip)) (.seq (.row [.mk (some 15) none (.mov (.tmp 0)) [], .mk (some 16) none (.mov (.tmp 6)) [], .mk (some 17) none (.idxStr (.tmp 15) (.tmp 16)) [], .mk (some 7) none (.mov (.tmp 17)) []])
 (.seq (.seq (.row [.mk (some 18) none (.mov (.tmp 6)) [], .mk (some 19) none (.bin .eql 3 .other (.tmp 18) (.const (.int .i64 9))) [], .mk (some 20) none (.mov (.tmp 19)) [], .mk (some 21) (some (20, true)) (.mov (.tmp 7)) [], .mk (some 22)
 (some (20, true)) (.bin .neq 5 .other (.tmp 21) (.const (.int .u8 1))) [], .mk (some 23) none (.pick (.tmp 20) (.tmp 22) (.const (.bool false))) []]) (.cond (.tmp 23) (.exit 0) .skip)) (.seq (.row [.mk (some 24) none (.mov (.tmp 5)) [], .mk
 (some 25) none (.mov (.tmp 7)) [], .mk (some 26) none (.bin .and 5 .other (.tmp 25) (.const (.int .u8 127))) [], .mk (some 27) none (.conv 5 154 (.tmp 26)) [], .mk (some 28) none (.mov (.tmp 6)) [], .mk (some 29) none (.bin .mul 3 .other
 (.const (.int .i64 7)) (.tmp 28)) [], .mk (some 30) none (.bin .shl 154 .other (.tmp 27) (.tmp 29)) [], .mk (some 31) none (.bin .or 154 .other (.tmp 24) (.tmp 30)) [], .mk (some 5) none (.mov (.tmp 31)) []]) (.seq (.seq (.row [.mk (some
 32) none (.mov (.tmp 7)) [], .mk (some 33) none (.bin .and 5 .other (.tmp 32) (.const (.int .u8 128))) [], .mk (some 34) none (.bin .neq 5 .other (.tmp 33) (.const (.int .u8 0))) []]) (.cond (.tmp 34) (.exit 1) .skip)) (.seq (.seq (.row
 [.mk (some 35) none (.mov (.tmp 7)) [], .mk (some 36) none (.bin .eql 5 .other (.tmp 35) (.const (.int .u8 0))) [], .mk (some 37) none (.mov (.tmp 36)) [], .mk (some 38) (some (37, true)) (.mov (.tmp 6)) [], .mk (some 39) (some (37, true))
 (.bin .gtr 3 .other (.tmp 38) (.const (.int .i64 0))) [], .mk (some 40) none (.pick (.tmp 37) (.tmp 39) (.const (.bool false))) []]) (.cond (.tmp 40) (.exit 0) .skip)) (.seq (.row [.mk (some 41) none (.mov (.tmp 5)) [], .mk (some 42) none
 (.call (.func 116) [.tmp 41]) [], .mk (some 43) none (.mov (.tmp 6)) [], .mk (some 44) none (.bin .add 3 .other (.tmp 43) (.const (.int .i64 1))) [], .mk (some 2) none (.mov (.tmp 42)) [], .mk (some 3) none (.mov (.tmp 44)) [], .mk (some 4)
 none (.mov (.const (.int .i64 0))) []]) .ret))))))))) (.row [.mk (some 45) none (.bin .add 3 .other (.tmp 8) (.const (.int .i64 1))) [], .mk (some 8) none (.mov (.tmp 45)) []]))))))) (.seq (.row [.mk (some 2) none (.mov (.const (.int .i64
 0))) [], .mk (some 3) none (.mov (.const (.int .i64 0))) [], .mk (some 4) none (.mov (.const (.int .i64 4))) []]) .ret))))
theorem F73_ok : compFn Tryz.prog (byId h73) 73 = some F73 := by kernel_rfl
def h101 : List (Nat × List (Nat × List Nat) × List Nat) := []
def F101 : AFn :=
 AFn.mk 8 [.tmp 2, .tmp 3] (.seq (.row [.mk (some 2) none (.mov (.const (.string (ByteArray.mk #[])))) [], .mk (some 3) none (.mov (.const (.bool false))) []]) (.seq (.row [.mk (some 4) none (.mov (.tmp 0)) [], .mk (some 5) none (.call
 (.func 102) [.tmp 4, .const (.string (ByteArray.mk #[105, 102, 32]))]) [], .mk (some 6) none (.ext (.tmp 5) 0) [], .mk (some 7) none (.ext (.tmp 5) 1) [], .mk (some 2) none (.mov (.tmp 6)) [], .mk (some 3) none (.mov (.tmp 7)) []]) .ret))
theorem F101_ok : compFn Tryz.prog (byId h101) 101 = some F101 := by kernel_rfl
def h109 : List (Nat × List (Nat × List Nat) × List Nat) := []
def F109 : AFn :=
 AFn.mk 30 [.tmp 4, .tmp 5, .tmp 6] (.seq (.row [.mk (some 4) none (.mov (.const (.int .i64 0))) [], .mk (some 5) none (.mov (.const (.int .i64 0))) [], .mk (some 6) none (.mov (.const (.int .i64 0))) []]) (.seq (.row [.mk (some 11) none
 (.mov (.tmp 0)) [], .mk (some 12) none (.call (.func 73) [.tmp 11]) [], .mk (some 10) none (.mov (.tmp 12)) [], .mk (some 13) none (.ext (.tmp 10) 0) [], .mk (some 14) none (.ext (.tmp 10) 1) [], .mk (some 15) none (.ext (.tmp 10) 2) [],
 .mk (some 7) none (.mov (.tmp 13)) [], .mk (some 8) none (.mov (.tmp 14)) [], .mk (some 9) none (.mov (.tmp 15)) []]) (.seq (.block 0 (.seq (.row [.mk (some 17) none (.mov (.tmp 9)) [], .mk (some 18) none (.bin .neq 25 .other (.tmp 17)
 (.const (.int .i64 0))) [], .mk (some 16) none (.mov (.tmp 18)) []]) (.cond (.tmp 16) (.seq (.row [.mk (some 19) none (.mov (.tmp 9)) [], .mk (some 4) none (.mov (.const (.int .i64 0))) [], .mk (some 5) none (.mov (.const (.int .i64 0)))
 [], .mk (some 6) none (.mov (.tmp 19)) []]) .ret) (.seq (.row [.mk (some 21) none (.mov (.tmp 7)) [], .mk (some 22) none (.bin .lss 3 .other (.tmp 21) (.const (.int .i64 0))) [], .mk (some 20) none (.mov (.tmp 22)) []]) (.cond (.tmp 20)
 (.seq (.row [.mk (some 4) none (.mov (.const (.int .i64 0))) [], .mk (some 5) none (.mov (.const (.int .i64 0))) [], .mk (some 6) none (.mov (.const (.int .i64 4))) []]) .ret) (.seq (.row [.mk (some 24) none (.mov (.tmp 7)) [], .mk (some
 25) none (.mov (.tmp 1)) [], .mk (some 26) none (.mm true [.const (.int .i64 0), .tmp 25]) [], .mk (some 27) none (.bin .gtr 3 .other (.tmp 24) (.tmp 26)) [], .mk (some 23) none (.mov (.tmp 27)) []]) (.cond (.tmp 23) (.seq (.row [.mk (some
 4) none (.mov (.const (.int .i64 0))) [], .mk (some 5) none (.mov (.const (.int .i64 0))) [], .mk (some 6) none (.mov (.const (.int .i64 5))) []]) .ret) .skip))))))) (.seq (.row [.mk (some 28) none (.mov (.tmp 7)) [], .mk (some 29) none
 (.mov (.tmp 8)) [], .mk (some 4) none (.mov (.tmp 28)) [], .mk (some 5) none (.mov (.tmp 29)) [], .mk (some 6) none (.mov (.const (.int .i64 0))) []]) .ret))))
theorem F109_ok : compFn Tryz.prog (byId h109) 109 = some F109 := by kernel_rfl
def h113 : List (Nat × List (Nat × List Nat) × List Nat) := []
def F113 : AFn :=
 AFn.mk 41 [.cell 4 (some 3), .tmp 5] (.seq (.row [.mk (some 2) none (.box 45 (.tmp 0)) [], .mk (some 4) none (.alloc 45 [.val (.string (ByteArray.mk #[])), .val (.int .i64 0), .val (.int .i64 0)]) [], .mk (some 5) none (.mov (.const (.int
 .i64 0))) []]) (.seq (.seq (.row [.mk (some 9) none (.fieldA 2 (.tmp 2)) [], .mk (some 10) none (.load none (.tmp 9)) [], .mk (some 11) none (.bin .neq 3 .other (.tmp 10) (.const (.int .i64 0))) []]) (.cond (.tmp 11) (.seq (.row [.mk (some
 12) none (.load (some 3) (.tmp 2)) [], .mk none none (.store 3 (.tmp 4) (.tmp 12)) [], .mk (some 5) none (.mov (.const (.int .i64 0))) []]) .ret) .skip)) (.seq (.row [.mk (some 14) none (.fieldA 0 (.tmp 2)) [], .mk (some 15) none (.load
 none (.tmp 14)) [], .mk (some 16) none (.fieldA 1 (.tmp 2)) [], .mk (some 17) none (.load none (.tmp 16)) [], .mk (some 18) none (.call (.func 111) [.tmp 15, .tmp 17]) [], .mk (some 13) none (.mov (.tmp 18)) [], .mk (some 19) none (.ext
 (.tmp 13) 0) [], .mk (some 20) none (.ext (.tmp 13) 1) [], .mk (some 21) none (.ext (.tmp 13) 2) [], .mk (some 6) none (.mov (.tmp 19)) [], .mk (some 7) none (.mov (.tmp 20)) [], .mk (some 8) none (.mov (.tmp 21)) []]) (.seq (.seq (.row
 [.mk (some 22) none (.mov (.tmp 8)) [], .mk (some 23) none (.bin .neq 3 .other (.tmp 22) (.const (.int .i64 0))) []]) (.cond (.tmp 23) (.seq (.row [.mk (some 24) none (.load (some 3) (.tmp 2)) [], .mk (some 25) none (.mov (.tmp 8)) [], .mk
 (some 26) none (.call (.func 112) [.tmp 24, .tmp 25]) [], .mk none none (.store 3 (.tmp 4) (.tmp 26)) [], .mk (some 5) none (.mov (.const (.int .i64 0))) []]) .ret) .skip)) (.seq (.seq (.row [.mk (some 27) none (.mov (.tmp 6)) [], .mk (some
 28) none (.bin .lss 3 .other (.tmp 27) (.const (.int .i64 0))) []]) (.cond (.tmp 28) (.seq (.row [.mk (some 29) none (.load (some 3) (.tmp 2)) [], .mk (some 30) none (.call (.func 112) [.tmp 29, .const (.int .i64 4)]) [], .mk none none
 (.store 3 (.tmp 4) (.tmp 30)) [], .mk (some 5) none (.mov (.const (.int .i64 0))) []]) .ret) .skip)) (.seq (.seq (.row [.mk (some 31) none (.mov (.tmp 6)) [], .mk (some 32) none (.mov (.tmp 1)) [], .mk (some 33) none (.mm true [.const (.int
 .i64 0), .tmp 32]) [], .mk (some 34) none (.bin .gtr 3 .other (.tmp 31) (.tmp 33)) []]) (.cond (.tmp 34) (.seq (.row [.mk (some 35) none (.load (some 3) (.tmp 2)) [], .mk (some 36) none (.call (.func 112) [.tmp 35, .const (.int .i64 5)])
 [], .mk none none (.store 3 (.tmp 4) (.tmp 36)) [], .mk (some 5) none (.mov (.const (.int .i64 0))) []]) .ret) .skip)) (.seq (.row [.mk (some 37) none (.mov (.tmp 7)) [], .mk (some 38) none (.fieldA 1 (.tmp 2)) [], .mk none none (.store 1
 (.tmp 38) (.tmp 37)) []]) (.seq (.row [.mk (some 39) none (.load (some 3) (.tmp 2)) [], .mk (some 40) none (.mov (.tmp 6)) [], .mk none none (.store 3 (.tmp 4) (.tmp 39)) [], .mk (some 5) none (.mov (.tmp 40)) []]) .ret))))))))
theorem F113_ok : compFn Tryz.prog (byId h113) 113 = some F113 := by kernel_rfl
def h126 : List (Nat × List (Nat × List Nat) × List Nat) := []
def F126 : AFn :=
 AFn.mk 8 [.tmp 4] (.seq (.row [.mk (some 4) none (.mov (.const (.string (ByteArray.mk #[])))) []]) (.seq (.row [.mk (some 5) none (.mov (.tmp 0)) [], .mk (some 6) none (.mov (.tmp 1)) [], .mk (some 7) none (.call (.func 129) [.tmp 5, .tmp
 6]) [], .mk (some 4) none (.mov (.tmp 7)) []]) .ret))
theorem F126_ok : compFn Tryz.prog (byId h126) 126 = some F126 := by kernel_rfl
def h146 : List (Nat × List (Nat × List Nat) × List Nat) := [(8, [(0, []), (1, []), (2, []), (3, []), (4, []), (5, []), (8, []), (9, []), (6, [1, 2, 9]), (7, []), (10, []), (11, [])], [0, 1, 0, 0, 0, 16, 56, 124, 0, 256, 1023, 2047])]
def F146 : AFn :=
 AFn.mk 54 [.cell 4 (some 5)] (.seq (.row [.mk (some 4) none (.alloc 170 [.val (.int .i64 0), .val (.string (ByteArray.mk #[])), .val (.int .i64 0), .sl [] [] .full, .val (.int .i64 0)]) []]) (.seq (.seq (.row [.mk (some 7) none (.mov (.tmp
 1)) [], .mk (some 8) none (.bin .eql 3 .other (.tmp 7) (.const (.int .i64 6))) []]) (.cond (.tmp 8) (.seq (.row [.mk (some 9) none (.mov (.tmp 0)) [], .mk (some 10) none (.call (.func 173) [.tmp 9]) [], .mk none none (.store 5 (.tmp 4)
 (.tmp 10)) []]) .ret) .skip)) (.seq (.row [.mk (some 11) none (.mov (.tmp 0)) [], .mk (some 12) none (.mov (.tmp 1)) [], .mk (some 13) none (.bin .add 3 .other (.tmp 12) (.const (.int .i64 1))) [], .mk (some 14) none (.call (.func 146)
 [.tmp 11, .tmp 13]) [], .mk (some 5) none (.alloc 170 [.val (.int .i64 0), .val (.string (ByteArray.mk #[])), .val (.int .i64 0), .sl [] [] .full, .val (.int .i64 0)]) [], .mk none none (.store 5 (.tmp 5) (.tmp 14)) []]) (.seq (.seq (.row
 [.mk (some 15) none (.mov (.tmp 0)) [], .mk (some 16) none (.nilc (.tmp 15)) [], .mk (some 17) none (.fieldA 0 (.tmp 16)) [], .mk (some 18) none (.load none (.tmp 17)) [], .mk (some 19) none (.idxL 5 (.tmp 18) (.const (.int .i64 0))) [],
 .mk (some 20) none (.load (some 5) (.tmp 19)) [], .mk (some 6) none (.alloc 179 [.val (.int .i64 0), .val (.string (ByteArray.mk #[])), .val (.int .i64 0), .val (.int .i64 0), .val (.int .i64 0)]) [], .mk none none (.store 5 (.tmp 6) (.tmp
 20)) []]) (.block 0 (.loop (.seq (.seq (.row [.mk (some 21) none (.fieldA 0 (.tmp 6)) [], .mk (some 22) none (.load none (.tmp 21)) [], .mk (some 23) none (.bin .eql 177 .other (.tmp 22) (.const (.int .i64 4))) [], .mk (some 24) none (.mov
 (.tmp 23)) [], .mk (some 25) (some (24, true)) (.fieldA 1 (.tmp 6)) [], .mk (some 26) (some (24, true)) (.load none (.tmp 25)) [], .mk (some 27) (some (24, true)) (.call (.func 174) [.tmp 26]) [], .mk (some 28) (some (24, true)) (.mov (.tmp
 1)) [], .mk (some 29) (some (24, true)) (.bin .eql 3 .other (.tmp 27) (.tmp 28)) [], .mk (some 30) none (.pick (.tmp 24) (.tmp 29) (.const (.bool false))) []]) (.cond (.tmp 30) .skip (.exit 0))) (.seq (.block 1 (.seq (.row [.mk (some 37)
 none (.mov (.tmp 0)) [], .mk (some 38) none (.fieldA 1 (.tmp 6)) [], .mk (some 39) none (.load none (.tmp 38)) [], .mk (some 40) none (.call (.func 175) [.tmp 37, .tmp 39]) []]) (.row [.mk (some 41) none (.fieldA 1 (.tmp 6)) [], .mk (some
 42) none (.load none (.tmp 41)) [], .mk (some 43) none (.load (some 5) (.tmp 5)) [], .mk (some 44) none (.mov (.tmp 0)) [], .mk (some 45) none (.mov (.tmp 1)) [], .mk (some 46) none (.bin .add 3 .other (.tmp 45) (.const (.int .i64 1))) [],
 .mk (some 49) none (.fieldA 4 (.tmp 5)) [], .mk (some 50) none (.load none (.tmp 49)) [], .mk (some 47) none (.call (.func 146) [.tmp 44, .tmp 46]) [(42, none, .load none (.tmp 41)), (43, none, .load (some 5) (.tmp 5)), (50, none, .load
 none (.tmp 49))], .mk (some 48) none (.lits 5 [.val (.int .i64 0), .val (.string (ByteArray.mk #[])), .val (.int .i64 0), .sl [] [] .full, .val (.int .i64 0)] 2 [(0, .tmp 43), (1, .tmp 47)]) [], .mk (some 51) none (.build [.val (.int .i64
 0), .val (.string (ByteArray.mk #[])), .val (.int .i64 0), .sl [] [] .full, .val (.int .i64 0)] [(0, 1, .const (.int .i64 7)), (1, 1, .tmp 42), (3, 1, .tmp 48), (4, 1, .tmp 50)]) [], .mk none none (.store 5 (.tmp 5) (.tmp 51)) []]))) (.seq
 (.seq (.row [.mk (some 52) none (.load (some 5) (.tmp 6)) []]) (.row [.mk (some 6) none (.alloc 179 [.val (.int .i64 0), .val (.string (ByteArray.mk #[])), .val (.int .i64 0), .val (.int .i64 0), .val (.int .i64 0)]) [], .mk none none
 (.store 5 (.tmp 6) (.tmp 52)) []])) (.row [.mk (some 31) none (.mov (.tmp 0)) [], .mk (some 32) none (.nilc (.tmp 31)) [], .mk (some 33) none (.fieldA 0 (.tmp 32)) [], .mk (some 34) none (.load none (.tmp 33)) [], .mk (some 35) none (.idxL
 5 (.tmp 34) (.const (.int .i64 0))) [], .mk (some 36) none (.load (some 5) (.tmp 35)) [], .mk none none (.store 5 (.tmp 6) (.tmp 36)) []]))))))) (.seq (.row [.mk (some 53) none (.load (some 5) (.tmp 5)) [], .mk none none (.store 5 (.tmp 4)
 (.tmp 53)) []]) .ret)))))
theorem F146_ok : compFn Tryz.prog (byId h146) 146 = some F146 := by kernel_rfl
def h158 : List (Nat × List (Nat × List Nat) × List Nat) := []
def F158 : AFn :=
 AFn.mk 13 [.tmp 2] (.seq (.row [.mk (some 2) none (.mov (.const (.bool false))) []]) (.seq (.seq (.row [.mk (some 4) none (.mov (.const (.int .i64 0))) []]) (.block 0 (.loop (.seq (.row [.mk (some 5) none (.bin .lss 3 .other (.tmp 4)
 (.const (.int .i64 10))) []]) (.seq (.cond (.tmp 5) .skip (.exit 0)) (.seq (.block 1 (.seq (.row [.mk (some 6) none (.mov (.tmp 4)) [], .mk (some 3) none (.mov (.tmp 6)) []]) (.seq (.row [.mk (some 7) none (.mov (.tmp 3)) [], .mk (some 8)
 none (.idxA 10 1 (.global 3) (.tmp 7)) [], .mk (some 9) none (.load none (.tmp 8)) [], .mk (some 10) none (.mov (.tmp 0)) [], .mk (some 11) none (.bin .eql 9 .other (.tmp 9) (.tmp 10)) []]) (.cond (.tmp 11) (.seq (.row [.mk (some 2) none
 (.mov (.const (.bool true))) []]) .ret) .skip)))) (.row [.mk (some 12) none (.bin .add 3 .other (.tmp 4) (.const (.int .i64 1))) [], .mk (some 4) none (.mov (.tmp 12)) []]))))))) (.seq (.row [.mk (some 2) none (.mov (.const (.bool false)))
 []]) .ret)))
theorem F158_ok : compFn Tryz.prog (byId h158) 158 = some F158 := by kernel_rfl
def h169 : List (Nat × List (Nat × List Nat) × List Nat) := [(9, [(0, []), (1, []), (2, []), (3, []), (4, []), (5, []), (6, []), (7, []), (8, []), (9, []), (10, [])], [0, 1, 3, 7, 0, 16, 48, 112, 0, 271, 1023])]
def F169 : AFn :=
 AFn.mk 35 [.tmp 2, .tmp 3, .tmp 4] (.seq (.row [.mk (some 2) none (.mov (.const (.slice none 0 0))) [], .mk (some 3) none (.mov (.const (.int .i64 0))) [], .mk (some 4) none (.mov (.const (.int .i64 0))) []]) (.seq (.seq (.row [.mk (some 8)
 none (.mov (.tmp 0)) [], .mk (some 9) none (.len true (.tmp 8)) [], .mk (some 10) none (.bin .gtr 3 .other (.tmp 9) (.const (.int .i64 4096))) []]) (.cond (.tmp 10) (.seq (.row [.mk (some 2) none (.mov (.const (.slice none 0 0))) [], .mk
 (some 3) none (.mov (.const (.int .i64 0))) [], .mk (some 4) none (.mov (.const (.int .i64 5))) []]) .ret) .skip)) (.seq (.row [.mk (some 11) none (.mov (.tmp 0)) [], .mk (some 12) none (.build [.val (.string (ByteArray.mk #[])), .val (.int
 .i64 0), .val (.int .i64 0), .val (.int .i64 0)] [(0, 1, .tmp 11), (2, 1, .const (.int .i64 1))]) [], .mk (some 13) none (.box 245 (.tmp 12)) [], .mk (some 5) none (.mov (.tmp 13)) []]) (.seq (.row [.mk (some 6) none (.alloc 194 [.sl [] []
 .full]) []]) (.seq (.seq (.row [.mk (some 14) none (.mov (.tmp 5)) [], .mk (some 15) none (.call (.func 196) [.tmp 14]) []]) (.block 0 (.range (.tmp 15) [16] (.row [.mk (some 7) none (.alloc 179 [.val (.int .i64 0), .val (.string
 (ByteArray.mk #[])), .val (.int .i64 0), .val (.int .i64 0), .val (.int .i64 0)]) [], .mk none none (.store 5 (.tmp 7) (.tmp 16)) []]) (.block 1 (.row [.mk (some 17) none (.load none (.tmp 6)) [], .mk (some 18) none (.load (some 5) (.tmp
 7)) [], .mk (some 19) none (.lits 5 [.val (.int .i64 0), .val (.string (ByteArray.mk #[])), .val (.int .i64 0), .val (.int .i64 0), .val (.int .i64 0)] 1 [(0, .tmp 18)]) [], .mk (some 20) none (.app 179 48 5 (.tmp 17) (.tmp 19)) [], .mk
 none none (.store 1 (.tmp 6) (.tmp 20)) []]))))) (.seq (.seq (.row [.mk (some 21) none (.mov (.tmp 5)) [], .mk (some 22) none (.nilc (.tmp 21)) [], .mk (some 23) none (.fieldA 3 (.tmp 22)) [], .mk (some 24) none (.load none (.tmp 23)) [],
 .mk (some 25) none (.bin .neq 25 .other (.tmp 24) (.const (.int .i64 0))) []]) (.cond (.tmp 25) (.seq (.row [.mk (some 26) none (.mov (.tmp 5)) [], .mk (some 27) none (.nilc (.tmp 26)) [], .mk (some 28) none (.fieldA 1 (.tmp 27)) [], .mk
 (some 29) none (.load none (.tmp 28)) [], .mk (some 30) none (.mov (.tmp 5)) [], .mk (some 31) none (.nilc (.tmp 30)) [], .mk (some 32) none (.fieldA 3 (.tmp 31)) [], .mk (some 33) none (.load none (.tmp 32)) [], .mk (some 2) none (.mov
 (.const (.slice none 0 0))) [], .mk (some 3) none (.mov (.tmp 29)) [], .mk (some 4) none (.mov (.tmp 33)) []]) .ret) .skip)) (.seq (.row [.mk (some 34) none (.load none (.tmp 6)) [], .mk (some 2) none (.mov (.tmp 34)) [], .mk (some 3) none
 (.mov (.const (.int .i64 0))) [], .mk (some 4) none (.mov (.const (.int .i64 0))) []]) .ret)))))))
theorem F169_ok : compFn Tryz.prog (byId h169) 169 = some F169 := by kernel_rfl
def h175 : List (Nat × List (Nat × List Nat) × List Nat) := []
def F175 : AFn :=
 AFn.mk 10 [] (.seq (.row [.mk (some 4) none (.mov (.tmp 0)) [], .mk (some 5) none (.mov (.tmp 1)) [], .mk (some 6) none (.call (.func 201) [.tmp 4, .tmp 5]) [], .mk (some 7) none (.un .not (.tmp 6)) []]) (.cond (.tmp 7) (.row [.mk (some 8)
 none (.mov (.tmp 0)) [], .mk (some 9) none (.call (.func 172) [.tmp 8]) []]) .skip))
theorem F175_ok : compFn Tryz.prog (byId h175) 175 = some F175 := by kernel_rfl
def h184 : List (Nat × List (Nat × List Nat) × List Nat) := []
def F184 : AFn :=
 AFn.mk 9 [.tmp 2] (.seq (.row [.mk (some 2) none (.mov (.const (.bool false))) []]) (.seq (.row [.mk (some 3) none (.mov (.tmp 0)) [], .mk (some 4) none (.bin .geq 5 .other (.tmp 3) (.const (.int .u8 48))) [], .mk (some 5) none (.mov (.tmp
 4)) [], .mk (some 6) (some (5, true)) (.mov (.tmp 0)) [], .mk (some 7) (some (5, true)) (.bin .leq 5 .other (.tmp 6) (.const (.int .u8 57))) [], .mk (some 8) none (.pick (.tmp 5) (.tmp 7) (.const (.bool false))) [], .mk (some 2) none (.mov
 (.tmp 8)) []]) .ret))
theorem F184_ok : compFn Tryz.prog (byId h184) 184 = some F184 := by kernel_rfl
def h188 : List (Nat × List (Nat × List Nat) × List Nat) := []
def F188 : AFn :=
 AFn.mk 8 [.tmp 4] (.seq (.row [.mk (some 4) none (.mov (.const (.bool false))) []]) (.seq (.row [.mk (some 5) none (.mov (.tmp 0)) [], .mk (some 6) none (.mov (.tmp 1)) [], .mk (some 7) none (.call (.func 143) [.tmp 5, .tmp 6]) [], .mk
 (some 4) none (.mov (.tmp 7)) []]) .ret))
theorem F188_ok : compFn Tryz.prog (byId h188) 188 = some F188 := by kernel_rfl
def h202 : List (Nat × List (Nat × List Nat) × List Nat) := [(6, [(0, []), (1, []), (2, []), (3, [1]), (4, []), (5, [])], [0, 1, 0, 4, 15, 31]), (9, [(0, []), (1, []), (2, []), (3, [1]), (4, []), (5, [])], [0, 1, 0, 4, 15, 31])]
def F202 : AFn :=
 AFn.mk 106 [.cell 2 (some 5)] (.seq (.row [.mk (some 2) none (.alloc 170 [.val (.int .i64 0), .val (.string (ByteArray.mk #[])), .val (.int .i64 0), .sl [] [] .full, .val (.int .i64 0)]) []]) (.seq (.row [.mk (some 5) none (.mov (.tmp 0))
 [], .mk (some 6) none (.nilc (.tmp 5)) [], .mk (some 7) none (.fieldA 0 (.tmp 6)) [], .mk (some 8) none (.load none (.tmp 7)) [], .mk (some 9) none (.idxL 5 (.tmp 8) (.const (.int .i64 0))) [], .mk (some 10) none (.load (some 5) (.tmp 9))
 [], .mk (some 3) none (.alloc 179 [.val (.int .i64 0), .val (.string (ByteArray.mk #[])), .val (.int .i64 0), .val (.int .i64 0), .val (.int .i64 0)]) [], .mk none none (.store 5 (.tmp 3) (.tmp 10)) []]) (.seq (.row [.mk (some 11) none
 (.fieldA 3 (.tmp 3)) [], .mk (some 12) none (.load none (.tmp 11)) [], .mk (some 13) none (.build [.val (.int .i64 0), .val (.string (ByteArray.mk #[])), .val (.int .i64 0), .sl [] [] .full, .val (.int .i64 0)] [(4, 1, .tmp 12)]) [], .mk
 (some 4) none (.alloc 170 [.val (.int .i64 0), .val (.string (ByteArray.mk #[])), .val (.int .i64 0), .sl [] [] .full, .val (.int .i64 0)]) [], .mk none none (.store 5 (.tmp 4) (.tmp 13)) []]) (.seq (.block 0 (.seq (.row [.mk (some 17) none
 (.fieldA 0 (.tmp 3)) [], .mk (some 18) none (.load none (.tmp 17)) [], .mk (some 19) none (.bin .eql 177 .other (.tmp 18) (.const (.int .i64 2))) [], .mk (some 16) none (.mov (.tmp 19)) []]) (.cond (.tmp 16) (.seq (.row [.mk (some 20) none
 (.mov (.tmp 0)) [], .mk (some 21) none (.mov (.tmp 0)) [], .mk (some 22) none (.nilc (.tmp 21)) [], .mk (some 23) none (.fieldA 0 (.tmp 22)) [], .mk (some 24) none (.load none (.tmp 23)) [], .mk (some 25) none (.sliceL 5 (.tmp 24) (some
 (.const (.int .i64 1))) none none) [], .mk (some 26) none (.nilc (.tmp 20)) [], .mk (some 27) none (.fieldA 0 (.tmp 26)) [], .mk none none (.store 1 (.tmp 27) (.tmp 25)) []]) (.row [.mk (some 28) none (.fieldA 2 (.tmp 3)) [], .mk (some 29)
 none (.load none (.tmp 28)) [], .mk (some 30) none (.fieldA 0 (.tmp 4)) [], .mk none none (.store 1 (.tmp 30) (.const (.int .i64 1))) [(29, none, .load none (.tmp 28))], .mk (some 31) none (.fieldA 2 (.tmp 4)) [], .mk none none (.store 1
 (.tmp 31) (.tmp 29)) []])) (.seq (.row [.mk (some 33) none (.fieldA 0 (.tmp 3)) [], .mk (some 34) none (.load none (.tmp 33)) [], .mk (some 35) none (.bin .eql 177 .other (.tmp 34) (.const (.int .i64 3))) [], .mk (some 32) none (.mov (.tmp
 35)) []]) (.cond (.tmp 32) (.seq (.row [.mk (some 36) none (.mov (.tmp 0)) [], .mk (some 37) none (.mov (.tmp 0)) [], .mk (some 38) none (.nilc (.tmp 37)) [], .mk (some 39) none (.fieldA 0 (.tmp 38)) [], .mk (some 40) none (.load none (.tmp
 39)) [], .mk (some 41) none (.sliceL 5 (.tmp 40) (some (.const (.int .i64 1))) none none) [], .mk (some 42) none (.nilc (.tmp 36)) [], .mk (some 43) none (.fieldA 0 (.tmp 42)) [], .mk none none (.store 1 (.tmp 43) (.tmp 41)) []]) (.row [.mk
 (some 44) none (.fieldA 1 (.tmp 3)) [], .mk (some 45) none (.load none (.tmp 44)) [], .mk (some 46) none (.fieldA 0 (.tmp 4)) [], .mk none none (.store 1 (.tmp 46) (.const (.int .i64 3))) [(45, none, .load none (.tmp 44))], .mk (some 47)
 none (.fieldA 1 (.tmp 4)) [], .mk none none (.store 1 (.tmp 47) (.tmp 45)) []])) (.seq (.row [.mk (some 49) none (.fieldA 0 (.tmp 3)) [], .mk (some 50) none (.load none (.tmp 49)) [], .mk (some 51) none (.bin .eql 177 .other (.tmp 50)
 (.const (.int .i64 1))) [], .mk (some 48) none (.mov (.tmp 51)) []]) (.cond (.tmp 48) (.seq (.row [.mk (some 52) none (.mov (.tmp 0)) [], .mk (some 53) none (.call (.func 203) [.tmp 52]) [], .mk (some 54) none (.fieldA 0 (.tmp 4)) [], .mk
 none none (.store 1 (.tmp 54) (.const (.int .i64 4))) [], .mk (some 55) none (.fieldA 1 (.tmp 4)) [], .mk none none (.store 1 (.tmp 55) (.tmp 53)) []]) (.seq (.row [.mk (some 56) none (.mov (.tmp 0)) [], .mk (some 57) none (.call (.func
 201) [.tmp 56, .const (.string (ByteArray.mk #[40]))]) []]) (.cond (.tmp 57) (.row [.mk (some 58) none (.mov (.tmp 0)) [], .mk (some 59) none (.mov (.tmp 0)) [], .mk (some 60) none (.mkf (.func 224) [.tmp 59] []) [], .mk (some 61) none
 (.call (.func 223) [.tmp 58, .const (.string (ByteArray.mk #[41])), .tmp 60]) [], .mk (some 62) none (.fieldA 0 (.tmp 4)) [], .mk none none (.store 1 (.tmp 62) (.const (.int .i64 5))) [], .mk (some 63) none (.fieldA 3 (.tmp 4)) [], .mk none
 none (.store 1 (.tmp 63) (.tmp 61)) []]) .skip))) (.seq (.row [.mk (some 65) none (.mov (.tmp 0)) [], .mk (some 66) none (.call (.func 201) [.tmp 65, .const (.string (ByteArray.mk #[116, 114, 117, 101]))]) [], .mk (some 64) none (.mov (.tmp
 66)) []]) (.cond (.tmp 64) (.row [.mk (some 67) none (.fieldA 0 (.tmp 4)) [], .mk none none (.store 1 (.tmp 67) (.const (.int .i64 2))) [], .mk (some 68) none (.fieldA 2 (.tmp 4)) [], .mk none none (.store 1 (.tmp 68) (.const (.int .i64
 1))) []]) (.seq (.row [.mk (some 70) none (.mov (.tmp 0)) [], .mk (some 71) none (.call (.func 201) [.tmp 70, .const (.string (ByteArray.mk #[102, 97, 108, 115, 101]))]) [], .mk (some 69) none (.mov (.tmp 71)) []]) (.cond (.tmp 69) (.row
 [.mk (some 72) none (.fieldA 0 (.tmp 4)) [], .mk none none (.store 1 (.tmp 72) (.const (.int .i64 2))) []]) (.seq (.row [.mk (some 74) none (.mov (.tmp 0)) [], .mk (some 75) none (.call (.func 201) [.tmp 74, .const (.string (ByteArray.mk
 #[110, 101, 119]))]) [], .mk (some 73) none (.mov (.tmp 75)) []]) (.cond (.tmp 73) (.seq (.row [.mk (some 76) none (.mov (.tmp 0)) [], .mk (some 77) none (.call (.func 203) [.tmp 76]) [], .mk (some 78) none (.fieldA 0 (.tmp 4)) [], .mk none
 none (.store 1 (.tmp 78) (.const (.int .i64 11))) [], .mk (some 79) none (.fieldA 1 (.tmp 4)) [], .mk none none (.store 1 (.tmp 79) (.tmp 77)) []]) (.seq (.row [.mk (some 80) none (.mov (.tmp 0)) [], .mk (some 81) none (.call (.func 175)
 [.tmp 80, .const (.string (ByteArray.mk #[40]))]) []]) (.row [.mk (some 82) none (.mov (.tmp 0)) [], .mk (some 83) none (.mov (.tmp 0)) [], .mk (some 84) none (.mkf (.func 224) [.tmp 83] []) [], .mk (some 85) none (.call (.func 223) [.tmp
 82, .const (.string (ByteArray.mk #[41])), .tmp 84]) [], .mk (some 86) none (.fieldA 3 (.tmp 4)) [], .mk none none (.store 1 (.tmp 86) (.tmp 85)) []]))) (.seq (.row [.mk (some 88) none (.mov (.tmp 0)) [], .mk (some 89) none (.call (.func
 201) [.tmp 88, .const (.string (ByteArray.mk #[91]))]) [], .mk (some 87) none (.mov (.tmp 89)) []]) (.cond (.tmp 87) (.seq (.row [.mk (some 90) none (.mov (.tmp 0)) [], .mk (some 91) none (.mov (.tmp 0)) [], .mk (some 92) none (.mkf (.func
 224) [.tmp 91] []) [], .mk (some 93) none (.call (.func 225) [.tmp 90, .tmp 92]) [], .mk (some 94) none (.fieldA 0 (.tmp 4)) [], .mk none none (.store 1 (.tmp 94) (.const (.int .i64 10))) [], .mk (some 95) none (.fieldA 3 (.tmp 4)) [], .mk
 none none (.store 1 (.tmp 95) (.tmp 93)) []]) (.row [.mk (some 96) none (.mov (.tmp 0)) [], .mk (some 97) none (.call (.func 175) [.tmp 96, .const (.string (ByteArray.mk #[93]))]) []])) (.seq (.row [.mk (some 99) none (.mov (.tmp 0)) [],
 .mk (some 100) none (.call (.func 201) [.tmp 99, .const (.string (ByteArray.mk #[40]))]) [], .mk (some 98) none (.mov (.tmp 100)) []]) (.cond (.tmp 98) (.seq (.row [.mk (some 101) none (.mov (.tmp 0)) [], .mk (some 102) none (.call (.func
 146) [.tmp 101, .const (.int .i64 0)]) [], .mk none none (.store 5 (.tmp 4) (.tmp 102)) []]) (.row [.mk (some 103) none (.mov (.tmp 0)) [], .mk (some 104) none (.call (.func 175) [.tmp 103, .const (.string (ByteArray.mk #[41]))]) []]))
 (.row [.mk (some 14) none (.mov (.tmp 0)) [], .mk (some 15) none (.call (.func 172) [.tmp 14]) []])))))))))))))))))) (.seq (.row [.mk (some 105) none (.load (some 5) (.tmp 4)) [], .mk none none (.store 5 (.tmp 2) (.tmp 105)) []]) .ret)))))
theorem F202_ok : compFn Tryz.prog (byId h202) 202 = some F202 := by kernel_rfl
def h222 : List (Nat × List (Nat × List Nat) × List Nat) := []
def F222 : AFn :=
 AFn.mk 26 [.tmp 4] (.seq (.row [.mk (some 4) none (.mov (.const (.bool false))) []]) (.seq (.row [.mk (some 6) none (.mov (.tmp 0)) [], .mk (some 7) none (.nilc (.tmp 6)) [], .mk (some 8) none (.fieldA 0 (.tmp 7)) [], .mk (some 9) none
 (.load none (.tmp 8)) [], .mk (some 10) none (.idxL 5 (.tmp 9) (.const (.int .i64 0))) [], .mk (some 11) none (.load (some 5) (.tmp 10)) [], .mk (some 5) none (.alloc 179 [.val (.int .i64 0), .val (.string (ByteArray.mk #[])), .val (.int
 .i64 0), .val (.int .i64 0), .val (.int .i64 0)]) [], .mk none none (.store 5 (.tmp 5) (.tmp 11)) []]) (.seq (.row [.mk (some 12) none (.fieldA 0 (.tmp 5)) [], .mk (some 13) none (.load none (.tmp 12)) [], .mk (some 14) none (.bin .eql 177
 .other (.tmp 13) (.const (.int .i64 4))) [], .mk (some 15) none (.mov (.tmp 14)) [], .mk (some 16) (some (15, false)) (.fieldA 0 (.tmp 5)) [], .mk (some 17) (some (15, false)) (.load none (.tmp 16)) [], .mk (some 18) (some (15, false))
 (.bin .eql 177 .other (.tmp 17) (.const (.int .i64 5))) [], .mk (some 19) none (.pick (.tmp 15) (.const (.bool true)) (.tmp 18)) [], .mk (some 20) none (.mov (.tmp 19)) [], .mk (some 21) (some (20, true)) (.fieldA 1 (.tmp 5)) [], .mk (some
 22) (some (20, true)) (.load none (.tmp 21)) [], .mk (some 23) (some (20, true)) (.mov (.tmp 1)) [], .mk (some 24) (some (20, true)) (.bin .eql 9 .other (.tmp 22) (.tmp 23)) [], .mk (some 25) none (.pick (.tmp 20) (.tmp 24) (.const (.bool
 false))) [], .mk (some 4) none (.mov (.tmp 25)) []]) .ret)))
theorem F222_ok : compFn Tryz.prog (byId h222) 222 = some F222 := by kernel_rfl
def h233 : List (Nat × List (Nat × List Nat) × List Nat) := []
def F233 : AFn :=
 AFn.mk 18 [.cell 4 (some 5)] (.seq (.row [.mk (some 4) none (.alloc 179 [.val (.int .i64 0), .val (.string (ByteArray.mk #[])), .val (.int .i64 0), .val (.int .i64 0), .val (.int .i64 0)]) []]) (.seq (.seq (.row [.mk (some 5) none (.mov
 (.tmp 1)) [], .mk (some 6) none (.call (.func 158) [.tmp 5]) []]) (.cond (.tmp 6) (.seq (.row [.mk (some 7) none (.mov (.tmp 1)) [], .mk (some 8) none (.build [.val (.int .i64 0), .val (.string (ByteArray.mk #[])), .val (.int .i64 0), .val
 (.int .i64 0), .val (.int .i64 0)] [(0, 1, .const (.int .i64 5)), (1, 1, .tmp 7)]) [], .mk none none (.store 5 (.tmp 4) (.tmp 8)) []]) .ret) .skip)) (.seq (.seq (.row [.mk (some 9) none (.mov (.tmp 1)) [], .mk (some 10) none (.len true
 (.tmp 9)) [], .mk (some 11) none (.bin .gtr 3 .other (.tmp 10) (.const (.int .i64 20))) []]) (.cond (.tmp 11) (.row [.mk (some 12) none (.mov (.tmp 0)) [], .mk (some 13) none (.nilc (.tmp 12)) [], .mk (some 14) none (.fieldA 3 (.tmp 13))
 [], .mk none none (.store 1 (.tmp 14) (.const (.int .i64 5))) []]) .skip)) (.seq (.row [.mk (some 15) none (.mov (.tmp 1)) [], .mk (some 16) none (.call (.func 110) [.tmp 15]) [], .mk (some 17) none (.build [.val (.int .i64 0), .val
 (.string (ByteArray.mk #[])), .val (.int .i64 0), .val (.int .i64 0), .val (.int .i64 0)] [(0, 1, .const (.int .i64 1)), (1, 1, .tmp 16)]) [], .mk none none (.store 5 (.tmp 4) (.tmp 17)) []]) .ret))))
theorem F233_ok : compFn Tryz.prog (byId h233) 233 = some F233 := by kernel_rfl
def h6 : List (Nat × List (Nat × List Nat) × List Nat) := [(8, [(0, []), (2, []), (5, []), (1, [2, 5]), (3, [5]), (4, []), (6, []), (7, []), (8, []), (9, []), (10, []), (11, []), (12, []), (13, []), (14, []), (15, []), (16, []), (17, []), (18, []), (19, []), (20, []), (22, []), (23, []), (21,
 [23]), (24, []), (25, []), (26, []), (27, []), (29, []), (30, []), (28, [30]), (31, []), (32, []), (33, []), (34, []), (35, []), (36, [])], [0, 1, 0, 7, 15, 0, 47, 111, 255, 511, 1023, 1023, 4095, 8191, 16383, 32767, 32767, 131071, 262143,
 524287, 1048575, 2097151, 1048575, 5242879, 16777215, 33554431, 67108863, 134217727, 268435455, 134217727, 671088639, 2147483647, 4294967295, 8589934591, 17179869183, 34359738367, 68719476735])]
def F6 : AFn :=
 AFn.mk 69 [.tmp 4] (.seq (.row [.mk (some 2) none (.box 24 (.tmp 0)) [], .mk (some 4) none (.mov (.const (.bool false))) []]) (.seq (.row [.mk (some 11) none (.lits 1 [.val (.int .u8 0)] 0 []) [], .mk (some 12) none (.mov (.tmp 1)) [], .mk
 (some 13) none (.app 5 1 1 (.tmp 11) (.tmp 12)) [], .mk (some 14) none (.call (.func 22) [.tmp 13]) [], .mk (some 5) none (.mov (.tmp 14)) []]) (.seq (.seq (.row [.mk (some 15) none (.mov (.tmp 5)) [], .mk (some 16) none (.bin .eql 41
 .pointer (.tmp 15) (.const (.pointer none))) []]) (.cond (.tmp 16) (.seq (.row [.mk (some 4) none (.mov (.const (.bool false))) []]) .ret) .skip)) (.seq (.row [.mk (some 17) none (.mov (.tmp 5)) [], .mk (some 18) none (.call (.func 23)
 [.tmp 17]) [], .mk (some 6) none (.alloc 24 [.val (.int .i64 0), .val (.int .i64 0), .val (.string (ByteArray.mk #[]))]) [], .mk none none (.store 3 (.tmp 6) (.tmp 18)) []]) (.seq (.row [.mk (some 20) none (.mov (.tmp 1)) [], .mk (some 21)
 none (.b2s (.tmp 20)) [], .mk (some 22) none (.build [.val (.string (ByteArray.mk #[])), .val (.int .i64 0), .val (.int .i64 0)] [(0, 1, .tmp 21)]) [], .mk (some 23) none (.call (.func 24) [.tmp 22]) [], .mk (some 19) none (.mov (.tmp 23))
 [], .mk (some 24) none (.ext (.tmp 19) 0) [], .mk (some 25) none (.ext (.tmp 19) 1) [], .mk (some 7) none (.alloc 45 [.val (.string (ByteArray.mk #[])), .val (.int .i64 0), .val (.int .i64 0)]) [], .mk (some 8) none (.alloc 24 [.val (.int
 .i64 0), .val (.int .i64 0), .val (.string (ByteArray.mk #[]))]) [], .mk none none (.store 3 (.tmp 7) (.tmp 24)) [], .mk none none (.store 3 (.tmp 8) (.tmp 25)) []]) (.seq (.row [.mk (some 26) none (.mov (.tmp 5)) [], .mk (some 27) none
 (.call (.func 23) [.tmp 26]) [], .mk (some 9) none (.alloc 24 [.val (.int .i64 0), .val (.int .i64 0), .val (.string (ByteArray.mk #[]))]) [], .mk none none (.store 3 (.tmp 9) (.tmp 27)) []]) (.seq (.row [.mk (some 29) none (.load (some 3)
 (.tmp 7)) [], .mk (some 30) none (.call (.func 24) [.tmp 29]) [], .mk (some 28) none (.mov (.tmp 30)) [], .mk (some 31) none (.ext (.tmp 28) 0) [], .mk (some 32) none (.ext (.tmp 28) 1) [], .mk (some 10) none (.alloc 24 [.val (.int .i64 0),
 .val (.int .i64 0), .val (.string (ByteArray.mk #[]))]) [], .mk none none (.store 3 (.tmp 7) (.tmp 31)) [], .mk none none (.store 3 (.tmp 10) (.tmp 32)) []]) (.seq (.row [.mk (some 33) none (.lits 1 [.val (.int .u8 0)] 1 [(0, .const (.int
 .u8 120))]) [], .mk (some 35) none (.load (some 3) (.tmp 2)) [], .mk (some 38) none (.load (some 3) (.tmp 2)) [], .mk (some 34) none (.mark (.tmp 33)) [(35, none, .load (some 3) (.tmp 2)), (38, none, .load (some 3) (.tmp 2))], .mk (some 36)
 none (.call (.func 25) [.tmp 34, .tmp 35]) [(38, none, .load (some 3) (.tmp 2))], .mk (some 37) none (.b2s (.tmp 36)) [], .mk (some 39) none (.call (.func 26) [.tmp 38]) [], .mk (some 40) none (.bin .add 9 .other (.const (.string
 (ByteArray.mk #[120]))) (.tmp 39)) [], .mk (some 41) none (.bin .eql 9 .other (.tmp 37) (.tmp 40)) [], .mk (some 42) none (.mov (.tmp 41)) [], .mk (some 43) (some (42, true)) (.load (some 3) (.tmp 6)) [], .mk (some 44) (some (42, true))
 (.load (some 3) (.tmp 8)) [], .mk (some 45) (some (42, true)) (.bin .eql 24 .other (.tmp 43) (.tmp 44)) [], .mk (some 46) none (.pick (.tmp 42) (.tmp 45) (.const (.bool false))) [], .mk (some 47) none (.mov (.tmp 46)) [], .mk (some 48)
 (some (47, true)) (.load (some 3) (.tmp 9)) [], .mk (some 49) (some (47, true)) (.load (some 3) (.tmp 10)) [], .mk (some 50) (some (47, true)) (.bin .eql 24 .other (.tmp 48) (.tmp 49)) [], .mk (some 51) none (.pick (.tmp 47) (.tmp 50)
 (.const (.bool false))) [], .mk (some 52) none (.mov (.tmp 51)) [], .mk (some 53) (some (52, true)) (.mov (.tmp 5)) [], .mk (some 55) (some (52, true)) (.fieldA 1 (.tmp 7)) [], .mk (some 56) (some (52, true)) (.load none (.tmp 55)) [], .mk
 (some 54) (some (52, true)) (.call (.func 27) [.tmp 53]) [(56, some (52, true), .load none (.tmp 55))], .mk (some 57) (some (52, true)) (.bin .eql 3 .other (.tmp 54) (.tmp 56)) [], .mk (some 58) none (.pick (.tmp 52) (.tmp 57) (.const
 (.bool false))) [], .mk (some 59) none (.mov (.tmp 58)) [], .mk (some 60) (some (59, true)) (.mov (.tmp 5)) [], .mk (some 62) (some (59, true)) (.fieldA 2 (.tmp 7)) [], .mk (some 63) (some (59, true)) (.load none (.tmp 62)) [], .mk (some
 61) (some (59, true)) (.call (.func 28) [.tmp 60]) [(63, some (59, true), .load none (.tmp 62))], .mk (some 64) (some (59, true)) (.bin .eql 3 .other (.tmp 61) (.tmp 63)) [], .mk (some 65) none (.pick (.tmp 59) (.tmp 64) (.const (.bool
 false))) [], .mk (some 66) none (.mov (.tmp 65)) [], .mk (some 67) (some (66, true)) (.call (.func 17) []) [], .mk (some 68) none (.pick (.tmp 66) (.tmp 67) (.const (.bool false))) [], .mk (some 4) none (.mov (.tmp 68)) []]) .ret))))))))
theorem F6_ok : compFn Tryz.prog (byId h6) 6 = some F6 := by kernel_rfl
def h18 : List (Nat × List (Nat × List Nat) × List Nat) := []
def F18 : AFn :=
 AFn.mk 49 [.tmp 2, .tmp 3] (.seq (.row [.mk (some 1) none (.box 24 (.tmp 0)) [], .mk (some 2) none (.mov (.const (.string (ByteArray.mk #[])))) [], .mk (some 3) none (.mov (.const (.int .i64 0))) []]) (.seq (.seq (.row [.mk (some 6) none
 (.load (some 3) (.tmp 1)) [], .mk (some 7) none (.call (.func 58) [.tmp 6]) [], .mk (some 8) none (.un .not (.tmp 7)) []]) (.cond (.tmp 8) (.seq (.row [.mk (some 2) none (.mov (.const (.string (ByteArray.mk #[])))) [], .mk (some 3) none
 (.mov (.const (.int .i64 2))) []]) .ret) .skip)) (.seq (.row [.mk (some 9) none (.fieldA 0 (.tmp 1)) [], .mk (some 10) none (.load none (.tmp 9)) [], .mk (some 11) none (.call (.func 56) [.tmp 10]) [], .mk (some 4) none (.alloc 100 [.val
 (.string (ByteArray.mk #[])), .val (.int .i64 0), .val (.bool false), .val (.bool false)]) [], .mk none none (.store 4 (.tmp 4) (.tmp 11)) []]) (.seq (.row [.mk (some 12) none (.fieldA 0 (.tmp 4)) [], .mk (some 13) none (.load none (.tmp
 12)) [], .mk (some 5) none (.mov (.tmp 13)) []]) (.seq (.seq (.row [.mk (some 14) none (.fieldA 2 (.tmp 4)) [], .mk (some 15) none (.load none (.tmp 14)) []]) (.cond (.tmp 15) (.row [.mk (some 16) none (.mov (.tmp 5)) [], .mk (some 17) none
 (.fieldA 1 (.tmp 1)) [], .mk (some 18) none (.load none (.tmp 17)) [], .mk (some 19) none (.call (.func 62) [.tmp 18]) [], .mk (some 20) none (.bin .add 9 .other (.const (.string (ByteArray.mk #[32]))) (.tmp 19)) [], .mk (some 21) none
 (.bin .add 9 .other (.tmp 16) (.tmp 20)) [], .mk (some 5) none (.mov (.tmp 21)) []]) .skip)) (.seq (.block 0 (.seq (.row [.mk (some 23) none (.fieldA 2 (.tmp 4)) [], .mk (some 24) none (.load none (.tmp 23)) [], .mk (some 25) none (.mov
 (.tmp 24)) [], .mk (some 26) (some (25, true)) (.fieldA 2 (.tmp 1)) [], .mk (some 27) (some (25, true)) (.load none (.tmp 26)) [], .mk (some 28) (some (25, true)) (.bin .neq 9 .other (.tmp 27) (.const (.string (ByteArray.mk #[])))) [], .mk
 (some 29) none (.pick (.tmp 25) (.tmp 28) (.const (.bool false))) [], .mk (some 22) none (.mov (.tmp 29)) []]) (.cond (.tmp 22) (.row [.mk (some 30) none (.mov (.tmp 5)) [], .mk (some 31) none (.fieldA 2 (.tmp 1)) [], .mk (some 32) none
 (.load none (.tmp 31)) [], .mk (some 33) none (.bin .add 9 .other (.const (.string (ByteArray.mk #[32, 105, 102, 32]))) (.tmp 32)) [], .mk (some 34) none (.bin .add 9 .other (.tmp 30) (.tmp 33)) [], .mk (some 5) none (.mov (.tmp 34)) []])
 (.seq (.row [.mk (some 36) none (.fieldA 3 (.tmp 4)) [], .mk (some 37) none (.load none (.tmp 36)) [], .mk (some 38) none (.mov (.tmp 37)) [], .mk (some 39) (some (38, true)) (.fieldA 2 (.tmp 4)) [], .mk (some 40) (some (38, true)) (.load
 none (.tmp 39)) [], .mk (some 41) (some (38, true)) (.un .not (.tmp 40)) [], .mk (some 42) none (.pick (.tmp 38) (.tmp 41) (.const (.bool false))) [], .mk (some 35) none (.mov (.tmp 42)) []]) (.cond (.tmp 35) (.row [.mk (some 43) none (.mov
 (.tmp 5)) [], .mk (some 44) none (.fieldA 2 (.tmp 1)) [], .mk (some 45) none (.load none (.tmp 44)) [], .mk (some 46) none (.bin .add 9 .other (.const (.string (ByteArray.mk #[32]))) (.tmp 45)) [], .mk (some 47) none (.bin .add 9 .other
 (.tmp 43) (.tmp 46)) [], .mk (some 5) none (.mov (.tmp 47)) []]) .skip))))) (.seq (.row [.mk (some 48) none (.mov (.tmp 5)) [], .mk (some 2) none (.mov (.tmp 48)) [], .mk (some 3) none (.mov (.const (.int .i64 0))) []]) .ret)))))))
theorem F18_ok : compFn Tryz.prog (byId h18) 18 = some F18 := by kernel_rfl
def h22 : List (Nat × List (Nat × List Nat) × List Nat) := []
def F22 : AFn :=
 AFn.mk 7 [.tmp 2] (.seq (.row [.mk (some 2) none (.mov (.const (.pointer none))) []]) (.seq (.row [.mk (some 3) none (.mov (.tmp 0)) [], .mk (some 4) none (.b2s (.tmp 3)) [], .mk (some 5) none (.build [.val (.bool false), .val (.string
 (ByteArray.mk #[])), .val (.int .i64 0), .val (.int .i64 0)] [(0, 1, .const (.bool true)), (1, 1, .tmp 4)]) [], .mk (some 6) none (.box 111 (.tmp 5)) [], .mk (some 2) none (.mov (.tmp 6)) []]) .ret))
theorem F22_ok : compFn Tryz.prog (byId h22) 22 = some F22 := by kernel_rfl
def h26 : List (Nat × List (Nat × List Nat) × List Nat) := [(1, [(0, []), (1, []), (3, []), (4, []), (7, []), (8, []), (2, [4, 8]), (5, [8]), (6, []), (9, []), (10, []), (11, [])], [0, 1, 3, 0, 8, 31, 63, 0, 128, 447, 1023, 2047])]
def F26 : AFn :=
 AFn.mk 14 [.tmp 2] (.seq (.row [.mk (some 1) none (.box 24 (.tmp 0)) [], .mk (some 2) none (.mov (.const (.string (ByteArray.mk #[])))) []]) (.seq (.row [.mk (some 3) none (.fieldA 0 (.tmp 1)) [], .mk (some 4) none (.load none (.tmp 3)) [],
 .mk (some 6) none (.fieldA 1 (.tmp 1)) [], .mk (some 7) none (.load none (.tmp 6)) [], .mk (some 10) none (.fieldA 2 (.tmp 1)) [], .mk (some 11) none (.load none (.tmp 10)) [], .mk (some 5) none (.call (.func 70) [.tmp 4]) [(7, none, .load
 none (.tmp 6)), (11, none, .load none (.tmp 10))], .mk (some 8) none (.call (.func 70) [.tmp 7]) [(11, none, .load none (.tmp 10))], .mk (some 9) none (.bin .add 9 .other (.tmp 5) (.tmp 8)) [], .mk (some 12) none (.call (.func 71) [.tmp
 11]) [], .mk (some 13) none (.bin .add 9 .other (.tmp 9) (.tmp 12)) [], .mk (some 2) none (.mov (.tmp 13)) []]) .ret))
theorem F26_ok : compFn Tryz.prog (byId h26) 26 = some F26 := by kernel_rfl
def h58 : List (Nat × List (Nat × List Nat) × List Nat) := []
def F58 : AFn :=
 AFn.mk 59 [.tmp 2] (.seq (.row [.mk (some 1) none (.box 24 (.tmp 0)) [], .mk (some 2) none (.mov (.const (.bool false))) []]) (.seq (.row [.mk (some 4) none (.fieldA 0 (.tmp 1)) [], .mk (some 5) none (.load none (.tmp 4)) [], .mk (some 6)
 none (.call (.func 56) [.tmp 5]) [], .mk (some 3) none (.alloc 100 [.val (.string (ByteArray.mk #[])), .val (.int .i64 0), .val (.bool false), .val (.bool false)]) [], .mk none none (.store 4 (.tmp 3) (.tmp 6)) []]) (.seq (.block 0 (.seq
 (.row [.mk (some 8) none (.load (some 4) (.tmp 3)) [], .mk (some 9) none (.build [.val (.string (ByteArray.mk #[])), .val (.int .i64 0), .val (.bool false), .val (.bool false)] []) [], .mk (some 10) none (.bin .eql 100 .other (.tmp 8) (.tmp
 9)) [], .mk (some 11) none (.mov (.tmp 10)) [], .mk (some 12) (some (11, false)) (.fieldA 2 (.tmp 3)) [], .mk (some 13) (some (11, false)) (.load none (.tmp 12)) [], .mk (some 14) (some (11, false)) (.un .not (.tmp 13)) [], .mk (some 15)
 (some (11, false)) (.mov (.tmp 14)) [], .mk (some 16) (some (15, true)) (.fieldA 1 (.tmp 1)) [], .mk (some 17) (some (15, true)) (.load none (.tmp 16)) [], .mk (some 18) (some (15, true)) (.bin .neq 3 .other (.tmp 17) (.const (.int .i64
 0))) [], .mk (some 19) (some (11, false)) (.pick (.tmp 15) (.tmp 18) (.const (.bool false))) [], .mk (some 20) none (.pick (.tmp 11) (.const (.bool true)) (.tmp 19)) [], .mk (some 21) none (.mov (.tmp 20)) [], .mk (some 22) (some (21,
 false)) (.fieldA 3 (.tmp 3)) [], .mk (some 23) (some (21, false)) (.load none (.tmp 22)) [], .mk (some 24) (some (21, false)) (.un .not (.tmp 23)) [], .mk (some 25) (some (21, false)) (.mov (.tmp 24)) [], .mk (some 26) (some (25, true))
 (.fieldA 2 (.tmp 1)) [], .mk (some 27) (some (25, true)) (.load none (.tmp 26)) [], .mk (some 28) (some (25, true)) (.bin .neq 9 .other (.tmp 27) (.const (.string (ByteArray.mk #[])))) [], .mk (some 29) (some (21, false)) (.pick (.tmp 25)
 (.tmp 28) (.const (.bool false))) [], .mk (some 30) none (.pick (.tmp 21) (.const (.bool true)) (.tmp 29)) [], .mk (some 31) none (.mov (.tmp 30)) [], .mk (some 32) (some (31, false)) (.fieldA 1 (.tmp 1)) [], .mk (some 33) (some (31,
 false)) (.load none (.tmp 32)) [], .mk (some 34) (some (31, false)) (.fieldA 1 (.tmp 3)) [], .mk (some 35) (some (31, false)) (.load none (.tmp 34)) [], .mk (some 36) (some (31, false)) (.bin .lss 3 .other (.tmp 33) (.tmp 35)) [], .mk (some
 37) none (.pick (.tmp 31) (.const (.bool true)) (.tmp 36)) [], .mk (some 38) none (.mov (.tmp 37)) [], .mk (some 39) (some (38, false)) (.fieldA 1 (.tmp 1)) [], .mk (some 40) (some (38, false)) (.load none (.tmp 39)) [], .mk (some 41) (some
 (38, false)) (.bin .gtr 3 .other (.tmp 40) (.const (.int .i64 4294967296))) [], .mk (some 42) none (.pick (.tmp 38) (.const (.bool true)) (.tmp 41)) [], .mk (some 7) none (.mov (.tmp 42)) []]) (.cond (.tmp 7) (.seq (.row [.mk (some 2) none
 (.mov (.const (.bool false))) []]) .ret) (.seq (.row [.mk (some 44) none (.fieldA 3 (.tmp 3)) [], .mk (some 45) none (.load none (.tmp 44)) [], .mk (some 46) none (.un .not (.tmp 45)) [], .mk (some 47) none (.mov (.tmp 46)) [], .mk (some
 48) (some (47, false)) (.fieldA 2 (.tmp 3)) [], .mk (some 49) (some (47, false)) (.load none (.tmp 48)) [], .mk (some 50) (some (47, false)) (.mov (.tmp 49)) [], .mk (some 51) (some (50, true)) (.fieldA 2 (.tmp 1)) [], .mk (some 52) (some
 (50, true)) (.load none (.tmp 51)) [], .mk (some 53) (some (50, true)) (.bin .eql 9 .other (.tmp 52) (.const (.string (ByteArray.mk #[])))) [], .mk (some 54) (some (47, false)) (.pick (.tmp 50) (.tmp 53) (.const (.bool false))) [], .mk
 (some 55) none (.pick (.tmp 47) (.const (.bool true)) (.tmp 54)) [], .mk (some 43) none (.mov (.tmp 55)) []]) (.cond (.tmp 43) (.seq (.row [.mk (some 2) none (.mov (.const (.bool true))) []]) .ret) .skip))))) (.seq (.row [.mk (some 56) none
 (.fieldA 2 (.tmp 1)) [], .mk (some 57) none (.load none (.tmp 56)) [], .mk (some 58) none (.call (.func 103) [.tmp 57]) [], .mk (some 2) none (.mov (.tmp 58)) []]) .ret))))
theorem F58_ok : compFn Tryz.prog (byId h58) 58 = some F58 := by kernel_rfl
def h62 : List (Nat × List (Nat × List Nat) × List Nat) := []
def F62 : AFn :=
 AFn.mk 5 [.tmp 2] (.seq (.row [.mk (some 2) none (.mov (.const (.string (ByteArray.mk #[])))) []]) (.seq (.row [.mk (some 3) none (.mov (.tmp 0)) [], .mk (some 4) none (.call (.func 104) [.tmp 3]) [], .mk (some 2) none (.mov (.tmp 4)) []])
 .ret))
theorem F62_ok : compFn Tryz.prog (byId h62) 62 = some F62 := by kernel_rfl
def h66 : List (Nat × List (Nat × List Nat) × List Nat) := []
def F66 : AFn :=
 AFn.mk 29 [.cell 2 (some 3), .tmp 3] (.seq (.row [.mk (some 1) none (.box 45 (.tmp 0)) [], .mk (some 2) none (.alloc 45 [.val (.string (ByteArray.mk #[])), .val (.int .i64 0), .val (.int .i64 0)]) [], .mk (some 3) none (.mov (.const (.int
 .i64 0))) []]) (.seq (.seq (.row [.mk (some 7) none (.fieldA 2 (.tmp 1)) [], .mk (some 8) none (.load none (.tmp 7)) [], .mk (some 9) none (.bin .neq 3 .other (.tmp 8) (.const (.int .i64 0))) []]) (.cond (.tmp 9) (.seq (.row [.mk (some 10)
 none (.load (some 3) (.tmp 1)) [], .mk none none (.store 3 (.tmp 2) (.tmp 10)) [], .mk (some 3) none (.mov (.const (.int .i64 0))) []]) .ret) .skip)) (.seq (.row [.mk (some 12) none (.fieldA 0 (.tmp 1)) [], .mk (some 13) none (.load none
 (.tmp 12)) [], .mk (some 14) none (.fieldA 1 (.tmp 1)) [], .mk (some 15) none (.load none (.tmp 14)) [], .mk (some 16) none (.call (.func 111) [.tmp 13, .tmp 15]) [], .mk (some 11) none (.mov (.tmp 16)) [], .mk (some 17) none (.ext (.tmp
 11) 0) [], .mk (some 18) none (.ext (.tmp 11) 1) [], .mk (some 19) none (.ext (.tmp 11) 2) [], .mk (some 4) none (.mov (.tmp 17)) [], .mk (some 5) none (.mov (.tmp 18)) [], .mk (some 6) none (.mov (.tmp 19)) []]) (.seq (.seq (.row [.mk
 (some 20) none (.mov (.tmp 6)) [], .mk (some 21) none (.bin .neq 3 .other (.tmp 20) (.const (.int .i64 0))) []]) (.cond (.tmp 21) (.seq (.row [.mk (some 22) none (.load (some 3) (.tmp 1)) [], .mk (some 23) none (.mov (.tmp 6)) [], .mk (some
 24) none (.call (.func 112) [.tmp 22, .tmp 23]) [], .mk none none (.store 3 (.tmp 2) (.tmp 24)) [], .mk (some 3) none (.mov (.const (.int .i64 0))) []]) .ret) .skip)) (.seq (.row [.mk (some 25) none (.mov (.tmp 5)) [], .mk (some 26) none
 (.fieldA 1 (.tmp 1)) [], .mk none none (.store 1 (.tmp 26) (.tmp 25)) []]) (.seq (.row [.mk (some 27) none (.load (some 3) (.tmp 1)) [], .mk (some 28) none (.mov (.tmp 4)) [], .mk none none (.store 3 (.tmp 2) (.tmp 27)) [], .mk (some 3)
 none (.mov (.tmp 28)) []]) .ret))))))
theorem F66_ok : compFn Tryz.prog (byId h66) 66 = some F66 := by kernel_rfl
def h70 : List (Nat × List (Nat × List Nat) × List Nat) := []
def F70 : AFn :=
 AFn.mk 24 [.tmp 2] (.seq (.row [.mk (some 2) none (.mov (.const (.string (ByteArray.mk #[])))) []]) (.seq (.row [.mk (some 5) none (.mov (.tmp 0)) [], .mk (some 6) none (.call (.func 115) [.tmp 5]) [], .mk (some 3) none (.mov (.tmp 6)) []])
 (.seq (.row [.mk (some 4) none (.mov (.const (.slice none 0 0))) []]) (.seq (.block 0 (.loop (.seq (.seq (.row [.mk (some 7) none (.mov (.tmp 3)) [], .mk (some 8) none (.bin .geq 154 .other (.tmp 7) (.const (.int .u64 128))) []]) (.cond
 (.tmp 8) .skip (.exit 0))) (.block 1 (.seq (.row [.mk (some 9) none (.mov (.tmp 4)) [], .mk (some 10) none (.mov (.tmp 3)) [], .mk (some 11) none (.bin .rem 154 .other (.tmp 10) (.const (.int .u64 128))) [], .mk (some 12) none (.conv 154 5
 (.tmp 11)) [], .mk (some 13) none (.bin .add 5 .other (.tmp 12) (.const (.int .u8 128))) [], .mk (some 14) none (.lits 1 [.val (.int .u8 0)] 1 [(0, .tmp 13)]) [], .mk (some 15) none (.app 5 1 1 (.tmp 9) (.tmp 14)) [], .mk (some 4) none
 (.mov (.tmp 15)) []]) (.row [.mk (some 16) none (.mov (.tmp 3)) [], .mk (some 17) none (.bin .quo 154 .other (.tmp 16) (.const (.int .u64 128))) [], .mk (some 3) none (.mov (.tmp 17)) []])))))) (.seq (.row [.mk (some 18) none (.mov (.tmp
 4)) [], .mk (some 19) none (.mov (.tmp 3)) [], .mk (some 20) none (.conv 154 5 (.tmp 19)) [], .mk (some 21) none (.lits 1 [.val (.int .u8 0)] 1 [(0, .tmp 20)]) [], .mk (some 22) none (.app 5 1 1 (.tmp 18) (.tmp 21)) [], .mk (some 23) none
 (.b2s (.tmp 22)) [], .mk (some 2) none (.mov (.tmp 23)) []]) .ret)))))
theorem F70_ok : compFn Tryz.prog (byId h70) 70 = some F70 := by kernel_rfl
def h102 : List (Nat × List (Nat × List Nat) × List Nat) := []
def F102 : AFn :=
 AFn.mk 11 [.tmp 4, .tmp 5] (.seq (.row [.mk (some 4) none (.mov (.const (.string (ByteArray.mk #[])))) [], .mk (some 5) none (.mov (.const (.bool false))) []]) (.seq (.row [.mk (some 6) none (.mov (.tmp 0)) [], .mk (some 7) none (.mov (.tmp
 1)) [], .mk (some 8) none (.call (.func 127) [.tmp 6, .tmp 7]) [], .mk (some 9) none (.ext (.tmp 8) 0) [], .mk (some 10) none (.ext (.tmp 8) 1) [], .mk (some 4) none (.mov (.tmp 9)) [], .mk (some 5) none (.mov (.tmp 10)) []]) .ret))
theorem F102_ok : compFn Tryz.prog (byId h102) 102 = some F102 := by kernel_rfl
def h110 : List (Nat × List (Nat × List Nat) × List Nat) := []
def F110 : AFn :=
 AFn.mk 5 [.tmp 2] (.seq (.row [.mk (some 2) none (.mov (.const (.string (ByteArray.mk #[])))) []]) (.seq (.row [.mk (some 3) none (.mov (.tmp 0)) [], .mk (some 4) none (.call (.func 131) [.tmp 3]) [], .mk (some 2) none (.mov (.tmp 4)) []])
 .ret))
theorem F110_ok : compFn Tryz.prog (byId h110) 110 = some F110 := by kernel_rfl
def h114 : List (Nat × List (Nat × List Nat) × List Nat) := []
def F114 : AFn :=
 AFn.mk 10 [.tmp 2] (.seq (.row [.mk (some 2) none (.mov (.const (.int .u64 0))) []]) (.seq (.row [.mk (some 3) none (.mov (.tmp 0)) [], .mk (some 4) none (.conv 3 154 (.tmp 3)) [], .mk (some 5) none (.bin .shl 154 .other (.tmp 4) (.const
 (.int .u64 1))) [], .mk (some 6) none (.mov (.tmp 0)) [], .mk (some 7) none (.bin .shr 3 .other (.tmp 6) (.const (.int .u64 63))) [], .mk (some 8) none (.conv 3 154 (.tmp 7)) [], .mk (some 9) none (.bin .xor 154 .other (.tmp 5) (.tmp 8))
 [], .mk (some 2) none (.mov (.tmp 9)) []]) .ret))
theorem F114_ok : compFn Tryz.prog (byId h114) 114 = some F114 := by kernel_rfl
def h127 : List (Nat × List (Nat × List Nat) × List Nat) := []
def F127 : AFn :=
 AFn.mk 15 [.tmp 4, .tmp 5] (.seq (.row [.mk (some 4) none (.mov (.const (.string (ByteArray.mk #[])))) [], .mk (some 5) none (.mov (.const (.bool false))) []]) (.seq (.seq (.row [.mk (some 6) none (.mov (.tmp 0)) [], .mk (some 7) none (.mov
 (.tmp 1)) [], .mk (some 8) none (.call (.func 143) [.tmp 6, .tmp 7]) [], .mk (some 9) none (.un .not (.tmp 8)) []]) (.cond (.tmp 9) (.seq (.row [.mk (some 10) none (.mov (.tmp 0)) [], .mk (some 4) none (.mov (.tmp 10)) [], .mk (some 5) none
 (.mov (.const (.bool false))) []]) .ret) .skip)) (.seq (.row [.mk (some 11) none (.mov (.tmp 0)) [], .mk (some 12) none (.mov (.tmp 1)) [], .mk (some 13) none (.len true (.tmp 12)) [], .mk (some 14) none (.sliceS (.tmp 11) (some (.tmp 13))
 none) [], .mk (some 4) none (.mov (.tmp 14)) [], .mk (some 5) none (.mov (.const (.bool true))) []]) .ret)))
theorem F127_ok : compFn Tryz.prog (byId h127) 127 = some F127 := by kernel_rfl
def h132 : List (Nat × List (Nat × List Nat) × List Nat) := []
def F132 : AFn :=
 AFn.mk 14 [.tmp 2] (.seq (.row [.mk (some 2) none (.mov (.const (.int .i64 0))) []]) (.seq (.seq (.row [.mk (some 3) none (.mov (.tmp 0)) [], .mk (some 4) none (.bin .rem 154 .other (.tmp 3) (.const (.int .u64 2))) [], .mk (some 5) none
 (.bin .eql 154 .other (.tmp 4) (.const (.int .u64 1))) []]) (.cond (.tmp 5) (.seq (.row [.mk (some 6) none (.mov (.tmp 0)) [], .mk (some 7) none (.bin .quo 154 .other (.tmp 6) (.const (.int .u64 2))) [], .mk (some 8) none (.conv 154 3 (.tmp
 7)) [], .mk (some 9) none (.un .neg (.tmp 8)) [], .mk (some 10) none (.bin .sub 3 .other (.tmp 9) (.const (.int .i64 1))) [], .mk (some 2) none (.mov (.tmp 10)) []]) .ret) .skip)) (.seq (.row [.mk (some 11) none (.mov (.tmp 0)) [], .mk
 (some 12) none (.bin .quo 154 .other (.tmp 11) (.const (.int .u64 2))) [], .mk (some 13) none (.conv 154 3 (.tmp 12)) [], .mk (some 2) none (.mov (.tmp 13)) []]) .ret)))
theorem F132_ok : compFn Tryz.prog (byId h132) 132 = some F132 := by kernel_rfl
def h147 : List (Nat × List (Nat × List Nat) × List Nat) := []
def F147 : AFn :=
 AFn.mk 20 [.tmp 2] (.seq (.row [.mk (some 1) none (.box 170 (.tmp 0)) [], .mk (some 2) none (.mov (.const (.int .i64 0))) []]) (.seq (.row [.mk (some 3) none (.mov (.const (.int .i64 0))) []]) (.seq (.seq (.row [.mk (some 6) none (.fieldA 3
 (.tmp 1)) [], .mk (some 7) none (.load none (.tmp 6)) [], .mk (some 8) none (.len false (.tmp 7)) [], .mk (some 9) none (.mov (.const (.int .i64 0))) []]) (.block 0 (.loop (.seq (.row [.mk (some 10) none (.bin .lss 3 .other (.tmp 9) (.tmp
 8)) []]) (.seq (.cond (.tmp 10) .skip (.exit 0)) (.seq (.block 1 (.seq (.row [.mk (some 11) none (.idxL 5 (.tmp 7) (.tmp 9)) [], .mk (some 12) none (.load (some 5) (.tmp 11)) [], .mk (some 5) none (.alloc 170 [.val (.int .i64 0), .val
 (.string (ByteArray.mk #[])), .val (.int .i64 0), .sl [] [] .full, .val (.int .i64 0)]) [], .mk none none (.store 5 (.tmp 5) (.tmp 12)) []]) (.row [.mk (some 13) none (.mov (.tmp 3)) [], .mk (some 14) none (.load (some 5) (.tmp 5)) [], .mk
 (some 15) none (.call (.func 147) [.tmp 14]) [], .mk (some 16) none (.mm true [.tmp 13, .tmp 15]) [], .mk (some 3) none (.mov (.tmp 16)) []]))) (.row [.mk (some 17) none (.bin .add 3 .other (.tmp 9) (.const (.int .i64 1))) [], .mk (some 9)
 none (.mov (.tmp 17)) []]))))))) (.seq (.row [.mk (some 18) none (.mov (.tmp 3)) [], .mk (some 19) none (.bin .add 3 .other (.tmp 18) (.const (.int .i64 1))) [], .mk (some 2) none (.mov (.tmp 19)) []]) .ret))))
theorem F147_ok : compFn Tryz.prog (byId h147) 147 = some F147 := by kernel_rfl
def h172 : List (Nat × List (Nat × List Nat) × List Nat) := []
def F172 : AFn :=
 AFn.mk 12 [] (.row [.mk (some 2) none (.mov (.tmp 0)) [], .mk (some 3) none (.nilc (.tmp 2)) [], .mk (some 4) none (.fieldA 0 (.tmp 3)) [], .mk (some 5) none (.load none (.tmp 4)) [], .mk (some 6) none (.idxL 5 (.tmp 5) (.const (.int .i64
 0))) [], .mk (some 7) none (.fieldA 4 (.tmp 6)) [], .mk (some 8) none (.load none (.tmp 7)) [], .mk (some 9) none (.build [.val (.int .i64 0)] [(0, 1, .tmp 8)]) [], .mk (some 10) none (.box 220 (.tmp 9)) [], .mk (some 11) none (.mki 215
 (.tmp 10)) [], .mk none none (.panic (.tmp 11)) []])
theorem F172_ok : compFn Tryz.prog (byId h172) 172 = some F172 := by kernel_rfl
def h185 : List (Nat × List (Nat × List Nat) × List Nat) := []
def F185 : AFn :=
 AFn.mk 20 [.tmp 4] (.seq (.row [.mk (some 4) none (.mov (.const (.int .i64 0))) []]) (.seq (.row [.mk (some 5) none (.mov (.const (.int .i64 0))) []]) (.seq (.block 0 (.loop (.seq (.seq (.row [.mk (some 6) none (.mov (.tmp 5)) [], .mk (some
 7) none (.mov (.tmp 0)) [], .mk (some 8) none (.len true (.tmp 7)) [], .mk (some 9) none (.bin .lss 3 .other (.tmp 6) (.tmp 8)) [], .mk (some 10) none (.mov (.tmp 9)) [], .mk (some 11) (some (10, true)) (.mov (.tmp 1)) [], .mk (some 12)
 (some (10, true)) (.mov (.tmp 0)) [], .mk (some 13) (some (10, true)) (.mov (.tmp 5)) [], .mk (some 14) (some (10, true)) (.idxStr (.tmp 12) (.tmp 13)) [], .mk (some 15) (some (10, true)) (.call (.tmp 11) [.tmp 14]) [], .mk (some 16) none
 (.pick (.tmp 10) (.tmp 15) (.const (.bool false))) []]) (.cond (.tmp 16) .skip (.exit 0))) (.block 1 (.row [.mk (some 17) none (.mov (.tmp 5)) [], .mk (some 18) none (.bin .add 3 .other (.tmp 17) (.const (.int .i64 1))) [], .mk (some 5)
 none (.mov (.tmp 18)) []]))))) (.seq (.row [.mk (some 19) none (.mov (.tmp 5)) [], .mk (some 4) none (.mov (.tmp 19)) []]) .ret))))
theorem F185_ok : compFn Tryz.prog (byId h185) 185 = some F185 := by kernel_rfl
def h203 : List (Nat × List (Nat × List Nat) × List Nat) := []
def F203 : AFn :=
 AFn.mk 25 [.tmp 2] (.seq (.row [.mk (some 2) none (.mov (.const (.string (ByteArray.mk #[])))) []]) (.seq (.row [.mk (some 4) none (.mov (.tmp 0)) [], .mk (some 5) none (.nilc (.tmp 4)) [], .mk (some 6) none (.fieldA 0 (.tmp 5)) [], .mk
 (some 7) none (.load none (.tmp 6)) [], .mk (some 8) none (.idxL 5 (.tmp 7) (.const (.int .i64 0))) [], .mk (some 9) none (.load (some 5) (.tmp 8)) [], .mk (some 3) none (.alloc 179 [.val (.int .i64 0), .val (.string (ByteArray.mk #[])),
 .val (.int .i64 0), .val (.int .i64 0), .val (.int .i64 0)]) [], .mk none none (.store 5 (.tmp 3) (.tmp 9)) []]) (.seq (.seq (.row [.mk (some 10) none (.fieldA 0 (.tmp 3)) [], .mk (some 11) none (.load none (.tmp 10)) [], .mk (some 12) none
 (.bin .neq 177 .other (.tmp 11) (.const (.int .i64 1))) []]) (.cond (.tmp 12) (.row [.mk (some 13) none (.mov (.tmp 0)) [], .mk (some 14) none (.call (.func 172) [.tmp 13]) []]) .skip)) (.seq (.row [.mk (some 15) none (.mov (.tmp 0)) [],
 .mk (some 16) none (.mov (.tmp 0)) [], .mk (some 17) none (.nilc (.tmp 16)) [], .mk (some 18) none (.fieldA 0 (.tmp 17)) [], .mk (some 19) none (.load none (.tmp 18)) [], .mk (some 20) none (.sliceL 5 (.tmp 19) (some (.const (.int .i64 1)))
 none none) [], .mk (some 21) none (.nilc (.tmp 15)) [], .mk (some 22) none (.fieldA 0 (.tmp 21)) [], .mk none none (.store 1 (.tmp 22) (.tmp 20)) []]) (.seq (.row [.mk (some 23) none (.fieldA 1 (.tmp 3)) [], .mk (some 24) none (.load none
 (.tmp 23)) [], .mk (some 2) none (.mov (.tmp 24)) []]) .ret)))))
theorem F203_ok : compFn Tryz.prog (byId h203) 203 = some F203 := by kernel_rfl
def h216 : List (Nat × List (Nat × List Nat) × List Nat) := [(1, [(0, []), (1, []), (2, []), (3, []), (4, []), (5, []), (6, []), (7, []), (8, []), (9, [])], [0, 1, 3, 7, 0, 16, 48, 112, 240, 511]), (2, [(0, []), (1, []), (2, []), (3, []), (4, []), (5, []), (6, []), (7, []), (8, []), (9, []), (10,
 [])], [0, 0, 2, 6, 14, 0, 32, 96, 224, 510, 1023]), (3, [(0, []), (1, []), (2, []), (3, []), (4, []), (5, []), (6, []), (7, []), (8, []), (9, []), (10, []), (11, []), (12, []), (13, []), (14, []), (15, []), (16, [])], [0, 0, 2, 6, 14, 0,
 32, 96, 224, 510, 1023, 2047, 4095, 4095, 0, 24575, 65535]), (4, [(0, []), (1, []), (2, []), (3, []), (4, []), (5, []), (6, []), (7, []), (8, []), (9, [4, 7]), (10, []), (11, [])], [0, 1, 3, 7, 0, 16, 48, 112, 15, 271, 1023, 2047])]
def F216 : AFn :=
 AFn.mk 71 [] (.block 0 (.loop (.block 1 (.seq (.row [.mk (some 5) none (.load none (.tmp 1)) [], .mk (some 6) none (.call (.func 217) [.tmp 5]) []]) (.seq (.seq (.row [.mk (some 7) none (.load none (.tmp 1)) [], .mk (some 8) none (.nilc
 (.tmp 7)) [], .mk (some 9) none (.fieldA 1 (.tmp 8)) [], .mk (some 10) none (.load none (.tmp 9)) [], .mk (some 11) none (.load none (.tmp 1)) [], .mk (some 12) none (.nilc (.tmp 11)) [], .mk (some 13) none (.fieldA 0 (.tmp 12)) [], .mk
 (some 14) none (.load none (.tmp 13)) [], .mk (some 15) none (.len true (.tmp 14)) [], .mk (some 16) none (.bin .eql 3 .other (.tmp 10) (.tmp 15)) []]) (.cond (.tmp 16) (.seq (.row [.mk (some 17) none (.mov (.tmp 0)) [], .mk (some 18) none
 (.load none (.tmp 1)) [], .mk (some 19) none (.nilc (.tmp 18)) [], .mk (some 20) none (.fieldA 2 (.tmp 19)) [], .mk (some 21) none (.load none (.tmp 20)) [], .mk (some 22) none (.load none (.tmp 1)) [], .mk (some 23) none (.nilc (.tmp 22))
 [], .mk (some 24) none (.fieldA 1 (.tmp 23)) [], .mk (some 25) none (.load none (.tmp 24)) [], .mk (some 26) none (.build [.val (.int .i64 0), .val (.string (ByteArray.mk #[])), .val (.int .i64 0), .val (.int .i64 0), .val (.int .i64 0)]
 [(3, 1, .tmp 21), (4, 1, .tmp 25)]) [], .mk (some 27) none (.call (.tmp 17) [.tmp 26]) []]) .ret) .skip)) (.seq (.row [.mk (some 29) none (.load none (.tmp 1)) [], .mk (some 30) none (.load none (.tmp 1)) [], .mk (some 31) none (.nilc (.tmp
 30)) [], .mk (some 32) none (.fieldA 0 (.tmp 31)) [], .mk (some 33) none (.load none (.tmp 32)) [], .mk (some 34) none (.load none (.tmp 1)) [], .mk (some 35) none (.nilc (.tmp 34)) [], .mk (some 36) none (.fieldA 1 (.tmp 35)) [], .mk (some
 37) none (.load none (.tmp 36)) [], .mk (some 38) none (.sliceS (.tmp 33) (some (.tmp 37)) none) [], .mk (some 39) none (.call (.func 218) [.tmp 29, .tmp 38]) [], .mk (some 28) none (.mov (.tmp 39)) [], .mk (some 40) none (.ext (.tmp 28) 0)
 [], .mk (some 41) none (.ext (.tmp 28) 1) [], .mk (some 3) none (.alloc 179 [.val (.int .i64 0), .val (.string (ByteArray.mk #[])), .val (.int .i64 0), .val (.int .i64 0), .val (.int .i64 0)]) [], .mk none none (.store 5 (.tmp 3) (.tmp 40))
 [], .mk (some 4) none (.mov (.tmp 41)) []]) (.seq (.row [.mk (some 42) none (.load none (.tmp 1)) [], .mk (some 43) none (.nilc (.tmp 42)) [], .mk (some 44) none (.fieldA 2 (.tmp 43)) [], .mk (some 45) none (.load none (.tmp 44)) [], .mk
 (some 46) none (.load none (.tmp 1)) [], .mk (some 47) none (.nilc (.tmp 46)) [], .mk (some 48) none (.fieldA 1 (.tmp 47)) [], .mk (some 49) none (.load none (.tmp 48)) [], .mk (some 50) none (.fieldA 3 (.tmp 3)) [], .mk none none (.store 1
 (.tmp 50) (.tmp 45)) [(46, none, .load none (.tmp 1)), (49, none, .load none (.tmp 48))], .mk (some 51) none (.fieldA 4 (.tmp 3)) [], .mk none none (.store 1 (.tmp 51) (.tmp 49)) []]) (.seq (.seq (.row [.mk (some 52) none (.load none (.tmp
 1)) [], .mk (some 53) none (.nilc (.tmp 52)) [], .mk (some 54) none (.fieldA 3 (.tmp 53)) [], .mk (some 55) none (.load none (.tmp 54)) [], .mk (some 56) none (.bin .neq 25 .other (.tmp 55) (.const (.int .i64 0))) [], .mk (some 57) none
 (.mov (.tmp 56)) [], .mk (some 58) (some (57, false)) (.mov (.tmp 0)) [], .mk (some 59) (some (57, false)) (.load (some 5) (.tmp 3)) [], .mk (some 60) (some (57, false)) (.call (.tmp 58) [.tmp 59]) [], .mk (some 61) (some (57, false)) (.un
 .not (.tmp 60)) [], .mk (some 62) none (.pick (.tmp 57) (.const (.bool true)) (.tmp 61)) []]) (.cond (.tmp 62) .ret .skip)) (.row [.mk (some 63) none (.load none (.tmp 1)) [], .mk (some 64) none (.nilc (.tmp 63)) [], .mk (some 65) none
 (.fieldA 1 (.tmp 64)) [], .mk (some 66) none (.load none (.tmp 65)) [], .mk (some 67) none (.mov (.tmp 4)) [], .mk (some 68) none (.bin .add 3 .other (.tmp 66) (.tmp 67)) [], .mk (some 69) none (.nilc (.tmp 63)) [], .mk (some 70) none
 (.fieldA 1 (.tmp 69)) [], .mk none none (.store 1 (.tmp 70) (.tmp 68)) []])))))))))
theorem F216_ok : compFn Tryz.prog (byId h216) 216 = some F216 := by kernel_rfl
def h223 : List (Nat × List (Nat × List Nat) × List Nat) := []
def F223 : AFn :=
 AFn.mk 18 [.tmp 6] (.seq (.row [.mk (some 6) none (.mov (.const (.slice none 0 0))) []]) (.seq (.seq (.row [.mk (some 8) none (.mov (.tmp 0)) [], .mk (some 9) none (.mov (.tmp 1)) [], .mk (some 10) none (.call (.func 201) [.tmp 8, .tmp 9])
 []]) (.cond (.tmp 10) (.seq (.row [.mk (some 6) none (.mov (.const (.slice none 0 0))) []]) .ret) .skip)) (.seq (.row [.mk (some 11) none (.mov (.tmp 0)) [], .mk (some 12) none (.mov (.tmp 2)) [], .mk (some 13) none (.call (.func 225) [.tmp
 11, .tmp 12]) [], .mk (some 7) none (.mov (.tmp 13)) []]) (.seq (.row [.mk (some 14) none (.mov (.tmp 0)) [], .mk (some 15) none (.mov (.tmp 1)) [], .mk (some 16) none (.call (.func 175) [.tmp 14, .tmp 15]) []]) (.seq (.row [.mk (some 17)
 none (.mov (.tmp 7)) [], .mk (some 6) none (.mov (.tmp 17)) []]) .ret)))))
theorem F223_ok : compFn Tryz.prog (byId h223) 223 = some F223 := by kernel_rfl
def h234 : List (Nat × List (Nat × List Nat) × List Nat) := []
def F234 : AFn :=
 AFn.mk 59 [.tmp 4, .tmp 5] (.seq (.row [.mk (some 4) none (.mov (.const (.string (ByteArray.mk #[])))) [], .mk (some 5) none (.mov (.const (.int .i64 0))) []]) (.seq (.row [.mk (some 6) none (.alloc 328 [.val (.pointer none), .sl [] []
 .full]) []]) (.seq (.seq (.row [.mk (some 7) none (.mov (.const (.int .i64 0))) []]) (.block 0 (.loop (.seq (.seq (.row [.mk (some 9) none (.mov (.tmp 7)) [], .mk (some 10) none (.mov (.tmp 1)) [], .mk (some 11) none (.len true (.tmp 10))
 [], .mk (some 12) none (.bin .lss 3 .other (.tmp 9) (.tmp 11)) []]) (.cond (.tmp 12) .skip (.exit 0))) (.seq (.block 1 (.seq (.row [.mk (some 15) none (.mov (.tmp 1)) [], .mk (some 16) none (.mov (.tmp 7)) [], .mk (some 17) none (.idxStr
 (.tmp 15) (.tmp 16)) [], .mk (some 8) none (.mov (.tmp 17)) []]) (.seq (.seq (.row [.mk (some 18) none (.mov (.tmp 8)) [], .mk (some 19) none (.bin .eql 5 .other (.tmp 18) (.const (.int .u8 34))) []]) (.cond (.tmp 19) (.seq (.row [.mk (some
 20) none (.call (.func 241) [.tmp 6]) [], .mk (some 21) none (.mov (.tmp 7)) [], .mk (some 22) none (.bin .add 3 .other (.tmp 21) (.const (.int .i64 2))) [], .mk (some 4) none (.mov (.tmp 20)) [], .mk (some 5) none (.mov (.tmp 22)) []])
 .ret) .skip)) (.seq (.seq (.row [.mk (some 23) none (.mov (.tmp 8)) [], .mk (some 24) none (.bin .lss 5 .other (.tmp 23) (.const (.int .u8 32))) [], .mk (some 25) none (.mov (.tmp 24)) [], .mk (some 26) (some (25, false)) (.mov (.tmp 8))
 [], .mk (some 27) (some (25, false)) (.bin .gtr 5 .other (.tmp 26) (.const (.int .u8 126))) [], .mk (some 28) none (.pick (.tmp 25) (.const (.bool true)) (.tmp 27)) []]) (.cond (.tmp 28) (.exit 0) .skip)) (.seq (.seq (.row [.mk (some 29)
 none (.mov (.tmp 8)) [], .mk (some 30) none (.bin .eql 5 .other (.tmp 29) (.const (.int .u8 92))) []]) (.cond (.tmp 30) (.seq (.seq (.row [.mk (some 31) none (.mov (.tmp 7)) [], .mk (some 32) none (.bin .add 3 .other (.tmp 31) (.const (.int
 .i64 1))) [], .mk (some 7) none (.mov (.tmp 32)) []]) (.seq (.row [.mk (some 33) none (.mov (.tmp 7)) [], .mk (some 34) none (.mov (.tmp 1)) [], .mk (some 35) none (.len true (.tmp 34)) [], .mk (some 36) none (.bin .eql 3 .other (.tmp 33)
 (.tmp 35)) [], .mk (some 37) none (.mov (.tmp 36)) [], .mk (some 38) (some (37, false)) (.mov (.tmp 1)) [], .mk (some 39) (some (37, false)) (.mov (.tmp 7)) [], .mk (some 40) (some (37, false)) (.idxStr (.tmp 38) (.tmp 39)) [], .mk (some
 41) (some (37, false)) (.call (.func 242) [.const (.string (ByteArray.mk #[92, 34, 110])), .tmp 40]) [], .mk (some 42) (some (37, false)) (.bin .lss 3 .other (.tmp 41) (.const (.int .i64 0))) [], .mk (some 43) none (.pick (.tmp 37) (.const
 (.bool true)) (.tmp 42)) []]) (.cond (.tmp 43) (.exit 0) .skip))) (.seq (.row [.mk (some 44) none (.mov (.tmp 1)) [], .mk (some 45) none (.mov (.tmp 7)) [], .mk (some 46) none (.idxStr (.tmp 44) (.tmp 45)) [], .mk (some 8) none (.mov (.tmp
 46)) []]) (.seq (.row [.mk (some 47) none (.mov (.tmp 8)) [], .mk (some 48) none (.bin .eql 5 .other (.tmp 47) (.const (.int .u8 110))) []]) (.cond (.tmp 48) (.row [.mk (some 8) none (.mov (.const (.int .u8 10))) []]) .skip)))) .skip))
 (.seq (.seq (.row [.mk (some 49) none (.call (.func 243) [.tmp 6]) [], .mk (some 50) none (.bin .eql 3 .other (.tmp 49) (.const (.int .i64 255))) []]) (.cond (.tmp 50) (.seq (.row [.mk (some 51) none (.mov (.tmp 0)) [], .mk (some 52) none
 (.nilc (.tmp 51)) [], .mk (some 53) none (.fieldA 3 (.tmp 52)) [], .mk none none (.store 1 (.tmp 53) (.const (.int .i64 5))) []]) (.seq (.row [.mk (some 4) none (.mov (.const (.string (ByteArray.mk #[])))) [], .mk (some 5) none (.mov
 (.const (.int .i64 0))) []]) .ret)) .skip)) (.row [.mk (some 54) none (.mov (.tmp 8)) [], .mk (some 55) none (.call (.func 244) [.tmp 6, .tmp 54]) []]))))))) (.row [.mk (some 13) none (.mov (.tmp 7)) [], .mk (some 14) none (.bin .add 3
 .other (.tmp 13) (.const (.int .i64 1))) [], .mk (some 7) none (.mov (.tmp 14)) []])))))) (.seq (.row [.mk (some 56) none (.mov (.tmp 0)) [], .mk (some 57) none (.nilc (.tmp 56)) [], .mk (some 58) none (.fieldA 3 (.tmp 57)) [], .mk none
 none (.store 1 (.tmp 58) (.const (.int .i64 6))) []]) (.seq (.row [.mk (some 4) none (.mov (.const (.string (ByteArray.mk #[])))) [], .mk (some 5) none (.mov (.const (.int .i64 0))) []]) .ret)))))
theorem F234_ok : compFn Tryz.prog (byId h234) 234 = some F234 := by kernel_rfl
end Go.Av.Fn
