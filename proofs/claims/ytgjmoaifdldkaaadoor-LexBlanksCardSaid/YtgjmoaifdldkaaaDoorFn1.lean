/- The functions of the program made ready for going through, part 1. No condition. -/
import Derived.Test.YtgjmoaifdldkaaaDoorProg
import Derived.Test.YtgjmoaifdldkaaaDoorAvH
import Derived.KernelRfl
namespace Go.Av.Fn
open Go.Proofs
set_option maxRecDepth 100000
def h3 : List (Nat × List (Nat × List Nat) × List Nat) := []
def F3 : AFn :=
  AFn.mk 37 [ARes.tmp 2]
 ((ACode.row [Item.mk (some 2) none (AOp.mov (Operand.const (Value.bool false))) []]).seq
 ((ACode.row
 [Item.mk (some 10) none (AOp.mov (Operand.tmp 0)) [],
 Item.mk (some 11) none (AOp.call (Operand.func 5) [Operand.tmp 10]) [],
 Item.mk (some 9) none (AOp.mov (Operand.tmp 11)) [], Item.mk (some 12) none (AOp.ext (Operand.tmp 9) 0) [],
 Item.mk (some 13) none (AOp.ext (Operand.tmp 9) 1) [],
 Item.mk (some 14) none (AOp.ext (Operand.tmp 9) 2) [], Item.mk (some 3) none (AOp.mov (Operand.tmp 12)) [],
 Item.mk (some 4) none (AOp.mov (Operand.tmp 13)) [],
 Item.mk (some 5) none (AOp.mov (Operand.tmp 14)) []]).seq
 ((ACode.row
 [Item.mk (some 16) none (AOp.mov (Operand.tmp 0)) [],
 Item.mk (some 17) none (AOp.call (Operand.func 6) [Operand.tmp 16]) [],
 Item.mk (some 15) none (AOp.mov (Operand.tmp 17)) [],
 Item.mk (some 18) none (AOp.ext (Operand.tmp 15) 0) [],
 Item.mk (some 19) none (AOp.ext (Operand.tmp 15) 1) [],
 Item.mk (some 20) none (AOp.ext (Operand.tmp 15) 2) [],
 Item.mk (some 6) none (AOp.mov (Operand.tmp 18)) [], Item.mk (some 7) none (AOp.mov (Operand.tmp 19)) [],
 Item.mk (some 8) none (AOp.mov (Operand.tmp 20)) []]).seq
 ((ACode.row
 [Item.mk (some 21) none (AOp.mov (Operand.tmp 3)) [], Item.mk (some 22) none (AOp.mov (Operand.tmp 6)) [],
 Item.mk (some 23) none (AOp.call (Operand.func 7) [Operand.tmp 21, Operand.tmp 22]) [],
 Item.mk (some 24) none (AOp.mov (Operand.tmp 23)) [],
 Item.mk (some 25) (some (24, true)) (AOp.mov (Operand.tmp 4)) [],
 Item.mk (some 26) (some (24, true)) (AOp.mov (Operand.tmp 7)) [],
 Item.mk (some 27) (some (24, true)) (AOp.bin BinOp.eql 3 Cmp.other (Operand.tmp 25) (Operand.tmp 26))
 [],
 Item.mk (some 28) none (AOp.pick (Operand.tmp 24) (Operand.tmp 27) (Operand.const (Value.bool false)))
 [],
 Item.mk (some 29) none (AOp.mov (Operand.tmp 28)) [],
 Item.mk (some 30) (some (29, true)) (AOp.mov (Operand.tmp 5)) [],
 Item.mk (some 31) (some (29, true)) (AOp.mov (Operand.tmp 8)) [],
 Item.mk (some 32) (some (29, true)) (AOp.bin BinOp.eql 3 Cmp.other (Operand.tmp 30) (Operand.tmp 31))
 [],
 Item.mk (some 33) none (AOp.pick (Operand.tmp 29) (Operand.tmp 32) (Operand.const (Value.bool false)))
 [],
 Item.mk (some 34) none (AOp.mov (Operand.tmp 33)) [],
 Item.mk (some 35) (some (34, true)) (AOp.call (Operand.func 8) []) [],
 Item.mk (some 36) none (AOp.pick (Operand.tmp 34) (Operand.tmp 35) (Operand.const (Value.bool false)))
 [],
 Item.mk (some 2) none (AOp.mov (Operand.tmp 36)) []]).seq
 ACode.ret))))
theorem F3_ok : compFn Tryd.prog (byId h3) 3 = some F3 := by kernel_rfl
def h4 : List (Nat × List (Nat × List Nat) × List Nat) := [(22, [(0, []), (1, []), (2, []), (3, []), (4, []), (5, []), (6, []), (7, []), (8, []), (9, []), (10, []), (11, []), (12, []), (13, []), (14, []), (15, []), (16, []), (17, []), (18, []), (19, []), (20, []), (21, []), (22, []), (23, []), (24, []), (25, []), (26, []), (27, []), (28, []), (29, []), (30, []), (31, []), (32, []), (33, []), (34, []), (35, []), (36, []), (37, []), (38, []), (39, []), (40, []), (41, []), (42, []), (43, []), (44, []), (45, []), (46, []), (47, []), (48, []), (49, []), (50, []), (51, []), (52, []), (53, []), (54, []), (55, []), (56, []), (57, []), (58, []), (59, []), (60, []), (61, []), (62, []), (63, []), (64, []), (65, []), (66, [])], [0, 0, 3, 7, 15, 0, 0, 96, 224, 480, 1023, 2047, 4095, 4095, 16383, 32767, 65535, 4095, 4095, 397311, 921599, 1970175, 4194303, 8388607, 16777215, 33554431, 33554431, 134217727, 268435455, 536870911, 33554431, 33554431, 3254779903, 7549747199, 16139681791, 34359738367, 68719476735, 137438953471, 274877906943, 274877906943, 1099511627775, 2199023255551, 4398046511103, 274877906943, 17592186044415, 274877906943, 274877906943, 105827994173439, 246565482528767, 528040459239423, 1125899906842623, 2251799813685247, 4503599627370495, 9007199254740991, 9007199254740991, 36028797018963967, 72057594037927935, 144115188075855871, 9007199254740991, 576460752303423487, 9007199254740991, 9007199254740991, 3467771713075281919, 8079457731502669823, 17302829768357445631, 36893488147419103231, 73786976294838206463])]
def F4 : AFn :=
  AFn.mk 172 [ARes.tmp 6]
 ((ACode.row [Item.mk (some 6) none (AOp.mov (Operand.const (Value.bool false))) []]).seq
 (((ACode.row
 [Item.mk (some 17) none (AOp.mov (Operand.tmp 0)) [],
 Item.mk (some 18) none (AOp.len true (Operand.tmp 17)) [],
 Item.mk (some 19) none
 (AOp.bin BinOp.gtr 3 Cmp.other (Operand.tmp 18)
 (Operand.const (Value.int IntKind.i64 3000)))
 [],
 Item.mk (some 20) none (AOp.mov (Operand.tmp 19)) [],
 Item.mk (some 21) (some (20, false)) (AOp.mov (Operand.tmp 2)) [],
 Item.mk (some 22) (some (20, false)) (AOp.len true (Operand.tmp 21)) [],
 Item.mk (some 23) (some (20, false))
 (AOp.bin BinOp.gtr 3 Cmp.other (Operand.tmp 22)
 (Operand.const (Value.int IntKind.i64 500)))
 [],
 Item.mk (some 24) none (AOp.pick (Operand.tmp 20) (Operand.const (Value.bool true)) (Operand.tmp 23))
 [],
 Item.mk (some 25) none (AOp.mov (Operand.tmp 24)) [],
 Item.mk (some 26) (some (25, false)) (AOp.mov (Operand.tmp 1)) [],
 Item.mk (some 27) (some (25, false))
 (AOp.bin BinOp.lss 3 Cmp.other (Operand.tmp 26)
 (Operand.const (Value.int IntKind.i64 0)))
 [],
 Item.mk (some 28) none (AOp.pick (Operand.tmp 25) (Operand.const (Value.bool true)) (Operand.tmp 27))
 [],
 Item.mk (some 29) none (AOp.mov (Operand.tmp 28)) [],
 Item.mk (some 30) (some (29, false)) (AOp.mov (Operand.tmp 1)) [],
 Item.mk (some 31) (some (29, false))
 (AOp.bin BinOp.gtr 3 Cmp.other (Operand.tmp 30)
 (Operand.const (Value.int IntKind.i64 100)))
 [],
 Item.mk (some 32) none (AOp.pick (Operand.tmp 29) (Operand.const (Value.bool true)) (Operand.tmp 31))
 []]).seq
 (ACode.cond (Operand.tmp 32)
 ((ACode.row
 [Item.mk (some 33) none (AOp.call (Operand.func 8) []) [],
 Item.mk (some 6) none (AOp.mov (Operand.tmp 33)) []]).seq
 ACode.ret)
 ACode.skip)).seq
 (((ACode.row [Item.mk (some 7) none (AOp.mov (Operand.const (Value.int IntKind.i64 0))) []]).seq
 (ACode.block 0
 (((ACode.row
 [Item.mk (some 34) none (AOp.mov (Operand.tmp 7)) [],
 Item.mk (some 35) none (AOp.mov (Operand.tmp 2)) [],
 Item.mk (some 36) none (AOp.len true (Operand.tmp 35)) [],
 Item.mk (some 37) none (AOp.bin BinOp.lss 3 Cmp.other (Operand.tmp 34) (Operand.tmp 36))
 []]).seq
 (ACode.cond (Operand.tmp 37) ACode.skip (ACode.exit 0))).seq
 ((ACode.block 1
 ((ACode.row
 [Item.mk (some 40) none (AOp.mov (Operand.tmp 2)) [],
 Item.mk (some 41) none (AOp.mov (Operand.tmp 7)) [],
 Item.mk (some 42) none (AOp.idxStr (Operand.tmp 40) (Operand.tmp 41)) [],
 Item.mk (some 43) none
 (AOp.bin BinOp.eql 5 Cmp.other (Operand.tmp 42)
 (Operand.const (Value.int IntKind.u8 10)))
 []]).seq
 (ACode.cond (Operand.tmp 43)
 ((ACode.row
 [Item.mk (some 44) none (AOp.call (Operand.func 8) []) [],
 Item.mk (some 6) none (AOp.mov (Operand.tmp 44)) []]).seq
 ACode.ret)
 ACode.skip))).seq
 (ACode.row
 [Item.mk (some 38) none (AOp.mov (Operand.tmp 7)) [],
 Item.mk (some 39) none
 (AOp.bin BinOp.add 3 Cmp.other (Operand.tmp 38)
 (Operand.const (Value.int IntKind.i64 1)))
 [],
 Item.mk (some 7) none (AOp.mov (Operand.tmp 39)) []]))).loop)).seq
 ((ACode.row [Item.mk (some 8) none (AOp.mov (Operand.const (Value.string (ByteArray.mk #[])))) []]).seq
 (((ACode.row [Item.mk (some 9) none (AOp.mov (Operand.const (Value.int IntKind.i64 0))) []]).seq
 (ACode.block 2
 (((ACode.row
 [Item.mk (some 45) none (AOp.mov (Operand.tmp 9)) [],
 Item.mk (some 46) none (AOp.mov (Operand.tmp 1)) [],
 Item.mk (some 47) none (AOp.bin BinOp.lss 3 Cmp.other (Operand.tmp 45) (Operand.tmp 46))
 []]).seq
 (ACode.cond (Operand.tmp 47) ACode.skip (ACode.exit 2))).seq
 ((ACode.block 3
 (ACode.row
 [Item.mk (some 50) none (AOp.mov (Operand.tmp 8)) [],
 Item.mk (some 51) none
 (AOp.bin BinOp.add 9 Cmp.other (Operand.tmp 50)
 (Operand.const (Value.string (ByteArray.mk #[10]))))
 [],
 Item.mk (some 8) none (AOp.mov (Operand.tmp 51)) []])).seq
 (ACode.row
 [Item.mk (some 48) none (AOp.mov (Operand.tmp 9)) [],
 Item.mk (some 49) none
 (AOp.bin BinOp.add 3 Cmp.other (Operand.tmp 48)
 (Operand.const (Value.int IntKind.i64 1)))
 [],
 Item.mk (some 9) none (AOp.mov (Operand.tmp 49)) []]))).loop)).seq
 ((ACode.row
 [Item.mk (some 53) none (AOp.mov (Operand.tmp 0)) [],
 Item.mk (some 54) none (AOp.call (Operand.func 5) [Operand.tmp 53]) [],
 Item.mk (some 52) none (AOp.mov (Operand.tmp 54)) [],
 Item.mk (some 55) none (AOp.ext (Operand.tmp 52) 0) [],
 Item.mk (some 56) none (AOp.ext (Operand.tmp 52) 1) [],
 Item.mk (some 57) none (AOp.ext (Operand.tmp 52) 2) [],
 Item.mk (some 10) none (AOp.mov (Operand.tmp 55)) [],
 Item.mk (some 11) none (AOp.mov (Operand.tmp 56)) [],
 Item.mk (some 12) none (AOp.mov (Operand.tmp 57)) []]).seq
 ((ACode.row
 [Item.mk (some 59) none (AOp.mov (Operand.tmp 8)) [],
 Item.mk (some 60) none (AOp.mov (Operand.tmp 0)) [],
 Item.mk (some 61) none (AOp.bin BinOp.add 9 Cmp.other (Operand.tmp 59) (Operand.tmp 60)) [],
 Item.mk (some 62) none
 (AOp.bin BinOp.add 9 Cmp.other (Operand.tmp 61)
 (Operand.const
 (Value.string (ByteArray.mk #[10, 47, 47]))))
 [],
 Item.mk (some 63) none (AOp.mov (Operand.tmp 2)) [],
 Item.mk (some 64) none (AOp.bin BinOp.add 9 Cmp.other (Operand.tmp 62) (Operand.tmp 63)) [],
 Item.mk (some 65) none (AOp.call (Operand.func 5) [Operand.tmp 64]) [],
 Item.mk (some 58) none (AOp.mov (Operand.tmp 65)) [],
 Item.mk (some 66) none (AOp.ext (Operand.tmp 58) 0) [],
 Item.mk (some 67) none (AOp.ext (Operand.tmp 58) 1) [],
 Item.mk (some 68) none (AOp.ext (Operand.tmp 58) 2) [],
 Item.mk (some 13) none (AOp.mov (Operand.tmp 66)) [],
 Item.mk (some 14) none (AOp.mov (Operand.tmp 67)) [],
 Item.mk (some 15) none (AOp.mov (Operand.tmp 68)) []]).seq
 (((ACode.row
 [Item.mk (some 69) none (AOp.mov (Operand.tmp 12)) [],
 Item.mk (some 70) none
 (AOp.bin BinOp.neq 23 Cmp.other (Operand.tmp 69)
 (Operand.const (Value.int IntKind.i64 0)))
 []]).seq
 (ACode.cond (Operand.tmp 70)
 ((ACode.row
 [Item.mk (some 71) none (AOp.mov (Operand.tmp 12)) [],
 Item.mk (some 72) none (AOp.mov (Operand.tmp 15)) [],
 Item.mk (some 73) none
 (AOp.bin BinOp.neq 23 Cmp.other (Operand.tmp 71) (Operand.tmp 72)) [],
 Item.mk (some 74) none (AOp.mov (Operand.tmp 73)) [],
 Item.mk (some 75) (some (74, false)) (AOp.mov (Operand.tmp 11)) [],
 Item.mk (some 76) (some (74, false)) (AOp.mov (Operand.tmp 1)) [],
 Item.mk (some 77) (some (74, false))
 (AOp.bin BinOp.add 3 Cmp.other (Operand.tmp 75) (Operand.tmp 76)) [],
 Item.mk (some 78) (some (74, false)) (AOp.mov (Operand.tmp 14)) [],
 Item.mk (some 79) (some (74, false))
 (AOp.bin BinOp.eql 3 Cmp.other (Operand.tmp 77) (Operand.tmp 78)) [],
 Item.mk (some 80) none
 (AOp.pick (Operand.tmp 74) (Operand.const (Value.bool true)) (Operand.tmp 79)) [],
 Item.mk (some 81) none (AOp.mov (Operand.tmp 80)) [],
 Item.mk (some 82) (some (81, true)) (AOp.mov (Operand.tmp 15)) [],
 Item.mk (some 83) (some (81, true))
 (AOp.bin BinOp.neq 23 Cmp.other (Operand.tmp 82)
 (Operand.const (Value.int IntKind.i64 0)))
 [],
 Item.mk (some 84) none
 (AOp.pick (Operand.tmp 81) (Operand.tmp 83) (Operand.const (Value.bool false))) [],
 Item.mk (some 85) none (AOp.mov (Operand.tmp 84)) [],
 Item.mk (some 86) (some (85, true)) (AOp.call (Operand.func 8) []) [],
 Item.mk (some 87) none
 (AOp.pick (Operand.tmp 85) (Operand.tmp 86) (Operand.const (Value.bool false))) [],
 Item.mk (some 6) none (AOp.mov (Operand.tmp 87)) []]).seq
 ACode.ret)
 ACode.skip)).seq
 (((ACode.row
 [Item.mk (some 88) none (AOp.mov (Operand.tmp 15)) [],
 Item.mk (some 89) none
 (AOp.bin BinOp.neq 23 Cmp.other (Operand.tmp 88)
 (Operand.const (Value.int IntKind.i64 0)))
 [],
 Item.mk (some 90) none (AOp.mov (Operand.tmp 89)) [],
 Item.mk (some 91) (some (90, false)) (AOp.mov (Operand.tmp 10)) [],
 Item.mk (some 92) (some (90, false)) (AOp.len false (Operand.tmp 91)) [],
 Item.mk (some 93) (some (90, false)) (AOp.mov (Operand.tmp 13)) [],
 Item.mk (some 94) (some (90, false)) (AOp.len false (Operand.tmp 93)) [],
 Item.mk (some 95) (some (90, false))
 (AOp.bin BinOp.neq 3 Cmp.other (Operand.tmp 92) (Operand.tmp 94)) [],
 Item.mk (some 96) none
 (AOp.pick (Operand.tmp 90) (Operand.const (Value.bool true)) (Operand.tmp 95)) []]).seq
 (ACode.cond (Operand.tmp 96)
 ((ACode.row [Item.mk (some 6) none (AOp.mov (Operand.const (Value.bool false))) []]).seq
 ACode.ret)
 ACode.skip)).seq
 (((ACode.row
 [Item.mk (some 16) none (AOp.mov (Operand.const (Value.int IntKind.i64 0)))
 []]).seq
 (ACode.block 4
 (((ACode.row
 [Item.mk (some 97) none (AOp.mov (Operand.tmp 16)) [],
 Item.mk (some 98) none
 (AOp.bin BinOp.add 3 Cmp.other (Operand.tmp 97)
 (Operand.const (Value.int IntKind.i64 1)))
 [],
 Item.mk (some 99) none (AOp.mov (Operand.tmp 10)) [],
 Item.mk (some 100) none (AOp.len false (Operand.tmp 99)) [],
 Item.mk (some 101) none
 (AOp.bin BinOp.lss 3 Cmp.other (Operand.tmp 98) (Operand.tmp 100)) []]).seq
 (ACode.cond (Operand.tmp 101) ACode.skip (ACode.exit 4))).seq
 ((ACode.block 5
 ((ACode.row
 [Item.mk (some 104) none (AOp.mov (Operand.tmp 10)) [],
 Item.mk (some 105) none (AOp.mov (Operand.tmp 16)) [],
 Item.mk (some 106) none (AOp.idxL 5 (Operand.tmp 104) (Operand.tmp 105))
 [],
 Item.mk (some 107) none (AOp.fieldA 0 (Operand.tmp 106)) [],
 Item.mk (some 108) none (AOp.load none (Operand.tmp 107)) [],
 Item.mk (some 109) none (AOp.mov (Operand.tmp 13)) [],
 Item.mk (some 110) none (AOp.mov (Operand.tmp 16)) [],
 Item.mk (some 111) none (AOp.idxL 5 (Operand.tmp 109) (Operand.tmp 110))
 [],
 Item.mk (some 112) none (AOp.fieldA 0 (Operand.tmp 111)) [],
 Item.mk (some 113) none (AOp.load none (Operand.tmp 112)) [],
 Item.mk (some 114) none
 (AOp.bin BinOp.neq 31 Cmp.other (Operand.tmp 108) (Operand.tmp 113)) [],
 Item.mk (some 115) none (AOp.mov (Operand.tmp 114)) [],
 Item.mk (some 116) (some (115, false)) (AOp.mov (Operand.tmp 10)) [],
 Item.mk (some 117) (some (115, false)) (AOp.mov (Operand.tmp 16)) [],
 Item.mk (some 118) (some (115, false))
 (AOp.idxL 5 (Operand.tmp 116) (Operand.tmp 117)) [],
 Item.mk (some 119) (some (115, false)) (AOp.fieldA 1 (Operand.tmp 118))
 [],
 Item.mk (some 120) (some (115, false)) (AOp.load none (Operand.tmp 119))
 [],
 Item.mk (some 121) (some (115, false)) (AOp.mov (Operand.tmp 13)) [],
 Item.mk (some 122) (some (115, false)) (AOp.mov (Operand.tmp 16)) [],
 Item.mk (some 123) (some (115, false))
 (AOp.idxL 5 (Operand.tmp 121) (Operand.tmp 122)) [],
 Item.mk (some 124) (some (115, false)) (AOp.fieldA 1 (Operand.tmp 123))
 [],
 Item.mk (some 125) (some (115, false)) (AOp.load none (Operand.tmp 124))
 [],
 Item.mk (some 126) (some (115, false))
 (AOp.bin BinOp.neq 9 Cmp.other (Operand.tmp 120) (Operand.tmp 125)) [],
 Item.mk (some 127) none
 (AOp.pick (Operand.tmp 115) (Operand.const (Value.bool true))
 (Operand.tmp 126))
 [],
 Item.mk (some 128) none (AOp.mov (Operand.tmp 127)) [],
 Item.mk (some 129) (some (128, false)) (AOp.mov (Operand.tmp 10)) [],
 Item.mk (some 130) (some (128, false)) (AOp.mov (Operand.tmp 16)) [],
 Item.mk (some 131) (some (128, false))
 (AOp.idxL 5 (Operand.tmp 129) (Operand.tmp 130)) [],
 Item.mk (some 132) (some (128, false)) (AOp.fieldA 2 (Operand.tmp 131))
 [],
 Item.mk (some 133) (some (128, false)) (AOp.load none (Operand.tmp 132))
 [],
 Item.mk (some 134) (some (128, false)) (AOp.mov (Operand.tmp 13)) [],
 Item.mk (some 135) (some (128, false)) (AOp.mov (Operand.tmp 16)) [],
 Item.mk (some 136) (some (128, false))
 (AOp.idxL 5 (Operand.tmp 134) (Operand.tmp 135)) [],
 Item.mk (some 137) (some (128, false)) (AOp.fieldA 2 (Operand.tmp 136))
 [],
 Item.mk (some 138) (some (128, false)) (AOp.load none (Operand.tmp 137))
 [],
 Item.mk (some 139) (some (128, false))
 (AOp.bin BinOp.neq 3 Cmp.other (Operand.tmp 133) (Operand.tmp 138)) [],
 Item.mk (some 140) none
 (AOp.pick (Operand.tmp 128) (Operand.const (Value.bool true))
 (Operand.tmp 139))
 [],
 Item.mk (some 141) none (AOp.mov (Operand.tmp 140)) [],
 Item.mk (some 142) (some (141, false)) (AOp.mov (Operand.tmp 10)) [],
 Item.mk (some 143) (some (141, false)) (AOp.mov (Operand.tmp 16)) [],
 Item.mk (some 144) (some (141, false))
 (AOp.idxL 5 (Operand.tmp 142) (Operand.tmp 143)) [],
 Item.mk (some 145) (some (141, false)) (AOp.fieldA 3 (Operand.tmp 144))
 [],
 Item.mk (some 146) (some (141, false)) (AOp.load none (Operand.tmp 145))
 [],
 Item.mk (some 147) (some (141, false)) (AOp.mov (Operand.tmp 1)) [],
 Item.mk (some 148) (some (141, false))
 (AOp.bin BinOp.add 3 Cmp.other (Operand.tmp 146) (Operand.tmp 147)) [],
 Item.mk (some 149) (some (141, false)) (AOp.mov (Operand.tmp 13)) [],
 Item.mk (some 150) (some (141, false)) (AOp.mov (Operand.tmp 16)) [],
 Item.mk (some 151) (some (141, false))
 (AOp.idxL 5 (Operand.tmp 149) (Operand.tmp 150)) [],
 Item.mk (some 152) (some (141, false)) (AOp.fieldA 3 (Operand.tmp 151))
 [],
 Item.mk (some 153) (some (141, false)) (AOp.load none (Operand.tmp 152))
 [],
 Item.mk (some 154) (some (141, false))
 (AOp.bin BinOp.neq 3 Cmp.other (Operand.tmp 148) (Operand.tmp 153)) [],
 Item.mk (some 155) none
 (AOp.pick (Operand.tmp 141) (Operand.const (Value.bool true))
 (Operand.tmp 154))
 [],
 Item.mk (some 156) none (AOp.mov (Operand.tmp 155)) [],
 Item.mk (some 157) (some (156, false)) (AOp.mov (Operand.tmp 10)) [],
 Item.mk (some 158) (some (156, false)) (AOp.mov (Operand.tmp 16)) [],
 Item.mk (some 159) (some (156, false))
 (AOp.idxL 5 (Operand.tmp 157) (Operand.tmp 158)) [],
 Item.mk (some 160) (some (156, false)) (AOp.fieldA 4 (Operand.tmp 159))
 [],
 Item.mk (some 161) (some (156, false)) (AOp.load none (Operand.tmp 160))
 [],
 Item.mk (some 162) (some (156, false)) (AOp.mov (Operand.tmp 1)) [],
 Item.mk (some 163) (some (156, false))
 (AOp.bin BinOp.add 3 Cmp.other (Operand.tmp 161) (Operand.tmp 162)) [],
 Item.mk (some 164) (some (156, false)) (AOp.mov (Operand.tmp 13)) [],
 Item.mk (some 165) (some (156, false)) (AOp.mov (Operand.tmp 16)) [],
 Item.mk (some 166) (some (156, false))
 (AOp.idxL 5 (Operand.tmp 164) (Operand.tmp 165)) [],
 Item.mk (some 167) (some (156, false)) (AOp.fieldA 4 (Operand.tmp 166))
 [],
 Item.mk (some 168) (some (156, false)) (AOp.load none (Operand.tmp 167))
 [],
 Item.mk (some 169) (some (156, false))
 (AOp.bin BinOp.neq 3 Cmp.other (Operand.tmp 163) (Operand.tmp 168)) [],
 Item.mk (some 170) none
 (AOp.pick (Operand.tmp 156) (Operand.const (Value.bool true))
 (Operand.tmp 169))
 []]).seq
 (ACode.cond (Operand.tmp 170)
 ((ACode.row
 [Item.mk (some 6) none (AOp.mov (Operand.const (Value.bool false)))
 []]).seq
 ACode.ret)
 ACode.skip))).seq
 (ACode.row
 [Item.mk (some 102) none (AOp.mov (Operand.tmp 16)) [],
 Item.mk (some 103) none
 (AOp.bin BinOp.add 3 Cmp.other (Operand.tmp 102)
 (Operand.const (Value.int IntKind.i64 1)))
 [],
 Item.mk (some 16) none (AOp.mov (Operand.tmp 103)) []]))).loop)).seq
 ((ACode.row
 [Item.mk (some 171) none (AOp.call (Operand.func 8) []) [],
 Item.mk (some 6) none (AOp.mov (Operand.tmp 171)) []]).seq
 ACode.ret)))))))))))
theorem F4_ok : compFn Tryd.prog (byId h4) 4 = some F4 := by kernel_rfl
def h5 : List (Nat × List (Nat × List Nat) × List Nat) := [(9, [(0, []), (1, []), (2, []), (3, []), (4, []), (5, []), (6, []), (7, []), (8, []), (9, []), (10, [])], [0, 1, 3, 7, 0, 16, 48, 112, 0, 271, 1023])]
def F5 : AFn :=
  AFn.mk 35 [ARes.tmp 2, ARes.tmp 3, ARes.tmp 4]
 ((ACode.row
 [Item.mk (some 2) none (AOp.mov (Operand.const (Value.slice none 0 0))) [],
 Item.mk (some 3) none (AOp.mov (Operand.const (Value.int IntKind.i64 0))) [],
 Item.mk (some 4) none (AOp.mov (Operand.const (Value.int IntKind.i64 0))) []]).seq
 (((ACode.row
 [Item.mk (some 8) none (AOp.mov (Operand.tmp 0)) [],
 Item.mk (some 9) none (AOp.len true (Operand.tmp 8)) [],
 Item.mk (some 10) none
 (AOp.bin BinOp.gtr 3 Cmp.other (Operand.tmp 9)
 (Operand.const (Value.int IntKind.i64 4096)))
 []]).seq
 (ACode.cond (Operand.tmp 10)
 ((ACode.row
 [Item.mk (some 2) none (AOp.mov (Operand.const (Value.slice none 0 0)))
 [],
 Item.mk (some 3) none (AOp.mov (Operand.const (Value.int IntKind.i64 0))) [],
 Item.mk (some 4) none (AOp.mov (Operand.const (Value.int IntKind.i64 5))) []]).seq
 ACode.ret)
 ACode.skip)).seq
 ((ACode.row
 [Item.mk (some 11) none (AOp.mov (Operand.tmp 0)) [],
 Item.mk (some 12) none
 (AOp.build
 [V.val (Value.string (ByteArray.mk #[])), V.val (Value.int IntKind.i64 0),
 V.val (Value.int IntKind.i64 0), V.val (Value.int IntKind.i64 0)]
 [(0, 1, Operand.tmp 11), (2, 1, Operand.const (Value.int IntKind.i64 1))])
 [],
 Item.mk (some 13) none (AOp.box 37 (Operand.tmp 12)) [],
 Item.mk (some 5) none (AOp.mov (Operand.tmp 13)) []]).seq
 ((ACode.row [Item.mk (some 6) none (AOp.alloc 22 [V.sl [] [] Tok.full]) []]).seq
 (((ACode.row
 [Item.mk (some 14) none (AOp.mov (Operand.tmp 5)) [],
 Item.mk (some 15) none (AOp.call (Operand.func 9) [Operand.tmp 14]) []]).seq
 (ACode.block 0
 (ACode.range (Operand.tmp 15) [16]
 (ACode.row
 [Item.mk (some 7) none
 (AOp.alloc 33
 [V.val (Value.int IntKind.i64 0), V.val (Value.string (ByteArray.mk #[])),
 V.val (Value.int IntKind.i64 0),
 V.val (Value.int IntKind.i64 0),
 V.val (Value.int IntKind.i64 0)])
 [],
 Item.mk none none (AOp.store 5 (Operand.tmp 7) (Operand.tmp 16)) []])
 (ACode.block 1
 (ACode.row
 [Item.mk (some 17) none (AOp.load none (Operand.tmp 6)) [],
 Item.mk (some 18) none (AOp.load (some 5) (Operand.tmp 7)) [],
 Item.mk (some 19) none
 (AOp.lits 5
 [V.val (Value.int IntKind.i64 0), V.val (Value.string (ByteArray.mk #[])),
 V.val (Value.int IntKind.i64 0),
 V.val (Value.int IntKind.i64 0),
 V.val (Value.int IntKind.i64 0)]
 1 [(0, Operand.tmp 18)])
 [],
 Item.mk (some 20) none (AOp.app 33 48 5 (Operand.tmp 17) (Operand.tmp 19)) [],
 Item.mk none none (AOp.store 1 (Operand.tmp 6) (Operand.tmp 20)) []]))))).seq
 (((ACode.row
 [Item.mk (some 21) none (AOp.mov (Operand.tmp 5)) [],
 Item.mk (some 22) none (AOp.nilc (Operand.tmp 21)) [],
 Item.mk (some 23) none (AOp.fieldA 3 (Operand.tmp 22)) [],
 Item.mk (some 24) none (AOp.load none (Operand.tmp 23)) [],
 Item.mk (some 25) none
 (AOp.bin BinOp.neq 23 Cmp.other (Operand.tmp 24)
 (Operand.const (Value.int IntKind.i64 0)))
 []]).seq
 (ACode.cond (Operand.tmp 25)
 ((ACode.row
 [Item.mk (some 26) none (AOp.mov (Operand.tmp 5)) [],
 Item.mk (some 27) none (AOp.nilc (Operand.tmp 26)) [],
 Item.mk (some 28) none (AOp.fieldA 1 (Operand.tmp 27)) [],
 Item.mk (some 29) none (AOp.load none (Operand.tmp 28)) [],
 Item.mk (some 30) none (AOp.mov (Operand.tmp 5)) [],
 Item.mk (some 31) none (AOp.nilc (Operand.tmp 30)) [],
 Item.mk (some 32) none (AOp.fieldA 3 (Operand.tmp 31)) [],
 Item.mk (some 33) none (AOp.load none (Operand.tmp 32)) [],
 Item.mk (some 2) none
 (AOp.mov (Operand.const (Value.slice none 0 0))) [],
 Item.mk (some 3) none (AOp.mov (Operand.tmp 29)) [],
 Item.mk (some 4) none (AOp.mov (Operand.tmp 33)) []]).seq
 ACode.ret)
 ACode.skip)).seq
 ((ACode.row
 [Item.mk (some 34) none (AOp.load none (Operand.tmp 6)) [],
 Item.mk (some 2) none (AOp.mov (Operand.tmp 34)) [],
 Item.mk (some 3) none (AOp.mov (Operand.const (Value.int IntKind.i64 0))) [],
 Item.mk (some 4) none (AOp.mov (Operand.const (Value.int IntKind.i64 0))) []]).seq
 ACode.ret)))))))
theorem F5_ok : compFn Tryd.prog (byId h5) 5 = some F5 := by kernel_rfl
def h6 : List (Nat × List (Nat × List Nat) × List Nat) := []
def F6 : AFn :=
  AFn.mk 94 [ARes.tmp 2, ARes.tmp 3, ARes.tmp 4]
 ((ACode.row
 [Item.mk (some 2) none (AOp.mov (Operand.const (Value.slice none 0 0))) [],
 Item.mk (some 3) none (AOp.mov (Operand.const (Value.int IntKind.i64 0))) [],
 Item.mk (some 4) none (AOp.mov (Operand.const (Value.int IntKind.i64 0))) []]).seq
 (((ACode.row
 [Item.mk (some 12) none (AOp.mov (Operand.tmp 0)) [],
 Item.mk (some 13) none (AOp.len true (Operand.tmp 12)) [],
 Item.mk (some 14) none
 (AOp.bin BinOp.gtr 3 Cmp.other (Operand.tmp 13)
 (Operand.const (Value.int IntKind.i64 4096)))
 []]).seq
 (ACode.cond (Operand.tmp 14)
 ((ACode.row
 [Item.mk (some 2) none (AOp.mov (Operand.const (Value.slice none 0 0)))
 [],
 Item.mk (some 3) none (AOp.mov (Operand.const (Value.int IntKind.i64 0))) [],
 Item.mk (some 4) none (AOp.mov (Operand.const (Value.int IntKind.i64 5))) []]).seq
 ACode.ret)
 ACode.skip)).seq
 ((ACode.row
 [Item.mk (some 5) none (AOp.mov (Operand.const (Value.slice none 0 0))) []]).seq
 ((ACode.row [Item.mk (some 6) none (AOp.mov (Operand.const (Value.int IntKind.i64 1))) []]).seq
 (((ACode.row [Item.mk (some 7) none (AOp.mov (Operand.const (Value.int IntKind.i64 0))) []]).seq
 (ACode.block 0
 (((ACode.row
 [Item.mk (some 15) none (AOp.mov (Operand.tmp 7)) [],
 Item.mk (some 16) none (AOp.mov (Operand.tmp 0)) [],
 Item.mk (some 17) none (AOp.len true (Operand.tmp 16)) [],
 Item.mk (some 18) none (AOp.bin BinOp.lss 3 Cmp.other (Operand.tmp 15) (Operand.tmp 17))
 []]).seq
 (ACode.cond (Operand.tmp 18) ACode.skip (ACode.exit 0))).seq
 (ACode.block 1
 ((ACode.row
 [Item.mk (some 19) none (AOp.mov (Operand.tmp 0)) [],
 Item.mk (some 20) none (AOp.mov (Operand.tmp 7)) [],
 Item.mk (some 21) none (AOp.idxStr (Operand.tmp 19) (Operand.tmp 20)) [],
 Item.mk (some 8) none (AOp.mov (Operand.tmp 21)) []]).seq
 ((ACode.block 2
 ((ACode.row
 [Item.mk (some 23) none (AOp.mov (Operand.tmp 8)) [],
 Item.mk (some 24) none
 (AOp.bin BinOp.eql 5 Cmp.other (Operand.tmp 23)
 (Operand.const (Value.int IntKind.u8 10)))
 [],
 Item.mk (some 22) none (AOp.mov (Operand.tmp 24)) []]).seq
 (ACode.cond (Operand.tmp 22)
 ((ACode.row
 [Item.mk (some 25) none (AOp.mov (Operand.tmp 6)) [],
 Item.mk (some 26) none
 (AOp.bin BinOp.add 3 Cmp.other (Operand.tmp 25)
 (Operand.const (Value.int IntKind.i64 1)))
 [],
 Item.mk (some 6) none (AOp.mov (Operand.tmp 26)) []]).seq
 ((ACode.row
 [Item.mk (some 27) none (AOp.mov (Operand.tmp 7)) [],
 Item.mk (some 28) none
 (AOp.bin BinOp.add 3 Cmp.other (Operand.tmp 27)
 (Operand.const (Value.int IntKind.i64 1)))
 [],
 Item.mk (some 7) none (AOp.mov (Operand.tmp 28)) []]).seq
 (ACode.exit 1)))
 ((ACode.row
 [Item.mk (some 30) none (AOp.mov (Operand.tmp 8)) [],
 Item.mk (some 31) none
 (AOp.bin BinOp.eql 5 Cmp.other (Operand.tmp 30)
 (Operand.const (Value.int IntKind.u8 32)))
 [],
 Item.mk (some 32) none (AOp.mov (Operand.tmp 31)) [],
 Item.mk (some 33) (some (32, false)) (AOp.mov (Operand.tmp 8)) [],
 Item.mk (some 34) (some (32, false))
 (AOp.bin BinOp.eql 5 Cmp.other (Operand.tmp 33)
 (Operand.const (Value.int IntKind.u8 9)))
 [],
 Item.mk (some 35) none
 (AOp.pick (Operand.tmp 32) (Operand.const (Value.bool true))
 (Operand.tmp 34))
 [],
 Item.mk (some 29) none (AOp.mov (Operand.tmp 35)) []]).seq
 (ACode.cond (Operand.tmp 29)
 ((ACode.row
 [Item.mk (some 36) none (AOp.mov (Operand.tmp 7)) [],
 Item.mk (some 37) none
 (AOp.bin BinOp.add 3 Cmp.other (Operand.tmp 36)
 (Operand.const (Value.int IntKind.i64 1)))
 [],
 Item.mk (some 7) none (AOp.mov (Operand.tmp 37)) []]).seq
 (ACode.exit 1))
 ((ACode.row
 [Item.mk (some 39) none (AOp.mov (Operand.tmp 8)) [],
 Item.mk (some 40) none
 (AOp.bin BinOp.eql 5 Cmp.other (Operand.tmp 39)
 (Operand.const (Value.int IntKind.u8 47)))
 [],
 Item.mk (some 41) none (AOp.mov (Operand.tmp 40)) [],
 Item.mk (some 42) (some (41, true)) (AOp.mov (Operand.tmp 7)) [],
 Item.mk (some 43) (some (41, true))
 (AOp.bin BinOp.add 3 Cmp.other (Operand.tmp 42)
 (Operand.const (Value.int IntKind.i64 1)))
 [],
 Item.mk (some 44) (some (41, true)) (AOp.mov (Operand.tmp 0)) [],
 Item.mk (some 45) (some (41, true)) (AOp.len true (Operand.tmp 44)) [],
 Item.mk (some 46) (some (41, true))
 (AOp.bin BinOp.lss 3 Cmp.other (Operand.tmp 43) (Operand.tmp 45)) [],
 Item.mk (some 47) none
 (AOp.pick (Operand.tmp 41) (Operand.tmp 46)
 (Operand.const (Value.bool false)))
 [],
 Item.mk (some 48) none (AOp.mov (Operand.tmp 47)) [],
 Item.mk (some 49) (some (48, true)) (AOp.mov (Operand.tmp 0)) [],
 Item.mk (some 50) (some (48, true)) (AOp.mov (Operand.tmp 7)) [],
 Item.mk (some 51) (some (48, true))
 (AOp.bin BinOp.add 3 Cmp.other (Operand.tmp 50)
 (Operand.const (Value.int IntKind.i64 1)))
 [],
 Item.mk (some 52) (some (48, true))
 (AOp.idxStr (Operand.tmp 49) (Operand.tmp 51)) [],
 Item.mk (some 53) (some (48, true))
 (AOp.bin BinOp.eql 5 Cmp.other (Operand.tmp 52)
 (Operand.const (Value.int IntKind.u8 47)))
 [],
 Item.mk (some 54) none
 (AOp.pick (Operand.tmp 48) (Operand.tmp 53)
 (Operand.const (Value.bool false)))
 [],
 Item.mk (some 38) none (AOp.mov (Operand.tmp 54)) []]).seq
 (ACode.cond (Operand.tmp 38)
 ((ACode.block 3
 (((ACode.row
 [Item.mk (some 55) none (AOp.mov (Operand.tmp 7)) [],
 Item.mk (some 56) none (AOp.mov (Operand.tmp 0)) [],
 Item.mk (some 57) none (AOp.len true (Operand.tmp 56))
 [],
 Item.mk (some 58) none
 (AOp.bin BinOp.lss 3 Cmp.other (Operand.tmp 55)
 (Operand.tmp 57))
 [],
 Item.mk (some 59) none (AOp.mov (Operand.tmp 58)) [],
 Item.mk (some 60) (some (59, true))
 (AOp.mov (Operand.tmp 0)) [],
 Item.mk (some 61) (some (59, true))
 (AOp.mov (Operand.tmp 7)) [],
 Item.mk (some 62) (some (59, true))
 (AOp.idxStr (Operand.tmp 60) (Operand.tmp 61)) [],
 Item.mk (some 63) (some (59, true))
 (AOp.bin BinOp.neq 5 Cmp.other (Operand.tmp 62)
 (Operand.const
 (Value.int IntKind.u8 10)))
 [],
 Item.mk (some 64) none
 (AOp.pick (Operand.tmp 59) (Operand.tmp 63)
 (Operand.const (Value.bool false)))
 []]).seq
 (ACode.cond (Operand.tmp 64) ACode.skip (ACode.exit 3))).seq
 (ACode.block 4
 (ACode.row
 [Item.mk (some 65) none (AOp.mov (Operand.tmp 7)) [],
 Item.mk (some 66) none
 (AOp.bin BinOp.add 3 Cmp.other (Operand.tmp 65)
 (Operand.const (Value.int IntKind.i64 1)))
 [],
 Item.mk (some 7) none (AOp.mov (Operand.tmp 66))
 []]))).loop).seq
 (ACode.exit 1))
 ACode.skip))))))).seq
 ((ACode.row
 [Item.mk (some 68) none (AOp.mov (Operand.tmp 0)) [],
 Item.mk (some 69) none (AOp.mov (Operand.tmp 7)) [],
 Item.mk (some 70) none (AOp.call (Operand.func 10) [Operand.tmp 68, Operand.tmp 69])
 [],
 Item.mk (some 67) none (AOp.mov (Operand.tmp 70)) [],
 Item.mk (some 71) none (AOp.ext (Operand.tmp 67) 0) [],
 Item.mk (some 72) none (AOp.ext (Operand.tmp 67) 1) [],
 Item.mk (some 73) none (AOp.ext (Operand.tmp 67) 2) [],
 Item.mk (some 9) none
 (AOp.alloc 33
 [V.val (Value.int IntKind.i64 0),
 V.val (Value.string (ByteArray.mk #[])),
 V.val (Value.int IntKind.i64 0),
 V.val (Value.int IntKind.i64 0),
 V.val (Value.int IntKind.i64 0)])
 [],
 Item.mk none none (AOp.store 5 (Operand.tmp 9) (Operand.tmp 71)) [],
 Item.mk (some 10) none (AOp.mov (Operand.tmp 72)) [],
 Item.mk (some 11) none (AOp.mov (Operand.tmp 73)) []]).seq
 (((ACode.row
 [Item.mk (some 74) none (AOp.mov (Operand.tmp 11)) [],
 Item.mk (some 75) none
 (AOp.bin BinOp.neq 3 Cmp.other (Operand.tmp 74)
 (Operand.const (Value.int IntKind.i64 0)))
 []]).seq
 (ACode.cond (Operand.tmp 75)
 ((ACode.row
 [Item.mk (some 76) none (AOp.mov (Operand.tmp 7)) [],
 Item.mk (some 77) none (AOp.mov (Operand.tmp 11)) [],
 Item.mk (some 2) none
 (AOp.mov
 (Operand.const (Value.slice none 0 0)))
 [],
 Item.mk (some 3) none (AOp.mov (Operand.tmp 76)) [],
 Item.mk (some 4) none (AOp.mov (Operand.tmp 77)) []]).seq
 ACode.ret)
 ACode.skip)).seq
 ((ACode.row
 [Item.mk (some 78) none (AOp.mov (Operand.tmp 6)) [],
 Item.mk (some 79) none (AOp.mov (Operand.tmp 7)) [],
 Item.mk (some 80) none (AOp.fieldA 3 (Operand.tmp 9)) [],
 Item.mk none none (AOp.store 1 (Operand.tmp 80) (Operand.tmp 78)) [],
 Item.mk (some 81) none (AOp.fieldA 4 (Operand.tmp 9)) [],
 Item.mk none none (AOp.store 1 (Operand.tmp 81) (Operand.tmp 79)) []]).seq
 ((ACode.row
 [Item.mk (some 82) none (AOp.mov (Operand.tmp 5)) [],
 Item.mk (some 83) none (AOp.load (some 5) (Operand.tmp 9)) [],
 Item.mk (some 84) none
 (AOp.lits 5
 [V.val (Value.int IntKind.i64 0),
 V.val (Value.string (ByteArray.mk #[])),
 V.val (Value.int IntKind.i64 0),
 V.val (Value.int IntKind.i64 0),
 V.val (Value.int IntKind.i64 0)]
 1 [(0, Operand.tmp 83)])
 [],
 Item.mk (some 85) none (AOp.app 33 48 5 (Operand.tmp 82) (Operand.tmp 84)) [],
 Item.mk (some 5) none (AOp.mov (Operand.tmp 85)) []]).seq
 (ACode.row
 [Item.mk (some 86) none (AOp.mov (Operand.tmp 10)) [],
 Item.mk (some 7) none (AOp.mov (Operand.tmp 86)) []]))))))))).loop)).seq
 ((ACode.row
 [Item.mk (some 87) none (AOp.mov (Operand.tmp 5)) [],
 Item.mk (some 88) none (AOp.mov (Operand.tmp 6)) [],
 Item.mk (some 89) none (AOp.mov (Operand.tmp 0)) [],
 Item.mk (some 90) none (AOp.len true (Operand.tmp 89)) [],
 Item.mk (some 91) none
 (AOp.build
 [V.val (Value.int IntKind.i64 0), V.val (Value.string (ByteArray.mk #[])),
 V.val (Value.int IntKind.i64 0), V.val (Value.int IntKind.i64 0),
 V.val (Value.int IntKind.i64 0)]
 [(3, 1, Operand.tmp 88), (4, 1, Operand.tmp 90)])
 [],
 Item.mk (some 92) none
 (AOp.lits 5
 [V.val (Value.int IntKind.i64 0), V.val (Value.string (ByteArray.mk #[])),
 V.val (Value.int IntKind.i64 0), V.val (Value.int IntKind.i64 0),
 V.val (Value.int IntKind.i64 0)]
 1 [(0, Operand.tmp 91)])
 [],
 Item.mk (some 93) none (AOp.app 33 48 5 (Operand.tmp 87) (Operand.tmp 92)) [],
 Item.mk (some 2) none (AOp.mov (Operand.tmp 93)) [],
 Item.mk (some 3) none (AOp.mov (Operand.const (Value.int IntKind.i64 0))) [],
 Item.mk (some 4) none (AOp.mov (Operand.const (Value.int IntKind.i64 0))) []]).seq
 ACode.ret))))))
theorem F6_ok : compFn Tryd.prog (byId h6) 6 = some F6 := by kernel_rfl
def h7 : List (Nat × List (Nat × List Nat) × List Nat) := [(6, [(0, []), (1, []), (2, []), (3, []), (4, []), (5, []), (6, []), (7, []), (8, [])], [0, 0, 3, 7, 0, 0, 48, 112, 255])]
def F7 : AFn :=
  AFn.mk 26 [ARes.tmp 4]
 ((ACode.row [Item.mk (some 4) none (AOp.mov (Operand.const (Value.bool false))) []]).seq
 (((ACode.row
 [Item.mk (some 6) none (AOp.mov (Operand.tmp 0)) [],
 Item.mk (some 7) none (AOp.len false (Operand.tmp 6)) [],
 Item.mk (some 8) none (AOp.mov (Operand.tmp 1)) [],
 Item.mk (some 9) none (AOp.len false (Operand.tmp 8)) [],
 Item.mk (some 10) none (AOp.bin BinOp.neq 3 Cmp.other (Operand.tmp 7) (Operand.tmp 9)) []]).seq
 (ACode.cond (Operand.tmp 10)
 ((ACode.row [Item.mk (some 4) none (AOp.mov (Operand.const (Value.bool false))) []]).seq ACode.ret)
 ACode.skip)).seq
 (((ACode.row [Item.mk (some 5) none (AOp.mov (Operand.const (Value.int IntKind.i64 0))) []]).seq
 (ACode.block 0
 (((ACode.row
 [Item.mk (some 11) none (AOp.mov (Operand.tmp 5)) [],
 Item.mk (some 12) none (AOp.mov (Operand.tmp 0)) [],
 Item.mk (some 13) none (AOp.len false (Operand.tmp 12)) [],
 Item.mk (some 14) none (AOp.bin BinOp.lss 3 Cmp.other (Operand.tmp 11) (Operand.tmp 13))
 []]).seq
 (ACode.cond (Operand.tmp 14) ACode.skip (ACode.exit 0))).seq
 ((ACode.block 1
 ((ACode.row
 [Item.mk (some 17) none (AOp.mov (Operand.tmp 0)) [],
 Item.mk (some 18) none (AOp.mov (Operand.tmp 5)) [],
 Item.mk (some 19) none (AOp.idxL 5 (Operand.tmp 17) (Operand.tmp 18)) [],
 Item.mk (some 20) none (AOp.load (some 5) (Operand.tmp 19)) [],
 Item.mk (some 21) none (AOp.mov (Operand.tmp 1)) [],
 Item.mk (some 22) none (AOp.mov (Operand.tmp 5)) [],
 Item.mk (some 23) none (AOp.idxL 5 (Operand.tmp 21) (Operand.tmp 22)) [],
 Item.mk (some 24) none (AOp.load (some 5) (Operand.tmp 23)) [],
 Item.mk (some 25) none
 (AOp.bin BinOp.neq 33 Cmp.other (Operand.tmp 20) (Operand.tmp 24)) []]).seq
 (ACode.cond (Operand.tmp 25)
 ((ACode.row [Item.mk (some 4) none (AOp.mov (Operand.const (Value.bool false))) []]).seq
 ACode.ret)
 ACode.skip))).seq
 (ACode.row
 [Item.mk (some 15) none (AOp.mov (Operand.tmp 5)) [],
 Item.mk (some 16) none
 (AOp.bin BinOp.add 3 Cmp.other (Operand.tmp 15)
 (Operand.const (Value.int IntKind.i64 1)))
 [],
 Item.mk (some 5) none (AOp.mov (Operand.tmp 16)) []]))).loop)).seq
 ((ACode.row [Item.mk (some 4) none (AOp.mov (Operand.const (Value.bool true))) []]).seq ACode.ret))))
theorem F7_ok : compFn Tryd.prog (byId h7) 7 = some F7 := by kernel_rfl
def h8 : List (Nat × List (Nat × List Nat) × List Nat) := []
def F8 : AFn :=
  AFn.mk 102 [ARes.tmp 0]
 ((ACode.row [Item.mk (some 0) none (AOp.mov (Operand.const (Value.bool false))) []]).seq
 ((ACode.row
 [Item.mk (some 14) none
 (AOp.call (Operand.func 5)
 [Operand.const
 (Value.string
 (ByteArray.mk
 #[108, 101, 116, 32, 120,
 49, 61, 97, 91, 48,
 93, 59, 32, 47, 47,
 32, 120]))])
 [],
 Item.mk (some 13) none (AOp.mov (Operand.tmp 14)) [],
 Item.mk (some 15) none (AOp.ext (Operand.tmp 13) 0) [],
 Item.mk (some 16) none (AOp.ext (Operand.tmp 13) 1) [],
 Item.mk (some 17) none (AOp.ext (Operand.tmp 13) 2) [], Item.mk (some 1) none (AOp.mov (Operand.tmp 15)) [],
 Item.mk (some 2) none (AOp.mov (Operand.tmp 16)) [],
 Item.mk (some 3) none (AOp.mov (Operand.tmp 17)) []]).seq
 ((ACode.row
 [Item.mk (some 19) none
 (AOp.call (Operand.func 5)
 [Operand.const
 (Value.string
 (ByteArray.mk
 #[34, 97, 92, 34, 98,
 34]))])
 [],
 Item.mk (some 18) none (AOp.mov (Operand.tmp 19)) [],
 Item.mk (some 20) none (AOp.ext (Operand.tmp 18) 0) [],
 Item.mk (some 21) none (AOp.ext (Operand.tmp 18) 1) [],
 Item.mk (some 22) none (AOp.ext (Operand.tmp 18) 2) [],
 Item.mk (some 4) none (AOp.mov (Operand.tmp 20)) [], Item.mk (some 5) none (AOp.mov (Operand.tmp 21)) [],
 Item.mk (some 6) none (AOp.mov (Operand.tmp 22)) []]).seq
 ((ACode.row
 [Item.mk (some 24) none
 (AOp.call (Operand.func 5)
 [Operand.const (Value.string (ByteArray.mk #[97, 38, 98]))])
 [],
 Item.mk (some 23) none (AOp.mov (Operand.tmp 24)) [],
 Item.mk (some 25) none (AOp.ext (Operand.tmp 23) 0) [],
 Item.mk (some 26) none (AOp.ext (Operand.tmp 23) 1) [],
 Item.mk (some 27) none (AOp.ext (Operand.tmp 23) 2) [],
 Item.mk (some 7) none (AOp.mov (Operand.tmp 25)) [],
 Item.mk (some 8) none (AOp.mov (Operand.tmp 26)) [],
 Item.mk (some 9) none (AOp.mov (Operand.tmp 27)) []]).seq
 ((ACode.row
 [Item.mk (some 29) none
 (AOp.call (Operand.func 5)
 [Operand.const
 (Value.string
 (ByteArray.mk
 #[57, 50, 50, 51, 51,
 55, 50, 48, 51, 54,
 56, 53, 52, 55, 55,
 53, 56, 48, 56]))])
 [],
 Item.mk (some 28) none (AOp.mov (Operand.tmp 29)) [],
 Item.mk (some 30) none (AOp.ext (Operand.tmp 28) 0) [],
 Item.mk (some 31) none (AOp.ext (Operand.tmp 28) 1) [],
 Item.mk (some 32) none (AOp.ext (Operand.tmp 28) 2) [],
 Item.mk (some 10) none (AOp.mov (Operand.tmp 30)) [],
 Item.mk (some 11) none (AOp.mov (Operand.tmp 31)) [],
 Item.mk (some 12) none (AOp.mov (Operand.tmp 32)) []]).seq
 ((ACode.row
 [Item.mk (some 33) none (AOp.mov (Operand.tmp 1)) [],
 Item.mk (some 34) none (AOp.len false (Operand.tmp 33)) [],
 Item.mk (some 35) none
 (AOp.bin BinOp.eql 3 Cmp.other (Operand.tmp 34)
 (Operand.const (Value.int IntKind.i64 9)))
 [],
 Item.mk (some 36) none (AOp.mov (Operand.tmp 35)) [],
 Item.mk (some 37) (some (36, true)) (AOp.mov (Operand.tmp 3)) [],
 Item.mk (some 38) (some (36, true))
 (AOp.bin BinOp.eql 23 Cmp.other (Operand.tmp 37)
 (Operand.const (Value.int IntKind.i64 0)))
 [],
 Item.mk (some 39) none
 (AOp.pick (Operand.tmp 36) (Operand.tmp 38) (Operand.const (Value.bool false))) [],
 Item.mk (some 40) none (AOp.mov (Operand.tmp 39)) [],
 Item.mk (some 41) (some (40, true)) (AOp.mov (Operand.tmp 1)) [],
 Item.mk (some 42) (some (40, true))
 (AOp.idxL 5 (Operand.tmp 41) (Operand.const (Value.int IntKind.i64 0))) [],
 Item.mk (some 43) (some (40, true)) (AOp.load (some 5) (Operand.tmp 42)) [],
 Item.mk (some 44) (some (40, true))
 (AOp.build
 [V.val (Value.int IntKind.i64 0), V.val (Value.string (ByteArray.mk #[])),
 V.val (Value.int IntKind.i64 0), V.val (Value.int IntKind.i64 0),
 V.val (Value.int IntKind.i64 0)]
 [(0, 1, Operand.const (Value.int IntKind.i64 5)),
 (1, 1,
 Operand.const
 (Value.string (ByteArray.mk #[108, 101, 116]))),
 (3, 1, Operand.const (Value.int IntKind.i64 1))])
 [],
 Item.mk (some 45) (some (40, true))
 (AOp.bin BinOp.eql 33 Cmp.other (Operand.tmp 43) (Operand.tmp 44)) [],
 Item.mk (some 46) none
 (AOp.pick (Operand.tmp 40) (Operand.tmp 45) (Operand.const (Value.bool false))) [],
 Item.mk (some 47) none (AOp.mov (Operand.tmp 46)) [],
 Item.mk (some 48) (some (47, true)) (AOp.mov (Operand.tmp 1)) [],
 Item.mk (some 49) (some (47, true))
 (AOp.idxL 5 (Operand.tmp 48) (Operand.const (Value.int IntKind.i64 5))) [],
 Item.mk (some 50) (some (47, true)) (AOp.load (some 5) (Operand.tmp 49)) [],
 Item.mk (some 51) (some (47, true))
 (AOp.build
 [V.val (Value.int IntKind.i64 0), V.val (Value.string (ByteArray.mk #[])),
 V.val (Value.int IntKind.i64 0), V.val (Value.int IntKind.i64 0),
 V.val (Value.int IntKind.i64 0)]
 [(0, 1, Operand.const (Value.int IntKind.i64 2)),
 (3, 1, Operand.const (Value.int IntKind.i64 1)),
 (4, 1, Operand.const (Value.int IntKind.i64 9))])
 [],
 Item.mk (some 52) (some (47, true))
 (AOp.bin BinOp.eql 33 Cmp.other (Operand.tmp 50) (Operand.tmp 51)) [],
 Item.mk (some 53) none
 (AOp.pick (Operand.tmp 47) (Operand.tmp 52) (Operand.const (Value.bool false))) [],
 Item.mk (some 54) none (AOp.mov (Operand.tmp 53)) [],
 Item.mk (some 55) (some (54, true)) (AOp.mov (Operand.tmp 1)) [],
 Item.mk (some 56) (some (54, true))
 (AOp.idxL 5 (Operand.tmp 55) (Operand.const (Value.int IntKind.i64 8))) [],
 Item.mk (some 57) (some (54, true)) (AOp.load (some 5) (Operand.tmp 56)) [],
 Item.mk (some 58) (some (54, true))
 (AOp.build
 [V.val (Value.int IntKind.i64 0), V.val (Value.string (ByteArray.mk #[])),
 V.val (Value.int IntKind.i64 0), V.val (Value.int IntKind.i64 0),
 V.val (Value.int IntKind.i64 0)]
 [(3, 1, Operand.const (Value.int IntKind.i64 1)),
 (4, 1, Operand.const (Value.int IntKind.i64 17))])
 [],
 Item.mk (some 59) (some (54, true))
 (AOp.bin BinOp.eql 33 Cmp.other (Operand.tmp 57) (Operand.tmp 58)) [],
 Item.mk (some 60) none
 (AOp.pick (Operand.tmp 54) (Operand.tmp 59) (Operand.const (Value.bool false))) [],
 Item.mk (some 61) none (AOp.mov (Operand.tmp 60)) [],
 Item.mk (some 62) (some (61, true)) (AOp.mov (Operand.tmp 4)) [],
 Item.mk (some 63) (some (61, true)) (AOp.len false (Operand.tmp 62)) [],
 Item.mk (some 64) (some (61, true))
 (AOp.bin BinOp.eql 3 Cmp.other (Operand.tmp 63)
 (Operand.const (Value.int IntKind.i64 2)))
 [],
 Item.mk (some 65) none
 (AOp.pick (Operand.tmp 61) (Operand.tmp 64) (Operand.const (Value.bool false))) [],
 Item.mk (some 66) none (AOp.mov (Operand.tmp 65)) [],
 Item.mk (some 67) (some (66, true)) (AOp.mov (Operand.tmp 4)) [],
 Item.mk (some 68) (some (66, true))
 (AOp.idxL 5 (Operand.tmp 67) (Operand.const (Value.int IntKind.i64 0))) [],
 Item.mk (some 69) (some (66, true)) (AOp.fieldA 1 (Operand.tmp 68)) [],
 Item.mk (some 70) (some (66, true)) (AOp.load none (Operand.tmp 69)) [],
 Item.mk (some 71) (some (66, true))
 (AOp.bin BinOp.eql 9 Cmp.other (Operand.tmp 70)
 (Operand.const (Value.string (ByteArray.mk #[97, 34, 98]))))
 [],
 Item.mk (some 72) none
 (AOp.pick (Operand.tmp 66) (Operand.tmp 71) (Operand.const (Value.bool false))) [],
 Item.mk (some 73) none (AOp.mov (Operand.tmp 72)) [],
 Item.mk (some 74) (some (73, true)) (AOp.mov (Operand.tmp 6)) [],
 Item.mk (some 75) (some (73, true))
 (AOp.bin BinOp.eql 23 Cmp.other (Operand.tmp 74)
 (Operand.const (Value.int IntKind.i64 0)))
 [],
 Item.mk (some 76) none
 (AOp.pick (Operand.tmp 73) (Operand.tmp 75) (Operand.const (Value.bool false))) [],
 Item.mk (some 77) none (AOp.mov (Operand.tmp 76)) [],
 Item.mk (some 78) (some (77, true)) (AOp.mov (Operand.tmp 8)) [],
 Item.mk (some 79) (some (77, true))
 (AOp.bin BinOp.eql 3 Cmp.other (Operand.tmp 78)
 (Operand.const (Value.int IntKind.i64 1)))
 [],
 Item.mk (some 80) none
 (AOp.pick (Operand.tmp 77) (Operand.tmp 79) (Operand.const (Value.bool false))) [],
 Item.mk (some 81) none (AOp.mov (Operand.tmp 80)) [],
 Item.mk (some 82) (some (81, true)) (AOp.mov (Operand.tmp 9)) [],
 Item.mk (some 83) (some (81, true))
 (AOp.bin BinOp.eql 23 Cmp.other (Operand.tmp 82)
 (Operand.const (Value.int IntKind.i64 6)))
 [],
 Item.mk (some 84) none
 (AOp.pick (Operand.tmp 81) (Operand.tmp 83) (Operand.const (Value.bool false))) [],
 Item.mk (some 85) none (AOp.mov (Operand.tmp 84)) [],
 Item.mk (some 86) (some (85, true)) (AOp.mov (Operand.tmp 11)) [],
 Item.mk (some 87) (some (85, true))
 (AOp.bin BinOp.eql 3 Cmp.other (Operand.tmp 86)
 (Operand.const (Value.int IntKind.i64 0)))
 [],
 Item.mk (some 88) none
 (AOp.pick (Operand.tmp 85) (Operand.tmp 87) (Operand.const (Value.bool false))) [],
 Item.mk (some 89) none (AOp.mov (Operand.tmp 88)) [],
 Item.mk (some 90) (some (89, true)) (AOp.mov (Operand.tmp 12)) [],
 Item.mk (some 91) (some (89, true))
 (AOp.bin BinOp.eql 23 Cmp.other (Operand.tmp 90)
 (Operand.const (Value.int IntKind.i64 5)))
 [],
 Item.mk (some 92) none
 (AOp.pick (Operand.tmp 89) (Operand.tmp 91) (Operand.const (Value.bool false))) [],
 Item.mk (some 93) none (AOp.mov (Operand.tmp 92)) [],
 Item.mk (some 94) (some (93, true))
 (AOp.call (Operand.func 11)
 [Operand.const
 (Value.string (ByteArray.mk #[110, 101, 119]))])
 [],
 Item.mk (some 95) none
 (AOp.pick (Operand.tmp 93) (Operand.tmp 94) (Operand.const (Value.bool false))) [],
 Item.mk (some 96) none (AOp.mov (Operand.tmp 95)) [],
 Item.mk (some 97) none
 (AOp.pick (Operand.tmp 96) (Operand.const (Value.bool true)) (Operand.const (Value.bool false)))
 [],
 Item.mk (some 98) none (AOp.mov (Operand.tmp 97)) [],
 Item.mk (some 99) none
 (AOp.pick (Operand.tmp 98) (Operand.const (Value.bool true)) (Operand.const (Value.bool false)))
 [],
 Item.mk (some 100) none (AOp.mov (Operand.tmp 99)) [],
 Item.mk (some 101) none
 (AOp.pick (Operand.tmp 100) (Operand.const (Value.bool true)) (Operand.const (Value.bool false)))
 [],
 Item.mk (some 0) none (AOp.mov (Operand.tmp 101)) []]).seq
 ACode.ret))))))
theorem F8_ok : compFn Tryd.prog (byId h8) 8 = some F8 := by kernel_rfl
def h9 : List (Nat × List (Nat × List Nat) × List Nat) := []
def F9 : AFn :=
  AFn.mk 4 [ARes.tmp 2]
 ((ACode.row
 [Item.mk (some 1) none (AOp.box 35 (Operand.tmp 0)) [],
 Item.mk (some 2) none (AOp.mov (Operand.const Value.nilFunc)) []]).seq
 ((ACode.row
 [Item.mk (some 3) none (AOp.mkf (Fn.func 12) [] [Operand.tmp 1]) [],
 Item.mk (some 2) none (AOp.mov (Operand.tmp 3)) []]).seq
 ACode.ret))
theorem F9_ok : compFn Tryd.prog (byId h9) 9 = some F9 := by kernel_rfl
def h10 : List (Nat × List (Nat × List Nat) × List Nat) := [(26, [(0, []), (1, []), (2, []), (3, []), (4, []), (5, []), (6, []), (7, []), (8, []), (9, []), (10, []), (11, []), (12, []), (13, []), (14, []), (15, []), (16, []), (17, []), (18, []), (19, []), (20, []), (21, []), (22, []), (23, []), (24, []), (25, []), (26, [])], [0, 0, 0, 6, 14, 30, 63, 0, 128, 511, 1023, 2047, 2047, 2047, 2047, 2047, 51199, 116735, 247807, 518143, 1048575, 2047, 2047, 6293503, 14682111, 33554431, 67108863]), (27, [(0, []), (1, []), (2, []), (3, []), (4, []), (5, []), (6, []), (7, []), (8, []), (9, []), (10, []), (11, []), (12, [9]), (13, []), (14, [])], [0, 0, 3, 7, 15, 0, 0, 0, 192, 448, 960, 2016, 31, 8191, 16383])]
def F10 : AFn :=
  AFn.mk 144 [ARes.cell 4 (some 5), ARes.tmp 5, ARes.tmp 6]
 ((ACode.row
 [Item.mk (some 4) none
 (AOp.alloc 33
 [V.val (Value.int IntKind.i64 0), V.val (Value.string (ByteArray.mk #[])),
 V.val (Value.int IntKind.i64 0), V.val (Value.int IntKind.i64 0),
 V.val (Value.int IntKind.i64 0)])
 [],
 Item.mk (some 5) none (AOp.mov (Operand.const (Value.int IntKind.i64 0))) [],
 Item.mk (some 6) none (AOp.mov (Operand.const (Value.int IntKind.i64 0))) []]).seq
 ((ACode.row
 [Item.mk (some 16) none (AOp.mov (Operand.tmp 0)) [], Item.mk (some 17) none (AOp.mov (Operand.tmp 1)) [],
 Item.mk (some 18) none (AOp.idxStr (Operand.tmp 16) (Operand.tmp 17)) [],
 Item.mk (some 7) none (AOp.mov (Operand.tmp 18)) []]).seq
 ((ACode.row
 [Item.mk (some 19) none (AOp.mov (Operand.tmp 1)) [],
 Item.mk (some 8) none (AOp.mov (Operand.tmp 19)) []]).seq
 ((ACode.block 0
 ((ACode.row
 [Item.mk (some 21) none (AOp.mov (Operand.tmp 7)) [],
 Item.mk (some 22) none (AOp.call (Operand.func 15) [Operand.tmp 21]) [],
 Item.mk (some 20) none (AOp.mov (Operand.tmp 22)) []]).seq
 (ACode.cond (Operand.tmp 20)
 ((ACode.block 1
 (((ACode.row
 [Item.mk (some 23) none (AOp.mov (Operand.tmp 8)) [],
 Item.mk (some 24) none (AOp.mov (Operand.tmp 0)) [],
 Item.mk (some 25) none (AOp.len true (Operand.tmp 24)) [],
 Item.mk (some 26) none
 (AOp.bin BinOp.lss 3 Cmp.other (Operand.tmp 23) (Operand.tmp 25)) [],
 Item.mk (some 27) none (AOp.mov (Operand.tmp 26)) [],
 Item.mk (some 28) (some (27, true)) (AOp.mov (Operand.tmp 0)) [],
 Item.mk (some 29) (some (27, true)) (AOp.mov (Operand.tmp 8)) [],
 Item.mk (some 30) (some (27, true)) (AOp.idxStr (Operand.tmp 28) (Operand.tmp 29))
 [],
 Item.mk (some 31) (some (27, true)) (AOp.call (Operand.func 15) [Operand.tmp 30])
 [],
 Item.mk (some 32) (some (27, true)) (AOp.mov (Operand.tmp 31)) [],
 Item.mk (some 33) (some (32, false)) (AOp.mov (Operand.tmp 0)) [],
 Item.mk (some 34) (some (32, false)) (AOp.mov (Operand.tmp 8)) [],
 Item.mk (some 35) (some (32, false))
 (AOp.idxStr (Operand.tmp 33) (Operand.tmp 34)) [],
 Item.mk (some 36) (some (32, false)) (AOp.call (Operand.func 16) [Operand.tmp 35])
 [],
 Item.mk (some 37) (some (27, true))
 (AOp.pick (Operand.tmp 32) (Operand.const (Value.bool true)) (Operand.tmp 36))
 [],
 Item.mk (some 38) none
 (AOp.pick (Operand.tmp 27) (Operand.tmp 37) (Operand.const (Value.bool false)))
 []]).seq
 (ACode.cond (Operand.tmp 38) ACode.skip (ACode.exit 1))).seq
 (ACode.block 2
 (ACode.row
 [Item.mk (some 39) none (AOp.mov (Operand.tmp 8)) [],
 Item.mk (some 40) none
 (AOp.bin BinOp.add 3 Cmp.other (Operand.tmp 39)
 (Operand.const (Value.int IntKind.i64 1)))
 [],
 Item.mk (some 8) none (AOp.mov (Operand.tmp 40)) []]))).loop).seq
 ((ACode.row
 [Item.mk (some 41) none (AOp.mov (Operand.tmp 0)) [],
 Item.mk (some 42) none (AOp.mov (Operand.tmp 1)) [],
 Item.mk (some 43) none (AOp.mov (Operand.tmp 8)) [],
 Item.mk (some 44) none
 (AOp.sliceS (Operand.tmp 41) (some (Operand.tmp 42)) (some (Operand.tmp 43))) [],
 Item.mk (some 9) none (AOp.mov (Operand.tmp 44)) []]).seq
 (((ACode.row
 [Item.mk (some 45) none (AOp.mov (Operand.tmp 9)) [],
 Item.mk (some 46) none (AOp.call (Operand.func 17) [Operand.tmp 45]) []]).seq
 (ACode.cond (Operand.tmp 46)
 ((ACode.row
 [Item.mk (some 47) none (AOp.mov (Operand.tmp 9)) [],
 Item.mk (some 48) none
 (AOp.build
 [V.val (Value.int IntKind.i64 0),
 V.val (Value.string (ByteArray.mk #[])),
 V.val (Value.int IntKind.i64 0),
 V.val (Value.int IntKind.i64 0),
 V.val (Value.int IntKind.i64 0)]
 [(0, 1, Operand.const (Value.int IntKind.i64 5)),
 (1, 1, Operand.tmp 47)])
 [],
 Item.mk (some 49) none (AOp.mov (Operand.tmp 8)) [],
 Item.mk none none (AOp.store 5 (Operand.tmp 4) (Operand.tmp 48)) [],
 Item.mk (some 5) none (AOp.mov (Operand.tmp 49)) [],
 Item.mk (some 6) none
 (AOp.mov (Operand.const (Value.int IntKind.i64 0))) []]).seq
 ACode.ret)
 ACode.skip)).seq
 (((ACode.row
 [Item.mk (some 50) none (AOp.mov (Operand.tmp 9)) [],
 Item.mk (some 51) none (AOp.len true (Operand.tmp 50)) [],
 Item.mk (some 52) none
 (AOp.bin BinOp.gtr 3 Cmp.other (Operand.tmp 51)
 (Operand.const (Value.int IntKind.i64 20)))
 []]).seq
 (ACode.cond (Operand.tmp 52)
 ((ACode.row
 [Item.mk (some 53) none
 (AOp.build
 [V.val (Value.int IntKind.i64 0),
 V.val (Value.string (ByteArray.mk #[])),
 V.val (Value.int IntKind.i64 0),
 V.val (Value.int IntKind.i64 0),
 V.val (Value.int IntKind.i64 0)]
 [])
 [],
 Item.mk none none (AOp.store 5 (Operand.tmp 4) (Operand.tmp 53)) [],
 Item.mk (some 5) none
 (AOp.mov (Operand.const (Value.int IntKind.i64 0))) [],
 Item.mk (some 6) none
 (AOp.mov (Operand.const (Value.int IntKind.i64 5))) []]).seq
 ACode.ret)
 ACode.skip)).seq
 ((ACode.row
 [Item.mk (some 54) none (AOp.mov (Operand.tmp 9)) [],
 Item.mk (some 55) none
 (AOp.build
 [V.val (Value.int IntKind.i64 0),
 V.val (Value.string (ByteArray.mk #[])),
 V.val (Value.int IntKind.i64 0),
 V.val (Value.int IntKind.i64 0),
 V.val (Value.int IntKind.i64 0)]
 [(0, 1, Operand.const (Value.int IntKind.i64 1)),
 (1, 1, Operand.tmp 54)])
 [],
 Item.mk (some 56) none (AOp.mov (Operand.tmp 8)) [],
 Item.mk none none (AOp.store 5 (Operand.tmp 4) (Operand.tmp 55)) [],
 Item.mk (some 5) none (AOp.mov (Operand.tmp 56)) [],
 Item.mk (some 6) none
 (AOp.mov (Operand.const (Value.int IntKind.i64 0))) []]).seq
 ACode.ret)))))
 ((ACode.row
 [Item.mk (some 58) none (AOp.mov (Operand.tmp 7)) [],
 Item.mk (some 59) none (AOp.call (Operand.func 16) [Operand.tmp 58]) [],
 Item.mk (some 57) none (AOp.mov (Operand.tmp 59)) []]).seq
 (ACode.cond (Operand.tmp 57)
 ((ACode.block 3
 (((ACode.row
 [Item.mk (some 60) none (AOp.mov (Operand.tmp 8)) [],
 Item.mk (some 61) none (AOp.mov (Operand.tmp 0)) [],
 Item.mk (some 62) none (AOp.len true (Operand.tmp 61)) [],
 Item.mk (some 63) none
 (AOp.bin BinOp.lss 3 Cmp.other (Operand.tmp 60) (Operand.tmp 62)) [],
 Item.mk (some 64) none (AOp.mov (Operand.tmp 63)) [],
 Item.mk (some 65) (some (64, true)) (AOp.mov (Operand.tmp 0)) [],
 Item.mk (some 66) (some (64, true)) (AOp.mov (Operand.tmp 8)) [],
 Item.mk (some 67) (some (64, true))
 (AOp.idxStr (Operand.tmp 65) (Operand.tmp 66)) [],
 Item.mk (some 68) (some (64, true))
 (AOp.call (Operand.func 16) [Operand.tmp 67]) [],
 Item.mk (some 69) none
 (AOp.pick (Operand.tmp 64) (Operand.tmp 68)
 (Operand.const (Value.bool false)))
 []]).seq
 (ACode.cond (Operand.tmp 69) ACode.skip (ACode.exit 3))).seq
 (ACode.block 4
 (ACode.row
 [Item.mk (some 70) none (AOp.mov (Operand.tmp 8)) [],
 Item.mk (some 71) none
 (AOp.bin BinOp.add 3 Cmp.other (Operand.tmp 70)
 (Operand.const (Value.int IntKind.i64 1)))
 [],
 Item.mk (some 8) none (AOp.mov (Operand.tmp 71)) []]))).loop).seq
 ((ACode.row
 [Item.mk (some 72) none (AOp.mov (Operand.tmp 0)) [],
 Item.mk (some 73) none (AOp.mov (Operand.tmp 1)) [],
 Item.mk (some 74) none (AOp.mov (Operand.tmp 8)) [],
 Item.mk (some 75) none
 (AOp.sliceS (Operand.tmp 72) (some (Operand.tmp 73)) (some (Operand.tmp 74))) [],
 Item.mk (some 76) none (AOp.call (Operand.func 18) [Operand.tmp 75]) [],
 Item.mk (some 10) none (AOp.mov (Operand.tmp 76)) []]).seq
 (((ACode.row
 [Item.mk (some 77) none (AOp.mov (Operand.tmp 10)) [],
 Item.mk (some 78) none
 (AOp.bin BinOp.lss 3 Cmp.other (Operand.tmp 77)
 (Operand.const (Value.int IntKind.i64 0)))
 []]).seq
 (ACode.cond (Operand.tmp 78)
 ((ACode.row
 [Item.mk (some 79) none
 (AOp.build
 [V.val (Value.int IntKind.i64 0),
 V.val (Value.string (ByteArray.mk #[])),
 V.val (Value.int IntKind.i64 0),
 V.val (Value.int IntKind.i64 0),
 V.val (Value.int IntKind.i64 0)]
 [])
 [],
 Item.mk none none (AOp.store 5 (Operand.tmp 4) (Operand.tmp 79)) [],
 Item.mk (some 5) none
 (AOp.mov (Operand.const (Value.int IntKind.i64 0))) [],
 Item.mk (some 6) none
 (AOp.mov (Operand.const (Value.int IntKind.i64 5))) []]).seq
 ACode.ret)
 ACode.skip)).seq
 ((ACode.row
 [Item.mk (some 80) none (AOp.mov (Operand.tmp 10)) [],
 Item.mk (some 81) none
 (AOp.build
 [V.val (Value.int IntKind.i64 0),
 V.val (Value.string (ByteArray.mk #[])),
 V.val (Value.int IntKind.i64 0),
 V.val (Value.int IntKind.i64 0),
 V.val (Value.int IntKind.i64 0)]
 [(0, 1, Operand.const (Value.int IntKind.i64 2)),
 (2, 1, Operand.tmp 80)])
 [],
 Item.mk (some 82) none (AOp.mov (Operand.tmp 8)) [],
 Item.mk none none (AOp.store 5 (Operand.tmp 4) (Operand.tmp 81)) [],
 Item.mk (some 5) none (AOp.mov (Operand.tmp 82)) [],
 Item.mk (some 6) none
 (AOp.mov (Operand.const (Value.int IntKind.i64 0))) []]).seq
 ACode.ret))))
 ((ACode.row
 [Item.mk (some 84) none (AOp.mov (Operand.tmp 7)) [],
 Item.mk (some 85) none
 (AOp.bin BinOp.eql 5 Cmp.other (Operand.tmp 84)
 (Operand.const (Value.int IntKind.u8 34)))
 [],
 Item.mk (some 83) none (AOp.mov (Operand.tmp 85)) []]).seq
 (ACode.cond (Operand.tmp 83)
 ((ACode.row
 [Item.mk (some 87) none (AOp.mov (Operand.tmp 0)) [],
 Item.mk (some 88) none (AOp.mov (Operand.tmp 1)) [],
 Item.mk (some 89) none (AOp.call (Operand.func 19) [Operand.tmp 87, Operand.tmp 88])
 [],
 Item.mk (some 86) none (AOp.mov (Operand.tmp 89)) [],
 Item.mk (some 90) none (AOp.ext (Operand.tmp 86) 0) [],
 Item.mk (some 91) none (AOp.ext (Operand.tmp 86) 1) [],
 Item.mk (some 92) none (AOp.ext (Operand.tmp 86) 2) [],
 Item.mk (some 11) none (AOp.mov (Operand.tmp 90)) [],
 Item.mk (some 12) none (AOp.mov (Operand.tmp 91)) [],
 Item.mk (some 13) none (AOp.mov (Operand.tmp 92)) []]).seq
 ((ACode.row
 [Item.mk (some 93) none (AOp.mov (Operand.tmp 11)) [],
 Item.mk (some 94) none
 (AOp.build
 [V.val (Value.int IntKind.i64 0),
 V.val (Value.string (ByteArray.mk #[])),
 V.val (Value.int IntKind.i64 0),
 V.val (Value.int IntKind.i64 0),
 V.val (Value.int IntKind.i64 0)]
 [(0, 1, Operand.const (Value.int IntKind.i64 3)),
 (1, 1, Operand.tmp 93)])
 [],
 Item.mk (some 95) none (AOp.mov (Operand.tmp 12)) [],
 Item.mk (some 96) none (AOp.mov (Operand.tmp 13)) [],
 Item.mk none none (AOp.store 5 (Operand.tmp 4) (Operand.tmp 94)) [],
 Item.mk (some 5) none (AOp.mov (Operand.tmp 95)) [],
 Item.mk (some 6) none (AOp.mov (Operand.tmp 96)) []]).seq
 ACode.ret))
 ACode.skip))))))).seq
 ((ACode.row
 [Item.mk (some 97) none (AOp.call (Operand.func 20) []) [],
 Item.mk (some 14) none (AOp.mov (Operand.tmp 97)) []]).seq
 (((ACode.row
 [Item.mk (some 15) none (AOp.mov (Operand.const (Value.int IntKind.i64 0))) []]).seq
 (ACode.block 5
 (((ACode.row
 [Item.mk (some 98) none (AOp.mov (Operand.tmp 15)) [],
 Item.mk (some 99) none (AOp.mov (Operand.tmp 14)) [],
 Item.mk (some 100) none (AOp.len false (Operand.tmp 99)) [],
 Item.mk (some 101) none
 (AOp.bin BinOp.lss 3 Cmp.other (Operand.tmp 98) (Operand.tmp 100)) []]).seq
 (ACode.cond (Operand.tmp 101) ACode.skip (ACode.exit 5))).seq
 ((ACode.block 6
 ((ACode.row
 [Item.mk (some 104) none (AOp.mov (Operand.tmp 1)) [],
 Item.mk (some 105) none (AOp.mov (Operand.tmp 14)) [],
 Item.mk (some 106) none (AOp.mov (Operand.tmp 15)) [],
 Item.mk (some 107) none (AOp.idxL 1 (Operand.tmp 105) (Operand.tmp 106)) [],
 Item.mk (some 108) none (AOp.load none (Operand.tmp 107)) [],
 Item.mk (some 109) none (AOp.len true (Operand.tmp 108)) [],
 Item.mk (some 110) none
 (AOp.bin BinOp.add 3 Cmp.other (Operand.tmp 104) (Operand.tmp 109)) [],
 Item.mk (some 111) none (AOp.mov (Operand.tmp 0)) [],
 Item.mk (some 112) none (AOp.len true (Operand.tmp 111)) [],
 Item.mk (some 113) none
 (AOp.bin BinOp.leq 3 Cmp.other (Operand.tmp 110) (Operand.tmp 112)) [],
 Item.mk (some 114) none (AOp.mov (Operand.tmp 113)) [],
 Item.mk (some 115) (some (114, true)) (AOp.mov (Operand.tmp 0)) [],
 Item.mk (some 116) (some (114, true)) (AOp.mov (Operand.tmp 1)) [],
 Item.mk (some 117) (some (114, true)) (AOp.mov (Operand.tmp 1)) [],
 Item.mk (some 118) (some (114, true)) (AOp.mov (Operand.tmp 14)) [],
 Item.mk (some 119) (some (114, true)) (AOp.mov (Operand.tmp 15)) [],
 Item.mk (some 120) (some (114, true))
 (AOp.idxL 1 (Operand.tmp 118) (Operand.tmp 119)) [],
 Item.mk (some 121) (some (114, true)) (AOp.load none (Operand.tmp 120)) [],
 Item.mk (some 122) (some (114, true)) (AOp.len true (Operand.tmp 121)) [],
 Item.mk (some 123) (some (114, true))
 (AOp.bin BinOp.add 3 Cmp.other (Operand.tmp 117) (Operand.tmp 122)) [],
 Item.mk (some 124) (some (114, true))
 (AOp.sliceS (Operand.tmp 115) (some (Operand.tmp 116)) (some (Operand.tmp 123)))
 [],
 Item.mk (some 125) (some (114, true)) (AOp.mov (Operand.tmp 14)) [],
 Item.mk (some 126) (some (114, true)) (AOp.mov (Operand.tmp 15)) [],
 Item.mk (some 127) (some (114, true))
 (AOp.idxL 1 (Operand.tmp 125) (Operand.tmp 126)) [],
 Item.mk (some 128) (some (114, true)) (AOp.load none (Operand.tmp 127)) [],
 Item.mk (some 129) (some (114, true))
 (AOp.bin BinOp.eql 9 Cmp.other (Operand.tmp 124) (Operand.tmp 128)) [],
 Item.mk (some 130) none
 (AOp.pick (Operand.tmp 114) (Operand.tmp 129)
 (Operand.const (Value.bool false)))
 []]).seq
 (ACode.cond (Operand.tmp 130)
 ((ACode.row
 [Item.mk (some 131) none (AOp.mov (Operand.tmp 14)) [],
 Item.mk (some 132) none (AOp.mov (Operand.tmp 15)) [],
 Item.mk (some 133) none (AOp.idxL 1 (Operand.tmp 131) (Operand.tmp 132)) [],
 Item.mk (some 134) none (AOp.load none (Operand.tmp 133)) [],
 Item.mk (some 135) none
 (AOp.build
 [V.val (Value.int IntKind.i64 0),
 V.val (Value.string (ByteArray.mk #[])),
 V.val (Value.int IntKind.i64 0),
 V.val (Value.int IntKind.i64 0),
 V.val (Value.int IntKind.i64 0)]
 [(0, 1, Operand.const (Value.int IntKind.i64 4)),
 (1, 1, Operand.tmp 134)])
 [],
 Item.mk (some 136) none (AOp.mov (Operand.tmp 1)) [],
 Item.mk (some 137) none (AOp.mov (Operand.tmp 14)) [],
 Item.mk (some 138) none (AOp.mov (Operand.tmp 15)) [],
 Item.mk (some 139) none (AOp.idxL 1 (Operand.tmp 137) (Operand.tmp 138)) [],
 Item.mk (some 140) none (AOp.load none (Operand.tmp 139)) [],
 Item.mk (some 141) none (AOp.len true (Operand.tmp 140)) [],
 Item.mk (some 142) none
 (AOp.bin BinOp.add 3 Cmp.other (Operand.tmp 136) (Operand.tmp 141)) [],
 Item.mk none none (AOp.store 5 (Operand.tmp 4) (Operand.tmp 135))
 [(140, none, AOp.load none (Operand.tmp 139))],
 Item.mk (some 5) none (AOp.mov (Operand.tmp 142)) [],
 Item.mk (some 6) none
 (AOp.mov (Operand.const (Value.int IntKind.i64 0))) []]).seq
 ACode.ret)
 ACode.skip))).seq
 (ACode.row
 [Item.mk (some 102) none (AOp.mov (Operand.tmp 15)) [],
 Item.mk (some 103) none
 (AOp.bin BinOp.add 3 Cmp.other (Operand.tmp 102)
 (Operand.const (Value.int IntKind.i64 1)))
 [],
 Item.mk (some 15) none (AOp.mov (Operand.tmp 103)) []]))).loop)).seq
 ((ACode.row
 [Item.mk (some 143) none
 (AOp.build
 [V.val (Value.int IntKind.i64 0), V.val (Value.string (ByteArray.mk #[])),
 V.val (Value.int IntKind.i64 0),
 V.val (Value.int IntKind.i64 0),
 V.val (Value.int IntKind.i64 0)]
 [])
 [],
 Item.mk none none (AOp.store 5 (Operand.tmp 4) (Operand.tmp 143)) [],
 Item.mk (some 5) none (AOp.mov (Operand.const (Value.int IntKind.i64 0))) [],
 Item.mk (some 6) none (AOp.mov (Operand.const (Value.int IntKind.i64 6))) []]).seq
 ACode.ret)))))))
theorem F10_ok : compFn Tryd.prog (byId h10) 10 = some F10 := by kernel_rfl
def h11 : List (Nat × List (Nat × List Nat) × List Nat) := []
def F11 : AFn :=
  AFn.mk 13 [ARes.tmp 2]
 ((ACode.row [Item.mk (some 2) none (AOp.mov (Operand.const (Value.bool false))) []]).seq
 (((ACode.row [Item.mk (some 4) none (AOp.mov (Operand.const (Value.int IntKind.i64 0))) []]).seq
 (ACode.block 0
 ((ACode.row
 [Item.mk (some 5) none
 (AOp.bin BinOp.lss 3 Cmp.other (Operand.tmp 4)
 (Operand.const (Value.int IntKind.i64 10)))
 []]).seq
 ((ACode.cond (Operand.tmp 5) ACode.skip (ACode.exit 0)).seq
 ((ACode.block 1
 ((ACode.row
 [Item.mk (some 6) none (AOp.mov (Operand.tmp 4)) [],
 Item.mk (some 3) none (AOp.mov (Operand.tmp 6)) []]).seq
 ((ACode.row
 [Item.mk (some 7) none (AOp.mov (Operand.tmp 3)) [],
 Item.mk (some 8) none (AOp.idxA 10 1 (Operand.global 0) (Operand.tmp 7)) [],
 Item.mk (some 9) none (AOp.load none (Operand.tmp 8)) [],
 Item.mk (some 10) none (AOp.mov (Operand.tmp 0)) [],
 Item.mk (some 11) none
 (AOp.bin BinOp.eql 9 Cmp.other (Operand.tmp 9) (Operand.tmp 10)) []]).seq
 (ACode.cond (Operand.tmp 11)
 ((ACode.row [Item.mk (some 2) none (AOp.mov (Operand.const (Value.bool true))) []]).seq
 ACode.ret)
 ACode.skip)))).seq
 (ACode.row
 [Item.mk (some 12) none
 (AOp.bin BinOp.add 3 Cmp.other (Operand.tmp 4)
 (Operand.const (Value.int IntKind.i64 1)))
 [],
 Item.mk (some 4) none (AOp.mov (Operand.tmp 12)) []])))).loop)).seq
 ((ACode.row [Item.mk (some 2) none (AOp.mov (Operand.const (Value.bool false))) []]).seq ACode.ret)))
theorem F11_ok : compFn Tryd.prog (byId h11) 11 = some F11 := by kernel_rfl
def h12 : List (Nat × List (Nat × List Nat) × List Nat) := [(1, [(0, []), (1, []), (2, []), (3, []), (4, []), (5, []), (6, []), (7, []), (8, []), (9, [])], [0, 1, 3, 7, 0, 16, 48, 112, 240, 511]), (2, [(0, []), (1, []), (2, []), (3, []), (4, []), (5, []), (6, []), (7, []), (8, []), (9, []), (10, [])], [0, 0, 2, 6, 14, 0, 32, 96, 224, 510, 1023]), (3, [(0, []), (1, []), (2, []), (3, []), (4, []), (5, []), (6, []), (7, []), (8, []), (9, []), (10, []), (11, []), (12, []), (13, []), (14, []), (15, []), (16, [])], [0, 0, 2, 6, 14, 0, 32, 96, 224, 510, 1023, 2047, 4095, 4095, 0, 24575, 65535]), (4, [(0, []), (1, []), (2, []), (3, []), (4, []), (5, []), (6, []), (7, []), (8, []), (9, [4, 7]), (10, []), (11, [])], [0, 1, 3, 7, 0, 16, 48, 112, 15, 271, 1023, 2047])]
def F12 : AFn :=
  AFn.mk 71 []
 (ACode.block 0
 (ACode.block 1
 ((ACode.row
 [Item.mk (some 5) none (AOp.load none (Operand.tmp 1)) [],
 Item.mk (some 6) none (AOp.call (Operand.func 13) [Operand.tmp 5]) []]).seq
 (((ACode.row
 [Item.mk (some 7) none (AOp.load none (Operand.tmp 1)) [],
 Item.mk (some 8) none (AOp.nilc (Operand.tmp 7)) [],
 Item.mk (some 9) none (AOp.fieldA 1 (Operand.tmp 8)) [],
 Item.mk (some 10) none (AOp.load none (Operand.tmp 9)) [],
 Item.mk (some 11) none (AOp.load none (Operand.tmp 1)) [],
 Item.mk (some 12) none (AOp.nilc (Operand.tmp 11)) [],
 Item.mk (some 13) none (AOp.fieldA 0 (Operand.tmp 12)) [],
 Item.mk (some 14) none (AOp.load none (Operand.tmp 13)) [],
 Item.mk (some 15) none (AOp.len true (Operand.tmp 14)) [],
 Item.mk (some 16) none (AOp.bin BinOp.eql 3 Cmp.other (Operand.tmp 10) (Operand.tmp 15)) []]).seq
 (ACode.cond (Operand.tmp 16)
 ((ACode.row
 [Item.mk (some 17) none (AOp.mov (Operand.tmp 0)) [],
 Item.mk (some 18) none (AOp.load none (Operand.tmp 1)) [],
 Item.mk (some 19) none (AOp.nilc (Operand.tmp 18)) [],
 Item.mk (some 20) none (AOp.fieldA 2 (Operand.tmp 19)) [],
 Item.mk (some 21) none (AOp.load none (Operand.tmp 20)) [],
 Item.mk (some 22) none (AOp.load none (Operand.tmp 1)) [],
 Item.mk (some 23) none (AOp.nilc (Operand.tmp 22)) [],
 Item.mk (some 24) none (AOp.fieldA 1 (Operand.tmp 23)) [],
 Item.mk (some 25) none (AOp.load none (Operand.tmp 24)) [],
 Item.mk (some 26) none
 (AOp.build
 [V.val (Value.int IntKind.i64 0), V.val (Value.string (ByteArray.mk #[])),
 V.val (Value.int IntKind.i64 0),
 V.val (Value.int IntKind.i64 0),
 V.val (Value.int IntKind.i64 0)]
 [(3, 1, Operand.tmp 21), (4, 1, Operand.tmp 25)])
 [],
 Item.mk (some 27) none (AOp.call (Operand.tmp 17) [Operand.tmp 26]) []]).seq
 ACode.ret)
 ACode.skip)).seq
 ((ACode.row
 [Item.mk (some 29) none (AOp.load none (Operand.tmp 1)) [],
 Item.mk (some 30) none (AOp.load none (Operand.tmp 1)) [],
 Item.mk (some 31) none (AOp.nilc (Operand.tmp 30)) [],
 Item.mk (some 32) none (AOp.fieldA 0 (Operand.tmp 31)) [],
 Item.mk (some 33) none (AOp.load none (Operand.tmp 32)) [],
 Item.mk (some 34) none (AOp.load none (Operand.tmp 1)) [],
 Item.mk (some 35) none (AOp.nilc (Operand.tmp 34)) [],
 Item.mk (some 36) none (AOp.fieldA 1 (Operand.tmp 35)) [],
 Item.mk (some 37) none (AOp.load none (Operand.tmp 36)) [],
 Item.mk (some 38) none (AOp.sliceS (Operand.tmp 33) (some (Operand.tmp 37)) none) [],
 Item.mk (some 39) none (AOp.call (Operand.func 14) [Operand.tmp 29, Operand.tmp 38]) [],
 Item.mk (some 28) none (AOp.mov (Operand.tmp 39)) [],
 Item.mk (some 40) none (AOp.ext (Operand.tmp 28) 0) [],
 Item.mk (some 41) none (AOp.ext (Operand.tmp 28) 1) [],
 Item.mk (some 3) none
 (AOp.alloc 33
 [V.val (Value.int IntKind.i64 0), V.val (Value.string (ByteArray.mk #[])),
 V.val (Value.int IntKind.i64 0), V.val (Value.int IntKind.i64 0),
 V.val (Value.int IntKind.i64 0)])
 [],
 Item.mk none none (AOp.store 5 (Operand.tmp 3) (Operand.tmp 40)) [],
 Item.mk (some 4) none (AOp.mov (Operand.tmp 41)) []]).seq
 ((ACode.row
 [Item.mk (some 42) none (AOp.load none (Operand.tmp 1)) [],
 Item.mk (some 43) none (AOp.nilc (Operand.tmp 42)) [],
 Item.mk (some 44) none (AOp.fieldA 2 (Operand.tmp 43)) [],
 Item.mk (some 45) none (AOp.load none (Operand.tmp 44)) [],
 Item.mk (some 46) none (AOp.load none (Operand.tmp 1)) [],
 Item.mk (some 47) none (AOp.nilc (Operand.tmp 46)) [],
 Item.mk (some 48) none (AOp.fieldA 1 (Operand.tmp 47)) [],
 Item.mk (some 49) none (AOp.load none (Operand.tmp 48)) [],
 Item.mk (some 50) none (AOp.fieldA 3 (Operand.tmp 3)) [],
 Item.mk none none (AOp.store 1 (Operand.tmp 50) (Operand.tmp 45))
 [(46, none, AOp.load none (Operand.tmp 1)), (49, none, AOp.load none (Operand.tmp 48))],
 Item.mk (some 51) none (AOp.fieldA 4 (Operand.tmp 3)) [],
 Item.mk none none (AOp.store 1 (Operand.tmp 51) (Operand.tmp 49)) []]).seq
 (((ACode.row
 [Item.mk (some 52) none (AOp.load none (Operand.tmp 1)) [],
 Item.mk (some 53) none (AOp.nilc (Operand.tmp 52)) [],
 Item.mk (some 54) none (AOp.fieldA 3 (Operand.tmp 53)) [],
 Item.mk (some 55) none (AOp.load none (Operand.tmp 54)) [],
 Item.mk (some 56) none
 (AOp.bin BinOp.neq 23 Cmp.other (Operand.tmp 55)
 (Operand.const (Value.int IntKind.i64 0)))
 [],
 Item.mk (some 57) none (AOp.mov (Operand.tmp 56)) [],
 Item.mk (some 58) (some (57, false)) (AOp.mov (Operand.tmp 0)) [],
 Item.mk (some 59) (some (57, false)) (AOp.load (some 5) (Operand.tmp 3)) [],
 Item.mk (some 60) (some (57, false)) (AOp.call (Operand.tmp 58) [Operand.tmp 59]) [],
 Item.mk (some 61) (some (57, false)) (AOp.un UnOp.not (Operand.tmp 60)) [],
 Item.mk (some 62) none
 (AOp.pick (Operand.tmp 57) (Operand.const (Value.bool true)) (Operand.tmp 61)) []]).seq
 (ACode.cond (Operand.tmp 62) ACode.ret ACode.skip)).seq
 (ACode.row
 [Item.mk (some 63) none (AOp.load none (Operand.tmp 1)) [],
 Item.mk (some 64) none (AOp.nilc (Operand.tmp 63)) [],
 Item.mk (some 65) none (AOp.fieldA 1 (Operand.tmp 64)) [],
 Item.mk (some 66) none (AOp.load none (Operand.tmp 65)) [],
 Item.mk (some 67) none (AOp.mov (Operand.tmp 4)) [],
 Item.mk (some 68) none (AOp.bin BinOp.add 3 Cmp.other (Operand.tmp 66) (Operand.tmp 67)) [],
 Item.mk (some 69) none (AOp.nilc (Operand.tmp 63)) [],
 Item.mk (some 70) none (AOp.fieldA 1 (Operand.tmp 69)) [],
 Item.mk none none (AOp.store 1 (Operand.tmp 70) (Operand.tmp 68)) []]))))))).loop)
theorem F12_ok : compFn Tryd.prog (byId h12) 12 = some F12 := by kernel_rfl
def h13 : List (Nat × List (Nat × List Nat) × List Nat) := [(0, [(0, []), (1, []), (2, []), (3, []), (4, []), (5, []), (6, []), (7, []), (8, []), (9, [])], [0, 1, 3, 7, 0, 16, 48, 112, 255, 511]), (7, [(0, []), (1, []), (2, []), (3, []), (4, []), (5, [3]), (6, []), (7, []), (8, []), (9, [])], [0, 1, 3, 7, 0, 16, 63, 127, 255, 511])]
def F13 : AFn :=
  AFn.mk 55 []
 (ACode.block 0
 (ACode.block 1
 ((ACode.row
 [Item.mk (some 3) none (AOp.mov (Operand.tmp 0)) [], Item.mk (some 4) none (AOp.nilc (Operand.tmp 3)) [],
 Item.mk (some 5) none (AOp.fieldA 0 (Operand.tmp 4)) [],
 Item.mk (some 6) none (AOp.load none (Operand.tmp 5)) [],
 Item.mk (some 7) none (AOp.mov (Operand.tmp 0)) [], Item.mk (some 8) none (AOp.nilc (Operand.tmp 7)) [],
 Item.mk (some 9) none (AOp.fieldA 1 (Operand.tmp 8)) [],
 Item.mk (some 10) none (AOp.load none (Operand.tmp 9)) [],
 Item.mk (some 11) none (AOp.sliceS (Operand.tmp 6) (some (Operand.tmp 10)) none) [],
 Item.mk (some 2) none (AOp.mov (Operand.tmp 11)) []]).seq
 (ACode.block 2
 ((ACode.row
 [Item.mk (some 13) none (AOp.mov (Operand.tmp 2)) [],
 Item.mk (some 14) none
 (AOp.call (Operand.func 21)
 [Operand.tmp 13, Operand.const (Value.string (ByteArray.mk #[10]))])
 [],
 Item.mk (some 12) none (AOp.mov (Operand.tmp 14)) []]).seq
 (ACode.cond (Operand.tmp 12)
 ((ACode.row
 [Item.mk (some 15) none (AOp.mov (Operand.tmp 0)) [],
 Item.mk (some 16) none (AOp.nilc (Operand.tmp 15)) [],
 Item.mk (some 17) none (AOp.fieldA 2 (Operand.tmp 16)) [],
 Item.mk (some 18) none (AOp.load none (Operand.tmp 17)) [],
 Item.mk (some 19) none
 (AOp.bin BinOp.add 3 Cmp.other (Operand.tmp 18)
 (Operand.const (Value.int IntKind.i64 1)))
 [],
 Item.mk (some 20) none (AOp.nilc (Operand.tmp 15)) [],
 Item.mk (some 21) none (AOp.fieldA 2 (Operand.tmp 20)) [],
 Item.mk none none (AOp.store 1 (Operand.tmp 21) (Operand.tmp 19)) []]).seq
 (ACode.row
 [Item.mk (some 22) none (AOp.mov (Operand.tmp 0)) [],
 Item.mk (some 23) none (AOp.nilc (Operand.tmp 22)) [],
 Item.mk (some 24) none (AOp.fieldA 1 (Operand.tmp 23)) [],
 Item.mk (some 25) none (AOp.load none (Operand.tmp 24)) [],
 Item.mk (some 26) none
 (AOp.bin BinOp.add 3 Cmp.other (Operand.tmp 25)
 (Operand.const (Value.int IntKind.i64 1)))
 [],
 Item.mk (some 27) none (AOp.nilc (Operand.tmp 22)) [],
 Item.mk (some 28) none (AOp.fieldA 1 (Operand.tmp 27)) [],
 Item.mk none none (AOp.store 1 (Operand.tmp 28) (Operand.tmp 26)) []]))
 ((ACode.row
 [Item.mk (some 30) none (AOp.mov (Operand.tmp 2)) [],
 Item.mk (some 31) none
 (AOp.call (Operand.func 21)
 [Operand.tmp 30, Operand.const (Value.string (ByteArray.mk #[32]))])
 [],
 Item.mk (some 32) none (AOp.mov (Operand.tmp 31)) [],
 Item.mk (some 33) (some (32, false)) (AOp.mov (Operand.tmp 2)) [],
 Item.mk (some 34) (some (32, false))
 (AOp.call (Operand.func 21)
 [Operand.tmp 33, Operand.const (Value.string (ByteArray.mk #[9]))])
 [],
 Item.mk (some 35) none
 (AOp.pick (Operand.tmp 32) (Operand.const (Value.bool true)) (Operand.tmp 34)) [],
 Item.mk (some 29) none (AOp.mov (Operand.tmp 35)) []]).seq
 (ACode.cond (Operand.tmp 29)
 (ACode.row
 [Item.mk (some 36) none (AOp.mov (Operand.tmp 0)) [],
 Item.mk (some 37) none (AOp.nilc (Operand.tmp 36)) [],
 Item.mk (some 38) none (AOp.fieldA 1 (Operand.tmp 37)) [],
 Item.mk (some 39) none (AOp.load none (Operand.tmp 38)) [],
 Item.mk (some 40) none
 (AOp.bin BinOp.add 3 Cmp.other (Operand.tmp 39)
 (Operand.const (Value.int IntKind.i64 1)))
 [],
 Item.mk (some 41) none (AOp.nilc (Operand.tmp 36)) [],
 Item.mk (some 42) none (AOp.fieldA 1 (Operand.tmp 41)) [],
 Item.mk none none (AOp.store 1 (Operand.tmp 42) (Operand.tmp 40)) []])
 ((ACode.row
 [Item.mk (some 44) none (AOp.mov (Operand.tmp 2)) [],
 Item.mk (some 45) none
 (AOp.call (Operand.func 21)
 [Operand.tmp 44,
 Operand.const (Value.string (ByteArray.mk #[47, 47]))])
 [],
 Item.mk (some 43) none (AOp.mov (Operand.tmp 45)) []]).seq
 (ACode.cond (Operand.tmp 43)
 (ACode.row
 [Item.mk (some 46) none (AOp.mov (Operand.tmp 0)) [],
 Item.mk (some 47) none (AOp.nilc (Operand.tmp 46)) [],
 Item.mk (some 48) none (AOp.fieldA 1 (Operand.tmp 47)) [],
 Item.mk (some 49) none (AOp.load none (Operand.tmp 48)) [],
 Item.mk (some 50) none (AOp.mov (Operand.tmp 2)) [],
 Item.mk (some 51) none (AOp.call (Operand.func 22) [Operand.tmp 50, Operand.func 23])
 [(49, none, AOp.load none (Operand.tmp 48))],
 Item.mk (some 52) none (AOp.bin BinOp.add 3 Cmp.other (Operand.tmp 49) (Operand.tmp 51)) [],
 Item.mk (some 53) none (AOp.nilc (Operand.tmp 46)) [],
 Item.mk (some 54) none (AOp.fieldA 1 (Operand.tmp 53)) [],
 Item.mk none none (AOp.store 1 (Operand.tmp 54) (Operand.tmp 52)) []])
 ACode.ret))))))))).loop)
theorem F13_ok : compFn Tryd.prog (byId h13) 13 = some F13 := by kernel_rfl
def h14 : List (Nat × List (Nat × List Nat) × List Nat) := []
def F14 : AFn :=
  AFn.mk 71 [ARes.cell 4 (some 5), ARes.tmp 5]
 ((ACode.row
 [Item.mk (some 4) none
 (AOp.alloc 33
 [V.val (Value.int IntKind.i64 0), V.val (Value.string (ByteArray.mk #[])),
 V.val (Value.int IntKind.i64 0), V.val (Value.int IntKind.i64 0),
 V.val (Value.int IntKind.i64 0)])
 [],
 Item.mk (some 5) none (AOp.mov (Operand.const (Value.int IntKind.i64 0))) []]).seq
 (((ACode.row
 [Item.mk (some 14) none (AOp.mov (Operand.tmp 1)) [],
 Item.mk (some 15) none
 (AOp.idxStr (Operand.tmp 14) (Operand.const (Value.int IntKind.i64 0))) [],
 Item.mk (some 6) none (AOp.mov (Operand.tmp 15)) []]).seq
 (ACode.block 0
 ((ACode.row
 [Item.mk (some 17) none (AOp.mov (Operand.tmp 6)) [],
 Item.mk (some 18) none (AOp.call (Operand.func 24) [Operand.tmp 17]) [],
 Item.mk (some 16) none (AOp.mov (Operand.tmp 18)) []]).seq
 (ACode.cond (Operand.tmp 16)
 ((ACode.row
 [Item.mk (some 19) none (AOp.mov (Operand.tmp 1)) [],
 Item.mk (some 20) none (AOp.call (Operand.func 22) [Operand.tmp 19, Operand.func 25]) [],
 Item.mk (some 7) none (AOp.mov (Operand.tmp 20)) []]).seq
 ((ACode.row
 [Item.mk (some 21) none (AOp.mov (Operand.tmp 0)) [],
 Item.mk (some 22) none (AOp.mov (Operand.tmp 1)) [],
 Item.mk (some 23) none (AOp.mov (Operand.tmp 7)) [],
 Item.mk (some 24) none (AOp.sliceS (Operand.tmp 22) none (some (Operand.tmp 23))) [],
 Item.mk (some 25) none (AOp.call (Operand.func 27) [Operand.tmp 21, Operand.tmp 24]) [],
 Item.mk (some 26) none (AOp.mov (Operand.tmp 7)) [],
 Item.mk none none (AOp.store 5 (Operand.tmp 4) (Operand.tmp 25)) [],
 Item.mk (some 5) none (AOp.mov (Operand.tmp 26)) []]).seq
 ACode.ret))
 ((ACode.row
 [Item.mk (some 28) none (AOp.mov (Operand.tmp 6)) [],
 Item.mk (some 29) none (AOp.call (Operand.func 26) [Operand.tmp 28]) [],
 Item.mk (some 27) none (AOp.mov (Operand.tmp 29)) []]).seq
 (ACode.cond (Operand.tmp 27)
 ((ACode.row
 [Item.mk (some 30) none (AOp.mov (Operand.tmp 1)) [],
 Item.mk (some 31) none (AOp.call (Operand.func 22) [Operand.tmp 30, Operand.func 26]) [],
 Item.mk (some 8) none (AOp.mov (Operand.tmp 31)) []]).seq
 ((ACode.row
 [Item.mk (some 33) none (AOp.mov (Operand.tmp 1)) [],
 Item.mk (some 34) none (AOp.mov (Operand.tmp 8)) [],
 Item.mk (some 35) none (AOp.sliceS (Operand.tmp 33) none (some (Operand.tmp 34))) [],
 Item.mk (some 36) none
 (AOp.call (Operand.func 28)
 [Operand.tmp 35, Operand.const (Value.int IntKind.i64 10),
 Operand.const (Value.int IntKind.i64 64)])
 [],
 Item.mk (some 32) none (AOp.mov (Operand.tmp 36)) [],
 Item.mk (some 37) none (AOp.ext (Operand.tmp 32) 0) [],
 Item.mk (some 38) none (AOp.ext (Operand.tmp 32) 1) [],
 Item.mk (some 9) none (AOp.mov (Operand.tmp 37)) [],
 Item.mk (some 10) none (AOp.mov (Operand.tmp 38)) []]).seq
 (((ACode.row
 [Item.mk (some 39) none (AOp.mov (Operand.tmp 10)) [],
 Item.mk (some 40) none
 (AOp.bin BinOp.neq 56 Cmp.iface (Operand.tmp 39) (Operand.const Value.nilIface))
 []]).seq
 (ACode.cond (Operand.tmp 40)
 (ACode.row
 [Item.mk (some 41) none (AOp.mov (Operand.tmp 0)) [],
 Item.mk (some 42) none (AOp.nilc (Operand.tmp 41)) [],
 Item.mk (some 43) none (AOp.fieldA 3 (Operand.tmp 42)) [],
 Item.mk none none
 (AOp.store 1 (Operand.tmp 43)
 (Operand.const (Value.int IntKind.i64 5)))
 []])
 ACode.skip)).seq
 ((ACode.row
 [Item.mk (some 44) none (AOp.mov (Operand.tmp 9)) [],
 Item.mk (some 45) none
 (AOp.build
 [V.val (Value.int IntKind.i64 0),
 V.val (Value.string (ByteArray.mk #[])),
 V.val (Value.int IntKind.i64 0),
 V.val (Value.int IntKind.i64 0),
 V.val (Value.int IntKind.i64 0)]
 [(0, 1, Operand.const (Value.int IntKind.i64 2)),
 (2, 1, Operand.tmp 44)])
 [],
 Item.mk (some 46) none (AOp.mov (Operand.tmp 8)) [],
 Item.mk none none (AOp.store 5 (Operand.tmp 4) (Operand.tmp 45)) [],
 Item.mk (some 5) none (AOp.mov (Operand.tmp 46)) []]).seq
 ACode.ret))))
 ((ACode.row
 [Item.mk (some 48) none (AOp.mov (Operand.tmp 6)) [],
 Item.mk (some 49) none
 (AOp.bin BinOp.eql 5 Cmp.other (Operand.tmp 48)
 (Operand.const (Value.int IntKind.u8 34)))
 [],
 Item.mk (some 47) none (AOp.mov (Operand.tmp 49)) []]).seq
 (ACode.cond (Operand.tmp 47)
 ((ACode.row
 [Item.mk (some 51) none (AOp.mov (Operand.tmp 0)) [],
 Item.mk (some 52) none (AOp.mov (Operand.tmp 1)) [],
 Item.mk (some 53) none
 (AOp.sliceS (Operand.tmp 52)
 (some (Operand.const (Value.int IntKind.i64 1))) none)
 [],
 Item.mk (some 54) none (AOp.call (Operand.func 29) [Operand.tmp 51, Operand.tmp 53]) [],
 Item.mk (some 50) none (AOp.mov (Operand.tmp 54)) [],
 Item.mk (some 55) none (AOp.ext (Operand.tmp 50) 0) [],
 Item.mk (some 56) none (AOp.ext (Operand.tmp 50) 1) [],
 Item.mk (some 11) none (AOp.mov (Operand.tmp 55)) [],
 Item.mk (some 12) none (AOp.mov (Operand.tmp 56)) []]).seq
 ((ACode.row
 [Item.mk (some 57) none (AOp.mov (Operand.tmp 11)) [],
 Item.mk (some 58) none
 (AOp.build
 [V.val (Value.int IntKind.i64 0),
 V.val (Value.string (ByteArray.mk #[])),
 V.val (Value.int IntKind.i64 0),
 V.val (Value.int IntKind.i64 0),
 V.val (Value.int IntKind.i64 0)]
 [(0, 1, Operand.const (Value.int IntKind.i64 3)),
 (1, 1, Operand.tmp 57)])
 [],
 Item.mk (some 59) none (AOp.mov (Operand.tmp 12)) [],
 Item.mk none none (AOp.store 5 (Operand.tmp 4) (Operand.tmp 58)) [],
 Item.mk (some 5) none (AOp.mov (Operand.tmp 59)) []]).seq
 ACode.ret))
 ACode.skip)))))))).seq
 ((ACode.row
 [Item.mk (some 60) none (AOp.mov (Operand.tmp 1)) [],
 Item.mk (some 61) none (AOp.call (Operand.func 30) [Operand.tmp 60]) [],
 Item.mk (some 13) none (AOp.mov (Operand.tmp 61)) []]).seq
 (((ACode.row
 [Item.mk (some 62) none (AOp.mov (Operand.tmp 13)) [],
 Item.mk (some 63) none
 (AOp.bin BinOp.eql 9 Cmp.other (Operand.tmp 62) (Operand.const (Value.string (ByteArray.mk #[]))))
 []]).seq
 (ACode.cond (Operand.tmp 63)
 (ACode.row
 [Item.mk (some 64) none (AOp.mov (Operand.tmp 0)) [],
 Item.mk (some 65) none (AOp.nilc (Operand.tmp 64)) [],
 Item.mk (some 66) none (AOp.fieldA 3 (Operand.tmp 65)) [],
 Item.mk none none
 (AOp.store 1 (Operand.tmp 66) (Operand.const (Value.int IntKind.i64 6))) []])
 ACode.skip)).seq
 ((ACode.row
 [Item.mk (some 67) none (AOp.mov (Operand.tmp 13)) [],
 Item.mk (some 68) none
 (AOp.build
 [V.val (Value.int IntKind.i64 0), V.val (Value.string (ByteArray.mk #[])),
 V.val (Value.int IntKind.i64 0), V.val (Value.int IntKind.i64 0),
 V.val (Value.int IntKind.i64 0)]
 [(0, 1, Operand.const (Value.int IntKind.i64 4)), (1, 1, Operand.tmp 67)])
 [],
 Item.mk (some 69) none (AOp.mov (Operand.tmp 13)) [],
 Item.mk (some 70) none (AOp.len true (Operand.tmp 69)) [],
 Item.mk none none (AOp.store 5 (Operand.tmp 4) (Operand.tmp 68)) [],
 Item.mk (some 5) none (AOp.mov (Operand.tmp 70)) []]).seq
 ACode.ret)))))
theorem F14_ok : compFn Tryd.prog (byId h14) 14 = some F14 := by kernel_rfl
def h15 : List (Nat × List (Nat × List Nat) × List Nat) := []
def F15 : AFn :=
  AFn.mk 21 [ARes.tmp 2]
 ((ACode.row [Item.mk (some 2) none (AOp.mov (Operand.const (Value.bool false))) []]).seq
 ((ACode.row
 [Item.mk (some 3) none (AOp.mov (Operand.tmp 0)) [],
 Item.mk (some 4) none
 (AOp.bin BinOp.geq 5 Cmp.other (Operand.tmp 3) (Operand.const (Value.int IntKind.u8 97)))
 [],
 Item.mk (some 5) none (AOp.mov (Operand.tmp 4)) [],
 Item.mk (some 6) (some (5, true)) (AOp.mov (Operand.tmp 0)) [],
 Item.mk (some 7) (some (5, true))
 (AOp.bin BinOp.leq 5 Cmp.other (Operand.tmp 6) (Operand.const (Value.int IntKind.u8 122)))
 [],
 Item.mk (some 8) none (AOp.pick (Operand.tmp 5) (Operand.tmp 7) (Operand.const (Value.bool false))) [],
 Item.mk (some 9) none (AOp.mov (Operand.tmp 8)) [],
 Item.mk (some 10) (some (9, false)) (AOp.mov (Operand.tmp 0)) [],
 Item.mk (some 11) (some (9, false))
 (AOp.bin BinOp.geq 5 Cmp.other (Operand.tmp 10) (Operand.const (Value.int IntKind.u8 65)))
 [],
 Item.mk (some 12) (some (9, false)) (AOp.mov (Operand.tmp 11)) [],
 Item.mk (some 13) (some (12, true)) (AOp.mov (Operand.tmp 0)) [],
 Item.mk (some 14) (some (12, true))
 (AOp.bin BinOp.leq 5 Cmp.other (Operand.tmp 13) (Operand.const (Value.int IntKind.u8 90)))
 [],
 Item.mk (some 15) (some (9, false))
 (AOp.pick (Operand.tmp 12) (Operand.tmp 14) (Operand.const (Value.bool false))) [],
 Item.mk (some 16) none (AOp.pick (Operand.tmp 9) (Operand.const (Value.bool true)) (Operand.tmp 15)) [],
 Item.mk (some 17) none (AOp.mov (Operand.tmp 16)) [],
 Item.mk (some 18) (some (17, false)) (AOp.mov (Operand.tmp 0)) [],
 Item.mk (some 19) (some (17, false))
 (AOp.bin BinOp.eql 5 Cmp.other (Operand.tmp 18) (Operand.const (Value.int IntKind.u8 95)))
 [],
 Item.mk (some 20) none (AOp.pick (Operand.tmp 17) (Operand.const (Value.bool true)) (Operand.tmp 19)) [],
 Item.mk (some 2) none (AOp.mov (Operand.tmp 20)) []]).seq
 ACode.ret))
theorem F15_ok : compFn Tryd.prog (byId h15) 15 = some F15 := by kernel_rfl
def h16 : List (Nat × List (Nat × List Nat) × List Nat) := []
def F16 : AFn :=
  AFn.mk 9 [ARes.tmp 2]
 ((ACode.row [Item.mk (some 2) none (AOp.mov (Operand.const (Value.bool false))) []]).seq
 ((ACode.row
 [Item.mk (some 3) none (AOp.mov (Operand.tmp 0)) [],
 Item.mk (some 4) none
 (AOp.bin BinOp.geq 5 Cmp.other (Operand.tmp 3) (Operand.const (Value.int IntKind.u8 48)))
 [],
 Item.mk (some 5) none (AOp.mov (Operand.tmp 4)) [],
 Item.mk (some 6) (some (5, true)) (AOp.mov (Operand.tmp 0)) [],
 Item.mk (some 7) (some (5, true))
 (AOp.bin BinOp.leq 5 Cmp.other (Operand.tmp 6) (Operand.const (Value.int IntKind.u8 57)))
 [],
 Item.mk (some 8) none (AOp.pick (Operand.tmp 5) (Operand.tmp 7) (Operand.const (Value.bool false))) [],
 Item.mk (some 2) none (AOp.mov (Operand.tmp 8)) []]).seq
 ACode.ret))
theorem F16_ok : compFn Tryd.prog (byId h16) 16 = some F16 := by kernel_rfl
def h17 : List (Nat × List (Nat × List Nat) × List Nat) := []
def F17 : AFn :=
  AFn.mk 6 [ARes.tmp 2]
 ((ACode.row [Item.mk (some 2) none (AOp.mov (Operand.const (Value.bool false))) []]).seq
 ((ACode.row
 [Item.mk (some 3) none (AOp.call (Operand.func 32) []) [], Item.mk (some 4) none (AOp.mov (Operand.tmp 0)) [],
 Item.mk (some 5) none (AOp.call (Operand.func 31) [Operand.tmp 3, Operand.tmp 4]) [],
 Item.mk (some 2) none (AOp.mov (Operand.tmp 5)) []]).seq
 ACode.ret))
theorem F17_ok : compFn Tryd.prog (byId h17) 17 = some F17 := by kernel_rfl
def h18 : List (Nat × List (Nat × List Nat) × List Nat) := []
def F18 : AFn :=
  AFn.mk 27 [ARes.tmp 2]
 ((ACode.row [Item.mk (some 2) none (AOp.mov (Operand.const (Value.int IntKind.i64 0))) []]).seq
 ((ACode.row [Item.mk (some 3) none (AOp.mov (Operand.const (Value.int IntKind.i64 0))) []]).seq
 (((ACode.row [Item.mk (some 4) none (AOp.mov (Operand.const (Value.int IntKind.i64 0))) []]).seq
 (ACode.block 0
 (((ACode.row
 [Item.mk (some 6) none (AOp.mov (Operand.tmp 4)) [],
 Item.mk (some 7) none (AOp.mov (Operand.tmp 0)) [],
 Item.mk (some 8) none (AOp.len true (Operand.tmp 7)) [],
 Item.mk (some 9) none (AOp.bin BinOp.lss 3 Cmp.other (Operand.tmp 6) (Operand.tmp 8))
 []]).seq
 (ACode.cond (Operand.tmp 9) ACode.skip (ACode.exit 0))).seq
 ((ACode.block 1
 ((ACode.row
 [Item.mk (some 12) none (AOp.mov (Operand.tmp 0)) [],
 Item.mk (some 13) none (AOp.mov (Operand.tmp 4)) [],
 Item.mk (some 14) none (AOp.idxStr (Operand.tmp 12) (Operand.tmp 13)) [],
 Item.mk (some 15) none
 (AOp.bin BinOp.sub 5 Cmp.other (Operand.tmp 14)
 (Operand.const (Value.int IntKind.u8 48)))
 [],
 Item.mk (some 16) none (AOp.conv 5 3 (Operand.tmp 15)) [],
 Item.mk (some 5) none (AOp.mov (Operand.tmp 16)) []]).seq
 (((ACode.row
 [Item.mk (some 17) none (AOp.mov (Operand.tmp 3)) [],
 Item.mk (some 18) none (AOp.mov (Operand.tmp 5)) [],
 Item.mk (some 19) none
 (AOp.bin BinOp.sub 3 Cmp.other
 (Operand.const (Value.int IntKind.i64 9223372036854775807))
 (Operand.tmp 18))
 [],
 Item.mk (some 20) none
 (AOp.bin BinOp.quo 3 Cmp.other (Operand.tmp 19)
 (Operand.const (Value.int IntKind.i64 10)))
 [],
 Item.mk (some 21) none
 (AOp.bin BinOp.gtr 3 Cmp.other (Operand.tmp 17) (Operand.tmp 20)) []]).seq
 (ACode.cond (Operand.tmp 21)
 ((ACode.row
 [Item.mk (some 2) none
 (AOp.mov (Operand.const (Value.int IntKind.i64 (-1)))) []]).seq
 ACode.ret)
 ACode.skip)).seq
 (ACode.row
 [Item.mk (some 22) none (AOp.mov (Operand.tmp 3)) [],
 Item.mk (some 23) none
 (AOp.bin BinOp.mul 3 Cmp.other
 (Operand.const (Value.int IntKind.i64 10)) (Operand.tmp 22))
 [],
 Item.mk (some 24) none (AOp.mov (Operand.tmp 5)) [],
 Item.mk (some 25) none (AOp.bin BinOp.add 3 Cmp.other (Operand.tmp 23) (Operand.tmp 24))
 [],
 Item.mk (some 3) none (AOp.mov (Operand.tmp 25)) []])))).seq
 (ACode.row
 [Item.mk (some 10) none (AOp.mov (Operand.tmp 4)) [],
 Item.mk (some 11) none
 (AOp.bin BinOp.add 3 Cmp.other (Operand.tmp 10)
 (Operand.const (Value.int IntKind.i64 1)))
 [],
 Item.mk (some 4) none (AOp.mov (Operand.tmp 11)) []]))).loop)).seq
 ((ACode.row
 [Item.mk (some 26) none (AOp.mov (Operand.tmp 3)) [],
 Item.mk (some 2) none (AOp.mov (Operand.tmp 26)) []]).seq
 ACode.ret))))
theorem F18_ok : compFn Tryd.prog (byId h18) 18 = some F18 := by kernel_rfl
def h19 : List (Nat × List (Nat × List Nat) × List Nat) := []
def F19 : AFn :=
  AFn.mk 80 [ARes.tmp 4, ARes.tmp 5, ARes.tmp 6]
 ((ACode.row
 [Item.mk (some 4) none (AOp.mov (Operand.const (Value.string (ByteArray.mk #[])))) [],
 Item.mk (some 5) none (AOp.mov (Operand.const (Value.int IntKind.i64 0))) [],
 Item.mk (some 6) none (AOp.mov (Operand.const (Value.int IntKind.i64 0))) []]).seq
 ((ACode.row
 [Item.mk (some 7) none (AOp.mov (Operand.const (Value.slice none 0 0))) []]).seq
 ((ACode.row [Item.mk (some 8) none (AOp.mov (Operand.const (Value.bool false))) []]).seq
 (((ACode.row
 [Item.mk (some 11) none (AOp.mov (Operand.tmp 1)) [],
 Item.mk (some 12) none
 (AOp.bin BinOp.add 3 Cmp.other (Operand.tmp 11)
 (Operand.const (Value.int IntKind.i64 1)))
 [],
 Item.mk (some 9) none (AOp.mov (Operand.tmp 12)) []]).seq
 (ACode.block 0
 (((ACode.row
 [Item.mk (some 13) none (AOp.mov (Operand.tmp 9)) [],
 Item.mk (some 14) none (AOp.mov (Operand.tmp 0)) [],
 Item.mk (some 15) none (AOp.len true (Operand.tmp 14)) [],
 Item.mk (some 16) none (AOp.bin BinOp.lss 3 Cmp.other (Operand.tmp 13) (Operand.tmp 15))
 []]).seq
 (ACode.cond (Operand.tmp 16) ACode.skip (ACode.exit 0))).seq
 ((ACode.block 1
 ((ACode.row
 [Item.mk (some 19) none (AOp.mov (Operand.tmp 0)) [],
 Item.mk (some 20) none (AOp.mov (Operand.tmp 9)) [],
 Item.mk (some 21) none (AOp.idxStr (Operand.tmp 19) (Operand.tmp 20)) [],
 Item.mk (some 10) none (AOp.mov (Operand.tmp 21)) []]).seq
 ((ACode.block 2
 ((ACode.row
 [Item.mk (some 23) none (AOp.mov (Operand.tmp 10)) [],
 Item.mk (some 24) none
 (AOp.bin BinOp.eql 5 Cmp.other (Operand.tmp 23)
 (Operand.const (Value.int IntKind.u8 34)))
 [],
 Item.mk (some 22) none (AOp.mov (Operand.tmp 24)) []]).seq
 (ACode.cond (Operand.tmp 22)
 (((ACode.row [Item.mk (some 25) none (AOp.mov (Operand.tmp 8)) []]).seq
 (ACode.cond (Operand.tmp 25)
 ((ACode.row
 [Item.mk (some 4) none
 (AOp.mov (Operand.const (Value.string (ByteArray.mk #[])))) [],
 Item.mk (some 5) none
 (AOp.mov
 (Operand.const (Value.int IntKind.i64 0)))
 [],
 Item.mk (some 6) none
 (AOp.mov
 (Operand.const (Value.int IntKind.i64 5)))
 []]).seq
 ACode.ret)
 ACode.skip)).seq
 ((ACode.row
 [Item.mk (some 26) none (AOp.mov (Operand.tmp 7)) [],
 Item.mk (some 27) none (AOp.b2s (Operand.tmp 26)) [],
 Item.mk (some 28) none (AOp.mov (Operand.tmp 9)) [],
 Item.mk (some 29) none
 (AOp.bin BinOp.add 3 Cmp.other (Operand.tmp 28)
 (Operand.const (Value.int IntKind.i64 1)))
 [],
 Item.mk (some 4) none (AOp.mov (Operand.tmp 27)) [],
 Item.mk (some 5) none (AOp.mov (Operand.tmp 29)) [],
 Item.mk (some 6) none
 (AOp.mov (Operand.const (Value.int IntKind.i64 0)))
 []]).seq
 ACode.ret))
 ((ACode.row
 [Item.mk (some 31) none (AOp.mov (Operand.tmp 10)) [],
 Item.mk (some 32) none
 (AOp.bin BinOp.lss 5 Cmp.other (Operand.tmp 31)
 (Operand.const (Value.int IntKind.u8 32)))
 [],
 Item.mk (some 33) none (AOp.mov (Operand.tmp 32)) [],
 Item.mk (some 34) (some (33, false)) (AOp.mov (Operand.tmp 10)) [],
 Item.mk (some 35) (some (33, false))
 (AOp.bin BinOp.gtr 5 Cmp.other (Operand.tmp 34)
 (Operand.const (Value.int IntKind.u8 126)))
 [],
 Item.mk (some 36) none
 (AOp.pick (Operand.tmp 33) (Operand.const (Value.bool true))
 (Operand.tmp 35))
 [],
 Item.mk (some 30) none (AOp.mov (Operand.tmp 36)) []]).seq
 (ACode.cond (Operand.tmp 30)
 ((ACode.row
 [Item.mk (some 4) none
 (AOp.mov (Operand.const (Value.string (ByteArray.mk #[])))) [],
 Item.mk (some 5) none
 (AOp.mov (Operand.const (Value.int IntKind.i64 0)))
 [],
 Item.mk (some 6) none
 (AOp.mov (Operand.const (Value.int IntKind.i64 6)))
 []]).seq
 ACode.ret)
 ((ACode.row
 [Item.mk (some 38) none (AOp.mov (Operand.tmp 10)) [],
 Item.mk (some 39) none
 (AOp.bin BinOp.eql 5 Cmp.other (Operand.tmp 38)
 (Operand.const (Value.int IntKind.u8 92)))
 [],
 Item.mk (some 37) none (AOp.mov (Operand.tmp 39)) []]).seq
 (ACode.cond (Operand.tmp 37)
 ((ACode.row
 [Item.mk (some 40) none (AOp.mov (Operand.tmp 9)) [],
 Item.mk (some 41) none
 (AOp.bin BinOp.add 3 Cmp.other (Operand.tmp 40)
 (Operand.const (Value.int IntKind.i64 1)))
 [],
 Item.mk (some 9) none (AOp.mov (Operand.tmp 41)) []]).seq
 (((ACode.row
 [Item.mk (some 42) none (AOp.mov (Operand.tmp 9)) [],
 Item.mk (some 43) none (AOp.mov (Operand.tmp 0)) [],
 Item.mk (some 44) none (AOp.len true (Operand.tmp 43)) [],
 Item.mk (some 45) none
 (AOp.bin BinOp.eql 3 Cmp.other (Operand.tmp 42)
 (Operand.tmp 44))
 [],
 Item.mk (some 46) none (AOp.mov (Operand.tmp 45)) [],
 Item.mk (some 47) (some (46, false))
 (AOp.mov (Operand.tmp 0)) [],
 Item.mk (some 48) (some (46, false))
 (AOp.mov (Operand.tmp 9)) [],
 Item.mk (some 49) (some (46, false))
 (AOp.idxStr (Operand.tmp 47) (Operand.tmp 48)) [],
 Item.mk (some 50) (some (46, false))
 (AOp.bin BinOp.neq 5 Cmp.other (Operand.tmp 49)
 (Operand.const (Value.int IntKind.u8 92)))
 [],
 Item.mk (some 51) (some (46, false))
 (AOp.mov (Operand.tmp 50)) [],
 Item.mk (some 52) (some (51, true))
 (AOp.mov (Operand.tmp 0)) [],
 Item.mk (some 53) (some (51, true))
 (AOp.mov (Operand.tmp 9)) [],
 Item.mk (some 54) (some (51, true))
 (AOp.idxStr (Operand.tmp 52) (Operand.tmp 53)) [],
 Item.mk (some 55) (some (51, true))
 (AOp.bin BinOp.neq 5 Cmp.other (Operand.tmp 54)
 (Operand.const (Value.int IntKind.u8 34)))
 [],
 Item.mk (some 56) (some (46, false))
 (AOp.pick (Operand.tmp 51) (Operand.tmp 55)
 (Operand.const (Value.bool false)))
 [],
 Item.mk (some 57) (some (46, false))
 (AOp.mov (Operand.tmp 56)) [],
 Item.mk (some 58) (some (57, true))
 (AOp.mov (Operand.tmp 0)) [],
 Item.mk (some 59) (some (57, true))
 (AOp.mov (Operand.tmp 9)) [],
 Item.mk (some 60) (some (57, true))
 (AOp.idxStr (Operand.tmp 58) (Operand.tmp 59)) [],
 Item.mk (some 61) (some (57, true))
 (AOp.bin BinOp.neq 5 Cmp.other (Operand.tmp 60)
 (Operand.const
 (Value.int IntKind.u8 110)))
 [],
 Item.mk (some 62) (some (46, false))
 (AOp.pick (Operand.tmp 57) (Operand.tmp 61)
 (Operand.const (Value.bool false)))
 [],
 Item.mk (some 63) none
 (AOp.pick (Operand.tmp 46)
 (Operand.const (Value.bool true)) (Operand.tmp 62))
 []]).seq
 (ACode.cond (Operand.tmp 63)
 ((ACode.row
 [Item.mk (some 4) none
 (AOp.mov
 (Operand.const (Value.string (ByteArray.mk #[]))))
 [],
 Item.mk (some 5) none
 (AOp.mov
 (Operand.const
 (Value.int IntKind.i64 0)))
 [],
 Item.mk (some 6) none
 (AOp.mov
 (Operand.const
 (Value.int IntKind.i64 6)))
 []]).seq
 ACode.ret)
 ACode.skip)).seq
 ((ACode.row
 [Item.mk (some 64) none (AOp.mov (Operand.tmp 0)) [],
 Item.mk (some 65) none (AOp.mov (Operand.tmp 9)) [],
 Item.mk (some 66) none
 (AOp.idxStr (Operand.tmp 64) (Operand.tmp 65)) [],
 Item.mk (some 10) none (AOp.mov (Operand.tmp 66)) []]).seq
 ((ACode.row
 [Item.mk (some 67) none (AOp.mov (Operand.tmp 10)) [],
 Item.mk (some 68) none
 (AOp.bin BinOp.eql 5 Cmp.other (Operand.tmp 67)
 (Operand.const
 (Value.int IntKind.u8 110)))
 []]).seq
 (ACode.cond (Operand.tmp 68)
 (ACode.row
 [Item.mk (some 10) none
 (AOp.mov
 (Operand.const (Value.int IntKind.u8 10)))
 []])
 ACode.skip)))))
 ACode.skip))))))).seq
 ((ACode.row
 [Item.mk (some 69) none (AOp.mov (Operand.tmp 7)) [],
 Item.mk (some 70) none (AOp.mov (Operand.tmp 10)) [],
 Item.mk (some 71) none
 (AOp.lits 1 [V.val (Value.int IntKind.u8 0)] 1
 [(0, Operand.tmp 70)])
 [],
 Item.mk (some 72) none (AOp.app 5 1 1 (Operand.tmp 69) (Operand.tmp 71)) [],
 Item.mk (some 7) none (AOp.mov (Operand.tmp 72)) []]).seq
 ((ACode.row
 [Item.mk (some 73) none (AOp.mov (Operand.tmp 8)) [],
 Item.mk (some 74) none (AOp.mov (Operand.tmp 73)) [],
 Item.mk (some 75) (some (74, false)) (AOp.mov (Operand.tmp 7)) [],
 Item.mk (some 76) (some (74, false)) (AOp.len false (Operand.tmp 75)) [],
 Item.mk (some 77) (some (74, false))
 (AOp.bin BinOp.gtr 3 Cmp.other (Operand.tmp 76)
 (Operand.const (Value.int IntKind.i64 255)))
 [],
 Item.mk (some 78) none
 (AOp.pick (Operand.tmp 74) (Operand.const (Value.bool true)) (Operand.tmp 77))
 [],
 Item.mk (some 8) none (AOp.mov (Operand.tmp 78)) []]).seq
 ((ACode.row [Item.mk (some 79) none (AOp.mov (Operand.tmp 8)) []]).seq
 (ACode.cond (Operand.tmp 79)
 ((ACode.row
 [Item.mk (some 4) none
 (AOp.mov (Operand.const (Value.string (ByteArray.mk #[])))) [],
 Item.mk (some 5) none
 (AOp.mov (Operand.const (Value.int IntKind.i64 0))) [],
 Item.mk (some 6) none
 (AOp.mov (Operand.const (Value.int IntKind.i64 5)))
 []]).seq
 ACode.ret)
 ACode.skip))))))).seq
 (ACode.row
 [Item.mk (some 17) none (AOp.mov (Operand.tmp 9)) [],
 Item.mk (some 18) none
 (AOp.bin BinOp.add 3 Cmp.other (Operand.tmp 17)
 (Operand.const (Value.int IntKind.i64 1)))
 [],
 Item.mk (some 9) none (AOp.mov (Operand.tmp 18)) []]))).loop)).seq
 ((ACode.row
 [Item.mk (some 4) none (AOp.mov (Operand.const (Value.string (ByteArray.mk #[])))) [],
 Item.mk (some 5) none (AOp.mov (Operand.const (Value.int IntKind.i64 0))) [],
 Item.mk (some 6) none (AOp.mov (Operand.const (Value.int IntKind.i64 6))) []]).seq
 ACode.ret)))))
theorem F19_ok : compFn Tryd.prog (byId h19) 19 = some F19 := by kernel_rfl
def h20 : List (Nat × List (Nat × List Nat) × List Nat) := []
def F20 : AFn :=
  AFn.mk 2 [ARes.tmp 0]
 ((ACode.row
 [Item.mk (some 0) none (AOp.mov (Operand.const (Value.slice none 0 0))) []]).seq
 ((ACode.row
 [Item.mk (some 1) none
 (AOp.lits 1 [V.val (Value.string (ByteArray.mk #[]))] 25
 [(0, Operand.const (Value.string (ByteArray.mk #[61, 61]))),
 (1, Operand.const (Value.string (ByteArray.mk #[33, 61]))),
 (2, Operand.const (Value.string (ByteArray.mk #[60, 61]))),
 (3, Operand.const (Value.string (ByteArray.mk #[62, 61]))),
 (4, Operand.const (Value.string (ByteArray.mk #[38, 38]))),
 (5, Operand.const (Value.string (ByteArray.mk #[124, 124]))),
 (6, Operand.const (Value.string (ByteArray.mk #[40]))),
 (7, Operand.const (Value.string (ByteArray.mk #[41]))),
 (8, Operand.const (Value.string (ByteArray.mk #[123]))),
 (9, Operand.const (Value.string (ByteArray.mk #[125]))),
 (10, Operand.const (Value.string (ByteArray.mk #[91]))),
 (11, Operand.const (Value.string (ByteArray.mk #[93]))),
 (12, Operand.const (Value.string (ByteArray.mk #[44]))),
 (13, Operand.const (Value.string (ByteArray.mk #[58]))),
 (14, Operand.const (Value.string (ByteArray.mk #[59]))),
 (15, Operand.const (Value.string (ByteArray.mk #[46]))),
 (16, Operand.const (Value.string (ByteArray.mk #[61]))),
 (17, Operand.const (Value.string (ByteArray.mk #[60]))),
 (18, Operand.const (Value.string (ByteArray.mk #[62]))),
 (19, Operand.const (Value.string (ByteArray.mk #[43]))),
 (20, Operand.const (Value.string (ByteArray.mk #[45]))),
 (21, Operand.const (Value.string (ByteArray.mk #[42]))),
 (22, Operand.const (Value.string (ByteArray.mk #[47]))),
 (23, Operand.const (Value.string (ByteArray.mk #[37]))),
 (24, Operand.const (Value.string (ByteArray.mk #[33])))])
 [],
 Item.mk (some 0) none (AOp.mov (Operand.tmp 1)) []]).seq
 ACode.ret))
theorem F20_ok : compFn Tryd.prog (byId h20) 20 = some F20 := by kernel_rfl
def h21 : List (Nat × List (Nat × List Nat) × List Nat) := []
def F21 : AFn :=
  AFn.mk 8 [ARes.tmp 4]
 ((ACode.row [Item.mk (some 4) none (AOp.mov (Operand.const (Value.bool false))) []]).seq
 ((ACode.row
 [Item.mk (some 5) none (AOp.mov (Operand.tmp 0)) [], Item.mk (some 6) none (AOp.mov (Operand.tmp 1)) [],
 Item.mk (some 7) none (AOp.call (Operand.func 33) [Operand.tmp 5, Operand.tmp 6]) [],
 Item.mk (some 4) none (AOp.mov (Operand.tmp 7)) []]).seq
 ACode.ret))
theorem F21_ok : compFn Tryd.prog (byId h21) 21 = some F21 := by kernel_rfl
def h22 : List (Nat × List (Nat × List Nat) × List Nat) := []
def F22 : AFn :=
  AFn.mk 20 [ARes.tmp 4]
 ((ACode.row [Item.mk (some 4) none (AOp.mov (Operand.const (Value.int IntKind.i64 0))) []]).seq
 ((ACode.row [Item.mk (some 5) none (AOp.mov (Operand.const (Value.int IntKind.i64 0))) []]).seq
 ((ACode.block 0
 (((ACode.row
 [Item.mk (some 6) none (AOp.mov (Operand.tmp 5)) [],
 Item.mk (some 7) none (AOp.mov (Operand.tmp 0)) [],
 Item.mk (some 8) none (AOp.len true (Operand.tmp 7)) [],
 Item.mk (some 9) none (AOp.bin BinOp.lss 3 Cmp.other (Operand.tmp 6) (Operand.tmp 8)) [],
 Item.mk (some 10) none (AOp.mov (Operand.tmp 9)) [],
 Item.mk (some 11) (some (10, true)) (AOp.mov (Operand.tmp 1)) [],
 Item.mk (some 12) (some (10, true)) (AOp.mov (Operand.tmp 0)) [],
 Item.mk (some 13) (some (10, true)) (AOp.mov (Operand.tmp 5)) [],
 Item.mk (some 14) (some (10, true)) (AOp.idxStr (Operand.tmp 12) (Operand.tmp 13)) [],
 Item.mk (some 15) (some (10, true)) (AOp.call (Operand.tmp 11) [Operand.tmp 14]) [],
 Item.mk (some 16) none
 (AOp.pick (Operand.tmp 10) (Operand.tmp 15) (Operand.const (Value.bool false))) []]).seq
 (ACode.cond (Operand.tmp 16) ACode.skip (ACode.exit 0))).seq
 (ACode.block 1
 (ACode.row
 [Item.mk (some 17) none (AOp.mov (Operand.tmp 5)) [],
 Item.mk (some 18) none
 (AOp.bin BinOp.add 3 Cmp.other (Operand.tmp 17)
 (Operand.const (Value.int IntKind.i64 1)))
 [],
 Item.mk (some 5) none (AOp.mov (Operand.tmp 18)) []]))).loop).seq
 ((ACode.row
 [Item.mk (some 19) none (AOp.mov (Operand.tmp 5)) [],
 Item.mk (some 4) none (AOp.mov (Operand.tmp 19)) []]).seq
 ACode.ret))))
theorem F22_ok : compFn Tryd.prog (byId h22) 22 = some F22 := by kernel_rfl
def h23 : List (Nat × List (Nat × List Nat) × List Nat) := []
def F23 : AFn :=
  AFn.mk 5 [ARes.tmp 2]
 ((ACode.row [Item.mk (some 2) none (AOp.mov (Operand.const (Value.bool false))) []]).seq
 ((ACode.row
 [Item.mk (some 3) none (AOp.mov (Operand.tmp 0)) [],
 Item.mk (some 4) none
 (AOp.bin BinOp.neq 5 Cmp.other (Operand.tmp 3) (Operand.const (Value.int IntKind.u8 10)))
 [],
 Item.mk (some 2) none (AOp.mov (Operand.tmp 4)) []]).seq
 ACode.ret))
theorem F23_ok : compFn Tryd.prog (byId h23) 23 = some F23 := by kernel_rfl
def h24 : List (Nat × List (Nat × List Nat) × List Nat) := []
def F24 : AFn :=
  AFn.mk 15 [ARes.tmp 2]
 ((ACode.row [Item.mk (some 2) none (AOp.mov (Operand.const (Value.bool false))) []]).seq
 ((ACode.row
 [Item.mk (some 3) none (AOp.mov (Operand.tmp 0)) [],
 Item.mk (some 4) none
 (AOp.bin BinOp.or 5 Cmp.other (Operand.tmp 3) (Operand.const (Value.int IntKind.u8 32))) [],
 Item.mk (some 5) none
 (AOp.bin BinOp.geq 5 Cmp.other (Operand.tmp 4) (Operand.const (Value.int IntKind.u8 97)))
 [],
 Item.mk (some 6) none (AOp.mov (Operand.tmp 5)) [],
 Item.mk (some 7) (some (6, true)) (AOp.mov (Operand.tmp 0)) [],
 Item.mk (some 8) (some (6, true))
 (AOp.bin BinOp.or 5 Cmp.other (Operand.tmp 7) (Operand.const (Value.int IntKind.u8 32))) [],
 Item.mk (some 9) (some (6, true))
 (AOp.bin BinOp.leq 5 Cmp.other (Operand.tmp 8) (Operand.const (Value.int IntKind.u8 122)))
 [],
 Item.mk (some 10) none (AOp.pick (Operand.tmp 6) (Operand.tmp 9) (Operand.const (Value.bool false))) [],
 Item.mk (some 11) none (AOp.mov (Operand.tmp 10)) [],
 Item.mk (some 12) (some (11, false)) (AOp.mov (Operand.tmp 0)) [],
 Item.mk (some 13) (some (11, false))
 (AOp.bin BinOp.eql 5 Cmp.other (Operand.tmp 12) (Operand.const (Value.int IntKind.u8 95)))
 [],
 Item.mk (some 14) none (AOp.pick (Operand.tmp 11) (Operand.const (Value.bool true)) (Operand.tmp 13)) [],
 Item.mk (some 2) none (AOp.mov (Operand.tmp 14)) []]).seq
 ACode.ret))
theorem F24_ok : compFn Tryd.prog (byId h24) 24 = some F24 := by kernel_rfl
def h25 : List (Nat × List (Nat × List Nat) × List Nat) := []
def F25 : AFn :=
  AFn.mk 9 [ARes.tmp 2]
 ((ACode.row [Item.mk (some 2) none (AOp.mov (Operand.const (Value.bool false))) []]).seq
 ((ACode.row
 [Item.mk (some 3) none (AOp.mov (Operand.tmp 0)) [],
 Item.mk (some 4) none (AOp.call (Operand.func 24) [Operand.tmp 3]) [],
 Item.mk (some 5) none (AOp.mov (Operand.tmp 4)) [],
 Item.mk (some 6) (some (5, false)) (AOp.mov (Operand.tmp 0)) [],
 Item.mk (some 7) (some (5, false)) (AOp.call (Operand.func 26) [Operand.tmp 6]) [],
 Item.mk (some 8) none (AOp.pick (Operand.tmp 5) (Operand.const (Value.bool true)) (Operand.tmp 7)) [],
 Item.mk (some 2) none (AOp.mov (Operand.tmp 8)) []]).seq
 ACode.ret))
theorem F25_ok : compFn Tryd.prog (byId h25) 25 = some F25 := by kernel_rfl
def h26 : List (Nat × List (Nat × List Nat) × List Nat) := []
def F26 : AFn :=
  AFn.mk 9 [ARes.tmp 2]
 ((ACode.row [Item.mk (some 2) none (AOp.mov (Operand.const (Value.bool false))) []]).seq
 ((ACode.row
 [Item.mk (some 3) none (AOp.mov (Operand.tmp 0)) [],
 Item.mk (some 4) none
 (AOp.bin BinOp.geq 5 Cmp.other (Operand.tmp 3) (Operand.const (Value.int IntKind.u8 48)))
 [],
 Item.mk (some 5) none (AOp.mov (Operand.tmp 4)) [],
 Item.mk (some 6) (some (5, true)) (AOp.mov (Operand.tmp 0)) [],
 Item.mk (some 7) (some (5, true))
 (AOp.bin BinOp.leq 5 Cmp.other (Operand.tmp 6) (Operand.const (Value.int IntKind.u8 57)))
 [],
 Item.mk (some 8) none (AOp.pick (Operand.tmp 5) (Operand.tmp 7) (Operand.const (Value.bool false))) [],
 Item.mk (some 2) none (AOp.mov (Operand.tmp 8)) []]).seq
 ACode.ret))
theorem F26_ok : compFn Tryd.prog (byId h26) 26 = some F26 := by kernel_rfl
def h27 : List (Nat × List (Nat × List Nat) × List Nat) := []
def F27 : AFn :=
  AFn.mk 18 [ARes.cell 4 (some 5)]
 ((ACode.row
 [Item.mk (some 4) none
 (AOp.alloc 33
 [V.val (Value.int IntKind.i64 0), V.val (Value.string (ByteArray.mk #[])),
 V.val (Value.int IntKind.i64 0), V.val (Value.int IntKind.i64 0),
 V.val (Value.int IntKind.i64 0)])
 []]).seq
 (((ACode.row
 [Item.mk (some 5) none (AOp.mov (Operand.tmp 1)) [],
 Item.mk (some 6) none (AOp.call (Operand.func 11) [Operand.tmp 5]) []]).seq
 (ACode.cond (Operand.tmp 6)
 ((ACode.row
 [Item.mk (some 7) none (AOp.mov (Operand.tmp 1)) [],
 Item.mk (some 8) none
 (AOp.build
 [V.val (Value.int IntKind.i64 0), V.val (Value.string (ByteArray.mk #[])),
 V.val (Value.int IntKind.i64 0), V.val (Value.int IntKind.i64 0),
 V.val (Value.int IntKind.i64 0)]
 [(0, 1, Operand.const (Value.int IntKind.i64 5)), (1, 1, Operand.tmp 7)])
 [],
 Item.mk none none (AOp.store 5 (Operand.tmp 4) (Operand.tmp 8)) []]).seq
 ACode.ret)
 ACode.skip)).seq
 (((ACode.row
 [Item.mk (some 9) none (AOp.mov (Operand.tmp 1)) [],
 Item.mk (some 10) none (AOp.len true (Operand.tmp 9)) [],
 Item.mk (some 11) none
 (AOp.bin BinOp.gtr 3 Cmp.other (Operand.tmp 10)
 (Operand.const (Value.int IntKind.i64 20)))
 []]).seq
 (ACode.cond (Operand.tmp 11)
 (ACode.row
 [Item.mk (some 12) none (AOp.mov (Operand.tmp 0)) [],
 Item.mk (some 13) none (AOp.nilc (Operand.tmp 12)) [],
 Item.mk (some 14) none (AOp.fieldA 3 (Operand.tmp 13)) [],
 Item.mk none none
 (AOp.store 1 (Operand.tmp 14) (Operand.const (Value.int IntKind.i64 5))) []])
 ACode.skip)).seq
 ((ACode.row
 [Item.mk (some 15) none (AOp.mov (Operand.tmp 1)) [],
 Item.mk (some 16) none (AOp.call (Operand.func 34) [Operand.tmp 15]) [],
 Item.mk (some 17) none
 (AOp.build
 [V.val (Value.int IntKind.i64 0), V.val (Value.string (ByteArray.mk #[])),
 V.val (Value.int IntKind.i64 0), V.val (Value.int IntKind.i64 0),
 V.val (Value.int IntKind.i64 0)]
 [(0, 1, Operand.const (Value.int IntKind.i64 1)), (1, 1, Operand.tmp 16)])
 [],
 Item.mk none none (AOp.store 5 (Operand.tmp 4) (Operand.tmp 17)) []]).seq
 ACode.ret))))
theorem F27_ok : compFn Tryd.prog (byId h27) 27 = some F27 := by kernel_rfl
def h29 : List (Nat × List (Nat × List Nat) × List Nat) := []
def F29 : AFn :=
  AFn.mk 59 [ARes.tmp 4, ARes.tmp 5]
 ((ACode.row
 [Item.mk (some 4) none (AOp.mov (Operand.const (Value.string (ByteArray.mk #[])))) [],
 Item.mk (some 5) none (AOp.mov (Operand.const (Value.int IntKind.i64 0))) []]).seq
 ((ACode.row [Item.mk (some 6) none (AOp.alloc 67 [V.val (Value.pointer none), V.sl [] [] Tok.full]) []]).seq
 (((ACode.row [Item.mk (some 7) none (AOp.mov (Operand.const (Value.int IntKind.i64 0))) []]).seq
 (ACode.block 0
 (((ACode.row
 [Item.mk (some 9) none (AOp.mov (Operand.tmp 7)) [],
 Item.mk (some 10) none (AOp.mov (Operand.tmp 1)) [],
 Item.mk (some 11) none (AOp.len true (Operand.tmp 10)) [],
 Item.mk (some 12) none (AOp.bin BinOp.lss 3 Cmp.other (Operand.tmp 9) (Operand.tmp 11))
 []]).seq
 (ACode.cond (Operand.tmp 12) ACode.skip (ACode.exit 0))).seq
 ((ACode.block 1
 ((ACode.row
 [Item.mk (some 15) none (AOp.mov (Operand.tmp 1)) [],
 Item.mk (some 16) none (AOp.mov (Operand.tmp 7)) [],
 Item.mk (some 17) none (AOp.idxStr (Operand.tmp 15) (Operand.tmp 16)) [],
 Item.mk (some 8) none (AOp.mov (Operand.tmp 17)) []]).seq
 (((ACode.row
 [Item.mk (some 18) none (AOp.mov (Operand.tmp 8)) [],
 Item.mk (some 19) none
 (AOp.bin BinOp.eql 5 Cmp.other (Operand.tmp 18)
 (Operand.const (Value.int IntKind.u8 34)))
 []]).seq
 (ACode.cond (Operand.tmp 19)
 ((ACode.row
 [Item.mk (some 20) none (AOp.call (Operand.func 37) [Operand.tmp 6]) [],
 Item.mk (some 21) none (AOp.mov (Operand.tmp 7)) [],
 Item.mk (some 22) none
 (AOp.bin BinOp.add 3 Cmp.other (Operand.tmp 21)
 (Operand.const (Value.int IntKind.i64 2)))
 [],
 Item.mk (some 4) none (AOp.mov (Operand.tmp 20)) [],
 Item.mk (some 5) none (AOp.mov (Operand.tmp 22)) []]).seq
 ACode.ret)
 ACode.skip)).seq
 (((ACode.row
 [Item.mk (some 23) none (AOp.mov (Operand.tmp 8)) [],
 Item.mk (some 24) none
 (AOp.bin BinOp.lss 5 Cmp.other (Operand.tmp 23)
 (Operand.const (Value.int IntKind.u8 32)))
 [],
 Item.mk (some 25) none (AOp.mov (Operand.tmp 24)) [],
 Item.mk (some 26) (some (25, false)) (AOp.mov (Operand.tmp 8)) [],
 Item.mk (some 27) (some (25, false))
 (AOp.bin BinOp.gtr 5 Cmp.other (Operand.tmp 26)
 (Operand.const (Value.int IntKind.u8 126)))
 [],
 Item.mk (some 28) none
 (AOp.pick (Operand.tmp 25) (Operand.const (Value.bool true)) (Operand.tmp 27))
 []]).seq
 (ACode.cond (Operand.tmp 28) (ACode.exit 0) ACode.skip)).seq
 (((ACode.row
 [Item.mk (some 29) none (AOp.mov (Operand.tmp 8)) [],
 Item.mk (some 30) none
 (AOp.bin BinOp.eql 5 Cmp.other (Operand.tmp 29)
 (Operand.const (Value.int IntKind.u8 92)))
 []]).seq
 (ACode.cond (Operand.tmp 30)
 (((ACode.row
 [Item.mk (some 31) none (AOp.mov (Operand.tmp 7)) [],
 Item.mk (some 32) none
 (AOp.bin BinOp.add 3 Cmp.other (Operand.tmp 31)
 (Operand.const (Value.int IntKind.i64 1)))
 [],
 Item.mk (some 7) none (AOp.mov (Operand.tmp 32)) []]).seq
 ((ACode.row
 [Item.mk (some 33) none (AOp.mov (Operand.tmp 7)) [],
 Item.mk (some 34) none (AOp.mov (Operand.tmp 1)) [],
 Item.mk (some 35) none (AOp.len true (Operand.tmp 34)) [],
 Item.mk (some 36) none
 (AOp.bin BinOp.eql 3 Cmp.other (Operand.tmp 33) (Operand.tmp 35))
 [],
 Item.mk (some 37) none (AOp.mov (Operand.tmp 36)) [],
 Item.mk (some 38) (some (37, false)) (AOp.mov (Operand.tmp 1)) [],
 Item.mk (some 39) (some (37, false)) (AOp.mov (Operand.tmp 7)) [],
 Item.mk (some 40) (some (37, false))
 (AOp.idxStr (Operand.tmp 38) (Operand.tmp 39)) [],
 Item.mk (some 41) (some (37, false))
 (AOp.call (Operand.func 38)
 [Operand.const
 (Value.string
 (ByteArray.mk
 #[92, 34, 110])),
 Operand.tmp 40])
 [],
 Item.mk (some 42) (some (37, false))
 (AOp.bin BinOp.lss 3 Cmp.other (Operand.tmp 41)
 (Operand.const (Value.int IntKind.i64 0)))
 [],
 Item.mk (some 43) none
 (AOp.pick (Operand.tmp 37) (Operand.const (Value.bool true))
 (Operand.tmp 42))
 []]).seq
 (ACode.cond (Operand.tmp 43) (ACode.exit 0) ACode.skip))).seq
 ((ACode.row
 [Item.mk (some 44) none (AOp.mov (Operand.tmp 1)) [],
 Item.mk (some 45) none (AOp.mov (Operand.tmp 7)) [],
 Item.mk (some 46) none (AOp.idxStr (Operand.tmp 44) (Operand.tmp 45))
 [],
 Item.mk (some 8) none (AOp.mov (Operand.tmp 46)) []]).seq
 ((ACode.row
 [Item.mk (some 47) none (AOp.mov (Operand.tmp 8)) [],
 Item.mk (some 48) none
 (AOp.bin BinOp.eql 5 Cmp.other (Operand.tmp 47)
 (Operand.const (Value.int IntKind.u8 110)))
 []]).seq
 (ACode.cond (Operand.tmp 48)
 (ACode.row
 [Item.mk (some 8) none
 (AOp.mov (Operand.const (Value.int IntKind.u8 10)))
 []])
 ACode.skip))))
 ACode.skip)).seq
 (((ACode.row
 [Item.mk (some 49) none (AOp.call (Operand.func 39) [Operand.tmp 6]) [],
 Item.mk (some 50) none
 (AOp.bin BinOp.eql 3 Cmp.other (Operand.tmp 49)
 (Operand.const (Value.int IntKind.i64 255)))
 []]).seq
 (ACode.cond (Operand.tmp 50)
 ((ACode.row
 [Item.mk (some 51) none (AOp.mov (Operand.tmp 0)) [],
 Item.mk (some 52) none (AOp.nilc (Operand.tmp 51)) [],
 Item.mk (some 53) none (AOp.fieldA 3 (Operand.tmp 52)) [],
 Item.mk none none
 (AOp.store 1 (Operand.tmp 53)
 (Operand.const (Value.int IntKind.i64 5)))
 []]).seq
 ((ACode.row
 [Item.mk (some 4) none
 (AOp.mov (Operand.const (Value.string (ByteArray.mk #[])))) [],
 Item.mk (some 5) none
 (AOp.mov (Operand.const (Value.int IntKind.i64 0)))
 []]).seq
 ACode.ret))
 ACode.skip)).seq
 (ACode.row
 [Item.mk (some 54) none (AOp.mov (Operand.tmp 8)) [],
 Item.mk (some 55) none
 (AOp.call (Operand.func 40) [Operand.tmp 6, Operand.tmp 54]) []]))))))).seq
 (ACode.row
 [Item.mk (some 13) none (AOp.mov (Operand.tmp 7)) [],
 Item.mk (some 14) none
 (AOp.bin BinOp.add 3 Cmp.other (Operand.tmp 13)
 (Operand.const (Value.int IntKind.i64 1)))
 [],
 Item.mk (some 7) none (AOp.mov (Operand.tmp 14)) []]))).loop)).seq
 ((ACode.row
 [Item.mk (some 56) none (AOp.mov (Operand.tmp 0)) [],
 Item.mk (some 57) none (AOp.nilc (Operand.tmp 56)) [],
 Item.mk (some 58) none (AOp.fieldA 3 (Operand.tmp 57)) [],
 Item.mk none none (AOp.store 1 (Operand.tmp 58) (Operand.const (Value.int IntKind.i64 6)))
 []]).seq
 ((ACode.row
 [Item.mk (some 4) none (AOp.mov (Operand.const (Value.string (ByteArray.mk #[])))) [],
 Item.mk (some 5) none (AOp.mov (Operand.const (Value.int IntKind.i64 0))) []]).seq
 ACode.ret)))))
theorem F29_ok : compFn Tryd.prog (byId h29) 29 = some F29 := by kernel_rfl
def h30 : List (Nat × List (Nat × List Nat) × List Nat) := []
def F30 : AFn :=
  AFn.mk 16 [ARes.tmp 2]
 ((ACode.row [Item.mk (some 2) none (AOp.mov (Operand.const (Value.string (ByteArray.mk #[])))) []]).seq
 (((ACode.row [Item.mk (some 4) none (AOp.mov (Operand.const (Value.int IntKind.i64 0))) []]).seq
 (ACode.block 0
 ((ACode.row
 [Item.mk (some 5) none
 (AOp.bin BinOp.lss 3 Cmp.other (Operand.tmp 4)
 (Operand.const (Value.int IntKind.i64 25)))
 []]).seq
 ((ACode.cond (Operand.tmp 5) ACode.skip (ACode.exit 0)).seq
 ((ACode.block 1
 ((ACode.row
 [Item.mk (some 6) none (AOp.mov (Operand.tmp 4)) [],
 Item.mk (some 3) none (AOp.mov (Operand.tmp 6)) []]).seq
 ((ACode.row
 [Item.mk (some 7) none (AOp.mov (Operand.tmp 0)) [],
 Item.mk (some 8) none (AOp.mov (Operand.tmp 3)) [],
 Item.mk (some 9) none (AOp.idxA 25 1 (Operand.global 1) (Operand.tmp 8)) [],
 Item.mk (some 10) none (AOp.load none (Operand.tmp 9)) [],
 Item.mk (some 11) none (AOp.call (Operand.func 21) [Operand.tmp 7, Operand.tmp 10])
 []]).seq
 (ACode.cond (Operand.tmp 11)
 ((ACode.row
 [Item.mk (some 12) none (AOp.mov (Operand.tmp 3)) [],
 Item.mk (some 13) none (AOp.idxA 25 1 (Operand.global 1) (Operand.tmp 12)) [],
 Item.mk (some 14) none (AOp.load none (Operand.tmp 13)) [],
 Item.mk (some 2) none (AOp.mov (Operand.tmp 14)) []]).seq
 ACode.ret)
 ACode.skip)))).seq
 (ACode.row
 [Item.mk (some 15) none
 (AOp.bin BinOp.add 3 Cmp.other (Operand.tmp 4)
 (Operand.const (Value.int IntKind.i64 1)))
 [],
 Item.mk (some 4) none (AOp.mov (Operand.tmp 15)) []])))).loop)).seq
 ((ACode.row [Item.mk (some 2) none (AOp.mov (Operand.const (Value.string (ByteArray.mk #[])))) []]).seq
 ACode.ret)))
theorem F30_ok : compFn Tryd.prog (byId h30) 30 = some F30 := by kernel_rfl
def h31 : List (Nat × List (Nat × List Nat) × List Nat) := []
def F31 : AFn :=
  AFn.mk 18 [ARes.tmp 4]
 ((ACode.row [Item.mk (some 4) none (AOp.mov (Operand.const (Value.bool false))) []]).seq
 (((ACode.row [Item.mk (some 5) none (AOp.mov (Operand.const (Value.int IntKind.i64 0))) []]).seq
 (ACode.block 0
 (((ACode.row
 [Item.mk (some 6) none (AOp.mov (Operand.tmp 5)) [],
 Item.mk (some 7) none (AOp.mov (Operand.tmp 0)) [],
 Item.mk (some 8) none (AOp.len false (Operand.tmp 7)) [],
 Item.mk (some 9) none (AOp.bin BinOp.lss 3 Cmp.other (Operand.tmp 6) (Operand.tmp 8)) []]).seq
 (ACode.cond (Operand.tmp 9) ACode.skip (ACode.exit 0))).seq
 ((ACode.block 1
 ((ACode.row
 [Item.mk (some 12) none (AOp.mov (Operand.tmp 0)) [],
 Item.mk (some 13) none (AOp.mov (Operand.tmp 5)) [],
 Item.mk (some 14) none (AOp.idxL 1 (Operand.tmp 12) (Operand.tmp 13)) [],
 Item.mk (some 15) none (AOp.load none (Operand.tmp 14)) [],
 Item.mk (some 16) none (AOp.mov (Operand.tmp 1)) [],
 Item.mk (some 17) none (AOp.bin BinOp.eql 9 Cmp.other (Operand.tmp 15) (Operand.tmp 16))
 []]).seq
 (ACode.cond (Operand.tmp 17)
 ((ACode.row [Item.mk (some 4) none (AOp.mov (Operand.const (Value.bool true))) []]).seq
 ACode.ret)
 ACode.skip))).seq
 (ACode.row
 [Item.mk (some 10) none (AOp.mov (Operand.tmp 5)) [],
 Item.mk (some 11) none
 (AOp.bin BinOp.add 3 Cmp.other (Operand.tmp 10)
 (Operand.const (Value.int IntKind.i64 1)))
 [],
 Item.mk (some 5) none (AOp.mov (Operand.tmp 11)) []]))).loop)).seq
 ((ACode.row [Item.mk (some 4) none (AOp.mov (Operand.const (Value.bool false))) []]).seq ACode.ret)))
theorem F31_ok : compFn Tryd.prog (byId h31) 31 = some F31 := by kernel_rfl
def h32 : List (Nat × List (Nat × List Nat) × List Nat) := []
def F32 : AFn :=
  AFn.mk 2 [ARes.tmp 0]
 ((ACode.row
 [Item.mk (some 0) none (AOp.mov (Operand.const (Value.slice none 0 0))) []]).seq
 ((ACode.row
 [Item.mk (some 1) none
 (AOp.lits 1 [V.val (Value.string (ByteArray.mk #[]))] 10
 [(0, Operand.const (Value.string (ByteArray.mk #[102, 110]))),
 (1,
 Operand.const
 (Value.string
 (ByteArray.mk
 #[114, 101, 99, 111, 114,
 100]))),
 (2, Operand.const (Value.string (ByteArray.mk #[108, 101, 116]))),
 (3, Operand.const (Value.string (ByteArray.mk #[105, 102]))),
 (4,
 Operand.const
 (Value.string
 (ByteArray.mk #[101, 108, 115, 101]))),
 (5,
 Operand.const
 (Value.string
 (ByteArray.mk
 #[119, 104, 105, 108, 101]))),
 (6,
 Operand.const
 (Value.string
 (ByteArray.mk
 #[114, 101, 116, 117, 114,
 110]))),
 (7, Operand.const (Value.string (ByteArray.mk #[110, 101, 119]))),
 (8,
 Operand.const
 (Value.string
 (ByteArray.mk #[116, 114, 117, 101]))),
 (9,
 Operand.const
 (Value.string
 (ByteArray.mk
 #[102, 97, 108, 115, 101])))])
 [],
 Item.mk (some 0) none (AOp.mov (Operand.tmp 1)) []]).seq
 ACode.ret))
theorem F32_ok : compFn Tryd.prog (byId h32) 32 = some F32 := by kernel_rfl
def h33 : List (Nat × List (Nat × List Nat) × List Nat) := []
def F33 : AFn :=
  AFn.mk 18 [ARes.tmp 4]
 ((ACode.row [Item.mk (some 4) none (AOp.mov (Operand.const (Value.bool false))) []]).seq
 ((ACode.row
 [Item.mk (some 5) none (AOp.mov (Operand.tmp 0)) [], Item.mk (some 6) none (AOp.len true (Operand.tmp 5)) [],
 Item.mk (some 7) none (AOp.mov (Operand.tmp 1)) [], Item.mk (some 8) none (AOp.len true (Operand.tmp 7)) [],
 Item.mk (some 9) none (AOp.bin BinOp.geq 3 Cmp.other (Operand.tmp 6) (Operand.tmp 8)) [],
 Item.mk (some 10) none (AOp.mov (Operand.tmp 9)) [],
 Item.mk (some 11) (some (10, true)) (AOp.mov (Operand.tmp 0)) [],
 Item.mk (some 12) (some (10, true)) (AOp.mov (Operand.tmp 1)) [],
 Item.mk (some 13) (some (10, true)) (AOp.len true (Operand.tmp 12)) [],
 Item.mk (some 14) (some (10, true)) (AOp.sliceS (Operand.tmp 11) none (some (Operand.tmp 13))) [],
 Item.mk (some 15) (some (10, true)) (AOp.mov (Operand.tmp 1)) [],
 Item.mk (some 16) (some (10, true)) (AOp.bin BinOp.eql 9 Cmp.other (Operand.tmp 14) (Operand.tmp 15)) [],
 Item.mk (some 17) none (AOp.pick (Operand.tmp 10) (Operand.tmp 16) (Operand.const (Value.bool false))) [],
 Item.mk (some 4) none (AOp.mov (Operand.tmp 17)) []]).seq
 ACode.ret))
theorem F33_ok : compFn Tryd.prog (byId h33) 33 = some F33 := by kernel_rfl
def h34 : List (Nat × List (Nat × List Nat) × List Nat) := []
def F34 : AFn :=
  AFn.mk 5 [ARes.tmp 2]
 ((ACode.row [Item.mk (some 2) none (AOp.mov (Operand.const (Value.string (ByteArray.mk #[])))) []]).seq
 ((ACode.row
 [Item.mk (some 3) none (AOp.mov (Operand.tmp 0)) [],
 Item.mk (some 4) none (AOp.call (Operand.func 41) [Operand.tmp 3]) [],
 Item.mk (some 2) none (AOp.mov (Operand.tmp 4)) []]).seq
 ACode.ret))
theorem F34_ok : compFn Tryd.prog (byId h34) 34 = some F34 := by kernel_rfl
def h39 : List (Nat × List (Nat × List Nat) × List Nat) := []
def F39 : AFn :=
  AFn.mk 8 [ARes.tmp 2]
 ((ACode.row [Item.mk (some 2) none (AOp.mov (Operand.const (Value.int IntKind.i64 0))) []]).seq
 ((ACode.row
 [Item.mk (some 3) none (AOp.mov (Operand.tmp 0)) [], Item.mk (some 4) none (AOp.nilc (Operand.tmp 3)) [],
 Item.mk (some 5) none (AOp.fieldA 1 (Operand.tmp 4)) [],
 Item.mk (some 6) none (AOp.load none (Operand.tmp 5)) [],
 Item.mk (some 7) none (AOp.len false (Operand.tmp 6)) [],
 Item.mk (some 2) none (AOp.mov (Operand.tmp 7)) []]).seq
 ACode.ret))
theorem F39_ok : compFn Tryd.prog (byId h39) 39 = some F39 := by kernel_rfl
def h40 : List (Nat × List (Nat × List Nat) × List Nat) := []
def F40 : AFn :=
  AFn.mk 17 [ARes.tmp 4]
 ((ACode.row [Item.mk (some 4) none (AOp.mov (Operand.const Value.nilIface)) []]).seq
 ((ACode.row
 [Item.mk (some 5) none (AOp.mov (Operand.tmp 0)) [],
 Item.mk (some 6) none (AOp.call (Operand.func 48) [Operand.tmp 5]) []]).seq
 ((ACode.row
 [Item.mk (some 7) none (AOp.mov (Operand.tmp 0)) [], Item.mk (some 8) none (AOp.mov (Operand.tmp 0)) [],
 Item.mk (some 9) none (AOp.nilc (Operand.tmp 8)) [],
 Item.mk (some 10) none (AOp.fieldA 1 (Operand.tmp 9)) [],
 Item.mk (some 11) none (AOp.load none (Operand.tmp 10)) [],
 Item.mk (some 12) none (AOp.mov (Operand.tmp 1)) [],
 Item.mk (some 13) none (AOp.lits 1 [V.val (Value.int IntKind.u8 0)] 1 [(0, Operand.tmp 12)])
 [],
 Item.mk (some 14) none (AOp.app 5 1 1 (Operand.tmp 11) (Operand.tmp 13)) [],
 Item.mk (some 15) none (AOp.nilc (Operand.tmp 7)) [],
 Item.mk (some 16) none (AOp.fieldA 1 (Operand.tmp 15)) [],
 Item.mk none none (AOp.store 1 (Operand.tmp 16) (Operand.tmp 14)) []]).seq
 ((ACode.row [Item.mk (some 4) none (AOp.mov (Operand.const Value.nilIface)) []]).seq ACode.ret))))
theorem F40_ok : compFn Tryd.prog (byId h40) 40 = some F40 := by kernel_rfl
theorem mixed : Tryd.prog.follows .mixedOrders = true := by kernel_rfl
end Go.Av.Fn
