/- The functions of the program made ready for going through, part 2. No condition. -/
import Derived.Test.YtibbfadgcklpjaaGreatDoorFn1
namespace Go.Av.Fn
open Go.Proofs
set_option maxRecDepth 100000
def h58 : List (Nat × List (Nat × List Nat) × List Nat) := []
def F58 : AFn :=
 AFn.mk 11 [ARes.tmp 4]
 ((ACode.row
 [Item.mk (some 4) none (AOp.mov (Operand.const (Value.slice none 0 0))) []]).seq
 ((ACode.row
 [Item.mk (some 5) none (AOp.mov (Operand.tmp 0)) [], Item.mk (some 6) none (AOp.mov (Operand.tmp 1)) [],
 Item.mk (some 7) none (AOp.len true (Operand.tmp 6)) [],
 Item.mk (some 8) none (AOp.call (Operand.func 53) [Operand.tmp 5, Operand.tmp 7]) [],
 Item.mk (some 9) none (AOp.mov (Operand.tmp 1)) [],
 Item.mk (some 10) none (AOp.app 5 1 1 (Operand.tmp 8) (Operand.tmp 9)) [],
 Item.mk (some 4) none (AOp.mov (Operand.tmp 10)) []]).seq
 ACode.ret))
theorem F58_ok : compFn Tryz.prog (byId h58) 58 = some F58 := by kernel_rfl
def h59 : List (Nat × List (Nat × List Nat) × List Nat) := []
def F59 : AFn :=
 AFn.mk 25 [ARes.tmp 4, ARes.tmp 5]
 ((ACode.row
 [Item.mk (some 4) none (AOp.mov (Operand.const (Value.slice none 0 0))) [],
 Item.mk (some 5) none (AOp.mov (Operand.const (Value.int IntKind.i64 0))) []]).seq
 (((ACode.row
 [Item.mk (some 8) none (AOp.mov (Operand.tmp 1)) [],
 Item.mk (some 9) none (AOp.len false (Operand.tmp 8)) [],
 Item.mk (some 10) none
 (AOp.bin BinOp.gtr 3 Cmp.other (Operand.tmp 9)
 (Operand.const (Value.int IntKind.i64 1048576)))
 []]).seq
 (ACode.cond (Operand.tmp 10)
 ((ACode.row
 [Item.mk (some 4) none (AOp.mov (Operand.const (Value.slice none 0 0)))
 [],
 Item.mk (some 5) none (AOp.mov (Operand.const (Value.int IntKind.i64 5))) []]).seq
 ACode.ret)
 ACode.skip)).seq
 ((ACode.row
 [Item.mk (some 11) none (AOp.mov (Operand.tmp 1)) [],
 Item.mk (some 12) none (AOp.len false (Operand.tmp 11)) [],
 Item.mk (some 13) none
 (AOp.call (Operand.func 53)
 [Operand.const (Value.slice none 0 0), Operand.tmp 12])
 [],
 Item.mk (some 6) none (AOp.mov (Operand.tmp 13)) []]).seq
 ((ACode.row
 [Item.mk (some 14) none (AOp.mov (Operand.tmp 6)) [],
 Item.mk (some 15) none (AOp.call (Operand.func 73) [Operand.tmp 14]) [],
 Item.mk (some 16) none (AOp.mov (Operand.tmp 1)) [],
 Item.mk (some 17) none (AOp.call (Operand.func 72) [Operand.tmp 15, Operand.tmp 16]) [],
 Item.mk (some 18) none (AOp.call (Operand.func 71) [Operand.tmp 17]) [],
 Item.mk (some 7) none
 (AOp.alloc 121
 [V.val (Value.int IntKind.u8 0), V.val (Value.int IntKind.u8 0),
 V.val (Value.int IntKind.u8 0), V.val (Value.int IntKind.u8 0)])
 [],
 Item.mk none none (AOp.store 4 (Operand.tmp 7) (Operand.tmp 18)) []]).seq
 ((ACode.row
 [Item.mk (some 19) none (AOp.mov (Operand.tmp 0)) [],
 Item.mk (some 20) none (AOp.mov (Operand.tmp 6)) [],
 Item.mk (some 21) none (AOp.mov (Operand.tmp 1)) [],
 Item.mk (some 22) none (AOp.sliceP 4 1 (Operand.tmp 7) none none none) [],
 Item.mk (some 23) none
 (AOp.lits 1 [V.sl [] [] Tok.full] 4
 [(0, Operand.tmp 19), (1, Operand.tmp 20), (2, Operand.tmp 21), (3, Operand.tmp 22)])
 [],
 Item.mk (some 24) none (AOp.call (Operand.func 74) [Operand.tmp 23]) [],
 Item.mk (some 4) none (AOp.mov (Operand.tmp 24)) [],
 Item.mk (some 5) none (AOp.mov (Operand.const (Value.int IntKind.i64 0))) []]).seq
 ACode.ret)))))
theorem F59_ok : compFn Tryz.prog (byId h59) 59 = some F59 := by kernel_rfl
def h60 : List (Nat × List (Nat × List Nat) × List Nat) := [(11,
 [(0, []), (1, []), (2, []), (3, []), (4, []), (5, []), (6, []), (7, []), (8, []), (9, []), (10, []), (11, []),
 (12, []), (13, []), (14, []), (15, []), (16, []), (17, [10]), (18, [10]), (19, [])],
 [0, 0, 0, 6, 0, 0, 48, 112, 255, 511, 1023, 0, 0, 0, 0, 24576, 63488, 129024, 260096, 524287])]
def F60 : AFn :=
 AFn.mk 77 [ARes.tmp 4, ARes.tmp 5, ARes.tmp 6]
 ((ACode.row
 [Item.mk (some 4) none (AOp.mov (Operand.const (Value.slice none 0 0))) [],
 Item.mk (some 5) none (AOp.mov (Operand.const (Value.int IntKind.i64 0))) [],
 Item.mk (some 6) none (AOp.mov (Operand.const (Value.int IntKind.i64 0))) []]).seq
 (((ACode.row
 [Item.mk (some 11) none (AOp.mov (Operand.tmp 1)) [],
 Item.mk (some 12) none
 (AOp.bin BinOp.lss 3 Cmp.other (Operand.tmp 11)
 (Operand.const (Value.int IntKind.i64 0)))
 [],
 Item.mk (some 13) none (AOp.mov (Operand.tmp 12)) [],
 Item.mk (some 14) (some (13, false)) (AOp.mov (Operand.tmp 1)) [],
 Item.mk (some 15) (some (13, false)) (AOp.mov (Operand.tmp 0)) [],
 Item.mk (some 16) (some (13, false)) (AOp.len false (Operand.tmp 15)) [],
 Item.mk (some 17) (some (13, false)) (AOp.bin BinOp.gtr 3 Cmp.other (Operand.tmp 14) (Operand.tmp 16))
 [],
 Item.mk (some 18) none (AOp.pick (Operand.tmp 13) (Operand.const (Value.bool true)) (Operand.tmp 17))
 []]).seq
 (ACode.cond (Operand.tmp 18)
 ((ACode.row
 [Item.mk (some 4) none (AOp.mov (Operand.const (Value.slice none 0 0)))
 [],
 Item.mk (some 5) none (AOp.mov (Operand.const (Value.int IntKind.i64 0))) [],
 Item.mk (some 6) none (AOp.mov (Operand.const (Value.int IntKind.i64 2))) []]).seq
 ACode.ret)
 ACode.skip)).seq
 ((ACode.row
 [Item.mk (some 19) none (AOp.mov (Operand.tmp 0)) [], Item.mk (some 20) none (AOp.mov (Operand.tmp 1)) [],
 Item.mk (some 21) none (AOp.mov (Operand.tmp 0)) [],
 Item.mk (some 22) none (AOp.len false (Operand.tmp 21)) [],
 Item.mk (some 23) none (AOp.mov (Operand.tmp 1)) [],
 Item.mk (some 24) none
 (AOp.bin BinOp.add 3 Cmp.other (Operand.tmp 23)
 (Operand.const (Value.int IntKind.i64 11)))
 [],
 Item.mk (some 25) none (AOp.mm false [Operand.tmp 22, Operand.tmp 24]) [],
 Item.mk (some 26) none
 (AOp.sliceL 1 (Operand.tmp 19) (some (Operand.tmp 20)) (some (Operand.tmp 25)) none) [],
 Item.mk (some 27) none (AOp.call (Operand.func 75) [Operand.tmp 26]) [],
 Item.mk (some 7) none (AOp.mov (Operand.tmp 27)) []]).seq
 ((ACode.row
 [Item.mk (some 28) none (AOp.mov (Operand.tmp 7)) [],
 Item.mk (some 29) none
 (AOp.call (Operand.func 76)
 [Operand.tmp 28, Operand.const (Value.int IntKind.i64 1048576)])
 [],
 Item.mk (some 8) none (AOp.mov (Operand.tmp 29)) []]).seq
 (((ACode.row
 [Item.mk (some 30) none (AOp.mov (Operand.tmp 7)) [],
 Item.mk (some 31) none (AOp.call (Operand.func 77) [Operand.tmp 30]) [],
 Item.mk (some 9) none (AOp.mov (Operand.tmp 31)) []]).seq
 ((ACode.row
 [Item.mk (some 32) none (AOp.mov (Operand.tmp 9)) [],
 Item.mk (some 33) none
 (AOp.bin BinOp.neq 32 Cmp.other (Operand.tmp 32)
 (Operand.const (Value.int IntKind.i64 0)))
 []]).seq
 (ACode.cond (Operand.tmp 33)
 ((ACode.row
 [Item.mk (some 34) none (AOp.mov (Operand.tmp 9)) [],
 Item.mk (some 4) none
 (AOp.mov (Operand.const (Value.slice none 0 0))) [],
 Item.mk (some 5) none (AOp.mov (Operand.const (Value.int IntKind.i64 0))) [],
 Item.mk (some 6) none (AOp.mov (Operand.tmp 34)) []]).seq
 ACode.ret)
 ACode.skip))).seq
 ((ACode.row
 [Item.mk (some 35) none (AOp.mov (Operand.tmp 1)) [],
 Item.mk (some 36) none (AOp.mov (Operand.tmp 7)) [],
 Item.mk (some 37) none (AOp.call (Operand.func 78) [Operand.tmp 36]) [],
 Item.mk (some 38) none (AOp.bin BinOp.add 3 Cmp.other (Operand.tmp 35) (Operand.tmp 37)) [],
 Item.mk (some 10) none (AOp.mov (Operand.tmp 38)) []]).seq
 (((ACode.row
 [Item.mk (some 39) none (AOp.mov (Operand.tmp 0)) [],
 Item.mk (some 40) none (AOp.len false (Operand.tmp 39)) [],
 Item.mk (some 41) none (AOp.mov (Operand.tmp 10)) [],
 Item.mk (some 42) none (AOp.bin BinOp.sub 3 Cmp.other (Operand.tmp 40) (Operand.tmp 41)) [],
 Item.mk (some 43) none (AOp.mov (Operand.tmp 8)) [],
 Item.mk (some 44) none
 (AOp.bin BinOp.add 3 Cmp.other (Operand.tmp 43)
 (Operand.const (Value.int IntKind.i64 4)))
 [],
 Item.mk (some 45) none (AOp.bin BinOp.lss 3 Cmp.other (Operand.tmp 42) (Operand.tmp 44))
 []]).seq
 (ACode.cond (Operand.tmp 45)
 ((ACode.row
 [Item.mk (some 4) none
 (AOp.mov (Operand.const (Value.slice none 0 0))) [],
 Item.mk (some 5) none (AOp.mov (Operand.const (Value.int IntKind.i64 0)))
 [],
 Item.mk (some 6) none (AOp.mov (Operand.const (Value.int IntKind.i64 3)))
 []]).seq
 ACode.ret)
 ACode.skip)).seq
 (((ACode.row
 [Item.mk (some 46) none (AOp.mov (Operand.tmp 0)) [],
 Item.mk (some 47) none (AOp.mov (Operand.tmp 10)) [],
 Item.mk (some 48) none (AOp.mov (Operand.tmp 8)) [],
 Item.mk (some 49) none (AOp.bin BinOp.add 3 Cmp.other (Operand.tmp 47) (Operand.tmp 48)) [],
 Item.mk (some 50) none (AOp.mov (Operand.tmp 10)) [],
 Item.mk (some 51) none (AOp.mov (Operand.tmp 8)) [],
 Item.mk (some 52) none (AOp.bin BinOp.add 3 Cmp.other (Operand.tmp 50) (Operand.tmp 51)) [],
 Item.mk (some 53) none
 (AOp.bin BinOp.add 3 Cmp.other (Operand.tmp 52)
 (Operand.const (Value.int IntKind.i64 4)))
 [],
 Item.mk (some 54) none
 (AOp.sliceL 1 (Operand.tmp 46) (some (Operand.tmp 49)) (some (Operand.tmp 53)) none) [],
 Item.mk (some 55) none (AOp.s2ap 4 (Operand.tmp 54)) [],
 Item.mk (some 56) none (AOp.load (some 4) (Operand.tmp 55)) [],
 Item.mk (some 57) none (AOp.mov (Operand.tmp 0)) [],
 Item.mk (some 58) none (AOp.mov (Operand.tmp 1)) [],
 Item.mk (some 59) none (AOp.mov (Operand.tmp 10)) [],
 Item.mk (some 60) none (AOp.mov (Operand.tmp 8)) [],
 Item.mk (some 61) none (AOp.bin BinOp.add 3 Cmp.other (Operand.tmp 59) (Operand.tmp 60)) [],
 Item.mk (some 62) none
 (AOp.sliceL 1 (Operand.tmp 57) (some (Operand.tmp 58)) (some (Operand.tmp 61)) none) [],
 Item.mk (some 63) none (AOp.call (Operand.func 73) [Operand.tmp 62])
 [(56, none, AOp.load (some 4) (Operand.tmp 55))],
 Item.mk (some 64) none (AOp.call (Operand.func 71) [Operand.tmp 63])
 [(56, none, AOp.load (some 4) (Operand.tmp 55))],
 Item.mk (some 65) none (AOp.bin BinOp.neq 121 Cmp.other (Operand.tmp 56) (Operand.tmp 64))
 []]).seq
 (ACode.cond (Operand.tmp 65)
 ((ACode.row
 [Item.mk (some 4) none
 (AOp.mov (Operand.const (Value.slice none 0 0))) [],
 Item.mk (some 5) none (AOp.mov (Operand.const (Value.int IntKind.i64 0)))
 [],
 Item.mk (some 6) none (AOp.mov (Operand.const (Value.int IntKind.i64 4)))
 []]).seq
 ACode.ret)
 ACode.skip)).seq
 ((ACode.row
 [Item.mk (some 66) none (AOp.mov (Operand.tmp 0)) [],
 Item.mk (some 67) none (AOp.mov (Operand.tmp 10)) [],
 Item.mk (some 68) none (AOp.mov (Operand.tmp 10)) [],
 Item.mk (some 69) none (AOp.mov (Operand.tmp 8)) [],
 Item.mk (some 70) none (AOp.bin BinOp.add 3 Cmp.other (Operand.tmp 68) (Operand.tmp 69)) [],
 Item.mk (some 71) none
 (AOp.sliceL 1 (Operand.tmp 66) (some (Operand.tmp 67)) (some (Operand.tmp 70)) none) [],
 Item.mk (some 72) none (AOp.call (Operand.func 42) [Operand.tmp 71]) [],
 Item.mk (some 73) none (AOp.mov (Operand.tmp 10)) [],
 Item.mk (some 74) none (AOp.mov (Operand.tmp 8)) [],
 Item.mk (some 75) none (AOp.bin BinOp.add 3 Cmp.other (Operand.tmp 73) (Operand.tmp 74)) [],
 Item.mk (some 76) none
 (AOp.bin BinOp.add 3 Cmp.other (Operand.tmp 75)
 (Operand.const (Value.int IntKind.i64 4)))
 [],
 Item.mk (some 4) none (AOp.mov (Operand.tmp 72)) [],
 Item.mk (some 5) none (AOp.mov (Operand.tmp 76)) [],
 Item.mk (some 6) none (AOp.mov (Operand.const (Value.int IntKind.i64 0)))
 []]).seq
 ACode.ret)))))))))
theorem F60_ok : compFn Tryz.prog (byId h60) 60 = some F60 := by kernel_rfl
def h61 : List (Nat × List (Nat × List Nat) × List Nat) := [(2, [(0, []), (2, []), (4, []), (1, [2, 4]), (3, [4]), (5, []), (6, []), (7, []), (8, [])],
 [0, 1, 0, 7, 0, 31, 63, 0, 255]),
 (12, [(0, []), (2, []), (4, []), (1, [2, 4]), (3, [4]), (5, []), (6, []), (7, []), (8, [])],
 [0, 1, 0, 7, 0, 31, 63, 127, 255])]
def F61 : AFn :=
 AFn.mk 62 [ARes.cell 2 (some 22), ARes.tmp 3]
 ((ACode.row
 [Item.mk (some 2) none
 (AOp.alloc 36
 [V.val (Value.int IntKind.i64 0), V.val (Value.int IntKind.i64 0),
 V.val (Value.int IntKind.i64 0), V.val (Value.int IntKind.i64 0),
 V.val (Value.int IntKind.i64 0), V.val (Value.int IntKind.i64 0),
 V.val (Value.int IntKind.i64 0), V.val (Value.int IntKind.i64 0),
 V.val (Value.int IntKind.i64 0), V.val (Value.int IntKind.i64 0),
 V.val (Value.int IntKind.i64 0), V.val (Value.int IntKind.i64 0),
 V.val (Value.string (ByteArray.mk #[])), V.val (Value.int IntKind.i64 0),
 V.val (Value.int IntKind.i64 0), V.val (Value.string (ByteArray.mk #[])),
 V.val (Value.int IntKind.i64 0), V.val (Value.string (ByteArray.mk #[])),
 V.sl [] [] Tok.full, V.val (Value.int IntKind.i64 0),
 V.val (Value.int IntKind.i64 0), V.val (Value.string (ByteArray.mk #[]))])
 [],
 Item.mk (some 3) none (AOp.mov (Operand.const (Value.int IntKind.i64 0))) []]).seq
 ((ACode.row
 [Item.mk (some 9) none (AOp.mov (Operand.tmp 0)) [],
 Item.mk (some 10) none (AOp.call (Operand.func 75) [Operand.tmp 9]) [],
 Item.mk (some 4) none (AOp.alloc 127 [V.val (Value.pointer none)]) [],
 Item.mk none none (AOp.store 1 (Operand.tmp 4) (Operand.tmp 10)) []]).seq
 ((ACode.row
 [Item.mk (some 11) none (AOp.load none (Operand.tmp 4)) [],
 Item.mk (some 13) none (AOp.load none (Operand.tmp 4)) [],
 Item.mk (some 15) none (AOp.load none (Operand.tmp 4)) [],
 Item.mk (some 12) none (AOp.call (Operand.func 79) [Operand.tmp 11])
 [(13, none, AOp.load none (Operand.tmp 4)), (15, none, AOp.load none (Operand.tmp 4))],
 Item.mk (some 14) none (AOp.call (Operand.func 79) [Operand.tmp 13])
 [(15, none, AOp.load none (Operand.tmp 4))],
 Item.mk (some 16) none (AOp.call (Operand.func 79) [Operand.tmp 15]) [],
 Item.mk (some 17) none
 (AOp.build
 [V.val (Value.int IntKind.i64 0), V.val (Value.int IntKind.i64 0),
 V.val (Value.int IntKind.i64 0), V.val (Value.int IntKind.i64 0),
 V.val (Value.int IntKind.i64 0), V.val (Value.int IntKind.i64 0),
 V.val (Value.int IntKind.i64 0), V.val (Value.int IntKind.i64 0),
 V.val (Value.int IntKind.i64 0), V.val (Value.int IntKind.i64 0),
 V.val (Value.int IntKind.i64 0), V.val (Value.int IntKind.i64 0),
 V.val (Value.string (ByteArray.mk #[])), V.val (Value.int IntKind.i64 0),
 V.val (Value.int IntKind.i64 0), V.val (Value.string (ByteArray.mk #[])),
 V.val (Value.int IntKind.i64 0), V.val (Value.string (ByteArray.mk #[])),
 V.sl [] [] Tok.full, V.val (Value.int IntKind.i64 0),
 V.val (Value.int IntKind.i64 0), V.val (Value.string (ByteArray.mk #[]))]
 [(0, 1, Operand.tmp 12), (1, 1, Operand.tmp 14), (2, 1, Operand.tmp 16)])
 [],
 Item.mk (some 5) none
 (AOp.alloc 36
 [V.val (Value.int IntKind.i64 0), V.val (Value.int IntKind.i64 0),
 V.val (Value.int IntKind.i64 0), V.val (Value.int IntKind.i64 0),
 V.val (Value.int IntKind.i64 0), V.val (Value.int IntKind.i64 0),
 V.val (Value.int IntKind.i64 0), V.val (Value.int IntKind.i64 0),
 V.val (Value.int IntKind.i64 0), V.val (Value.int IntKind.i64 0),
 V.val (Value.int IntKind.i64 0), V.val (Value.int IntKind.i64 0),
 V.val (Value.string (ByteArray.mk #[])), V.val (Value.int IntKind.i64 0),
 V.val (Value.int IntKind.i64 0), V.val (Value.string (ByteArray.mk #[])),
 V.val (Value.int IntKind.i64 0), V.val (Value.string (ByteArray.mk #[])),
 V.sl [] [] Tok.full, V.val (Value.int IntKind.i64 0),
 V.val (Value.int IntKind.i64 0), V.val (Value.string (ByteArray.mk #[]))])
 [],
 Item.mk none none (AOp.store 22 (Operand.tmp 5) (Operand.tmp 17)) []]).seq
 ((ACode.row
 [Item.mk (some 19) none (AOp.fieldA 0 (Operand.tmp 5)) [],
 Item.mk (some 20) none (AOp.load none (Operand.tmp 19)) [],
 Item.mk (some 21) none (AOp.call (Operand.func 49) [Operand.tmp 20]) [],
 Item.mk (some 18) none (AOp.mov (Operand.tmp 21)) [],
 Item.mk (some 22) none (AOp.ext (Operand.tmp 18) 0) [],
 Item.mk (some 23) none (AOp.ext (Operand.tmp 18) 1) [],
 Item.mk (some 6) none
 (AOp.alloc 90
 [V.val (Value.bool false), V.val (Value.bool false), V.val (Value.bool false),
 V.val (Value.bool false), V.val (Value.bool false), V.val (Value.bool false),
 V.val (Value.bool false), V.val (Value.bool false)])
 [],
 Item.mk none none (AOp.store 8 (Operand.tmp 6) (Operand.tmp 22)) [],
 Item.mk (some 7) none (AOp.mov (Operand.tmp 23)) []]).seq
 (((ACode.row
 [Item.mk (some 24) none (AOp.load none (Operand.tmp 4)) [],
 Item.mk (some 25) none (AOp.call (Operand.func 77) [Operand.tmp 24]) [],
 Item.mk (some 26) none
 (AOp.bin BinOp.eql 32 Cmp.other (Operand.tmp 25)
 (Operand.const (Value.int IntKind.i64 0)))
 [],
 Item.mk (some 27) none (AOp.mov (Operand.tmp 26)) [],
 Item.mk (some 28) (some (27, true)) (AOp.mov (Operand.tmp 7)) [],
 Item.mk (some 29) (some (27, true)) (AOp.un UnOp.not (Operand.tmp 28)) [],
 Item.mk (some 30) none
 (AOp.pick (Operand.tmp 27) (Operand.tmp 29) (Operand.const (Value.bool false))) []]).seq
 (ACode.cond (Operand.tmp 30)
 ((ACode.row
 [Item.mk (some 31) none
 (AOp.build
 [V.val (Value.int IntKind.i64 0),
 V.val (Value.int IntKind.i64 0),
 V.val (Value.int IntKind.i64 0),
 V.val (Value.int IntKind.i64 0),
 V.val (Value.int IntKind.i64 0),
 V.val (Value.int IntKind.i64 0),
 V.val (Value.int IntKind.i64 0),
 V.val (Value.int IntKind.i64 0),
 V.val (Value.int IntKind.i64 0),
 V.val (Value.int IntKind.i64 0),
 V.val (Value.int IntKind.i64 0),
 V.val (Value.int IntKind.i64 0), V.val (Value.string (ByteArray.mk #[])),
 V.val (Value.int IntKind.i64 0),
 V.val (Value.int IntKind.i64 0), V.val (Value.string (ByteArray.mk #[])),
 V.val (Value.int IntKind.i64 0), V.val (Value.string (ByteArray.mk #[])),
 V.sl [] [] Tok.full, V.val (Value.int IntKind.i64 0),
 V.val (Value.int IntKind.i64 0), V.val (Value.string (ByteArray.mk #[]))]
 [])
 [],
 Item.mk none none (AOp.store 22 (Operand.tmp 2) (Operand.tmp 31)) [],
 Item.mk (some 3) none (AOp.mov (Operand.const (Value.int IntKind.i64 4)))
 []]).seq
 ACode.ret)
 ACode.skip)).seq
 ((ACode.row
 [Item.mk (some 32) none (AOp.load (some 8) (Operand.tmp 6)) [],
 Item.mk (some 33) none (AOp.mkf (Fn.func 80) [] [Operand.tmp 4]) [],
 Item.mk (some 34) none (AOp.call (Operand.func 54) [Operand.tmp 32, Operand.tmp 5, Operand.tmp 33])
 []]).seq
 (((ACode.row
 [Item.mk (some 35) none (AOp.fieldA 5 (Operand.tmp 6)) [],
 Item.mk (some 36) none (AOp.load none (Operand.tmp 35)) []]).seq
 (ACode.cond (Operand.tmp 36)
 (ACode.row
 [Item.mk (some 37) none (AOp.load none (Operand.tmp 4)) [],
 Item.mk (some 38) none (AOp.call (Operand.func 81) [Operand.tmp 37]) [],
 Item.mk (some 39) none (AOp.fieldA 8 (Operand.tmp 5)) [],
 Item.mk none none (AOp.store 8 (Operand.tmp 39) (Operand.tmp 38)) []])
 ACode.skip)).seq
 (((ACode.row
 [Item.mk (some 40) none (AOp.fieldA 6 (Operand.tmp 6)) [],
 Item.mk (some 41) none (AOp.load none (Operand.tmp 40)) []]).seq
 (ACode.cond (Operand.tmp 41)
 (ACode.row
 [Item.mk (some 42) none (AOp.load none (Operand.tmp 4)) [],
 Item.mk (some 43) none (AOp.call (Operand.func 82) [Operand.tmp 42]) [],
 Item.mk (some 44) none (AOp.fieldA 16 (Operand.tmp 5)) [],
 Item.mk none none (AOp.store 3 (Operand.tmp 44) (Operand.tmp 43)) []])
 ACode.skip)).seq
 (((ACode.row
 [Item.mk (some 45) none (AOp.fieldA 7 (Operand.tmp 6)) [],
 Item.mk (some 46) none (AOp.load none (Operand.tmp 45)) []]).seq
 (ACode.cond (Operand.tmp 46)
 (ACode.row
 [Item.mk (some 47) none (AOp.load none (Operand.tmp 4)) [],
 Item.mk (some 49) none (AOp.load none (Operand.tmp 4)) [],
 Item.mk (some 51) none (AOp.load none (Operand.tmp 4)) [],
 Item.mk (some 48) none (AOp.call (Operand.func 79) [Operand.tmp 47])
 [(49, none, AOp.load none (Operand.tmp 4)), (51, none, AOp.load none (Operand.tmp 4))],
 Item.mk (some 50) none (AOp.call (Operand.func 79) [Operand.tmp 49])
 [(51, none, AOp.load none (Operand.tmp 4))],
 Item.mk (some 52) none
 (AOp.call (Operand.func 83)
 [Operand.tmp 51, Operand.const (Value.int IntKind.i64 255)])
 [],
 Item.mk (some 53) none
 (AOp.build
 [V.val (Value.int IntKind.i64 0),
 V.val (Value.int IntKind.i64 0),
 V.val (Value.string (ByteArray.mk #[]))]
 [(0, 1, Operand.tmp 48), (1, 1, Operand.tmp 50), (2, 1, Operand.tmp 52)])
 [],
 Item.mk (some 54) none (AOp.fieldA 19 (Operand.tmp 5)) [],
 Item.mk none none (AOp.store 3 (Operand.tmp 54) (Operand.tmp 53)) []])
 ACode.skip)).seq
 (((ACode.row
 [Item.mk (some 55) none (AOp.load none (Operand.tmp 4)) [],
 Item.mk (some 56) none (AOp.call (Operand.func 84) [Operand.tmp 55]) [],
 Item.mk (some 8) none (AOp.mov (Operand.tmp 56)) []]).seq
 ((ACode.row
 [Item.mk (some 57) none (AOp.mov (Operand.tmp 8)) [],
 Item.mk (some 58) none
 (AOp.bin BinOp.neq 32 Cmp.other (Operand.tmp 57)
 (Operand.const (Value.int IntKind.i64 0)))
 []]).seq
 (ACode.cond (Operand.tmp 58)
 ((ACode.row
 [Item.mk (some 59) none
 (AOp.build
 [V.val (Value.int IntKind.i64 0),
 V.val (Value.int IntKind.i64 0),
 V.val (Value.int IntKind.i64 0),
 V.val (Value.int IntKind.i64 0),
 V.val (Value.int IntKind.i64 0),
 V.val (Value.int IntKind.i64 0),
 V.val (Value.int IntKind.i64 0),
 V.val (Value.int IntKind.i64 0),
 V.val (Value.int IntKind.i64 0),
 V.val (Value.int IntKind.i64 0),
 V.val (Value.int IntKind.i64 0),
 V.val (Value.int IntKind.i64 0),
 V.val (Value.string (ByteArray.mk #[])),
 V.val (Value.int IntKind.i64 0),
 V.val (Value.int IntKind.i64 0),
 V.val (Value.string (ByteArray.mk #[])),
 V.val (Value.int IntKind.i64 0),
 V.val (Value.string (ByteArray.mk #[])), V.sl [] [] Tok.full,
 V.val (Value.int IntKind.i64 0),
 V.val (Value.int IntKind.i64 0),
 V.val (Value.string (ByteArray.mk #[]))]
 [])
 [],
 Item.mk (some 60) none (AOp.mov (Operand.tmp 8)) [],
 Item.mk none none (AOp.store 22 (Operand.tmp 2) (Operand.tmp 59)) [],
 Item.mk (some 3) none (AOp.mov (Operand.tmp 60)) []]).seq
 ACode.ret)
 ACode.skip))).seq
 ((ACode.row
 [Item.mk (some 61) none (AOp.load (some 22) (Operand.tmp 5)) [],
 Item.mk none none (AOp.store 22 (Operand.tmp 2) (Operand.tmp 61)) [],
 Item.mk (some 3) none (AOp.mov (Operand.const (Value.int IntKind.i64 0)))
 []]).seq
 ACode.ret)))))))))))
theorem F61_ok : compFn Tryz.prog (byId h61) 61 = some F61 := by kernel_rfl
def h62 : List (Nat × List (Nat × List Nat) × List Nat) := [(6, [(0, []), (1, []), (2, []), (3, []), (4, []), (5, []), (6, []), (7, []), (8, [])],
 [0, 0, 3, 7, 0, 0, 48, 112, 255])]
def F62 : AFn :=
 AFn.mk 26 [ARes.tmp 4]
 ((ACode.row [Item.mk (some 4) none (AOp.mov (Operand.const (Value.bool false))) []]).seq
 (((ACode.row
 [Item.mk (some 6) none (AOp.mov (Operand.tmp 0)) [],
 Item.mk (some 7) none (AOp.len false (Operand.tmp 6)) [],
 Item.mk (some 8) none (AOp.mov (Operand.tmp 1)) [],
 Item.mk (some 9) none (AOp.len false (Operand.tmp 8)) [],
 Item.mk (some 10) none (AOp.bin BinOp.neq 3 Cmp.other (Operand.tmp 7) (Operand.tmp 9)) []]).seq
 (ACode.cond (Operand.tmp 10)
 ((ACode.row [Item.mk (some 4) none (AOp.mov (Operand.const (Value.bool false))) []]).seq ACode.ret)
 ACode.skip)).seq
 (((ACode.row [Item.mk (some 5) none (AOp.mov (Operand.const (Value.int IntKind.i64 0))) []]).seq
 (ACode.block 0
 (((ACode.row
 [Item.mk (some 11) none (AOp.mov (Operand.tmp 5)) [],
 Item.mk (some 12) none (AOp.mov (Operand.tmp 0)) [],
 Item.mk (some 13) none (AOp.len false (Operand.tmp 12)) [],
 Item.mk (some 14) none (AOp.bin BinOp.lss 3 Cmp.other (Operand.tmp 11) (Operand.tmp 13))
 []]).seq
 (ACode.cond (Operand.tmp 14) ACode.skip (ACode.exit 0))).seq
 ((ACode.block 1
 ((ACode.row
 [Item.mk (some 17) none (AOp.mov (Operand.tmp 0)) [],
 Item.mk (some 18) none (AOp.mov (Operand.tmp 5)) [],
 Item.mk (some 19) none (AOp.idxL 8 (Operand.tmp 17) (Operand.tmp 18)) [],
 Item.mk (some 20) none (AOp.load (some 8) (Operand.tmp 19)) [],
 Item.mk (some 21) none (AOp.mov (Operand.tmp 1)) [],
 Item.mk (some 22) none (AOp.mov (Operand.tmp 5)) [],
 Item.mk (some 23) none (AOp.idxL 8 (Operand.tmp 21) (Operand.tmp 22)) [],
 Item.mk (some 24) none (AOp.load (some 8) (Operand.tmp 23)) [],
 Item.mk (some 25) none
 (AOp.bin BinOp.neq 27 Cmp.other (Operand.tmp 20) (Operand.tmp 24)) []]).seq
 (ACode.cond (Operand.tmp 25)
 ((ACode.row [Item.mk (some 4) none (AOp.mov (Operand.const (Value.bool false))) []]).seq
 ACode.ret)
 ACode.skip))).seq
 (ACode.row
 [Item.mk (some 15) none (AOp.mov (Operand.tmp 5)) [],
 Item.mk (some 16) none
 (AOp.bin BinOp.add 3 Cmp.other (Operand.tmp 15)
 (Operand.const (Value.int IntKind.i64 1)))
 [],
 Item.mk (some 5) none (AOp.mov (Operand.tmp 16)) []]))).loop)).seq
 ((ACode.row [Item.mk (some 4) none (AOp.mov (Operand.const (Value.bool true))) []]).seq ACode.ret))))
theorem F62_ok : compFn Tryz.prog (byId h62) 62 = some F62 := by kernel_rfl
def h63 : List (Nat × List (Nat × List Nat) × List Nat) := []
def F63 : AFn :=
 AFn.mk 80 [ARes.tmp 2, ARes.tmp 3]
 ((ACode.row
 [Item.mk (some 1) none (AOp.box 112 (Operand.tmp 0)) [],
 Item.mk (some 2) none (AOp.mov (Operand.const (Value.string (ByteArray.mk #[])))) [],
 Item.mk (some 3) none (AOp.mov (Operand.const (Value.int IntKind.i64 0))) []]).seq
 ((ACode.row
 [Item.mk (some 6) none (AOp.fieldA 1 (Operand.tmp 1)) [],
 Item.mk (some 7) none (AOp.load none (Operand.tmp 6)) [],
 Item.mk (some 4) none (AOp.mov (Operand.tmp 7)) [],
 Item.mk (some 5) none (AOp.mov (Operand.const (Value.bool false))) []]).seq
 (((ACode.row
 [Item.mk (some 8) none (AOp.fieldA 0 (Operand.tmp 1)) [],
 Item.mk (some 9) none (AOp.load none (Operand.tmp 8)) []]).seq
 (ACode.block 0
 ((ACode.row
 [Item.mk (some 11) none
 (AOp.bin BinOp.eql 110 Cmp.other (Operand.tmp 9)
 (Operand.const (Value.int IntKind.i64 0)))
 [],
 Item.mk (some 10) none (AOp.mov (Operand.tmp 11)) []]).seq
 (ACode.cond (Operand.tmp 10)
 (ACode.row
 [Item.mk (some 12) none (AOp.mov (Operand.tmp 4)) [],
 Item.mk (some 13) none
 (AOp.bin BinOp.eql 9 Cmp.other (Operand.tmp 12)
 (Operand.const (Value.string (ByteArray.mk #[]))))
 [],
 Item.mk (some 14) none (AOp.mov (Operand.tmp 13)) [],
 Item.mk (some 15) (some (14, true)) (AOp.fieldA 2 (Operand.tmp 1)) [],
 Item.mk (some 16) (some (14, true)) (AOp.load none (Operand.tmp 15)) [],
 Item.mk (some 17) (some (14, true))
 (AOp.bin BinOp.eql 3 Cmp.other (Operand.tmp 16)
 (Operand.const (Value.int IntKind.i64 0)))
 [],
 Item.mk (some 18) none
 (AOp.pick (Operand.tmp 14) (Operand.tmp 17) (Operand.const (Value.bool false))) [],
 Item.mk (some 5) none (AOp.mov (Operand.tmp 18)) []])
 ((ACode.row
 [Item.mk (some 20) none
 (AOp.bin BinOp.eql 110 Cmp.other (Operand.tmp 9)
 (Operand.const (Value.int IntKind.i64 1)))
 [],
 Item.mk (some 19) none (AOp.mov (Operand.tmp 20)) []]).seq
 (ACode.cond (Operand.tmp 19)
 (ACode.row
 [Item.mk (some 21) none (AOp.mov (Operand.tmp 4)) [],
 Item.mk (some 22) none (AOp.call (Operand.func 85) [Operand.tmp 21]) [],
 Item.mk (some 23) none (AOp.mov (Operand.tmp 22)) [],
 Item.mk (some 24) (some (23, true)) (AOp.fieldA 2 (Operand.tmp 1)) [],
 Item.mk (some 25) (some (23, true)) (AOp.load none (Operand.tmp 24)) [],
 Item.mk (some 26) (some (23, true))
 (AOp.bin BinOp.eql 3 Cmp.other (Operand.tmp 25)
 (Operand.const (Value.int IntKind.i64 0)))
 [],
 Item.mk (some 27) none
 (AOp.pick (Operand.tmp 23) (Operand.tmp 26) (Operand.const (Value.bool false))) [],
 Item.mk (some 5) none (AOp.mov (Operand.tmp 27)) []])
 ((ACode.row
 [Item.mk (some 29) none
 (AOp.bin BinOp.eql 110 Cmp.other (Operand.tmp 9)
 (Operand.const (Value.int IntKind.i64 4)))
 [],
 Item.mk (some 28) none (AOp.mov (Operand.tmp 29)) []]).seq
 (ACode.cond (Operand.tmp 28)
 (ACode.row
 [Item.mk (some 30) none (AOp.mov (Operand.tmp 4)) [],
 Item.mk (some 31) none
 (AOp.bin BinOp.neq 9 Cmp.other (Operand.tmp 30)
 (Operand.const (Value.string (ByteArray.mk #[]))))
 [],
 Item.mk (some 32) none (AOp.mov (Operand.tmp 31)) [],
 Item.mk (some 33) (some (32, true)) (AOp.mov (Operand.tmp 4)) [],
 Item.mk (some 34) (some (32, true)) (AOp.call (Operand.func 86) [Operand.tmp 33]) [],
 Item.mk (some 35) (some (32, true)) (AOp.mov (Operand.tmp 4)) [],
 Item.mk (some 36) (some (32, true))
 (AOp.bin BinOp.eql 9 Cmp.other (Operand.tmp 34) (Operand.tmp 35)) [],
 Item.mk (some 37) none
 (AOp.pick (Operand.tmp 32) (Operand.tmp 36) (Operand.const (Value.bool false))) [],
 Item.mk (some 38) none (AOp.mov (Operand.tmp 37)) [],
 Item.mk (some 39) (some (38, true)) (AOp.fieldA 2 (Operand.tmp 1)) [],
 Item.mk (some 40) (some (38, true)) (AOp.load none (Operand.tmp 39)) [],
 Item.mk (some 41) (some (38, true))
 (AOp.bin BinOp.eql 3 Cmp.other (Operand.tmp 40)
 (Operand.const (Value.int IntKind.i64 0)))
 [],
 Item.mk (some 42) none
 (AOp.pick (Operand.tmp 38) (Operand.tmp 41) (Operand.const (Value.bool false))) [],
 Item.mk (some 5) none (AOp.mov (Operand.tmp 42)) []])
 ((ACode.row
 [Item.mk (some 44) none
 (AOp.bin BinOp.eql 110 Cmp.other (Operand.tmp 9)
 (Operand.const (Value.int IntKind.i64 5)))
 [],
 Item.mk (some 43) none (AOp.mov (Operand.tmp 44)) []]).seq
 (ACode.cond (Operand.tmp 43)
 (ACode.row
 [Item.mk (some 45) none (AOp.mov (Operand.tmp 4)) [],
 Item.mk (some 46) none (AOp.call (Operand.func 87) [Operand.tmp 45]) [],
 Item.mk (some 47) none (AOp.mov (Operand.tmp 46)) [],
 Item.mk (some 48) (some (47, true)) (AOp.fieldA 2 (Operand.tmp 1)) [],
 Item.mk (some 49) (some (47, true)) (AOp.load none (Operand.tmp 48)) [],
 Item.mk (some 50) (some (47, true))
 (AOp.bin BinOp.eql 3 Cmp.other (Operand.tmp 49)
 (Operand.const (Value.int IntKind.i64 0)))
 [],
 Item.mk (some 51) none
 (AOp.pick (Operand.tmp 47) (Operand.tmp 50) (Operand.const (Value.bool false))) [],
 Item.mk (some 5) none (AOp.mov (Operand.tmp 51)) []])
 ((ACode.row
 [Item.mk (some 53) none
 (AOp.bin BinOp.eql 110 Cmp.other (Operand.tmp 9)
 (Operand.const (Value.int IntKind.i64 2)))
 [],
 Item.mk (some 52) none (AOp.mov (Operand.tmp 53)) []]).seq
 (ACode.cond (Operand.tmp 52)
 ((ACode.row
 [Item.mk (some 54) none (AOp.mov (Operand.tmp 4)) [],
 Item.mk (some 55) none
 (AOp.bin BinOp.eql 9 Cmp.other (Operand.tmp 54)
 (Operand.const (Value.string (ByteArray.mk #[]))))
 [],
 Item.mk (some 56) none (AOp.mov (Operand.tmp 55)) [],
 Item.mk (some 57) (some (56, true)) (AOp.fieldA 2 (Operand.tmp 1)) [],
 Item.mk (some 58) (some (56, true)) (AOp.load none (Operand.tmp 57)) [],
 Item.mk (some 59) (some (56, true))
 (AOp.bin BinOp.geq 3 Cmp.other (Operand.tmp 58)
 (Operand.const (Value.int IntKind.i64 0)))
 [],
 Item.mk (some 60) none
 (AOp.pick (Operand.tmp 56) (Operand.tmp 59)
 (Operand.const (Value.bool false)))
 [],
 Item.mk (some 5) none (AOp.mov (Operand.tmp 60)) []]).seq
 (ACode.row
 [Item.mk (some 61) none (AOp.fieldA 2 (Operand.tmp 1)) [],
 Item.mk (some 62) none (AOp.load none (Operand.tmp 61)) [],
 Item.mk (some 63) none (AOp.call (Operand.func 88) [Operand.tmp 62]) [],
 Item.mk (some 4) none (AOp.mov (Operand.tmp 63)) []]))
 ((ACode.row
 [Item.mk (some 65) none
 (AOp.bin BinOp.eql 110 Cmp.other (Operand.tmp 9)
 (Operand.const (Value.int IntKind.i64 3)))
 [],
 Item.mk (some 64) none (AOp.mov (Operand.tmp 65)) []]).seq
 (ACode.cond (Operand.tmp 64)
 ((ACode.row
 [Item.mk (some 67) none (AOp.mov (Operand.tmp 4)) [],
 Item.mk (some 68) none (AOp.call (Operand.func 89) [Operand.tmp 67]) [],
 Item.mk (some 66) none (AOp.mov (Operand.tmp 68)) [],
 Item.mk (some 69) none (AOp.ext (Operand.tmp 66) 0) [],
 Item.mk (some 70) none (AOp.ext (Operand.tmp 66) 1) [],
 Item.mk (some 4) none (AOp.mov (Operand.tmp 69)) [],
 Item.mk (some 5) none (AOp.mov (Operand.tmp 70)) []]).seq
 (ACode.row
 [Item.mk (some 71) none (AOp.mov (Operand.tmp 5)) [],
 Item.mk (some 72) none (AOp.mov (Operand.tmp 71)) [],
 Item.mk (some 73) (some (72, true)) (AOp.fieldA 2 (Operand.tmp 1)) [],
 Item.mk (some 74) (some (72, true)) (AOp.load none (Operand.tmp 73)) [],
 Item.mk (some 75) (some (72, true))
 (AOp.bin BinOp.eql 3 Cmp.other (Operand.tmp 74)
 (Operand.const (Value.int IntKind.i64 0)))
 [],
 Item.mk (some 76) none
 (AOp.pick (Operand.tmp 72) (Operand.tmp 75)
 (Operand.const (Value.bool false)))
 [],
 Item.mk (some 5) none (AOp.mov (Operand.tmp 76)) []]))
 ACode.skip)))))))))))))).seq
 (((ACode.row
 [Item.mk (some 77) none (AOp.mov (Operand.tmp 5)) [],
 Item.mk (some 78) none (AOp.un UnOp.not (Operand.tmp 77)) []]).seq
 (ACode.cond (Operand.tmp 78)
 ((ACode.row
 [Item.mk (some 2) none (AOp.mov (Operand.const (Value.string (ByteArray.mk #[])))) [],
 Item.mk (some 3) none (AOp.mov (Operand.const (Value.int IntKind.i64 2))) []]).seq
 ACode.ret)
 ACode.skip)).seq
 ((ACode.row
 [Item.mk (some 79) none (AOp.mov (Operand.tmp 4)) [],
 Item.mk (some 2) none (AOp.mov (Operand.tmp 79)) [],
 Item.mk (some 3) none (AOp.mov (Operand.const (Value.int IntKind.i64 0))) []]).seq
 ACode.ret)))))
theorem F63_ok : compFn Tryz.prog (byId h63) 63 = some F63 := by kernel_rfl
def h64 : List (Nat × List (Nat × List Nat) × List Nat) := []
def F64 : AFn :=
 AFn.mk 59 [ARes.tmp 2]
 ((ACode.row
 [Item.mk (some 1) none (AOp.box 25 (Operand.tmp 0)) [],
 Item.mk (some 2) none (AOp.mov (Operand.const (Value.bool false))) []]).seq
 ((ACode.row
 [Item.mk (some 4) none (AOp.fieldA 0 (Operand.tmp 1)) [],
 Item.mk (some 5) none (AOp.load none (Operand.tmp 4)) [],
 Item.mk (some 6) none (AOp.call (Operand.func 90) [Operand.tmp 5]) [],
 Item.mk (some 3) none
 (AOp.alloc 138
 [V.val (Value.string (ByteArray.mk #[])), V.val (Value.int IntKind.i64 0),
 V.val (Value.bool false), V.val (Value.bool false)])
 [],
 Item.mk none none (AOp.store 4 (Operand.tmp 3) (Operand.tmp 6)) []]).seq
 ((ACode.block 0
 ((ACode.row
 [Item.mk (some 8) none (AOp.load (some 4) (Operand.tmp 3)) [],
 Item.mk (some 9) none
 (AOp.build
 [V.val (Value.string (ByteArray.mk #[])), V.val (Value.int IntKind.i64 0),
 V.val (Value.bool false), V.val (Value.bool false)]
 [])
 [],
 Item.mk (some 10) none (AOp.bin BinOp.eql 138 Cmp.other (Operand.tmp 8) (Operand.tmp 9)) [],
 Item.mk (some 11) none (AOp.mov (Operand.tmp 10)) [],
 Item.mk (some 12) (some (11, false)) (AOp.fieldA 2 (Operand.tmp 3)) [],
 Item.mk (some 13) (some (11, false)) (AOp.load none (Operand.tmp 12)) [],
 Item.mk (some 14) (some (11, false)) (AOp.un UnOp.not (Operand.tmp 13)) [],
 Item.mk (some 15) (some (11, false)) (AOp.mov (Operand.tmp 14)) [],
 Item.mk (some 16) (some (15, true)) (AOp.fieldA 1 (Operand.tmp 1)) [],
 Item.mk (some 17) (some (15, true)) (AOp.load none (Operand.tmp 16)) [],
 Item.mk (some 18) (some (15, true))
 (AOp.bin BinOp.neq 3 Cmp.other (Operand.tmp 17)
 (Operand.const (Value.int IntKind.i64 0)))
 [],
 Item.mk (some 19) (some (11, false))
 (AOp.pick (Operand.tmp 15) (Operand.tmp 18) (Operand.const (Value.bool false))) [],
 Item.mk (some 20) none
 (AOp.pick (Operand.tmp 11) (Operand.const (Value.bool true)) (Operand.tmp 19)) [],
 Item.mk (some 21) none (AOp.mov (Operand.tmp 20)) [],
 Item.mk (some 22) (some (21, false)) (AOp.fieldA 3 (Operand.tmp 3)) [],
 Item.mk (some 23) (some (21, false)) (AOp.load none (Operand.tmp 22)) [],
 Item.mk (some 24) (some (21, false)) (AOp.un UnOp.not (Operand.tmp 23)) [],
 Item.mk (some 25) (some (21, false)) (AOp.mov (Operand.tmp 24)) [],
 Item.mk (some 26) (some (25, true)) (AOp.fieldA 2 (Operand.tmp 1)) [],
 Item.mk (some 27) (some (25, true)) (AOp.load none (Operand.tmp 26)) [],
 Item.mk (some 28) (some (25, true))
 (AOp.bin BinOp.neq 9 Cmp.other (Operand.tmp 27) (Operand.const (Value.string (ByteArray.mk #[]))))
 [],
 Item.mk (some 29) (some (21, false))
 (AOp.pick (Operand.tmp 25) (Operand.tmp 28) (Operand.const (Value.bool false))) [],
 Item.mk (some 30) none
 (AOp.pick (Operand.tmp 21) (Operand.const (Value.bool true)) (Operand.tmp 29)) [],
 Item.mk (some 31) none (AOp.mov (Operand.tmp 30)) [],
 Item.mk (some 32) (some (31, false)) (AOp.fieldA 1 (Operand.tmp 1)) [],
 Item.mk (some 33) (some (31, false)) (AOp.load none (Operand.tmp 32)) [],
 Item.mk (some 34) (some (31, false)) (AOp.fieldA 1 (Operand.tmp 3)) [],
 Item.mk (some 35) (some (31, false)) (AOp.load none (Operand.tmp 34)) [],
 Item.mk (some 36) (some (31, false))
 (AOp.bin BinOp.lss 3 Cmp.other (Operand.tmp 33) (Operand.tmp 35)) [],
 Item.mk (some 37) none
 (AOp.pick (Operand.tmp 31) (Operand.const (Value.bool true)) (Operand.tmp 36)) [],
 Item.mk (some 38) none (AOp.mov (Operand.tmp 37)) [],
 Item.mk (some 39) (some (38, false)) (AOp.fieldA 1 (Operand.tmp 1)) [],
 Item.mk (some 40) (some (38, false)) (AOp.load none (Operand.tmp 39)) [],
 Item.mk (some 41) (some (38, false))
 (AOp.bin BinOp.gtr 3 Cmp.other (Operand.tmp 40)
 (Operand.const (Value.int IntKind.i64 4294967296)))
 [],
 Item.mk (some 42) none
 (AOp.pick (Operand.tmp 38) (Operand.const (Value.bool true)) (Operand.tmp 41)) [],
 Item.mk (some 7) none (AOp.mov (Operand.tmp 42)) []]).seq
 (ACode.cond (Operand.tmp 7)
 ((ACode.row [Item.mk (some 2) none (AOp.mov (Operand.const (Value.bool false))) []]).seq ACode.ret)
 ((ACode.row
 [Item.mk (some 44) none (AOp.fieldA 3 (Operand.tmp 3)) [],
 Item.mk (some 45) none (AOp.load none (Operand.tmp 44)) [],
 Item.mk (some 46) none (AOp.un UnOp.not (Operand.tmp 45)) [],
 Item.mk (some 47) none (AOp.mov (Operand.tmp 46)) [],
 Item.mk (some 48) (some (47, false)) (AOp.fieldA 2 (Operand.tmp 3)) [],
 Item.mk (some 49) (some (47, false)) (AOp.load none (Operand.tmp 48)) [],
 Item.mk (some 50) (some (47, false)) (AOp.mov (Operand.tmp 49)) [],
 Item.mk (some 51) (some (50, true)) (AOp.fieldA 2 (Operand.tmp 1)) [],
 Item.mk (some 52) (some (50, true)) (AOp.load none (Operand.tmp 51)) [],
 Item.mk (some 53) (some (50, true))
 (AOp.bin BinOp.eql 9 Cmp.other (Operand.tmp 52)
 (Operand.const (Value.string (ByteArray.mk #[]))))
 [],
 Item.mk (some 54) (some (47, false))
 (AOp.pick (Operand.tmp 50) (Operand.tmp 53) (Operand.const (Value.bool false))) [],
 Item.mk (some 55) none
 (AOp.pick (Operand.tmp 47) (Operand.const (Value.bool true)) (Operand.tmp 54)) [],
 Item.mk (some 43) none (AOp.mov (Operand.tmp 55)) []]).seq
 (ACode.cond (Operand.tmp 43)
 ((ACode.row [Item.mk (some 2) none (AOp.mov (Operand.const (Value.bool true))) []]).seq ACode.ret)
 ACode.skip))))).seq
 ((ACode.row
 [Item.mk (some 56) none (AOp.fieldA 2 (Operand.tmp 1)) [],
 Item.mk (some 57) none (AOp.load none (Operand.tmp 56)) [],
 Item.mk (some 58) none (AOp.call (Operand.func 91) [Operand.tmp 57]) [],
 Item.mk (some 2) none (AOp.mov (Operand.tmp 58)) []]).seq
 ACode.ret))))
theorem F64_ok : compFn Tryz.prog (byId h64) 64 = some F64 := by kernel_rfl
def h65 : List (Nat × List (Nat × List Nat) × List Nat) := []
def F65 : AFn :=
 AFn.mk 9 [ARes.tmp 2]
 ((ACode.row [Item.mk (some 2) none (AOp.mov (Operand.const (Value.bool false))) []]).seq
 ((ACode.row
 [Item.mk (some 3) none (AOp.mov (Operand.tmp 0)) [],
 Item.mk (some 4) none
 (AOp.bin BinOp.lss 3 Cmp.other (Operand.tmp 3) (Operand.const (Value.int IntKind.i64 0)))
 [],
 Item.mk (some 5) none (AOp.mov (Operand.tmp 4)) [],
 Item.mk (some 6) (some (5, true)) (AOp.mov (Operand.tmp 0)) [],
 Item.mk (some 7) (some (5, true))
 (AOp.bin BinOp.geq 3 Cmp.other (Operand.tmp 6)
 (Operand.const (Value.int IntKind.i64 (-2147483647))))
 [],
 Item.mk (some 8) none (AOp.pick (Operand.tmp 5) (Operand.tmp 7) (Operand.const (Value.bool false))) [],
 Item.mk (some 2) none (AOp.mov (Operand.tmp 8)) []]).seq
 ACode.ret))
theorem F65_ok : compFn Tryz.prog (byId h65) 65 = some F65 := by kernel_rfl
def h66 : List (Nat × List (Nat × List Nat) × List Nat) := []
def F66 : AFn :=
 AFn.mk 9 [ARes.tmp 2]
 ((ACode.row [Item.mk (some 2) none (AOp.mov (Operand.const (Value.bool false))) []]).seq
 ((ACode.row
 [Item.mk (some 3) none (AOp.mov (Operand.tmp 0)) [],
 Item.mk (some 4) none
 (AOp.bin BinOp.geq 3 Cmp.other (Operand.tmp 3) (Operand.const (Value.int IntKind.i64 0)))
 [],
 Item.mk (some 5) none (AOp.mov (Operand.tmp 4)) [],
 Item.mk (some 6) (some (5, true)) (AOp.mov (Operand.tmp 0)) [],
 Item.mk (some 7) (some (5, true))
 (AOp.bin BinOp.lss 3 Cmp.other (Operand.tmp 6) (Operand.const (Value.int IntKind.i64 15)))
 [],
 Item.mk (some 8) none (AOp.pick (Operand.tmp 5) (Operand.tmp 7) (Operand.const (Value.bool false))) [],
 Item.mk (some 2) none (AOp.mov (Operand.tmp 8)) []]).seq
 ACode.ret))
theorem F66_ok : compFn Tryz.prog (byId h66) 66 = some F66 := by kernel_rfl
def h67 : List (Nat × List (Nat × List Nat) × List Nat) := []
def F67 : AFn :=
 AFn.mk 44 [ARes.tmp 2]
 ((ACode.row
 [Item.mk (some 1) none (AOp.box 31 (Operand.tmp 0)) [],
 Item.mk (some 2) none (AOp.mov (Operand.const (Value.int IntKind.i64 0))) []]).seq
 ((ACode.row
 [Item.mk (some 4) none (AOp.fieldA 2 (Operand.tmp 1)) [],
 Item.mk (some 5) none (AOp.load none (Operand.tmp 4)) [],
 Item.mk (some 6) none (AOp.len false (Operand.tmp 5)) [],
 Item.mk (some 3) none (AOp.mov (Operand.tmp 6)) []]).seq
 (((ACode.row
 [Item.mk (some 7) none (AOp.fieldA 0 (Operand.tmp 1)) [],
 Item.mk (some 8) none (AOp.load none (Operand.tmp 7)) [],
 Item.mk (some 9) none
 (AOp.bin BinOp.lss 3 Cmp.other (Operand.tmp 8)
 (Operand.const (Value.int IntKind.i64 0)))
 [],
 Item.mk (some 10) none (AOp.mov (Operand.tmp 9)) [],
 Item.mk (some 11) (some (10, false)) (AOp.fieldA 0 (Operand.tmp 1)) [],
 Item.mk (some 12) (some (10, false)) (AOp.load none (Operand.tmp 11)) [],
 Item.mk (some 13) (some (10, false))
 (AOp.bin BinOp.gtr 3 Cmp.other (Operand.tmp 12)
 (Operand.const (Value.int IntKind.i64 2147483647)))
 [],
 Item.mk (some 14) none (AOp.pick (Operand.tmp 10) (Operand.const (Value.bool true)) (Operand.tmp 13))
 [],
 Item.mk (some 15) none (AOp.mov (Operand.tmp 14)) [],
 Item.mk (some 16) (some (15, false)) (AOp.fieldA 1 (Operand.tmp 1)) [],
 Item.mk (some 17) (some (15, false)) (AOp.load none (Operand.tmp 16)) [],
 Item.mk (some 18) (some (15, false)) (AOp.len true (Operand.tmp 17)) [],
 Item.mk (some 19) (some (15, false))
 (AOp.bin BinOp.gtr 3 Cmp.other (Operand.tmp 18)
 (Operand.const (Value.int IntKind.i64 65536)))
 [],
 Item.mk (some 20) none (AOp.pick (Operand.tmp 15) (Operand.const (Value.bool true)) (Operand.tmp 19))
 [],
 Item.mk (some 21) none (AOp.mov (Operand.tmp 20)) [],
 Item.mk (some 22) (some (21, false)) (AOp.fieldA 1 (Operand.tmp 1)) [],
 Item.mk (some 23) (some (21, false)) (AOp.load none (Operand.tmp 22)) [],
 Item.mk (some 24) (some (21, false))
 (AOp.bin BinOp.eql 9 Cmp.other (Operand.tmp 23) (Operand.const (Value.string (ByteArray.mk #[]))))
 [],
 Item.mk (some 25) (some (21, false)) (AOp.fieldA 0 (Operand.tmp 1)) [],
 Item.mk (some 26) (some (21, false)) (AOp.load none (Operand.tmp 25)) [],
 Item.mk (some 27) (some (21, false))
 (AOp.bin BinOp.eql 3 Cmp.other (Operand.tmp 26)
 (Operand.const (Value.int IntKind.i64 0)))
 [],
 Item.mk (some 28) (some (21, false)) (AOp.bin BinOp.neq 4 Cmp.other (Operand.tmp 24) (Operand.tmp 27))
 [],
 Item.mk (some 29) none (AOp.pick (Operand.tmp 21) (Operand.const (Value.bool true)) (Operand.tmp 28))
 [],
 Item.mk (some 30) none (AOp.mov (Operand.tmp 29)) [],
 Item.mk (some 31) (some (30, false)) (AOp.mov (Operand.tmp 3)) [],
 Item.mk (some 32) (some (30, false))
 (AOp.bin BinOp.gtr 3 Cmp.other (Operand.tmp 31)
 (Operand.const (Value.int IntKind.i64 64)))
 [],
 Item.mk (some 33) none (AOp.pick (Operand.tmp 30) (Operand.const (Value.bool true)) (Operand.tmp 32))
 [],
 Item.mk (some 34) none (AOp.mov (Operand.tmp 33)) [],
 Item.mk (some 35) (some (34, false)) (AOp.mov (Operand.tmp 3)) [],
 Item.mk (some 36) (some (34, false)) (AOp.fieldA 0 (Operand.tmp 1)) [],
 Item.mk (some 37) (some (34, false)) (AOp.load none (Operand.tmp 36)) [],
 Item.mk (some 38) (some (34, false))
 (AOp.bin BinOp.sub 3 Cmp.other (Operand.const (Value.int IntKind.i64 2147483647))
 (Operand.tmp 37))
 [],
 Item.mk (some 39) (some (34, false)) (AOp.bin BinOp.gtr 3 Cmp.other (Operand.tmp 35) (Operand.tmp 38))
 [],
 Item.mk (some 40) none (AOp.pick (Operand.tmp 34) (Operand.const (Value.bool true)) (Operand.tmp 39))
 []]).seq
 (ACode.cond (Operand.tmp 40)
 ((ACode.row
 [Item.mk (some 2) none (AOp.mov (Operand.const (Value.int IntKind.i64 4))) []]).seq
 ACode.ret)
 ACode.skip)).seq
 (((ACode.row
 [Item.mk (some 41) none (AOp.fieldA 2 (Operand.tmp 1)) [],
 Item.mk (some 42) none (AOp.load none (Operand.tmp 41)) [],
 Item.mk (some 43) none (AOp.call (Operand.func 92) [Operand.tmp 42, Operand.func 93]) []]).seq
 (ACode.cond (Operand.tmp 43)
 ((ACode.row
 [Item.mk (some 2) none (AOp.mov (Operand.const (Value.int IntKind.i64 4))) []]).seq
 ACode.ret)
 ACode.skip)).seq
 ((ACode.row [Item.mk (some 2) none (AOp.mov (Operand.const (Value.int IntKind.i64 0))) []]).seq
 ACode.ret)))))
theorem F67_ok : compFn Tryz.prog (byId h67) 67 = some F67 := by kernel_rfl
def h68 : List (Nat × List (Nat × List Nat) × List Nat) := []
def F68 : AFn :=
 AFn.mk 10 [ARes.tmp 2]
 ((ACode.row [Item.mk (some 2) none (AOp.mov (Operand.const (Value.int IntKind.u64 0))) []]).seq
 ((ACode.row
 [Item.mk (some 3) none (AOp.mov (Operand.tmp 0)) [],
 Item.mk (some 4) none (AOp.conv 3 115 (Operand.tmp 3)) [],
 Item.mk (some 5) none
 (AOp.bin BinOp.shl 115 Cmp.other (Operand.tmp 4) (Operand.const (Value.int IntKind.u64 1)))
 [],
 Item.mk (some 6) none (AOp.mov (Operand.tmp 0)) [],
 Item.mk (some 7) none
 (AOp.bin BinOp.shr 3 Cmp.other (Operand.tmp 6) (Operand.const (Value.int IntKind.u64 63)))
 [],
 Item.mk (some 8) none (AOp.conv 3 115 (Operand.tmp 7)) [],
 Item.mk (some 9) none (AOp.bin BinOp.xor 115 Cmp.other (Operand.tmp 5) (Operand.tmp 8)) [],
 Item.mk (some 2) none (AOp.mov (Operand.tmp 9)) []]).seq
 ACode.ret))
theorem F68_ok : compFn Tryz.prog (byId h68) 68 = some F68 := by kernel_rfl
def h69 : List (Nat × List (Nat × List Nat) × List Nat) := []
def F69 : AFn :=
 AFn.mk 18 [ARes.tmp 4]
 ((ACode.row
 [Item.mk (some 4) none (AOp.mov (Operand.const (Value.slice none 0 0))) []]).seq
 (((ACode.row
 [Item.mk (some 7) none (AOp.mov (Operand.tmp 1)) [],
 Item.mk (some 8) none (AOp.len false (Operand.tmp 7)) [],
 Item.mk (some 9) none (AOp.mov (Operand.const (Value.int IntKind.i64 0))) []]).seq
 (ACode.block 0
 ((ACode.row [Item.mk (some 10) none (AOp.bin BinOp.lss 3 Cmp.other (Operand.tmp 9) (Operand.tmp 8)) []]).seq
 ((ACode.cond (Operand.tmp 10) ACode.skip (ACode.exit 0)).seq
 ((ACode.block 1
 ((ACode.row
 [Item.mk (some 11) none (AOp.idxL 1 (Operand.tmp 7) (Operand.tmp 9)) [],
 Item.mk (some 12) none (AOp.load none (Operand.tmp 11)) [],
 Item.mk (some 6) none (AOp.mov (Operand.tmp 12)) []]).seq
 (ACode.row
 [Item.mk (some 13) none (AOp.mov (Operand.tmp 0)) [],
 Item.mk (some 14) none (AOp.mov (Operand.tmp 6)) [],
 Item.mk (some 15) none (AOp.call (Operand.func 53) [Operand.tmp 13, Operand.tmp 14]) [],
 Item.mk (some 0) none (AOp.mov (Operand.tmp 15)) []]))).seq
 (ACode.row
 [Item.mk (some 16) none
 (AOp.bin BinOp.add 3 Cmp.other (Operand.tmp 9)
 (Operand.const (Value.int IntKind.i64 1)))
 [],
 Item.mk (some 9) none (AOp.mov (Operand.tmp 16)) []])))).loop)).seq
 ((ACode.row
 [Item.mk (some 17) none (AOp.mov (Operand.tmp 0)) [],
 Item.mk (some 4) none (AOp.mov (Operand.tmp 17)) []]).seq
 ACode.ret)))
theorem F69_ok : compFn Tryz.prog (byId h69) 69 = some F69 := by kernel_rfl
def h70 : List (Nat × List (Nat × List Nat) × List Nat) := [(1, [(0, []), (1, []), (2, []), (4, []), (5, []), (7, []), (8, []), (3, [5, 8]), (6, [8]), (9, []), (10, [])],
 [0, 0, 2, 7, 0, 16, 63, 0, 128, 511, 1023])]
def F70 : AFn :=
 AFn.mk 15 [ARes.tmp 4]
 ((ACode.row
 [Item.mk (some 3) none (AOp.box 25 (Operand.tmp 1)) [],
 Item.mk (some 4) none (AOp.mov (Operand.const (Value.slice none 0 0))) []]).seq
 ((ACode.row
 [Item.mk (some 5) none (AOp.mov (Operand.tmp 0)) [], Item.mk (some 6) none (AOp.fieldA 0 (Operand.tmp 3)) [],
 Item.mk (some 7) none (AOp.load none (Operand.tmp 6)) [],
 Item.mk (some 9) none (AOp.fieldA 1 (Operand.tmp 3)) [],
 Item.mk (some 10) none (AOp.load none (Operand.tmp 9)) [],
 Item.mk (some 12) none (AOp.fieldA 2 (Operand.tmp 3)) [],
 Item.mk (some 13) none (AOp.load none (Operand.tmp 12)) [],
 Item.mk (some 8) none (AOp.call (Operand.func 53) [Operand.tmp 5, Operand.tmp 7])
 [(10, none, AOp.load none (Operand.tmp 9)), (13, none, AOp.load none (Operand.tmp 12))],
 Item.mk (some 11) none (AOp.call (Operand.func 53) [Operand.tmp 8, Operand.tmp 10])
 [(13, none, AOp.load none (Operand.tmp 12))],
 Item.mk (some 14) none (AOp.call (Operand.func 58) [Operand.tmp 11, Operand.tmp 13]) [],
 Item.mk (some 4) none (AOp.mov (Operand.tmp 14)) []]).seq
 ACode.ret))
theorem F70_ok : compFn Tryz.prog (byId h70) 70 = some F70 := by kernel_rfl
def h71 : List (Nat × List (Nat × List Nat) × List Nat) := []
def F71 : AFn :=
 AFn.mk 17 [ARes.cell 2 (some 4)]
 ((ACode.row
 [Item.mk (some 2) none
 (AOp.alloc 121
 [V.val (Value.int IntKind.u8 0), V.val (Value.int IntKind.u8 0),
 V.val (Value.int IntKind.u8 0), V.val (Value.int IntKind.u8 0)])
 []]).seq
 ((ACode.row
 [Item.mk (some 3) none
 (AOp.alloc 121
 [V.val (Value.int IntKind.u8 0), V.val (Value.int IntKind.u8 0),
 V.val (Value.int IntKind.u8 0), V.val (Value.int IntKind.u8 0)])
 []]).seq
 (((ACode.row [Item.mk (some 5) none (AOp.mov (Operand.const (Value.int IntKind.i64 0))) []]).seq
 (ACode.block 0
 ((ACode.row
 [Item.mk (some 6) none
 (AOp.bin BinOp.lss 3 Cmp.other (Operand.tmp 5)
 (Operand.const (Value.int IntKind.i64 4)))
 []]).seq
 ((ACode.cond (Operand.tmp 6) ACode.skip (ACode.exit 0)).seq
 ((ACode.block 1
 ((ACode.row
 [Item.mk (some 7) none (AOp.mov (Operand.tmp 5)) [],
 Item.mk (some 4) none (AOp.mov (Operand.tmp 7)) []]).seq
 (ACode.row
 [Item.mk (some 8) none (AOp.mov (Operand.tmp 4)) [],
 Item.mk (some 9) none (AOp.mov (Operand.tmp 0)) [],
 Item.mk (some 10) none (AOp.mov (Operand.tmp 4)) [],
 Item.mk (some 11) none
 (AOp.bin BinOp.mul 3 Cmp.other (Operand.const (Value.int IntKind.i64 8))
 (Operand.tmp 10))
 [],
 Item.mk (some 12) none
 (AOp.bin BinOp.shr 123 Cmp.other (Operand.tmp 9) (Operand.tmp 11)) [],
 Item.mk (some 13) none (AOp.conv 123 5 (Operand.tmp 12)) [],
 Item.mk (some 14) none (AOp.idxA 4 1 (Operand.tmp 3) (Operand.tmp 8)) [],
 Item.mk none none (AOp.store 1 (Operand.tmp 14) (Operand.tmp 13)) []]))).seq
 (ACode.row
 [Item.mk (some 15) none
 (AOp.bin BinOp.add 3 Cmp.other (Operand.tmp 5)
 (Operand.const (Value.int IntKind.i64 1)))
 [],
 Item.mk (some 5) none (AOp.mov (Operand.tmp 15)) []])))).loop)).seq
 ((ACode.row
 [Item.mk (some 16) none (AOp.load (some 4) (Operand.tmp 3)) [],
 Item.mk none none (AOp.store 4 (Operand.tmp 2) (Operand.tmp 16)) []]).seq
 ACode.ret))))
theorem F71_ok : compFn Tryz.prog (byId h71) 71 = some F71 := by kernel_rfl
def h72 : List (Nat × List (Nat × List Nat) × List Nat) := []
def F72 : AFn :=
 AFn.mk 33 [ARes.tmp 4]
 ((ACode.row [Item.mk (some 4) none (AOp.mov (Operand.const (Value.int IntKind.u32 0))) []]).seq
 ((ACode.row
 [Item.mk (some 8) none (AOp.mov (Operand.tmp 0)) [],
 Item.mk (some 9) none (AOp.un UnOp.xor (Operand.tmp 8)) [],
 Item.mk (some 5) none (AOp.mov (Operand.tmp 9)) []]).seq
 (((ACode.row
 [Item.mk (some 10) none (AOp.mov (Operand.tmp 1)) [],
 Item.mk (some 11) none (AOp.len false (Operand.tmp 10)) [],
 Item.mk (some 12) none (AOp.mov (Operand.const (Value.int IntKind.i64 0))) []]).seq
 (ACode.block 0
 ((ACode.row
 [Item.mk (some 13) none (AOp.bin BinOp.lss 3 Cmp.other (Operand.tmp 12) (Operand.tmp 11)) []]).seq
 ((ACode.cond (Operand.tmp 13) ACode.skip (ACode.exit 0)).seq
 ((ACode.block 1
 ((ACode.row
 [Item.mk (some 14) none (AOp.idxL 1 (Operand.tmp 10) (Operand.tmp 12)) [],
 Item.mk (some 15) none (AOp.load none (Operand.tmp 14)) [],
 Item.mk (some 7) none (AOp.mov (Operand.tmp 15)) []]).seq
 ((ACode.row
 [Item.mk (some 16) none (AOp.mov (Operand.tmp 5)) [],
 Item.mk (some 17) none (AOp.mov (Operand.tmp 7)) [],
 Item.mk (some 18) none (AOp.conv 5 123 (Operand.tmp 17)) [],
 Item.mk (some 19) none
 (AOp.bin BinOp.xor 123 Cmp.other (Operand.tmp 16) (Operand.tmp 18)) [],
 Item.mk (some 5) none (AOp.mov (Operand.tmp 19)) []]).seq
 ((ACode.row
 [Item.mk (some 20) none
 (AOp.mov (Operand.const (Value.int IntKind.i64 0))) []]).seq
 (ACode.block 2
 ((ACode.row
 [Item.mk (some 21) none
 (AOp.bin BinOp.lss 3 Cmp.other (Operand.tmp 20)
 (Operand.const (Value.int IntKind.i64 8)))
 []]).seq
 ((ACode.cond (Operand.tmp 21) ACode.skip (ACode.exit 2)).seq
 ((ACode.block 3
 (ACode.row
 [Item.mk (some 22) none (AOp.mov (Operand.tmp 5)) [],
 Item.mk (some 23) none
 (AOp.bin BinOp.shr 123 Cmp.other (Operand.tmp 22)
 (Operand.const (Value.int IntKind.u64 1)))
 [],
 Item.mk (some 24) none (AOp.mov (Operand.tmp 5)) [],
 Item.mk (some 25) none
 (AOp.bin BinOp.and 123 Cmp.other (Operand.tmp 24)
 (Operand.const (Value.int IntKind.u32 1)))
 [],
 Item.mk (some 26) none (AOp.un UnOp.neg (Operand.tmp 25)) [],
 Item.mk (some 27) none
 (AOp.bin BinOp.and 123 Cmp.other (Operand.tmp 26)
 (Operand.const (Value.int IntKind.u32 3988292384)))
 [],
 Item.mk (some 28) none
 (AOp.bin BinOp.xor 123 Cmp.other (Operand.tmp 23) (Operand.tmp 27))
 [],
 Item.mk (some 5) none (AOp.mov (Operand.tmp 28)) []])).seq
 (ACode.row
 [Item.mk (some 29) none
 (AOp.bin BinOp.add 3 Cmp.other (Operand.tmp 20)
 (Operand.const (Value.int IntKind.i64 1)))
 [],
 Item.mk (some 20) none (AOp.mov (Operand.tmp 29)) []])))).loop))))).seq
 (ACode.row
 [Item.mk (some 30) none
 (AOp.bin BinOp.add 3 Cmp.other (Operand.tmp 12)
 (Operand.const (Value.int IntKind.i64 1)))
 [],
 Item.mk (some 12) none (AOp.mov (Operand.tmp 30)) []])))).loop)).seq
 ((ACode.row
 [Item.mk (some 31) none (AOp.mov (Operand.tmp 5)) [],
 Item.mk (some 32) none (AOp.un UnOp.xor (Operand.tmp 31)) [],
 Item.mk (some 4) none (AOp.mov (Operand.tmp 32)) []]).seq
 ACode.ret))))
theorem F72_ok : compFn Tryz.prog (byId h72) 72 = some F72 := by kernel_rfl
def h73 : List (Nat × List (Nat × List Nat) × List Nat) := []
def F73 : AFn :=
 AFn.mk 5 [ARes.tmp 2]
 ((ACode.row [Item.mk (some 2) none (AOp.mov (Operand.const (Value.int IntKind.u32 0))) []]).seq
 ((ACode.row
 [Item.mk (some 3) none (AOp.mov (Operand.tmp 0)) [],
 Item.mk (some 4) none
 (AOp.call (Operand.func 72) [Operand.const (Value.int IntKind.u32 0), Operand.tmp 3]) [],
 Item.mk (some 2) none (AOp.mov (Operand.tmp 4)) []]).seq
 ACode.ret))
theorem F73_ok : compFn Tryz.prog (byId h73) 73 = some F73 := by kernel_rfl
def h74 : List (Nat × List (Nat × List Nat) × List Nat) := []
def F74 : AFn :=
 AFn.mk 36 [ARes.tmp 2]
 ((ACode.row
 [Item.mk (some 2) none (AOp.mov (Operand.const (Value.slice none 0 0))) []]).seq
 ((ACode.row [Item.mk (some 3) none (AOp.mov (Operand.const (Value.int IntKind.i64 0))) []]).seq
 (((ACode.row
 [Item.mk (some 9) none (AOp.mov (Operand.tmp 0)) [],
 Item.mk (some 10) none (AOp.len false (Operand.tmp 9)) [],
 Item.mk (some 11) none (AOp.mov (Operand.const (Value.int IntKind.i64 0))) []]).seq
 (ACode.block 0
 ((ACode.row
 [Item.mk (some 12) none (AOp.bin BinOp.lss 3 Cmp.other (Operand.tmp 11) (Operand.tmp 10)) []]).seq
 ((ACode.cond (Operand.tmp 12) ACode.skip (ACode.exit 0)).seq
 ((ACode.block 1
 ((ACode.row
 [Item.mk (some 13) none (AOp.idxL 1 (Operand.tmp 9) (Operand.tmp 11)) [],
 Item.mk (some 14) none (AOp.load none (Operand.tmp 13)) [],
 Item.mk (some 5) none (AOp.mov (Operand.tmp 14)) []]).seq
 ((ACode.row
 [Item.mk (some 15) none (AOp.mov (Operand.tmp 3)) [],
 Item.mk (some 16) none (AOp.mov (Operand.tmp 5)) [],
 Item.mk (some 17) none (AOp.len false (Operand.tmp 16)) [],
 Item.mk (some 18) none
 (AOp.bin BinOp.add 3 Cmp.other (Operand.tmp 15) (Operand.tmp 17)) [],
 Item.mk (some 3) none (AOp.mov (Operand.tmp 18)) []]).seq
 ((ACode.row
 [Item.mk (some 19) none (AOp.mov (Operand.tmp 3)) [],
 Item.mk (some 20) none
 (AOp.bin BinOp.lss 3 Cmp.other (Operand.tmp 19)
 (Operand.const (Value.int IntKind.i64 0)))
 []]).seq
 (ACode.cond (Operand.tmp 20)
 (ACode.row
 [Item.mk (some 21) none
 (AOp.mki 9
 (Operand.const
 (Value.string
 (ByteArray.mk
 #[108, 101, 110, 32,
 111, 117, 116, 32,
 111, 102, 32, 114,
 97, 110, 103, 101]))))
 [],
 Item.mk none none (AOp.panic (Operand.tmp 21)) []])
 ACode.skip))))).seq
 (ACode.row
 [Item.mk (some 22) none
 (AOp.bin BinOp.add 3 Cmp.other (Operand.tmp 11)
 (Operand.const (Value.int IntKind.i64 1)))
 [],
 Item.mk (some 11) none (AOp.mov (Operand.tmp 22)) []])))).loop)).seq
 ((ACode.row
 [Item.mk (some 23) none (AOp.mov (Operand.tmp 3)) [],
 Item.mk (some 24) none
 (AOp.call (Operand.func 94)
 [Operand.const (Value.slice none 0 0), Operand.tmp 23])
 [],
 Item.mk (some 6) none (AOp.mov (Operand.tmp 24)) []]).seq
 (((ACode.row
 [Item.mk (some 25) none (AOp.mov (Operand.tmp 0)) [],
 Item.mk (some 26) none (AOp.len false (Operand.tmp 25)) [],
 Item.mk (some 27) none (AOp.mov (Operand.const (Value.int IntKind.i64 0))) []]).seq
 (ACode.block 2
 ((ACode.row
 [Item.mk (some 28) none (AOp.bin BinOp.lss 3 Cmp.other (Operand.tmp 27) (Operand.tmp 26))
 []]).seq
 ((ACode.cond (Operand.tmp 28) ACode.skip (ACode.exit 2)).seq
 ((ACode.block 3
 ((ACode.row
 [Item.mk (some 29) none (AOp.idxL 1 (Operand.tmp 25) (Operand.tmp 27)) [],
 Item.mk (some 30) none (AOp.load none (Operand.tmp 29)) [],
 Item.mk (some 8) none (AOp.mov (Operand.tmp 30)) []]).seq
 (ACode.row
 [Item.mk (some 31) none (AOp.mov (Operand.tmp 6)) [],
 Item.mk (some 32) none (AOp.mov (Operand.tmp 8)) [],
 Item.mk (some 33) none (AOp.app 5 1 1 (Operand.tmp 31) (Operand.tmp 32)) [],
 Item.mk (some 6) none (AOp.mov (Operand.tmp 33)) []]))).seq
 (ACode.row
 [Item.mk (some 34) none
 (AOp.bin BinOp.add 3 Cmp.other (Operand.tmp 27)
 (Operand.const (Value.int IntKind.i64 1)))
 [],
 Item.mk (some 27) none (AOp.mov (Operand.tmp 34)) []])))).loop)).seq
 ((ACode.row
 [Item.mk (some 35) none (AOp.mov (Operand.tmp 6)) [],
 Item.mk (some 2) none (AOp.mov (Operand.tmp 35)) []]).seq
 ACode.ret))))))
theorem F74_ok : compFn Tryz.prog (byId h74) 74 = some F74 := by kernel_rfl
def h75 : List (Nat × List (Nat × List Nat) × List Nat) := []
def F75 : AFn :=
 AFn.mk 7 [ARes.tmp 2]
 ((ACode.row [Item.mk (some 2) none (AOp.mov (Operand.const (Value.pointer none))) []]).seq
 ((ACode.row
 [Item.mk (some 3) none (AOp.mov (Operand.tmp 0)) [], Item.mk (some 4) none (AOp.b2s (Operand.tmp 3)) [],
 Item.mk (some 5) none
 (AOp.build
 [V.val (Value.bool false), V.val (Value.string (ByteArray.mk #[])),
 V.val (Value.int IntKind.i64 0), V.val (Value.int IntKind.i64 0)]
 [(0, 1, Operand.const (Value.bool true)), (1, 1, Operand.tmp 4)])
 [],
 Item.mk (some 6) none (AOp.box 143 (Operand.tmp 5)) [],
 Item.mk (some 2) none (AOp.mov (Operand.tmp 6)) []]).seq
 ACode.ret))
theorem F75_ok : compFn Tryz.prog (byId h75) 75 = some F75 := by kernel_rfl
def h76 : List (Nat × List (Nat × List Nat) × List Nat) := []
def F76 : AFn :=
 AFn.mk 8 [ARes.tmp 4]
 ((ACode.row
 [Item.mk (some 3) none (AOp.box 3 (Operand.tmp 1)) [],
 Item.mk (some 4) none (AOp.mov (Operand.const (Value.int IntKind.i64 0))) []]).seq
 ((ACode.row
 [Item.mk (some 5) none (AOp.mov (Operand.tmp 0)) [],
 Item.mk (some 6) none (AOp.mkf (Fn.func 96) [] [Operand.tmp 3]) [],
 Item.mk (some 7) none (AOp.call (Operand.func 95) [Operand.tmp 5, Operand.tmp 6]) [],
 Item.mk (some 4) none (AOp.mov (Operand.tmp 7)) []]).seq
 ACode.ret))
theorem F76_ok : compFn Tryz.prog (byId h76) 76 = some F76 := by kernel_rfl
def h77 : List (Nat × List (Nat × List Nat) × List Nat) := []
def F77 : AFn :=
 AFn.mk 16 [ARes.tmp 2]
 ((ACode.row [Item.mk (some 2) none (AOp.mov (Operand.const (Value.int IntKind.i64 0))) []]).seq
 (((ACode.row
 [Item.mk (some 3) none (AOp.mov (Operand.tmp 0)) [],
 Item.mk (some 4) none
 (AOp.bin BinOp.eql 127 Cmp.pointer (Operand.tmp 3) (Operand.const (Value.pointer none))) [],
 Item.mk (some 5) none (AOp.mov (Operand.tmp 4)) [],
 Item.mk (some 6) (some (5, false)) (AOp.mov (Operand.tmp 0)) [],
 Item.mk (some 7) (some (5, false)) (AOp.nilc (Operand.tmp 6)) [],
 Item.mk (some 8) (some (5, false)) (AOp.fieldA 0 (Operand.tmp 7)) [],
 Item.mk (some 9) (some (5, false)) (AOp.load none (Operand.tmp 8)) [],
 Item.mk (some 10) (some (5, false)) (AOp.un UnOp.not (Operand.tmp 9)) [],
 Item.mk (some 11) none (AOp.pick (Operand.tmp 5) (Operand.const (Value.bool true)) (Operand.tmp 10))
 []]).seq
 (ACode.cond (Operand.tmp 11)
 ((ACode.row
 [Item.mk (some 2) none (AOp.mov (Operand.const (Value.int IntKind.i64 1))) []]).seq
 ACode.ret)
 ACode.skip)).seq
 ((ACode.row
 [Item.mk (some 12) none (AOp.mov (Operand.tmp 0)) [], Item.mk (some 13) none (AOp.nilc (Operand.tmp 12)) [],
 Item.mk (some 14) none (AOp.fieldA 3 (Operand.tmp 13)) [],
 Item.mk (some 15) none (AOp.load none (Operand.tmp 14)) [],
 Item.mk (some 2) none (AOp.mov (Operand.tmp 15)) []]).seq
 ACode.ret)))
theorem F77_ok : compFn Tryz.prog (byId h77) 77 = some F77 := by kernel_rfl
def h78 : List (Nat × List (Nat × List Nat) × List Nat) := []
def F78 : AFn :=
 AFn.mk 9 [ARes.tmp 2]
 ((ACode.row [Item.mk (some 2) none (AOp.mov (Operand.const (Value.int IntKind.i64 0))) []]).seq
 (((ACode.row
 [Item.mk (some 3) none (AOp.mov (Operand.tmp 0)) [],
 Item.mk (some 4) none
 (AOp.bin BinOp.eql 127 Cmp.pointer (Operand.tmp 3) (Operand.const (Value.pointer none))) []]).seq
 (ACode.cond (Operand.tmp 4)
 ((ACode.row
 [Item.mk (some 2) none (AOp.mov (Operand.const (Value.int IntKind.i64 0))) []]).seq
 ACode.ret)
 ACode.skip)).seq
 ((ACode.row
 [Item.mk (some 5) none (AOp.mov (Operand.tmp 0)) [], Item.mk (some 6) none (AOp.nilc (Operand.tmp 5)) [],
 Item.mk (some 7) none (AOp.fieldA 2 (Operand.tmp 6)) [],
 Item.mk (some 8) none (AOp.load none (Operand.tmp 7)) [],
 Item.mk (some 2) none (AOp.mov (Operand.tmp 8)) []]).seq
 ACode.ret)))
theorem F78_ok : compFn Tryz.prog (byId h78) 78 = some F78 := by kernel_rfl
def h79 : List (Nat × List (Nat × List Nat) × List Nat) := []
def F79 : AFn :=
 AFn.mk 5 [ARes.tmp 2]
 ((ACode.row [Item.mk (some 2) none (AOp.mov (Operand.const (Value.int IntKind.i64 0))) []]).seq
 ((ACode.row
 [Item.mk (some 3) none (AOp.mov (Operand.tmp 0)) [],
 Item.mk (some 4) none (AOp.call (Operand.func 95) [Operand.tmp 3, Operand.func 98]) [],
 Item.mk (some 2) none (AOp.mov (Operand.tmp 4)) []]).seq
 ACode.ret))
theorem F79_ok : compFn Tryz.prog (byId h79) 79 = some F79 := by kernel_rfl
def h80 : List (Nat × List (Nat × List Nat) × List Nat) := []
def F80 : AFn :=
 AFn.mk 7 []
 (ACode.row
 [Item.mk (some 3) none (AOp.mov (Operand.tmp 0)) [], Item.mk (some 4) none (AOp.load none (Operand.tmp 1)) [],
 Item.mk (some 5) none (AOp.call (Operand.func 79) [Operand.tmp 4]) [],
 Item.mk (some 6) none (AOp.nilc (Operand.tmp 3)) [],
 Item.mk none none (AOp.store 1 (Operand.tmp 6) (Operand.tmp 5)) []])
theorem F80_ok : compFn Tryz.prog (byId h80) 80 = some F80 := by kernel_rfl
def h81 : List (Nat × List (Nat × List Nat) × List Nat) := []
def F81 : AFn :=
 AFn.mk 24 [ARes.cell 2 (some 8)]
 ((ACode.row
 [Item.mk (some 2) none
 (AOp.alloc 27
 [V.val (Value.int IntKind.i64 0), V.val (Value.int IntKind.i64 0),
 V.val (Value.int IntKind.i64 0), V.val (Value.int IntKind.i64 0),
 V.val (Value.string (ByteArray.mk #[])), V.val (Value.int IntKind.i64 0),
 V.val (Value.int IntKind.i64 0), V.val (Value.string (ByteArray.mk #[]))])
 []]).seq
 ((ACode.row
 [Item.mk (some 4) none (AOp.mov (Operand.tmp 0)) [],
 Item.mk (some 5) none (AOp.call (Operand.func 79) [Operand.tmp 4]) [],
 Item.mk (some 6) none (AOp.mov (Operand.tmp 0)) [],
 Item.mk (some 7) none (AOp.call (Operand.func 79) [Operand.tmp 6]) [],
 Item.mk (some 8) none (AOp.mov (Operand.tmp 0)) [],
 Item.mk (some 9) none (AOp.call (Operand.func 79) [Operand.tmp 8]) [],
 Item.mk (some 10) none (AOp.mov (Operand.tmp 0)) [],
 Item.mk (some 11) none (AOp.call (Operand.func 79) [Operand.tmp 10]) [],
 Item.mk (some 12) none
 (AOp.build
 [V.val (Value.int IntKind.i64 0), V.val (Value.int IntKind.i64 0),
 V.val (Value.int IntKind.i64 0), V.val (Value.int IntKind.i64 0),
 V.val (Value.string (ByteArray.mk #[])), V.val (Value.int IntKind.i64 0),
 V.val (Value.int IntKind.i64 0), V.val (Value.string (ByteArray.mk #[]))]
 [(0, 1, Operand.tmp 5), (1, 1, Operand.tmp 7), (2, 1, Operand.tmp 9), (3, 1, Operand.tmp 11)])
 [],
 Item.mk (some 3) none
 (AOp.alloc 27
 [V.val (Value.int IntKind.i64 0), V.val (Value.int IntKind.i64 0),
 V.val (Value.int IntKind.i64 0), V.val (Value.int IntKind.i64 0),
 V.val (Value.string (ByteArray.mk #[])), V.val (Value.int IntKind.i64 0),
 V.val (Value.int IntKind.i64 0), V.val (Value.string (ByteArray.mk #[]))])
 [],
 Item.mk none none (AOp.store 8 (Operand.tmp 3) (Operand.tmp 12)) []]).seq
 ((ACode.row
 [Item.mk (some 13) none (AOp.mov (Operand.tmp 0)) [],
 Item.mk (some 14) none
 (AOp.call (Operand.func 83) [Operand.tmp 13, Operand.const (Value.int IntKind.i64 255)])
 [],
 Item.mk (some 15) none (AOp.fieldA 4 (Operand.tmp 3)) [],
 Item.mk none none (AOp.store 1 (Operand.tmp 15) (Operand.tmp 14)) []]).seq
 ((ACode.row
 [Item.mk (some 16) none (AOp.mov (Operand.tmp 0)) [],
 Item.mk (some 17) none (AOp.call (Operand.func 99) [Operand.tmp 16]) [],
 Item.mk (some 18) none (AOp.fieldA 5 (Operand.tmp 3)) [],
 Item.mk none none (AOp.store 3 (Operand.tmp 18) (Operand.tmp 17)) []]).seq
 (((ACode.row
 [Item.mk (some 19) none (AOp.mov (Operand.tmp 0)) [],
 Item.mk (some 20) none (AOp.call (Operand.func 77) [Operand.tmp 19]) [],
 Item.mk (some 21) none
 (AOp.bin BinOp.neq 32 Cmp.other (Operand.tmp 20)
 (Operand.const (Value.int IntKind.i64 0)))
 []]).seq
 (ACode.cond (Operand.tmp 21)
 ((ACode.row
 [Item.mk (some 22) none
 (AOp.build
 [V.val (Value.int IntKind.i64 0),
 V.val (Value.int IntKind.i64 0),
 V.val (Value.int IntKind.i64 0),
 V.val (Value.int IntKind.i64 0), V.val (Value.string (ByteArray.mk #[])),
 V.val (Value.int IntKind.i64 0),
 V.val (Value.int IntKind.i64 0), V.val (Value.string (ByteArray.mk #[]))]
 [])
 [],
 Item.mk none none (AOp.store 8 (Operand.tmp 2) (Operand.tmp 22)) []]).seq
 ACode.ret)
 ACode.skip)).seq
 ((ACode.row
 [Item.mk (some 23) none (AOp.load (some 8) (Operand.tmp 3)) [],
 Item.mk none none (AOp.store 8 (Operand.tmp 2) (Operand.tmp 23)) []]).seq
 ACode.ret))))))
theorem F81_ok : compFn Tryz.prog (byId h81) 81 = some F81 := by kernel_rfl
def h82 : List (Nat × List (Nat × List Nat) × List Nat) := [(5, [(0, []), (1, []), (2, []), (3, [1]), (4, []), (5, []), (6, []), (7, [])], [0, 1, 0, 4, 12, 31, 63, 127])]
def F82 : AFn :=
 AFn.mk 33 [ARes.cell 2 (some 3)]
 ((ACode.row
 [Item.mk (some 2) none
 (AOp.alloc 31
 [V.val (Value.int IntKind.i64 0), V.val (Value.string (ByteArray.mk #[])),
 V.sl [] [] Tok.full])
 []]).seq
 ((ACode.row
 [Item.mk (some 5) none (AOp.mov (Operand.tmp 0)) [],
 Item.mk (some 6) none (AOp.call (Operand.func 79) [Operand.tmp 5]) [],
 Item.mk (some 7) none (AOp.mov (Operand.tmp 0)) [],
 Item.mk (some 8) none
 (AOp.call (Operand.func 83) [Operand.tmp 7, Operand.const (Value.int IntKind.i64 65536)])
 [],
 Item.mk (some 9) none
 (AOp.build
 [V.val (Value.int IntKind.i64 0), V.val (Value.string (ByteArray.mk #[])),
 V.sl [] [] Tok.full]
 [(0, 1, Operand.tmp 6), (1, 1, Operand.tmp 8)])
 [],
 Item.mk (some 3) none
 (AOp.alloc 31
 [V.val (Value.int IntKind.i64 0), V.val (Value.string (ByteArray.mk #[])),
 V.sl [] [] Tok.full])
 [],
 Item.mk none none (AOp.store 3 (Operand.tmp 3) (Operand.tmp 9)) []]).seq
 (((ACode.row
 [Item.mk (some 10) none (AOp.mov (Operand.tmp 0)) [],
 Item.mk (some 11) none
 (AOp.call (Operand.func 76)
 [Operand.tmp 10, Operand.const (Value.int IntKind.i64 1048576)])
 [],
 Item.mk (some 4) none (AOp.mov (Operand.tmp 11)) []]).seq
 (ACode.block 0
 (((ACode.row
 [Item.mk (some 12) none (AOp.mov (Operand.tmp 4)) [],
 Item.mk (some 13) none
 (AOp.bin BinOp.gtr 3 Cmp.other (Operand.tmp 12)
 (Operand.const (Value.int IntKind.i64 0)))
 [],
 Item.mk (some 14) none (AOp.mov (Operand.tmp 13)) [],
 Item.mk (some 15) (some (14, true)) (AOp.mov (Operand.tmp 0)) [],
 Item.mk (some 16) (some (14, true)) (AOp.call (Operand.func 77) [Operand.tmp 15]) [],
 Item.mk (some 17) (some (14, true))
 (AOp.bin BinOp.eql 32 Cmp.other (Operand.tmp 16)
 (Operand.const (Value.int IntKind.i64 0)))
 [],
 Item.mk (some 18) none
 (AOp.pick (Operand.tmp 14) (Operand.tmp 17) (Operand.const (Value.bool false))) []]).seq
 (ACode.cond (Operand.tmp 18) ACode.skip (ACode.exit 0))).seq
 ((ACode.block 1
 (ACode.row
 [Item.mk (some 21) none (AOp.fieldA 2 (Operand.tmp 3)) [],
 Item.mk (some 22) none (AOp.load none (Operand.tmp 21)) [],
 Item.mk (some 23) none (AOp.mov (Operand.tmp 0)) [],
 Item.mk (some 24) none (AOp.call (Operand.func 81) [Operand.tmp 23])
 [(22, none, AOp.load none (Operand.tmp 21))],
 Item.mk (some 25) none
 (AOp.lits 8
 [V.val (Value.int IntKind.i64 0),
 V.val (Value.int IntKind.i64 0),
 V.val (Value.int IntKind.i64 0),
 V.val (Value.int IntKind.i64 0),
 V.val (Value.string (ByteArray.mk #[])),
 V.val (Value.int IntKind.i64 0),
 V.val (Value.int IntKind.i64 0),
 V.val (Value.string (ByteArray.mk #[]))]
 1 [(0, Operand.tmp 24)])
 [],
 Item.mk (some 26) none (AOp.app 27 80 8 (Operand.tmp 22) (Operand.tmp 25)) [],
 Item.mk (some 27) none (AOp.fieldA 2 (Operand.tmp 3)) [],
 Item.mk none none (AOp.store 1 (Operand.tmp 27) (Operand.tmp 26)) []])).seq
 (ACode.row
 [Item.mk (some 19) none (AOp.mov (Operand.tmp 4)) [],
 Item.mk (some 20) none
 (AOp.bin BinOp.sub 3 Cmp.other (Operand.tmp 19)
 (Operand.const (Value.int IntKind.i64 1)))
 [],
 Item.mk (some 4) none (AOp.mov (Operand.tmp 20)) []]))).loop)).seq
 (((ACode.row
 [Item.mk (some 28) none (AOp.mov (Operand.tmp 0)) [],
 Item.mk (some 29) none (AOp.call (Operand.func 77) [Operand.tmp 28]) [],
 Item.mk (some 30) none
 (AOp.bin BinOp.neq 32 Cmp.other (Operand.tmp 29)
 (Operand.const (Value.int IntKind.i64 0)))
 []]).seq
 (ACode.cond (Operand.tmp 30)
 ((ACode.row
 [Item.mk (some 31) none
 (AOp.build
 [V.val (Value.int IntKind.i64 0), V.val (Value.string (ByteArray.mk #[])),
 V.sl [] [] Tok.full]
 [])
 [],
 Item.mk none none (AOp.store 3 (Operand.tmp 2) (Operand.tmp 31)) []]).seq
 ACode.ret)
 ACode.skip)).seq
 ((ACode.row
 [Item.mk (some 32) none (AOp.load (some 3) (Operand.tmp 3)) [],
 Item.mk none none (AOp.store 3 (Operand.tmp 2) (Operand.tmp 32)) []]).seq
 ACode.ret)))))
theorem F82_ok : compFn Tryz.prog (byId h82) 82 = some F82 := by kernel_rfl
def h83 : List (Nat × List (Nat × List Nat) × List Nat) := []
def F83 : AFn :=
 AFn.mk 8 [ARes.tmp 4]
 ((ACode.row
 [Item.mk (some 3) none (AOp.box 3 (Operand.tmp 1)) [],
 Item.mk (some 4) none (AOp.mov (Operand.const (Value.string (ByteArray.mk #[])))) []]).seq
 ((ACode.row
 [Item.mk (some 5) none (AOp.mov (Operand.tmp 0)) [],
 Item.mk (some 6) none (AOp.mkf (Fn.func 101) [] [Operand.tmp 3]) [],
 Item.mk (some 7) none (AOp.call (Operand.func 100) [Operand.tmp 5, Operand.tmp 6]) [],
 Item.mk (some 4) none (AOp.mov (Operand.tmp 7)) []]).seq
 ACode.ret))
theorem F83_ok : compFn Tryz.prog (byId h83) 83 = some F83 := by kernel_rfl
def h84 : List (Nat × List (Nat × List Nat) × List Nat) := [(4, [(0, []), (1, []), (2, []), (3, []), (4, []), (5, []), (6, []), (7, []), (8, []), (9, [])],
 [0, 1, 3, 7, 0, 16, 48, 112, 240, 511])]
def F84 : AFn :=
 AFn.mk 19 [ARes.tmp 2]
 ((ACode.row [Item.mk (some 2) none (AOp.mov (Operand.const (Value.int IntKind.i64 0))) []]).seq
 (((ACode.row
 [Item.mk (some 4) none (AOp.mov (Operand.tmp 0)) [],
 Item.mk (some 5) none (AOp.call (Operand.func 77) [Operand.tmp 4]) [],
 Item.mk (some 3) none (AOp.mov (Operand.tmp 5)) []]).seq
 ((ACode.row
 [Item.mk (some 6) none (AOp.mov (Operand.tmp 3)) [],
 Item.mk (some 7) none
 (AOp.bin BinOp.neq 32 Cmp.other (Operand.tmp 6)
 (Operand.const (Value.int IntKind.i64 0)))
 []]).seq
 (ACode.cond (Operand.tmp 7)
 ((ACode.row
 [Item.mk (some 8) none (AOp.mov (Operand.tmp 3)) [],
 Item.mk (some 2) none (AOp.mov (Operand.tmp 8)) []]).seq
 ACode.ret)
 ACode.skip))).seq
 (((ACode.row
 [Item.mk (some 9) none (AOp.mov (Operand.tmp 0)) [],
 Item.mk (some 10) none (AOp.nilc (Operand.tmp 9)) [],
 Item.mk (some 11) none (AOp.fieldA 2 (Operand.tmp 10)) [],
 Item.mk (some 12) none (AOp.load none (Operand.tmp 11)) [],
 Item.mk (some 13) none (AOp.mov (Operand.tmp 0)) [],
 Item.mk (some 14) none (AOp.nilc (Operand.tmp 13)) [],
 Item.mk (some 15) none (AOp.fieldA 1 (Operand.tmp 14)) [],
 Item.mk (some 16) none (AOp.load none (Operand.tmp 15)) [],
 Item.mk (some 17) none (AOp.len true (Operand.tmp 16)) [],
 Item.mk (some 18) none (AOp.bin BinOp.lss 3 Cmp.other (Operand.tmp 12) (Operand.tmp 17)) []]).seq
 (ACode.cond (Operand.tmp 18)
 ((ACode.row
 [Item.mk (some 2) none (AOp.mov (Operand.const (Value.int IntKind.i64 5))) []]).seq
 ACode.ret)
 ACode.skip)).seq
 ((ACode.row [Item.mk (some 2) none (AOp.mov (Operand.const (Value.int IntKind.i64 0))) []]).seq
 ACode.ret))))
theorem F84_ok : compFn Tryz.prog (byId h84) 84 = some F84 := by kernel_rfl
def h85 : List (Nat × List (Nat × List Nat) × List Nat) := []
def F85 : AFn :=
 AFn.mk 28 [ARes.tmp 2]
 ((ACode.row [Item.mk (some 2) none (AOp.mov (Operand.const (Value.bool false))) []]).seq
 ((ACode.row
 [Item.mk (some 3) none (AOp.mov (Operand.tmp 0)) [],
 Item.mk (some 4) none
 (AOp.bin BinOp.neq 9 Cmp.other (Operand.tmp 3) (Operand.const (Value.string (ByteArray.mk #[])))) [],
 Item.mk (some 5) none (AOp.mov (Operand.tmp 4)) [],
 Item.mk (some 6) (some (5, true)) (AOp.mov (Operand.tmp 0)) [],
 Item.mk (some 7) (some (5, true)) (AOp.len true (Operand.tmp 6)) [],
 Item.mk (some 8) (some (5, true))
 (AOp.bin BinOp.leq 3 Cmp.other (Operand.tmp 7) (Operand.const (Value.int IntKind.i64 20)))
 [],
 Item.mk (some 9) none (AOp.pick (Operand.tmp 5) (Operand.tmp 8) (Operand.const (Value.bool false))) [],
 Item.mk (some 10) none (AOp.mov (Operand.tmp 9)) [],
 Item.mk (some 11) (some (10, true)) (AOp.mov (Operand.tmp 0)) [],
 Item.mk (some 12) (some (10, true))
 (AOp.idxStr (Operand.tmp 11) (Operand.const (Value.int IntKind.i64 0))) [],
 Item.mk (some 13) (some (10, true)) (AOp.call (Operand.func 103) [Operand.tmp 12]) [],
 Item.mk (some 14) (some (10, true)) (AOp.un UnOp.not (Operand.tmp 13)) [],
 Item.mk (some 15) none (AOp.pick (Operand.tmp 10) (Operand.tmp 14) (Operand.const (Value.bool false))) [],
 Item.mk (some 16) none (AOp.mov (Operand.tmp 15)) [],
 Item.mk (some 17) (some (16, true)) (AOp.mov (Operand.tmp 0)) [],
 Item.mk (some 18) (some (16, true)) (AOp.call (Operand.func 87) [Operand.tmp 17]) [],
 Item.mk (some 19) (some (16, true)) (AOp.un UnOp.not (Operand.tmp 18)) [],
 Item.mk (some 20) none (AOp.pick (Operand.tmp 16) (Operand.tmp 19) (Operand.const (Value.bool false))) [],
 Item.mk (some 21) none (AOp.mov (Operand.tmp 20)) [],
 Item.mk (some 22) (some (21, true)) (AOp.mov (Operand.tmp 0)) [],
 Item.mk (some 23) (some (21, true)) (AOp.call (Operand.func 104) [Operand.tmp 22, Operand.func 105]) [],
 Item.mk (some 24) (some (21, true)) (AOp.mov (Operand.tmp 0)) [],
 Item.mk (some 25) (some (21, true)) (AOp.len true (Operand.tmp 24)) [],
 Item.mk (some 26) (some (21, true)) (AOp.bin BinOp.eql 3 Cmp.other (Operand.tmp 23) (Operand.tmp 25)) [],
 Item.mk (some 27) none (AOp.pick (Operand.tmp 21) (Operand.tmp 26) (Operand.const (Value.bool false))) [],
 Item.mk (some 2) none (AOp.mov (Operand.tmp 27)) []]).seq
 ACode.ret))
theorem F85_ok : compFn Tryz.prog (byId h85) 85 = some F85 := by kernel_rfl
def h86 : List (Nat × List (Nat × List Nat) × List Nat) := []
def F86 : AFn :=
 AFn.mk 16 [ARes.tmp 2]
 ((ACode.row [Item.mk (some 2) none (AOp.mov (Operand.const (Value.string (ByteArray.mk #[])))) []]).seq
 (((ACode.row [Item.mk (some 4) none (AOp.mov (Operand.const (Value.int IntKind.i64 0))) []]).seq
 (ACode.block 0
 ((ACode.row
 [Item.mk (some 5) none
 (AOp.bin BinOp.lss 3 Cmp.other (Operand.tmp 4)
 (Operand.const (Value.int IntKind.i64 25)))
 []]).seq
 ((ACode.cond (Operand.tmp 5) ACode.skip (ACode.exit 0)).seq
 ((ACode.block 1
 ((ACode.row
 [Item.mk (some 6) none (AOp.mov (Operand.tmp 4)) [],
 Item.mk (some 3) none (AOp.mov (Operand.tmp 6)) []]).seq
 ((ACode.row
 [Item.mk (some 7) none (AOp.mov (Operand.tmp 0)) [],
 Item.mk (some 8) none (AOp.mov (Operand.tmp 3)) [],
 Item.mk (some 9) none (AOp.idxA 25 1 (Operand.global 0) (Operand.tmp 8)) [],
 Item.mk (some 10) none (AOp.load none (Operand.tmp 9)) [],
 Item.mk (some 11) none (AOp.call (Operand.func 107) [Operand.tmp 7, Operand.tmp 10])
 []]).seq
 (ACode.cond (Operand.tmp 11)
 ((ACode.row
 [Item.mk (some 12) none (AOp.mov (Operand.tmp 3)) [],
 Item.mk (some 13) none (AOp.idxA 25 1 (Operand.global 0) (Operand.tmp 12)) [],
 Item.mk (some 14) none (AOp.load none (Operand.tmp 13)) [],
 Item.mk (some 2) none (AOp.mov (Operand.tmp 14)) []]).seq
 ACode.ret)
 ACode.skip)))).seq
 (ACode.row
 [Item.mk (some 15) none
 (AOp.bin BinOp.add 3 Cmp.other (Operand.tmp 4)
 (Operand.const (Value.int IntKind.i64 1)))
 [],
 Item.mk (some 4) none (AOp.mov (Operand.tmp 15)) []])))).loop)).seq
 ((ACode.row [Item.mk (some 2) none (AOp.mov (Operand.const (Value.string (ByteArray.mk #[])))) []]).seq
 ACode.ret)))
theorem F86_ok : compFn Tryz.prog (byId h86) 86 = some F86 := by kernel_rfl
def h87 : List (Nat × List (Nat × List Nat) × List Nat) := []
def F87 : AFn :=
 AFn.mk 13 [ARes.tmp 2]
 ((ACode.row [Item.mk (some 2) none (AOp.mov (Operand.const (Value.bool false))) []]).seq
 (((ACode.row [Item.mk (some 4) none (AOp.mov (Operand.const (Value.int IntKind.i64 0))) []]).seq
 (ACode.block 0
 ((ACode.row
 [Item.mk (some 5) none
 (AOp.bin BinOp.lss 3 Cmp.other (Operand.tmp 4)
 (Operand.const (Value.int IntKind.i64 10)))
 []]).seq
 ((ACode.cond (Operand.tmp 5) ACode.skip (ACode.exit 0)).seq
 ((ACode.block 1
 ((ACode.row
 [Item.mk (some 6) none (AOp.mov (Operand.tmp 4)) [],
 Item.mk (some 3) none (AOp.mov (Operand.tmp 6)) []]).seq
 ((ACode.row
 [Item.mk (some 7) none (AOp.mov (Operand.tmp 3)) [],
 Item.mk (some 8) none (AOp.idxA 10 1 (Operand.global 1) (Operand.tmp 7)) [],
 Item.mk (some 9) none (AOp.load none (Operand.tmp 8)) [],
 Item.mk (some 10) none (AOp.mov (Operand.tmp 0)) [],
 Item.mk (some 11) none
 (AOp.bin BinOp.eql 9 Cmp.other (Operand.tmp 9) (Operand.tmp 10)) []]).seq
 (ACode.cond (Operand.tmp 11)
 ((ACode.row [Item.mk (some 2) none (AOp.mov (Operand.const (Value.bool true))) []]).seq
 ACode.ret)
 ACode.skip)))).seq
 (ACode.row
 [Item.mk (some 12) none
 (AOp.bin BinOp.add 3 Cmp.other (Operand.tmp 4)
 (Operand.const (Value.int IntKind.i64 1)))
 [],
 Item.mk (some 4) none (AOp.mov (Operand.tmp 12)) []])))).loop)).seq
 ((ACode.row [Item.mk (some 2) none (AOp.mov (Operand.const (Value.bool false))) []]).seq ACode.ret)))
theorem F87_ok : compFn Tryz.prog (byId h87) 87 = some F87 := by kernel_rfl
def h88 : List (Nat × List (Nat × List Nat) × List Nat) := []
def F88 : AFn :=
 AFn.mk 5 [ARes.tmp 2]
 ((ACode.row [Item.mk (some 2) none (AOp.mov (Operand.const (Value.string (ByteArray.mk #[])))) []]).seq
 ((ACode.row
 [Item.mk (some 3) none (AOp.mov (Operand.tmp 0)) [],
 Item.mk (some 4) none (AOp.call (Operand.func 108) [Operand.tmp 3]) [],
 Item.mk (some 2) none (AOp.mov (Operand.tmp 4)) []]).seq
 ACode.ret))
theorem F88_ok : compFn Tryz.prog (byId h88) 88 = some F88 := by kernel_rfl
def h89 : List (Nat × List (Nat × List Nat) × List Nat) := []
def F89 : AFn :=
 AFn.mk 20 [ARes.tmp 2, ARes.tmp 3]
 ((ACode.row
 [Item.mk (some 2) none (AOp.mov (Operand.const (Value.string (ByteArray.mk #[])))) [],
 Item.mk (some 3) none (AOp.mov (Operand.const (Value.bool false))) []]).seq
 ((ACode.row [Item.mk (some 4) none (AOp.mov (Operand.func 109)) []]).seq
 (((ACode.row
 [Item.mk (some 5) none (AOp.mov (Operand.tmp 0)) [],
 Item.mk (some 6) none (AOp.len true (Operand.tmp 5)) [],
 Item.mk (some 7) none
 (AOp.bin BinOp.gtr 3 Cmp.other (Operand.tmp 6)
 (Operand.const (Value.int IntKind.i64 255)))
 [],
 Item.mk (some 8) none (AOp.mov (Operand.tmp 7)) [],
 Item.mk (some 9) (some (8, false)) (AOp.mov (Operand.tmp 0)) [],
 Item.mk (some 10) (some (8, false)) (AOp.mov (Operand.tmp 4)) [],
 Item.mk (some 11) (some (8, false)) (AOp.call (Operand.func 110) [Operand.tmp 9, Operand.tmp 10]) [],
 Item.mk (some 12) (some (8, false))
 (AOp.bin BinOp.geq 3 Cmp.other (Operand.tmp 11)
 (Operand.const (Value.int IntKind.i64 0)))
 [],
 Item.mk (some 13) none (AOp.pick (Operand.tmp 8) (Operand.const (Value.bool true)) (Operand.tmp 12))
 []]).seq
 (ACode.cond (Operand.tmp 13)
 ((ACode.row
 [Item.mk (some 2) none (AOp.mov (Operand.const (Value.string (ByteArray.mk #[])))) [],
 Item.mk (some 3) none (AOp.mov (Operand.const (Value.bool false))) []]).seq
 ACode.ret)
 ACode.skip)).seq
 ((ACode.row
 [Item.mk (some 14) none
 (AOp.lits 1 [V.val (Value.string (ByteArray.mk #[]))] 6
 [(0, Operand.const (Value.string (ByteArray.mk #[92]))),
 (1, Operand.const (Value.string (ByteArray.mk #[92, 92]))),
 (2, Operand.const (Value.string (ByteArray.mk #[34]))),
 (3, Operand.const (Value.string (ByteArray.mk #[92, 34]))),
 (4, Operand.const (Value.string (ByteArray.mk #[10]))),
 (5, Operand.const (Value.string (ByteArray.mk #[92, 110])))])
 [],
 Item.mk (some 15) none (AOp.call (Operand.func 111) [Operand.tmp 14]) [],
 Item.mk (some 16) none (AOp.mov (Operand.tmp 0)) [],
 Item.mk (some 17) none (AOp.call (Operand.func 112) [Operand.tmp 15, Operand.tmp 16]) [],
 Item.mk (some 18) none
 (AOp.bin BinOp.add 9 Cmp.other (Operand.const (Value.string (ByteArray.mk #[34])))
 (Operand.tmp 17))
 [],
 Item.mk (some 19) none
 (AOp.bin BinOp.add 9 Cmp.other (Operand.tmp 18)
 (Operand.const (Value.string (ByteArray.mk #[34]))))
 [],
 Item.mk (some 2) none (AOp.mov (Operand.tmp 19)) [],
 Item.mk (some 3) none (AOp.mov (Operand.const (Value.bool true))) []]).seq
 ACode.ret))))
theorem F89_ok : compFn Tryz.prog (byId h89) 89 = some F89 := by kernel_rfl
def h90 : List (Nat × List (Nat × List Nat) × List Nat) := []
def F90 : AFn :=
 AFn.mk 33 [ARes.cell 2 (some 4)]
 ((ACode.row
 [Item.mk (some 2) none
 (AOp.alloc 138
 [V.val (Value.string (ByteArray.mk #[])), V.val (Value.int IntKind.i64 0),
 V.val (Value.bool false), V.val (Value.bool false)])
 []]).seq
 ((ACode.row
 [Item.mk (some 4) none
 (AOp.build
 [V.val (Value.string (ByteArray.mk #[])), V.val (Value.int IntKind.i64 0),
 V.val (Value.bool false), V.val (Value.bool false)]
 [])
 [],
 Item.mk (some 5) none
 (AOp.build
 [V.val (Value.string (ByteArray.mk #[])), V.val (Value.int IntKind.i64 0),
 V.val (Value.bool false), V.val (Value.bool false)]
 [(0, 1,
 Operand.const
 (Value.string
 (ByteArray.mk #[115, 116, 101, 112])))])
 [],
 Item.mk (some 6) none
 (AOp.build
 [V.val (Value.string (ByteArray.mk #[])), V.val (Value.int IntKind.i64 0),
 V.val (Value.bool false), V.val (Value.bool false)]
 [(0, 1,
 Operand.const
 (Value.string
 (ByteArray.mk #[110, 101, 120, 116])))])
 [],
 Item.mk (some 7) none
 (AOp.build
 [V.val (Value.string (ByteArray.mk #[])), V.val (Value.int IntKind.i64 0),
 V.val (Value.bool false), V.val (Value.bool false)]
 [(0, 1,
 Operand.const
 (Value.string
 (ByteArray.mk
 #[102, 105, 110, 105, 115,
 104])))])
 [],
 Item.mk (some 8) none
 (AOp.build
 [V.val (Value.string (ByteArray.mk #[])), V.val (Value.int IntKind.i64 0),
 V.val (Value.bool false), V.val (Value.bool false)]
 [(0, 1,
 Operand.const
 (Value.string
 (ByteArray.mk
 #[99, 111, 110, 116, 105,
 110, 117, 101])))])
 [],
 Item.mk (some 9) none
 (AOp.build
 [V.val (Value.string (ByteArray.mk #[])), V.val (Value.int IntKind.i64 0),
 V.val (Value.bool false), V.val (Value.bool false)]
 [(0, 1,
 Operand.const
 (Value.string
 (ByteArray.mk
 #[98, 97, 99, 107, 45,
 115, 116, 101, 112])))])
 [],
 Item.mk (some 10) none
 (AOp.build
 [V.val (Value.string (ByteArray.mk #[])), V.val (Value.int IntKind.i64 0),
 V.val (Value.bool false), V.val (Value.bool false)]
 [(0, 1,
 Operand.const
 (Value.string
 (ByteArray.mk
 #[98, 97, 99, 107, 45,
 110, 101, 120, 116])))])
 [],
 Item.mk (some 11) none
 (AOp.build
 [V.val (Value.string (ByteArray.mk #[])), V.val (Value.int IntKind.i64 0),
 V.val (Value.bool false), V.val (Value.bool false)]
 [(0, 1,
 Operand.const
 (Value.string
 (ByteArray.mk
 #[98, 97, 99, 107, 45,
 102, 105, 110, 105, 115,
 104])))])
 [],
 Item.mk (some 12) none
 (AOp.build
 [V.val (Value.string (ByteArray.mk #[])), V.val (Value.int IntKind.i64 0),
 V.val (Value.bool false), V.val (Value.bool false)]
 [(0, 1,
 Operand.const
 (Value.string
 (ByteArray.mk
 #[98, 97, 99, 107, 45,
 99, 111, 110, 116, 105,
 110, 117, 101])))])
 [],
 Item.mk (some 13) none
 (AOp.build
 [V.val (Value.string (ByteArray.mk #[])), V.val (Value.int IntKind.i64 0),
 V.val (Value.bool false), V.val (Value.bool false)]
 [(0, 1,
 Operand.const
 (Value.string
 (ByteArray.mk #[103, 111, 116, 111]))),
 (2, 1, Operand.const (Value.bool true))])
 [],
 Item.mk (some 14) none
 (AOp.build
 [V.val (Value.string (ByteArray.mk #[])), V.val (Value.int IntKind.i64 0),
 V.val (Value.bool false), V.val (Value.bool false)]
 [(0, 1,
 Operand.const
 (Value.string
 (ByteArray.mk
 #[98, 114, 101, 97, 107]))),
 (1, 1, Operand.const (Value.int IntKind.i64 1)),
 (2, 1, Operand.const (Value.bool true)), (3, 1, Operand.const (Value.bool true))])
 [],
 Item.mk (some 15) none
 (AOp.build
 [V.val (Value.string (ByteArray.mk #[])), V.val (Value.int IntKind.i64 0),
 V.val (Value.bool false), V.val (Value.bool false)]
 [(0, 1,
 Operand.const
 (Value.string
 (ByteArray.mk
 #[119, 97, 116, 99, 104]))),
 (3, 1, Operand.const (Value.bool true))])
 [],
 Item.mk (some 16) none
 (AOp.build
 [V.val (Value.string (ByteArray.mk #[])), V.val (Value.int IntKind.i64 0),
 V.val (Value.bool false), V.val (Value.bool false)]
 [(0, 1,
 Operand.const
 (Value.string
 (ByteArray.mk
 #[100, 101, 108, 101, 116,
 101]))),
 (1, 1, Operand.const (Value.int IntKind.i64 1)),
 (2, 1, Operand.const (Value.bool true))])
 [],
 Item.mk (some 17) none
 (AOp.build
 [V.val (Value.string (ByteArray.mk #[])), V.val (Value.int IntKind.i64 0),
 V.val (Value.bool false), V.val (Value.bool false)]
 [(0, 1,
 Operand.const
 (Value.string
 (ByteArray.mk
 #[101, 110, 97, 98, 108,
 101]))),
 (1, 1, Operand.const (Value.int IntKind.i64 1)),
 (2, 1, Operand.const (Value.bool true))])
 [],
 Item.mk (some 18) none
 (AOp.build
 [V.val (Value.string (ByteArray.mk #[])), V.val (Value.int IntKind.i64 0),
 V.val (Value.bool false), V.val (Value.bool false)]
 [(0, 1,
 Operand.const
 (Value.string
 (ByteArray.mk
 #[100, 105, 115, 97, 98,
 108, 101]))),
 (1, 1, Operand.const (Value.int IntKind.i64 1)),
 (2, 1, Operand.const (Value.bool true))])
 [],
 Item.mk (some 19) none
 (AOp.build
 [V.val (Value.string (ByteArray.mk #[])), V.val (Value.int IntKind.i64 0),
 V.val (Value.bool false), V.val (Value.bool false)]
 [(0, 1, Operand.const (Value.string (ByteArray.mk #[117, 112])))])
 [],
 Item.mk (some 20) none
 (AOp.build
 [V.val (Value.string (ByteArray.mk #[])), V.val (Value.int IntKind.i64 0),
 V.val (Value.bool false), V.val (Value.bool false)]
 [(0, 1,
 Operand.const
 (Value.string
 (ByteArray.mk #[100, 111, 119, 110])))])
 [],
 Item.mk (some 21) none
 (AOp.build
 [V.val (Value.string (ByteArray.mk #[])), V.val (Value.int IntKind.i64 0),
 V.val (Value.bool false), V.val (Value.bool false)]
 [(0, 1,
 Operand.const
 (Value.string
 (ByteArray.mk
 #[112, 114, 105, 110, 116]))),
 (3, 1, Operand.const (Value.bool true))])
 [],
 Item.mk (some 22) none
 (AOp.build
 [V.val (Value.string (ByteArray.mk #[])), V.val (Value.int IntKind.i64 0),
 V.val (Value.bool false), V.val (Value.bool false), V.val (Value.string (ByteArray.mk #[])),
 V.val (Value.int IntKind.i64 0), V.val (Value.bool false), V.val (Value.bool false),
 V.val (Value.string (ByteArray.mk #[])), V.val (Value.int IntKind.i64 0),
 V.val (Value.bool false), V.val (Value.bool false), V.val (Value.string (ByteArray.mk #[])),
 V.val (Value.int IntKind.i64 0), V.val (Value.bool false), V.val (Value.bool false),
 V.val (Value.string (ByteArray.mk #[])), V.val (Value.int IntKind.i64 0),
 V.val (Value.bool false), V.val (Value.bool false), V.val (Value.string (ByteArray.mk #[])),
 V.val (Value.int IntKind.i64 0), V.val (Value.bool false), V.val (Value.bool false),
 V.val (Value.string (ByteArray.mk #[])), V.val (Value.int IntKind.i64 0),
 V.val (Value.bool false), V.val (Value.bool false), V.val (Value.string (ByteArray.mk #[])),
 V.val (Value.int IntKind.i64 0), V.val (Value.bool false), V.val (Value.bool false),
 V.val (Value.string (ByteArray.mk #[])), V.val (Value.int IntKind.i64 0),
 V.val (Value.bool false), V.val (Value.bool false), V.val (Value.string (ByteArray.mk #[])),
 V.val (Value.int IntKind.i64 0), V.val (Value.bool false), V.val (Value.bool false),
 V.val (Value.string (ByteArray.mk #[])), V.val (Value.int IntKind.i64 0),
 V.val (Value.bool false), V.val (Value.bool false), V.val (Value.string (ByteArray.mk #[])),
 V.val (Value.int IntKind.i64 0), V.val (Value.bool false), V.val (Value.bool false),
 V.val (Value.string (ByteArray.mk #[])), V.val (Value.int IntKind.i64 0),
 V.val (Value.bool false), V.val (Value.bool false), V.val (Value.string (ByteArray.mk #[])),
 V.val (Value.int IntKind.i64 0), V.val (Value.bool false), V.val (Value.bool false),
 V.val (Value.string (ByteArray.mk #[])), V.val (Value.int IntKind.i64 0),
 V.val (Value.bool false), V.val (Value.bool false), V.val (Value.string (ByteArray.mk #[])),
 V.val (Value.int IntKind.i64 0), V.val (Value.bool false), V.val (Value.bool false),
 V.val (Value.string (ByteArray.mk #[])), V.val (Value.int IntKind.i64 0),
 V.val (Value.bool false), V.val (Value.bool false), V.val (Value.string (ByteArray.mk #[])),
 V.val (Value.int IntKind.i64 0), V.val (Value.bool false), V.val (Value.bool false)]
 [(0, 4, Operand.tmp 4), (4, 4, Operand.tmp 5), (8, 4, Operand.tmp 6), (12, 4, Operand.tmp 7),
 (16, 4, Operand.tmp 8), (20, 4, Operand.tmp 9), (24, 4, Operand.tmp 10), (28, 4, Operand.tmp 11),
 (32, 4, Operand.tmp 12), (36, 4, Operand.tmp 13), (40, 4, Operand.tmp 14), (44, 4, Operand.tmp 15),
 (48, 4, Operand.tmp 16), (52, 4, Operand.tmp 17), (56, 4, Operand.tmp 18), (60, 4, Operand.tmp 19),
 (64, 4, Operand.tmp 20), (68, 4, Operand.tmp 21)])
 [],
 Item.mk (some 3) none
 (AOp.alloc 160
 [V.val (Value.string (ByteArray.mk #[])), V.val (Value.int IntKind.i64 0),
 V.val (Value.bool false), V.val (Value.bool false), V.val (Value.string (ByteArray.mk #[])),
 V.val (Value.int IntKind.i64 0), V.val (Value.bool false), V.val (Value.bool false),
 V.val (Value.string (ByteArray.mk #[])), V.val (Value.int IntKind.i64 0),
 V.val (Value.bool false), V.val (Value.bool false), V.val (Value.string (ByteArray.mk #[])),
 V.val (Value.int IntKind.i64 0), V.val (Value.bool false), V.val (Value.bool false),
 V.val (Value.string (ByteArray.mk #[])), V.val (Value.int IntKind.i64 0),
 V.val (Value.bool false), V.val (Value.bool false), V.val (Value.string (ByteArray.mk #[])),
 V.val (Value.int IntKind.i64 0), V.val (Value.bool false), V.val (Value.bool false),
 V.val (Value.string (ByteArray.mk #[])), V.val (Value.int IntKind.i64 0),
 V.val (Value.bool false), V.val (Value.bool false), V.val (Value.string (ByteArray.mk #[])),
 V.val (Value.int IntKind.i64 0), V.val (Value.bool false), V.val (Value.bool false),
 V.val (Value.string (ByteArray.mk #[])), V.val (Value.int IntKind.i64 0),
 V.val (Value.bool false), V.val (Value.bool false), V.val (Value.string (ByteArray.mk #[])),
 V.val (Value.int IntKind.i64 0), V.val (Value.bool false), V.val (Value.bool false),
 V.val (Value.string (ByteArray.mk #[])), V.val (Value.int IntKind.i64 0),
 V.val (Value.bool false), V.val (Value.bool false), V.val (Value.string (ByteArray.mk #[])),
 V.val (Value.int IntKind.i64 0), V.val (Value.bool false), V.val (Value.bool false),
 V.val (Value.string (ByteArray.mk #[])), V.val (Value.int IntKind.i64 0),
 V.val (Value.bool false), V.val (Value.bool false), V.val (Value.string (ByteArray.mk #[])),
 V.val (Value.int IntKind.i64 0), V.val (Value.bool false), V.val (Value.bool false),
 V.val (Value.string (ByteArray.mk #[])), V.val (Value.int IntKind.i64 0),
 V.val (Value.bool false), V.val (Value.bool false), V.val (Value.string (ByteArray.mk #[])),
 V.val (Value.int IntKind.i64 0), V.val (Value.bool false), V.val (Value.bool false),
 V.val (Value.string (ByteArray.mk #[])), V.val (Value.int IntKind.i64 0),
 V.val (Value.bool false), V.val (Value.bool false), V.val (Value.string (ByteArray.mk #[])),
 V.val (Value.int IntKind.i64 0), V.val (Value.bool false), V.val (Value.bool false)])
 [],
 Item.mk none none (AOp.store 72 (Operand.tmp 3) (Operand.tmp 22)) []]).seq
 (((ACode.row
 [Item.mk (some 23) none (AOp.mov (Operand.tmp 0)) [],
 Item.mk (some 24) none
 (AOp.bin BinOp.lss 23 Cmp.other (Operand.tmp 23)
 (Operand.const (Value.int IntKind.i64 0)))
 [],
 Item.mk (some 25) none (AOp.mov (Operand.tmp 24)) [],
 Item.mk (some 26) (some (25, false)) (AOp.mov (Operand.tmp 0)) [],
 Item.mk (some 27) (some (25, false))
 (AOp.bin BinOp.geq 3 Cmp.other (Operand.tmp 26)
 (Operand.const (Value.int IntKind.i64 18)))
 [],
 Item.mk (some 28) none (AOp.pick (Operand.tmp 25) (Operand.const (Value.bool true)) (Operand.tmp 27))
 []]).seq
 (ACode.cond (Operand.tmp 28)
 ((ACode.row
 [Item.mk (some 29) none
 (AOp.build
 [V.val (Value.string (ByteArray.mk #[])), V.val (Value.int IntKind.i64 0),
 V.val (Value.bool false), V.val (Value.bool false)]
 [])
 [],
 Item.mk none none (AOp.store 4 (Operand.tmp 2) (Operand.tmp 29)) []]).seq
 ACode.ret)
 ACode.skip)).seq
 ((ACode.row
 [Item.mk (some 30) none (AOp.mov (Operand.tmp 0)) [],
 Item.mk (some 31) none (AOp.idxA 18 4 (Operand.tmp 3) (Operand.tmp 30)) [],
 Item.mk (some 32) none (AOp.load (some 4) (Operand.tmp 31)) [],
 Item.mk none none (AOp.store 4 (Operand.tmp 2) (Operand.tmp 32)) []]).seq
 ACode.ret))))
theorem F90_ok : compFn Tryz.prog (byId h90) 90 = some F90 := by kernel_rfl
def h91 : List (Nat × List (Nat × List Nat) × List Nat) := []
def F91 : AFn :=
 AFn.mk 19 [ARes.tmp 2]
 ((ACode.row [Item.mk (some 2) none (AOp.mov (Operand.const (Value.bool false))) []]).seq
 ((ACode.row
 [Item.mk (some 7) none (AOp.mov (Operand.tmp 0)) [],
 Item.mk (some 8) none (AOp.call (Operand.func 113) [Operand.tmp 7]) [],
 Item.mk (some 6) none (AOp.mov (Operand.tmp 8)) [], Item.mk (some 9) none (AOp.ext (Operand.tmp 6) 0) [],
 Item.mk (some 10) none (AOp.ext (Operand.tmp 6) 1) [],
 Item.mk (some 11) none (AOp.ext (Operand.tmp 6) 2) [],
 Item.mk (some 3) none
 (AOp.alloc 164
 [V.val (Value.int IntKind.i64 0), V.val (Value.string (ByteArray.mk #[])),
 V.val (Value.int IntKind.i64 0), V.sl [] [] Tok.full,
 V.val (Value.int IntKind.i64 0)])
 [],
 Item.mk none none (AOp.store 5 (Operand.tmp 3) (Operand.tmp 9)) [],
 Item.mk (some 4) none (AOp.mov (Operand.tmp 10)) [],
 Item.mk (some 5) none (AOp.mov (Operand.tmp 11)) []]).seq
 ((ACode.row
 [Item.mk (some 12) none (AOp.mov (Operand.tmp 5)) [],
 Item.mk (some 13) none
 (AOp.bin BinOp.eql 32 Cmp.other (Operand.tmp 12)
 (Operand.const (Value.int IntKind.i64 0)))
 [],
 Item.mk (some 14) none (AOp.mov (Operand.tmp 13)) [],
 Item.mk (some 15) (some (14, true)) (AOp.mov (Operand.tmp 0)) [],
 Item.mk (some 16) (some (14, true)) (AOp.len true (Operand.tmp 15)) [],
 Item.mk (some 17) (some (14, true))
 (AOp.bin BinOp.leq 3 Cmp.other (Operand.tmp 16)
 (Operand.const (Value.int IntKind.i64 255)))
 [],
 Item.mk (some 18) none (AOp.pick (Operand.tmp 14) (Operand.tmp 17) (Operand.const (Value.bool false))) [],
 Item.mk (some 2) none (AOp.mov (Operand.tmp 18)) []]).seq
 ACode.ret)))
theorem F91_ok : compFn Tryz.prog (byId h91) 91 = some F91 := by kernel_rfl
def h92 : List (Nat × List (Nat × List Nat) × List Nat) := []
def F92 : AFn :=
 AFn.mk 9 [ARes.tmp 4]
 ((ACode.row [Item.mk (some 4) none (AOp.mov (Operand.const (Value.bool false))) []]).seq
 ((ACode.row
 [Item.mk (some 5) none (AOp.mov (Operand.tmp 0)) [], Item.mk (some 6) none (AOp.mov (Operand.tmp 1)) [],
 Item.mk (some 7) none (AOp.call (Operand.func 114) [Operand.tmp 5, Operand.tmp 6]) [],
 Item.mk (some 8) none
 (AOp.bin BinOp.geq 3 Cmp.other (Operand.tmp 7) (Operand.const (Value.int IntKind.i64 0)))
 [],
 Item.mk (some 4) none (AOp.mov (Operand.tmp 8)) []]).seq
 ACode.ret))
theorem F92_ok : compFn Tryz.prog (byId h92) 92 = some F92 := by kernel_rfl
def h93 : List (Nat × List (Nat × List Nat) × List Nat) := []
def F93 : AFn :=
 AFn.mk 6 [ARes.tmp 2]
 ((ACode.row
 [Item.mk (some 1) none (AOp.box 27 (Operand.tmp 0)) [],
 Item.mk (some 2) none (AOp.mov (Operand.const (Value.bool false))) []]).seq
 ((ACode.row
 [Item.mk (some 3) none (AOp.load (some 8) (Operand.tmp 1)) [],
 Item.mk (some 4) none (AOp.call (Operand.func 26) [Operand.tmp 3]) [],
 Item.mk (some 5) none
 (AOp.bin BinOp.neq 32 Cmp.other (Operand.tmp 4) (Operand.const (Value.int IntKind.i64 0)))
 [],
 Item.mk (some 2) none (AOp.mov (Operand.tmp 5)) []]).seq
 ACode.ret))
theorem F93_ok : compFn Tryz.prog (byId h93) 93 = some F93 := by kernel_rfl
def h94 : List (Nat × List (Nat × List Nat) × List Nat) := []
def F94 : AFn :=
 AFn.mk 27 [ARes.tmp 4]
 ((ACode.row
 [Item.mk (some 4) none (AOp.mov (Operand.const (Value.slice none 0 0))) []]).seq
 (((ACode.row
 [Item.mk (some 5) none (AOp.mov (Operand.tmp 1)) [],
 Item.mk (some 6) none
 (AOp.bin BinOp.lss 3 Cmp.other (Operand.tmp 5)
 (Operand.const (Value.int IntKind.i64 0)))
 []]).seq
 (ACode.cond (Operand.tmp 6)
 (ACode.row
 [Item.mk (some 7) none
 (AOp.mki 9
 (Operand.const
 (Value.string
 (ByteArray.mk
 #[99, 97, 110, 110, 111,
 116, 32, 98, 101, 32,
 110, 101, 103, 97, 116,
 105, 118, 101]))))
 [],
 Item.mk none none (AOp.panic (Operand.tmp 7)) []])
 ACode.skip)).seq
 (((ACode.row
 [Item.mk (some 8) none (AOp.mov (Operand.tmp 1)) [], Item.mk (some 9) none (AOp.mov (Operand.tmp 0)) [],
 Item.mk (some 10) none (AOp.capS (Operand.tmp 9)) [],
 Item.mk (some 11) none (AOp.mov (Operand.tmp 0)) [],
 Item.mk (some 12) none (AOp.len false (Operand.tmp 11)) [],
 Item.mk (some 13) none (AOp.bin BinOp.sub 3 Cmp.other (Operand.tmp 10) (Operand.tmp 12)) [],
 Item.mk (some 14) none (AOp.bin BinOp.sub 3 Cmp.other (Operand.tmp 8) (Operand.tmp 13)) [],
 Item.mk (some 1) none (AOp.mov (Operand.tmp 14)) []]).seq
 ((ACode.row
 [Item.mk (some 15) none (AOp.mov (Operand.tmp 1)) [],
 Item.mk (some 16) none
 (AOp.bin BinOp.gtr 3 Cmp.other (Operand.tmp 15)
 (Operand.const (Value.int IntKind.i64 0)))
 []]).seq
 (ACode.cond (Operand.tmp 16)
 (ACode.row
 [Item.mk (some 17) none (AOp.mov (Operand.tmp 0)) [],
 Item.mk (some 18) none (AOp.mov (Operand.tmp 0)) [],
 Item.mk (some 19) none (AOp.capS (Operand.tmp 18)) [],
 Item.mk (some 20) none (AOp.sliceL 1 (Operand.tmp 17) none (some (Operand.tmp 19)) none) [],
 Item.mk (some 21) none (AOp.mov (Operand.tmp 1)) [],
 Item.mk (some 22) none (AOp.appz 5 1 1 (Operand.tmp 20) (Operand.tmp 21)) [],
 Item.mk (some 23) none (AOp.mov (Operand.tmp 0)) [],
 Item.mk (some 24) none (AOp.len false (Operand.tmp 23)) [],
 Item.mk (some 25) none (AOp.sliceL 1 (Operand.tmp 22) none (some (Operand.tmp 24)) none) [],
 Item.mk (some 0) none (AOp.mov (Operand.tmp 25)) []])
 ACode.skip))).seq
 ((ACode.row
 [Item.mk (some 26) none (AOp.mov (Operand.tmp 0)) [],
 Item.mk (some 4) none (AOp.mov (Operand.tmp 26)) []]).seq
 ACode.ret))))
theorem F94_ok : compFn Tryz.prog (byId h94) 94 = some F94 := by kernel_rfl
def h95 : List (Nat × List (Nat × List Nat) × List Nat) := [(4,
 [(0, []), (1, []), (2, []), (3, []), (4, []), (5, []), (6, []), (7, []), (8, []), (9, []), (10, []), (11, []),
 (12, []), (13, []), (14, []), (15, []), (16, []), (17, [])],
 [0, 0, 2, 6, 14, 0, 32, 96, 224, 510, 1023, 2047, 4095, 4095, 4095, 8191, 49151, 131071])]
def F95 : AFn :=
 AFn.mk 44 [ARes.tmp 4]
 ((ACode.row [Item.mk (some 4) none (AOp.mov (Operand.const (Value.int IntKind.i64 0))) []]).seq
 ((ACode.row [Item.mk (some 5) none (AOp.mov (Operand.const (Value.int IntKind.i64 0))) []]).seq
 (((ACode.row
 [Item.mk (some 9) none (AOp.mov (Operand.tmp 0)) [],
 Item.mk (some 10) none (AOp.call (Operand.func 77) [Operand.tmp 9]) [],
 Item.mk (some 11) none
 (AOp.bin BinOp.neq 32 Cmp.other (Operand.tmp 10)
 (Operand.const (Value.int IntKind.i64 0)))
 []]).seq
 (ACode.cond (Operand.tmp 11)
 ((ACode.row
 [Item.mk (some 12) none (AOp.mov (Operand.tmp 5)) [],
 Item.mk (some 4) none (AOp.mov (Operand.tmp 12)) []]).seq
 ACode.ret)
 ACode.skip)).seq
 ((ACode.row
 [Item.mk (some 14) none (AOp.mov (Operand.tmp 1)) [], Item.mk (some 15) none (AOp.mov (Operand.tmp 0)) [],
 Item.mk (some 16) none (AOp.nilc (Operand.tmp 15)) [],
 Item.mk (some 17) none (AOp.fieldA 1 (Operand.tmp 16)) [],
 Item.mk (some 18) none (AOp.load none (Operand.tmp 17)) [],
 Item.mk (some 19) none (AOp.mov (Operand.tmp 0)) [],
 Item.mk (some 20) none (AOp.nilc (Operand.tmp 19)) [],
 Item.mk (some 21) none (AOp.fieldA 2 (Operand.tmp 20)) [],
 Item.mk (some 22) none (AOp.load none (Operand.tmp 21)) [],
 Item.mk (some 23) none (AOp.sliceS (Operand.tmp 18) (some (Operand.tmp 22)) none) [],
 Item.mk (some 24) none (AOp.call (Operand.tmp 14) [Operand.tmp 23]) [],
 Item.mk (some 13) none (AOp.mov (Operand.tmp 24)) [],
 Item.mk (some 25) none (AOp.ext (Operand.tmp 13) 0) [],
 Item.mk (some 26) none (AOp.ext (Operand.tmp 13) 1) [],
 Item.mk (some 27) none (AOp.ext (Operand.tmp 13) 2) [],
 Item.mk (some 6) none (AOp.mov (Operand.tmp 25)) [],
 Item.mk (some 7) none (AOp.mov (Operand.tmp 26)) [],
 Item.mk (some 8) none (AOp.mov (Operand.tmp 27)) []]).seq
 (((ACode.row
 [Item.mk (some 28) none (AOp.mov (Operand.tmp 8)) [],
 Item.mk (some 29) none
 (AOp.bin BinOp.neq 32 Cmp.other (Operand.tmp 28)
 (Operand.const (Value.int IntKind.i64 0)))
 []]).seq
 (ACode.cond (Operand.tmp 29)
 ((ACode.row
 [Item.mk (some 30) none (AOp.mov (Operand.tmp 0)) [],
 Item.mk (some 31) none (AOp.mov (Operand.tmp 8)) [],
 Item.mk (some 32) none (AOp.nilc (Operand.tmp 30)) [],
 Item.mk (some 33) none (AOp.fieldA 3 (Operand.tmp 32)) [],
 Item.mk none none (AOp.store 1 (Operand.tmp 33) (Operand.tmp 31)) []]).seq
 ((ACode.row
 [Item.mk (some 34) none (AOp.mov (Operand.tmp 5)) [],
 Item.mk (some 4) none (AOp.mov (Operand.tmp 34)) []]).seq
 ACode.ret))
 ACode.skip)).seq
 ((ACode.row
 [Item.mk (some 35) none (AOp.mov (Operand.tmp 0)) [],
 Item.mk (some 36) none (AOp.nilc (Operand.tmp 35)) [],
 Item.mk (some 37) none (AOp.fieldA 2 (Operand.tmp 36)) [],
 Item.mk (some 38) none (AOp.load none (Operand.tmp 37)) [],
 Item.mk (some 39) none (AOp.mov (Operand.tmp 7)) [],
 Item.mk (some 40) none (AOp.bin BinOp.add 3 Cmp.other (Operand.tmp 38) (Operand.tmp 39)) [],
 Item.mk (some 41) none (AOp.nilc (Operand.tmp 35)) [],
 Item.mk (some 42) none (AOp.fieldA 2 (Operand.tmp 41)) [],
 Item.mk none none (AOp.store 1 (Operand.tmp 42) (Operand.tmp 40)) []]).seq
 ((ACode.row
 [Item.mk (some 43) none (AOp.mov (Operand.tmp 6)) [],
 Item.mk (some 4) none (AOp.mov (Operand.tmp 43)) []]).seq
 ACode.ret)))))))
theorem F95_ok : compFn Tryz.prog (byId h95) 95 = some F95 := by kernel_rfl
def h96 : List (Nat × List (Nat × List Nat) × List Nat) := []
def F96 : AFn :=
 AFn.mk 12 [ARes.tmp 3, ARes.tmp 4, ARes.tmp 5]
 ((ACode.row
 [Item.mk (some 3) none (AOp.mov (Operand.const (Value.int IntKind.i64 0))) [],
 Item.mk (some 4) none (AOp.mov (Operand.const (Value.int IntKind.i64 0))) [],
 Item.mk (some 5) none (AOp.mov (Operand.const (Value.int IntKind.i64 0))) []]).seq
 ((ACode.row
 [Item.mk (some 6) none (AOp.mov (Operand.tmp 0)) [], Item.mk (some 7) none (AOp.load none (Operand.tmp 1)) [],
 Item.mk (some 8) none (AOp.call (Operand.func 97) [Operand.tmp 6, Operand.tmp 7]) [],
 Item.mk (some 9) none (AOp.ext (Operand.tmp 8) 0) [], Item.mk (some 10) none (AOp.ext (Operand.tmp 8) 1) [],
 Item.mk (some 11) none (AOp.ext (Operand.tmp 8) 2) [], Item.mk (some 3) none (AOp.mov (Operand.tmp 9)) [],
 Item.mk (some 4) none (AOp.mov (Operand.tmp 10)) [],
 Item.mk (some 5) none (AOp.mov (Operand.tmp 11)) []]).seq
 ACode.ret))
theorem F96_ok : compFn Tryz.prog (byId h96) 96 = some F96 := by kernel_rfl
def h97 : List (Nat × List (Nat × List Nat) × List Nat) := []
def F97 : AFn :=
 AFn.mk 30 [ARes.tmp 4, ARes.tmp 5, ARes.tmp 6]
 ((ACode.row
 [Item.mk (some 4) none (AOp.mov (Operand.const (Value.int IntKind.i64 0))) [],
 Item.mk (some 5) none (AOp.mov (Operand.const (Value.int IntKind.i64 0))) [],
 Item.mk (some 6) none (AOp.mov (Operand.const (Value.int IntKind.i64 0))) []]).seq
 ((ACode.row
 [Item.mk (some 11) none (AOp.mov (Operand.tmp 0)) [],
 Item.mk (some 12) none (AOp.call (Operand.func 98) [Operand.tmp 11]) [],
 Item.mk (some 10) none (AOp.mov (Operand.tmp 12)) [],
 Item.mk (some 13) none (AOp.ext (Operand.tmp 10) 0) [],
 Item.mk (some 14) none (AOp.ext (Operand.tmp 10) 1) [],
 Item.mk (some 15) none (AOp.ext (Operand.tmp 10) 2) [], Item.mk (some 7) none (AOp.mov (Operand.tmp 13)) [],
 Item.mk (some 8) none (AOp.mov (Operand.tmp 14)) [],
 Item.mk (some 9) none (AOp.mov (Operand.tmp 15)) []]).seq
 ((ACode.block 0
 ((ACode.row
 [Item.mk (some 17) none (AOp.mov (Operand.tmp 9)) [],
 Item.mk (some 18) none
 (AOp.bin BinOp.neq 32 Cmp.other (Operand.tmp 17)
 (Operand.const (Value.int IntKind.i64 0)))
 [],
 Item.mk (some 16) none (AOp.mov (Operand.tmp 18)) []]).seq
 (ACode.cond (Operand.tmp 16)
 ((ACode.row
 [Item.mk (some 19) none (AOp.mov (Operand.tmp 9)) [],
 Item.mk (some 4) none (AOp.mov (Operand.const (Value.int IntKind.i64 0))) [],
 Item.mk (some 5) none (AOp.mov (Operand.const (Value.int IntKind.i64 0))) [],
 Item.mk (some 6) none (AOp.mov (Operand.tmp 19)) []]).seq
 ACode.ret)
 ((ACode.row
 [Item.mk (some 21) none (AOp.mov (Operand.tmp 7)) [],
 Item.mk (some 22) none
 (AOp.bin BinOp.lss 3 Cmp.other (Operand.tmp 21)
 (Operand.const (Value.int IntKind.i64 0)))
 [],
 Item.mk (some 20) none (AOp.mov (Operand.tmp 22)) []]).seq
 (ACode.cond (Operand.tmp 20)
 ((ACode.row
 [Item.mk (some 4) none (AOp.mov (Operand.const (Value.int IntKind.i64 0))) [],
 Item.mk (some 5) none (AOp.mov (Operand.const (Value.int IntKind.i64 0))) [],
 Item.mk (some 6) none (AOp.mov (Operand.const (Value.int IntKind.i64 4)))
 []]).seq
 ACode.ret)
 ((ACode.row
 [Item.mk (some 24) none (AOp.mov (Operand.tmp 7)) [],
 Item.mk (some 25) none (AOp.mov (Operand.tmp 1)) [],
 Item.mk (some 26) none
 (AOp.mm true [Operand.const (Value.int IntKind.i64 0), Operand.tmp 25]) [],
 Item.mk (some 27) none (AOp.bin BinOp.gtr 3 Cmp.other (Operand.tmp 24) (Operand.tmp 26)) [],
 Item.mk (some 23) none (AOp.mov (Operand.tmp 27)) []]).seq
 (ACode.cond (Operand.tmp 23)
 ((ACode.row
 [Item.mk (some 4) none (AOp.mov (Operand.const (Value.int IntKind.i64 0)))
 [],
 Item.mk (some 5) none (AOp.mov (Operand.const (Value.int IntKind.i64 0)))
 [],
 Item.mk (some 6) none (AOp.mov (Operand.const (Value.int IntKind.i64 5)))
 []]).seq
 ACode.ret)
 ACode.skip))))))).seq
 ((ACode.row
 [Item.mk (some 28) none (AOp.mov (Operand.tmp 7)) [], Item.mk (some 29) none (AOp.mov (Operand.tmp 8)) [],
 Item.mk (some 4) none (AOp.mov (Operand.tmp 28)) [],
 Item.mk (some 5) none (AOp.mov (Operand.tmp 29)) [],
 Item.mk (some 6) none (AOp.mov (Operand.const (Value.int IntKind.i64 0))) []]).seq
 ACode.ret))))
theorem F97_ok : compFn Tryz.prog (byId h97) 97 = some F97 := by kernel_rfl
def h98 : List (Nat × List (Nat × List Nat) × List Nat) := []
def F98 : AFn :=
 AFn.mk 46 [ARes.tmp 2, ARes.tmp 3, ARes.tmp 4]
 ((ACode.row
 [Item.mk (some 2) none (AOp.mov (Operand.const (Value.int IntKind.i64 0))) [],
 Item.mk (some 3) none (AOp.mov (Operand.const (Value.int IntKind.i64 0))) [],
 Item.mk (some 4) none (AOp.mov (Operand.const (Value.int IntKind.i64 0))) []]).seq
 ((ACode.row [Item.mk (some 5) none (AOp.mov (Operand.const (Value.int IntKind.u64 0))) []]).seq
 (((ACode.row [Item.mk (some 8) none (AOp.mov (Operand.const (Value.int IntKind.i64 0))) []]).seq
 (ACode.block 0
 ((ACode.row
 [Item.mk (some 9) none
 (AOp.bin BinOp.lss 3 Cmp.other (Operand.tmp 8)
 (Operand.const (Value.int IntKind.i64 10)))
 []]).seq
 ((ACode.cond (Operand.tmp 9) ACode.skip (ACode.exit 0)).seq
 ((ACode.block 1
 ((ACode.row
 [Item.mk (some 10) none (AOp.mov (Operand.tmp 8)) [],
 Item.mk (some 6) none (AOp.mov (Operand.tmp 10)) []]).seq
 (((ACode.row
 [Item.mk (some 11) none (AOp.mov (Operand.tmp 6)) [],
 Item.mk (some 12) none (AOp.mov (Operand.tmp 0)) [],
 Item.mk (some 13) none (AOp.len true (Operand.tmp 12)) [],
 Item.mk (some 14) none
 (AOp.bin BinOp.eql 3 Cmp.other (Operand.tmp 11) (Operand.tmp 13)) []]).seq
 (ACode.cond (Operand.tmp 14)
 ((ACode.row
 [Item.mk (some 2) none
 (AOp.mov (Operand.const (Value.int IntKind.i64 0))) [],
 Item.mk (some 3) none
 (AOp.mov (Operand.const (Value.int IntKind.i64 0))) [],
 Item.mk (some 4) none
 (AOp.mov (Operand.const (Value.int IntKind.i64 3))) []]).seq
 ACode.ret)
 ACode.skip)).seq
 ((ACode.row
 [Item.mk (some 15) none (AOp.mov (Operand.tmp 0)) [],
 Item.mk (some 16) none (AOp.mov (Operand.tmp 6)) [],
 Item.mk (some 17) none (AOp.idxStr (Operand.tmp 15) (Operand.tmp 16)) [],
 Item.mk (some 7) none (AOp.mov (Operand.tmp 17)) []]).seq
 (((ACode.row
 [Item.mk (some 18) none (AOp.mov (Operand.tmp 6)) [],
 Item.mk (some 19) none
 (AOp.bin BinOp.eql 3 Cmp.other (Operand.tmp 18)
 (Operand.const (Value.int IntKind.i64 9)))
 [],
 Item.mk (some 20) none (AOp.mov (Operand.tmp 19)) [],
 Item.mk (some 21) (some (20, true)) (AOp.mov (Operand.tmp 7)) [],
 Item.mk (some 22) (some (20, true))
 (AOp.bin BinOp.neq 5 Cmp.other (Operand.tmp 21)
 (Operand.const (Value.int IntKind.u8 1)))
 [],
 Item.mk (some 23) none
 (AOp.pick (Operand.tmp 20) (Operand.tmp 22)
 (Operand.const (Value.bool false)))
 []]).seq
 (ACode.cond (Operand.tmp 23) (ACode.exit 0) ACode.skip)).seq
 ((ACode.row
 [Item.mk (some 24) none (AOp.mov (Operand.tmp 5)) [],
 Item.mk (some 25) none (AOp.mov (Operand.tmp 7)) [],
 Item.mk (some 26) none
 (AOp.bin BinOp.and 5 Cmp.other (Operand.tmp 25)
 (Operand.const (Value.int IntKind.u8 127)))
 [],
 Item.mk (some 27) none (AOp.conv 5 115 (Operand.tmp 26)) [],
 Item.mk (some 28) none (AOp.mov (Operand.tmp 6)) [],
 Item.mk (some 29) none
 (AOp.bin BinOp.mul 3 Cmp.other
 (Operand.const (Value.int IntKind.i64 7)) (Operand.tmp 28))
 [],
 Item.mk (some 30) none
 (AOp.bin BinOp.shl 115 Cmp.other (Operand.tmp 27) (Operand.tmp 29)) [],
 Item.mk (some 31) none
 (AOp.bin BinOp.or 115 Cmp.other (Operand.tmp 24) (Operand.tmp 30)) [],
 Item.mk (some 5) none (AOp.mov (Operand.tmp 31)) []]).seq
 (((ACode.row
 [Item.mk (some 32) none (AOp.mov (Operand.tmp 7)) [],
 Item.mk (some 33) none
 (AOp.bin BinOp.and 5 Cmp.other (Operand.tmp 32)
 (Operand.const (Value.int IntKind.u8 128)))
 [],
 Item.mk (some 34) none
 (AOp.bin BinOp.neq 5 Cmp.other (Operand.tmp 33)
 (Operand.const (Value.int IntKind.u8 0)))
 []]).seq
 (ACode.cond (Operand.tmp 34) (ACode.exit 1) ACode.skip)).seq
 (((ACode.row
 [Item.mk (some 35) none (AOp.mov (Operand.tmp 7)) [],
 Item.mk (some 36) none
 (AOp.bin BinOp.eql 5 Cmp.other (Operand.tmp 35)
 (Operand.const (Value.int IntKind.u8 0)))
 [],
 Item.mk (some 37) none (AOp.mov (Operand.tmp 36)) [],
 Item.mk (some 38) (some (37, true)) (AOp.mov (Operand.tmp 6)) [],
 Item.mk (some 39) (some (37, true))
 (AOp.bin BinOp.gtr 3 Cmp.other (Operand.tmp 38)
 (Operand.const (Value.int IntKind.i64 0)))
 [],
 Item.mk (some 40) none
 (AOp.pick (Operand.tmp 37) (Operand.tmp 39)
 (Operand.const (Value.bool false)))
 []]).seq
 (ACode.cond (Operand.tmp 40) (ACode.exit 0) ACode.skip)).seq
 ((ACode.row
 [Item.mk (some 41) none (AOp.mov (Operand.tmp 5)) [],
 Item.mk (some 42) none (AOp.call (Operand.func 115) [Operand.tmp 41])
 [],
 Item.mk (some 43) none (AOp.mov (Operand.tmp 6)) [],
 Item.mk (some 44) none
 (AOp.bin BinOp.add 3 Cmp.other (Operand.tmp 43)
 (Operand.const (Value.int IntKind.i64 1)))
 [],
 Item.mk (some 2) none (AOp.mov (Operand.tmp 42)) [],
 Item.mk (some 3) none (AOp.mov (Operand.tmp 44)) [],
 Item.mk (some 4) none
 (AOp.mov (Operand.const (Value.int IntKind.i64 0)))
 []]).seq
 ACode.ret))))))))).seq
 (ACode.row
 [Item.mk (some 45) none
 (AOp.bin BinOp.add 3 Cmp.other (Operand.tmp 8)
 (Operand.const (Value.int IntKind.i64 1)))
 [],
 Item.mk (some 8) none (AOp.mov (Operand.tmp 45)) []])))).loop)).seq
 ((ACode.row
 [Item.mk (some 2) none (AOp.mov (Operand.const (Value.int IntKind.i64 0))) [],
 Item.mk (some 3) none (AOp.mov (Operand.const (Value.int IntKind.i64 0))) [],
 Item.mk (some 4) none (AOp.mov (Operand.const (Value.int IntKind.i64 4))) []]).seq
 ACode.ret))))
theorem F98_ok : compFn Tryz.prog (byId h98) 98 = some F98 := by kernel_rfl
def h99 : List (Nat × List (Nat × List Nat) × List Nat) := []
def F99 : AFn :=
 AFn.mk 18 [ARes.cell 2 (some 3)]
 ((ACode.row
 [Item.mk (some 2) none
 (AOp.alloc 25
 [V.val (Value.int IntKind.i64 0), V.val (Value.int IntKind.i64 0),
 V.val (Value.string (ByteArray.mk #[]))])
 []]).seq
 ((ACode.row
 [Item.mk (some 4) none (AOp.mov (Operand.tmp 0)) [],
 Item.mk (some 5) none (AOp.call (Operand.func 79) [Operand.tmp 4]) [],
 Item.mk (some 6) none
 (AOp.build
 [V.val (Value.int IntKind.i64 0), V.val (Value.int IntKind.i64 0),
 V.val (Value.string (ByteArray.mk #[]))]
 [(0, 1, Operand.tmp 5)])
 [],
 Item.mk (some 3) none
 (AOp.alloc 25
 [V.val (Value.int IntKind.i64 0), V.val (Value.int IntKind.i64 0),
 V.val (Value.string (ByteArray.mk #[]))])
 [],
 Item.mk none none (AOp.store 3 (Operand.tmp 3) (Operand.tmp 6)) []]).seq
 ((ACode.row
 [Item.mk (some 7) none (AOp.mov (Operand.tmp 0)) [],
 Item.mk (some 8) none (AOp.call (Operand.func 79) [Operand.tmp 7]) [],
 Item.mk (some 9) none (AOp.fieldA 1 (Operand.tmp 3)) [],
 Item.mk none none (AOp.store 1 (Operand.tmp 9) (Operand.tmp 8)) []]).seq
 ((ACode.row
 [Item.mk (some 10) none (AOp.mov (Operand.tmp 0)) [],
 Item.mk (some 11) none
 (AOp.call (Operand.func 83) [Operand.tmp 10, Operand.const (Value.int IntKind.i64 255)])
 [],
 Item.mk (some 12) none (AOp.fieldA 2 (Operand.tmp 3)) [],
 Item.mk none none (AOp.store 1 (Operand.tmp 12) (Operand.tmp 11)) []]).seq
 (((ACode.row
 [Item.mk (some 13) none (AOp.mov (Operand.tmp 0)) [],
 Item.mk (some 14) none (AOp.call (Operand.func 77) [Operand.tmp 13]) [],
 Item.mk (some 15) none
 (AOp.bin BinOp.neq 32 Cmp.other (Operand.tmp 14)
 (Operand.const (Value.int IntKind.i64 0)))
 []]).seq
 (ACode.cond (Operand.tmp 15)
 ((ACode.row
 [Item.mk (some 16) none
 (AOp.build
 [V.val (Value.int IntKind.i64 0),
 V.val (Value.int IntKind.i64 0), V.val (Value.string (ByteArray.mk #[]))]
 [])
 [],
 Item.mk none none (AOp.store 3 (Operand.tmp 2) (Operand.tmp 16)) []]).seq
 ACode.ret)
 ACode.skip)).seq
 ((ACode.row
 [Item.mk (some 17) none (AOp.load (some 3) (Operand.tmp 3)) [],
 Item.mk none none (AOp.store 3 (Operand.tmp 2) (Operand.tmp 17)) []]).seq
 ACode.ret))))))
theorem F99_ok : compFn Tryz.prog (byId h99) 99 = some F99 := by kernel_rfl
def h100 : List (Nat × List (Nat × List Nat) × List Nat) := [(4,
 [(0, []), (1, []), (2, []), (3, []), (4, []), (5, []), (6, []), (7, []), (8, []), (9, []), (10, []), (11, []),
 (12, []), (13, []), (14, []), (15, []), (16, []), (17, [])],
 [0, 0, 2, 6, 14, 0, 32, 96, 224, 510, 1023, 2047, 4095, 4095, 4095, 8191, 49151, 131071])]
def F100 : AFn :=
 AFn.mk 44 [ARes.tmp 4]
 ((ACode.row [Item.mk (some 4) none (AOp.mov (Operand.const (Value.string (ByteArray.mk #[])))) []]).seq
 ((ACode.row [Item.mk (some 5) none (AOp.mov (Operand.const (Value.string (ByteArray.mk #[])))) []]).seq
 (((ACode.row
 [Item.mk (some 9) none (AOp.mov (Operand.tmp 0)) [],
 Item.mk (some 10) none (AOp.call (Operand.func 77) [Operand.tmp 9]) [],
 Item.mk (some 11) none
 (AOp.bin BinOp.neq 32 Cmp.other (Operand.tmp 10)
 (Operand.const (Value.int IntKind.i64 0)))
 []]).seq
 (ACode.cond (Operand.tmp 11)
 ((ACode.row
 [Item.mk (some 12) none (AOp.mov (Operand.tmp 5)) [],
 Item.mk (some 4) none (AOp.mov (Operand.tmp 12)) []]).seq
 ACode.ret)
 ACode.skip)).seq
 ((ACode.row
 [Item.mk (some 14) none (AOp.mov (Operand.tmp 1)) [], Item.mk (some 15) none (AOp.mov (Operand.tmp 0)) [],
 Item.mk (some 16) none (AOp.nilc (Operand.tmp 15)) [],
 Item.mk (some 17) none (AOp.fieldA 1 (Operand.tmp 16)) [],
 Item.mk (some 18) none (AOp.load none (Operand.tmp 17)) [],
 Item.mk (some 19) none (AOp.mov (Operand.tmp 0)) [],
 Item.mk (some 20) none (AOp.nilc (Operand.tmp 19)) [],
 Item.mk (some 21) none (AOp.fieldA 2 (Operand.tmp 20)) [],
 Item.mk (some 22) none (AOp.load none (Operand.tmp 21)) [],
 Item.mk (some 23) none (AOp.sliceS (Operand.tmp 18) (some (Operand.tmp 22)) none) [],
 Item.mk (some 24) none (AOp.call (Operand.tmp 14) [Operand.tmp 23]) [],
 Item.mk (some 13) none (AOp.mov (Operand.tmp 24)) [],
 Item.mk (some 25) none (AOp.ext (Operand.tmp 13) 0) [],
 Item.mk (some 26) none (AOp.ext (Operand.tmp 13) 1) [],
 Item.mk (some 27) none (AOp.ext (Operand.tmp 13) 2) [],
 Item.mk (some 6) none (AOp.mov (Operand.tmp 25)) [],
 Item.mk (some 7) none (AOp.mov (Operand.tmp 26)) [],
 Item.mk (some 8) none (AOp.mov (Operand.tmp 27)) []]).seq
 (((ACode.row
 [Item.mk (some 28) none (AOp.mov (Operand.tmp 8)) [],
 Item.mk (some 29) none
 (AOp.bin BinOp.neq 32 Cmp.other (Operand.tmp 28)
 (Operand.const (Value.int IntKind.i64 0)))
 []]).seq
 (ACode.cond (Operand.tmp 29)
 ((ACode.row
 [Item.mk (some 30) none (AOp.mov (Operand.tmp 0)) [],
 Item.mk (some 31) none (AOp.mov (Operand.tmp 8)) [],
 Item.mk (some 32) none (AOp.nilc (Operand.tmp 30)) [],
 Item.mk (some 33) none (AOp.fieldA 3 (Operand.tmp 32)) [],
 Item.mk none none (AOp.store 1 (Operand.tmp 33) (Operand.tmp 31)) []]).seq
 ((ACode.row
 [Item.mk (some 34) none (AOp.mov (Operand.tmp 5)) [],
 Item.mk (some 4) none (AOp.mov (Operand.tmp 34)) []]).seq
 ACode.ret))
 ACode.skip)).seq
 ((ACode.row
 [Item.mk (some 35) none (AOp.mov (Operand.tmp 0)) [],
 Item.mk (some 36) none (AOp.nilc (Operand.tmp 35)) [],
 Item.mk (some 37) none (AOp.fieldA 2 (Operand.tmp 36)) [],
 Item.mk (some 38) none (AOp.load none (Operand.tmp 37)) [],
 Item.mk (some 39) none (AOp.mov (Operand.tmp 7)) [],
 Item.mk (some 40) none (AOp.bin BinOp.add 3 Cmp.other (Operand.tmp 38) (Operand.tmp 39)) [],
 Item.mk (some 41) none (AOp.nilc (Operand.tmp 35)) [],
 Item.mk (some 42) none (AOp.fieldA 2 (Operand.tmp 41)) [],
 Item.mk none none (AOp.store 1 (Operand.tmp 42) (Operand.tmp 40)) []]).seq
 ((ACode.row
 [Item.mk (some 43) none (AOp.mov (Operand.tmp 6)) [],
 Item.mk (some 4) none (AOp.mov (Operand.tmp 43)) []]).seq
 ACode.ret)))))))
theorem F100_ok : compFn Tryz.prog (byId h100) 100 = some F100 := by kernel_rfl
def h101 : List (Nat × List (Nat × List Nat) × List Nat) := []
def F101 : AFn :=
 AFn.mk 37 [ARes.tmp 3, ARes.tmp 4, ARes.tmp 5]
 ((ACode.row
 [Item.mk (some 3) none (AOp.mov (Operand.const (Value.string (ByteArray.mk #[])))) [],
 Item.mk (some 4) none (AOp.mov (Operand.const (Value.int IntKind.i64 0))) [],
 Item.mk (some 5) none (AOp.mov (Operand.const (Value.int IntKind.i64 0))) []]).seq
 ((ACode.row
 [Item.mk (some 10) none (AOp.mov (Operand.tmp 0)) [],
 Item.mk (some 11) none (AOp.load none (Operand.tmp 1)) [],
 Item.mk (some 12) none (AOp.call (Operand.func 97) [Operand.tmp 10, Operand.tmp 11]) [],
 Item.mk (some 9) none (AOp.mov (Operand.tmp 12)) [], Item.mk (some 13) none (AOp.ext (Operand.tmp 9) 0) [],
 Item.mk (some 14) none (AOp.ext (Operand.tmp 9) 1) [],
 Item.mk (some 15) none (AOp.ext (Operand.tmp 9) 2) [], Item.mk (some 6) none (AOp.mov (Operand.tmp 13)) [],
 Item.mk (some 7) none (AOp.mov (Operand.tmp 14)) [],
 Item.mk (some 8) none (AOp.mov (Operand.tmp 15)) []]).seq
 ((ACode.block 0
 ((ACode.row
 [Item.mk (some 17) none (AOp.mov (Operand.tmp 8)) [],
 Item.mk (some 18) none
 (AOp.bin BinOp.neq 32 Cmp.other (Operand.tmp 17)
 (Operand.const (Value.int IntKind.i64 0)))
 [],
 Item.mk (some 16) none (AOp.mov (Operand.tmp 18)) []]).seq
 (ACode.cond (Operand.tmp 16)
 ((ACode.row
 [Item.mk (some 19) none (AOp.mov (Operand.tmp 8)) [],
 Item.mk (some 3) none (AOp.mov (Operand.const (Value.string (ByteArray.mk #[])))) [],
 Item.mk (some 4) none (AOp.mov (Operand.const (Value.int IntKind.i64 0))) [],
 Item.mk (some 5) none (AOp.mov (Operand.tmp 19)) []]).seq
 ACode.ret)
 ((ACode.row
 [Item.mk (some 21) none (AOp.mov (Operand.tmp 6)) [],
 Item.mk (some 22) none (AOp.mov (Operand.tmp 0)) [],
 Item.mk (some 23) none (AOp.len true (Operand.tmp 22)) [],
 Item.mk (some 24) none (AOp.mov (Operand.tmp 7)) [],
 Item.mk (some 25) none (AOp.bin BinOp.sub 3 Cmp.other (Operand.tmp 23) (Operand.tmp 24)) [],
 Item.mk (some 26) none (AOp.bin BinOp.gtr 3 Cmp.other (Operand.tmp 21) (Operand.tmp 25)) [],
 Item.mk (some 20) none (AOp.mov (Operand.tmp 26)) []]).seq
 (ACode.cond (Operand.tmp 20)
 ((ACode.row
 [Item.mk (some 3) none (AOp.mov (Operand.const (Value.string (ByteArray.mk #[])))) [],
 Item.mk (some 4) none (AOp.mov (Operand.const (Value.int IntKind.i64 0))) [],
 Item.mk (some 5) none (AOp.mov (Operand.const (Value.int IntKind.i64 3)))
 []]).seq
 ACode.ret)
 ACode.skip))))).seq
 ((ACode.row
 [Item.mk (some 27) none (AOp.mov (Operand.tmp 0)) [], Item.mk (some 28) none (AOp.mov (Operand.tmp 7)) [],
 Item.mk (some 29) none (AOp.mov (Operand.tmp 7)) [],
 Item.mk (some 30) none (AOp.mov (Operand.tmp 6)) [],
 Item.mk (some 31) none (AOp.bin BinOp.add 3 Cmp.other (Operand.tmp 29) (Operand.tmp 30)) [],
 Item.mk (some 32) none (AOp.sliceS (Operand.tmp 27) (some (Operand.tmp 28)) (some (Operand.tmp 31))) [],
 Item.mk (some 33) none (AOp.call (Operand.func 102) [Operand.tmp 32]) [],
 Item.mk (some 34) none (AOp.mov (Operand.tmp 7)) [],
 Item.mk (some 35) none (AOp.mov (Operand.tmp 6)) [],
 Item.mk (some 36) none (AOp.bin BinOp.add 3 Cmp.other (Operand.tmp 34) (Operand.tmp 35)) [],
 Item.mk (some 3) none (AOp.mov (Operand.tmp 33)) [],
 Item.mk (some 4) none (AOp.mov (Operand.tmp 36)) [],
 Item.mk (some 5) none (AOp.mov (Operand.const (Value.int IntKind.i64 0))) []]).seq
 ACode.ret))))
theorem F101_ok : compFn Tryz.prog (byId h101) 101 = some F101 := by kernel_rfl
def h102 : List (Nat × List (Nat × List Nat) × List Nat) := []
def F102 : AFn :=
 AFn.mk 5 [ARes.tmp 2]
 ((ACode.row [Item.mk (some 2) none (AOp.mov (Operand.const (Value.string (ByteArray.mk #[])))) []]).seq
 ((ACode.row
 [Item.mk (some 3) none (AOp.mov (Operand.tmp 0)) [],
 Item.mk (some 4) none (AOp.call (Operand.func 116) [Operand.tmp 3]) [],
 Item.mk (some 2) none (AOp.mov (Operand.tmp 4)) []]).seq
 ACode.ret))
theorem F102_ok : compFn Tryz.prog (byId h102) 102 = some F102 := by kernel_rfl
def h103 : List (Nat × List (Nat × List Nat) × List Nat) := []
def F103 : AFn :=
 AFn.mk 9 [ARes.tmp 2]
 ((ACode.row [Item.mk (some 2) none (AOp.mov (Operand.const (Value.bool false))) []]).seq
 ((ACode.row
 [Item.mk (some 3) none (AOp.mov (Operand.tmp 0)) [],
 Item.mk (some 4) none
 (AOp.bin BinOp.geq 5 Cmp.other (Operand.tmp 3) (Operand.const (Value.int IntKind.u8 48)))
 [],
 Item.mk (some 5) none (AOp.mov (Operand.tmp 4)) [],
 Item.mk (some 6) (some (5, true)) (AOp.mov (Operand.tmp 0)) [],
 Item.mk (some 7) (some (5, true))
 (AOp.bin BinOp.leq 5 Cmp.other (Operand.tmp 6) (Operand.const (Value.int IntKind.u8 57)))
 [],
 Item.mk (some 8) none (AOp.pick (Operand.tmp 5) (Operand.tmp 7) (Operand.const (Value.bool false))) [],
 Item.mk (some 2) none (AOp.mov (Operand.tmp 8)) []]).seq
 ACode.ret))
theorem F103_ok : compFn Tryz.prog (byId h103) 103 = some F103 := by kernel_rfl
def h104 : List (Nat × List (Nat × List Nat) × List Nat) := []
def F104 : AFn :=
 AFn.mk 20 [ARes.tmp 4]
 ((ACode.row [Item.mk (some 4) none (AOp.mov (Operand.const (Value.int IntKind.i64 0))) []]).seq
 ((ACode.row [Item.mk (some 5) none (AOp.mov (Operand.const (Value.int IntKind.i64 0))) []]).seq
 ((ACode.block 0
 (((ACode.row
 [Item.mk (some 6) none (AOp.mov (Operand.tmp 5)) [],
 Item.mk (some 7) none (AOp.mov (Operand.tmp 0)) [],
 Item.mk (some 8) none (AOp.len true (Operand.tmp 7)) [],
 Item.mk (some 9) none (AOp.bin BinOp.lss 3 Cmp.other (Operand.tmp 6) (Operand.tmp 8)) [],
 Item.mk (some 10) none (AOp.mov (Operand.tmp 9)) [],
 Item.mk (some 11) (some (10, true)) (AOp.mov (Operand.tmp 1)) [],
 Item.mk (some 12) (some (10, true)) (AOp.mov (Operand.tmp 0)) [],
 Item.mk (some 13) (some (10, true)) (AOp.mov (Operand.tmp 5)) [],
 Item.mk (some 14) (some (10, true)) (AOp.idxStr (Operand.tmp 12) (Operand.tmp 13)) [],
 Item.mk (some 15) (some (10, true)) (AOp.call (Operand.tmp 11) [Operand.tmp 14]) [],
 Item.mk (some 16) none
 (AOp.pick (Operand.tmp 10) (Operand.tmp 15) (Operand.const (Value.bool false))) []]).seq
 (ACode.cond (Operand.tmp 16) ACode.skip (ACode.exit 0))).seq
 (ACode.block 1
 (ACode.row
 [Item.mk (some 17) none (AOp.mov (Operand.tmp 5)) [],
 Item.mk (some 18) none
 (AOp.bin BinOp.add 3 Cmp.other (Operand.tmp 17)
 (Operand.const (Value.int IntKind.i64 1)))
 [],
 Item.mk (some 5) none (AOp.mov (Operand.tmp 18)) []]))).loop).seq
 ((ACode.row
 [Item.mk (some 19) none (AOp.mov (Operand.tmp 5)) [],
 Item.mk (some 4) none (AOp.mov (Operand.tmp 19)) []]).seq
 ACode.ret))))
theorem F104_ok : compFn Tryz.prog (byId h104) 104 = some F104 := by kernel_rfl
def h105 : List (Nat × List (Nat × List Nat) × List Nat) := []
def F105 : AFn :=
 AFn.mk 9 [ARes.tmp 2]
 ((ACode.row [Item.mk (some 2) none (AOp.mov (Operand.const (Value.bool false))) []]).seq
 ((ACode.row
 [Item.mk (some 3) none (AOp.mov (Operand.tmp 0)) [],
 Item.mk (some 4) none (AOp.call (Operand.func 106) [Operand.tmp 3]) [],
 Item.mk (some 5) none (AOp.mov (Operand.tmp 4)) [],
 Item.mk (some 6) (some (5, false)) (AOp.mov (Operand.tmp 0)) [],
 Item.mk (some 7) (some (5, false)) (AOp.call (Operand.func 103) [Operand.tmp 6]) [],
 Item.mk (some 8) none (AOp.pick (Operand.tmp 5) (Operand.const (Value.bool true)) (Operand.tmp 7)) [],
 Item.mk (some 2) none (AOp.mov (Operand.tmp 8)) []]).seq
 ACode.ret))
theorem F105_ok : compFn Tryz.prog (byId h105) 105 = some F105 := by kernel_rfl
def h106 : List (Nat × List (Nat × List Nat) × List Nat) := []
def F106 : AFn :=
 AFn.mk 15 [ARes.tmp 2]
 ((ACode.row [Item.mk (some 2) none (AOp.mov (Operand.const (Value.bool false))) []]).seq
 ((ACode.row
 [Item.mk (some 3) none (AOp.mov (Operand.tmp 0)) [],
 Item.mk (some 4) none
 (AOp.bin BinOp.or 5 Cmp.other (Operand.tmp 3) (Operand.const (Value.int IntKind.u8 32))) [],
 Item.mk (some 5) none
 (AOp.bin BinOp.geq 5 Cmp.other (Operand.tmp 4) (Operand.const (Value.int IntKind.u8 97)))
 [],
 Item.mk (some 6) none (AOp.mov (Operand.tmp 5)) [],
 Item.mk (some 7) (some (6, true)) (AOp.mov (Operand.tmp 0)) [],
 Item.mk (some 8) (some (6, true))
 (AOp.bin BinOp.or 5 Cmp.other (Operand.tmp 7) (Operand.const (Value.int IntKind.u8 32))) [],
 Item.mk (some 9) (some (6, true))
 (AOp.bin BinOp.leq 5 Cmp.other (Operand.tmp 8) (Operand.const (Value.int IntKind.u8 122)))
 [],
 Item.mk (some 10) none (AOp.pick (Operand.tmp 6) (Operand.tmp 9) (Operand.const (Value.bool false))) [],
 Item.mk (some 11) none (AOp.mov (Operand.tmp 10)) [],
 Item.mk (some 12) (some (11, false)) (AOp.mov (Operand.tmp 0)) [],
 Item.mk (some 13) (some (11, false))
 (AOp.bin BinOp.eql 5 Cmp.other (Operand.tmp 12) (Operand.const (Value.int IntKind.u8 95)))
 [],
 Item.mk (some 14) none (AOp.pick (Operand.tmp 11) (Operand.const (Value.bool true)) (Operand.tmp 13)) [],
 Item.mk (some 2) none (AOp.mov (Operand.tmp 14)) []]).seq
 ACode.ret))
theorem F106_ok : compFn Tryz.prog (byId h106) 106 = some F106 := by kernel_rfl
def h107 : List (Nat × List (Nat × List Nat) × List Nat) := []
def F107 : AFn :=
 AFn.mk 8 [ARes.tmp 4]
 ((ACode.row [Item.mk (some 4) none (AOp.mov (Operand.const (Value.bool false))) []]).seq
 ((ACode.row
 [Item.mk (some 5) none (AOp.mov (Operand.tmp 0)) [], Item.mk (some 6) none (AOp.mov (Operand.tmp 1)) [],
 Item.mk (some 7) none (AOp.call (Operand.func 117) [Operand.tmp 5, Operand.tmp 6]) [],
 Item.mk (some 4) none (AOp.mov (Operand.tmp 7)) []]).seq
 ACode.ret))
theorem F107_ok : compFn Tryz.prog (byId h107) 107 = some F107 := by kernel_rfl
def h108 : List (Nat × List (Nat × List Nat) × List Nat) := []
def F108 : AFn :=
 AFn.mk 5 [ARes.tmp 2]
 ((ACode.row [Item.mk (some 2) none (AOp.mov (Operand.const (Value.string (ByteArray.mk #[])))) []]).seq
 ((ACode.row
 [Item.mk (some 3) none (AOp.mov (Operand.tmp 0)) [],
 Item.mk (some 4) none
 (AOp.call (Operand.func 118) [Operand.tmp 3, Operand.const (Value.int IntKind.i64 10)]) [],
 Item.mk (some 2) none (AOp.mov (Operand.tmp 4)) []]).seq
 ACode.ret))
theorem F108_ok : compFn Tryz.prog (byId h108) 108 = some F108 := by kernel_rfl
def h109 : List (Nat × List (Nat × List Nat) × List Nat) := []
def F109 : AFn :=
 AFn.mk 13 [ARes.tmp 2]
 ((ACode.row [Item.mk (some 2) none (AOp.mov (Operand.const (Value.bool false))) []]).seq
 ((ACode.row
 [Item.mk (some 3) none (AOp.mov (Operand.tmp 0)) [],
 Item.mk (some 4) none
 (AOp.bin BinOp.neq 21 Cmp.other (Operand.tmp 3) (Operand.const (Value.int IntKind.i32 10)))
 [],
 Item.mk (some 5) none (AOp.mov (Operand.tmp 4)) [],
 Item.mk (some 6) (some (5, true)) (AOp.mov (Operand.tmp 0)) [],
 Item.mk (some 7) (some (5, true))
 (AOp.bin BinOp.lss 21 Cmp.other (Operand.tmp 6) (Operand.const (Value.int IntKind.i32 32)))
 [],
 Item.mk (some 8) (some (5, true)) (AOp.mov (Operand.tmp 7)) [],
 Item.mk (some 9) (some (8, false)) (AOp.mov (Operand.tmp 0)) [],
 Item.mk (some 10) (some (8, false))
 (AOp.bin BinOp.gtr 21 Cmp.other (Operand.tmp 9) (Operand.const (Value.int IntKind.i32 126)))
 [],
 Item.mk (some 11) (some (5, true))
 (AOp.pick (Operand.tmp 8) (Operand.const (Value.bool true)) (Operand.tmp 10)) [],
 Item.mk (some 12) none (AOp.pick (Operand.tmp 5) (Operand.tmp 11) (Operand.const (Value.bool false))) [],
 Item.mk (some 2) none (AOp.mov (Operand.tmp 12)) []]).seq
 ACode.ret))
theorem F109_ok : compFn Tryz.prog (byId h109) 109 = some F109 := by kernel_rfl
def h110 : List (Nat × List (Nat × List Nat) × List Nat) := []
def F110 : AFn :=
 AFn.mk 8 [ARes.tmp 4]
 ((ACode.row [Item.mk (some 4) none (AOp.mov (Operand.const (Value.int IntKind.i64 0))) []]).seq
 ((ACode.row
 [Item.mk (some 5) none (AOp.mov (Operand.tmp 0)) [], Item.mk (some 6) none (AOp.mov (Operand.tmp 1)) [],
 Item.mk (some 7) none
 (AOp.call (Operand.func 119) [Operand.tmp 5, Operand.tmp 6, Operand.const (Value.bool true)]) [],
 Item.mk (some 4) none (AOp.mov (Operand.tmp 7)) []]).seq
 ACode.ret))
theorem F110_ok : compFn Tryz.prog (byId h110) 110 = some F110 := by kernel_rfl
def h114 : List (Nat × List (Nat × List Nat) × List Nat) := []
def F114 : AFn :=
 AFn.mk 19 [ARes.tmp 4]
 ((ACode.row [Item.mk (some 4) none (AOp.mov (Operand.const (Value.int IntKind.i64 0))) []]).seq
 (((ACode.row
 [Item.mk (some 6) none (AOp.mov (Operand.tmp 0)) [],
 Item.mk (some 7) none (AOp.len false (Operand.tmp 6)) [],
 Item.mk (some 8) none (AOp.mov (Operand.const (Value.int IntKind.i64 0))) []]).seq
 (ACode.block 0
 ((ACode.row [Item.mk (some 9) none (AOp.bin BinOp.lss 3 Cmp.other (Operand.tmp 8) (Operand.tmp 7)) []]).seq
 ((ACode.cond (Operand.tmp 9) ACode.skip (ACode.exit 0)).seq
 ((ACode.block 1
 ((ACode.row
 [Item.mk (some 10) none (AOp.mov (Operand.tmp 8)) [],
 Item.mk (some 5) none (AOp.mov (Operand.tmp 10)) []]).seq
 ((ACode.row
 [Item.mk (some 11) none (AOp.mov (Operand.tmp 1)) [],
 Item.mk (some 12) none (AOp.mov (Operand.tmp 0)) [],
 Item.mk (some 13) none (AOp.mov (Operand.tmp 5)) [],
 Item.mk (some 14) none (AOp.idxL 8 (Operand.tmp 12) (Operand.tmp 13)) [],
 Item.mk (some 15) none (AOp.load (some 8) (Operand.tmp 14)) [],
 Item.mk (some 16) none (AOp.call (Operand.tmp 11) [Operand.tmp 15]) []]).seq
 (ACode.cond (Operand.tmp 16)
 ((ACode.row
 [Item.mk (some 17) none (AOp.mov (Operand.tmp 5)) [],
 Item.mk (some 4) none (AOp.mov (Operand.tmp 17)) []]).seq
 ACode.ret)
 ACode.skip)))).seq
 (ACode.row
 [Item.mk (some 18) none
 (AOp.bin BinOp.add 3 Cmp.other (Operand.tmp 8)
 (Operand.const (Value.int IntKind.i64 1)))
 [],
 Item.mk (some 8) none (AOp.mov (Operand.tmp 18)) []])))).loop)).seq
 ((ACode.row [Item.mk (some 4) none (AOp.mov (Operand.const (Value.int IntKind.i64 (-1)))) []]).seq
 ACode.ret)))
theorem F114_ok : compFn Tryz.prog (byId h114) 114 = some F114 := by kernel_rfl
def h115 : List (Nat × List (Nat × List Nat) × List Nat) := []
def F115 : AFn :=
 AFn.mk 11 [ARes.tmp 2]
 ((ACode.row [Item.mk (some 2) none (AOp.mov (Operand.const (Value.int IntKind.i64 0))) []]).seq
 ((ACode.row
 [Item.mk (some 3) none (AOp.mov (Operand.tmp 0)) [],
 Item.mk (some 4) none
 (AOp.bin BinOp.shr 115 Cmp.other (Operand.tmp 3) (Operand.const (Value.int IntKind.u64 1)))
 [],
 Item.mk (some 5) none (AOp.conv 115 3 (Operand.tmp 4)) [],
 Item.mk (some 6) none (AOp.mov (Operand.tmp 0)) [],
 Item.mk (some 7) none
 (AOp.bin BinOp.and 115 Cmp.other (Operand.tmp 6) (Operand.const (Value.int IntKind.u64 1)))
 [],
 Item.mk (some 8) none (AOp.conv 115 3 (Operand.tmp 7)) [],
 Item.mk (some 9) none (AOp.un UnOp.neg (Operand.tmp 8)) [],
 Item.mk (some 10) none (AOp.bin BinOp.xor 3 Cmp.other (Operand.tmp 5) (Operand.tmp 9)) [],
 Item.mk (some 2) none (AOp.mov (Operand.tmp 10)) []]).seq
 ACode.ret))
theorem F115_ok : compFn Tryz.prog (byId h115) 115 = some F115 := by kernel_rfl
def h117 : List (Nat × List (Nat × List Nat) × List Nat) := []
def F117 : AFn :=
 AFn.mk 18 [ARes.tmp 4]
 ((ACode.row [Item.mk (some 4) none (AOp.mov (Operand.const (Value.bool false))) []]).seq
 ((ACode.row
 [Item.mk (some 5) none (AOp.mov (Operand.tmp 0)) [], Item.mk (some 6) none (AOp.len true (Operand.tmp 5)) [],
 Item.mk (some 7) none (AOp.mov (Operand.tmp 1)) [], Item.mk (some 8) none (AOp.len true (Operand.tmp 7)) [],
 Item.mk (some 9) none (AOp.bin BinOp.geq 3 Cmp.other (Operand.tmp 6) (Operand.tmp 8)) [],
 Item.mk (some 10) none (AOp.mov (Operand.tmp 9)) [],
 Item.mk (some 11) (some (10, true)) (AOp.mov (Operand.tmp 0)) [],
 Item.mk (some 12) (some (10, true)) (AOp.mov (Operand.tmp 1)) [],
 Item.mk (some 13) (some (10, true)) (AOp.len true (Operand.tmp 12)) [],
 Item.mk (some 14) (some (10, true)) (AOp.sliceS (Operand.tmp 11) none (some (Operand.tmp 13))) [],
 Item.mk (some 15) (some (10, true)) (AOp.mov (Operand.tmp 1)) [],
 Item.mk (some 16) (some (10, true)) (AOp.bin BinOp.eql 9 Cmp.other (Operand.tmp 14) (Operand.tmp 15)) [],
 Item.mk (some 17) none (AOp.pick (Operand.tmp 10) (Operand.tmp 16) (Operand.const (Value.bool false))) [],
 Item.mk (some 4) none (AOp.mov (Operand.tmp 17)) []]).seq
 ACode.ret))
theorem F117_ok : compFn Tryz.prog (byId h117) 117 = some F117 := by kernel_rfl
end Go.Av.Fn
