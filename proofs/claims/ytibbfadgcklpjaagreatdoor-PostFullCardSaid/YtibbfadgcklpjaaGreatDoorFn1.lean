/- The functions of the program made ready for going through, part 1. No condition. -/
import Derived.Test.YtibbfadgcklpjaaGreatDoorProg
import Derived.Test.YtibbfadgcklpjaaGreatDoorAvJ
import Derived.KernelRfl
namespace Go.Av.Fn
open Go.Proofs
set_option maxRecDepth 100000
def h3 : List (Nat × List (Nat × List Nat) × List Nat) := []
def F3 : AFn :=
 AFn.mk 54 [ARes.tmp 6]
 ((ACode.row
 [Item.mk (some 3) none (AOp.box 27 (Operand.tmp 0)) [], Item.mk (some 4) none (AOp.box 36 (Operand.tmp 1)) [],
 Item.mk (some 6) none (AOp.mov (Operand.const (Value.bool false))) []]).seq
 ((ACode.row [Item.mk (some 7) none (AOp.mov (Operand.const (Value.pointer none))) []]).seq
 (((ACode.row [Item.mk (some 10) none (AOp.mov (Operand.tmp 2)) []]).seq
 (ACode.cond (Operand.tmp 10)
 (ACode.row
 [Item.mk (some 11) none
 (AOp.build
 [V.val (Value.int IntKind.i64 0), V.val (Value.int IntKind.i64 0),
 V.val (Value.int IntKind.i64 0), V.sl [] [] Tok.full, V.sl [] [] Tok.full]
 [])
 [],
 Item.mk (some 12) none (AOp.box 40 (Operand.tmp 11)) [],
 Item.mk (some 7) none (AOp.mov (Operand.tmp 12)) []])
 ACode.skip)).seq
 ((ACode.row
 [Item.mk (some 14) none (AOp.mov (Operand.tmp 7)) [],
 Item.mk (some 15) none (AOp.load (some 8) (Operand.tmp 3)) [],
 Item.mk (some 16) none (AOp.call (Operand.func 7) [Operand.tmp 14, Operand.tmp 15]) [],
 Item.mk (some 13) none (AOp.mov (Operand.tmp 16)) [],
 Item.mk (some 17) none (AOp.ext (Operand.tmp 13) 0) [],
 Item.mk (some 18) none (AOp.ext (Operand.tmp 13) 1) [],
 Item.mk (some 8) none (AOp.mov (Operand.tmp 17)) [],
 Item.mk (some 9) none (AOp.mov (Operand.tmp 18)) []]).seq
 ((ACode.row
 [Item.mk (some 19) none (AOp.mov (Operand.tmp 8)) [],
 Item.mk (some 20) none (AOp.len false (Operand.tmp 19)) [],
 Item.mk (some 21) none
 (AOp.bin BinOp.eql 3 Cmp.other (Operand.tmp 20)
 (Operand.const (Value.int IntKind.i64 0)))
 [],
 Item.mk (some 22) none (AOp.mov (Operand.tmp 21)) [],
 Item.mk (some 23) (some (22, true)) (AOp.mov (Operand.tmp 9)) [],
 Item.mk (some 24) (some (22, true))
 (AOp.bin BinOp.eql 32 Cmp.other (Operand.tmp 23)
 (Operand.const (Value.int IntKind.i64 1)))
 [],
 Item.mk (some 25) none (AOp.pick (Operand.tmp 22) (Operand.tmp 24) (Operand.const (Value.bool false)))
 [],
 Item.mk (some 26) none (AOp.mov (Operand.tmp 25)) [],
 Item.mk (some 27) (some (26, true)) (AOp.mov (Operand.tmp 7)) [],
 Item.mk (some 28) (some (26, true)) (AOp.load (some 22) (Operand.tmp 4)) [],
 Item.mk (some 29) (some (26, true)) (AOp.call (Operand.func 8) [Operand.tmp 27, Operand.tmp 28]) [],
 Item.mk (some 30) (some (26, true)) (AOp.len false (Operand.tmp 29)) [],
 Item.mk (some 31) (some (26, true))
 (AOp.bin BinOp.eql 3 Cmp.other (Operand.tmp 30)
 (Operand.const (Value.int IntKind.i64 0)))
 [],
 Item.mk (some 32) none (AOp.pick (Operand.tmp 26) (Operand.tmp 31) (Operand.const (Value.bool false)))
 [],
 Item.mk (some 33) none (AOp.mov (Operand.tmp 32)) [],
 Item.mk (some 34) (some (33, true)) (AOp.mov (Operand.tmp 7)) [],
 Item.mk (some 35) (some (33, true)) (AOp.call (Operand.func 9) [Operand.tmp 34]) [],
 Item.mk (some 36) (some (33, true)) (AOp.len false (Operand.tmp 35)) [],
 Item.mk (some 37) (some (33, true))
 (AOp.bin BinOp.eql 3 Cmp.other (Operand.tmp 36)
 (Operand.const (Value.int IntKind.i64 0)))
 [],
 Item.mk (some 38) none (AOp.pick (Operand.tmp 33) (Operand.tmp 37) (Operand.const (Value.bool false)))
 [],
 Item.mk (some 39) none (AOp.mov (Operand.tmp 38)) [],
 Item.mk (some 40) (some (39, true)) (AOp.mov (Operand.tmp 7)) [],
 Item.mk (some 41) (some (39, true)) (AOp.call (Operand.func 10) [Operand.tmp 40]) [],
 Item.mk (some 42) (some (39, true)) (AOp.len false (Operand.tmp 41)) [],
 Item.mk (some 43) (some (39, true))
 (AOp.bin BinOp.eql 3 Cmp.other (Operand.tmp 42)
 (Operand.const (Value.int IntKind.i64 0)))
 [],
 Item.mk (some 44) none (AOp.pick (Operand.tmp 39) (Operand.tmp 43) (Operand.const (Value.bool false)))
 [],
 Item.mk (some 45) none (AOp.mov (Operand.tmp 44)) [],
 Item.mk (some 46) (some (45, true)) (AOp.mov (Operand.tmp 7)) [],
 Item.mk (some 47) (some (45, true)) (AOp.call (Operand.func 11) [Operand.tmp 46]) [],
 Item.mk (some 48) (some (45, true)) (AOp.len false (Operand.tmp 47)) [],
 Item.mk (some 49) (some (45, true))
 (AOp.bin BinOp.eql 3 Cmp.other (Operand.tmp 48)
 (Operand.const (Value.int IntKind.i64 0)))
 [],
 Item.mk (some 50) none (AOp.pick (Operand.tmp 45) (Operand.tmp 49) (Operand.const (Value.bool false)))
 [],
 Item.mk (some 51) none (AOp.mov (Operand.tmp 50)) [],
 Item.mk (some 52) (some (51, true)) (AOp.call (Operand.func 12) []) [],
 Item.mk (some 53) none (AOp.pick (Operand.tmp 51) (Operand.tmp 52) (Operand.const (Value.bool false)))
 [],
 Item.mk (some 6) none (AOp.mov (Operand.tmp 53)) []]).seq
 ACode.ret)))))
theorem F3_ok : compFn Tryz.prog (byId h3) 3 = some F3 := by kernel_rfl
def h4 : List (Nat × List (Nat × List Nat) × List Nat) := []
def F4 : AFn :=
 AFn.mk 77 [ARes.tmp 4]
 ((ACode.row [Item.mk (some 4) none (AOp.mov (Operand.const (Value.bool false))) []]).seq
 (((ACode.row
 [Item.mk (some 9) none (AOp.mov (Operand.tmp 0)) [],
 Item.mk (some 10) none
 (AOp.bin BinOp.lss 3 Cmp.other (Operand.tmp 9)
 (Operand.const (Value.int IntKind.i64 0)))
 [],
 Item.mk (some 11) none (AOp.mov (Operand.tmp 10)) [],
 Item.mk (some 12) (some (11, false)) (AOp.mov (Operand.tmp 0)) [],
 Item.mk (some 13) (some (11, false))
 (AOp.bin BinOp.gtr 3 Cmp.other (Operand.tmp 12)
 (Operand.const (Value.int IntKind.i64 1099511627776)))
 [],
 Item.mk (some 14) none (AOp.pick (Operand.tmp 11) (Operand.const (Value.bool true)) (Operand.tmp 13))
 [],
 Item.mk (some 15) none (AOp.mov (Operand.tmp 14)) [],
 Item.mk (some 16) (some (15, false)) (AOp.mov (Operand.tmp 1)) [],
 Item.mk (some 17) (some (15, false))
 (AOp.bin BinOp.lss 3 Cmp.other (Operand.tmp 16)
 (Operand.const (Value.int IntKind.i64 1)))
 [],
 Item.mk (some 18) none (AOp.pick (Operand.tmp 15) (Operand.const (Value.bool true)) (Operand.tmp 17))
 [],
 Item.mk (some 19) none (AOp.mov (Operand.tmp 18)) [],
 Item.mk (some 20) (some (19, false)) (AOp.mov (Operand.tmp 1)) [],
 Item.mk (some 21) (some (19, false))
 (AOp.bin BinOp.gtr 3 Cmp.other (Operand.tmp 20)
 (Operand.const (Value.int IntKind.i64 100)))
 [],
 Item.mk (some 22) none (AOp.pick (Operand.tmp 19) (Operand.const (Value.bool true)) (Operand.tmp 21))
 []]).seq
 (ACode.cond (Operand.tmp 22)
 ((ACode.row
 [Item.mk (some 23) none (AOp.mov (Operand.tmp 0)) [],
 Item.mk (some 24) none (AOp.mov (Operand.tmp 1)) [],
 Item.mk (some 25) none (AOp.call (Operand.func 13) [Operand.tmp 23, Operand.tmp 24]) [],
 Item.mk (some 26) none
 (AOp.bin BinOp.geq 3 Cmp.other (Operand.tmp 25)
 (Operand.const (Value.int IntKind.i64 0)))
 [],
 Item.mk (some 27) none (AOp.mov (Operand.tmp 26)) [],
 Item.mk (some 28) (some (27, true)) (AOp.call (Operand.func 14) []) [],
 Item.mk (some 29) none
 (AOp.pick (Operand.tmp 27) (Operand.tmp 28) (Operand.const (Value.bool false))) [],
 Item.mk (some 4) none (AOp.mov (Operand.tmp 29)) []]).seq
 ACode.ret)
 ACode.skip)).seq
 ((ACode.row
 [Item.mk (some 30) none (AOp.mov (Operand.tmp 1)) [],
 Item.mk (some 31) none
 (AOp.mks 3 8 [V.val (Value.int IntKind.i64 0)] (Operand.tmp 30) (Operand.tmp 30)) [],
 Item.mk (some 5) none (AOp.mov (Operand.tmp 31)) []]).seq
 (((ACode.row [Item.mk (some 6) none (AOp.mov (Operand.const (Value.int IntKind.i64 0))) []]).seq
 (ACode.block 0
 (((ACode.row
 [Item.mk (some 32) none (AOp.mov (Operand.tmp 6)) [],
 Item.mk (some 33) none (AOp.mov (Operand.tmp 1)) [],
 Item.mk (some 34) none (AOp.bin BinOp.lss 3 Cmp.other (Operand.tmp 32) (Operand.tmp 33))
 []]).seq
 (ACode.cond (Operand.tmp 34) ACode.skip (ACode.exit 0))).seq
 ((ACode.block 1
 ((ACode.row
 [Item.mk (some 37) none (AOp.mov (Operand.tmp 0)) [],
 Item.mk (some 38) none (AOp.mov (Operand.tmp 6)) [],
 Item.mk (some 39) none
 (AOp.bin BinOp.add 3 Cmp.other (Operand.tmp 37) (Operand.tmp 38)) [],
 Item.mk (some 40) none (AOp.mov (Operand.tmp 1)) [],
 Item.mk (some 41) none (AOp.call (Operand.func 13) [Operand.tmp 39, Operand.tmp 40])
 [],
 Item.mk (some 7) none (AOp.mov (Operand.tmp 41)) []]).seq
 (((ACode.row
 [Item.mk (some 42) none (AOp.mov (Operand.tmp 7)) [],
 Item.mk (some 43) none
 (AOp.bin BinOp.lss 3 Cmp.other (Operand.tmp 42)
 (Operand.const (Value.int IntKind.i64 0)))
 [],
 Item.mk (some 44) none (AOp.mov (Operand.tmp 43)) [],
 Item.mk (some 45) (some (44, false)) (AOp.mov (Operand.tmp 7)) [],
 Item.mk (some 46) (some (44, false)) (AOp.mov (Operand.tmp 1)) [],
 Item.mk (some 47) (some (44, false))
 (AOp.bin BinOp.geq 3 Cmp.other (Operand.tmp 45) (Operand.tmp 46)) [],
 Item.mk (some 48) none
 (AOp.pick (Operand.tmp 44) (Operand.const (Value.bool true)) (Operand.tmp 47))
 []]).seq
 (ACode.cond (Operand.tmp 48)
 ((ACode.row
 [Item.mk (some 4) none (AOp.mov (Operand.const (Value.bool false))) []]).seq
 ACode.ret)
 ACode.skip)).seq
 (ACode.row
 [Item.mk (some 49) none (AOp.mov (Operand.tmp 5)) [],
 Item.mk (some 50) none (AOp.mov (Operand.tmp 7)) [],
 Item.mk (some 51) none (AOp.idxL 1 (Operand.tmp 49) (Operand.tmp 50)) [],
 Item.mk (some 52) none (AOp.load none (Operand.tmp 51)) [],
 Item.mk (some 53) none
 (AOp.bin BinOp.add 3 Cmp.other (Operand.tmp 52)
 (Operand.const (Value.int IntKind.i64 1)))
 [],
 Item.mk (some 54) none (AOp.idxL 1 (Operand.tmp 49) (Operand.tmp 50)) [],
 Item.mk none none (AOp.store 1 (Operand.tmp 54) (Operand.tmp 53)) []])))).seq
 (ACode.row
 [Item.mk (some 35) none (AOp.mov (Operand.tmp 6)) [],
 Item.mk (some 36) none
 (AOp.bin BinOp.add 3 Cmp.other (Operand.tmp 35)
 (Operand.const (Value.int IntKind.i64 1)))
 [],
 Item.mk (some 6) none (AOp.mov (Operand.tmp 36)) []]))).loop)).seq
 (((ACode.row [Item.mk (some 8) none (AOp.mov (Operand.const (Value.int IntKind.i64 0))) []]).seq
 (ACode.block 2
 (((ACode.row
 [Item.mk (some 55) none (AOp.mov (Operand.tmp 8)) [],
 Item.mk (some 56) none (AOp.mov (Operand.tmp 1)) [],
 Item.mk (some 57) none (AOp.bin BinOp.lss 3 Cmp.other (Operand.tmp 55) (Operand.tmp 56))
 []]).seq
 (ACode.cond (Operand.tmp 57) ACode.skip (ACode.exit 2))).seq
 ((ACode.block 3
 ((ACode.row
 [Item.mk (some 60) none (AOp.mov (Operand.tmp 5)) [],
 Item.mk (some 61) none (AOp.mov (Operand.tmp 8)) [],
 Item.mk (some 62) none (AOp.idxL 1 (Operand.tmp 60) (Operand.tmp 61)) [],
 Item.mk (some 63) none (AOp.load none (Operand.tmp 62)) [],
 Item.mk (some 64) none
 (AOp.bin BinOp.neq 3 Cmp.other (Operand.tmp 63)
 (Operand.const (Value.int IntKind.i64 1)))
 []]).seq
 (ACode.cond (Operand.tmp 64)
 ((ACode.row [Item.mk (some 4) none (AOp.mov (Operand.const (Value.bool false))) []]).seq
 ACode.ret)
 ACode.skip))).seq
 (ACode.row
 [Item.mk (some 58) none (AOp.mov (Operand.tmp 8)) [],
 Item.mk (some 59) none
 (AOp.bin BinOp.add 3 Cmp.other (Operand.tmp 58)
 (Operand.const (Value.int IntKind.i64 1)))
 [],
 Item.mk (some 8) none (AOp.mov (Operand.tmp 59)) []]))).loop)).seq
 ((ACode.row
 [Item.mk (some 65) none (AOp.mov (Operand.tmp 0)) [],
 Item.mk (some 66) none (AOp.mov (Operand.tmp 1)) [],
 Item.mk (some 67) none (AOp.bin BinOp.add 3 Cmp.other (Operand.tmp 65) (Operand.tmp 66)) [],
 Item.mk (some 68) none (AOp.mov (Operand.tmp 1)) [],
 Item.mk (some 69) none (AOp.call (Operand.func 13) [Operand.tmp 67, Operand.tmp 68]) [],
 Item.mk (some 70) none (AOp.mov (Operand.tmp 0)) [],
 Item.mk (some 71) none (AOp.mov (Operand.tmp 1)) [],
 Item.mk (some 72) none (AOp.call (Operand.func 13) [Operand.tmp 70, Operand.tmp 71]) [],
 Item.mk (some 73) none (AOp.bin BinOp.eql 3 Cmp.other (Operand.tmp 69) (Operand.tmp 72)) [],
 Item.mk (some 74) none (AOp.mov (Operand.tmp 73)) [],
 Item.mk (some 75) (some (74, true)) (AOp.call (Operand.func 14) []) [],
 Item.mk (some 76) none
 (AOp.pick (Operand.tmp 74) (Operand.tmp 75) (Operand.const (Value.bool false))) [],
 Item.mk (some 4) none (AOp.mov (Operand.tmp 76)) []]).seq
 ACode.ret))))))
theorem F4_ok : compFn Tryz.prog (byId h4) 4 = some F4 := by kernel_rfl
def h5 : List (Nat × List (Nat × List Nat) × List Nat) := []
def F5 : AFn :=
 AFn.mk 104 [ARes.tmp 2]
 ((ACode.row [Item.mk (some 2) none (AOp.mov (Operand.const (Value.bool false))) []]).seq
 ((ACode.row
 [Item.mk (some 9) none (AOp.call (Operand.func 15) []) [],
 Item.mk (some 3) none (AOp.mov (Operand.tmp 9)) []]).seq
 (((ACode.row
 [Item.mk (some 10) none (AOp.mov (Operand.tmp 3)) [],
 Item.mk (some 11) none
 (AOp.bin BinOp.eql 53 Cmp.pointer (Operand.tmp 10) (Operand.const (Value.pointer none))) [],
 Item.mk (some 12) none (AOp.mov (Operand.tmp 11)) [],
 Item.mk (some 13) (some (12, false)) (AOp.mov (Operand.tmp 0)) [],
 Item.mk (some 14) (some (12, false))
 (AOp.bin BinOp.lss 3 Cmp.other (Operand.tmp 13)
 (Operand.const (Value.int IntKind.i64 0)))
 [],
 Item.mk (some 15) none (AOp.pick (Operand.tmp 12) (Operand.const (Value.bool true)) (Operand.tmp 14))
 [],
 Item.mk (some 16) none (AOp.mov (Operand.tmp 15)) [],
 Item.mk (some 17) (some (16, false)) (AOp.mov (Operand.tmp 0)) [],
 Item.mk (some 18) (some (16, false))
 (AOp.bin BinOp.gtr 3 Cmp.other (Operand.tmp 17)
 (Operand.const (Value.int IntKind.i64 9000)))
 [],
 Item.mk (some 19) none (AOp.pick (Operand.tmp 16) (Operand.const (Value.bool true)) (Operand.tmp 18))
 []]).seq
 (ACode.cond (Operand.tmp 19)
 ((ACode.row
 [Item.mk (some 20) none (AOp.mov (Operand.tmp 3)) [],
 Item.mk (some 21) none
 (AOp.bin BinOp.neq 53 Cmp.pointer (Operand.tmp 20) (Operand.const (Value.pointer none))) [],
 Item.mk (some 22) none (AOp.mov (Operand.tmp 21)) [],
 Item.mk (some 23) (some (22, true)) (AOp.call (Operand.func 16) []) [],
 Item.mk (some 24) none
 (AOp.pick (Operand.tmp 22) (Operand.tmp 23) (Operand.const (Value.bool false))) [],
 Item.mk (some 2) none (AOp.mov (Operand.tmp 24)) []]).seq
 ACode.ret)
 ACode.skip)).seq
 ((ACode.row
 [Item.mk (some 4) none (AOp.mov (Operand.const (Value.slice none 0 0)))
 []]).seq
 (((ACode.row [Item.mk (some 5) none (AOp.mov (Operand.const (Value.int IntKind.i64 0))) []]).seq
 (ACode.block 0
 (((ACode.row
 [Item.mk (some 25) none (AOp.mov (Operand.tmp 5)) [],
 Item.mk (some 26) none (AOp.mov (Operand.tmp 0)) [],
 Item.mk (some 27) none (AOp.bin BinOp.lss 3 Cmp.other (Operand.tmp 25) (Operand.tmp 26))
 []]).seq
 (ACode.cond (Operand.tmp 27) ACode.skip (ACode.exit 0))).seq
 ((ACode.block 1
 (ACode.row
 [Item.mk (some 30) none (AOp.mov (Operand.tmp 4)) [],
 Item.mk (some 31) none (AOp.mov (Operand.tmp 5)) [],
 Item.mk (some 32) none (AOp.call (Operand.func 17) [Operand.tmp 31]) [],
 Item.mk (some 33) none
 (AOp.lits 22
 [V.val (Value.int IntKind.i64 0),
 V.val (Value.int IntKind.i64 0),
 V.val (Value.int IntKind.i64 0),
 V.val (Value.int IntKind.i64 0),
 V.val (Value.int IntKind.i64 0),
 V.val (Value.int IntKind.i64 0),
 V.val (Value.int IntKind.i64 0),
 V.val (Value.int IntKind.i64 0),
 V.val (Value.int IntKind.i64 0),
 V.val (Value.int IntKind.i64 0),
 V.val (Value.int IntKind.i64 0),
 V.val (Value.int IntKind.i64 0),
 V.val (Value.string (ByteArray.mk #[])),
 V.val (Value.int IntKind.i64 0),
 V.val (Value.int IntKind.i64 0),
 V.val (Value.string (ByteArray.mk #[])),
 V.val (Value.int IntKind.i64 0),
 V.val (Value.string (ByteArray.mk #[])), V.sl [] [] Tok.full,
 V.val (Value.int IntKind.i64 0),
 V.val (Value.int IntKind.i64 0),
 V.val (Value.string (ByteArray.mk #[]))]
 1 [(0, Operand.tmp 32)])
 [],
 Item.mk (some 34) none (AOp.app 36 224 22 (Operand.tmp 30) (Operand.tmp 33)) [],
 Item.mk (some 4) none (AOp.mov (Operand.tmp 34)) []])).seq
 (ACode.row
 [Item.mk (some 28) none (AOp.mov (Operand.tmp 5)) [],
 Item.mk (some 29) none
 (AOp.bin BinOp.add 3 Cmp.other (Operand.tmp 28)
 (Operand.const (Value.int IntKind.i64 1)))
 [],
 Item.mk (some 5) none (AOp.mov (Operand.tmp 29)) []]))).loop)).seq
 ((ACode.row
 [Item.mk (some 35) none (AOp.mov (Operand.tmp 3)) [],
 Item.mk (some 36) none (AOp.mov (Operand.tmp 4)) [],
 Item.mk (some 37) none (AOp.call (Operand.func 18) [Operand.tmp 35, Operand.tmp 36]) [],
 Item.mk (some 6) none (AOp.mov (Operand.tmp 37)) []]).seq
 (((ACode.row
 [Item.mk (some 38) none (AOp.mov (Operand.tmp 6)) [],
 Item.mk (some 39) none (AOp.mov (Operand.tmp 0)) [],
 Item.mk (some 40) none
 (AOp.mm false [Operand.tmp 39, Operand.const (Value.int IntKind.i64 4096)])
 [],
 Item.mk (some 41) none (AOp.bin BinOp.neq 3 Cmp.other (Operand.tmp 38) (Operand.tmp 40)) [],
 Item.mk (some 42) none (AOp.mov (Operand.tmp 41)) [],
 Item.mk (some 43) (some (42, false)) (AOp.mov (Operand.tmp 3)) [],
 Item.mk (some 44) (some (42, false)) (AOp.call (Operand.func 19) [Operand.tmp 43]) [],
 Item.mk (some 45) (some (42, false)) (AOp.mov (Operand.tmp 6)) [],
 Item.mk (some 46) (some (42, false))
 (AOp.bin BinOp.neq 3 Cmp.other (Operand.tmp 44) (Operand.tmp 45)) [],
 Item.mk (some 47) none
 (AOp.pick (Operand.tmp 42) (Operand.const (Value.bool true)) (Operand.tmp 46)) []]).seq
 (ACode.cond (Operand.tmp 47)
 ((ACode.row [Item.mk (some 2) none (AOp.mov (Operand.const (Value.bool false))) []]).seq
 ACode.ret)
 ACode.skip)).seq
 (((ACode.row
 [Item.mk (some 48) none (AOp.mov (Operand.tmp 6)) [],
 Item.mk (some 49) none
 (AOp.bin BinOp.lss 3 Cmp.other (Operand.tmp 48)
 (Operand.const (Value.int IntKind.i64 4096)))
 []]).seq
 (ACode.cond (Operand.tmp 49)
 ((ACode.row
 [Item.mk (some 50) none (AOp.mov (Operand.tmp 6)) [],
 Item.mk (some 51) none
 (AOp.bin BinOp.eql 3 Cmp.other (Operand.tmp 50)
 (Operand.const (Value.int IntKind.i64 0)))
 [],
 Item.mk (some 52) none (AOp.mov (Operand.tmp 51)) [],
 Item.mk (some 53) (some (52, false)) (AOp.mov (Operand.tmp 3)) [],
 Item.mk (some 54) (some (52, false))
 (AOp.call (Operand.func 20)
 [Operand.tmp 53, Operand.const (Value.int IntKind.i64 0)])
 [],
 Item.mk (some 55) (some (52, false))
 (AOp.bin BinOp.eql 32 Cmp.other (Operand.tmp 54)
 (Operand.const (Value.int IntKind.i64 0)))
 [],
 Item.mk (some 56) (some (52, false)) (AOp.mov (Operand.tmp 55)) [],
 Item.mk (some 57) (some (56, true)) (AOp.mov (Operand.tmp 3)) [],
 Item.mk (some 58) (some (56, true)) (AOp.call (Operand.func 19) [Operand.tmp 57]) [],
 Item.mk (some 59) (some (56, true)) (AOp.mov (Operand.tmp 6)) [],
 Item.mk (some 60) (some (56, true))
 (AOp.bin BinOp.add 3 Cmp.other (Operand.tmp 59)
 (Operand.const (Value.int IntKind.i64 1)))
 [],
 Item.mk (some 61) (some (56, true))
 (AOp.bin BinOp.eql 3 Cmp.other (Operand.tmp 58) (Operand.tmp 60)) [],
 Item.mk (some 62) (some (52, false))
 (AOp.pick (Operand.tmp 56) (Operand.tmp 61) (Operand.const (Value.bool false))) [],
 Item.mk (some 63) none
 (AOp.pick (Operand.tmp 52) (Operand.const (Value.bool true)) (Operand.tmp 62)) [],
 Item.mk (some 64) none (AOp.mov (Operand.tmp 63)) [],
 Item.mk (some 65) (some (64, true)) (AOp.call (Operand.func 16) []) [],
 Item.mk (some 66) none
 (AOp.pick (Operand.tmp 64) (Operand.tmp 65) (Operand.const (Value.bool false))) [],
 Item.mk (some 2) none (AOp.mov (Operand.tmp 66)) []]).seq
 ACode.ret)
 ACode.skip)).seq
 (((ACode.row
 [Item.mk (some 67) none (AOp.mov (Operand.tmp 3)) [],
 Item.mk (some 68) none
 (AOp.call (Operand.func 20)
 [Operand.tmp 67, Operand.const (Value.int IntKind.i64 5)])
 [],
 Item.mk (some 69) none
 (AOp.bin BinOp.neq 32 Cmp.other (Operand.tmp 68)
 (Operand.const (Value.int IntKind.i64 12)))
 [],
 Item.mk (some 70) none (AOp.mov (Operand.tmp 69)) [],
 Item.mk (some 71) (some (70, false)) (AOp.mov (Operand.tmp 3)) [],
 Item.mk (some 72) (some (70, false)) (AOp.mov (Operand.tmp 4)) [],
 Item.mk (some 73) (some (70, false))
 (AOp.sliceL 22 (Operand.tmp 72) none
 (some (Operand.const (Value.int IntKind.i64 1))) none)
 [],
 Item.mk (some 74) (some (70, false))
 (AOp.call (Operand.func 18) [Operand.tmp 71, Operand.tmp 73]) [],
 Item.mk (some 75) (some (70, false))
 (AOp.bin BinOp.neq 3 Cmp.other (Operand.tmp 74)
 (Operand.const (Value.int IntKind.i64 0)))
 [],
 Item.mk (some 76) none
 (AOp.pick (Operand.tmp 70) (Operand.const (Value.bool true)) (Operand.tmp 75)) []]).seq
 (ACode.cond (Operand.tmp 76)
 ((ACode.row [Item.mk (some 2) none (AOp.mov (Operand.const (Value.bool false))) []]).seq
 ACode.ret)
 ACode.skip)).seq
 ((ACode.row
 [Item.mk (some 78) none (AOp.mov (Operand.tmp 3)) [],
 Item.mk (some 79) none
 (AOp.call (Operand.func 21)
 [Operand.tmp 78, Operand.const (Value.int IntKind.i64 4095)])
 [],
 Item.mk (some 77) none (AOp.mov (Operand.tmp 79)) [],
 Item.mk (some 80) none (AOp.ext (Operand.tmp 77) 0) [],
 Item.mk (some 81) none (AOp.ext (Operand.tmp 77) 1) [],
 Item.mk (some 7) none
 (AOp.alloc 36
 [V.val (Value.int IntKind.i64 0),
 V.val (Value.int IntKind.i64 0),
 V.val (Value.int IntKind.i64 0),
 V.val (Value.int IntKind.i64 0),
 V.val (Value.int IntKind.i64 0),
 V.val (Value.int IntKind.i64 0),
 V.val (Value.int IntKind.i64 0),
 V.val (Value.int IntKind.i64 0),
 V.val (Value.int IntKind.i64 0),
 V.val (Value.int IntKind.i64 0),
 V.val (Value.int IntKind.i64 0),
 V.val (Value.int IntKind.i64 0),
 V.val (Value.string (ByteArray.mk #[])),
 V.val (Value.int IntKind.i64 0),
 V.val (Value.int IntKind.i64 0),
 V.val (Value.string (ByteArray.mk #[])),
 V.val (Value.int IntKind.i64 0),
 V.val (Value.string (ByteArray.mk #[])), V.sl [] [] Tok.full,
 V.val (Value.int IntKind.i64 0),
 V.val (Value.int IntKind.i64 0),
 V.val (Value.string (ByteArray.mk #[]))])
 [],
 Item.mk none none (AOp.store 22 (Operand.tmp 7) (Operand.tmp 80)) [],
 Item.mk (some 8) none (AOp.mov (Operand.tmp 81)) []]).seq
 ((ACode.row
 [Item.mk (some 82) none (AOp.mov (Operand.tmp 8)) [],
 Item.mk (some 83) none
 (AOp.bin BinOp.eql 32 Cmp.other (Operand.tmp 82)
 (Operand.const (Value.int IntKind.i64 0)))
 [],
 Item.mk (some 84) none (AOp.mov (Operand.tmp 83)) [],
 Item.mk (some 85) (some (84, true)) (AOp.fieldA 3 (Operand.tmp 7)) [],
 Item.mk (some 86) (some (84, true)) (AOp.load none (Operand.tmp 85)) [],
 Item.mk (some 87) (some (84, true))
 (AOp.bin BinOp.eql 3 Cmp.other (Operand.tmp 86)
 (Operand.const (Value.int IntKind.i64 4095)))
 [],
 Item.mk (some 88) none
 (AOp.pick (Operand.tmp 84) (Operand.tmp 87) (Operand.const (Value.bool false))) [],
 Item.mk (some 89) none (AOp.mov (Operand.tmp 88)) [],
 Item.mk (some 90) (some (89, true)) (AOp.mov (Operand.tmp 3)) [],
 Item.mk (some 91) (some (89, true)) (AOp.mov (Operand.tmp 4)) [],
 Item.mk (some 92) (some (89, true))
 (AOp.sliceL 22 (Operand.tmp 91) none
 (some (Operand.const (Value.int IntKind.i64 2))) none)
 [],
 Item.mk (some 93) (some (89, true))
 (AOp.call (Operand.func 18) [Operand.tmp 90, Operand.tmp 92]) [],
 Item.mk (some 94) (some (89, true))
 (AOp.bin BinOp.eql 3 Cmp.other (Operand.tmp 93)
 (Operand.const (Value.int IntKind.i64 1)))
 [],
 Item.mk (some 95) none
 (AOp.pick (Operand.tmp 89) (Operand.tmp 94) (Operand.const (Value.bool false))) [],
 Item.mk (some 96) none (AOp.mov (Operand.tmp 95)) [],
 Item.mk (some 97) (some (96, true)) (AOp.mov (Operand.tmp 3)) [],
 Item.mk (some 98) (some (96, true)) (AOp.call (Operand.func 19) [Operand.tmp 97]) [],
 Item.mk (some 99) (some (96, true))
 (AOp.bin BinOp.eql 3 Cmp.other (Operand.tmp 98)
 (Operand.const (Value.int IntKind.i64 4096)))
 [],
 Item.mk (some 100) none
 (AOp.pick (Operand.tmp 96) (Operand.tmp 99) (Operand.const (Value.bool false))) [],
 Item.mk (some 101) none (AOp.mov (Operand.tmp 100)) [],
 Item.mk (some 102) (some (101, true)) (AOp.call (Operand.func 16) []) [],
 Item.mk (some 103) none
 (AOp.pick (Operand.tmp 101) (Operand.tmp 102) (Operand.const (Value.bool false))) [],
 Item.mk (some 2) none (AOp.mov (Operand.tmp 103)) []]).seq
 ACode.ret)))))))))))
theorem F5_ok : compFn Tryz.prog (byId h5) 5 = some F5 := by kernel_rfl
def h6 : List (Nat × List (Nat × List Nat) × List Nat) := []
def F6 : AFn :=
 AFn.mk 68 [ARes.tmp 4]
 ((ACode.row [Item.mk (some 4) none (AOp.mov (Operand.const (Value.bool false))) []]).seq
 ((ACode.row [Item.mk (some 5) none (AOp.mov (Operand.const (Value.pointer none))) []]).seq
 (((ACode.row [Item.mk (some 10) none (AOp.mov (Operand.tmp 1)) []]).seq
 (ACode.cond (Operand.tmp 10)
 (ACode.row
 [Item.mk (some 11) none (AOp.build [V.val (Value.bool false), V.sl [] [] Tok.full] []) [],
 Item.mk (some 12) none (AOp.box 64 (Operand.tmp 11)) [],
 Item.mk (some 5) none (AOp.mov (Operand.tmp 12)) []])
 ACode.skip)).seq
 ((ACode.row
 [Item.mk (some 14) none (AOp.mov (Operand.tmp 5)) [], Item.mk (some 15) none (AOp.mov (Operand.tmp 0)) [],
 Item.mk (some 16) none (AOp.call (Operand.func 22) [Operand.tmp 14, Operand.tmp 15]) [],
 Item.mk (some 13) none (AOp.mov (Operand.tmp 16)) [],
 Item.mk (some 17) none (AOp.ext (Operand.tmp 13) 0) [],
 Item.mk (some 18) none (AOp.ext (Operand.tmp 13) 1) [],
 Item.mk (some 6) none
 (AOp.alloc 36
 [V.val (Value.int IntKind.i64 0), V.val (Value.int IntKind.i64 0),
 V.val (Value.int IntKind.i64 0), V.val (Value.int IntKind.i64 0),
 V.val (Value.int IntKind.i64 0), V.val (Value.int IntKind.i64 0),
 V.val (Value.int IntKind.i64 0), V.val (Value.int IntKind.i64 0),
 V.val (Value.int IntKind.i64 0), V.val (Value.int IntKind.i64 0),
 V.val (Value.int IntKind.i64 0), V.val (Value.int IntKind.i64 0),
 V.val (Value.string (ByteArray.mk #[])), V.val (Value.int IntKind.i64 0),
 V.val (Value.int IntKind.i64 0), V.val (Value.string (ByteArray.mk #[])),
 V.val (Value.int IntKind.i64 0), V.val (Value.string (ByteArray.mk #[])),
 V.sl [] [] Tok.full, V.val (Value.int IntKind.i64 0),
 V.val (Value.int IntKind.i64 0), V.val (Value.string (ByteArray.mk #[]))])
 [],
 Item.mk none none (AOp.store 22 (Operand.tmp 6) (Operand.tmp 17)) [],
 Item.mk (some 7) none (AOp.mov (Operand.tmp 18)) []]).seq
 ((ACode.row
 [Item.mk (some 20) none (AOp.mov (Operand.tmp 5)) [],
 Item.mk (some 21) none (AOp.mov (Operand.tmp 0)) [],
 Item.mk (some 22) none (AOp.call (Operand.func 21) [Operand.tmp 20, Operand.tmp 21]) [],
 Item.mk (some 19) none (AOp.mov (Operand.tmp 22)) [],
 Item.mk (some 23) none (AOp.ext (Operand.tmp 19) 0) [],
 Item.mk (some 24) none (AOp.ext (Operand.tmp 19) 1) [],
 Item.mk (some 8) none
 (AOp.alloc 36
 [V.val (Value.int IntKind.i64 0), V.val (Value.int IntKind.i64 0),
 V.val (Value.int IntKind.i64 0), V.val (Value.int IntKind.i64 0),
 V.val (Value.int IntKind.i64 0), V.val (Value.int IntKind.i64 0),
 V.val (Value.int IntKind.i64 0), V.val (Value.int IntKind.i64 0),
 V.val (Value.int IntKind.i64 0), V.val (Value.int IntKind.i64 0),
 V.val (Value.int IntKind.i64 0), V.val (Value.int IntKind.i64 0),
 V.val (Value.string (ByteArray.mk #[])), V.val (Value.int IntKind.i64 0),
 V.val (Value.int IntKind.i64 0), V.val (Value.string (ByteArray.mk #[])),
 V.val (Value.int IntKind.i64 0), V.val (Value.string (ByteArray.mk #[])),
 V.sl [] [] Tok.full, V.val (Value.int IntKind.i64 0),
 V.val (Value.int IntKind.i64 0), V.val (Value.string (ByteArray.mk #[]))])
 [],
 Item.mk none none (AOp.store 22 (Operand.tmp 8) (Operand.tmp 23)) [],
 Item.mk (some 9) none (AOp.mov (Operand.tmp 24)) []]).seq
 ((ACode.row
 [Item.mk (some 25) none (AOp.mov (Operand.tmp 5)) [],
 Item.mk (some 26) none
 (AOp.call (Operand.func 17) [Operand.const (Value.int IntKind.i64 1)]) [],
 Item.mk (some 27) none
 (AOp.lits 22
 [V.val (Value.int IntKind.i64 0), V.val (Value.int IntKind.i64 0),
 V.val (Value.int IntKind.i64 0), V.val (Value.int IntKind.i64 0),
 V.val (Value.int IntKind.i64 0), V.val (Value.int IntKind.i64 0),
 V.val (Value.int IntKind.i64 0), V.val (Value.int IntKind.i64 0),
 V.val (Value.int IntKind.i64 0), V.val (Value.int IntKind.i64 0),
 V.val (Value.int IntKind.i64 0), V.val (Value.int IntKind.i64 0),
 V.val (Value.string (ByteArray.mk #[])), V.val (Value.int IntKind.i64 0),
 V.val (Value.int IntKind.i64 0), V.val (Value.string (ByteArray.mk #[])),
 V.val (Value.int IntKind.i64 0), V.val (Value.string (ByteArray.mk #[])),
 V.sl [] [] Tok.full, V.val (Value.int IntKind.i64 0),
 V.val (Value.int IntKind.i64 0), V.val (Value.string (ByteArray.mk #[]))]
 1 [(0, Operand.tmp 26)])
 [],
 Item.mk (some 28) none (AOp.call (Operand.func 18) [Operand.tmp 25, Operand.tmp 27]) [],
 Item.mk (some 29) none
 (AOp.bin BinOp.eql 3 Cmp.other (Operand.tmp 28)
 (Operand.const (Value.int IntKind.i64 0)))
 [],
 Item.mk (some 30) none (AOp.mov (Operand.tmp 29)) [],
 Item.mk (some 31) (some (30, true)) (AOp.mov (Operand.tmp 5)) [],
 Item.mk (some 32) (some (30, true)) (AOp.call (Operand.func 19) [Operand.tmp 31]) [],
 Item.mk (some 33) (some (30, true))
 (AOp.bin BinOp.eql 3 Cmp.other (Operand.tmp 32)
 (Operand.const (Value.int IntKind.i64 0)))
 [],
 Item.mk (some 34) none
 (AOp.pick (Operand.tmp 30) (Operand.tmp 33) (Operand.const (Value.bool false))) [],
 Item.mk (some 35) none (AOp.mov (Operand.tmp 34)) [],
 Item.mk (some 36) (some (35, true)) (AOp.load (some 22) (Operand.tmp 6)) [],
 Item.mk (some 37) (some (35, true))
 (AOp.build
 [V.val (Value.int IntKind.i64 0), V.val (Value.int IntKind.i64 0),
 V.val (Value.int IntKind.i64 0), V.val (Value.int IntKind.i64 0),
 V.val (Value.int IntKind.i64 0), V.val (Value.int IntKind.i64 0),
 V.val (Value.int IntKind.i64 0), V.val (Value.int IntKind.i64 0),
 V.val (Value.int IntKind.i64 0), V.val (Value.int IntKind.i64 0),
 V.val (Value.int IntKind.i64 0), V.val (Value.int IntKind.i64 0),
 V.val (Value.string (ByteArray.mk #[])), V.val (Value.int IntKind.i64 0),
 V.val (Value.int IntKind.i64 0), V.val (Value.string (ByteArray.mk #[])),
 V.val (Value.int IntKind.i64 0), V.val (Value.string (ByteArray.mk #[])),
 V.sl [] [] Tok.full, V.val (Value.int IntKind.i64 0),
 V.val (Value.int IntKind.i64 0), V.val (Value.string (ByteArray.mk #[]))]
 [])
 [],
 Item.mk (some 38) (some (35, true)) (AOp.call (Operand.func 23) [Operand.tmp 36, Operand.tmp 37])
 [],
 Item.mk (some 39) none
 (AOp.pick (Operand.tmp 35) (Operand.tmp 38) (Operand.const (Value.bool false))) [],
 Item.mk (some 40) none (AOp.mov (Operand.tmp 39)) [],
 Item.mk (some 41) (some (40, true)) (AOp.mov (Operand.tmp 7)) [],
 Item.mk (some 42) (some (40, true))
 (AOp.bin BinOp.eql 32 Cmp.other (Operand.tmp 41)
 (Operand.const (Value.int IntKind.i64 1)))
 [],
 Item.mk (some 43) none
 (AOp.pick (Operand.tmp 40) (Operand.tmp 42) (Operand.const (Value.bool false))) [],
 Item.mk (some 44) none (AOp.mov (Operand.tmp 43)) [],
 Item.mk (some 45) (some (44, true)) (AOp.load (some 22) (Operand.tmp 8)) [],
 Item.mk (some 46) (some (44, true))
 (AOp.build
 [V.val (Value.int IntKind.i64 0), V.val (Value.int IntKind.i64 0),
 V.val (Value.int IntKind.i64 0), V.val (Value.int IntKind.i64 0),
 V.val (Value.int IntKind.i64 0), V.val (Value.int IntKind.i64 0),
 V.val (Value.int IntKind.i64 0), V.val (Value.int IntKind.i64 0),
 V.val (Value.int IntKind.i64 0), V.val (Value.int IntKind.i64 0),
 V.val (Value.int IntKind.i64 0), V.val (Value.int IntKind.i64 0),
 V.val (Value.string (ByteArray.mk #[])), V.val (Value.int IntKind.i64 0),
 V.val (Value.int IntKind.i64 0), V.val (Value.string (ByteArray.mk #[])),
 V.val (Value.int IntKind.i64 0), V.val (Value.string (ByteArray.mk #[])),
 V.sl [] [] Tok.full, V.val (Value.int IntKind.i64 0),
 V.val (Value.int IntKind.i64 0), V.val (Value.string (ByteArray.mk #[]))]
 [])
 [],
 Item.mk (some 47) (some (44, true)) (AOp.call (Operand.func 23) [Operand.tmp 45, Operand.tmp 46])
 [],
 Item.mk (some 48) none
 (AOp.pick (Operand.tmp 44) (Operand.tmp 47) (Operand.const (Value.bool false))) [],
 Item.mk (some 49) none (AOp.mov (Operand.tmp 48)) [],
 Item.mk (some 50) (some (49, true)) (AOp.mov (Operand.tmp 9)) [],
 Item.mk (some 51) (some (49, true))
 (AOp.bin BinOp.eql 32 Cmp.other (Operand.tmp 50)
 (Operand.const (Value.int IntKind.i64 1)))
 [],
 Item.mk (some 52) none
 (AOp.pick (Operand.tmp 49) (Operand.tmp 51) (Operand.const (Value.bool false))) [],
 Item.mk (some 53) none (AOp.mov (Operand.tmp 52)) [],
 Item.mk (some 54) (some (53, true)) (AOp.mov (Operand.tmp 5)) [],
 Item.mk (some 55) (some (53, true)) (AOp.mov (Operand.tmp 0)) [],
 Item.mk (some 56) (some (53, true)) (AOp.call (Operand.func 20) [Operand.tmp 54, Operand.tmp 55])
 [],
 Item.mk (some 57) (some (53, true))
 (AOp.bin BinOp.eql 32 Cmp.other (Operand.tmp 56)
 (Operand.const (Value.int IntKind.i64 1)))
 [],
 Item.mk (some 58) none
 (AOp.pick (Operand.tmp 53) (Operand.tmp 57) (Operand.const (Value.bool false))) [],
 Item.mk (some 59) none (AOp.mov (Operand.tmp 58)) [],
 Item.mk (some 60) (some (59, true)) (AOp.mov (Operand.tmp 5)) [],
 Item.mk (some 61) (some (59, true)) (AOp.call (Operand.func 24) [Operand.tmp 60]) [],
 Item.mk (some 62) (some (59, true)) (AOp.len false (Operand.tmp 61)) [],
 Item.mk (some 63) (some (59, true))
 (AOp.bin BinOp.eql 3 Cmp.other (Operand.tmp 62)
 (Operand.const (Value.int IntKind.i64 0)))
 [],
 Item.mk (some 64) none
 (AOp.pick (Operand.tmp 59) (Operand.tmp 63) (Operand.const (Value.bool false))) [],
 Item.mk (some 65) none (AOp.mov (Operand.tmp 64)) [],
 Item.mk (some 66) (some (65, true)) (AOp.call (Operand.func 16) []) [],
 Item.mk (some 67) none
 (AOp.pick (Operand.tmp 65) (Operand.tmp 66) (Operand.const (Value.bool false))) [],
 Item.mk (some 4) none (AOp.mov (Operand.tmp 67)) []]).seq
 ACode.ret))))))
theorem F6_ok : compFn Tryz.prog (byId h6) 6 = some F6 := by kernel_rfl
def h7 : List (Nat × List (Nat × List Nat) × List Nat) := [(4,
 [(0, []), (1, []), (2, []), (3, []), (4, []), (5, []), (6, []), (7, []), (8, []), (9, []), (10, []), (11, []),
 (12, []), (13, [7]), (14, []), (15, [])],
 [0, 1, 3, 7, 0, 16, 48, 112, 240, 0, 1008, 2032, 15, 4111, 16383, 32767]),
 (9,
 [(0, []), (1, []), (2, []), (3, []), (4, []), (5, []), (6, []), (7, []), (8, []), (9, []), (10, []), (11, []),
 (12, []), (13, [])],
 [0, 0, 2, 6, 14, 0, 0, 126, 0, 256, 1022, 2047, 4095, 8191])]
def F7 : AFn :=
 AFn.mk 53 [ARes.tmp 4, ARes.tmp 5]
 ((ACode.row
 [Item.mk (some 3) none (AOp.box 27 (Operand.tmp 1)) [],
 Item.mk (some 4) none (AOp.mov (Operand.const (Value.slice none 0 0))) [],
 Item.mk (some 5) none (AOp.mov (Operand.const (Value.int IntKind.i64 0))) []]).seq
 (((ACode.row
 [Item.mk (some 7) none (AOp.mov (Operand.tmp 0)) [],
 Item.mk (some 8) none (AOp.call (Operand.func 25) [Operand.tmp 7]) [],
 Item.mk (some 9) none (AOp.un UnOp.not (Operand.tmp 8)) []]).seq
 (ACode.cond (Operand.tmp 9)
 ((ACode.row
 [Item.mk (some 4) none (AOp.mov (Operand.const (Value.slice none 0 0)))
 [],
 Item.mk (some 5) none (AOp.mov (Operand.const (Value.int IntKind.i64 1))) []]).seq
 ACode.ret)
 ACode.skip)).seq
 ((ACode.row
 [Item.mk (some 10) none (AOp.mov (Operand.tmp 0)) [], Item.mk (some 11) none (AOp.nilc (Operand.tmp 10)) [],
 Item.mk (some 12) none (AOp.fieldA 3 (Operand.tmp 11)) [],
 Item.mk (some 13) none (AOp.load none (Operand.tmp 12)) [],
 Item.mk (some 14) none (AOp.len false (Operand.tmp 13)) [],
 Item.mk (some 6) none (AOp.mov (Operand.tmp 14)) []]).seq
 ((ACode.row
 [Item.mk (some 15) none (AOp.mov (Operand.tmp 0)) [],
 Item.mk (some 16) none (AOp.nilc (Operand.tmp 15)) [],
 Item.mk (some 17) none (AOp.fieldA 0 (Operand.tmp 16)) [],
 Item.mk (some 18) none (AOp.load none (Operand.tmp 17)) [],
 Item.mk (some 19) none (AOp.mov (Operand.tmp 0)) [],
 Item.mk (some 20) none (AOp.nilc (Operand.tmp 19)) [],
 Item.mk (some 21) none (AOp.fieldA 4 (Operand.tmp 20)) [],
 Item.mk (some 22) none (AOp.load none (Operand.tmp 21)) [],
 Item.mk (some 23) none (AOp.len false (Operand.tmp 22)) [],
 Item.mk (some 24) none (AOp.mov (Operand.tmp 6)) [],
 Item.mk (some 25) none (AOp.bin BinOp.add 3 Cmp.other (Operand.tmp 23) (Operand.tmp 24)) [],
 Item.mk (some 26) none
 (AOp.bin BinOp.add 3 Cmp.other (Operand.tmp 25)
 (Operand.const (Value.int IntKind.i64 1)))
 [],
 Item.mk (some 27) none (AOp.fieldA 0 (Operand.tmp 3)) [],
 Item.mk none none (AOp.store 1 (Operand.tmp 27) (Operand.tmp 18))
 [(22, none, AOp.load none (Operand.tmp 21))],
 Item.mk (some 28) none (AOp.fieldA 1 (Operand.tmp 3)) [],
 Item.mk none none (AOp.store 1 (Operand.tmp 28) (Operand.tmp 26)) []]).seq
 ((ACode.block 0
 ((ACode.row
 [Item.mk (some 30) none (AOp.load (some 8) (Operand.tmp 3)) [],
 Item.mk (some 31) none (AOp.call (Operand.func 26) [Operand.tmp 30]) [],
 Item.mk (some 32) none
 (AOp.bin BinOp.neq 32 Cmp.other (Operand.tmp 31)
 (Operand.const (Value.int IntKind.i64 0)))
 [],
 Item.mk (some 29) none (AOp.mov (Operand.tmp 32)) []]).seq
 (ACode.cond (Operand.tmp 29)
 ((ACode.row
 [Item.mk (some 4) none
 (AOp.mov (Operand.const (Value.slice none 0 0))) [],
 Item.mk (some 5) none (AOp.mov (Operand.const (Value.int IntKind.i64 2)))
 []]).seq
 ACode.ret)
 ((ACode.row
 [Item.mk (some 34) none (AOp.mov (Operand.tmp 6)) [],
 Item.mk (some 35) none
 (AOp.bin BinOp.geq 3 Cmp.other (Operand.tmp 34)
 (Operand.const (Value.int IntKind.i64 64)))
 [],
 Item.mk (some 33) none (AOp.mov (Operand.tmp 35)) []]).seq
 (ACode.cond (Operand.tmp 33)
 ((ACode.row
 [Item.mk (some 4) none
 (AOp.mov (Operand.const (Value.slice none 0 0))) [],
 Item.mk (some 5) none (AOp.mov (Operand.const (Value.int IntKind.i64 12)))
 []]).seq
 ACode.ret)
 ACode.skip))))).seq
 ((ACode.row
 [Item.mk (some 36) none (AOp.mov (Operand.tmp 0)) [],
 Item.mk (some 37) none (AOp.mov (Operand.tmp 0)) [],
 Item.mk (some 38) none (AOp.nilc (Operand.tmp 37)) [],
 Item.mk (some 39) none (AOp.fieldA 3 (Operand.tmp 38)) [],
 Item.mk (some 40) none (AOp.load none (Operand.tmp 39)) [],
 Item.mk (some 41) none (AOp.mov (Operand.tmp 6)) [],
 Item.mk (some 42) none (AOp.mov (Operand.tmp 6)) [],
 Item.mk (some 43) none
 (AOp.sliceL 8 (Operand.tmp 40) none (some (Operand.tmp 41)) (some (Operand.tmp 42))) [],
 Item.mk (some 44) none (AOp.load (some 8) (Operand.tmp 3)) [],
 Item.mk (some 45) none
 (AOp.lits 8
 [V.val (Value.int IntKind.i64 0), V.val (Value.int IntKind.i64 0),
 V.val (Value.int IntKind.i64 0), V.val (Value.int IntKind.i64 0),
 V.val (Value.string (ByteArray.mk #[])), V.val (Value.int IntKind.i64 0),
 V.val (Value.int IntKind.i64 0), V.val (Value.string (ByteArray.mk #[]))]
 1 [(0, Operand.tmp 44)])
 [],
 Item.mk (some 46) none (AOp.app 27 80 8 (Operand.tmp 43) (Operand.tmp 45)) [],
 Item.mk (some 47) none (AOp.nilc (Operand.tmp 36)) [],
 Item.mk (some 48) none (AOp.fieldA 3 (Operand.tmp 47)) [],
 Item.mk none none (AOp.store 1 (Operand.tmp 48) (Operand.tmp 46)) []]).seq
 (((ACode.row
 [Item.mk (some 49) none (AOp.mov (Operand.tmp 6)) [],
 Item.mk (some 50) none
 (AOp.bin BinOp.gtr 3 Cmp.other (Operand.tmp 49)
 (Operand.const (Value.int IntKind.i64 0)))
 []]).seq
 (ACode.cond (Operand.tmp 50)
 ((ACode.row
 [Item.mk (some 4) none
 (AOp.mov (Operand.const (Value.slice none 0 0))) [],
 Item.mk (some 5) none (AOp.mov (Operand.const (Value.int IntKind.i64 0)))
 []]).seq
 ACode.ret)
 ACode.skip)).seq
 ((ACode.row
 [Item.mk (some 51) none (AOp.mov (Operand.tmp 0)) [],
 Item.mk (some 52) none (AOp.call (Operand.func 27) [Operand.tmp 51]) [],
 Item.mk (some 4) none (AOp.mov (Operand.tmp 52)) [],
 Item.mk (some 5) none (AOp.mov (Operand.const (Value.int IntKind.i64 0))) []]).seq
 ACode.ret))))))))
theorem F7_ok : compFn Tryz.prog (byId h7) 7 = some F7 := by kernel_rfl
def h8 : List (Nat × List (Nat × List Nat) × List Nat) := [(1,
 [(0, []), (1, []), (2, []), (3, []), (4, []), (5, []), (6, []), (7, []), (8, []), (9, []), (10, []), (11, []),
 (12, []), (13, []), (14, []), (15, []), (16, []), (17, []), (18, []), (19, []), (20, []), (21, []), (22, []),
 (23, []), (24, []), (25, []), (26, []), (27, []), (28, []), (29, []), (30, []), (31, []), (32, []), (33, []),
 (34, []), (35, []), (36, []), (37, []), (38, []), (39, []), (40, []), (41, []), (42, [])],
 [0, 1, 3, 7, 15, 31, 63, 127, 255, 511, 1023, 2047, 4095, 8191, 16383, 32767, 16383, 81919, 212991, 475135, 999423,
 2097151, 4194303, 8388607, 16777215, 33554431, 67108863, 134217727, 268435455, 536870911, 1073741823, 2147483647,
 4294967295, 8589934591, 17179869183, 34359738367, 68719476735, 137438953471, 274877906943, 4294967295,
 554050781183, 2199023255551, 4398046511103]),
 (3,
 [(0, []), (1, []), (2, []), (3, []), (4, []), (5, []), (6, []), (7, []), (8, []), (9, []), (10, []), (11, []),
 (12, []), (13, []), (14, []), (15, []), (16, []), (17, []), (18, [])],
 [0, 0, 2, 6, 14, 0, 32, 96, 224, 0, 512, 0, 2048, 8160, 16352, 32766, 65535, 131071, 262143]),
 (5, [(0, []), (1, []), (2, []), (3, []), (4, []), (5, []), (6, [])], [0, 1, 0, 4, 12, 28, 63])]
def F8 : AFn :=
 AFn.mk 88 [ARes.tmp 4]
 ((ACode.row
 [Item.mk (some 3) none (AOp.box 36 (Operand.tmp 1)) [],
 Item.mk (some 4) none (AOp.mov (Operand.const (Value.slice none 0 0))) []]).seq
 (((ACode.row
 [Item.mk (some 5) none (AOp.mov (Operand.tmp 0)) [],
 Item.mk (some 6) none (AOp.call (Operand.func 25) [Operand.tmp 5]) [],
 Item.mk (some 7) none (AOp.un UnOp.not (Operand.tmp 6)) [],
 Item.mk (some 8) none (AOp.mov (Operand.tmp 7)) [],
 Item.mk (some 9) (some (8, false)) (AOp.load (some 22) (Operand.tmp 3)) [],
 Item.mk (some 10) (some (8, false)) (AOp.call (Operand.func 28) [Operand.tmp 9]) [],
 Item.mk (some 11) (some (8, false))
 (AOp.bin BinOp.neq 32 Cmp.other (Operand.tmp 10)
 (Operand.const (Value.int IntKind.i64 0)))
 [],
 Item.mk (some 12) none (AOp.pick (Operand.tmp 8) (Operand.const (Value.bool true)) (Operand.tmp 11)) [],
 Item.mk (some 13) none (AOp.mov (Operand.tmp 12)) [],
 Item.mk (some 14) (some (13, false)) (AOp.fieldA 0 (Operand.tmp 3)) [],
 Item.mk (some 15) (some (13, false)) (AOp.load none (Operand.tmp 14)) [],
 Item.mk (some 16) (some (13, false))
 (AOp.bin BinOp.neq 28 Cmp.other (Operand.tmp 15)
 (Operand.const (Value.int IntKind.i64 10)))
 [],
 Item.mk (some 17) none (AOp.pick (Operand.tmp 13) (Operand.const (Value.bool true)) (Operand.tmp 16))
 [],
 Item.mk (some 18) none (AOp.mov (Operand.tmp 17)) [],
 Item.mk (some 19) (some (18, false)) (AOp.fieldA 2 (Operand.tmp 3)) [],
 Item.mk (some 20) (some (18, false)) (AOp.load none (Operand.tmp 19)) [],
 Item.mk (some 21) (some (18, false)) (AOp.mov (Operand.tmp 0)) [],
 Item.mk (some 22) (some (18, false)) (AOp.nilc (Operand.tmp 21)) [],
 Item.mk (some 23) (some (18, false)) (AOp.fieldA 0 (Operand.tmp 22)) [],
 Item.mk (some 24) (some (18, false)) (AOp.load none (Operand.tmp 23)) [],
 Item.mk (some 25) (some (18, false)) (AOp.un UnOp.neg (Operand.tmp 24)) [],
 Item.mk (some 26) (some (18, false)) (AOp.bin BinOp.neq 3 Cmp.other (Operand.tmp 20) (Operand.tmp 25))
 [],
 Item.mk (some 27) none (AOp.pick (Operand.tmp 18) (Operand.const (Value.bool true)) (Operand.tmp 26))
 [],
 Item.mk (some 28) none (AOp.mov (Operand.tmp 27)) [],
 Item.mk (some 29) (some (28, false)) (AOp.mov (Operand.tmp 0)) [],
 Item.mk (some 30) (some (28, false)) (AOp.nilc (Operand.tmp 29)) [],
 Item.mk (some 31) (some (28, false)) (AOp.fieldA 3 (Operand.tmp 30)) [],
 Item.mk (some 32) (some (28, false)) (AOp.load none (Operand.tmp 31)) [],
 Item.mk (some 33) (some (28, false)) (AOp.len false (Operand.tmp 32)) [],
 Item.mk (some 34) (some (28, false))
 (AOp.bin BinOp.eql 3 Cmp.other (Operand.tmp 33)
 (Operand.const (Value.int IntKind.i64 0)))
 [],
 Item.mk (some 35) none (AOp.pick (Operand.tmp 28) (Operand.const (Value.bool true)) (Operand.tmp 34))
 [],
 Item.mk (some 36) none (AOp.mov (Operand.tmp 35)) [],
 Item.mk (some 37) (some (36, false)) (AOp.mov (Operand.tmp 0)) [],
 Item.mk (some 38) (some (36, false)) (AOp.nilc (Operand.tmp 37)) [],
 Item.mk (some 39) (some (36, false)) (AOp.fieldA 3 (Operand.tmp 38)) [],
 Item.mk (some 40) (some (36, false)) (AOp.load none (Operand.tmp 39)) [],
 Item.mk (some 41) (some (36, false))
 (AOp.idxL 8 (Operand.tmp 40) (Operand.const (Value.int IntKind.i64 0))) [],
 Item.mk (some 42) (some (36, false)) (AOp.fieldA 1 (Operand.tmp 41)) [],
 Item.mk (some 43) (some (36, false)) (AOp.load none (Operand.tmp 42)) [],
 Item.mk (some 44) (some (36, false)) (AOp.fieldA 7 (Operand.tmp 3)) [],
 Item.mk (some 45) (some (36, false)) (AOp.load none (Operand.tmp 44)) [],
 Item.mk (some 46) (some (36, false)) (AOp.bin BinOp.neq 3 Cmp.other (Operand.tmp 43) (Operand.tmp 45))
 [],
 Item.mk (some 47) none (AOp.pick (Operand.tmp 36) (Operand.const (Value.bool true)) (Operand.tmp 46))
 []]).seq
 (ACode.cond (Operand.tmp 47)
 ((ACode.row
 [Item.mk (some 4) none (AOp.mov (Operand.const (Value.slice none 0 0)))
 []]).seq
 ACode.ret)
 ACode.skip)).seq
 ((ACode.row
 [Item.mk (some 48) none (AOp.mov (Operand.tmp 0)) [], Item.mk (some 49) none (AOp.mov (Operand.tmp 0)) [],
 Item.mk (some 50) none (AOp.nilc (Operand.tmp 49)) [],
 Item.mk (some 51) none (AOp.fieldA 4 (Operand.tmp 50)) [],
 Item.mk (some 52) none (AOp.load none (Operand.tmp 51)) [],
 Item.mk (some 53) none (AOp.mov (Operand.tmp 0)) [],
 Item.mk (some 54) none (AOp.nilc (Operand.tmp 53)) [],
 Item.mk (some 55) none (AOp.fieldA 0 (Operand.tmp 54)) [],
 Item.mk (some 56) none (AOp.load none (Operand.tmp 55)) [],
 Item.mk (some 57) none (AOp.fieldA 7 (Operand.tmp 3)) [],
 Item.mk (some 58) none (AOp.load none (Operand.tmp 57)) [],
 Item.mk (some 59) none (AOp.fieldA 19 (Operand.tmp 3)) [],
 Item.mk (some 60) none (AOp.load (some 3) (Operand.tmp 59)) [],
 Item.mk (some 61) none
 (AOp.build
 [V.val (Value.int IntKind.i64 0), V.val (Value.int IntKind.i64 0),
 V.val (Value.int IntKind.i64 0), V.val (Value.int IntKind.i64 0),
 V.val (Value.string (ByteArray.mk #[]))]
 [(0, 1, Operand.tmp 56), (1, 1, Operand.tmp 58), (2, 3, Operand.tmp 60)])
 [],
 Item.mk (some 62) none
 (AOp.lits 5
 [V.val (Value.int IntKind.i64 0), V.val (Value.int IntKind.i64 0),
 V.val (Value.int IntKind.i64 0), V.val (Value.int IntKind.i64 0),
 V.val (Value.string (ByteArray.mk #[]))]
 1 [(0, Operand.tmp 61)])
 [],
 Item.mk (some 63) none (AOp.app 70 48 5 (Operand.tmp 52) (Operand.tmp 62)) [],
 Item.mk (some 64) none (AOp.nilc (Operand.tmp 48)) [],
 Item.mk (some 65) none (AOp.fieldA 4 (Operand.tmp 64)) [],
 Item.mk none none (AOp.store 1 (Operand.tmp 65) (Operand.tmp 63)) []]).seq
 ((ACode.row
 [Item.mk (some 66) none (AOp.mov (Operand.tmp 0)) [], Item.mk (some 67) none (AOp.mov (Operand.tmp 0)) [],
 Item.mk (some 68) none (AOp.nilc (Operand.tmp 67)) [],
 Item.mk (some 69) none (AOp.fieldA 3 (Operand.tmp 68)) [],
 Item.mk (some 70) none (AOp.load none (Operand.tmp 69)) [],
 Item.mk (some 71) none
 (AOp.sliceL 8 (Operand.tmp 70) (some (Operand.const (Value.int IntKind.i64 1))) none
 none)
 [],
 Item.mk (some 72) none (AOp.nilc (Operand.tmp 66)) [],
 Item.mk (some 73) none (AOp.fieldA 3 (Operand.tmp 72)) [],
 Item.mk none none (AOp.store 1 (Operand.tmp 73) (Operand.tmp 71)) []]).seq
 (((ACode.row
 [Item.mk (some 74) none (AOp.fieldA 1 (Operand.tmp 3)) [],
 Item.mk (some 75) none (AOp.load none (Operand.tmp 74)) [],
 Item.mk (some 76) none (AOp.mov (Operand.tmp 0)) [],
 Item.mk (some 77) none (AOp.nilc (Operand.tmp 76)) [],
 Item.mk (some 78) none (AOp.fieldA 1 (Operand.tmp 77)) [],
 Item.mk (some 79) none (AOp.load none (Operand.tmp 78)) [],
 Item.mk (some 80) none (AOp.bin BinOp.lss 3 Cmp.other (Operand.tmp 75) (Operand.tmp 79)) []]).seq
 (ACode.cond (Operand.tmp 80)
 (ACode.row
 [Item.mk (some 81) none (AOp.mov (Operand.tmp 0)) [],
 Item.mk (some 82) none (AOp.fieldA 1 (Operand.tmp 3)) [],
 Item.mk (some 83) none (AOp.load none (Operand.tmp 82)) [],
 Item.mk (some 84) none (AOp.nilc (Operand.tmp 81)) [],
 Item.mk (some 85) none (AOp.fieldA 2 (Operand.tmp 84)) [],
 Item.mk none none (AOp.store 1 (Operand.tmp 85) (Operand.tmp 83)) []])
 ACode.skip)).seq
 ((ACode.row
 [Item.mk (some 86) none (AOp.mov (Operand.tmp 0)) [],
 Item.mk (some 87) none (AOp.call (Operand.func 27) [Operand.tmp 86]) [],
 Item.mk (some 4) none (AOp.mov (Operand.tmp 87)) []]).seq
 ACode.ret))))))
theorem F8_ok : compFn Tryz.prog (byId h8) 8 = some F8 := by kernel_rfl
def h9 : List (Nat × List (Nat × List Nat) × List Nat) := []
def F9 : AFn :=
 AFn.mk 8 [ARes.tmp 2]
 ((ACode.row
 [Item.mk (some 2) none (AOp.mov (Operand.const (Value.slice none 0 0))) []]).seq
 (((ACode.row
 [Item.mk (some 3) none (AOp.mov (Operand.tmp 0)) [],
 Item.mk (some 4) none (AOp.call (Operand.func 25) [Operand.tmp 3]) [],
 Item.mk (some 5) none (AOp.un UnOp.not (Operand.tmp 4)) []]).seq
 (ACode.cond (Operand.tmp 5)
 ((ACode.row
 [Item.mk (some 2) none (AOp.mov (Operand.const (Value.slice none 0 0)))
 []]).seq
 ACode.ret)
 ACode.skip)).seq
 ((ACode.row
 [Item.mk (some 6) none (AOp.mov (Operand.tmp 0)) [],
 Item.mk (some 7) none (AOp.call (Operand.func 29) [Operand.tmp 6, Operand.func 30]) [],
 Item.mk (some 2) none (AOp.mov (Operand.tmp 7)) []]).seq
 ACode.ret)))
theorem F9_ok : compFn Tryz.prog (byId h9) 9 = some F9 := by kernel_rfl
def h10 : List (Nat × List (Nat × List Nat) × List Nat) := []
def F10 : AFn :=
 AFn.mk 11 [ARes.tmp 2]
 ((ACode.row
 [Item.mk (some 2) none (AOp.mov (Operand.const (Value.slice none 0 0))) []]).seq
 (((ACode.row
 [Item.mk (some 3) none (AOp.mov (Operand.tmp 0)) [],
 Item.mk (some 4) none (AOp.call (Operand.func 25) [Operand.tmp 3]) [],
 Item.mk (some 5) none (AOp.un UnOp.not (Operand.tmp 4)) []]).seq
 (ACode.cond (Operand.tmp 5)
 ((ACode.row
 [Item.mk (some 2) none (AOp.mov (Operand.const (Value.slice none 0 0)))
 []]).seq
 ACode.ret)
 ACode.skip)).seq
 ((ACode.row
 [Item.mk (some 6) none (AOp.mov (Operand.tmp 0)) [], Item.mk (some 7) none (AOp.nilc (Operand.tmp 6)) [],
 Item.mk (some 8) none (AOp.fieldA 3 (Operand.tmp 7)) [],
 Item.mk (some 9) none (AOp.load none (Operand.tmp 8)) [],
 Item.mk (some 10) none (AOp.call (Operand.func 31) [Operand.tmp 9]) [],
 Item.mk (some 2) none (AOp.mov (Operand.tmp 10)) []]).seq
 ACode.ret)))
theorem F10_ok : compFn Tryz.prog (byId h10) 10 = some F10 := by kernel_rfl
def h11 : List (Nat × List (Nat × List Nat) × List Nat) := []
def F11 : AFn :=
 AFn.mk 11 [ARes.tmp 2]
 ((ACode.row
 [Item.mk (some 2) none (AOp.mov (Operand.const (Value.slice none 0 0))) []]).seq
 (((ACode.row
 [Item.mk (some 3) none (AOp.mov (Operand.tmp 0)) [],
 Item.mk (some 4) none (AOp.call (Operand.func 25) [Operand.tmp 3]) [],
 Item.mk (some 5) none (AOp.un UnOp.not (Operand.tmp 4)) []]).seq
 (ACode.cond (Operand.tmp 5)
 ((ACode.row
 [Item.mk (some 2) none (AOp.mov (Operand.const (Value.slice none 0 0)))
 []]).seq
 ACode.ret)
 ACode.skip)).seq
 ((ACode.row
 [Item.mk (some 6) none (AOp.mov (Operand.tmp 0)) [], Item.mk (some 7) none (AOp.nilc (Operand.tmp 6)) [],
 Item.mk (some 8) none (AOp.fieldA 4 (Operand.tmp 7)) [],
 Item.mk (some 9) none (AOp.load none (Operand.tmp 8)) [],
 Item.mk (some 10) none (AOp.call (Operand.func 32) [Operand.tmp 9]) [],
 Item.mk (some 2) none (AOp.mov (Operand.tmp 10)) []]).seq
 ACode.ret)))
theorem F11_ok : compFn Tryz.prog (byId h11) 11 = some F11 := by kernel_rfl
def h12 : List (Nat × List (Nat × List Nat) × List Nat) := []
def F12 : AFn :=
 AFn.mk 121 [ARes.tmp 0]
 ((ACode.row [Item.mk (some 0) none (AOp.mov (Operand.const (Value.bool false))) []]).seq
 ((ACode.row
 [Item.mk (some 11) none
 (AOp.call (Operand.func 33)
 [Operand.const (Value.int IntKind.i64 1),
 Operand.const (Value.int IntKind.i64 3)])
 [],
 Item.mk (some 10) none (AOp.mov (Operand.tmp 11)) [],
 Item.mk (some 12) none (AOp.ext (Operand.tmp 10) 0) [],
 Item.mk (some 13) none (AOp.ext (Operand.tmp 10) 1) [], Item.mk (some 1) none (AOp.mov (Operand.tmp 12)) [],
 Item.mk (some 2) none (AOp.mov (Operand.tmp 13)) []]).seq
 (((ACode.row
 [Item.mk (some 14) none (AOp.mov (Operand.tmp 1)) [],
 Item.mk (some 15) none
 (AOp.bin BinOp.eql 37 Cmp.pointer (Operand.tmp 14) (Operand.const (Value.pointer none))) [],
 Item.mk (some 16) none (AOp.mov (Operand.tmp 15)) [],
 Item.mk (some 17) (some (16, false)) (AOp.mov (Operand.tmp 2)) [],
 Item.mk (some 18) (some (16, false))
 (AOp.bin BinOp.neq 32 Cmp.other (Operand.tmp 17)
 (Operand.const (Value.int IntKind.i64 0)))
 [],
 Item.mk (some 19) none (AOp.pick (Operand.tmp 16) (Operand.const (Value.bool true)) (Operand.tmp 18))
 []]).seq
 (ACode.cond (Operand.tmp 19)
 ((ACode.row [Item.mk (some 0) none (AOp.mov (Operand.const (Value.bool false))) []]).seq ACode.ret)
 ACode.skip)).seq
 ((ACode.row
 [Item.mk (some 21) none (AOp.mov (Operand.tmp 1)) [],
 Item.mk (some 22) none
 (AOp.build
 [V.val (Value.int IntKind.i64 0), V.val (Value.int IntKind.i64 0),
 V.val (Value.int IntKind.i64 0), V.val (Value.int IntKind.i64 0),
 V.val (Value.string (ByteArray.mk #[])), V.val (Value.int IntKind.i64 0),
 V.val (Value.int IntKind.i64 0), V.val (Value.string (ByteArray.mk #[]))]
 [(2, 1, Operand.const (Value.int IntKind.i64 1)),
 (4, 1, Operand.const (Value.string (ByteArray.mk #[116])))])
 [],
 Item.mk (some 23) none (AOp.call (Operand.func 7) [Operand.tmp 21, Operand.tmp 22]) [],
 Item.mk (some 20) none (AOp.mov (Operand.tmp 23)) [],
 Item.mk (some 24) none (AOp.ext (Operand.tmp 20) 0) [],
 Item.mk (some 25) none (AOp.ext (Operand.tmp 20) 1) [],
 Item.mk (some 3) none (AOp.mov (Operand.tmp 24)) [],
 Item.mk (some 4) none (AOp.mov (Operand.tmp 25)) []]).seq
 ((ACode.row
 [Item.mk (some 27) none (AOp.mov (Operand.tmp 1)) [],
 Item.mk (some 28) none
 (AOp.build
 [V.val (Value.int IntKind.i64 0), V.val (Value.int IntKind.i64 0),
 V.val (Value.int IntKind.i64 0), V.val (Value.int IntKind.i64 0),
 V.val (Value.string (ByteArray.mk #[])), V.val (Value.int IntKind.i64 0),
 V.val (Value.int IntKind.i64 0), V.val (Value.string (ByteArray.mk #[]))]
 [(2, 1, Operand.const (Value.int IntKind.i64 2))])
 [],
 Item.mk (some 29) none (AOp.call (Operand.func 7) [Operand.tmp 27, Operand.tmp 28]) [],
 Item.mk (some 26) none (AOp.mov (Operand.tmp 29)) [],
 Item.mk (some 30) none (AOp.ext (Operand.tmp 26) 0) [],
 Item.mk (some 31) none (AOp.ext (Operand.tmp 26) 1) [],
 Item.mk (some 5) none (AOp.mov (Operand.tmp 30)) [],
 Item.mk (some 6) none (AOp.mov (Operand.tmp 31)) []]).seq
 ((ACode.row
 [Item.mk (some 32) none (AOp.mov (Operand.tmp 1)) [],
 Item.mk (some 33) none
 (AOp.call (Operand.func 34)
 [Operand.const (Value.int IntKind.i64 2),
 Operand.const (Value.int IntKind.i64 0)])
 [],
 Item.mk (some 34) none (AOp.call (Operand.func 8) [Operand.tmp 32, Operand.tmp 33]) [],
 Item.mk (some 7) none (AOp.mov (Operand.tmp 34)) []]).seq
 ((ACode.row
 [Item.mk (some 35) none (AOp.mov (Operand.tmp 1)) [],
 Item.mk (some 36) none
 (AOp.call (Operand.func 34)
 [Operand.const (Value.int IntKind.i64 1),
 Operand.const (Value.int IntKind.i64 2)])
 [],
 Item.mk (some 37) none (AOp.call (Operand.func 8) [Operand.tmp 35, Operand.tmp 36]) [],
 Item.mk (some 8) none (AOp.mov (Operand.tmp 37)) []]).seq
 ((ACode.row
 [Item.mk (some 38) none (AOp.mov (Operand.tmp 1)) [],
 Item.mk (some 39) none (AOp.call (Operand.func 9) [Operand.tmp 38]) [],
 Item.mk (some 9) none (AOp.mov (Operand.tmp 39)) []]).seq
 ((ACode.row
 [Item.mk (some 40) none (AOp.mov (Operand.tmp 3)) [],
 Item.mk (some 41) none (AOp.len false (Operand.tmp 40)) [],
 Item.mk (some 42) none
 (AOp.bin BinOp.eql 3 Cmp.other (Operand.tmp 41)
 (Operand.const (Value.int IntKind.i64 1)))
 [],
 Item.mk (some 43) none (AOp.mov (Operand.tmp 42)) [],
 Item.mk (some 44) (some (43, true)) (AOp.mov (Operand.tmp 3)) [],
 Item.mk (some 45) (some (43, true))
 (AOp.idxL 22 (Operand.tmp 44) (Operand.const (Value.int IntKind.i64 0))) [],
 Item.mk (some 46) (some (43, true)) (AOp.fieldA 2 (Operand.tmp 45)) [],
 Item.mk (some 47) (some (43, true)) (AOp.load none (Operand.tmp 46)) [],
 Item.mk (some 48) (some (43, true))
 (AOp.bin BinOp.eql 3 Cmp.other (Operand.tmp 47)
 (Operand.const (Value.int IntKind.i64 0)))
 [],
 Item.mk (some 49) none
 (AOp.pick (Operand.tmp 43) (Operand.tmp 48) (Operand.const (Value.bool false))) [],
 Item.mk (some 50) none (AOp.mov (Operand.tmp 49)) [],
 Item.mk (some 51) (some (50, true)) (AOp.mov (Operand.tmp 3)) [],
 Item.mk (some 52) (some (50, true))
 (AOp.idxL 22 (Operand.tmp 51) (Operand.const (Value.int IntKind.i64 0))) [],
 Item.mk (some 53) (some (50, true)) (AOp.fieldA 1 (Operand.tmp 52)) [],
 Item.mk (some 54) (some (50, true)) (AOp.load none (Operand.tmp 53)) [],
 Item.mk (some 55) (some (50, true))
 (AOp.bin BinOp.eql 3 Cmp.other (Operand.tmp 54)
 (Operand.const (Value.int IntKind.i64 (-1))))
 [],
 Item.mk (some 56) none
 (AOp.pick (Operand.tmp 50) (Operand.tmp 55) (Operand.const (Value.bool false))) [],
 Item.mk (some 57) none (AOp.mov (Operand.tmp 56)) [],
 Item.mk (some 58) (some (57, true)) (AOp.mov (Operand.tmp 3)) [],
 Item.mk (some 59) (some (57, true))
 (AOp.idxL 22 (Operand.tmp 58) (Operand.const (Value.int IntKind.i64 0))) [],
 Item.mk (some 60) (some (57, true)) (AOp.fieldA 8 (Operand.tmp 59)) [],
 Item.mk (some 61) (some (57, true)) (AOp.fieldA 1 (Operand.tmp 60)) [],
 Item.mk (some 62) (some (57, true)) (AOp.load none (Operand.tmp 61)) [],
 Item.mk (some 63) (some (57, true))
 (AOp.bin BinOp.eql 3 Cmp.other (Operand.tmp 62)
 (Operand.const (Value.int IntKind.i64 1)))
 [],
 Item.mk (some 64) none
 (AOp.pick (Operand.tmp 57) (Operand.tmp 63) (Operand.const (Value.bool false))) [],
 Item.mk (some 65) none (AOp.mov (Operand.tmp 64)) [],
 Item.mk (some 66) (some (65, true)) (AOp.mov (Operand.tmp 4)) [],
 Item.mk (some 67) (some (65, true))
 (AOp.bin BinOp.eql 32 Cmp.other (Operand.tmp 66)
 (Operand.const (Value.int IntKind.i64 0)))
 [],
 Item.mk (some 68) none
 (AOp.pick (Operand.tmp 65) (Operand.tmp 67) (Operand.const (Value.bool false))) [],
 Item.mk (some 69) none (AOp.mov (Operand.tmp 68)) [],
 Item.mk (some 70) (some (69, true)) (AOp.mov (Operand.tmp 5)) [],
 Item.mk (some 71) (some (69, true)) (AOp.len false (Operand.tmp 70)) [],
 Item.mk (some 72) (some (69, true))
 (AOp.bin BinOp.eql 3 Cmp.other (Operand.tmp 71)
 (Operand.const (Value.int IntKind.i64 0)))
 [],
 Item.mk (some 73) none
 (AOp.pick (Operand.tmp 69) (Operand.tmp 72) (Operand.const (Value.bool false))) [],
 Item.mk (some 74) none (AOp.mov (Operand.tmp 73)) [],
 Item.mk (some 75) (some (74, true)) (AOp.mov (Operand.tmp 6)) [],
 Item.mk (some 76) (some (74, true))
 (AOp.bin BinOp.eql 32 Cmp.other (Operand.tmp 75)
 (Operand.const (Value.int IntKind.i64 0)))
 [],
 Item.mk (some 77) none
 (AOp.pick (Operand.tmp 74) (Operand.tmp 76) (Operand.const (Value.bool false))) [],
 Item.mk (some 78) none (AOp.mov (Operand.tmp 77)) [],
 Item.mk (some 79) (some (78, true)) (AOp.mov (Operand.tmp 7)) [],
 Item.mk (some 80) (some (78, true)) (AOp.len false (Operand.tmp 79)) [],
 Item.mk (some 81) (some (78, true))
 (AOp.bin BinOp.eql 3 Cmp.other (Operand.tmp 80)
 (Operand.const (Value.int IntKind.i64 0)))
 [],
 Item.mk (some 82) none
 (AOp.pick (Operand.tmp 78) (Operand.tmp 81) (Operand.const (Value.bool false))) [],
 Item.mk (some 83) none (AOp.mov (Operand.tmp 82)) [],
 Item.mk (some 84) (some (83, true)) (AOp.mov (Operand.tmp 8)) [],
 Item.mk (some 85) (some (83, true)) (AOp.len false (Operand.tmp 84)) [],
 Item.mk (some 86) (some (83, true))
 (AOp.bin BinOp.eql 3 Cmp.other (Operand.tmp 85)
 (Operand.const (Value.int IntKind.i64 1)))
 [],
 Item.mk (some 87) none
 (AOp.pick (Operand.tmp 83) (Operand.tmp 86) (Operand.const (Value.bool false))) [],
 Item.mk (some 88) none (AOp.mov (Operand.tmp 87)) [],
 Item.mk (some 89) (some (88, true)) (AOp.mov (Operand.tmp 8)) [],
 Item.mk (some 90) (some (88, true))
 (AOp.idxL 22 (Operand.tmp 89) (Operand.const (Value.int IntKind.i64 0))) [],
 Item.mk (some 91) (some (88, true)) (AOp.fieldA 2 (Operand.tmp 90)) [],
 Item.mk (some 92) (some (88, true)) (AOp.load none (Operand.tmp 91)) [],
 Item.mk (some 93) (some (88, true))
 (AOp.bin BinOp.eql 3 Cmp.other (Operand.tmp 92)
 (Operand.const (Value.int IntKind.i64 2)))
 [],
 Item.mk (some 94) none
 (AOp.pick (Operand.tmp 88) (Operand.tmp 93) (Operand.const (Value.bool false))) [],
 Item.mk (some 95) none (AOp.mov (Operand.tmp 94)) [],
 Item.mk (some 96) (some (95, true)) (AOp.mov (Operand.tmp 8)) [],
 Item.mk (some 97) (some (95, true))
 (AOp.idxL 22 (Operand.tmp 96) (Operand.const (Value.int IntKind.i64 0))) [],
 Item.mk (some 98) (some (95, true)) (AOp.fieldA 8 (Operand.tmp 97)) [],
 Item.mk (some 99) (some (95, true)) (AOp.fieldA 1 (Operand.tmp 98)) [],
 Item.mk (some 100) (some (95, true)) (AOp.load none (Operand.tmp 99)) [],
 Item.mk (some 101) (some (95, true))
 (AOp.bin BinOp.eql 3 Cmp.other (Operand.tmp 100)
 (Operand.const (Value.int IntKind.i64 2)))
 [],
 Item.mk (some 102) none
 (AOp.pick (Operand.tmp 95) (Operand.tmp 101) (Operand.const (Value.bool false))) [],
 Item.mk (some 103) none (AOp.mov (Operand.tmp 102)) [],
 Item.mk (some 104) (some (103, true)) (AOp.mov (Operand.tmp 9)) [],
 Item.mk (some 105) (some (103, true)) (AOp.len false (Operand.tmp 104)) [],
 Item.mk (some 106) (some (103, true))
 (AOp.bin BinOp.eql 3 Cmp.other (Operand.tmp 105)
 (Operand.const (Value.int IntKind.i64 3)))
 [],
 Item.mk (some 107) none
 (AOp.pick (Operand.tmp 103) (Operand.tmp 106) (Operand.const (Value.bool false))) [],
 Item.mk (some 108) none (AOp.mov (Operand.tmp 107)) [],
 Item.mk (some 109) (some (108, true)) (AOp.mov (Operand.tmp 9)) [],
 Item.mk (some 110) (some (108, true))
 (AOp.idxL 22 (Operand.tmp 109) (Operand.const (Value.int IntKind.i64 2))) [],
 Item.mk (some 111) (some (108, true)) (AOp.fieldA 2 (Operand.tmp 110)) [],
 Item.mk (some 112) (some (108, true)) (AOp.load none (Operand.tmp 111)) [],
 Item.mk (some 113) (some (108, true))
 (AOp.bin BinOp.eql 3 Cmp.other (Operand.tmp 112)
 (Operand.const (Value.int IntKind.i64 2)))
 [],
 Item.mk (some 114) none
 (AOp.pick (Operand.tmp 108) (Operand.tmp 113) (Operand.const (Value.bool false))) [],
 Item.mk (some 115) none (AOp.mov (Operand.tmp 114)) [],
 Item.mk (some 116) (some (115, true)) (AOp.mov (Operand.tmp 1)) [],
 Item.mk (some 117) (some (115, true)) (AOp.call (Operand.func 11) [Operand.tmp 116]) [],
 Item.mk (some 118) (some (115, true)) (AOp.len false (Operand.tmp 117)) [],
 Item.mk (some 119) (some (115, true))
 (AOp.bin BinOp.eql 3 Cmp.other (Operand.tmp 118)
 (Operand.const (Value.int IntKind.i64 1)))
 [],
 Item.mk (some 120) none
 (AOp.pick (Operand.tmp 115) (Operand.tmp 119) (Operand.const (Value.bool false))) [],
 Item.mk (some 0) none (AOp.mov (Operand.tmp 120)) []]).seq
 ACode.ret)))))))))
theorem F12_ok : compFn Tryz.prog (byId h12) 12 = some F12 := by kernel_rfl
def h13 : List (Nat × List (Nat × List Nat) × List Nat) := []
def F13 : AFn :=
 AFn.mk 14 [ARes.tmp 4]
 ((ACode.row [Item.mk (some 4) none (AOp.mov (Operand.const (Value.int IntKind.i64 0))) []]).seq
 (((ACode.row
 [Item.mk (some 5) none (AOp.mov (Operand.tmp 0)) [],
 Item.mk (some 6) none
 (AOp.bin BinOp.lss 3 Cmp.other (Operand.tmp 5)
 (Operand.const (Value.int IntKind.i64 0)))
 [],
 Item.mk (some 7) none (AOp.mov (Operand.tmp 6)) [],
 Item.mk (some 8) (some (7, false)) (AOp.mov (Operand.tmp 1)) [],
 Item.mk (some 9) (some (7, false))
 (AOp.bin BinOp.lss 3 Cmp.other (Operand.tmp 8)
 (Operand.const (Value.int IntKind.i64 1)))
 [],
 Item.mk (some 10) none (AOp.pick (Operand.tmp 7) (Operand.const (Value.bool true)) (Operand.tmp 9))
 []]).seq
 (ACode.cond (Operand.tmp 10)
 ((ACode.row
 [Item.mk (some 4) none (AOp.mov (Operand.const (Value.int IntKind.i64 0))) []]).seq
 ACode.ret)
 ACode.skip)).seq
 ((ACode.row
 [Item.mk (some 11) none (AOp.mov (Operand.tmp 0)) [], Item.mk (some 12) none (AOp.mov (Operand.tmp 1)) [],
 Item.mk (some 13) none (AOp.bin BinOp.rem 3 Cmp.other (Operand.tmp 11) (Operand.tmp 12)) [],
 Item.mk (some 4) none (AOp.mov (Operand.tmp 13)) []]).seq
 ACode.ret)))
theorem F13_ok : compFn Tryz.prog (byId h13) 13 = some F13 := by kernel_rfl
def h14 : List (Nat × List (Nat × List Nat) × List Nat) := [(3,
 [(0, []), (1, []), (2, []), (3, []), (4, []), (5, []), (6, []), (7, []), (8, []), (9, []), (10, []), (11, []),
 (12, []), (13, []), (14, []), (15, [14]), (16, []), (17, []), (18, []), (19, []), (20, []), (21, []), (22, []),
 (23, []), (24, []), (25, []), (26, []), (27, []), (28, []), (29, []), (30, []), (31, []), (32, []), (33, [])],
 [0, 1, 3, 7, 15, 31, 63, 127, 255, 511, 1023, 2047, 4095, 8191, 16383, 16383, 65535, 131071, 262143, 524287,
 1048575, 2097151, 4194303, 8388607, 16777215, 33554431, 67108863, 134217727, 268435455, 536870911, 1073741823,
 2147483647, 4294967295, 8589934591])]
def F14 : AFn :=
 AFn.mk 48 [ARes.tmp 0]
 ((ACode.row [Item.mk (some 0) none (AOp.mov (Operand.const (Value.bool false))) []]).seq
 ((ACode.row
 [Item.mk (some 6) none (AOp.call (Operand.func 36) []) [],
 Item.mk (some 7) none (AOp.call (Operand.func 35) [Operand.tmp 6]) [],
 Item.mk (some 5) none (AOp.mov (Operand.tmp 7)) [], Item.mk (some 8) none (AOp.ext (Operand.tmp 5) 0) [],
 Item.mk (some 9) none (AOp.ext (Operand.tmp 5) 1) [], Item.mk (some 1) none (AOp.mov (Operand.tmp 8)) [],
 Item.mk (some 2) none (AOp.mov (Operand.tmp 9)) []]).seq
 ((ACode.row
 [Item.mk (some 11) none (AOp.mov (Operand.tmp 1)) [],
 Item.mk (some 12) none (AOp.call (Operand.func 37) [Operand.tmp 11]) [],
 Item.mk (some 10) none (AOp.mov (Operand.tmp 12)) [],
 Item.mk (some 13) none (AOp.ext (Operand.tmp 10) 0) [],
 Item.mk (some 14) none (AOp.ext (Operand.tmp 10) 1) [],
 Item.mk (some 3) none
 (AOp.alloc 36
 [V.val (Value.int IntKind.i64 0), V.val (Value.int IntKind.i64 0),
 V.val (Value.int IntKind.i64 0), V.val (Value.int IntKind.i64 0),
 V.val (Value.int IntKind.i64 0), V.val (Value.int IntKind.i64 0),
 V.val (Value.int IntKind.i64 0), V.val (Value.int IntKind.i64 0),
 V.val (Value.int IntKind.i64 0), V.val (Value.int IntKind.i64 0),
 V.val (Value.int IntKind.i64 0), V.val (Value.int IntKind.i64 0),
 V.val (Value.string (ByteArray.mk #[])), V.val (Value.int IntKind.i64 0),
 V.val (Value.int IntKind.i64 0), V.val (Value.string (ByteArray.mk #[])),
 V.val (Value.int IntKind.i64 0), V.val (Value.string (ByteArray.mk #[])),
 V.sl [] [] Tok.full, V.val (Value.int IntKind.i64 0),
 V.val (Value.int IntKind.i64 0), V.val (Value.string (ByteArray.mk #[]))])
 [],
 Item.mk none none (AOp.store 22 (Operand.tmp 3) (Operand.tmp 13)) [],
 Item.mk (some 4) none (AOp.mov (Operand.tmp 14)) []]).seq
 ((ACode.row
 [Item.mk (some 15) none (AOp.mov (Operand.tmp 1)) [],
 Item.mk (some 16) none (AOp.len false (Operand.tmp 15)) [],
 Item.mk (some 17) none
 (AOp.bin BinOp.eql 3 Cmp.other (Operand.tmp 16)
 (Operand.const (Value.int IntKind.i64 10)))
 [],
 Item.mk (some 18) none (AOp.mov (Operand.tmp 17)) [],
 Item.mk (some 19) (some (18, true)) (AOp.mov (Operand.tmp 1)) [],
 Item.mk (some 20) (some (18, true))
 (AOp.sliceL 1 (Operand.tmp 19) none (some (Operand.const (Value.int IntKind.i64 6)))
 none)
 [],
 Item.mk (some 21) (some (18, true)) (AOp.b2s (Operand.tmp 20)) [],
 Item.mk (some 22) (some (18, true))
 (AOp.bin BinOp.eql 9 Cmp.other (Operand.tmp 21)
 (Operand.const
 (Value.string
 (ByteArray.mk
 #[10, 6, 2, 0, 6,
 4]))))
 [],
 Item.mk (some 23) none (AOp.pick (Operand.tmp 18) (Operand.tmp 22) (Operand.const (Value.bool false)))
 [],
 Item.mk (some 24) none (AOp.mov (Operand.tmp 23)) [],
 Item.mk (some 25) (some (24, true)) (AOp.mov (Operand.tmp 2)) [],
 Item.mk (some 26) (some (24, true))
 (AOp.bin BinOp.eql 32 Cmp.other (Operand.tmp 25)
 (Operand.const (Value.int IntKind.i64 0)))
 [],
 Item.mk (some 27) none (AOp.pick (Operand.tmp 24) (Operand.tmp 26) (Operand.const (Value.bool false)))
 [],
 Item.mk (some 28) none (AOp.mov (Operand.tmp 27)) [],
 Item.mk (some 29) (some (28, true)) (AOp.load (some 22) (Operand.tmp 3)) [],
 Item.mk (some 30) (some (28, true)) (AOp.call (Operand.func 36) [])
 [(29, some (28, true), AOp.load (some 22) (Operand.tmp 3))],
 Item.mk (some 31) (some (28, true)) (AOp.call (Operand.func 23) [Operand.tmp 29, Operand.tmp 30]) [],
 Item.mk (some 32) none (AOp.pick (Operand.tmp 28) (Operand.tmp 31) (Operand.const (Value.bool false)))
 [],
 Item.mk (some 33) none (AOp.mov (Operand.tmp 32)) [],
 Item.mk (some 34) (some (33, true)) (AOp.mov (Operand.tmp 4)) [],
 Item.mk (some 35) (some (33, true))
 (AOp.bin BinOp.eql 32 Cmp.other (Operand.tmp 34)
 (Operand.const (Value.int IntKind.i64 0)))
 [],
 Item.mk (some 36) none (AOp.pick (Operand.tmp 33) (Operand.tmp 35) (Operand.const (Value.bool false)))
 [],
 Item.mk (some 37) none (AOp.mov (Operand.tmp 36)) [],
 Item.mk (some 38) (some (37, true))
 (AOp.call (Operand.func 13)
 [Operand.const (Value.int IntKind.i64 5),
 Operand.const (Value.int IntKind.i64 3)])
 [],
 Item.mk (some 39) (some (37, true))
 (AOp.bin BinOp.eql 3 Cmp.other (Operand.tmp 38)
 (Operand.const (Value.int IntKind.i64 2)))
 [],
 Item.mk (some 40) none (AOp.pick (Operand.tmp 37) (Operand.tmp 39) (Operand.const (Value.bool false)))
 [],
 Item.mk (some 41) none (AOp.mov (Operand.tmp 40)) [],
 Item.mk (some 42) (some (41, true))
 (AOp.build
 [V.val (Value.int IntKind.i64 0), V.val (Value.int IntKind.i64 0),
 V.val (Value.int IntKind.i64 0), V.val (Value.int IntKind.i64 0),
 V.val (Value.int IntKind.i64 0), V.val (Value.int IntKind.i64 0),
 V.val (Value.int IntKind.i64 0), V.val (Value.int IntKind.i64 0),
 V.val (Value.int IntKind.i64 0), V.val (Value.int IntKind.i64 0),
 V.val (Value.int IntKind.i64 0), V.val (Value.int IntKind.i64 0),
 V.val (Value.string (ByteArray.mk #[])), V.val (Value.int IntKind.i64 0),
 V.val (Value.int IntKind.i64 0), V.val (Value.string (ByteArray.mk #[])),
 V.val (Value.int IntKind.i64 0), V.val (Value.string (ByteArray.mk #[])),
 V.sl [] [] Tok.full, V.val (Value.int IntKind.i64 0),
 V.val (Value.int IntKind.i64 0), V.val (Value.string (ByteArray.mk #[]))]
 [])
 [],
 Item.mk (some 43) (some (41, true)) (AOp.call (Operand.func 28) [Operand.tmp 42]) [],
 Item.mk (some 44) (some (41, true))
 (AOp.bin BinOp.eql 32 Cmp.other (Operand.tmp 43)
 (Operand.const (Value.int IntKind.i64 2)))
 [],
 Item.mk (some 45) none (AOp.pick (Operand.tmp 41) (Operand.tmp 44) (Operand.const (Value.bool false)))
 [],
 Item.mk (some 46) none (AOp.mov (Operand.tmp 45)) [],
 Item.mk (some 47) none
 (AOp.pick (Operand.tmp 46) (Operand.const (Value.bool true)) (Operand.const (Value.bool false))) [],
 Item.mk (some 0) none (AOp.mov (Operand.tmp 47)) []]).seq
 ACode.ret))))
theorem F14_ok : compFn Tryz.prog (byId h14) 14 = some F14 := by kernel_rfl
def h15 : List (Nat × List (Nat × List Nat) × List Nat) := []
def F15 : AFn :=
 AFn.mk 3 [ARes.tmp 0]
 ((ACode.row [Item.mk (some 0) none (AOp.mov (Operand.const (Value.pointer none))) []]).seq
 ((ACode.row
 [Item.mk (some 1) none
 (AOp.build [V.val (Value.bool false), V.sl [] [] Tok.full] [(0, 1, Operand.const (Value.bool true))]) [],
 Item.mk (some 2) none (AOp.box 64 (Operand.tmp 1)) [],
 Item.mk (some 0) none (AOp.mov (Operand.tmp 2)) []]).seq
 ACode.ret))
theorem F15_ok : compFn Tryz.prog (byId h15) 15 = some F15 := by kernel_rfl
def h16 : List (Nat × List (Nat × List Nat) × List Nat) := [(8,
 [(0, []), (1, []), (2, []), (3, []), (4, [3]), (5, []), (6, []), (7, []), (8, []), (9, []), (10, []), (11, []),
 (12, []), (13, []), (14, []), (15, []), (16, []), (17, []), (18, []), (19, []), (20, []), (21, []), (22, []),
 (23, []), (24, []), (25, []), (26, []), (27, []), (28, []), (29, []), (30, []), (31, []), (32, []), (33, []),
 (34, []), (35, [])],
 [0, 1, 3, 7, 7, 31, 63, 127, 255, 511, 1023, 2047, 4095, 8191, 16383, 32767, 65535, 131071, 262143, 524287, 1048575,
 2097151, 4194303, 8388607, 16777215, 33554431, 67108863, 134217727, 268435455, 536870911, 1073741823, 2147483647,
 4294967295, 8589934591, 17179869183, 34359738367])]
def F16 : AFn :=
 AFn.mk 65 [ARes.tmp 0]
 ((ACode.row [Item.mk (some 0) none (AOp.mov (Operand.const (Value.bool false))) []]).seq
 ((ACode.row
 [Item.mk (some 8) none (AOp.call (Operand.func 15) []) [],
 Item.mk (some 1) none (AOp.mov (Operand.tmp 8)) []]).seq
 (((ACode.row
 [Item.mk (some 9) none (AOp.mov (Operand.tmp 1)) [],
 Item.mk (some 10) none
 (AOp.bin BinOp.eql 53 Cmp.pointer (Operand.tmp 9) (Operand.const (Value.pointer none))) []]).seq
 (ACode.cond (Operand.tmp 10)
 ((ACode.row [Item.mk (some 0) none (AOp.mov (Operand.const (Value.bool false))) []]).seq ACode.ret)
 ACode.skip)).seq
 ((ACode.row
 [Item.mk (some 11) none (AOp.mov (Operand.tmp 1)) [],
 Item.mk (some 12) none
 (AOp.call (Operand.func 17) [Operand.const (Value.int IntKind.i64 1)]) [],
 Item.mk (some 13) none
 (AOp.call (Operand.func 17) [Operand.const (Value.int IntKind.i64 2)]) [],
 Item.mk (some 14) none
 (AOp.build
 [V.val (Value.int IntKind.i64 0), V.val (Value.int IntKind.i64 0),
 V.val (Value.int IntKind.i64 0), V.val (Value.int IntKind.i64 0),
 V.val (Value.int IntKind.i64 0), V.val (Value.int IntKind.i64 0),
 V.val (Value.int IntKind.i64 0), V.val (Value.int IntKind.i64 0),
 V.val (Value.int IntKind.i64 0), V.val (Value.int IntKind.i64 0),
 V.val (Value.int IntKind.i64 0), V.val (Value.int IntKind.i64 0),
 V.val (Value.string (ByteArray.mk #[])), V.val (Value.int IntKind.i64 0),
 V.val (Value.int IntKind.i64 0), V.val (Value.string (ByteArray.mk #[])),
 V.val (Value.int IntKind.i64 0), V.val (Value.string (ByteArray.mk #[])),
 V.sl [] [] Tok.full, V.val (Value.int IntKind.i64 0),
 V.val (Value.int IntKind.i64 0), V.val (Value.string (ByteArray.mk #[]))]
 [])
 [],
 Item.mk (some 15) none
 (AOp.call (Operand.func 17) [Operand.const (Value.int IntKind.i64 3)]) [],
 Item.mk (some 16) none
 (AOp.lits 22
 [V.val (Value.int IntKind.i64 0), V.val (Value.int IntKind.i64 0),
 V.val (Value.int IntKind.i64 0), V.val (Value.int IntKind.i64 0),
 V.val (Value.int IntKind.i64 0), V.val (Value.int IntKind.i64 0),
 V.val (Value.int IntKind.i64 0), V.val (Value.int IntKind.i64 0),
 V.val (Value.int IntKind.i64 0), V.val (Value.int IntKind.i64 0),
 V.val (Value.int IntKind.i64 0), V.val (Value.int IntKind.i64 0),
 V.val (Value.string (ByteArray.mk #[])), V.val (Value.int IntKind.i64 0),
 V.val (Value.int IntKind.i64 0), V.val (Value.string (ByteArray.mk #[])),
 V.val (Value.int IntKind.i64 0), V.val (Value.string (ByteArray.mk #[])),
 V.sl [] [] Tok.full, V.val (Value.int IntKind.i64 0),
 V.val (Value.int IntKind.i64 0), V.val (Value.string (ByteArray.mk #[]))]
 4 [(0, Operand.tmp 12), (1, Operand.tmp 13), (2, Operand.tmp 14), (3, Operand.tmp 15)])
 [],
 Item.mk (some 17) none (AOp.call (Operand.func 18) [Operand.tmp 11, Operand.tmp 16]) [],
 Item.mk (some 2) none (AOp.mov (Operand.tmp 17)) []]).seq
 ((ACode.row
 [Item.mk (some 19) none (AOp.mov (Operand.tmp 1)) [],
 Item.mk (some 20) none
 (AOp.call (Operand.func 21) [Operand.tmp 19, Operand.const (Value.int IntKind.i64 1)])
 [],
 Item.mk (some 18) none (AOp.mov (Operand.tmp 20)) [],
 Item.mk (some 21) none (AOp.ext (Operand.tmp 18) 0) [],
 Item.mk (some 22) none (AOp.ext (Operand.tmp 18) 1) [],
 Item.mk (some 3) none
 (AOp.alloc 36
 [V.val (Value.int IntKind.i64 0), V.val (Value.int IntKind.i64 0),
 V.val (Value.int IntKind.i64 0), V.val (Value.int IntKind.i64 0),
 V.val (Value.int IntKind.i64 0), V.val (Value.int IntKind.i64 0),
 V.val (Value.int IntKind.i64 0), V.val (Value.int IntKind.i64 0),
 V.val (Value.int IntKind.i64 0), V.val (Value.int IntKind.i64 0),
 V.val (Value.int IntKind.i64 0), V.val (Value.int IntKind.i64 0),
 V.val (Value.string (ByteArray.mk #[])), V.val (Value.int IntKind.i64 0),
 V.val (Value.int IntKind.i64 0), V.val (Value.string (ByteArray.mk #[])),
 V.val (Value.int IntKind.i64 0), V.val (Value.string (ByteArray.mk #[])),
 V.sl [] [] Tok.full, V.val (Value.int IntKind.i64 0),
 V.val (Value.int IntKind.i64 0), V.val (Value.string (ByteArray.mk #[]))])
 [],
 Item.mk none none (AOp.store 22 (Operand.tmp 3) (Operand.tmp 21)) [],
 Item.mk (some 4) none (AOp.mov (Operand.tmp 22)) []]).seq
 ((ACode.row
 [Item.mk (some 23) none (AOp.mov (Operand.tmp 1)) [],
 Item.mk (some 24) none
 (AOp.call (Operand.func 20)
 [Operand.tmp 23, Operand.const (Value.int IntKind.i64 0)])
 [],
 Item.mk (some 5) none (AOp.mov (Operand.tmp 24)) []]).seq
 ((ACode.row
 [Item.mk (some 26) none (AOp.mov (Operand.tmp 1)) [],
 Item.mk (some 27) none
 (AOp.call (Operand.func 21)
 [Operand.tmp 26, Operand.const (Value.int IntKind.i64 3)])
 [],
 Item.mk (some 25) none (AOp.mov (Operand.tmp 27)) [],
 Item.mk (some 28) none (AOp.ext (Operand.tmp 25) 0) [],
 Item.mk (some 29) none (AOp.ext (Operand.tmp 25) 1) [],
 Item.mk (some 6) none
 (AOp.alloc 36
 [V.val (Value.int IntKind.i64 0), V.val (Value.int IntKind.i64 0),
 V.val (Value.int IntKind.i64 0),
 V.val (Value.int IntKind.i64 0),
 V.val (Value.int IntKind.i64 0),
 V.val (Value.int IntKind.i64 0),
 V.val (Value.int IntKind.i64 0),
 V.val (Value.int IntKind.i64 0),
 V.val (Value.int IntKind.i64 0),
 V.val (Value.int IntKind.i64 0),
 V.val (Value.int IntKind.i64 0),
 V.val (Value.int IntKind.i64 0), V.val (Value.string (ByteArray.mk #[])),
 V.val (Value.int IntKind.i64 0),
 V.val (Value.int IntKind.i64 0), V.val (Value.string (ByteArray.mk #[])),
 V.val (Value.int IntKind.i64 0), V.val (Value.string (ByteArray.mk #[])),
 V.sl [] [] Tok.full, V.val (Value.int IntKind.i64 0),
 V.val (Value.int IntKind.i64 0), V.val (Value.string (ByteArray.mk #[]))])
 [],
 Item.mk none none (AOp.store 22 (Operand.tmp 6) (Operand.tmp 28)) [],
 Item.mk (some 7) none (AOp.mov (Operand.tmp 29)) []]).seq
 ((ACode.row
 [Item.mk (some 30) none (AOp.mov (Operand.tmp 2)) [],
 Item.mk (some 31) none
 (AOp.bin BinOp.eql 3 Cmp.other (Operand.tmp 30)
 (Operand.const (Value.int IntKind.i64 3)))
 [],
 Item.mk (some 32) none (AOp.mov (Operand.tmp 31)) [],
 Item.mk (some 33) (some (32, true)) (AOp.load (some 22) (Operand.tmp 3)) [],
 Item.mk (some 34) (some (32, true))
 (AOp.call (Operand.func 17) [Operand.const (Value.int IntKind.i64 2)])
 [(33, some (32, true), AOp.load (some 22) (Operand.tmp 3))],
 Item.mk (some 35) (some (32, true))
 (AOp.call (Operand.func 23) [Operand.tmp 33, Operand.tmp 34]) [],
 Item.mk (some 36) none
 (AOp.pick (Operand.tmp 32) (Operand.tmp 35) (Operand.const (Value.bool false))) [],
 Item.mk (some 37) none (AOp.mov (Operand.tmp 36)) [],
 Item.mk (some 38) (some (37, true)) (AOp.mov (Operand.tmp 4)) [],
 Item.mk (some 39) (some (37, true))
 (AOp.bin BinOp.eql 32 Cmp.other (Operand.tmp 38)
 (Operand.const (Value.int IntKind.i64 0)))
 [],
 Item.mk (some 40) none
 (AOp.pick (Operand.tmp 37) (Operand.tmp 39) (Operand.const (Value.bool false))) [],
 Item.mk (some 41) none (AOp.mov (Operand.tmp 40)) [],
 Item.mk (some 42) (some (41, true)) (AOp.mov (Operand.tmp 5)) [],
 Item.mk (some 43) (some (41, true))
 (AOp.bin BinOp.eql 32 Cmp.other (Operand.tmp 42)
 (Operand.const (Value.int IntKind.i64 0)))
 [],
 Item.mk (some 44) none
 (AOp.pick (Operand.tmp 41) (Operand.tmp 43) (Operand.const (Value.bool false))) [],
 Item.mk (some 45) none (AOp.mov (Operand.tmp 44)) [],
 Item.mk (some 46) (some (45, true)) (AOp.mov (Operand.tmp 7)) [],
 Item.mk (some 47) (some (45, true))
 (AOp.bin BinOp.eql 32 Cmp.other (Operand.tmp 46)
 (Operand.const (Value.int IntKind.i64 10)))
 [],
 Item.mk (some 48) none
 (AOp.pick (Operand.tmp 45) (Operand.tmp 47) (Operand.const (Value.bool false))) [],
 Item.mk (some 49) none (AOp.mov (Operand.tmp 48)) [],
 Item.mk (some 50) (some (49, true)) (AOp.mov (Operand.tmp 1)) [],
 Item.mk (some 51) (some (49, true)) (AOp.call (Operand.func 24) [Operand.tmp 50]) [],
 Item.mk (some 52) (some (49, true))
 (AOp.call (Operand.func 17) [Operand.const (Value.int IntKind.i64 1)]) [],
 Item.mk (some 53) (some (49, true))
 (AOp.call (Operand.func 17) [Operand.const (Value.int IntKind.i64 3)]) [],
 Item.mk (some 54) (some (49, true))
 (AOp.call (Operand.func 17) [Operand.const (Value.int IntKind.i64 1)]) [],
 Item.mk (some 55) (some (49, true))
 (AOp.lits 22
 [V.val (Value.int IntKind.i64 0),
 V.val (Value.int IntKind.i64 0),
 V.val (Value.int IntKind.i64 0),
 V.val (Value.int IntKind.i64 0),
 V.val (Value.int IntKind.i64 0),
 V.val (Value.int IntKind.i64 0),
 V.val (Value.int IntKind.i64 0),
 V.val (Value.int IntKind.i64 0),
 V.val (Value.int IntKind.i64 0),
 V.val (Value.int IntKind.i64 0),
 V.val (Value.int IntKind.i64 0),
 V.val (Value.int IntKind.i64 0), V.val (Value.string (ByteArray.mk #[])),
 V.val (Value.int IntKind.i64 0),
 V.val (Value.int IntKind.i64 0), V.val (Value.string (ByteArray.mk #[])),
 V.val (Value.int IntKind.i64 0), V.val (Value.string (ByteArray.mk #[])),
 V.sl [] [] Tok.full, V.val (Value.int IntKind.i64 0),
 V.val (Value.int IntKind.i64 0), V.val (Value.string (ByteArray.mk #[]))]
 3 [(0, Operand.tmp 52), (1, Operand.tmp 53), (2, Operand.tmp 54)])
 [],
 Item.mk (some 56) (some (49, true))
 (AOp.call (Operand.func 38) [Operand.tmp 51, Operand.tmp 55]) [],
 Item.mk (some 57) none
 (AOp.pick (Operand.tmp 49) (Operand.tmp 56) (Operand.const (Value.bool false))) [],
 Item.mk (some 58) none (AOp.mov (Operand.tmp 57)) [],
 Item.mk (some 59) (some (58, true)) (AOp.mov (Operand.tmp 1)) [],
 Item.mk (some 60) (some (58, true)) (AOp.call (Operand.func 19) [Operand.tmp 59]) [],
 Item.mk (some 61) (some (58, true))
 (AOp.bin BinOp.eql 3 Cmp.other (Operand.tmp 60)
 (Operand.const (Value.int IntKind.i64 3)))
 [],
 Item.mk (some 62) none
 (AOp.pick (Operand.tmp 58) (Operand.tmp 61) (Operand.const (Value.bool false))) [],
 Item.mk (some 63) none (AOp.mov (Operand.tmp 62)) [],
 Item.mk (some 64) none
 (AOp.pick (Operand.tmp 63) (Operand.const (Value.bool true))
 (Operand.const (Value.bool false)))
 [],
 Item.mk (some 0) none (AOp.mov (Operand.tmp 64)) []]).seq
 ACode.ret))))))))
theorem F16_ok : compFn Tryz.prog (byId h16) 16 = some F16 := by kernel_rfl
def h17 : List (Nat × List (Nat × List Nat) × List Nat) := []
def F17 : AFn :=
 AFn.mk 5 [ARes.cell 2 (some 22)]
 ((ACode.row
 [Item.mk (some 2) none
 (AOp.alloc 36
 [V.val (Value.int IntKind.i64 0), V.val (Value.int IntKind.i64 0),
 V.val (Value.int IntKind.i64 0), V.val (Value.int IntKind.i64 0),
 V.val (Value.int IntKind.i64 0), V.val (Value.int IntKind.i64 0),
 V.val (Value.int IntKind.i64 0), V.val (Value.int IntKind.i64 0),
 V.val (Value.int IntKind.i64 0), V.val (Value.int IntKind.i64 0),
 V.val (Value.int IntKind.i64 0), V.val (Value.int IntKind.i64 0),
 V.val (Value.string (ByteArray.mk #[])), V.val (Value.int IntKind.i64 0),
 V.val (Value.int IntKind.i64 0), V.val (Value.string (ByteArray.mk #[])),
 V.val (Value.int IntKind.i64 0), V.val (Value.string (ByteArray.mk #[])),
 V.sl [] [] Tok.full, V.val (Value.int IntKind.i64 0),
 V.val (Value.int IntKind.i64 0), V.val (Value.string (ByteArray.mk #[]))])
 []]).seq
 ((ACode.row
 [Item.mk (some 3) none (AOp.mov (Operand.tmp 0)) [],
 Item.mk (some 4) none
 (AOp.build
 [V.val (Value.int IntKind.i64 0), V.val (Value.int IntKind.i64 0),
 V.val (Value.int IntKind.i64 0), V.val (Value.int IntKind.i64 0),
 V.val (Value.int IntKind.i64 0), V.val (Value.int IntKind.i64 0),
 V.val (Value.int IntKind.i64 0), V.val (Value.int IntKind.i64 0),
 V.val (Value.int IntKind.i64 0), V.val (Value.int IntKind.i64 0),
 V.val (Value.int IntKind.i64 0), V.val (Value.int IntKind.i64 0),
 V.val (Value.string (ByteArray.mk #[])), V.val (Value.int IntKind.i64 0),
 V.val (Value.int IntKind.i64 0), V.val (Value.string (ByteArray.mk #[])),
 V.val (Value.int IntKind.i64 0), V.val (Value.string (ByteArray.mk #[])),
 V.sl [] [] Tok.full, V.val (Value.int IntKind.i64 0),
 V.val (Value.int IntKind.i64 0), V.val (Value.string (ByteArray.mk #[]))]
 [(0, 1, Operand.const (Value.int IntKind.i64 5)),
 (1, 1, Operand.const (Value.int IntKind.i64 0)),
 (2, 1, Operand.const (Value.int IntKind.i64 1)), (3, 1, Operand.tmp 3)])
 [],
 Item.mk none none (AOp.store 22 (Operand.tmp 2) (Operand.tmp 4)) []]).seq
 ACode.ret))
theorem F17_ok : compFn Tryz.prog (byId h17) 17 = some F17 := by kernel_rfl
def h18 : List (Nat × List (Nat × List Nat) × List Nat) := []
def F18 : AFn :=
 AFn.mk 48 [ARes.tmp 4]
 ((ACode.row [Item.mk (some 4) none (AOp.mov (Operand.const (Value.int IntKind.i64 0))) []]).seq
 (((ACode.row
 [Item.mk (some 10) none (AOp.mov (Operand.tmp 0)) [],
 Item.mk (some 11) none (AOp.call (Operand.func 39) [Operand.tmp 10]) [],
 Item.mk (some 12) none (AOp.un UnOp.not (Operand.tmp 11)) []]).seq
 (ACode.cond (Operand.tmp 12)
 ((ACode.row
 [Item.mk (some 4) none (AOp.mov (Operand.const (Value.int IntKind.i64 0))) []]).seq
 ACode.ret)
 ACode.skip)).seq
 ((ACode.row [Item.mk (some 5) none (AOp.mov (Operand.const (Value.int IntKind.i64 0))) []]).seq
 (((ACode.row
 [Item.mk (some 13) none (AOp.mov (Operand.tmp 1)) [],
 Item.mk (some 14) none (AOp.len false (Operand.tmp 13)) [],
 Item.mk (some 15) none (AOp.mov (Operand.const (Value.int IntKind.i64 0))) []]).seq
 (ACode.block 0
 ((ACode.row
 [Item.mk (some 16) none (AOp.bin BinOp.lss 3 Cmp.other (Operand.tmp 15) (Operand.tmp 14))
 []]).seq
 ((ACode.cond (Operand.tmp 16) ACode.skip (ACode.exit 0)).seq
 ((ACode.block 1
 ((ACode.row
 [Item.mk (some 17) none (AOp.idxL 22 (Operand.tmp 13) (Operand.tmp 15)) [],
 Item.mk (some 18) none (AOp.load (some 22) (Operand.tmp 17)) [],
 Item.mk (some 7) none
 (AOp.alloc 36
 [V.val (Value.int IntKind.i64 0),
 V.val (Value.int IntKind.i64 0),
 V.val (Value.int IntKind.i64 0),
 V.val (Value.int IntKind.i64 0),
 V.val (Value.int IntKind.i64 0),
 V.val (Value.int IntKind.i64 0),
 V.val (Value.int IntKind.i64 0),
 V.val (Value.int IntKind.i64 0),
 V.val (Value.int IntKind.i64 0),
 V.val (Value.int IntKind.i64 0),
 V.val (Value.int IntKind.i64 0),
 V.val (Value.int IntKind.i64 0),
 V.val (Value.string (ByteArray.mk #[])),
 V.val (Value.int IntKind.i64 0),
 V.val (Value.int IntKind.i64 0),
 V.val (Value.string (ByteArray.mk #[])),
 V.val (Value.int IntKind.i64 0),
 V.val (Value.string (ByteArray.mk #[])), V.sl [] [] Tok.full,
 V.val (Value.int IntKind.i64 0),
 V.val (Value.int IntKind.i64 0),
 V.val (Value.string (ByteArray.mk #[]))])
 [],
 Item.mk none none (AOp.store 22 (Operand.tmp 7) (Operand.tmp 18)) []]).seq
 ((ACode.row
 [Item.mk (some 20) none (AOp.load (some 22) (Operand.tmp 7)) [],
 Item.mk (some 21) none (AOp.call (Operand.func 35) [Operand.tmp 20]) [],
 Item.mk (some 19) none (AOp.mov (Operand.tmp 21)) [],
 Item.mk (some 22) none (AOp.ext (Operand.tmp 19) 0) [],
 Item.mk (some 23) none (AOp.ext (Operand.tmp 19) 1) [],
 Item.mk (some 8) none (AOp.mov (Operand.tmp 22)) [],
 Item.mk (some 9) none (AOp.mov (Operand.tmp 23)) []]).seq
 ((ACode.row
 [Item.mk (some 24) none (AOp.mov (Operand.tmp 9)) [],
 Item.mk (some 25) none
 (AOp.bin BinOp.eql 32 Cmp.other (Operand.tmp 24)
 (Operand.const (Value.int IntKind.i64 0)))
 [],
 Item.mk (some 26) none (AOp.mov (Operand.tmp 25)) [],
 Item.mk (some 27) (some (26, true)) (AOp.mov (Operand.tmp 0)) [],
 Item.mk (some 28) (some (26, true)) (AOp.nilc (Operand.tmp 27)) [],
 Item.mk (some 29) (some (26, true)) (AOp.fieldA 1 (Operand.tmp 28)) [],
 Item.mk (some 30) (some (26, true)) (AOp.load none (Operand.tmp 29)) [],
 Item.mk (some 31) (some (26, true)) (AOp.len false (Operand.tmp 30)) [],
 Item.mk (some 32) (some (26, true))
 (AOp.bin BinOp.lss 3 Cmp.other (Operand.tmp 31)
 (Operand.const (Value.int IntKind.i64 4096)))
 [],
 Item.mk (some 33) none
 (AOp.pick (Operand.tmp 26) (Operand.tmp 32)
 (Operand.const (Value.bool false)))
 []]).seq
 (ACode.cond (Operand.tmp 33)
 ((ACode.row
 [Item.mk (some 34) none (AOp.mov (Operand.tmp 0)) [],
 Item.mk (some 35) none (AOp.mov (Operand.tmp 0)) [],
 Item.mk (some 36) none (AOp.nilc (Operand.tmp 35)) [],
 Item.mk (some 37) none (AOp.fieldA 1 (Operand.tmp 36)) [],
 Item.mk (some 38) none (AOp.load none (Operand.tmp 37)) [],
 Item.mk (some 39) none (AOp.mov (Operand.tmp 8)) [],
 Item.mk (some 40) none
 (AOp.lits 1 [V.sl [] [] Tok.full] 1 [(0, Operand.tmp 39)]) [],
 Item.mk (some 41) none (AOp.app 77 24 1 (Operand.tmp 38) (Operand.tmp 40))
 [],
 Item.mk (some 42) none (AOp.nilc (Operand.tmp 34)) [],
 Item.mk (some 43) none (AOp.fieldA 1 (Operand.tmp 42)) [],
 Item.mk none none (AOp.store 1 (Operand.tmp 43) (Operand.tmp 41)) []]).seq
 (ACode.row
 [Item.mk (some 44) none (AOp.mov (Operand.tmp 5)) [],
 Item.mk (some 45) none
 (AOp.bin BinOp.add 3 Cmp.other (Operand.tmp 44)
 (Operand.const (Value.int IntKind.i64 1)))
 [],
 Item.mk (some 5) none (AOp.mov (Operand.tmp 45)) []]))
 ACode.skip))))).seq
 (ACode.row
 [Item.mk (some 46) none
 (AOp.bin BinOp.add 3 Cmp.other (Operand.tmp 15)
 (Operand.const (Value.int IntKind.i64 1)))
 [],
 Item.mk (some 15) none (AOp.mov (Operand.tmp 46)) []])))).loop)).seq
 ((ACode.row
 [Item.mk (some 47) none (AOp.mov (Operand.tmp 5)) [],
 Item.mk (some 4) none (AOp.mov (Operand.tmp 47)) []]).seq
 ACode.ret)))))
theorem F18_ok : compFn Tryz.prog (byId h18) 18 = some F18 := by kernel_rfl
def h19 : List (Nat × List (Nat × List Nat) × List Nat) := []
def F19 : AFn :=
 AFn.mk 11 [ARes.tmp 2]
 ((ACode.row [Item.mk (some 2) none (AOp.mov (Operand.const (Value.int IntKind.i64 0))) []]).seq
 (((ACode.row
 [Item.mk (some 3) none (AOp.mov (Operand.tmp 0)) [],
 Item.mk (some 4) none (AOp.call (Operand.func 39) [Operand.tmp 3]) [],
 Item.mk (some 5) none (AOp.un UnOp.not (Operand.tmp 4)) []]).seq
 (ACode.cond (Operand.tmp 5)
 ((ACode.row
 [Item.mk (some 2) none (AOp.mov (Operand.const (Value.int IntKind.i64 0))) []]).seq
 ACode.ret)
 ACode.skip)).seq
 ((ACode.row
 [Item.mk (some 6) none (AOp.mov (Operand.tmp 0)) [], Item.mk (some 7) none (AOp.nilc (Operand.tmp 6)) [],
 Item.mk (some 8) none (AOp.fieldA 1 (Operand.tmp 7)) [],
 Item.mk (some 9) none (AOp.load none (Operand.tmp 8)) [],
 Item.mk (some 10) none (AOp.len false (Operand.tmp 9)) [],
 Item.mk (some 2) none (AOp.mov (Operand.tmp 10)) []]).seq
 ACode.ret)))
theorem F19_ok : compFn Tryz.prog (byId h19) 19 = some F19 := by kernel_rfl
def h20 : List (Nat × List (Nat × List Nat) × List Nat) := []
def F20 : AFn :=
 AFn.mk 9 [ARes.tmp 4]
 ((ACode.row
 [Item.mk (some 2) none (AOp.box 53 (Operand.tmp 0)) [],
 Item.mk (some 4) none (AOp.mov (Operand.const (Value.int IntKind.i64 0))) []]).seq
 ((ACode.row
 [Item.mk (some 5) none (AOp.load none (Operand.tmp 2)) [], Item.mk (some 6) none (AOp.mov (Operand.tmp 1)) [],
 Item.mk (some 7) none (AOp.mkf (Fn.func 41) [] [Operand.tmp 2]) [],
 Item.mk (some 8) none (AOp.call (Operand.func 40) [Operand.tmp 5, Operand.tmp 6, Operand.tmp 7]) [],
 Item.mk (some 4) none (AOp.mov (Operand.tmp 8)) []]).seq
 ACode.ret))
theorem F20_ok : compFn Tryz.prog (byId h20) 20 = some F20 := by kernel_rfl
def h21 : List (Nat × List (Nat × List Nat) × List Nat) := [(3,
 [(0, []), (1, []), (2, []), (3, []), (4, []), (5, []), (6, []), (7, []), (8, []), (9, []), (10, []), (11, []),
 (12, []), (13, []), (14, []), (15, []), (16, []), (17, []), (18, [])],
 [0, 0, 2, 6, 14, 0, 0, 126, 0, 256, 768, 1792, 0, 4096, 16128, 32766, 65535, 131071, 262143])]
def F21 : AFn :=
 AFn.mk 36 [ARes.cell 4 (some 22), ARes.tmp 5]
 ((ACode.row
 [Item.mk (some 4) none
 (AOp.alloc 36
 [V.val (Value.int IntKind.i64 0), V.val (Value.int IntKind.i64 0),
 V.val (Value.int IntKind.i64 0), V.val (Value.int IntKind.i64 0),
 V.val (Value.int IntKind.i64 0), V.val (Value.int IntKind.i64 0),
 V.val (Value.int IntKind.i64 0), V.val (Value.int IntKind.i64 0),
 V.val (Value.int IntKind.i64 0), V.val (Value.int IntKind.i64 0),
 V.val (Value.int IntKind.i64 0), V.val (Value.int IntKind.i64 0),
 V.val (Value.string (ByteArray.mk #[])), V.val (Value.int IntKind.i64 0),
 V.val (Value.int IntKind.i64 0), V.val (Value.string (ByteArray.mk #[])),
 V.val (Value.int IntKind.i64 0), V.val (Value.string (ByteArray.mk #[])),
 V.sl [] [] Tok.full, V.val (Value.int IntKind.i64 0),
 V.val (Value.int IntKind.i64 0), V.val (Value.string (ByteArray.mk #[]))])
 [],
 Item.mk (some 5) none (AOp.mov (Operand.const (Value.int IntKind.i64 0))) []]).seq
 ((ACode.row
 [Item.mk (some 9) none (AOp.mov (Operand.tmp 0)) [], Item.mk (some 10) none (AOp.mov (Operand.tmp 1)) [],
 Item.mk (some 11) none (AOp.call (Operand.func 22) [Operand.tmp 9, Operand.tmp 10]) [],
 Item.mk (some 8) none (AOp.mov (Operand.tmp 11)) [], Item.mk (some 12) none (AOp.ext (Operand.tmp 8) 0) [],
 Item.mk (some 13) none (AOp.ext (Operand.tmp 8) 1) [],
 Item.mk (some 6) none
 (AOp.alloc 36
 [V.val (Value.int IntKind.i64 0), V.val (Value.int IntKind.i64 0),
 V.val (Value.int IntKind.i64 0), V.val (Value.int IntKind.i64 0),
 V.val (Value.int IntKind.i64 0), V.val (Value.int IntKind.i64 0),
 V.val (Value.int IntKind.i64 0), V.val (Value.int IntKind.i64 0),
 V.val (Value.int IntKind.i64 0), V.val (Value.int IntKind.i64 0),
 V.val (Value.int IntKind.i64 0), V.val (Value.int IntKind.i64 0),
 V.val (Value.string (ByteArray.mk #[])), V.val (Value.int IntKind.i64 0),
 V.val (Value.int IntKind.i64 0), V.val (Value.string (ByteArray.mk #[])),
 V.val (Value.int IntKind.i64 0), V.val (Value.string (ByteArray.mk #[])),
 V.sl [] [] Tok.full, V.val (Value.int IntKind.i64 0),
 V.val (Value.int IntKind.i64 0), V.val (Value.string (ByteArray.mk #[]))])
 [],
 Item.mk none none (AOp.store 22 (Operand.tmp 6) (Operand.tmp 12)) [],
 Item.mk (some 7) none (AOp.mov (Operand.tmp 13)) []]).seq
 (((ACode.row
 [Item.mk (some 14) none (AOp.mov (Operand.tmp 7)) [],
 Item.mk (some 15) none
 (AOp.bin BinOp.eql 32 Cmp.other (Operand.tmp 14)
 (Operand.const (Value.int IntKind.i64 0)))
 []]).seq
 (ACode.cond (Operand.tmp 15)
 (ACode.row
 [Item.mk (some 16) none (AOp.mov (Operand.tmp 0)) [],
 Item.mk (some 17) none (AOp.mov (Operand.tmp 0)) [],
 Item.mk (some 18) none (AOp.nilc (Operand.tmp 17)) [],
 Item.mk (some 19) none (AOp.fieldA 1 (Operand.tmp 18)) [],
 Item.mk (some 20) none (AOp.load none (Operand.tmp 19)) [],
 Item.mk (some 21) none (AOp.mov (Operand.tmp 1)) [],
 Item.mk (some 22) none (AOp.mov (Operand.tmp 1)) [],
 Item.mk (some 23) none
 (AOp.sliceL 1 (Operand.tmp 20) none (some (Operand.tmp 21)) (some (Operand.tmp 22))) [],
 Item.mk (some 24) none (AOp.mov (Operand.tmp 0)) [],
 Item.mk (some 25) none (AOp.nilc (Operand.tmp 24)) [],
 Item.mk (some 26) none (AOp.fieldA 1 (Operand.tmp 25)) [],
 Item.mk (some 27) none (AOp.load none (Operand.tmp 26)) [],
 Item.mk (some 28) none (AOp.mov (Operand.tmp 1)) [],
 Item.mk (some 29) none
 (AOp.bin BinOp.add 3 Cmp.other (Operand.tmp 28)
 (Operand.const (Value.int IntKind.i64 1)))
 [],
 Item.mk (some 30) none (AOp.sliceL 1 (Operand.tmp 27) (some (Operand.tmp 29)) none none) [],
 Item.mk (some 31) none (AOp.app 77 24 1 (Operand.tmp 23) (Operand.tmp 30)) [],
 Item.mk (some 32) none (AOp.nilc (Operand.tmp 16)) [],
 Item.mk (some 33) none (AOp.fieldA 1 (Operand.tmp 32)) [],
 Item.mk none none (AOp.store 1 (Operand.tmp 33) (Operand.tmp 31)) []])
 ACode.skip)).seq
 ((ACode.row
 [Item.mk (some 34) none (AOp.load (some 22) (Operand.tmp 6)) [],
 Item.mk (some 35) none (AOp.mov (Operand.tmp 7)) [],
 Item.mk none none (AOp.store 22 (Operand.tmp 4) (Operand.tmp 34)) [],
 Item.mk (some 5) none (AOp.mov (Operand.tmp 35)) []]).seq
 ACode.ret))))
theorem F21_ok : compFn Tryz.prog (byId h21) 21 = some F21 := by kernel_rfl
def h22 : List (Nat × List (Nat × List Nat) × List Nat) := []
def F22 : AFn :=
 AFn.mk 14 [ARes.cell 4 (some 22), ARes.tmp 5]
 ((ACode.row
 [Item.mk (some 4) none
 (AOp.alloc 36
 [V.val (Value.int IntKind.i64 0), V.val (Value.int IntKind.i64 0),
 V.val (Value.int IntKind.i64 0), V.val (Value.int IntKind.i64 0),
 V.val (Value.int IntKind.i64 0), V.val (Value.int IntKind.i64 0),
 V.val (Value.int IntKind.i64 0), V.val (Value.int IntKind.i64 0),
 V.val (Value.int IntKind.i64 0), V.val (Value.int IntKind.i64 0),
 V.val (Value.int IntKind.i64 0), V.val (Value.int IntKind.i64 0),
 V.val (Value.string (ByteArray.mk #[])), V.val (Value.int IntKind.i64 0),
 V.val (Value.int IntKind.i64 0), V.val (Value.string (ByteArray.mk #[])),
 V.val (Value.int IntKind.i64 0), V.val (Value.string (ByteArray.mk #[])),
 V.sl [] [] Tok.full, V.val (Value.int IntKind.i64 0),
 V.val (Value.int IntKind.i64 0), V.val (Value.string (ByteArray.mk #[]))])
 [],
 Item.mk (some 5) none (AOp.mov (Operand.const (Value.int IntKind.i64 0))) []]).seq
 ((ACode.row
 [Item.mk (some 6) none
 (AOp.alloc 36
 [V.val (Value.int IntKind.i64 0), V.val (Value.int IntKind.i64 0),
 V.val (Value.int IntKind.i64 0), V.val (Value.int IntKind.i64 0),
 V.val (Value.int IntKind.i64 0), V.val (Value.int IntKind.i64 0),
 V.val (Value.int IntKind.i64 0), V.val (Value.int IntKind.i64 0),
 V.val (Value.int IntKind.i64 0), V.val (Value.int IntKind.i64 0),
 V.val (Value.int IntKind.i64 0), V.val (Value.int IntKind.i64 0),
 V.val (Value.string (ByteArray.mk #[])), V.val (Value.int IntKind.i64 0),
 V.val (Value.int IntKind.i64 0), V.val (Value.string (ByteArray.mk #[])),
 V.val (Value.int IntKind.i64 0), V.val (Value.string (ByteArray.mk #[])),
 V.sl [] [] Tok.full, V.val (Value.int IntKind.i64 0),
 V.val (Value.int IntKind.i64 0), V.val (Value.string (ByteArray.mk #[]))])
 []]).seq
 ((ACode.row
 [Item.mk (some 8) none (AOp.mov (Operand.tmp 0)) [], Item.mk (some 9) none (AOp.mov (Operand.tmp 1)) [],
 Item.mk (some 10) none (AOp.mkf (Fn.func 43) [] [Operand.tmp 6]) [],
 Item.mk (some 11) none (AOp.call (Operand.func 40) [Operand.tmp 8, Operand.tmp 9, Operand.tmp 10]) [],
 Item.mk (some 7) none (AOp.mov (Operand.tmp 11)) []]).seq
 ((ACode.row
 [Item.mk (some 12) none (AOp.load (some 22) (Operand.tmp 6)) [],
 Item.mk (some 13) none (AOp.mov (Operand.tmp 7)) [],
 Item.mk none none (AOp.store 22 (Operand.tmp 4) (Operand.tmp 12)) [],
 Item.mk (some 5) none (AOp.mov (Operand.tmp 13)) []]).seq
 ACode.ret))))
theorem F22_ok : compFn Tryz.prog (byId h22) 22 = some F22 := by kernel_rfl
def h23 : List (Nat × List (Nat × List Nat) × List Nat) := []
def F23 : AFn :=
 AFn.mk 80 [ARes.tmp 4]
 ((ACode.row
 [Item.mk (some 2) none (AOp.box 36 (Operand.tmp 0)) [], Item.mk (some 3) none (AOp.box 36 (Operand.tmp 1)) [],
 Item.mk (some 4) none (AOp.mov (Operand.const (Value.bool false))) []]).seq
 ((ACode.row
 [Item.mk (some 5) none (AOp.fieldA 0 (Operand.tmp 2)) [],
 Item.mk (some 6) none (AOp.load none (Operand.tmp 5)) [],
 Item.mk (some 7) none (AOp.fieldA 0 (Operand.tmp 3)) [],
 Item.mk (some 8) none (AOp.load none (Operand.tmp 7)) [],
 Item.mk (some 9) none (AOp.bin BinOp.eql 28 Cmp.other (Operand.tmp 6) (Operand.tmp 8)) [],
 Item.mk (some 10) none (AOp.mov (Operand.tmp 9)) [],
 Item.mk (some 11) (some (10, true)) (AOp.fieldA 1 (Operand.tmp 2)) [],
 Item.mk (some 12) (some (10, true)) (AOp.load none (Operand.tmp 11)) [],
 Item.mk (some 13) (some (10, true)) (AOp.fieldA 1 (Operand.tmp 3)) [],
 Item.mk (some 14) (some (10, true)) (AOp.load none (Operand.tmp 13)) [],
 Item.mk (some 15) (some (10, true)) (AOp.bin BinOp.eql 3 Cmp.other (Operand.tmp 12) (Operand.tmp 14)) [],
 Item.mk (some 16) none (AOp.pick (Operand.tmp 10) (Operand.tmp 15) (Operand.const (Value.bool false))) [],
 Item.mk (some 17) none (AOp.mov (Operand.tmp 16)) [],
 Item.mk (some 18) (some (17, true)) (AOp.fieldA 2 (Operand.tmp 2)) [],
 Item.mk (some 19) (some (17, true)) (AOp.load none (Operand.tmp 18)) [],
 Item.mk (some 20) (some (17, true)) (AOp.fieldA 2 (Operand.tmp 3)) [],
 Item.mk (some 21) (some (17, true)) (AOp.load none (Operand.tmp 20)) [],
 Item.mk (some 22) (some (17, true)) (AOp.bin BinOp.eql 3 Cmp.other (Operand.tmp 19) (Operand.tmp 21)) [],
 Item.mk (some 23) none (AOp.pick (Operand.tmp 17) (Operand.tmp 22) (Operand.const (Value.bool false))) [],
 Item.mk (some 24) none (AOp.mov (Operand.tmp 23)) [],
 Item.mk (some 25) (some (24, true)) (AOp.fieldA 3 (Operand.tmp 2)) [],
 Item.mk (some 26) (some (24, true)) (AOp.load none (Operand.tmp 25)) [],
 Item.mk (some 27) (some (24, true)) (AOp.fieldA 3 (Operand.tmp 3)) [],
 Item.mk (some 28) (some (24, true)) (AOp.load none (Operand.tmp 27)) [],
 Item.mk (some 29) (some (24, true)) (AOp.bin BinOp.eql 3 Cmp.other (Operand.tmp 26) (Operand.tmp 28)) [],
 Item.mk (some 30) none (AOp.pick (Operand.tmp 24) (Operand.tmp 29) (Operand.const (Value.bool false))) [],
 Item.mk (some 31) none (AOp.mov (Operand.tmp 30)) [],
 Item.mk (some 32) (some (31, true)) (AOp.fieldA 4 (Operand.tmp 2)) [],
 Item.mk (some 33) (some (31, true)) (AOp.load none (Operand.tmp 32)) [],
 Item.mk (some 34) (some (31, true)) (AOp.fieldA 4 (Operand.tmp 3)) [],
 Item.mk (some 35) (some (31, true)) (AOp.load none (Operand.tmp 34)) [],
 Item.mk (some 36) (some (31, true)) (AOp.bin BinOp.eql 3 Cmp.other (Operand.tmp 33) (Operand.tmp 35)) [],
 Item.mk (some 37) none (AOp.pick (Operand.tmp 31) (Operand.tmp 36) (Operand.const (Value.bool false))) [],
 Item.mk (some 38) none (AOp.mov (Operand.tmp 37)) [],
 Item.mk (some 39) (some (38, true)) (AOp.fieldA 5 (Operand.tmp 2)) [],
 Item.mk (some 40) (some (38, true)) (AOp.load none (Operand.tmp 39)) [],
 Item.mk (some 41) (some (38, true)) (AOp.fieldA 5 (Operand.tmp 3)) [],
 Item.mk (some 42) (some (38, true)) (AOp.load none (Operand.tmp 41)) [],
 Item.mk (some 43) (some (38, true)) (AOp.bin BinOp.eql 3 Cmp.other (Operand.tmp 40) (Operand.tmp 42)) [],
 Item.mk (some 44) none (AOp.pick (Operand.tmp 38) (Operand.tmp 43) (Operand.const (Value.bool false))) [],
 Item.mk (some 45) none (AOp.mov (Operand.tmp 44)) [],
 Item.mk (some 46) (some (45, true)) (AOp.fieldA 6 (Operand.tmp 2)) [],
 Item.mk (some 47) (some (45, true)) (AOp.load none (Operand.tmp 46)) [],
 Item.mk (some 48) (some (45, true)) (AOp.fieldA 6 (Operand.tmp 3)) [],
 Item.mk (some 49) (some (45, true)) (AOp.load none (Operand.tmp 48)) [],
 Item.mk (some 50) (some (45, true)) (AOp.bin BinOp.eql 3 Cmp.other (Operand.tmp 47) (Operand.tmp 49)) [],
 Item.mk (some 51) none (AOp.pick (Operand.tmp 45) (Operand.tmp 50) (Operand.const (Value.bool false))) [],
 Item.mk (some 52) none (AOp.mov (Operand.tmp 51)) [],
 Item.mk (some 53) (some (52, true)) (AOp.fieldA 7 (Operand.tmp 2)) [],
 Item.mk (some 54) (some (52, true)) (AOp.load none (Operand.tmp 53)) [],
 Item.mk (some 55) (some (52, true)) (AOp.fieldA 7 (Operand.tmp 3)) [],
 Item.mk (some 56) (some (52, true)) (AOp.load none (Operand.tmp 55)) [],
 Item.mk (some 57) (some (52, true)) (AOp.bin BinOp.eql 3 Cmp.other (Operand.tmp 54) (Operand.tmp 56)) [],
 Item.mk (some 58) none (AOp.pick (Operand.tmp 52) (Operand.tmp 57) (Operand.const (Value.bool false))) [],
 Item.mk (some 59) none (AOp.mov (Operand.tmp 58)) [],
 Item.mk (some 60) (some (59, true)) (AOp.fieldA 8 (Operand.tmp 2)) [],
 Item.mk (some 61) (some (59, true)) (AOp.load (some 8) (Operand.tmp 60)) [],
 Item.mk (some 62) (some (59, true)) (AOp.fieldA 8 (Operand.tmp 3)) [],
 Item.mk (some 63) (some (59, true)) (AOp.load (some 8) (Operand.tmp 62)) [],
 Item.mk (some 64) (some (59, true)) (AOp.bin BinOp.eql 27 Cmp.other (Operand.tmp 61) (Operand.tmp 63)) [],
 Item.mk (some 65) none (AOp.pick (Operand.tmp 59) (Operand.tmp 64) (Operand.const (Value.bool false))) [],
 Item.mk (some 66) none (AOp.mov (Operand.tmp 65)) [],
 Item.mk (some 67) (some (66, true)) (AOp.fieldA 16 (Operand.tmp 2)) [],
 Item.mk (some 68) (some (66, true)) (AOp.load (some 3) (Operand.tmp 67)) [],
 Item.mk (some 69) (some (66, true)) (AOp.fieldA 16 (Operand.tmp 3)) [],
 Item.mk (some 70) (some (66, true)) (AOp.load (some 3) (Operand.tmp 69)) [],
 Item.mk (some 71) (some (66, true)) (AOp.call (Operand.func 44) [Operand.tmp 68, Operand.tmp 70]) [],
 Item.mk (some 72) none (AOp.pick (Operand.tmp 66) (Operand.tmp 71) (Operand.const (Value.bool false))) [],
 Item.mk (some 73) none (AOp.mov (Operand.tmp 72)) [],
 Item.mk (some 74) (some (73, true)) (AOp.fieldA 19 (Operand.tmp 2)) [],
 Item.mk (some 75) (some (73, true)) (AOp.load (some 3) (Operand.tmp 74)) [],
 Item.mk (some 76) (some (73, true)) (AOp.fieldA 19 (Operand.tmp 3)) [],
 Item.mk (some 77) (some (73, true)) (AOp.load (some 3) (Operand.tmp 76)) [],
 Item.mk (some 78) (some (73, true)) (AOp.bin BinOp.eql 34 Cmp.other (Operand.tmp 75) (Operand.tmp 77)) [],
 Item.mk (some 79) none (AOp.pick (Operand.tmp 73) (Operand.tmp 78) (Operand.const (Value.bool false))) [],
 Item.mk (some 4) none (AOp.mov (Operand.tmp 79)) []]).seq
 ACode.ret))
theorem F23_ok : compFn Tryz.prog (byId h23) 23 = some F23 := by kernel_rfl
def h24 : List (Nat × List (Nat × List Nat) × List Nat) := []
def F24 : AFn :=
 AFn.mk 24 [ARes.tmp 2]
 ((ACode.row
 [Item.mk (some 2) none (AOp.mov (Operand.const (Value.slice none 0 0))) []]).seq
 ((ACode.row
 [Item.mk (some 3) none (AOp.mov (Operand.const (Value.slice none 0 0))) []]).seq
 (((ACode.row
 [Item.mk (some 7) none (AOp.mov (Operand.tmp 0)) [],
 Item.mk (some 8) none (AOp.call (Operand.func 19) [Operand.tmp 7]) [],
 Item.mk (some 9) none (AOp.mov (Operand.const (Value.int IntKind.i64 0))) []]).seq
 (ACode.block 0
 ((ACode.row
 [Item.mk (some 10) none (AOp.bin BinOp.lss 3 Cmp.other (Operand.tmp 9) (Operand.tmp 8)) []]).seq
 ((ACode.cond (Operand.tmp 10) ACode.skip (ACode.exit 0)).seq
 ((ACode.block 1
 ((ACode.row
 [Item.mk (some 11) none (AOp.mov (Operand.tmp 9)) [],
 Item.mk (some 4) none (AOp.mov (Operand.tmp 11)) []]).seq
 ((ACode.row
 [Item.mk (some 13) none (AOp.mov (Operand.tmp 0)) [],
 Item.mk (some 14) none (AOp.mov (Operand.tmp 4)) [],
 Item.mk (some 15) none (AOp.call (Operand.func 22) [Operand.tmp 13, Operand.tmp 14])
 [],
 Item.mk (some 12) none (AOp.mov (Operand.tmp 15)) [],
 Item.mk (some 16) none (AOp.ext (Operand.tmp 12) 0) [],
 Item.mk (some 17) none (AOp.ext (Operand.tmp 12) 1) [],
 Item.mk (some 5) none
 (AOp.alloc 36
 [V.val (Value.int IntKind.i64 0),
 V.val (Value.int IntKind.i64 0),
 V.val (Value.int IntKind.i64 0),
 V.val (Value.int IntKind.i64 0),
 V.val (Value.int IntKind.i64 0),
 V.val (Value.int IntKind.i64 0),
 V.val (Value.int IntKind.i64 0),
 V.val (Value.int IntKind.i64 0),
 V.val (Value.int IntKind.i64 0),
 V.val (Value.int IntKind.i64 0),
 V.val (Value.int IntKind.i64 0),
 V.val (Value.int IntKind.i64 0),
 V.val (Value.string (ByteArray.mk #[])),
 V.val (Value.int IntKind.i64 0),
 V.val (Value.int IntKind.i64 0),
 V.val (Value.string (ByteArray.mk #[])),
 V.val (Value.int IntKind.i64 0),
 V.val (Value.string (ByteArray.mk #[])), V.sl [] [] Tok.full,
 V.val (Value.int IntKind.i64 0),
 V.val (Value.int IntKind.i64 0),
 V.val (Value.string (ByteArray.mk #[]))])
 [],
 Item.mk none none (AOp.store 22 (Operand.tmp 5) (Operand.tmp 16)) [],
 Item.mk (some 6) none (AOp.mov (Operand.tmp 17)) []]).seq
 (ACode.row
 [Item.mk (some 18) none (AOp.mov (Operand.tmp 3)) [],
 Item.mk (some 19) none (AOp.load (some 22) (Operand.tmp 5)) [],
 Item.mk (some 20) none
 (AOp.lits 22
 [V.val (Value.int IntKind.i64 0),
 V.val (Value.int IntKind.i64 0),
 V.val (Value.int IntKind.i64 0),
 V.val (Value.int IntKind.i64 0),
 V.val (Value.int IntKind.i64 0),
 V.val (Value.int IntKind.i64 0),
 V.val (Value.int IntKind.i64 0),
 V.val (Value.int IntKind.i64 0),
 V.val (Value.int IntKind.i64 0),
 V.val (Value.int IntKind.i64 0),
 V.val (Value.int IntKind.i64 0),
 V.val (Value.int IntKind.i64 0),
 V.val (Value.string (ByteArray.mk #[])),
 V.val (Value.int IntKind.i64 0),
 V.val (Value.int IntKind.i64 0),
 V.val (Value.string (ByteArray.mk #[])),
 V.val (Value.int IntKind.i64 0),
 V.val (Value.string (ByteArray.mk #[])), V.sl [] [] Tok.full,
 V.val (Value.int IntKind.i64 0),
 V.val (Value.int IntKind.i64 0),
 V.val (Value.string (ByteArray.mk #[]))]
 1 [(0, Operand.tmp 19)])
 [],
 Item.mk (some 21) none (AOp.app 36 224 22 (Operand.tmp 18) (Operand.tmp 20)) [],
 Item.mk (some 3) none (AOp.mov (Operand.tmp 21)) []])))).seq
 (ACode.row
 [Item.mk (some 22) none
 (AOp.bin BinOp.add 3 Cmp.other (Operand.tmp 9)
 (Operand.const (Value.int IntKind.i64 1)))
 [],
 Item.mk (some 9) none (AOp.mov (Operand.tmp 22)) []])))).loop)).seq
 ((ACode.row
 [Item.mk (some 23) none (AOp.mov (Operand.tmp 3)) [],
 Item.mk (some 2) none (AOp.mov (Operand.tmp 23)) []]).seq
 ACode.ret))))
theorem F24_ok : compFn Tryz.prog (byId h24) 24 = some F24 := by kernel_rfl
def h25 : List (Nat × List (Nat × List Nat) × List Nat) := []
def F25 : AFn :=
 AFn.mk 12 [ARes.tmp 2]
 ((ACode.row [Item.mk (some 2) none (AOp.mov (Operand.const (Value.bool false))) []]).seq
 ((ACode.row
 [Item.mk (some 3) none (AOp.mov (Operand.tmp 0)) [],
 Item.mk (some 4) none
 (AOp.bin BinOp.neq 37 Cmp.pointer (Operand.tmp 3) (Operand.const (Value.pointer none))) [],
 Item.mk (some 5) none (AOp.mov (Operand.tmp 4)) [],
 Item.mk (some 6) (some (5, true)) (AOp.mov (Operand.tmp 0)) [],
 Item.mk (some 7) (some (5, true)) (AOp.nilc (Operand.tmp 6)) [],
 Item.mk (some 8) (some (5, true)) (AOp.fieldA 1 (Operand.tmp 7)) [],
 Item.mk (some 9) (some (5, true)) (AOp.load none (Operand.tmp 8)) [],
 Item.mk (some 10) (some (5, true))
 (AOp.bin BinOp.gtr 3 Cmp.other (Operand.tmp 9) (Operand.const (Value.int IntKind.i64 0)))
 [],
 Item.mk (some 11) none (AOp.pick (Operand.tmp 5) (Operand.tmp 10) (Operand.const (Value.bool false))) [],
 Item.mk (some 2) none (AOp.mov (Operand.tmp 11)) []]).seq
 ACode.ret))
theorem F25_ok : compFn Tryz.prog (byId h25) 25 = some F25 := by kernel_rfl
def h26 : List (Nat × List (Nat × List Nat) × List Nat) := []
def F26 : AFn :=
 AFn.mk 86 [ARes.tmp 2]
 ((ACode.row
 [Item.mk (some 1) none (AOp.box 27 (Operand.tmp 0)) [],
 Item.mk (some 2) none (AOp.mov (Operand.const (Value.int IntKind.i64 0))) []]).seq
 ((ACode.row
 [Item.mk (some 4) none (AOp.fieldA 0 (Operand.tmp 1)) [],
 Item.mk (some 5) none (AOp.load none (Operand.tmp 4)) [],
 Item.mk (some 6) none (AOp.call (Operand.func 45) [Operand.tmp 5]) [],
 Item.mk (some 7) none (AOp.mov (Operand.tmp 6)) [],
 Item.mk (some 8) (some (7, true)) (AOp.fieldA 1 (Operand.tmp 1)) [],
 Item.mk (some 9) (some (7, true)) (AOp.load none (Operand.tmp 8)) [],
 Item.mk (some 10) (some (7, true)) (AOp.call (Operand.func 45) [Operand.tmp 9]) [],
 Item.mk (some 11) none (AOp.pick (Operand.tmp 7) (Operand.tmp 10) (Operand.const (Value.bool false))) [],
 Item.mk (some 3) none (AOp.mov (Operand.tmp 11)) []]).seq
 (((ACode.row
 [Item.mk (some 12) none (AOp.fieldA 2 (Operand.tmp 1)) [],
 Item.mk (some 13) none (AOp.load none (Operand.tmp 12)) []]).seq
 (ACode.block 0
 ((ACode.row
 [Item.mk (some 15) none
 (AOp.bin BinOp.eql 22 Cmp.other (Operand.tmp 13)
 (Operand.const (Value.int IntKind.i64 1)))
 [],
 Item.mk (some 14) none (AOp.mov (Operand.tmp 15)) []]).seq
 (ACode.cond (Operand.tmp 14)
 (ACode.row
 [Item.mk (some 16) none (AOp.mov (Operand.tmp 3)) [],
 Item.mk (some 17) none (AOp.mov (Operand.tmp 16)) [],
 Item.mk (some 18) (some (17, true)) (AOp.fieldA 4 (Operand.tmp 1)) [],
 Item.mk (some 19) (some (17, true)) (AOp.load none (Operand.tmp 18)) [],
 Item.mk (some 20) (some (17, true)) (AOp.call (Operand.func 46) [Operand.tmp 19]) [],
 Item.mk (some 21) none
 (AOp.pick (Operand.tmp 17) (Operand.tmp 20) (Operand.const (Value.bool false))) [],
 Item.mk (some 22) none (AOp.mov (Operand.tmp 21)) [],
 Item.mk (some 23) (some (22, true)) (AOp.fieldA 3 (Operand.tmp 1)) [],
 Item.mk (some 24) (some (22, true)) (AOp.load none (Operand.tmp 23)) [],
 Item.mk (some 25) (some (22, true))
 (AOp.bin BinOp.eql 3 Cmp.other (Operand.tmp 24)
 (Operand.const (Value.int IntKind.i64 0)))
 [],
 Item.mk (some 26) (some (22, true)) (AOp.mov (Operand.tmp 25)) [],
 Item.mk (some 27) (some (26, false)) (AOp.fieldA 3 (Operand.tmp 1)) [],
 Item.mk (some 28) (some (26, false)) (AOp.load none (Operand.tmp 27)) [],
 Item.mk (some 29) (some (26, false))
 (AOp.bin BinOp.eql 3 Cmp.other (Operand.tmp 28)
 (Operand.const (Value.int IntKind.i64 1)))
 [],
 Item.mk (some 30) (some (22, true))
 (AOp.pick (Operand.tmp 26) (Operand.const (Value.bool true)) (Operand.tmp 29)) [],
 Item.mk (some 31) none
 (AOp.pick (Operand.tmp 22) (Operand.tmp 30) (Operand.const (Value.bool false))) [],
 Item.mk (some 3) none (AOp.mov (Operand.tmp 31)) []])
 ((ACode.row
 [Item.mk (some 33) none
 (AOp.bin BinOp.eql 22 Cmp.other (Operand.tmp 13)
 (Operand.const (Value.int IntKind.i64 4)))
 [],
 Item.mk (some 32) none (AOp.mov (Operand.tmp 33)) []]).seq
 (ACode.cond (Operand.tmp 32)
 (ACode.row
 [Item.mk (some 34) none (AOp.mov (Operand.tmp 3)) [],
 Item.mk (some 35) none (AOp.mov (Operand.tmp 34)) [],
 Item.mk (some 36) (some (35, true)) (AOp.fieldA 4 (Operand.tmp 1)) [],
 Item.mk (some 37) (some (35, true)) (AOp.load none (Operand.tmp 36)) [],
 Item.mk (some 38) (some (35, true))
 (AOp.bin BinOp.eql 9 Cmp.other (Operand.tmp 37)
 (Operand.const (Value.string (ByteArray.mk #[]))))
 [],
 Item.mk (some 39) none
 (AOp.pick (Operand.tmp 35) (Operand.tmp 38) (Operand.const (Value.bool false))) [],
 Item.mk (some 40) none (AOp.mov (Operand.tmp 39)) [],
 Item.mk (some 41) (some (40, true)) (AOp.fieldA 3 (Operand.tmp 1)) [],
 Item.mk (some 42) (some (40, true)) (AOp.load none (Operand.tmp 41)) [],
 Item.mk (some 43) (some (40, true)) (AOp.call (Operand.func 45) [Operand.tmp 42]) [],
 Item.mk (some 44) none
 (AOp.pick (Operand.tmp 40) (Operand.tmp 43) (Operand.const (Value.bool false))) [],
 Item.mk (some 3) none (AOp.mov (Operand.tmp 44)) []])
 (((ACode.row
 [Item.mk (some 46) none
 (AOp.bin BinOp.eql 22 Cmp.other (Operand.tmp 13)
 (Operand.const (Value.int IntKind.i64 2)))
 [],
 Item.mk (some 45) none (AOp.mov (Operand.tmp 46)) []]).seq
 (ACode.cond (Operand.tmp 45) ACode.skip
 ((ACode.row
 [Item.mk (some 47) none
 (AOp.bin BinOp.eql 22 Cmp.other (Operand.tmp 13)
 (Operand.const (Value.int IntKind.i64 3)))
 [],
 Item.mk (some 45) none (AOp.mov (Operand.tmp 47)) []]).seq
 (ACode.cond (Operand.tmp 45) ACode.skip
 ((ACode.row
 [Item.mk (some 48) none
 (AOp.bin BinOp.eql 22 Cmp.other (Operand.tmp 13)
 (Operand.const (Value.int IntKind.i64 5)))
 [],
 Item.mk (some 45) none (AOp.mov (Operand.tmp 48)) []]).seq
 (ACode.cond (Operand.tmp 45) ACode.skip
 (ACode.row
 [Item.mk (some 49) none
 (AOp.bin BinOp.eql 22 Cmp.other (Operand.tmp 13)
 (Operand.const (Value.int IntKind.i64 6)))
 [],
 Item.mk (some 45) none (AOp.mov (Operand.tmp 49)) []]))))))).seq
 (ACode.cond (Operand.tmp 45)
 (ACode.row
 [Item.mk (some 50) none (AOp.mov (Operand.tmp 3)) [],
 Item.mk (some 51) none (AOp.mov (Operand.tmp 50)) [],
 Item.mk (some 52) (some (51, true)) (AOp.fieldA 4 (Operand.tmp 1)) [],
 Item.mk (some 53) (some (51, true)) (AOp.load none (Operand.tmp 52)) [],
 Item.mk (some 54) (some (51, true))
 (AOp.bin BinOp.eql 9 Cmp.other (Operand.tmp 53)
 (Operand.const (Value.string (ByteArray.mk #[]))))
 [],
 Item.mk (some 55) none
 (AOp.pick (Operand.tmp 51) (Operand.tmp 54) (Operand.const (Value.bool false))) [],
 Item.mk (some 56) none (AOp.mov (Operand.tmp 55)) [],
 Item.mk (some 57) (some (56, true)) (AOp.fieldA 3 (Operand.tmp 1)) [],
 Item.mk (some 58) (some (56, true)) (AOp.load none (Operand.tmp 57)) [],
 Item.mk (some 59) (some (56, true))
 (AOp.bin BinOp.eql 3 Cmp.other (Operand.tmp 58)
 (Operand.const (Value.int IntKind.i64 0)))
 [],
 Item.mk (some 60) none
 (AOp.pick (Operand.tmp 56) (Operand.tmp 59) (Operand.const (Value.bool false))) [],
 Item.mk (some 3) none (AOp.mov (Operand.tmp 60)) []])
 ((ACode.row
 [Item.mk (some 62) none
 (AOp.bin BinOp.eql 22 Cmp.other (Operand.tmp 13)
 (Operand.const (Value.int IntKind.i64 7)))
 [],
 Item.mk (some 61) none (AOp.mov (Operand.tmp 62)) []]).seq
 (ACode.cond (Operand.tmp 61)
 (((ACode.row
 [Item.mk (some 63) none (AOp.mov (Operand.tmp 3)) [],
 Item.mk (some 64) none (AOp.un UnOp.not (Operand.tmp 63)) [],
 Item.mk (some 65) none (AOp.mov (Operand.tmp 64)) [],
 Item.mk (some 66) (some (65, false)) (AOp.fieldA 4 (Operand.tmp 1)) [],
 Item.mk (some 67) (some (65, false)) (AOp.load none (Operand.tmp 66)) [],
 Item.mk (some 68) (some (65, false))
 (AOp.bin BinOp.neq 9 Cmp.other (Operand.tmp 67)
 (Operand.const (Value.string (ByteArray.mk #[]))))
 [],
 Item.mk (some 69) none
 (AOp.pick (Operand.tmp 65) (Operand.const (Value.bool true))
 (Operand.tmp 68))
 [],
 Item.mk (some 70) none (AOp.mov (Operand.tmp 69)) [],
 Item.mk (some 71) (some (70, false)) (AOp.fieldA 3 (Operand.tmp 1)) [],
 Item.mk (some 72) (some (70, false)) (AOp.load none (Operand.tmp 71)) [],
 Item.mk (some 73) (some (70, false))
 (AOp.bin BinOp.neq 3 Cmp.other (Operand.tmp 72)
 (Operand.const (Value.int IntKind.i64 0)))
 [],
 Item.mk (some 74) none
 (AOp.pick (Operand.tmp 70) (Operand.const (Value.bool true))
 (Operand.tmp 73))
 []]).seq
 (ACode.cond (Operand.tmp 74)
 ((ACode.row
 [Item.mk (some 2) none
 (AOp.mov (Operand.const (Value.int IntKind.i64 2)))
 []]).seq
 ACode.ret)
 ACode.skip)).seq
 ((ACode.row
 [Item.mk (some 75) none (AOp.fieldA 5 (Operand.tmp 1)) [],
 Item.mk (some 76) none (AOp.load (some 3) (Operand.tmp 75)) [],
 Item.mk (some 77) none (AOp.call (Operand.func 47) [Operand.tmp 76]) [],
 Item.mk (some 2) none (AOp.mov (Operand.tmp 77)) []]).seq
 ACode.ret))
 (ACode.row
 [Item.mk (some 3) none (AOp.mov (Operand.const (Value.bool false))) []]))))))))))).seq
 (((ACode.row
 [Item.mk (some 78) none (AOp.mov (Operand.tmp 3)) [],
 Item.mk (some 79) none (AOp.un UnOp.not (Operand.tmp 78)) [],
 Item.mk (some 80) none (AOp.mov (Operand.tmp 79)) [],
 Item.mk (some 81) (some (80, false)) (AOp.fieldA 5 (Operand.tmp 1)) [],
 Item.mk (some 82) (some (80, false)) (AOp.load (some 3) (Operand.tmp 81)) [],
 Item.mk (some 83) (some (80, false))
 (AOp.build
 [V.val (Value.int IntKind.i64 0), V.val (Value.int IntKind.i64 0),
 V.val (Value.string (ByteArray.mk #[]))]
 [])
 [],
 Item.mk (some 84) (some (80, false))
 (AOp.bin BinOp.neq 25 Cmp.other (Operand.tmp 82) (Operand.tmp 83)) [],
 Item.mk (some 85) none
 (AOp.pick (Operand.tmp 80) (Operand.const (Value.bool true)) (Operand.tmp 84)) []]).seq
 (ACode.cond (Operand.tmp 85)
 ((ACode.row
 [Item.mk (some 2) none (AOp.mov (Operand.const (Value.int IntKind.i64 2))) []]).seq
 ACode.ret)
 ACode.skip)).seq
 ((ACode.row [Item.mk (some 2) none (AOp.mov (Operand.const (Value.int IntKind.i64 0))) []]).seq
 ACode.ret)))))
theorem F26_ok : compFn Tryz.prog (byId h26) 26 = some F26 := by kernel_rfl
def h27 : List (Nat × List (Nat × List Nat) × List Nat) := []
def F27 : AFn :=
 AFn.mk 6 [ARes.tmp 2]
 ((ACode.row
 [Item.mk (some 1) none (AOp.box 37 (Operand.tmp 0)) [],
 Item.mk (some 2) none (AOp.mov (Operand.const (Value.slice none 0 0))) []]).seq
 ((ACode.row
 [Item.mk (some 3) none (AOp.load none (Operand.tmp 1)) [],
 Item.mk (some 4) none (AOp.mkf (Fn.func 48) [] [Operand.tmp 1]) [],
 Item.mk (some 5) none (AOp.call (Operand.func 29) [Operand.tmp 3, Operand.tmp 4]) [],
 Item.mk (some 2) none (AOp.mov (Operand.tmp 5)) []]).seq
 ACode.ret))
theorem F27_ok : compFn Tryz.prog (byId h27) 27 = some F27 := by kernel_rfl
def h28 : List (Nat × List (Nat × List Nat) × List Nat) := []
def F28 : AFn :=
 AFn.mk 76 [ARes.tmp 2]
 ((ACode.row
 [Item.mk (some 1) none (AOp.box 36 (Operand.tmp 0)) [],
 Item.mk (some 2) none (AOp.mov (Operand.const (Value.int IntKind.i64 0))) []]).seq
 ((ACode.row
 [Item.mk (some 7) none (AOp.fieldA 0 (Operand.tmp 1)) [],
 Item.mk (some 8) none (AOp.load none (Operand.tmp 7)) [],
 Item.mk (some 9) none (AOp.call (Operand.func 49) [Operand.tmp 8]) [],
 Item.mk (some 6) none (AOp.mov (Operand.tmp 9)) [], Item.mk (some 10) none (AOp.ext (Operand.tmp 6) 0) [],
 Item.mk (some 11) none (AOp.ext (Operand.tmp 6) 1) [],
 Item.mk (some 3) none
 (AOp.alloc 90
 [V.val (Value.bool false), V.val (Value.bool false), V.val (Value.bool false), V.val (Value.bool false),
 V.val (Value.bool false), V.val (Value.bool false), V.val (Value.bool false),
 V.val (Value.bool false)])
 [],
 Item.mk none none (AOp.store 8 (Operand.tmp 3) (Operand.tmp 10)) [],
 Item.mk (some 4) none (AOp.mov (Operand.tmp 11)) []]).seq
 ((ACode.row [Item.mk (some 5) none (AOp.mov (Operand.const (Value.int IntKind.i64 0))) []]).seq
 (((ACode.row
 [Item.mk (some 12) none (AOp.fieldA 0 (Operand.tmp 1)) [],
 Item.mk (some 13) none (AOp.load none (Operand.tmp 12)) [],
 Item.mk (some 14) none
 (AOp.bin BinOp.eql 28 Cmp.other (Operand.tmp 13)
 (Operand.const (Value.int IntKind.i64 2)))
 []]).seq
 (ACode.cond (Operand.tmp 14)
 (ACode.row [Item.mk (some 5) none (AOp.mov (Operand.const (Value.int IntKind.i64 1))) []])
 ACode.skip)).seq
 (((ACode.row
 [Item.mk (some 15) none (AOp.mov (Operand.tmp 4)) [],
 Item.mk (some 16) none (AOp.un UnOp.not (Operand.tmp 15)) [],
 Item.mk (some 17) none (AOp.mov (Operand.tmp 16)) [],
 Item.mk (some 18) (some (17, false)) (AOp.fieldA 0 (Operand.tmp 3)) [],
 Item.mk (some 19) (some (17, false)) (AOp.load none (Operand.tmp 18)) [],
 Item.mk (some 20) (some (17, false)) (AOp.fieldA 3 (Operand.tmp 1)) [],
 Item.mk (some 21) (some (17, false)) (AOp.load none (Operand.tmp 20)) [],
 Item.mk (some 22) (some (17, false))
 (AOp.call (Operand.func 50)
 [Operand.tmp 19, Operand.tmp 21, Operand.const (Value.int IntKind.i64 0)])
 [],
 Item.mk (some 23) (some (17, false)) (AOp.un UnOp.not (Operand.tmp 22)) [],
 Item.mk (some 24) none
 (AOp.pick (Operand.tmp 17) (Operand.const (Value.bool true)) (Operand.tmp 23)) [],
 Item.mk (some 25) none (AOp.mov (Operand.tmp 24)) [],
 Item.mk (some 26) (some (25, false)) (AOp.fieldA 1 (Operand.tmp 3)) [],
 Item.mk (some 27) (some (25, false)) (AOp.load none (Operand.tmp 26)) [],
 Item.mk (some 28) (some (25, false)) (AOp.fieldA 4 (Operand.tmp 1)) [],
 Item.mk (some 29) (some (25, false)) (AOp.load none (Operand.tmp 28)) [],
 Item.mk (some 30) (some (25, false))
 (AOp.call (Operand.func 50)
 [Operand.tmp 27, Operand.tmp 29, Operand.const (Value.int IntKind.i64 0)])
 [],
 Item.mk (some 31) (some (25, false)) (AOp.un UnOp.not (Operand.tmp 30)) [],
 Item.mk (some 32) none
 (AOp.pick (Operand.tmp 25) (Operand.const (Value.bool true)) (Operand.tmp 31)) [],
 Item.mk (some 33) none (AOp.mov (Operand.tmp 32)) [],
 Item.mk (some 34) (some (33, false)) (AOp.fieldA 4 (Operand.tmp 1)) [],
 Item.mk (some 35) (some (33, false)) (AOp.load none (Operand.tmp 34)) [],
 Item.mk (some 36) (some (33, false)) (AOp.fieldA 3 (Operand.tmp 1)) [],
 Item.mk (some 37) (some (33, false)) (AOp.load none (Operand.tmp 36)) [],
 Item.mk (some 38) (some (33, false))
 (AOp.bin BinOp.gtr 3 Cmp.other (Operand.tmp 35) (Operand.tmp 37)) [],
 Item.mk (some 39) none
 (AOp.pick (Operand.tmp 33) (Operand.const (Value.bool true)) (Operand.tmp 38)) [],
 Item.mk (some 40) none (AOp.mov (Operand.tmp 39)) [],
 Item.mk (some 41) (some (40, false)) (AOp.fieldA 2 (Operand.tmp 3)) [],
 Item.mk (some 42) (some (40, false)) (AOp.load none (Operand.tmp 41)) [],
 Item.mk (some 43) (some (40, false)) (AOp.fieldA 5 (Operand.tmp 1)) [],
 Item.mk (some 44) (some (40, false)) (AOp.load none (Operand.tmp 43)) [],
 Item.mk (some 45) (some (40, false)) (AOp.mov (Operand.tmp 5)) [],
 Item.mk (some 46) (some (40, false))
 (AOp.call (Operand.func 50) [Operand.tmp 42, Operand.tmp 44, Operand.tmp 45]) [],
 Item.mk (some 47) (some (40, false)) (AOp.un UnOp.not (Operand.tmp 46)) [],
 Item.mk (some 48) none
 (AOp.pick (Operand.tmp 40) (Operand.const (Value.bool true)) (Operand.tmp 47)) [],
 Item.mk (some 49) none (AOp.mov (Operand.tmp 48)) [],
 Item.mk (some 50) (some (49, false)) (AOp.fieldA 3 (Operand.tmp 3)) [],
 Item.mk (some 51) (some (49, false)) (AOp.load none (Operand.tmp 50)) [],
 Item.mk (some 52) (some (49, false)) (AOp.fieldA 6 (Operand.tmp 1)) [],
 Item.mk (some 53) (some (49, false)) (AOp.load none (Operand.tmp 52)) [],
 Item.mk (some 54) (some (49, false))
 (AOp.call (Operand.func 50)
 [Operand.tmp 51, Operand.tmp 53, Operand.const (Value.int IntKind.i64 0)])
 [],
 Item.mk (some 55) (some (49, false)) (AOp.un UnOp.not (Operand.tmp 54)) [],
 Item.mk (some 56) none
 (AOp.pick (Operand.tmp 49) (Operand.const (Value.bool true)) (Operand.tmp 55)) [],
 Item.mk (some 57) none (AOp.mov (Operand.tmp 56)) [],
 Item.mk (some 58) (some (57, false)) (AOp.fieldA 4 (Operand.tmp 3)) [],
 Item.mk (some 59) (some (57, false)) (AOp.load none (Operand.tmp 58)) [],
 Item.mk (some 60) (some (57, false)) (AOp.fieldA 7 (Operand.tmp 1)) [],
 Item.mk (some 61) (some (57, false)) (AOp.load none (Operand.tmp 60)) [],
 Item.mk (some 62) (some (57, false))
 (AOp.call (Operand.func 50)
 [Operand.tmp 59, Operand.tmp 61, Operand.const (Value.int IntKind.i64 1)])
 [],
 Item.mk (some 63) (some (57, false)) (AOp.un UnOp.not (Operand.tmp 62)) [],
 Item.mk (some 64) none
 (AOp.pick (Operand.tmp 57) (Operand.const (Value.bool true)) (Operand.tmp 63)) [],
 Item.mk (some 65) none (AOp.mov (Operand.tmp 64)) [],
 Item.mk (some 66) (some (65, false)) (AOp.load (some 22) (Operand.tmp 1)) [],
 Item.mk (some 67) (some (65, false)) (AOp.call (Operand.func 51) [Operand.tmp 66]) [],
 Item.mk (some 68) (some (65, false)) (AOp.un UnOp.not (Operand.tmp 67)) [],
 Item.mk (some 69) none
 (AOp.pick (Operand.tmp 65) (Operand.const (Value.bool true)) (Operand.tmp 68)) [],
 Item.mk (some 70) none (AOp.mov (Operand.tmp 69)) [],
 Item.mk (some 71) (some (70, false)) (AOp.load (some 22) (Operand.tmp 1)) [],
 Item.mk (some 72) (some (70, false)) (AOp.load (some 8) (Operand.tmp 3)) [],
 Item.mk (some 73) (some (70, false)) (AOp.call (Operand.func 52) [Operand.tmp 71, Operand.tmp 72])
 [],
 Item.mk (some 74) (some (70, false)) (AOp.un UnOp.not (Operand.tmp 73)) [],
 Item.mk (some 75) none
 (AOp.pick (Operand.tmp 70) (Operand.const (Value.bool true)) (Operand.tmp 74)) []]).seq
 (ACode.cond (Operand.tmp 75)
 ((ACode.row
 [Item.mk (some 2) none (AOp.mov (Operand.const (Value.int IntKind.i64 2)))
 []]).seq
 ACode.ret)
 ACode.skip)).seq
 ((ACode.row
 [Item.mk (some 2) none (AOp.mov (Operand.const (Value.int IntKind.i64 0))) []]).seq
 ACode.ret))))))
theorem F28_ok : compFn Tryz.prog (byId h28) 28 = some F28 := by kernel_rfl
def h29 : List (Nat × List (Nat × List Nat) × List Nat) := [(8,
 [(0, []), (1, []), (2, []), (3, []), (4, []), (5, []), (6, []), (7, []), (8, []), (9, []), (10, []), (11, []),
 (12, []), (13, []), (14, []), (15, []), (16, [])],
 [0, 0, 2, 6, 14, 30, 0, 0, 128, 384, 896, 1920, 3968, 8190, 16382, 32767, 65535])]
def F29 : AFn :=
 AFn.mk 41 [ARes.tmp 4]
 ((ACode.row
 [Item.mk (some 4) none (AOp.mov (Operand.const (Value.slice none 0 0))) []]).seq
 ((ACode.row
 [Item.mk (some 5) none (AOp.mov (Operand.const (Value.slice none 0 0))) []]).seq
 (((ACode.row
 [Item.mk (some 7) none (AOp.mov (Operand.tmp 0)) [],
 Item.mk (some 8) none (AOp.nilc (Operand.tmp 7)) [],
 Item.mk (some 9) none (AOp.fieldA 3 (Operand.tmp 8)) [],
 Item.mk (some 10) none (AOp.load none (Operand.tmp 9)) [],
 Item.mk (some 11) none (AOp.len false (Operand.tmp 10)) [],
 Item.mk (some 12) none
 (AOp.bin BinOp.eql 3 Cmp.other (Operand.tmp 11)
 (Operand.const (Value.int IntKind.i64 0)))
 []]).seq
 (ACode.cond (Operand.tmp 12)
 ((ACode.row
 [Item.mk (some 4) none (AOp.mov (Operand.const (Value.slice none 0 0)))
 []]).seq
 ACode.ret)
 ACode.skip)).seq
 (((ACode.row
 [Item.mk (some 13) none (AOp.mov (Operand.tmp 0)) [],
 Item.mk (some 14) none (AOp.nilc (Operand.tmp 13)) [],
 Item.mk (some 15) none (AOp.fieldA 1 (Operand.tmp 14)) [],
 Item.mk (some 16) none (AOp.load none (Operand.tmp 15)) [],
 Item.mk (some 17) none (AOp.mov (Operand.const (Value.int IntKind.i64 0))) []]).seq
 (ACode.block 0
 ((ACode.row
 [Item.mk (some 18) none (AOp.bin BinOp.lss 3 Cmp.other (Operand.tmp 17) (Operand.tmp 16))
 []]).seq
 ((ACode.cond (Operand.tmp 18) ACode.skip (ACode.exit 0)).seq
 ((ACode.block 1
 ((ACode.row
 [Item.mk (some 19) none (AOp.mov (Operand.tmp 17)) [],
 Item.mk (some 6) none (AOp.mov (Operand.tmp 19)) []]).seq
 ((ACode.row
 [Item.mk (some 20) none (AOp.mov (Operand.tmp 1)) [],
 Item.mk (some 21) none (AOp.mov (Operand.tmp 6)) [],
 Item.mk (some 22) none (AOp.call (Operand.tmp 20) [Operand.tmp 21]) []]).seq
 (ACode.cond (Operand.tmp 22)
 (ACode.row
 [Item.mk (some 23) none (AOp.mov (Operand.tmp 5)) [],
 Item.mk (some 24) none (AOp.mov (Operand.tmp 0)) [],
 Item.mk (some 25) none (AOp.nilc (Operand.tmp 24)) [],
 Item.mk (some 26) none (AOp.fieldA 0 (Operand.tmp 25)) [],
 Item.mk (some 27) none (AOp.load none (Operand.tmp 26)) [],
 Item.mk (some 28) none (AOp.un UnOp.neg (Operand.tmp 27)) [],
 Item.mk (some 29) none (AOp.mov (Operand.tmp 6)) [],
 Item.mk (some 30) none (AOp.mov (Operand.tmp 0)) [],
 Item.mk (some 31) none (AOp.nilc (Operand.tmp 30)) [],
 Item.mk (some 32) none (AOp.fieldA 3 (Operand.tmp 31)) [],
 Item.mk (some 33) none (AOp.load none (Operand.tmp 32)) [],
 Item.mk (some 34) none
 (AOp.idxL 8 (Operand.tmp 33)
 (Operand.const (Value.int IntKind.i64 0)))
 [],
 Item.mk (some 35) none (AOp.load (some 8) (Operand.tmp 34)) [],
 Item.mk (some 36) none
 (AOp.build
 [V.val (Value.int IntKind.i64 0),
 V.val (Value.int IntKind.i64 0),
 V.val (Value.int IntKind.i64 0),
 V.val (Value.int IntKind.i64 0),
 V.val (Value.int IntKind.i64 0),
 V.val (Value.int IntKind.i64 0),
 V.val (Value.int IntKind.i64 0),
 V.val (Value.int IntKind.i64 0),
 V.val (Value.int IntKind.i64 0),
 V.val (Value.int IntKind.i64 0),
 V.val (Value.int IntKind.i64 0),
 V.val (Value.int IntKind.i64 0),
 V.val (Value.string (ByteArray.mk #[])),
 V.val (Value.int IntKind.i64 0),
 V.val (Value.int IntKind.i64 0),
 V.val (Value.string (ByteArray.mk #[])),
 V.val (Value.int IntKind.i64 0),
 V.val (Value.string (ByteArray.mk #[])), V.sl [] [] Tok.full,
 V.val (Value.int IntKind.i64 0),
 V.val (Value.int IntKind.i64 0),
 V.val (Value.string (ByteArray.mk #[]))]
 [(0, 1, Operand.const (Value.int IntKind.i64 1)),
 (1, 1, Operand.tmp 28), (2, 1, Operand.tmp 29), (8, 8, Operand.tmp 35)])
 [],
 Item.mk (some 37) none
 (AOp.lits 22
 [V.val (Value.int IntKind.i64 0),
 V.val (Value.int IntKind.i64 0),
 V.val (Value.int IntKind.i64 0),
 V.val (Value.int IntKind.i64 0),
 V.val (Value.int IntKind.i64 0),
 V.val (Value.int IntKind.i64 0),
 V.val (Value.int IntKind.i64 0),
 V.val (Value.int IntKind.i64 0),
 V.val (Value.int IntKind.i64 0),
 V.val (Value.int IntKind.i64 0),
 V.val (Value.int IntKind.i64 0),
 V.val (Value.int IntKind.i64 0),
 V.val (Value.string (ByteArray.mk #[])),
 V.val (Value.int IntKind.i64 0),
 V.val (Value.int IntKind.i64 0),
 V.val (Value.string (ByteArray.mk #[])),
 V.val (Value.int IntKind.i64 0),
 V.val (Value.string (ByteArray.mk #[])), V.sl [] [] Tok.full,
 V.val (Value.int IntKind.i64 0),
 V.val (Value.int IntKind.i64 0),
 V.val (Value.string (ByteArray.mk #[]))]
 1 [(0, Operand.tmp 36)])
 [],
 Item.mk (some 38) none (AOp.app 36 224 22 (Operand.tmp 23) (Operand.tmp 37)) [],
 Item.mk (some 5) none (AOp.mov (Operand.tmp 38)) []])
 ACode.skip)))).seq
 (ACode.row
 [Item.mk (some 39) none
 (AOp.bin BinOp.add 3 Cmp.other (Operand.tmp 17)
 (Operand.const (Value.int IntKind.i64 1)))
 [],
 Item.mk (some 17) none (AOp.mov (Operand.tmp 39)) []])))).loop)).seq
 ((ACode.row
 [Item.mk (some 40) none (AOp.mov (Operand.tmp 5)) [],
 Item.mk (some 4) none (AOp.mov (Operand.tmp 40)) []]).seq
 ACode.ret)))))
theorem F29_ok : compFn Tryz.prog (byId h29) 29 = some F29 := by kernel_rfl
def h30 : List (Nat × List (Nat × List Nat) × List Nat) := []
def F30 : AFn :=
 AFn.mk 3 [ARes.tmp 2]
 ((ACode.row [Item.mk (some 2) none (AOp.mov (Operand.const (Value.bool false))) []]).seq
 ((ACode.row [Item.mk (some 2) none (AOp.mov (Operand.const (Value.bool true))) []]).seq ACode.ret))
theorem F30_ok : compFn Tryz.prog (byId h30) 30 = some F30 := by kernel_rfl
def h31 : List (Nat × List (Nat × List Nat) × List Nat) := []
def F31 : AFn :=
 AFn.mk 8 [ARes.tmp 2]
 ((ACode.row
 [Item.mk (some 2) none (AOp.mov (Operand.const (Value.slice none 0 0))) []]).seq
 (((ACode.row
 [Item.mk (some 3) none (AOp.mov (Operand.tmp 0)) [],
 Item.mk (some 4) none
 (AOp.bin BinOp.eql 29 Cmp.slice (Operand.tmp 3)
 (Operand.const (Value.slice none 0 0)))
 []]).seq
 (ACode.cond (Operand.tmp 4)
 ((ACode.row
 [Item.mk (some 2) none (AOp.mov (Operand.const (Value.slice none 0 0)))
 []]).seq
 ACode.ret)
 ACode.skip)).seq
 ((ACode.row
 [Item.mk (some 5) none
 (AOp.lits 8
 [V.val (Value.int IntKind.i64 0), V.val (Value.int IntKind.i64 0),
 V.val (Value.int IntKind.i64 0), V.val (Value.int IntKind.i64 0),
 V.val (Value.string (ByteArray.mk #[])), V.val (Value.int IntKind.i64 0),
 V.val (Value.int IntKind.i64 0), V.val (Value.string (ByteArray.mk #[]))]
 0 [])
 [],
 Item.mk (some 6) none (AOp.mov (Operand.tmp 0)) [],
 Item.mk (some 7) none (AOp.app 27 80 8 (Operand.tmp 5) (Operand.tmp 6)) [],
 Item.mk (some 2) none (AOp.mov (Operand.tmp 7)) []]).seq
 ACode.ret)))
theorem F31_ok : compFn Tryz.prog (byId h31) 31 = some F31 := by kernel_rfl
def h32 : List (Nat × List (Nat × List Nat) × List Nat) := []
def F32 : AFn :=
 AFn.mk 8 [ARes.tmp 2]
 ((ACode.row
 [Item.mk (some 2) none (AOp.mov (Operand.const (Value.slice none 0 0))) []]).seq
 (((ACode.row
 [Item.mk (some 3) none (AOp.mov (Operand.tmp 0)) [],
 Item.mk (some 4) none
 (AOp.bin BinOp.eql 38 Cmp.slice (Operand.tmp 3)
 (Operand.const (Value.slice none 0 0)))
 []]).seq
 (ACode.cond (Operand.tmp 4)
 ((ACode.row
 [Item.mk (some 2) none (AOp.mov (Operand.const (Value.slice none 0 0)))
 []]).seq
 ACode.ret)
 ACode.skip)).seq
 ((ACode.row
 [Item.mk (some 5) none
 (AOp.lits 5
 [V.val (Value.int IntKind.i64 0), V.val (Value.int IntKind.i64 0),
 V.val (Value.int IntKind.i64 0), V.val (Value.int IntKind.i64 0),
 V.val (Value.string (ByteArray.mk #[]))]
 0 [])
 [],
 Item.mk (some 6) none (AOp.mov (Operand.tmp 0)) [],
 Item.mk (some 7) none (AOp.app 70 48 5 (Operand.tmp 5) (Operand.tmp 6)) [],
 Item.mk (some 2) none (AOp.mov (Operand.tmp 7)) []]).seq
 ACode.ret)))
theorem F32_ok : compFn Tryz.prog (byId h32) 32 = some F32 := by kernel_rfl
def h33 : List (Nat × List (Nat × List Nat) × List Nat) := []
def F33 : AFn :=
 AFn.mk 29 [ARes.tmp 4, ARes.tmp 5]
 ((ACode.row
 [Item.mk (some 4) none (AOp.mov (Operand.const (Value.pointer none))) [],
 Item.mk (some 5) none (AOp.mov (Operand.const (Value.int IntKind.i64 0))) []]).seq
 (((ACode.row
 [Item.mk (some 6) none (AOp.mov (Operand.tmp 0)) [],
 Item.mk (some 7) none
 (AOp.bin BinOp.lss 3 Cmp.other (Operand.tmp 6)
 (Operand.const (Value.int IntKind.i64 1)))
 [],
 Item.mk (some 8) none (AOp.mov (Operand.tmp 7)) [],
 Item.mk (some 9) (some (8, false)) (AOp.mov (Operand.tmp 0)) [],
 Item.mk (some 10) (some (8, false))
 (AOp.bin BinOp.gtr 3 Cmp.other (Operand.tmp 9)
 (Operand.const (Value.int IntKind.i64 2147483647)))
 [],
 Item.mk (some 11) none (AOp.pick (Operand.tmp 8) (Operand.const (Value.bool true)) (Operand.tmp 10)) [],
 Item.mk (some 12) none (AOp.mov (Operand.tmp 11)) [],
 Item.mk (some 13) (some (12, false)) (AOp.mov (Operand.tmp 1)) [],
 Item.mk (some 14) (some (12, false))
 (AOp.bin BinOp.lss 3 Cmp.other (Operand.tmp 13)
 (Operand.const (Value.int IntKind.i64 1)))
 [],
 Item.mk (some 15) none (AOp.pick (Operand.tmp 12) (Operand.const (Value.bool true)) (Operand.tmp 14))
 [],
 Item.mk (some 16) none (AOp.mov (Operand.tmp 15)) [],
 Item.mk (some 17) (some (16, false)) (AOp.mov (Operand.tmp 1)) [],
 Item.mk (some 18) (some (16, false))
 (AOp.bin BinOp.gtr 3 Cmp.other (Operand.tmp 17)
 (Operand.const (Value.int IntKind.i64 7)))
 [],
 Item.mk (some 19) none (AOp.pick (Operand.tmp 16) (Operand.const (Value.bool true)) (Operand.tmp 18))
 [],
 Item.mk (some 20) none (AOp.mov (Operand.tmp 19)) [],
 Item.mk (some 21) (some (20, false)) (AOp.mov (Operand.tmp 1)) [],
 Item.mk (some 22) (some (20, false))
 (AOp.bin BinOp.rem 3 Cmp.other (Operand.tmp 21)
 (Operand.const (Value.int IntKind.i64 2)))
 [],
 Item.mk (some 23) (some (20, false))
 (AOp.bin BinOp.eql 3 Cmp.other (Operand.tmp 22)
 (Operand.const (Value.int IntKind.i64 0)))
 [],
 Item.mk (some 24) none (AOp.pick (Operand.tmp 20) (Operand.const (Value.bool true)) (Operand.tmp 23))
 []]).seq
 (ACode.cond (Operand.tmp 24)
 ((ACode.row
 [Item.mk (some 4) none (AOp.mov (Operand.const (Value.pointer none))) [],
 Item.mk (some 5) none (AOp.mov (Operand.const (Value.int IntKind.i64 2))) []]).seq
 ACode.ret)
 ACode.skip)).seq
 ((ACode.row
 [Item.mk (some 25) none (AOp.mov (Operand.tmp 0)) [], Item.mk (some 26) none (AOp.mov (Operand.tmp 1)) [],
 Item.mk (some 27) none
 (AOp.build
 [V.val (Value.int IntKind.i64 0), V.val (Value.int IntKind.i64 0),
 V.val (Value.int IntKind.i64 0), V.sl [] [] Tok.full, V.sl [] [] Tok.full]
 [(0, 1, Operand.tmp 25), (1, 1, Operand.tmp 26)])
 [],
 Item.mk (some 28) none (AOp.box 40 (Operand.tmp 27)) [],
 Item.mk (some 4) none (AOp.mov (Operand.tmp 28)) [],
 Item.mk (some 5) none (AOp.mov (Operand.const (Value.int IntKind.i64 0))) []]).seq
 ACode.ret)))
theorem F33_ok : compFn Tryz.prog (byId h33) 33 = some F33 := by kernel_rfl
def h34 : List (Nat × List (Nat × List Nat) × List Nat) := []
def F34 : AFn :=
 AFn.mk 8 [ARes.cell 4 (some 22)]
 ((ACode.row
 [Item.mk (some 4) none
 (AOp.alloc 36
 [V.val (Value.int IntKind.i64 0), V.val (Value.int IntKind.i64 0),
 V.val (Value.int IntKind.i64 0), V.val (Value.int IntKind.i64 0),
 V.val (Value.int IntKind.i64 0), V.val (Value.int IntKind.i64 0),
 V.val (Value.int IntKind.i64 0), V.val (Value.int IntKind.i64 0),
 V.val (Value.int IntKind.i64 0), V.val (Value.int IntKind.i64 0),
 V.val (Value.int IntKind.i64 0), V.val (Value.int IntKind.i64 0),
 V.val (Value.string (ByteArray.mk #[])), V.val (Value.int IntKind.i64 0),
 V.val (Value.int IntKind.i64 0), V.val (Value.string (ByteArray.mk #[])),
 V.val (Value.int IntKind.i64 0), V.val (Value.string (ByteArray.mk #[])),
 V.sl [] [] Tok.full, V.val (Value.int IntKind.i64 0),
 V.val (Value.int IntKind.i64 0), V.val (Value.string (ByteArray.mk #[]))])
 []]).seq
 ((ACode.row
 [Item.mk (some 5) none (AOp.mov (Operand.tmp 1)) [], Item.mk (some 6) none (AOp.mov (Operand.tmp 0)) [],
 Item.mk (some 7) none
 (AOp.build
 [V.val (Value.int IntKind.i64 0), V.val (Value.int IntKind.i64 0),
 V.val (Value.int IntKind.i64 0), V.val (Value.int IntKind.i64 0),
 V.val (Value.int IntKind.i64 0), V.val (Value.int IntKind.i64 0),
 V.val (Value.int IntKind.i64 0), V.val (Value.int IntKind.i64 0),
 V.val (Value.int IntKind.i64 0), V.val (Value.int IntKind.i64 0),
 V.val (Value.int IntKind.i64 0), V.val (Value.int IntKind.i64 0),
 V.val (Value.string (ByteArray.mk #[])), V.val (Value.int IntKind.i64 0),
 V.val (Value.int IntKind.i64 0), V.val (Value.string (ByteArray.mk #[])),
 V.val (Value.int IntKind.i64 0), V.val (Value.string (ByteArray.mk #[])),
 V.sl [] [] Tok.full, V.val (Value.int IntKind.i64 0),
 V.val (Value.int IntKind.i64 0), V.val (Value.string (ByteArray.mk #[]))]
 [(0, 1, Operand.const (Value.int IntKind.i64 10)), (1, 1, Operand.tmp 5),
 (2, 1, Operand.const (Value.int IntKind.i64 (-1))), (7, 1, Operand.tmp 6)])
 [],
 Item.mk none none (AOp.store 22 (Operand.tmp 4) (Operand.tmp 7)) []]).seq
 ACode.ret))
theorem F34_ok : compFn Tryz.prog (byId h34) 34 = some F34 := by kernel_rfl
def h35 : List (Nat × List (Nat × List Nat) × List Nat) := [(5, [(0, []), (1, []), (3, []), (4, []), (6, []), (7, []), (2, [4, 7]), (5, [7]), (8, []), (9, []), (10, [])],
 [0, 1, 3, 0, 8, 31, 0, 64, 255, 0, 1023]),
 (12,
 [(0, []), (1, []), (2, []), (3, []), (5, []), (6, []), (7, []), (9, []), (10, []), (11, []), (4, [7, 11]),
 (8, [11]), (12, []), (13, [])],
 [0, 0, 2, 6, 15, 0, 32, 96, 255, 0, 512, 1536, 4095, 8191])]
def F35 : AFn :=
 AFn.mk 66 [ARes.tmp 2, ARes.tmp 3]
 ((ACode.row
 [Item.mk (some 1) none (AOp.box 36 (Operand.tmp 0)) [],
 Item.mk (some 2) none (AOp.mov (Operand.const (Value.slice none 0 0))) [],
 Item.mk (some 3) none (AOp.mov (Operand.const (Value.int IntKind.i64 0))) []]).seq
 (((ACode.row
 [Item.mk (some 10) none (AOp.load (some 22) (Operand.tmp 1)) [],
 Item.mk (some 11) none (AOp.call (Operand.func 28) [Operand.tmp 10]) [],
 Item.mk (some 4) none (AOp.mov (Operand.tmp 11)) []]).seq
 ((ACode.row
 [Item.mk (some 12) none (AOp.mov (Operand.tmp 4)) [],
 Item.mk (some 13) none
 (AOp.bin BinOp.neq 32 Cmp.other (Operand.tmp 12)
 (Operand.const (Value.int IntKind.i64 0)))
 []]).seq
 (ACode.cond (Operand.tmp 13)
 ((ACode.row
 [Item.mk (some 14) none (AOp.mov (Operand.tmp 4)) [],
 Item.mk (some 2) none (AOp.mov (Operand.const (Value.slice none 0 0)))
 [],
 Item.mk (some 3) none (AOp.mov (Operand.tmp 14)) []]).seq
 ACode.ret)
 ACode.skip))).seq
 ((ACode.row
 [Item.mk (some 16) none (AOp.fieldA 0 (Operand.tmp 1)) [],
 Item.mk (some 17) none (AOp.load none (Operand.tmp 16)) [],
 Item.mk (some 18) none (AOp.call (Operand.func 49) [Operand.tmp 17]) [],
 Item.mk (some 15) none (AOp.mov (Operand.tmp 18)) [],
 Item.mk (some 19) none (AOp.ext (Operand.tmp 15) 0) [],
 Item.mk (some 20) none (AOp.ext (Operand.tmp 15) 1) [],
 Item.mk (some 5) none
 (AOp.alloc 90
 [V.val (Value.bool false), V.val (Value.bool false), V.val (Value.bool false),
 V.val (Value.bool false), V.val (Value.bool false), V.val (Value.bool false),
 V.val (Value.bool false), V.val (Value.bool false)])
 [],
 Item.mk none none (AOp.store 8 (Operand.tmp 5) (Operand.tmp 19)) [],
 Item.mk (some 6) none (AOp.mov (Operand.tmp 20)) []]).seq
 ((ACode.row
 [Item.mk (some 21) none (AOp.fieldA 0 (Operand.tmp 1)) [],
 Item.mk (some 22) none (AOp.load none (Operand.tmp 21)) [],
 Item.mk (some 24) none (AOp.fieldA 1 (Operand.tmp 1)) [],
 Item.mk (some 25) none (AOp.load none (Operand.tmp 24)) [],
 Item.mk (some 27) none (AOp.fieldA 2 (Operand.tmp 1)) [],
 Item.mk (some 28) none (AOp.load none (Operand.tmp 27)) [],
 Item.mk (some 23) none
 (AOp.call (Operand.func 53)
 [Operand.const (Value.slice none 0 0), Operand.tmp 22])
 [(25, none, AOp.load none (Operand.tmp 24)), (28, none, AOp.load none (Operand.tmp 27))],
 Item.mk (some 26) none (AOp.call (Operand.func 53) [Operand.tmp 23, Operand.tmp 25])
 [(28, none, AOp.load none (Operand.tmp 27))],
 Item.mk (some 29) none (AOp.call (Operand.func 53) [Operand.tmp 26, Operand.tmp 28]) [],
 Item.mk (some 7) none (AOp.alloc 77 [V.sl [] [] Tok.full]) [],
 Item.mk none none (AOp.store 1 (Operand.tmp 7) (Operand.tmp 29)) []]).seq
 ((ACode.row
 [Item.mk (some 30) none (AOp.load (some 8) (Operand.tmp 5)) [],
 Item.mk (some 31) none (AOp.mkf (Fn.func 55) [] [Operand.tmp 7]) [],
 Item.mk (some 32) none (AOp.call (Operand.func 54) [Operand.tmp 30, Operand.tmp 1, Operand.tmp 31])
 []]).seq
 (((ACode.row
 [Item.mk (some 33) none (AOp.fieldA 5 (Operand.tmp 5)) [],
 Item.mk (some 34) none (AOp.load none (Operand.tmp 33)) []]).seq
 (ACode.cond (Operand.tmp 34)
 (ACode.row
 [Item.mk (some 35) none (AOp.load none (Operand.tmp 7)) [],
 Item.mk (some 36) none (AOp.fieldA 8 (Operand.tmp 1)) [],
 Item.mk (some 37) none (AOp.load (some 8) (Operand.tmp 36)) [],
 Item.mk (some 38) none (AOp.call (Operand.func 56) [Operand.tmp 35, Operand.tmp 37]) [],
 Item.mk none none (AOp.store 1 (Operand.tmp 7) (Operand.tmp 38)) []])
 ACode.skip)).seq
 (((ACode.row
 [Item.mk (some 39) none (AOp.fieldA 6 (Operand.tmp 5)) [],
 Item.mk (some 40) none (AOp.load none (Operand.tmp 39)) []]).seq
 (ACode.cond (Operand.tmp 40)
 (ACode.row
 [Item.mk (some 41) none (AOp.load none (Operand.tmp 7)) [],
 Item.mk (some 42) none (AOp.fieldA 16 (Operand.tmp 1)) [],
 Item.mk (some 43) none (AOp.load (some 3) (Operand.tmp 42)) [],
 Item.mk (some 44) none (AOp.call (Operand.func 57) [Operand.tmp 41, Operand.tmp 43]) [],
 Item.mk none none (AOp.store 1 (Operand.tmp 7) (Operand.tmp 44)) []])
 ACode.skip)).seq
 (((ACode.row
 [Item.mk (some 45) none (AOp.fieldA 7 (Operand.tmp 5)) [],
 Item.mk (some 46) none (AOp.load none (Operand.tmp 45)) []]).seq
 (ACode.cond (Operand.tmp 46)
 (ACode.row
 [Item.mk (some 47) none (AOp.load none (Operand.tmp 7)) [],
 Item.mk (some 48) none (AOp.fieldA 19 (Operand.tmp 1)) [],
 Item.mk (some 49) none (AOp.fieldA 0 (Operand.tmp 48)) [],
 Item.mk (some 50) none (AOp.load none (Operand.tmp 49)) [],
 Item.mk (some 52) none (AOp.fieldA 19 (Operand.tmp 1)) [],
 Item.mk (some 53) none (AOp.fieldA 1 (Operand.tmp 52)) [],
 Item.mk (some 54) none (AOp.load none (Operand.tmp 53)) [],
 Item.mk (some 56) none (AOp.fieldA 19 (Operand.tmp 1)) [],
 Item.mk (some 57) none (AOp.fieldA 2 (Operand.tmp 56)) [],
 Item.mk (some 58) none (AOp.load none (Operand.tmp 57)) [],
 Item.mk (some 51) none (AOp.call (Operand.func 53) [Operand.tmp 47, Operand.tmp 50])
 [(54, none, AOp.load none (Operand.tmp 53)), (58, none, AOp.load none (Operand.tmp 57))],
 Item.mk (some 55) none (AOp.call (Operand.func 53) [Operand.tmp 51, Operand.tmp 54])
 [(58, none, AOp.load none (Operand.tmp 57))],
 Item.mk (some 59) none (AOp.call (Operand.func 58) [Operand.tmp 55, Operand.tmp 58]) [],
 Item.mk none none (AOp.store 1 (Operand.tmp 7) (Operand.tmp 59)) []])
 ACode.skip)).seq
 ((ACode.row
 [Item.mk (some 61) none (AOp.load none (Operand.tmp 7)) [],
 Item.mk (some 62) none
 (AOp.call (Operand.func 59)
 [Operand.const (Value.slice none 0 0), Operand.tmp 61])
 [],
 Item.mk (some 60) none (AOp.mov (Operand.tmp 62)) [],
 Item.mk (some 63) none (AOp.ext (Operand.tmp 60) 0) [],
 Item.mk (some 64) none (AOp.ext (Operand.tmp 60) 1) [],
 Item.mk (some 8) none (AOp.mov (Operand.tmp 63)) [],
 Item.mk (some 9) none (AOp.mov (Operand.tmp 64)) []]).seq
 ((ACode.row
 [Item.mk (some 65) none (AOp.mov (Operand.tmp 8)) [],
 Item.mk (some 2) none (AOp.mov (Operand.tmp 65)) [],
 Item.mk (some 3) none (AOp.mov (Operand.const (Value.int IntKind.i64 0)))
 []]).seq
 ACode.ret))))))))))
theorem F35_ok : compFn Tryz.prog (byId h35) 35 = some F35 := by kernel_rfl
def h36 : List (Nat × List (Nat × List Nat) × List Nat) := []
def F36 : AFn :=
 AFn.mk 2 [ARes.cell 0 (some 22)]
 ((ACode.row
 [Item.mk (some 0) none
 (AOp.alloc 36
 [V.val (Value.int IntKind.i64 0), V.val (Value.int IntKind.i64 0),
 V.val (Value.int IntKind.i64 0), V.val (Value.int IntKind.i64 0),
 V.val (Value.int IntKind.i64 0), V.val (Value.int IntKind.i64 0),
 V.val (Value.int IntKind.i64 0), V.val (Value.int IntKind.i64 0),
 V.val (Value.int IntKind.i64 0), V.val (Value.int IntKind.i64 0),
 V.val (Value.int IntKind.i64 0), V.val (Value.int IntKind.i64 0),
 V.val (Value.string (ByteArray.mk #[])), V.val (Value.int IntKind.i64 0),
 V.val (Value.int IntKind.i64 0), V.val (Value.string (ByteArray.mk #[])),
 V.val (Value.int IntKind.i64 0), V.val (Value.string (ByteArray.mk #[])),
 V.sl [] [] Tok.full, V.val (Value.int IntKind.i64 0),
 V.val (Value.int IntKind.i64 0), V.val (Value.string (ByteArray.mk #[]))])
 []]).seq
 ((ACode.row
 [Item.mk (some 1) none
 (AOp.build
 [V.val (Value.int IntKind.i64 0), V.val (Value.int IntKind.i64 0),
 V.val (Value.int IntKind.i64 0), V.val (Value.int IntKind.i64 0),
 V.val (Value.int IntKind.i64 0), V.val (Value.int IntKind.i64 0),
 V.val (Value.int IntKind.i64 0), V.val (Value.int IntKind.i64 0),
 V.val (Value.int IntKind.i64 0), V.val (Value.int IntKind.i64 0),
 V.val (Value.int IntKind.i64 0), V.val (Value.int IntKind.i64 0),
 V.val (Value.string (ByteArray.mk #[])), V.val (Value.int IntKind.i64 0),
 V.val (Value.int IntKind.i64 0), V.val (Value.string (ByteArray.mk #[])),
 V.val (Value.int IntKind.i64 0), V.val (Value.string (ByteArray.mk #[])),
 V.sl [] [] Tok.full, V.val (Value.int IntKind.i64 0),
 V.val (Value.int IntKind.i64 0), V.val (Value.string (ByteArray.mk #[]))]
 [(0, 1, Operand.const (Value.int IntKind.i64 3)),
 (1, 1, Operand.const (Value.int IntKind.i64 1)),
 (3, 1, Operand.const (Value.int IntKind.i64 3)),
 (5, 1, Operand.const (Value.int IntKind.i64 2))])
 [],
 Item.mk none none (AOp.store 22 (Operand.tmp 0) (Operand.tmp 1)) []]).seq
 ACode.ret))
theorem F36_ok : compFn Tryz.prog (byId h36) 36 = some F36 := by kernel_rfl
def h37 : List (Nat × List (Nat × List Nat) × List Nat) := []
def F37 : AFn :=
 AFn.mk 40 [ARes.cell 2 (some 22), ARes.tmp 3]
 ((ACode.row
 [Item.mk (some 2) none
 (AOp.alloc 36
 [V.val (Value.int IntKind.i64 0), V.val (Value.int IntKind.i64 0),
 V.val (Value.int IntKind.i64 0), V.val (Value.int IntKind.i64 0),
 V.val (Value.int IntKind.i64 0), V.val (Value.int IntKind.i64 0),
 V.val (Value.int IntKind.i64 0), V.val (Value.int IntKind.i64 0),
 V.val (Value.int IntKind.i64 0), V.val (Value.int IntKind.i64 0),
 V.val (Value.int IntKind.i64 0), V.val (Value.int IntKind.i64 0),
 V.val (Value.string (ByteArray.mk #[])), V.val (Value.int IntKind.i64 0),
 V.val (Value.int IntKind.i64 0), V.val (Value.string (ByteArray.mk #[])),
 V.val (Value.int IntKind.i64 0), V.val (Value.string (ByteArray.mk #[])),
 V.sl [] [] Tok.full, V.val (Value.int IntKind.i64 0),
 V.val (Value.int IntKind.i64 0), V.val (Value.string (ByteArray.mk #[]))])
 [],
 Item.mk (some 3) none (AOp.mov (Operand.const (Value.int IntKind.i64 0))) []]).seq
 ((ACode.row
 [Item.mk (some 9) none (AOp.mov (Operand.tmp 0)) [],
 Item.mk (some 10) none
 (AOp.call (Operand.func 60) [Operand.tmp 9, Operand.const (Value.int IntKind.i64 0)]) [],
 Item.mk (some 8) none (AOp.mov (Operand.tmp 10)) [], Item.mk (some 11) none (AOp.ext (Operand.tmp 8) 0) [],
 Item.mk (some 12) none (AOp.ext (Operand.tmp 8) 1) [],
 Item.mk (some 13) none (AOp.ext (Operand.tmp 8) 2) [], Item.mk (some 4) none (AOp.mov (Operand.tmp 11)) [],
 Item.mk (some 5) none (AOp.mov (Operand.tmp 12)) [],
 Item.mk (some 6) none (AOp.mov (Operand.tmp 13)) []]).seq
 (((ACode.row
 [Item.mk (some 14) none (AOp.mov (Operand.tmp 6)) [],
 Item.mk (some 15) none
 (AOp.bin BinOp.neq 32 Cmp.other (Operand.tmp 14)
 (Operand.const (Value.int IntKind.i64 0)))
 []]).seq
 (ACode.cond (Operand.tmp 15)
 ((ACode.row
 [Item.mk (some 16) none
 (AOp.build
 [V.val (Value.int IntKind.i64 0), V.val (Value.int IntKind.i64 0),
 V.val (Value.int IntKind.i64 0),
 V.val (Value.int IntKind.i64 0),
 V.val (Value.int IntKind.i64 0),
 V.val (Value.int IntKind.i64 0),
 V.val (Value.int IntKind.i64 0),
 V.val (Value.int IntKind.i64 0),
 V.val (Value.int IntKind.i64 0),
 V.val (Value.int IntKind.i64 0),
 V.val (Value.int IntKind.i64 0),
 V.val (Value.int IntKind.i64 0), V.val (Value.string (ByteArray.mk #[])),
 V.val (Value.int IntKind.i64 0),
 V.val (Value.int IntKind.i64 0), V.val (Value.string (ByteArray.mk #[])),
 V.val (Value.int IntKind.i64 0), V.val (Value.string (ByteArray.mk #[])),
 V.sl [] [] Tok.full, V.val (Value.int IntKind.i64 0),
 V.val (Value.int IntKind.i64 0), V.val (Value.string (ByteArray.mk #[]))]
 [])
 [],
 Item.mk (some 17) none (AOp.mov (Operand.tmp 6)) [],
 Item.mk none none (AOp.store 22 (Operand.tmp 2) (Operand.tmp 16)) [],
 Item.mk (some 3) none (AOp.mov (Operand.tmp 17)) []]).seq
 ACode.ret)
 ACode.skip)).seq
 ((ACode.row
 [Item.mk (some 19) none (AOp.mov (Operand.tmp 4)) [],
 Item.mk (some 20) none (AOp.call (Operand.func 61) [Operand.tmp 19]) [],
 Item.mk (some 18) none (AOp.mov (Operand.tmp 20)) [],
 Item.mk (some 21) none (AOp.ext (Operand.tmp 18) 0) [],
 Item.mk (some 22) none (AOp.ext (Operand.tmp 18) 1) [],
 Item.mk (some 7) none
 (AOp.alloc 36
 [V.val (Value.int IntKind.i64 0), V.val (Value.int IntKind.i64 0),
 V.val (Value.int IntKind.i64 0), V.val (Value.int IntKind.i64 0),
 V.val (Value.int IntKind.i64 0), V.val (Value.int IntKind.i64 0),
 V.val (Value.int IntKind.i64 0), V.val (Value.int IntKind.i64 0),
 V.val (Value.int IntKind.i64 0), V.val (Value.int IntKind.i64 0),
 V.val (Value.int IntKind.i64 0), V.val (Value.int IntKind.i64 0),
 V.val (Value.string (ByteArray.mk #[])), V.val (Value.int IntKind.i64 0),
 V.val (Value.int IntKind.i64 0), V.val (Value.string (ByteArray.mk #[])),
 V.val (Value.int IntKind.i64 0), V.val (Value.string (ByteArray.mk #[])),
 V.sl [] [] Tok.full, V.val (Value.int IntKind.i64 0),
 V.val (Value.int IntKind.i64 0), V.val (Value.string (ByteArray.mk #[]))])
 [],
 Item.mk none none (AOp.store 22 (Operand.tmp 7) (Operand.tmp 21)) [],
 Item.mk (some 6) none (AOp.mov (Operand.tmp 22)) []]).seq
 ((ACode.block 0
 ((ACode.row
 [Item.mk (some 24) none (AOp.mov (Operand.tmp 6)) [],
 Item.mk (some 25) none
 (AOp.bin BinOp.neq 32 Cmp.other (Operand.tmp 24)
 (Operand.const (Value.int IntKind.i64 0)))
 [],
 Item.mk (some 23) none (AOp.mov (Operand.tmp 25)) []]).seq
 (ACode.cond (Operand.tmp 23)
 ((ACode.row
 [Item.mk (some 26) none
 (AOp.build
 [V.val (Value.int IntKind.i64 0),
 V.val (Value.int IntKind.i64 0),
 V.val (Value.int IntKind.i64 0),
 V.val (Value.int IntKind.i64 0),
 V.val (Value.int IntKind.i64 0),
 V.val (Value.int IntKind.i64 0),
 V.val (Value.int IntKind.i64 0),
 V.val (Value.int IntKind.i64 0),
 V.val (Value.int IntKind.i64 0),
 V.val (Value.int IntKind.i64 0),
 V.val (Value.int IntKind.i64 0),
 V.val (Value.int IntKind.i64 0),
 V.val (Value.string (ByteArray.mk #[])),
 V.val (Value.int IntKind.i64 0),
 V.val (Value.int IntKind.i64 0),
 V.val (Value.string (ByteArray.mk #[])),
 V.val (Value.int IntKind.i64 0),
 V.val (Value.string (ByteArray.mk #[])), V.sl [] [] Tok.full,
 V.val (Value.int IntKind.i64 0),
 V.val (Value.int IntKind.i64 0),
 V.val (Value.string (ByteArray.mk #[]))]
 [])
 [],
 Item.mk (some 27) none (AOp.mov (Operand.tmp 6)) [],
 Item.mk none none (AOp.store 22 (Operand.tmp 2) (Operand.tmp 26)) [],
 Item.mk (some 3) none (AOp.mov (Operand.tmp 27)) []]).seq
 ACode.ret)
 ((ACode.row
 [Item.mk (some 29) none (AOp.mov (Operand.tmp 5)) [],
 Item.mk (some 30) none (AOp.mov (Operand.tmp 0)) [],
 Item.mk (some 31) none (AOp.len false (Operand.tmp 30)) [],
 Item.mk (some 32) none (AOp.bin BinOp.lss 3 Cmp.other (Operand.tmp 29) (Operand.tmp 31)) [],
 Item.mk (some 28) none (AOp.mov (Operand.tmp 32)) []]).seq
 (ACode.cond (Operand.tmp 28)
 ((ACode.row
 [Item.mk (some 33) none
 (AOp.build
 [V.val (Value.int IntKind.i64 0),
 V.val (Value.int IntKind.i64 0),
 V.val (Value.int IntKind.i64 0),
 V.val (Value.int IntKind.i64 0),
 V.val (Value.int IntKind.i64 0),
 V.val (Value.int IntKind.i64 0),
 V.val (Value.int IntKind.i64 0),
 V.val (Value.int IntKind.i64 0),
 V.val (Value.int IntKind.i64 0),
 V.val (Value.int IntKind.i64 0),
 V.val (Value.int IntKind.i64 0),
 V.val (Value.int IntKind.i64 0),
 V.val (Value.string (ByteArray.mk #[])),
 V.val (Value.int IntKind.i64 0),
 V.val (Value.int IntKind.i64 0),
 V.val (Value.string (ByteArray.mk #[])),
 V.val (Value.int IntKind.i64 0),
 V.val (Value.string (ByteArray.mk #[])), V.sl [] [] Tok.full,
 V.val (Value.int IntKind.i64 0),
 V.val (Value.int IntKind.i64 0),
 V.val (Value.string (ByteArray.mk #[]))]
 [])
 [],
 Item.mk none none (AOp.store 22 (Operand.tmp 2) (Operand.tmp 33)) [],
 Item.mk (some 3) none (AOp.mov (Operand.const (Value.int IntKind.i64 5)))
 []]).seq
 ACode.ret)
 ((ACode.row
 [Item.mk (some 35) none (AOp.load (some 22) (Operand.tmp 7)) [],
 Item.mk (some 36) none (AOp.call (Operand.func 28) [Operand.tmp 35]) [],
 Item.mk (some 37) none
 (AOp.bin BinOp.neq 32 Cmp.other (Operand.tmp 36)
 (Operand.const (Value.int IntKind.i64 0)))
 [],
 Item.mk (some 34) none (AOp.mov (Operand.tmp 37)) []]).seq
 (ACode.cond (Operand.tmp 34)
 ((ACode.row
 [Item.mk (some 38) none
 (AOp.build
 [V.val (Value.int IntKind.i64 0),
 V.val (Value.int IntKind.i64 0),
 V.val (Value.int IntKind.i64 0),
 V.val (Value.int IntKind.i64 0),
 V.val (Value.int IntKind.i64 0),
 V.val (Value.int IntKind.i64 0),
 V.val (Value.int IntKind.i64 0),
 V.val (Value.int IntKind.i64 0),
 V.val (Value.int IntKind.i64 0),
 V.val (Value.int IntKind.i64 0),
 V.val (Value.int IntKind.i64 0),
 V.val (Value.int IntKind.i64 0),
 V.val (Value.string (ByteArray.mk #[])),
 V.val (Value.int IntKind.i64 0),
 V.val (Value.int IntKind.i64 0),
 V.val (Value.string (ByteArray.mk #[])),
 V.val (Value.int IntKind.i64 0),
 V.val (Value.string (ByteArray.mk #[])), V.sl [] [] Tok.full,
 V.val (Value.int IntKind.i64 0),
 V.val (Value.int IntKind.i64 0),
 V.val (Value.string (ByteArray.mk #[]))]
 [])
 [],
 Item.mk none none (AOp.store 22 (Operand.tmp 2) (Operand.tmp 38)) [],
 Item.mk (some 3) none
 (AOp.mov (Operand.const (Value.int IntKind.i64 2))) []]).seq
 ACode.ret)
 ACode.skip))))))).seq
 ((ACode.row
 [Item.mk (some 39) none (AOp.load (some 22) (Operand.tmp 7)) [],
 Item.mk none none (AOp.store 22 (Operand.tmp 2) (Operand.tmp 39)) [],
 Item.mk (some 3) none (AOp.mov (Operand.const (Value.int IntKind.i64 0))) []]).seq
 ACode.ret))))))
theorem F37_ok : compFn Tryz.prog (byId h37) 37 = some F37 := by kernel_rfl
def h38 : List (Nat × List (Nat × List Nat) × List Nat) := [(6, [(0, []), (1, []), (2, []), (3, []), (4, []), (5, []), (6, []), (7, []), (8, []), (9, [])],
 [0, 0, 3, 7, 0, 0, 48, 112, 255, 511])]
def F38 : AFn :=
 AFn.mk 27 [ARes.tmp 4]
 ((ACode.row [Item.mk (some 4) none (AOp.mov (Operand.const (Value.bool false))) []]).seq
 (((ACode.row
 [Item.mk (some 6) none (AOp.mov (Operand.tmp 0)) [],
 Item.mk (some 7) none (AOp.len false (Operand.tmp 6)) [],
 Item.mk (some 8) none (AOp.mov (Operand.tmp 1)) [],
 Item.mk (some 9) none (AOp.len false (Operand.tmp 8)) [],
 Item.mk (some 10) none (AOp.bin BinOp.neq 3 Cmp.other (Operand.tmp 7) (Operand.tmp 9)) []]).seq
 (ACode.cond (Operand.tmp 10)
 ((ACode.row [Item.mk (some 4) none (AOp.mov (Operand.const (Value.bool false))) []]).seq ACode.ret)
 ACode.skip)).seq
 (((ACode.row [Item.mk (some 5) none (AOp.mov (Operand.const (Value.int IntKind.i64 0))) []]).seq
 (ACode.block 0
 (((ACode.row
 [Item.mk (some 11) none (AOp.mov (Operand.tmp 5)) [],
 Item.mk (some 12) none (AOp.mov (Operand.tmp 0)) [],
 Item.mk (some 13) none (AOp.len false (Operand.tmp 12)) [],
 Item.mk (some 14) none (AOp.bin BinOp.lss 3 Cmp.other (Operand.tmp 11) (Operand.tmp 13))
 []]).seq
 (ACode.cond (Operand.tmp 14) ACode.skip (ACode.exit 0))).seq
 ((ACode.block 1
 ((ACode.row
 [Item.mk (some 17) none (AOp.mov (Operand.tmp 0)) [],
 Item.mk (some 18) none (AOp.mov (Operand.tmp 5)) [],
 Item.mk (some 19) none (AOp.idxL 22 (Operand.tmp 17) (Operand.tmp 18)) [],
 Item.mk (some 20) none (AOp.load (some 22) (Operand.tmp 19)) [],
 Item.mk (some 21) none (AOp.mov (Operand.tmp 1)) [],
 Item.mk (some 22) none (AOp.mov (Operand.tmp 5)) [],
 Item.mk (some 23) none (AOp.idxL 22 (Operand.tmp 21) (Operand.tmp 22)) [],
 Item.mk (some 24) none (AOp.load (some 22) (Operand.tmp 23)) [],
 Item.mk (some 25) none (AOp.call (Operand.func 23) [Operand.tmp 20, Operand.tmp 24]) [],
 Item.mk (some 26) none (AOp.un UnOp.not (Operand.tmp 25)) []]).seq
 (ACode.cond (Operand.tmp 26)
 ((ACode.row [Item.mk (some 4) none (AOp.mov (Operand.const (Value.bool false))) []]).seq
 ACode.ret)
 ACode.skip))).seq
 (ACode.row
 [Item.mk (some 15) none (AOp.mov (Operand.tmp 5)) [],
 Item.mk (some 16) none
 (AOp.bin BinOp.add 3 Cmp.other (Operand.tmp 15)
 (Operand.const (Value.int IntKind.i64 1)))
 [],
 Item.mk (some 5) none (AOp.mov (Operand.tmp 16)) []]))).loop)).seq
 ((ACode.row [Item.mk (some 4) none (AOp.mov (Operand.const (Value.bool true))) []]).seq ACode.ret))))
theorem F38_ok : compFn Tryz.prog (byId h38) 38 = some F38 := by kernel_rfl
def h39 : List (Nat × List (Nat × List Nat) × List Nat) := []
def F39 : AFn :=
 AFn.mk 11 [ARes.tmp 2]
 ((ACode.row [Item.mk (some 2) none (AOp.mov (Operand.const (Value.bool false))) []]).seq
 ((ACode.row
 [Item.mk (some 3) none (AOp.mov (Operand.tmp 0)) [],
 Item.mk (some 4) none
 (AOp.bin BinOp.neq 53 Cmp.pointer (Operand.tmp 3) (Operand.const (Value.pointer none))) [],
 Item.mk (some 5) none (AOp.mov (Operand.tmp 4)) [],
 Item.mk (some 6) (some (5, true)) (AOp.mov (Operand.tmp 0)) [],
 Item.mk (some 7) (some (5, true)) (AOp.nilc (Operand.tmp 6)) [],
 Item.mk (some 8) (some (5, true)) (AOp.fieldA 0 (Operand.tmp 7)) [],
 Item.mk (some 9) (some (5, true)) (AOp.load none (Operand.tmp 8)) [],
 Item.mk (some 10) none (AOp.pick (Operand.tmp 5) (Operand.tmp 9) (Operand.const (Value.bool false))) [],
 Item.mk (some 2) none (AOp.mov (Operand.tmp 10)) []]).seq
 ACode.ret))
theorem F39_ok : compFn Tryz.prog (byId h39) 39 = some F39 := by kernel_rfl
def h40 : List (Nat × List (Nat × List Nat) × List Nat) := []
def F40 : AFn :=
 AFn.mk 32 [ARes.tmp 6]
 ((ACode.row [Item.mk (some 6) none (AOp.mov (Operand.const (Value.int IntKind.i64 0))) []]).seq
 ((ACode.block 0
 ((ACode.row
 [Item.mk (some 8) none (AOp.mov (Operand.tmp 0)) [],
 Item.mk (some 9) none (AOp.call (Operand.func 39) [Operand.tmp 8]) [],
 Item.mk (some 10) none (AOp.un UnOp.not (Operand.tmp 9)) [],
 Item.mk (some 7) none (AOp.mov (Operand.tmp 10)) []]).seq
 (ACode.cond (Operand.tmp 7)
 ((ACode.row
 [Item.mk (some 6) none (AOp.mov (Operand.const (Value.int IntKind.i64 1))) []]).seq
 ACode.ret)
 ((ACode.row
 [Item.mk (some 12) none (AOp.mov (Operand.tmp 1)) [],
 Item.mk (some 13) none
 (AOp.bin BinOp.lss 3 Cmp.other (Operand.tmp 12)
 (Operand.const (Value.int IntKind.i64 0)))
 [],
 Item.mk (some 14) none (AOp.mov (Operand.tmp 13)) [],
 Item.mk (some 15) (some (14, false)) (AOp.mov (Operand.tmp 1)) [],
 Item.mk (some 16) (some (14, false)) (AOp.mov (Operand.tmp 0)) [],
 Item.mk (some 17) (some (14, false)) (AOp.nilc (Operand.tmp 16)) [],
 Item.mk (some 18) (some (14, false)) (AOp.fieldA 1 (Operand.tmp 17)) [],
 Item.mk (some 19) (some (14, false)) (AOp.load none (Operand.tmp 18)) [],
 Item.mk (some 20) (some (14, false)) (AOp.len false (Operand.tmp 19)) [],
 Item.mk (some 21) (some (14, false))
 (AOp.bin BinOp.geq 3 Cmp.other (Operand.tmp 15) (Operand.tmp 20)) [],
 Item.mk (some 22) none
 (AOp.pick (Operand.tmp 14) (Operand.const (Value.bool true)) (Operand.tmp 21)) [],
 Item.mk (some 11) none (AOp.mov (Operand.tmp 22)) []]).seq
 (ACode.cond (Operand.tmp 11)
 ((ACode.row
 [Item.mk (some 6) none (AOp.mov (Operand.const (Value.int IntKind.i64 10)))
 []]).seq
 ACode.ret)
 ACode.skip))))).seq
 ((ACode.row
 [Item.mk (some 23) none (AOp.mov (Operand.tmp 2)) [], Item.mk (some 24) none (AOp.mov (Operand.tmp 0)) [],
 Item.mk (some 25) none (AOp.nilc (Operand.tmp 24)) [],
 Item.mk (some 26) none (AOp.fieldA 1 (Operand.tmp 25)) [],
 Item.mk (some 27) none (AOp.load none (Operand.tmp 26)) [],
 Item.mk (some 28) none (AOp.mov (Operand.tmp 1)) [],
 Item.mk (some 29) none (AOp.idxL 1 (Operand.tmp 27) (Operand.tmp 28)) [],
 Item.mk (some 30) none (AOp.load none (Operand.tmp 29)) [],
 Item.mk (some 31) none (AOp.call (Operand.tmp 23) [Operand.tmp 30]) [],
 Item.mk (some 6) none (AOp.mov (Operand.tmp 31)) []]).seq
 ACode.ret)))
theorem F40_ok : compFn Tryz.prog (byId h40) 40 = some F40 := by kernel_rfl
def h41 : List (Nat × List (Nat × List Nat) × List Nat) := [(3,
 [(0, []), (1, []), (2, []), (3, []), (4, []), (5, []), (6, [0, 1, 4]), (7, []), (8, [0]), (9, []), (10, []),
 (11, [])],
 [0, 0, 2, 6, 14, 0, 32, 96, 254, 511, 1023, 2047])]
def F41 : AFn :=
 AFn.mk 21 [ARes.tmp 3]
 ((ACode.row [Item.mk (some 3) none (AOp.mov (Operand.const (Value.int IntKind.i64 0))) []]).seq
 (((ACode.row
 [Item.mk (some 4) none (AOp.load none (Operand.tmp 1)) [],
 Item.mk (some 5) none (AOp.nilc (Operand.tmp 4)) [],
 Item.mk (some 6) none (AOp.fieldA 1 (Operand.tmp 5)) [],
 Item.mk (some 7) none (AOp.load none (Operand.tmp 6)) [],
 Item.mk (some 8) none (AOp.len false (Operand.tmp 7)) [],
 Item.mk (some 9) none
 (AOp.bin BinOp.geq 3 Cmp.other (Operand.tmp 8)
 (Operand.const (Value.int IntKind.i64 4096)))
 []]).seq
 (ACode.cond (Operand.tmp 9)
 ((ACode.row
 [Item.mk (some 3) none (AOp.mov (Operand.const (Value.int IntKind.i64 12))) []]).seq
 ACode.ret)
 ACode.skip)).seq
 ((ACode.row
 [Item.mk (some 10) none (AOp.load none (Operand.tmp 1)) [],
 Item.mk (some 11) none (AOp.load none (Operand.tmp 1)) [],
 Item.mk (some 12) none (AOp.nilc (Operand.tmp 11)) [],
 Item.mk (some 13) none (AOp.fieldA 1 (Operand.tmp 12)) [],
 Item.mk (some 14) none (AOp.load none (Operand.tmp 13)) [],
 Item.mk (some 15) none (AOp.mov (Operand.tmp 0)) [],
 Item.mk (some 16) none (AOp.call (Operand.func 42) [Operand.tmp 15])
 [(10, none, AOp.load none (Operand.tmp 1)), (11, none, AOp.load none (Operand.tmp 1)),
 (14, none, AOp.load none (Operand.tmp 13))],
 Item.mk (some 17) none (AOp.lits 1 [V.sl [] [] Tok.full] 1 [(0, Operand.tmp 16)]) [],
 Item.mk (some 18) none (AOp.app 77 24 1 (Operand.tmp 14) (Operand.tmp 17))
 [(10, none, AOp.load none (Operand.tmp 1))],
 Item.mk (some 19) none (AOp.nilc (Operand.tmp 10)) [],
 Item.mk (some 20) none (AOp.fieldA 1 (Operand.tmp 19)) [],
 Item.mk none none (AOp.store 1 (Operand.tmp 20) (Operand.tmp 18)) []]).seq
 ((ACode.row [Item.mk (some 3) none (AOp.mov (Operand.const (Value.int IntKind.i64 0))) []]).seq
 ACode.ret))))
theorem F41_ok : compFn Tryz.prog (byId h41) 41 = some F41 := by kernel_rfl
def h42 : List (Nat × List (Nat × List Nat) × List Nat) := []
def F42 : AFn :=
 AFn.mk 8 [ARes.tmp 2]
 ((ACode.row
 [Item.mk (some 2) none (AOp.mov (Operand.const (Value.slice none 0 0))) []]).seq
 (((ACode.row
 [Item.mk (some 3) none (AOp.mov (Operand.tmp 0)) [],
 Item.mk (some 4) none
 (AOp.bin BinOp.eql 77 Cmp.slice (Operand.tmp 3)
 (Operand.const (Value.slice none 0 0)))
 []]).seq
 (ACode.cond (Operand.tmp 4)
 ((ACode.row
 [Item.mk (some 2) none (AOp.mov (Operand.const (Value.slice none 0 0)))
 []]).seq
 ACode.ret)
 ACode.skip)).seq
 ((ACode.row
 [Item.mk (some 5) none (AOp.lits 1 [V.val (Value.int IntKind.u8 0)] 0 []) [],
 Item.mk (some 6) none (AOp.mov (Operand.tmp 0)) [],
 Item.mk (some 7) none (AOp.app 5 1 1 (Operand.tmp 5) (Operand.tmp 6)) [],
 Item.mk (some 2) none (AOp.mov (Operand.tmp 7)) []]).seq
 ACode.ret)))
theorem F42_ok : compFn Tryz.prog (byId h42) 42 = some F42 := by kernel_rfl
def h43 : List (Nat × List (Nat × List Nat) × List Nat) := []
def F43 : AFn :=
 AFn.mk 9 [ARes.tmp 3]
 ((ACode.row [Item.mk (some 3) none (AOp.mov (Operand.const (Value.int IntKind.i64 0))) []]).seq
 ((ACode.row
 [Item.mk (some 5) none (AOp.mov (Operand.tmp 0)) [],
 Item.mk (some 6) none (AOp.call (Operand.func 37) [Operand.tmp 5]) [],
 Item.mk (some 4) none (AOp.mov (Operand.tmp 6)) [], Item.mk (some 7) none (AOp.ext (Operand.tmp 4) 0) [],
 Item.mk (some 8) none (AOp.ext (Operand.tmp 4) 1) [],
 Item.mk none none (AOp.store 22 (Operand.tmp 1) (Operand.tmp 7)) []]).seq
 ((ACode.row [Item.mk (some 3) none (AOp.mov (Operand.const (Value.int IntKind.i64 0))) []]).seq
 ACode.ret)))
theorem F43_ok : compFn Tryz.prog (byId h43) 43 = some F43 := by kernel_rfl
def h44 : List (Nat × List (Nat × List Nat) × List Nat) := []
def F44 : AFn :=
 AFn.mk 24 [ARes.tmp 4]
 ((ACode.row
 [Item.mk (some 2) none (AOp.box 31 (Operand.tmp 0)) [], Item.mk (some 3) none (AOp.box 31 (Operand.tmp 1)) [],
 Item.mk (some 4) none (AOp.mov (Operand.const (Value.bool false))) []]).seq
 ((ACode.row
 [Item.mk (some 5) none (AOp.fieldA 0 (Operand.tmp 2)) [],
 Item.mk (some 6) none (AOp.load none (Operand.tmp 5)) [],
 Item.mk (some 7) none (AOp.fieldA 0 (Operand.tmp 3)) [],
 Item.mk (some 8) none (AOp.load none (Operand.tmp 7)) [],
 Item.mk (some 9) none (AOp.bin BinOp.eql 3 Cmp.other (Operand.tmp 6) (Operand.tmp 8)) [],
 Item.mk (some 10) none (AOp.mov (Operand.tmp 9)) [],
 Item.mk (some 11) (some (10, true)) (AOp.fieldA 1 (Operand.tmp 2)) [],
 Item.mk (some 12) (some (10, true)) (AOp.load none (Operand.tmp 11)) [],
 Item.mk (some 13) (some (10, true)) (AOp.fieldA 1 (Operand.tmp 3)) [],
 Item.mk (some 14) (some (10, true)) (AOp.load none (Operand.tmp 13)) [],
 Item.mk (some 15) (some (10, true)) (AOp.bin BinOp.eql 9 Cmp.other (Operand.tmp 12) (Operand.tmp 14)) [],
 Item.mk (some 16) none (AOp.pick (Operand.tmp 10) (Operand.tmp 15) (Operand.const (Value.bool false))) [],
 Item.mk (some 17) none (AOp.mov (Operand.tmp 16)) [],
 Item.mk (some 18) (some (17, true)) (AOp.fieldA 2 (Operand.tmp 2)) [],
 Item.mk (some 19) (some (17, true)) (AOp.load none (Operand.tmp 18)) [],
 Item.mk (some 20) (some (17, true)) (AOp.fieldA 2 (Operand.tmp 3)) [],
 Item.mk (some 21) (some (17, true)) (AOp.load none (Operand.tmp 20)) [],
 Item.mk (some 22) (some (17, true)) (AOp.call (Operand.func 62) [Operand.tmp 19, Operand.tmp 21]) [],
 Item.mk (some 23) none (AOp.pick (Operand.tmp 17) (Operand.tmp 22) (Operand.const (Value.bool false))) [],
 Item.mk (some 4) none (AOp.mov (Operand.tmp 23)) []]).seq
 ACode.ret))
theorem F44_ok : compFn Tryz.prog (byId h44) 44 = some F44 := by kernel_rfl
def h45 : List (Nat × List (Nat × List Nat) × List Nat) := []
def F45 : AFn :=
 AFn.mk 9 [ARes.tmp 2]
 ((ACode.row [Item.mk (some 2) none (AOp.mov (Operand.const (Value.bool false))) []]).seq
 ((ACode.row
 [Item.mk (some 3) none (AOp.mov (Operand.tmp 0)) [],
 Item.mk (some 4) none
 (AOp.bin BinOp.geq 3 Cmp.other (Operand.tmp 3) (Operand.const (Value.int IntKind.i64 1)))
 [],
 Item.mk (some 5) none (AOp.mov (Operand.tmp 4)) [],
 Item.mk (some 6) (some (5, true)) (AOp.mov (Operand.tmp 0)) [],
 Item.mk (some 7) (some (5, true))
 (AOp.bin BinOp.leq 3 Cmp.other (Operand.tmp 6)
 (Operand.const (Value.int IntKind.i64 2147483647)))
 [],
 Item.mk (some 8) none (AOp.pick (Operand.tmp 5) (Operand.tmp 7) (Operand.const (Value.bool false))) [],
 Item.mk (some 2) none (AOp.mov (Operand.tmp 8)) []]).seq
 ACode.ret))
theorem F45_ok : compFn Tryz.prog (byId h45) 45 = some F45 := by kernel_rfl
def h46 : List (Nat × List (Nat × List Nat) × List Nat) := []
def F46 : AFn :=
 AFn.mk 13 [ARes.tmp 2]
 ((ACode.row [Item.mk (some 2) none (AOp.mov (Operand.const (Value.bool false))) []]).seq
 ((ACode.row
 [Item.mk (some 6) none (AOp.mov (Operand.tmp 0)) [],
 Item.mk (some 7) none
 (AOp.build
 [V.val (Value.int IntKind.i64 0), V.val (Value.string (ByteArray.mk #[])),
 V.val (Value.int IntKind.i64 0), V.val (Value.int IntKind.i64 0),
 V.val (Value.int IntKind.i64 0)]
 [(0, 1, Operand.const (Value.int IntKind.i64 1)), (1, 1, Operand.tmp 6)])
 [],
 Item.mk (some 8) none (AOp.call (Operand.func 63) [Operand.tmp 7]) [],
 Item.mk (some 5) none (AOp.mov (Operand.tmp 8)) [], Item.mk (some 9) none (AOp.ext (Operand.tmp 5) 0) [],
 Item.mk (some 10) none (AOp.ext (Operand.tmp 5) 1) [], Item.mk (some 3) none (AOp.mov (Operand.tmp 9)) [],
 Item.mk (some 4) none (AOp.mov (Operand.tmp 10)) []]).seq
 ((ACode.row
 [Item.mk (some 11) none (AOp.mov (Operand.tmp 4)) [],
 Item.mk (some 12) none
 (AOp.bin BinOp.eql 32 Cmp.other (Operand.tmp 11)
 (Operand.const (Value.int IntKind.i64 0)))
 [],
 Item.mk (some 2) none (AOp.mov (Operand.tmp 12)) []]).seq
 ACode.ret)))
theorem F46_ok : compFn Tryz.prog (byId h46) 46 = some F46 := by kernel_rfl
def h47 : List (Nat × List (Nat × List Nat) × List Nat) := []
def F47 : AFn :=
 AFn.mk 6 [ARes.tmp 2]
 ((ACode.row
 [Item.mk (some 1) none (AOp.box 25 (Operand.tmp 0)) [],
 Item.mk (some 2) none (AOp.mov (Operand.const (Value.int IntKind.i64 0))) []]).seq
 (((ACode.row
 [Item.mk (some 3) none (AOp.load (some 3) (Operand.tmp 1)) [],
 Item.mk (some 4) none (AOp.call (Operand.func 64) [Operand.tmp 3]) [],
 Item.mk (some 5) none (AOp.un UnOp.not (Operand.tmp 4)) []]).seq
 (ACode.cond (Operand.tmp 5)
 ((ACode.row
 [Item.mk (some 2) none (AOp.mov (Operand.const (Value.int IntKind.i64 2))) []]).seq
 ACode.ret)
 ACode.skip)).seq
 ((ACode.row [Item.mk (some 2) none (AOp.mov (Operand.const (Value.int IntKind.i64 0))) []]).seq
 ACode.ret)))
theorem F47_ok : compFn Tryz.prog (byId h47) 47 = some F47 := by kernel_rfl
def h48 : List (Nat × List (Nat × List Nat) × List Nat) := []
def F48 : AFn :=
 AFn.mk 10 [ARes.tmp 3]
 ((ACode.row [Item.mk (some 3) none (AOp.mov (Operand.const (Value.bool false))) []]).seq
 ((ACode.row
 [Item.mk (some 4) none (AOp.mov (Operand.tmp 0)) [], Item.mk (some 5) none (AOp.load none (Operand.tmp 1)) [],
 Item.mk (some 6) none (AOp.nilc (Operand.tmp 5)) [],
 Item.mk (some 7) none (AOp.fieldA 2 (Operand.tmp 6)) [],
 Item.mk (some 8) none (AOp.load none (Operand.tmp 7)) [],
 Item.mk (some 9) none (AOp.bin BinOp.eql 3 Cmp.other (Operand.tmp 4) (Operand.tmp 8)) [],
 Item.mk (some 3) none (AOp.mov (Operand.tmp 9)) []]).seq
 ACode.ret))
theorem F48_ok : compFn Tryz.prog (byId h48) 48 = some F48 := by kernel_rfl
def h49 : List (Nat × List (Nat × List Nat) × List Nat) := []
def F49 : AFn :=
 AFn.mk 38 [ARes.cell 2 (some 8), ARes.tmp 3]
 ((ACode.row
 [Item.mk (some 2) none
 (AOp.alloc 90
 [V.val (Value.bool false), V.val (Value.bool false), V.val (Value.bool false), V.val (Value.bool false),
 V.val (Value.bool false), V.val (Value.bool false), V.val (Value.bool false), V.val (Value.bool false)])
 [],
 Item.mk (some 3) none (AOp.mov (Operand.const (Value.bool false))) []]).seq
 ((ACode.row
 [Item.mk (some 4) none
 (AOp.alloc 90
 [V.val (Value.bool false), V.val (Value.bool false), V.val (Value.bool false), V.val (Value.bool false),
 V.val (Value.bool false), V.val (Value.bool false), V.val (Value.bool false),
 V.val (Value.bool false)])
 []]).seq
 (((ACode.row [Item.mk (some 5) none (AOp.mov (Operand.tmp 0)) []]).seq
 (ACode.block 0
 ((ACode.block 9
 ((ACode.block 8
 ((ACode.block 7
 ((ACode.block 6
 ((ACode.block 5
 ((ACode.block 4
 ((ACode.block 3
 ((ACode.block 2
 ((ACode.block 1
 ((((ACode.row
 [Item.mk (some 7) none
 (AOp.bin BinOp.eql 28 Cmp.other
 (Operand.tmp 5)
 (Operand.const
 (Value.int IntKind.i64
 1)))
 [],
 Item.mk (some 6) none
 (AOp.mov (Operand.tmp 7)) []]).seq
 (ACode.cond (Operand.tmp 6) (ACode.exit 1)
 ACode.skip)).seq
 (((ACode.row
 [Item.mk (some 9) none
 (AOp.bin BinOp.eql 28 Cmp.other
 (Operand.tmp 5)
 (Operand.const
 (Value.int IntKind.i64
 2)))
 [],
 Item.mk (some 8) none
 (AOp.mov (Operand.tmp 9))
 []]).seq
 (ACode.cond (Operand.tmp 8)
 (ACode.exit 2) ACode.skip)).seq
 ((((ACode.row
 [Item.mk (some 11) none
 (AOp.bin BinOp.eql 28
 Cmp.other
 (Operand.tmp 5)
 (Operand.const
 (Value.int IntKind.i64
 3)))
 [],
 Item.mk (some 10) none
 (AOp.mov (Operand.tmp 11))
 []]).seq
 (ACode.cond (Operand.tmp 10)
 ACode.skip
 (ACode.row
 [Item.mk (some 12) none
 (AOp.bin BinOp.eql 28
 Cmp.other
 (Operand.tmp 5)
 (Operand.const
 (Value.int IntKind.i64
 8)))
 [],
 Item.mk (some 10) none
 (AOp.mov (Operand.tmp 12))
 []]))).seq
 (ACode.cond (Operand.tmp 10)
 (ACode.exit 3) ACode.skip)).seq
 (((ACode.row
 [Item.mk (some 14) none
 (AOp.bin BinOp.eql 28
 Cmp.other (Operand.tmp 5)
 (Operand.const
 (Value.int IntKind.i64
 6)))
 [],
 Item.mk (some 13) none
 (AOp.mov (Operand.tmp 14))
 []]).seq
 (ACode.cond (Operand.tmp 13)
 (ACode.exit 4) ACode.skip)).seq
 ((((ACode.row
 [Item.mk (some 16) none
 (AOp.bin BinOp.eql 28
 Cmp.other
 (Operand.tmp 5)
 (Operand.const
 (Value.int
 IntKind.i64
 (OfNat.ofNat
 7))))
 [],
 Item.mk (some 15) none
 (AOp.mov
 (Operand.tmp 16))
 []]).seq
 (ACode.cond (Operand.tmp 15)
 ACode.skip
 (ACode.row
 [Item.mk (some 17) none
 (AOp.bin BinOp.eql 28
 Cmp.other
 (Operand.tmp 5)
 (Operand.const
 (Value.int
 IntKind.i64
 (OfNat.ofNat
 9))))
 [],
 Item.mk (some 15) none
 (AOp.mov
 (Operand.tmp 17))
 []]))).seq
 (ACode.cond (Operand.tmp 15)
 (ACode.exit 5) ACode.skip)).seq
 (((ACode.row
 [Item.mk (some 19) none
 (AOp.bin BinOp.eql 28
 Cmp.other
 (Operand.tmp 5)
 (Operand.const
 (Value.int
 IntKind.i64
 4)))
 [],
 Item.mk (some 18) none
 (AOp.mov
 (Operand.tmp 19))
 []]).seq
 (ACode.cond (Operand.tmp 18)
 (ACode.exit 6)
 ACode.skip)).seq
 (((ACode.row
 [Item.mk (some 21) none
 (AOp.bin BinOp.eql 28
 Cmp.other
 (Operand.tmp 5)
 (Operand.const
 (Value.int
 IntKind.i64
 (OfNat.ofNat
 5))))
 [],
 Item.mk (some 20) none
 (AOp.mov
 (Operand.tmp 21))
 []]).seq
 (ACode.cond (Operand.tmp 20)
 (ACode.exit 7)
 ACode.skip)).seq
 ((ACode.row
 [Item.mk (some 23) none
 (AOp.bin BinOp.eql 28
 Cmp.other
 (Operand.tmp 5)
 (Operand.const
 (Value.int
 IntKind.i64
 (OfNat.ofNat
 10))))
 [],
 Item.mk (some 22) none
 (AOp.mov
 (Operand.tmp 23))
 []]).seq
 (ACode.cond (Operand.tmp 22)
 (ACode.exit 8)
 ACode.skip))))))))).seq
 (ACode.exit 9))).seq
 (((ACode.row
 [Item.mk (some 24) none
 (AOp.build
 [V.val (Value.bool false),
 V.val (Value.bool false),
 V.val (Value.bool false),
 V.val (Value.bool false),
 V.val (Value.bool false),
 V.val (Value.bool false),
 V.val (Value.bool false),
 V.val (Value.bool false)]
 [(5, 1,
 Operand.const (Value.bool true))])
 [],
 Item.mk none none
 (AOp.store 8 (Operand.tmp 2)
 (Operand.tmp 24))
 [],
 Item.mk (some 3) none
 (AOp.mov
 (Operand.const (Value.bool true)))
 []]).seq
 ACode.ret).seq
 (ACode.exit 0)))).seq
 (ACode.row
 [Item.mk (some 25) none (AOp.fieldA 5 (Operand.tmp 4)) [],
 Item.mk none none
 (AOp.store 1 (Operand.tmp 25)
 (Operand.const (Value.bool true)))
 [],
 Item.mk (some 26) none (AOp.fieldA 3 (Operand.tmp 4)) [],
 Item.mk none none
 (AOp.store 1 (Operand.tmp 26)
 (Operand.const (Value.bool true)))
 []]))).seq
 ((ACode.row
 [Item.mk (some 27) none (AOp.fieldA 2 (Operand.tmp 4)) [],
 Item.mk none none
 (AOp.store 1 (Operand.tmp 27)
 (Operand.const (Value.bool true)))
 [],
 Item.mk (some 28) none (AOp.fieldA 0 (Operand.tmp 4)) [],
 Item.mk none none
 (AOp.store 1 (Operand.tmp 28)
 (Operand.const (Value.bool true)))
 []]).seq
 (ACode.exit 0)))).seq
 (ACode.row
 [Item.mk (some 29) none (AOp.fieldA 1 (Operand.tmp 4)) [],
 Item.mk none none
 (AOp.store 1 (Operand.tmp 29) (Operand.const (Value.bool true)))
 []]))).seq
 (ACode.row
 [Item.mk (some 30) none (AOp.fieldA 6 (Operand.tmp 4)) [],
 Item.mk none none
 (AOp.store 1 (Operand.tmp 30) (Operand.const (Value.bool true)))
 []]))).seq
 (ACode.row
 [Item.mk (some 31) none (AOp.fieldA 3 (Operand.tmp 4)) [],
 Item.mk none none (AOp.store 1 (Operand.tmp 31) (Operand.const (Value.bool true)))
 []]))).seq
 ((ACode.row
 [Item.mk (some 32) none (AOp.fieldA 0 (Operand.tmp 4)) [],
 Item.mk none none (AOp.store 1 (Operand.tmp 32) (Operand.const (Value.bool true)))
 []]).seq
 (ACode.exit 0)))).seq
 ((ACode.row
 [Item.mk (some 33) none (AOp.fieldA 0 (Operand.tmp 4)) [],
 Item.mk none none (AOp.store 1 (Operand.tmp 33) (Operand.const (Value.bool true))) [],
 Item.mk (some 34) none (AOp.fieldA 4 (Operand.tmp 4)) [],
 Item.mk none none (AOp.store 1 (Operand.tmp 34) (Operand.const (Value.bool true))) [],
 Item.mk (some 35) none (AOp.fieldA 7 (Operand.tmp 4)) [],
 Item.mk none none (AOp.store 1 (Operand.tmp 35) (Operand.const (Value.bool true)))
 []]).seq
 (ACode.exit 0)))).seq
 (((ACode.row
 [Item.mk (some 36) none (AOp.load (some 8) (Operand.tmp 4)) [],
 Item.mk none none (AOp.store 8 (Operand.tmp 2) (Operand.tmp 36)) [],
 Item.mk (some 3) none (AOp.mov (Operand.const (Value.bool false))) []]).seq
 ACode.ret).seq
 (ACode.exit 0))))).seq
 ((ACode.row
 [Item.mk (some 37) none (AOp.load (some 8) (Operand.tmp 4)) [],
 Item.mk none none (AOp.store 8 (Operand.tmp 2) (Operand.tmp 37)) [],
 Item.mk (some 3) none (AOp.mov (Operand.const (Value.bool true))) []]).seq
 ACode.ret))))
theorem F49_ok : compFn Tryz.prog (byId h49) 49 = some F49 := by kernel_rfl
def h50 : List (Nat × List (Nat × List Nat) × List Nat) := []
def F50 : AFn :=
 AFn.mk 25 [ARes.tmp 6]
 ((ACode.row [Item.mk (some 6) none (AOp.mov (Operand.const (Value.bool false))) []]).seq
 ((ACode.row
 [Item.mk (some 7) none (AOp.mov (Operand.tmp 0)) [],
 Item.mk (some 8) none (AOp.un UnOp.not (Operand.tmp 7)) [],
 Item.mk (some 9) none (AOp.mov (Operand.tmp 8)) [],
 Item.mk (some 10) (some (9, true)) (AOp.mov (Operand.tmp 1)) [],
 Item.mk (some 11) (some (9, true))
 (AOp.bin BinOp.eql 3 Cmp.other (Operand.tmp 10) (Operand.const (Value.int IntKind.i64 0)))
 [],
 Item.mk (some 12) none (AOp.pick (Operand.tmp 9) (Operand.tmp 11) (Operand.const (Value.bool false))) [],
 Item.mk (some 13) none (AOp.mov (Operand.tmp 12)) [],
 Item.mk (some 14) (some (13, false)) (AOp.mov (Operand.tmp 0)) [],
 Item.mk (some 15) (some (13, false)) (AOp.mov (Operand.tmp 14)) [],
 Item.mk (some 16) (some (15, true)) (AOp.mov (Operand.tmp 1)) [],
 Item.mk (some 17) (some (15, true)) (AOp.mov (Operand.tmp 2)) [],
 Item.mk (some 18) (some (15, true)) (AOp.bin BinOp.geq 3 Cmp.other (Operand.tmp 16) (Operand.tmp 17)) [],
 Item.mk (some 19) (some (13, false))
 (AOp.pick (Operand.tmp 15) (Operand.tmp 18) (Operand.const (Value.bool false))) [],
 Item.mk (some 20) (some (13, false)) (AOp.mov (Operand.tmp 19)) [],
 Item.mk (some 21) (some (20, true)) (AOp.mov (Operand.tmp 1)) [],
 Item.mk (some 22) (some (20, true))
 (AOp.bin BinOp.leq 3 Cmp.other (Operand.tmp 21)
 (Operand.const (Value.int IntKind.i64 2147483647)))
 [],
 Item.mk (some 23) (some (13, false))
 (AOp.pick (Operand.tmp 20) (Operand.tmp 22) (Operand.const (Value.bool false))) [],
 Item.mk (some 24) none (AOp.pick (Operand.tmp 13) (Operand.const (Value.bool true)) (Operand.tmp 23)) [],
 Item.mk (some 6) none (AOp.mov (Operand.tmp 24)) []]).seq
 ACode.ret))
theorem F50_ok : compFn Tryz.prog (byId h50) 50 = some F50 := by kernel_rfl
def h51 : List (Nat × List (Nat × List Nat) × List Nat) := []
def F51 : AFn :=
 AFn.mk 49 [ARes.tmp 2]
 ((ACode.row
 [Item.mk (some 1) none (AOp.box 36 (Operand.tmp 0)) [],
 Item.mk (some 2) none (AOp.mov (Operand.const (Value.bool false))) []]).seq
 (((ACode.row
 [Item.mk (some 3) none (AOp.fieldA 0 (Operand.tmp 1)) [],
 Item.mk (some 4) none (AOp.load none (Operand.tmp 3)) []]).seq
 (ACode.block 0
 ((ACode.row
 [Item.mk (some 6) none
 (AOp.bin BinOp.eql 28 Cmp.other (Operand.tmp 4)
 (Operand.const (Value.int IntKind.i64 1)))
 [],
 Item.mk (some 5) none (AOp.mov (Operand.tmp 6)) []]).seq
 (ACode.cond (Operand.tmp 5)
 ((ACode.row
 [Item.mk (some 7) none (AOp.fieldA 1 (Operand.tmp 1)) [],
 Item.mk (some 8) none (AOp.load none (Operand.tmp 7)) [],
 Item.mk (some 9) none (AOp.call (Operand.func 65) [Operand.tmp 8]) [],
 Item.mk (some 10) none (AOp.mov (Operand.tmp 9)) [],
 Item.mk (some 11) (some (10, true)) (AOp.fieldA 2 (Operand.tmp 1)) [],
 Item.mk (some 12) (some (10, true)) (AOp.load none (Operand.tmp 11)) [],
 Item.mk (some 13) (some (10, true)) (AOp.call (Operand.func 66) [Operand.tmp 12]) [],
 Item.mk (some 14) none
 (AOp.pick (Operand.tmp 10) (Operand.tmp 13) (Operand.const (Value.bool false))) [],
 Item.mk (some 15) none (AOp.mov (Operand.tmp 14)) [],
 Item.mk (some 16) (some (15, true)) (AOp.fieldA 8 (Operand.tmp 1)) [],
 Item.mk (some 17) (some (15, true)) (AOp.fieldA 0 (Operand.tmp 16)) [],
 Item.mk (some 18) (some (15, true)) (AOp.load none (Operand.tmp 17)) [],
 Item.mk (some 19) (some (15, true)) (AOp.fieldA 1 (Operand.tmp 1)) [],
 Item.mk (some 20) (some (15, true)) (AOp.load none (Operand.tmp 19)) [],
 Item.mk (some 21) (some (15, true)) (AOp.un UnOp.neg (Operand.tmp 20)) [],
 Item.mk (some 22) (some (15, true))
 (AOp.bin BinOp.eql 3 Cmp.other (Operand.tmp 18) (Operand.tmp 21)) [],
 Item.mk (some 23) none
 (AOp.pick (Operand.tmp 15) (Operand.tmp 22) (Operand.const (Value.bool false))) [],
 Item.mk (some 2) none (AOp.mov (Operand.tmp 23)) []]).seq
 ACode.ret)
 ((ACode.row
 [Item.mk (some 25) none
 (AOp.bin BinOp.eql 28 Cmp.other (Operand.tmp 4)
 (Operand.const (Value.int IntKind.i64 10)))
 [],
 Item.mk (some 24) none (AOp.mov (Operand.tmp 25)) []]).seq
 (ACode.cond (Operand.tmp 24)
 ((ACode.row
 [Item.mk (some 26) none (AOp.fieldA 1 (Operand.tmp 1)) [],
 Item.mk (some 27) none (AOp.load none (Operand.tmp 26)) [],
 Item.mk (some 28) none (AOp.call (Operand.func 66) [Operand.tmp 27]) [],
 Item.mk (some 29) none (AOp.mov (Operand.tmp 28)) [],
 Item.mk (some 30) (some (29, true)) (AOp.fieldA 2 (Operand.tmp 1)) [],
 Item.mk (some 31) (some (29, true)) (AOp.load none (Operand.tmp 30)) [],
 Item.mk (some 32) (some (29, true)) (AOp.call (Operand.func 65) [Operand.tmp 31]) [],
 Item.mk (some 33) none
 (AOp.pick (Operand.tmp 29) (Operand.tmp 32) (Operand.const (Value.bool false))) [],
 Item.mk (some 2) none (AOp.mov (Operand.tmp 33)) []]).seq
 ACode.ret)
 ACode.skip)))))).seq
 ((ACode.row
 [Item.mk (some 34) none (AOp.fieldA 1 (Operand.tmp 1)) [],
 Item.mk (some 35) none (AOp.load none (Operand.tmp 34)) [],
 Item.mk (some 36) none (AOp.call (Operand.func 66) [Operand.tmp 35]) [],
 Item.mk (some 37) none (AOp.mov (Operand.tmp 36)) [],
 Item.mk (some 38) (some (37, true)) (AOp.fieldA 2 (Operand.tmp 1)) [],
 Item.mk (some 39) (some (37, true)) (AOp.load none (Operand.tmp 38)) [],
 Item.mk (some 40) (some (37, true)) (AOp.call (Operand.func 66) [Operand.tmp 39]) [],
 Item.mk (some 41) none (AOp.pick (Operand.tmp 37) (Operand.tmp 40) (Operand.const (Value.bool false))) [],
 Item.mk (some 42) none (AOp.mov (Operand.tmp 41)) [],
 Item.mk (some 43) (some (42, true)) (AOp.fieldA 1 (Operand.tmp 1)) [],
 Item.mk (some 44) (some (42, true)) (AOp.load none (Operand.tmp 43)) [],
 Item.mk (some 45) (some (42, true)) (AOp.fieldA 2 (Operand.tmp 1)) [],
 Item.mk (some 46) (some (42, true)) (AOp.load none (Operand.tmp 45)) [],
 Item.mk (some 47) (some (42, true)) (AOp.bin BinOp.neq 3 Cmp.other (Operand.tmp 44) (Operand.tmp 46)) [],
 Item.mk (some 48) none (AOp.pick (Operand.tmp 42) (Operand.tmp 47) (Operand.const (Value.bool false))) [],
 Item.mk (some 2) none (AOp.mov (Operand.tmp 48)) []]).seq
 ACode.ret)))
theorem F51_ok : compFn Tryz.prog (byId h51) 51 = some F51 := by kernel_rfl
def h52 : List (Nat × List (Nat × List Nat) × List Nat) := []
def F52 : AFn :=
 AFn.mk 84 [ARes.tmp 4]
 ((ACode.row
 [Item.mk (some 2) none (AOp.box 36 (Operand.tmp 0)) [], Item.mk (some 3) none (AOp.box 90 (Operand.tmp 1)) [],
 Item.mk (some 4) none (AOp.mov (Operand.const (Value.bool false))) []]).seq
 ((ACode.row
 [Item.mk (some 6) none (AOp.fieldA 19 (Operand.tmp 2)) [],
 Item.mk (some 7) none (AOp.load (some 3) (Operand.tmp 6)) [],
 Item.mk (some 5) none
 (AOp.alloc 34
 [V.val (Value.int IntKind.i64 0), V.val (Value.int IntKind.i64 0),
 V.val (Value.string (ByteArray.mk #[]))])
 [],
 Item.mk none none (AOp.store 3 (Operand.tmp 5) (Operand.tmp 7)) []]).seq
 ((ACode.block 0
 ((ACode.row
 [Item.mk (some 9) none (AOp.fieldA 5 (Operand.tmp 3)) [],
 Item.mk (some 10) none (AOp.load none (Operand.tmp 9)) [],
 Item.mk (some 11) none (AOp.mov (Operand.tmp 10)) [],
 Item.mk (some 12) (some (11, true)) (AOp.fieldA 8 (Operand.tmp 2)) [],
 Item.mk (some 13) (some (11, true)) (AOp.load (some 8) (Operand.tmp 12)) [],
 Item.mk (some 14) (some (11, true)) (AOp.call (Operand.func 26) [Operand.tmp 13]) [],
 Item.mk (some 15) (some (11, true))
 (AOp.bin BinOp.neq 32 Cmp.other (Operand.tmp 14)
 (Operand.const (Value.int IntKind.i64 0)))
 [],
 Item.mk (some 16) none
 (AOp.pick (Operand.tmp 11) (Operand.tmp 15) (Operand.const (Value.bool false))) [],
 Item.mk (some 17) none (AOp.mov (Operand.tmp 16)) [],
 Item.mk (some 18) (some (17, false)) (AOp.fieldA 5 (Operand.tmp 3)) [],
 Item.mk (some 19) (some (17, false)) (AOp.load none (Operand.tmp 18)) [],
 Item.mk (some 20) (some (17, false)) (AOp.un UnOp.not (Operand.tmp 19)) [],
 Item.mk (some 21) (some (17, false)) (AOp.mov (Operand.tmp 20)) [],
 Item.mk (some 22) (some (21, true)) (AOp.fieldA 8 (Operand.tmp 2)) [],
 Item.mk (some 23) (some (21, true)) (AOp.load (some 8) (Operand.tmp 22)) [],
 Item.mk (some 24) (some (21, true))
 (AOp.build
 [V.val (Value.int IntKind.i64 0), V.val (Value.int IntKind.i64 0),
 V.val (Value.int IntKind.i64 0), V.val (Value.int IntKind.i64 0),
 V.val (Value.string (ByteArray.mk #[])), V.val (Value.int IntKind.i64 0),
 V.val (Value.int IntKind.i64 0), V.val (Value.string (ByteArray.mk #[]))]
 [])
 [],
 Item.mk (some 25) (some (21, true))
 (AOp.bin BinOp.neq 27 Cmp.other (Operand.tmp 23) (Operand.tmp 24)) [],
 Item.mk (some 26) (some (17, false))
 (AOp.pick (Operand.tmp 21) (Operand.tmp 25) (Operand.const (Value.bool false))) [],
 Item.mk (some 27) none
 (AOp.pick (Operand.tmp 17) (Operand.const (Value.bool true)) (Operand.tmp 26)) [],
 Item.mk (some 8) none (AOp.mov (Operand.tmp 27)) []]).seq
 (ACode.cond (Operand.tmp 8)
 ((ACode.row [Item.mk (some 4) none (AOp.mov (Operand.const (Value.bool false))) []]).seq ACode.ret)
 ((ACode.row
 [Item.mk (some 29) none (AOp.fieldA 16 (Operand.tmp 2)) [],
 Item.mk (some 30) none (AOp.load (some 3) (Operand.tmp 29)) [],
 Item.mk (some 31) none (AOp.call (Operand.func 67) [Operand.tmp 30]) [],
 Item.mk (some 32) none
 (AOp.bin BinOp.neq 32 Cmp.other (Operand.tmp 31)
 (Operand.const (Value.int IntKind.i64 0)))
 [],
 Item.mk (some 33) none (AOp.mov (Operand.tmp 32)) [],
 Item.mk (some 34) (some (33, false)) (AOp.fieldA 6 (Operand.tmp 3)) [],
 Item.mk (some 35) (some (33, false)) (AOp.load none (Operand.tmp 34)) [],
 Item.mk (some 36) (some (33, false)) (AOp.un UnOp.not (Operand.tmp 35)) [],
 Item.mk (some 37) (some (33, false)) (AOp.mov (Operand.tmp 36)) [],
 Item.mk (some 38) (some (37, true)) (AOp.fieldA 16 (Operand.tmp 2)) [],
 Item.mk (some 39) (some (37, true)) (AOp.fieldA 0 (Operand.tmp 38)) [],
 Item.mk (some 40) (some (37, true)) (AOp.load none (Operand.tmp 39)) [],
 Item.mk (some 41) (some (37, true))
 (AOp.bin BinOp.gtr 3 Cmp.other (Operand.tmp 40)
 (Operand.const (Value.int IntKind.i64 0)))
 [],
 Item.mk (some 42) (some (37, true)) (AOp.mov (Operand.tmp 41)) [],
 Item.mk (some 43) (some (42, false)) (AOp.fieldA 16 (Operand.tmp 2)) [],
 Item.mk (some 44) (some (42, false)) (AOp.fieldA 2 (Operand.tmp 43)) [],
 Item.mk (some 45) (some (42, false)) (AOp.load none (Operand.tmp 44)) [],
 Item.mk (some 46) (some (42, false)) (AOp.len false (Operand.tmp 45)) [],
 Item.mk (some 47) (some (42, false))
 (AOp.bin BinOp.gtr 3 Cmp.other (Operand.tmp 46)
 (Operand.const (Value.int IntKind.i64 0)))
 [],
 Item.mk (some 48) (some (37, true))
 (AOp.pick (Operand.tmp 42) (Operand.const (Value.bool true)) (Operand.tmp 47)) [],
 Item.mk (some 49) (some (33, false))
 (AOp.pick (Operand.tmp 37) (Operand.tmp 48) (Operand.const (Value.bool false))) [],
 Item.mk (some 50) none
 (AOp.pick (Operand.tmp 33) (Operand.const (Value.bool true)) (Operand.tmp 49)) [],
 Item.mk (some 28) none (AOp.mov (Operand.tmp 50)) []]).seq
 (ACode.cond (Operand.tmp 28)
 ((ACode.row [Item.mk (some 4) none (AOp.mov (Operand.const (Value.bool false))) []]).seq ACode.ret)
 ACode.skip))))).seq
 ((ACode.row
 [Item.mk (some 51) none (AOp.fieldA 7 (Operand.tmp 3)) [],
 Item.mk (some 52) none (AOp.load none (Operand.tmp 51)) [],
 Item.mk (some 53) none (AOp.mov (Operand.tmp 52)) [],
 Item.mk (some 54) (some (53, true)) (AOp.fieldA 0 (Operand.tmp 5)) [],
 Item.mk (some 55) (some (53, true)) (AOp.load none (Operand.tmp 54)) [],
 Item.mk (some 56) (some (53, true))
 (AOp.bin BinOp.geq 32 Cmp.other (Operand.tmp 55)
 (Operand.const (Value.int IntKind.i64 0)))
 [],
 Item.mk (some 57) none (AOp.pick (Operand.tmp 53) (Operand.tmp 56) (Operand.const (Value.bool false)))
 [],
 Item.mk (some 58) none (AOp.mov (Operand.tmp 57)) [],
 Item.mk (some 59) (some (58, true)) (AOp.fieldA 0 (Operand.tmp 5)) [],
 Item.mk (some 60) (some (58, true)) (AOp.load none (Operand.tmp 59)) [],
 Item.mk (some 61) (some (58, true))
 (AOp.bin BinOp.leq 32 Cmp.other (Operand.tmp 60)
 (Operand.const (Value.int IntKind.i64 18)))
 [],
 Item.mk (some 62) none (AOp.pick (Operand.tmp 58) (Operand.tmp 61) (Operand.const (Value.bool false)))
 [],
 Item.mk (some 63) none (AOp.mov (Operand.tmp 62)) [],
 Item.mk (some 64) (some (63, true)) (AOp.fieldA 1 (Operand.tmp 5)) [],
 Item.mk (some 65) (some (63, true)) (AOp.load none (Operand.tmp 64)) [],
 Item.mk (some 66) (some (63, true))
 (AOp.bin BinOp.geq 3 Cmp.other (Operand.tmp 65)
 (Operand.const (Value.int IntKind.i64 0)))
 [],
 Item.mk (some 67) none (AOp.pick (Operand.tmp 63) (Operand.tmp 66) (Operand.const (Value.bool false)))
 [],
 Item.mk (some 68) none (AOp.mov (Operand.tmp 67)) [],
 Item.mk (some 69) (some (68, true)) (AOp.fieldA 2 (Operand.tmp 5)) [],
 Item.mk (some 70) (some (68, true)) (AOp.load none (Operand.tmp 69)) [],
 Item.mk (some 71) (some (68, true)) (AOp.len true (Operand.tmp 70)) [],
 Item.mk (some 72) (some (68, true))
 (AOp.bin BinOp.leq 3 Cmp.other (Operand.tmp 71)
 (Operand.const (Value.int IntKind.i64 200)))
 [],
 Item.mk (some 73) none (AOp.pick (Operand.tmp 68) (Operand.tmp 72) (Operand.const (Value.bool false)))
 [],
 Item.mk (some 74) none (AOp.mov (Operand.tmp 73)) [],
 Item.mk (some 75) (some (74, false)) (AOp.fieldA 7 (Operand.tmp 3)) [],
 Item.mk (some 76) (some (74, false)) (AOp.load none (Operand.tmp 75)) [],
 Item.mk (some 77) (some (74, false)) (AOp.un UnOp.not (Operand.tmp 76)) [],
 Item.mk (some 78) (some (74, false)) (AOp.mov (Operand.tmp 77)) [],
 Item.mk (some 79) (some (78, true)) (AOp.load (some 3) (Operand.tmp 5)) [],
 Item.mk (some 80) (some (78, true))
 (AOp.build
 [V.val (Value.int IntKind.i64 0), V.val (Value.int IntKind.i64 0),
 V.val (Value.string (ByteArray.mk #[]))]
 [])
 [],
 Item.mk (some 81) (some (78, true)) (AOp.bin BinOp.eql 34 Cmp.other (Operand.tmp 79) (Operand.tmp 80))
 [],
 Item.mk (some 82) (some (74, false))
 (AOp.pick (Operand.tmp 78) (Operand.tmp 81) (Operand.const (Value.bool false))) [],
 Item.mk (some 83) none (AOp.pick (Operand.tmp 74) (Operand.const (Value.bool true)) (Operand.tmp 82))
 [],
 Item.mk (some 4) none (AOp.mov (Operand.tmp 83)) []]).seq
 ACode.ret))))
theorem F52_ok : compFn Tryz.prog (byId h52) 52 = some F52 := by kernel_rfl
def h53 : List (Nat × List (Nat × List Nat) × List Nat) := []
def F53 : AFn :=
 AFn.mk 23 [ARes.tmp 4]
 ((ACode.row
 [Item.mk (some 4) none (AOp.mov (Operand.const (Value.slice none 0 0))) []]).seq
 ((ACode.row
 [Item.mk (some 6) none (AOp.mov (Operand.tmp 1)) [],
 Item.mk (some 7) none (AOp.call (Operand.func 68) [Operand.tmp 6]) [],
 Item.mk (some 5) none (AOp.mov (Operand.tmp 7)) []]).seq
 ((ACode.block 0
 (((ACode.row
 [Item.mk (some 8) none (AOp.mov (Operand.tmp 5)) [],
 Item.mk (some 9) none
 (AOp.bin BinOp.geq 115 Cmp.other (Operand.tmp 8)
 (Operand.const (Value.int IntKind.u64 128)))
 []]).seq
 (ACode.cond (Operand.tmp 9) ACode.skip (ACode.exit 0))).seq
 ((ACode.block 1
 (ACode.row
 [Item.mk (some 12) none (AOp.mov (Operand.tmp 0)) [],
 Item.mk (some 13) none (AOp.mov (Operand.tmp 5)) [],
 Item.mk (some 14) none (AOp.conv 115 5 (Operand.tmp 13)) [],
 Item.mk (some 15) none
 (AOp.bin BinOp.or 5 Cmp.other (Operand.tmp 14)
 (Operand.const (Value.int IntKind.u8 128)))
 [],
 Item.mk (some 16) none
 (AOp.lits 1 [V.val (Value.int IntKind.u8 0)] 1 [(0, Operand.tmp 15)]) [],
 Item.mk (some 17) none (AOp.app 5 1 1 (Operand.tmp 12) (Operand.tmp 16)) [],
 Item.mk (some 0) none (AOp.mov (Operand.tmp 17)) []])).seq
 (ACode.row
 [Item.mk (some 10) none (AOp.mov (Operand.tmp 5)) [],
 Item.mk (some 11) none
 (AOp.bin BinOp.shr 115 Cmp.other (Operand.tmp 10)
 (Operand.const (Value.int IntKind.u64 7)))
 [],
 Item.mk (some 5) none (AOp.mov (Operand.tmp 11)) []]))).loop).seq
 ((ACode.row
 [Item.mk (some 18) none (AOp.mov (Operand.tmp 0)) [], Item.mk (some 19) none (AOp.mov (Operand.tmp 5)) [],
 Item.mk (some 20) none (AOp.conv 115 5 (Operand.tmp 19)) [],
 Item.mk (some 21) none
 (AOp.lits 1 [V.val (Value.int IntKind.u8 0)] 1 [(0, Operand.tmp 20)]) [],
 Item.mk (some 22) none (AOp.app 5 1 1 (Operand.tmp 18) (Operand.tmp 21)) [],
 Item.mk (some 4) none (AOp.mov (Operand.tmp 22)) []]).seq
 ACode.ret))))
theorem F53_ok : compFn Tryz.prog (byId h53) 53 = some F53 := by kernel_rfl
def h54 : List (Nat × List (Nat × List Nat) × List Nat) := []
def F54 : AFn :=
 AFn.mk 41 []
 ((ACode.row [Item.mk (some 3) none (AOp.box 90 (Operand.tmp 0)) []]).seq
 (((ACode.row
 [Item.mk (some 6) none (AOp.fieldA 0 (Operand.tmp 3)) [],
 Item.mk (some 7) none (AOp.load none (Operand.tmp 6)) []]).seq
 (ACode.cond (Operand.tmp 7)
 (ACode.row
 [Item.mk (some 8) none (AOp.mov (Operand.tmp 2)) [], Item.mk (some 9) none (AOp.mov (Operand.tmp 1)) [],
 Item.mk (some 10) none (AOp.nilc (Operand.tmp 9)) [],
 Item.mk (some 11) none (AOp.fieldA 3 (Operand.tmp 10)) [],
 Item.mk (some 12) none (AOp.call (Operand.tmp 8) [Operand.tmp 11]) []])
 ACode.skip)).seq
 (((ACode.row
 [Item.mk (some 13) none (AOp.fieldA 1 (Operand.tmp 3)) [],
 Item.mk (some 14) none (AOp.load none (Operand.tmp 13)) []]).seq
 (ACode.cond (Operand.tmp 14)
 (ACode.row
 [Item.mk (some 15) none (AOp.mov (Operand.tmp 2)) [],
 Item.mk (some 16) none (AOp.mov (Operand.tmp 1)) [],
 Item.mk (some 17) none (AOp.nilc (Operand.tmp 16)) [],
 Item.mk (some 18) none (AOp.fieldA 4 (Operand.tmp 17)) [],
 Item.mk (some 19) none (AOp.call (Operand.tmp 15) [Operand.tmp 18]) []])
 ACode.skip)).seq
 (((ACode.row
 [Item.mk (some 20) none (AOp.fieldA 2 (Operand.tmp 3)) [],
 Item.mk (some 21) none (AOp.load none (Operand.tmp 20)) []]).seq
 (ACode.cond (Operand.tmp 21)
 (ACode.row
 [Item.mk (some 22) none (AOp.mov (Operand.tmp 2)) [],
 Item.mk (some 23) none (AOp.mov (Operand.tmp 1)) [],
 Item.mk (some 24) none (AOp.nilc (Operand.tmp 23)) [],
 Item.mk (some 25) none (AOp.fieldA 5 (Operand.tmp 24)) [],
 Item.mk (some 26) none (AOp.call (Operand.tmp 22) [Operand.tmp 25]) []])
 ACode.skip)).seq
 (((ACode.row
 [Item.mk (some 27) none (AOp.fieldA 3 (Operand.tmp 3)) [],
 Item.mk (some 28) none (AOp.load none (Operand.tmp 27)) []]).seq
 (ACode.cond (Operand.tmp 28)
 (ACode.row
 [Item.mk (some 29) none (AOp.mov (Operand.tmp 2)) [],
 Item.mk (some 30) none (AOp.mov (Operand.tmp 1)) [],
 Item.mk (some 31) none (AOp.nilc (Operand.tmp 30)) [],
 Item.mk (some 32) none (AOp.fieldA 6 (Operand.tmp 31)) [],
 Item.mk (some 33) none (AOp.call (Operand.tmp 29) [Operand.tmp 32]) []])
 ACode.skip)).seq
 ((ACode.row
 [Item.mk (some 34) none (AOp.fieldA 4 (Operand.tmp 3)) [],
 Item.mk (some 35) none (AOp.load none (Operand.tmp 34)) []]).seq
 (ACode.cond (Operand.tmp 35)
 (ACode.row
 [Item.mk (some 36) none (AOp.mov (Operand.tmp 2)) [],
 Item.mk (some 37) none (AOp.mov (Operand.tmp 1)) [],
 Item.mk (some 38) none (AOp.nilc (Operand.tmp 37)) [],
 Item.mk (some 39) none (AOp.fieldA 7 (Operand.tmp 38)) [],
 Item.mk (some 40) none (AOp.call (Operand.tmp 36) [Operand.tmp 39]) []])
 ACode.skip)))))))
theorem F54_ok : compFn Tryz.prog (byId h54) 54 = some F54 := by kernel_rfl
def h55 : List (Nat × List (Nat × List Nat) × List Nat) := [(0, [(0, []), (1, []), (2, []), (3, []), (4, []), (5, [])], [0, 0, 2, 6, 15, 31])]
def F55 : AFn :=
 AFn.mk 8 []
 (ACode.row
 [Item.mk (some 3) none (AOp.load none (Operand.tmp 1)) [], Item.mk (some 4) none (AOp.mov (Operand.tmp 0)) [],
 Item.mk (some 5) none (AOp.nilc (Operand.tmp 4)) [], Item.mk (some 6) none (AOp.load none (Operand.tmp 5)) [],
 Item.mk (some 7) none (AOp.call (Operand.func 53) [Operand.tmp 3, Operand.tmp 6]) [],
 Item.mk none none (AOp.store 1 (Operand.tmp 1) (Operand.tmp 7)) []])
theorem F55_ok : compFn Tryz.prog (byId h55) 55 = some F55 := by kernel_rfl
def h56 : List (Nat × List (Nat × List Nat) × List Nat) := [(2, [(0, []), (1, []), (2, []), (4, []), (5, []), (3, [5]), (6, []), (7, [])], [0, 0, 2, 7, 0, 16, 63, 127])]
def F56 : AFn :=
 AFn.mk 23 [ARes.tmp 4]
 ((ACode.row
 [Item.mk (some 3) none (AOp.box 27 (Operand.tmp 1)) [],
 Item.mk (some 4) none (AOp.mov (Operand.const (Value.slice none 0 0))) []]).seq
 ((ACode.row
 [Item.mk (some 5) none (AOp.mov (Operand.tmp 0)) [], Item.mk (some 6) none (AOp.fieldA 0 (Operand.tmp 3)) [],
 Item.mk (some 7) none (AOp.load none (Operand.tmp 6)) [],
 Item.mk (some 8) none (AOp.fieldA 1 (Operand.tmp 3)) [],
 Item.mk (some 9) none (AOp.load none (Operand.tmp 8)) [],
 Item.mk (some 10) none (AOp.fieldA 2 (Operand.tmp 3)) [],
 Item.mk (some 11) none (AOp.load none (Operand.tmp 10)) [],
 Item.mk (some 12) none (AOp.fieldA 3 (Operand.tmp 3)) [],
 Item.mk (some 13) none (AOp.load none (Operand.tmp 12)) [],
 Item.mk (some 14) none
 (AOp.lits 1 [V.val (Value.int IntKind.i64 0)] 4
 [(0, Operand.tmp 7), (1, Operand.tmp 9), (2, Operand.tmp 11), (3, Operand.tmp 13)])
 [],
 Item.mk (some 15) none (AOp.call (Operand.func 69) [Operand.tmp 5, Operand.tmp 14]) [],
 Item.mk (some 0) none (AOp.mov (Operand.tmp 15)) []]).seq
 ((ACode.row
 [Item.mk (some 16) none (AOp.mov (Operand.tmp 0)) [],
 Item.mk (some 17) none (AOp.fieldA 4 (Operand.tmp 3)) [],
 Item.mk (some 18) none (AOp.load none (Operand.tmp 17)) [],
 Item.mk (some 20) none (AOp.fieldA 5 (Operand.tmp 3)) [],
 Item.mk (some 21) none (AOp.load (some 3) (Operand.tmp 20)) [],
 Item.mk (some 19) none (AOp.call (Operand.func 58) [Operand.tmp 16, Operand.tmp 18])
 [(21, none, AOp.load (some 3) (Operand.tmp 20))],
 Item.mk (some 22) none (AOp.call (Operand.func 70) [Operand.tmp 19, Operand.tmp 21]) [],
 Item.mk (some 4) none (AOp.mov (Operand.tmp 22)) []]).seq
 ACode.ret)))
theorem F56_ok : compFn Tryz.prog (byId h56) 56 = some F56 := by kernel_rfl
def h57 : List (Nat × List (Nat × List Nat) × List Nat) := [(1,
 [(0, []), (1, []), (2, []), (4, []), (5, []), (7, []), (8, []), (9, []), (3, [5, 8]), (6, [8]), (10, []), (11, [])],
 [0, 0, 2, 7, 0, 16, 63, 0, 128, 384, 1023, 2047])]
def F57 : AFn :=
 AFn.mk 30 [ARes.tmp 4]
 ((ACode.row
 [Item.mk (some 3) none (AOp.box 31 (Operand.tmp 1)) [],
 Item.mk (some 4) none (AOp.mov (Operand.const (Value.slice none 0 0))) []]).seq
 ((ACode.row
 [Item.mk (some 7) none (AOp.mov (Operand.tmp 0)) [], Item.mk (some 8) none (AOp.fieldA 0 (Operand.tmp 3)) [],
 Item.mk (some 9) none (AOp.load none (Operand.tmp 8)) [],
 Item.mk (some 11) none (AOp.fieldA 1 (Operand.tmp 3)) [],
 Item.mk (some 12) none (AOp.load none (Operand.tmp 11)) [],
 Item.mk (some 14) none (AOp.fieldA 2 (Operand.tmp 3)) [],
 Item.mk (some 15) none (AOp.load none (Operand.tmp 14)) [],
 Item.mk (some 16) none (AOp.len false (Operand.tmp 15)) [],
 Item.mk (some 10) none (AOp.call (Operand.func 53) [Operand.tmp 7, Operand.tmp 9])
 [(12, none, AOp.load none (Operand.tmp 11)), (15, none, AOp.load none (Operand.tmp 14))],
 Item.mk (some 13) none (AOp.call (Operand.func 58) [Operand.tmp 10, Operand.tmp 12])
 [(15, none, AOp.load none (Operand.tmp 14))],
 Item.mk (some 17) none (AOp.call (Operand.func 53) [Operand.tmp 13, Operand.tmp 16]) [],
 Item.mk (some 0) none (AOp.mov (Operand.tmp 17)) []]).seq
 (((ACode.row
 [Item.mk (some 18) none (AOp.fieldA 2 (Operand.tmp 3)) [],
 Item.mk (some 19) none (AOp.load none (Operand.tmp 18)) [],
 Item.mk (some 20) none (AOp.len false (Operand.tmp 19)) [],
 Item.mk (some 21) none (AOp.mov (Operand.const (Value.int IntKind.i64 0))) []]).seq
 (ACode.block 0
 ((ACode.row
 [Item.mk (some 22) none (AOp.bin BinOp.lss 3 Cmp.other (Operand.tmp 21) (Operand.tmp 20)) []]).seq
 ((ACode.cond (Operand.tmp 22) ACode.skip (ACode.exit 0)).seq
 ((ACode.block 1
 ((ACode.row
 [Item.mk (some 23) none (AOp.idxL 8 (Operand.tmp 19) (Operand.tmp 21)) [],
 Item.mk (some 24) none (AOp.load (some 8) (Operand.tmp 23)) [],
 Item.mk (some 6) none
 (AOp.alloc 27
 [V.val (Value.int IntKind.i64 0),
 V.val (Value.int IntKind.i64 0),
 V.val (Value.int IntKind.i64 0),
 V.val (Value.int IntKind.i64 0),
 V.val (Value.string (ByteArray.mk #[])),
 V.val (Value.int IntKind.i64 0),
 V.val (Value.int IntKind.i64 0),
 V.val (Value.string (ByteArray.mk #[]))])
 [],
 Item.mk none none (AOp.store 8 (Operand.tmp 6) (Operand.tmp 24)) []]).seq
 (ACode.row
 [Item.mk (some 25) none (AOp.mov (Operand.tmp 0)) [],
 Item.mk (some 26) none (AOp.load (some 8) (Operand.tmp 6)) [],
 Item.mk (some 27) none (AOp.call (Operand.func 56) [Operand.tmp 25, Operand.tmp 26]) [],
 Item.mk (some 0) none (AOp.mov (Operand.tmp 27)) []]))).seq
 (ACode.row
 [Item.mk (some 28) none
 (AOp.bin BinOp.add 3 Cmp.other (Operand.tmp 21)
 (Operand.const (Value.int IntKind.i64 1)))
 [],
 Item.mk (some 21) none (AOp.mov (Operand.tmp 28)) []])))).loop)).seq
 ((ACode.row
 [Item.mk (some 29) none (AOp.mov (Operand.tmp 0)) [],
 Item.mk (some 4) none (AOp.mov (Operand.tmp 29)) []]).seq
 ACode.ret))))
theorem F57_ok : compFn Tryz.prog (byId h57) 57 = some F57 := by kernel_rfl
theorem mixed : Tryz.prog.follows .mixedOrders = true := by kernel_rfl
end Go.Av.Fn
