/- A post that is full: a message's bytes. No condition. -/
import Derived.Test.YtibbfadgcklpjaaGreatDoorX1
import Derived.Test.YtibbfadgcklpjaaGreatDoorAvT
import Derived.Test.YtibbfadgcklpjaaGreatDoorWa
namespace Go.Av.Fn
set_option linter.unusedSimpArgs false
set_option linter.unusedVariables false
set_option maxRecDepth 100000
open Go.Proofs Go.Lib

def sv : V := V.val (Value.string (ByteArray.mk #[]))
/-- A change of a view's cells. -/
def msgC (x : V) : List V := [it 5, it 0, it 1, x, it 0, it 0, it 0, it 0, it 0, it 0, it 0, it 0, sv, it 0, it 0, sv, it 0, sv, .sl [] [] .full, it 0, it 0, sv]
def fieldsC : List V := [.val (.bool true), .val (.bool false), .val (.bool false), .val (.bool false), .val (.bool false), .val (.bool false), .val (.bool false), .val (.bool false)]
abbrev run (P : Program) (T : List (Nat × AFn)) (f : FuncId) (args : List V) : Option (Out × Hp) := callI P G0 (fun _ _ _ => none) (look T) 2000 40 f args ⟨0, .nil⟩

theorem change_run (x : Int) : retOf (run Tryz.prog tabA 17 [it x]) = some (.agg (msgC (it x))) := by kernel_rfl
theorem of_run : retOf (run Tryz.prog tabA 49 [it 5]) = some (.tup [.agg fieldsC, .val (.bool true)]) := by kernel_rfl
theorem ends_run (x : Int) : isTrue (run Tryz.prog tabA 51 [.agg (msgC (it x))]) = true := by kernel_rfl
theorem parts_run (x : Int) : isTrue (run Tryz.prog tabA 52 [.agg (msgC (it x)), .agg fieldsC]) = true := by kernel_rfl
theorem none_run (l : Int) : isTrue (run Tryz.prog tabA 50 [.val (.bool false), it 0, it l]) = true := by kernel_rfl

def isByte : V → Bool
  | .val (.int .u8 _) => true
  | _ => false
/-- A frame's bytes: so many. -/
def isFrame (n : Nat) : Option (Out × Hp) → Bool
  | some (.ret (.tup [.sl es [] _, .val (.int .i64 0)]), _) => es.all isByte && Nat.beq es.length n
  | _ => false
theorem frame_run4 (a b c d : Int) : isFrame 9 (run Tryz.prog tabA 59 [.sl [] [] .full, .sl [.val (.int .u8 a), .val (.int .u8 b), .val (.int .u8 c), .val (.int .u8 d)] [] .no]) = true := by kernel_rfl
theorem frame_run5 (a b c d e : Int) : isFrame 10 (run Tryz.prog tabA 59 [.sl [] [] .full, .sl [.val (.int .u8 a), .val (.int .u8 b), .val (.int .u8 c), .val (.int .u8 d), .val (.int .u8 e)] [] .no]) = true := by kernel_rfl
theorem frame_run6 (a b c d e f : Int) : isFrame 11 (run Tryz.prog tabA 59 [.sl [] [] .full, .sl [.val (.int .u8 a), .val (.int .u8 b), .val (.int .u8 c), .val (.int .u8 d), .val (.int .u8 e), .val (.int .u8 f)] [] .no]) = true := by kernel_rfl
def frame4095 : List UInt8 := [10, 10, 0, 2, 254, 63, 4, 175, 52, 101]
def isRow (l : List UInt8) : Option (Out × Hp) → Bool
  | some (.ret (.tup [.sl es [] _, .val (.int .i64 0)]), _) => eqVs es (l.map by8)
  | _ => false
theorem bytes_run : isRow frame4095 (run Tryz.prog tabA 35 [.agg (msgC (it 4095))]) = true := by kernel_rfl
theorem read_run : retOf (run Tryz.prog tabA 37 [.sl (frame4095.map by8) [] .no]) = some (.tup [.agg (msgC (it 4095)), it 0]) := by kernel_rfl
end Go.Av.Fn
