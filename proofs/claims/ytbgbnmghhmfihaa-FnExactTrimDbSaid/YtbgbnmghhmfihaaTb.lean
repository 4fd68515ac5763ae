/- A part of the proof: an evaluator of the program's code over plain data, proved sound, or a function's walk by it. No conditions beyond those in the theorems. -/
import Derived.Test.YtbgbnmghhmfihaaFsT2
import Derived.Test.YtbgbnmghhmfihaaProg
namespace Go.Fs
open Go.Proofs.Try (prog)
def tab : Tab := { types := [(3, ⟨1, 8, (.int .i64), [.d (.i .i64 0)]⟩),
  (4, ⟨1, 1, .bool, [.d (.b false)]⟩),
  (5, ⟨1, 1, (.int .u8), [.d (.i .u8 0)]⟩),
  (9, ⟨1, 16, .str, [.d (.s ByteArray.empty)]⟩),
  (22, ⟨1, 24, (.slice 72), [.z 5]⟩),
  (24, ⟨1, 24, (.slice 73), [.z 5]⟩),
  (58, ⟨1, 24, (.slice 9), [.z 1]⟩),
  (72, ⟨5, 88, (.strct [(0, 9), (1, 9), (2, 58), (3, 9), (4, 9)]), [.d (.s ByteArray.empty), .d (.s ByteArray.empty), .z 1, .d (.s ByteArray.empty), .d (.s ByteArray.empty)]⟩),
  (73, ⟨5, 88, (.strct [(0, 9), (1, 9), (2, 58), (3, 9), (4, 9)]), [.d (.s ByteArray.empty), .d (.s ByteArray.empty), .z 1, .d (.s ByteArray.empty), .d (.s ByteArray.empty)]⟩),
  (107, ⟨1, 24, (.slice 5), [.z 1]⟩)], maps := [(106, 9, 3, (.i .i64 0))] }
theorem tab_ok : tab.ok Go.Proofs.Try.prog = true := by decide +kernel
theorem ti3 : tab.ti 3 = some ⟨1, 8, (.int .i64), [.d (.i .i64 0)]⟩ := rfl
theorem kd3 : tab.kd 3 = some (.int .i64) := rfl
theorem ti4 : tab.ti 4 = some ⟨1, 1, .bool, [.d (.b false)]⟩ := rfl
theorem kd4 : tab.kd 4 = some .bool := rfl
theorem ti5 : tab.ti 5 = some ⟨1, 1, (.int .u8), [.d (.i .u8 0)]⟩ := rfl
theorem kd5 : tab.kd 5 = some (.int .u8) := rfl
theorem ti9 : tab.ti 9 = some ⟨1, 16, .str, [.d (.s ByteArray.empty)]⟩ := rfl
theorem kd9 : tab.kd 9 = some .str := rfl
theorem ti22 : tab.ti 22 = some ⟨1, 24, (.slice 72), [.z 5]⟩ := rfl
theorem kd22 : tab.kd 22 = some (.slice 72) := rfl
theorem ti24 : tab.ti 24 = some ⟨1, 24, (.slice 73), [.z 5]⟩ := rfl
theorem kd24 : tab.kd 24 = some (.slice 73) := rfl
theorem ti58 : tab.ti 58 = some ⟨1, 24, (.slice 9), [.z 1]⟩ := rfl
theorem kd58 : tab.kd 58 = some (.slice 9) := rfl
theorem ti72 : tab.ti 72 = some ⟨5, 88, (.strct [(0, 9), (1, 9), (2, 58), (3, 9), (4, 9)]), [.d (.s ByteArray.empty), .d (.s ByteArray.empty), .z 1, .d (.s ByteArray.empty), .d (.s ByteArray.empty)]⟩ := rfl
theorem kd72 : tab.kd 72 = some (.strct [(0, 9), (1, 9), (2, 58), (3, 9), (4, 9)]) := rfl
theorem ti73 : tab.ti 73 = some ⟨5, 88, (.strct [(0, 9), (1, 9), (2, 58), (3, 9), (4, 9)]), [.d (.s ByteArray.empty), .d (.s ByteArray.empty), .z 1, .d (.s ByteArray.empty), .d (.s ByteArray.empty)]⟩ := rfl
theorem kd73 : tab.kd 73 = some (.strct [(0, 9), (1, 9), (2, 58), (3, 9), (4, 9)]) := rfl
theorem ti107 : tab.ti 107 = some ⟨1, 24, (.slice 5), [.z 1]⟩ := rfl
theorem kd107 : tab.kd 107 = some (.slice 5) := rfl
theorem mp106 : tab.mp 106 = some (9, 3, (.i .i64 0)) := rfl
/- simp: ti3, kd3, ti4, kd4, ti5, kd5, ti9, kd9, ti22, kd22, ti24, kd24, ti58, kd58, ti72, kd72, ti73, kd73, ti107, kd107, mp106 -/
theorem mixed : prog.follows .mixedOrders = true := by decide +kernel
/-- The shape of a record of the cache. -/
def rec5 : List Sh := [.s, .s, .l [.s], .s, .s]
end Go.Fs
