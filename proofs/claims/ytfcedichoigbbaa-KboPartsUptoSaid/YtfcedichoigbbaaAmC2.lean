/-
  The code of this seat's functions as the abstract machine reads it, and its types: written by gencode.py, each held by the kernel. No condition.
-/
import Derived.Test.YtfcedichoigbbaaAmC1
import Derived.Test.YtfcedichoigbbaaProg
namespace Go.Proofs.Ytfcedichoigbbaa.Am
open Go Go.Proofs
set_option maxRecDepth 100000
theorem code63 : bodyOf Try.prog 63 = (some ((.seq (.region [⟨(some 6), (.box 25 (.tmp 0)), none, false⟩, ⟨(some 12), (.assign (.const (.bool false))), none, false⟩]) (.seq (.tregion [⟨(some 19), (.move (.tmp 1)), none, false⟩, ⟨(some 20), (.nilCheck (.tmp 19)), none, false⟩, ⟨(some 21), (.fieldAddr 83 (.tmp 20) 0), none, false⟩, ⟨(some 22), (.load 26 (.tmp 21)), none, false⟩, ⟨(some 23), (.move (.tmp 4)), none, false⟩, ⟨(some 24), (.indexAddr 26 (.tmp 22) (.tmp 23)), none, false⟩, ⟨(some 25), (.load 28 (.tmp 24)), none, false⟩, ⟨(some 26), (.move (.tmp 2)), none, false⟩, ⟨(some 27), (.nilCheck (.tmp 26)), none, false⟩, ⟨(some 28), (.fieldAddr 83 (.tmp 27) 0), none, false⟩, ⟨(some 29), (.load 26 (.tmp 28)), none, false⟩, ⟨(some 30), (.move (.tmp 5)), none, false⟩, ⟨(some 31), (.indexAddr 26 (.tmp 29) (.tmp 30)), none, false⟩, ⟨(some 32), (.load 28 (.tmp 31)), none, false⟩, ⟨(some 13), (.alloc 28), none, false⟩, ⟨(some 14), (.alloc 28), none, false⟩, ⟨none, (.store 28 (.tmp 13) (.tmp 25)), none, false⟩, ⟨none, (.store 28 (.tmp 14) (.tmp 32)), none, false⟩] [(10, 16), (12, 16), (13, 16)]) (.seq (.seq (.region [⟨(some 33), (.fieldAddr 28 (.tmp 13) 1), none, false⟩, ⟨(some 34), (.load 9 (.tmp 33)), none, false⟩, ⟨(some 35), (.binOp .eql 9 (.tmp 34) (.const (.string (ByteArray.mk #[]))) 9), none, false⟩]) (.cond (.tmp 35) (.seq (.region [⟨(some 12), (.assign (.const (.bool false))), none, false⟩]) .ret) .skip)) (.seq (.seq (.region [⟨(some 15), (.assign (.const (.int .i64 0))), none, false⟩]) (.block 0 (.loop [false, true, true, true, true, true, true, false, false, false, false, false, true, true, true, true, false, true, true, false, false, false, false, false, false, false, false, false, false, false, false, false, false, false, false, false, false, false, false, false, false, false, false, false, false, false, false, false, false, false, false, false, false, false, false, false, false, false, false, false, false, false, false, false, false, false, false, false, false, false, false, false, false, false, false, false, true, true, true, true, true, true, true, true, true, true, true, true, true, true, true, true, true, true, true, true, true, true, true, true, true, true, true, true, true, true, true, true, true, true, true, true, true, true, true, true, true, true, true, true, true, true, true, true, true, true, true, true, true, true, true, true, true, true, true, true, true, true, true, true, true, true, true, true, true, true, true, true, true, true, true, true, true, true, true, true, true, true, true, true, true, true, true, true, true, true, true, true, true, true] false b63_2))) (.seq (.seq (.region [⟨(some 76), (.fieldAddr 28 (.tmp 14) 1), none, false⟩, ⟨(some 77), (.load 9 (.tmp 76)), none, false⟩, ⟨(some 78), (.binOp .eql 9 (.tmp 77) (.const (.string (ByteArray.mk #[]))) 9), none, false⟩]) (.cond (.tmp 78) (.seq (.region [⟨(some 12), (.assign (.const (.bool false))), none, false⟩]) .ret) .skip)) (.seq (.seq (.region [⟨(some 17), (.assign (.const (.int .i64 0))), none, false⟩]) (.block 2 (.loop [false, true, true, true, true, true, true, false, false, false, false, false, true, true, true, false, false, true, true, false, false, false, false, false, false, false, false, false, false, false, false, false, false, false, false, false, false, false, false, false, false, false, false, false, false, false, false, false, false, false, false, false, false, false, false, false, false, false, false, false, false, false, false, false, false, false, false, false, false, false, false, false, false, false, false, false, false, false, false, false, false, false, false, false, false, false, false, false, false, false, false, false, false, false, false, false, false, false, false, false, false, false, false, false, false, false, false, false, true, true, true, true, true, true, true, true, true, true, true, true, true, true, true, true, true, true, true, true, true, true, true, true, true, true, true, true, true, true, true, true, true, true, true, true, true, true, true, true, true, true, true, true, true, true, true, true, true, true, true, true, true, true, true, true, true, true, true, true, true, true] false b63_1))) (.seq (.seq (.region [⟨(some 108), (.fieldAddr 28 (.tmp 13) 1), none, false⟩, ⟨(some 109), (.load 9 (.tmp 108)), none, false⟩, ⟨(some 110), (.fieldAddr 28 (.tmp 14) 1), none, false⟩, ⟨(some 111), (.load 9 (.tmp 110)), none, false⟩, ⟨(some 112), (.binOp .neq 9 (.tmp 109) (.tmp 111) 9), none, false⟩, ⟨(some 113), (.move (.tmp 112)), none, false⟩, ⟨(some 114), (.fieldAddr 28 (.tmp 13) 2), (some (113, false)), false⟩, ⟨(some 115), (.load 26 (.tmp 114)), (some (113, false)), false⟩, ⟨(some 116), (.call { callee := .builtin .len, args := #[(.tmp 115)], argTypes := #[26] }), (some (113, false)), false⟩, ⟨(some 117), (.fieldAddr 28 (.tmp 14) 2), (some (113, false)), false⟩, ⟨(some 118), (.load 26 (.tmp 117)), (some (113, false)), false⟩, ⟨(some 119), (.call { callee := .builtin .len, args := #[(.tmp 118)], argTypes := #[26] }), (some (113, false)), false⟩, ⟨(some 120), (.binOp .neq 3 (.tmp 116) (.tmp 119) 3), (some (113, false)), false⟩, ⟨(some 121), (.pick (.tmp 113) (.const (.bool true)) (.tmp 120)), none, false⟩]) (.cond (.tmp 121) (.seq (.region [⟨(some 122), (.load 25 (.tmp 6)), none, false⟩, ⟨(some 123), (.load 28 (.tmp 13)), none, false⟩, ⟨(some 124), (.load 28 (.tmp 14)), none, false⟩, ⟨(some 125), (.call { callee := (.value (.func 69)), args := #[(.tmp 122), (.tmp 123), (.tmp 124)], argTypes := #[25, 28, 28] }), none, false⟩, ⟨(some 12), (.assign (.tmp 125)), none, false⟩]) .ret) .skip)) (.seq (.seq (.region [⟨(some 18), (.assign (.const (.int .i64 0))), none, false⟩]) (.block 4 (.loop [false, true, true, true, true, true, false, false, false, false, false, false, true, true, true, false, false, false, true, false, false, false, false, false, false, false, false, false, false, false, false, false, false, false, false, false, false, false, false, false, false, false, false, false, false, false, false, false, false, false, false, false, false, false, false, false, false, false, false, false, false, false, false, false, false, false, false, false, false, false, false, false, false, false, false, false, false, false, false, false, false, false, false, false, false, false, false, false, false, false, false, false, false, false, false, false, false, false, false, false, false, false, false, false, false, false, false, false, false, false, false, false, false, false, false, false, false, false, false, false, false, false, false, false, false, false, false, false, false, false, false, false, false, false, false, false, false, false, false, false, false, false, false, false, false, false, false, false, false, false, false, false, false, false, false, false, false, false, false, false, false, false, false, false, false, false, false, false, false, false] false b63_0))) (.seq (.region [⟨(some 12), (.assign (.const (.bool false))), none, false⟩]) .ret))))))))), (170, [(.tmp 12)])) : Option (ACode × Nat × List ResultVar)) := by kernel_rfl
def b64_0 : ACode := (.seq (.seq (.region [⟨(some 6), (.move (.tmp 5)), none, false⟩, ⟨(some 7), (.move (.tmp 0)), none, false⟩, ⟨(some 8), (.call { callee := .builtin .len, args := #[(.tmp 7)], argTypes := #[37] }), none, false⟩, ⟨(some 9), (.binOp .lss 3 (.tmp 6) (.tmp 8) 3), none, false⟩]) (.cond (.tmp 9) .skip (.exit 0))) (.seq (.block 1 (.seq (.region [⟨(some 12), (.move (.tmp 0)), none, false⟩, ⟨(some 13), (.move (.tmp 5)), none, false⟩, ⟨(some 14), (.indexAddr 37 (.tmp 12) (.tmp 13)), none, false⟩, ⟨(some 15), (.fieldAddr 40 (.tmp 14) 0), none, false⟩, ⟨(some 16), (.load 3 (.tmp 15)), none, false⟩, ⟨(some 17), (.move (.tmp 1)), none, false⟩, ⟨(some 18), (.binOp .eql 3 (.tmp 16) (.tmp 17) 3), none, false⟩]) (.cond (.tmp 18) (.seq (.region [⟨(some 19), (.move (.tmp 0)), none, false⟩, ⟨(some 20), (.move (.tmp 5)), none, false⟩, ⟨(some 21), (.indexAddr 37 (.tmp 19) (.tmp 20)), none, false⟩, ⟨(some 22), (.fieldAddr 40 (.tmp 21) 1), none, false⟩, ⟨(some 23), (.load 28 (.tmp 22)), none, false⟩, ⟨none, (.store 28 (.tmp 4) (.tmp 23)), none, false⟩]) .ret) .skip))) (.region [⟨(some 10), (.move (.tmp 5)), none, false⟩, ⟨(some 11), (.binOp .add 3 (.tmp 10) (.const (.int .i64 1)) 3), none, false⟩, ⟨(some 5), (.assign (.tmp 11)), none, false⟩])))
theorem code64 : bodyOf Try.prog 64 = (some ((.seq (.region [⟨(some 4), (.alloc 28), none, false⟩]) (.seq (.seq (.region [⟨(some 5), (.assign (.const (.int .i64 0))), none, false⟩]) (.block 0 (.loop [true, true, false, false, true, true, false, false, false, false, false, false, false, false, false, false, false, false, false, false, false, false, false, false, true, true] false b64_0))) (.seq (.region [⟨(some 24), (.move (.tmp 1)), none, false⟩, ⟨(some 25), (.build 28 #[(0, (.tmp 24))]), none, false⟩, ⟨none, (.store 28 (.tmp 4) (.tmp 25)), none, false⟩]) .ret))), (26, [(.cell 4 28)])) : Option (ACode × Nat × List ResultVar)) := by kernel_rfl
def b65_0 : ACode := (.seq (.seq (.region [⟨(some 8), (.move (.tmp 7)), none, false⟩, ⟨(some 9), (.move (.tmp 0)), none, false⟩, ⟨(some 10), (.call { callee := .builtin .len, args := #[(.tmp 9)], argTypes := #[23] }), none, false⟩, ⟨(some 11), (.binOp .lss 3 (.tmp 8) (.tmp 10) 3), none, false⟩]) (.cond (.tmp 11) .skip (.exit 0))) (.seq (.block 1 (.seq (.seq (.region [⟨(some 14), (.move (.tmp 6)), none, false⟩, ⟨(some 15), (.unOp .not 4 (.tmp 14)), none, false⟩, ⟨(some 16), (.move (.tmp 15)), none, false⟩, ⟨(some 17), (.move (.tmp 0)), (some (16, true)), false⟩, ⟨(some 18), (.move (.tmp 7)), (some (16, true)), false⟩, ⟨(some 19), (.indexAddr 23 (.tmp 17) (.tmp 18)), (some (16, true)), false⟩, ⟨(some 20), (.load 3 (.tmp 19)), (some (16, true)), false⟩, ⟨(some 21), (.move (.tmp 1)), (some (16, true)), false⟩, ⟨(some 22), (.binOp .geq 3 (.tmp 20) (.tmp 21) 3), (some (16, true)), false⟩, ⟨(some 23), (.pick (.tmp 16) (.tmp 22) (.const (.bool false))), none, false⟩]) (.cond (.tmp 23) (.seq (.region [⟨(some 24), (.move (.tmp 5)), none, false⟩, ⟨(some 25), (.move (.tmp 1)), none, false⟩, ⟨(some 26), (.buildSlice 23 1 #[(0, (.tmp 25))]), none, false⟩, ⟨(some 27), (.call { callee := (.builtin .append), args := #[(.tmp 24), (.tmp 26)], argTypes := #[23, 23] }), none, false⟩, ⟨(some 5), (.assign (.tmp 27)), none, false⟩]) (.region [⟨(some 6), (.assign (.const (.bool true))), none, false⟩])) .skip)) (.seq (.region [⟨(some 28), (.move (.tmp 0)), none, false⟩, ⟨(some 29), (.move (.tmp 7)), none, false⟩, ⟨(some 30), (.indexAddr 23 (.tmp 28) (.tmp 29)), none, false⟩, ⟨(some 31), (.load 3 (.tmp 30)), none, false⟩, ⟨(some 32), (.move (.tmp 1)), none, false⟩, ⟨(some 33), (.binOp .neq 3 (.tmp 31) (.tmp 32) 3), none, false⟩]) (.cond (.tmp 33) (.region [⟨(some 34), (.move (.tmp 5)), none, false⟩, ⟨(some 35), (.move (.tmp 0)), none, false⟩, ⟨(some 36), (.move (.tmp 7)), none, false⟩, ⟨(some 37), (.indexAddr 23 (.tmp 35) (.tmp 36)), none, false⟩, ⟨(some 38), (.load 3 (.tmp 37)), none, false⟩, ⟨(some 39), (.buildSlice 23 1 #[(0, (.tmp 38))]), none, false⟩, ⟨(some 40), (.call { callee := (.builtin .append), args := #[(.tmp 34), (.tmp 39)], argTypes := #[23, 23] }), none, false⟩, ⟨(some 5), (.assign (.tmp 40)), none, false⟩]) .skip)))) (.region [⟨(some 12), (.move (.tmp 7)), none, false⟩, ⟨(some 13), (.binOp .add 3 (.tmp 12) (.const (.int .i64 1)) 3), none, false⟩, ⟨(some 7), (.assign (.tmp 13)), none, false⟩])))
theorem code65 : bodyOf Try.prog 65 = (some ((.seq (.region [⟨(some 4), (.assign (.const (.slice none 0 0))), none, false⟩]) (.seq (.region [⟨(some 5), (.assign (.const (.slice none 0 0))), none, false⟩]) (.seq (.region [⟨(some 6), (.assign (.const (.bool false))), none, false⟩]) (.seq (.seq (.region [⟨(some 7), (.assign (.const (.int .i64 0))), none, false⟩]) (.block 0 (.loop [true, true, false, false, true, true, true, true, false, false, false, false, false, false, false, false, false, false, false, false, false, false, false, false, false, false, false, false, false, false, false, false, false, false, false, false, false, false, false, false, false, true, true, true, true, true, true, true] false b65_0))) (.seq (.seq (.region [⟨(some 41), (.move (.tmp 6)), none, false⟩, ⟨(some 42), (.unOp .not 4 (.tmp 41)), none, false⟩]) (.cond (.tmp 42) (.region [⟨(some 43), (.move (.tmp 5)), none, false⟩, ⟨(some 44), (.move (.tmp 1)), none, false⟩, ⟨(some 45), (.buildSlice 23 1 #[(0, (.tmp 44))]), none, false⟩, ⟨(some 46), (.call { callee := (.builtin .append), args := #[(.tmp 43), (.tmp 45)], argTypes := #[23, 23] }), none, false⟩, ⟨(some 5), (.assign (.tmp 46)), none, false⟩]) .skip)) (.seq (.region [⟨(some 47), (.move (.tmp 5)), none, false⟩, ⟨(some 4), (.assign (.tmp 47)), none, false⟩]) .ret)))))), (48, [(.tmp 4)])) : Option (ACode × Nat × List ResultVar)) := by kernel_rfl
theorem code66 : bodyOf Try.prog 66 = (some ((.seq (.region [⟨(some 2), (.assign (.const (.int .i64 0))), none, false⟩]) (.seq (.seq (.region [⟨(some 3), (.move (.tmp 0)), none, false⟩]) (.cond (.tmp 3) (.seq (.region [⟨(some 2), (.assign (.const (.int .i64 1))), none, false⟩]) .ret) .skip)) (.seq (.region [⟨(some 2), (.assign (.const (.int .i64 (-1)))), none, false⟩]) .ret))), (4, [(.tmp 2)])) : Option (ACode × Nat × List ResultVar)) := by kernel_rfl
def b67_0 : ACode := (.seq (.region [⟨(some 11), (.binOp .lss 3 (.tmp 10) (.tmp 9) 3), none, false⟩]) (.seq (.cond (.tmp 11) .skip (.exit 0)) (.seq (.block 1 (.seq (.region [⟨(some 12), (.move (.tmp 10)), none, false⟩, ⟨(some 6), (.assign (.tmp 12)), none, false⟩]) (.seq (.dregion [⟨(some 13), (.fieldAddr 28 (.tmp 2) 2), none, false⟩, ⟨(some 14), (.load 26 (.tmp 13)), none, false⟩, ⟨(some 15), (.move (.tmp 6)), none, false⟩, ⟨(some 16), (.indexAddr 26 (.tmp 14) (.tmp 15)), none, false⟩, ⟨(some 17), (.load 28 (.tmp 16)), none, false⟩, ⟨(some 18), (.fieldAddr 28 (.tmp 3) 2), none, false⟩, ⟨(some 19), (.load 26 (.tmp 18)), none, false⟩, ⟨(some 20), (.move (.tmp 6)), none, false⟩, ⟨(some 21), (.indexAddr 26 (.tmp 19) (.tmp 20)), none, false⟩, ⟨(some 22), (.load 28 (.tmp 21)), none, false⟩, ⟨(some 23), (.call { callee := (.value (.func 35)), args := #[(.tmp 17), (.tmp 22)], argTypes := #[28, 28] }), none, true⟩, ⟨(some 24), (.unOp .not 4 (.tmp 23)), none, false⟩]) (.cond (.tmp 24) (.seq (.region [⟨(some 25), (.move (.tmp 6)), none, false⟩, ⟨(some 5), (.assign (.tmp 25)), none, false⟩]) (.exit 0)) .skip)))) (.region [⟨(some 26), (.binOp .add 3 (.tmp 10) (.const (.int .i64 1)) 3), none, false⟩, ⟨(some 10), (.move (.tmp 26)), none, false⟩]))))
theorem code67 : bodyOf Try.prog 67 = (some ((.seq (.region [⟨(some 2), (.box 28 (.tmp 0)), none, false⟩, ⟨(some 3), (.box 28 (.tmp 1)), none, false⟩, ⟨(some 4), (.assign (.const (.int .i64 0))), none, false⟩]) (.seq (.region [⟨(some 5), (.assign (.const (.int .i64 (-1)))), none, false⟩]) (.seq .skip (.seq (.seq (.region [⟨(some 7), (.fieldAddr 28 (.tmp 2) 2), none, false⟩, ⟨(some 8), (.load 26 (.tmp 7)), none, false⟩, ⟨(some 9), (.call { callee := .builtin .len, args := #[(.tmp 8)], argTypes := #[26] }), none, false⟩, ⟨(some 10), (.move (.const (.int .i64 0))), none, false⟩]) (.block 0 (.loop [false, false, true, true, true, true, false, false, false, true, true, false, false, false, false, false, false, false, false, false, false, false, false, false, false, false, false, true] false b67_0))) (.seq (.region [⟨(some 27), (.move (.tmp 5)), none, false⟩, ⟨(some 4), (.assign (.tmp 27)), none, false⟩]) .ret))))), (28, [(.tmp 4)])) : Option (ACode × Nat × List ResultVar)) := by kernel_rfl
def b68_0 : ACode := (.seq (.seq (.region [⟨(some 16), (.move (.tmp 6)), none, false⟩, ⟨(some 17), (.fieldAddr 28 (.tmp 2) 2), none, false⟩, ⟨(some 18), (.load 26 (.tmp 17)), none, false⟩, ⟨(some 19), (.call { callee := .builtin .len, args := #[(.tmp 18)], argTypes := #[26] }), none, false⟩, ⟨(some 20), (.binOp .lss 3 (.tmp 16) (.tmp 19) 3), none, false⟩]) (.cond (.tmp 20) .skip (.exit 0))) (.seq (.block 1 (.region [⟨(some 23), (.move (.tmp 5)), none, false⟩, ⟨(some 24), (.fieldAddr 28 (.tmp 2) 2), none, false⟩, ⟨(some 25), (.load 26 (.tmp 24)), none, false⟩, ⟨(some 26), (.move (.tmp 6)), none, false⟩, ⟨(some 27), (.indexAddr 26 (.tmp 25) (.tmp 26)), none, false⟩, ⟨(some 28), (.load 28 (.tmp 27)), none, false⟩, ⟨(some 29), (.move (.tmp 1)), none, false⟩, ⟨(some 30), (.call { callee := (.value (.func 68)), args := #[(.tmp 28), (.tmp 29)], argTypes := #[28, 3] }), none, false⟩, ⟨(some 31), (.binOp .add 3 (.tmp 23) (.tmp 30) 3), none, false⟩, ⟨(some 5), (.assign (.tmp 31)), none, false⟩])) (.region [⟨(some 21), (.move (.tmp 6)), none, false⟩, ⟨(some 22), (.binOp .add 3 (.tmp 21) (.const (.int .i64 1)) 3), none, false⟩, ⟨(some 6), (.assign (.tmp 22)), none, false⟩])))
theorem code68 : bodyOf Try.prog 68 = (some ((.seq (.region [⟨(some 2), (.box 28 (.tmp 0)), none, false⟩, ⟨(some 4), (.assign (.const (.int .i64 0))), none, false⟩]) (.seq (.region [⟨(some 5), (.assign (.const (.int .i64 0))), none, false⟩]) (.seq (.seq (.region [⟨(some 7), (.fieldAddr 28 (.tmp 2) 1), none, false⟩, ⟨(some 8), (.load 9 (.tmp 7)), none, false⟩, ⟨(some 9), (.binOp .eql 9 (.tmp 8) (.const (.string (ByteArray.mk #[]))) 9), none, false⟩, ⟨(some 10), (.move (.tmp 9)), none, false⟩, ⟨(some 11), (.fieldAddr 28 (.tmp 2) 0), (some (10, true)), false⟩, ⟨(some 12), (.load 3 (.tmp 11)), (some (10, true)), false⟩, ⟨(some 13), (.move (.tmp 1)), (some (10, true)), false⟩, ⟨(some 14), (.binOp .eql 3 (.tmp 12) (.tmp 13) 3), (some (10, true)), false⟩, ⟨(some 15), (.pick (.tmp 10) (.tmp 14) (.const (.bool false))), none, false⟩]) (.cond (.tmp 15) (.region [⟨(some 5), (.assign (.const (.int .i64 1))), none, false⟩]) .skip)) (.seq (.seq (.region [⟨(some 6), (.assign (.const (.int .i64 0))), none, false⟩]) (.block 0 (.loop [false, true, true, false, true, true, true, false, false, false, false, false, false, false, false, false, false, false, false, false, false, false, false, false, false, false, false, false, false, false, false, false, true] false b68_0))) (.seq (.region [⟨(some 32), (.move (.tmp 5)), none, false⟩, ⟨(some 4), (.assign (.tmp 32)), none, false⟩]) .ret))))), (33, [(.tmp 4)])) : Option (ACode × Nat × List ResultVar)) := by kernel_rfl
theorem code69 : bodyOf Try.prog 69 = (some ((.seq (.region [⟨(some 3), (.box 25 (.tmp 0)), none, false⟩, ⟨(some 4), (.box 28 (.tmp 1)), none, false⟩, ⟨(some 5), (.box 28 (.tmp 2)), none, false⟩, ⟨(some 6), (.assign (.const (.bool false))), none, false⟩]) (.seq (.seq (.region [⟨(some 7), (.fieldAddr 28 (.tmp 4) 1), none, false⟩, ⟨(some 8), (.load 9 (.tmp 7)), none, false⟩, ⟨(some 9), (.fieldAddr 28 (.tmp 5) 1), none, false⟩, ⟨(some 10), (.load 9 (.tmp 9)), none, false⟩, ⟨(some 11), (.binOp .eql 9 (.tmp 8) (.tmp 10) 9), none, false⟩]) (.cond (.tmp 11) (.seq (.region [⟨(some 12), (.fieldAddr 28 (.tmp 4) 2), none, false⟩, ⟨(some 13), (.load 26 (.tmp 12)), none, false⟩, ⟨(some 14), (.call { callee := .builtin .len, args := #[(.tmp 13)], argTypes := #[26] }), none, false⟩, ⟨(some 15), (.fieldAddr 28 (.tmp 5) 2), none, false⟩, ⟨(some 16), (.load 26 (.tmp 15)), none, false⟩, ⟨(some 17), (.call { callee := .builtin .len, args := #[(.tmp 16)], argTypes := #[26] }), none, false⟩, ⟨(some 18), (.binOp .gtr 3 (.tmp 14) (.tmp 17) 3), none, false⟩, ⟨(some 6), (.assign (.tmp 18)), none, false⟩]) .ret) .skip)) (.seq (.region [⟨(some 19), (.load 25 (.tmp 3)), none, false⟩, ⟨(some 20), (.fieldAddr 28 (.tmp 4) 1), none, false⟩, ⟨(some 21), (.load 9 (.tmp 20)), none, false⟩, ⟨(some 22), (.fieldAddr 28 (.tmp 5) 1), none, false⟩, ⟨(some 23), (.load 9 (.tmp 22)), none, false⟩, ⟨(some 24), (.call { callee := (.value (.func 32)), args := #[(.tmp 19), (.tmp 21), (.tmp 23)], argTypes := #[25, 9, 9] }), none, false⟩, ⟨(some 6), (.assign (.tmp 24)), none, false⟩]) .ret))), (25, [(.tmp 6)])) : Option (ACode × Nat × List ResultVar)) := by kernel_rfl
theorem code70 : bodyOf Try.prog 70 = (some ((.seq (.region [⟨(some 2), (.box 32 (.tmp 0)), none, false⟩, ⟨(some 4), (.assign (.const (.int .i64 0))), none, false⟩]) (.seq (.region [⟨(some 6), (.fieldAddr 32 (.tmp 2) 0), none, false⟩, ⟨(some 7), (.load 22 (.tmp 6)), none, false⟩, ⟨(some 8), (.move (.tmp 1)), none, false⟩, ⟨(some 9), (.call { callee := (.value (.func 44)), args := #[(.tmp 7), (.tmp 8)], argTypes := #[22, 9] }), none, false⟩, ⟨(some 5), (.assign (.tmp 9)), none, false⟩]) (.seq (.seq (.region [⟨(some 10), (.move (.tmp 1)), none, false⟩, ⟨(some 11), (.binOp .eql 9 (.tmp 10) (.const (.string (ByteArray.mk #[]))) 9), none, false⟩, ⟨(some 12), (.move (.tmp 11)), none, false⟩, ⟨(some 13), (.move (.tmp 5)), (some (12, false)), false⟩, ⟨(some 14), (.binOp .lss 3 (.tmp 13) (.const (.int .i64 0)) 3), (some (12, false)), false⟩, ⟨(some 15), (.pick (.tmp 12) (.const (.bool true)) (.tmp 14)), none, false⟩, ⟨(some 16), (.move (.tmp 15)), none, false⟩, ⟨(some 17), (.move (.tmp 5)), (some (16, false)), false⟩, ⟨(some 18), (.fieldAddr 32 (.tmp 2) 1), (some (16, false)), false⟩, ⟨(some 19), (.load 23 (.tmp 18)), (some (16, false)), false⟩, ⟨(some 20), (.call { callee := .builtin .len, args := #[(.tmp 19)], argTypes := #[23] }), (some (16, false)), false⟩, ⟨(some 21), (.binOp .geq 3 (.tmp 17) (.tmp 20) 3), (some (16, false)), false⟩, ⟨(some 22), (.pick (.tmp 16) (.const (.bool true)) (.tmp 21)), none, false⟩, ⟨(some 23), (.move (.tmp 22)), none, false⟩, ⟨(some 24), (.fieldAddr 32 (.tmp 2) 1), (some (23, false)), false⟩, ⟨(some 25), (.load 23 (.tmp 24)), (some (23, false)), false⟩, ⟨(some 26), (.move (.tmp 5)), (some (23, false)), false⟩, ⟨(some 27), (.indexAddr 23 (.tmp 25) (.tmp 26)), (some (23, false)), false⟩, ⟨(some 28), (.load 3 (.tmp 27)), (some (23, false)), false⟩, ⟨(some 29), (.binOp .lss 3 (.tmp 28) (.const (.int .i64 1)) 3), (some (23, false)), false⟩, ⟨(some 30), (.pick (.tmp 23) (.const (.bool true)) (.tmp 29)), none, false⟩, ⟨(some 31), (.move (.tmp 30)), none, false⟩, ⟨(some 32), (.fieldAddr 32 (.tmp 2) 1), (some (31, false)), false⟩, ⟨(some 33), (.load 23 (.tmp 32)), (some (31, false)), false⟩, ⟨(some 34), (.move (.tmp 5)), (some (31, false)), false⟩, ⟨(some 35), (.indexAddr 23 (.tmp 33) (.tmp 34)), (some (31, false)), false⟩, ⟨(some 36), (.load 3 (.tmp 35)), (some (31, false)), false⟩, ⟨(some 37), (.binOp .gtr 3 (.tmp 36) (.const (.int .i64 1000)) 3), (some (31, false)), false⟩, ⟨(some 38), (.pick (.tmp 31) (.const (.bool true)) (.tmp 37)), none, false⟩]) (.cond (.tmp 38) (.seq (.region [⟨(some 4), (.assign (.const (.int .i64 1))), none, false⟩]) .ret) .skip)) (.seq (.region [⟨(some 39), (.fieldAddr 32 (.tmp 2) 1), none, false⟩, ⟨(some 40), (.load 23 (.tmp 39)), none, false⟩, ⟨(some 41), (.move (.tmp 5)), none, false⟩, ⟨(some 42), (.indexAddr 23 (.tmp 40) (.tmp 41)), none, false⟩, ⟨(some 43), (.load 3 (.tmp 42)), none, false⟩, ⟨(some 4), (.assign (.tmp 43)), none, false⟩]) .ret)))), (44, [(.tmp 4)])) : Option (ACode × Nat × List ResultVar)) := by kernel_rfl
theorem code71 : bodyOf Try.prog 71 = (some ((.seq (.region [⟨(some 1), (.box 28 (.tmp 0)), none, false⟩, ⟨(some 2), (.assign (.const (.bool false))), none, false⟩]) (.seq (.seq (.region [⟨(some 3), (.fieldAddr 28 (.tmp 1) 1), none, false⟩, ⟨(some 4), (.load 9 (.tmp 3)), none, false⟩, ⟨(some 5), (.binOp .eql 9 (.tmp 4) (.const (.string (ByteArray.mk #[]))) 9), none, false⟩]) (.cond (.tmp 5) (.seq (.region [⟨(some 6), (.fieldAddr 28 (.tmp 1) 0), none, false⟩, ⟨(some 7), (.load 3 (.tmp 6)), none, false⟩, ⟨(some 8), (.binOp .geq 3 (.tmp 7) (.const (.int .i64 0)) 3), none, false⟩, ⟨(some 9), (.move (.tmp 8)), none, false⟩, ⟨(some 10), (.fieldAddr 28 (.tmp 1) 0), (some (9, true)), false⟩, ⟨(some 11), (.load 3 (.tmp 10)), (some (9, true)), false⟩, ⟨(some 12), (.binOp .lss 3 (.tmp 11) (.const (.int .i64 1000000)) 3), (some (9, true)), false⟩, ⟨(some 13), (.pick (.tmp 9) (.tmp 12) (.const (.bool false))), none, false⟩, ⟨(some 14), (.move (.tmp 13)), none, false⟩, ⟨(some 15), (.fieldAddr 28 (.tmp 1) 2), (some (14, true)), false⟩, ⟨(some 16), (.load 26 (.tmp 15)), (some (14, true)), false⟩, ⟨(some 17), (.call { callee := .builtin .len, args := #[(.tmp 16)], argTypes := #[26] }), (some (14, true)), false⟩, ⟨(some 18), (.binOp .eql 3 (.tmp 17) (.const (.int .i64 0)) 3), (some (14, true)), false⟩, ⟨(some 19), (.pick (.tmp 14) (.tmp 18) (.const (.bool false))), none, false⟩, ⟨(some 2), (.assign (.tmp 19)), none, false⟩]) .ret) .skip)) (.seq (.region [⟨(some 20), (.fieldAddr 28 (.tmp 1) 0), none, false⟩, ⟨(some 21), (.load 3 (.tmp 20)), none, false⟩, ⟨(some 22), (.binOp .eql 3 (.tmp 21) (.const (.int .i64 0)) 3), none, false⟩, ⟨(some 23), (.move (.tmp 22)), none, false⟩, ⟨(some 24), (.fieldAddr 28 (.tmp 1) 1), (some (23, true)), false⟩, ⟨(some 25), (.load 9 (.tmp 24)), (some (23, true)), false⟩, ⟨(some 26), (.call { callee := .builtin .len, args := #[(.tmp 25)], argTypes := #[9] }), (some (23, true)), false⟩, ⟨(some 27), (.binOp .leq 3 (.tmp 26) (.const (.int .i64 64)) 3), (some (23, true)), false⟩, ⟨(some 28), (.pick (.tmp 23) (.tmp 27) (.const (.bool false))), none, false⟩, ⟨(some 29), (.move (.tmp 28)), none, false⟩, ⟨(some 30), (.fieldAddr 28 (.tmp 1) 2), (some (29, true)), false⟩, ⟨(some 31), (.load 26 (.tmp 30)), (some (29, true)), false⟩, ⟨(some 32), (.call { callee := .builtin .len, args := #[(.tmp 31)], argTypes := #[26] }), (some (29, true)), false⟩, ⟨(some 33), (.binOp .leq 3 (.tmp 32) (.const (.int .i64 16)) 3), (some (29, true)), false⟩, ⟨(some 34), (.pick (.tmp 29) (.tmp 33) (.const (.bool false))), none, false⟩, ⟨(some 2), (.assign (.tmp 34)), none, false⟩]) .ret))), (35, [(.tmp 2)])) : Option (ACode × Nat × List ResultVar)) := by kernel_rfl
theorem code72 : bodyOf Try.prog 72 = (some ((.seq (.region [⟨(some 4), (.assign (.const (.bool false))), none, false⟩]) (.seq (.region [⟨(some 5), (.move (.tmp 0)), none, false⟩, ⟨(some 6), (.move (.tmp 1)), none, false⟩, ⟨(some 7), (.call { callee := (.value (.func 75)), args := #[(.tmp 5), (.tmp 6)], argTypes := #[26, 63] }), none, false⟩, ⟨(some 8), (.binOp .geq 3 (.tmp 7) (.const (.int .i64 0)) 3), none, false⟩, ⟨(some 4), (.assign (.tmp 8)), none, false⟩]) .ret)), (9, [(.tmp 4)])) : Option (ACode × Nat × List ResultVar)) := by kernel_rfl
theorem code73 : bodyOf Try.prog 73 = (some ((.seq (.region [⟨(some 1), (.box 28 (.tmp 0)), none, false⟩, ⟨(some 2), (.assign (.const (.bool false))), none, false⟩]) (.seq (.region [⟨(some 3), (.load 28 (.tmp 1)), none, false⟩, ⟨(some 4), (.call { callee := (.value (.func 51)), args := #[(.tmp 3)], argTypes := #[28] }), none, false⟩, ⟨(some 5), (.unOp .not 4 (.tmp 4)), none, false⟩, ⟨(some 2), (.assign (.tmp 5)), none, false⟩]) .ret)), (6, [(.tmp 2)])) : Option (ACode × Nat × List ResultVar)) := by kernel_rfl
def b74_0 : ACode := (.seq (.region [⟨(some 9), (.binOp .lss 3 (.tmp 8) (.tmp 7) 3), none, false⟩]) (.seq (.cond (.tmp 9) .skip (.exit 0)) (.seq (.block 1 (.seq (.region [⟨(some 10), (.move (.tmp 8)), none, false⟩, ⟨(some 5), (.assign (.tmp 10)), none, false⟩]) (.seq (.region [⟨(some 11), (.move (.tmp 1)), none, false⟩, ⟨(some 12), (.move (.tmp 0)), none, false⟩, ⟨(some 13), (.move (.tmp 5)), none, false⟩, ⟨(some 14), (.indexAddr 23 (.tmp 12) (.tmp 13)), none, false⟩, ⟨(some 15), (.load 3 (.tmp 14)), none, false⟩, ⟨(some 16), (.call { callee := (.value (.tmp 11)), args := #[(.tmp 15)], argTypes := #[3] }), none, false⟩]) (.cond (.tmp 16) (.seq (.region [⟨(some 17), (.move (.tmp 5)), none, false⟩, ⟨(some 4), (.assign (.tmp 17)), none, false⟩]) .ret) .skip)))) (.region [⟨(some 18), (.binOp .add 3 (.tmp 8) (.const (.int .i64 1)) 3), none, false⟩, ⟨(some 8), (.move (.tmp 18)), none, false⟩]))))
theorem code74 : bodyOf Try.prog 74 = (some ((.seq (.region [⟨(some 4), (.assign (.const (.int .i64 0))), none, false⟩]) (.seq (.seq (.region [⟨(some 6), (.move (.tmp 0)), none, false⟩, ⟨(some 7), (.call { callee := .builtin .len, args := #[(.tmp 6)], argTypes := #[23] }), none, false⟩, ⟨(some 8), (.move (.const (.int .i64 0))), none, false⟩]) (.block 0 (.loop [true, true, false, false, true, false, false, true, true, false, false, false, false, false, false, false, false, false, false] false b74_0))) (.seq (.region [⟨(some 4), (.assign (.const (.int .i64 (-1)))), none, false⟩]) .ret))), (19, [(.tmp 4)])) : Option (ACode × Nat × List ResultVar)) := by kernel_rfl
def b75_0 : ACode := (.seq (.region [⟨(some 9), (.binOp .lss 3 (.tmp 8) (.tmp 7) 3), none, false⟩]) (.seq (.cond (.tmp 9) .skip (.exit 0)) (.seq (.block 1 (.seq (.region [⟨(some 10), (.move (.tmp 8)), none, false⟩, ⟨(some 5), (.assign (.tmp 10)), none, false⟩]) (.seq (.region [⟨(some 11), (.move (.tmp 1)), none, false⟩, ⟨(some 12), (.move (.tmp 0)), none, false⟩, ⟨(some 13), (.move (.tmp 5)), none, false⟩, ⟨(some 14), (.indexAddr 26 (.tmp 12) (.tmp 13)), none, false⟩, ⟨(some 15), (.load 28 (.tmp 14)), none, false⟩, ⟨(some 16), (.call { callee := (.value (.tmp 11)), args := #[(.tmp 15)], argTypes := #[28] }), none, false⟩]) (.cond (.tmp 16) (.seq (.region [⟨(some 17), (.move (.tmp 5)), none, false⟩, ⟨(some 4), (.assign (.tmp 17)), none, false⟩]) .ret) .skip)))) (.region [⟨(some 18), (.binOp .add 3 (.tmp 8) (.const (.int .i64 1)) 3), none, false⟩, ⟨(some 8), (.move (.tmp 18)), none, false⟩]))))
theorem code75 : bodyOf Try.prog 75 = (some ((.seq (.region [⟨(some 4), (.assign (.const (.int .i64 0))), none, false⟩]) (.seq (.seq (.region [⟨(some 6), (.move (.tmp 0)), none, false⟩, ⟨(some 7), (.call { callee := .builtin .len, args := #[(.tmp 6)], argTypes := #[26] }), none, false⟩, ⟨(some 8), (.move (.const (.int .i64 0))), none, false⟩]) (.block 0 (.loop [true, true, false, false, true, false, false, true, true, false, false, false, false, false, false, false, false, false, false] false b75_0))) (.seq (.region [⟨(some 4), (.assign (.const (.int .i64 (-1)))), none, false⟩]) .ret))), (19, [(.tmp 4)])) : Option (ACode × Nat × List ResultVar)) := by kernel_rfl
@[simp] theorem ts3 : tsize Try.prog 3 = some 1 := by kernel_rfl
@[simp] theorem ta3 : tagg Try.prog 3 = some false := by kernel_rfl
@[simp] theorem tk3 : tkind Try.prog 3 = 6 := by kernel_rfl
@[simp] theorem ti3 : tint Try.prog 3 = some IntKind.i64 := by kernel_rfl
@[simp] theorem tb3 : tbytes Try.prog 3 = some true := by kernel_rfl
@[simp] theorem th3 : tshape Try.prog 3 = some (false, [(KK.int IntKind.i64)]) := by kernel_rfl
@[simp] theorem tg3 : tguard Try.prog 3 = false := by kernel_rfl
@[simp] theorem tz3 : zeroCells Try.prog 3 = some [(AV.d (D.int IntKind.i64 0))] := by kernel_rfl
@[simp] theorem tv3 : zeroAV Try.prog 3 = some (AV.d (D.int IntKind.i64 0)) := by kernel_rfl
@[simp] theorem tr3 : tarr Try.prog 3 = none := by kernel_rfl
@[simp] theorem ts4 : tsize Try.prog 4 = some 1 := by kernel_rfl
@[simp] theorem ta4 : tagg Try.prog 4 = some false := by kernel_rfl
@[simp] theorem tk4 : tkind Try.prog 4 = 1 := by kernel_rfl
@[simp] theorem tb4 : tbytes Try.prog 4 = some true := by kernel_rfl
@[simp] theorem th4 : tshape Try.prog 4 = some (false, [KK.bool]) := by kernel_rfl
@[simp] theorem tg4 : tguard Try.prog 4 = false := by kernel_rfl
@[simp] theorem tz4 : zeroCells Try.prog 4 = some [(AV.d (D.bool false))] := by kernel_rfl
@[simp] theorem tv4 : zeroAV Try.prog 4 = some (AV.d (D.bool false)) := by kernel_rfl
@[simp] theorem tr4 : tarr Try.prog 4 = none := by kernel_rfl
@[simp] theorem ts9 : tsize Try.prog 9 = some 1 := by kernel_rfl
@[simp] theorem ta9 : tagg Try.prog 9 = some false := by kernel_rfl
@[simp] theorem tk9 : tkind Try.prog 9 = 7 := by kernel_rfl
@[simp] theorem tb9 : tbytes Try.prog 9 = some true := by kernel_rfl
@[simp] theorem th9 : tshape Try.prog 9 = some (false, [KK.str]) := by kernel_rfl
@[simp] theorem tg9 : tguard Try.prog 9 = false := by kernel_rfl
@[simp] theorem tz9 : zeroCells Try.prog 9 = some [(AV.d (D.str (ByteArray.mk #[])))] := by kernel_rfl
@[simp] theorem tv9 : zeroAV Try.prog 9 = some (AV.d (D.str (ByteArray.mk #[]))) := by kernel_rfl
@[simp] theorem tr9 : tarr Try.prog 9 = none := by kernel_rfl
@[simp] theorem ts22 : tsize Try.prog 22 = some 1 := by kernel_rfl
@[simp] theorem ta22 : tagg Try.prog 22 = some false := by kernel_rfl
@[simp] theorem te22 : telem Try.prog 22 = some 9 := by kernel_rfl
@[simp] theorem tk22 : tkind Try.prog 22 = 3 := by kernel_rfl
@[simp] theorem tb22 : tbytes Try.prog 22 = some true := by kernel_rfl
@[simp] theorem tg22 : tguard Try.prog 22 = false := by kernel_rfl
@[simp] theorem tz22 : zeroCells Try.prog 22 = some [(AV.d (D.sl [] 0 true (some true)))] := by kernel_rfl
@[simp] theorem tv22 : zeroAV Try.prog 22 = some (AV.d (D.sl [] 0 true (some true))) := by kernel_rfl
@[simp] theorem tr22 : tarr Try.prog 22 = none := by kernel_rfl
@[simp] theorem ts23 : tsize Try.prog 23 = some 1 := by kernel_rfl
@[simp] theorem ta23 : tagg Try.prog 23 = some false := by kernel_rfl
@[simp] theorem te23 : telem Try.prog 23 = some 3 := by kernel_rfl
@[simp] theorem tk23 : tkind Try.prog 23 = 3 := by kernel_rfl
@[simp] theorem tb23 : tbytes Try.prog 23 = some true := by kernel_rfl
@[simp] theorem tg23 : tguard Try.prog 23 = false := by kernel_rfl
@[simp] theorem tz23 : zeroCells Try.prog 23 = some [(AV.d (D.sl [] 0 true (some true)))] := by kernel_rfl
@[simp] theorem tv23 : zeroAV Try.prog 23 = some (AV.d (D.sl [] 0 true (some true))) := by kernel_rfl
@[simp] theorem tr23 : tarr Try.prog 23 = none := by kernel_rfl
@[simp] theorem ts25 : tsize Try.prog 25 = some 2 := by kernel_rfl
@[simp] theorem ta25 : tagg Try.prog 25 = some true := by kernel_rfl
@[simp] theorem tk25 : tkind Try.prog 25 = 0 := by kernel_rfl
@[simp] theorem tp25 : tplaces Try.prog 25 = some [(0, 1), (1, 1)] := by kernel_rfl
@[simp] theorem tb25 : tbytes Try.prog 25 = some true := by kernel_rfl
@[simp] theorem tg25 : tguard Try.prog 25 = false := by kernel_rfl
@[simp] theorem tf25_0 : tfield Try.prog 25 0 = some (0, 22) := by kernel_rfl
@[simp] theorem tf25_1 : tfield Try.prog 25 1 = some (1, 23) := by kernel_rfl
@[simp] theorem tz25 : zeroCells Try.prog 25 = some [(AV.d (D.sl [] 0 true (some true))), (AV.d (D.sl [] 0 true (some true)))] := by kernel_rfl
@[simp] theorem tv25 : zeroAV Try.prog 25 = some (AV.d (D.agg [(D.sl [] 0 true (some true)), (D.sl [] 0 true (some true))])) := by kernel_rfl
@[simp] theorem tr25 : tarr Try.prog 25 = none := by kernel_rfl
@[simp] theorem ts26 : tsize Try.prog 26 = some 1 := by kernel_rfl
@[simp] theorem ta26 : tagg Try.prog 26 = some false := by kernel_rfl
@[simp] theorem te26 : telem Try.prog 26 = some 28 := by kernel_rfl
@[simp] theorem tk26 : tkind Try.prog 26 = 3 := by kernel_rfl
@[simp] theorem tb26 : tbytes Try.prog 26 = some true := by kernel_rfl
@[simp] theorem tg26 : tguard Try.prog 26 = false := by kernel_rfl
@[simp] theorem tz26 : zeroCells Try.prog 26 = some [(AV.d (D.sl [] 0 true (some true)))] := by kernel_rfl
@[simp] theorem tv26 : zeroAV Try.prog 26 = some (AV.d (D.sl [] 0 true (some true))) := by kernel_rfl
@[simp] theorem tr26 : tarr Try.prog 26 = none := by kernel_rfl
@[simp] theorem ts28 : tsize Try.prog 28 = some 3 := by kernel_rfl
@[simp] theorem ta28 : tagg Try.prog 28 = some true := by kernel_rfl
@[simp] theorem tk28 : tkind Try.prog 28 = 0 := by kernel_rfl
@[simp] theorem tp28 : tplaces Try.prog 28 = some [(0, 1), (1, 1), (2, 1)] := by kernel_rfl
@[simp] theorem tb28 : tbytes Try.prog 28 = some true := by kernel_rfl
@[simp] theorem tg28 : tguard Try.prog 28 = false := by kernel_rfl
@[simp] theorem tf28_0 : tfield Try.prog 28 0 = some (0, 3) := by kernel_rfl
@[simp] theorem tf28_1 : tfield Try.prog 28 1 = some (1, 9) := by kernel_rfl
@[simp] theorem tf28_2 : tfield Try.prog 28 2 = some (2, 26) := by kernel_rfl
@[simp] theorem tz28 : zeroCells Try.prog 28 = some [(AV.d (D.int IntKind.i64 0)), (AV.d (D.str (ByteArray.mk #[]))), (AV.d (D.sl [] 0 true (some true)))] := by kernel_rfl
@[simp] theorem tv28 : zeroAV Try.prog 28 = some (AV.d (D.agg [(D.int IntKind.i64 0), (D.str (ByteArray.mk #[])), (D.sl [] 0 true (some true))])) := by kernel_rfl
@[simp] theorem tr28 : tarr Try.prog 28 = none := by kernel_rfl
@[simp] theorem ts32 : tsize Try.prog 32 = some 2 := by kernel_rfl
@[simp] theorem ta32 : tagg Try.prog 32 = some true := by kernel_rfl
@[simp] theorem tk32 : tkind Try.prog 32 = 0 := by kernel_rfl
@[simp] theorem tp32 : tplaces Try.prog 32 = some [(0, 1), (1, 1)] := by kernel_rfl
@[simp] theorem tb32 : tbytes Try.prog 32 = some true := by kernel_rfl
@[simp] theorem tg32 : tguard Try.prog 32 = false := by kernel_rfl
@[simp] theorem tf32_0 : tfield Try.prog 32 0 = some (0, 22) := by kernel_rfl
@[simp] theorem tf32_1 : tfield Try.prog 32 1 = some (1, 23) := by kernel_rfl
@[simp] theorem tz32 : zeroCells Try.prog 32 = some [(AV.d (D.sl [] 0 true (some true))), (AV.d (D.sl [] 0 true (some true)))] := by kernel_rfl
@[simp] theorem tv32 : zeroAV Try.prog 32 = some (AV.d (D.agg [(D.sl [] 0 true (some true)), (D.sl [] 0 true (some true))])) := by kernel_rfl
@[simp] theorem tr32 : tarr Try.prog 32 = none := by kernel_rfl
@[simp] theorem ts37 : tsize Try.prog 37 = some 1 := by kernel_rfl
@[simp] theorem ta37 : tagg Try.prog 37 = some false := by kernel_rfl
@[simp] theorem te37 : telem Try.prog 37 = some 40 := by kernel_rfl
@[simp] theorem tk37 : tkind Try.prog 37 = 3 := by kernel_rfl
@[simp] theorem tb37 : tbytes Try.prog 37 = some true := by kernel_rfl
@[simp] theorem tg37 : tguard Try.prog 37 = false := by kernel_rfl
@[simp] theorem tz37 : zeroCells Try.prog 37 = some [(AV.d (D.sl [] 0 true (some true)))] := by kernel_rfl
@[simp] theorem tv37 : zeroAV Try.prog 37 = some (AV.d (D.sl [] 0 true (some true))) := by kernel_rfl
@[simp] theorem tr37 : tarr Try.prog 37 = none := by kernel_rfl
@[simp] theorem ts40 : tsize Try.prog 40 = some 4 := by kernel_rfl
@[simp] theorem ta40 : tagg Try.prog 40 = some true := by kernel_rfl
@[simp] theorem tk40 : tkind Try.prog 40 = 0 := by kernel_rfl
@[simp] theorem tp40 : tplaces Try.prog 40 = some [(0, 1), (1, 3)] := by kernel_rfl
@[simp] theorem tb40 : tbytes Try.prog 40 = some true := by kernel_rfl
@[simp] theorem tg40 : tguard Try.prog 40 = false := by kernel_rfl
@[simp] theorem tf40_0 : tfield Try.prog 40 0 = some (0, 3) := by kernel_rfl
@[simp] theorem tf40_1 : tfield Try.prog 40 1 = some (1, 28) := by kernel_rfl
@[simp] theorem tz40 : zeroCells Try.prog 40 = some [(AV.d (D.int IntKind.i64 0)), (AV.d (D.int IntKind.i64 0)), (AV.d (D.str (ByteArray.mk #[]))), (AV.d (D.sl [] 0 true (some true)))] := by kernel_rfl
@[simp] theorem tv40 : zeroAV Try.prog 40 = some (AV.d (D.agg [(D.int IntKind.i64 0), (D.int IntKind.i64 0), (D.str (ByteArray.mk #[])), (D.sl [] 0 true (some true))])) := by kernel_rfl
@[simp] theorem tr40 : tarr Try.prog 40 = none := by kernel_rfl
@[simp] theorem ts41 : tsize Try.prog 41 = some 1 := by kernel_rfl
@[simp] theorem ta41 : tagg Try.prog 41 = some false := by kernel_rfl
@[simp] theorem tk41 : tkind Try.prog 41 = 6 := by kernel_rfl
@[simp] theorem ti41 : tint Try.prog 41 = some IntKind.i64 := by kernel_rfl
@[simp] theorem tb41 : tbytes Try.prog 41 = some true := by kernel_rfl
@[simp] theorem th41 : tshape Try.prog 41 = some (false, [(KK.int IntKind.i64)]) := by kernel_rfl
@[simp] theorem tg41 : tguard Try.prog 41 = false := by kernel_rfl
@[simp] theorem tz41 : zeroCells Try.prog 41 = some [(AV.d (D.int IntKind.i64 0))] := by kernel_rfl
@[simp] theorem tv41 : zeroAV Try.prog 41 = some (AV.d (D.int IntKind.i64 0)) := by kernel_rfl
@[simp] theorem tr41 : tarr Try.prog 41 = none := by kernel_rfl
@[simp] theorem ts52 : tsize Try.prog 52 = some 1 := by kernel_rfl
@[simp] theorem ta52 : tagg Try.prog 52 = some false := by kernel_rfl
@[simp] theorem tk52 : tkind Try.prog 52 = 5 := by kernel_rfl
@[simp] theorem tb52 : tbytes Try.prog 52 = some true := by kernel_rfl
@[simp] theorem tg52 : tguard Try.prog 52 = false := by kernel_rfl
@[simp] theorem tz52 : zeroCells Try.prog 52 = some [(AV.d D.nilfn)] := by kernel_rfl
@[simp] theorem tv52 : zeroAV Try.prog 52 = some (AV.d D.nilfn) := by kernel_rfl
@[simp] theorem tr52 : tarr Try.prog 52 = none := by kernel_rfl
@[simp] theorem ts59 : tsize Try.prog 59 = some 1 := by kernel_rfl
@[simp] theorem ta59 : tagg Try.prog 59 = some false := by kernel_rfl
@[simp] theorem tk59 : tkind Try.prog 59 = 5 := by kernel_rfl
@[simp] theorem tb59 : tbytes Try.prog 59 = some true := by kernel_rfl
@[simp] theorem tg59 : tguard Try.prog 59 = false := by kernel_rfl
@[simp] theorem tz59 : zeroCells Try.prog 59 = some [(AV.d D.nilfn)] := by kernel_rfl
@[simp] theorem tv59 : zeroAV Try.prog 59 = some (AV.d D.nilfn) := by kernel_rfl
@[simp] theorem tr59 : tarr Try.prog 59 = none := by kernel_rfl
@[simp] theorem ts63 : tsize Try.prog 63 = some 1 := by kernel_rfl
@[simp] theorem ta63 : tagg Try.prog 63 = some false := by kernel_rfl
@[simp] theorem tk63 : tkind Try.prog 63 = 5 := by kernel_rfl
@[simp] theorem tb63 : tbytes Try.prog 63 = some true := by kernel_rfl
@[simp] theorem tg63 : tguard Try.prog 63 = false := by kernel_rfl
@[simp] theorem tz63 : zeroCells Try.prog 63 = some [(AV.d D.nilfn)] := by kernel_rfl
@[simp] theorem tv63 : zeroAV Try.prog 63 = some (AV.d D.nilfn) := by kernel_rfl
@[simp] theorem tr63 : tarr Try.prog 63 = none := by kernel_rfl
@[simp] theorem ts67 : tsize Try.prog 67 = some 1 := by kernel_rfl
@[simp] theorem ta67 : tagg Try.prog 67 = some false := by kernel_rfl
@[simp] theorem tk67 : tkind Try.prog 67 = 4 := by kernel_rfl
@[simp] theorem tb67 : tbytes Try.prog 67 = some true := by kernel_rfl
@[simp] theorem tm67 : tmap Try.prog 67 = some (3, 3) := by kernel_rfl
@[simp] theorem tg67 : tguard Try.prog 67 = false := by kernel_rfl
@[simp] theorem tz67 : zeroCells Try.prog 67 = some [(AV.d D.nilmap)] := by kernel_rfl
@[simp] theorem tv67 : zeroAV Try.prog 67 = some (AV.d D.nilmap) := by kernel_rfl
@[simp] theorem tr67 : tarr Try.prog 67 = none := by kernel_rfl
@[simp] theorem ts70 : tsize Try.prog 70 = some 1 := by kernel_rfl
@[simp] theorem ta70 : tagg Try.prog 70 = some false := by kernel_rfl
@[simp] theorem te70 : telem Try.prog 70 = some 75 := by kernel_rfl
@[simp] theorem tk70 : tkind Try.prog 70 = 3 := by kernel_rfl
@[simp] theorem tb70 : tbytes Try.prog 70 = some true := by kernel_rfl
@[simp] theorem tg70 : tguard Try.prog 70 = false := by kernel_rfl
@[simp] theorem tz70 : zeroCells Try.prog 70 = some [(AV.d (D.sl [] 0 true (some true)))] := by kernel_rfl
@[simp] theorem tv70 : zeroAV Try.prog 70 = some (AV.d (D.sl [] 0 true (some true))) := by kernel_rfl
@[simp] theorem tr70 : tarr Try.prog 70 = none := by kernel_rfl
@[simp] theorem ts73 : tsize Try.prog 73 = some 1 := by kernel_rfl
@[simp] theorem ta73 : tagg Try.prog 73 = some false := by kernel_rfl
@[simp] theorem tk73 : tkind Try.prog 73 = 4 := by kernel_rfl
@[simp] theorem tb73 : tbytes Try.prog 73 = some true := by kernel_rfl
@[simp] theorem tm73 : tmap Try.prog 73 = some (79, 3) := by kernel_rfl
@[simp] theorem tg73 : tguard Try.prog 73 = false := by kernel_rfl
@[simp] theorem tz73 : zeroCells Try.prog 73 = some [(AV.d D.nilmap)] := by kernel_rfl
@[simp] theorem tv73 : zeroAV Try.prog 73 = some (AV.d D.nilmap) := by kernel_rfl
@[simp] theorem tr73 : tarr Try.prog 73 = none := by kernel_rfl
@[simp] theorem ts75 : tsize Try.prog 75 = some 4 := by kernel_rfl
@[simp] theorem ta75 : tagg Try.prog 75 = some true := by kernel_rfl
@[simp] theorem tk75 : tkind Try.prog 75 = 0 := by kernel_rfl
@[simp] theorem tp75 : tplaces Try.prog 75 = some [(0, 3), (3, 1)] := by kernel_rfl
@[simp] theorem tb75 : tbytes Try.prog 75 = some true := by kernel_rfl
@[simp] theorem tg75 : tguard Try.prog 75 = false := by kernel_rfl
@[simp] theorem tf75_0 : tfield Try.prog 75 0 = some (0, 28) := by kernel_rfl
@[simp] theorem tf75_1 : tfield Try.prog 75 1 = some (3, 23) := by kernel_rfl
@[simp] theorem tz75 : zeroCells Try.prog 75 = some [(AV.d (D.int IntKind.i64 0)), (AV.d (D.str (ByteArray.mk #[]))), (AV.d (D.sl [] 0 true (some true))), (AV.d (D.sl [] 0 true (some true)))] := by kernel_rfl
@[simp] theorem tv75 : zeroAV Try.prog 75 = some (AV.d (D.agg [(D.int IntKind.i64 0), (D.str (ByteArray.mk #[])), (D.sl [] 0 true (some true)), (D.sl [] 0 true (some true))])) := by kernel_rfl
@[simp] theorem tr75 : tarr Try.prog 75 = none := by kernel_rfl
@[simp] theorem ts76 : tsize Try.prog 76 = some 1 := by kernel_rfl
@[simp] theorem ta76 : tagg Try.prog 76 = some false := by kernel_rfl
@[simp] theorem tk76 : tkind Try.prog 76 = 5 := by kernel_rfl
@[simp] theorem tb76 : tbytes Try.prog 76 = some true := by kernel_rfl
@[simp] theorem tg76 : tguard Try.prog 76 = false := by kernel_rfl
@[simp] theorem tz76 : zeroCells Try.prog 76 = some [(AV.d D.nilfn)] := by kernel_rfl
@[simp] theorem tv76 : zeroAV Try.prog 76 = some (AV.d D.nilfn) := by kernel_rfl
@[simp] theorem tr76 : tarr Try.prog 76 = none := by kernel_rfl
@[simp] theorem ts79 : tsize Try.prog 79 = some 2 := by kernel_rfl
@[simp] theorem ta79 : tagg Try.prog 79 = some true := by kernel_rfl
@[simp] theorem tk79 : tkind Try.prog 79 = 0 := by kernel_rfl
@[simp] theorem tp79 : tplaces Try.prog 79 = some [(0, 1), (1, 1)] := by kernel_rfl
@[simp] theorem tb79 : tbytes Try.prog 79 = some true := by kernel_rfl
@[simp] theorem th79 : tshape Try.prog 79 = some (true, [(KK.int IntKind.i64), (KK.int IntKind.i64)]) := by kernel_rfl
@[simp] theorem tg79 : tguard Try.prog 79 = false := by kernel_rfl
@[simp] theorem tf79_0 : tfield Try.prog 79 0 = some (0, 3) := by kernel_rfl
@[simp] theorem tf79_1 : tfield Try.prog 79 1 = some (1, 3) := by kernel_rfl
@[simp] theorem tz79 : zeroCells Try.prog 79 = some [(AV.d (D.int IntKind.i64 0)), (AV.d (D.int IntKind.i64 0))] := by kernel_rfl
@[simp] theorem tv79 : zeroAV Try.prog 79 = some (AV.d (D.agg [(D.int IntKind.i64 0), (D.int IntKind.i64 0)])) := by kernel_rfl
@[simp] theorem tr79 : tarr Try.prog 79 = none := by kernel_rfl
@[simp] theorem ts80 : tsize Try.prog 80 = some 1 := by kernel_rfl
@[simp] theorem ta80 : tagg Try.prog 80 = some false := by kernel_rfl
@[simp] theorem tk80 : tkind Try.prog 80 = 2 := by kernel_rfl
@[simp] theorem tb80 : tbytes Try.prog 80 = some true := by kernel_rfl
@[simp] theorem tg80 : tguard Try.prog 80 = false := by kernel_rfl
@[simp] theorem tz80 : zeroCells Try.prog 80 = some [(AV.d D.nilptr)] := by kernel_rfl
@[simp] theorem tv80 : zeroAV Try.prog 80 = some (AV.d D.nilptr) := by kernel_rfl
@[simp] theorem tr80 : tarr Try.prog 80 = none := by kernel_rfl
@[simp] theorem ts81 : tsize Try.prog 81 = some 1 := by kernel_rfl
@[simp] theorem ta81 : tagg Try.prog 81 = some false := by kernel_rfl
@[simp] theorem te81 : telem Try.prog 81 = some 23 := by kernel_rfl
@[simp] theorem tk81 : tkind Try.prog 81 = 3 := by kernel_rfl
@[simp] theorem tb81 : tbytes Try.prog 81 = some true := by kernel_rfl
@[simp] theorem tg81 : tguard Try.prog 81 = false := by kernel_rfl
@[simp] theorem tz81 : zeroCells Try.prog 81 = some [(AV.d (D.sl [] 0 true (some true)))] := by kernel_rfl
@[simp] theorem tv81 : zeroAV Try.prog 81 = some (AV.d (D.sl [] 0 true (some true))) := by kernel_rfl
@[simp] theorem tr81 : tarr Try.prog 81 = none := by kernel_rfl
@[simp] theorem ts83 : tsize Try.prog 83 = some 2 := by kernel_rfl
@[simp] theorem ta83 : tagg Try.prog 83 = some true := by kernel_rfl
@[simp] theorem tk83 : tkind Try.prog 83 = 0 := by kernel_rfl
@[simp] theorem tp83 : tplaces Try.prog 83 = some [(0, 1), (1, 1)] := by kernel_rfl
@[simp] theorem tb83 : tbytes Try.prog 83 = some true := by kernel_rfl
@[simp] theorem tg83 : tguard Try.prog 83 = false := by kernel_rfl
@[simp] theorem tf83_0 : tfield Try.prog 83 0 = some (0, 26) := by kernel_rfl
@[simp] theorem tf83_1 : tfield Try.prog 83 1 = some (1, 81) := by kernel_rfl
@[simp] theorem tz83 : zeroCells Try.prog 83 = some [(AV.d (D.sl [] 0 true (some true))), (AV.d (D.sl [] 0 true (some true)))] := by kernel_rfl
@[simp] theorem tv83 : zeroAV Try.prog 83 = some (AV.d (D.agg [(D.sl [] 0 true (some true)), (D.sl [] 0 true (some true))])) := by kernel_rfl
@[simp] theorem tr83 : tarr Try.prog 83 = none := by kernel_rfl
@[simp] theorem ts84 : tsize Try.prog 84 = some 1 := by kernel_rfl
@[simp] theorem ta84 : tagg Try.prog 84 = some false := by kernel_rfl
@[simp] theorem te84 : telem Try.prog 84 = some 85 := by kernel_rfl
@[simp] theorem tk84 : tkind Try.prog 84 = 3 := by kernel_rfl
@[simp] theorem tb84 : tbytes Try.prog 84 = some true := by kernel_rfl
@[simp] theorem tg84 : tguard Try.prog 84 = false := by kernel_rfl
@[simp] theorem tz84 : zeroCells Try.prog 84 = some [(AV.d (D.sl [] 0 true (some true)))] := by kernel_rfl
@[simp] theorem tv84 : zeroAV Try.prog 84 = some (AV.d (D.sl [] 0 true (some true))) := by kernel_rfl
@[simp] theorem tr84 : tarr Try.prog 84 = none := by kernel_rfl
@[simp] theorem ts85 : tsize Try.prog 85 = some 1 := by kernel_rfl
@[simp] theorem ta85 : tagg Try.prog 85 = some false := by kernel_rfl
@[simp] theorem te85 : telem Try.prog 85 = some 4 := by kernel_rfl
@[simp] theorem tk85 : tkind Try.prog 85 = 3 := by kernel_rfl
@[simp] theorem tb85 : tbytes Try.prog 85 = some true := by kernel_rfl
@[simp] theorem tg85 : tguard Try.prog 85 = false := by kernel_rfl
@[simp] theorem tz85 : zeroCells Try.prog 85 = some [(AV.d (D.sl [] 0 true (some true)))] := by kernel_rfl
@[simp] theorem tv85 : zeroAV Try.prog 85 = some (AV.d (D.sl [] 0 true (some true))) := by kernel_rfl
@[simp] theorem tr85 : tarr Try.prog 85 = none := by kernel_rfl
end Go.Proofs.Ytfcedichoigbbaa.Am
