/-
  Joined texts: AmC2, AmC, AmPol, AmTerm, AmT, AmBind, AmTp, AmW, AmG, AmWk, AmWb, AmVa0. No condition.
-/
import Derived.Test.YtfcedichoigbbaaAmPak
import Derived.Test.YtfcedichoigbbaaProg
/-
  The code of this seat's functions as the abstract machine reads it, and its types: written by gencode.py, each held by the kernel. No condition.
-/
namespace Go.Proofs.Ytfcedichoigbbaa.Am
open Go Go.Proofs
set_option maxRecDepth 100000
theorem code63 : bodyOf Try.prog 63 = (some ((.seq (.region [⟨(some 6), (.box 25 (.tmp 0)), none, false⟩, ⟨(some 12), (.assign (.const (.bool false))), none, false⟩]) (.seq (.tregion [⟨(some 19), (.move (.tmp 1)), none, false⟩, ⟨(some 20), (.nilCheck (.tmp 19)), none, false⟩, ⟨(some 21), (.fieldAddr 83 (.tmp 20) 0), none, false⟩, ⟨(some 22), (.load 26 (.tmp 21)), none, false⟩, ⟨(some 23), (.move (.tmp 4)), none, false⟩, ⟨(some 24), (.indexAddr 26 (.tmp 22) (.tmp 23)), none, false⟩, ⟨(some 25), (.load 28 (.tmp 24)), none, false⟩, ⟨(some 26), (.move (.tmp 2)), none, false⟩, ⟨(some 27), (.nilCheck (.tmp 26)), none, false⟩, ⟨(some 28), (.fieldAddr 83 (.tmp 27) 0), none, false⟩, ⟨(some 29), (.load 26 (.tmp 28)), none, false⟩, ⟨(some 30), (.move (.tmp 5)), none, false⟩, ⟨(some 31), (.indexAddr 26 (.tmp 29) (.tmp 30)), none, false⟩, ⟨(some 32), (.load 28 (.tmp 31)), none, false⟩, ⟨(some 13), (.alloc 28), none, false⟩, ⟨(some 14), (.alloc 28), none, false⟩, ⟨none, (.store 28 (.tmp 13) (.tmp 25)), none, false⟩, ⟨none, (.store 28 (.tmp 14) (.tmp 32)), none, false⟩] [(10, 16), (12, 16), (13, 16)]) (.seq (.seq (.region [⟨(some 33), (.fieldAddr 28 (.tmp 13) 1), none, false⟩, ⟨(some 34), (.load 9 (.tmp 33)), none, false⟩, ⟨(some 35), (.binOp .eql 9 (.tmp 34) (.const (.string (ByteArray.mk #[]))) 9), none, false⟩]) (.cond (.tmp 35) (.seq (.region [⟨(some 12), (.assign (.const (.bool false))), none, false⟩]) .ret) .skip)) (.seq (.seq (.region [⟨(some 15), (.assign (.const (.int .i64 0))), none, false⟩]) (.block 0 (.loop [false, true, true, true, true, true, true, false, false, false, false, false, true, true, true, true, false, true, true, false, false, false, false, false, false, false, false, false, false, false, false, false, false, false, false, false, false, false, false, false, false, false, false, false, false, false, false, false, false, false, false, false, false, false, false, false, false, false, false, false, false, false, false, false, false, false, false, false, false, false, false, false, false, false, false, false, true, true, true, true, true, true, true, true, true, true, true, true, true, true, true, true, true, true, true, true, true, true, true, true, true, true, true, true, true, true, true, true, true, true, true, true, true, true, true, true, true, true, true, true, true, true, true, true, true, true, true, true, true, true, true, true, true, true, true, true, true, true, true, true, true, true, true, true, true, true, true, true, true, true, true, true, true, true, true, true, true, true, true, true, true, true, true, true, true, true, true, true, true, true] false b63_2))) (.seq (.seq (.region [⟨(some 76), (.fieldAddr 28 (.tmp 14) 1), none, false⟩, ⟨(some 77), (.load 9 (.tmp 76)), none, false⟩, ⟨(some 78), (.binOp .eql 9 (.tmp 77) (.const (.string (ByteArray.mk #[]))) 9), none, false⟩]) (.cond (.tmp 78) (.seq (.region [⟨(some 12), (.assign (.const (.bool false))), none, false⟩]) .ret) .skip)) (.seq (.seq (.region [⟨(some 17), (.assign (.const (.int .i64 0))), none, false⟩]) (.block 2 (.loop [false, true, true, true, true, true, true, false, false, false, false, false, true, true, true, false, false, true, true, false, false, false, false, false, false, false, false, false, false, false, false, false, false, false, false, false, false, false, false, false, false, false, false, false, false, false, false, false, false, false, false, false, false, false, false, false, false, false, false, false, false, false, false, false, false, false, false, false, false, false, false, false, false, false, false, false, false, false, false, false, false, false, false, false, false, false, false, false, false, false, false, false, false, false, false, false, false, false, false, false, false, false, false, false, false, false, false, false, true, true, true, true, true, true, true, true, true, true, true, true, true, true, true, true, true, true, true, true, true, true, true, true, true, true, true, true, true, true, true, true, true, true, true, true, true, true, true, true, true, true, true, true, true, true, true, true, true, true, true, true, true, true, true, true, true, true, true, true, true, true] false b63_1))) (.seq (.seq (.region [⟨(some 108), (.fieldAddr 28 (.tmp 13) 1), none, false⟩, ⟨(some 109), (.load 9 (.tmp 108)), none, false⟩, ⟨(some 110), (.fieldAddr 28 (.tmp 14) 1), none, false⟩, ⟨(some 111), (.load 9 (.tmp 110)), none, false⟩, ⟨(some 112), (.binOp .neq 9 (.tmp 109) (.tmp 111) 9), none, false⟩, ⟨(some 113), (.move (.tmp 112)), none, false⟩, ⟨(some 114), (.fieldAddr 28 (.tmp 13) 2), (some (113, false)), false⟩, ⟨(some 115), (.load 26 (.tmp 114)), (some (113, false)), false⟩, ⟨(some 116), (.call { callee := .builtin .len, args := #[(.tmp 115)], argTypes := #[26] }), (some (113, false)), false⟩, ⟨(some 117), (.fieldAddr 28 (.tmp 14) 2), (some (113, false)), false⟩, ⟨(some 118), (.load 26 (.tmp 117)), (some (113, false)), false⟩, ⟨(some 119), (.call { callee := .builtin .len, args := #[(.tmp 118)], argTypes := #[26] }), (some (113, false)), false⟩, ⟨(some 120), (.binOp .neq 3 (.tmp 116) (.tmp 119) 3), (some (113, false)), false⟩, ⟨(some 121), (.pick (.tmp 113) (.const (.bool true)) (.tmp 120)), none, false⟩]) (.cond (.tmp 121) (.seq (.region [⟨(some 122), (.load 25 (.tmp 6)), none, false⟩, ⟨(some 123), (.load 28 (.tmp 13)), none, false⟩, ⟨(some 124), (.load 28 (.tmp 14)), none, false⟩, ⟨(some 125), (.call { callee := (.value (.func 69)), args := #[(.tmp 122), (.tmp 123), (.tmp 124)], argTypes := #[25, 28, 28] }), none, false⟩, ⟨(some 12), (.assign (.tmp 125)), none, false⟩]) .ret) .skip)) (.seq (.seq (.region [⟨(some 18), (.assign (.const (.int .i64 0))), none, false⟩]) (.block 4 (.loop [false, true, true, true, true, true, false, false, false, false, false, false, true, true, true, false, false, false, true, false, false, false, false, false, false, false, false, false, false, false, false, false, false, false, false, false, false, false, false, false, false, false, false, false, false, false, false, false, false, false, false, false, false, false, false, false, false, false, false, false, false, false, false, false, false, false, false, false, false, false, false, false, false, false, false, false, false, false, false, false, false, false, false, false, false, false, false, false, false, false, false, false, false, false, false, false, false, false, false, false, false, false, false, false, false, false, false, false, false, false, false, false, false, false, false, false, false, false, false, false, false, false, false, false, false, false, false, false, false, false, false, false, false, false, false, false, false, false, false, false, false, false, false, false, false, false, false, false, false, false, false, false, false, false, false, false, false, false, false, false, false, false, false, false, false, false, false, false, false, false] false b63_0))) (.seq (.region [⟨(some 12), (.assign (.const (.bool false))), none, false⟩]) .ret))))))))), (170, [(.tmp 12)])) : Option (ACode × Nat × List ResultVar)) := by kernel_rfl
def b64_0 : ACode := (.seq (.seq (.region [⟨(some 6), (.move (.tmp 5)), none, false⟩, ⟨(some 7), (.move (.tmp 0)), none, false⟩, ⟨(some 8), (.call { callee := .builtin .len, args := #[(.tmp 7)], argTypes := #[37] }), none, false⟩, ⟨(some 9), (.binOp .lss 3 (.tmp 6) (.tmp 8) 3), none, false⟩]) (.cond (.tmp 9) .skip (.exit 0))) (.seq (.block 1 (.seq (.region [⟨(some 12), (.move (.tmp 0)), none, false⟩, ⟨(some 13), (.move (.tmp 5)), none, false⟩, ⟨(some 14), (.indexAddr 37 (.tmp 12) (.tmp 13)), none, false⟩, ⟨(some 15), (.fieldAddr 40 (.tmp 14) 0), none, false⟩, ⟨(some 16), (.load 3 (.tmp 15)), none, false⟩, ⟨(some 17), (.move (.tmp 1)), none, false⟩, ⟨(some 18), (.binOp .eql 3 (.tmp 16) (.tmp 17) 3), none, false⟩]) (.cond (.tmp 18) (.seq (.region [⟨(some 19), (.move (.tmp 0)), none, false⟩, ⟨(some 20), (.move (.tmp 5)), none, false⟩, ⟨(some 21), (.indexAddr 37 (.tmp 19) (.tmp 20)), none, false⟩, ⟨(some 22), (.fieldAddr 40 (.tmp 21) 1), none, false⟩, ⟨(some 23), (.load 28 (.tmp 22)), none, false⟩, ⟨none, (.store 28 (.tmp 4) (.tmp 23)), none, false⟩]) .ret) .skip))) (.region [⟨(some 10), (.move (.tmp 5)), none, false⟩, ⟨(some 11), (.binOp .add 3 (.tmp 10) (.const (.int .i64 1)) 3), none, false⟩, ⟨(some 5), (.assign (.tmp 11)), none, false⟩])))
theorem code64 : bodyOf Try.prog 64 = (some ((.seq (.region [⟨(some 4), (.alloc 28), none, false⟩]) (.seq (.seq (.region [⟨(some 5), (.assign (.const (.int .i64 0))), none, false⟩]) (.block 0 (.loop [true, true, false, false, true, true, false, false, false, false, false, false, false, false, false, false, false, false, false, false, false, false, false, false, true, true] false b64_0))) (.seq (.region [⟨(some 24), (.move (.tmp 1)), none, false⟩, ⟨(some 25), (.build 28 #[(0, (.tmp 24))]), none, false⟩, ⟨none, (.store 28 (.tmp 4) (.tmp 25)), none, false⟩]) .ret))), (26, [(.cell 4 28)])) : Option (ACode × Nat × List ResultVar)) := by kernel_rfl
def b65_0 : ACode := (.seq (.seq (.region [⟨(some 8), (.move (.tmp 7)), none, false⟩, ⟨(some 9), (.move (.tmp 0)), none, false⟩, ⟨(some 10), (.call { callee := .builtin .len, args := #[(.tmp 9)], argTypes := #[23] }), none, false⟩, ⟨(some 11), (.binOp .lss 3 (.tmp 8) (.tmp 10) 3), none, false⟩]) (.cond (.tmp 11) .skip (.exit 0))) (.seq (.block 1 (.seq (.seq (.region [⟨(some 14), (.move (.tmp 6)), none, false⟩, ⟨(some 15), (.unOp .not 4 (.tmp 14)), none, false⟩, ⟨(some 16), (.move (.tmp 15)), none, false⟩, ⟨(some 17), (.move (.tmp 0)), (some (16, true)), false⟩, ⟨(some 18), (.move (.tmp 7)), (some (16, true)), false⟩, ⟨(some 19), (.indexAddr 23 (.tmp 17) (.tmp 18)), (some (16, true)), false⟩, ⟨(some 20), (.load 3 (.tmp 19)), (some (16, true)), false⟩, ⟨(some 21), (.move (.tmp 1)), (some (16, true)), false⟩, ⟨(some 22), (.binOp .geq 3 (.tmp 20) (.tmp 21) 3), (some (16, true)), false⟩, ⟨(some 23), (.pick (.tmp 16) (.tmp 22) (.const (.bool false))), none, false⟩]) (.cond (.tmp 23) (.seq (.region [⟨(some 24), (.move (.tmp 5)), none, false⟩, ⟨(some 25), (.move (.tmp 1)), none, false⟩, ⟨(some 26), (.buildSlice 23 1 #[(0, (.tmp 25))]), none, false⟩, ⟨(some 27), (.call { callee := (.builtin .append), args := #[(.tmp 24), (.tmp 26)], argTypes := #[23, 23] }), none, false⟩, ⟨(some 5), (.assign (.tmp 27)), none, false⟩]) (.region [⟨(some 6), (.assign (.const (.bool true))), none, false⟩])) .skip)) (.seq (.region [⟨(some 28), (.move (.tmp 0)), none, false⟩, ⟨(some 29), (.move (.tmp 7)), none, false⟩, ⟨(some 30), (.indexAddr 23 (.tmp 28) (.tmp 29)), none, false⟩, ⟨(some 31), (.load 3 (.tmp 30)), none, false⟩, ⟨(some 32), (.move (.tmp 1)), none, false⟩, ⟨(some 33), (.binOp .neq 3 (.tmp 31) (.tmp 32) 3), none, false⟩]) (.cond (.tmp 33) (.region [⟨(some 34), (.move (.tmp 5)), none, false⟩, ⟨(some 35), (.move (.tmp 0)), none, false⟩, ⟨(some 36), (.move (.tmp 7)), none, false⟩, ⟨(some 37), (.indexAddr 23 (.tmp 35) (.tmp 36)), none, false⟩, ⟨(some 38), (.load 3 (.tmp 37)), none, false⟩, ⟨(some 39), (.buildSlice 23 1 #[(0, (.tmp 38))]), none, false⟩, ⟨(some 40), (.call { callee := (.builtin .append), args := #[(.tmp 34), (.tmp 39)], argTypes := #[23, 23] }), none, false⟩, ⟨(some 5), (.assign (.tmp 40)), none, false⟩]) .skip)))) (.region [⟨(some 12), (.move (.tmp 7)), none, false⟩, ⟨(some 13), (.binOp .add 3 (.tmp 12) (.const (.int .i64 1)) 3), none, false⟩, ⟨(some 7), (.assign (.tmp 13)), none, false⟩])))
theorem code65 : bodyOf Try.prog 65 = (some ((.seq (.region [⟨(some 4), (.assign (.const (.slice none 0 0))), none, false⟩]) (.seq (.region [⟨(some 5), (.assign (.const (.slice none 0 0))), none, false⟩]) (.seq (.region [⟨(some 6), (.assign (.const (.bool false))), none, false⟩]) (.seq (.seq (.region [⟨(some 7), (.assign (.const (.int .i64 0))), none, false⟩]) (.block 0 (.loop [true, true, false, false, true, true, true, true, false, false, false, false, false, false, false, false, false, false, false, false, false, false, false, false, false, false, false, false, false, false, false, false, false, false, false, false, false, false, false, false, false, true, true, true, true, true, true, true] false b65_0))) (.seq (.seq (.region [⟨(some 41), (.move (.tmp 6)), none, false⟩, ⟨(some 42), (.unOp .not 4 (.tmp 41)), none, false⟩]) (.cond (.tmp 42) (.region [⟨(some 43), (.move (.tmp 5)), none, false⟩, ⟨(some 44), (.move (.tmp 1)), none, false⟩, ⟨(some 45), (.buildSlice 23 1 #[(0, (.tmp 44))]), none, false⟩, ⟨(some 46), (.call { callee := (.builtin .append), args := #[(.tmp 43), (.tmp 45)], argTypes := #[23, 23] }), none, false⟩, ⟨(some 5), (.assign (.tmp 46)), none, false⟩]) .skip)) (.seq (.region [⟨(some 47), (.move (.tmp 5)), none, false⟩, ⟨(some 4), (.assign (.tmp 47)), none, false⟩]) .ret)))))), (48, [(.tmp 4)])) : Option (ACode × Nat × List ResultVar)) := by kernel_rfl
theorem code66 : bodyOf Try.prog 66 = (some ((.seq (.region [⟨(some 2), (.assign (.const (.int .i64 0))), none, false⟩]) (.seq (.seq (.region [⟨(some 3), (.move (.tmp 0)), none, false⟩]) (.cond (.tmp 3) (.seq (.region [⟨(some 2), (.assign (.const (.int .i64 1))), none, false⟩]) .ret) .skip)) (.seq (.region [⟨(some 2), (.assign (.const (.int .i64 (-1)))), none, false⟩]) .ret))), (4, [(.tmp 2)])) : Option (ACode × Nat × List ResultVar)) := by kernel_rfl
def b67_0 : ACode := (.seq (.region [⟨(some 11), (.binOp .lss 3 (.tmp 10) (.tmp 9) 3), none, false⟩]) (.seq (.cond (.tmp 11) .skip (.exit 0)) (.seq (.block 1 (.seq (.region [⟨(some 12), (.move (.tmp 10)), none, false⟩, ⟨(some 6), (.assign (.tmp 12)), none, false⟩]) (.seq (.dregion [⟨(some 13), (.fieldAddr 28 (.tmp 2) 2), none, false⟩, ⟨(some 14), (.load 26 (.tmp 13)), none, false⟩, ⟨(some 15), (.move (.tmp 6)), none, false⟩, ⟨(some 16), (.indexAddr 26 (.tmp 14) (.tmp 15)), none, false⟩, ⟨(some 17), (.load 28 (.tmp 16)), none, false⟩, ⟨(some 18), (.fieldAddr 28 (.tmp 3) 2), none, false⟩, ⟨(some 19), (.load 26 (.tmp 18)), none, false⟩, ⟨(some 20), (.move (.tmp 6)), none, false⟩, ⟨(some 21), (.indexAddr 26 (.tmp 19) (.tmp 20)), none, false⟩, ⟨(some 22), (.load 28 (.tmp 21)), none, false⟩, ⟨(some 23), (.call { callee := (.value (.func 35)), args := #[(.tmp 17), (.tmp 22)], argTypes := #[28, 28] }), none, true⟩, ⟨(some 24), (.unOp .not 4 (.tmp 23)), none, false⟩]) (.cond (.tmp 24) (.seq (.region [⟨(some 25), (.move (.tmp 6)), none, false⟩, ⟨(some 5), (.assign (.tmp 25)), none, false⟩]) (.exit 0)) .skip)))) (.region [⟨(some 26), (.binOp .add 3 (.tmp 10) (.const (.int .i64 1)) 3), none, false⟩, ⟨(some 10), (.move (.tmp 26)), none, false⟩]))))
theorem code67 : bodyOf Try.prog 67 = (some ((.seq (.region [⟨(some 2), (.box 28 (.tmp 0)), none, false⟩, ⟨(some 3), (.box 28 (.tmp 1)), none, false⟩, ⟨(some 4), (.assign (.const (.int .i64 0))), none, false⟩]) (.seq (.region [⟨(some 5), (.assign (.const (.int .i64 (-1)))), none, false⟩]) (.seq .skip (.seq (.seq (.region [⟨(some 7), (.fieldAddr 28 (.tmp 2) 2), none, false⟩, ⟨(some 8), (.load 26 (.tmp 7)), none, false⟩, ⟨(some 9), (.call { callee := .builtin .len, args := #[(.tmp 8)], argTypes := #[26] }), none, false⟩, ⟨(some 10), (.move (.const (.int .i64 0))), none, false⟩]) (.block 0 (.loop [false, false, true, true, true, true, false, false, false, true, true, false, false, false, false, false, false, false, false, false, false, false, false, false, false, false, false, true] false b67_0))) (.seq (.region [⟨(some 27), (.move (.tmp 5)), none, false⟩, ⟨(some 4), (.assign (.tmp 27)), none, false⟩]) .ret))))), (28, [(.tmp 4)])) : Option (ACode × Nat × List ResultVar)) := by kernel_rfl
def b68_0 : ACode := (.seq (.seq (.region [⟨(some 16), (.move (.tmp 6)), none, false⟩, ⟨(some 17), (.fieldAddr 28 (.tmp 2) 2), none, false⟩, ⟨(some 18), (.load 26 (.tmp 17)), none, false⟩, ⟨(some 19), (.call { callee := .builtin .len, args := #[(.tmp 18)], argTypes := #[26] }), none, false⟩, ⟨(some 20), (.binOp .lss 3 (.tmp 16) (.tmp 19) 3), none, false⟩]) (.cond (.tmp 20) .skip (.exit 0))) (.seq (.block 1 (.region [⟨(some 23), (.move (.tmp 5)), none, false⟩, ⟨(some 24), (.fieldAddr 28 (.tmp 2) 2), none, false⟩, ⟨(some 25), (.load 26 (.tmp 24)), none, false⟩, ⟨(some 26), (.move (.tmp 6)), none, false⟩, ⟨(some 27), (.indexAddr 26 (.tmp 25) (.tmp 26)), none, false⟩, ⟨(some 28), (.load 28 (.tmp 27)), none, false⟩, ⟨(some 29), (.move (.tmp 1)), none, false⟩, ⟨(some 30), (.call { callee := (.value (.func 68)), args := #[(.tmp 28), (.tmp 29)], argTypes := #[28, 3] }), none, false⟩, ⟨(some 31), (.binOp .add 3 (.tmp 23) (.tmp 30) 3), none, false⟩, ⟨(some 5), (.assign (.tmp 31)), none, false⟩])) (.region [⟨(some 21), (.move (.tmp 6)), none, false⟩, ⟨(some 22), (.binOp .add 3 (.tmp 21) (.const (.int .i64 1)) 3), none, false⟩, ⟨(some 6), (.assign (.tmp 22)), none, false⟩])))
theorem code68 : bodyOf Try.prog 68 = (some ((.seq (.region [⟨(some 2), (.box 28 (.tmp 0)), none, false⟩, ⟨(some 4), (.assign (.const (.int .i64 0))), none, false⟩]) (.seq (.region [⟨(some 5), (.assign (.const (.int .i64 0))), none, false⟩]) (.seq (.seq (.region [⟨(some 7), (.fieldAddr 28 (.tmp 2) 1), none, false⟩, ⟨(some 8), (.load 9 (.tmp 7)), none, false⟩, ⟨(some 9), (.binOp .eql 9 (.tmp 8) (.const (.string (ByteArray.mk #[]))) 9), none, false⟩, ⟨(some 10), (.move (.tmp 9)), none, false⟩, ⟨(some 11), (.fieldAddr 28 (.tmp 2) 0), (some (10, true)), false⟩, ⟨(some 12), (.load 3 (.tmp 11)), (some (10, true)), false⟩, ⟨(some 13), (.move (.tmp 1)), (some (10, true)), false⟩, ⟨(some 14), (.binOp .eql 3 (.tmp 12) (.tmp 13) 3), (some (10, true)), false⟩, ⟨(some 15), (.pick (.tmp 10) (.tmp 14) (.const (.bool false))), none, false⟩]) (.cond (.tmp 15) (.region [⟨(some 5), (.assign (.const (.int .i64 1))), none, false⟩]) .skip)) (.seq (.seq (.region [⟨(some 6), (.assign (.const (.int .i64 0))), none, false⟩]) (.block 0 (.loop [false, true, true, false, true, true, true, false, false, false, false, false, false, false, false, false, false, false, false, false, false, false, false, false, false, false, false, false, false, false, false, false, true] false b68_0))) (.seq (.region [⟨(some 32), (.move (.tmp 5)), none, false⟩, ⟨(some 4), (.assign (.tmp 32)), none, false⟩]) .ret))))), (33, [(.tmp 4)])) : Option (ACode × Nat × List ResultVar)) := by kernel_rfl
theorem code69 : bodyOf Try.prog 69 = (some ((.seq (.region [⟨(some 3), (.box 25 (.tmp 0)), none, false⟩, ⟨(some 4), (.box 28 (.tmp 1)), none, false⟩, ⟨(some 5), (.box 28 (.tmp 2)), none, false⟩, ⟨(some 6), (.assign (.const (.bool false))), none, false⟩]) (.seq (.seq (.region [⟨(some 7), (.fieldAddr 28 (.tmp 4) 1), none, false⟩, ⟨(some 8), (.load 9 (.tmp 7)), none, false⟩, ⟨(some 9), (.fieldAddr 28 (.tmp 5) 1), none, false⟩, ⟨(some 10), (.load 9 (.tmp 9)), none, false⟩, ⟨(some 11), (.binOp .eql 9 (.tmp 8) (.tmp 10) 9), none, false⟩]) (.cond (.tmp 11) (.seq (.region [⟨(some 12), (.fieldAddr 28 (.tmp 4) 2), none, false⟩, ⟨(some 13), (.load 26 (.tmp 12)), none, false⟩, ⟨(some 14), (.call { callee := .builtin .len, args := #[(.tmp 13)], argTypes := #[26] }), none, false⟩, ⟨(some 15), (.fieldAddr 28 (.tmp 5) 2), none, false⟩, ⟨(some 16), (.load 26 (.tmp 15)), none, false⟩, ⟨(some 17), (.call { callee := .builtin .len, args := #[(.tmp 16)], argTypes := #[26] }), none, false⟩, ⟨(some 18), (.binOp .gtr 3 (.tmp 14) (.tmp 17) 3), none, false⟩, ⟨(some 6), (.assign (.tmp 18)), none, false⟩]) .ret) .skip)) (.seq (.region [⟨(some 19), (.load 25 (.tmp 3)), none, false⟩, ⟨(some 20), (.fieldAddr 28 (.tmp 4) 1), none, false⟩, ⟨(some 21), (.load 9 (.tmp 20)), none, false⟩, ⟨(some 22), (.fieldAddr 28 (.tmp 5) 1), none, false⟩, ⟨(some 23), (.load 9 (.tmp 22)), none, false⟩, ⟨(some 24), (.call { callee := (.value (.func 32)), args := #[(.tmp 19), (.tmp 21), (.tmp 23)], argTypes := #[25, 9, 9] }), none, false⟩, ⟨(some 6), (.assign (.tmp 24)), none, false⟩]) .ret))), (25, [(.tmp 6)])) : Option (ACode × Nat × List ResultVar)) := by kernel_rfl
theorem code70 : bodyOf Try.prog 70 = (some ((.seq (.region [⟨(some 2), (.box 32 (.tmp 0)), none, false⟩, ⟨(some 4), (.assign (.const (.int .i64 0))), none, false⟩]) (.seq (.region [⟨(some 6), (.fieldAddr 32 (.tmp 2) 0), none, false⟩, ⟨(some 7), (.load 22 (.tmp 6)), none, false⟩, ⟨(some 8), (.move (.tmp 1)), none, false⟩, ⟨(some 9), (.call { callee := (.value (.func 44)), args := #[(.tmp 7), (.tmp 8)], argTypes := #[22, 9] }), none, false⟩, ⟨(some 5), (.assign (.tmp 9)), none, false⟩]) (.seq (.seq (.region [⟨(some 10), (.move (.tmp 1)), none, false⟩, ⟨(some 11), (.binOp .eql 9 (.tmp 10) (.const (.string (ByteArray.mk #[]))) 9), none, false⟩, ⟨(some 12), (.move (.tmp 11)), none, false⟩, ⟨(some 13), (.move (.tmp 5)), (some (12, false)), false⟩, ⟨(some 14), (.binOp .lss 3 (.tmp 13) (.const (.int .i64 0)) 3), (some (12, false)), false⟩, ⟨(some 15), (.pick (.tmp 12) (.const (.bool true)) (.tmp 14)), none, false⟩, ⟨(some 16), (.move (.tmp 15)), none, false⟩, ⟨(some 17), (.move (.tmp 5)), (some (16, false)), false⟩, ⟨(some 18), (.fieldAddr 32 (.tmp 2) 1), (some (16, false)), false⟩, ⟨(some 19), (.load 23 (.tmp 18)), (some (16, false)), false⟩, ⟨(some 20), (.call { callee := .builtin .len, args := #[(.tmp 19)], argTypes := #[23] }), (some (16, false)), false⟩, ⟨(some 21), (.binOp .geq 3 (.tmp 17) (.tmp 20) 3), (some (16, false)), false⟩, ⟨(some 22), (.pick (.tmp 16) (.const (.bool true)) (.tmp 21)), none, false⟩, ⟨(some 23), (.move (.tmp 22)), none, false⟩, ⟨(some 24), (.fieldAddr 32 (.tmp 2) 1), (some (23, false)), false⟩, ⟨(some 25), (.load 23 (.tmp 24)), (some (23, false)), false⟩, ⟨(some 26), (.move (.tmp 5)), (some (23, false)), false⟩, ⟨(some 27), (.indexAddr 23 (.tmp 25) (.tmp 26)), (some (23, false)), false⟩, ⟨(some 28), (.load 3 (.tmp 27)), (some (23, false)), false⟩, ⟨(some 29), (.binOp .lss 3 (.tmp 28) (.const (.int .i64 1)) 3), (some (23, false)), false⟩, ⟨(some 30), (.pick (.tmp 23) (.const (.bool true)) (.tmp 29)), none, false⟩, ⟨(some 31), (.move (.tmp 30)), none, false⟩, ⟨(some 32), (.fieldAddr 32 (.tmp 2) 1), (some (31, false)), false⟩, ⟨(some 33), (.load 23 (.tmp 32)), (some (31, false)), false⟩, ⟨(some 34), (.move (.tmp 5)), (some (31, false)), false⟩, ⟨(some 35), (.indexAddr 23 (.tmp 33) (.tmp 34)), (some (31, false)), false⟩, ⟨(some 36), (.load 3 (.tmp 35)), (some (31, false)), false⟩, ⟨(some 37), (.binOp .gtr 3 (.tmp 36) (.const (.int .i64 1000)) 3), (some (31, false)), false⟩, ⟨(some 38), (.pick (.tmp 31) (.const (.bool true)) (.tmp 37)), none, false⟩]) (.cond (.tmp 38) (.seq (.region [⟨(some 4), (.assign (.const (.int .i64 1))), none, false⟩]) .ret) .skip)) (.seq (.region [⟨(some 39), (.fieldAddr 32 (.tmp 2) 1), none, false⟩, ⟨(some 40), (.load 23 (.tmp 39)), none, false⟩, ⟨(some 41), (.move (.tmp 5)), none, false⟩, ⟨(some 42), (.indexAddr 23 (.tmp 40) (.tmp 41)), none, false⟩, ⟨(some 43), (.load 3 (.tmp 42)), none, false⟩, ⟨(some 4), (.assign (.tmp 43)), none, false⟩]) .ret)))), (44, [(.tmp 4)])) : Option (ACode × Nat × List ResultVar)) := by kernel_rfl
theorem code71 : bodyOf Try.prog 71 = (some ((.seq (.region [⟨(some 1), (.box 28 (.tmp 0)), none, false⟩, ⟨(some 2), (.assign (.const (.bool false))), none, false⟩]) (.seq (.seq (.region [⟨(some 3), (.fieldAddr 28 (.tmp 1) 1), none, false⟩, ⟨(some 4), (.load 9 (.tmp 3)), none, false⟩, ⟨(some 5), (.binOp .eql 9 (.tmp 4) (.const (.string (ByteArray.mk #[]))) 9), none, false⟩]) (.cond (.tmp 5) (.seq (.region [⟨(some 6), (.fieldAddr 28 (.tmp 1) 0), none, false⟩, ⟨(some 7), (.load 3 (.tmp 6)), none, false⟩, ⟨(some 8), (.binOp .geq 3 (.tmp 7) (.const (.int .i64 0)) 3), none, false⟩, ⟨(some 9), (.move (.tmp 8)), none, false⟩, ⟨(some 10), (.fieldAddr 28 (.tmp 1) 0), (some (9, true)), false⟩, ⟨(some 11), (.load 3 (.tmp 10)), (some (9, true)), false⟩, ⟨(some 12), (.binOp .lss 3 (.tmp 11) (.const (.int .i64 1000000)) 3), (some (9, true)), false⟩, ⟨(some 13), (.pick (.tmp 9) (.tmp 12) (.const (.bool false))), none, false⟩, ⟨(some 14), (.move (.tmp 13)), none, false⟩, ⟨(some 15), (.fieldAddr 28 (.tmp 1) 2), (some (14, true)), false⟩, ⟨(some 16), (.load 26 (.tmp 15)), (some (14, true)), false⟩, ⟨(some 17), (.call { callee := .builtin .len, args := #[(.tmp 16)], argTypes := #[26] }), (some (14, true)), false⟩, ⟨(some 18), (.binOp .eql 3 (.tmp 17) (.const (.int .i64 0)) 3), (some (14, true)), false⟩, ⟨(some 19), (.pick (.tmp 14) (.tmp 18) (.const (.bool false))), none, false⟩, ⟨(some 2), (.assign (.tmp 19)), none, false⟩]) .ret) .skip)) (.seq (.region [⟨(some 20), (.fieldAddr 28 (.tmp 1) 0), none, false⟩, ⟨(some 21), (.load 3 (.tmp 20)), none, false⟩, ⟨(some 22), (.binOp .eql 3 (.tmp 21) (.const (.int .i64 0)) 3), none, false⟩, ⟨(some 23), (.move (.tmp 22)), none, false⟩, ⟨(some 24), (.fieldAddr 28 (.tmp 1) 1), (some (23, true)), false⟩, ⟨(some 25), (.load 9 (.tmp 24)), (some (23, true)), false⟩, ⟨(some 26), (.call { callee := .builtin .len, args := #[(.tmp 25)], argTypes := #[9] }), (some (23, true)), false⟩, ⟨(some 27), (.binOp .leq 3 (.tmp 26) (.const (.int .i64 64)) 3), (some (23, true)), false⟩, ⟨(some 28), (.pick (.tmp 23) (.tmp 27) (.const (.bool false))), none, false⟩, ⟨(some 29), (.move (.tmp 28)), none, false⟩, ⟨(some 30), (.fieldAddr 28 (.tmp 1) 2), (some (29, true)), false⟩, ⟨(some 31), (.load 26 (.tmp 30)), (some (29, true)), false⟩, ⟨(some 32), (.call { callee := .builtin .len, args := #[(.tmp 31)], argTypes := #[26] }), (some (29, true)), false⟩, ⟨(some 33), (.binOp .leq 3 (.tmp 32) (.const (.int .i64 16)) 3), (some (29, true)), false⟩, ⟨(some 34), (.pick (.tmp 29) (.tmp 33) (.const (.bool false))), none, false⟩, ⟨(some 2), (.assign (.tmp 34)), none, false⟩]) .ret))), (35, [(.tmp 2)])) : Option (ACode × Nat × List ResultVar)) := by kernel_rfl
theorem code72 : bodyOf Try.prog 72 = (some ((.seq (.region [⟨(some 4), (.assign (.const (.bool false))), none, false⟩]) (.seq (.region [⟨(some 5), (.move (.tmp 0)), none, false⟩, ⟨(some 6), (.move (.tmp 1)), none, false⟩, ⟨(some 7), (.call { callee := (.value (.func 75)), args := #[(.tmp 5), (.tmp 6)], argTypes := #[26, 63] }), none, false⟩, ⟨(some 8), (.binOp .geq 3 (.tmp 7) (.const (.int .i64 0)) 3), none, false⟩, ⟨(some 4), (.assign (.tmp 8)), none, false⟩]) .ret)), (9, [(.tmp 4)])) : Option (ACode × Nat × List ResultVar)) := by kernel_rfl
theorem code73 : bodyOf Try.prog 73 = (some ((.seq (.region [⟨(some 1), (.box 28 (.tmp 0)), none, false⟩, ⟨(some 2), (.assign (.const (.bool false))), none, false⟩]) (.seq (.region [⟨(some 3), (.load 28 (.tmp 1)), none, false⟩, ⟨(some 4), (.call { callee := (.value (.func 51)), args := #[(.tmp 3)], argTypes := #[28] }), none, false⟩, ⟨(some 5), (.unOp .not 4 (.tmp 4)), none, false⟩, ⟨(some 2), (.assign (.tmp 5)), none, false⟩]) .ret)), (6, [(.tmp 2)])) : Option (ACode × Nat × List ResultVar)) := by kernel_rfl
def b74_0 : ACode := (.seq (.region [⟨(some 9), (.binOp .lss 3 (.tmp 8) (.tmp 7) 3), none, false⟩]) (.seq (.cond (.tmp 9) .skip (.exit 0)) (.seq (.block 1 (.seq (.region [⟨(some 10), (.move (.tmp 8)), none, false⟩, ⟨(some 5), (.assign (.tmp 10)), none, false⟩]) (.seq (.region [⟨(some 11), (.move (.tmp 1)), none, false⟩, ⟨(some 12), (.move (.tmp 0)), none, false⟩, ⟨(some 13), (.move (.tmp 5)), none, false⟩, ⟨(some 14), (.indexAddr 23 (.tmp 12) (.tmp 13)), none, false⟩, ⟨(some 15), (.load 3 (.tmp 14)), none, false⟩, ⟨(some 16), (.call { callee := (.value (.tmp 11)), args := #[(.tmp 15)], argTypes := #[3] }), none, false⟩]) (.cond (.tmp 16) (.seq (.region [⟨(some 17), (.move (.tmp 5)), none, false⟩, ⟨(some 4), (.assign (.tmp 17)), none, false⟩]) .ret) .skip)))) (.region [⟨(some 18), (.binOp .add 3 (.tmp 8) (.const (.int .i64 1)) 3), none, false⟩, ⟨(some 8), (.move (.tmp 18)), none, false⟩]))))
theorem code74 : bodyOf Try.prog 74 = (some ((.seq (.region [⟨(some 4), (.assign (.const (.int .i64 0))), none, false⟩]) (.seq (.seq (.region [⟨(some 6), (.move (.tmp 0)), none, false⟩, ⟨(some 7), (.call { callee := .builtin .len, args := #[(.tmp 6)], argTypes := #[23] }), none, false⟩, ⟨(some 8), (.move (.const (.int .i64 0))), none, false⟩]) (.block 0 (.loop [true, true, false, false, true, false, false, true, true, false, false, false, false, false, false, false, false, false, false] false b74_0))) (.seq (.region [⟨(some 4), (.assign (.const (.int .i64 (-1)))), none, false⟩]) .ret))), (19, [(.tmp 4)])) : Option (ACode × Nat × List ResultVar)) := by kernel_rfl
def b75_0 : ACode := (.seq (.region [⟨(some 9), (.binOp .lss 3 (.tmp 8) (.tmp 7) 3), none, false⟩]) (.seq (.cond (.tmp 9) .skip (.exit 0)) (.seq (.block 1 (.seq (.region [⟨(some 10), (.move (.tmp 8)), none, false⟩, ⟨(some 5), (.assign (.tmp 10)), none, false⟩]) (.seq (.region [⟨(some 11), (.move (.tmp 1)), none, false⟩, ⟨(some 12), (.move (.tmp 0)), none, false⟩, ⟨(some 13), (.move (.tmp 5)), none, false⟩, ⟨(some 14), (.indexAddr 26 (.tmp 12) (.tmp 13)), none, false⟩, ⟨(some 15), (.load 28 (.tmp 14)), none, false⟩, ⟨(some 16), (.call { callee := (.value (.tmp 11)), args := #[(.tmp 15)], argTypes := #[28] }), none, false⟩]) (.cond (.tmp 16) (.seq (.region [⟨(some 17), (.move (.tmp 5)), none, false⟩, ⟨(some 4), (.assign (.tmp 17)), none, false⟩]) .ret) .skip)))) (.region [⟨(some 18), (.binOp .add 3 (.tmp 8) (.const (.int .i64 1)) 3), none, false⟩, ⟨(some 8), (.move (.tmp 18)), none, false⟩]))))
theorem code75 : bodyOf Try.prog 75 = (some ((.seq (.region [⟨(some 4), (.assign (.const (.int .i64 0))), none, false⟩]) (.seq (.seq (.region [⟨(some 6), (.move (.tmp 0)), none, false⟩, ⟨(some 7), (.call { callee := .builtin .len, args := #[(.tmp 6)], argTypes := #[26] }), none, false⟩, ⟨(some 8), (.move (.const (.int .i64 0))), none, false⟩]) (.block 0 (.loop [true, true, false, false, true, false, false, true, true, false, false, false, false, false, false, false, false, false, false] false b75_0))) (.seq (.region [⟨(some 4), (.assign (.const (.int .i64 (-1)))), none, false⟩]) .ret))), (19, [(.tmp 4)])) : Option (ACode × Nat × List ResultVar)) := by kernel_rfl
@[simp] theorem ts3 : tsize Try.prog 3 = some 1 := by kernel_rfl
@[simp] theorem ta3 : tagg Try.prog 3 = some false := by kernel_rfl
@[simp] theorem tk3 : tkind Try.prog 3 = 6 := by kernel_rfl
@[simp] theorem ti3 : tint Try.prog 3 = some IntKind.i64 := by kernel_rfl
@[simp] theorem tb3 : tbytes Try.prog 3 = some true := by kernel_rfl
@[simp] theorem th3 : tshape Try.prog 3 = some (false, [(KK.int IntKind.i64)]) := by kernel_rfl
@[simp] theorem tg3 : tguard Try.prog 3 = false := by kernel_rfl
@[simp] theorem tz3 : zeroCells Try.prog 3 = some [(AV.d (D.int IntKind.i64 0))] := by kernel_rfl
@[simp] theorem tv3 : zeroAV Try.prog 3 = some (AV.d (D.int IntKind.i64 0)) := by kernel_rfl
@[simp] theorem tr3 : tarr Try.prog 3 = none := by kernel_rfl
@[simp] theorem ts4 : tsize Try.prog 4 = some 1 := by kernel_rfl
@[simp] theorem ta4 : tagg Try.prog 4 = some false := by kernel_rfl
@[simp] theorem tk4 : tkind Try.prog 4 = 1 := by kernel_rfl
@[simp] theorem tb4 : tbytes Try.prog 4 = some true := by kernel_rfl
@[simp] theorem th4 : tshape Try.prog 4 = some (false, [KK.bool]) := by kernel_rfl
@[simp] theorem tg4 : tguard Try.prog 4 = false := by kernel_rfl
@[simp] theorem tz4 : zeroCells Try.prog 4 = some [(AV.d (D.bool false))] := by kernel_rfl
@[simp] theorem tv4 : zeroAV Try.prog 4 = some (AV.d (D.bool false)) := by kernel_rfl
@[simp] theorem tr4 : tarr Try.prog 4 = none := by kernel_rfl
@[simp] theorem ts9 : tsize Try.prog 9 = some 1 := by kernel_rfl
@[simp] theorem ta9 : tagg Try.prog 9 = some false := by kernel_rfl
@[simp] theorem tk9 : tkind Try.prog 9 = 7 := by kernel_rfl
@[simp] theorem tb9 : tbytes Try.prog 9 = some true := by kernel_rfl
@[simp] theorem th9 : tshape Try.prog 9 = some (false, [KK.str]) := by kernel_rfl
@[simp] theorem tg9 : tguard Try.prog 9 = false := by kernel_rfl
@[simp] theorem tz9 : zeroCells Try.prog 9 = some [(AV.d (D.str (ByteArray.mk #[])))] := by kernel_rfl
@[simp] theorem tv9 : zeroAV Try.prog 9 = some (AV.d (D.str (ByteArray.mk #[]))) := by kernel_rfl
@[simp] theorem tr9 : tarr Try.prog 9 = none := by kernel_rfl
@[simp] theorem ts22 : tsize Try.prog 22 = some 1 := by kernel_rfl
@[simp] theorem ta22 : tagg Try.prog 22 = some false := by kernel_rfl
@[simp] theorem te22 : telem Try.prog 22 = some 9 := by kernel_rfl
@[simp] theorem tk22 : tkind Try.prog 22 = 3 := by kernel_rfl
@[simp] theorem tb22 : tbytes Try.prog 22 = some true := by kernel_rfl
@[simp] theorem tg22 : tguard Try.prog 22 = false := by kernel_rfl
@[simp] theorem tz22 : zeroCells Try.prog 22 = some [(AV.d (D.sl [] 0 true (some true)))] := by kernel_rfl
@[simp] theorem tv22 : zeroAV Try.prog 22 = some (AV.d (D.sl [] 0 true (some true))) := by kernel_rfl
@[simp] theorem tr22 : tarr Try.prog 22 = none := by kernel_rfl
@[simp] theorem ts23 : tsize Try.prog 23 = some 1 := by kernel_rfl
@[simp] theorem ta23 : tagg Try.prog 23 = some false := by kernel_rfl
@[simp] theorem te23 : telem Try.prog 23 = some 3 := by kernel_rfl
@[simp] theorem tk23 : tkind Try.prog 23 = 3 := by kernel_rfl
@[simp] theorem tb23 : tbytes Try.prog 23 = some true := by kernel_rfl
@[simp] theorem tg23 : tguard Try.prog 23 = false := by kernel_rfl
@[simp] theorem tz23 : zeroCells Try.prog 23 = some [(AV.d (D.sl [] 0 true (some true)))] := by kernel_rfl
@[simp] theorem tv23 : zeroAV Try.prog 23 = some (AV.d (D.sl [] 0 true (some true))) := by kernel_rfl
@[simp] theorem tr23 : tarr Try.prog 23 = none := by kernel_rfl
@[simp] theorem ts25 : tsize Try.prog 25 = some 2 := by kernel_rfl
@[simp] theorem ta25 : tagg Try.prog 25 = some true := by kernel_rfl
@[simp] theorem tk25 : tkind Try.prog 25 = 0 := by kernel_rfl
@[simp] theorem tp25 : tplaces Try.prog 25 = some [(0, 1), (1, 1)] := by kernel_rfl
@[simp] theorem tb25 : tbytes Try.prog 25 = some true := by kernel_rfl
@[simp] theorem tg25 : tguard Try.prog 25 = false := by kernel_rfl
@[simp] theorem tf25_0 : tfield Try.prog 25 0 = some (0, 22) := by kernel_rfl
@[simp] theorem tf25_1 : tfield Try.prog 25 1 = some (1, 23) := by kernel_rfl
@[simp] theorem tz25 : zeroCells Try.prog 25 = some [(AV.d (D.sl [] 0 true (some true))), (AV.d (D.sl [] 0 true (some true)))] := by kernel_rfl
@[simp] theorem tv25 : zeroAV Try.prog 25 = some (AV.d (D.agg [(D.sl [] 0 true (some true)), (D.sl [] 0 true (some true))])) := by kernel_rfl
@[simp] theorem tr25 : tarr Try.prog 25 = none := by kernel_rfl
@[simp] theorem ts26 : tsize Try.prog 26 = some 1 := by kernel_rfl
@[simp] theorem ta26 : tagg Try.prog 26 = some false := by kernel_rfl
@[simp] theorem te26 : telem Try.prog 26 = some 28 := by kernel_rfl
@[simp] theorem tk26 : tkind Try.prog 26 = 3 := by kernel_rfl
@[simp] theorem tb26 : tbytes Try.prog 26 = some true := by kernel_rfl
@[simp] theorem tg26 : tguard Try.prog 26 = false := by kernel_rfl
@[simp] theorem tz26 : zeroCells Try.prog 26 = some [(AV.d (D.sl [] 0 true (some true)))] := by kernel_rfl
@[simp] theorem tv26 : zeroAV Try.prog 26 = some (AV.d (D.sl [] 0 true (some true))) := by kernel_rfl
@[simp] theorem tr26 : tarr Try.prog 26 = none := by kernel_rfl
@[simp] theorem ts28 : tsize Try.prog 28 = some 3 := by kernel_rfl
@[simp] theorem ta28 : tagg Try.prog 28 = some true := by kernel_rfl
@[simp] theorem tk28 : tkind Try.prog 28 = 0 := by kernel_rfl
@[simp] theorem tp28 : tplaces Try.prog 28 = some [(0, 1), (1, 1), (2, 1)] := by kernel_rfl
@[simp] theorem tb28 : tbytes Try.prog 28 = some true := by kernel_rfl
@[simp] theorem tg28 : tguard Try.prog 28 = false := by kernel_rfl
@[simp] theorem tf28_0 : tfield Try.prog 28 0 = some (0, 3) := by kernel_rfl
@[simp] theorem tf28_1 : tfield Try.prog 28 1 = some (1, 9) := by kernel_rfl
@[simp] theorem tf28_2 : tfield Try.prog 28 2 = some (2, 26) := by kernel_rfl
@[simp] theorem tz28 : zeroCells Try.prog 28 = some [(AV.d (D.int IntKind.i64 0)), (AV.d (D.str (ByteArray.mk #[]))), (AV.d (D.sl [] 0 true (some true)))] := by kernel_rfl
@[simp] theorem tv28 : zeroAV Try.prog 28 = some (AV.d (D.agg [(D.int IntKind.i64 0), (D.str (ByteArray.mk #[])), (D.sl [] 0 true (some true))])) := by kernel_rfl
@[simp] theorem tr28 : tarr Try.prog 28 = none := by kernel_rfl
@[simp] theorem ts32 : tsize Try.prog 32 = some 2 := by kernel_rfl
@[simp] theorem ta32 : tagg Try.prog 32 = some true := by kernel_rfl
@[simp] theorem tk32 : tkind Try.prog 32 = 0 := by kernel_rfl
@[simp] theorem tp32 : tplaces Try.prog 32 = some [(0, 1), (1, 1)] := by kernel_rfl
@[simp] theorem tb32 : tbytes Try.prog 32 = some true := by kernel_rfl
@[simp] theorem tg32 : tguard Try.prog 32 = false := by kernel_rfl
@[simp] theorem tf32_0 : tfield Try.prog 32 0 = some (0, 22) := by kernel_rfl
@[simp] theorem tf32_1 : tfield Try.prog 32 1 = some (1, 23) := by kernel_rfl
@[simp] theorem tz32 : zeroCells Try.prog 32 = some [(AV.d (D.sl [] 0 true (some true))), (AV.d (D.sl [] 0 true (some true)))] := by kernel_rfl
@[simp] theorem tv32 : zeroAV Try.prog 32 = some (AV.d (D.agg [(D.sl [] 0 true (some true)), (D.sl [] 0 true (some true))])) := by kernel_rfl
@[simp] theorem tr32 : tarr Try.prog 32 = none := by kernel_rfl
@[simp] theorem ts37 : tsize Try.prog 37 = some 1 := by kernel_rfl
@[simp] theorem ta37 : tagg Try.prog 37 = some false := by kernel_rfl
@[simp] theorem te37 : telem Try.prog 37 = some 40 := by kernel_rfl
@[simp] theorem tk37 : tkind Try.prog 37 = 3 := by kernel_rfl
@[simp] theorem tb37 : tbytes Try.prog 37 = some true := by kernel_rfl
@[simp] theorem tg37 : tguard Try.prog 37 = false := by kernel_rfl
@[simp] theorem tz37 : zeroCells Try.prog 37 = some [(AV.d (D.sl [] 0 true (some true)))] := by kernel_rfl
@[simp] theorem tv37 : zeroAV Try.prog 37 = some (AV.d (D.sl [] 0 true (some true))) := by kernel_rfl
@[simp] theorem tr37 : tarr Try.prog 37 = none := by kernel_rfl
@[simp] theorem ts40 : tsize Try.prog 40 = some 4 := by kernel_rfl
@[simp] theorem ta40 : tagg Try.prog 40 = some true := by kernel_rfl
@[simp] theorem tk40 : tkind Try.prog 40 = 0 := by kernel_rfl
@[simp] theorem tp40 : tplaces Try.prog 40 = some [(0, 1), (1, 3)] := by kernel_rfl
@[simp] theorem tb40 : tbytes Try.prog 40 = some true := by kernel_rfl
@[simp] theorem tg40 : tguard Try.prog 40 = false := by kernel_rfl
@[simp] theorem tf40_0 : tfield Try.prog 40 0 = some (0, 3) := by kernel_rfl
@[simp] theorem tf40_1 : tfield Try.prog 40 1 = some (1, 28) := by kernel_rfl
@[simp] theorem tz40 : zeroCells Try.prog 40 = some [(AV.d (D.int IntKind.i64 0)), (AV.d (D.int IntKind.i64 0)), (AV.d (D.str (ByteArray.mk #[]))), (AV.d (D.sl [] 0 true (some true)))] := by kernel_rfl
@[simp] theorem tv40 : zeroAV Try.prog 40 = some (AV.d (D.agg [(D.int IntKind.i64 0), (D.int IntKind.i64 0), (D.str (ByteArray.mk #[])), (D.sl [] 0 true (some true))])) := by kernel_rfl
@[simp] theorem tr40 : tarr Try.prog 40 = none := by kernel_rfl
@[simp] theorem ts41 : tsize Try.prog 41 = some 1 := by kernel_rfl
@[simp] theorem ta41 : tagg Try.prog 41 = some false := by kernel_rfl
@[simp] theorem tk41 : tkind Try.prog 41 = 6 := by kernel_rfl
@[simp] theorem ti41 : tint Try.prog 41 = some IntKind.i64 := by kernel_rfl
@[simp] theorem tb41 : tbytes Try.prog 41 = some true := by kernel_rfl
@[simp] theorem th41 : tshape Try.prog 41 = some (false, [(KK.int IntKind.i64)]) := by kernel_rfl
@[simp] theorem tg41 : tguard Try.prog 41 = false := by kernel_rfl
@[simp] theorem tz41 : zeroCells Try.prog 41 = some [(AV.d (D.int IntKind.i64 0))] := by kernel_rfl
@[simp] theorem tv41 : zeroAV Try.prog 41 = some (AV.d (D.int IntKind.i64 0)) := by kernel_rfl
@[simp] theorem tr41 : tarr Try.prog 41 = none := by kernel_rfl
@[simp] theorem ts52 : tsize Try.prog 52 = some 1 := by kernel_rfl
@[simp] theorem ta52 : tagg Try.prog 52 = some false := by kernel_rfl
@[simp] theorem tk52 : tkind Try.prog 52 = 5 := by kernel_rfl
@[simp] theorem tb52 : tbytes Try.prog 52 = some true := by kernel_rfl
@[simp] theorem tg52 : tguard Try.prog 52 = false := by kernel_rfl
@[simp] theorem tz52 : zeroCells Try.prog 52 = some [(AV.d D.nilfn)] := by kernel_rfl
@[simp] theorem tv52 : zeroAV Try.prog 52 = some (AV.d D.nilfn) := by kernel_rfl
@[simp] theorem tr52 : tarr Try.prog 52 = none := by kernel_rfl
@[simp] theorem ts59 : tsize Try.prog 59 = some 1 := by kernel_rfl
@[simp] theorem ta59 : tagg Try.prog 59 = some false := by kernel_rfl
@[simp] theorem tk59 : tkind Try.prog 59 = 5 := by kernel_rfl
@[simp] theorem tb59 : tbytes Try.prog 59 = some true := by kernel_rfl
@[simp] theorem tg59 : tguard Try.prog 59 = false := by kernel_rfl
@[simp] theorem tz59 : zeroCells Try.prog 59 = some [(AV.d D.nilfn)] := by kernel_rfl
@[simp] theorem tv59 : zeroAV Try.prog 59 = some (AV.d D.nilfn) := by kernel_rfl
@[simp] theorem tr59 : tarr Try.prog 59 = none := by kernel_rfl
@[simp] theorem ts63 : tsize Try.prog 63 = some 1 := by kernel_rfl
@[simp] theorem ta63 : tagg Try.prog 63 = some false := by kernel_rfl
@[simp] theorem tk63 : tkind Try.prog 63 = 5 := by kernel_rfl
@[simp] theorem tb63 : tbytes Try.prog 63 = some true := by kernel_rfl
@[simp] theorem tg63 : tguard Try.prog 63 = false := by kernel_rfl
@[simp] theorem tz63 : zeroCells Try.prog 63 = some [(AV.d D.nilfn)] := by kernel_rfl
@[simp] theorem tv63 : zeroAV Try.prog 63 = some (AV.d D.nilfn) := by kernel_rfl
@[simp] theorem tr63 : tarr Try.prog 63 = none := by kernel_rfl
@[simp] theorem ts67 : tsize Try.prog 67 = some 1 := by kernel_rfl
@[simp] theorem ta67 : tagg Try.prog 67 = some false := by kernel_rfl
@[simp] theorem tk67 : tkind Try.prog 67 = 4 := by kernel_rfl
@[simp] theorem tb67 : tbytes Try.prog 67 = some true := by kernel_rfl
@[simp] theorem tm67 : tmap Try.prog 67 = some (3, 3) := by kernel_rfl
@[simp] theorem tg67 : tguard Try.prog 67 = false := by kernel_rfl
@[simp] theorem tz67 : zeroCells Try.prog 67 = some [(AV.d D.nilmap)] := by kernel_rfl
@[simp] theorem tv67 : zeroAV Try.prog 67 = some (AV.d D.nilmap) := by kernel_rfl
@[simp] theorem tr67 : tarr Try.prog 67 = none := by kernel_rfl
@[simp] theorem ts70 : tsize Try.prog 70 = some 1 := by kernel_rfl
@[simp] theorem ta70 : tagg Try.prog 70 = some false := by kernel_rfl
@[simp] theorem te70 : telem Try.prog 70 = some 75 := by kernel_rfl
@[simp] theorem tk70 : tkind Try.prog 70 = 3 := by kernel_rfl
@[simp] theorem tb70 : tbytes Try.prog 70 = some true := by kernel_rfl
@[simp] theorem tg70 : tguard Try.prog 70 = false := by kernel_rfl
@[simp] theorem tz70 : zeroCells Try.prog 70 = some [(AV.d (D.sl [] 0 true (some true)))] := by kernel_rfl
@[simp] theorem tv70 : zeroAV Try.prog 70 = some (AV.d (D.sl [] 0 true (some true))) := by kernel_rfl
@[simp] theorem tr70 : tarr Try.prog 70 = none := by kernel_rfl
@[simp] theorem ts73 : tsize Try.prog 73 = some 1 := by kernel_rfl
@[simp] theorem ta73 : tagg Try.prog 73 = some false := by kernel_rfl
@[simp] theorem tk73 : tkind Try.prog 73 = 4 := by kernel_rfl
@[simp] theorem tb73 : tbytes Try.prog 73 = some true := by kernel_rfl
@[simp] theorem tm73 : tmap Try.prog 73 = some (79, 3) := by kernel_rfl
@[simp] theorem tg73 : tguard Try.prog 73 = false := by kernel_rfl
@[simp] theorem tz73 : zeroCells Try.prog 73 = some [(AV.d D.nilmap)] := by kernel_rfl
@[simp] theorem tv73 : zeroAV Try.prog 73 = some (AV.d D.nilmap) := by kernel_rfl
@[simp] theorem tr73 : tarr Try.prog 73 = none := by kernel_rfl
@[simp] theorem ts75 : tsize Try.prog 75 = some 4 := by kernel_rfl
@[simp] theorem ta75 : tagg Try.prog 75 = some true := by kernel_rfl
@[simp] theorem tk75 : tkind Try.prog 75 = 0 := by kernel_rfl
@[simp] theorem tp75 : tplaces Try.prog 75 = some [(0, 3), (3, 1)] := by kernel_rfl
@[simp] theorem tb75 : tbytes Try.prog 75 = some true := by kernel_rfl
@[simp] theorem tg75 : tguard Try.prog 75 = false := by kernel_rfl
@[simp] theorem tf75_0 : tfield Try.prog 75 0 = some (0, 28) := by kernel_rfl
@[simp] theorem tf75_1 : tfield Try.prog 75 1 = some (3, 23) := by kernel_rfl
@[simp] theorem tz75 : zeroCells Try.prog 75 = some [(AV.d (D.int IntKind.i64 0)), (AV.d (D.str (ByteArray.mk #[]))), (AV.d (D.sl [] 0 true (some true))), (AV.d (D.sl [] 0 true (some true)))] := by kernel_rfl
@[simp] theorem tv75 : zeroAV Try.prog 75 = some (AV.d (D.agg [(D.int IntKind.i64 0), (D.str (ByteArray.mk #[])), (D.sl [] 0 true (some true)), (D.sl [] 0 true (some true))])) := by kernel_rfl
@[simp] theorem tr75 : tarr Try.prog 75 = none := by kernel_rfl
@[simp] theorem ts76 : tsize Try.prog 76 = some 1 := by kernel_rfl
@[simp] theorem ta76 : tagg Try.prog 76 = some false := by kernel_rfl
@[simp] theorem tk76 : tkind Try.prog 76 = 5 := by kernel_rfl
@[simp] theorem tb76 : tbytes Try.prog 76 = some true := by kernel_rfl
@[simp] theorem tg76 : tguard Try.prog 76 = false := by kernel_rfl
@[simp] theorem tz76 : zeroCells Try.prog 76 = some [(AV.d D.nilfn)] := by kernel_rfl
@[simp] theorem tv76 : zeroAV Try.prog 76 = some (AV.d D.nilfn) := by kernel_rfl
@[simp] theorem tr76 : tarr Try.prog 76 = none := by kernel_rfl
@[simp] theorem ts79 : tsize Try.prog 79 = some 2 := by kernel_rfl
@[simp] theorem ta79 : tagg Try.prog 79 = some true := by kernel_rfl
@[simp] theorem tk79 : tkind Try.prog 79 = 0 := by kernel_rfl
@[simp] theorem tp79 : tplaces Try.prog 79 = some [(0, 1), (1, 1)] := by kernel_rfl
@[simp] theorem tb79 : tbytes Try.prog 79 = some true := by kernel_rfl
@[simp] theorem th79 : tshape Try.prog 79 = some (true, [(KK.int IntKind.i64), (KK.int IntKind.i64)]) := by kernel_rfl
@[simp] theorem tg79 : tguard Try.prog 79 = false := by kernel_rfl
@[simp] theorem tf79_0 : tfield Try.prog 79 0 = some (0, 3) := by kernel_rfl
@[simp] theorem tf79_1 : tfield Try.prog 79 1 = some (1, 3) := by kernel_rfl
@[simp] theorem tz79 : zeroCells Try.prog 79 = some [(AV.d (D.int IntKind.i64 0)), (AV.d (D.int IntKind.i64 0))] := by kernel_rfl
@[simp] theorem tv79 : zeroAV Try.prog 79 = some (AV.d (D.agg [(D.int IntKind.i64 0), (D.int IntKind.i64 0)])) := by kernel_rfl
@[simp] theorem tr79 : tarr Try.prog 79 = none := by kernel_rfl
@[simp] theorem ts80 : tsize Try.prog 80 = some 1 := by kernel_rfl
@[simp] theorem ta80 : tagg Try.prog 80 = some false := by kernel_rfl
@[simp] theorem tk80 : tkind Try.prog 80 = 2 := by kernel_rfl
@[simp] theorem tb80 : tbytes Try.prog 80 = some true := by kernel_rfl
@[simp] theorem tg80 : tguard Try.prog 80 = false := by kernel_rfl
@[simp] theorem tz80 : zeroCells Try.prog 80 = some [(AV.d D.nilptr)] := by kernel_rfl
@[simp] theorem tv80 : zeroAV Try.prog 80 = some (AV.d D.nilptr) := by kernel_rfl
@[simp] theorem tr80 : tarr Try.prog 80 = none := by kernel_rfl
@[simp] theorem ts81 : tsize Try.prog 81 = some 1 := by kernel_rfl
@[simp] theorem ta81 : tagg Try.prog 81 = some false := by kernel_rfl
@[simp] theorem te81 : telem Try.prog 81 = some 23 := by kernel_rfl
@[simp] theorem tk81 : tkind Try.prog 81 = 3 := by kernel_rfl
@[simp] theorem tb81 : tbytes Try.prog 81 = some true := by kernel_rfl
@[simp] theorem tg81 : tguard Try.prog 81 = false := by kernel_rfl
@[simp] theorem tz81 : zeroCells Try.prog 81 = some [(AV.d (D.sl [] 0 true (some true)))] := by kernel_rfl
@[simp] theorem tv81 : zeroAV Try.prog 81 = some (AV.d (D.sl [] 0 true (some true))) := by kernel_rfl
@[simp] theorem tr81 : tarr Try.prog 81 = none := by kernel_rfl
@[simp] theorem ts83 : tsize Try.prog 83 = some 2 := by kernel_rfl
@[simp] theorem ta83 : tagg Try.prog 83 = some true := by kernel_rfl
@[simp] theorem tk83 : tkind Try.prog 83 = 0 := by kernel_rfl
@[simp] theorem tp83 : tplaces Try.prog 83 = some [(0, 1), (1, 1)] := by kernel_rfl
@[simp] theorem tb83 : tbytes Try.prog 83 = some true := by kernel_rfl
@[simp] theorem tg83 : tguard Try.prog 83 = false := by kernel_rfl
@[simp] theorem tf83_0 : tfield Try.prog 83 0 = some (0, 26) := by kernel_rfl
@[simp] theorem tf83_1 : tfield Try.prog 83 1 = some (1, 81) := by kernel_rfl
@[simp] theorem tz83 : zeroCells Try.prog 83 = some [(AV.d (D.sl [] 0 true (some true))), (AV.d (D.sl [] 0 true (some true)))] := by kernel_rfl
@[simp] theorem tv83 : zeroAV Try.prog 83 = some (AV.d (D.agg [(D.sl [] 0 true (some true)), (D.sl [] 0 true (some true))])) := by kernel_rfl
@[simp] theorem tr83 : tarr Try.prog 83 = none := by kernel_rfl
@[simp] theorem ts84 : tsize Try.prog 84 = some 1 := by kernel_rfl
@[simp] theorem ta84 : tagg Try.prog 84 = some false := by kernel_rfl
@[simp] theorem te84 : telem Try.prog 84 = some 85 := by kernel_rfl
@[simp] theorem tk84 : tkind Try.prog 84 = 3 := by kernel_rfl
@[simp] theorem tb84 : tbytes Try.prog 84 = some true := by kernel_rfl
@[simp] theorem tg84 : tguard Try.prog 84 = false := by kernel_rfl
@[simp] theorem tz84 : zeroCells Try.prog 84 = some [(AV.d (D.sl [] 0 true (some true)))] := by kernel_rfl
@[simp] theorem tv84 : zeroAV Try.prog 84 = some (AV.d (D.sl [] 0 true (some true))) := by kernel_rfl
@[simp] theorem tr84 : tarr Try.prog 84 = none := by kernel_rfl
@[simp] theorem ts85 : tsize Try.prog 85 = some 1 := by kernel_rfl
@[simp] theorem ta85 : tagg Try.prog 85 = some false := by kernel_rfl
@[simp] theorem te85 : telem Try.prog 85 = some 4 := by kernel_rfl
@[simp] theorem tk85 : tkind Try.prog 85 = 3 := by kernel_rfl
@[simp] theorem tb85 : tbytes Try.prog 85 = some true := by kernel_rfl
@[simp] theorem tg85 : tguard Try.prog 85 = false := by kernel_rfl
@[simp] theorem tz85 : zeroCells Try.prog 85 = some [(AV.d (D.sl [] 0 true (some true)))] := by kernel_rfl
@[simp] theorem tv85 : zeroAV Try.prog 85 = some (AV.d (D.sl [] 0 true (some true))) := by kernel_rfl
@[simp] theorem tr85 : tarr Try.prog 85 = none := by kernel_rfl
end Go.Proofs.Ytfcedichoigbbaa.Am

/-
  The code of this seat, all texts. No condition.
-/

/-
  Which functions of this seat run on the caller's objects. No condition.
-/
namespace Go.Proofs.Ytfcedichoigbbaa.Am
open Go Go.Proofs
/-- The numbers in a map. -/
def valsOf : List (D × AV × Nat) → Option (List Int)
  | [] => some []
  | (_, .d (.int .i64 n), _) :: r => (valsOf r).map (n :: ·)
  | _ => none
/-- What the loop over the counts leaves: is one above zero, is one below it? -/
def holeG (st : St) : Option (Ex × St) :=
  match st.tm with
  | y0 :: y1 :: y2 :: y3 :: y4 :: y5 :: y6 :: y7 :: y8 :: y9 :: y10 :: r =>
    match y7, y9, y10 with
    | .map o, .d (.bool false), .d (.bool false) =>
      match st.hp o with
      | some (.mp _ es c) => if r.length = 105 ∧ es.map (·.2.2) = List.range es.length ∧ es.length ≤ c then
          (valsOf es).map fun ns => (.normal, ⟨y0 :: y1 :: y2 :: y3 :: y4 :: y5 :: y6 :: y7 :: y8 :: .d (.bool (ns.any fun n => decide (0 < n))) :: .d (.bool (ns.any fun n => decide (n < 0))) :: List.replicate 105 .junk, st.hp, st.nx⟩)
        else none
      | _ => none
    | _, _, _ => none
  | _ => none
open Classical in
noncomputable def plc : Pol := { deep := fun f => if f == 15 then 70 else 6, raw := fun f => f == 55 || f == 62 || f == 56 || f == 57 || f == 59 || f == 61 || f == 58 || f == 74, weak := fun f => f == 27 || f == 29 || f == 15 || f == 13 || f == 18 || f == 64 || f == 39 || f == 19 || f == 21 || f == 24, hole := fun c => if c = h45_0 then some holeG else none }
theorem plc_hole : plc.hole h45_0 = some holeG := if_pos rfl
theorem plc_raw (f : FuncId) : plc.raw f = (f == 55 || f == 62 || f == 56 || f == 57 || f == 59 || f == 61 || f == 58 || f == 74) := rfl
@[simp] theorem plc_weak (f : FuncId) : plc.weak f = (f == 27 || f == 29 || f == 15 || f == 13 || f == 18 || f == 64 || f == 39 || f == 19 || f == 21 || f == 24) := rfl
@[simp] theorem plc_deep (f : FuncId) : plc.deep f = if f == 15 then 70 else 6 := rfl
@[simp] theorem plc_ext (f : FuncId) : plc.ext f = none := rfl
noncomputable abbrev Cp := acall Try.prog plc
end Go.Proofs.Ytfcedichoigbbaa.Am

/-
  Terms as data of the abstract machine. No condition.
-/
namespace Go.Proofs.Ytfcedichoigbbaa.Am
open Go

inductive Term where
  | mk (v : Int) (fn : ByteArray) (args : List Term)
mutual
def Term.enc : Term → List D
  | .mk v fn args => [.int .i64 v, .str fn, .sl (encL args) args.length false none]
def encL : List Term → List D
  | [] => []
  | t :: r => t.enc ++ encL r
end
theorem Term.enc_len (t : Term) : t.enc.length = 3 := by cases t; rfl
theorem encL_len : ∀ (ts : List Term), (encL ts).length = ts.length * 3
  | [] => rfl
  | t :: r => by simp [encL, Term.enc_len, encL_len r]; omega
theorem encL_at : ∀ (ts : List Term) (i : Nat) (t : Term), ts[i]? = some t → ((encL ts).drop (i * 3)).take 3 = t.enc
  | [], i, t, h => by simp at h
  | u :: r, 0, t, h => by
    simp at h; subst h
    have := u.enc_len
    simp [encL, this]
  | u :: r, i + 1, t, h => by
    have := u.enc_len
    have e := encL_at r i t (by simpa using h)
    simp only [encL]
    rw [show (i + 1) * 3 = u.enc.length + i * 3 by omega, List.drop_append, List.drop_of_length_le (by omega), List.nil_append, show u.enc.length + i * 3 - u.enc.length = i * 3 by omega]
    exact e
mutual
def Term.ok : Term → Prop
  | .mk _ _ args => args.length ≤ 9223372036854775807 ∧ okL args
def okL : List Term → Prop
  | [] => True
  | t :: r => t.ok ∧ okL r
end
theorem okL_mem : ∀ {ts : List Term}, okL ts → ∀ x ∈ ts, x.ok
  | [], _, x, hx => by simp at hx
  | t :: r, h, x, hx => by
    rcases List.mem_cons.1 hx with e | hx
    · exact e ▸ h.1
    · exact okL_mem h.2 x hx
/-- Induction over terms. -/
theorem Term.ind {p : Term → Prop} (h : ∀ v fn args, (∀ x ∈ args, p x) → p (.mk v fn args)) (t : Term) : p t :=
  Term.rec (motive_1 := p) (motive_2 := fun l => ∀ x ∈ l, p x) h (fun x hx => by simp at hx) (fun t r ht hr x hx => by
    rcases List.mem_cons.1 hx with e | hx
    · exact e ▸ ht
    · exact hr x hx) t

/-- What a loop over terms needs at a place. -/
structure At (ts : List Term) (i : Nat) (v : Int) (fn : ByteArray) (args : List Term) : Prop where
  lt : i < ts.length
  mem : Term.mk v fn args ∈ ts
  sz : (encL ts).length = ts.length * 3
  cells : ((encL ts).drop (i * 3)).take 3 = [.int .i64 v, .str fn, .sl (encL args) args.length false none]
  lti : (i : Int) < (ts.length : Int)
  ltm : i * 3 < ts.length * 3
  le3 : 3 ≤ ts.length * 3 - i * 3
  dr : ts.drop i = .mk v fn args :: ts.drop (i + 1)
  w : IntKind.i64.wrap ((i : Int) + 1) = (i : Int) + 1
  get : ts[i] = .mk v fn args
theorem at_ok {ts : List Term} (h : ts.length ≤ 9223372036854775807) {i : Nat} (hil : i < ts.length) : ∃ v fn args, At ts i v fn args := by
  obtain ⟨t, ht⟩ : ∃ t, ts[i]? = some t := ⟨ts[i], by simp [hil]⟩
  obtain ⟨v, fn, args⟩ := t
  refine ⟨v, fn, args, hil, List.mem_of_getElem? ht, encL_len ts, encL_at ts i _ ht, by omega, by omega, by omega, ?_, wrap_i64 (by omega) (by omega), by rw [List.getElem?_eq_getElem hil] at ht; exact Option.some.inj ht⟩
  rw [List.drop_eq_getElem_cons hil]
  congr 1
  rw [List.getElem?_eq_getElem hil] at ht
  exact Option.some.inj ht

/-! ### What both programs compute -/
mutual
def Term.sizeW : Term → Int
  | .mk _ _ args => sizeWL 1 args
def sizeWL (acc : Int) : List Term → Int
  | [] => acc
  | t :: r => sizeWL (IntKind.i64.wrap (acc + t.sizeW)) r
end
mutual
def Term.depthW : Term → Int
  | .mk _ _ args => IntKind.i64.wrap (depthWL 0 args + 1)
def depthWL (acc : Int) : List Term → Int
  | [] => acc
  | t :: r => depthWL (if t.depthW > acc then t.depthW else acc) r
end
/-- Is it no name? -/
def noName (fn : ByteArray) : Bool := fn.toList.isEmpty
def rightB (v : Int) (fn : ByteArray) (n : Nat) : Bool :=
  if noName fn then decide (0 ≤ v) && decide (v < 1000000) && decide (n = 0) else decide (v = 0) && decide ((fn.size : Int) ≤ 64) && decide ((n : Int) ≤ 16)
mutual
def Term.shapeB : Term → Bool
  | .mk v fn args => rightB v fn args.length && shapeBL args
def shapeBL : List Term → Bool
  | [] => true
  | t :: r => t.shapeB && shapeBL r
end
/-- All pairs. -/
def all2 (p : Term → Term → Bool) : List Term → List Term → Bool
  | t :: r, u :: s => p t u && all2 p r s
  | _, _ => true
mutual
def Term.sameB : Term → Term → Bool
  | .mk v fn args, .mk v2 fn2 args2 => decide (v = v2) && (fn.toList == fn2.toList) && decide (args.length = args2.length) && sameBL args args2
def sameBL : List Term → List Term → Bool
  | t :: r, u :: s => t.sameB u && sameBL r s
  | _, _ => true
end
def Term.rightE (t : Term) : Int :=
  if t.shapeB then (if t.depthW > 60 then 22 else if t.sizeW > 4000 then 3 else 0) else 1

theorem sameBL_all2 : ∀ (ts us : List Term), sameBL ts us = all2 Term.sameB ts us
  | t :: r, u :: s => by simp [sameBL, all2, sameBL_all2 r s]
  | [], _ => by simp [sameBL, all2]
  | _ :: _, [] => by simp [sameBL, all2]

end Go.Proofs.Ytfcedichoigbbaa.Am

/-
  Terms: what the program's functions and the document's compute of them, as the abstract machine runs them. No condition.
-/
namespace Go.Proofs.Ytfcedichoigbbaa.Am
open Go Go.Proofs
set_option maxHeartbeats 4000000
set_option linter.unusedSimpArgs false

/-- A term's object. -/
def termH (v : Int) (fn : ByteArray) (args : List Term) : Hp := upd (fun _ => none) (0, 0) (.cells [.d (.int .i64 v), .d (.str fn), .d (.sl (encL args) args.length false none)])

/-! ### Size, depth -/
theorem size_loop (ts : List Term) (hn : ts.length ≤ 9223372036854775807) (H : Hp) (hH : below 7 H = H) (hrec : ∀ x ∈ ts, pcl Cp 53 [.agg x.enc] = some (.int .i64 x.sizeW)) :
    ∃ e t, aloop Try.prog plc b53_0 ⟨[false, false, true, true, false, false, false, true, true, true, false, false, false, false, false, false, false, false, true], some 7⟩ ⟨[.junk, .junk, .d (.int .i64 0), .d (.int .i64 1), .junk, .junk, .junk, .d (.sl (encL ts) ts.length false none), .d (.int .i64 ts.length), .d (.int .i64 0), .junk, .junk, .junk, .junk, .junk, .junk, .junk, .junk, .junk], H, 7⟩ = some (e, t) ∧
      AtExit 0 [.junk, .junk, .d (.int .i64 0), .d (.int .i64 (sizeWL 1 ts)), .junk, .junk, .junk, .d (.sl (encL ts) ts.length false none), .d (.int .i64 ts.length), .d (.int .i64 ts.length), .junk, .junk, .junk, .junk, .junk, .junk, .junk, .junk, .junk] H e t := by
  refine loop_rule (b := 7) (tm := fun (s : Nat × Int) => [.junk, .junk, .d (.int .i64 0), .d (.int .i64 s.2), .junk, .junk, .junk, .d (.sl (encL ts) ts.length false none), .d (.int .i64 ts.length), .d (.int .i64 s.1), .junk, .junk, .junk, .junk, .junk, .junk, .junk, .junk, .junk]) (Hf := fun _ => H)
    (I := fun s => s.1 ≤ ts.length) (μ := fun s => ts.length - s.1) (res := fun s => sizeWL s.2 (ts.drop s.1)) (R := fun r => AtExit 0 [.junk, .junk, .d (.int .i64 0), .d (.int .i64 r), .junk, .junk, .junk, .d (.sl (encL ts) ts.length false none), .d (.int .i64 ts.length), .d (.int .i64 ts.length), .junk, .junk, .junk, .junk, .junk, .junk, .junk, .junk, .junk] H) (fun s nx hi => ?_) (0, 1) (Nat.zero_le _)
  obtain ⟨i, acc⟩ := s
  rcases Nat.lt_or_ge i ts.length with hl | hl
  · obtain ⟨v, fn, args, a⟩ := at_ok hn hl
    have hcall := hrec _ a.mem
    simp [Term.enc] at hcall
    conv => arg 9; arg 4; unfold b53_0
    simp [a.lti, a.sz, a.ltm, a.cells, a.le3, plc_raw, hcall, a.w, hH]
    exact .next (i + 1, IntKind.i64.wrap (acc + (Term.mk v fn args).sizeW)) (by omega) rfl rfl hl (by simp; omega) (by simp only [a.dr, sizeWL])
  · obtain rfl : i = ts.length := Nat.le_antisymm hi hl
    simp [b53_0, hH]
    exact .fin _ _ (by simp [sizeWL]; exact .mk)
theorem size_ok (t : Term) : t.ok → pcl Cp 53 [.agg t.enc] = some (.int .i64 t.sizeW) := by
  refine Term.ind (p := fun t => t.ok → pcl Cp 53 [.agg t.enc] = some (.int .i64 t.sizeW)) (fun v fn args ih h => ?_) t
  obtain ⟨e, t, hrun, rfl, nx, rfl⟩ := size_loop args h.1 (termH v fn args) (by simp [termH]) (fun x hx => ih x hx (okL_mem h.2 x hx))
  refine pcl_body code53 ?_
  simp [Term.enc, termH] at hrun ⊢
  simp [hrun, Term.sizeW]

theorem rsize_loop (v0 : Int) (fn0 : ByteArray) (ts : List Term) (hn : ts.length ≤ 9223372036854775807) (hrec : ∀ x ∈ ts, pcl Cp 20 [.agg x.enc] = some (.int .i64 x.sizeW)) :
    ∃ e t, aloop Try.prog plc b20_0 ⟨[false, true, true, true, true, false, false, false, false, false, false, false, false, false, false, false, false, false, false, false, true], some 4⟩ ⟨[.junk, .ptr (0, 0) 0 3, .d (.int .i64 0), .d (.int .i64 1), .d (.int .i64 0), .junk, .junk, .junk, .junk, .junk, .junk, .junk, .junk, .junk, .junk, .junk, .junk, .junk, .junk, .junk, .junk], termH v0 fn0 ts, 4⟩ = some (e, t) ∧
      AtExit 0 [.junk, .ptr (0, 0) 0 3, .d (.int .i64 0), .d (.int .i64 (sizeWL 1 ts)), .d (.int .i64 ts.length), .junk, .junk, .junk, .junk, .junk, .junk, .junk, .junk, .junk, .junk, .junk, .junk, .junk, .junk, .junk, .junk] (termH v0 fn0 ts) e t := by
  refine loop_rule (b := 4) (tm := fun (s : Nat × Int) => [.junk, .ptr (0, 0) 0 3, .d (.int .i64 0), .d (.int .i64 s.2), .d (.int .i64 s.1), .junk, .junk, .junk, .junk, .junk, .junk, .junk, .junk, .junk, .junk, .junk, .junk, .junk, .junk, .junk, .junk]) (Hf := fun _ => termH v0 fn0 ts)
    (I := fun s => s.1 ≤ ts.length) (μ := fun s => ts.length - s.1) (res := fun s => sizeWL s.2 (ts.drop s.1)) (R := fun r => AtExit 0 [.junk, .ptr (0, 0) 0 3, .d (.int .i64 0), .d (.int .i64 r), .d (.int .i64 ts.length), .junk, .junk, .junk, .junk, .junk, .junk, .junk, .junk, .junk, .junk, .junk, .junk, .junk, .junk, .junk, .junk] (termH v0 fn0 ts)) (fun s nx hi => ?_) (0, 1) (Nat.zero_le _)
  obtain ⟨i, acc⟩ := s
  rcases Nat.lt_or_ge i ts.length with hl | hl
  · obtain ⟨v, fn, args, a⟩ := at_ok hn hl
    have hcall := hrec _ a.mem
    simp [Term.enc] at hcall
    conv => arg 9; arg 4; unfold b20_0
    simp [a.lti, a.sz, a.ltm, a.cells, a.le3, plc_raw, hcall, a.w, termH]
    exact .next (i + 1, IntKind.i64.wrap (acc + (Term.mk v fn args).sizeW)) (by omega) rfl rfl hl (by simp; omega) (by simp only [a.dr, sizeWL])
  · obtain rfl : i = ts.length := Nat.le_antisymm hi hl
    simp [b20_0, termH]
    exact .fin _ _ (by simp [sizeWL, termH]; exact .mk)
theorem rsize_ok (t : Term) : t.ok → pcl Cp 20 [.agg t.enc] = some (.int .i64 t.sizeW) := by
  refine Term.ind (p := fun t => t.ok → pcl Cp 20 [.agg t.enc] = some (.int .i64 t.sizeW)) (fun v fn args ih h => ?_) t
  obtain ⟨e, t, hrun, rfl, nx, rfl⟩ := rsize_loop v fn args h.1 (fun x hx => ih x hx (okL_mem h.2 x hx))
  refine pcl_body code20 ?_
  simp [Term.enc, termH] at hrun ⊢
  simp [hrun, Term.sizeW]

theorem depth_loop (ts : List Term) (hn : ts.length ≤ 9223372036854775807) (H : Hp) (hH : below 7 H = H) (hrec : ∀ x ∈ ts, pcl Cp 52 [.agg x.enc] = some (.int .i64 x.depthW)) :
    ∃ e t, aloop Try.prog plc b52_0 ⟨[false, false, true, true, false, false, false, true, true, true, false, false, false, false, false, false, false, false, true, true], some 7⟩ ⟨[.junk, .junk, .d (.int .i64 0), .d (.int .i64 0), .junk, .junk, .junk, .d (.sl (encL ts) ts.length false none), .d (.int .i64 ts.length), .d (.int .i64 0), .junk, .junk, .junk, .junk, .junk, .junk, .junk, .junk, .junk, .junk], H, 7⟩ = some (e, t) ∧
      AtExit 0 [.junk, .junk, .d (.int .i64 0), .d (.int .i64 (depthWL 0 ts)), .junk, .junk, .junk, .d (.sl (encL ts) ts.length false none), .d (.int .i64 ts.length), .d (.int .i64 ts.length), .junk, .junk, .junk, .junk, .junk, .junk, .junk, .junk, .junk, .junk] H e t := by
  refine loop_rule (b := 7) (tm := fun (s : Nat × Int) => [.junk, .junk, .d (.int .i64 0), .d (.int .i64 s.2), .junk, .junk, .junk, .d (.sl (encL ts) ts.length false none), .d (.int .i64 ts.length), .d (.int .i64 s.1), .junk, .junk, .junk, .junk, .junk, .junk, .junk, .junk, .junk, .junk]) (Hf := fun _ => H)
    (I := fun s => s.1 ≤ ts.length) (μ := fun s => ts.length - s.1) (res := fun s => depthWL s.2 (ts.drop s.1)) (R := fun r => AtExit 0 [.junk, .junk, .d (.int .i64 0), .d (.int .i64 r), .junk, .junk, .junk, .d (.sl (encL ts) ts.length false none), .d (.int .i64 ts.length), .d (.int .i64 ts.length), .junk, .junk, .junk, .junk, .junk, .junk, .junk, .junk, .junk, .junk] H) (fun s nx hi => ?_) (0, 0) (Nat.zero_le _)
  obtain ⟨i, acc⟩ := s
  rcases Nat.lt_or_ge i ts.length with hl | hl
  · obtain ⟨v, fn, args, a⟩ := at_ok hn hl
    have hcall := hrec _ a.mem
    simp [Term.enc] at hcall
    conv => arg 9; arg 4; unfold b52_0
    simp [a.lti, a.sz, a.ltm, a.cells, a.le3, plc_raw, hcall, a.w, hH]
    exact .next (i + 1, if (Term.mk v fn args).depthW > acc then (Term.mk v fn args).depthW else acc) (by omega) rfl rfl hl (by simp; omega) (by simp only [a.dr, depthWL])
  · obtain rfl : i = ts.length := Nat.le_antisymm hi hl
    simp [b52_0, hH]
    exact .fin _ _ (by simp [depthWL]; exact .mk)
theorem depth_ok (t : Term) : t.ok → pcl Cp 52 [.agg t.enc] = some (.int .i64 t.depthW) := by
  refine Term.ind (p := fun t => t.ok → pcl Cp 52 [.agg t.enc] = some (.int .i64 t.depthW)) (fun v fn args ih h => ?_) t
  obtain ⟨e, t, hrun, rfl, nx, rfl⟩ := depth_loop args h.1 (termH v fn args) (by simp [termH]) (fun x hx => ih x hx (okL_mem h.2 x hx))
  refine pcl_body code52 ?_
  simp [Term.enc, termH] at hrun ⊢
  simp [hrun, Term.depthW]

theorem rdepth_loop (v0 : Int) (fn0 : ByteArray) (ts : List Term) (hn : ts.length ≤ 9223372036854775807) (hrec : ∀ x ∈ ts, pcl Cp 42 [.agg x.enc] = some (.int .i64 x.depthW)) :
    ∃ e t, aloop Try.prog plc b42_0 ⟨[false, true, true, true, true, false, false, false, false, false, false, false, false, false, false, false, false, false, false, false, true, true], some 4⟩ ⟨[.junk, .ptr (0, 0) 0 3, .d (.int .i64 0), .d (.int .i64 0), .d (.int .i64 0), .junk, .junk, .junk, .junk, .junk, .junk, .junk, .junk, .junk, .junk, .junk, .junk, .junk, .junk, .junk, .junk, .junk], termH v0 fn0 ts, 4⟩ = some (e, t) ∧
      AtExit 0 [.junk, .ptr (0, 0) 0 3, .d (.int .i64 0), .d (.int .i64 (depthWL 0 ts)), .d (.int .i64 ts.length), .junk, .junk, .junk, .junk, .junk, .junk, .junk, .junk, .junk, .junk, .junk, .junk, .junk, .junk, .junk, .junk, .junk] (termH v0 fn0 ts) e t := by
  refine loop_rule (b := 4) (tm := fun (s : Nat × Int) => [.junk, .ptr (0, 0) 0 3, .d (.int .i64 0), .d (.int .i64 s.2), .d (.int .i64 s.1), .junk, .junk, .junk, .junk, .junk, .junk, .junk, .junk, .junk, .junk, .junk, .junk, .junk, .junk, .junk, .junk, .junk]) (Hf := fun _ => termH v0 fn0 ts)
    (I := fun s => s.1 ≤ ts.length) (μ := fun s => ts.length - s.1) (res := fun s => depthWL s.2 (ts.drop s.1)) (R := fun r => AtExit 0 [.junk, .ptr (0, 0) 0 3, .d (.int .i64 0), .d (.int .i64 r), .d (.int .i64 ts.length), .junk, .junk, .junk, .junk, .junk, .junk, .junk, .junk, .junk, .junk, .junk, .junk, .junk, .junk, .junk, .junk, .junk] (termH v0 fn0 ts)) (fun s nx hi => ?_) (0, 0) (Nat.zero_le _)
  obtain ⟨i, acc⟩ := s
  rcases Nat.lt_or_ge i ts.length with hl | hl
  · obtain ⟨v, fn, args, a⟩ := at_ok hn hl
    have hcall := hrec _ a.mem
    simp [Term.enc] at hcall
    conv => arg 9; arg 4; unfold b42_0
    simp [a.lti, a.sz, a.ltm, a.cells, a.le3, plc_raw, hcall, a.w, termH]
    exact .next (i + 1, if (Term.mk v fn args).depthW > acc then (Term.mk v fn args).depthW else acc) (by omega) rfl rfl hl (by simp; omega) (by simp only [a.dr, depthWL])
  · obtain rfl : i = ts.length := Nat.le_antisymm hi hl
    simp [b42_0, termH]
    exact .fin _ _ (by simp [depthWL, termH]; exact .mk)
theorem rdepth_ok (t : Term) : t.ok → pcl Cp 42 [.agg t.enc] = some (.int .i64 t.depthW) := by
  refine Term.ind (p := fun t => t.ok → pcl Cp 42 [.agg t.enc] = some (.int .i64 t.depthW)) (fun v fn args ih h => ?_) t
  obtain ⟨e, t, hrun, rfl, nx, rfl⟩ := rdepth_loop v fn args h.1 (fun x hx => ih x hx (okL_mem h.2 x hx))
  refine pcl_body code42 ?_
  simp [Term.enc, termH] at hrun ⊢
  simp [hrun, Term.depthW]

/-! ### Shape -/
theorem right_ok (v : Int) (fn : ByteArray) (cs : List D) (n : Nat) : pcl Cp 71 [.agg [.int .i64 v, .str fn, .sl cs n false none]] = some (.bool (rightB v fn n)) := by
  refine pcl_body code71 ?_
  simp
  repeat' ((try simp only [condP_ite]); split <;> (try simp only [holdE]) <;> (try simp [*, plc_raw]))
  all_goals (simp_all [rightB, noName])
  all_goals (first | omega | grind)

/-- IndexFunc over terms. -/
theorem index_loop (g : FuncId) (p : Term → Bool) (ts : List Term) (hn : ts.length ≤ 9223372036854775807) (hg : plc.raw g = false ∧ plc.weak g = false) (hrec : ∀ x ∈ ts, pcl Cp g [.agg x.enc] = some (.bool (p x))) :
    ∃ e t, aloop Try.prog plc b75_0 ⟨[true, true, false, false, true, false, false, true, true, false, false, false, false, false, false, false, false, false, false], some 4⟩ ⟨[.d (.sl (encL ts) ts.length false none), .d (.fn g []), .junk, .junk, .d (.int .i64 0), .junk, .junk, .d (.int .i64 ts.length), .d (.int .i64 0), .junk, .junk, .junk, .junk, .junk, .junk, .junk, .junk, .junk, .junk], fun _ => none, 4⟩ = some (e, t) ∧
      (match fromI p ts 0 with | some k => AtRet 4 (.d (.int .i64 k)) e t | none => AtExit 0 [.d (.sl (encL ts) ts.length false none), .d (.fn g []), .junk, .junk, .d (.int .i64 0), .junk, .junk, .d (.int .i64 ts.length), .d (.int .i64 ts.length), .junk, .junk, .junk, .junk, .junk, .junk, .junk, .junk, .junk, .junk] (fun _ => none) e t) := by
  refine loop_rule (b := 4) (tm := fun (i : Nat) => [.d (.sl (encL ts) ts.length false none), .d (.fn g []), .junk, .junk, .d (.int .i64 0), .junk, .junk, .d (.int .i64 ts.length), .d (.int .i64 i), .junk, .junk, .junk, .junk, .junk, .junk, .junk, .junk, .junk, .junk]) (Hf := fun _ => fun _ => none)
    (I := fun i => i ≤ ts.length) (μ := fun i => ts.length - i) (res := fun i => fromI p ts i) (R := fun o e t => match o with | some k => AtRet 4 (.d (.int .i64 k)) e t | none => AtExit 0 [.d (.sl (encL ts) ts.length false none), .d (.fn g []), .junk, .junk, .d (.int .i64 0), .junk, .junk, .d (.int .i64 ts.length), .d (.int .i64 ts.length), .junk, .junk, .junk, .junk, .junk, .junk, .junk, .junk, .junk, .junk] (fun _ => none) e t)
    (fun i nx hi => ?_) 0 (Nat.zero_le _)
  rcases Nat.lt_or_ge i ts.length with hl | hl
  · obtain ⟨v, fn, args, a⟩ := at_ok hn hl
    have hcall := hrec _ a.mem
    have hget : ts[i] = .mk v fn args := a.get
    simp [Term.enc] at hcall
    conv => arg 9; arg 4; unfold b75_0
    cases hp : p (.mk v fn args) <;> rw [hp] at hcall <;> simp [a.lti, a.sz, a.ltm, a.cells, a.le3, hg.1, hg.2, -plc_weak, hcall, a.w]
    · exact .next (i + 1) (by omega) rfl rfl hl (by omega) (by rw [fromI_step hl, hget, hp]; rfl)
    · exact .fin _ _ (by rw [fromI_step hl, hget, hp]; exact ⟨rfl, rfl⟩)
  · obtain rfl : i = ts.length := Nat.le_antisymm hi hl
    simp [b75_0]
    exact .fin _ _ (by rw [fromI_end]; exact .mk)
theorem index_ok {g : FuncId} {p : Term → Bool} {ts : List Term} (hn : ts.length ≤ 9223372036854775807) (hg : plc.raw g = false ∧ plc.weak g = false) (hrec : ∀ x ∈ ts, pcl Cp g [.agg x.enc] = some (.bool (p x))) :
    pcl Cp 75 [.sl (encL ts) ts.length false none, .fn g []] = some (.int .i64 (match ts.findIdx? p with | some k => k | none => -1)) := by
  obtain ⟨e, t, h1, h2⟩ := index_loop g p ts hn hg hrec
  refine pcl_body code75 ?_
  simp [fromI_zero] at h1 h2
  simp [h1]
  revert h2
  cases ts.findIdx? p with
  | some k => rintro ⟨rfl, h⟩; simp [h]
  | none => rintro ⟨rfl, nx, rfl⟩; simp
theorem any_findIdx {α : Type} (p : α → Bool) (l : List α) : l.any p = (l.findIdx? p).isSome := by
  induction l with
  | nil => rfl
  | cons x l ih => rw [List.any_cons, List.findIdx?_cons, ih]; cases p x <;> simp
theorem contains_ok {g : FuncId} {p : Term → Bool} {ts : List Term} (hn : ts.length ≤ 9223372036854775807) (hg : plc.raw g = false ∧ plc.weak g = false) (hrec : ∀ x ∈ ts, pcl Cp g [.agg x.enc] = some (.bool (p x))) :
    pcl Cp 72 [.sl (encL ts) ts.length false none, .fn g []] = some (.bool (ts.any p)) := by
  refine pcl_body code72 ?_
  have h := index_ok hn hg hrec
  rw [any_findIdx]
  cases hq : ts.findIdx? p <;> rw [hq] at h <;> simp [plc_raw, h]
theorem shapeBL_all : ∀ (ts : List Term), shapeBL ts = !ts.any (fun x => !x.shapeB)
  | [] => rfl
  | t :: r => by simp [shapeBL, shapeBL_all r]
theorem shaped_ok (t : Term) : t.ok → pcl Cp 51 [.agg t.enc] = some (.bool t.shapeB) := by
  refine Term.ind (p := fun t => t.ok → pcl Cp 51 [.agg t.enc] = some (.bool t.shapeB)) (fun v fn args ih h => ?_) t
  have hc := contains_ok (g := 73) (p := fun x => !x.shapeB) h.1 ⟨rfl, rfl⟩ (fun x hx => by
    have := ih x hx (okL_mem h.2 x hx)
    refine pcl_body code73 ?_
    obtain ⟨v, fn, a⟩ := x
    simp [Term.enc] at this
    simp [Term.enc, plc_raw, this])
  have hr := right_ok v fn (encL args) args.length
  refine pcl_body code51 ?_
  cases hb : rightB v fn args.length <;> rw [hb] at hr <;> simp [Term.enc, plc_raw, hr, hc, Term.shapeB, hb, shapeBL_all]

theorem rshape_loop (v0 : Int) (fn0 : ByteArray) (ts : List Term) (hn : ts.length ≤ 9223372036854775807) (hrec : ∀ x ∈ ts, pcl Cp 41 [.agg x.enc] = some (.bool x.shapeB)) :
    ∃ e t, aloop Try.prog plc b41_0 ⟨[false, true, true, true, false, false, false, false, false, false, false, false, false, false, false, false, false, false, false, false, false, false, false, false, false, false, false, false, false, false, false, false, false, false, false, false, false, false, false, false, false, false, false, false, false, false, false, false, false, false], some 21⟩ ⟨[.junk, .ptr (0, 0) 0 3, .d (.bool false), .d (.int .i64 0), .junk, .junk, .junk, .junk, .junk, .junk, .junk, .junk, .junk, .junk, .junk, .junk, .junk, .junk, .junk, .junk, .junk, .junk, .junk, .junk, .junk, .junk, .junk, .junk, .junk, .junk, .junk, .junk, .junk, .junk, .junk, .junk, .junk, .junk, .junk, .junk, .junk, .junk, .junk, .junk, .junk, .junk, .junk, .junk, .junk, .junk], termH v0 fn0 ts, 21⟩ = some (e, t) ∧
      (if shapeBL ts then AtExit 0 [.junk, .ptr (0, 0) 0 3, .d (.bool false), .d (.int .i64 ts.length), .junk, .junk, .junk, .junk, .junk, .junk, .junk, .junk, .junk, .junk, .junk, .junk, .junk, .junk, .junk, .junk, .junk, .junk, .junk, .junk, .junk, .junk, .junk, .junk, .junk, .junk, .junk, .junk, .junk, .junk, .junk, .junk, .junk, .junk, .junk, .junk, .junk, .junk, .junk, .junk, .junk, .junk, .junk, .junk, .junk, .junk] (termH v0 fn0 ts) e t else AtRet 2 (.d (.bool false)) e t) := by
  refine loop_rule (b := 21) (tm := fun (i : Nat) => [.junk, .ptr (0, 0) 0 3, .d (.bool false), .d (.int .i64 i), .junk, .junk, .junk, .junk, .junk, .junk, .junk, .junk, .junk, .junk, .junk, .junk, .junk, .junk, .junk, .junk, .junk, .junk, .junk, .junk, .junk, .junk, .junk, .junk, .junk, .junk, .junk, .junk, .junk, .junk, .junk, .junk, .junk, .junk, .junk, .junk, .junk, .junk, .junk, .junk, .junk, .junk, .junk, .junk, .junk, .junk]) (Hf := fun _ => termH v0 fn0 ts)
    (I := fun i => i ≤ ts.length) (μ := fun i => ts.length - i) (res := fun i => shapeBL (ts.drop i)) (R := fun b e t => if b then AtExit 0 [.junk, .ptr (0, 0) 0 3, .d (.bool false), .d (.int .i64 ts.length), .junk, .junk, .junk, .junk, .junk, .junk, .junk, .junk, .junk, .junk, .junk, .junk, .junk, .junk, .junk, .junk, .junk, .junk, .junk, .junk, .junk, .junk, .junk, .junk, .junk, .junk, .junk, .junk, .junk, .junk, .junk, .junk, .junk, .junk, .junk, .junk, .junk, .junk, .junk, .junk, .junk, .junk, .junk, .junk, .junk, .junk] (termH v0 fn0 ts) e t else AtRet 2 (.d (.bool false)) e t)
    (fun i nx hi => ?_) 0 (Nat.zero_le _)
  rcases Nat.lt_or_ge i ts.length with hl | hl
  · obtain ⟨v, fn, args, a⟩ := at_ok hn hl
    have hcall := hrec _ a.mem
    simp [Term.enc] at hcall
    conv => arg 9; arg 4; unfold b41_0
    cases hp : (Term.mk v fn args).shapeB <;> rw [hp] at hcall <;> simp [a.lti, a.sz, a.ltm, a.cells, a.le3, plc_raw, hcall, a.w, termH]
    · exact .fin _ _ (by simp only [a.dr, shapeBL, hp]; exact ⟨rfl, rfl⟩)
    · exact .next (i + 1) (by omega) rfl rfl hl (by omega) (by simp [a.dr, shapeBL, hp])
  · obtain rfl : i = ts.length := Nat.le_antisymm hi hl
    simp [b41_0, termH]
    exact .fin _ _ (by simp [shapeBL, termH]; exact .mk)
theorem rshape_ok (t : Term) : t.ok → pcl Cp 41 [.agg t.enc] = some (.bool t.shapeB) := by
  refine Term.ind (p := fun t => t.ok → pcl Cp 41 [.agg t.enc] = some (.bool t.shapeB)) (fun v fn args ih h => ?_) t
  refine pcl_body code41 ?_
  obtain ⟨e, t, hrun, hR⟩ := rshape_loop v fn args h.1 (fun x hx => ih x hx (okL_mem h.2 x hx))
  simp [Term.enc, termH] at hrun ⊢
  have hz : args.length = 0 → args = [] := List.eq_nil_of_length_eq_zero
  cases hs : shapeBL args <;> simp only [hs, if_true, Bool.false_eq_true, if_false] at hR
  · obtain ⟨rfl, hv⟩ := hR
    have hne : args ≠ [] := by rintro rfl; simp [shapeBL] at hs
    repeat' ((try simp only [condP_ite]); split <;> (try simp only [holdE]) <;> (try simp [*, plc_raw]))
    all_goals (simp_all [Term.shapeB, rightB, noName, shapeBL])
    all_goals (clear hrun ih; first | omega | grind)
  · obtain ⟨rfl, nx, rfl⟩ := hR
    repeat' ((try simp only [condP_ite]); split <;> (try simp only [holdE]) <;> (try simp [*, plc_raw]))
    all_goals (simp_all [Term.shapeB, rightB, noName, shapeBL])
    all_goals (clear hrun ih; first | omega | grind)

/-! ### Sameness -/
theorem equal_loop (g : FuncId) (p : Term → Term → Bool) (hg : plc.raw g = false ∧ plc.weak g = false) (ts us : List Term) (hn : ts.length ≤ 9223372036854775807) (hlen : us.length = ts.length) (hrec : ∀ x ∈ ts, ∀ y ∈ us, pcl Cp g [.agg x.enc, .agg y.enc] = some (.bool (p x y))) :
    ∃ e t, aloop Try.prog plc b54_0 ⟨[false, true, true, false, false, false, true, false, false, false, false, false, false, false, false, true, true, true, false, false, false, false, false, false, false, false, false, false, false, false, false, false], some 9⟩ ⟨[.junk, .d (.sl (encL us) us.length false none), .d (.fn g []), .junk, .junk, .junk, .d (.bool false), .junk, .junk, .junk, .junk, .junk, .junk, .junk, .junk, .d (.sl (encL ts) us.length false none), .d (.int .i64 us.length), .d (.int .i64 0), .junk, .junk, .junk, .junk, .junk, .junk, .junk, .junk, .junk, .junk, .junk, .junk, .junk, .junk], fun _ => none, 9⟩ = some (e, t) ∧
      (if all2 p ts us then AtExit 0 [.junk, .d (.sl (encL us) us.length false none), .d (.fn g []), .junk, .junk, .junk, .d (.bool false), .junk, .junk, .junk, .junk, .junk, .junk, .junk, .junk, .d (.sl (encL ts) us.length false none), .d (.int .i64 us.length), .d (.int .i64 ts.length), .junk, .junk, .junk, .junk, .junk, .junk, .junk, .junk, .junk, .junk, .junk, .junk, .junk, .junk] (fun _ => none) e t else AtRet 6 (.d (.bool false)) e t) := by
  refine loop_rule (b := 9) (tm := fun (i : Nat) => [.junk, .d (.sl (encL us) us.length false none), .d (.fn g []), .junk, .junk, .junk, .d (.bool false), .junk, .junk, .junk, .junk, .junk, .junk, .junk, .junk, .d (.sl (encL ts) us.length false none), .d (.int .i64 us.length), .d (.int .i64 i), .junk, .junk, .junk, .junk, .junk, .junk, .junk, .junk, .junk, .junk, .junk, .junk, .junk, .junk]) (Hf := fun _ => fun _ => none)
    (I := fun i => i ≤ ts.length) (μ := fun i => ts.length - i) (res := fun i => all2 p (ts.drop i) (us.drop i)) (R := fun b e t => if b then AtExit 0 [.junk, .d (.sl (encL us) us.length false none), .d (.fn g []), .junk, .junk, .junk, .d (.bool false), .junk, .junk, .junk, .junk, .junk, .junk, .junk, .junk, .d (.sl (encL ts) us.length false none), .d (.int .i64 us.length), .d (.int .i64 ts.length), .junk, .junk, .junk, .junk, .junk, .junk, .junk, .junk, .junk, .junk, .junk, .junk, .junk, .junk] (fun _ => none) e t else AtRet 6 (.d (.bool false)) e t)
    (fun i nx hi => ?_) 0 (Nat.zero_le _)
  rcases Nat.lt_or_ge i ts.length with hl | hl
  · obtain ⟨v, fn, args, a⟩ := at_ok hn hl
    obtain ⟨v2, fn2, args2, b⟩ := at_ok (ts := us) (by omega) (i := i) (by omega)
    have hcall := hrec _ a.mem _ b.mem
    simp [Term.enc] at hcall
    have asz := a.sz
    have altm := a.ltm
    have ale3 := a.le3
    have alti := a.lti
    rw [← hlen] at asz altm ale3 alti
    conv => arg 9; arg 4; unfold b54_0
    cases hp : p (.mk v fn args) (.mk v2 fn2 args2) <;> rw [hp] at hcall <;> simp [alti, asz, altm, a.cells, ale3, b.cells, b.sz, b.ltm, b.le3, hg.1, hg.2, -plc_weak, hcall, a.w]
    · exact .fin _ _ (by simp only [a.dr, b.dr, all2, hp]; exact ⟨rfl, rfl⟩)
    · exact .next (i + 1) (by omega) rfl rfl hl (by omega) (by simp [a.dr, b.dr, all2, hp])
  · obtain rfl : i = ts.length := Nat.le_antisymm hi hl
    simp [b54_0, hlen]
    exact .fin _ _ (by simp [all2, hlen]; exact .mk)
theorem equal_ok {g : FuncId} {p : Term → Term → Bool} (hg : plc.raw g = false ∧ plc.weak g = false) {ts us : List Term} (hn : ts.length ≤ 9223372036854775807) (hrec : ∀ x ∈ ts, ∀ y ∈ us, pcl Cp g [.agg x.enc, .agg y.enc] = some (.bool (p x y))) :
    pcl Cp 54 [.sl (encL ts) ts.length false none, .sl (encL us) us.length false none, .fn g []] = some (.bool (decide (ts.length = us.length) && all2 p ts us)) := by
  refine pcl_body code54 ?_
  by_cases hl : ts.length = us.length
  · obtain ⟨e, t, hrun, hR⟩ := equal_loop g p hg ts us hn hl.symm hrec
    try simp at hrun
    simp [hl, hrun]
    cases hs : all2 p ts us <;> simp only [hs, if_true, Bool.false_eq_true, if_false] at hR
    · obtain ⟨rfl, hv⟩ := hR; simp [hv]
    · obtain ⟨rfl, nx, rfl⟩ := hR; simp
  · have : ¬ ((ts.length : Int) = (us.length : Int)) := by omega
    simp [hl, this]
theorem same_ok (t : Term) : t.ok → ∀ u : Term, u.ok → pcl Cp 35 [.agg t.enc, .agg u.enc] = some (.bool (t.sameB u)) := by
  refine Term.ind (p := fun t => t.ok → ∀ u : Term, u.ok → pcl Cp 35 [.agg t.enc, .agg u.enc] = some (.bool (t.sameB u))) (fun v fn args ih h => ?_) t
  intro u hu
  obtain ⟨v2, fn2, args2⟩ := u
  have he := equal_ok (g := 35) (p := Term.sameB) ⟨rfl, rfl⟩ (ts := args) (us := args2) h.1 (fun x hx y hy => ih x hx (okL_mem h.2 x hx) y (okL_mem hu.2 y hy))
  refine pcl_body code35 ?_
  simp [Term.enc, plc_raw, he]
  repeat' ((try simp only [condP_ite]); split <;> (try simp only [holdE]) <;> (try simp [*, plc_raw]))
  all_goals (simp_all [Term.sameB, sameBL_all2])

/-- Two terms' objects. -/
def termH2 (v : Int) (fn : ByteArray) (args : List Term) (v2 : Int) (fn2 : ByteArray) (args2 : List Term) : Hp :=
  upd (upd (fun _ => none) (0, 0) (.cells [.d (.int .i64 v), .d (.str fn), .d (.sl (encL args) args.length false none)])) (1, 0) (.cells [.d (.int .i64 v2), .d (.str fn2), .d (.sl (encL args2) args2.length false none)])
theorem rsame_loop (v0 : Int) (fn0 : ByteArray) (v00 : Int) (fn00 : ByteArray) (ts us : List Term) (hn : ts.length ≤ 9223372036854775807) (hlen : us.length = ts.length) (hrec : ∀ x ∈ ts, ∀ y ∈ us, pcl Cp 37 [.agg x.enc, .agg y.enc] = some (.bool (x.sameB y))) :
    ∃ e t, aloop Try.prog plc b37_0 ⟨[false, false, true, true, true, true, false, false, false, false, false, false, false, false, false, false, false, false, false, false, false, false, false, false, false, false, false, false, false, false, false, false, false, false, false, false, false, false, false, false, false, false, false, false, false, false], some 25⟩ ⟨[.junk, .junk, .ptr (0, 0) 0 3, .ptr (1, 0) 0 3, .d (.bool false), .d (.int .i64 0), .junk, .junk, .junk, .junk, .junk, .junk, .junk, .junk, .junk, .junk, .junk, .junk, .junk, .junk, .junk, .junk, .junk, .junk, .junk, .junk, .junk, .junk, .junk, .junk, .junk, .junk, .junk, .junk, .junk, .junk, .junk, .junk, .junk, .junk, .junk, .junk, .junk, .junk, .junk, .junk], termH2 v0 fn0 ts v00 fn00 us, 25⟩ = some (e, t) ∧
      (if sameBL ts us then AtExit 0 [.junk, .junk, .ptr (0, 0) 0 3, .ptr (1, 0) 0 3, .d (.bool false), .d (.int .i64 ts.length), .junk, .junk, .junk, .junk, .junk, .junk, .junk, .junk, .junk, .junk, .junk, .junk, .junk, .junk, .junk, .junk, .junk, .junk, .junk, .junk, .junk, .junk, .junk, .junk, .junk, .junk, .junk, .junk, .junk, .junk, .junk, .junk, .junk, .junk, .junk, .junk, .junk, .junk, .junk, .junk] (termH2 v0 fn0 ts v00 fn00 us) e t else AtRet 4 (.d (.bool false)) e t) := by
  refine loop_rule (b := 25) (tm := fun (i : Nat) => [.junk, .junk, .ptr (0, 0) 0 3, .ptr (1, 0) 0 3, .d (.bool false), .d (.int .i64 i), .junk, .junk, .junk, .junk, .junk, .junk, .junk, .junk, .junk, .junk, .junk, .junk, .junk, .junk, .junk, .junk, .junk, .junk, .junk, .junk, .junk, .junk, .junk, .junk, .junk, .junk, .junk, .junk, .junk, .junk, .junk, .junk, .junk, .junk, .junk, .junk, .junk, .junk, .junk, .junk]) (Hf := fun _ => termH2 v0 fn0 ts v00 fn00 us)
    (I := fun i => i ≤ ts.length) (μ := fun i => ts.length - i) (res := fun i => sameBL (ts.drop i) (us.drop i)) (R := fun b e t => if b then AtExit 0 [.junk, .junk, .ptr (0, 0) 0 3, .ptr (1, 0) 0 3, .d (.bool false), .d (.int .i64 ts.length), .junk, .junk, .junk, .junk, .junk, .junk, .junk, .junk, .junk, .junk, .junk, .junk, .junk, .junk, .junk, .junk, .junk, .junk, .junk, .junk, .junk, .junk, .junk, .junk, .junk, .junk, .junk, .junk, .junk, .junk, .junk, .junk, .junk, .junk, .junk, .junk, .junk, .junk, .junk, .junk] (termH2 v0 fn0 ts v00 fn00 us) e t else AtRet 4 (.d (.bool false)) e t)
    (fun i nx hi => ?_) 0 (Nat.zero_le _)
  rcases Nat.lt_or_ge i ts.length with hl | hl
  · obtain ⟨v, fn, args, a⟩ := at_ok hn hl
    obtain ⟨v2, fn2, args2, b⟩ := at_ok (ts := us) (by omega) (i := i) (by omega)
    have hcall := hrec _ a.mem _ b.mem
    simp [Term.enc] at hcall
    have bsz := b.sz
    have bltm := b.ltm
    have ble3 := b.le3
    rw [hlen] at bsz bltm ble3
    conv => arg 9; arg 4; unfold b37_0
    cases hp : (Term.mk v fn args).sameB (.mk v2 fn2 args2) <;> rw [hp] at hcall <;> simp [a.lti, a.sz, a.ltm, a.cells, a.le3, b.cells, bsz, bltm, ble3, hlen, plc_raw, hcall, a.w, termH2]
    · exact .fin _ _ (by simp only [a.dr, b.dr, sameBL, hp]; exact ⟨rfl, rfl⟩)
    · exact .next (i + 1) (by simp) (by simp) (by simp [termH2, hlen]) hl (by omega) (by simp [a.dr, b.dr, sameBL, hp])
  · obtain rfl : i = ts.length := Nat.le_antisymm hi hl
    simp [b37_0, termH2, hlen]
    exact .fin _ _ (by simp [sameBL, termH2, hlen]; exact .mk)
theorem rsame_ok (t : Term) : t.ok → ∀ u : Term, u.ok → pcl Cp 37 [.agg t.enc, .agg u.enc] = some (.bool (t.sameB u)) := by
  refine Term.ind (p := fun t => t.ok → ∀ u : Term, u.ok → pcl Cp 37 [.agg t.enc, .agg u.enc] = some (.bool (t.sameB u))) (fun v fn args ih h => ?_) t
  intro u hu
  obtain ⟨v2, fn2, args2⟩ := u
  refine pcl_body code37 ?_
  by_cases h3 : args.length = args2.length
  · obtain ⟨e, t, hrun, hR⟩ := rsame_loop v fn v2 fn2 args args2 h.1 h3.symm (fun x hx y hy => ih x hx (okL_mem h.2 x hx) y (okL_mem hu.2 y hy))
    simp [Term.enc, termH2, h3] at hrun ⊢
    cases hs : sameBL args args2 <;> simp only [hs, if_true, Bool.false_eq_true, if_false] at hR
    · obtain ⟨rfl, hv⟩ := hR
      repeat' ((try simp only [condP_ite]); split <;> (try simp only [holdE]) <;> (try simp [*, plc_raw]))
      all_goals (simp_all [Term.sameB])
    · obtain ⟨rfl, nx, rfl⟩ := hR
      repeat' ((try simp only [condP_ite]); split <;> (try simp only [holdE]) <;> (try simp [*, plc_raw]))
      all_goals (simp_all [Term.sameB])
  · have h3' : ¬ ((args.length : Int) = (args2.length : Int)) := by omega
    simp [Term.enc, h3, h3']
    repeat' ((try simp only [condP_ite]); split <;> (try simp only [holdE]) <;> (try simp [*, plc_raw]))
    all_goals (simp_all [Term.sameB])

/-! ### Right terms -/
theorem tright_ok (t : Term) (h : t.ok) : pcl Cp 34 [.agg t.enc] = some (.int .i64 t.rightE) := by
  have h1 := shaped_ok t h
  have h2 := depth_ok t h
  have h3 := size_ok t h
  refine pcl_body code34 ?_
  unfold Term.rightE
  generalize hs : t.shapeB = b at h1
  generalize hd : t.depthW = d at h2
  generalize hz : t.sizeW = z at h3
  obtain ⟨v, fn, args⟩ := t
  simp [Term.enc] at h1 h2 h3 ⊢
  simp [plc_raw, h1, h2, h3]
  repeat' ((try simp only [condP_ite]); split <;> (try simp only [holdE]) <;> (try simp [*, plc_raw]))
  all_goals (simp_all)
theorem rright_ok (t : Term) (h : t.ok) : pcl Cp 23 [.agg t.enc] = some (.int .i64 t.rightE) := by
  have h1 := rshape_ok t h
  have h2 := rdepth_ok t h
  have h3 := rsize_ok t h
  refine pcl_body code23 ?_
  unfold Term.rightE
  generalize hs : t.shapeB = b at h1
  generalize hd : t.depthW = d at h2
  generalize hz : t.sizeW = z at h3
  obtain ⟨v, fn, args⟩ := t
  simp [Term.enc] at h1 h2 h3 ⊢
  simp [plc_raw, h1, h2, h3]
  repeat' ((try simp only [condP_ite]); split <;> (try simp only [holdE]) <;> (try simp [*, plc_raw]))
  all_goals (simp_all)
end Go.Proofs.Ytfcedichoigbbaa.Am

/-
  Binds as data of the abstract machine; substitutions. No condition.
-/
namespace Go.Proofs.Ytfcedichoigbbaa.Am
open Go

structure Bd where
  v : Int
  t : Term
def Bd.enc (b : Bd) : List D := .int .i64 b.v :: b.t.enc
def encB (bs : List Bd) : List D := bs.flatMap Bd.enc
theorem Bd.enc_len (b : Bd) : b.enc.length = 4 := by simp [Bd.enc, Term.enc_len]
theorem encB_len : ∀ (bs : List Bd), (encB bs).length = bs.length * 4
  | [] => rfl
  | b :: r => by have := encB_len r; simp [encB, Bd.enc_len] at this ⊢; omega
theorem encB_at : ∀ (bs : List Bd) (i : Nat) (b : Bd), bs[i]? = some b → ((encB bs).drop (i * 4)).take 4 = b.enc
  | [], i, b, h => by simp at h
  | u :: r, 0, b, h => by
    simp at h; subst h
    have := u.enc_len
    simp [encB, this]
  | u :: r, i + 1, b, h => by
    have := u.enc_len
    have e := encB_at r i b (by simpa using h)
    simp only [encB, List.flatMap_cons] at e ⊢
    rw [show (i + 1) * 4 = u.enc.length + i * 4 by omega, List.drop_append, List.drop_of_length_le (by omega), List.nil_append, show u.enc.length + i * 4 - u.enc.length = i * 4 by omega]
    exact e
def okB (bs : List Bd) : Prop := bs.length ≤ 9223372036854775807 ∧ ∀ b ∈ bs, b.t.ok

/-- What a loop over binds needs at a place. -/
structure AtB (bs : List Bd) (i : Nat) (x v : Int) (fn : ByteArray) (args : List Term) : Prop where
  lt : i < bs.length
  mem : (⟨x, .mk v fn args⟩ : Bd) ∈ bs
  sz : (encB bs).length = bs.length * 4
  cells : ((encB bs).drop (i * 4)).take 4 = [.int .i64 x, .int .i64 v, .str fn, .sl (encL args) args.length false none]
  c0 : (encB bs)[i * 4]? = some (.int .i64 x)
  c1 : ((encB bs).drop (i * 4 + 1)).take 3 = [.int .i64 v, .str fn, .sl (encL args) args.length false none]
  c10 : (encB bs)[i * 4 + 1]? = some (.int .i64 v)
  c11 : (encB bs)[i * 4 + 2]? = some (.str fn)
  e0 : ∀ h : i * 4 < (encB bs).length, (encB bs)[i * 4]'h = .int .i64 x
  e10 : ∀ h : i * 4 + 1 < (encB bs).length, (encB bs)[i * 4 + 1]'h = .int .i64 v
  e11 : ∀ h : i * 4 + 2 < (encB bs).length, (encB bs)[i * 4 + 2]'h = .str fn
  lti : (i : Int) < (bs.length : Int)
  ltm : i * 4 < bs.length * 4
  le4 : 4 ≤ bs.length * 4 - i * 4
  le1 : 1 ≤ bs.length * 4 - i * 4
  le3 : 3 ≤ bs.length * 4 - (i * 4 + 1)
  le2 : 2 ≤ bs.length * 4 - (i * 4 + 1)
  le11 : 1 ≤ bs.length * 4 - (i * 4 + 1)
  dr : bs.drop i = ⟨x, .mk v fn args⟩ :: bs.drop (i + 1)
  w : IntKind.i64.wrap ((i : Int) + 1) = (i : Int) + 1
  w0 : IntKind.i64.wrap (i : Int) = (i : Int)
theorem atB_ok {bs : List Bd} (h : bs.length ≤ 9223372036854775807) {i : Nat} (hil : i < bs.length) : ∃ x v fn args, AtB bs i x v fn args := by
  obtain ⟨b, hb⟩ : ∃ b, bs[i]? = some b := ⟨bs[i], by simp [hil]⟩
  obtain ⟨x, t⟩ := b
  obtain ⟨v, fn, args⟩ := t
  have hc := encB_at bs i _ hb
  simp only [Bd.enc, Term.enc] at hc
  have hg : ∀ j, j < 4 → (encB bs)[i * 4 + j]? = ([.int .i64 x, .int .i64 v, .str fn, .sl (encL args) args.length false none] : List D)[j]? := fun j hj => by
    rw [← hc, List.getElem?_take, if_pos hj, List.getElem?_drop]
  refine ⟨x, v, fn, args, hil, List.mem_of_getElem? hb, encB_len bs, hc, by simpa using hg 0 (by omega), ?_, by simpa using hg 1 (by omega), by simpa using hg 2 (by omega), fun h => by simpa [h] using hg 0 (by omega), fun h => by simpa [h] using hg 1 (by omega), fun h => by simpa [h] using hg 2 (by omega), by omega, by omega, by omega, by omega, by omega, by omega, by omega, ?_, wrap_i64 (by omega) (by omega), wrap_i64 (by omega) (by omega)⟩
  · have := congrArg (List.drop 1) hc
    rw [List.drop_take, List.drop_drop] at this
    simpa [Nat.add_comm] using this
  · rw [List.drop_eq_getElem_cons hil]
    congr 1
    rw [List.getElem?_eq_getElem hil] at hb
    exact Option.some.inj hb

/-! ### Which are substitutions -/
/-- Is a bind the variable itself? -/
def Bd.own : Bd → Bool
  | ⟨x, .mk v fn _⟩ => noName fn && decide (v = x)
def Bd.badB (n : Nat) (last : Int) (b : Bd) : Bool := decide (b.v ≤ last) || decide (1000000 ≤ b.v) || b.own || decide (b.t.rightE ≠ 0) || decide ((4000 : Int) < (n : Int))
def subOk (n : Nat) : Int → List Bd → Bool
  | _, [] => true
  | last, b :: r => !b.badB n last && subOk n b.v r
def prevB (x : Int) : Option Int → Bool
  | some p => decide (x ≤ p)
  | none => false
def Bd.badR (prev : Option Int) (b : Bd) : Bool :=
  decide (b.v < 0) || decide (1000000 ≤ b.v) || prevB b.v prev || decide (b.t.rightE ≠ 0) || b.own
def isOk : Option Int → List Bd → Bool
  | _, [] => true
  | prev, b :: r => !b.badR prev && isOk (some b.v) r
def isB (bs : List Bd) : Bool := decide ((bs.length : Int) ≤ 4000) && isOk none bs
def pairB (a b : Bd) : Bool := decide (a.v = b.v) && a.t.sameB b.t
def allB (p : Bd → Bd → Bool) : List Bd → List Bd → Bool
  | t :: r, u :: s => p t u && allB p r s
  | _, _ => true
theorem isOk_sub (n : Nat) (hn : ¬ (4000 : Int) < (n : Int)) : ∀ (l : List Bd) (prev : Option Int) (last : Int), (prev = none ∧ last = -1 ∨ prev = some last ∧ 0 ≤ last) → isOk prev l = subOk n last l := by
  intro l
  induction l with
  | nil => intro prev last _; rfl
  | cons b r ih =>
    intro prev last hp
    simp only [isOk, subOk]
    have hb : b.badR prev = b.badB n last := by
      rcases hp with ⟨rfl, rfl⟩ | ⟨rfl, h0⟩
      · simp only [Bd.badR, Bd.badB, prevB, hn, decide_false, Bool.or_false]
        have : decide (b.v < 0) = decide (b.v ≤ -1) := by congr 1; simp; omega
        rw [this]
        cases b.own <;> simp
      · simp only [Bd.badR, Bd.badB, prevB, hn, decide_false, Bool.or_false]
        by_cases h1 : b.v ≤ last
        · simp [h1]
        · have : ¬ b.v < 0 := by omega
          simp only [h1, this, decide_false, Bool.false_or, Bool.or_false]
          cases b.own <;> simp
    rw [hb]
    cases hq : b.badB n last with
    | true => simp
    | false =>
      rw [ih (some b.v) b.v (.inr ⟨rfl, by
        simp only [Bd.badB, Bool.or_eq_false_iff, decide_eq_false_iff_not] at hq
        rcases hp with ⟨_, rfl⟩ | ⟨_, h0⟩ <;> omega⟩)]
theorem isB_sub (bs : List Bd) : isB bs = subOk bs.length (-1) bs := by
  unfold isB
  by_cases h : (bs.length : Int) ≤ 4000
  · rw [isOk_sub bs.length (by omega) bs none (-1) (.inl ⟨rfl, rfl⟩)]
    simp [h]
  · cases bs with
    | nil => simp at h
    | cons b r =>
      have h2 : (4000 : Int) < ((b :: r).length : Int) := by omega
      have e1 : decide (((b :: r).length : Int) ≤ 4000) = false := decide_eq_false h
      have e2 : decide ((4000 : Int) < ((b :: r).length : Int)) = true := decide_eq_true h2
      simp only [subOk, Bd.badB, e1, e2, Bool.or_true, Bool.not_true, Bool.false_and]

end Go.Proofs.Ytfcedichoigbbaa.Am

/-
  Terms as mathematics: sizes, depths, variables, substitutions, parts. No condition.
-/
namespace Go.Proofs.Ytfcedichoigbbaa.Am
open Go Go.Proofs
set_option linter.unusedSimpArgs false
set_option linter.unusedVariables false

theorem bytes_loop (a : ByteArray) : ∀ (k i : Nat) (r : List UInt8), a.size - i = k → ByteArray.toList.loop a i r = r.reverse ++ a.data.toList.drop i := by
  intro k
  induction k with
  | zero =>
    intro i r h
    rw [ByteArray.toList.loop, if_neg (by omega)]
    have : a.data.toList.drop i = [] := List.drop_of_length_le (by have : a.data.toList.length = a.size := rfl; omega)
    simp [this]
  | succ k ih =>
    intro i r h
    have hi : i < a.size := by omega
    rw [ByteArray.toList.loop, if_pos hi, ih (i + 1) _ (by omega)]
    have hl : i < a.data.toList.length := hi
    rw [List.drop_eq_getElem_cons hl]
    simp only [List.reverse_cons, List.append_assoc, List.singleton_append]
    congr 2
    have hi2 : i < a.data.size := hi
    simp only [ByteArray.get!, Array.getElem_toList]
    exact getElem!_pos a.data i hi2
theorem bytes_toList (a : ByteArray) : a.toList = a.data.toList := by
  have := bytes_loop a a.size 0 [] rfl
  simpa [ByteArray.toList] using this
theorem bytes_ext {a b : ByteArray} (h : a.toList = b.toList) : a = b := by
  rw [bytes_toList, bytes_toList] at h
  cases a; cases b
  simp at h
  simp [h]
theorem sameB_eq (t : Term) : ∀ u, (t.sameB u = true ↔ t = u) := by
  refine Term.ind (p := fun t => ∀ u, (t.sameB u = true ↔ t = u)) (fun v fn args ih u => ?_) t
  obtain ⟨v2, fn2, args2⟩ := u
  have hl : ∀ (a b : List Term), (∀ x ∈ a, ∀ u, (x.sameB u = true ↔ x = u)) → a.length = b.length → (sameBL a b = true ↔ a = b) := by
    intro a
    induction a with
    | nil => intro b _ h; cases b with | nil => simp [sameBL] | cons => simp at h
    | cons x r ih2 =>
      intro b h h2
      cases b with
      | nil => simp at h2
      | cons y s =>
        simp only [sameBL, Bool.and_eq_true, List.cons.injEq]
        rw [h x (by simp), ih2 s (fun z hz => h z (by simp [hz])) (by simpa using h2)]
  simp only [Term.sameB, Bool.and_eq_true, decide_eq_true_eq, beq_iff_eq, Term.mk.injEq]
  constructor
  · rintro ⟨⟨⟨h1, h2⟩, h3⟩, h4⟩
    exact ⟨h1, bytes_ext h2, (hl args args2 ih h3).1 h4⟩
  · rintro ⟨h1, h2, h3⟩
    exact ⟨⟨⟨h1, by rw [h2]⟩, by rw [h3]⟩, (hl args args2 ih (by rw [h3])).2 h3⟩
theorem sameB_ff {t u : Term} : t.sameB u = false ↔ t ≠ u := by
  rw [← Bool.not_eq_true, sameB_eq]
mutual
def Term.size : Term → Nat
  | .mk _ _ args => 1 + sizeL args
def sizeL : List Term → Nat
  | [] => 0
  | t :: r => t.size + sizeL r
end
mutual
def Term.occ : Term → List Int
  | .mk v fn args => (if fn.toList = [] then [v] else []) ++ occL args
def occL : List Term → List Int
  | [] => []
  | t :: r => t.occ ++ occL r
end
theorem Term.size_pos (t : Term) : 0 < t.size := by cases t; simp [Term.size]; omega
theorem occ_len (t : Term) : t.occ.length ≤ t.size := by
  refine Term.ind (p := fun t => t.occ.length ≤ t.size) (fun v fn args ih => ?_) t
  have hl : ∀ (a : List Term), (∀ x ∈ a, x.occ.length ≤ x.size) → (occL a).length ≤ sizeL a := by
    intro a
    induction a with
    | nil => intro _; simp [sizeL, occL]
    | cons x r ih2 =>
      intro h
      have h1 := h x (by simp)
      have h2 := ih2 fun z hz => h z (by simp [hz])
      simp only [sizeL, occL, List.length_append]; omega
  have h1 := hl args ih
  simp only [Term.size, Term.occ, List.length_append]
  split <;> simp <;> omega
theorem sizeL_mem : ∀ {a : List Term} {x : Term}, x ∈ a → x.size ≤ sizeL a
  | t :: r, x, h => by
    rcases List.mem_cons.1 h with rfl | h
    · simp [sizeL]
    · have := sizeL_mem h; simp [sizeL]; omega

theorem wrap_small {n : Int} (h : -4611686018427387904 ≤ n) (h2 : n ≤ 4611686018427387904) : IntKind.i64.wrap n = n := wrap_i64 (by omega) (by omega)
theorem shapeB_v' {v : Int} {fn : ByteArray} {args : List Term} (h : (Term.mk v fn args).shapeB = true) (hv : fn.toList ≠ []) : v = 0 := by
  have hn : noName fn = false := by simp [noName, hv]
  simp [Term.shapeB, rightB, hn] at h
  exact h.1.1.1
theorem shapeBL_mem' : ∀ {ts : List Term}, shapeBL ts = true → ∀ x ∈ ts, x.shapeB = true
  | [], _, x, hx => by simp at hx
  | t :: r, h, x, hx => by
    simp only [shapeBL, Bool.and_eq_true] at h
    rcases List.mem_cons.1 hx with e | hx
    · exact e ▸ h.1
    · exact shapeBL_mem' h.2 x hx
mutual
def Term.depth : Term → Nat
  | .mk _ _ args => depthL args + 1
def depthL : List Term → Nat
  | [] => 0
  | t :: r => max t.depth (depthL r)
end
theorem depth_size (t : Term) : t.depth ≤ t.size := by
  refine Term.ind (p := fun t => t.depth ≤ t.size) (fun v fn args ih => ?_) t
  have hl : ∀ (a : List Term), (∀ x ∈ a, x.depth ≤ x.size) → depthL a ≤ sizeL a := by
    intro a
    induction a with
    | nil => intro _; simp [depthL, sizeL]
    | cons x r ih2 =>
      intro h
      have h1 := h x (by simp)
      have h2 := ih2 fun z hz => h z (by simp [hz])
      simp only [depthL, sizeL]; omega
  have := hl args ih
  simp only [Term.depth, Term.size]; omega
theorem sizeW_eq (t : Term) : (t.size : Int) ≤ 4611686018427387904 → t.sizeW = t.size := by
  refine Term.ind (p := fun t => (t.size : Int) ≤ 4611686018427387904 → t.sizeW = t.size) (fun v fn args ih hs => ?_) t
  have hl : ∀ (a : List Term), (∀ x ∈ a, (x.size : Int) ≤ 4611686018427387904 → x.sizeW = x.size) → ∀ acc : Int, 0 ≤ acc → acc + sizeL a ≤ 4611686018427387904 → sizeWL acc a = acc + sizeL a := by
    intro a
    induction a with
    | nil => intro _ acc _ _; simp [sizeWL, sizeL]
    | cons x r ih2 =>
      intro h acc h0 h1
      simp only [sizeL] at h1
      have hx := h x (by simp) (by omega)
      simp only [sizeWL, hx, sizeL]
      rw [wrap_small (by omega) (by omega), ih2 (fun z hz => h z (by simp [hz])) _ (by omega) (by omega)]
      omega
  simp only [Term.size] at hs
  have := hl args ih 1 (by omega) (by omega)
  simp only [Term.sizeW, Term.size, this]; omega
theorem depthW_eq (t : Term) : (t.size : Int) ≤ 4611686018427387904 → t.depthW = t.depth := by
  refine Term.ind (p := fun t => (t.size : Int) ≤ 4611686018427387904 → t.depthW = t.depth) (fun v fn args ih hs => ?_) t
  have hl : ∀ (a : List Term), (∀ x ∈ a, (x.size : Int) ≤ 4611686018427387904 → x.depthW = x.depth) → (sizeL a : Int) ≤ 4611686018427387904 → ∀ acc : Nat, depthWL acc a = (max acc (depthL a) : Nat) := by
    intro a
    induction a with
    | nil => intro _ _ acc; simp [depthWL, depthL]
    | cons x r ih2 =>
      intro h h1 acc
      simp only [sizeL] at h1
      have hx := h x (by simp) (by omega)
      simp only [depthWL, hx, depthL]
      by_cases hm : (x.depth : Int) > acc
      · rw [if_pos hm, ih2 (fun z hz => h z (by simp [hz])) (by omega)]
        congr 1; omega
      · rw [if_neg hm, ih2 (fun z hz => h z (by simp [hz])) (by omega)]
        congr 1; omega
  simp only [Term.size] at hs
  have h1 := hl args ih (by omega) 0
  have h2 : depthL args + 1 ≤ 1 + sizeL args := depth_size (.mk v fn args)
  simp only [Term.depthW, Term.depth]
  rw [show (0 : Int) = ((0 : Nat) : Int) from rfl, h1, Nat.zero_max, wrap_small (by omega) (by omega)]
  omega
/-- Which terms are right. -/
theorem rightE_iff (t : Term) (h : (t.size : Int) ≤ 4611686018427387904) : t.rightE = 0 ↔ t.shapeB = true ∧ t.depth ≤ 60 ∧ t.size ≤ 4000 := by
  unfold Term.rightE
  rw [sizeW_eq t h, depthW_eq t h]
  by_cases hs : t.shapeB = true
  · rw [if_pos hs]
    by_cases hd : (t.depth : Int) > 60
    · rw [if_pos hd]; simp; omega
    · rw [if_neg hd]
      by_cases hz : (t.size : Int) > 4000
      · rw [if_pos hz]; simp; omega
      · rw [if_neg hz]; simp [hs]; omega
  · rw [if_neg hs]; simp [hs]

def ofS (s : List Bd) (v : Int) : Term := match s.find? (fun b => decide (b.v = v)) with | some b => b.t | none => .mk v (ByteArray.mk #[]) []
mutual
def Term.putS (s : List Bd) : Term → Term
  | .mk v fn args => if fn.toList = [] then ofS s v else .mk 0 fn (putSL s args)
def putSL (s : List Bd) : List Term → List Term
  | [] => []
  | t :: r => t.putS s :: putSL s r
end
theorem putSL_len (s : List Bd) : ∀ (a : List Term), (putSL s a).length = a.length
  | [] => rfl
  | t :: r => by simp [putSL, putSL_len s r]
/-- The shape of a variable: nothing hangs on it. -/
theorem shape_var {v : Int} {fn : ByteArray} {args : List Term} (h : (Term.mk v fn args).shapeB = true) (hv : fn.toList = []) : args = [] := by
  have hn : noName fn = true := by simp [noName, hv]
  simp [Term.shapeB, rightB, hn] at h
  exact h.1.2
theorem putS_size (s : List Bd) (B : Nat) (hB : 1 ≤ B) (hs : ∀ b ∈ s, b.t.size ≤ B) (t : Term) : (t.putS s).size ≤ t.size * B := by
  refine Term.ind (p := fun t => (t.putS s).size ≤ t.size * B) (fun v fn args ih => ?_) t
  have hl : ∀ (a : List Term), (∀ x ∈ a, (x.putS s).size ≤ x.size * B) → sizeL (putSL s a) ≤ sizeL a * B := by
    intro a
    induction a with
    | nil => intro _; simp [putSL, sizeL]
    | cons x r ih2 =>
      intro h
      have h1 := h x (by simp)
      have h2 := ih2 fun z hz => h z (by simp [hz])
      simp only [putSL, sizeL, Nat.add_mul]; omega
  have h1 := hl args ih
  by_cases hv : fn.toList = []
  · simp only [Term.putS, if_pos hv, Term.size, Nat.add_mul, Nat.one_mul]
    have : (ofS s v).size ≤ B := by
      unfold ofS
      cases hf : s.find? (fun b => decide (b.v = v)) with
      | none => simpa [Term.size, sizeL] using hB
      | some b => exact hs b (List.mem_of_find?_eq_some hf)
    omega
  · simp only [Term.putS, if_neg hv, Term.size, Nat.add_mul, Nat.one_mul]; omega

def Term.at : Term → List Int → Option Term
  | t, [] => some t
  | .mk _ _ args, k :: p => if k < 0 then none else match args[k.toNat]? with
    | some x => x.at p
    | none => none
def Term.putAt : Term → List Int → Term → Option Term
  | _, [], s => some s
  | .mk _ fn args, k :: p, s => if k < 0 then none else match args[k.toNat]? with
    | some x => (x.putAt p s).map fun y => .mk 0 fn (args.set k.toNat y)
    | none => none
theorem depthL_mem : ∀ {a : List Term} {x : Term}, x ∈ a → x.depth ≤ depthL a
  | t :: r, x, h => by
    rcases List.mem_cons.1 h with rfl | h
    · simp only [depthL]; omega
    · have := depthL_mem h; simp only [depthL]; omega
/-- A part of a right term is a right term, not greater. -/
theorem at_right : ∀ (p : List Int) (t x : Term), t.at p = some x → t.shapeB = true → x.shapeB = true ∧ x.depth ≤ t.depth ∧ x.size ≤ t.size
  | [], t, x, h, hs => by
    have : t = x := by cases t; simpa [Term.at] using h
    subst this; exact ⟨hs, Nat.le_refl _, Nat.le_refl _⟩
  | k :: p, .mk v fn args, x, h, hs => by
    simp only [Term.at] at h
    split at h
    · cases h
    · cases hg : args[k.toNat]? with
      | none => rw [hg] at h; cases h
      | some y =>
        rw [hg] at h
        have hm := List.mem_of_getElem? hg
        simp only [Term.shapeB, Bool.and_eq_true] at hs
        have := at_right p y x h (shapeBL_mem' hs.2 y hm)
        have h1 := sizeL_mem hm
        have h2 := depthL_mem hm
        simp only [Term.size, Term.depth]
        exact ⟨this.1, by omega, by omega⟩
theorem set_size : ∀ (a : List Term) (i : Nat) (y : Term), sizeL (a.set i y) ≤ sizeL a + y.size
  | [], i, y => by simp [sizeL]
  | t :: r, 0, y => by simp only [List.set_cons_zero, sizeL]; omega
  | t :: r, i + 1, y => by have := set_size r i y; simp only [List.set_cons_succ, sizeL]; omega
theorem putAt_size (s : Term) : ∀ (p : List Int) (t u : Term), t.putAt p s = some u → u.size ≤ t.size * (p.length + 1) + s.size
  | [], t, u, hu => by
    have h2 : s = u := by cases t; simpa [Term.putAt] using hu
    subst h2; omega
  | i :: p, .mk v fn args, u, hu => by
    simp only [Term.putAt] at hu
    split at hu
    · cases hu
    · cases hg : args[i.toNat]? with
      | none => rw [hg] at hu; cases hu
      | some y =>
        rw [hg] at hu
        simp only [Option.map_eq_some_iff] at hu
        obtain ⟨w, hw, rfl⟩ := hu
        have h1 := putAt_size s p y w hw
        have h2 := sizeL_mem (List.mem_of_getElem? hg)
        have h3 := set_size args i.toNat w
        have h4 : y.size * (p.length + 1) ≤ sizeL args * (p.length + 1) := Nat.mul_le_mul_right _ h2
        simp only [Term.size, List.length_cons, Nat.add_mul, Nat.mul_add, Nat.one_mul, Nat.mul_one] at h4 h1 ⊢
        omega

end Go.Proofs.Ytfcedichoigbbaa.Am

/-
  Substitutions: what the document's functions compute, as the abstract machine runs them. No condition.
-/
namespace Go.Proofs.Ytfcedichoigbbaa.Am
open Go Go.Proofs
set_option maxHeartbeats 4000000
set_option linter.unusedSimpArgs false
set_option linter.unusedVariables false

/-! ### Which substitutions -/
/-- The variable ahead of a place. -/
def Prev (bs : List Bd) (i : Nat) (prev : Option Int) : Prop :=
  (i = 0 ∧ prev = none) ∨ ∃ k y, i = k + 1 ∧ IntKind.i64.wrap ((i : Int) - 1) = (k : Int) ∧ (k : Int) < bs.length ∧ k * 4 < bs.length * 4 ∧ 1 ≤ bs.length * 4 - k * 4 ∧ (∀ h : k * 4 < (encB bs).length, (encB bs)[k * 4]'h = .int .i64 y) ∧ prev = some y
theorem ris_loop (bs : List Bd) (hb : okB bs) :
    ∃ e t, aloop Try.prog plc b18_0 ⟨[true, false, true, true, false, false, false, false, false, false, false, false, false, false, false, false, false, false, false, false, false, false, false, false, false, false, false, false, false, false, false, false, false, false, false, false, false, false, false, false, false, false, false, false, false, false, false, false, false, false, false, false, false, false, false, false, false, false, false, false, false, false, false, false, false, false, false, false, false, false, false, false, false, false, false, false, false], some 5⟩ ⟨[.d (.sl (encB bs) bs.length false none), .junk, .d (.bool false), .d (.int .i64 0), .junk, .junk, .junk, .junk, .junk, .junk, .junk, .junk, .junk, .junk, .junk, .junk, .junk, .junk, .junk, .junk, .junk, .junk, .junk, .junk, .junk, .junk, .junk, .junk, .junk, .junk, .junk, .junk, .junk, .junk, .junk, .junk, .junk, .junk, .junk, .junk, .junk, .junk, .junk, .junk, .junk, .junk, .junk, .junk, .junk, .junk, .junk, .junk, .junk, .junk, .junk, .junk, .junk, .junk, .junk, .junk, .junk, .junk, .junk, .junk, .junk, .junk, .junk, .junk, .junk, .junk, .junk, .junk, .junk, .junk, .junk, .junk, .junk], fun _ => none, 5⟩ = some (e, t) ∧
      (if isOk none bs then AtExit 0 [.d (.sl (encB bs) bs.length false none), .junk, .d (.bool false), .d (.int .i64 bs.length), .junk, .junk, .junk, .junk, .junk, .junk, .junk, .junk, .junk, .junk, .junk, .junk, .junk, .junk, .junk, .junk, .junk, .junk, .junk, .junk, .junk, .junk, .junk, .junk, .junk, .junk, .junk, .junk, .junk, .junk, .junk, .junk, .junk, .junk, .junk, .junk, .junk, .junk, .junk, .junk, .junk, .junk, .junk, .junk, .junk, .junk, .junk, .junk, .junk, .junk, .junk, .junk, .junk, .junk, .junk, .junk, .junk, .junk, .junk, .junk, .junk, .junk, .junk, .junk, .junk, .junk, .junk, .junk, .junk, .junk, .junk, .junk, .junk] (fun _ => none) e t else AtRet 2 (.d (.bool false)) e t) := by
  refine loop_rule (b := 5) (tm := fun (s : Nat × Option Int) => [.d (.sl (encB bs) bs.length false none), .junk, .d (.bool false), .d (.int .i64 s.1), .junk, .junk, .junk, .junk, .junk, .junk, .junk, .junk, .junk, .junk, .junk, .junk, .junk, .junk, .junk, .junk, .junk, .junk, .junk, .junk, .junk, .junk, .junk, .junk, .junk, .junk, .junk, .junk, .junk, .junk, .junk, .junk, .junk, .junk, .junk, .junk, .junk, .junk, .junk, .junk, .junk, .junk, .junk, .junk, .junk, .junk, .junk, .junk, .junk, .junk, .junk, .junk, .junk, .junk, .junk, .junk, .junk, .junk, .junk, .junk, .junk, .junk, .junk, .junk, .junk, .junk, .junk, .junk, .junk, .junk, .junk, .junk, .junk]) (Hf := fun _ => fun _ => none)
    (I := fun s => s.1 ≤ bs.length ∧ Prev bs s.1 s.2) (μ := fun s => bs.length - s.1) (res := fun s => isOk s.2 (bs.drop s.1)) (R := fun r e t => if r then AtExit 0 [.d (.sl (encB bs) bs.length false none), .junk, .d (.bool false), .d (.int .i64 bs.length), .junk, .junk, .junk, .junk, .junk, .junk, .junk, .junk, .junk, .junk, .junk, .junk, .junk, .junk, .junk, .junk, .junk, .junk, .junk, .junk, .junk, .junk, .junk, .junk, .junk, .junk, .junk, .junk, .junk, .junk, .junk, .junk, .junk, .junk, .junk, .junk, .junk, .junk, .junk, .junk, .junk, .junk, .junk, .junk, .junk, .junk, .junk, .junk, .junk, .junk, .junk, .junk, .junk, .junk, .junk, .junk, .junk, .junk, .junk, .junk, .junk, .junk, .junk, .junk, .junk, .junk, .junk, .junk, .junk, .junk, .junk, .junk, .junk] (fun _ => none) e t else AtRet 2 (.d (.bool false)) e t)
    (fun s nx hi => ?_) (0, none) ⟨Nat.zero_le _, .inl ⟨rfl, rfl⟩⟩
  obtain ⟨i, prev⟩ := s
  obtain ⟨hi, hp⟩ := hi
  simp only at hi hp
  rcases Nat.lt_or_ge i bs.length with hl | hl
  · obtain ⟨x, v, fn, args, a⟩ := atB_ok hb.1 (i := i) hl
    have hr := rright_ok _ (hb.2 _ a.mem)
    have hpn : Prev bs (i + 1) (some x) := .inr ⟨i, x, by omega, by rw [show ((i + 1 : Nat) : Int) - 1 = (i : Int) by omega]; exact a.w0, a.lti, a.ltm, a.le1, a.e0, rfl⟩
    simp [Term.enc] at hr
    generalize hrE : (Term.mk v fn args).rightE = e at hr
    have hres : isOk prev (bs.drop i) = (!(Bd.badR prev ⟨x, .mk v fn args⟩) && isOk (some x) (bs.drop (i + 1))) := by rw [a.dr]; rfl
    have hbad : Bd.badR prev ⟨x, .mk v fn args⟩ = (decide (x < 0) || decide (1000000 ≤ x) || prevB x prev || decide (e ≠ 0) || (noName fn && decide (v = x))) := by simp only [Bd.badR, hrE, Bd.own]
    conv => arg 9; arg 4; unfold b18_0
    by_cases c1 : x < 0
    · simp [a.lti, a.sz, a.ltm, a.e0, a.le1, plc_raw, c1]
      exact .fin _ _ (by simp only [hres, hbad]; simp [c1, AtRet])
    by_cases c2 : 1000000 ≤ x
    · simp [a.lti, a.sz, a.ltm, a.e0, a.le1, plc_raw, c1, c2]
      exact .fin _ _ (by simp only [hres, hbad]; simp [c2, AtRet])
    rcases hp with ⟨p0, rfl⟩ | ⟨k, y, p1, p2, p3, p4, p5, p6, rfl⟩
    · have p1 : ¬ (0 : Int) < (i : Int) := by omega
      have p9 : ¬ 0 < i := by omega
      clear p0
      by_cases c4 : e = 0
      · by_cases c5 : fn.toList = []
        · by_cases c6 : v = x
          · subst c6
            simp [a.lti, a.sz, a.ltm, a.e0, a.c1, a.e10, a.e11, a.c0, a.c10, a.c11, a.le1, a.le4, a.le3, a.le2, a.le11, plc_raw, c1, c2, p1, p9, hr, c4, c5]
            exact .fin _ _ (by simp only [hres, hbad]; simp [c5, noName, AtRet])
          · simp [a.lti, a.sz, a.ltm, a.e0, a.c1, a.e10, a.e11, a.c0, a.c10, a.c11, a.le1, a.le4, a.le3, a.le2, a.le11, plc_raw, c1, c2, p1, p9, hr, c4, c5, c6, a.w]
            exact .next (i + 1, some x) (by omega) (by simp) rfl ⟨hl, hpn⟩ (by simp; omega) (by simp only [hres, hbad]; simp [c1, c2, c4, c5, c6, prevB, noName])
        · simp [a.lti, a.sz, a.ltm, a.e0, a.c1, a.e10, a.e11, a.c0, a.c10, a.c11, a.le1, a.le4, a.le3, a.le2, a.le11, plc_raw, c1, c2, p1, p9, hr, c4, c5, a.w]
          exact .next (i + 1, some x) (by omega) (by simp) rfl ⟨hl, hpn⟩ (by simp; omega) (by simp only [hres, hbad]; simp [c1, c2, c4, c5, prevB, noName])
      · simp [a.lti, a.sz, a.ltm, a.e0, a.c1, a.le1, a.le4, a.le3, plc_raw, c1, c2, p1, p9, hr, c4]
        exact .fin _ _ (by simp only [hres, hbad]; simp [c4, AtRet])
    · have p0 : ¬ i = 0 := by omega
      have p7 : ¬ (i : Int) = 0 := by omega
      have p8 : (0 : Int) < (i : Int) := by omega
      have p9 : 0 < i := by omega
      by_cases c3 : x ≤ y
      · simp [a.lti, a.sz, a.ltm, a.e0, a.le1, plc_raw, c1, c2, p2, p3, p4, p5, p6, c3, p8, p9]
        exact .fin _ _ (by simp only [hres, hbad]; simp [c3, prevB, AtRet])
      by_cases c4 : e = 0
      · by_cases c5 : fn.toList = []
        · by_cases c6 : v = x
          · subst c6
            simp [a.lti, a.sz, a.ltm, a.e0, a.c1, a.e10, a.e11, a.c0, a.c10, a.c11, a.le1, a.le4, a.le3, a.le2, a.le11, plc_raw, c1, c2, p2, p3, p4, p5, p6, c3, p8, p9, hr, c4, c5]
            exact .fin _ _ (by simp only [hres, hbad]; simp [c5, noName, AtRet])
          · simp [a.lti, a.sz, a.ltm, a.e0, a.c1, a.e10, a.e11, a.c0, a.c10, a.c11, a.le1, a.le4, a.le3, a.le2, a.le11, plc_raw, c1, c2, p2, p3, p4, p5, p6, c3, p8, p9, hr, c4, c5, c6, a.w]
            exact .next (i + 1, some x) (by omega) (by simp) rfl ⟨hl, hpn⟩ (by simp; omega) (by simp only [hres, hbad]; simp [c1, c2, c3, c4, c5, c6, prevB, noName])
        · simp [a.lti, a.sz, a.ltm, a.e0, a.c1, a.e10, a.e11, a.c0, a.c10, a.c11, a.le1, a.le4, a.le3, a.le2, a.le11, plc_raw, c1, c2, p2, p3, p4, p5, p6, c3, p8, p9, hr, c4, c5, a.w]
          exact .next (i + 1, some x) (by omega) (by simp) rfl ⟨hl, hpn⟩ (by simp; omega) (by simp only [hres, hbad]; simp [c1, c2, c3, c4, c5, prevB, noName])
      · simp [a.lti, a.sz, a.ltm, a.e0, a.c1, a.le1, a.le4, a.le3, plc_raw, c1, c2, p2, p3, p4, p5, p6, c3, p8, p9, hr, c4]
        exact .fin _ _ (by simp only [hres, hbad]; simp [c4, AtRet])
  · obtain rfl : i = bs.length := Nat.le_antisymm hi hl
    simp [b18_0]
    exact .fin _ _ (by simp only [List.drop_length, isOk, if_true]; exact .mk)
theorem ris_ok (bs : List Bd) (hb : okB bs) : pcl Cp 18 [.sl (encB bs) bs.length false none] = some (.bool (isB bs)) := by
  obtain ⟨e, t, hrun, hR⟩ := ris_loop bs hb
  refine pcl_body code18 ?_
  unfold isB
  by_cases hn : (bs.length : Int) ≤ 4000
  · have hn2 : bs.length ≤ 4000 := by omega
    have hn3 : ¬ (4000 : Int) < bs.length := by omega
    have hn4 : ¬ 4000 < bs.length := by omega
    simp at hrun
    cases hq : isOk none bs
    · rw [hq] at hR
      obtain ⟨rfl, hv⟩ := hR
      simp [hn, hn2, hn3, hn4, hrun, hv]
    · rw [hq] at hR
      obtain ⟨rfl, nx, rfl⟩ := hR
      simp [hn, hn2, hn3, hn4, hrun]
  · have hn2 : ¬ bs.length ≤ 4000 := by omega
    have hn3 : (4000 : Int) < bs.length := by omega
    have hn4 : 4000 < bs.length := by omega
    simp [hn, hn2, hn3, hn4]
end Go.Proofs.Ytfcedichoigbbaa.Am

/-
  Signatures as data: names and weights; names' places, which signatures are right, which name is above. No condition.
-/
namespace Go.Proofs.Ytfcedichoigbbaa.Am
open Go

structure Sg where
  names : List ByteArray
  weights : List Int
def encS (ns : List ByteArray) : List D := ns.map .str
def encI (ws : List Int) : List D := ws.map (.int .i64)
@[simp] theorem encS_len (ns : List ByteArray) : (encS ns).length = ns.length := by simp [encS]
@[simp] theorem encI_len (ns : List Int) : (encI ns).length = ns.length := by simp [encI]
@[simp] theorem encS_get (ns : List ByteArray) (i : Nat) (h : i < (encS ns).length) : (encS ns)[i] = .str (ns[i]'(by simpa using h)) := by simp [encS]
@[simp] theorem encI_get (ns : List Int) (i : Nat) (h : i < (encI ns).length) : (encI ns)[i] = .int .i64 (ns[i]'(by simpa using h)) := by simp [encI]
def Sg.enc (g : Sg) : List D := [.sl (encS g.names) g.names.length false none, .sl (encI g.weights) g.weights.length false none]
def Sg.ok (g : Sg) : Prop := g.names.length ≤ 9223372036854775807 ∧ g.weights.length ≤ 9223372036854775807

def eqS (a b : ByteArray) : Bool := a.toList == b.toList
/-- A name's place. -/
def idxS (ns : List ByteArray) (s : ByteArray) : Int := match ns.findIdx? (fun n => eqS n s) with | some k => k | none => -1
def dollarTrue : List UInt8 := [36, 116, 114, 117, 101]
def badN (ns : List ByteArray) (i : Nat) (n : ByteArray) : Bool := n.toList.isEmpty || decide (64 < (n.size : Int)) || (n.toList == dollarTrue) || decide (idxS ns n ≠ (i : Int))
def badW (w : Int) : Bool := decide (w < 1) || decide (1000 < w)
/-- Is there one, with its place, from a place on? -/
def anyI {α : Type} (p : Nat → α → Bool) (l : List α) (i : Nat) : Bool := (l.drop i).zipIdx i |>.any fun q => p q.2 q.1
theorem anyI_end {α : Type} (p : Nat → α → Bool) (l : List α) : anyI p l l.length = false := by simp [anyI]
theorem anyI_step {α : Type} {p : Nat → α → Bool} {l : List α} {i : Nat} (h : i < l.length) : anyI p l i = (p i l[i] || anyI p l (i + 1)) := by
  unfold anyI
  rw [List.drop_eq_getElem_cons h, List.zipIdx_cons, List.any_cons]
def Sg.right (g : Sg) : Bool :=
  !(decide (200 < (g.names.length : Int)) || decide (g.names.length < g.weights.length) || anyI (badN g.names) g.names 0 || anyI (fun _ => badW) g.weights 0)
/-- A name's rank, and which name is above. -/
def Sg.rank (g : Sg) (s : ByteArray) : Int := if s.toList = dollarTrue then -2 else idxS g.names s
def gtS (a b : ByteArray) : Bool := !(Op.bytesLess a.toList b.toList || a.toList == b.toList)
def Sg.above (g : Sg) (a b : ByteArray) : Bool := if g.rank a ≠ g.rank b then decide (g.rank a > g.rank b) else gtS a b
def Sg.aboveR (g : Sg) (a b : ByteArray) : Bool :=
  if a.toList = b.toList ∨ a.toList = dollarTrue then false else if b.toList = dollarTrue then true
  else if idxS g.names a < 0 ∧ idxS g.names b < 0 then gtS a b else decide (idxS g.names a > idxS g.names b)
/-- A name's weight. -/
def Sg.of (g : Sg) (s : ByteArray) : Int :=
  let i := idxS g.names s
  if s.toList = [] ∨ i < 0 ∨ (g.weights.length : Int) ≤ i then 1 else
  let w := g.weights.getD i.toNat 0
  if w < 1 ∨ 1000 < w then 1 else w
theorem idxS_lt {ns : List ByteArray} {s : ByteArray} : idxS ns s = -1 ∨ ∃ k : Nat, idxS ns s = k ∧ k < ns.length := by
  unfold idxS
  cases h : ns.findIdx? (fun n => eqS n s) with
  | none => exact .inl rfl
  | some k =>
    rw [List.findIdx?_eq_some_iff_getElem] at h
    exact .inr ⟨k, rfl, h.1⟩
end Go.Proofs.Ytfcedichoigbbaa.Am

/-
  Data of which less is known: terms, binds, names, numbers are that already. No condition.
-/
namespace Go.Proofs.Ytfcedichoigbbaa.Am
open Go Go.Proofs
set_option linter.unusedSimpArgs false

@[simp] theorem wkL_encL : ∀ (ts : List Term), wkL (encL ts) = encL ts
  | [] => rfl
  | .mk v fn args :: r => by simp [encL, Term.enc, wkL_encL args, wkL_encL r]
@[simp] theorem wkL_encS (l : List ByteArray) : wkL (encS l) = encS l := by induction l <;> simp_all [encS]
@[simp] theorem wkL_encI (l : List Int) : wkL (encI l) = encI l := by induction l <;> simp_all [encI]
@[simp] theorem wkL_encB : ∀ (bs : List Bd), wkL (encB bs) = encB bs
  | [] => rfl
  | ⟨x, .mk v fn args⟩ :: r => by
    have := wkL_encB r
    simp [encB] at this
    simp [encB, Bd.enc, Term.enc, this]
theorem mapD_encT (H : Hp) (n : Nat) : ∀ (l : List D), mapD (reify H n) (l.map .d) = some (l, [])
  | [] => rfl
  | x :: r => by
    have h := mapD_encT H n r
    rw [List.map_cons, mapD, h]
    cases n <;> simp [reify]
end Go.Proofs.Ytfcedichoigbbaa.Am

/-
  Substitutions: what the document's functions make of a term. No condition.
-/
namespace Go.Proofs.Ytfcedichoigbbaa.Am
open Go Go.Proofs
set_option maxHeartbeats 4000000
set_option linter.unusedSimpArgs false
set_option linter.unusedVariables false

/-! ### What stands for a variable -/
def OfEnd (bs : List Bd) (v : Int) (o : Option Bd) (e : Ex) (t : St) : Prop :=
  match o with
  | some b => e = .ret ∧ t.tm[4]? = some (.ptr (0, 0) 0 3) ∧ t.hp (0, 0) = some (.cells (b.t.enc.map .d))
  | none => AtExit 0 [.d (.sl (encB bs) bs.length false none), .d (.int .i64 v), .junk, .junk, .ptr (0, 0) 0 3, .d (.int .i64 bs.length), .junk, .junk, .junk, .junk, .junk, .junk, .junk, .junk, .junk, .junk, .junk, .junk, .junk, .junk, .junk, .junk, .junk, .junk, .junk, .junk] (upd (upd (fun _ => none) (0, 3) .vnil) (0, 0) (.cells [.d (.int .i64 0), .d (.str (ByteArray.mk #[])), .osl (0, 3) 0 0 1 0])) e t
theorem of_bind_ok (bs : List Bd) (hb : okB bs) (v : Int) : ∃ r, pcl Cp 64 [.sl (encB bs) bs.length false none, .int .i64 v] = some r ∧ wk r = .agg (ofS bs v).enc := by
  have hloop := loop_rule (P := Try.prog) (pol := plc) (c := b64_0) (m := ⟨[true, true, false, false, true, true, false, false, false, false, false, false, false, false, false, false, false, false, false, false, false, false, false, false, true, true], some 2⟩)
    (b := 2) (tm := fun (i : Nat) => [.d (.sl (encB bs) bs.length false none), .d (.int .i64 v), .junk, .junk, .ptr (0, 0) 0 3, .d (.int .i64 i), .junk, .junk, .junk, .junk, .junk, .junk, .junk, .junk, .junk, .junk, .junk, .junk, .junk, .junk, .junk, .junk, .junk, .junk, .junk, .junk])
    (Hf := fun _ => upd (upd (fun x => none) (0, 3) .vnil) (0, 0) (.cells [.d (.int .i64 0), .d (.str (ByteArray.mk #[])), .osl (0, 3) 0 0 1 0]))
    (I := fun i => i ≤ bs.length) (μ := fun i => bs.length - i) (res := fun i => (bs.drop i).find? (fun b => decide (b.v = v)))
    (R := OfEnd bs v)
    (fun i nx hi => by
      rcases Nat.lt_or_ge i bs.length with hl | hl
      · obtain ⟨x, v', fn, args, a⟩ := atB_ok hb.1 (i := i) hl
        conv => arg 9; arg 4; unfold b64_0
        by_cases hx : x = v
        · simp [a.lti, a.sz, a.ltm, a.e0, a.c1, a.e10, a.e11, a.c0, a.c10, a.c11, a.le1, a.le4, a.le3, a.le2, a.le11, plc_raw, a.w, hx]
          exact .fin _ _ (by simp only [a.dr]; simp [List.find?, hx, OfEnd, Term.enc])
        · simp [a.lti, a.sz, a.ltm, a.e0, a.c1, a.e10, a.e11, a.c0, a.c10, a.c11, a.le1, a.le4, a.le3, a.le2, a.le11, plc_raw, a.w, hx]
          exact .next (i + 1) (by omega) (by simp) rfl hl (by omega) (by simp only [a.dr]; simp [List.find?, hx])
      · obtain rfl : i = bs.length := Nat.le_antisymm hi hl
        simp [b64_0]
        exact .fin _ _ (by simp only [List.drop_length, List.find?, OfEnd]; exact .mk)) 0 (Nat.zero_le _)
  obtain ⟨e, t, hrun, hR⟩ := hloop
  simp at hrun hR
  unfold ofS
  cases hq : bs.find? (fun b => decide (b.v = v)) with
  | none =>
    rw [hq] at hR
    obtain ⟨rfl, nx, rfl⟩ := hR
    refine ⟨.agg [.int .i64 v, .str (ByteArray.mk #[]), .sl [] 0 false (some true)], pcl_body code64 ?_, by simp [Term.enc, encL]⟩
    simp [hrun, plc_raw]
  | some b =>
    rw [hq] at hR
    obtain ⟨rfl, h1, h2⟩ := hR
    obtain ⟨x, v', fn, args⟩ := b
    refine ⟨.agg (Term.mk v' fn args).enc, pcl_body code64 ?_, by simp [Term.enc]⟩
    simp [Term.enc] at h2
    simp [hrun, plc_raw, h1, h2, Term.enc]
/-! ### A term with all in their places -/
theorem encL_append : ∀ (a b : List Term), encL (a ++ b) = encL a ++ encL b
  | [], _ => rfl
  | t :: r, b => by simp [encL, encL_append r b]
/-- A row of terms that grows; what leads to it. -/
def rowT (l : List Term) : Am.Obj := if l = [] then .vnil else .grow ((encL l).map .d)
def rowA (o : Oid) (l : List Term) : AV := if l = [] then .osl o 0 0 1 0 else .osl o 0 l.length 3 (l.length * 3)
theorem append_rowT {H : Hp} {id : Nat} {o o2 : Oid} {l : List Term} {x : Term} (h : H o = some (rowT l)) (h2 : H o2 = some (.cells (x.enc.map .d))) (hl : l.length ≤ 1048576) :
    appendO Try.prog H id 26 26 (rowA o l) (.osl o2 0 1 3 3) = some (rowA o (l ++ [x]), upd H o (rowT (l ++ [x]))) := by
  have h3 : l.length * 3 ≤ 68719476736 := by omega
  have hx := x.enc_len
  have ha : ∀ l : List D, allD (l.map .d) = some l := fun l => by
    induction l with
    | nil => rfl
    | cons x r ih => simp [allD, ih]
  obtain ⟨v, fn, args⟩ := x
  simp only [Term.enc, List.map_cons, List.map_nil] at h2
  cases l with
  | nil =>
    simp only [rowT, if_true] at h
    simp [appendO, srcCells, srcRaw, h, h2, rowA, rowT, growO, encL, Term.enc, kill]
  | cons y r =>
    simp [rowT] at h
    have hel := encL_len (y :: r)
    have hel2 : (encL (y :: r)).length = (r.length + 1) * 3 := by simpa using hel
    have hle : ¬ ((r.length + 1) * 3 + 3 ≤ (r.length + 1) * 3) := by omega
    have h4 : (r.length + 1) * 3 ≤ 68719476736 := by simpa using h3
    simp [appendO, srcCells, srcRaw, h, h2, rowA, rowT, growO, Term.enc, kill, hel2, hle, h4, encL_append]
    refine ⟨by omega, ?_⟩
    rw [List.take_of_length_le (by simp [hel2])]
    have : encL (y :: (r ++ [Term.mk v fn args])) = encL (y :: r) ++ [.int .i64 v, .str fn, .sl (encL args) args.length false none] := by
      rw [show y :: (r ++ [Term.mk v fn args]) = (y :: r) ++ [Term.mk v fn args] from rfl, encL_append]
      simp [encL, Term.enc]
    rw [this]
    simp
theorem upd4 {H : Hp} {a b : Oid} {x x' y y' : Am.Obj} (h : a ≠ b) : upd (upd (upd (upd H a x) b y) a x') b y' = upd (upd H a x') b y' := by
  funext p
  simp only [upd]
  by_cases h1 : p = b
  · simp [h1]
  · by_cases h2 : p = a
    · simp [h2, h]
    · simp [h1, h2]
abbrev putB (v : Int) (fn : ByteArray) (args : List Term) : Hp :=
  upd (upd (upd (upd (upd (fun _ => none) (0, 0) (.cells [.d (.int .i64 v), .d (.str fn), .d (.sl (encL args) args.length false none)])) (1, 3) .vnil) (1, 0) (.cells [.d (.int .i64 0), .d (.str (ByteArray.mk #[])), .osl (1, 3) 0 0 1 0])) (8, 3) .vnil) (8, 0) (.cells [.d (.int .i64 0), .d (.str (ByteArray.mk #[])), .osl (8, 3) 0 0 1 0])
abbrev putH (v : Int) (fn : ByteArray) (args done : List Term) : Hp := upd (upd (putB v fn args) (9, 3) (rowT done)) (8, 0) (.cells [.d (.int .i64 0), .d (.str fn), rowA (9, 3) done])
def PutEnd (bs : List Bd) (v : Int) (fn : ByteArray) (args : List Term) (r : List Term) (e : Ex) (t : St) : Prop :=
  AtExit 0 [.d (.sl (encB bs) bs.length false none), .junk, .junk, .ptr (0, 0) 0 3, .ptr (1, 0) 0 3, .ptr (8, 0) 0 3, .d (.int .i64 args.length), .junk, .junk, .junk, .junk, .junk, .junk, .junk, .junk, .junk, .junk, .junk, .junk, .junk, .junk, .junk, .junk, .junk, .junk, .junk, .junk, .junk, .junk, .junk, .junk, .junk, .junk, .junk, .junk, .junk, .junk] (putH v fn args r) e t
theorem put_ok (bs : List Bd) (hb : okB bs) (t : Term) : t.ok → t.size ≤ 1048576 → ∃ r, pcl Cp 39 [.sl (encB bs) bs.length false none, .agg t.enc] = some r ∧ wk r = .agg (t.putS bs).enc := by
  refine Term.ind (p := fun t => t.ok → t.size ≤ 1048576 → ∃ r, pcl Cp 39 [.sl (encB bs) bs.length false none, .agg t.enc] = some r ∧ wk r = .agg (t.putS bs).enc) (fun v fn args ih h hsz => ?_) t
  have hn := h.1
  simp only [Term.size] at hsz
  by_cases hv : fn.toList = []
  · obtain ⟨r, hr, hw⟩ := of_bind_ok bs hb v
    simp only [Term.putS, if_pos hv]
    generalize ofS bs v = u at hw ⊢
    obtain ⟨v', fn', args'⟩ := u
    refine ⟨.agg (Term.mk v' fn' args').enc, pcl_body code39 ?_, by simp [Term.enc]⟩
    simp [Term.enc, plc_raw, hv, hr, hw]
  · have hlen : ∀ x ∈ args, x.size ≤ sizeL args := fun x hx => sizeL_mem hx
    have hall : args.length ≤ sizeL args := by
      clear ih h hn hsz hlen
      induction args with
      | nil => simp
      | cons x r ih => have := x.size_pos; simp only [List.length_cons, sizeL]; omega
    have hloop := loop_rule (P := Try.prog) (pol := plc) (c := b39_0) (m := ⟨[true, false, false, true, true, true, true, false, false, false, false, false, false, false, false, false, false, false, false, false, false, false, false, false, false, false, false, false, false, false, false, false, false, false, false, false, true], some 11⟩)
      (b := 11) (tm := fun (s : Nat × List Term) => [.d (.sl (encB bs) bs.length false none), .junk, .junk, .ptr (0, 0) 0 3, .ptr (1, 0) 0 3, .ptr (8, 0) 0 3, .d (.int .i64 s.1), .junk, .junk, .junk, .junk, .junk, .junk, .junk, .junk, .junk, .junk, .junk, .junk, .junk, .junk, .junk, .junk, .junk, .junk, .junk, .junk, .junk, .junk, .junk, .junk, .junk, .junk, .junk, .junk, .junk, .junk])
      (Hf := fun s => putH v fn args s.2)
      (I := fun s => s.1 ≤ args.length ∧ s.2.length = s.1) (μ := fun s => args.length - s.1) (res := fun s => s.2 ++ putSL bs (args.drop s.1))
      (R := PutEnd bs v fn args)
      (fun s nx hi => by
        obtain ⟨i, done⟩ := s
        obtain ⟨hi, hd⟩ := hi
        simp only at hi hd ⊢
        rcases Nat.lt_or_ge i args.length with hl | hl
        · obtain ⟨v', fn', args', a⟩ := at_ok hn hl
          obtain ⟨r, hr, hw⟩ := ih _ a.mem (okL_mem h.2 _ a.mem) (by have := hlen _ a.mem; omega)
          generalize hu : (Term.mk v' fn' args').putS bs = u at hw
          have hres : putSL bs (args.drop i) = u :: putSL bs (args.drop (i + 1)) := by rw [a.dr]; simp only [putSL, hu]
          simp [Term.enc] at hr
          have happ := fun (H : Hp) (id : Nat) (o2 : Oid) (h1 : H (9, 3) = some (rowT done)) (h2 : H o2 = some (.cells (u.enc.map .d))) => append_rowT (id := id) h1 h2 (by omega)
          obtain ⟨uv, ufn, uargs⟩ := u
          simp only [Term.enc, List.map_cons, List.map_nil] at hw happ
          conv => arg 9; arg 4; unfold b39_0
          have e1 : putH v fn args done = upd (upd (putB v fn args) (9, 3) (rowT done)) (8, 0) (.cells [.d (.int .i64 0), .d (.str fn), rowA (9, 3) done]) := rfl
          cases done with
          | nil =>
            simp [rowA] at happ
            simp [a.lti, a.sz, a.ltm, a.cells, a.le3, plc_raw, a.w, hr, hw, happ, rowA]
            refine .next (i + 1, [.mk uv ufn uargs]) (by omega) (by simp) ?_ ⟨hl, by simp at hd ⊢; omega⟩ (by simp; omega) (by simp only [hres]; simp)
            exact upd4 (by simp)
          | cons y q =>
            simp [rowA] at happ
            simp [a.lti, a.sz, a.ltm, a.cells, a.le3, plc_raw, a.w, hr, hw, happ, rowA]
            refine .next (i + 1, y :: q ++ [.mk uv ufn uargs]) (by omega) (by simp) ?_ ⟨hl, by simp at hd ⊢; omega⟩ (by simp; omega) (by simp only [hres]; simp)
            simp [putH, rowA]
            exact upd4 (by simp)
        · obtain rfl : i = args.length := Nat.le_antisymm hi hl
          simp [b39_0]
          refine .fin _ _ ?_
          simp only [List.drop_length, putSL, List.append_nil]
          exact .mk) (0, []) ⟨Nat.zero_le _, rfl⟩
    obtain ⟨e, t, hrun, rfl, nx, rfl⟩ := hloop
    simp only [Term.putS, if_neg hv]
    have hpl := putSL_len bs args
    simp at hrun
    generalize putSL bs args = done at hrun hpl
    refine ⟨.agg [.int .i64 0, .str fn, .sl (encL done) done.length false (some (decide (done = [])))], pcl_body code39 ?_, by simp [Term.enc]⟩
    have hmd := fun H l => mapD_encT H 4 l
    cases done with
    | nil =>
      simp [putH, putB, rowA, rowT] at hrun
      simp [plc_raw, Term.enc, hv, hrun]
      rfl
    | cons y q =>
      simp [putH, putB, rowA, rowT] at hrun
      have hel : (encL (y :: q)).length = (q.length + 1) * 3 := by simpa using encL_len (y :: q)
      have htk : List.take ((q.length + 1) * 3) (List.map AV.d (encL (y :: q))) = List.map AV.d (encL (y :: q)) := List.take_of_length_le (by simp [hel])
      simp [plc_raw, Term.enc, hv, hrun, hel, htk, hmd]
end Go.Proofs.Ytfcedichoigbbaa.Am

/-
  Rows that grow: appending. No condition.
-/
namespace Go.Proofs.Ytfcedichoigbbaa.Am
open Go Go.Proofs
set_option maxHeartbeats 4000000
set_option linter.unusedSimpArgs false

/-- A row of numbers that grows. -/
def rowI (l : List Int) : Am.Obj := if l = [] then .vnil else .grow ((encI l).map .d)
theorem rowI_isRow (l : List Int) : (rowI l).isRow = true := by unfold rowI; split <;> rfl
theorem rowI_len (l : List Int) : (rowI l).cs.length = l.length := by unfold rowI; split <;> simp [Obj.cs, *]
theorem rowI_nil : rowI [] = .vnil := rfl
theorem growO_rowI (H : Hp) (o : Oid) (l : List Int) (n : Int) :
    growO H o (rowI l) 0 l.length 1 l.length 1 1 [.int .i64 n] = some (.osl o 0 (l.length + 1) 1 (l.length + 1), upd H o (rowI (l ++ [n]))) := by
  unfold rowI
  cases l with
  | nil => simp [growO, encI]
  | cons x r =>
    have h : ¬ (r.length + 1 ≤ r.length) := by omega
    simp [growO, encI, h]
    rw [List.take_of_length_le (by simp)]
theorem append_rowI {H : Hp} {id : Nat} {o o2 : Oid} {l : List Int} {x : Int} (h : H o = some (rowI l)) (h2 : H o2 = some (.cells [.d (.int .i64 x)])) (hl : l.length ≤ 68719476735) :
    appendO Try.prog H id 23 23 (.osl o 0 l.length 1 l.length) (.osl o2 0 1 1 1) = some (.osl o 0 (l.length + 1) 1 (l.length + 1), upd H o (rowI (l ++ [x]))) := by
  have h3 : l.length ≤ 68719476736 := by omega
  have h4 : ([D.int .i64 x] : List D).length ≤ 68719476736 := by simp
  simp [appendO, srcCells, srcRaw, h, h2, rowI_isRow, rowI_len, growO_rowI, h3, kill, -Obj.isRow, -Obj.cs]
  simp [Obj.isRow, Obj.cs]
  exact growO_rowI H o l x
theorem mapD_encI (H : Hp) (n : Nat) : ∀ (l : List Int), mapD (reify H n) ((encI l).map .d) = some (encI l, [])
  | [] => rfl
  | x :: r => by
    have h := mapD_encI H n r
    simp only [encI, List.map_cons] at h ⊢
    rw [mapD, h]
    cases n <;> simp [reify]
theorem mapD_encI2 (H : Hp) (n : Nat) (l : List Int) : mapD (reify H n) (List.map (AV.d ∘ D.int .i64) l) = some (encI l, []) := by
  have := mapD_encI H n l
  simpa [encI] using this
theorem reify_rowI {H : Hp} {o : Oid} {l : List Int} (h : H o = some (rowI l)) (n : Nat) : (reify H (n + 1) (.osl o 0 l.length 1 l.length)).map (·.1) = some (.sl (encI l) l.length false (some (decide (l = [])))) := by
  cases l with
  | nil => simp [reify, h, rowI, Obj.isRow, Obj.cs, nlOf, mapD, encI]
  | cons x r =>
    have := mapD_encI2 H n r
    have hx : reify H n (.d (.int .i64 x)) = some (.int .i64 x, []) := by cases n <;> rfl
    simp [reify, h, rowI, Obj.isRow, Obj.cs, nlOf, mapD, encI, this, hx]
    rw [List.take_of_length_le (by simp), this]
    simp [encI]
end Go.Proofs.Ytfcedichoigbbaa.Am

