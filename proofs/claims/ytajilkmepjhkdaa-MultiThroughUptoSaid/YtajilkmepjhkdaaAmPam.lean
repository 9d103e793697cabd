/-
  Joined texts: AmC2, AmC. No condition.
-/
import Derived.Test.YtajilkmepjhkdaaAmPal
import Derived.Test.YtajilkmepjhkdaaProg
/-
 The code of this seat's functions as the abstract machine reads it, and its types: written by gencode.py, each held by the kernel. No condition.
-/
namespace Go.Proofs.Ytajilkmepjhkdaa.Am
open Go Go.Proofs
set_option maxRecDepth 100000
def b84_2 : ACode := (.seq (.seq (.region [rO 36 (.move (.tmp 15)), rO 37 (.move (.tmp 1)), rO 38 (.nilCheck (.tmp 37)), rO 39 (.fieldAddr 101 (.tmp 38) 1), rO 40 (.load 99 (.tmp 39)), rO 41 (.move (.tmp 4)), rO 42 (.indexAddr 99 (.tmp 40) (.tmp 41)), rO 43 (.load 23 (.tmp 42)), rO 44 (.call ⟨.builtin .len, #[.tmp 43], #[23]⟩), rO 45 (.binOp .lss 3 (.tmp 36) (.tmp 44) 3)]) (.cond (.tmp 45) .skip (.exit 0))) (.seq (.block 1 (.seq (.region [rO 48 (.move (.tmp 1)), rO 49 (.nilCheck (.tmp 48)), rO 50 (.fieldAddr 101 (.tmp 49) 1), rO 51 (.load 99 (.tmp 50)), rO 52 (.move (.tmp 4)), rO 53 (.indexAddr 99 (.tmp 51) (.tmp 52)), rO 54 (.load 23 (.tmp 53)), rO 55 (.move (.tmp 15)), rO 56 (.indexAddr 23 (.tmp 54) (.tmp 55)), rO 57 (.load 3 (.tmp 56)), rO 16 (.assign (.tmp 57))]) (.seq (.dregion [rO 58 (.move (.tmp 1)), rO 59 (.nilCheck (.tmp 58)), rO 60 (.fieldAddr 101 (.tmp 59) 0), rO 61 (.load 28 (.tmp 60)), rO 62 (.move (.tmp 16)), rO 63 (.indexAddr 28 (.tmp 61) (.tmp 62)), rO 64 (.load 30 (.tmp 63)), rO 65 (.load 30 (.tmp 14)), ⟨some 66, .call ⟨.value (.func 49), #[.tmp 64, .tmp 65], #[30, 30]⟩, none, true⟩, rO 67 (.move (.tmp 66)), ⟨some 68, .move (.tmp 3), (some (67, false)), false⟩, ⟨some 69, .move (.tmp 16), (some (67, false)), false⟩, ⟨some 70, .indexAddr 102 (.tmp 68) (.tmp 69), (some (67, false)), false⟩, ⟨some 71, .load 78 (.tmp 70), (some (67, false)), false⟩, ⟨some 72, .move (.tmp 5), (some (67, false)), false⟩, ⟨some 73, .indexAddr 78 (.tmp 71) (.tmp 72), (some (67, false)), false⟩, ⟨some 74, .load 4 (.tmp 73), (some (67, false)), false⟩, rO 75 (.pick (.tmp 67) (.const (.bool true)) (.tmp 74))]) (.cond (.tmp 75) (.seq (.region [rO 12 (.assign (.const (.bool true)))]) .ret) .skip)))) (.region [rO 46 (.move (.tmp 15)), rO 47 (.binOp .add 3 (.tmp 46) (.const (.int .i64 1)) 3), rO 15 (.assign (.tmp 47))])))
theorem code84 : bodyOf Try.prog 84 = (some ((.seq (.region [rO 6 (.box 25 (.tmp 0)), rO 12 (.assign (.const (.bool false)))]) (.seq (.tregion [rO 19 (.move (.tmp 1)), rO 20 (.nilCheck (.tmp 19)), rO 21 (.fieldAddr 101 (.tmp 20) 0), rO 22 (.load 28 (.tmp 21)), rO 23 (.move (.tmp 4)), rO 24 (.indexAddr 28 (.tmp 22) (.tmp 23)), rO 25 (.load 30 (.tmp 24)), rO 26 (.move (.tmp 2)), rO 27 (.nilCheck (.tmp 26)), rO 28 (.fieldAddr 101 (.tmp 27) 0), rO 29 (.load 28 (.tmp 28)), rO 30 (.move (.tmp 5)), rO 31 (.indexAddr 28 (.tmp 29) (.tmp 30)), rO 32 (.load 30 (.tmp 31)), rO 13 (.alloc 30), rO 14 (.alloc 30), ⟨none, .store 30 (.tmp 13) (.tmp 25), none, false⟩, ⟨none, .store 30 (.tmp 14) (.tmp 32), none, false⟩] [(10, 16), (12, 16), (13, 16)]) (.seq (.seq (.region [rO 33 (.fieldAddr 30 (.tmp 13) 1), rO 34 (.load 9 (.tmp 33)), rO 35 (.binOp .eql 9 (.tmp 34) (.const (.string (ByteArray.mk #[]))) 9)]) (.cond (.tmp 35) (.seq (.region [rO 12 (.assign (.const (.bool false)))]) .ret) .skip)) (.seq (.seq (.region [rO 15 (.assign (.const (.int .i64 0)))]) (.block 0 (.loop [false, true, true, true, true, true, true, false, false, false, false, false, true, true, true, true, false, true, true, false, false, false, false, false, false, false, false, false, false, false, false, false, false, false, false, false, false, false, false, false, false, false, false, false, false, false, false, false, false, false, false, false, false, false, false, false, false, false, false, false, false, false, false, false, false, false, false, false, false, false, false, false, false, false, false, false, true, true, true, true, true, true, true, true, true, true, true, true, true, true, true, true, true, true, true, true, true, true, true, true, true, true, true, true, true, true, true, true, true, true, true, true, true, true, true, true, true, true, true, true, true, true, true, true, true, true, true, true, true, true, true, true, true, true, true, true, true, true, true, true, true, true, true, true, true, true, true, true, true, true, true, true, true, true, true, true, true, true, true, true, true, true, true, true, true, true, true, true, true, true] false b84_2))) (.seq (.seq (.region [rO 76 (.fieldAddr 30 (.tmp 14) 1), rO 77 (.load 9 (.tmp 76)), rO 78 (.binOp .eql 9 (.tmp 77) (.const (.string (ByteArray.mk #[]))) 9)]) (.cond (.tmp 78) (.seq (.region [rO 12 (.assign (.const (.bool false)))]) .ret) .skip)) (.seq (.seq (.region [rO 17 (.assign (.const (.int .i64 0)))]) (.block 2 (.loop [false, true, true, true, true, true, true, false, false, false, false, false, true, true, true, false, false, true, true, false, false, false, false, false, false, false, false, false, false, false, false, false, false, false, false, false, false, false, false, false, false, false, false, false, false, false, false, false, false, false, false, false, false, false, false, false, false, false, false, false, false, false, false, false, false, false, false, false, false, false, false, false, false, false, false, false, false, false, false, false, false, false, false, false, false, false, false, false, false, false, false, false, false, false, false, false, false, false, false, false, false, false, false, false, false, false, false, false, true, true, true, true, true, true, true, true, true, true, true, true, true, true, true, true, true, true, true, true, true, true, true, true, true, true, true, true, true, true, true, true, true, true, true, true, true, true, true, true, true, true, true, true, true, true, true, true, true, true, true, true, true, true, true, true, true, true, true, true, true, true] false b84_1))) (.seq (.seq (.region [rO 108 (.fieldAddr 30 (.tmp 13) 1), rO 109 (.load 9 (.tmp 108)), rO 110 (.fieldAddr 30 (.tmp 14) 1), rO 111 (.load 9 (.tmp 110)), rO 112 (.binOp .neq 9 (.tmp 109) (.tmp 111) 9), rO 113 (.move (.tmp 112)), ⟨some 114, .fieldAddr 30 (.tmp 13) 2, (some (113, false)), false⟩, ⟨some 115, .load 28 (.tmp 114), (some (113, false)), false⟩, ⟨some 116, .call ⟨.builtin .len, #[.tmp 115], #[28]⟩, (some (113, false)), false⟩, ⟨some 117, .fieldAddr 30 (.tmp 14) 2, (some (113, false)), false⟩, ⟨some 118, .load 28 (.tmp 117), (some (113, false)), false⟩, ⟨some 119, .call ⟨.builtin .len, #[.tmp 118], #[28]⟩, (some (113, false)), false⟩, ⟨some 120, .binOp .neq 3 (.tmp 116) (.tmp 119) 3, (some (113, false)), false⟩, rO 121 (.pick (.tmp 113) (.const (.bool true)) (.tmp 120))]) (.cond (.tmp 121) (.seq (.region [rO 122 (.load 25 (.tmp 6)), rO 123 (.load 30 (.tmp 13)), rO 124 (.load 30 (.tmp 14)), rO 125 (.call ⟨.value (.func 88), #[.tmp 122, .tmp 123, .tmp 124], #[25, 30, 30]⟩), rO 12 (.assign (.tmp 125))]) .ret) .skip)) (.seq (.seq (.region [rO 18 (.assign (.const (.int .i64 0)))]) (.block 4 (.loop [false, true, true, true, true, true, false, false, false, false, false, false, true, true, true, false, false, false, true, false, false, false, false, false, false, false, false, false, false, false, false, false, false, false, false, false, false, false, false, false, false, false, false, false, false, false, false, false, false, false, false, false, false, false, false, false, false, false, false, false, false, false, false, false, false, false, false, false, false, false, false, false, false, false, false, false, false, false, false, false, false, false, false, false, false, false, false, false, false, false, false, false, false, false, false, false, false, false, false, false, false, false, false, false, false, false, false, false, false, false, false, false, false, false, false, false, false, false, false, false, false, false, false, false, false, false, false, false, false, false, false, false, false, false, false, false, false, false, false, false, false, false, false, false, false, false, false, false, false, false, false, false, false, false, false, false, false, false, false, false, false, false, false, false, false, false, false, false, false, false] false b84_0))) (.seq (.region [rO 12 (.assign (.const (.bool false)))]) .ret))))))))), (170, [.tmp 12])) : Option (ACode × Nat × List ResultVar)) := by kernel_rfl
theorem code85 : bodyOf Try.prog 85 = (some ((.seq (.region [rO 1 (.box 30 (.tmp 0)), rO 2 (.assign (.const (.slice none 0 0)))]) (.seq (.region [rO 3 (.load 30 (.tmp 1)), rO 4 (.call ⟨.value (.func 105), #[(.const (.slice none 0 0)), .tmp 3], #[23, 30]⟩), rO 2 (.assign (.tmp 4))]) .ret)), (5, [.tmp 2])) : Option (ACode × Nat × List ResultVar)) := by kernel_rfl
def b86_0 : ACode := (.seq (.seq (.region [rO 16 (.move (.tmp 6)), rO 17 (.fieldAddr 30 (.tmp 2) 2), rO 18 (.load 28 (.tmp 17)), rO 19 (.call ⟨.builtin .len, #[.tmp 18], #[28]⟩), rO 20 (.binOp .lss 3 (.tmp 16) (.tmp 19) 3)]) (.cond (.tmp 20) .skip (.exit 0))) (.seq (.block 1 (.region [rO 23 (.move (.tmp 5)), rO 24 (.fieldAddr 30 (.tmp 2) 2), rO 25 (.load 28 (.tmp 24)), rO 26 (.move (.tmp 6)), rO 27 (.indexAddr 28 (.tmp 25) (.tmp 26)), rO 28 (.load 30 (.tmp 27)), rO 29 (.move (.tmp 1)), rO 30 (.call ⟨.value (.func 86), #[.tmp 28, .tmp 29], #[30, 3]⟩), rO 31 (.binOp .add 3 (.tmp 23) (.tmp 30) 3), rO 5 (.assign (.tmp 31))])) (.region [rO 21 (.move (.tmp 6)), rO 22 (.binOp .add 3 (.tmp 21) (.const (.int .i64 1)) 3), rO 6 (.assign (.tmp 22))])))
theorem code86 : bodyOf Try.prog 86 = (some ((.seq (.region [rO 2 (.box 30 (.tmp 0)), rO 4 (.assign (.const (.int .i64 0)))]) (.seq (.region [rO 5 (.assign (.const (.int .i64 0)))]) (.seq (.seq (.region [rO 7 (.fieldAddr 30 (.tmp 2) 1), rO 8 (.load 9 (.tmp 7)), rO 9 (.binOp .eql 9 (.tmp 8) (.const (.string (ByteArray.mk #[]))) 9), rO 10 (.move (.tmp 9)), ⟨some 11, .fieldAddr 30 (.tmp 2) 0, (some (10, true)), false⟩, ⟨some 12, .load 3 (.tmp 11), (some (10, true)), false⟩, ⟨some 13, .move (.tmp 1), (some (10, true)), false⟩, ⟨some 14, .binOp .eql 3 (.tmp 12) (.tmp 13) 3, (some (10, true)), false⟩, rO 15 (.pick (.tmp 10) (.tmp 14) (.const (.bool false)))]) (.cond (.tmp 15) (.region [rO 5 (.assign (.const (.int .i64 1)))]) .skip)) (.seq (.seq (.region [rO 6 (.assign (.const (.int .i64 0)))]) (.block 0 (.loop [false, true, true, false, true, true, true, false, false, false, false, false, false, false, false, false, false, false, false, false, false, false, false, false, false, false, false, false, false, false, false, false, true] false b86_0))) (.seq (.region [rO 32 (.move (.tmp 5)), rO 4 (.assign (.tmp 32))]) .ret))))), (33, [.tmp 4])) : Option (ACode × Nat × List ResultVar)) := by kernel_rfl
def b87_0 : ACode := (.seq (.seq (.region [rO 47 (.move (.tmp 7)), rO 48 (.fieldAddr 30 (.tmp 3) 2), rO 49 (.load 28 (.tmp 48)), rO 50 (.call ⟨.builtin .len, #[.tmp 49], #[28]⟩), rO 51 (.binOp .lss 3 (.tmp 47) (.tmp 50) 3)]) (.cond (.tmp 51) .skip (.exit 0))) (.seq (.block 1 (.dregion [rO 54 (.move (.tmp 5)), rO 55 (.load 25 (.tmp 2)), rO 56 (.fieldAddr 30 (.tmp 3) 2), rO 57 (.load 28 (.tmp 56)), rO 58 (.move (.tmp 7)), rO 59 (.indexAddr 28 (.tmp 57) (.tmp 58)), rO 60 (.load 30 (.tmp 59)), ⟨some 61, .call ⟨.value (.func 87), #[.tmp 55, .tmp 60], #[25, 30]⟩, none, true⟩, rO 62 (.binOp .add 3 (.tmp 54) (.tmp 61) 3), rO 5 (.assign (.tmp 62))])) (.region [rO 52 (.move (.tmp 7)), rO 53 (.binOp .add 3 (.tmp 52) (.const (.int .i64 1)) 3), rO 7 (.assign (.tmp 53))])))
theorem code87 : bodyOf Try.prog 87 = (some ((.seq (.region [rO 2 (.box 25 (.tmp 0)), rO 3 (.box 30 (.tmp 1)), rO 4 (.assign (.const (.int .i64 0)))]) (.seq (.region [rO 5 (.assign (.const (.int .i64 1)))]) (.seq (.seq (.region [rO 8 (.load 25 (.tmp 2)), rO 9 (.fieldAddr 30 (.tmp 3) 1), rO 10 (.load 9 (.tmp 9)), rO 11 (.call ⟨.value (.func 45), #[.tmp 8, .tmp 10], #[25, 9]⟩), rO 6 (.assign (.tmp 11))]) (.seq (.region [rO 12 (.fieldAddr 30 (.tmp 3) 1), rO 13 (.load 9 (.tmp 12)), rO 14 (.binOp .neq 9 (.tmp 13) (.const (.string (ByteArray.mk #[]))) 9), rO 15 (.move (.tmp 14)), ⟨some 16, .move (.tmp 6), (some (15, true)), false⟩, ⟨some 17, .binOp .geq 3 (.tmp 16) (.const (.int .i64 0)) 3, (some (15, true)), false⟩, rO 18 (.pick (.tmp 15) (.tmp 17) (.const (.bool false))), rO 19 (.move (.tmp 18)), ⟨some 20, .move (.tmp 6), (some (19, true)), false⟩, ⟨some 21, .fieldAddr 25 (.tmp 2) 1, (some (19, true)), false⟩, ⟨some 22, .load 23 (.tmp 21), (some (19, true)), false⟩, ⟨some 23, .call ⟨.builtin .len, #[.tmp 22], #[23]⟩, (some (19, true)), false⟩, ⟨some 24, .binOp .lss 3 (.tmp 20) (.tmp 23) 3, (some (19, true)), false⟩, rO 25 (.pick (.tmp 19) (.tmp 24) (.const (.bool false))), rO 26 (.move (.tmp 25)), ⟨some 27, .fieldAddr 25 (.tmp 2) 1, (some (26, true)), false⟩, ⟨some 28, .load 23 (.tmp 27), (some (26, true)), false⟩, ⟨some 29, .move (.tmp 6), (some (26, true)), false⟩, ⟨some 30, .indexAddr 23 (.tmp 28) (.tmp 29), (some (26, true)), false⟩, ⟨some 31, .load 3 (.tmp 30), (some (26, true)), false⟩, ⟨some 32, .binOp .geq 3 (.tmp 31) (.const (.int .i64 1)) 3, (some (26, true)), false⟩, rO 33 (.pick (.tmp 26) (.tmp 32) (.const (.bool false))), rO 34 (.move (.tmp 33)), ⟨some 35, .fieldAddr 25 (.tmp 2) 1, (some (34, true)), false⟩, ⟨some 36, .load 23 (.tmp 35), (some (34, true)), false⟩, ⟨some 37, .move (.tmp 6), (some (34, true)), false⟩, ⟨some 38, .indexAddr 23 (.tmp 36) (.tmp 37), (some (34, true)), false⟩, ⟨some 39, .load 3 (.tmp 38), (some (34, true)), false⟩, ⟨some 40, .binOp .leq 3 (.tmp 39) (.const (.int .i64 1000)) 3, (some (34, true)), false⟩, rO 41 (.pick (.tmp 34) (.tmp 40) (.const (.bool false)))]) (.cond (.tmp 41) (.region [rO 42 (.fieldAddr 25 (.tmp 2) 1), rO 43 (.load 23 (.tmp 42)), rO 44 (.move (.tmp 6)), rO 45 (.indexAddr 23 (.tmp 43) (.tmp 44)), rO 46 (.load 3 (.tmp 45)), rO 5 (.assign (.tmp 46))]) .skip))) (.seq (.seq (.region [rO 7 (.assign (.const (.int .i64 0)))]) (.block 0 (.loop [false, false, true, true, true, true, false, true, false, false, false, false, false, false, false, false, false, false, false, false, false, false, false, false, false, false, false, false, false, false, false, false, false, false, false, false, false, false, false, false, false, false, false, false, false, false, false, false, false, false, false, false, false, false, false, false, false, false, false, false, false, false, false, true] false b87_0))) (.seq (.region [rO 63 (.move (.tmp 5)), rO 4 (.assign (.tmp 63))]) .ret))))), (64, [.tmp 4])) : Option (ACode × Nat × List ResultVar)) := by kernel_rfl
theorem code88 : bodyOf Try.prog 88 = (some ((.seq (.region [rO 3 (.box 25 (.tmp 0)), rO 4 (.box 30 (.tmp 1)), rO 5 (.box 30 (.tmp 2)), rO 6 (.assign (.const (.bool false)))]) (.seq (.seq (.region [rO 7 (.fieldAddr 30 (.tmp 4) 1), rO 8 (.load 9 (.tmp 7)), rO 9 (.fieldAddr 30 (.tmp 5) 1), rO 10 (.load 9 (.tmp 9)), rO 11 (.binOp .eql 9 (.tmp 8) (.tmp 10) 9)]) (.cond (.tmp 11) (.seq (.region [rO 12 (.fieldAddr 30 (.tmp 4) 2), rO 13 (.load 28 (.tmp 12)), rO 14 (.call ⟨.builtin .len, #[.tmp 13], #[28]⟩), rO 15 (.fieldAddr 30 (.tmp 5) 2), rO 16 (.load 28 (.tmp 15)), rO 17 (.call ⟨.builtin .len, #[.tmp 16], #[28]⟩), rO 18 (.binOp .gtr 3 (.tmp 14) (.tmp 17) 3), rO 6 (.assign (.tmp 18))]) .ret) .skip)) (.seq (.region [rO 19 (.load 25 (.tmp 3)), rO 20 (.fieldAddr 30 (.tmp 4) 1), rO 21 (.load 9 (.tmp 20)), rO 22 (.fieldAddr 30 (.tmp 5) 1), rO 23 (.load 9 (.tmp 22)), rO 24 (.call ⟨.value (.func 106), #[.tmp 19, .tmp 21, .tmp 23], #[25, 9, 9]⟩), rO 6 (.assign (.tmp 24))]) .ret))), (25, [.tmp 6])) : Option (ACode × Nat × List ResultVar)) := by kernel_rfl
theorem code89 : bodyOf Try.prog 89 = (some ((.seq (.region [rO 1 (.box 30 (.tmp 0)), rO 2 (.assign (.const (.bool false)))]) (.seq (.seq (.region [rO 3 (.fieldAddr 30 (.tmp 1) 1), rO 4 (.load 9 (.tmp 3)), rO 5 (.binOp .eql 9 (.tmp 4) (.const (.string (ByteArray.mk #[]))) 9)]) (.cond (.tmp 5) (.seq (.region [rO 6 (.fieldAddr 30 (.tmp 1) 0), rO 7 (.load 3 (.tmp 6)), rO 8 (.binOp .geq 3 (.tmp 7) (.const (.int .i64 0)) 3), rO 9 (.move (.tmp 8)), ⟨some 10, .fieldAddr 30 (.tmp 1) 0, (some (9, true)), false⟩, ⟨some 11, .load 3 (.tmp 10), (some (9, true)), false⟩, ⟨some 12, .binOp .lss 3 (.tmp 11) (.const (.int .i64 1000000)) 3, (some (9, true)), false⟩, rO 13 (.pick (.tmp 9) (.tmp 12) (.const (.bool false))), rO 14 (.move (.tmp 13)), ⟨some 15, .fieldAddr 30 (.tmp 1) 2, (some (14, true)), false⟩, ⟨some 16, .load 28 (.tmp 15), (some (14, true)), false⟩, ⟨some 17, .call ⟨.builtin .len, #[.tmp 16], #[28]⟩, (some (14, true)), false⟩, ⟨some 18, .binOp .eql 3 (.tmp 17) (.const (.int .i64 0)) 3, (some (14, true)), false⟩, rO 19 (.pick (.tmp 14) (.tmp 18) (.const (.bool false))), rO 2 (.assign (.tmp 19))]) .ret) .skip)) (.seq (.region [rO 20 (.fieldAddr 30 (.tmp 1) 0), rO 21 (.load 3 (.tmp 20)), rO 22 (.binOp .eql 3 (.tmp 21) (.const (.int .i64 0)) 3), rO 23 (.move (.tmp 22)), ⟨some 24, .fieldAddr 30 (.tmp 1) 1, (some (23, true)), false⟩, ⟨some 25, .load 9 (.tmp 24), (some (23, true)), false⟩, ⟨some 26, .call ⟨.builtin .len, #[.tmp 25], #[9]⟩, (some (23, true)), false⟩, ⟨some 27, .binOp .leq 3 (.tmp 26) (.const (.int .i64 64)) 3, (some (23, true)), false⟩, rO 28 (.pick (.tmp 23) (.tmp 27) (.const (.bool false))), rO 29 (.move (.tmp 28)), ⟨some 30, .fieldAddr 30 (.tmp 1) 2, (some (29, true)), false⟩, ⟨some 31, .load 28 (.tmp 30), (some (29, true)), false⟩, ⟨some 32, .call ⟨.builtin .len, #[.tmp 31], #[28]⟩, (some (29, true)), false⟩, ⟨some 33, .binOp .leq 3 (.tmp 32) (.const (.int .i64 16)) 3, (some (29, true)), false⟩, rO 34 (.pick (.tmp 29) (.tmp 33) (.const (.bool false))), rO 2 (.assign (.tmp 34))]) .ret))), (35, [.tmp 2])) : Option (ACode × Nat × List ResultVar)) := by kernel_rfl
theorem code90 : bodyOf Try.prog 90 = (some ((.seq (.region [rO 1 (.box 30 (.tmp 0)), rO 2 (.assign (.const (.bool false)))]) (.seq (.region [rO 3 (.load 30 (.tmp 1)), rO 4 (.call ⟨.value (.func 52), #[.tmp 3], #[30]⟩), rO 5 (.unOp .not 4 (.tmp 4)), rO 2 (.assign (.tmp 5))]) .ret)), (6, [.tmp 2])) : Option (ACode × Nat × List ResultVar)) := by kernel_rfl
theorem code91 : bodyOf Try.prog 91 = (some ((.seq (.region [rO 2 (.assign (.const (.slice none 0 0)))]) (.seq (.seq (.region [rO 3 (.move (.tmp 0)), rO 4 (.binOp .eql 28 (.tmp 3) (.const (.slice none 0 0)) 28)]) (.cond (.tmp 4) (.seq (.region [rO 2 (.assign (.const (.slice none 0 0)))]) .ret) .skip)) (.seq (.region [rO 5 (.buildSlice 28 0 #[]), rO 6 (.move (.tmp 0)), rO 7 (.call ⟨.builtin .append, #[.tmp 5, .tmp 6], #[28, 28]⟩), rO 2 (.assign (.tmp 7))]) .ret))), (8, [.tmp 2])) : Option (ACode × Nat × List ResultVar)) := by kernel_rfl
def b92_0 : ACode := (.seq (.region [rO 9 (.binOp .lss 3 (.tmp 8) (.tmp 7) 3)]) (.seq (.cond (.tmp 9) .skip (.exit 0)) (.seq (.block 1 (.seq (.region [rO 10 (.move (.tmp 8)), rO 5 (.assign (.tmp 10))]) (.seq (.region [rO 11 (.move (.tmp 1)), rO 12 (.move (.tmp 0)), rO 13 (.move (.tmp 5)), rO 14 (.indexAddr 28 (.tmp 12) (.tmp 13)), rO 15 (.load 30 (.tmp 14)), rO 16 (.call ⟨.value (.tmp 11), #[.tmp 15], #[30]⟩)]) (.cond (.tmp 16) (.seq (.region [rO 17 (.move (.tmp 5)), rO 4 (.assign (.tmp 17))]) .ret) .skip)))) (.region [rO 18 (.binOp .add 3 (.tmp 8) (.const (.int .i64 1)) 3), rO 8 (.move (.tmp 18))]))))
theorem code92 : bodyOf Try.prog 92 = (some ((.seq (.region [rO 4 (.assign (.const (.int .i64 0)))]) (.seq (.seq (.region [rO 6 (.move (.tmp 0)), rO 7 (.call ⟨.builtin .len, #[.tmp 6], #[28]⟩), rO 8 (.move (.const (.int .i64 0)))]) (.block 0 (.loop [true, true, false, false, true, false, false, true, true, false, false, false, false, false, false, false, false, false, false] false b92_0))) (.seq (.region [rO 4 (.assign (.const (.int .i64 (-1))))]) .ret))), (19, [.tmp 4])) : Option (ACode × Nat × List ResultVar)) := by kernel_rfl
theorem code93 : bodyOf Try.prog 93 = (some ((.seq (.region [rO 3 (.box 30 (.tmp 0)), rO 4 (.assign (.const (.bool false)))]) (.seq (.region [rO 5 (.load 60 (.tmp 1)), rO 6 (.load 30 (.tmp 2)), rO 7 (.load 30 (.tmp 3)), rO 8 (.call ⟨.value (.tmp 5), #[.tmp 6, .tmp 7], #[30, 30]⟩), rO 4 (.assign (.tmp 8))]) .ret)), (9, [.tmp 4])) : Option (ACode × Nat × List ResultVar)) := by kernel_rfl
theorem code94 : bodyOf Try.prog 94 = (some ((.seq (.region [rO 6 (.assign (.const (.slice none 0 0)))]) (.seq (.region [rO 8 (.move (.tmp 0)), rO 9 (.move (.tmp 1)), rO 10 (.move (.tmp 2)), rO 11 (.move (.tmp 0)), rO 12 (.call ⟨.builtin .len, #[.tmp 11], #[28]⟩), rO 13 (.slice 28 (.tmp 8) (some (.tmp 9)) (some (.tmp 10)) (some (.tmp 12)))]) (.seq (.seq (.region [rO 14 (.move (.tmp 1)), rO 15 (.move (.tmp 2)), rO 16 (.binOp .eql 3 (.tmp 14) (.tmp 15) 3)]) (.cond (.tmp 16) (.seq (.region [rO 17 (.move (.tmp 0)), rO 6 (.assign (.tmp 17))]) .ret) .skip)) (.seq (.region [rO 18 (.move (.tmp 0)), rO 19 (.call ⟨.builtin .len, #[.tmp 18], #[28]⟩), rO 7 (.assign (.tmp 19))]) (.seq (.dregion [rO 20 (.move (.tmp 0)), rO 21 (.move (.tmp 1)), rO 22 (.slice 28 (.tmp 20) none (some (.tmp 21)) none), rO 23 (.move (.tmp 0)), rO 24 (.move (.tmp 2)), rO 25 (.slice 28 (.tmp 23) (some (.tmp 24)) none none), rO 26 (.call ⟨.builtin .append, #[.tmp 22, .tmp 25], #[28, 28]⟩), rO 0 (.assign (.tmp 26))]) (.seq (.region [rO 27 (.move (.tmp 0)), rO 28 (.move (.tmp 0)), rO 29 (.call ⟨.builtin .len, #[.tmp 28], #[28]⟩), rO 30 (.move (.tmp 7)), rO 31 (.slice 28 (.tmp 27) (some (.tmp 29)) (some (.tmp 30)) none), ⟨none, .call ⟨.builtin .clear, #[.tmp 31], #[28]⟩, none, false⟩]) (.seq (.region [rO 32 (.move (.tmp 0)), rO 6 (.assign (.tmp 32))]) .ret))))))), (33, [.tmp 6])) : Option (ACode × Nat × List ResultVar)) := by kernel_rfl
def b95_0 : ACode := (.seq (.region [rO 9 (.binOp .lss 3 (.tmp 8) (.tmp 7) 3)]) (.seq (.cond (.tmp 9) .skip (.exit 0)) (.seq (.block 1 (.seq (.region [rO 10 (.move (.tmp 8)), rO 5 (.assign (.tmp 10))]) (.seq (.region [rO 11 (.move (.tmp 1)), rO 12 (.move (.tmp 0)), rO 13 (.move (.tmp 5)), rO 14 (.indexAddr 36 (.tmp 12) (.tmp 13)), rO 15 (.load 35 (.tmp 14)), rO 16 (.call ⟨.value (.tmp 11), #[.tmp 15], #[35]⟩)]) (.cond (.tmp 16) (.seq (.region [rO 17 (.move (.tmp 5)), rO 4 (.assign (.tmp 17))]) .ret) .skip)))) (.region [rO 18 (.binOp .add 3 (.tmp 8) (.const (.int .i64 1)) 3), rO 8 (.move (.tmp 18))]))))
theorem code95 : bodyOf Try.prog 95 = (some ((.seq (.region [rO 4 (.assign (.const (.int .i64 0)))]) (.seq (.seq (.region [rO 6 (.move (.tmp 0)), rO 7 (.call ⟨.builtin .len, #[.tmp 6], #[36]⟩), rO 8 (.move (.const (.int .i64 0)))]) (.block 0 (.loop [true, true, false, false, true, false, false, true, true, false, false, false, false, false, false, false, false, false, false] false b95_0))) (.seq (.region [rO 4 (.assign (.const (.int .i64 (-1))))]) .ret))), (19, [.tmp 4])) : Option (ACode × Nat × List ResultVar)) := by kernel_rfl
theorem code96 : bodyOf Try.prog 96 = (some ((.seq (.region [rO 1 (.box 35 (.tmp 0)), rO 2 (.assign (.const .nilFunc))]) (.seq (.region [rO 3 (.makeFunc (Fn.func 107) #[] #[.tmp 1]), rO 2 (.assign (.tmp 3))]) .ret)), (4, [.tmp 2])) : Option (ACode × Nat × List ResultVar)) := by kernel_rfl
def ra97_0 : ACode := (.region [rO 4 (.alloc 30), ⟨none, .store 30 (.tmp 4) (.tmp 7), none, false⟩])
def rb97_0 : ACode := (.block 1 (.dregion [rO 8 (.load 3 (.tmp 3)), rO 9 (.load 30 (.tmp 4)), rO 10 (.call ⟨.value (.func 54), #[.tmp 9], #[30]⟩), rO 11 (.binOp .add 3 (.tmp 8) (.tmp 10) 3), ⟨none, .store 3 (.tmp 3) (.tmp 11), none, false⟩]))
theorem code97 : bodyOf Try.prog 97 = (some ((.seq (.region [rO 2 (.assign (.const (.int .i64 0)))]) (.seq (.region [rO 3 (.alloc 3), ⟨none, .store 3 (.tmp 3) (.const (.int .i64 0)), none, false⟩]) (.seq (.seq (.region [rO 5 (.move (.tmp 0)), rO 6 (.call ⟨.value (.func 96), #[.tmp 5], #[35]⟩)]) (.block 0 (.rfun (.tmp 6) [7] ra97_0 rb97_0))) (.seq (.region [rO 12 (.load 3 (.tmp 3)), rO 2 (.assign (.tmp 12))]) .ret)))), (13, [.tmp 2])) : Option (ACode × Nat × List ResultVar)) := by kernel_rfl
theorem code98 : bodyOf Try.prog 98 = (some ((.seq (.region [rO 2 (.assign (.const (.slice none 0 0)))]) (.seq (.seq (.region [rO 3 (.move (.tmp 0)), rO 4 (.binOp .eql 34 (.tmp 3) (.const (.slice none 0 0)) 34)]) (.cond (.tmp 4) (.seq (.region [rO 2 (.assign (.const (.slice none 0 0)))]) .ret) .skip)) (.seq (.region [rO 5 (.buildSlice 34 0 #[]), rO 6 (.move (.tmp 0)), rO 7 (.call ⟨.builtin .append, #[.tmp 5, .tmp 6], #[34, 34]⟩), rO 2 (.assign (.tmp 7))]) .ret))), (8, [.tmp 2])) : Option (ACode × Nat × List ResultVar)) := by kernel_rfl
def b99_0 : ACode := (.seq (.region [rO 9 (.binOp .lss 3 (.tmp 8) (.tmp 7) 3)]) (.seq (.cond (.tmp 9) .skip (.exit 0)) (.seq (.block 1 (.seq (.region [rO 10 (.move (.tmp 8)), rO 5 (.assign (.tmp 10))]) (.seq (.region [rO 11 (.move (.tmp 1)), rO 12 (.move (.tmp 0)), rO 13 (.move (.tmp 5)), rO 14 (.indexAddr 34 (.tmp 12) (.tmp 13)), rO 15 (.load 32 (.tmp 14)), rO 16 (.call ⟨.value (.tmp 11), #[.tmp 15], #[32]⟩)]) (.cond (.tmp 16) (.seq (.region [rO 17 (.move (.tmp 5)), rO 4 (.assign (.tmp 17))]) .ret) .skip)))) (.region [rO 18 (.binOp .add 3 (.tmp 8) (.const (.int .i64 1)) 3), rO 8 (.move (.tmp 18))]))))
theorem code99 : bodyOf Try.prog 99 = (some ((.seq (.region [rO 4 (.assign (.const (.int .i64 0)))]) (.seq (.seq (.region [rO 6 (.move (.tmp 0)), rO 7 (.call ⟨.builtin .len, #[.tmp 6], #[34]⟩), rO 8 (.move (.const (.int .i64 0)))]) (.block 0 (.loop [true, true, false, false, true, false, false, true, true, false, false, false, false, false, false, false, false, false, false] false b99_0))) (.seq (.region [rO 4 (.assign (.const (.int .i64 (-1))))]) .ret))), (19, [.tmp 4])) : Option (ACode × Nat × List ResultVar)) := by kernel_rfl
theorem code100 : bodyOf Try.prog 100 = (some ((.seq (.region [rO 3 (.box 32 (.tmp 0)), rO 4 (.assign (.const (.bool false)))]) (.seq (.region [rO 5 (.load 63 (.tmp 1)), rO 6 (.load 32 (.tmp 2)), rO 7 (.load 32 (.tmp 3)), rO 8 (.call ⟨.value (.tmp 5), #[.tmp 6, .tmp 7], #[32, 32]⟩), rO 4 (.assign (.tmp 8))]) .ret)), (9, [.tmp 4])) : Option (ACode × Nat × List ResultVar)) := by kernel_rfl
theorem code101 : bodyOf Try.prog 101 = (some ((.seq (.region [rO 6 (.assign (.const (.slice none 0 0)))]) (.seq (.region [rO 8 (.move (.tmp 0)), rO 9 (.move (.tmp 1)), rO 10 (.move (.tmp 2)), rO 11 (.move (.tmp 0)), rO 12 (.call ⟨.builtin .len, #[.tmp 11], #[34]⟩), rO 13 (.slice 34 (.tmp 8) (some (.tmp 9)) (some (.tmp 10)) (some (.tmp 12)))]) (.seq (.seq (.region [rO 14 (.move (.tmp 1)), rO 15 (.move (.tmp 2)), rO 16 (.binOp .eql 3 (.tmp 14) (.tmp 15) 3)]) (.cond (.tmp 16) (.seq (.region [rO 17 (.move (.tmp 0)), rO 6 (.assign (.tmp 17))]) .ret) .skip)) (.seq (.region [rO 18 (.move (.tmp 0)), rO 19 (.call ⟨.builtin .len, #[.tmp 18], #[34]⟩), rO 7 (.assign (.tmp 19))]) (.seq (.dregion [rO 20 (.move (.tmp 0)), rO 21 (.move (.tmp 1)), rO 22 (.slice 34 (.tmp 20) none (some (.tmp 21)) none), rO 23 (.move (.tmp 0)), rO 24 (.move (.tmp 2)), rO 25 (.slice 34 (.tmp 23) (some (.tmp 24)) none none), rO 26 (.call ⟨.builtin .append, #[.tmp 22, .tmp 25], #[34, 34]⟩), rO 0 (.assign (.tmp 26))]) (.seq (.region [rO 27 (.move (.tmp 0)), rO 28 (.move (.tmp 0)), rO 29 (.call ⟨.builtin .len, #[.tmp 28], #[34]⟩), rO 30 (.move (.tmp 7)), rO 31 (.slice 34 (.tmp 27) (some (.tmp 29)) (some (.tmp 30)) none), ⟨none, .call ⟨.builtin .clear, #[.tmp 31], #[34]⟩, none, false⟩]) (.seq (.region [rO 32 (.move (.tmp 0)), rO 6 (.assign (.tmp 32))]) .ret))))))), (33, [.tmp 6])) : Option (ACode × Nat × List ResultVar)) := by kernel_rfl
def b102_0 : ACode := (.seq (.region [rO 9 (.binOp .lss 3 (.tmp 8) (.tmp 7) 3)]) (.seq (.cond (.tmp 9) .skip (.exit 0)) (.seq (.block 1 (.seq (.region [rO 10 (.move (.tmp 8)), rO 5 (.assign (.tmp 10))]) (.seq (.region [rO 11 (.move (.tmp 1)), rO 12 (.move (.tmp 0)), rO 13 (.move (.tmp 5)), rO 14 (.indexAddr 23 (.tmp 12) (.tmp 13)), rO 15 (.load 3 (.tmp 14)), rO 16 (.call ⟨.value (.tmp 11), #[.tmp 15], #[3]⟩)]) (.cond (.tmp 16) (.seq (.region [rO 17 (.move (.tmp 5)), rO 4 (.assign (.tmp 17))]) .ret) .skip)))) (.region [rO 18 (.binOp .add 3 (.tmp 8) (.const (.int .i64 1)) 3), rO 8 (.move (.tmp 18))]))))
theorem code102 : bodyOf Try.prog 102 = (some ((.seq (.region [rO 4 (.assign (.const (.int .i64 0)))]) (.seq (.seq (.region [rO 6 (.move (.tmp 0)), rO 7 (.call ⟨.builtin .len, #[.tmp 6], #[23]⟩), rO 8 (.move (.const (.int .i64 0)))]) (.block 0 (.loop [true, true, false, false, true, false, false, true, true, false, false, false, false, false, false, false, false, false, false] false b102_0))) (.seq (.region [rO 4 (.assign (.const (.int .i64 (-1))))]) .ret))), (19, [.tmp 4])) : Option (ACode × Nat × List ResultVar)) := by kernel_rfl
theorem code103 : bodyOf Try.prog 103 = (some ((.seq (.region [rO 2 (.box 38 (.tmp 0)), rO 4 (.assign (.const (.int .i64 0)))]) (.seq (.region [rO 6 (.fieldAddr 38 (.tmp 2) 0), rO 7 (.load 22 (.tmp 6)), rO 8 (.move (.tmp 1)), rO 9 (.call ⟨.value (.func 55), #[.tmp 7, .tmp 8], #[22, 9]⟩), rO 5 (.assign (.tmp 9))]) (.seq (.seq (.region [rO 10 (.move (.tmp 1)), rO 11 (.binOp .eql 9 (.tmp 10) (.const (.string (ByteArray.mk #[]))) 9), rO 12 (.move (.tmp 11)), ⟨some 13, .move (.tmp 5), (some (12, false)), false⟩, ⟨some 14, .binOp .lss 3 (.tmp 13) (.const (.int .i64 0)) 3, (some (12, false)), false⟩, rO 15 (.pick (.tmp 12) (.const (.bool true)) (.tmp 14)), rO 16 (.move (.tmp 15)), ⟨some 17, .move (.tmp 5), (some (16, false)), false⟩, ⟨some 18, .fieldAddr 38 (.tmp 2) 1, (some (16, false)), false⟩, ⟨some 19, .load 23 (.tmp 18), (some (16, false)), false⟩, ⟨some 20, .call ⟨.builtin .len, #[.tmp 19], #[23]⟩, (some (16, false)), false⟩, ⟨some 21, .binOp .geq 3 (.tmp 17) (.tmp 20) 3, (some (16, false)), false⟩, rO 22 (.pick (.tmp 16) (.const (.bool true)) (.tmp 21)), rO 23 (.move (.tmp 22)), ⟨some 24, .fieldAddr 38 (.tmp 2) 1, (some (23, false)), false⟩, ⟨some 25, .load 23 (.tmp 24), (some (23, false)), false⟩, ⟨some 26, .move (.tmp 5), (some (23, false)), false⟩, ⟨some 27, .indexAddr 23 (.tmp 25) (.tmp 26), (some (23, false)), false⟩, ⟨some 28, .load 3 (.tmp 27), (some (23, false)), false⟩, ⟨some 29, .binOp .lss 3 (.tmp 28) (.const (.int .i64 1)) 3, (some (23, false)), false⟩, rO 30 (.pick (.tmp 23) (.const (.bool true)) (.tmp 29)), rO 31 (.move (.tmp 30)), ⟨some 32, .fieldAddr 38 (.tmp 2) 1, (some (31, false)), false⟩, ⟨some 33, .load 23 (.tmp 32), (some (31, false)), false⟩, ⟨some 34, .move (.tmp 5), (some (31, false)), false⟩, ⟨some 35, .indexAddr 23 (.tmp 33) (.tmp 34), (some (31, false)), false⟩, ⟨some 36, .load 3 (.tmp 35), (some (31, false)), false⟩, ⟨some 37, .binOp .gtr 3 (.tmp 36) (.const (.int .i64 1000)) 3, (some (31, false)), false⟩, rO 38 (.pick (.tmp 31) (.const (.bool true)) (.tmp 37))]) (.cond (.tmp 38) (.seq (.region [rO 4 (.assign (.const (.int .i64 1)))]) .ret) .skip)) (.seq (.region [rO 39 (.fieldAddr 38 (.tmp 2) 1), rO 40 (.load 23 (.tmp 39)), rO 41 (.move (.tmp 5)), rO 42 (.indexAddr 23 (.tmp 40) (.tmp 41)), rO 43 (.load 3 (.tmp 42)), rO 4 (.assign (.tmp 43))]) .ret)))), (44, [.tmp 4])) : Option (ACode × Nat × List ResultVar)) := by kernel_rfl
theorem code104 : bodyOf Try.prog 104 = (some ((.seq (.region [rO 2 (.box 38 (.tmp 0)), rO 4 (.assign (.const (.int .i64 0)))]) (.seq (.seq (.region [rO 5 (.move (.tmp 1)), rO 6 (.binOp .eql 9 (.tmp 5) (.const (.string (ByteArray.mk #[36, 116, 114, 117, 101]))) 9)]) (.cond (.tmp 6) (.seq (.region [rO 4 (.assign (.const (.int .i64 (-2))))]) .ret) .skip)) (.seq (.region [rO 7 (.fieldAddr 38 (.tmp 2) 0), rO 8 (.load 22 (.tmp 7)), rO 9 (.move (.tmp 1)), rO 10 (.call ⟨.value (.func 55), #[.tmp 8, .tmp 9], #[22, 9]⟩), rO 4 (.assign (.tmp 10))]) .ret))), (11, [.tmp 4])) : Option (ACode × Nat × List ResultVar)) := by kernel_rfl
def b105_0 : ACode := (.seq (.seq (.region [rO 13 (.move (.tmp 5)), rO 14 (.fieldAddr 30 (.tmp 3) 2), rO 15 (.load 28 (.tmp 14)), rO 16 (.call ⟨.builtin .len, #[.tmp 15], #[28]⟩), rO 17 (.binOp .lss 3 (.tmp 13) (.tmp 16) 3)]) (.cond (.tmp 17) .skip (.exit 0))) (.seq (.block 1 (.region [rO 20 (.move (.tmp 0)), rO 21 (.fieldAddr 30 (.tmp 3) 2), rO 22 (.load 28 (.tmp 21)), rO 23 (.move (.tmp 5)), rO 24 (.indexAddr 28 (.tmp 22) (.tmp 23)), rO 25 (.load 30 (.tmp 24)), rO 26 (.call ⟨.value (.func 105), #[.tmp 20, .tmp 25], #[23, 30]⟩), rO 0 (.assign (.tmp 26))])) (.region [rO 18 (.move (.tmp 5)), rO 19 (.binOp .add 3 (.tmp 18) (.const (.int .i64 1)) 3), rO 5 (.assign (.tmp 19))])))
theorem code105 : bodyOf Try.prog 105 = (some ((.seq (.region [rO 3 (.box 30 (.tmp 1)), rO 4 (.assign (.const (.slice none 0 0)))]) (.seq (.seq (.region [rO 6 (.fieldAddr 30 (.tmp 3) 1), rO 7 (.load 9 (.tmp 6)), rO 8 (.binOp .eql 9 (.tmp 7) (.const (.string (ByteArray.mk #[]))) 9)]) (.cond (.tmp 8) (.region [rO 9 (.move (.tmp 0)), rO 10 (.fieldAddr 30 (.tmp 3) 0), rO 11 (.load 3 (.tmp 10)), rO 12 (.call ⟨.value (.func 108), #[.tmp 9, .tmp 11], #[23, 3]⟩), rO 0 (.assign (.tmp 12))]) .skip)) (.seq (.seq (.region [rO 5 (.assign (.const (.int .i64 0)))]) (.block 0 (.loop [true, false, false, true, true, true, false, false, false, false, false, false, false, false, false, false, false, false, false, false, false, false, false, false, false, false, false, true] false b105_0))) (.seq (.region [rO 27 (.move (.tmp 0)), rO 4 (.assign (.tmp 27))]) .ret)))), (28, [.tmp 4])) : Option (ACode × Nat × List ResultVar)) := by kernel_rfl
theorem code106 : bodyOf Try.prog 106 = (some ((.seq (.region [rO 3 (.box 25 (.tmp 0)), rO 6 (.assign (.const (.bool false)))]) (.seq (.seq (.region [rO 9 (.move (.tmp 1)), rO 10 (.move (.tmp 2)), rO 11 (.binOp .eql 9 (.tmp 9) (.tmp 10) 9), rO 12 (.move (.tmp 11)), ⟨some 13, .move (.tmp 1), (some (12, false)), false⟩, ⟨some 14, .binOp .eql 9 (.tmp 13) (.const (.string (ByteArray.mk #[36, 116, 114, 117, 101]))) 9, (some (12, false)), false⟩, rO 15 (.pick (.tmp 12) (.const (.bool true)) (.tmp 14))]) (.cond (.tmp 15) (.seq (.region [rO 6 (.assign (.const (.bool false)))]) .ret) .skip)) (.seq (.seq (.region [rO 16 (.move (.tmp 2)), rO 17 (.binOp .eql 9 (.tmp 16) (.const (.string (ByteArray.mk #[36, 116, 114, 117, 101]))) 9)]) (.cond (.tmp 17) (.seq (.region [rO 6 (.assign (.const (.bool true)))]) .ret) .skip)) (.seq (.dregion [rO 18 (.load 25 (.tmp 3)), rO 19 (.move (.tmp 1)), rO 20 (.call ⟨.value (.func 45), #[.tmp 18, .tmp 19], #[25, 9]⟩), rO 21 (.load 25 (.tmp 3)), rO 22 (.move (.tmp 2)), ⟨some 23, .call ⟨.value (.func 45), #[.tmp 21, .tmp 22], #[25, 9]⟩, none, true⟩, rO 7 (.assign (.tmp 20)), rO 8 (.assign (.tmp 23))]) (.seq (.seq (.region [rO 24 (.move (.tmp 7)), rO 25 (.binOp .lss 3 (.tmp 24) (.const (.int .i64 0)) 3), rO 26 (.move (.tmp 25)), ⟨some 27, .move (.tmp 8), (some (26, true)), false⟩, ⟨some 28, .binOp .lss 3 (.tmp 27) (.const (.int .i64 0)) 3, (some (26, true)), false⟩, rO 29 (.pick (.tmp 26) (.tmp 28) (.const (.bool false)))]) (.cond (.tmp 29) (.seq (.region [rO 30 (.move (.tmp 1)), rO 31 (.move (.tmp 2)), rO 32 (.binOp .gtr 9 (.tmp 30) (.tmp 31) 9), rO 6 (.assign (.tmp 32))]) .ret) .skip)) (.seq (.region [rO 33 (.move (.tmp 7)), rO 34 (.move (.tmp 8)), rO 35 (.binOp .gtr 3 (.tmp 33) (.tmp 34) 3), rO 6 (.assign (.tmp 35))]) .ret)))))), (36, [.tmp 6])) : Option (ACode × Nat × List ResultVar)) := by kernel_rfl
def b107_0 : ACode := (.seq (.region [rO 8 (.binOp .lss 3 (.tmp 7) (.tmp 6) 3)]) (.seq (.cond (.tmp 8) .skip (.exit 0)) (.seq (.block 1 (.seq (.region [rO 9 (.indexAddr 35 (.tmp 5) (.tmp 7)), rO 10 (.load 32 (.tmp 9)), rO 4 (.alloc 32), ⟨none, .store 32 (.tmp 4) (.tmp 10), none, false⟩]) (.seq (.region [rO 11 (.move (.tmp 0)), rO 12 (.fieldAddr 32 (.tmp 4) 1), rO 13 (.load 30 (.tmp 12)), rO 14 (.call ⟨.value (.tmp 11), #[.tmp 13], #[30]⟩), rO 15 (.unOp .not 4 (.tmp 14)), rO 16 (.move (.tmp 15)), ⟨some 17, .move (.tmp 0), (some (16, false)), false⟩, ⟨some 18, .fieldAddr 32 (.tmp 4) 2, (some (16, false)), false⟩, ⟨some 19, .load 30 (.tmp 18), (some (16, false)), false⟩, ⟨some 20, .call ⟨.value (.tmp 17), #[.tmp 19], #[30]⟩, (some (16, false)), false⟩, ⟨some 21, .unOp .not 4 (.tmp 20), (some (16, false)), false⟩, rO 22 (.pick (.tmp 16) (.const (.bool true)) (.tmp 21))]) (.cond (.tmp 22) .ret .skip)))) (.region [rO 23 (.binOp .add 3 (.tmp 7) (.const (.int .i64 1)) 3), rO 7 (.move (.tmp 23))]))))
theorem code107 : bodyOf Try.prog 107 = (some ((.seq (.region [rO 5 (.load 35 (.tmp 1)), rO 6 (.call ⟨.builtin .len, #[.tmp 5], #[35]⟩), rO 7 (.move (.const (.int .i64 0)))]) (.block 0 (.loop [true, false, false, false, false, true, true, true, false, false, false, false, false, false, false, false, false, false, false, false, false, false, false, false] false b107_0))), (24, [])) : Option (ACode × Nat × List ResultVar)) := by kernel_rfl
def b108_0 : ACode := (.seq (.seq (.region [rO 8 (.move (.tmp 7)), rO 9 (.move (.tmp 0)), rO 10 (.call ⟨.builtin .len, #[.tmp 9], #[23]⟩), rO 11 (.binOp .lss 3 (.tmp 8) (.tmp 10) 3)]) (.cond (.tmp 11) .skip (.exit 0))) (.seq (.block 1 (.seq (.seq (.region [rO 14 (.move (.tmp 6)), rO 15 (.unOp .not 4 (.tmp 14)), rO 16 (.move (.tmp 15)), ⟨some 17, .move (.tmp 0), (some (16, true)), false⟩, ⟨some 18, .move (.tmp 7), (some (16, true)), false⟩, ⟨some 19, .indexAddr 23 (.tmp 17) (.tmp 18), (some (16, true)), false⟩, ⟨some 20, .load 3 (.tmp 19), (some (16, true)), false⟩, ⟨some 21, .move (.tmp 1), (some (16, true)), false⟩, ⟨some 22, .binOp .geq 3 (.tmp 20) (.tmp 21) 3, (some (16, true)), false⟩, rO 23 (.pick (.tmp 16) (.tmp 22) (.const (.bool false)))]) (.cond (.tmp 23) (.seq (.region [rO 24 (.move (.tmp 5)), rO 25 (.move (.tmp 1)), rO 26 (.buildSlice 23 1 #[(0, .tmp 25)]), rO 27 (.call ⟨.builtin .append, #[.tmp 24, .tmp 26], #[23, 23]⟩), rO 5 (.assign (.tmp 27))]) (.region [rO 6 (.assign (.const (.bool true)))])) .skip)) (.seq (.region [rO 28 (.move (.tmp 0)), rO 29 (.move (.tmp 7)), rO 30 (.indexAddr 23 (.tmp 28) (.tmp 29)), rO 31 (.load 3 (.tmp 30)), rO 32 (.move (.tmp 1)), rO 33 (.binOp .neq 3 (.tmp 31) (.tmp 32) 3)]) (.cond (.tmp 33) (.region [rO 34 (.move (.tmp 5)), rO 35 (.move (.tmp 0)), rO 36 (.move (.tmp 7)), rO 37 (.indexAddr 23 (.tmp 35) (.tmp 36)), rO 38 (.load 3 (.tmp 37)), rO 39 (.buildSlice 23 1 #[(0, .tmp 38)]), rO 40 (.call ⟨.builtin .append, #[.tmp 34, .tmp 39], #[23, 23]⟩), rO 5 (.assign (.tmp 40))]) .skip)))) (.region [rO 12 (.move (.tmp 7)), rO 13 (.binOp .add 3 (.tmp 12) (.const (.int .i64 1)) 3), rO 7 (.assign (.tmp 13))])))
theorem code108 : bodyOf Try.prog 108 = (some ((.seq (.region [rO 4 (.assign (.const (.slice none 0 0)))]) (.seq (.region [rO 5 (.assign (.const (.slice none 0 0)))]) (.seq (.region [rO 6 (.assign (.const (.bool false)))]) (.seq (.seq (.region [rO 7 (.assign (.const (.int .i64 0)))]) (.block 0 (.loop [true, true, false, false, true, true, true, true, false, false, false, false, false, false, false, false, false, false, false, false, false, false, false, false, false, false, false, false, false, false, false, false, false, false, false, false, false, false, false, false, false, true, true, true, true, true, true, true] false b108_0))) (.seq (.seq (.region [rO 41 (.move (.tmp 6)), rO 42 (.unOp .not 4 (.tmp 41))]) (.cond (.tmp 42) (.region [rO 43 (.move (.tmp 5)), rO 44 (.move (.tmp 1)), rO 45 (.buildSlice 23 1 #[(0, .tmp 44)]), rO 46 (.call ⟨.builtin .append, #[.tmp 43, .tmp 45], #[23, 23]⟩), rO 5 (.assign (.tmp 46))]) .skip)) (.seq (.region [rO 47 (.move (.tmp 5)), rO 4 (.assign (.tmp 47))]) .ret)))))), (48, [.tmp 4])) : Option (ACode × Nat × List ResultVar)) := by kernel_rfl
@[simp] theorem ts3 : tsize Try.prog 3 = some 1 := by kernel_rfl
@[simp] theorem ta3 : tagg Try.prog 3 = some false := by kernel_rfl
@[simp] theorem tk3 : tkind Try.prog 3 = 6 := by kernel_rfl
@[simp] theorem ti3 : tint Try.prog 3 = some IntKind.i64 := by kernel_rfl
@[simp] theorem tb3 : tbytes Try.prog 3 = some true := by kernel_rfl
@[simp] theorem th3 : tshape Try.prog 3 = some (false, [(KK.int IntKind.i64)]) := by kernel_rfl
@[simp] theorem tg3 : tguard Try.prog 3 = false := by kernel_rfl
@[simp] theorem tz3 : zeroCells Try.prog 3 = some [(AV.d (D.int IntKind.i64 0))] := by kernel_rfl
@[simp] theorem tv3 : zeroAV Try.prog 3 = some (AV.d (D.int IntKind.i64 0)) := by kernel_rfl
@[simp] theorem tr3 : tarr Try.prog 3 = none := by kernel_rfl
@[simp] theorem ts4 : tsize Try.prog 4 = some 1 := by kernel_rfl
@[simp] theorem ta4 : tagg Try.prog 4 = some false := by kernel_rfl
@[simp] theorem tk4 : tkind Try.prog 4 = 1 := by kernel_rfl
@[simp] theorem tb4 : tbytes Try.prog 4 = some true := by kernel_rfl
@[simp] theorem th4 : tshape Try.prog 4 = some (false, [KK.bool]) := by kernel_rfl
@[simp] theorem tg4 : tguard Try.prog 4 = false := by kernel_rfl
@[simp] theorem tz4 : zeroCells Try.prog 4 = some [(AV.d (D.bool false))] := by kernel_rfl
@[simp] theorem tv4 : zeroAV Try.prog 4 = some (AV.d (D.bool false)) := by kernel_rfl
@[simp] theorem tr4 : tarr Try.prog 4 = none := by kernel_rfl
@[simp] theorem ts9 : tsize Try.prog 9 = some 1 := by kernel_rfl
@[simp] theorem ta9 : tagg Try.prog 9 = some false := by kernel_rfl
@[simp] theorem tk9 : tkind Try.prog 9 = 7 := by kernel_rfl
@[simp] theorem tb9 : tbytes Try.prog 9 = some true := by kernel_rfl
@[simp] theorem th9 : tshape Try.prog 9 = some (false, [KK.str]) := by kernel_rfl
@[simp] theorem tg9 : tguard Try.prog 9 = false := by kernel_rfl
@[simp] theorem tz9 : zeroCells Try.prog 9 = some [(AV.d (D.str (ByteArray.mk #[])))] := by kernel_rfl
@[simp] theorem tv9 : zeroAV Try.prog 9 = some (AV.d (D.str (ByteArray.mk #[]))) := by kernel_rfl
@[simp] theorem tr9 : tarr Try.prog 9 = none := by kernel_rfl
@[simp] theorem ts22 : tsize Try.prog 22 = some 1 := by kernel_rfl
@[simp] theorem ta22 : tagg Try.prog 22 = some false := by kernel_rfl
@[simp] theorem te22 : telem Try.prog 22 = some 9 := by kernel_rfl
@[simp] theorem tk22 : tkind Try.prog 22 = 3 := by kernel_rfl
@[simp] theorem tb22 : tbytes Try.prog 22 = some true := by kernel_rfl
@[simp] theorem tg22 : tguard Try.prog 22 = false := by kernel_rfl
@[simp] theorem tz22 : zeroCells Try.prog 22 = some [(AV.d (D.sl [] 0 true (some true)))] := by kernel_rfl
@[simp] theorem tv22 : zeroAV Try.prog 22 = some (AV.d (D.sl [] 0 true (some true))) := by kernel_rfl
@[simp] theorem tr22 : tarr Try.prog 22 = none := by kernel_rfl
@[simp] theorem ts23 : tsize Try.prog 23 = some 1 := by kernel_rfl
@[simp] theorem ta23 : tagg Try.prog 23 = some false := by kernel_rfl
@[simp] theorem te23 : telem Try.prog 23 = some 3 := by kernel_rfl
@[simp] theorem tk23 : tkind Try.prog 23 = 3 := by kernel_rfl
@[simp] theorem tb23 : tbytes Try.prog 23 = some true := by kernel_rfl
@[simp] theorem tg23 : tguard Try.prog 23 = false := by kernel_rfl
@[simp] theorem tz23 : zeroCells Try.prog 23 = some [(AV.d (D.sl [] 0 true (some true)))] := by kernel_rfl
@[simp] theorem tv23 : zeroAV Try.prog 23 = some (AV.d (D.sl [] 0 true (some true))) := by kernel_rfl
@[simp] theorem tr23 : tarr Try.prog 23 = none := by kernel_rfl
@[simp] theorem ts25 : tsize Try.prog 25 = some 2 := by kernel_rfl
@[simp] theorem ta25 : tagg Try.prog 25 = some true := by kernel_rfl
@[simp] theorem tk25 : tkind Try.prog 25 = 0 := by kernel_rfl
@[simp] theorem tp25 : tplaces Try.prog 25 = some [(0, 1), (1, 1)] := by kernel_rfl
@[simp] theorem tb25 : tbytes Try.prog 25 = some true := by kernel_rfl
@[simp] theorem tg25 : tguard Try.prog 25 = false := by kernel_rfl
@[simp] theorem tf25_0 : tfield Try.prog 25 0 = some (0, 22) := by kernel_rfl
@[simp] theorem tf25_1 : tfield Try.prog 25 1 = some (1, 23) := by kernel_rfl
@[simp] theorem tz25 : zeroCells Try.prog 25 = some [(AV.d (D.sl [] 0 true (some true))), (AV.d (D.sl [] 0 true (some true)))] := by kernel_rfl
@[simp] theorem tv25 : zeroAV Try.prog 25 = some (AV.d (D.agg [(D.sl [] 0 true (some true)), (D.sl [] 0 true (some true))])) := by kernel_rfl
@[simp] theorem tr25 : tarr Try.prog 25 = none := by kernel_rfl
@[simp] theorem ts27 : tsize Try.prog 27 = some 3 := by kernel_rfl
@[simp] theorem ta27 : tagg Try.prog 27 = some true := by kernel_rfl
@[simp] theorem tk27 : tkind Try.prog 27 = 0 := by kernel_rfl
@[simp] theorem tp27 : tplaces Try.prog 27 = some [(0, 1), (1, 2)] := by kernel_rfl
@[simp] theorem tb27 : tbytes Try.prog 27 = some true := by kernel_rfl
@[simp] theorem tg27 : tguard Try.prog 27 = false := by kernel_rfl
@[simp] theorem tf27_0 : tfield Try.prog 27 0 = some (0, 4) := by kernel_rfl
@[simp] theorem tf27_1 : tfield Try.prog 27 1 = some (1, 25) := by kernel_rfl
@[simp] theorem tz27 : zeroCells Try.prog 27 = some [(AV.d (D.bool false)), (AV.d (D.sl [] 0 true (some true))), (AV.d (D.sl [] 0 true (some true)))] := by kernel_rfl
@[simp] theorem tv27 : zeroAV Try.prog 27 = some (AV.d (D.agg [(D.bool false), (D.sl [] 0 true (some true)), (D.sl [] 0 true (some true))])) := by kernel_rfl
@[simp] theorem tr27 : tarr Try.prog 27 = none := by kernel_rfl
@[simp] theorem ts28 : tsize Try.prog 28 = some 1 := by kernel_rfl
@[simp] theorem ta28 : tagg Try.prog 28 = some false := by kernel_rfl
@[simp] theorem te28 : telem Try.prog 28 = some 30 := by kernel_rfl
@[simp] theorem tk28 : tkind Try.prog 28 = 3 := by kernel_rfl
@[simp] theorem tb28 : tbytes Try.prog 28 = some true := by kernel_rfl
@[simp] theorem tg28 : tguard Try.prog 28 = false := by kernel_rfl
@[simp] theorem tz28 : zeroCells Try.prog 28 = some [(AV.d (D.sl [] 0 true (some true)))] := by kernel_rfl
@[simp] theorem tv28 : zeroAV Try.prog 28 = some (AV.d (D.sl [] 0 true (some true))) := by kernel_rfl
@[simp] theorem tr28 : tarr Try.prog 28 = none := by kernel_rfl
@[simp] theorem ts30 : tsize Try.prog 30 = some 3 := by kernel_rfl
@[simp] theorem ta30 : tagg Try.prog 30 = some true := by kernel_rfl
@[simp] theorem tk30 : tkind Try.prog 30 = 0 := by kernel_rfl
@[simp] theorem tp30 : tplaces Try.prog 30 = some [(0, 1), (1, 1), (2, 1)] := by kernel_rfl
@[simp] theorem tb30 : tbytes Try.prog 30 = some true := by kernel_rfl
@[simp] theorem tg30 : tguard Try.prog 30 = false := by kernel_rfl
@[simp] theorem tf30_0 : tfield Try.prog 30 0 = some (0, 3) := by kernel_rfl
@[simp] theorem tf30_1 : tfield Try.prog 30 1 = some (1, 9) := by kernel_rfl
@[simp] theorem tf30_2 : tfield Try.prog 30 2 = some (2, 28) := by kernel_rfl
@[simp] theorem tz30 : zeroCells Try.prog 30 = some [(AV.d (D.int IntKind.i64 0)), (AV.d (D.str (ByteArray.mk #[]))), (AV.d (D.sl [] 0 true (some true)))] := by kernel_rfl
@[simp] theorem tv30 : zeroAV Try.prog 30 = some (AV.d (D.agg [(D.int IntKind.i64 0), (D.str (ByteArray.mk #[])), (D.sl [] 0 true (some true))])) := by kernel_rfl
@[simp] theorem tr30 : tarr Try.prog 30 = none := by kernel_rfl
@[simp] theorem ts32 : tsize Try.prog 32 = some 7 := by kernel_rfl
@[simp] theorem ta32 : tagg Try.prog 32 = some true := by kernel_rfl
@[simp] theorem tk32 : tkind Try.prog 32 = 0 := by kernel_rfl
@[simp] theorem tp32 : tplaces Try.prog 32 = some [(0, 1), (1, 3), (4, 3)] := by kernel_rfl
@[simp] theorem tb32 : tbytes Try.prog 32 = some true := by kernel_rfl
@[simp] theorem tg32 : tguard Try.prog 32 = false := by kernel_rfl
@[simp] theorem tf32_0 : tfield Try.prog 32 0 = some (0, 4) := by kernel_rfl
@[simp] theorem tf32_1 : tfield Try.prog 32 1 = some (1, 30) := by kernel_rfl
@[simp] theorem tf32_2 : tfield Try.prog 32 2 = some (4, 30) := by kernel_rfl
@[simp] theorem tz32 : zeroCells Try.prog 32 = some [(AV.d (D.bool false)), (AV.d (D.int IntKind.i64 0)), (AV.d (D.str (ByteArray.mk #[]))), (AV.d (D.sl [] 0 true (some true))), (AV.d (D.int IntKind.i64 0)), (AV.d (D.str (ByteArray.mk #[]))), (AV.d (D.sl [] 0 true (some true)))] := by kernel_rfl
@[simp] theorem tv32 : zeroAV Try.prog 32 = some (AV.d (D.agg [(D.bool false), (D.int IntKind.i64 0), (D.str (ByteArray.mk #[])), (D.sl [] 0 true (some true)), (D.int IntKind.i64 0), (D.str (ByteArray.mk #[])), (D.sl [] 0 true (some true))])) := by kernel_rfl
@[simp] theorem tr32 : tarr Try.prog 32 = none := by kernel_rfl
@[simp] theorem ts34 : tsize Try.prog 34 = some 1 := by kernel_rfl
@[simp] theorem ta34 : tagg Try.prog 34 = some false := by kernel_rfl
@[simp] theorem te34 : telem Try.prog 34 = some 32 := by kernel_rfl
@[simp] theorem tk34 : tkind Try.prog 34 = 3 := by kernel_rfl
@[simp] theorem tb34 : tbytes Try.prog 34 = some true := by kernel_rfl
@[simp] theorem tg34 : tguard Try.prog 34 = false := by kernel_rfl
@[simp] theorem tz34 : zeroCells Try.prog 34 = some [(AV.d (D.sl [] 0 true (some true)))] := by kernel_rfl
@[simp] theorem tv34 : zeroAV Try.prog 34 = some (AV.d (D.sl [] 0 true (some true))) := by kernel_rfl
@[simp] theorem tr34 : tarr Try.prog 34 = none := by kernel_rfl
@[simp] theorem ts35 : tsize Try.prog 35 = some 1 := by kernel_rfl
@[simp] theorem ta35 : tagg Try.prog 35 = some false := by kernel_rfl
@[simp] theorem te35 : telem Try.prog 35 = some 32 := by kernel_rfl
@[simp] theorem tk35 : tkind Try.prog 35 = 3 := by kernel_rfl
@[simp] theorem tb35 : tbytes Try.prog 35 = some true := by kernel_rfl
@[simp] theorem tg35 : tguard Try.prog 35 = false := by kernel_rfl
@[simp] theorem tz35 : zeroCells Try.prog 35 = some [(AV.d (D.sl [] 0 true (some true)))] := by kernel_rfl
@[simp] theorem tv35 : zeroAV Try.prog 35 = some (AV.d (D.sl [] 0 true (some true))) := by kernel_rfl
@[simp] theorem tr35 : tarr Try.prog 35 = none := by kernel_rfl
@[simp] theorem ts36 : tsize Try.prog 36 = some 1 := by kernel_rfl
@[simp] theorem ta36 : tagg Try.prog 36 = some false := by kernel_rfl
@[simp] theorem te36 : telem Try.prog 36 = some 35 := by kernel_rfl
@[simp] theorem tk36 : tkind Try.prog 36 = 3 := by kernel_rfl
@[simp] theorem tb36 : tbytes Try.prog 36 = some true := by kernel_rfl
@[simp] theorem tg36 : tguard Try.prog 36 = false := by kernel_rfl
@[simp] theorem tz36 : zeroCells Try.prog 36 = some [(AV.d (D.sl [] 0 true (some true)))] := by kernel_rfl
@[simp] theorem tv36 : zeroAV Try.prog 36 = some (AV.d (D.sl [] 0 true (some true))) := by kernel_rfl
@[simp] theorem tr36 : tarr Try.prog 36 = none := by kernel_rfl
@[simp] theorem ts38 : tsize Try.prog 38 = some 2 := by kernel_rfl
@[simp] theorem ta38 : tagg Try.prog 38 = some true := by kernel_rfl
@[simp] theorem tk38 : tkind Try.prog 38 = 0 := by kernel_rfl
@[simp] theorem tp38 : tplaces Try.prog 38 = some [(0, 1), (1, 1)] := by kernel_rfl
@[simp] theorem tb38 : tbytes Try.prog 38 = some true := by kernel_rfl
@[simp] theorem tg38 : tguard Try.prog 38 = false := by kernel_rfl
@[simp] theorem tf38_0 : tfield Try.prog 38 0 = some (0, 22) := by kernel_rfl
@[simp] theorem tf38_1 : tfield Try.prog 38 1 = some (1, 23) := by kernel_rfl
@[simp] theorem tz38 : zeroCells Try.prog 38 = some [(AV.d (D.sl [] 0 true (some true))), (AV.d (D.sl [] 0 true (some true)))] := by kernel_rfl
@[simp] theorem tv38 : zeroAV Try.prog 38 = some (AV.d (D.agg [(D.sl [] 0 true (some true)), (D.sl [] 0 true (some true))])) := by kernel_rfl
@[simp] theorem tr38 : tarr Try.prog 38 = none := by kernel_rfl
@[simp] theorem ts40 : tsize Try.prog 40 = some 3 := by kernel_rfl
@[simp] theorem ta40 : tagg Try.prog 40 = some true := by kernel_rfl
@[simp] theorem tk40 : tkind Try.prog 40 = 0 := by kernel_rfl
@[simp] theorem tp40 : tplaces Try.prog 40 = some [(0, 1), (1, 2)] := by kernel_rfl
@[simp] theorem tb40 : tbytes Try.prog 40 = some true := by kernel_rfl
@[simp] theorem tg40 : tguard Try.prog 40 = false := by kernel_rfl
@[simp] theorem tf40_0 : tfield Try.prog 40 0 = some (0, 4) := by kernel_rfl
@[simp] theorem tf40_1 : tfield Try.prog 40 1 = some (1, 38) := by kernel_rfl
@[simp] theorem tz40 : zeroCells Try.prog 40 = some [(AV.d (D.bool false)), (AV.d (D.sl [] 0 true (some true))), (AV.d (D.sl [] 0 true (some true)))] := by kernel_rfl
@[simp] theorem tv40 : zeroAV Try.prog 40 = some (AV.d (D.agg [(D.bool false), (D.sl [] 0 true (some true)), (D.sl [] 0 true (some true))])) := by kernel_rfl
@[simp] theorem tr40 : tarr Try.prog 40 = none := by kernel_rfl
@[simp] theorem ts42 : tsize Try.prog 42 = some 1 := by kernel_rfl
@[simp] theorem ta42 : tagg Try.prog 42 = some false := by kernel_rfl
@[simp] theorem tk42 : tkind Try.prog 42 = 5 := by kernel_rfl
@[simp] theorem tb42 : tbytes Try.prog 42 = some true := by kernel_rfl
@[simp] theorem tg42 : tguard Try.prog 42 = false := by kernel_rfl
@[simp] theorem tz42 : zeroCells Try.prog 42 = some [(AV.d D.nilfn)] := by kernel_rfl
@[simp] theorem tv42 : zeroAV Try.prog 42 = some (AV.d D.nilfn) := by kernel_rfl
@[simp] theorem tr42 : tarr Try.prog 42 = none := by kernel_rfl
@[simp] theorem ts43 : tsize Try.prog 43 = some 1 := by kernel_rfl
@[simp] theorem ta43 : tagg Try.prog 43 = some false := by kernel_rfl
@[simp] theorem tk43 : tkind Try.prog 43 = 5 := by kernel_rfl
@[simp] theorem tb43 : tbytes Try.prog 43 = some true := by kernel_rfl
@[simp] theorem tg43 : tguard Try.prog 43 = false := by kernel_rfl
@[simp] theorem tz43 : zeroCells Try.prog 43 = some [(AV.d D.nilfn)] := by kernel_rfl
@[simp] theorem tv43 : zeroAV Try.prog 43 = some (AV.d D.nilfn) := by kernel_rfl
@[simp] theorem tr43 : tarr Try.prog 43 = none := by kernel_rfl
@[simp] theorem ts49 : tsize Try.prog 49 = some 1 := by kernel_rfl
@[simp] theorem ta49 : tagg Try.prog 49 = some false := by kernel_rfl
@[simp] theorem tk49 : tkind Try.prog 49 = 6 := by kernel_rfl
@[simp] theorem ti49 : tint Try.prog 49 = some IntKind.i64 := by kernel_rfl
@[simp] theorem tb49 : tbytes Try.prog 49 = some true := by kernel_rfl
@[simp] theorem th49 : tshape Try.prog 49 = some (false, [(KK.int IntKind.i64)]) := by kernel_rfl
@[simp] theorem tg49 : tguard Try.prog 49 = false := by kernel_rfl
@[simp] theorem tz49 : zeroCells Try.prog 49 = some [(AV.d (D.int IntKind.i64 0))] := by kernel_rfl
@[simp] theorem tv49 : zeroAV Try.prog 49 = some (AV.d (D.int IntKind.i64 0)) := by kernel_rfl
@[simp] theorem tr49 : tarr Try.prog 49 = none := by kernel_rfl
@[simp] theorem ts60 : tsize Try.prog 60 = some 1 := by kernel_rfl
@[simp] theorem ta60 : tagg Try.prog 60 = some false := by kernel_rfl
@[simp] theorem tk60 : tkind Try.prog 60 = 5 := by kernel_rfl
@[simp] theorem tb60 : tbytes Try.prog 60 = some true := by kernel_rfl
@[simp] theorem tg60 : tguard Try.prog 60 = false := by kernel_rfl
@[simp] theorem tz60 : zeroCells Try.prog 60 = some [(AV.d D.nilfn)] := by kernel_rfl
@[simp] theorem tv60 : zeroAV Try.prog 60 = some (AV.d D.nilfn) := by kernel_rfl
@[simp] theorem tr60 : tarr Try.prog 60 = none := by kernel_rfl
@[simp] theorem ts61 : tsize Try.prog 61 = some 1 := by kernel_rfl
@[simp] theorem ta61 : tagg Try.prog 61 = some false := by kernel_rfl
@[simp] theorem tk61 : tkind Try.prog 61 = 5 := by kernel_rfl
@[simp] theorem tb61 : tbytes Try.prog 61 = some true := by kernel_rfl
@[simp] theorem tg61 : tguard Try.prog 61 = false := by kernel_rfl
@[simp] theorem tz61 : zeroCells Try.prog 61 = some [(AV.d D.nilfn)] := by kernel_rfl
@[simp] theorem tv61 : zeroAV Try.prog 61 = some (AV.d D.nilfn) := by kernel_rfl
@[simp] theorem tr61 : tarr Try.prog 61 = none := by kernel_rfl
@[simp] theorem ts63 : tsize Try.prog 63 = some 1 := by kernel_rfl
@[simp] theorem ta63 : tagg Try.prog 63 = some false := by kernel_rfl
@[simp] theorem tk63 : tkind Try.prog 63 = 5 := by kernel_rfl
@[simp] theorem tb63 : tbytes Try.prog 63 = some true := by kernel_rfl
@[simp] theorem tg63 : tguard Try.prog 63 = false := by kernel_rfl
@[simp] theorem tz63 : zeroCells Try.prog 63 = some [(AV.d D.nilfn)] := by kernel_rfl
@[simp] theorem tv63 : zeroAV Try.prog 63 = some (AV.d D.nilfn) := by kernel_rfl
@[simp] theorem tr63 : tarr Try.prog 63 = none := by kernel_rfl
@[simp] theorem ts66 : tsize Try.prog 66 = some 1 := by kernel_rfl
@[simp] theorem ta66 : tagg Try.prog 66 = some false := by kernel_rfl
@[simp] theorem tk66 : tkind Try.prog 66 = 5 := by kernel_rfl
@[simp] theorem tb66 : tbytes Try.prog 66 = some true := by kernel_rfl
@[simp] theorem tg66 : tguard Try.prog 66 = false := by kernel_rfl
@[simp] theorem tz66 : zeroCells Try.prog 66 = some [(AV.d D.nilfn)] := by kernel_rfl
@[simp] theorem tv66 : zeroAV Try.prog 66 = some (AV.d D.nilfn) := by kernel_rfl
@[simp] theorem tr66 : tarr Try.prog 66 = none := by kernel_rfl
@[simp] theorem ts72 : tsize Try.prog 72 = some 1 := by kernel_rfl
@[simp] theorem ta72 : tagg Try.prog 72 = some false := by kernel_rfl
@[simp] theorem tk72 : tkind Try.prog 72 = 5 := by kernel_rfl
@[simp] theorem tb72 : tbytes Try.prog 72 = some true := by kernel_rfl
@[simp] theorem tg72 : tguard Try.prog 72 = false := by kernel_rfl
@[simp] theorem tz72 : zeroCells Try.prog 72 = some [(AV.d D.nilfn)] := by kernel_rfl
@[simp] theorem tv72 : zeroAV Try.prog 72 = some (AV.d D.nilfn) := by kernel_rfl
@[simp] theorem tr72 : tarr Try.prog 72 = none := by kernel_rfl
@[simp] theorem ts78 : tsize Try.prog 78 = some 1 := by kernel_rfl
@[simp] theorem ta78 : tagg Try.prog 78 = some false := by kernel_rfl
@[simp] theorem te78 : telem Try.prog 78 = some 4 := by kernel_rfl
@[simp] theorem tk78 : tkind Try.prog 78 = 3 := by kernel_rfl
@[simp] theorem tb78 : tbytes Try.prog 78 = some true := by kernel_rfl
@[simp] theorem tg78 : tguard Try.prog 78 = false := by kernel_rfl
@[simp] theorem tz78 : zeroCells Try.prog 78 = some [(AV.d (D.sl [] 0 true (some true)))] := by kernel_rfl
@[simp] theorem tv78 : zeroAV Try.prog 78 = some (AV.d (D.sl [] 0 true (some true))) := by kernel_rfl
@[simp] theorem tr78 : tarr Try.prog 78 = none := by kernel_rfl
@[simp] theorem ts83 : tsize Try.prog 83 = some 1 := by kernel_rfl
@[simp] theorem ta83 : tagg Try.prog 83 = some false := by kernel_rfl
@[simp] theorem te83 : telem Try.prog 83 = some 89 := by kernel_rfl
@[simp] theorem tk83 : tkind Try.prog 83 = 3 := by kernel_rfl
@[simp] theorem tb83 : tbytes Try.prog 83 = some true := by kernel_rfl
@[simp] theorem tg83 : tguard Try.prog 83 = false := by kernel_rfl
@[simp] theorem tz83 : zeroCells Try.prog 83 = some [(AV.d (D.sl [] 0 true (some true)))] := by kernel_rfl
@[simp] theorem tv83 : zeroAV Try.prog 83 = some (AV.d (D.sl [] 0 true (some true))) := by kernel_rfl
@[simp] theorem tr83 : tarr Try.prog 83 = none := by kernel_rfl
@[simp] theorem ts86 : tsize Try.prog 86 = some 1 := by kernel_rfl
@[simp] theorem ta86 : tagg Try.prog 86 = some false := by kernel_rfl
@[simp] theorem tk86 : tkind Try.prog 86 = 4 := by kernel_rfl
@[simp] theorem tb86 : tbytes Try.prog 86 = some true := by kernel_rfl
@[simp] theorem tm86 : tmap Try.prog 86 = some (93, 3) := by kernel_rfl
@[simp] theorem tg86 : tguard Try.prog 86 = false := by kernel_rfl
@[simp] theorem tz86 : zeroCells Try.prog 86 = some [(AV.d D.nilmap)] := by kernel_rfl
@[simp] theorem tv86 : zeroAV Try.prog 86 = some (AV.d D.nilmap) := by kernel_rfl
@[simp] theorem tr86 : tarr Try.prog 86 = none := by kernel_rfl
@[simp] theorem ts87 : tsize Try.prog 87 = some 1 := by kernel_rfl
@[simp] theorem ta87 : tagg Try.prog 87 = some false := by kernel_rfl
@[simp] theorem tk87 : tkind Try.prog 87 = 5 := by kernel_rfl
@[simp] theorem tb87 : tbytes Try.prog 87 = some true := by kernel_rfl
@[simp] theorem tg87 : tguard Try.prog 87 = false := by kernel_rfl
@[simp] theorem tz87 : zeroCells Try.prog 87 = some [(AV.d D.nilfn)] := by kernel_rfl
@[simp] theorem tv87 : zeroAV Try.prog 87 = some (AV.d D.nilfn) := by kernel_rfl
@[simp] theorem tr87 : tarr Try.prog 87 = none := by kernel_rfl
@[simp] theorem ts89 : tsize Try.prog 89 = some 4 := by kernel_rfl
@[simp] theorem ta89 : tagg Try.prog 89 = some true := by kernel_rfl
@[simp] theorem tk89 : tkind Try.prog 89 = 0 := by kernel_rfl
@[simp] theorem tp89 : tplaces Try.prog 89 = some [(0, 3), (3, 1)] := by kernel_rfl
@[simp] theorem tb89 : tbytes Try.prog 89 = some true := by kernel_rfl
@[simp] theorem tg89 : tguard Try.prog 89 = false := by kernel_rfl
@[simp] theorem tf89_0 : tfield Try.prog 89 0 = some (0, 30) := by kernel_rfl
@[simp] theorem tf89_1 : tfield Try.prog 89 1 = some (3, 23) := by kernel_rfl
@[simp] theorem tz89 : zeroCells Try.prog 89 = some [(AV.d (D.int IntKind.i64 0)), (AV.d (D.str (ByteArray.mk #[]))), (AV.d (D.sl [] 0 true (some true))), (AV.d (D.sl [] 0 true (some true)))] := by kernel_rfl
@[simp] theorem tv89 : zeroAV Try.prog 89 = some (AV.d (D.agg [(D.int IntKind.i64 0), (D.str (ByteArray.mk #[])), (D.sl [] 0 true (some true)), (D.sl [] 0 true (some true))])) := by kernel_rfl
@[simp] theorem tr89 : tarr Try.prog 89 = none := by kernel_rfl
@[simp] theorem ts90 : tsize Try.prog 90 = some 1 := by kernel_rfl
@[simp] theorem ta90 : tagg Try.prog 90 = some false := by kernel_rfl
@[simp] theorem tk90 : tkind Try.prog 90 = 5 := by kernel_rfl
@[simp] theorem tb90 : tbytes Try.prog 90 = some true := by kernel_rfl
@[simp] theorem tg90 : tguard Try.prog 90 = false := by kernel_rfl
@[simp] theorem tz90 : zeroCells Try.prog 90 = some [(AV.d D.nilfn)] := by kernel_rfl
@[simp] theorem tv90 : zeroAV Try.prog 90 = some (AV.d D.nilfn) := by kernel_rfl
@[simp] theorem tr90 : tarr Try.prog 90 = none := by kernel_rfl
@[simp] theorem ts93 : tsize Try.prog 93 = some 2 := by kernel_rfl
@[simp] theorem ta93 : tagg Try.prog 93 = some true := by kernel_rfl
@[simp] theorem tk93 : tkind Try.prog 93 = 0 := by kernel_rfl
@[simp] theorem tp93 : tplaces Try.prog 93 = some [(0, 1), (1, 1)] := by kernel_rfl
@[simp] theorem tb93 : tbytes Try.prog 93 = some true := by kernel_rfl
@[simp] theorem th93 : tshape Try.prog 93 = some (true, [(KK.int IntKind.i64), (KK.int IntKind.i64)]) := by kernel_rfl
@[simp] theorem tg93 : tguard Try.prog 93 = false := by kernel_rfl
@[simp] theorem tf93_0 : tfield Try.prog 93 0 = some (0, 3) := by kernel_rfl
@[simp] theorem tf93_1 : tfield Try.prog 93 1 = some (1, 3) := by kernel_rfl
@[simp] theorem tz93 : zeroCells Try.prog 93 = some [(AV.d (D.int IntKind.i64 0)), (AV.d (D.int IntKind.i64 0))] := by kernel_rfl
@[simp] theorem tv93 : zeroAV Try.prog 93 = some (AV.d (D.agg [(D.int IntKind.i64 0), (D.int IntKind.i64 0)])) := by kernel_rfl
@[simp] theorem tr93 : tarr Try.prog 93 = none := by kernel_rfl
@[simp] theorem ts94 : tsize Try.prog 94 = some 1 := by kernel_rfl
@[simp] theorem ta94 : tagg Try.prog 94 = some false := by kernel_rfl
@[simp] theorem tk94 : tkind Try.prog 94 = 4 := by kernel_rfl
@[simp] theorem tb94 : tbytes Try.prog 94 = some true := by kernel_rfl
@[simp] theorem tm94 : tmap Try.prog 94 = some (3, 3) := by kernel_rfl
@[simp] theorem tg94 : tguard Try.prog 94 = false := by kernel_rfl
@[simp] theorem tz94 : zeroCells Try.prog 94 = some [(AV.d D.nilmap)] := by kernel_rfl
@[simp] theorem tv94 : zeroAV Try.prog 94 = some (AV.d D.nilmap) := by kernel_rfl
@[simp] theorem tr94 : tarr Try.prog 94 = none := by kernel_rfl
@[simp] theorem ts98 : tsize Try.prog 98 = some 1 := by kernel_rfl
@[simp] theorem ta98 : tagg Try.prog 98 = some false := by kernel_rfl
@[simp] theorem tk98 : tkind Try.prog 98 = 2 := by kernel_rfl
@[simp] theorem tb98 : tbytes Try.prog 98 = some true := by kernel_rfl
@[simp] theorem tg98 : tguard Try.prog 98 = false := by kernel_rfl
@[simp] theorem tz98 : zeroCells Try.prog 98 = some [(AV.d D.nilptr)] := by kernel_rfl
@[simp] theorem tv98 : zeroAV Try.prog 98 = some (AV.d D.nilptr) := by kernel_rfl
@[simp] theorem tr98 : tarr Try.prog 98 = none := by kernel_rfl
@[simp] theorem ts99 : tsize Try.prog 99 = some 1 := by kernel_rfl
@[simp] theorem ta99 : tagg Try.prog 99 = some false := by kernel_rfl
@[simp] theorem te99 : telem Try.prog 99 = some 23 := by kernel_rfl
@[simp] theorem tk99 : tkind Try.prog 99 = 3 := by kernel_rfl
@[simp] theorem tb99 : tbytes Try.prog 99 = some true := by kernel_rfl
@[simp] theorem tg99 : tguard Try.prog 99 = false := by kernel_rfl
@[simp] theorem tz99 : zeroCells Try.prog 99 = some [(AV.d (D.sl [] 0 true (some true)))] := by kernel_rfl
@[simp] theorem tv99 : zeroAV Try.prog 99 = some (AV.d (D.sl [] 0 true (some true))) := by kernel_rfl
@[simp] theorem tr99 : tarr Try.prog 99 = none := by kernel_rfl
@[simp] theorem ts101 : tsize Try.prog 101 = some 2 := by kernel_rfl
@[simp] theorem ta101 : tagg Try.prog 101 = some true := by kernel_rfl
@[simp] theorem tk101 : tkind Try.prog 101 = 0 := by kernel_rfl
@[simp] theorem tp101 : tplaces Try.prog 101 = some [(0, 1), (1, 1)] := by kernel_rfl
@[simp] theorem tb101 : tbytes Try.prog 101 = some true := by kernel_rfl
@[simp] theorem tg101 : tguard Try.prog 101 = false := by kernel_rfl
@[simp] theorem tf101_0 : tfield Try.prog 101 0 = some (0, 28) := by kernel_rfl
@[simp] theorem tf101_1 : tfield Try.prog 101 1 = some (1, 99) := by kernel_rfl
@[simp] theorem tz101 : zeroCells Try.prog 101 = some [(AV.d (D.sl [] 0 true (some true))), (AV.d (D.sl [] 0 true (some true)))] := by kernel_rfl
@[simp] theorem tv101 : zeroAV Try.prog 101 = some (AV.d (D.agg [(D.sl [] 0 true (some true)), (D.sl [] 0 true (some true))])) := by kernel_rfl
@[simp] theorem tr101 : tarr Try.prog 101 = none := by kernel_rfl
@[simp] theorem ts102 : tsize Try.prog 102 = some 1 := by kernel_rfl
@[simp] theorem ta102 : tagg Try.prog 102 = some false := by kernel_rfl
@[simp] theorem te102 : telem Try.prog 102 = some 78 := by kernel_rfl
@[simp] theorem tk102 : tkind Try.prog 102 = 3 := by kernel_rfl
@[simp] theorem tb102 : tbytes Try.prog 102 = some true := by kernel_rfl
@[simp] theorem tg102 : tguard Try.prog 102 = false := by kernel_rfl
@[simp] theorem tz102 : zeroCells Try.prog 102 = some [(AV.d (D.sl [] 0 true (some true)))] := by kernel_rfl
@[simp] theorem tv102 : zeroAV Try.prog 102 = some (AV.d (D.sl [] 0 true (some true))) := by kernel_rfl
@[simp] theorem tr102 : tarr Try.prog 102 = none := by kernel_rfl
def b6_0 : ACode := (.seq (.seq (.region [rO 35 (.move (.tmp 10)), rO 36 (.move (.tmp 7)), rO 37 (.call ⟨.builtin .len, #[.tmp 36], #[35]⟩), rO 38 (.binOp .lss 3 (.tmp 35) (.tmp 37) 3)]) (.cond (.tmp 38) .skip (.exit 0))) (.seq (.block 1 (.region [rO 41 (.move (.tmp 9)), rO 42 (.move (.tmp 41)), ⟨some 43, .load 40 (.tmp 8), (some (42, false)), false⟩, ⟨some 44, .move (.tmp 7), (some (42, false)), false⟩, ⟨some 45, .move (.tmp 10), (some (42, false)), false⟩, ⟨some 46, .call ⟨.value (.func 14), #[.tmp 43, .tmp 44, .tmp 45], #[40, 35, 3]⟩, (some (42, false)), false⟩, rO 47 (.pick (.tmp 42) (.const (.bool true)) (.tmp 46)), rO 9 (.assign (.tmp 47))])) (.region [rO 39 (.move (.tmp 10)), rO 40 (.binOp .add 3 (.tmp 39) (.const (.int .i64 1)) 3), rO 10 (.assign (.tmp 40))])))
theorem code6 : bodyOf Try.prog 6 = (some ((.seq (.region [rO 3 (.box 27 (.tmp 0)), rO 5 (.box 32 (.tmp 2)), rO 6 (.assign (.const (.bool false)))]) (.seq (.tregion [rO 11 (.buildSlice 35 0 #[]), rO 12 (.move (.tmp 1)), ⟨some 13, .call ⟨.builtin .append, #[.tmp 11, .tmp 12], #[35, 35]⟩, none, true⟩, rO 14 (.load 32 (.tmp 5)), ⟨some 15, .buildSlice 35 1 #[(0, .tmp 14)], none, true⟩, ⟨some 16, .call ⟨.builtin .append, #[.tmp 13, .tmp 15], #[35, 35]⟩, none, true⟩, rO 7 (.assign (.tmp 16))] [(2, 3)]) (.seq (.seq (.region [rO 17 (.move (.tmp 7)), rO 18 (.buildSlice 36 1 #[(0, .tmp 17)]), rO 19 (.call ⟨.value (.func 7), #[.tmp 18], #[36]⟩), rO 20 (.unOp .not 4 (.tmp 19)), rO 21 (.move (.tmp 20)), ⟨some 22, .move (.tmp 7), (some (21, false)), false⟩, ⟨some 23, .call ⟨.value (.func 19), #[.tmp 22], #[35]⟩, (some (21, false)), false⟩, ⟨some 24, .binOp .neq 49 (.tmp 23) (.const (.int .i64 0)) 49, (some (21, false)), false⟩, rO 25 (.pick (.tmp 21) (.const (.bool true)) (.tmp 24)), rO 26 (.move (.tmp 25)), ⟨some 27, .fieldAddr 27 (.tmp 3) 1, (some (26, false)), false⟩, ⟨some 28, .load 25 (.tmp 27), (some (26, false)), false⟩, ⟨some 29, .call ⟨.value (.func 20), #[.tmp 28], #[25]⟩, (some (26, false)), false⟩, ⟨some 30, .unOp .not 4 (.tmp 29), (some (26, false)), false⟩, rO 31 (.pick (.tmp 26) (.const (.bool true)) (.tmp 30))]) (.cond (.tmp 31) (.seq (.region [rO 32 (.call ⟨.value (.func 8), #[], #[]⟩), rO 6 (.assign (.tmp 32))]) .ret) .skip)) (.seq (.region [rO 33 (.load 27 (.tmp 3)), rO 34 (.call ⟨.value (.func 9), #[.tmp 33], #[27]⟩), rO 8 (.alloc 40), ⟨none, .store 40 (.tmp 8) (.tmp 34), none, false⟩]) (.seq (.region [rO 9 (.assign (.const (.bool false)))]) (.seq (.seq (.region [rO 10 (.assign (.const (.int .i64 0)))]) (.block 0 (.loop [false, true, false, false, false, false, true, true, true, true, true, false, false, false, false, false, false, false, false, false, false, false, false, false, false, false, false, false, false, false, false, false, false, false, false, false, false, false, false, false, false, false, false, false, false, false, false, false, true, true, true, true, true, true, true, true, true, true, true] false b6_0))) (.seq (.region [rO 48 (.load 40 (.tmp 8)), rO 49 (.move (.tmp 7)), rO 50 (.move (.tmp 1)), rO 51 (.call ⟨.value (.func 18), #[.tmp 48, .tmp 49, .tmp 50], #[40, 35, 35]⟩), rO 52 (.binOp .eql 3 (.tmp 51) (.const (.int .i64 1)) 3), rO 53 (.move (.tmp 52)), ⟨some 54, .move (.tmp 9), (some (53, true)), false⟩, rO 55 (.pick (.tmp 53) (.tmp 54) (.const (.bool false))), rO 56 (.move (.tmp 55)), ⟨some 57, .call ⟨.value (.func 8), #[], #[]⟩, (some (56, true)), false⟩, rO 58 (.pick (.tmp 56) (.tmp 57) (.const (.bool false))), rO 6 (.assign (.tmp 58))]) .ret))))))), (59, [.tmp 6])) : Option (ACode × Nat × List ResultVar)) := by kernel_rfl
end Go.Proofs.Ytajilkmepjhkdaa.Am

/-
 The code of this seat, all texts. No condition.
-/

