/-
  Joined texts: AmC2, AmC. No condition.
-/
import Derived.Test.YtajilkmepjhkdaaGreatAmPal
import Derived.Test.YtajilkmepjhkdaaGreatProg
/-
 The code of this seat's functions as the abstract machine reads it, and its types: written by gencode.py, each held by the kernel. No condition.
-/
namespace Go.Proofs.YtajilkmepjhkdaaGreat.Am
open Go Go.Proofs
set_option maxRecDepth 100000
def b96_0 : ACode := (.seq (.seq (.region [rO 7 (.move (.tmp 6)), rO 8 (.fieldAddr 42 (.tmp 3) 2), rO 9 (.load 40 (.tmp 8)), rO 10 (.call ⟨.builtin .len, #[.tmp 9], #[40]⟩), rO 11 (.binOp .lss 3 (.tmp 7) (.tmp 10) 3)]) (.cond (.tmp 11) .skip (.exit 0))) (.seq (.block 1 (.region [rO 14 (.move (.tmp 5)), rO 15 (.move (.tmp 0)), rO 16 (.fieldAddr 42 (.tmp 3) 2), rO 17 (.load 40 (.tmp 16)), rO 18 (.move (.tmp 6)), rO 19 (.indexAddr 40 (.tmp 17) (.tmp 18)), rO 20 (.load 42 (.tmp 19)), rO 21 (.call ⟨.value (.func 96), #[.tmp 15, .tmp 20], #[108, 42]⟩), rO 22 (.buildSlice 23 1 #[(0, .tmp 21)]), rO 23 (.call ⟨.builtin .append, #[.tmp 14, .tmp 22], #[23, 23]⟩), rO 5 (.assign (.tmp 23))])) (.region [rO 12 (.move (.tmp 6)), rO 13 (.binOp .add 3 (.tmp 12) (.const (.int .i64 1)) 3), rO 6 (.assign (.tmp 13))])))
theorem code96 : bodyOf Tryz.prog 96 = (some ((.seq (.region [rO 3 (.box 42 (.tmp 1)), rO 4 (.assign (.const (.int .i64 0)))]) (.seq (.region [rO 5 (.assign (.const (.slice none 0 0)))]) (.seq (.seq (.region [rO 6 (.assign (.const (.int .i64 0)))]) (.block 0 (.loop [true, false, false, true, true, true, true, false, false, false, false, false, false, false, false, false, false, false, false, false, false, false, false, false, true, true, true, true, true, true, true, true, true, true, true, true, true, true, true, true, true, true, true, true, true, true, true, true, true, true, true] false b96_0))) (.seq (.tregion [rO 24 (.move (.tmp 0)), rO 25 (.nilCheck (.tmp 24)), rO 26 (.fieldAddr 111 (.tmp 25) 0), rO 27 (.load 40 (.tmp 26)), rO 28 (.load 42 (.tmp 3)), rO 29 (.call ⟨.builtin .len, #[.tmp 27], #[40]⟩), rO 30 (.buildSlice 40 1 #[(0, (.const (.agg #[(.int .i64 0), (.string (ByteArray.mk #[])), (.slice none 0 0)])))]), rO 31 (.call ⟨.builtin .append, #[.tmp 27, .tmp 30], #[40, 40]⟩), rO 32 (.indexAddr 40 (.tmp 31) (.tmp 29)), ⟨none, .store 42 (.tmp 32) (.tmp 28), none, false⟩, rO 33 (.nilCheck (.tmp 24)), rO 34 (.fieldAddr 111 (.tmp 33) 0), ⟨none, .store 40 (.tmp 34) (.tmp 31), none, false⟩] [(8, 12), (9, 12)]) (.seq (.region [rO 35 (.move (.tmp 0)), rO 36 (.move (.tmp 0)), rO 37 (.nilCheck (.tmp 36)), rO 38 (.fieldAddr 111 (.tmp 37) 1), rO 39 (.load 109 (.tmp 38)), rO 40 (.move (.tmp 5)), rO 41 (.buildSlice 109 1 #[(0, .tmp 40)]), rO 42 (.call ⟨.builtin .append, #[.tmp 39, .tmp 41], #[109, 109]⟩), rO 43 (.nilCheck (.tmp 35)), rO 44 (.fieldAddr 111 (.tmp 43) 1), ⟨none, .store 109 (.tmp 44) (.tmp 42), none, false⟩]) (.seq (.region [rO 45 (.move (.tmp 0)), rO 46 (.nilCheck (.tmp 45)), rO 47 (.fieldAddr 111 (.tmp 46) 0), rO 48 (.load 40 (.tmp 47)), rO 49 (.call ⟨.builtin .len, #[.tmp 48], #[40]⟩), rO 50 (.binOp .sub 3 (.tmp 49) (.const (.int .i64 1)) 3), rO 4 (.assign (.tmp 50))]) .ret)))))), (51, [.tmp 4])) : Option (ACode × Nat × List ResultVar)) := by kernel_rfl
def b97_0 : ACode := (.seq (.seq (.region [rO 126 (.move (.tmp 18)), rO 127 (.fieldAddr 42 (.tmp 13) 2), rO 128 (.load 40 (.tmp 127)), rO 129 (.call ⟨.builtin .len, #[.tmp 128], #[40]⟩), rO 130 (.binOp .lss 3 (.tmp 126) (.tmp 129) 3)]) (.cond (.tmp 130) .skip (.exit 4))) (.seq (.block 5 (.seq (.dregion [rO 133 (.fieldAddr 42 (.tmp 13) 2), rO 134 (.load 40 (.tmp 133)), rO 135 (.move (.tmp 18)), rO 136 (.indexAddr 40 (.tmp 134) (.tmp 135)), rO 137 (.load 42 (.tmp 136)), rO 138 (.fieldAddr 42 (.tmp 14) 2), rO 139 (.load 40 (.tmp 138)), rO 140 (.move (.tmp 18)), rO 141 (.indexAddr 40 (.tmp 139) (.tmp 140)), rO 142 (.load 42 (.tmp 141)), ⟨some 143, .call ⟨.value (.func 63), #[.tmp 137, .tmp 142], #[42, 42]⟩, none, true⟩, rO 144 (.unOp .not 4 (.tmp 143))]) (.cond (.tmp 144) (.seq (.dregion [rO 145 (.move (.tmp 3)), rO 146 (.move (.tmp 1)), rO 147 (.nilCheck (.tmp 146)), rO 148 (.fieldAddr 111 (.tmp 147) 1), rO 149 (.load 109 (.tmp 148)), rO 150 (.move (.tmp 4)), rO 151 (.indexAddr 109 (.tmp 149) (.tmp 150)), rO 152 (.load 23 (.tmp 151)), rO 153 (.move (.tmp 18)), rO 154 (.indexAddr 23 (.tmp 152) (.tmp 153)), rO 155 (.load 3 (.tmp 154)), rO 156 (.indexAddr 112 (.tmp 145) (.tmp 155)), rO 157 (.load 71 (.tmp 156)), rO 158 (.move (.tmp 2)), rO 159 (.nilCheck (.tmp 158)), rO 160 (.fieldAddr 111 (.tmp 159) 1), rO 161 (.load 109 (.tmp 160)), rO 162 (.move (.tmp 5)), rO 163 (.indexAddr 109 (.tmp 161) (.tmp 162)), rO 164 (.load 23 (.tmp 163)), rO 165 (.move (.tmp 18)), rO 166 (.indexAddr 23 (.tmp 164) (.tmp 165)), rO 167 (.load 3 (.tmp 166)), rO 168 (.indexAddr 71 (.tmp 157) (.tmp 167)), rO 169 (.load 4 (.tmp 168)), rO 12 (.assign (.tmp 169))]) .ret) .skip))) (.region [rO 131 (.move (.tmp 18)), rO 132 (.binOp .add 3 (.tmp 131) (.const (.int .i64 1)) 3), rO 18 (.assign (.tmp 132))])))
def b97_1 : ACode := (.seq (.seq (.region [rO 79 (.move (.tmp 17)), rO 80 (.move (.tmp 2)), rO 81 (.nilCheck (.tmp 80)), rO 82 (.fieldAddr 111 (.tmp 81) 1), rO 83 (.load 109 (.tmp 82)), rO 84 (.move (.tmp 5)), rO 85 (.indexAddr 109 (.tmp 83) (.tmp 84)), rO 86 (.load 23 (.tmp 85)), rO 87 (.call ⟨.builtin .len, #[.tmp 86], #[23]⟩), rO 88 (.binOp .lss 3 (.tmp 79) (.tmp 87) 3)]) (.cond (.tmp 88) .skip (.exit 2))) (.seq (.block 3 (.seq (.dregion [rO 91 (.move (.tmp 3)), rO 92 (.move (.tmp 4)), rO 93 (.indexAddr 112 (.tmp 91) (.tmp 92)), rO 94 (.load 71 (.tmp 93)), rO 95 (.move (.tmp 2)), rO 96 (.nilCheck (.tmp 95)), rO 97 (.fieldAddr 111 (.tmp 96) 1), rO 98 (.load 109 (.tmp 97)), rO 99 (.move (.tmp 5)), rO 100 (.indexAddr 109 (.tmp 98) (.tmp 99)), rO 101 (.load 23 (.tmp 100)), rO 102 (.move (.tmp 17)), rO 103 (.indexAddr 23 (.tmp 101) (.tmp 102)), rO 104 (.load 3 (.tmp 103)), rO 105 (.indexAddr 71 (.tmp 94) (.tmp 104)), rO 106 (.load 4 (.tmp 105)), rO 107 (.unOp .not 4 (.tmp 106))]) (.cond (.tmp 107) (.seq (.region [rO 12 (.assign (.const (.bool false)))]) .ret) .skip))) (.region [rO 89 (.move (.tmp 17)), rO 90 (.binOp .add 3 (.tmp 89) (.const (.int .i64 1)) 3), rO 17 (.assign (.tmp 90))])))
def b97_2 : ACode := (.seq (.seq (.region [rO 36 (.move (.tmp 15)), rO 37 (.move (.tmp 1)), rO 38 (.nilCheck (.tmp 37)), rO 39 (.fieldAddr 111 (.tmp 38) 1), rO 40 (.load 109 (.tmp 39)), rO 41 (.move (.tmp 4)), rO 42 (.indexAddr 109 (.tmp 40) (.tmp 41)), rO 43 (.load 23 (.tmp 42)), rO 44 (.call ⟨.builtin .len, #[.tmp 43], #[23]⟩), rO 45 (.binOp .lss 3 (.tmp 36) (.tmp 44) 3)]) (.cond (.tmp 45) .skip (.exit 0))) (.seq (.block 1 (.seq (.region [rO 48 (.move (.tmp 1)), rO 49 (.nilCheck (.tmp 48)), rO 50 (.fieldAddr 111 (.tmp 49) 1), rO 51 (.load 109 (.tmp 50)), rO 52 (.move (.tmp 4)), rO 53 (.indexAddr 109 (.tmp 51) (.tmp 52)), rO 54 (.load 23 (.tmp 53)), rO 55 (.move (.tmp 15)), rO 56 (.indexAddr 23 (.tmp 54) (.tmp 55)), rO 57 (.load 3 (.tmp 56)), rO 16 (.assign (.tmp 57))]) (.seq (.dregion [rO 58 (.move (.tmp 1)), rO 59 (.nilCheck (.tmp 58)), rO 60 (.fieldAddr 111 (.tmp 59) 0), rO 61 (.load 40 (.tmp 60)), rO 62 (.move (.tmp 16)), rO 63 (.indexAddr 40 (.tmp 61) (.tmp 62)), rO 64 (.load 42 (.tmp 63)), rO 65 (.load 42 (.tmp 14)), ⟨some 66, .call ⟨.value (.func 63), #[.tmp 64, .tmp 65], #[42, 42]⟩, none, true⟩, rO 67 (.move (.tmp 66)), ⟨some 68, .move (.tmp 3), (some (67, false)), false⟩, ⟨some 69, .move (.tmp 16), (some (67, false)), false⟩, ⟨some 70, .indexAddr 112 (.tmp 68) (.tmp 69), (some (67, false)), false⟩, ⟨some 71, .load 71 (.tmp 70), (some (67, false)), false⟩, ⟨some 72, .move (.tmp 5), (some (67, false)), false⟩, ⟨some 73, .indexAddr 71 (.tmp 71) (.tmp 72), (some (67, false)), false⟩, ⟨some 74, .load 4 (.tmp 73), (some (67, false)), false⟩, rO 75 (.pick (.tmp 67) (.const (.bool true)) (.tmp 74))]) (.cond (.tmp 75) (.seq (.region [rO 12 (.assign (.const (.bool true)))]) .ret) .skip)))) (.region [rO 46 (.move (.tmp 15)), rO 47 (.binOp .add 3 (.tmp 46) (.const (.int .i64 1)) 3), rO 15 (.assign (.tmp 47))])))
theorem code97 : bodyOf Tryz.prog 97 = (some ((.seq (.region [rO 6 (.box 25 (.tmp 0)), rO 12 (.assign (.const (.bool false)))]) (.seq (.tregion [rO 19 (.move (.tmp 1)), rO 20 (.nilCheck (.tmp 19)), rO 21 (.fieldAddr 111 (.tmp 20) 0), rO 22 (.load 40 (.tmp 21)), rO 23 (.move (.tmp 4)), rO 24 (.indexAddr 40 (.tmp 22) (.tmp 23)), rO 25 (.load 42 (.tmp 24)), rO 26 (.move (.tmp 2)), rO 27 (.nilCheck (.tmp 26)), rO 28 (.fieldAddr 111 (.tmp 27) 0), rO 29 (.load 40 (.tmp 28)), rO 30 (.move (.tmp 5)), rO 31 (.indexAddr 40 (.tmp 29) (.tmp 30)), rO 32 (.load 42 (.tmp 31)), rO 13 (.alloc 42), rO 14 (.alloc 42), ⟨none, .store 42 (.tmp 13) (.tmp 25), none, false⟩, ⟨none, .store 42 (.tmp 14) (.tmp 32), none, false⟩] [(10, 16), (12, 16), (13, 16)]) (.seq (.seq (.region [rO 33 (.fieldAddr 42 (.tmp 13) 1), rO 34 (.load 9 (.tmp 33)), rO 35 (.binOp .eql 9 (.tmp 34) (.const (.string (ByteArray.mk #[]))) 9)]) (.cond (.tmp 35) (.seq (.region [rO 12 (.assign (.const (.bool false)))]) .ret) .skip)) (.seq (.seq (.region [rO 15 (.assign (.const (.int .i64 0)))]) (.block 0 (.loop [false, true, true, true, true, true, true, false, false, false, false, false, true, true, true, true, false, true, true, false, false, false, false, false, false, false, false, false, false, false, false, false, false, false, false, false, false, false, false, false, false, false, false, false, false, false, false, false, false, false, false, false, false, false, false, false, false, false, false, false, false, false, false, false, false, false, false, false, false, false, false, false, false, false, false, false, true, true, true, true, true, true, true, true, true, true, true, true, true, true, true, true, true, true, true, true, true, true, true, true, true, true, true, true, true, true, true, true, true, true, true, true, true, true, true, true, true, true, true, true, true, true, true, true, true, true, true, true, true, true, true, true, true, true, true, true, true, true, true, true, true, true, true, true, true, true, true, true, true, true, true, true, true, true, true, true, true, true, true, true, true, true, true, true, true, true, true, true, true, true] false b97_2))) (.seq (.seq (.region [rO 76 (.fieldAddr 42 (.tmp 14) 1), rO 77 (.load 9 (.tmp 76)), rO 78 (.binOp .eql 9 (.tmp 77) (.const (.string (ByteArray.mk #[]))) 9)]) (.cond (.tmp 78) (.seq (.region [rO 12 (.assign (.const (.bool false)))]) .ret) .skip)) (.seq (.seq (.region [rO 17 (.assign (.const (.int .i64 0)))]) (.block 2 (.loop [false, true, true, true, true, true, true, false, false, false, false, false, true, true, true, false, false, true, true, false, false, false, false, false, false, false, false, false, false, false, false, false, false, false, false, false, false, false, false, false, false, false, false, false, false, false, false, false, false, false, false, false, false, false, false, false, false, false, false, false, false, false, false, false, false, false, false, false, false, false, false, false, false, false, false, false, false, false, false, false, false, false, false, false, false, false, false, false, false, false, false, false, false, false, false, false, false, false, false, false, false, false, false, false, false, false, false, false, true, true, true, true, true, true, true, true, true, true, true, true, true, true, true, true, true, true, true, true, true, true, true, true, true, true, true, true, true, true, true, true, true, true, true, true, true, true, true, true, true, true, true, true, true, true, true, true, true, true, true, true, true, true, true, true, true, true, true, true, true, true] false b97_1))) (.seq (.seq (.region [rO 108 (.fieldAddr 42 (.tmp 13) 1), rO 109 (.load 9 (.tmp 108)), rO 110 (.fieldAddr 42 (.tmp 14) 1), rO 111 (.load 9 (.tmp 110)), rO 112 (.binOp .neq 9 (.tmp 109) (.tmp 111) 9), rO 113 (.move (.tmp 112)), ⟨some 114, .fieldAddr 42 (.tmp 13) 2, (some (113, false)), false⟩, ⟨some 115, .load 40 (.tmp 114), (some (113, false)), false⟩, ⟨some 116, .call ⟨.builtin .len, #[.tmp 115], #[40]⟩, (some (113, false)), false⟩, ⟨some 117, .fieldAddr 42 (.tmp 14) 2, (some (113, false)), false⟩, ⟨some 118, .load 40 (.tmp 117), (some (113, false)), false⟩, ⟨some 119, .call ⟨.builtin .len, #[.tmp 118], #[40]⟩, (some (113, false)), false⟩, ⟨some 120, .binOp .neq 3 (.tmp 116) (.tmp 119) 3, (some (113, false)), false⟩, rO 121 (.pick (.tmp 113) (.const (.bool true)) (.tmp 120))]) (.cond (.tmp 121) (.seq (.region [rO 122 (.load 25 (.tmp 6)), rO 123 (.load 42 (.tmp 13)), rO 124 (.load 42 (.tmp 14)), rO 125 (.call ⟨.value (.func 101), #[.tmp 122, .tmp 123, .tmp 124], #[25, 42, 42]⟩), rO 12 (.assign (.tmp 125))]) .ret) .skip)) (.seq (.seq (.region [rO 18 (.assign (.const (.int .i64 0)))]) (.block 4 (.loop [false, true, true, true, true, true, false, false, false, false, false, false, true, true, true, false, false, false, true, false, false, false, false, false, false, false, false, false, false, false, false, false, false, false, false, false, false, false, false, false, false, false, false, false, false, false, false, false, false, false, false, false, false, false, false, false, false, false, false, false, false, false, false, false, false, false, false, false, false, false, false, false, false, false, false, false, false, false, false, false, false, false, false, false, false, false, false, false, false, false, false, false, false, false, false, false, false, false, false, false, false, false, false, false, false, false, false, false, false, false, false, false, false, false, false, false, false, false, false, false, false, false, false, false, false, false, false, false, false, false, false, false, false, false, false, false, false, false, false, false, false, false, false, false, false, false, false, false, false, false, false, false, false, false, false, false, false, false, false, false, false, false, false, false, false, false, false, false, false, false] false b97_0))) (.seq (.region [rO 12 (.assign (.const (.bool false)))]) .ret))))))))), (170, [.tmp 12])) : Option (ACode × Nat × List ResultVar)) := by kernel_rfl
theorem code98 : bodyOf Tryz.prog 98 = (some ((.seq (.region [rO 1 (.box 42 (.tmp 0)), rO 2 (.assign (.const (.slice none 0 0)))]) (.seq (.region [rO 3 (.load 42 (.tmp 1)), rO 4 (.call ⟨.value (.func 102), #[(.const (.slice none 0 0)), .tmp 3], #[23, 42]⟩), rO 2 (.assign (.tmp 4))]) .ret)), (5, [.tmp 2])) : Option (ACode × Nat × List ResultVar)) := by kernel_rfl
def b99_0 : ACode := (.seq (.seq (.region [rO 16 (.move (.tmp 6)), rO 17 (.fieldAddr 42 (.tmp 2) 2), rO 18 (.load 40 (.tmp 17)), rO 19 (.call ⟨.builtin .len, #[.tmp 18], #[40]⟩), rO 20 (.binOp .lss 3 (.tmp 16) (.tmp 19) 3)]) (.cond (.tmp 20) .skip (.exit 0))) (.seq (.block 1 (.region [rO 23 (.move (.tmp 5)), rO 24 (.fieldAddr 42 (.tmp 2) 2), rO 25 (.load 40 (.tmp 24)), rO 26 (.move (.tmp 6)), rO 27 (.indexAddr 40 (.tmp 25) (.tmp 26)), rO 28 (.load 42 (.tmp 27)), rO 29 (.move (.tmp 1)), rO 30 (.call ⟨.value (.func 99), #[.tmp 28, .tmp 29], #[42, 3]⟩), rO 31 (.binOp .add 3 (.tmp 23) (.tmp 30) 3), rO 5 (.assign (.tmp 31))])) (.region [rO 21 (.move (.tmp 6)), rO 22 (.binOp .add 3 (.tmp 21) (.const (.int .i64 1)) 3), rO 6 (.assign (.tmp 22))])))
theorem code99 : bodyOf Tryz.prog 99 = (some ((.seq (.region [rO 2 (.box 42 (.tmp 0)), rO 4 (.assign (.const (.int .i64 0)))]) (.seq (.region [rO 5 (.assign (.const (.int .i64 0)))]) (.seq (.seq (.region [rO 7 (.fieldAddr 42 (.tmp 2) 1), rO 8 (.load 9 (.tmp 7)), rO 9 (.binOp .eql 9 (.tmp 8) (.const (.string (ByteArray.mk #[]))) 9), rO 10 (.move (.tmp 9)), ⟨some 11, .fieldAddr 42 (.tmp 2) 0, (some (10, true)), false⟩, ⟨some 12, .load 3 (.tmp 11), (some (10, true)), false⟩, ⟨some 13, .move (.tmp 1), (some (10, true)), false⟩, ⟨some 14, .binOp .eql 3 (.tmp 12) (.tmp 13) 3, (some (10, true)), false⟩, rO 15 (.pick (.tmp 10) (.tmp 14) (.const (.bool false)))]) (.cond (.tmp 15) (.region [rO 5 (.assign (.const (.int .i64 1)))]) .skip)) (.seq (.seq (.region [rO 6 (.assign (.const (.int .i64 0)))]) (.block 0 (.loop [false, true, true, false, true, true, true, false, false, false, false, false, false, false, false, false, false, false, false, false, false, false, false, false, false, false, false, false, false, false, false, false, true] false b99_0))) (.seq (.region [rO 32 (.move (.tmp 5)), rO 4 (.assign (.tmp 32))]) .ret))))), (33, [.tmp 4])) : Option (ACode × Nat × List ResultVar)) := by kernel_rfl
def b100_0 : ACode := (.seq (.seq (.region [rO 47 (.move (.tmp 7)), rO 48 (.fieldAddr 42 (.tmp 3) 2), rO 49 (.load 40 (.tmp 48)), rO 50 (.call ⟨.builtin .len, #[.tmp 49], #[40]⟩), rO 51 (.binOp .lss 3 (.tmp 47) (.tmp 50) 3)]) (.cond (.tmp 51) .skip (.exit 0))) (.seq (.block 1 (.dregion [rO 54 (.move (.tmp 5)), rO 55 (.load 25 (.tmp 2)), rO 56 (.fieldAddr 42 (.tmp 3) 2), rO 57 (.load 40 (.tmp 56)), rO 58 (.move (.tmp 7)), rO 59 (.indexAddr 40 (.tmp 57) (.tmp 58)), rO 60 (.load 42 (.tmp 59)), ⟨some 61, .call ⟨.value (.func 100), #[.tmp 55, .tmp 60], #[25, 42]⟩, none, true⟩, rO 62 (.binOp .add 3 (.tmp 54) (.tmp 61) 3), rO 5 (.assign (.tmp 62))])) (.region [rO 52 (.move (.tmp 7)), rO 53 (.binOp .add 3 (.tmp 52) (.const (.int .i64 1)) 3), rO 7 (.assign (.tmp 53))])))
theorem code100 : bodyOf Tryz.prog 100 = (some ((.seq (.region [rO 2 (.box 25 (.tmp 0)), rO 3 (.box 42 (.tmp 1)), rO 4 (.assign (.const (.int .i64 0)))]) (.seq (.region [rO 5 (.assign (.const (.int .i64 1)))]) (.seq (.seq (.region [rO 8 (.load 25 (.tmp 2)), rO 9 (.fieldAddr 42 (.tmp 3) 1), rO 10 (.load 9 (.tmp 9)), rO 11 (.call ⟨.value (.func 39), #[.tmp 8, .tmp 10], #[25, 9]⟩), rO 6 (.assign (.tmp 11))]) (.seq (.region [rO 12 (.fieldAddr 42 (.tmp 3) 1), rO 13 (.load 9 (.tmp 12)), rO 14 (.binOp .neq 9 (.tmp 13) (.const (.string (ByteArray.mk #[]))) 9), rO 15 (.move (.tmp 14)), ⟨some 16, .move (.tmp 6), (some (15, true)), false⟩, ⟨some 17, .binOp .geq 3 (.tmp 16) (.const (.int .i64 0)) 3, (some (15, true)), false⟩, rO 18 (.pick (.tmp 15) (.tmp 17) (.const (.bool false))), rO 19 (.move (.tmp 18)), ⟨some 20, .move (.tmp 6), (some (19, true)), false⟩, ⟨some 21, .fieldAddr 25 (.tmp 2) 1, (some (19, true)), false⟩, ⟨some 22, .load 23 (.tmp 21), (some (19, true)), false⟩, ⟨some 23, .call ⟨.builtin .len, #[.tmp 22], #[23]⟩, (some (19, true)), false⟩, ⟨some 24, .binOp .lss 3 (.tmp 20) (.tmp 23) 3, (some (19, true)), false⟩, rO 25 (.pick (.tmp 19) (.tmp 24) (.const (.bool false))), rO 26 (.move (.tmp 25)), ⟨some 27, .fieldAddr 25 (.tmp 2) 1, (some (26, true)), false⟩, ⟨some 28, .load 23 (.tmp 27), (some (26, true)), false⟩, ⟨some 29, .move (.tmp 6), (some (26, true)), false⟩, ⟨some 30, .indexAddr 23 (.tmp 28) (.tmp 29), (some (26, true)), false⟩, ⟨some 31, .load 3 (.tmp 30), (some (26, true)), false⟩, ⟨some 32, .binOp .geq 3 (.tmp 31) (.const (.int .i64 1)) 3, (some (26, true)), false⟩, rO 33 (.pick (.tmp 26) (.tmp 32) (.const (.bool false))), rO 34 (.move (.tmp 33)), ⟨some 35, .fieldAddr 25 (.tmp 2) 1, (some (34, true)), false⟩, ⟨some 36, .load 23 (.tmp 35), (some (34, true)), false⟩, ⟨some 37, .move (.tmp 6), (some (34, true)), false⟩, ⟨some 38, .indexAddr 23 (.tmp 36) (.tmp 37), (some (34, true)), false⟩, ⟨some 39, .load 3 (.tmp 38), (some (34, true)), false⟩, ⟨some 40, .binOp .leq 3 (.tmp 39) (.const (.int .i64 1000)) 3, (some (34, true)), false⟩, rO 41 (.pick (.tmp 34) (.tmp 40) (.const (.bool false)))]) (.cond (.tmp 41) (.region [rO 42 (.fieldAddr 25 (.tmp 2) 1), rO 43 (.load 23 (.tmp 42)), rO 44 (.move (.tmp 6)), rO 45 (.indexAddr 23 (.tmp 43) (.tmp 44)), rO 46 (.load 3 (.tmp 45)), rO 5 (.assign (.tmp 46))]) .skip))) (.seq (.seq (.region [rO 7 (.assign (.const (.int .i64 0)))]) (.block 0 (.loop [false, false, true, true, true, true, false, true, false, false, false, false, false, false, false, false, false, false, false, false, false, false, false, false, false, false, false, false, false, false, false, false, false, false, false, false, false, false, false, false, false, false, false, false, false, false, false, false, false, false, false, false, false, false, false, false, false, false, false, false, false, false, false, true] false b100_0))) (.seq (.region [rO 63 (.move (.tmp 5)), rO 4 (.assign (.tmp 63))]) .ret))))), (64, [.tmp 4])) : Option (ACode × Nat × List ResultVar)) := by kernel_rfl
theorem code101 : bodyOf Tryz.prog 101 = (some ((.seq (.region [rO 3 (.box 25 (.tmp 0)), rO 4 (.box 42 (.tmp 1)), rO 5 (.box 42 (.tmp 2)), rO 6 (.assign (.const (.bool false)))]) (.seq (.seq (.region [rO 7 (.fieldAddr 42 (.tmp 4) 1), rO 8 (.load 9 (.tmp 7)), rO 9 (.fieldAddr 42 (.tmp 5) 1), rO 10 (.load 9 (.tmp 9)), rO 11 (.binOp .eql 9 (.tmp 8) (.tmp 10) 9)]) (.cond (.tmp 11) (.seq (.region [rO 12 (.fieldAddr 42 (.tmp 4) 2), rO 13 (.load 40 (.tmp 12)), rO 14 (.call ⟨.builtin .len, #[.tmp 13], #[40]⟩), rO 15 (.fieldAddr 42 (.tmp 5) 2), rO 16 (.load 40 (.tmp 15)), rO 17 (.call ⟨.builtin .len, #[.tmp 16], #[40]⟩), rO 18 (.binOp .gtr 3 (.tmp 14) (.tmp 17) 3), rO 6 (.assign (.tmp 18))]) .ret) .skip)) (.seq (.region [rO 19 (.load 25 (.tmp 3)), rO 20 (.fieldAddr 42 (.tmp 4) 1), rO 21 (.load 9 (.tmp 20)), rO 22 (.fieldAddr 42 (.tmp 5) 1), rO 23 (.load 9 (.tmp 22)), rO 24 (.call ⟨.value (.func 103), #[.tmp 19, .tmp 21, .tmp 23], #[25, 9, 9]⟩), rO 6 (.assign (.tmp 24))]) .ret))), (25, [.tmp 6])) : Option (ACode × Nat × List ResultVar)) := by kernel_rfl
def b102_0 : ACode := (.seq (.seq (.region [rO 13 (.move (.tmp 5)), rO 14 (.fieldAddr 42 (.tmp 3) 2), rO 15 (.load 40 (.tmp 14)), rO 16 (.call ⟨.builtin .len, #[.tmp 15], #[40]⟩), rO 17 (.binOp .lss 3 (.tmp 13) (.tmp 16) 3)]) (.cond (.tmp 17) .skip (.exit 0))) (.seq (.block 1 (.region [rO 20 (.move (.tmp 0)), rO 21 (.fieldAddr 42 (.tmp 3) 2), rO 22 (.load 40 (.tmp 21)), rO 23 (.move (.tmp 5)), rO 24 (.indexAddr 40 (.tmp 22) (.tmp 23)), rO 25 (.load 42 (.tmp 24)), rO 26 (.call ⟨.value (.func 102), #[.tmp 20, .tmp 25], #[23, 42]⟩), rO 0 (.assign (.tmp 26))])) (.region [rO 18 (.move (.tmp 5)), rO 19 (.binOp .add 3 (.tmp 18) (.const (.int .i64 1)) 3), rO 5 (.assign (.tmp 19))])))
theorem code102 : bodyOf Tryz.prog 102 = (some ((.seq (.region [rO 3 (.box 42 (.tmp 1)), rO 4 (.assign (.const (.slice none 0 0)))]) (.seq (.seq (.region [rO 6 (.fieldAddr 42 (.tmp 3) 1), rO 7 (.load 9 (.tmp 6)), rO 8 (.binOp .eql 9 (.tmp 7) (.const (.string (ByteArray.mk #[]))) 9)]) (.cond (.tmp 8) (.region [rO 9 (.move (.tmp 0)), rO 10 (.fieldAddr 42 (.tmp 3) 0), rO 11 (.load 3 (.tmp 10)), rO 12 (.call ⟨.value (.func 104), #[.tmp 9, .tmp 11], #[23, 3]⟩), rO 0 (.assign (.tmp 12))]) .skip)) (.seq (.seq (.region [rO 5 (.assign (.const (.int .i64 0)))]) (.block 0 (.loop [true, false, false, true, true, true, false, false, false, false, false, false, false, false, false, false, false, false, false, false, false, false, false, false, false, false, false, true] false b102_0))) (.seq (.region [rO 27 (.move (.tmp 0)), rO 4 (.assign (.tmp 27))]) .ret)))), (28, [.tmp 4])) : Option (ACode × Nat × List ResultVar)) := by kernel_rfl
theorem code103 : bodyOf Tryz.prog 103 = (some ((.seq (.region [rO 3 (.box 25 (.tmp 0)), rO 6 (.assign (.const (.bool false)))]) (.seq (.seq (.region [rO 9 (.move (.tmp 1)), rO 10 (.move (.tmp 2)), rO 11 (.binOp .eql 9 (.tmp 9) (.tmp 10) 9), rO 12 (.move (.tmp 11)), ⟨some 13, .move (.tmp 1), (some (12, false)), false⟩, ⟨some 14, .binOp .eql 9 (.tmp 13) (.const (.string (ByteArray.mk #[36, 116, 114, 117, 101]))) 9, (some (12, false)), false⟩, rO 15 (.pick (.tmp 12) (.const (.bool true)) (.tmp 14))]) (.cond (.tmp 15) (.seq (.region [rO 6 (.assign (.const (.bool false)))]) .ret) .skip)) (.seq (.seq (.region [rO 16 (.move (.tmp 2)), rO 17 (.binOp .eql 9 (.tmp 16) (.const (.string (ByteArray.mk #[36, 116, 114, 117, 101]))) 9)]) (.cond (.tmp 17) (.seq (.region [rO 6 (.assign (.const (.bool true)))]) .ret) .skip)) (.seq (.dregion [rO 18 (.load 25 (.tmp 3)), rO 19 (.move (.tmp 1)), rO 20 (.call ⟨.value (.func 39), #[.tmp 18, .tmp 19], #[25, 9]⟩), rO 21 (.load 25 (.tmp 3)), rO 22 (.move (.tmp 2)), ⟨some 23, .call ⟨.value (.func 39), #[.tmp 21, .tmp 22], #[25, 9]⟩, none, true⟩, rO 7 (.assign (.tmp 20)), rO 8 (.assign (.tmp 23))]) (.seq (.seq (.region [rO 24 (.move (.tmp 7)), rO 25 (.binOp .lss 3 (.tmp 24) (.const (.int .i64 0)) 3), rO 26 (.move (.tmp 25)), ⟨some 27, .move (.tmp 8), (some (26, true)), false⟩, ⟨some 28, .binOp .lss 3 (.tmp 27) (.const (.int .i64 0)) 3, (some (26, true)), false⟩, rO 29 (.pick (.tmp 26) (.tmp 28) (.const (.bool false)))]) (.cond (.tmp 29) (.seq (.region [rO 30 (.move (.tmp 1)), rO 31 (.move (.tmp 2)), rO 32 (.binOp .gtr 9 (.tmp 30) (.tmp 31) 9), rO 6 (.assign (.tmp 32))]) .ret) .skip)) (.seq (.region [rO 33 (.move (.tmp 7)), rO 34 (.move (.tmp 8)), rO 35 (.binOp .gtr 3 (.tmp 33) (.tmp 34) 3), rO 6 (.assign (.tmp 35))]) .ret)))))), (36, [.tmp 6])) : Option (ACode × Nat × List ResultVar)) := by kernel_rfl
def b104_0 : ACode := (.seq (.seq (.region [rO 8 (.move (.tmp 7)), rO 9 (.move (.tmp 0)), rO 10 (.call ⟨.builtin .len, #[.tmp 9], #[23]⟩), rO 11 (.binOp .lss 3 (.tmp 8) (.tmp 10) 3)]) (.cond (.tmp 11) .skip (.exit 0))) (.seq (.block 1 (.seq (.seq (.region [rO 14 (.move (.tmp 6)), rO 15 (.unOp .not 4 (.tmp 14)), rO 16 (.move (.tmp 15)), ⟨some 17, .move (.tmp 0), (some (16, true)), false⟩, ⟨some 18, .move (.tmp 7), (some (16, true)), false⟩, ⟨some 19, .indexAddr 23 (.tmp 17) (.tmp 18), (some (16, true)), false⟩, ⟨some 20, .load 3 (.tmp 19), (some (16, true)), false⟩, ⟨some 21, .move (.tmp 1), (some (16, true)), false⟩, ⟨some 22, .binOp .geq 3 (.tmp 20) (.tmp 21) 3, (some (16, true)), false⟩, rO 23 (.pick (.tmp 16) (.tmp 22) (.const (.bool false)))]) (.cond (.tmp 23) (.seq (.region [rO 24 (.move (.tmp 5)), rO 25 (.move (.tmp 1)), rO 26 (.buildSlice 23 1 #[(0, .tmp 25)]), rO 27 (.call ⟨.builtin .append, #[.tmp 24, .tmp 26], #[23, 23]⟩), rO 5 (.assign (.tmp 27))]) (.region [rO 6 (.assign (.const (.bool true)))])) .skip)) (.seq (.region [rO 28 (.move (.tmp 0)), rO 29 (.move (.tmp 7)), rO 30 (.indexAddr 23 (.tmp 28) (.tmp 29)), rO 31 (.load 3 (.tmp 30)), rO 32 (.move (.tmp 1)), rO 33 (.binOp .neq 3 (.tmp 31) (.tmp 32) 3)]) (.cond (.tmp 33) (.region [rO 34 (.move (.tmp 5)), rO 35 (.move (.tmp 0)), rO 36 (.move (.tmp 7)), rO 37 (.indexAddr 23 (.tmp 35) (.tmp 36)), rO 38 (.load 3 (.tmp 37)), rO 39 (.buildSlice 23 1 #[(0, .tmp 38)]), rO 40 (.call ⟨.builtin .append, #[.tmp 34, .tmp 39], #[23, 23]⟩), rO 5 (.assign (.tmp 40))]) .skip)))) (.region [rO 12 (.move (.tmp 7)), rO 13 (.binOp .add 3 (.tmp 12) (.const (.int .i64 1)) 3), rO 7 (.assign (.tmp 13))])))
theorem code104 : bodyOf Tryz.prog 104 = (some ((.seq (.region [rO 4 (.assign (.const (.slice none 0 0)))]) (.seq (.region [rO 5 (.assign (.const (.slice none 0 0)))]) (.seq (.region [rO 6 (.assign (.const (.bool false)))]) (.seq (.seq (.region [rO 7 (.assign (.const (.int .i64 0)))]) (.block 0 (.loop [true, true, false, false, true, true, true, true, false, false, false, false, false, false, false, false, false, false, false, false, false, false, false, false, false, false, false, false, false, false, false, false, false, false, false, false, false, false, false, false, false, true, true, true, true, true, true, true] false b104_0))) (.seq (.seq (.region [rO 41 (.move (.tmp 6)), rO 42 (.unOp .not 4 (.tmp 41))]) (.cond (.tmp 42) (.region [rO 43 (.move (.tmp 5)), rO 44 (.move (.tmp 1)), rO 45 (.buildSlice 23 1 #[(0, .tmp 44)]), rO 46 (.call ⟨.builtin .append, #[.tmp 43, .tmp 45], #[23, 23]⟩), rO 5 (.assign (.tmp 46))]) .skip)) (.seq (.region [rO 47 (.move (.tmp 5)), rO 4 (.assign (.tmp 47))]) .ret)))))), (48, [.tmp 4])) : Option (ACode × Nat × List ResultVar)) := by kernel_rfl
@[simp] theorem ts3 : tsize Tryz.prog 3 = some 1 := by kernel_rfl
@[simp] theorem ta3 : tagg Tryz.prog 3 = some false := by kernel_rfl
@[simp] theorem tk3 : tkind Tryz.prog 3 = 6 := by kernel_rfl
@[simp] theorem ti3 : tint Tryz.prog 3 = some IntKind.i64 := by kernel_rfl
@[simp] theorem tb3 : tbytes Tryz.prog 3 = some true := by kernel_rfl
@[simp] theorem th3 : tshape Tryz.prog 3 = some (false, [(KK.int IntKind.i64)]) := by kernel_rfl
@[simp] theorem tg3 : tguard Tryz.prog 3 = false := by kernel_rfl
@[simp] theorem tz3 : zeroCells Tryz.prog 3 = some [(AV.d (D.int IntKind.i64 0))] := by kernel_rfl
@[simp] theorem tv3 : zeroAV Tryz.prog 3 = some (AV.d (D.int IntKind.i64 0)) := by kernel_rfl
@[simp] theorem tr3 : tarr Tryz.prog 3 = none := by kernel_rfl
@[simp] theorem ts4 : tsize Tryz.prog 4 = some 1 := by kernel_rfl
@[simp] theorem ta4 : tagg Tryz.prog 4 = some false := by kernel_rfl
@[simp] theorem tk4 : tkind Tryz.prog 4 = 1 := by kernel_rfl
@[simp] theorem tb4 : tbytes Tryz.prog 4 = some true := by kernel_rfl
@[simp] theorem th4 : tshape Tryz.prog 4 = some (false, [KK.bool]) := by kernel_rfl
@[simp] theorem tg4 : tguard Tryz.prog 4 = false := by kernel_rfl
@[simp] theorem tz4 : zeroCells Tryz.prog 4 = some [(AV.d (D.bool false))] := by kernel_rfl
@[simp] theorem tv4 : zeroAV Tryz.prog 4 = some (AV.d (D.bool false)) := by kernel_rfl
@[simp] theorem tr4 : tarr Tryz.prog 4 = none := by kernel_rfl
@[simp] theorem ts9 : tsize Tryz.prog 9 = some 1 := by kernel_rfl
@[simp] theorem ta9 : tagg Tryz.prog 9 = some false := by kernel_rfl
@[simp] theorem tk9 : tkind Tryz.prog 9 = 7 := by kernel_rfl
@[simp] theorem tb9 : tbytes Tryz.prog 9 = some true := by kernel_rfl
@[simp] theorem th9 : tshape Tryz.prog 9 = some (false, [KK.str]) := by kernel_rfl
@[simp] theorem tg9 : tguard Tryz.prog 9 = false := by kernel_rfl
@[simp] theorem tz9 : zeroCells Tryz.prog 9 = some [(AV.d (D.str (ByteArray.mk #[])))] := by kernel_rfl
@[simp] theorem tv9 : zeroAV Tryz.prog 9 = some (AV.d (D.str (ByteArray.mk #[]))) := by kernel_rfl
@[simp] theorem tr9 : tarr Tryz.prog 9 = none := by kernel_rfl
@[simp] theorem ts22 : tsize Tryz.prog 22 = some 1 := by kernel_rfl
@[simp] theorem ta22 : tagg Tryz.prog 22 = some false := by kernel_rfl
@[simp] theorem te22 : telem Tryz.prog 22 = some 9 := by kernel_rfl
@[simp] theorem tk22 : tkind Tryz.prog 22 = 3 := by kernel_rfl
@[simp] theorem tb22 : tbytes Tryz.prog 22 = some true := by kernel_rfl
@[simp] theorem tg22 : tguard Tryz.prog 22 = false := by kernel_rfl
@[simp] theorem tz22 : zeroCells Tryz.prog 22 = some [(AV.d (D.sl [] 0 true (some true)))] := by kernel_rfl
@[simp] theorem tv22 : zeroAV Tryz.prog 22 = some (AV.d (D.sl [] 0 true (some true))) := by kernel_rfl
@[simp] theorem tr22 : tarr Tryz.prog 22 = none := by kernel_rfl
@[simp] theorem ts23 : tsize Tryz.prog 23 = some 1 := by kernel_rfl
@[simp] theorem ta23 : tagg Tryz.prog 23 = some false := by kernel_rfl
@[simp] theorem te23 : telem Tryz.prog 23 = some 3 := by kernel_rfl
@[simp] theorem tk23 : tkind Tryz.prog 23 = 3 := by kernel_rfl
@[simp] theorem tb23 : tbytes Tryz.prog 23 = some true := by kernel_rfl
@[simp] theorem tg23 : tguard Tryz.prog 23 = false := by kernel_rfl
@[simp] theorem tz23 : zeroCells Tryz.prog 23 = some [(AV.d (D.sl [] 0 true (some true)))] := by kernel_rfl
@[simp] theorem tv23 : zeroAV Tryz.prog 23 = some (AV.d (D.sl [] 0 true (some true))) := by kernel_rfl
@[simp] theorem tr23 : tarr Tryz.prog 23 = none := by kernel_rfl
@[simp] theorem ts25 : tsize Tryz.prog 25 = some 2 := by kernel_rfl
@[simp] theorem ta25 : tagg Tryz.prog 25 = some true := by kernel_rfl
@[simp] theorem tk25 : tkind Tryz.prog 25 = 0 := by kernel_rfl
@[simp] theorem tp25 : tplaces Tryz.prog 25 = some [(0, 1), (1, 1)] := by kernel_rfl
@[simp] theorem tb25 : tbytes Tryz.prog 25 = some true := by kernel_rfl
@[simp] theorem tg25 : tguard Tryz.prog 25 = false := by kernel_rfl
@[simp] theorem tf25_0 : tfield Tryz.prog 25 0 = some (0, 22) := by kernel_rfl
@[simp] theorem tf25_1 : tfield Tryz.prog 25 1 = some (1, 23) := by kernel_rfl
@[simp] theorem tz25 : zeroCells Tryz.prog 25 = some [(AV.d (D.sl [] 0 true (some true))), (AV.d (D.sl [] 0 true (some true)))] := by kernel_rfl
@[simp] theorem tv25 : zeroAV Tryz.prog 25 = some (AV.d (D.agg [(D.sl [] 0 true (some true)), (D.sl [] 0 true (some true))])) := by kernel_rfl
@[simp] theorem tr25 : tarr Tryz.prog 25 = none := by kernel_rfl
@[simp] theorem ts27 : tsize Tryz.prog 27 = some 3 := by kernel_rfl
@[simp] theorem ta27 : tagg Tryz.prog 27 = some true := by kernel_rfl
@[simp] theorem tk27 : tkind Tryz.prog 27 = 0 := by kernel_rfl
@[simp] theorem tp27 : tplaces Tryz.prog 27 = some [(0, 1), (1, 2)] := by kernel_rfl
@[simp] theorem tb27 : tbytes Tryz.prog 27 = some true := by kernel_rfl
@[simp] theorem tg27 : tguard Tryz.prog 27 = false := by kernel_rfl
@[simp] theorem tf27_0 : tfield Tryz.prog 27 0 = some (0, 4) := by kernel_rfl
@[simp] theorem tf27_1 : tfield Tryz.prog 27 1 = some (1, 25) := by kernel_rfl
@[simp] theorem tz27 : zeroCells Tryz.prog 27 = some [(AV.d (D.bool false)), (AV.d (D.sl [] 0 true (some true))), (AV.d (D.sl [] 0 true (some true)))] := by kernel_rfl
@[simp] theorem tv27 : zeroAV Tryz.prog 27 = some (AV.d (D.agg [(D.bool false), (D.sl [] 0 true (some true)), (D.sl [] 0 true (some true))])) := by kernel_rfl
@[simp] theorem tr27 : tarr Tryz.prog 27 = none := by kernel_rfl
@[simp] theorem ts28 : tsize Tryz.prog 28 = some 1 := by kernel_rfl
@[simp] theorem ta28 : tagg Tryz.prog 28 = some false := by kernel_rfl
@[simp] theorem te28 : telem Tryz.prog 28 = some 45 := by kernel_rfl
@[simp] theorem tk28 : tkind Tryz.prog 28 = 3 := by kernel_rfl
@[simp] theorem tb28 : tbytes Tryz.prog 28 = some true := by kernel_rfl
@[simp] theorem tg28 : tguard Tryz.prog 28 = false := by kernel_rfl
@[simp] theorem tz28 : zeroCells Tryz.prog 28 = some [(AV.d (D.sl [] 0 true (some true)))] := by kernel_rfl
@[simp] theorem tv28 : zeroAV Tryz.prog 28 = some (AV.d (D.sl [] 0 true (some true))) := by kernel_rfl
@[simp] theorem tr28 : tarr Tryz.prog 28 = none := by kernel_rfl
@[simp] theorem ts29 : tsize Tryz.prog 29 = some 1 := by kernel_rfl
@[simp] theorem ta29 : tagg Tryz.prog 29 = some false := by kernel_rfl
@[simp] theorem te29 : telem Tryz.prog 29 = some 45 := by kernel_rfl
@[simp] theorem tk29 : tkind Tryz.prog 29 = 3 := by kernel_rfl
@[simp] theorem tb29 : tbytes Tryz.prog 29 = some true := by kernel_rfl
@[simp] theorem tg29 : tguard Tryz.prog 29 = false := by kernel_rfl
@[simp] theorem tz29 : zeroCells Tryz.prog 29 = some [(AV.d (D.sl [] 0 true (some true)))] := by kernel_rfl
@[simp] theorem tv29 : zeroAV Tryz.prog 29 = some (AV.d (D.sl [] 0 true (some true))) := by kernel_rfl
@[simp] theorem tr29 : tarr Tryz.prog 29 = none := by kernel_rfl
@[simp] theorem ts31 : tsize Tryz.prog 31 = some 1 := by kernel_rfl
@[simp] theorem ta31 : tagg Tryz.prog 31 = some false := by kernel_rfl
@[simp] theorem te31 : telem Tryz.prog 31 = some 29 := by kernel_rfl
@[simp] theorem tk31 : tkind Tryz.prog 31 = 3 := by kernel_rfl
@[simp] theorem tb31 : tbytes Tryz.prog 31 = some true := by kernel_rfl
@[simp] theorem tg31 : tguard Tryz.prog 31 = false := by kernel_rfl
@[simp] theorem tz31 : zeroCells Tryz.prog 31 = some [(AV.d (D.sl [] 0 true (some true)))] := by kernel_rfl
@[simp] theorem tv31 : zeroAV Tryz.prog 31 = some (AV.d (D.sl [] 0 true (some true))) := by kernel_rfl
@[simp] theorem tr31 : tarr Tryz.prog 31 = none := by kernel_rfl
@[simp] theorem ts33 : tsize Tryz.prog 33 = some 2 := by kernel_rfl
@[simp] theorem ta33 : tagg Tryz.prog 33 = some true := by kernel_rfl
@[simp] theorem tk33 : tkind Tryz.prog 33 = 0 := by kernel_rfl
@[simp] theorem tp33 : tplaces Tryz.prog 33 = some [(0, 1), (1, 1)] := by kernel_rfl
@[simp] theorem tb33 : tbytes Tryz.prog 33 = some true := by kernel_rfl
@[simp] theorem tg33 : tguard Tryz.prog 33 = false := by kernel_rfl
@[simp] theorem tf33_0 : tfield Tryz.prog 33 0 = some (0, 22) := by kernel_rfl
@[simp] theorem tf33_1 : tfield Tryz.prog 33 1 = some (1, 23) := by kernel_rfl
@[simp] theorem tz33 : zeroCells Tryz.prog 33 = some [(AV.d (D.sl [] 0 true (some true))), (AV.d (D.sl [] 0 true (some true)))] := by kernel_rfl
@[simp] theorem tv33 : zeroAV Tryz.prog 33 = some (AV.d (D.agg [(D.sl [] 0 true (some true)), (D.sl [] 0 true (some true))])) := by kernel_rfl
@[simp] theorem tr33 : tarr Tryz.prog 33 = none := by kernel_rfl
@[simp] theorem ts35 : tsize Tryz.prog 35 = some 3 := by kernel_rfl
@[simp] theorem ta35 : tagg Tryz.prog 35 = some true := by kernel_rfl
@[simp] theorem tk35 : tkind Tryz.prog 35 = 0 := by kernel_rfl
@[simp] theorem tp35 : tplaces Tryz.prog 35 = some [(0, 1), (1, 2)] := by kernel_rfl
@[simp] theorem tb35 : tbytes Tryz.prog 35 = some true := by kernel_rfl
@[simp] theorem tg35 : tguard Tryz.prog 35 = false := by kernel_rfl
@[simp] theorem tf35_0 : tfield Tryz.prog 35 0 = some (0, 4) := by kernel_rfl
@[simp] theorem tf35_1 : tfield Tryz.prog 35 1 = some (1, 33) := by kernel_rfl
@[simp] theorem tz35 : zeroCells Tryz.prog 35 = some [(AV.d (D.bool false)), (AV.d (D.sl [] 0 true (some true))), (AV.d (D.sl [] 0 true (some true)))] := by kernel_rfl
@[simp] theorem tv35 : zeroAV Tryz.prog 35 = some (AV.d (D.agg [(D.bool false), (D.sl [] 0 true (some true)), (D.sl [] 0 true (some true))])) := by kernel_rfl
@[simp] theorem tr35 : tarr Tryz.prog 35 = none := by kernel_rfl
@[simp] theorem ts40 : tsize Tryz.prog 40 = some 1 := by kernel_rfl
@[simp] theorem ta40 : tagg Tryz.prog 40 = some false := by kernel_rfl
@[simp] theorem te40 : telem Tryz.prog 40 = some 42 := by kernel_rfl
@[simp] theorem tk40 : tkind Tryz.prog 40 = 3 := by kernel_rfl
@[simp] theorem tb40 : tbytes Tryz.prog 40 = some true := by kernel_rfl
@[simp] theorem tg40 : tguard Tryz.prog 40 = false := by kernel_rfl
@[simp] theorem tz40 : zeroCells Tryz.prog 40 = some [(AV.d (D.sl [] 0 true (some true)))] := by kernel_rfl
@[simp] theorem tv40 : zeroAV Tryz.prog 40 = some (AV.d (D.sl [] 0 true (some true))) := by kernel_rfl
@[simp] theorem tr40 : tarr Tryz.prog 40 = none := by kernel_rfl
@[simp] theorem ts42 : tsize Tryz.prog 42 = some 3 := by kernel_rfl
@[simp] theorem ta42 : tagg Tryz.prog 42 = some true := by kernel_rfl
@[simp] theorem tk42 : tkind Tryz.prog 42 = 0 := by kernel_rfl
@[simp] theorem tp42 : tplaces Tryz.prog 42 = some [(0, 1), (1, 1), (2, 1)] := by kernel_rfl
@[simp] theorem tb42 : tbytes Tryz.prog 42 = some true := by kernel_rfl
@[simp] theorem tg42 : tguard Tryz.prog 42 = false := by kernel_rfl
@[simp] theorem tf42_0 : tfield Tryz.prog 42 0 = some (0, 3) := by kernel_rfl
@[simp] theorem tf42_1 : tfield Tryz.prog 42 1 = some (1, 9) := by kernel_rfl
@[simp] theorem tf42_2 : tfield Tryz.prog 42 2 = some (2, 40) := by kernel_rfl
@[simp] theorem tz42 : zeroCells Tryz.prog 42 = some [(AV.d (D.int IntKind.i64 0)), (AV.d (D.str (ByteArray.mk #[]))), (AV.d (D.sl [] 0 true (some true)))] := by kernel_rfl
@[simp] theorem tv42 : zeroAV Tryz.prog 42 = some (AV.d (D.agg [(D.int IntKind.i64 0), (D.str (ByteArray.mk #[])), (D.sl [] 0 true (some true))])) := by kernel_rfl
@[simp] theorem tr42 : tarr Tryz.prog 42 = none := by kernel_rfl
@[simp] theorem ts43 : tsize Tryz.prog 43 = some 1 := by kernel_rfl
@[simp] theorem ta43 : tagg Tryz.prog 43 = some false := by kernel_rfl
@[simp] theorem tk43 : tkind Tryz.prog 43 = 5 := by kernel_rfl
@[simp] theorem tb43 : tbytes Tryz.prog 43 = some true := by kernel_rfl
@[simp] theorem tg43 : tguard Tryz.prog 43 = false := by kernel_rfl
@[simp] theorem tz43 : zeroCells Tryz.prog 43 = some [(AV.d D.nilfn)] := by kernel_rfl
@[simp] theorem tv43 : zeroAV Tryz.prog 43 = some (AV.d D.nilfn) := by kernel_rfl
@[simp] theorem tr43 : tarr Tryz.prog 43 = none := by kernel_rfl
@[simp] theorem ts45 : tsize Tryz.prog 45 = some 7 := by kernel_rfl
@[simp] theorem ta45 : tagg Tryz.prog 45 = some true := by kernel_rfl
@[simp] theorem tk45 : tkind Tryz.prog 45 = 0 := by kernel_rfl
@[simp] theorem tp45 : tplaces Tryz.prog 45 = some [(0, 1), (1, 3), (4, 3)] := by kernel_rfl
@[simp] theorem tb45 : tbytes Tryz.prog 45 = some true := by kernel_rfl
@[simp] theorem tg45 : tguard Tryz.prog 45 = false := by kernel_rfl
@[simp] theorem tf45_0 : tfield Tryz.prog 45 0 = some (0, 4) := by kernel_rfl
@[simp] theorem tf45_1 : tfield Tryz.prog 45 1 = some (1, 42) := by kernel_rfl
@[simp] theorem tf45_2 : tfield Tryz.prog 45 2 = some (4, 42) := by kernel_rfl
@[simp] theorem tz45 : zeroCells Tryz.prog 45 = some [(AV.d (D.bool false)), (AV.d (D.int IntKind.i64 0)), (AV.d (D.str (ByteArray.mk #[]))), (AV.d (D.sl [] 0 true (some true))), (AV.d (D.int IntKind.i64 0)), (AV.d (D.str (ByteArray.mk #[]))), (AV.d (D.sl [] 0 true (some true)))] := by kernel_rfl
@[simp] theorem tv45 : zeroAV Tryz.prog 45 = some (AV.d (D.agg [(D.bool false), (D.int IntKind.i64 0), (D.str (ByteArray.mk #[])), (D.sl [] 0 true (some true)), (D.int IntKind.i64 0), (D.str (ByteArray.mk #[])), (D.sl [] 0 true (some true))])) := by kernel_rfl
@[simp] theorem tr45 : tarr Tryz.prog 45 = none := by kernel_rfl
@[simp] theorem ts47 : tsize Tryz.prog 47 = some 1 := by kernel_rfl
@[simp] theorem ta47 : tagg Tryz.prog 47 = some false := by kernel_rfl
@[simp] theorem tk47 : tkind Tryz.prog 47 = 5 := by kernel_rfl
@[simp] theorem tb47 : tbytes Tryz.prog 47 = some true := by kernel_rfl
@[simp] theorem tg47 : tguard Tryz.prog 47 = false := by kernel_rfl
@[simp] theorem tz47 : zeroCells Tryz.prog 47 = some [(AV.d D.nilfn)] := by kernel_rfl
@[simp] theorem tv47 : zeroAV Tryz.prog 47 = some (AV.d D.nilfn) := by kernel_rfl
@[simp] theorem tr47 : tarr Tryz.prog 47 = none := by kernel_rfl
@[simp] theorem ts51 : tsize Tryz.prog 51 = some 1 := by kernel_rfl
@[simp] theorem ta51 : tagg Tryz.prog 51 = some false := by kernel_rfl
@[simp] theorem tk51 : tkind Tryz.prog 51 = 5 := by kernel_rfl
@[simp] theorem tb51 : tbytes Tryz.prog 51 = some true := by kernel_rfl
@[simp] theorem tg51 : tguard Tryz.prog 51 = false := by kernel_rfl
@[simp] theorem tz51 : zeroCells Tryz.prog 51 = some [(AV.d D.nilfn)] := by kernel_rfl
@[simp] theorem tv51 : zeroAV Tryz.prog 51 = some (AV.d D.nilfn) := by kernel_rfl
@[simp] theorem tr51 : tarr Tryz.prog 51 = none := by kernel_rfl
@[simp] theorem ts52 : tsize Tryz.prog 52 = some 1 := by kernel_rfl
@[simp] theorem ta52 : tagg Tryz.prog 52 = some false := by kernel_rfl
@[simp] theorem tk52 : tkind Tryz.prog 52 = 5 := by kernel_rfl
@[simp] theorem tb52 : tbytes Tryz.prog 52 = some true := by kernel_rfl
@[simp] theorem tg52 : tguard Tryz.prog 52 = false := by kernel_rfl
@[simp] theorem tz52 : zeroCells Tryz.prog 52 = some [(AV.d D.nilfn)] := by kernel_rfl
@[simp] theorem tv52 : zeroAV Tryz.prog 52 = some (AV.d D.nilfn) := by kernel_rfl
@[simp] theorem tr52 : tarr Tryz.prog 52 = none := by kernel_rfl
@[simp] theorem ts56 : tsize Tryz.prog 56 = some 1 := by kernel_rfl
@[simp] theorem ta56 : tagg Tryz.prog 56 = some false := by kernel_rfl
@[simp] theorem tk56 : tkind Tryz.prog 56 = 6 := by kernel_rfl
@[simp] theorem ti56 : tint Tryz.prog 56 = some IntKind.i64 := by kernel_rfl
@[simp] theorem tb56 : tbytes Tryz.prog 56 = some true := by kernel_rfl
@[simp] theorem th56 : tshape Tryz.prog 56 = some (false, [(KK.int IntKind.i64)]) := by kernel_rfl
@[simp] theorem tg56 : tguard Tryz.prog 56 = false := by kernel_rfl
@[simp] theorem tz56 : zeroCells Tryz.prog 56 = some [(AV.d (D.int IntKind.i64 0))] := by kernel_rfl
@[simp] theorem tv56 : zeroAV Tryz.prog 56 = some (AV.d (D.int IntKind.i64 0)) := by kernel_rfl
@[simp] theorem tr56 : tarr Tryz.prog 56 = none := by kernel_rfl
@[simp] theorem ts61 : tsize Tryz.prog 61 = some 1 := by kernel_rfl
@[simp] theorem ta61 : tagg Tryz.prog 61 = some false := by kernel_rfl
@[simp] theorem tk61 : tkind Tryz.prog 61 = 5 := by kernel_rfl
@[simp] theorem tb61 : tbytes Tryz.prog 61 = some true := by kernel_rfl
@[simp] theorem tg61 : tguard Tryz.prog 61 = false := by kernel_rfl
@[simp] theorem tz61 : zeroCells Tryz.prog 61 = some [(AV.d D.nilfn)] := by kernel_rfl
@[simp] theorem tv61 : zeroAV Tryz.prog 61 = some (AV.d D.nilfn) := by kernel_rfl
@[simp] theorem tr61 : tarr Tryz.prog 61 = none := by kernel_rfl
@[simp] theorem ts63 : tsize Tryz.prog 63 = some 1 := by kernel_rfl
@[simp] theorem ta63 : tagg Tryz.prog 63 = some false := by kernel_rfl
@[simp] theorem tk63 : tkind Tryz.prog 63 = 5 := by kernel_rfl
@[simp] theorem tb63 : tbytes Tryz.prog 63 = some true := by kernel_rfl
@[simp] theorem tg63 : tguard Tryz.prog 63 = false := by kernel_rfl
@[simp] theorem tz63 : zeroCells Tryz.prog 63 = some [(AV.d D.nilfn)] := by kernel_rfl
@[simp] theorem tv63 : zeroAV Tryz.prog 63 = some (AV.d D.nilfn) := by kernel_rfl
@[simp] theorem tr63 : tarr Tryz.prog 63 = none := by kernel_rfl
@[simp] theorem ts71 : tsize Tryz.prog 71 = some 1 := by kernel_rfl
@[simp] theorem ta71 : tagg Tryz.prog 71 = some false := by kernel_rfl
@[simp] theorem te71 : telem Tryz.prog 71 = some 4 := by kernel_rfl
@[simp] theorem tk71 : tkind Tryz.prog 71 = 3 := by kernel_rfl
@[simp] theorem tb71 : tbytes Tryz.prog 71 = some true := by kernel_rfl
@[simp] theorem tg71 : tguard Tryz.prog 71 = false := by kernel_rfl
@[simp] theorem tz71 : zeroCells Tryz.prog 71 = some [(AV.d (D.sl [] 0 true (some true)))] := by kernel_rfl
@[simp] theorem tv71 : zeroAV Tryz.prog 71 = some (AV.d (D.sl [] 0 true (some true))) := by kernel_rfl
@[simp] theorem tr71 : tarr Tryz.prog 71 = none := by kernel_rfl
@[simp] theorem ts72 : tsize Tryz.prog 72 = some 1 := by kernel_rfl
@[simp] theorem ta72 : tagg Tryz.prog 72 = some false := by kernel_rfl
@[simp] theorem tk72 : tkind Tryz.prog 72 = 5 := by kernel_rfl
@[simp] theorem tb72 : tbytes Tryz.prog 72 = some true := by kernel_rfl
@[simp] theorem tg72 : tguard Tryz.prog 72 = false := by kernel_rfl
@[simp] theorem tz72 : zeroCells Tryz.prog 72 = some [(AV.d D.nilfn)] := by kernel_rfl
@[simp] theorem tv72 : zeroAV Tryz.prog 72 = some (AV.d D.nilfn) := by kernel_rfl
@[simp] theorem tr72 : tarr Tryz.prog 72 = none := by kernel_rfl
@[simp] theorem ts90 : tsize Tryz.prog 90 = some 1 := by kernel_rfl
@[simp] theorem ta90 : tagg Tryz.prog 90 = some false := by kernel_rfl
@[simp] theorem te90 : telem Tryz.prog 90 = some 96 := by kernel_rfl
@[simp] theorem tk90 : tkind Tryz.prog 90 = 3 := by kernel_rfl
@[simp] theorem tb90 : tbytes Tryz.prog 90 = some true := by kernel_rfl
@[simp] theorem tg90 : tguard Tryz.prog 90 = false := by kernel_rfl
@[simp] theorem tz90 : zeroCells Tryz.prog 90 = some [(AV.d (D.sl [] 0 true (some true)))] := by kernel_rfl
@[simp] theorem tv90 : zeroAV Tryz.prog 90 = some (AV.d (D.sl [] 0 true (some true))) := by kernel_rfl
@[simp] theorem tr90 : tarr Tryz.prog 90 = none := by kernel_rfl
@[simp] theorem ts93 : tsize Tryz.prog 93 = some 1 := by kernel_rfl
@[simp] theorem ta93 : tagg Tryz.prog 93 = some false := by kernel_rfl
@[simp] theorem tk93 : tkind Tryz.prog 93 = 4 := by kernel_rfl
@[simp] theorem tb93 : tbytes Tryz.prog 93 = some true := by kernel_rfl
@[simp] theorem tm93 : tmap Tryz.prog 93 = some (100, 3) := by kernel_rfl
@[simp] theorem tg93 : tguard Tryz.prog 93 = false := by kernel_rfl
@[simp] theorem tz93 : zeroCells Tryz.prog 93 = some [(AV.d D.nilmap)] := by kernel_rfl
@[simp] theorem tv93 : zeroAV Tryz.prog 93 = some (AV.d D.nilmap) := by kernel_rfl
@[simp] theorem tr93 : tarr Tryz.prog 93 = none := by kernel_rfl
@[simp] theorem ts94 : tsize Tryz.prog 94 = some 1 := by kernel_rfl
@[simp] theorem ta94 : tagg Tryz.prog 94 = some false := by kernel_rfl
@[simp] theorem tk94 : tkind Tryz.prog 94 = 5 := by kernel_rfl
@[simp] theorem tb94 : tbytes Tryz.prog 94 = some true := by kernel_rfl
@[simp] theorem tg94 : tguard Tryz.prog 94 = false := by kernel_rfl
@[simp] theorem tz94 : zeroCells Tryz.prog 94 = some [(AV.d D.nilfn)] := by kernel_rfl
@[simp] theorem tv94 : zeroAV Tryz.prog 94 = some (AV.d D.nilfn) := by kernel_rfl
@[simp] theorem tr94 : tarr Tryz.prog 94 = none := by kernel_rfl
@[simp] theorem ts96 : tsize Tryz.prog 96 = some 4 := by kernel_rfl
@[simp] theorem ta96 : tagg Tryz.prog 96 = some true := by kernel_rfl
@[simp] theorem tk96 : tkind Tryz.prog 96 = 0 := by kernel_rfl
@[simp] theorem tp96 : tplaces Tryz.prog 96 = some [(0, 3), (3, 1)] := by kernel_rfl
@[simp] theorem tb96 : tbytes Tryz.prog 96 = some true := by kernel_rfl
@[simp] theorem tg96 : tguard Tryz.prog 96 = false := by kernel_rfl
@[simp] theorem tf96_0 : tfield Tryz.prog 96 0 = some (0, 42) := by kernel_rfl
@[simp] theorem tf96_1 : tfield Tryz.prog 96 1 = some (3, 23) := by kernel_rfl
@[simp] theorem tz96 : zeroCells Tryz.prog 96 = some [(AV.d (D.int IntKind.i64 0)), (AV.d (D.str (ByteArray.mk #[]))), (AV.d (D.sl [] 0 true (some true))), (AV.d (D.sl [] 0 true (some true)))] := by kernel_rfl
@[simp] theorem tv96 : zeroAV Tryz.prog 96 = some (AV.d (D.agg [(D.int IntKind.i64 0), (D.str (ByteArray.mk #[])), (D.sl [] 0 true (some true)), (D.sl [] 0 true (some true))])) := by kernel_rfl
@[simp] theorem tr96 : tarr Tryz.prog 96 = none := by kernel_rfl
@[simp] theorem ts97 : tsize Tryz.prog 97 = some 1 := by kernel_rfl
@[simp] theorem ta97 : tagg Tryz.prog 97 = some false := by kernel_rfl
@[simp] theorem tk97 : tkind Tryz.prog 97 = 5 := by kernel_rfl
@[simp] theorem tb97 : tbytes Tryz.prog 97 = some true := by kernel_rfl
@[simp] theorem tg97 : tguard Tryz.prog 97 = false := by kernel_rfl
@[simp] theorem tz97 : zeroCells Tryz.prog 97 = some [(AV.d D.nilfn)] := by kernel_rfl
@[simp] theorem tv97 : zeroAV Tryz.prog 97 = some (AV.d D.nilfn) := by kernel_rfl
@[simp] theorem tr97 : tarr Tryz.prog 97 = none := by kernel_rfl
@[simp] theorem ts100 : tsize Tryz.prog 100 = some 2 := by kernel_rfl
@[simp] theorem ta100 : tagg Tryz.prog 100 = some true := by kernel_rfl
@[simp] theorem tk100 : tkind Tryz.prog 100 = 0 := by kernel_rfl
@[simp] theorem tp100 : tplaces Tryz.prog 100 = some [(0, 1), (1, 1)] := by kernel_rfl
@[simp] theorem tb100 : tbytes Tryz.prog 100 = some true := by kernel_rfl
@[simp] theorem th100 : tshape Tryz.prog 100 = some (true, [(KK.int IntKind.i64), (KK.int IntKind.i64)]) := by kernel_rfl
@[simp] theorem tg100 : tguard Tryz.prog 100 = false := by kernel_rfl
@[simp] theorem tf100_0 : tfield Tryz.prog 100 0 = some (0, 3) := by kernel_rfl
@[simp] theorem tf100_1 : tfield Tryz.prog 100 1 = some (1, 3) := by kernel_rfl
@[simp] theorem tz100 : zeroCells Tryz.prog 100 = some [(AV.d (D.int IntKind.i64 0)), (AV.d (D.int IntKind.i64 0))] := by kernel_rfl
@[simp] theorem tv100 : zeroAV Tryz.prog 100 = some (AV.d (D.agg [(D.int IntKind.i64 0), (D.int IntKind.i64 0)])) := by kernel_rfl
@[simp] theorem tr100 : tarr Tryz.prog 100 = none := by kernel_rfl
@[simp] theorem ts101 : tsize Tryz.prog 101 = some 1 := by kernel_rfl
@[simp] theorem ta101 : tagg Tryz.prog 101 = some false := by kernel_rfl
@[simp] theorem tk101 : tkind Tryz.prog 101 = 4 := by kernel_rfl
@[simp] theorem tb101 : tbytes Tryz.prog 101 = some true := by kernel_rfl
@[simp] theorem tm101 : tmap Tryz.prog 101 = some (3, 3) := by kernel_rfl
@[simp] theorem tg101 : tguard Tryz.prog 101 = false := by kernel_rfl
@[simp] theorem tz101 : zeroCells Tryz.prog 101 = some [(AV.d D.nilmap)] := by kernel_rfl
@[simp] theorem tv101 : zeroAV Tryz.prog 101 = some (AV.d D.nilmap) := by kernel_rfl
@[simp] theorem tr101 : tarr Tryz.prog 101 = none := by kernel_rfl
@[simp] theorem ts108 : tsize Tryz.prog 108 = some 1 := by kernel_rfl
@[simp] theorem ta108 : tagg Tryz.prog 108 = some false := by kernel_rfl
@[simp] theorem tk108 : tkind Tryz.prog 108 = 2 := by kernel_rfl
@[simp] theorem tb108 : tbytes Tryz.prog 108 = some true := by kernel_rfl
@[simp] theorem tg108 : tguard Tryz.prog 108 = false := by kernel_rfl
@[simp] theorem tz108 : zeroCells Tryz.prog 108 = some [(AV.d D.nilptr)] := by kernel_rfl
@[simp] theorem tv108 : zeroAV Tryz.prog 108 = some (AV.d D.nilptr) := by kernel_rfl
@[simp] theorem tr108 : tarr Tryz.prog 108 = none := by kernel_rfl
@[simp] theorem ts109 : tsize Tryz.prog 109 = some 1 := by kernel_rfl
@[simp] theorem ta109 : tagg Tryz.prog 109 = some false := by kernel_rfl
@[simp] theorem te109 : telem Tryz.prog 109 = some 23 := by kernel_rfl
@[simp] theorem tk109 : tkind Tryz.prog 109 = 3 := by kernel_rfl
@[simp] theorem tb109 : tbytes Tryz.prog 109 = some true := by kernel_rfl
@[simp] theorem tg109 : tguard Tryz.prog 109 = false := by kernel_rfl
@[simp] theorem tz109 : zeroCells Tryz.prog 109 = some [(AV.d (D.sl [] 0 true (some true)))] := by kernel_rfl
@[simp] theorem tv109 : zeroAV Tryz.prog 109 = some (AV.d (D.sl [] 0 true (some true))) := by kernel_rfl
@[simp] theorem tr109 : tarr Tryz.prog 109 = none := by kernel_rfl
@[simp] theorem ts111 : tsize Tryz.prog 111 = some 2 := by kernel_rfl
@[simp] theorem ta111 : tagg Tryz.prog 111 = some true := by kernel_rfl
@[simp] theorem tk111 : tkind Tryz.prog 111 = 0 := by kernel_rfl
@[simp] theorem tp111 : tplaces Tryz.prog 111 = some [(0, 1), (1, 1)] := by kernel_rfl
@[simp] theorem tb111 : tbytes Tryz.prog 111 = some true := by kernel_rfl
@[simp] theorem tg111 : tguard Tryz.prog 111 = false := by kernel_rfl
@[simp] theorem tf111_0 : tfield Tryz.prog 111 0 = some (0, 40) := by kernel_rfl
@[simp] theorem tf111_1 : tfield Tryz.prog 111 1 = some (1, 109) := by kernel_rfl
@[simp] theorem tz111 : zeroCells Tryz.prog 111 = some [(AV.d (D.sl [] 0 true (some true))), (AV.d (D.sl [] 0 true (some true)))] := by kernel_rfl
@[simp] theorem tv111 : zeroAV Tryz.prog 111 = some (AV.d (D.agg [(D.sl [] 0 true (some true)), (D.sl [] 0 true (some true))])) := by kernel_rfl
@[simp] theorem tr111 : tarr Tryz.prog 111 = none := by kernel_rfl
@[simp] theorem ts112 : tsize Tryz.prog 112 = some 1 := by kernel_rfl
@[simp] theorem ta112 : tagg Tryz.prog 112 = some false := by kernel_rfl
@[simp] theorem te112 : telem Tryz.prog 112 = some 71 := by kernel_rfl
@[simp] theorem tk112 : tkind Tryz.prog 112 = 3 := by kernel_rfl
@[simp] theorem tb112 : tbytes Tryz.prog 112 = some true := by kernel_rfl
@[simp] theorem tg112 : tguard Tryz.prog 112 = false := by kernel_rfl
@[simp] theorem tz112 : zeroCells Tryz.prog 112 = some [(AV.d (D.sl [] 0 true (some true)))] := by kernel_rfl
@[simp] theorem tv112 : zeroAV Tryz.prog 112 = some (AV.d (D.sl [] 0 true (some true))) := by kernel_rfl
@[simp] theorem tr112 : tarr Tryz.prog 112 = none := by kernel_rfl
end Go.Proofs.YtajilkmepjhkdaaGreat.Am

/-
 The code of this seat, all texts. No condition.
-/

