/-
  The code of this seat's functions as the abstract machine reads it, and its types: written by gencode.py, each held by the kernel. No condition.
-/
import Derived.Test.YtiafeijkifpfaaaAm2
import Derived.Test.YtiafeijkifpfaaaProg
namespace Go.Proofs.Ytiafeijkifpfaaa.Am
open Go Go.Proofs
set_option maxRecDepth 100000

theorem code10 : bodyOf Try.prog 10 = some ((ACode.region [⟨some 4, Op.assign (Operand.const (Value.bool false)), none, false⟩]).seq ((ACode.region [⟨some 5, Op.move (Operand.tmp 0), none, false⟩, ⟨some 6, Op.move (Operand.tmp 1), none, false⟩, ⟨some 7, Op.call { callee := Callee.value (Operand.func 37), args := [Operand.tmp 5, Operand.tmp 6].toArray, argTypes := [55, 55].toArray }, none, false⟩, ⟨some 8, Op.move (Operand.tmp 0), none, false⟩, ⟨some 9, Op.move (Operand.tmp 1), none, false⟩, ⟨some 10, Op.call { callee := Callee.value (Operand.func 38), args := [Operand.tmp 8, Operand.tmp 9].toArray, argTypes := [55, 55].toArray }, none, false⟩, ⟨some 11, Op.binOp BinOp.eql 4 (Operand.tmp 7) (Operand.tmp 10) 4, none, false⟩, ⟨some 12, Op.move (Operand.tmp 11), none, false⟩, ⟨some 13, Op.call { callee := Callee.value (Operand.func 29), args := [].toArray, argTypes := [].toArray }, some (12, true), false⟩, ⟨some 14, Op.pick (Operand.tmp 12) (Operand.tmp 13) (Operand.const (Value.bool false)), none, false⟩, ⟨some 4, Op.assign (Operand.tmp 14), none, false⟩]).seq ACode.ret), 15, [ResultVar.tmp 4]) := by kernel_rfl
def b22_0 : ACode := ((ACode.region [⟨some 27, Op.move (Operand.tmp 5), none, false⟩, ⟨some 28, Op.fieldAddr 32 (Operand.tmp 2) 2, none, false⟩, ⟨some 29, Op.load 30 (Operand.tmp 28), none, false⟩, ⟨some 30, Op.call { callee := Callee.builtin Builtin.len, args := [Operand.tmp 29].toArray, argTypes := [30].toArray }, none, false⟩, ⟨some 31, Op.binOp BinOp.lss 3 (Operand.tmp 27) (Operand.tmp 30) 3, none, false⟩]).seq (ACode.cond (Operand.tmp 31) ACode.skip (ACode.exit 0))).seq ((ACode.block 1 ((ACode.dregion [⟨some 34, Op.fieldAddr 32 (Operand.tmp 2) 2, none, false⟩, ⟨some 35, Op.load 30 (Operand.tmp 34), none, false⟩, ⟨some 36, Op.move (Operand.tmp 5), none, false⟩, ⟨some 37, Op.indexAddr 30 (Operand.tmp 35) (Operand.tmp 36), none, false⟩, ⟨some 38, Op.load 32 (Operand.tmp 37), none, false⟩, ⟨some 39, Op.fieldAddr 32 (Operand.tmp 3) 2, none, false⟩, ⟨some 40, Op.load 30 (Operand.tmp 39), none, false⟩, ⟨some 41, Op.move (Operand.tmp 5), none, false⟩, ⟨some 42, Op.indexAddr 30 (Operand.tmp 40) (Operand.tmp 41), none, false⟩, ⟨some 43, Op.load 32 (Operand.tmp 42), none, false⟩, ⟨some 44, Op.call { callee := Callee.value (Operand.func 22), args := [Operand.tmp 38, Operand.tmp 43].toArray, argTypes := [32, 32].toArray }, none, true⟩, ⟨some 45, Op.unOp UnOp.not 4 (Operand.tmp 44), none, false⟩]).seq (ACode.cond (Operand.tmp 45) ((ACode.region [⟨some 4, Op.assign (Operand.const (Value.bool false)), none, false⟩]).seq ACode.ret) ACode.skip))).seq (ACode.region [⟨some 32, Op.move (Operand.tmp 5), none, false⟩, ⟨some 33, Op.binOp BinOp.add 3 (Operand.tmp 32) (Operand.const (Value.int IntKind.i64 1)) 3, none, false⟩, ⟨some 5, Op.assign (Operand.tmp 33), none, false⟩]))
theorem code22 : bodyOf Try.prog 22 = some ((ACode.region [⟨some 2, Op.box 32 (Operand.tmp 0), none, false⟩, ⟨some 3, Op.box 32 (Operand.tmp 1), none, false⟩, ⟨some 4, Op.assign (Operand.const (Value.bool false)), none, false⟩]).seq (((ACode.region [⟨some 6, Op.fieldAddr 32 (Operand.tmp 2) 0, none, false⟩, ⟨some 7, Op.load 3 (Operand.tmp 6), none, false⟩, ⟨some 8, Op.fieldAddr 32 (Operand.tmp 3) 0, none, false⟩, ⟨some 9, Op.load 3 (Operand.tmp 8), none, false⟩, ⟨some 10, Op.binOp BinOp.neq 3 (Operand.tmp 7) (Operand.tmp 9) 3, none, false⟩, ⟨some 11, Op.move (Operand.tmp 10), none, false⟩, ⟨some 12, Op.fieldAddr 32 (Operand.tmp 2) 1, some (11, false), false⟩, ⟨some 13, Op.load 9 (Operand.tmp 12), some (11, false), false⟩, ⟨some 14, Op.fieldAddr 32 (Operand.tmp 3) 1, some (11, false), false⟩, ⟨some 15, Op.load 9 (Operand.tmp 14), some (11, false), false⟩, ⟨some 16, Op.binOp BinOp.neq 9 (Operand.tmp 13) (Operand.tmp 15) 9, some (11, false), false⟩, ⟨some 17, Op.pick (Operand.tmp 11) (Operand.const (Value.bool true)) (Operand.tmp 16), none, false⟩, ⟨some 18, Op.move (Operand.tmp 17), none, false⟩, ⟨some 19, Op.fieldAddr 32 (Operand.tmp 2) 2, some (18, false), false⟩, ⟨some 20, Op.load 30 (Operand.tmp 19), some (18, false), false⟩, ⟨some 21, Op.call { callee := Callee.builtin Builtin.len, args := [Operand.tmp 20].toArray, argTypes := [30].toArray }, some (18, false), false⟩, ⟨some 22, Op.fieldAddr 32 (Operand.tmp 3) 2, some (18, false), false⟩, ⟨some 23, Op.load 30 (Operand.tmp 22), some (18, false), false⟩, ⟨some 24, Op.call { callee := Callee.builtin Builtin.len, args := [Operand.tmp 23].toArray, argTypes := [30].toArray }, some (18, false), false⟩, ⟨some 25, Op.binOp BinOp.neq 3 (Operand.tmp 21) (Operand.tmp 24) 3, some (18, false), false⟩, ⟨some 26, Op.pick (Operand.tmp 18) (Operand.const (Value.bool true)) (Operand.tmp 25), none, false⟩]).seq (ACode.cond (Operand.tmp 26) ((ACode.region [⟨some 4, Op.assign (Operand.const (Value.bool false)), none, false⟩]).seq ACode.ret) ACode.skip)).seq (((ACode.region [⟨some 5, Op.assign (Operand.const (Value.int IntKind.i64 0)), none, false⟩]).seq (ACode.block 0 (ACode.loop b22_0))).seq ((ACode.region [⟨some 4, Op.assign (Operand.const (Value.bool true)), none, false⟩]).seq ACode.ret))), 46, [ResultVar.tmp 4]) := by kernel_rfl
theorem code24 : bodyOf Try.prog 24 = some ((ACode.region [⟨some 2, Op.box 32 (Operand.tmp 0), none, false⟩, ⟨some 3, Op.box 32 (Operand.tmp 1), none, false⟩, ⟨some 4, Op.assign (Operand.const (Value.bool false)), none, false⟩]).seq ((ACode.region [⟨some 5, Op.fieldAddr 32 (Operand.tmp 2) 0, none, false⟩, ⟨some 6, Op.load 3 (Operand.tmp 5), none, false⟩, ⟨some 7, Op.fieldAddr 32 (Operand.tmp 3) 0, none, false⟩, ⟨some 8, Op.load 3 (Operand.tmp 7), none, false⟩, ⟨some 9, Op.binOp BinOp.eql 3 (Operand.tmp 6) (Operand.tmp 8) 3, none, false⟩, ⟨some 10, Op.move (Operand.tmp 9), none, false⟩, ⟨some 11, Op.fieldAddr 32 (Operand.tmp 2) 1, some (10, true), false⟩, ⟨some 12, Op.load 9 (Operand.tmp 11), some (10, true), false⟩, ⟨some 13, Op.fieldAddr 32 (Operand.tmp 3) 1, some (10, true), false⟩, ⟨some 14, Op.load 9 (Operand.tmp 13), some (10, true), false⟩, ⟨some 15, Op.binOp BinOp.eql 9 (Operand.tmp 12) (Operand.tmp 14) 9, some (10, true), false⟩, ⟨some 16, Op.pick (Operand.tmp 10) (Operand.tmp 15) (Operand.const (Value.bool false)), none, false⟩, ⟨some 17, Op.move (Operand.tmp 16), none, false⟩, ⟨some 18, Op.fieldAddr 32 (Operand.tmp 2) 2, some (17, true), false⟩, ⟨some 19, Op.load 30 (Operand.tmp 18), some (17, true), false⟩, ⟨some 20, Op.fieldAddr 32 (Operand.tmp 3) 2, some (17, true), false⟩, ⟨some 21, Op.load 30 (Operand.tmp 20), some (17, true), false⟩, ⟨some 22, Op.call { callee := Callee.value (Operand.func 55), args := [Operand.tmp 19, Operand.tmp 21, Operand.func 24].toArray, argTypes := [30, 30, 44].toArray }, some (17, true), false⟩, ⟨some 23, Op.pick (Operand.tmp 17) (Operand.tmp 22) (Operand.const (Value.bool false)), none, false⟩, ⟨some 4, Op.assign (Operand.tmp 23), none, false⟩]).seq ACode.ret), 24, [ResultVar.tmp 4]) := by kernel_rfl
theorem code25 : bodyOf Try.prog 25 = some ((ACode.region [⟨some 1, Op.box 32 (Operand.tmp 0), none, false⟩, ⟨some 2, Op.assign (Operand.const (Value.int IntKind.i64 0)), none, false⟩]).seq (((ACode.region [⟨some 3, Op.load 32 (Operand.tmp 1), none, false⟩, ⟨some 4, Op.call { callee := Callee.value (Operand.func 56), args := [Operand.tmp 3].toArray, argTypes := [32].toArray }, none, false⟩, ⟨some 5, Op.unOp UnOp.not 4 (Operand.tmp 4), none, false⟩]).seq (ACode.cond (Operand.tmp 5) ((ACode.region [⟨some 2, Op.assign (Operand.const (Value.int IntKind.i64 1)), none, false⟩]).seq ACode.ret) ACode.skip)).seq (((ACode.region [⟨some 6, Op.load 32 (Operand.tmp 1), none, false⟩, ⟨some 7, Op.call { callee := Callee.value (Operand.func 46), args := [Operand.tmp 6].toArray, argTypes := [32].toArray }, none, false⟩, ⟨some 8, Op.binOp BinOp.gtr 3 (Operand.tmp 7) (Operand.const (Value.int IntKind.i64 60)) 3, none, false⟩]).seq (ACode.cond (Operand.tmp 8) ((ACode.region [⟨some 2, Op.assign (Operand.const (Value.int IntKind.i64 22)), none, false⟩]).seq ACode.ret) ACode.skip)).seq (((ACode.region [⟨some 9, Op.load 32 (Operand.tmp 1), none, false⟩, ⟨some 10, Op.call { callee := Callee.value (Operand.func 45), args := [Operand.tmp 9].toArray, argTypes := [32].toArray }, none, false⟩, ⟨some 11, Op.binOp BinOp.gtr 3 (Operand.tmp 10) (Operand.const (Value.int IntKind.i64 4000)) 3, none, false⟩]).seq (ACode.cond (Operand.tmp 11) ((ACode.region [⟨some 2, Op.assign (Operand.const (Value.int IntKind.i64 3)), none, false⟩]).seq ACode.ret) ACode.skip)).seq ((ACode.region [⟨some 2, Op.assign (Operand.const (Value.int IntKind.i64 0)), none, false⟩]).seq ACode.ret)))), 12, [ResultVar.tmp 2]) := by kernel_rfl
def b32_0 : ACode := (ACode.region [⟨some 9, Op.binOp BinOp.lss 3 (Operand.tmp 8) (Operand.tmp 7) 3, none, false⟩]).seq ((ACode.cond (Operand.tmp 9) ACode.skip (ACode.exit 0)).seq ((ACode.block 1 ((ACode.region [⟨some 10, Op.indexAddr 55 (Operand.tmp 6) (Operand.tmp 8), none, false⟩, ⟨some 11, Op.load 61 (Operand.tmp 10), none, false⟩, ⟨some 5, Op.alloc 61, none, false⟩, ⟨none, Op.store 61 (Operand.tmp 5) (Operand.tmp 11), none, false⟩]).seq (((ACode.region [⟨some 12, Op.fieldAddr 61 (Operand.tmp 5) 0, none, false⟩, ⟨some 13, Op.load 3 (Operand.tmp 12), none, false⟩, ⟨some 14, Op.move (Operand.tmp 3), none, false⟩, ⟨some 15, Op.binOp BinOp.leq 3 (Operand.tmp 13) (Operand.tmp 14) 3, none, false⟩, ⟨some 16, Op.move (Operand.tmp 15), none, false⟩, ⟨some 17, Op.fieldAddr 61 (Operand.tmp 5) 0, some (16, false), false⟩, ⟨some 18, Op.load 3 (Operand.tmp 17), some (16, false), false⟩, ⟨some 19, Op.binOp BinOp.geq 3 (Operand.tmp 18) (Operand.const (Value.int IntKind.i64 1000000)) 3, some (16, false), false⟩, ⟨some 20, Op.pick (Operand.tmp 16) (Operand.const (Value.bool true)) (Operand.tmp 19), none, false⟩, ⟨some 21, Op.move (Operand.tmp 20), none, false⟩, ⟨some 22, Op.load 61 (Operand.tmp 5), some (21, false), false⟩, ⟨some 23, Op.call { callee := Callee.value (Operand.func 63), args := [Operand.tmp 22].toArray, argTypes := [61].toArray }, some (21, false), false⟩, ⟨some 24, Op.pick (Operand.tmp 21) (Operand.const (Value.bool true)) (Operand.tmp 23), none, false⟩, ⟨some 25, Op.move (Operand.tmp 24), none, false⟩, ⟨some 26, Op.fieldAddr 61 (Operand.tmp 5) 1, some (25, false), false⟩, ⟨some 27, Op.load 32 (Operand.tmp 26), some (25, false), false⟩, ⟨some 28, Op.call { callee := Callee.value (Operand.func 47), args := [Operand.tmp 27].toArray, argTypes := [32].toArray }, some (25, false), false⟩, ⟨some 29, Op.binOp BinOp.neq 24 (Operand.tmp 28) (Operand.const (Value.int IntKind.i64 0)) 24, some (25, false), false⟩, ⟨some 30, Op.pick (Operand.tmp 25) (Operand.const (Value.bool true)) (Operand.tmp 29), none, false⟩, ⟨some 31, Op.move (Operand.tmp 30), none, false⟩, ⟨some 32, Op.move (Operand.tmp 0), some (31, false), false⟩, ⟨some 33, Op.call { callee := Callee.builtin Builtin.len, args := [Operand.tmp 32].toArray, argTypes := [55].toArray }, some (31, false), false⟩, ⟨some 34, Op.binOp BinOp.gtr 3 (Operand.tmp 33) (Operand.const (Value.int IntKind.i64 4000)) 3, some (31, false), false⟩, ⟨some 35, Op.pick (Operand.tmp 31) (Operand.const (Value.bool true)) (Operand.tmp 34), none, false⟩]).seq (ACode.cond (Operand.tmp 35) ((ACode.region [⟨some 2, Op.assign (Operand.const (Value.int IntKind.i64 1)), none, false⟩]).seq ACode.ret) ACode.skip)).seq (ACode.region [⟨some 36, Op.fieldAddr 61 (Operand.tmp 5) 0, none, false⟩, ⟨some 37, Op.load 3 (Operand.tmp 36), none, false⟩, ⟨some 3, Op.assign (Operand.tmp 37), none, false⟩])))).seq (ACode.region [⟨some 38, Op.binOp BinOp.add 3 (Operand.tmp 8) (Operand.const (Value.int IntKind.i64 1)) 3, none, false⟩, ⟨some 8, Op.move (Operand.tmp 38), none, false⟩])))
theorem code32 : bodyOf Try.prog 32 = some ((ACode.region [⟨some 2, Op.assign (Operand.const (Value.int IntKind.i64 0)), none, false⟩]).seq ((ACode.region [⟨some 3, Op.assign (Operand.const (Value.int IntKind.i64 (-1))), none, false⟩]).seq (((ACode.region [⟨some 6, Op.move (Operand.tmp 0), none, false⟩, ⟨some 7, Op.call { callee := Callee.builtin Builtin.len, args := [Operand.tmp 6].toArray, argTypes := [55].toArray }, none, false⟩, ⟨some 8, Op.move (Operand.const (Value.int IntKind.i64 0)), none, false⟩]).seq (ACode.block 0 (ACode.loop b32_0))).seq ((ACode.region [⟨some 2, Op.assign (Operand.const (Value.int IntKind.i64 0)), none, false⟩]).seq ACode.ret))), 39, [ResultVar.tmp 2]) := by kernel_rfl
def b33_0 : ACode := ((ACode.region [⟨some 7, Op.move (Operand.tmp 3), none, false⟩, ⟨some 8, Op.move (Operand.tmp 0), none, false⟩, ⟨some 9, Op.call { callee := Callee.builtin Builtin.len, args := [Operand.tmp 8].toArray, argTypes := [55].toArray }, none, false⟩, ⟨some 10, Op.binOp BinOp.lss 3 (Operand.tmp 7) (Operand.tmp 9) 3, none, false⟩]).seq (ACode.cond (Operand.tmp 10) ACode.skip (ACode.exit 0))).seq ((ACode.block 1 ((ACode.dregion [⟨some 13, Op.move (Operand.tmp 0), none, false⟩, ⟨some 14, Op.move (Operand.tmp 3), none, false⟩, ⟨some 15, Op.indexAddr 55 (Operand.tmp 13) (Operand.tmp 14), none, false⟩, ⟨some 16, Op.fieldAddr 61 (Operand.tmp 15) 0, none, false⟩, ⟨some 17, Op.load 3 (Operand.tmp 16), none, false⟩, ⟨some 18, Op.binOp BinOp.lss 3 (Operand.tmp 17) (Operand.const (Value.int IntKind.i64 0)) 3, none, false⟩, ⟨some 19, Op.move (Operand.tmp 18), none, false⟩, ⟨some 20, Op.move (Operand.tmp 0), some (19, false), false⟩, ⟨some 21, Op.move (Operand.tmp 3), some (19, false), false⟩, ⟨some 22, Op.indexAddr 55 (Operand.tmp 20) (Operand.tmp 21), some (19, false), false⟩, ⟨some 23, Op.fieldAddr 61 (Operand.tmp 22) 0, some (19, false), false⟩, ⟨some 24, Op.load 3 (Operand.tmp 23), some (19, false), false⟩, ⟨some 25, Op.binOp BinOp.geq 3 (Operand.tmp 24) (Operand.const (Value.int IntKind.i64 1000000)) 3, some (19, false), false⟩, ⟨some 26, Op.pick (Operand.tmp 19) (Operand.const (Value.bool true)) (Operand.tmp 25), none, false⟩, ⟨some 27, Op.move (Operand.tmp 26), none, false⟩, ⟨some 28, Op.move (Operand.tmp 3), some (27, false), false⟩, ⟨some 29, Op.binOp BinOp.gtr 3 (Operand.tmp 28) (Operand.const (Value.int IntKind.i64 0)) 3, some (27, false), false⟩, ⟨some 30, Op.move (Operand.tmp 29), some (27, false), false⟩, ⟨some 31, Op.move (Operand.tmp 0), some (30, true), false⟩, ⟨some 32, Op.move (Operand.tmp 3), some (30, true), false⟩, ⟨some 33, Op.binOp BinOp.sub 3 (Operand.tmp 32) (Operand.const (Value.int IntKind.i64 1)) 3, some (30, true), false⟩, ⟨some 34, Op.indexAddr 55 (Operand.tmp 31) (Operand.tmp 33), some (30, true), false⟩, ⟨some 35, Op.fieldAddr 61 (Operand.tmp 34) 0, some (30, true), false⟩, ⟨some 36, Op.load 3 (Operand.tmp 35), some (30, true), false⟩, ⟨some 37, Op.move (Operand.tmp 0), some (30, true), false⟩, ⟨some 38, Op.move (Operand.tmp 3), some (30, true), false⟩, ⟨some 39, Op.indexAddr 55 (Operand.tmp 37) (Operand.tmp 38), some (30, true), false⟩, ⟨some 40, Op.fieldAddr 61 (Operand.tmp 39) 0, some (30, true), false⟩, ⟨some 41, Op.load 3 (Operand.tmp 40), some (30, true), false⟩, ⟨some 42, Op.binOp BinOp.geq 3 (Operand.tmp 36) (Operand.tmp 41) 3, some (30, true), false⟩, ⟨some 43, Op.pick (Operand.tmp 30) (Operand.tmp 42) (Operand.const (Value.bool false)), some (27, false), false⟩, ⟨some 44, Op.pick (Operand.tmp 27) (Operand.const (Value.bool true)) (Operand.tmp 43), none, false⟩, ⟨some 45, Op.move (Operand.tmp 44), none, false⟩, ⟨some 46, Op.move (Operand.tmp 0), some (45, false), false⟩, ⟨some 47, Op.move (Operand.tmp 3), some (45, false), false⟩, ⟨some 48, Op.indexAddr 55 (Operand.tmp 46) (Operand.tmp 47), some (45, false), false⟩, ⟨some 49, Op.fieldAddr 61 (Operand.tmp 48) 1, some (45, false), false⟩, ⟨some 50, Op.load 32 (Operand.tmp 49), some (45, false), false⟩, ⟨some 51, Op.call { callee := Callee.value (Operand.func 25), args := [Operand.tmp 50].toArray, argTypes := [32].toArray }, some (45, false), true⟩, ⟨some 52, Op.binOp BinOp.neq 24 (Operand.tmp 51) (Operand.const (Value.int IntKind.i64 0)) 24, some (45, false), false⟩, ⟨some 53, Op.pick (Operand.tmp 45) (Operand.const (Value.bool true)) (Operand.tmp 52), none, false⟩, ⟨some 54, Op.move (Operand.tmp 53), none, false⟩, ⟨some 55, Op.move (Operand.tmp 0), some (54, false), false⟩, ⟨some 56, Op.move (Operand.tmp 3), some (54, false), false⟩, ⟨some 57, Op.indexAddr 55 (Operand.tmp 55) (Operand.tmp 56), some (54, false), false⟩, ⟨some 58, Op.fieldAddr 61 (Operand.tmp 57) 1, some (54, false), false⟩, ⟨some 59, Op.fieldAddr 32 (Operand.tmp 58) 1, some (54, false), false⟩, ⟨some 60, Op.load 9 (Operand.tmp 59), some (54, false), false⟩, ⟨some 61, Op.binOp BinOp.eql 9 (Operand.tmp 60) (Operand.const (Value.string { data := [].toArray })) 9, some (54, false), false⟩, ⟨some 62, Op.move (Operand.tmp 61), some (54, false), false⟩, ⟨some 63, Op.move (Operand.tmp 0), some (62, true), false⟩, ⟨some 64, Op.move (Operand.tmp 3), some (62, true), false⟩, ⟨some 65, Op.indexAddr 55 (Operand.tmp 63) (Operand.tmp 64), some (62, true), false⟩, ⟨some 66, Op.fieldAddr 61 (Operand.tmp 65) 1, some (62, true), false⟩, ⟨some 67, Op.fieldAddr 32 (Operand.tmp 66) 0, some (62, true), false⟩, ⟨some 68, Op.load 3 (Operand.tmp 67), some (62, true), false⟩, ⟨some 69, Op.move (Operand.tmp 0), some (62, true), false⟩, ⟨some 70, Op.move (Operand.tmp 3), some (62, true), false⟩, ⟨some 71, Op.indexAddr 55 (Operand.tmp 69) (Operand.tmp 70), some (62, true), false⟩, ⟨some 72, Op.fieldAddr 61 (Operand.tmp 71) 0, some (62, true), false⟩, ⟨some 73, Op.load 3 (Operand.tmp 72), some (62, true), false⟩, ⟨some 74, Op.binOp BinOp.eql 3 (Operand.tmp 68) (Operand.tmp 73) 3, some (62, true), false⟩, ⟨some 75, Op.pick (Operand.tmp 62) (Operand.tmp 74) (Operand.const (Value.bool false)), some (54, false), false⟩, ⟨some 76, Op.pick (Operand.tmp 54) (Operand.const (Value.bool true)) (Operand.tmp 75), none, false⟩]).seq (ACode.cond (Operand.tmp 76) ((ACode.region [⟨some 2, Op.assign (Operand.const (Value.bool false)), none, false⟩]).seq ACode.ret) ACode.skip))).seq (ACode.region [⟨some 11, Op.move (Operand.tmp 3), none, false⟩, ⟨some 12, Op.binOp BinOp.add 3 (Operand.tmp 11) (Operand.const (Value.int IntKind.i64 1)) 3, none, false⟩, ⟨some 3, Op.assign (Operand.tmp 12), none, false⟩]))
theorem code33 : bodyOf Try.prog 33 = some ((ACode.region [⟨some 2, Op.assign (Operand.const (Value.bool false)), none, false⟩]).seq (((ACode.region [⟨some 4, Op.move (Operand.tmp 0), none, false⟩, ⟨some 5, Op.call { callee := Callee.builtin Builtin.len, args := [Operand.tmp 4].toArray, argTypes := [55].toArray }, none, false⟩, ⟨some 6, Op.binOp BinOp.gtr 3 (Operand.tmp 5) (Operand.const (Value.int IntKind.i64 4000)) 3, none, false⟩]).seq (ACode.cond (Operand.tmp 6) ((ACode.region [⟨some 2, Op.assign (Operand.const (Value.bool false)), none, false⟩]).seq ACode.ret) ACode.skip)).seq (((ACode.region [⟨some 3, Op.assign (Operand.const (Value.int IntKind.i64 0)), none, false⟩]).seq (ACode.block 0 (ACode.loop b33_0))).seq ((ACode.region [⟨some 2, Op.assign (Operand.const (Value.bool true)), none, false⟩]).seq ACode.ret))), 77, [ResultVar.tmp 2]) := by kernel_rfl
theorem code37 : bodyOf Try.prog 37 = some ((ACode.region [⟨some 4, Op.assign (Operand.const (Value.bool false)), none, false⟩]).seq ((ACode.region [⟨some 5, Op.move (Operand.tmp 0), none, false⟩, ⟨some 6, Op.call { callee := Callee.value (Operand.func 32), args := [Operand.tmp 5].toArray, argTypes := [55].toArray }, none, false⟩, ⟨some 7, Op.binOp BinOp.eql 24 (Operand.tmp 6) (Operand.const (Value.int IntKind.i64 0)) 24, none, false⟩, ⟨some 8, Op.move (Operand.tmp 7), none, false⟩, ⟨some 9, Op.move (Operand.tmp 1), some (8, true), false⟩, ⟨some 10, Op.call { callee := Callee.value (Operand.func 32), args := [Operand.tmp 9].toArray, argTypes := [55].toArray }, some (8, true), false⟩, ⟨some 11, Op.binOp BinOp.eql 24 (Operand.tmp 10) (Operand.const (Value.int IntKind.i64 0)) 24, some (8, true), false⟩, ⟨some 12, Op.pick (Operand.tmp 8) (Operand.tmp 11) (Operand.const (Value.bool false)), none, false⟩, ⟨some 13, Op.move (Operand.tmp 12), none, false⟩, ⟨some 14, Op.move (Operand.tmp 0), some (13, true), false⟩, ⟨some 15, Op.move (Operand.tmp 1), some (13, true), false⟩, ⟨some 16, Op.call { callee := Callee.value (Operand.func 69), args := [Operand.tmp 14, Operand.tmp 15, Operand.func 70].toArray, argTypes := [55, 55, 101].toArray }, some (13, true), false⟩, ⟨some 17, Op.pick (Operand.tmp 13) (Operand.tmp 16) (Operand.const (Value.bool false)), none, false⟩, ⟨some 4, Op.assign (Operand.tmp 17), none, false⟩]).seq ACode.ret), 18, [ResultVar.tmp 4]) := by kernel_rfl
def b38_0 : ACode := ((ACode.region [⟨some 21, Op.move (Operand.tmp 5), none, false⟩, ⟨some 22, Op.move (Operand.tmp 0), none, false⟩, ⟨some 23, Op.call { callee := Callee.builtin Builtin.len, args := [Operand.tmp 22].toArray, argTypes := [55].toArray }, none, false⟩, ⟨some 24, Op.binOp BinOp.lss 3 (Operand.tmp 21) (Operand.tmp 23) 3, none, false⟩]).seq (ACode.cond (Operand.tmp 24) ACode.skip (ACode.exit 0))).seq ((ACode.block 1 ((ACode.dregion [⟨some 27, Op.move (Operand.tmp 0), none, false⟩, ⟨some 28, Op.move (Operand.tmp 5), none, false⟩, ⟨some 29, Op.indexAddr 55 (Operand.tmp 27) (Operand.tmp 28), none, false⟩, ⟨some 30, Op.fieldAddr 61 (Operand.tmp 29) 0, none, false⟩, ⟨some 31, Op.load 3 (Operand.tmp 30), none, false⟩, ⟨some 32, Op.move (Operand.tmp 1), none, false⟩, ⟨some 33, Op.move (Operand.tmp 5), none, false⟩, ⟨some 34, Op.indexAddr 55 (Operand.tmp 32) (Operand.tmp 33), none, false⟩, ⟨some 35, Op.fieldAddr 61 (Operand.tmp 34) 0, none, false⟩, ⟨some 36, Op.load 3 (Operand.tmp 35), none, false⟩, ⟨some 37, Op.binOp BinOp.neq 3 (Operand.tmp 31) (Operand.tmp 36) 3, none, false⟩, ⟨some 38, Op.move (Operand.tmp 37), none, false⟩, ⟨some 39, Op.move (Operand.tmp 0), some (38, false), false⟩, ⟨some 40, Op.move (Operand.tmp 5), some (38, false), false⟩, ⟨some 41, Op.indexAddr 55 (Operand.tmp 39) (Operand.tmp 40), some (38, false), false⟩, ⟨some 42, Op.fieldAddr 61 (Operand.tmp 41) 1, some (38, false), false⟩, ⟨some 43, Op.load 32 (Operand.tmp 42), some (38, false), false⟩, ⟨some 44, Op.move (Operand.tmp 1), some (38, false), false⟩, ⟨some 45, Op.move (Operand.tmp 5), some (38, false), false⟩, ⟨some 46, Op.indexAddr 55 (Operand.tmp 44) (Operand.tmp 45), some (38, false), false⟩, ⟨some 47, Op.fieldAddr 61 (Operand.tmp 46) 1, some (38, false), false⟩, ⟨some 48, Op.load 32 (Operand.tmp 47), some (38, false), false⟩, ⟨some 49, Op.call { callee := Callee.value (Operand.func 22), args := [Operand.tmp 43, Operand.tmp 48].toArray, argTypes := [32, 32].toArray }, some (38, false), true⟩, ⟨some 50, Op.unOp UnOp.not 4 (Operand.tmp 49), some (38, false), false⟩, ⟨some 51, Op.pick (Operand.tmp 38) (Operand.const (Value.bool true)) (Operand.tmp 50), none, false⟩]).seq (ACode.cond (Operand.tmp 51) ((ACode.region [⟨some 4, Op.assign (Operand.const (Value.bool false)), none, false⟩]).seq ACode.ret) ACode.skip))).seq (ACode.region [⟨some 25, Op.move (Operand.tmp 5), none, false⟩, ⟨some 26, Op.binOp BinOp.add 3 (Operand.tmp 25) (Operand.const (Value.int IntKind.i64 1)) 3, none, false⟩, ⟨some 5, Op.assign (Operand.tmp 26), none, false⟩]))
theorem code38 : bodyOf Try.prog 38 = some ((ACode.region [⟨some 4, Op.assign (Operand.const (Value.bool false)), none, false⟩]).seq (((ACode.region [⟨some 6, Op.move (Operand.tmp 0), none, false⟩, ⟨some 7, Op.call { callee := Callee.value (Operand.func 33), args := [Operand.tmp 6].toArray, argTypes := [55].toArray }, none, false⟩, ⟨some 8, Op.unOp UnOp.not 4 (Operand.tmp 7), none, false⟩, ⟨some 9, Op.move (Operand.tmp 8), none, false⟩, ⟨some 10, Op.move (Operand.tmp 1), some (9, false), false⟩, ⟨some 11, Op.call { callee := Callee.value (Operand.func 33), args := [Operand.tmp 10].toArray, argTypes := [55].toArray }, some (9, false), false⟩, ⟨some 12, Op.unOp UnOp.not 4 (Operand.tmp 11), some (9, false), false⟩, ⟨some 13, Op.pick (Operand.tmp 9) (Operand.const (Value.bool true)) (Operand.tmp 12), none, false⟩, ⟨some 14, Op.move (Operand.tmp 13), none, false⟩, ⟨some 15, Op.move (Operand.tmp 0), some (14, false), false⟩, ⟨some 16, Op.call { callee := Callee.builtin Builtin.len, args := [Operand.tmp 15].toArray, argTypes := [55].toArray }, some (14, false), false⟩, ⟨some 17, Op.move (Operand.tmp 1), some (14, false), false⟩, ⟨some 18, Op.call { callee := Callee.builtin Builtin.len, args := [Operand.tmp 17].toArray, argTypes := [55].toArray }, some (14, false), false⟩, ⟨some 19, Op.binOp BinOp.neq 3 (Operand.tmp 16) (Operand.tmp 18) 3, some (14, false), false⟩, ⟨some 20, Op.pick (Operand.tmp 14) (Operand.const (Value.bool true)) (Operand.tmp 19), none, false⟩]).seq (ACode.cond (Operand.tmp 20) ((ACode.region [⟨some 4, Op.assign (Operand.const (Value.bool false)), none, false⟩]).seq ACode.ret) ACode.skip)).seq (((ACode.region [⟨some 5, Op.assign (Operand.const (Value.int IntKind.i64 0)), none, false⟩]).seq (ACode.block 0 (ACode.loop b38_0))).seq ((ACode.region [⟨some 4, Op.assign (Operand.const (Value.bool true)), none, false⟩]).seq ACode.ret))), 52, [ResultVar.tmp 4]) := by kernel_rfl
def b42_0 : ACode := (ACode.region [⟨some 10, Op.binOp BinOp.lss 3 (Operand.tmp 9) (Operand.tmp 8) 3, none, false⟩]).seq ((ACode.cond (Operand.tmp 10) ACode.skip (ACode.exit 0)).seq ((ACode.block 1 ((ACode.region [⟨some 11, Op.indexAddr 30 (Operand.tmp 7) (Operand.tmp 9), none, false⟩, ⟨some 12, Op.load 32 (Operand.tmp 11), none, false⟩, ⟨some 5, Op.alloc 32, none, false⟩, ⟨none, Op.store 32 (Operand.tmp 5) (Operand.tmp 12), none, false⟩]).seq (ACode.region [⟨some 13, Op.move (Operand.tmp 3), none, false⟩, ⟨some 14, Op.load 32 (Operand.tmp 5), none, false⟩, ⟨some 15, Op.call { callee := Callee.value (Operand.func 42), args := [Operand.tmp 14].toArray, argTypes := [32].toArray }, none, false⟩, ⟨some 16, Op.binOp BinOp.add 3 (Operand.tmp 13) (Operand.tmp 15) 3, none, false⟩, ⟨some 3, Op.assign (Operand.tmp 16), none, false⟩]))).seq (ACode.region [⟨some 17, Op.binOp BinOp.add 3 (Operand.tmp 9) (Operand.const (Value.int IntKind.i64 1)) 3, none, false⟩, ⟨some 9, Op.move (Operand.tmp 17), none, false⟩])))
theorem code42 : bodyOf Try.prog 42 = some ((ACode.region [⟨some 1, Op.box 32 (Operand.tmp 0), none, false⟩, ⟨some 2, Op.assign (Operand.const (Value.int IntKind.i64 0)), none, false⟩]).seq ((ACode.region [⟨some 3, Op.assign (Operand.const (Value.int IntKind.i64 1)), none, false⟩]).seq (((ACode.region [⟨some 6, Op.fieldAddr 32 (Operand.tmp 1) 2, none, false⟩, ⟨some 7, Op.load 30 (Operand.tmp 6), none, false⟩, ⟨some 8, Op.call { callee := Callee.builtin Builtin.len, args := [Operand.tmp 7].toArray, argTypes := [30].toArray }, none, false⟩, ⟨some 9, Op.move (Operand.const (Value.int IntKind.i64 0)), none, false⟩]).seq (ACode.block 0 (ACode.loop b42_0))).seq ((ACode.region [⟨some 18, Op.move (Operand.tmp 3), none, false⟩, ⟨some 2, Op.assign (Operand.tmp 18), none, false⟩]).seq ACode.ret))), 19, [ResultVar.tmp 2]) := by kernel_rfl
def b44_0 : ACode := (ACode.region [⟨some 10, Op.binOp BinOp.lss 3 (Operand.tmp 9) (Operand.tmp 8) 3, none, false⟩]).seq ((ACode.cond (Operand.tmp 10) ACode.skip (ACode.exit 0)).seq ((ACode.block 1 ((ACode.region [⟨some 11, Op.indexAddr 30 (Operand.tmp 7) (Operand.tmp 9), none, false⟩, ⟨some 12, Op.load 32 (Operand.tmp 11), none, false⟩, ⟨some 5, Op.alloc 32, none, false⟩, ⟨none, Op.store 32 (Operand.tmp 5) (Operand.tmp 12), none, false⟩]).seq (ACode.region [⟨some 13, Op.move (Operand.tmp 3), none, false⟩, ⟨some 14, Op.load 32 (Operand.tmp 5), none, false⟩, ⟨some 15, Op.call { callee := Callee.value (Operand.func 44), args := [Operand.tmp 14].toArray, argTypes := [32].toArray }, none, false⟩, ⟨some 16, Op.call { callee := Callee.builtin Builtin.max, args := [Operand.tmp 13, Operand.tmp 15].toArray, argTypes := [3, 3].toArray }, none, false⟩, ⟨some 3, Op.assign (Operand.tmp 16), none, false⟩]))).seq (ACode.region [⟨some 17, Op.binOp BinOp.add 3 (Operand.tmp 9) (Operand.const (Value.int IntKind.i64 1)) 3, none, false⟩, ⟨some 9, Op.move (Operand.tmp 17), none, false⟩])))
theorem code44 : bodyOf Try.prog 44 = some ((ACode.region [⟨some 1, Op.box 32 (Operand.tmp 0), none, false⟩, ⟨some 2, Op.assign (Operand.const (Value.int IntKind.i64 0)), none, false⟩]).seq ((ACode.region [⟨some 3, Op.assign (Operand.const (Value.int IntKind.i64 0)), none, false⟩]).seq (((ACode.region [⟨some 6, Op.fieldAddr 32 (Operand.tmp 1) 2, none, false⟩, ⟨some 7, Op.load 30 (Operand.tmp 6), none, false⟩, ⟨some 8, Op.call { callee := Callee.builtin Builtin.len, args := [Operand.tmp 7].toArray, argTypes := [30].toArray }, none, false⟩, ⟨some 9, Op.move (Operand.const (Value.int IntKind.i64 0)), none, false⟩]).seq (ACode.block 0 (ACode.loop b44_0))).seq ((ACode.region [⟨some 18, Op.move (Operand.tmp 3), none, false⟩, ⟨some 19, Op.binOp BinOp.add 3 (Operand.tmp 18) (Operand.const (Value.int IntKind.i64 1)) 3, none, false⟩, ⟨some 2, Op.assign (Operand.tmp 19), none, false⟩]).seq ACode.ret))), 20, [ResultVar.tmp 2]) := by kernel_rfl
def b45_0 : ACode := ((ACode.region [⟨some 5, Op.move (Operand.tmp 4), none, false⟩, ⟨some 6, Op.fieldAddr 32 (Operand.tmp 1) 2, none, false⟩, ⟨some 7, Op.load 30 (Operand.tmp 6), none, false⟩, ⟨some 8, Op.call { callee := Callee.builtin Builtin.len, args := [Operand.tmp 7].toArray, argTypes := [30].toArray }, none, false⟩, ⟨some 9, Op.binOp BinOp.lss 3 (Operand.tmp 5) (Operand.tmp 8) 3, none, false⟩]).seq (ACode.cond (Operand.tmp 9) ACode.skip (ACode.exit 0))).seq ((ACode.block 1 (ACode.region [⟨some 12, Op.move (Operand.tmp 3), none, false⟩, ⟨some 13, Op.fieldAddr 32 (Operand.tmp 1) 2, none, false⟩, ⟨some 14, Op.load 30 (Operand.tmp 13), none, false⟩, ⟨some 15, Op.move (Operand.tmp 4), none, false⟩, ⟨some 16, Op.indexAddr 30 (Operand.tmp 14) (Operand.tmp 15), none, false⟩, ⟨some 17, Op.load 32 (Operand.tmp 16), none, false⟩, ⟨some 18, Op.call { callee := Callee.value (Operand.func 45), args := [Operand.tmp 17].toArray, argTypes := [32].toArray }, none, false⟩, ⟨some 19, Op.binOp BinOp.add 3 (Operand.tmp 12) (Operand.tmp 18) 3, none, false⟩, ⟨some 3, Op.assign (Operand.tmp 19), none, false⟩])).seq (ACode.region [⟨some 10, Op.move (Operand.tmp 4), none, false⟩, ⟨some 11, Op.binOp BinOp.add 3 (Operand.tmp 10) (Operand.const (Value.int IntKind.i64 1)) 3, none, false⟩, ⟨some 4, Op.assign (Operand.tmp 11), none, false⟩]))
theorem code45 : bodyOf Try.prog 45 = some ((ACode.region [⟨some 1, Op.box 32 (Operand.tmp 0), none, false⟩, ⟨some 2, Op.assign (Operand.const (Value.int IntKind.i64 0)), none, false⟩]).seq ((ACode.region [⟨some 3, Op.assign (Operand.const (Value.int IntKind.i64 1)), none, false⟩]).seq (((ACode.region [⟨some 4, Op.assign (Operand.const (Value.int IntKind.i64 0)), none, false⟩]).seq (ACode.block 0 (ACode.loop b45_0))).seq ((ACode.region [⟨some 20, Op.move (Operand.tmp 3), none, false⟩, ⟨some 2, Op.assign (Operand.tmp 20), none, false⟩]).seq ACode.ret))), 21, [ResultVar.tmp 2]) := by kernel_rfl
def b46_0 : ACode := ((ACode.region [⟨some 5, Op.move (Operand.tmp 4), none, false⟩, ⟨some 6, Op.fieldAddr 32 (Operand.tmp 1) 2, none, false⟩, ⟨some 7, Op.load 30 (Operand.tmp 6), none, false⟩, ⟨some 8, Op.call { callee := Callee.builtin Builtin.len, args := [Operand.tmp 7].toArray, argTypes := [30].toArray }, none, false⟩, ⟨some 9, Op.binOp BinOp.lss 3 (Operand.tmp 5) (Operand.tmp 8) 3, none, false⟩]).seq (ACode.cond (Operand.tmp 9) ACode.skip (ACode.exit 0))).seq ((ACode.block 1 (ACode.region [⟨some 12, Op.move (Operand.tmp 3), none, false⟩, ⟨some 13, Op.fieldAddr 32 (Operand.tmp 1) 2, none, false⟩, ⟨some 14, Op.load 30 (Operand.tmp 13), none, false⟩, ⟨some 15, Op.move (Operand.tmp 4), none, false⟩, ⟨some 16, Op.indexAddr 30 (Operand.tmp 14) (Operand.tmp 15), none, false⟩, ⟨some 17, Op.load 32 (Operand.tmp 16), none, false⟩, ⟨some 18, Op.call { callee := Callee.value (Operand.func 46), args := [Operand.tmp 17].toArray, argTypes := [32].toArray }, none, false⟩, ⟨some 19, Op.call { callee := Callee.builtin Builtin.max, args := [Operand.tmp 12, Operand.tmp 18].toArray, argTypes := [3, 3].toArray }, none, false⟩, ⟨some 3, Op.assign (Operand.tmp 19), none, false⟩])).seq (ACode.region [⟨some 10, Op.move (Operand.tmp 4), none, false⟩, ⟨some 11, Op.binOp BinOp.add 3 (Operand.tmp 10) (Operand.const (Value.int IntKind.i64 1)) 3, none, false⟩, ⟨some 4, Op.assign (Operand.tmp 11), none, false⟩]))
theorem code46 : bodyOf Try.prog 46 = some ((ACode.region [⟨some 1, Op.box 32 (Operand.tmp 0), none, false⟩, ⟨some 2, Op.assign (Operand.const (Value.int IntKind.i64 0)), none, false⟩]).seq ((ACode.region [⟨some 3, Op.assign (Operand.const (Value.int IntKind.i64 0)), none, false⟩]).seq (((ACode.region [⟨some 4, Op.assign (Operand.const (Value.int IntKind.i64 0)), none, false⟩]).seq (ACode.block 0 (ACode.loop b46_0))).seq ((ACode.region [⟨some 20, Op.move (Operand.tmp 3), none, false⟩, ⟨some 21, Op.binOp BinOp.add 3 (Operand.tmp 20) (Operand.const (Value.int IntKind.i64 1)) 3, none, false⟩, ⟨some 2, Op.assign (Operand.tmp 21), none, false⟩]).seq ACode.ret))), 22, [ResultVar.tmp 2]) := by kernel_rfl
theorem code47 : bodyOf Try.prog 47 = some ((ACode.region [⟨some 1, Op.box 32 (Operand.tmp 0), none, false⟩, ⟨some 2, Op.assign (Operand.const (Value.int IntKind.i64 0)), none, false⟩]).seq ((ACode.block 0 ((ACode.region [⟨some 4, Op.load 32 (Operand.tmp 1), none, false⟩, ⟨some 5, Op.call { callee := Callee.value (Operand.func 76), args := [Operand.tmp 4].toArray, argTypes := [32].toArray }, none, false⟩, ⟨some 6, Op.unOp UnOp.not 4 (Operand.tmp 5), none, false⟩, ⟨some 3, Op.assign (Operand.tmp 6), none, false⟩]).seq (ACode.cond (Operand.tmp 3) ((ACode.region [⟨some 2, Op.assign (Operand.const (Value.int IntKind.i64 1)), none, false⟩]).seq ACode.ret) ((ACode.region [⟨some 8, Op.load 32 (Operand.tmp 1), none, false⟩, ⟨some 9, Op.call { callee := Callee.value (Operand.func 44), args := [Operand.tmp 8].toArray, argTypes := [32].toArray }, none, false⟩, ⟨some 10, Op.binOp BinOp.gtr 3 (Operand.tmp 9) (Operand.const (Value.int IntKind.i64 60)) 3, none, false⟩, ⟨some 7, Op.assign (Operand.tmp 10), none, false⟩]).seq (ACode.cond (Operand.tmp 7) ((ACode.region [⟨some 2, Op.assign (Operand.const (Value.int IntKind.i64 22)), none, false⟩]).seq ACode.ret) ((ACode.region [⟨some 12, Op.load 32 (Operand.tmp 1), none, false⟩, ⟨some 13, Op.call { callee := Callee.value (Operand.func 42), args := [Operand.tmp 12].toArray, argTypes := [32].toArray }, none, false⟩, ⟨some 14, Op.binOp BinOp.gtr 3 (Operand.tmp 13) (Operand.const (Value.int IntKind.i64 4000)) 3, none, false⟩, ⟨some 11, Op.assign (Operand.tmp 14), none, false⟩]).seq (ACode.cond (Operand.tmp 11) ((ACode.region [⟨some 2, Op.assign (Operand.const (Value.int IntKind.i64 3)), none, false⟩]).seq ACode.ret) ACode.skip))))))).seq ((ACode.region [⟨some 2, Op.assign (Operand.const (Value.int IntKind.i64 0)), none, false⟩]).seq ACode.ret)), 15, [ResultVar.tmp 2]) := by kernel_rfl
def b55_0 : ACode := (ACode.region [⟨some 18, Op.binOp BinOp.lss 3 (Operand.tmp 17) (Operand.tmp 16) 3, none, false⟩]).seq ((ACode.cond (Operand.tmp 18) ACode.skip (ACode.exit 0)).seq ((ACode.block 1 ((ACode.region [⟨some 19, Op.move (Operand.tmp 17), none, false⟩, ⟨some 20, Op.indexAddr 30 (Operand.tmp 15) (Operand.tmp 17), none, false⟩, ⟨some 21, Op.load 32 (Operand.tmp 20), none, false⟩, ⟨some 8, Op.alloc 32, none, false⟩, ⟨some 7, Op.assign (Operand.tmp 19), none, false⟩, ⟨none, Op.store 32 (Operand.tmp 8) (Operand.tmp 21), none, false⟩]).seq ((ACode.region [⟨some 22, Op.move (Operand.tmp 1), none, false⟩, ⟨some 23, Op.move (Operand.tmp 7), none, false⟩, ⟨some 24, Op.indexAddr 30 (Operand.tmp 22) (Operand.tmp 23), none, false⟩, ⟨some 25, Op.load 32 (Operand.tmp 24), none, false⟩, ⟨some 9, Op.alloc 32, none, false⟩, ⟨none, Op.store 32 (Operand.tmp 9) (Operand.tmp 25), none, false⟩]).seq ((ACode.region [⟨some 26, Op.move (Operand.tmp 2), none, false⟩, ⟨some 27, Op.load 32 (Operand.tmp 8), none, false⟩, ⟨some 28, Op.load 32 (Operand.tmp 9), none, false⟩, ⟨some 29, Op.call { callee := Callee.value (Operand.tmp 26), args := [Operand.tmp 27, Operand.tmp 28].toArray, argTypes := [32, 32].toArray }, none, false⟩, ⟨some 30, Op.unOp UnOp.not 4 (Operand.tmp 29), none, false⟩]).seq (ACode.cond (Operand.tmp 30) ((ACode.region [⟨some 6, Op.assign (Operand.const (Value.bool false)), none, false⟩]).seq ACode.ret) ACode.skip))))).seq (ACode.region [⟨some 31, Op.binOp BinOp.add 3 (Operand.tmp 17) (Operand.const (Value.int IntKind.i64 1)) 3, none, false⟩, ⟨some 17, Op.move (Operand.tmp 31), none, false⟩])))
theorem code55 : bodyOf Try.prog 55 = some ((ACode.region [⟨some 6, Op.assign (Operand.const (Value.bool false)), none, false⟩]).seq (((ACode.region [⟨some 10, Op.move (Operand.tmp 0), none, false⟩, ⟨some 11, Op.call { callee := Callee.builtin Builtin.len, args := [Operand.tmp 10].toArray, argTypes := [30].toArray }, none, false⟩, ⟨some 12, Op.move (Operand.tmp 1), none, false⟩, ⟨some 13, Op.call { callee := Callee.builtin Builtin.len, args := [Operand.tmp 12].toArray, argTypes := [30].toArray }, none, false⟩, ⟨some 14, Op.binOp BinOp.neq 3 (Operand.tmp 11) (Operand.tmp 13) 3, none, false⟩]).seq (ACode.cond (Operand.tmp 14) ((ACode.region [⟨some 6, Op.assign (Operand.const (Value.bool false)), none, false⟩]).seq ACode.ret) ACode.skip)).seq (((ACode.region [⟨some 15, Op.move (Operand.tmp 0), none, false⟩, ⟨some 16, Op.call { callee := Callee.builtin Builtin.len, args := [Operand.tmp 15].toArray, argTypes := [30].toArray }, none, false⟩, ⟨some 17, Op.move (Operand.const (Value.int IntKind.i64 0)), none, false⟩]).seq (ACode.block 0 (ACode.loop b55_0))).seq ((ACode.region [⟨some 6, Op.assign (Operand.const (Value.bool true)), none, false⟩]).seq ACode.ret))), 32, [ResultVar.tmp 6]) := by kernel_rfl
def b56_0 : ACode := ((ACode.region [⟨some 36, Op.move (Operand.tmp 3), none, false⟩, ⟨some 37, Op.fieldAddr 32 (Operand.tmp 1) 2, none, false⟩, ⟨some 38, Op.load 30 (Operand.tmp 37), none, false⟩, ⟨some 39, Op.call { callee := Callee.builtin Builtin.len, args := [Operand.tmp 38].toArray, argTypes := [30].toArray }, none, false⟩, ⟨some 40, Op.binOp BinOp.lss 3 (Operand.tmp 36) (Operand.tmp 39) 3, none, false⟩]).seq (ACode.cond (Operand.tmp 40) ACode.skip (ACode.exit 0))).seq ((ACode.block 1 ((ACode.region [⟨some 43, Op.fieldAddr 32 (Operand.tmp 1) 2, none, false⟩, ⟨some 44, Op.load 30 (Operand.tmp 43), none, false⟩, ⟨some 45, Op.move (Operand.tmp 3), none, false⟩, ⟨some 46, Op.indexAddr 30 (Operand.tmp 44) (Operand.tmp 45), none, false⟩, ⟨some 47, Op.load 32 (Operand.tmp 46), none, false⟩, ⟨some 48, Op.call { callee := Callee.value (Operand.func 56), args := [Operand.tmp 47].toArray, argTypes := [32].toArray }, none, false⟩, ⟨some 49, Op.unOp UnOp.not 4 (Operand.tmp 48), none, false⟩]).seq (ACode.cond (Operand.tmp 49) ((ACode.region [⟨some 2, Op.assign (Operand.const (Value.bool false)), none, false⟩]).seq ACode.ret) ACode.skip))).seq (ACode.region [⟨some 41, Op.move (Operand.tmp 3), none, false⟩, ⟨some 42, Op.binOp BinOp.add 3 (Operand.tmp 41) (Operand.const (Value.int IntKind.i64 1)) 3, none, false⟩, ⟨some 3, Op.assign (Operand.tmp 42), none, false⟩]))
theorem code56 : bodyOf Try.prog 56 = some ((ACode.region [⟨some 1, Op.box 32 (Operand.tmp 0), none, false⟩, ⟨some 2, Op.assign (Operand.const (Value.bool false)), none, false⟩]).seq (((ACode.region [⟨some 4, Op.fieldAddr 32 (Operand.tmp 1) 1, none, false⟩, ⟨some 5, Op.load 9 (Operand.tmp 4), none, false⟩, ⟨some 6, Op.binOp BinOp.eql 9 (Operand.tmp 5) (Operand.const (Value.string { data := [].toArray })) 9, none, false⟩]).seq (ACode.cond (Operand.tmp 6) ((ACode.region [⟨some 7, Op.fieldAddr 32 (Operand.tmp 1) 0, none, false⟩, ⟨some 8, Op.load 3 (Operand.tmp 7), none, false⟩, ⟨some 9, Op.binOp BinOp.geq 3 (Operand.tmp 8) (Operand.const (Value.int IntKind.i64 0)) 3, none, false⟩, ⟨some 10, Op.move (Operand.tmp 9), none, false⟩, ⟨some 11, Op.fieldAddr 32 (Operand.tmp 1) 0, some (10, true), false⟩, ⟨some 12, Op.load 3 (Operand.tmp 11), some (10, true), false⟩, ⟨some 13, Op.binOp BinOp.lss 3 (Operand.tmp 12) (Operand.const (Value.int IntKind.i64 1000000)) 3, some (10, true), false⟩, ⟨some 14, Op.pick (Operand.tmp 10) (Operand.tmp 13) (Operand.const (Value.bool false)), none, false⟩, ⟨some 15, Op.move (Operand.tmp 14), none, false⟩, ⟨some 16, Op.fieldAddr 32 (Operand.tmp 1) 2, some (15, true), false⟩, ⟨some 17, Op.load 30 (Operand.tmp 16), some (15, true), false⟩, ⟨some 18, Op.call { callee := Callee.builtin Builtin.len, args := [Operand.tmp 17].toArray, argTypes := [30].toArray }, some (15, true), false⟩, ⟨some 19, Op.binOp BinOp.eql 3 (Operand.tmp 18) (Operand.const (Value.int IntKind.i64 0)) 3, some (15, true), false⟩, ⟨some 20, Op.pick (Operand.tmp 15) (Operand.tmp 19) (Operand.const (Value.bool false)), none, false⟩, ⟨some 2, Op.assign (Operand.tmp 20), none, false⟩]).seq ACode.ret) ACode.skip)).seq (((ACode.region [⟨some 21, Op.fieldAddr 32 (Operand.tmp 1) 0, none, false⟩, ⟨some 22, Op.load 3 (Operand.tmp 21), none, false⟩, ⟨some 23, Op.binOp BinOp.neq 3 (Operand.tmp 22) (Operand.const (Value.int IntKind.i64 0)) 3, none, false⟩, ⟨some 24, Op.move (Operand.tmp 23), none, false⟩, ⟨some 25, Op.fieldAddr 32 (Operand.tmp 1) 1, some (24, false), false⟩, ⟨some 26, Op.load 9 (Operand.tmp 25), some (24, false), false⟩, ⟨some 27, Op.call { callee := Callee.builtin Builtin.len, args := [Operand.tmp 26].toArray, argTypes := [9].toArray }, some (24, false), false⟩, ⟨some 28, Op.binOp BinOp.gtr 3 (Operand.tmp 27) (Operand.const (Value.int IntKind.i64 64)) 3, some (24, false), false⟩, ⟨some 29, Op.pick (Operand.tmp 24) (Operand.const (Value.bool true)) (Operand.tmp 28), none, false⟩, ⟨some 30, Op.move (Operand.tmp 29), none, false⟩, ⟨some 31, Op.fieldAddr 32 (Operand.tmp 1) 2, some (30, false), false⟩, ⟨some 32, Op.load 30 (Operand.tmp 31), some (30, false), false⟩, ⟨some 33, Op.call { callee := Callee.builtin Builtin.len, args := [Operand.tmp 32].toArray, argTypes := [30].toArray }, some (30, false), false⟩, ⟨some 34, Op.binOp BinOp.gtr 3 (Operand.tmp 33) (Operand.const (Value.int IntKind.i64 16)) 3, some (30, false), false⟩, ⟨some 35, Op.pick (Operand.tmp 30) (Operand.const (Value.bool true)) (Operand.tmp 34), none, false⟩]).seq (ACode.cond (Operand.tmp 35) ((ACode.region [⟨some 2, Op.assign (Operand.const (Value.bool false)), none, false⟩]).seq ACode.ret) ACode.skip)).seq (((ACode.region [⟨some 3, Op.assign (Operand.const (Value.int IntKind.i64 0)), none, false⟩]).seq (ACode.block 0 (ACode.loop b56_0))).seq ((ACode.region [⟨some 2, Op.assign (Operand.const (Value.bool true)), none, false⟩]).seq ACode.ret)))), 50, [ResultVar.tmp 2]) := by kernel_rfl
theorem code63 : bodyOf Try.prog 63 = some ((ACode.region [⟨some 1, Op.box 61 (Operand.tmp 0), none, false⟩, ⟨some 2, Op.assign (Operand.const (Value.bool false)), none, false⟩]).seq ((ACode.region [⟨some 3, Op.fieldAddr 61 (Operand.tmp 1) 1, none, false⟩, ⟨some 4, Op.fieldAddr 32 (Operand.tmp 3) 1, none, false⟩, ⟨some 5, Op.load 9 (Operand.tmp 4), none, false⟩, ⟨some 6, Op.binOp BinOp.eql 9 (Operand.tmp 5) (Operand.const (Value.string { data := [].toArray })) 9, none, false⟩, ⟨some 7, Op.move (Operand.tmp 6), none, false⟩, ⟨some 8, Op.fieldAddr 61 (Operand.tmp 1) 1, some (7, true), false⟩, ⟨some 9, Op.fieldAddr 32 (Operand.tmp 8) 0, some (7, true), false⟩, ⟨some 10, Op.load 3 (Operand.tmp 9), some (7, true), false⟩, ⟨some 11, Op.fieldAddr 61 (Operand.tmp 1) 0, some (7, true), false⟩, ⟨some 12, Op.load 3 (Operand.tmp 11), some (7, true), false⟩, ⟨some 13, Op.binOp BinOp.eql 3 (Operand.tmp 10) (Operand.tmp 12) 3, some (7, true), false⟩, ⟨some 14, Op.pick (Operand.tmp 7) (Operand.tmp 13) (Operand.const (Value.bool false)), none, false⟩, ⟨some 2, Op.assign (Operand.tmp 14), none, false⟩]).seq ACode.ret), 15, [ResultVar.tmp 2]) := by kernel_rfl
def b69_0 : ACode := (ACode.region [⟨some 18, Op.binOp BinOp.lss 3 (Operand.tmp 17) (Operand.tmp 16) 3, none, false⟩]).seq ((ACode.cond (Operand.tmp 18) ACode.skip (ACode.exit 0)).seq ((ACode.block 1 ((ACode.region [⟨some 19, Op.move (Operand.tmp 17), none, false⟩, ⟨some 20, Op.indexAddr 55 (Operand.tmp 15) (Operand.tmp 17), none, false⟩, ⟨some 21, Op.load 61 (Operand.tmp 20), none, false⟩, ⟨some 8, Op.alloc 61, none, false⟩, ⟨some 7, Op.assign (Operand.tmp 19), none, false⟩, ⟨none, Op.store 61 (Operand.tmp 8) (Operand.tmp 21), none, false⟩]).seq ((ACode.region [⟨some 22, Op.move (Operand.tmp 1), none, false⟩, ⟨some 23, Op.move (Operand.tmp 7), none, false⟩, ⟨some 24, Op.indexAddr 55 (Operand.tmp 22) (Operand.tmp 23), none, false⟩, ⟨some 25, Op.load 61 (Operand.tmp 24), none, false⟩, ⟨some 9, Op.alloc 61, none, false⟩, ⟨none, Op.store 61 (Operand.tmp 9) (Operand.tmp 25), none, false⟩]).seq ((ACode.region [⟨some 26, Op.move (Operand.tmp 2), none, false⟩, ⟨some 27, Op.load 61 (Operand.tmp 8), none, false⟩, ⟨some 28, Op.load 61 (Operand.tmp 9), none, false⟩, ⟨some 29, Op.call { callee := Callee.value (Operand.tmp 26), args := [Operand.tmp 27, Operand.tmp 28].toArray, argTypes := [61, 61].toArray }, none, false⟩, ⟨some 30, Op.unOp UnOp.not 4 (Operand.tmp 29), none, false⟩]).seq (ACode.cond (Operand.tmp 30) ((ACode.region [⟨some 6, Op.assign (Operand.const (Value.bool false)), none, false⟩]).seq ACode.ret) ACode.skip))))).seq (ACode.region [⟨some 31, Op.binOp BinOp.add 3 (Operand.tmp 17) (Operand.const (Value.int IntKind.i64 1)) 3, none, false⟩, ⟨some 17, Op.move (Operand.tmp 31), none, false⟩])))
theorem code69 : bodyOf Try.prog 69 = some ((ACode.region [⟨some 6, Op.assign (Operand.const (Value.bool false)), none, false⟩]).seq (((ACode.region [⟨some 10, Op.move (Operand.tmp 0), none, false⟩, ⟨some 11, Op.call { callee := Callee.builtin Builtin.len, args := [Operand.tmp 10].toArray, argTypes := [55].toArray }, none, false⟩, ⟨some 12, Op.move (Operand.tmp 1), none, false⟩, ⟨some 13, Op.call { callee := Callee.builtin Builtin.len, args := [Operand.tmp 12].toArray, argTypes := [55].toArray }, none, false⟩, ⟨some 14, Op.binOp BinOp.neq 3 (Operand.tmp 11) (Operand.tmp 13) 3, none, false⟩]).seq (ACode.cond (Operand.tmp 14) ((ACode.region [⟨some 6, Op.assign (Operand.const (Value.bool false)), none, false⟩]).seq ACode.ret) ACode.skip)).seq (((ACode.region [⟨some 15, Op.move (Operand.tmp 0), none, false⟩, ⟨some 16, Op.call { callee := Callee.builtin Builtin.len, args := [Operand.tmp 15].toArray, argTypes := [55].toArray }, none, false⟩, ⟨some 17, Op.move (Operand.const (Value.int IntKind.i64 0)), none, false⟩]).seq (ACode.block 0 (ACode.loop b69_0))).seq ((ACode.region [⟨some 6, Op.assign (Operand.const (Value.bool true)), none, false⟩]).seq ACode.ret))), 32, [ResultVar.tmp 6]) := by kernel_rfl
theorem code70 : bodyOf Try.prog 70 = some ((ACode.region [⟨some 2, Op.box 61 (Operand.tmp 0), none, false⟩, ⟨some 3, Op.box 61 (Operand.tmp 1), none, false⟩, ⟨some 4, Op.assign (Operand.const (Value.bool false)), none, false⟩]).seq ((ACode.region [⟨some 5, Op.fieldAddr 61 (Operand.tmp 2) 0, none, false⟩, ⟨some 6, Op.load 3 (Operand.tmp 5), none, false⟩, ⟨some 7, Op.fieldAddr 61 (Operand.tmp 3) 0, none, false⟩, ⟨some 8, Op.load 3 (Operand.tmp 7), none, false⟩, ⟨some 9, Op.binOp BinOp.eql 3 (Operand.tmp 6) (Operand.tmp 8) 3, none, false⟩, ⟨some 10, Op.move (Operand.tmp 9), none, false⟩, ⟨some 11, Op.fieldAddr 61 (Operand.tmp 2) 1, some (10, true), false⟩, ⟨some 12, Op.load 32 (Operand.tmp 11), some (10, true), false⟩, ⟨some 13, Op.fieldAddr 61 (Operand.tmp 3) 1, some (10, true), false⟩, ⟨some 14, Op.load 32 (Operand.tmp 13), some (10, true), false⟩, ⟨some 15, Op.call { callee := Callee.value (Operand.func 24), args := [Operand.tmp 12, Operand.tmp 14].toArray, argTypes := [32, 32].toArray }, some (10, true), false⟩, ⟨some 16, Op.pick (Operand.tmp 10) (Operand.tmp 15) (Operand.const (Value.bool false)), none, false⟩, ⟨some 4, Op.assign (Operand.tmp 16), none, false⟩]).seq ACode.ret), 17, [ResultVar.tmp 4]) := by kernel_rfl
theorem code76 : bodyOf Try.prog 76 = some ((ACode.region [⟨some 1, Op.box 32 (Operand.tmp 0), none, false⟩, ⟨some 2, Op.assign (Operand.const (Value.bool false)), none, false⟩]).seq ((ACode.region [⟨some 3, Op.load 32 (Operand.tmp 1), none, false⟩, ⟨some 4, Op.call { callee := Callee.value (Operand.func 94), args := [Operand.tmp 3].toArray, argTypes := [32].toArray }, none, false⟩, ⟨some 5, Op.move (Operand.tmp 4), none, false⟩, ⟨some 6, Op.fieldAddr 32 (Operand.tmp 1) 2, some (5, true), false⟩, ⟨some 7, Op.load 30 (Operand.tmp 6), some (5, true), false⟩, ⟨some 8, Op.call { callee := Callee.value (Operand.func 95), args := [Operand.tmp 7, Operand.func 96].toArray, argTypes := [30, 35].toArray }, some (5, true), false⟩, ⟨some 9, Op.unOp UnOp.not 4 (Operand.tmp 8), some (5, true), false⟩, ⟨some 10, Op.pick (Operand.tmp 5) (Operand.tmp 9) (Operand.const (Value.bool false)), none, false⟩, ⟨some 2, Op.assign (Operand.tmp 10), none, false⟩]).seq ACode.ret), 11, [ResultVar.tmp 2]) := by kernel_rfl
theorem code94 : bodyOf Try.prog 94 = some ((ACode.region [⟨some 1, Op.box 32 (Operand.tmp 0), none, false⟩, ⟨some 2, Op.assign (Operand.const (Value.bool false)), none, false⟩]).seq (((ACode.region [⟨some 3, Op.fieldAddr 32 (Operand.tmp 1) 1, none, false⟩, ⟨some 4, Op.load 9 (Operand.tmp 3), none, false⟩, ⟨some 5, Op.binOp BinOp.eql 9 (Operand.tmp 4) (Operand.const (Value.string { data := [].toArray })) 9, none, false⟩]).seq (ACode.cond (Operand.tmp 5) ((ACode.region [⟨some 6, Op.fieldAddr 32 (Operand.tmp 1) 0, none, false⟩, ⟨some 7, Op.load 3 (Operand.tmp 6), none, false⟩, ⟨some 8, Op.binOp BinOp.geq 3 (Operand.tmp 7) (Operand.const (Value.int IntKind.i64 0)) 3, none, false⟩, ⟨some 9, Op.move (Operand.tmp 8), none, false⟩, ⟨some 10, Op.fieldAddr 32 (Operand.tmp 1) 0, some (9, true), false⟩, ⟨some 11, Op.load 3 (Operand.tmp 10), some (9, true), false⟩, ⟨some 12, Op.binOp BinOp.lss 3 (Operand.tmp 11) (Operand.const (Value.int IntKind.i64 1000000)) 3, some (9, true), false⟩, ⟨some 13, Op.pick (Operand.tmp 9) (Operand.tmp 12) (Operand.const (Value.bool false)), none, false⟩, ⟨some 14, Op.move (Operand.tmp 13), none, false⟩, ⟨some 15, Op.fieldAddr 32 (Operand.tmp 1) 2, some (14, true), false⟩, ⟨some 16, Op.load 30 (Operand.tmp 15), some (14, true), false⟩, ⟨some 17, Op.call { callee := Callee.builtin Builtin.len, args := [Operand.tmp 16].toArray, argTypes := [30].toArray }, some (14, true), false⟩, ⟨some 18, Op.binOp BinOp.eql 3 (Operand.tmp 17) (Operand.const (Value.int IntKind.i64 0)) 3, some (14, true), false⟩, ⟨some 19, Op.pick (Operand.tmp 14) (Operand.tmp 18) (Operand.const (Value.bool false)), none, false⟩, ⟨some 2, Op.assign (Operand.tmp 19), none, false⟩]).seq ACode.ret) ACode.skip)).seq ((ACode.region [⟨some 20, Op.fieldAddr 32 (Operand.tmp 1) 0, none, false⟩, ⟨some 21, Op.load 3 (Operand.tmp 20), none, false⟩, ⟨some 22, Op.binOp BinOp.eql 3 (Operand.tmp 21) (Operand.const (Value.int IntKind.i64 0)) 3, none, false⟩, ⟨some 23, Op.move (Operand.tmp 22), none, false⟩, ⟨some 24, Op.fieldAddr 32 (Operand.tmp 1) 1, some (23, true), false⟩, ⟨some 25, Op.load 9 (Operand.tmp 24), some (23, true), false⟩, ⟨some 26, Op.call { callee := Callee.builtin Builtin.len, args := [Operand.tmp 25].toArray, argTypes := [9].toArray }, some (23, true), false⟩, ⟨some 27, Op.binOp BinOp.leq 3 (Operand.tmp 26) (Operand.const (Value.int IntKind.i64 64)) 3, some (23, true), false⟩, ⟨some 28, Op.pick (Operand.tmp 23) (Operand.tmp 27) (Operand.const (Value.bool false)), none, false⟩, ⟨some 29, Op.move (Operand.tmp 28), none, false⟩, ⟨some 30, Op.fieldAddr 32 (Operand.tmp 1) 2, some (29, true), false⟩, ⟨some 31, Op.load 30 (Operand.tmp 30), some (29, true), false⟩, ⟨some 32, Op.call { callee := Callee.builtin Builtin.len, args := [Operand.tmp 31].toArray, argTypes := [30].toArray }, some (29, true), false⟩, ⟨some 33, Op.binOp BinOp.leq 3 (Operand.tmp 32) (Operand.const (Value.int IntKind.i64 16)) 3, some (29, true), false⟩, ⟨some 34, Op.pick (Operand.tmp 29) (Operand.tmp 33) (Operand.const (Value.bool false)), none, false⟩, ⟨some 2, Op.assign (Operand.tmp 34), none, false⟩]).seq ACode.ret)), 35, [ResultVar.tmp 2]) := by kernel_rfl
theorem code95 : bodyOf Try.prog 95 = some ((ACode.region [⟨some 4, Op.assign (Operand.const (Value.bool false)), none, false⟩]).seq ((ACode.region [⟨some 5, Op.move (Operand.tmp 0), none, false⟩, ⟨some 6, Op.move (Operand.tmp 1), none, false⟩, ⟨some 7, Op.call { callee := Callee.value (Operand.func 101), args := [Operand.tmp 5, Operand.tmp 6].toArray, argTypes := [30, 35].toArray }, none, false⟩, ⟨some 8, Op.binOp BinOp.geq 3 (Operand.tmp 7) (Operand.const (Value.int IntKind.i64 0)) 3, none, false⟩, ⟨some 4, Op.assign (Operand.tmp 8), none, false⟩]).seq ACode.ret), 9, [ResultVar.tmp 4]) := by kernel_rfl
theorem code96 : bodyOf Try.prog 96 = some ((ACode.region [⟨some 1, Op.box 32 (Operand.tmp 0), none, false⟩, ⟨some 2, Op.assign (Operand.const (Value.bool false)), none, false⟩]).seq ((ACode.region [⟨some 3, Op.load 32 (Operand.tmp 1), none, false⟩, ⟨some 4, Op.call { callee := Callee.value (Operand.func 76), args := [Operand.tmp 3].toArray, argTypes := [32].toArray }, none, false⟩, ⟨some 5, Op.unOp UnOp.not 4 (Operand.tmp 4), none, false⟩, ⟨some 2, Op.assign (Operand.tmp 5), none, false⟩]).seq ACode.ret), 6, [ResultVar.tmp 2]) := by kernel_rfl
def b101_0 : ACode := (ACode.region [⟨some 9, Op.binOp BinOp.lss 3 (Operand.tmp 8) (Operand.tmp 7) 3, none, false⟩]).seq ((ACode.cond (Operand.tmp 9) ACode.skip (ACode.exit 0)).seq ((ACode.block 1 ((ACode.region [⟨some 10, Op.move (Operand.tmp 8), none, false⟩, ⟨some 5, Op.assign (Operand.tmp 10), none, false⟩]).seq ((ACode.region [⟨some 11, Op.move (Operand.tmp 1), none, false⟩, ⟨some 12, Op.move (Operand.tmp 0), none, false⟩, ⟨some 13, Op.move (Operand.tmp 5), none, false⟩, ⟨some 14, Op.indexAddr 30 (Operand.tmp 12) (Operand.tmp 13), none, false⟩, ⟨some 15, Op.load 32 (Operand.tmp 14), none, false⟩, ⟨some 16, Op.call { callee := Callee.value (Operand.tmp 11), args := [Operand.tmp 15].toArray, argTypes := [32].toArray }, none, false⟩]).seq (ACode.cond (Operand.tmp 16) ((ACode.region [⟨some 17, Op.move (Operand.tmp 5), none, false⟩, ⟨some 4, Op.assign (Operand.tmp 17), none, false⟩]).seq ACode.ret) ACode.skip)))).seq (ACode.region [⟨some 18, Op.binOp BinOp.add 3 (Operand.tmp 8) (Operand.const (Value.int IntKind.i64 1)) 3, none, false⟩, ⟨some 8, Op.move (Operand.tmp 18), none, false⟩])))
theorem code101 : bodyOf Try.prog 101 = some ((ACode.region [⟨some 4, Op.assign (Operand.const (Value.int IntKind.i64 0)), none, false⟩]).seq (((ACode.region [⟨some 6, Op.move (Operand.tmp 0), none, false⟩, ⟨some 7, Op.call { callee := Callee.builtin Builtin.len, args := [Operand.tmp 6].toArray, argTypes := [30].toArray }, none, false⟩, ⟨some 8, Op.move (Operand.const (Value.int IntKind.i64 0)), none, false⟩]).seq (ACode.block 0 (ACode.loop b101_0))).seq ((ACode.region [⟨some 4, Op.assign (Operand.const (Value.int IntKind.i64 (-1))), none, false⟩]).seq ACode.ret)), 19, [ResultVar.tmp 4]) := by kernel_rfl
@[simp] theorem ts0 : tsize Try.prog 0 = some 1 := by kernel_rfl
@[simp] theorem ta0 : tagg Try.prog 0 = some false := by kernel_rfl
@[simp] theorem tk0 : tkind Try.prog 0 = 0 := by kernel_rfl
@[simp] theorem tb0 : tbytes Try.prog 0 = some true := by kernel_rfl
@[simp] theorem ts1 : tsize Try.prog 1 = some 1 := by kernel_rfl
@[simp] theorem ta1 : tagg Try.prog 1 = some false := by kernel_rfl
@[simp] theorem tk1 : tkind Try.prog 1 = 5 := by kernel_rfl
@[simp] theorem tb1 : tbytes Try.prog 1 = some true := by kernel_rfl
@[simp] theorem tz1 : zeroCells Try.prog 1 = some [AV.d D.nilfn] := by kernel_rfl
@[simp] theorem ts2 : tsize Try.prog 2 = some 1 := by kernel_rfl
@[simp] theorem ta2 : tagg Try.prog 2 = some false := by kernel_rfl
@[simp] theorem tk2 : tkind Try.prog 2 = 6 := by kernel_rfl
@[simp] theorem ti2 : tint Try.prog 2 = some IntKind.i64 := by kernel_rfl
@[simp] theorem tb2 : tbytes Try.prog 2 = some true := by kernel_rfl
@[simp] theorem tz2 : zeroCells Try.prog 2 = some [AV.d (D.int IntKind.i64 0)] := by kernel_rfl
@[simp] theorem ts3 : tsize Try.prog 3 = some 1 := by kernel_rfl
@[simp] theorem ta3 : tagg Try.prog 3 = some false := by kernel_rfl
@[simp] theorem tk3 : tkind Try.prog 3 = 6 := by kernel_rfl
@[simp] theorem ti3 : tint Try.prog 3 = some IntKind.i64 := by kernel_rfl
@[simp] theorem tb3 : tbytes Try.prog 3 = some true := by kernel_rfl
@[simp] theorem tz3 : zeroCells Try.prog 3 = some [AV.d (D.int IntKind.i64 0)] := by kernel_rfl
@[simp] theorem ts4 : tsize Try.prog 4 = some 1 := by kernel_rfl
@[simp] theorem ta4 : tagg Try.prog 4 = some false := by kernel_rfl
@[simp] theorem tk4 : tkind Try.prog 4 = 1 := by kernel_rfl
@[simp] theorem tb4 : tbytes Try.prog 4 = some true := by kernel_rfl
@[simp] theorem tz4 : zeroCells Try.prog 4 = some [AV.d (D.bool false)] := by kernel_rfl
@[simp] theorem ts5 : tsize Try.prog 5 = some 1 := by kernel_rfl
@[simp] theorem ta5 : tagg Try.prog 5 = some false := by kernel_rfl
@[simp] theorem tk5 : tkind Try.prog 5 = 6 := by kernel_rfl
@[simp] theorem ti5 : tint Try.prog 5 = some IntKind.u8 := by kernel_rfl
@[simp] theorem tb5 : tbytes Try.prog 5 = some true := by kernel_rfl
@[simp] theorem tz5 : zeroCells Try.prog 5 = some [AV.d (D.int IntKind.u8 0)] := by kernel_rfl
@[simp] theorem ts6 : tsize Try.prog 6 = some 1 := by kernel_rfl
@[simp] theorem ta6 : tagg Try.prog 6 = some false := by kernel_rfl
@[simp] theorem tk6 : tkind Try.prog 6 = 6 := by kernel_rfl
@[simp] theorem ti6 : tint Try.prog 6 = some IntKind.u8 := by kernel_rfl
@[simp] theorem tb6 : tbytes Try.prog 6 = some true := by kernel_rfl
@[simp] theorem tz6 : zeroCells Try.prog 6 = some [AV.d (D.int IntKind.u8 0)] := by kernel_rfl
@[simp] theorem ts7 : tsize Try.prog 7 = some 4 := by kernel_rfl
@[simp] theorem ta7 : tagg Try.prog 7 = some true := by kernel_rfl
@[simp] theorem tk7 : tkind Try.prog 7 = 0 := by kernel_rfl
@[simp] theorem tp7 : tplaces Try.prog 7 = some [(0, 1), (1, 1), (2, 1), (3, 1)] := by kernel_rfl
@[simp] theorem tb7 : tbytes Try.prog 7 = some true := by kernel_rfl
@[simp] theorem tf7_0 : tfield Try.prog 7 0 = some (0, 2) := by kernel_rfl
@[simp] theorem tf7_1 : tfield Try.prog 7 1 = some (1, 3) := by kernel_rfl
@[simp] theorem tf7_2 : tfield Try.prog 7 2 = some (2, 4) := by kernel_rfl
@[simp] theorem tf7_3 : tfield Try.prog 7 3 = some (3, 6) := by kernel_rfl
@[simp] theorem tz7 : zeroCells Try.prog 7 = some [AV.d (D.int IntKind.i64 0), AV.d (D.int IntKind.i64 0), AV.d (D.bool false), AV.d (D.int IntKind.u8 0)] := by kernel_rfl
@[simp] theorem ts8 : tsize Try.prog 8 = some 4 := by kernel_rfl
@[simp] theorem ta8 : tagg Try.prog 8 = some true := by kernel_rfl
@[simp] theorem tk8 : tkind Try.prog 8 = 0 := by kernel_rfl
@[simp] theorem tp8 : tplaces Try.prog 8 = some [(0, 1), (1, 1), (2, 1), (3, 1)] := by kernel_rfl
@[simp] theorem tb8 : tbytes Try.prog 8 = some true := by kernel_rfl
@[simp] theorem tf8_0 : tfield Try.prog 8 0 = some (0, 2) := by kernel_rfl
@[simp] theorem tf8_1 : tfield Try.prog 8 1 = some (1, 3) := by kernel_rfl
@[simp] theorem tf8_2 : tfield Try.prog 8 2 = some (2, 4) := by kernel_rfl
@[simp] theorem tf8_3 : tfield Try.prog 8 3 = some (3, 6) := by kernel_rfl
@[simp] theorem tz8 : zeroCells Try.prog 8 = some [AV.d (D.int IntKind.i64 0), AV.d (D.int IntKind.i64 0), AV.d (D.bool false), AV.d (D.int IntKind.u8 0)] := by kernel_rfl
@[simp] theorem ts9 : tsize Try.prog 9 = some 1 := by kernel_rfl
@[simp] theorem ta9 : tagg Try.prog 9 = some false := by kernel_rfl
@[simp] theorem tk9 : tkind Try.prog 9 = 7 := by kernel_rfl
@[simp] theorem tb9 : tbytes Try.prog 9 = some true := by kernel_rfl
@[simp] theorem tz9 : zeroCells Try.prog 9 = some [AV.d (D.str { data := [].toArray })] := by kernel_rfl
@[simp] theorem ts10 : tsize Try.prog 10 = some 1 := by kernel_rfl
@[simp] theorem ta10 : tagg Try.prog 10 = some false := by kernel_rfl
@[simp] theorem tk10 : tkind Try.prog 10 = 7 := by kernel_rfl
@[simp] theorem tb10 : tbytes Try.prog 10 = some true := by kernel_rfl
@[simp] theorem tz10 : zeroCells Try.prog 10 = some [AV.d (D.str { data := [].toArray })] := by kernel_rfl
@[simp] theorem ts11 : tsize Try.prog 11 = some 1 := by kernel_rfl
@[simp] theorem ta11 : tagg Try.prog 11 = some false := by kernel_rfl
@[simp] theorem tk11 : tkind Try.prog 11 = 7 := by kernel_rfl
@[simp] theorem tb11 : tbytes Try.prog 11 = some true := by kernel_rfl
@[simp] theorem tz11 : zeroCells Try.prog 11 = some [AV.d (D.str { data := [].toArray })] := by kernel_rfl
@[simp] theorem ts12 : tsize Try.prog 12 = some 1 := by kernel_rfl
@[simp] theorem ta12 : tagg Try.prog 12 = some false := by kernel_rfl
@[simp] theorem tk12 : tkind Try.prog 12 = 6 := by kernel_rfl
@[simp] theorem ti12 : tint Try.prog 12 = some IntKind.u64 := by kernel_rfl
@[simp] theorem tb12 : tbytes Try.prog 12 = some true := by kernel_rfl
@[simp] theorem tz12 : zeroCells Try.prog 12 = some [AV.d (D.int IntKind.u64 0)] := by kernel_rfl
@[simp] theorem ts13 : tsize Try.prog 13 = some 2 := by kernel_rfl
@[simp] theorem ta13 : tagg Try.prog 13 = some true := by kernel_rfl
@[simp] theorem tk13 : tkind Try.prog 13 = 0 := by kernel_rfl
@[simp] theorem tp13 : tplaces Try.prog 13 = some [(0, 1), (1, 1)] := by kernel_rfl
@[simp] theorem tb13 : tbytes Try.prog 13 = some true := by kernel_rfl
@[simp] theorem tf13_0 : tfield Try.prog 13 0 = some (0, 9) := by kernel_rfl
@[simp] theorem tf13_1 : tfield Try.prog 13 1 = some (1, 12) := by kernel_rfl
@[simp] theorem tz13 : zeroCells Try.prog 13 = some [AV.d (D.str { data := [].toArray }), AV.d (D.int IntKind.u64 0)] := by kernel_rfl
@[simp] theorem ts14 : tsize Try.prog 14 = some 2 := by kernel_rfl
@[simp] theorem ta14 : tagg Try.prog 14 = some true := by kernel_rfl
@[simp] theorem tk14 : tkind Try.prog 14 = 0 := by kernel_rfl
@[simp] theorem tp14 : tplaces Try.prog 14 = some [(0, 1), (1, 1)] := by kernel_rfl
@[simp] theorem tb14 : tbytes Try.prog 14 = some true := by kernel_rfl
@[simp] theorem tf14_0 : tfield Try.prog 14 0 = some (0, 9) := by kernel_rfl
@[simp] theorem tf14_1 : tfield Try.prog 14 1 = some (1, 12) := by kernel_rfl
@[simp] theorem tz14 : zeroCells Try.prog 14 = some [AV.d (D.str { data := [].toArray }), AV.d (D.int IntKind.u64 0)] := by kernel_rfl
@[simp] theorem ts15 : tsize Try.prog 15 = some 1 := by kernel_rfl
@[simp] theorem ta15 : tagg Try.prog 15 = some false := by kernel_rfl
@[simp] theorem tk15 : tkind Try.prog 15 = 2 := by kernel_rfl
@[simp] theorem tb15 : tbytes Try.prog 15 = some true := by kernel_rfl
@[simp] theorem tz15 : zeroCells Try.prog 15 = some [AV.d D.nilptr] := by kernel_rfl
@[simp] theorem ts16 : tsize Try.prog 16 = some 1 := by kernel_rfl
@[simp] theorem ta16 : tagg Try.prog 16 = some false := by kernel_rfl
@[simp] theorem tk16 : tkind Try.prog 16 = 2 := by kernel_rfl
@[simp] theorem tb16 : tbytes Try.prog 16 = some true := by kernel_rfl
@[simp] theorem tz16 : zeroCells Try.prog 16 = some [AV.d D.nilptr] := by kernel_rfl
@[simp] theorem ts17 : tsize Try.prog 17 = some 1 := by kernel_rfl
@[simp] theorem ta17 : tagg Try.prog 17 = some false := by kernel_rfl
@[simp] theorem tk17 : tkind Try.prog 17 = 2 := by kernel_rfl
@[simp] theorem tb17 : tbytes Try.prog 17 = some true := by kernel_rfl
@[simp] theorem tz17 : zeroCells Try.prog 17 = some [AV.d D.nilptr] := by kernel_rfl
@[simp] theorem ts18 : tsize Try.prog 18 = some 1 := by kernel_rfl
@[simp] theorem ta18 : tagg Try.prog 18 = some true := by kernel_rfl
@[simp] theorem tk18 : tkind Try.prog 18 = 0 := by kernel_rfl
@[simp] theorem tp18 : tplaces Try.prog 18 = some [(0, 1)] := by kernel_rfl
@[simp] theorem tb18 : tbytes Try.prog 18 = some true := by kernel_rfl
@[simp] theorem tf18_0 : tfield Try.prog 18 0 = some (0, 17) := by kernel_rfl
@[simp] theorem tz18 : zeroCells Try.prog 18 = some [AV.d D.nilptr] := by kernel_rfl
@[simp] theorem ts19 : tsize Try.prog 19 = some 1 := by kernel_rfl
@[simp] theorem ta19 : tagg Try.prog 19 = some true := by kernel_rfl
@[simp] theorem tk19 : tkind Try.prog 19 = 0 := by kernel_rfl
@[simp] theorem tp19 : tplaces Try.prog 19 = some [(0, 1)] := by kernel_rfl
@[simp] theorem tb19 : tbytes Try.prog 19 = some true := by kernel_rfl
@[simp] theorem tf19_0 : tfield Try.prog 19 0 = some (0, 17) := by kernel_rfl
@[simp] theorem tz19 : zeroCells Try.prog 19 = some [AV.d D.nilptr] := by kernel_rfl
@[simp] theorem ts20 : tsize Try.prog 20 = some 1 := by kernel_rfl
@[simp] theorem ta20 : tagg Try.prog 20 = some false := by kernel_rfl
@[simp] theorem tk20 : tkind Try.prog 20 = 0 := by kernel_rfl
@[simp] theorem tb20 : tbytes Try.prog 20 = some true := by kernel_rfl
@[simp] theorem tz20 : zeroCells Try.prog 20 = some [AV.junk] := by kernel_rfl
@[simp] theorem ts21 : tsize Try.prog 21 = some 1 := by kernel_rfl
@[simp] theorem ta21 : tagg Try.prog 21 = some false := by kernel_rfl
@[simp] theorem tk21 : tkind Try.prog 21 = 6 := by kernel_rfl
@[simp] theorem ti21 : tint Try.prog 21 = some IntKind.i32 := by kernel_rfl
@[simp] theorem tb21 : tbytes Try.prog 21 = some true := by kernel_rfl
@[simp] theorem tz21 : zeroCells Try.prog 21 = some [AV.d (D.int IntKind.i32 0)] := by kernel_rfl
@[simp] theorem ts22 : tsize Try.prog 22 = some 1 := by kernel_rfl
@[simp] theorem ta22 : tagg Try.prog 22 = some false := by kernel_rfl
@[simp] theorem te22 : telem Try.prog 22 = some 34 := by kernel_rfl
@[simp] theorem tk22 : tkind Try.prog 22 = 3 := by kernel_rfl
@[simp] theorem tb22 : tbytes Try.prog 22 = some true := by kernel_rfl
@[simp] theorem tz22 : zeroCells Try.prog 22 = some [AV.d (D.sl [] 0 true (some true))] := by kernel_rfl
@[simp] theorem ts23 : tsize Try.prog 23 = some 1 := by kernel_rfl
@[simp] theorem ta23 : tagg Try.prog 23 = some false := by kernel_rfl
@[simp] theorem tk23 : tkind Try.prog 23 = 2 := by kernel_rfl
@[simp] theorem tb23 : tbytes Try.prog 23 = some true := by kernel_rfl
@[simp] theorem tz23 : zeroCells Try.prog 23 = some [AV.d D.nilptr] := by kernel_rfl
@[simp] theorem ts24 : tsize Try.prog 24 = some 1 := by kernel_rfl
@[simp] theorem ta24 : tagg Try.prog 24 = some false := by kernel_rfl
@[simp] theorem tk24 : tkind Try.prog 24 = 6 := by kernel_rfl
@[simp] theorem ti24 : tint Try.prog 24 = some IntKind.i64 := by kernel_rfl
@[simp] theorem tb24 : tbytes Try.prog 24 = some true := by kernel_rfl
@[simp] theorem tz24 : zeroCells Try.prog 24 = some [AV.d (D.int IntKind.i64 0)] := by kernel_rfl
@[simp] theorem ts25 : tsize Try.prog 25 = some 1 := by kernel_rfl
@[simp] theorem ta25 : tagg Try.prog 25 = some false := by kernel_rfl
@[simp] theorem tk25 : tkind Try.prog 25 = 0 := by kernel_rfl
@[simp] theorem tb25 : tbytes Try.prog 25 = some true := by kernel_rfl
@[simp] theorem ts26 : tsize Try.prog 26 = some 1 := by kernel_rfl
@[simp] theorem ta26 : tagg Try.prog 26 = some false := by kernel_rfl
@[simp] theorem tk26 : tkind Try.prog 26 = 5 := by kernel_rfl
@[simp] theorem tb26 : tbytes Try.prog 26 = some true := by kernel_rfl
@[simp] theorem tz26 : zeroCells Try.prog 26 = some [AV.d D.nilfn] := by kernel_rfl
@[simp] theorem ts27 : tsize Try.prog 27 = some 1 := by kernel_rfl
@[simp] theorem ta27 : tagg Try.prog 27 = some false := by kernel_rfl
@[simp] theorem tk27 : tkind Try.prog 27 = 2 := by kernel_rfl
@[simp] theorem tb27 : tbytes Try.prog 27 = some true := by kernel_rfl
@[simp] theorem tz27 : zeroCells Try.prog 27 = some [AV.d D.nilptr] := by kernel_rfl
@[simp] theorem ts28 : tsize Try.prog 28 = some 1 := by kernel_rfl
@[simp] theorem ta28 : tagg Try.prog 28 = some false := by kernel_rfl
@[simp] theorem tk28 : tkind Try.prog 28 = 5 := by kernel_rfl
@[simp] theorem tb28 : tbytes Try.prog 28 = some true := by kernel_rfl
@[simp] theorem tz28 : zeroCells Try.prog 28 = some [AV.d D.nilfn] := by kernel_rfl
@[simp] theorem ts29 : tsize Try.prog 29 = some 1 := by kernel_rfl
@[simp] theorem ta29 : tagg Try.prog 29 = some false := by kernel_rfl
@[simp] theorem tk29 : tkind Try.prog 29 = 5 := by kernel_rfl
@[simp] theorem tb29 : tbytes Try.prog 29 = some true := by kernel_rfl
@[simp] theorem tz29 : zeroCells Try.prog 29 = some [AV.d D.nilfn] := by kernel_rfl
@[simp] theorem ts30 : tsize Try.prog 30 = some 1 := by kernel_rfl
@[simp] theorem ta30 : tagg Try.prog 30 = some false := by kernel_rfl
@[simp] theorem te30 : telem Try.prog 30 = some 32 := by kernel_rfl
@[simp] theorem tk30 : tkind Try.prog 30 = 3 := by kernel_rfl
@[simp] theorem tb30 : tbytes Try.prog 30 = some true := by kernel_rfl
@[simp] theorem tz30 : zeroCells Try.prog 30 = some [AV.d (D.sl [] 0 true (some true))] := by kernel_rfl
@[simp] theorem ts31 : tsize Try.prog 31 = some 3 := by kernel_rfl
@[simp] theorem ta31 : tagg Try.prog 31 = some true := by kernel_rfl
@[simp] theorem tk31 : tkind Try.prog 31 = 0 := by kernel_rfl
@[simp] theorem tp31 : tplaces Try.prog 31 = some [(0, 1), (1, 1), (2, 1)] := by kernel_rfl
@[simp] theorem tb31 : tbytes Try.prog 31 = some true := by kernel_rfl
@[simp] theorem tf31_0 : tfield Try.prog 31 0 = some (0, 3) := by kernel_rfl
@[simp] theorem tf31_1 : tfield Try.prog 31 1 = some (1, 9) := by kernel_rfl
@[simp] theorem tf31_2 : tfield Try.prog 31 2 = some (2, 30) := by kernel_rfl
@[simp] theorem tz31 : zeroCells Try.prog 31 = some [AV.d (D.int IntKind.i64 0), AV.d (D.str { data := [].toArray }), AV.d (D.sl [] 0 true (some true))] := by kernel_rfl
@[simp] theorem ts32 : tsize Try.prog 32 = some 3 := by kernel_rfl
@[simp] theorem ta32 : tagg Try.prog 32 = some true := by kernel_rfl
@[simp] theorem tk32 : tkind Try.prog 32 = 0 := by kernel_rfl
@[simp] theorem tp32 : tplaces Try.prog 32 = some [(0, 1), (1, 1), (2, 1)] := by kernel_rfl
@[simp] theorem tb32 : tbytes Try.prog 32 = some true := by kernel_rfl
@[simp] theorem tf32_0 : tfield Try.prog 32 0 = some (0, 3) := by kernel_rfl
@[simp] theorem tf32_1 : tfield Try.prog 32 1 = some (1, 9) := by kernel_rfl
@[simp] theorem tf32_2 : tfield Try.prog 32 2 = some (2, 30) := by kernel_rfl
@[simp] theorem tz32 : zeroCells Try.prog 32 = some [AV.d (D.int IntKind.i64 0), AV.d (D.str { data := [].toArray }), AV.d (D.sl [] 0 true (some true))] := by kernel_rfl
@[simp] theorem ts33 : tsize Try.prog 33 = some 5 := by kernel_rfl
@[simp] theorem ta33 : tagg Try.prog 33 = some true := by kernel_rfl
@[simp] theorem tk33 : tkind Try.prog 33 = 0 := by kernel_rfl
@[simp] theorem tp33 : tplaces Try.prog 33 = some [(0, 1), (1, 1), (2, 3)] := by kernel_rfl
@[simp] theorem tb33 : tbytes Try.prog 33 = some true := by kernel_rfl
@[simp] theorem tf33_0 : tfield Try.prog 33 0 = some (0, 3) := by kernel_rfl
@[simp] theorem tf33_1 : tfield Try.prog 33 1 = some (1, 3) := by kernel_rfl
@[simp] theorem tf33_2 : tfield Try.prog 33 2 = some (2, 32) := by kernel_rfl
@[simp] theorem tz33 : zeroCells Try.prog 33 = some [AV.d (D.int IntKind.i64 0), AV.d (D.int IntKind.i64 0), AV.d (D.int IntKind.i64 0), AV.d (D.str { data := [].toArray }), AV.d (D.sl [] 0 true (some true))] := by kernel_rfl
@[simp] theorem ts34 : tsize Try.prog 34 = some 5 := by kernel_rfl
@[simp] theorem ta34 : tagg Try.prog 34 = some true := by kernel_rfl
@[simp] theorem tk34 : tkind Try.prog 34 = 0 := by kernel_rfl
@[simp] theorem tp34 : tplaces Try.prog 34 = some [(0, 1), (1, 1), (2, 3)] := by kernel_rfl
@[simp] theorem tb34 : tbytes Try.prog 34 = some true := by kernel_rfl
@[simp] theorem tf34_0 : tfield Try.prog 34 0 = some (0, 3) := by kernel_rfl
@[simp] theorem tf34_1 : tfield Try.prog 34 1 = some (1, 3) := by kernel_rfl
@[simp] theorem tf34_2 : tfield Try.prog 34 2 = some (2, 32) := by kernel_rfl
@[simp] theorem tz34 : zeroCells Try.prog 34 = some [AV.d (D.int IntKind.i64 0), AV.d (D.int IntKind.i64 0), AV.d (D.int IntKind.i64 0), AV.d (D.str { data := [].toArray }), AV.d (D.sl [] 0 true (some true))] := by kernel_rfl
@[simp] theorem ts35 : tsize Try.prog 35 = some 1 := by kernel_rfl
@[simp] theorem ta35 : tagg Try.prog 35 = some false := by kernel_rfl
@[simp] theorem tk35 : tkind Try.prog 35 = 5 := by kernel_rfl
@[simp] theorem tb35 : tbytes Try.prog 35 = some true := by kernel_rfl
@[simp] theorem tz35 : zeroCells Try.prog 35 = some [AV.d D.nilfn] := by kernel_rfl
@[simp] theorem ts36 : tsize Try.prog 36 = some 1 := by kernel_rfl
@[simp] theorem ta36 : tagg Try.prog 36 = some false := by kernel_rfl
@[simp] theorem tk36 : tkind Try.prog 36 = 0 := by kernel_rfl
@[simp] theorem tb36 : tbytes Try.prog 36 = some true := by kernel_rfl
@[simp] theorem ts37 : tsize Try.prog 37 = some 1 := by kernel_rfl
@[simp] theorem ta37 : tagg Try.prog 37 = some false := by kernel_rfl
@[simp] theorem tk37 : tkind Try.prog 37 = 5 := by kernel_rfl
@[simp] theorem tb37 : tbytes Try.prog 37 = some true := by kernel_rfl
@[simp] theorem tz37 : zeroCells Try.prog 37 = some [AV.d D.nilfn] := by kernel_rfl
@[simp] theorem ts38 : tsize Try.prog 38 = some 1 := by kernel_rfl
@[simp] theorem ta38 : tagg Try.prog 38 = some false := by kernel_rfl
@[simp] theorem tk38 : tkind Try.prog 38 = 5 := by kernel_rfl
@[simp] theorem tb38 : tbytes Try.prog 38 = some true := by kernel_rfl
@[simp] theorem tz38 : zeroCells Try.prog 38 = some [AV.d D.nilfn] := by kernel_rfl
@[simp] theorem ts39 : tsize Try.prog 39 = some 1 := by kernel_rfl
@[simp] theorem ta39 : tagg Try.prog 39 = some false := by kernel_rfl
@[simp] theorem tk39 : tkind Try.prog 39 = 5 := by kernel_rfl
@[simp] theorem tb39 : tbytes Try.prog 39 = some true := by kernel_rfl
@[simp] theorem tz39 : zeroCells Try.prog 39 = some [AV.d D.nilfn] := by kernel_rfl
@[simp] theorem ts40 : tsize Try.prog 40 = some 1 := by kernel_rfl
@[simp] theorem ta40 : tagg Try.prog 40 = some false := by kernel_rfl
@[simp] theorem tk40 : tkind Try.prog 40 = 0 := by kernel_rfl
@[simp] theorem tb40 : tbytes Try.prog 40 = some true := by kernel_rfl
@[simp] theorem ts41 : tsize Try.prog 41 = some 1 := by kernel_rfl
@[simp] theorem ta41 : tagg Try.prog 41 = some false := by kernel_rfl
@[simp] theorem tk41 : tkind Try.prog 41 = 5 := by kernel_rfl
@[simp] theorem tb41 : tbytes Try.prog 41 = some true := by kernel_rfl
@[simp] theorem tz41 : zeroCells Try.prog 41 = some [AV.d D.nilfn] := by kernel_rfl
@[simp] theorem ts42 : tsize Try.prog 42 = some 1 := by kernel_rfl
@[simp] theorem ta42 : tagg Try.prog 42 = some false := by kernel_rfl
@[simp] theorem tk42 : tkind Try.prog 42 = 0 := by kernel_rfl
@[simp] theorem tb42 : tbytes Try.prog 42 = some true := by kernel_rfl
@[simp] theorem ts43 : tsize Try.prog 43 = some 1 := by kernel_rfl
@[simp] theorem ta43 : tagg Try.prog 43 = some false := by kernel_rfl
@[simp] theorem tk43 : tkind Try.prog 43 = 5 := by kernel_rfl
@[simp] theorem tb43 : tbytes Try.prog 43 = some true := by kernel_rfl
@[simp] theorem tz43 : zeroCells Try.prog 43 = some [AV.d D.nilfn] := by kernel_rfl
@[simp] theorem ts44 : tsize Try.prog 44 = some 1 := by kernel_rfl
@[simp] theorem ta44 : tagg Try.prog 44 = some false := by kernel_rfl
@[simp] theorem tk44 : tkind Try.prog 44 = 5 := by kernel_rfl
@[simp] theorem tb44 : tbytes Try.prog 44 = some true := by kernel_rfl
@[simp] theorem tz44 : zeroCells Try.prog 44 = some [AV.d D.nilfn] := by kernel_rfl
@[simp] theorem ts45 : tsize Try.prog 45 = some 1 := by kernel_rfl
@[simp] theorem ta45 : tagg Try.prog 45 = some false := by kernel_rfl
@[simp] theorem tk45 : tkind Try.prog 45 = 5 := by kernel_rfl
@[simp] theorem tb45 : tbytes Try.prog 45 = some true := by kernel_rfl
@[simp] theorem tz45 : zeroCells Try.prog 45 = some [AV.d D.nilfn] := by kernel_rfl
@[simp] theorem ts46 : tsize Try.prog 46 = some 1 := by kernel_rfl
@[simp] theorem ta46 : tagg Try.prog 46 = some false := by kernel_rfl
@[simp] theorem te46 : telem Try.prog 46 = some 87 := by kernel_rfl
@[simp] theorem tk46 : tkind Try.prog 46 = 3 := by kernel_rfl
@[simp] theorem tb46 : tbytes Try.prog 46 = some true := by kernel_rfl
@[simp] theorem tz46 : zeroCells Try.prog 46 = some [AV.d (D.sl [] 0 true (some true))] := by kernel_rfl
@[simp] theorem ts47 : tsize Try.prog 47 = some 2 := by kernel_rfl
@[simp] theorem ta47 : tagg Try.prog 47 = some true := by kernel_rfl
@[simp] theorem tk47 : tkind Try.prog 47 = 0 := by kernel_rfl
@[simp] theorem tp47 : tplaces Try.prog 47 = some [(0, 1), (1, 1)] := by kernel_rfl
@[simp] theorem tb47 : tbytes Try.prog 47 = some true := by kernel_rfl
@[simp] theorem tf47_0 : tfield Try.prog 47 0 = some (0, 3) := by kernel_rfl
@[simp] theorem tf47_1 : tfield Try.prog 47 1 = some (1, 46) := by kernel_rfl
@[simp] theorem tz47 : zeroCells Try.prog 47 = some [AV.d (D.int IntKind.i64 0), AV.d (D.sl [] 0 true (some true))] := by kernel_rfl
@[simp] theorem ts48 : tsize Try.prog 48 = some 2 := by kernel_rfl
@[simp] theorem ta48 : tagg Try.prog 48 = some true := by kernel_rfl
@[simp] theorem tk48 : tkind Try.prog 48 = 0 := by kernel_rfl
@[simp] theorem tp48 : tplaces Try.prog 48 = some [(0, 1), (1, 1)] := by kernel_rfl
@[simp] theorem tb48 : tbytes Try.prog 48 = some true := by kernel_rfl
@[simp] theorem tf48_0 : tfield Try.prog 48 0 = some (0, 3) := by kernel_rfl
@[simp] theorem tf48_1 : tfield Try.prog 48 1 = some (1, 46) := by kernel_rfl
@[simp] theorem tz48 : zeroCells Try.prog 48 = some [AV.d (D.int IntKind.i64 0), AV.d (D.sl [] 0 true (some true))] := by kernel_rfl
@[simp] theorem ts49 : tsize Try.prog 49 = some 1 := by kernel_rfl
@[simp] theorem ta49 : tagg Try.prog 49 = some false := by kernel_rfl
@[simp] theorem tk49 : tkind Try.prog 49 = 5 := by kernel_rfl
@[simp] theorem tb49 : tbytes Try.prog 49 = some true := by kernel_rfl
@[simp] theorem tz49 : zeroCells Try.prog 49 = some [AV.d D.nilfn] := by kernel_rfl
@[simp] theorem ts50 : tsize Try.prog 50 = some 1 := by kernel_rfl
@[simp] theorem ta50 : tagg Try.prog 50 = some false := by kernel_rfl
@[simp] theorem te50 : telem Try.prog 50 = some 3 := by kernel_rfl
@[simp] theorem tk50 : tkind Try.prog 50 = 3 := by kernel_rfl
@[simp] theorem tb50 : tbytes Try.prog 50 = some true := by kernel_rfl
@[simp] theorem tz50 : zeroCells Try.prog 50 = some [AV.d (D.sl [] 0 true (some true))] := by kernel_rfl
@[simp] theorem ts51 : tsize Try.prog 51 = some 1 := by kernel_rfl
@[simp] theorem ta51 : tagg Try.prog 51 = some false := by kernel_rfl
@[simp] theorem tk51 : tkind Try.prog 51 = 5 := by kernel_rfl
@[simp] theorem tb51 : tbytes Try.prog 51 = some true := by kernel_rfl
@[simp] theorem tz51 : zeroCells Try.prog 51 = some [AV.d D.nilfn] := by kernel_rfl
@[simp] theorem ts52 : tsize Try.prog 52 = some 1 := by kernel_rfl
@[simp] theorem ta52 : tagg Try.prog 52 = some false := by kernel_rfl
@[simp] theorem tk52 : tkind Try.prog 52 = 5 := by kernel_rfl
@[simp] theorem tb52 : tbytes Try.prog 52 = some true := by kernel_rfl
@[simp] theorem tz52 : zeroCells Try.prog 52 = some [AV.d D.nilfn] := by kernel_rfl
@[simp] theorem ts53 : tsize Try.prog 53 = some 1 := by kernel_rfl
@[simp] theorem ta53 : tagg Try.prog 53 = some false := by kernel_rfl
@[simp] theorem tk53 : tkind Try.prog 53 = 5 := by kernel_rfl
@[simp] theorem tb53 : tbytes Try.prog 53 = some true := by kernel_rfl
@[simp] theorem tz53 : zeroCells Try.prog 53 = some [AV.d D.nilfn] := by kernel_rfl
@[simp] theorem ts54 : tsize Try.prog 54 = some 1 := by kernel_rfl
@[simp] theorem ta54 : tagg Try.prog 54 = some false := by kernel_rfl
@[simp] theorem tk54 : tkind Try.prog 54 = 5 := by kernel_rfl
@[simp] theorem tb54 : tbytes Try.prog 54 = some true := by kernel_rfl
@[simp] theorem tz54 : zeroCells Try.prog 54 = some [AV.d D.nilfn] := by kernel_rfl
@[simp] theorem ts55 : tsize Try.prog 55 = some 1 := by kernel_rfl
@[simp] theorem ta55 : tagg Try.prog 55 = some false := by kernel_rfl
@[simp] theorem te55 : telem Try.prog 55 = some 61 := by kernel_rfl
@[simp] theorem tk55 : tkind Try.prog 55 = 3 := by kernel_rfl
@[simp] theorem tb55 : tbytes Try.prog 55 = some true := by kernel_rfl
@[simp] theorem tz55 : zeroCells Try.prog 55 = some [AV.d (D.sl [] 0 true (some true))] := by kernel_rfl
@[simp] theorem ts56 : tsize Try.prog 56 = some 1 := by kernel_rfl
@[simp] theorem ta56 : tagg Try.prog 56 = some false := by kernel_rfl
@[simp] theorem tk56 : tkind Try.prog 56 = 5 := by kernel_rfl
@[simp] theorem tb56 : tbytes Try.prog 56 = some true := by kernel_rfl
@[simp] theorem tz56 : zeroCells Try.prog 56 = some [AV.d D.nilfn] := by kernel_rfl
@[simp] theorem ts57 : tsize Try.prog 57 = some 1 := by kernel_rfl
@[simp] theorem ta57 : tagg Try.prog 57 = some false := by kernel_rfl
@[simp] theorem tk57 : tkind Try.prog 57 = 5 := by kernel_rfl
@[simp] theorem tb57 : tbytes Try.prog 57 = some true := by kernel_rfl
@[simp] theorem tz57 : zeroCells Try.prog 57 = some [AV.d D.nilfn] := by kernel_rfl
@[simp] theorem ts58 : tsize Try.prog 58 = some 1 := by kernel_rfl
@[simp] theorem ta58 : tagg Try.prog 58 = some false := by kernel_rfl
@[simp] theorem tk58 : tkind Try.prog 58 = 5 := by kernel_rfl
@[simp] theorem tb58 : tbytes Try.prog 58 = some true := by kernel_rfl
@[simp] theorem tz58 : zeroCells Try.prog 58 = some [AV.d D.nilfn] := by kernel_rfl
@[simp] theorem ts59 : tsize Try.prog 59 = some 1 := by kernel_rfl
@[simp] theorem ta59 : tagg Try.prog 59 = some false := by kernel_rfl
@[simp] theorem tk59 : tkind Try.prog 59 = 5 := by kernel_rfl
@[simp] theorem tb59 : tbytes Try.prog 59 = some true := by kernel_rfl
@[simp] theorem tz59 : zeroCells Try.prog 59 = some [AV.d D.nilfn] := by kernel_rfl
@[simp] theorem ts60 : tsize Try.prog 60 = some 4 := by kernel_rfl
@[simp] theorem ta60 : tagg Try.prog 60 = some true := by kernel_rfl
@[simp] theorem tk60 : tkind Try.prog 60 = 0 := by kernel_rfl
@[simp] theorem tp60 : tplaces Try.prog 60 = some [(0, 1), (1, 3)] := by kernel_rfl
@[simp] theorem tb60 : tbytes Try.prog 60 = some true := by kernel_rfl
@[simp] theorem tf60_0 : tfield Try.prog 60 0 = some (0, 3) := by kernel_rfl
@[simp] theorem tf60_1 : tfield Try.prog 60 1 = some (1, 32) := by kernel_rfl
@[simp] theorem tz60 : zeroCells Try.prog 60 = some [AV.d (D.int IntKind.i64 0), AV.d (D.int IntKind.i64 0), AV.d (D.str { data := [].toArray }), AV.d (D.sl [] 0 true (some true))] := by kernel_rfl
@[simp] theorem ts61 : tsize Try.prog 61 = some 4 := by kernel_rfl
@[simp] theorem ta61 : tagg Try.prog 61 = some true := by kernel_rfl
@[simp] theorem tk61 : tkind Try.prog 61 = 0 := by kernel_rfl
@[simp] theorem tp61 : tplaces Try.prog 61 = some [(0, 1), (1, 3)] := by kernel_rfl
@[simp] theorem tb61 : tbytes Try.prog 61 = some true := by kernel_rfl
@[simp] theorem tf61_0 : tfield Try.prog 61 0 = some (0, 3) := by kernel_rfl
@[simp] theorem tf61_1 : tfield Try.prog 61 1 = some (1, 32) := by kernel_rfl
@[simp] theorem tz61 : zeroCells Try.prog 61 = some [AV.d (D.int IntKind.i64 0), AV.d (D.int IntKind.i64 0), AV.d (D.str { data := [].toArray }), AV.d (D.sl [] 0 true (some true))] := by kernel_rfl
@[simp] theorem ts62 : tsize Try.prog 62 = some 1 := by kernel_rfl
@[simp] theorem ta62 : tagg Try.prog 62 = some false := by kernel_rfl
@[simp] theorem tk62 : tkind Try.prog 62 = 0 := by kernel_rfl
@[simp] theorem tb62 : tbytes Try.prog 62 = some true := by kernel_rfl
@[simp] theorem ts63 : tsize Try.prog 63 = some 1 := by kernel_rfl
@[simp] theorem ta63 : tagg Try.prog 63 = some false := by kernel_rfl
@[simp] theorem tk63 : tkind Try.prog 63 = 5 := by kernel_rfl
@[simp] theorem tb63 : tbytes Try.prog 63 = some true := by kernel_rfl
@[simp] theorem tz63 : zeroCells Try.prog 63 = some [AV.d D.nilfn] := by kernel_rfl
@[simp] theorem ts64 : tsize Try.prog 64 = some 1 := by kernel_rfl
@[simp] theorem ta64 : tagg Try.prog 64 = some false := by kernel_rfl
@[simp] theorem tk64 : tkind Try.prog 64 = 5 := by kernel_rfl
@[simp] theorem tb64 : tbytes Try.prog 64 = some true := by kernel_rfl
@[simp] theorem tz64 : zeroCells Try.prog 64 = some [AV.d D.nilfn] := by kernel_rfl
@[simp] theorem ts65 : tsize Try.prog 65 = some 1 := by kernel_rfl
@[simp] theorem ta65 : tagg Try.prog 65 = some false := by kernel_rfl
@[simp] theorem tk65 : tkind Try.prog 65 = 5 := by kernel_rfl
@[simp] theorem tb65 : tbytes Try.prog 65 = some true := by kernel_rfl
@[simp] theorem tz65 : zeroCells Try.prog 65 = some [AV.d D.nilfn] := by kernel_rfl
@[simp] theorem ts66 : tsize Try.prog 66 = some 1 := by kernel_rfl
@[simp] theorem ta66 : tagg Try.prog 66 = some false := by kernel_rfl
@[simp] theorem tk66 : tkind Try.prog 66 = 5 := by kernel_rfl
@[simp] theorem tb66 : tbytes Try.prog 66 = some true := by kernel_rfl
@[simp] theorem tz66 : zeroCells Try.prog 66 = some [AV.d D.nilfn] := by kernel_rfl
@[simp] theorem ts67 : tsize Try.prog 67 = some 1 := by kernel_rfl
@[simp] theorem ta67 : tagg Try.prog 67 = some false := by kernel_rfl
@[simp] theorem tk67 : tkind Try.prog 67 = 5 := by kernel_rfl
@[simp] theorem tb67 : tbytes Try.prog 67 = some true := by kernel_rfl
@[simp] theorem tz67 : zeroCells Try.prog 67 = some [AV.d D.nilfn] := by kernel_rfl
@[simp] theorem ts68 : tsize Try.prog 68 = some 1 := by kernel_rfl
@[simp] theorem ta68 : tagg Try.prog 68 = some false := by kernel_rfl
@[simp] theorem tk68 : tkind Try.prog 68 = 5 := by kernel_rfl
@[simp] theorem tb68 : tbytes Try.prog 68 = some true := by kernel_rfl
@[simp] theorem tz68 : zeroCells Try.prog 68 = some [AV.d D.nilfn] := by kernel_rfl
@[simp] theorem ts69 : tsize Try.prog 69 = some 1 := by kernel_rfl
@[simp] theorem ta69 : tagg Try.prog 69 = some false := by kernel_rfl
@[simp] theorem tk69 : tkind Try.prog 69 = 4 := by kernel_rfl
@[simp] theorem tb69 : tbytes Try.prog 69 = some true := by kernel_rfl
@[simp] theorem tz69 : zeroCells Try.prog 69 = some [AV.d D.nilmap] := by kernel_rfl
@[simp] theorem ts70 : tsize Try.prog 70 = some 1 := by kernel_rfl
@[simp] theorem ta70 : tagg Try.prog 70 = some false := by kernel_rfl
@[simp] theorem tk70 : tkind Try.prog 70 = 4 := by kernel_rfl
@[simp] theorem tb70 : tbytes Try.prog 70 = some true := by kernel_rfl
@[simp] theorem tz70 : zeroCells Try.prog 70 = some [AV.d D.nilmap] := by kernel_rfl
@[simp] theorem ts71 : tsize Try.prog 71 = some 3 := by kernel_rfl
@[simp] theorem ta71 : tagg Try.prog 71 = some true := by kernel_rfl
@[simp] theorem tk71 : tkind Try.prog 71 = 0 := by kernel_rfl
@[simp] theorem tp71 : tplaces Try.prog 71 = some [(0, 1), (1, 1), (2, 1)] := by kernel_rfl
@[simp] theorem tb71 : tbytes Try.prog 71 = some true := by kernel_rfl
@[simp] theorem tf71_0 : tfield Try.prog 71 0 = some (0, 3) := by kernel_rfl
@[simp] theorem tf71_1 : tfield Try.prog 71 1 = some (1, 69) := by kernel_rfl
@[simp] theorem tf71_2 : tfield Try.prog 71 2 = some (2, 70) := by kernel_rfl
@[simp] theorem tz71 : zeroCells Try.prog 71 = some [AV.d (D.int IntKind.i64 0), AV.d D.nilmap, AV.d D.nilmap] := by kernel_rfl
@[simp] theorem ts72 : tsize Try.prog 72 = some 3 := by kernel_rfl
@[simp] theorem ta72 : tagg Try.prog 72 = some true := by kernel_rfl
@[simp] theorem tk72 : tkind Try.prog 72 = 0 := by kernel_rfl
@[simp] theorem tp72 : tplaces Try.prog 72 = some [(0, 1), (1, 1), (2, 1)] := by kernel_rfl
@[simp] theorem tb72 : tbytes Try.prog 72 = some true := by kernel_rfl
@[simp] theorem tf72_0 : tfield Try.prog 72 0 = some (0, 3) := by kernel_rfl
@[simp] theorem tf72_1 : tfield Try.prog 72 1 = some (1, 69) := by kernel_rfl
@[simp] theorem tf72_2 : tfield Try.prog 72 2 = some (2, 70) := by kernel_rfl
@[simp] theorem tz72 : zeroCells Try.prog 72 = some [AV.d (D.int IntKind.i64 0), AV.d D.nilmap, AV.d D.nilmap] := by kernel_rfl
@[simp] theorem ts73 : tsize Try.prog 73 = some 1 := by kernel_rfl
@[simp] theorem ta73 : tagg Try.prog 73 = some false := by kernel_rfl
@[simp] theorem tk73 : tkind Try.prog 73 = 5 := by kernel_rfl
@[simp] theorem tb73 : tbytes Try.prog 73 = some true := by kernel_rfl
@[simp] theorem tz73 : zeroCells Try.prog 73 = some [AV.d D.nilfn] := by kernel_rfl
@[simp] theorem ts74 : tsize Try.prog 74 = some 1 := by kernel_rfl
@[simp] theorem ta74 : tagg Try.prog 74 = some false := by kernel_rfl
@[simp] theorem tk74 : tkind Try.prog 74 = 5 := by kernel_rfl
@[simp] theorem tb74 : tbytes Try.prog 74 = some true := by kernel_rfl
@[simp] theorem tz74 : zeroCells Try.prog 74 = some [AV.d D.nilfn] := by kernel_rfl
@[simp] theorem ts75 : tsize Try.prog 75 = some 1 := by kernel_rfl
@[simp] theorem ta75 : tagg Try.prog 75 = some false := by kernel_rfl
@[simp] theorem te75 : telem Try.prog 75 = some 50 := by kernel_rfl
@[simp] theorem tk75 : tkind Try.prog 75 = 3 := by kernel_rfl
@[simp] theorem tb75 : tbytes Try.prog 75 = some true := by kernel_rfl
@[simp] theorem tz75 : zeroCells Try.prog 75 = some [AV.d (D.sl [] 0 true (some true))] := by kernel_rfl
@[simp] theorem ts76 : tsize Try.prog 76 = some 1 := by kernel_rfl
@[simp] theorem ta76 : tagg Try.prog 76 = some false := by kernel_rfl
@[simp] theorem tk76 : tkind Try.prog 76 = 5 := by kernel_rfl
@[simp] theorem tb76 : tbytes Try.prog 76 = some true := by kernel_rfl
@[simp] theorem tz76 : zeroCells Try.prog 76 = some [AV.d D.nilfn] := by kernel_rfl
@[simp] theorem ts77 : tsize Try.prog 77 = some 1 := by kernel_rfl
@[simp] theorem ta77 : tagg Try.prog 77 = some false := by kernel_rfl
@[simp] theorem tk77 : tkind Try.prog 77 = 5 := by kernel_rfl
@[simp] theorem tb77 : tbytes Try.prog 77 = some true := by kernel_rfl
@[simp] theorem tz77 : zeroCells Try.prog 77 = some [AV.d D.nilfn] := by kernel_rfl
@[simp] theorem ts78 : tsize Try.prog 78 = some 16 := by kernel_rfl
@[simp] theorem ta78 : tagg Try.prog 78 = some true := by kernel_rfl
@[simp] theorem tk78 : tkind Try.prog 78 = 0 := by kernel_rfl
@[simp] theorem tb78 : tbytes Try.prog 78 = some true := by kernel_rfl
@[simp] theorem tz78 : zeroCells Try.prog 78 = some [AV.d (D.int IntKind.i64 0), AV.d (D.int IntKind.i64 0), AV.d (D.int IntKind.i64 0), AV.d (D.int IntKind.i64 0), AV.d (D.int IntKind.i64 0), AV.d (D.int IntKind.i64 0), AV.d (D.int IntKind.i64 0), AV.d (D.int IntKind.i64 0), AV.d (D.int IntKind.i64 0), AV.d (D.int IntKind.i64 0), AV.d (D.int IntKind.i64 0), AV.d (D.int IntKind.i64 0), AV.d (D.int IntKind.i64 0), AV.d (D.int IntKind.i64 0), AV.d (D.int IntKind.i64 0), AV.d (D.int IntKind.i64 0)] := by kernel_rfl
@[simp] theorem ts79 : tsize Try.prog 79 = some 19 := by kernel_rfl
@[simp] theorem ta79 : tagg Try.prog 79 = some true := by kernel_rfl
@[simp] theorem tk79 : tkind Try.prog 79 = 0 := by kernel_rfl
@[simp] theorem tp79 : tplaces Try.prog 79 = some [(0, 1), (1, 1), (2, 1), (3, 16)] := by kernel_rfl
@[simp] theorem tb79 : tbytes Try.prog 79 = some true := by kernel_rfl
@[simp] theorem tf79_0 : tfield Try.prog 79 0 = some (0, 3) := by kernel_rfl
@[simp] theorem tf79_1 : tfield Try.prog 79 1 = some (1, 9) := by kernel_rfl
@[simp] theorem tf79_2 : tfield Try.prog 79 2 = some (2, 3) := by kernel_rfl
@[simp] theorem tf79_3 : tfield Try.prog 79 3 = some (3, 78) := by kernel_rfl
@[simp] theorem tz79 : zeroCells Try.prog 79 = some [AV.d (D.int IntKind.i64 0), AV.d (D.str { data := [].toArray }), AV.d (D.int IntKind.i64 0), AV.d (D.int IntKind.i64 0), AV.d (D.int IntKind.i64 0), AV.d (D.int IntKind.i64 0), AV.d (D.int IntKind.i64 0), AV.d (D.int IntKind.i64 0), AV.d (D.int IntKind.i64 0), AV.d (D.int IntKind.i64 0), AV.d (D.int IntKind.i64 0), AV.d (D.int IntKind.i64 0), AV.d (D.int IntKind.i64 0), AV.d (D.int IntKind.i64 0), AV.d (D.int IntKind.i64 0), AV.d (D.int IntKind.i64 0), AV.d (D.int IntKind.i64 0), AV.d (D.int IntKind.i64 0), AV.d (D.int IntKind.i64 0)] := by kernel_rfl
@[simp] theorem ts80 : tsize Try.prog 80 = some 19 := by kernel_rfl
@[simp] theorem ta80 : tagg Try.prog 80 = some true := by kernel_rfl
@[simp] theorem tk80 : tkind Try.prog 80 = 0 := by kernel_rfl
@[simp] theorem tp80 : tplaces Try.prog 80 = some [(0, 1), (1, 1), (2, 1), (3, 16)] := by kernel_rfl
@[simp] theorem tb80 : tbytes Try.prog 80 = some true := by kernel_rfl
@[simp] theorem tf80_0 : tfield Try.prog 80 0 = some (0, 3) := by kernel_rfl
@[simp] theorem tf80_1 : tfield Try.prog 80 1 = some (1, 9) := by kernel_rfl
@[simp] theorem tf80_2 : tfield Try.prog 80 2 = some (2, 3) := by kernel_rfl
@[simp] theorem tf80_3 : tfield Try.prog 80 3 = some (3, 78) := by kernel_rfl
@[simp] theorem tz80 : zeroCells Try.prog 80 = some [AV.d (D.int IntKind.i64 0), AV.d (D.str { data := [].toArray }), AV.d (D.int IntKind.i64 0), AV.d (D.int IntKind.i64 0), AV.d (D.int IntKind.i64 0), AV.d (D.int IntKind.i64 0), AV.d (D.int IntKind.i64 0), AV.d (D.int IntKind.i64 0), AV.d (D.int IntKind.i64 0), AV.d (D.int IntKind.i64 0), AV.d (D.int IntKind.i64 0), AV.d (D.int IntKind.i64 0), AV.d (D.int IntKind.i64 0), AV.d (D.int IntKind.i64 0), AV.d (D.int IntKind.i64 0), AV.d (D.int IntKind.i64 0), AV.d (D.int IntKind.i64 0), AV.d (D.int IntKind.i64 0), AV.d (D.int IntKind.i64 0)] := by kernel_rfl
@[simp] theorem ts81 : tsize Try.prog 81 = some 21 := by kernel_rfl
@[simp] theorem ta81 : tagg Try.prog 81 = some true := by kernel_rfl
@[simp] theorem tk81 : tkind Try.prog 81 = 0 := by kernel_rfl
@[simp] theorem tp81 : tplaces Try.prog 81 = some [(0, 19), (19, 1), (20, 1)] := by kernel_rfl
@[simp] theorem tb81 : tbytes Try.prog 81 = some true := by kernel_rfl
@[simp] theorem tf81_0 : tfield Try.prog 81 0 = some (0, 80) := by kernel_rfl
@[simp] theorem tf81_1 : tfield Try.prog 81 1 = some (19, 3) := by kernel_rfl
@[simp] theorem tf81_2 : tfield Try.prog 81 2 = some (20, 3) := by kernel_rfl
@[simp] theorem tz81 : zeroCells Try.prog 81 = some [AV.d (D.int IntKind.i64 0), AV.d (D.str { data := [].toArray }), AV.d (D.int IntKind.i64 0), AV.d (D.int IntKind.i64 0), AV.d (D.int IntKind.i64 0), AV.d (D.int IntKind.i64 0), AV.d (D.int IntKind.i64 0), AV.d (D.int IntKind.i64 0), AV.d (D.int IntKind.i64 0), AV.d (D.int IntKind.i64 0), AV.d (D.int IntKind.i64 0), AV.d (D.int IntKind.i64 0), AV.d (D.int IntKind.i64 0), AV.d (D.int IntKind.i64 0), AV.d (D.int IntKind.i64 0), AV.d (D.int IntKind.i64 0), AV.d (D.int IntKind.i64 0), AV.d (D.int IntKind.i64 0), AV.d (D.int IntKind.i64 0), AV.d (D.int IntKind.i64 0), AV.d (D.int IntKind.i64 0)] := by kernel_rfl
@[simp] theorem ts82 : tsize Try.prog 82 = some 21 := by kernel_rfl
@[simp] theorem ta82 : tagg Try.prog 82 = some true := by kernel_rfl
@[simp] theorem tk82 : tkind Try.prog 82 = 0 := by kernel_rfl
@[simp] theorem tp82 : tplaces Try.prog 82 = some [(0, 19), (19, 1), (20, 1)] := by kernel_rfl
@[simp] theorem tb82 : tbytes Try.prog 82 = some true := by kernel_rfl
@[simp] theorem tf82_0 : tfield Try.prog 82 0 = some (0, 80) := by kernel_rfl
@[simp] theorem tf82_1 : tfield Try.prog 82 1 = some (19, 3) := by kernel_rfl
@[simp] theorem tf82_2 : tfield Try.prog 82 2 = some (20, 3) := by kernel_rfl
@[simp] theorem tz82 : zeroCells Try.prog 82 = some [AV.d (D.int IntKind.i64 0), AV.d (D.str { data := [].toArray }), AV.d (D.int IntKind.i64 0), AV.d (D.int IntKind.i64 0), AV.d (D.int IntKind.i64 0), AV.d (D.int IntKind.i64 0), AV.d (D.int IntKind.i64 0), AV.d (D.int IntKind.i64 0), AV.d (D.int IntKind.i64 0), AV.d (D.int IntKind.i64 0), AV.d (D.int IntKind.i64 0), AV.d (D.int IntKind.i64 0), AV.d (D.int IntKind.i64 0), AV.d (D.int IntKind.i64 0), AV.d (D.int IntKind.i64 0), AV.d (D.int IntKind.i64 0), AV.d (D.int IntKind.i64 0), AV.d (D.int IntKind.i64 0), AV.d (D.int IntKind.i64 0), AV.d (D.int IntKind.i64 0), AV.d (D.int IntKind.i64 0)] := by kernel_rfl
@[simp] theorem ts83 : tsize Try.prog 83 = some 1 := by kernel_rfl
@[simp] theorem ta83 : tagg Try.prog 83 = some false := by kernel_rfl
@[simp] theorem tk83 : tkind Try.prog 83 = 2 := by kernel_rfl
@[simp] theorem tb83 : tbytes Try.prog 83 = some true := by kernel_rfl
@[simp] theorem tz83 : zeroCells Try.prog 83 = some [AV.d D.nilptr] := by kernel_rfl
@[simp] theorem ts84 : tsize Try.prog 84 = some 1 := by kernel_rfl
@[simp] theorem ta84 : tagg Try.prog 84 = some false := by kernel_rfl
@[simp] theorem tk84 : tkind Try.prog 84 = 5 := by kernel_rfl
@[simp] theorem tb84 : tbytes Try.prog 84 = some true := by kernel_rfl
@[simp] theorem tz84 : zeroCells Try.prog 84 = some [AV.d D.nilfn] := by kernel_rfl
@[simp] theorem ts85 : tsize Try.prog 85 = some 1 := by kernel_rfl
@[simp] theorem ta85 : tagg Try.prog 85 = some false := by kernel_rfl
@[simp] theorem tk85 : tkind Try.prog 85 = 5 := by kernel_rfl
@[simp] theorem tb85 : tbytes Try.prog 85 = some true := by kernel_rfl
@[simp] theorem tz85 : zeroCells Try.prog 85 = some [AV.d D.nilfn] := by kernel_rfl
@[simp] theorem ts86 : tsize Try.prog 86 = some 5 := by kernel_rfl
@[simp] theorem ta86 : tagg Try.prog 86 = some true := by kernel_rfl
@[simp] theorem tk86 : tkind Try.prog 86 = 0 := by kernel_rfl
@[simp] theorem tp86 : tplaces Try.prog 86 = some [(0, 1), (1, 3), (4, 1)] := by kernel_rfl
@[simp] theorem tb86 : tbytes Try.prog 86 = some true := by kernel_rfl
@[simp] theorem tf86_0 : tfield Try.prog 86 0 = some (0, 3) := by kernel_rfl
@[simp] theorem tf86_1 : tfield Try.prog 86 1 = some (1, 32) := by kernel_rfl
@[simp] theorem tf86_2 : tfield Try.prog 86 2 = some (4, 3) := by kernel_rfl
@[simp] theorem tz86 : zeroCells Try.prog 86 = some [AV.d (D.int IntKind.i64 0), AV.d (D.int IntKind.i64 0), AV.d (D.str { data := [].toArray }), AV.d (D.sl [] 0 true (some true)), AV.d (D.int IntKind.i64 0)] := by kernel_rfl
@[simp] theorem ts87 : tsize Try.prog 87 = some 5 := by kernel_rfl
@[simp] theorem ta87 : tagg Try.prog 87 = some true := by kernel_rfl
@[simp] theorem tk87 : tkind Try.prog 87 = 0 := by kernel_rfl
@[simp] theorem tp87 : tplaces Try.prog 87 = some [(0, 1), (1, 3), (4, 1)] := by kernel_rfl
@[simp] theorem tb87 : tbytes Try.prog 87 = some true := by kernel_rfl
@[simp] theorem tf87_0 : tfield Try.prog 87 0 = some (0, 3) := by kernel_rfl
@[simp] theorem tf87_1 : tfield Try.prog 87 1 = some (1, 32) := by kernel_rfl
@[simp] theorem tf87_2 : tfield Try.prog 87 2 = some (4, 3) := by kernel_rfl
@[simp] theorem tz87 : zeroCells Try.prog 87 = some [AV.d (D.int IntKind.i64 0), AV.d (D.int IntKind.i64 0), AV.d (D.str { data := [].toArray }), AV.d (D.sl [] 0 true (some true)), AV.d (D.int IntKind.i64 0)] := by kernel_rfl
@[simp] theorem ts88 : tsize Try.prog 88 = some 1 := by kernel_rfl
@[simp] theorem ta88 : tagg Try.prog 88 = some false := by kernel_rfl
@[simp] theorem tk88 : tkind Try.prog 88 = 5 := by kernel_rfl
@[simp] theorem tb88 : tbytes Try.prog 88 = some true := by kernel_rfl
@[simp] theorem tz88 : zeroCells Try.prog 88 = some [AV.d D.nilfn] := by kernel_rfl
@[simp] theorem ts89 : tsize Try.prog 89 = some 1 := by kernel_rfl
@[simp] theorem ta89 : tagg Try.prog 89 = some false := by kernel_rfl
@[simp] theorem tk89 : tkind Try.prog 89 = 5 := by kernel_rfl
@[simp] theorem tb89 : tbytes Try.prog 89 = some true := by kernel_rfl
@[simp] theorem tz89 : zeroCells Try.prog 89 = some [AV.d D.nilfn] := by kernel_rfl
@[simp] theorem ts90 : tsize Try.prog 90 = some 1 := by kernel_rfl
@[simp] theorem ta90 : tagg Try.prog 90 = some false := by kernel_rfl
@[simp] theorem tk90 : tkind Try.prog 90 = 5 := by kernel_rfl
@[simp] theorem tb90 : tbytes Try.prog 90 = some true := by kernel_rfl
@[simp] theorem tz90 : zeroCells Try.prog 90 = some [AV.d D.nilfn] := by kernel_rfl
@[simp] theorem ts91 : tsize Try.prog 91 = some 1 := by kernel_rfl
@[simp] theorem ta91 : tagg Try.prog 91 = some false := by kernel_rfl
@[simp] theorem tk91 : tkind Try.prog 91 = 5 := by kernel_rfl
@[simp] theorem tb91 : tbytes Try.prog 91 = some true := by kernel_rfl
@[simp] theorem tz91 : zeroCells Try.prog 91 = some [AV.d D.nilfn] := by kernel_rfl
@[simp] theorem ts92 : tsize Try.prog 92 = some 1 := by kernel_rfl
@[simp] theorem ta92 : tagg Try.prog 92 = some false := by kernel_rfl
@[simp] theorem tk92 : tkind Try.prog 92 = 5 := by kernel_rfl
@[simp] theorem tb92 : tbytes Try.prog 92 = some true := by kernel_rfl
@[simp] theorem tz92 : zeroCells Try.prog 92 = some [AV.d D.nilfn] := by kernel_rfl
@[simp] theorem ts93 : tsize Try.prog 93 = some 1 := by kernel_rfl
@[simp] theorem ta93 : tagg Try.prog 93 = some false := by kernel_rfl
@[simp] theorem tk93 : tkind Try.prog 93 = 5 := by kernel_rfl
@[simp] theorem tb93 : tbytes Try.prog 93 = some true := by kernel_rfl
@[simp] theorem tz93 : zeroCells Try.prog 93 = some [AV.d D.nilfn] := by kernel_rfl
@[simp] theorem ts94 : tsize Try.prog 94 = some 1 := by kernel_rfl
@[simp] theorem ta94 : tagg Try.prog 94 = some false := by kernel_rfl
@[simp] theorem tk94 : tkind Try.prog 94 = 5 := by kernel_rfl
@[simp] theorem tb94 : tbytes Try.prog 94 = some true := by kernel_rfl
@[simp] theorem tz94 : zeroCells Try.prog 94 = some [AV.d D.nilfn] := by kernel_rfl
@[simp] theorem ts95 : tsize Try.prog 95 = some 1 := by kernel_rfl
@[simp] theorem ta95 : tagg Try.prog 95 = some false := by kernel_rfl
@[simp] theorem tk95 : tkind Try.prog 95 = 0 := by kernel_rfl
@[simp] theorem tb95 : tbytes Try.prog 95 = some true := by kernel_rfl
@[simp] theorem ts96 : tsize Try.prog 96 = some 1 := by kernel_rfl
@[simp] theorem ta96 : tagg Try.prog 96 = some false := by kernel_rfl
@[simp] theorem tk96 : tkind Try.prog 96 = 5 := by kernel_rfl
@[simp] theorem tb96 : tbytes Try.prog 96 = some true := by kernel_rfl
@[simp] theorem tz96 : zeroCells Try.prog 96 = some [AV.d D.nilfn] := by kernel_rfl
@[simp] theorem ts97 : tsize Try.prog 97 = some 1 := by kernel_rfl
@[simp] theorem ta97 : tagg Try.prog 97 = some false := by kernel_rfl
@[simp] theorem tk97 : tkind Try.prog 97 = 5 := by kernel_rfl
@[simp] theorem tb97 : tbytes Try.prog 97 = some true := by kernel_rfl
@[simp] theorem tz97 : zeroCells Try.prog 97 = some [AV.d D.nilfn] := by kernel_rfl
@[simp] theorem ts98 : tsize Try.prog 98 = some 1 := by kernel_rfl
@[simp] theorem ta98 : tagg Try.prog 98 = some false := by kernel_rfl
@[simp] theorem tk98 : tkind Try.prog 98 = 5 := by kernel_rfl
@[simp] theorem tb98 : tbytes Try.prog 98 = some true := by kernel_rfl
@[simp] theorem tz98 : zeroCells Try.prog 98 = some [AV.d D.nilfn] := by kernel_rfl
@[simp] theorem ts99 : tsize Try.prog 99 = some 1 := by kernel_rfl
@[simp] theorem ta99 : tagg Try.prog 99 = some false := by kernel_rfl
@[simp] theorem tk99 : tkind Try.prog 99 = 5 := by kernel_rfl
@[simp] theorem tb99 : tbytes Try.prog 99 = some true := by kernel_rfl
@[simp] theorem tz99 : zeroCells Try.prog 99 = some [AV.d D.nilfn] := by kernel_rfl
@[simp] theorem ts100 : tsize Try.prog 100 = some 1 := by kernel_rfl
@[simp] theorem ta100 : tagg Try.prog 100 = some false := by kernel_rfl
@[simp] theorem tk100 : tkind Try.prog 100 = 5 := by kernel_rfl
@[simp] theorem tb100 : tbytes Try.prog 100 = some true := by kernel_rfl
@[simp] theorem tz100 : zeroCells Try.prog 100 = some [AV.d D.nilfn] := by kernel_rfl
@[simp] theorem ts101 : tsize Try.prog 101 = some 1 := by kernel_rfl
@[simp] theorem ta101 : tagg Try.prog 101 = some false := by kernel_rfl
@[simp] theorem tk101 : tkind Try.prog 101 = 5 := by kernel_rfl
@[simp] theorem tb101 : tbytes Try.prog 101 = some true := by kernel_rfl
@[simp] theorem tz101 : zeroCells Try.prog 101 = some [AV.d D.nilfn] := by kernel_rfl
@[simp] theorem ts102 : tsize Try.prog 102 = some 1 := by kernel_rfl
@[simp] theorem ta102 : tagg Try.prog 102 = some false := by kernel_rfl
@[simp] theorem tk102 : tkind Try.prog 102 = 5 := by kernel_rfl
@[simp] theorem tb102 : tbytes Try.prog 102 = some true := by kernel_rfl
@[simp] theorem tz102 : zeroCells Try.prog 102 = some [AV.d D.nilfn] := by kernel_rfl
@[simp] theorem ts103 : tsize Try.prog 103 = some 1 := by kernel_rfl
@[simp] theorem ta103 : tagg Try.prog 103 = some false := by kernel_rfl
@[simp] theorem tk103 : tkind Try.prog 103 = 5 := by kernel_rfl
@[simp] theorem tb103 : tbytes Try.prog 103 = some true := by kernel_rfl
@[simp] theorem tz103 : zeroCells Try.prog 103 = some [AV.d D.nilfn] := by kernel_rfl
@[simp] theorem ts104 : tsize Try.prog 104 = some 1 := by kernel_rfl
@[simp] theorem ta104 : tagg Try.prog 104 = some false := by kernel_rfl
@[simp] theorem tk104 : tkind Try.prog 104 = 5 := by kernel_rfl
@[simp] theorem tb104 : tbytes Try.prog 104 = some true := by kernel_rfl
@[simp] theorem tz104 : zeroCells Try.prog 104 = some [AV.d D.nilfn] := by kernel_rfl
@[simp] theorem ts105 : tsize Try.prog 105 = some 1 := by kernel_rfl
@[simp] theorem ta105 : tagg Try.prog 105 = some false := by kernel_rfl
@[simp] theorem tk105 : tkind Try.prog 105 = 5 := by kernel_rfl
@[simp] theorem tb105 : tbytes Try.prog 105 = some true := by kernel_rfl
@[simp] theorem tz105 : zeroCells Try.prog 105 = some [AV.d D.nilfn] := by kernel_rfl
@[simp] theorem ts106 : tsize Try.prog 106 = some 1 := by kernel_rfl
@[simp] theorem ta106 : tagg Try.prog 106 = some false := by kernel_rfl
@[simp] theorem tk106 : tkind Try.prog 106 = 5 := by kernel_rfl
@[simp] theorem tb106 : tbytes Try.prog 106 = some true := by kernel_rfl
@[simp] theorem tz106 : zeroCells Try.prog 106 = some [AV.d D.nilfn] := by kernel_rfl
@[simp] theorem ts107 : tsize Try.prog 107 = some 1 := by kernel_rfl
@[simp] theorem ta107 : tagg Try.prog 107 = some false := by kernel_rfl
@[simp] theorem tk107 : tkind Try.prog 107 = 5 := by kernel_rfl
@[simp] theorem tb107 : tbytes Try.prog 107 = some true := by kernel_rfl
@[simp] theorem tz107 : zeroCells Try.prog 107 = some [AV.d D.nilfn] := by kernel_rfl
@[simp] theorem ts108 : tsize Try.prog 108 = some 1 := by kernel_rfl
@[simp] theorem ta108 : tagg Try.prog 108 = some false := by kernel_rfl
@[simp] theorem te108 : telem Try.prog 108 = some 110 := by kernel_rfl
@[simp] theorem tk108 : tkind Try.prog 108 = 3 := by kernel_rfl
@[simp] theorem tb108 : tbytes Try.prog 108 = some true := by kernel_rfl
@[simp] theorem tz108 : zeroCells Try.prog 108 = some [AV.d (D.sl [] 0 true (some true))] := by kernel_rfl
@[simp] theorem ts109 : tsize Try.prog 109 = some 2 := by kernel_rfl
@[simp] theorem ta109 : tagg Try.prog 109 = some true := by kernel_rfl
@[simp] theorem tk109 : tkind Try.prog 109 = 0 := by kernel_rfl
@[simp] theorem tp109 : tplaces Try.prog 109 = some [(0, 1), (1, 1)] := by kernel_rfl
@[simp] theorem tb109 : tbytes Try.prog 109 = some true := by kernel_rfl
@[simp] theorem tf109_0 : tfield Try.prog 109 0 = some (0, 3) := by kernel_rfl
@[simp] theorem tf109_1 : tfield Try.prog 109 1 = some (1, 3) := by kernel_rfl
@[simp] theorem tz109 : zeroCells Try.prog 109 = some [AV.d (D.int IntKind.i64 0), AV.d (D.int IntKind.i64 0)] := by kernel_rfl
@[simp] theorem ts110 : tsize Try.prog 110 = some 2 := by kernel_rfl
@[simp] theorem ta110 : tagg Try.prog 110 = some true := by kernel_rfl
@[simp] theorem tk110 : tkind Try.prog 110 = 0 := by kernel_rfl
@[simp] theorem tp110 : tplaces Try.prog 110 = some [(0, 1), (1, 1)] := by kernel_rfl
@[simp] theorem tb110 : tbytes Try.prog 110 = some true := by kernel_rfl
@[simp] theorem tf110_0 : tfield Try.prog 110 0 = some (0, 3) := by kernel_rfl
@[simp] theorem tf110_1 : tfield Try.prog 110 1 = some (1, 3) := by kernel_rfl
@[simp] theorem tz110 : zeroCells Try.prog 110 = some [AV.d (D.int IntKind.i64 0), AV.d (D.int IntKind.i64 0)] := by kernel_rfl
@[simp] theorem ts111 : tsize Try.prog 111 = some 1 := by kernel_rfl
@[simp] theorem ta111 : tagg Try.prog 111 = some false := by kernel_rfl
@[simp] theorem tk111 : tkind Try.prog 111 = 0 := by kernel_rfl
@[simp] theorem tb111 : tbytes Try.prog 111 = some true := by kernel_rfl
@[simp] theorem ts112 : tsize Try.prog 112 = some 1 := by kernel_rfl
@[simp] theorem ta112 : tagg Try.prog 112 = some false := by kernel_rfl
@[simp] theorem tk112 : tkind Try.prog 112 = 5 := by kernel_rfl
@[simp] theorem tb112 : tbytes Try.prog 112 = some true := by kernel_rfl
@[simp] theorem tz112 : zeroCells Try.prog 112 = some [AV.d D.nilfn] := by kernel_rfl
@[simp] theorem ts113 : tsize Try.prog 113 = some 1 := by kernel_rfl
@[simp] theorem ta113 : tagg Try.prog 113 = some false := by kernel_rfl
@[simp] theorem tk113 : tkind Try.prog 113 = 5 := by kernel_rfl
@[simp] theorem tb113 : tbytes Try.prog 113 = some true := by kernel_rfl
@[simp] theorem tz113 : zeroCells Try.prog 113 = some [AV.d D.nilfn] := by kernel_rfl
@[simp] theorem ts114 : tsize Try.prog 114 = some 1 := by kernel_rfl
@[simp] theorem ta114 : tagg Try.prog 114 = some false := by kernel_rfl
@[simp] theorem tk114 : tkind Try.prog 114 = 5 := by kernel_rfl
@[simp] theorem tb114 : tbytes Try.prog 114 = some true := by kernel_rfl
@[simp] theorem tz114 : zeroCells Try.prog 114 = some [AV.d D.nilfn] := by kernel_rfl
@[simp] theorem ts115 : tsize Try.prog 115 = some 1 := by kernel_rfl
@[simp] theorem ta115 : tagg Try.prog 115 = some false := by kernel_rfl
@[simp] theorem tk115 : tkind Try.prog 115 = 5 := by kernel_rfl
@[simp] theorem tb115 : tbytes Try.prog 115 = some true := by kernel_rfl
@[simp] theorem tz115 : zeroCells Try.prog 115 = some [AV.d D.nilfn] := by kernel_rfl
@[simp] theorem ts116 : tsize Try.prog 116 = some 1 := by kernel_rfl
@[simp] theorem ta116 : tagg Try.prog 116 = some false := by kernel_rfl
@[simp] theorem tk116 : tkind Try.prog 116 = 5 := by kernel_rfl
@[simp] theorem tb116 : tbytes Try.prog 116 = some true := by kernel_rfl
@[simp] theorem tz116 : zeroCells Try.prog 116 = some [AV.d D.nilfn] := by kernel_rfl
@[simp] theorem ts117 : tsize Try.prog 117 = some 1 := by kernel_rfl
@[simp] theorem ta117 : tagg Try.prog 117 = some false := by kernel_rfl
@[simp] theorem tk117 : tkind Try.prog 117 = 5 := by kernel_rfl
@[simp] theorem tb117 : tbytes Try.prog 117 = some true := by kernel_rfl
@[simp] theorem tz117 : zeroCells Try.prog 117 = some [AV.d D.nilfn] := by kernel_rfl
@[simp] theorem ts118 : tsize Try.prog 118 = some 1 := by kernel_rfl
@[simp] theorem ta118 : tagg Try.prog 118 = some false := by kernel_rfl
@[simp] theorem tk118 : tkind Try.prog 118 = 5 := by kernel_rfl
@[simp] theorem tb118 : tbytes Try.prog 118 = some true := by kernel_rfl
@[simp] theorem tz118 : zeroCells Try.prog 118 = some [AV.d D.nilfn] := by kernel_rfl
@[simp] theorem ts119 : tsize Try.prog 119 = some 1 := by kernel_rfl
@[simp] theorem ta119 : tagg Try.prog 119 = some false := by kernel_rfl
@[simp] theorem tk119 : tkind Try.prog 119 = 5 := by kernel_rfl
@[simp] theorem tb119 : tbytes Try.prog 119 = some true := by kernel_rfl
@[simp] theorem tz119 : zeroCells Try.prog 119 = some [AV.d D.nilfn] := by kernel_rfl
@[simp] theorem ts120 : tsize Try.prog 120 = some 1 := by kernel_rfl
@[simp] theorem ta120 : tagg Try.prog 120 = some false := by kernel_rfl
@[simp] theorem tk120 : tkind Try.prog 120 = 5 := by kernel_rfl
@[simp] theorem tb120 : tbytes Try.prog 120 = some true := by kernel_rfl
@[simp] theorem tz120 : zeroCells Try.prog 120 = some [AV.d D.nilfn] := by kernel_rfl
@[simp] theorem ts121 : tsize Try.prog 121 = some 1 := by kernel_rfl
@[simp] theorem ta121 : tagg Try.prog 121 = some false := by kernel_rfl
@[simp] theorem tk121 : tkind Try.prog 121 = 5 := by kernel_rfl
@[simp] theorem tb121 : tbytes Try.prog 121 = some true := by kernel_rfl
@[simp] theorem tz121 : zeroCells Try.prog 121 = some [AV.d D.nilfn] := by kernel_rfl
@[simp] theorem ts122 : tsize Try.prog 122 = some 1 := by kernel_rfl
@[simp] theorem ta122 : tagg Try.prog 122 = some false := by kernel_rfl
@[simp] theorem tk122 : tkind Try.prog 122 = 5 := by kernel_rfl
@[simp] theorem tb122 : tbytes Try.prog 122 = some true := by kernel_rfl
@[simp] theorem tz122 : zeroCells Try.prog 122 = some [AV.d D.nilfn] := by kernel_rfl
@[simp] theorem ts123 : tsize Try.prog 123 = some 1 := by kernel_rfl
@[simp] theorem ta123 : tagg Try.prog 123 = some false := by kernel_rfl
@[simp] theorem tk123 : tkind Try.prog 123 = 5 := by kernel_rfl
@[simp] theorem tb123 : tbytes Try.prog 123 = some true := by kernel_rfl
@[simp] theorem tz123 : zeroCells Try.prog 123 = some [AV.d D.nilfn] := by kernel_rfl
@[simp] theorem ts124 : tsize Try.prog 124 = some 1 := by kernel_rfl
@[simp] theorem ta124 : tagg Try.prog 124 = some false := by kernel_rfl
@[simp] theorem tk124 : tkind Try.prog 124 = 5 := by kernel_rfl
@[simp] theorem tb124 : tbytes Try.prog 124 = some true := by kernel_rfl
@[simp] theorem tz124 : zeroCells Try.prog 124 = some [AV.d D.nilfn] := by kernel_rfl
@[simp] theorem ts125 : tsize Try.prog 125 = some 1 := by kernel_rfl
@[simp] theorem ta125 : tagg Try.prog 125 = some false := by kernel_rfl
@[simp] theorem tk125 : tkind Try.prog 125 = 5 := by kernel_rfl
@[simp] theorem tb125 : tbytes Try.prog 125 = some true := by kernel_rfl
@[simp] theorem tz125 : zeroCells Try.prog 125 = some [AV.d D.nilfn] := by kernel_rfl
@[simp] theorem ts126 : tsize Try.prog 126 = some 1 := by kernel_rfl
@[simp] theorem ta126 : tagg Try.prog 126 = some false := by kernel_rfl
@[simp] theorem tk126 : tkind Try.prog 126 = 6 := by kernel_rfl
@[simp] theorem ti126 : tint Try.prog 126 = some IntKind.u64 := by kernel_rfl
@[simp] theorem tb126 : tbytes Try.prog 126 = some true := by kernel_rfl
@[simp] theorem tz126 : zeroCells Try.prog 126 = some [AV.d (D.int IntKind.u64 0)] := by kernel_rfl
@[simp] theorem ts127 : tsize Try.prog 127 = some 1 := by kernel_rfl
@[simp] theorem ta127 : tagg Try.prog 127 = some false := by kernel_rfl
@[simp] theorem tk127 : tkind Try.prog 127 = 5 := by kernel_rfl
@[simp] theorem tb127 : tbytes Try.prog 127 = some true := by kernel_rfl
@[simp] theorem tz127 : zeroCells Try.prog 127 = some [AV.d D.nilfn] := by kernel_rfl
@[simp] theorem ts128 : tsize Try.prog 128 = some 1 := by kernel_rfl
@[simp] theorem ta128 : tagg Try.prog 128 = some false := by kernel_rfl
@[simp] theorem tk128 : tkind Try.prog 128 = 5 := by kernel_rfl
@[simp] theorem tb128 : tbytes Try.prog 128 = some true := by kernel_rfl
@[simp] theorem tz128 : zeroCells Try.prog 128 = some [AV.d D.nilfn] := by kernel_rfl
@[simp] theorem ts129 : tsize Try.prog 129 = some 1 := by kernel_rfl
@[simp] theorem ta129 : tagg Try.prog 129 = some false := by kernel_rfl
@[simp] theorem tk129 : tkind Try.prog 129 = 5 := by kernel_rfl
@[simp] theorem tb129 : tbytes Try.prog 129 = some true := by kernel_rfl
@[simp] theorem tz129 : zeroCells Try.prog 129 = some [AV.d D.nilfn] := by kernel_rfl
@[simp] theorem ts130 : tsize Try.prog 130 = some 1 := by kernel_rfl
@[simp] theorem ta130 : tagg Try.prog 130 = some false := by kernel_rfl
@[simp] theorem tk130 : tkind Try.prog 130 = 5 := by kernel_rfl
@[simp] theorem tb130 : tbytes Try.prog 130 = some true := by kernel_rfl
@[simp] theorem tz130 : zeroCells Try.prog 130 = some [AV.d D.nilfn] := by kernel_rfl
@[simp] theorem ts131 : tsize Try.prog 131 = some 1 := by kernel_rfl
@[simp] theorem ta131 : tagg Try.prog 131 = some false := by kernel_rfl
@[simp] theorem tk131 : tkind Try.prog 131 = 5 := by kernel_rfl
@[simp] theorem tb131 : tbytes Try.prog 131 = some true := by kernel_rfl
@[simp] theorem tz131 : zeroCells Try.prog 131 = some [AV.d D.nilfn] := by kernel_rfl
@[simp] theorem ts132 : tsize Try.prog 132 = some 1 := by kernel_rfl
@[simp] theorem ta132 : tagg Try.prog 132 = some false := by kernel_rfl
@[simp] theorem tk132 : tkind Try.prog 132 = 6 := by kernel_rfl
@[simp] theorem ti132 : tint Try.prog 132 = some IntKind.i64 := by kernel_rfl
@[simp] theorem tb132 : tbytes Try.prog 132 = some true := by kernel_rfl
@[simp] theorem tz132 : zeroCells Try.prog 132 = some [AV.d (D.int IntKind.i64 0)] := by kernel_rfl
@[simp] theorem ts133 : tsize Try.prog 133 = some 1 := by kernel_rfl
@[simp] theorem ta133 : tagg Try.prog 133 = some false := by kernel_rfl
@[simp] theorem tk133 : tkind Try.prog 133 = 0 := by kernel_rfl
@[simp] theorem tb133 : tbytes Try.prog 133 = some true := by kernel_rfl
@[simp] theorem ts134 : tsize Try.prog 134 = some 1 := by kernel_rfl
@[simp] theorem ta134 : tagg Try.prog 134 = some false := by kernel_rfl
@[simp] theorem tk134 : tkind Try.prog 134 = 5 := by kernel_rfl
@[simp] theorem tb134 : tbytes Try.prog 134 = some true := by kernel_rfl
@[simp] theorem tz134 : zeroCells Try.prog 134 = some [AV.d D.nilfn] := by kernel_rfl
@[simp] theorem ts135 : tsize Try.prog 135 = some 1 := by kernel_rfl
@[simp] theorem ta135 : tagg Try.prog 135 = some false := by kernel_rfl
@[simp] theorem tk135 : tkind Try.prog 135 = 5 := by kernel_rfl
@[simp] theorem tb135 : tbytes Try.prog 135 = some true := by kernel_rfl
@[simp] theorem tz135 : zeroCells Try.prog 135 = some [AV.d D.nilfn] := by kernel_rfl
@[simp] theorem ts136 : tsize Try.prog 136 = some 1 := by kernel_rfl
@[simp] theorem ta136 : tagg Try.prog 136 = some false := by kernel_rfl
@[simp] theorem tk136 : tkind Try.prog 136 = 5 := by kernel_rfl
@[simp] theorem tb136 : tbytes Try.prog 136 = some true := by kernel_rfl
@[simp] theorem tz136 : zeroCells Try.prog 136 = some [AV.d D.nilfn] := by kernel_rfl
@[simp] theorem ts137 : tsize Try.prog 137 = some 1 := by kernel_rfl
@[simp] theorem ta137 : tagg Try.prog 137 = some false := by kernel_rfl
@[simp] theorem tk137 : tkind Try.prog 137 = 5 := by kernel_rfl
@[simp] theorem tb137 : tbytes Try.prog 137 = some true := by kernel_rfl
@[simp] theorem tz137 : zeroCells Try.prog 137 = some [AV.d D.nilfn] := by kernel_rfl
@[simp] theorem ts138 : tsize Try.prog 138 = some 1 := by kernel_rfl
@[simp] theorem ta138 : tagg Try.prog 138 = some false := by kernel_rfl
@[simp] theorem tk138 : tkind Try.prog 138 = 5 := by kernel_rfl
@[simp] theorem tb138 : tbytes Try.prog 138 = some true := by kernel_rfl
@[simp] theorem tz138 : zeroCells Try.prog 138 = some [AV.d D.nilfn] := by kernel_rfl
@[simp] theorem ts139 : tsize Try.prog 139 = some 1 := by kernel_rfl
@[simp] theorem ta139 : tagg Try.prog 139 = some false := by kernel_rfl
@[simp] theorem tk139 : tkind Try.prog 139 = 5 := by kernel_rfl
@[simp] theorem tb139 : tbytes Try.prog 139 = some true := by kernel_rfl
@[simp] theorem tz139 : zeroCells Try.prog 139 = some [AV.d D.nilfn] := by kernel_rfl
@[simp] theorem ts140 : tsize Try.prog 140 = some 1 := by kernel_rfl
@[simp] theorem ta140 : tagg Try.prog 140 = some false := by kernel_rfl
@[simp] theorem tk140 : tkind Try.prog 140 = 6 := by kernel_rfl
@[simp] theorem ti140 : tint Try.prog 140 = some IntKind.u32 := by kernel_rfl
@[simp] theorem tb140 : tbytes Try.prog 140 = some true := by kernel_rfl
@[simp] theorem tz140 : zeroCells Try.prog 140 = some [AV.d (D.int IntKind.u32 0)] := by kernel_rfl
@[simp] theorem ts141 : tsize Try.prog 141 = some 1 := by kernel_rfl
@[simp] theorem ta141 : tagg Try.prog 141 = some false := by kernel_rfl
@[simp] theorem tk141 : tkind Try.prog 141 = 5 := by kernel_rfl
@[simp] theorem tb141 : tbytes Try.prog 141 = some true := by kernel_rfl
@[simp] theorem tz141 : zeroCells Try.prog 141 = some [AV.d D.nilfn] := by kernel_rfl
@[simp] theorem ts142 : tsize Try.prog 142 = some 1 := by kernel_rfl
@[simp] theorem ta142 : tagg Try.prog 142 = some false := by kernel_rfl
@[simp] theorem tk142 : tkind Try.prog 142 = 6 := by kernel_rfl
@[simp] theorem ti142 : tint Try.prog 142 = some IntKind.u64 := by kernel_rfl
@[simp] theorem tb142 : tbytes Try.prog 142 = some true := by kernel_rfl
@[simp] theorem tz142 : zeroCells Try.prog 142 = some [AV.d (D.int IntKind.u64 0)] := by kernel_rfl
@[simp] theorem ts143 : tsize Try.prog 143 = some 1 := by kernel_rfl
@[simp] theorem ta143 : tagg Try.prog 143 = some false := by kernel_rfl
@[simp] theorem tk143 : tkind Try.prog 143 = 6 := by kernel_rfl
@[simp] theorem ti143 : tint Try.prog 143 = some IntKind.u64 := by kernel_rfl
@[simp] theorem tb143 : tbytes Try.prog 143 = some true := by kernel_rfl
@[simp] theorem tz143 : zeroCells Try.prog 143 = some [AV.d (D.int IntKind.u64 0)] := by kernel_rfl
@[simp] theorem ts144 : tsize Try.prog 144 = some 1 := by kernel_rfl
@[simp] theorem ta144 : tagg Try.prog 144 = some false := by kernel_rfl
@[simp] theorem tk144 : tkind Try.prog 144 = 5 := by kernel_rfl
@[simp] theorem tb144 : tbytes Try.prog 144 = some true := by kernel_rfl
@[simp] theorem tz144 : zeroCells Try.prog 144 = some [AV.d D.nilfn] := by kernel_rfl
@[simp] theorem ts145 : tsize Try.prog 145 = some 1 := by kernel_rfl
@[simp] theorem ta145 : tagg Try.prog 145 = some false := by kernel_rfl
@[simp] theorem tk145 : tkind Try.prog 145 = 5 := by kernel_rfl
@[simp] theorem tb145 : tbytes Try.prog 145 = some true := by kernel_rfl
@[simp] theorem tz145 : zeroCells Try.prog 145 = some [AV.d D.nilfn] := by kernel_rfl
@[simp] theorem ts146 : tsize Try.prog 146 = some 1 := by kernel_rfl
@[simp] theorem ta146 : tagg Try.prog 146 = some false := by kernel_rfl
@[simp] theorem tk146 : tkind Try.prog 146 = 5 := by kernel_rfl
@[simp] theorem tb146 : tbytes Try.prog 146 = some true := by kernel_rfl
@[simp] theorem tz146 : zeroCells Try.prog 146 = some [AV.d D.nilfn] := by kernel_rfl
@[simp] theorem ts147 : tsize Try.prog 147 = some 1 := by kernel_rfl
@[simp] theorem ta147 : tagg Try.prog 147 = some false := by kernel_rfl
@[simp] theorem tk147 : tkind Try.prog 147 = 2 := by kernel_rfl
@[simp] theorem tb147 : tbytes Try.prog 147 = some true := by kernel_rfl
@[simp] theorem tz147 : zeroCells Try.prog 147 = some [AV.d D.nilptr] := by kernel_rfl
@[simp] theorem ts148 : tsize Try.prog 148 = some 1 := by kernel_rfl
@[simp] theorem ta148 : tagg Try.prog 148 = some false := by kernel_rfl
@[simp] theorem tk148 : tkind Try.prog 148 = 5 := by kernel_rfl
@[simp] theorem tb148 : tbytes Try.prog 148 = some true := by kernel_rfl
@[simp] theorem tz148 : zeroCells Try.prog 148 = some [AV.d D.nilfn] := by kernel_rfl
@[simp] theorem ts149 : tsize Try.prog 149 = some 1 := by kernel_rfl
@[simp] theorem ta149 : tagg Try.prog 149 = some false := by kernel_rfl
@[simp] theorem tk149 : tkind Try.prog 149 = 2 := by kernel_rfl
@[simp] theorem tb149 : tbytes Try.prog 149 = some true := by kernel_rfl
@[simp] theorem tz149 : zeroCells Try.prog 149 = some [AV.d D.nilptr] := by kernel_rfl
@[simp] theorem ts150 : tsize Try.prog 150 = some 1 := by kernel_rfl
@[simp] theorem ta150 : tagg Try.prog 150 = some false := by kernel_rfl
@[simp] theorem tk150 : tkind Try.prog 150 = 5 := by kernel_rfl
@[simp] theorem tb150 : tbytes Try.prog 150 = some true := by kernel_rfl
@[simp] theorem tz150 : zeroCells Try.prog 150 = some [AV.d D.nilfn] := by kernel_rfl
@[simp] theorem ts151 : tsize Try.prog 151 = some 1 := by kernel_rfl
@[simp] theorem ta151 : tagg Try.prog 151 = some false := by kernel_rfl
@[simp] theorem tk151 : tkind Try.prog 151 = 5 := by kernel_rfl
@[simp] theorem tb151 : tbytes Try.prog 151 = some true := by kernel_rfl
@[simp] theorem tz151 : zeroCells Try.prog 151 = some [AV.d D.nilfn] := by kernel_rfl
@[simp] theorem ts152 : tsize Try.prog 152 = some 4 := by kernel_rfl
@[simp] theorem ta152 : tagg Try.prog 152 = some true := by kernel_rfl
@[simp] theorem tk152 : tkind Try.prog 152 = 0 := by kernel_rfl
@[simp] theorem tp152 : tplaces Try.prog 152 = some [(0, 1), (1, 1), (2, 1), (3, 1)] := by kernel_rfl
@[simp] theorem tb152 : tbytes Try.prog 152 = some true := by kernel_rfl
@[simp] theorem tf152_0 : tfield Try.prog 152 0 = some (0, 17) := by kernel_rfl
@[simp] theorem tf152_1 : tfield Try.prog 152 1 = some (1, 17) := by kernel_rfl
@[simp] theorem tf152_2 : tfield Try.prog 152 2 = some (2, 17) := by kernel_rfl
@[simp] theorem tf152_3 : tfield Try.prog 152 3 = some (3, 9) := by kernel_rfl
@[simp] theorem tz152 : zeroCells Try.prog 152 = some [AV.d D.nilptr, AV.d D.nilptr, AV.d D.nilptr, AV.d (D.str { data := [].toArray })] := by kernel_rfl
@[simp] theorem ts153 : tsize Try.prog 153 = some 4 := by kernel_rfl
@[simp] theorem ta153 : tagg Try.prog 153 = some true := by kernel_rfl
@[simp] theorem tk153 : tkind Try.prog 153 = 0 := by kernel_rfl
@[simp] theorem tp153 : tplaces Try.prog 153 = some [(0, 1), (1, 1), (2, 1), (3, 1)] := by kernel_rfl
@[simp] theorem tb153 : tbytes Try.prog 153 = some true := by kernel_rfl
@[simp] theorem tf153_0 : tfield Try.prog 153 0 = some (0, 17) := by kernel_rfl
@[simp] theorem tf153_1 : tfield Try.prog 153 1 = some (1, 17) := by kernel_rfl
@[simp] theorem tf153_2 : tfield Try.prog 153 2 = some (2, 17) := by kernel_rfl
@[simp] theorem tf153_3 : tfield Try.prog 153 3 = some (3, 9) := by kernel_rfl
@[simp] theorem tz153 : zeroCells Try.prog 153 = some [AV.d D.nilptr, AV.d D.nilptr, AV.d D.nilptr, AV.d (D.str { data := [].toArray })] := by kernel_rfl
@[simp] theorem ts154 : tsize Try.prog 154 = some 0 := by kernel_rfl
@[simp] theorem ta154 : tagg Try.prog 154 = some true := by kernel_rfl
@[simp] theorem tk154 : tkind Try.prog 154 = 0 := by kernel_rfl
@[simp] theorem tb154 : tbytes Try.prog 154 = some true := by kernel_rfl
@[simp] theorem tz154 : zeroCells Try.prog 154 = some [] := by kernel_rfl
@[simp] theorem ts155 : tsize Try.prog 155 = some 0 := by kernel_rfl
@[simp] theorem ta155 : tagg Try.prog 155 = some true := by kernel_rfl
@[simp] theorem tk155 : tkind Try.prog 155 = 0 := by kernel_rfl
@[simp] theorem tp155 : tplaces Try.prog 155 = some [(0, 0)] := by kernel_rfl
@[simp] theorem tb155 : tbytes Try.prog 155 = some true := by kernel_rfl
@[simp] theorem tf155_0 : tfield Try.prog 155 0 = some (0, 154) := by kernel_rfl
@[simp] theorem tz155 : zeroCells Try.prog 155 = some [] := by kernel_rfl
@[simp] theorem ts156 : tsize Try.prog 156 = some 0 := by kernel_rfl
@[simp] theorem ta156 : tagg Try.prog 156 = some true := by kernel_rfl
@[simp] theorem tk156 : tkind Try.prog 156 = 0 := by kernel_rfl
@[simp] theorem tp156 : tplaces Try.prog 156 = some [(0, 0)] := by kernel_rfl
@[simp] theorem tb156 : tbytes Try.prog 156 = some true := by kernel_rfl
@[simp] theorem tf156_0 : tfield Try.prog 156 0 = some (0, 154) := by kernel_rfl
@[simp] theorem tz156 : zeroCells Try.prog 156 = some [] := by kernel_rfl
@[simp] theorem ts157 : tsize Try.prog 157 = some 1 := by kernel_rfl
@[simp] theorem ta157 : tagg Try.prog 157 = some false := by kernel_rfl
@[simp] theorem tk157 : tkind Try.prog 157 = 6 := by kernel_rfl
@[simp] theorem ti157 : tint Try.prog 157 = some IntKind.u8 := by kernel_rfl
@[simp] theorem tb157 : tbytes Try.prog 157 = some true := by kernel_rfl
@[simp] theorem tz157 : zeroCells Try.prog 157 = some [AV.d (D.int IntKind.u8 0)] := by kernel_rfl
@[simp] theorem ts158 : tsize Try.prog 158 = some 1 := by kernel_rfl
@[simp] theorem ta158 : tagg Try.prog 158 = some false := by kernel_rfl
@[simp] theorem tk158 : tkind Try.prog 158 = 6 := by kernel_rfl
@[simp] theorem ti158 : tint Try.prog 158 = some IntKind.u8 := by kernel_rfl
@[simp] theorem tb158 : tbytes Try.prog 158 = some true := by kernel_rfl
@[simp] theorem tz158 : zeroCells Try.prog 158 = some [AV.d (D.int IntKind.u8 0)] := by kernel_rfl
@[simp] theorem ts159 : tsize Try.prog 159 = some 1 := by kernel_rfl
@[simp] theorem ta159 : tagg Try.prog 159 = some false := by kernel_rfl
@[simp] theorem tk159 : tkind Try.prog 159 = 5 := by kernel_rfl
@[simp] theorem tb159 : tbytes Try.prog 159 = some true := by kernel_rfl
@[simp] theorem tz159 : zeroCells Try.prog 159 = some [AV.d D.nilfn] := by kernel_rfl
@[simp] theorem ts160 : tsize Try.prog 160 = some 1 := by kernel_rfl
@[simp] theorem ta160 : tagg Try.prog 160 = some false := by kernel_rfl
@[simp] theorem tk160 : tkind Try.prog 160 = 2 := by kernel_rfl
@[simp] theorem tb160 : tbytes Try.prog 160 = some true := by kernel_rfl
@[simp] theorem tz160 : zeroCells Try.prog 160 = some [AV.d D.nilptr] := by kernel_rfl
@[simp] theorem ts161 : tsize Try.prog 161 = some 1 := by kernel_rfl
@[simp] theorem ta161 : tagg Try.prog 161 = some false := by kernel_rfl
@[simp] theorem tk161 : tkind Try.prog 161 = 6 := by kernel_rfl
@[simp] theorem ti161 : tint Try.prog 161 = some IntKind.i32 := by kernel_rfl
@[simp] theorem tb161 : tbytes Try.prog 161 = some true := by kernel_rfl
@[simp] theorem tz161 : zeroCells Try.prog 161 = some [AV.d (D.int IntKind.i32 0)] := by kernel_rfl
@[simp] theorem ts162 : tsize Try.prog 162 = some 1 := by kernel_rfl
@[simp] theorem ta162 : tagg Try.prog 162 = some false := by kernel_rfl
@[simp] theorem tk162 : tkind Try.prog 162 = 6 := by kernel_rfl
@[simp] theorem ti162 : tint Try.prog 162 = some IntKind.i32 := by kernel_rfl
@[simp] theorem tb162 : tbytes Try.prog 162 = some true := by kernel_rfl
@[simp] theorem tz162 : zeroCells Try.prog 162 = some [AV.d (D.int IntKind.i32 0)] := by kernel_rfl
@[simp] theorem ts163 : tsize Try.prog 163 = some 11 := by kernel_rfl
@[simp] theorem ta163 : tagg Try.prog 163 = some true := by kernel_rfl
@[simp] theorem tk163 : tkind Try.prog 163 = 0 := by kernel_rfl
@[simp] theorem tp163 : tplaces Try.prog 163 = some [(0, 1), (1, 1), (2, 1), (3, 1), (4, 1), (5, 1), (6, 1), (7, 1), (8, 1), (9, 1), (10, 1)] := by kernel_rfl
@[simp] theorem tb163 : tbytes Try.prog 163 = some true := by kernel_rfl
@[simp] theorem tf163_0 : tfield Try.prog 163 0 = some (0, 12) := by kernel_rfl
@[simp] theorem tf163_1 : tfield Try.prog 163 1 = some (1, 12) := by kernel_rfl
@[simp] theorem tf163_2 : tfield Try.prog 163 2 = some (2, 140) := by kernel_rfl
@[simp] theorem tf163_3 : tfield Try.prog 163 3 = some (3, 157) := by kernel_rfl
@[simp] theorem tf163_4 : tfield Try.prog 163 4 = some (4, 5) := by kernel_rfl
@[simp] theorem tf163_5 : tfield Try.prog 163 5 = some (5, 5) := by kernel_rfl
@[simp] theorem tf163_6 : tfield Try.prog 163 6 = some (6, 158) := by kernel_rfl
@[simp] theorem tf163_7 : tfield Try.prog 163 7 = some (7, 159) := by kernel_rfl
@[simp] theorem tf163_8 : tfield Try.prog 163 8 = some (8, 160) := by kernel_rfl
@[simp] theorem tf163_9 : tfield Try.prog 163 9 = some (9, 161) := by kernel_rfl
@[simp] theorem tf163_10 : tfield Try.prog 163 10 = some (10, 162) := by kernel_rfl
@[simp] theorem tz163 : zeroCells Try.prog 163 = some [AV.d (D.int IntKind.u64 0), AV.d (D.int IntKind.u64 0), AV.d (D.int IntKind.u32 0), AV.d (D.int IntKind.u8 0), AV.d (D.int IntKind.u8 0), AV.d (D.int IntKind.u8 0), AV.d (D.int IntKind.u8 0), AV.d D.nilfn, AV.d D.nilptr, AV.d (D.int IntKind.i32 0), AV.d (D.int IntKind.i32 0)] := by kernel_rfl
@[simp] theorem ts164 : tsize Try.prog 164 = some 11 := by kernel_rfl
@[simp] theorem ta164 : tagg Try.prog 164 = some true := by kernel_rfl
@[simp] theorem tk164 : tkind Try.prog 164 = 0 := by kernel_rfl
@[simp] theorem tp164 : tplaces Try.prog 164 = some [(0, 1), (1, 1), (2, 1), (3, 1), (4, 1), (5, 1), (6, 1), (7, 1), (8, 1), (9, 1), (10, 1)] := by kernel_rfl
@[simp] theorem tb164 : tbytes Try.prog 164 = some true := by kernel_rfl
@[simp] theorem tf164_0 : tfield Try.prog 164 0 = some (0, 12) := by kernel_rfl
@[simp] theorem tf164_1 : tfield Try.prog 164 1 = some (1, 12) := by kernel_rfl
@[simp] theorem tf164_2 : tfield Try.prog 164 2 = some (2, 140) := by kernel_rfl
@[simp] theorem tf164_3 : tfield Try.prog 164 3 = some (3, 157) := by kernel_rfl
@[simp] theorem tf164_4 : tfield Try.prog 164 4 = some (4, 5) := by kernel_rfl
@[simp] theorem tf164_5 : tfield Try.prog 164 5 = some (5, 5) := by kernel_rfl
@[simp] theorem tf164_6 : tfield Try.prog 164 6 = some (6, 158) := by kernel_rfl
@[simp] theorem tf164_7 : tfield Try.prog 164 7 = some (7, 159) := by kernel_rfl
@[simp] theorem tf164_8 : tfield Try.prog 164 8 = some (8, 160) := by kernel_rfl
@[simp] theorem tf164_9 : tfield Try.prog 164 9 = some (9, 161) := by kernel_rfl
@[simp] theorem tf164_10 : tfield Try.prog 164 10 = some (10, 162) := by kernel_rfl
@[simp] theorem tz164 : zeroCells Try.prog 164 = some [AV.d (D.int IntKind.u64 0), AV.d (D.int IntKind.u64 0), AV.d (D.int IntKind.u32 0), AV.d (D.int IntKind.u8 0), AV.d (D.int IntKind.u8 0), AV.d (D.int IntKind.u8 0), AV.d (D.int IntKind.u8 0), AV.d D.nilfn, AV.d D.nilptr, AV.d (D.int IntKind.i32 0), AV.d (D.int IntKind.i32 0)] := by kernel_rfl
@[simp] theorem ts165 : tsize Try.prog 165 = some 1 := by kernel_rfl
@[simp] theorem ta165 : tagg Try.prog 165 = some false := by kernel_rfl
@[simp] theorem tk165 : tkind Try.prog 165 = 0 := by kernel_rfl
@[simp] theorem tb165 : tbytes Try.prog 165 = some true := by kernel_rfl
@[simp] theorem tz165 : zeroCells Try.prog 165 = some [AV.d D.nilptr] := by kernel_rfl

end Go.Proofs.Ytiafeijkifpfaaa.Am
